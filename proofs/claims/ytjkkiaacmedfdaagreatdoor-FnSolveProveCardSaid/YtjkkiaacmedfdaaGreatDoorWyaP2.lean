import Derived.Test.YtjkkiaacmedfdaaGreatDoorWyaP1
import Derived.Laws.Strings2
import Derived.Laws.Concat
import Derived.Laws.StructEq
import Derived.Laws.Shifts
import Derived.Laws.Build
import Derived.RangeFuncRecord
import Derived.WalkKit
import Derived.ProofKit
import Derived.OpenShut
import Derived.ShutString
import Derived.ChangeOld
import Derived.JoinedOf
/- A part of the proof. -/
set_option linter.all false
set_option maxRecDepth 9999
set_option maxHeartbeats 2000000
noncomputable section
namespace Go.Vc
open Go Go.MapKept
section
def MapF (d:TypeDesc) (w:World) (b:Nat) (f:List (Value×Value)):Prop:=
 ∃es clock,w.heap[b]?=some (.map es clock)/\Stamped es clock/\(∀x∈es.toList,IsKey d x.key)/\es.toList.map (λe=>(e.key,e.val))=f
def kI0 (t:TypeId) (d:TypeDesc) (e:TypeId):Prop:= ∃kt,P.underlying t=some (.map kt e)/\P.underlying kt=some d
section
variable {t e:TypeId} {d:TypeDesc} {w w':World} {K:oK} {b:Nat} {f:List (Value×Value)} {S:Nat->Prop}
theorem MapF.lt (h:MapF d w b f):b<w.heap.size:=by
 obtain⟨es,cl,a,_⟩:=h;exact(gJ.1 a).1
theorem MapF.same (h:MapF d w b f) (hw:Same S w w') (hs: ¬S b):MapF d w' b f:=by
 have a:=h.lt;obtain⟨es,cl,c,r⟩:=h;exact⟨es,cl,(hw.block b a hs).trans c,r⟩
theorem MapF.ext (h:MapF d w b f) (hw:Ext w w'):MapF d w' b f:=h.same hw id
theorem MapF.nodup (h:MapF d w b f):(f.map (·.1)).Nodup:=by
 obtain⟨es,cl,e,a,c,rfl⟩:=h;have:=a.2.2;rw[GZ];exact this
theorem qD0 {r:Option Value} {k:IntKind} {n:Nat} (c:kI0 t d e) (g:r=none\/r=some (.int k n)) (a:∀b w',b=w.heap.size->MapF d w' b []->Ext w w'->w'.heap.size=w.heap.size+1->K (.map (some b)) w'):Yv0 t r w K:=by
 refine⟨.map (some w.heap.size),w.alloc (.map #[] 0),?_,a _ _ rfl ⟨#[],0,(heap_alloc w _).1,stamped_empty 0,by simp,rfl⟩ ⟨rfl,rfl,rfl,by simp,λk f _=>(heap_alloc w _).2 k f⟩ (by simp)⟩;obtain⟨kt,hm,h⟩:=c;rcases g with rfl|rfl
 .simp[Instr.makeMap,newObj,Sem.run]
 .simp only[Instr.makeMap,Sem.run_bind,xy hm,Result.andThen_ok];simp[asInt,asIntOf,newObj,Sem.run,Result.andThen]
theorem Wl (c:kI0 t d e) (a:∀b w',b=w.heap.size->MapF d w' b []->Ext w w'->w'.heap.size=w.heap.size+1->K (.map (some b)) w'):Yv0 t none w K:=qD0 (k:= .i64) (n:=0) c (.inl rfl) a
theorem zl0 {k x:Value} (r:kI0 t d e) (h:MapF d w b f) (l:IsKey d k) (s:∀v,(k,v)∉f)
  (q:∀w',MapF d w' b (f++[(k,x)])->Same (· =b) w w'->w'.heap.size=w.heap.size->K undef w'):zm0 t (.map (some b)) k x w K:=by
 obtain⟨kt,hm,o⟩:=r;obtain⟨es,cl,g,m,c,rfl⟩:=h;rcases findNow_spec l es.toList 0 c with⟨n,i⟩|⟨j,e,n,i,p⟩
 .refine⟨(),{w with heap:=w.heap.setIfInBounds b (.map (es.push {key:=k,val:=x,born:=cl}) (cl+1))},?_,q _ ⟨_,_,(heap_set g).1,stamped_push m i,λy a=>?_,by simp⟩ (jI g) (by simp)⟩
  .simp[Instr.mapUpdate,run_underlying hm,MapKept.run_getObj_map g,run_checkKey o l,run_findKey o n,run_setObj_map _ g,Result.andThen]
  .rw[P3] at a;rcases gr.1 a with a|a
   .exact c y a
   .rw[gB.1 a];exact l
 .exact absurd (gy.2 ⟨e,pf i,by rw[p]⟩) (s e.val)
theorem XD {k v:Value} {ok:Bool} (F:kI0 t d e) (h:MapF d w b f) (E:IsKey d k) (l:(k,v)∈f):
  XE t (.map (some b)) k ok w K=K (if ok then .tuple #[v,.bool true] else v) w:=by
 obtain⟨kt,hm,D⟩:=F;have H:=h.nodup;obtain⟨es,cl,G,u,r,rfl⟩:=h;rcases findNow_spec E es.toList 0 r with⟨B,q⟩|⟨j,e,B,q,C⟩
 .obtain⟨x,y,e⟩:=gy.1 l;cases e;exact absurd rfl (q x y)
 .obtain⟨x,y,A⟩:=gy.1 l;have z:x=e:=by
   have s:e∈es.toList:=pf q;have I:=u.2.2;cases A;have n:es.toList.Pairwise λa b=>a.key≠b.key:=pn.1 I;by_cases m:x=e
   .exact m
   .obtain⟨i1,g,o⟩:=gx y;obtain⟨i2,i,p⟩:=gx s;rcases Nat.lt_trichotomy i1 i2 with c|heq|c
    .exact absurd (by rw[o,p];exact C.symm) (GH.1 n i1 i2 g i c)
    .subst heq;exact absurd (o.symm.trans p) m
    .exact absurd (by rw[o,p];exact C) (GH.1 n i2 i1 i g c)
  subst z;cases A;refine y7 ?_;cases ok<;>simp[Instr.lookup,run_underlying hm,MapKept.run_getObj_map G,run_checkKey D E,run_findKey D B,Result.andThen]
theorem zn0 {k z:Value} {ok:Bool} (n:kI0 t d e) (r:yn e z) (h:MapF d w b f) (l:IsKey d k) (p:∀v,(k,v)∉f):
  XE t (.map (some b)) k ok w K=K (if ok then .tuple #[z,.bool false] else z) w:=by
 obtain⟨kt,hm,i⟩:=n;obtain⟨es,cl,o,q,a,rfl⟩:=h;rcases findNow_spec l es.toList 0 a with⟨c,g⟩|⟨j,e,c,g,m⟩
 .refine y7 ?_;cases ok<;>simp[Instr.lookup,run_underlying hm,MapKept.run_getObj_map o,run_checkKey i l,run_findKey i c,Ym r,Result.andThen]
 .exact absurd (gy.2 ⟨e,pf g,by rw[m]⟩) (p e.val)
theorem zP {ty:TypeId} {v rcv:Value} {name:String} {args:Array Value} {g:Nat} (hm:∀w:World,(method (P.types.size+Made.depth) ty v name).run P w= .ok (g,rcv) w) (h:vcall g ⟨rcv::args.toList⟩ w K):vinvoke (.iface ty v) name args w K:=
 ⟨g,rcv,hm w,h⟩
def concB (t:TypeId):Bool:=match P.underlying t with|some (.interface _)=>false|some _=>true|none=>false
theorem kN (h:concB t=true) (v:Value):qk0 t v w K=K (.iface t v) w:=by
 refine y7 ?_;unfold concB at h;cases hu:P.underlying t with
 |none=>rw[hu] at h;cases h
 |some x=>
  rw[hu] at h;simp only[Instr.makeInterface,Sem.run_bind,xy hu,Result.andThen_ok];cases x<;>first|(cases h;done)|simp
theorem yp0 (a b:ByteArray):(a.toList==b.toList)=decide (a=b):=by
 rw[<-beq_toListBytes];by_cases h:a=b
 .subst h;rw[gm rfl];exact(MapKept.bytes_beq a a).2 rfl
 .rw[gj h,GX];exact λe=>h ((MapKept.bytes_beq a b).1 e)
@[push_cast] theorem Yg0 {c:Bool} (t:TypeId) (a b:ByteArray):qo .eql t c (.string a) (.string b) w K=K (.bool (decide (a=b))) w:=
 yo rfl (by rw[binOp_string_eql,yp0];rfl)
@[push_cast] theorem Yf0 {c:Bool} (t:TypeId) (a b:ByteArray):qo .neq t c (.string a) (.string b) w K=K (.bool (decide (a≠b))) w:=
 yo rfl (by rw[binOp_string_neq,yp0,decide_not];rfl)
theorem JU {c:Bool} {t:TypeId} {a b:ByteArray} (h:a.size+b.size<=9223372036854775807):qo .add t c (.string a) (.string b) w K=K (.string (a++b)) w:=
 yo rfl (by simp only[binOp_string_add];exact run_string_add_sum w a b h)
theorem Wo {t ty:TypeId} {s:ByteArray} (h:P.underlying t=some .string):vbi .len [t] ty [.string s] w K=K (nI s.size) w:=
 y7 (run_len_string (P:=P) (w:=w) t ty s h)
theorem vindex_str {t:TypeId} {s:ByteArray} {k:IntKind} {i:Int} (h:P.underlying t=some .string) (b:0<=i) (c:i<s.size):qF0 t (.string s) (.int k i) w K=K (.int .u8 ((s.data.getD i.toNat 0).toNat:Int)) w:=by
 refine y7 ?_;rw[run_index_string (P:=P) (w:=w) t s k i h];have a:i.toNat<s.size:=oM
 have d:i.toNat<s.data.size:=a;rw[dif_pos ⟨b,c⟩,Gc,GF d];rfl
theorem xI0 {t:TypeId} {s:ByteArray} {k a:IntKind} {i j:Int} (h:P.underlying t=some .string) (b:0<=i) (c:i<=j) (d:j<=s.size):xq t (.string s) (some (.int k i)) (some (.int a j)) none w K=K (.string (s.extract i.toNat j.toNat)) w:=by
 refine y7 ?_;rw[run_sliceAt_string w t _ _ _ _ h];exact run_slice_string (P:=P) w t s k a i j h b c d
theorem Wq {c:Bool} {t:TypeId} {k yk:IntKind} {x y:Int} (h:0<=y):qo .shl t c (.int k x) (.int yk y) w K=K (.int k (k.wrap (x*2^min y.toNat k.bits))) w:=
 yo rfl (by simp[binOp,shift_shl_any,h])
theorem xc0 {c:Bool} {t:TypeId} {k yk:IntKind} {x y:Int} (h:0<=y):qo .shr t c (.int k x) (.int yk y) w K=K (.int k (x/2^min y.toNat k.bits)) w:=
 yo rfl (by simp[binOp,shift_shr_any,h])
theorem wrapU {n:Nat} (h:n<18446744073709551616):IntKind.u64.wrap (n:Int)=n:=by
 simp only[IntKind.wrap,IntKind.bits,IntKind.signed,GY,Gg,if_false];omega
theorem wrapN {n:Nat} (h:n<9223372036854775808):IntKind.i64.wrap (n:Int)=n:=zl oM oM
theorem XO (n:Nat):BitVec.ofInt 64 (n:Int)=BitVec.ofNat 64 n:=by simp
theorem ZF {c:Bool} {t:TypeId} {a b:Nat} (d:a<18446744073709551616) (g:b<18446744073709551616):qo .and t c (.int .u64 a) (.int .u64 b) w K=K (.int .u64 (a&&&b:Nat)) w:=
 yo rfl (by
  have f:a&&&b<18446744073709551616:=PQ Nat.and_le_left d;have e:(BitVec.ofInt 64 (a:Int)&&&BitVec.ofInt 64 (b:Int)).toNat=a&&&b:=by
   rw[XO,XO,BitVec.toNat_and,BitVec.toNat_ofNat,BitVec.toNat_ofNat,Gv d,Gv g]
  simp only[binOp,z0e,not_true_eq_false,if_false,Op.intBits];show(pure (Value.int .u64 (IntKind.u64.wrap ((BitVec.ofInt 64 (a:Int)&&&BitVec.ofInt 64 (b:Int)).toNat:Int))):Sem Value).run P w=_;rw[e,wrapU f];rfl)
theorem xd0 {c:Bool} {t:TypeId} {a b:Nat} (d:a<18446744073709551616) (f:b<18446744073709551616):qo .or t c (.int .u64 a) (.int .u64 b) w K=K (.int .u64 (a|||b:Nat)) w:=
 yo rfl (by
  have g:a|||b<2^64:=P4 d f;have e:(BitVec.ofInt 64 (a:Int)|||BitVec.ofInt 64 (b:Int)).toNat=a|||b:=by
   rw[XO,XO,BitVec.toNat_or,BitVec.toNat_ofNat,BitVec.toNat_ofNat,Gv d,Gv f]
  simp only[binOp,z0e,not_true_eq_false,if_false,Op.intBits];show(pure (Value.int .u64 (IntKind.u64.wrap ((BitVec.ofInt 64 (a:Int)|||BitVec.ofInt 64 (b:Int)).toNat:Int))):Sem Value).run P w=_;rw[e,wrapU g];rfl)
theorem qL0 {c:Bool} {t:TypeId} {a b:Nat} (d:a<18446744073709551616) (f:b<18446744073709551616):qo .xor t c (.int .u64 a) (.int .u64 b) w K=K (.int .u64 (a^^^b:Nat)) w:=
 yo rfl (by
  have g:a^^^b<2^64:=PT d f;have e:(BitVec.ofInt 64 (a:Int)^^^BitVec.ofInt 64 (b:Int)).toNat=a^^^b:=by
   rw[XO,XO,BitVec.toNat_xor,BitVec.toNat_ofNat,BitVec.toNat_ofNat,Gv d,Gv f]
  simp only[binOp,z0e,not_true_eq_false,if_false,Op.intBits];show(pure (Value.int .u64 (IntKind.u64.wrap ((BitVec.ofInt 64 (a:Int)^^^BitVec.ofInt 64 (b:Int)).toNat:Int))):Sem Value).run P w=_;rw[e,wrapU g];rfl)
theorem vbin_orI {c:Bool} {t:TypeId} {a b:Nat} (f:a<9223372036854775808) (g:b<9223372036854775808):qo .or t c (nI a) (nI b) w K=K (nI (a|||b:Nat)) w:=
 yo rfl (by
  have d:a|||b<2^63:=P4 f g;have e:(BitVec.ofInt 64 (a:Int)|||BitVec.ofInt 64 (b:Int)).toNat=a|||b:=by
   rw[XO,XO,BitVec.toNat_or,BitVec.toNat_ofNat,BitVec.toNat_ofNat,Gv oM,Gv oM]
  simp only[binOp,z0e,not_true_eq_false,if_false,Op.intBits];show(pure (nI (IntKind.i64.wrap ((BitVec.ofInt 64 (a:Int)|||BitVec.ofInt 64 (b:Int)).toNat:Int))):Sem Value).run P w=_;rw[e,wrapN d];rfl)
theorem vun_xorU {a:Nat} (c:a<18446744073709551616):vun .xor (.int .u64 a) w K=K (.int .u64 (18446744073709551615-a:Nat)) w:=by
 refine y7 ?_;have e:(BitVec.ofInt 64 (18446744073709551615:Int)^^^BitVec.ofInt 64 (a:Int)).toNat=18446744073709551615-a:=by
  have b:BitVec.ofInt 64 (18446744073709551615:Int)=BitVec.allOnes 64:=dC;rw[b,XO,BitVec.allOnes_xor,BitVec.toNat_not,BitVec.toNat_ofNat,Gv c]
 show(pure (Value.int .u64 (IntKind.u64.wrap ((BitVec.ofInt 64 (18446744073709551615:Int)^^^BitVec.ofInt 64 (a:Int)).toNat:Int))):Sem Value).run P w=_;rw[e,wrapU oM];rfl
theorem vbin_shlU {c:Bool} {t:TypeId} {yk:IntKind} {x y:Nat} (a:y<64) (h:x*2^y<18446744073709551616):qo .shl t c (.int .u64 x) (.int yk y) w K=K (.int .u64 (x*2^y:Nat)) w:=by
 rw[Wq oM];have e:((x:Int)*2^min (y:Int).toNat IntKind.u64.bits)=((x*2^y:Nat):Int):=by
  have:min (y:Int).toNat IntKind.u64.bits=y:=by show min y 64=y;omega
  rw[this];simp
 rw[e,wrapU h]
theorem vbin_shlI {c:Bool} {t:TypeId} {yk:IntKind} {x y:Nat} (a:y<64) (h:x*2^y<9223372036854775808):qo .shl t c (nI x) (.int yk y) w K=K (nI (x*2^y:Nat)) w:=by
 rw[Wq oM];have e:((x:Int)*2^min (y:Int).toNat IntKind.i64.bits)=((x*2^y:Nat):Int):=by
  have:min (y:Int).toNat IntKind.i64.bits=y:=by show min y 64=y;omega
  rw[this];simp
 rw[e,wrapN h]
theorem vbin_shrU {c:Bool} {t:TypeId} {yk:IntKind} {x y:Nat} (a:y<64):qo .shr t c (.int .u64 x) (.int yk y) w K=K (.int .u64 (x/2^y:Nat)) w:=by
 rw[xc0 oM];have:min (y:Int).toNat IntKind.u64.bits=y:=by show min y 64=y;omega
 rw[this];simp
theorem zm {t:TypeId} {cs:List Value} (h:∀b w',b=w.heap.size->Ext w w'->w'.heap.size=w.heap.size+1->Blk w' b cs t->K (oP b 0) w'):zg0 t (.agg ⟨cs⟩) w K:=yg h
theorem zj {t:TypeId} {cs:List Value} (a:yn t (.agg ⟨cs⟩)) (h:∀b w',b=w.heap.size->Ext w w'->w'.heap.size=w.heap.size+1->Blk w' b cs t->K (oP b 0) w'):xV t w K:=xE a h
theorem zT {t:TypeId} {pl:List (Nat×Nat)} {ps:List (Nat×Value)} {us:List (List Value)} {zs cs:List Value} (h:strF t=some (pl,zs)) (c:ps.map (λp=>p.2.cells)=us.map List.toArray)
  (a:fillC pl zs (ps.map (·.1)) us=some cs):yj t ps w K=K (.agg ⟨cs⟩) w:=by
 refine y7 (run_build (P:=P) w t ⟨ps⟩ ⟨cs⟩ ?_);unfold strF at h;split at h
 .rename_i fs i hu hi;split at h
  .rename_i e z b d;simp only[Gx,GA] at h;obtain⟨rfl,rfl⟩:=h;simp only[Program.built,hu,hi,d,b];exact fill_eq c a
  .cases h
 .cases h
theorem Y7 (s:ByteArray):IsKey .string (.string s):=by simp[IsKey]
theorem inc64' {i:Nat} (h:i<9223372036854775807):IntKind.i64.wrap ((i:Int)+1)=((i+1:Nat):Int):=by rw[zl oM oM];omega
end
end
end Go.Vc
namespace Go.Vc
open Go Go.RowKit
section
def hasR:Code->Bool
 | .rangeFunc _ _ _ _=>true
 | .seq a b=>hasR a||hasR b
 | .block _ b=>hasR b
 |_=>false
def ovrAt:List Nat->Fr->List Value->Fr
 |[],f,_=>f
 |p::r,f,args=>ovrAt r (put f (some p) (args.headD undef)) args.tail
def jmp (x:Nat) (Nn Nr Nx:World->Prop) (pe:Option Code) (w:World):Prop:=
 match pe with
 |none=>Nn w
 |some .ret=>Nr w
 |some (.exit i)=>i=x/\Nx w
 |_=>False
def ZG0 (gv:Value) (n x:Nat) (w:World) (B:List Value->(World->(World->Prop)->Prop)->(World->Prop)->(World->Prop)->(World->Prop)->World->Prop) (Nn Nr Nx:Nat->World->Prop):Prop:=
 ∃gf lb,gv= .func (.func gf) #[] lb/\∀(l D:Nat) (w1:World) (RR:LoopState->Option Code->World->Prop),D=w.heap.size->l=w.heap.size+1->Ext w w1->w1.heap.size=w.heap.size+2->w1.heap[D]?=some (.deferred (some []))->
  (∀st pe w' w'',RR st pe w'->w''.heap[l]?=w'.heap[l]?->RR st pe w'')->RR .ready none w1->
  (∀(args:List Value) (w':World) (K:oK),args.length=n->RR .ready none w'->
   B args (λw1 k=>RR .ready none w1/\∀w2,Same (· =l) w1 w2->w2.heap.size=w1.heap.size->RR .busy none w2->k w2)
    (λw3=>RR .busy none w3/\∀w4,Same (· =l) w3 w4->w4.heap.size=w3.heap.size->RR .ready none w4->K (.bool true) w4)
    (λw3=>RR .busy none w3/\∀w4,Same (· =l) w3 w4->w4.heap.size=w3.heap.size->RR .done (some .ret) w4->K (.bool false) w4)
    (λw3=>RR .busy none w3/\∀w4,Same (· =l) w3 w4->w4.heap.size=w3.heap.size->RR .done (some (.exit x)) w4->K (.bool false) w4) w'->
   vcallv (.func (.yield l) #[] #[]) ⟨args⟩ w' K)->
  vcall gf ⟨.func (.yield l) #[] #[]::lb.toList⟩ w1 λ_ w3=> ∃st pe,st≠ .busy/\RR st pe w3/\∀w4,Same (· =l) w3 w4->w4.heap.size=w3.heap.size->jmp x (Nn D) (Nr D) (Nx D) pe w4
def rndK (x:Nat) (kn kr kx:World->Prop) (e:Exit) (_:Fr) (w:World):Prop:=
 match e with
 | .normal=>kn w
 | .ret=>kr w
 | .exit i=>cond (Nat.beq i x) (kx w) False
 |_=>False
def vx (T:Ann) (x:Nat):Code->(Exit->Fr->World->Prop)->(Nat->Exit->Fr->World->Prop)->Fr->World->Prop
 | .rangeFunc g ps asg body,_,K1,f,w=>
  ZG0 (ev f g) ps.size x w
   (λargs beg kn kr kx w'=>vc T asg (seqK (λf1 w1=>beg w1 λw2=>vc T body (rndK x kn kr kx) f1 w2) (λ_ _ _=>False)) (ovrAt ps.toList f args) w')
   (λD w'=>K1 D .normal f w') (λD w'=>K1 D .ret f w') (λD w'=>K1 D (.exit x) f w')
 | .seq a b,K0,K1,f,w=>
  match hasR a with
  |true=>vx T x a (seqK (λf' w'=>vc T b K0 f' w') K0) (λD=>seqK (λf' w'=>vc T b (K1 D) f' w') (K1 D)) f w
  |false=>vc T a (seqK (λf' w'=>vx T x b K0 K1 f' w') K0) f w
 | .block id c,K0,K1,f,w=>vx T x c (blkK id K0) (λD=>blkK id (K1 D)) f w
 |_,_,_,_,_=>False
def okX (n:Nat) (T:Ann):Code->Bool
 | .rangeFunc _ ps asg body=>okC n T asg&&(okC n T body&&ps.toList.all λp=>Nat.blt p n)
 | .seq a b=>cond (hasR a) (okX n T a&&okC n T b) (okC n T a&&okX n T b)
 | .block _ c=>okX n T c
 |_=>false
def YC0 (D:Nat):Deferred:={target:= .collected D,args:= #[]}
def Zi0 (n:Nat) (K0:Exit->Fr->World->Prop) (K1:Nat->Exit->Fr->World->Prop) (e:Exit) (a:Act) (w:World):Prop:=
 (∃f',Sim [] n f' a/\K0 e f' w)\/ ∃D f',Sim [YC0 D] n f' a/\K1 D e f' w
section
variable {T:Ann} {n x:Nat}
theorem ZO0:∀(ps:List Nat) (f:Fr) (args:List Value) (tmps:Array Value),args.length=ps.length->ps.all (λp=>Nat.blt p n)=true->tmps.size=n->(∀t,tmps.getD t undef=f t)->
  Sim [] n (ovrAt ps f args) {tmps:=(ps.zip args).foldl (λt p=>t.setIfInBounds p.1 p.2) tmps,defers:=[]}:=by
 intro ps;induction ps with
 |nil=>intro f args tmps _ _ hs a;exact⟨hs,rfl,a⟩
 |cons p r g=>
  intro f args tmps d b hs a;cases args with
  |nil=>simp at d
  |cons v args=>
   simp only[List.all_cons,gp] at b;have c:p<n:=(by simpa[pX] using b.1);refine g (put f (some p) v) args (tmps.setIfInBounds p v) (by simpa using d) b.2 (by simpa using hs) λt=>?_;by_cases e:t=p
   .subst e;rw[JI];simp[Gc,hs,c]
   .rw[Wb _ _ _ _ e,<-a t];simp only[Gc];rw[Pt (Ne.symm e)]
theorem Yl (w:World) (l:Nat) (o:Obj):Same (· =l) w (w.putObj l o):=
 ⟨rfl,rfl,rfl,by simp,λ_ _ a=>World.putObj_heap_other a⟩
theorem Yo {w:World} {l:Nat} {o:Obj} (h:w.heap[l]?=some o):l<w.heap.size:=(gJ.1 h).1
theorem range_sound (hm:P.follows .mixedOrders=true) {g:Operand} {ps:Array Tmp} {asg body:Code} {R:Exit->Fr->World->Prop} {S:Nat->Exit->Fr->World->Prop} {f:Fr} {a:Act} {w:World}
  (z:okX n T (.rangeFunc g ps asg body)=true) (h:vx T x (.rangeFunc g ps asg body) R S f w) (hs:Sim [] n f a):(Code.rangeFunc g ps asg body).wpIn (FR none) 0 P (Zi0 n R S) a w:=by
 simp only[okX,gp] at z;obtain⟨L,M,N⟩:=z;obtain⟨gf,lb,Z,H⟩:=h;refine wpIn_rangeFunc λfn _=>?_
 let d:LoopState->Option Code->Loop:=λst pe=>{state:=st,pending:=pe,fn,tmps:=a.tmps,params:=ps,assign:=asg,body,defers:=w.heap.size}
 obtain⟨w1,q⟩:∃w1,(w.alloc (.deferred (some []))).alloc (.loop (d .ready none))=w1:=⟨_,rfl⟩;have F:w1.heap[w.heap.size+1]?=some (.loop (d .ready none)):=by
  rw[<-q];have:=World.alloc_heap_new (w.alloc (.deferred (some []))) (.loop (d .ready none));rwa[World.size_alloc] at this
 have hD1:w1.heap[w.heap.size]?=some (.deferred (some [])):=by
  rw[<-q];exact(Below.heap_alloc _ _ _ (by simp)).trans (World.alloc_heap_new w _)
 have D:w1.heap.size=w.heap.size+2:=by rw[<-q,World.size_alloc,World.size_alloc]
 have E:Ext w w1:=by
  rw[<-q];exact⟨rfl,rfl,rfl,by rw[World.size_alloc,World.size_alloc];omega,λb X _=>(Below.heap_alloc _ _ b (by rw[World.size_alloc];omega)).trans (Below.heap_alloc w _ b X)⟩
 have Y:=H (w.heap.size+1) w.heap.size w1 (λst pe w'=>w'.heap[w.heap.size+1]?=some (.loop (d st pe))) rfl rfl E D hD1 (λst pe w' w'' A he=>he.trans A) F ?_
 .obtain⟨G,r⟩:=Y;refine⟨w.heap.size+1,[YC0 w.heap.size],w1,{target:= .fn (.func gf) lb,args:= #[.func (.yield (w.heap.size+1)) #[] #[]]},w1,gf,
   #[.func (.yield (w.heap.size+1)) #[] #[]]++lb,w1,?_,?_,λ_ _=>trivial,?_,λh=>(by cases h),?_⟩
  .rw[<-q];exact run_enterLoop_outer _ _ _ _ _
  .simp only[resolve,hs.eval,Z];simp[go_sem,ev]
  .simp[invoke,go_sem,callFunc_run G]
  .have e:(#[.func (.yield (w.heap.size+1)) #[] #[]]++lb:Array Value)=⟨.func (.yield (w.heap.size+1)) #[] #[]::lb.toList⟩:=by apply GU.1;simp
   rw[e];refine callsIn_wide.2 (Calls.mono r λe w3 he=>?_);cases e with
   |returned v=>
    obtain⟨st,pe,Q,A,W⟩:=he;have u:=run_endLoop (P:=P) A (by exact Q);have m:=W _ (Yl w3 _ (.loop {d st pe with state:= .exhausted})) (by simp);have s:Sim [YC0 w.heap.size] n f {a with defers:=[YC0 w.heap.size]++a.defers}:=⟨hs.size,by rw[hs.defers];rfl,hs.at_⟩;refine⟨pe,_,u,?_⟩;cases pe with
    |none=>exact .inr ⟨_,f,s,m⟩
    |some c=>
     cases c<;>simp only[jmp] at m<;>try exact m.elim
     case exit i=>
      obtain⟨rfl,m⟩:=m;exact wpIn_exit (.inr ⟨_,f,s,m⟩)
     case ret=>exact wpIn_ret (.inr ⟨_,f,s,m⟩)
   |panicked c=>exact he.elim
   |outgrown=>exact he.elim
 .intro args w' K hlen A V;have hy:=run_yield (P:=P) (args:=(⟨args⟩:Array Value)) A (by simpa[d] using hlen);refine⟨fn,_,asg,body,hy,roundIn_of_wpIn trivial ?_⟩;have C:=ZO0 (n:=n) ps.toList f args a.tmps (by simpa using hlen) N hs.size hs.at_;have ez:((d .ready none).params.zip (⟨args⟩:Array Value)).foldl (λtmps (t,a)=>tmps.setIfInBounds t a) (d .ready none).tmps=(ps.toList.zip args).foldl (λt p=>t.setIfInBounds p.1 p.2) a.tmps:=by
   rw[<-PS,Array.toList_zip]
  rw[ez];have U:=vc_sound (ro:=some (w.heap.size+1)) hm asg _ _ _ w' L V C (λl f w h=>h);refine wpIn_mono U ?_;rintro e a2 w2 ⟨f2,O,_,y⟩;cases e<;>simp only[seqK] at y<;>try exact y.elim
  case normal=>
   obtain⟨B,y⟩:=y;refine⟨_,run_beginRound B rfl,?_⟩;have J:=Yo B;have I:=y _ (Yl w2 _ (.loop {d .ready none with state:= .busy})) (by simp) (World.putObj_heap_same J);refine wpIn_mono (vc_sound (ro:=some (w.heap.size+1)) hm body _ _ _ _ M I O (λl f w h=>h)) ?_;rintro e a3 w3 ⟨f3,a0,_,j⟩;cases e<;>simp only[rndK] at j<;>try exact j.elim
   case normal=>
    obtain⟨k,o⟩:=j;exact⟨_,_,run_endRound none k,o _ (Yl w3 _ _) (by simp) (World.putObj_heap_same (Yo k))⟩
   case ret=>
    obtain⟨k,o⟩:=j;exact⟨_,_,run_endRound (some .ret) k,o _ (Yl w3 _ _) (by simp) (World.putObj_heap_same (Yo k))⟩
   case exit i=>
    cases hi:Nat.beq i x
    .rw[hi] at j;exact j.elim
    .rw[hi] at j;obtain rfl:=gE hi;obtain⟨k,o⟩:=j;exact⟨_,_,run_endRound (some (.exit i)) k,o _ (Yl w3 _ _) (by simp) (World.putObj_heap_same (Yo k))⟩
theorem kf0 (hm:P.follows .mixedOrders=true):∀(c:Code) (p:Exit->Fr->World->Prop) (q:Nat->Exit->Fr->World->Prop) (f:Fr) (a:Act) (w:World),okX n T c=true->vx T x c p q f w->Sim [] n f a->
  (∀l f w,¬p (.goto l) f w)->(∀D l f w,¬q D (.goto l) f w)->c.wpIn (FR none) 0 P (Zi0 n p q) a w:=by
 intro c;induction c with
 |rangeFunc g ps asg body _ _=>intro p q f a w d h hs _ _;exact range_sound hm d h hs
 |seq y z ihy ihz=>
  intro p q f a w d h hs o s;refine wpIn_seq ?_;simp only[okX] at d;simp only[vx] at h;cases E:hasR y with
  |true=>
   rw[E] at d h;simp only[cond,gp] at d;simp only at h;refine wpIn_mono (ihy _ _ f a w d.1 h hs (λl f w h=>o l f w h) (λD l f w h=>s D l f w h)) ?_;rintro e r w' (⟨m,j,k⟩|⟨D,m,j,k⟩)
   .cases e with
    |normal=>
     refine wpIn_mono (vc_sound hm z p m r w' d.2 k j o) ?_;rintro e A w'' ⟨u,t,_,v⟩;exact .inl ⟨u,t,v⟩
    |_=>exact .inl ⟨m,j,k⟩
   .cases e with
    |normal=>
     refine wpIn_mono (vc_sound hm z (q D) m r w' d.2 k j (s D)) ?_;rintro e A w'' ⟨u,t,_,v⟩;exact .inr ⟨D,u,t,v⟩
    |_=>exact .inr ⟨D,m,j,k⟩
  |false=>
   rw[E] at d h;simp only[cond,gp] at d;simp only at h;refine wpIn_mono (vc_sound hm y _ f a w d.1 h hs (λl f w h=>o l f w h)) ?_;rintro e r w' ⟨m,j,_,k⟩;cases e with
   |normal=>exact ihz p q m r w' d.2 k j o s
   |_=>exact .inl ⟨m,j,k⟩
 |block id b F=>
  intro p q f a w d h hs o s;simp only[vx] at h;refine wpIn_block (wpIn_mono (F _ _ f a w d h hs (λl f w h=>o l f w h) (λD l f w h=>s D l f w h)) ?_);have key:∀(K:Exit->Fr->World->Prop) (e:Exit) (m:Fr) (w':World),blkK id K e m w'->∀(df:List Deferred) (r:Act),Sim df n m r->(∀e f w a,Sim df n f a->K e f w->Zi0 n p q e a w)->Exit.inBlock id (Zi0 n p q) e r w':=by
   intro K e m w' k df r j B;cases e with
   |exit i=>
    simp only[blkK] at k;cases hi:Nat.beq i id
    .rw[hi] at k;have C:i≠id:=Nat.ne_of_beq_eq_false hi;simp only[Exit.inBlock,C,if_false];exact B _ _ _ _ j k
    .rw[hi] at k;have:i=id:=gE hi;subst this;simp only[Exit.inBlock,if_true];exact B _ _ _ _ j k
   |_=>exact B _ _ _ _ j k
  rintro e r w' (⟨m,j,k⟩|⟨D,m,j,k⟩)
  .exact key p e m w' k [] r j λe f w a hs h=> .inl ⟨f,hs,h⟩
  .exact key (q D) e m w' k [YC0 D] r j λe f w a hs h=> .inr ⟨D,f,hs,h⟩
 |_=>intro p q f a w d;exact absurd d (by simp[okX])
def Wm (D:Nat) (w:World) (k:World->Prop):Prop:=w.heap[D]?=some (.deferred (some []))/\∀w',Same (· =D) w w'->w'.heap.size=w.heap.size->k w'
def retM (rs:List ResultVar) (K:oK) (D:Nat) (e:Exit) (f:Fr) (w:World):Prop:=
 match e with
 | .normal=>Wm D w λw'=>Ye0 rs f w' K
 | .ret=>Wm D w λw'=>Ye0 rs f w' K
 |_=>False
theorem Jo {g:Nat} {fn:Func} {c:Code} {args:List Value} {w:World} {K:oK} (hm:P.follows .mixedOrders=true) (r:P.funcs[g]?=some fn) (q:fn.body=some c)
  (t:fn.ntmps=n) (s:okFn g=true) (j:okX n T c=true) (hlen:Nat.ble args.length n=true)
  (h:vx T x c (retF fn.results.toList K) (retM fn.results.toList K) (nthV args) w):vcall g args.toArray w K:=by
 refine⟨s,callsIn_wide (n:=0).1 (callsIn_of_wp_marks r q trivial ?_)⟩;rw[t];refine wpIn_mono (kf0 (x:=x) hm c _ _ _ _ w j h (sim_enter args n (Gu hlen)) (λl f w h=>h) (λD l f w h=>h)) ?_;rintro e k w' (⟨m,a,b⟩|⟨D,m,a,b⟩)
 .cases e with
  |normal=>obtain⟨v,d,i⟩:=vres_sound b a;rw[bodyPostM,a.defers];exact⟨v,d,i⟩
  |ret=>obtain⟨v,d,i⟩:=vres_sound b a;rw[bodyPostM,a.defers];exact⟨v,d,i⟩
  |_=>exact b.elim
 .have fin:Wm D w' (λw'=>Ye0 fn.results.toList m w' K)->LeavesInM (FR none) 0 P fn k.tmps (retK K) k.defers .returning w':=by
   rintro⟨o,p⟩;rw[a.defers];obtain⟨v,d,i⟩:=vres_sound (p _ (Yl w' D (.deferred none)) (by simp)) a;exact⟨by simp,.inl ⟨_,_,rfl,run_takeDeferred o,v,d,i⟩⟩
  cases e with
  |normal=>exact fin b
  |ret=>exact fin b
  |_=>exact b.elim
end
end
end Go.Vc
section
namespace Go.M
inductive Tm where
 |mk (op a b:Int) (s:ByteArray) (ks:List Tm)
namespace Tm
def op:Tm->Int|mk o _ _ _ _=>o
def a:Tm->Int|mk _ a _ _ _=>a
def b:Tm->Int|mk _ _ b _ _=>b
def s:Tm->ByteArray|mk _ _ _ s _=>s
def ks:Tm->List Tm|mk _ _ _ _ ks=>ks
theorem ind {p:Tm->Prop} (h:∀t,(∀k,k∈t.ks->p k)->p t):∀t,p t
 |mk o a b s ks=>h _ λk (c:k∈ks)=>by
   have:=List.sizeOf_lt_of_mem c;exact ind h k
decreasing_by
 grind
variable {α:Type}
mutual
def fold (f:Tm->List α->α):Tm->α
 |mk o a b s ks=>f (mk o a b s ks) (foldL f ks)
def foldL (f:Tm->List α->α):List Tm->List α
 |[]=>[]
 |k::r=>fold f k::foldL f r
end
theorem foldL_eq (f:Tm->List α->α) (ks:List Tm):foldL f ks=ks.map (fold f):=by
 induction ks with
 |nil=>simp only[foldL,PO]
 |cons k r a=>simp only[foldL,a,GK]
theorem fold_eq (f:Tm->List α->α) (t:Tm):fold f t=f t (t.ks.map (fold f)):=by
 cases t with
 |mk o a b s ks=>simp only[fold,foldL_eq];rfl
end Tm
def nada:ByteArray:=⟨#[]⟩
instance:Inhabited Tm:=⟨.mk 0 0 0 nada []⟩
def vok (w n:Int):Bool:=decide (1<=w)&&decide (w<=4)&&decide (0<=n)&&decide (n<2^w.toNat)
theorem vok_iff {w n:Int}:vok w n=true↔1<=w/\w<=4/\0<=n/\n<2^w.toNat:=by simp[vok,and_assoc]
theorem four {w:Int} (a:1<=w) (b:w<=4):w=1\/w=2\/w=3\/w=4:=oM
theorem vok_lt {w n:Int} (h:vok w n=true):1<=w/\w<=4/\0<=n/\n<16:=by
 obtain⟨a,b,c,d⟩:=vok_iff.1 h
 grind [four]
theorem small1 {p:Nat->Nat->Prop} [∀w n,Decidable (p w n)] (h:∀w:Fin 5,∀n:Fin 16,1<=w.1->n.1<2^w.1->p w n) {w n:Int} (a:vok w n=true):p w.toNat n.toNat:=by
 obtain⟨b,c,d,e⟩:=vok_lt a;obtain⟨_,_,_,f⟩:=vok_iff.1 a;refine h ⟨w.toNat,oM⟩ ⟨n.toNat,oM⟩ (by grind) ?_
 grind
def unM (op w a:Int):Int:=if op=1 then 2^w.toNat-1-a else(2^w.toNat-a)%2^w.toNat
def binN (op w a b:Nat):Nat:=
 if op=3 then a&&&b
 else if op=4 then a|||b
 else if op=5 then a^^^b
 else if op=6 then(a+b)%2^w
 else if op=7 then(a+2^w-b)%2^w
 else if op=8 then a*b%2^w
 else if op=9 then(if b=0 then 2^w-1 else a/b)
 else if op=10 then(if b=0 then a else a%b)
 else if op=11 then a*2^b%2^w
 else if op=12 then a/2^b
 else if a<2^(w-1) then a/2^b else 2^w-1-(2^w-1-a)/2^b
def binM (op w a b:Int):Int:=binN op.toNat w.toNat a.toNat b.toNat
def catM (v a b:Int):Int:=a*2^v.toNat+b
def sgn (w a:Int):Int:=if a<2^(w.toNat-1) then a else a-2^w.toNat
def cmpM (op w a b:Int):Bool:=if op=15 then decide (a=b) else if op=16 then decide (a<b) else decide (sgn w a<sgn w b)
def cutM (a hi lo:Int):Int:=a/2^lo.toNat%2^(hi-lo+1).toNat
theorem unM_ok {op w a:Int} (h:vok w a=true):vok w (unM op w a)=true:=by
 obtain⟨b,c,d,e⟩:=vok_iff.1 h;refine vok_iff.2 ⟨b,c,?_⟩;unfold unM;omega
def YP0 (op w:Nat):Bool:=(List.range 16).all λa=>(List.range 16).all λb=> !(decide (a<2^w)&&decide (b<2^w))||decide (binN op w a b<2^w)
theorem binN_lt {op w a b:Nat} (f:3<=op) (h:op<=13) (hw:1<=w) (d:w<=4) (g:a<2^w) (i:b<2^w):binN op w a b<2^w:=by
 have c:∀o:Fin 14,∀v:Fin 5,3<=o.1->1<=v.1->YP0 o v=true:=by decide+kernel
 have e:2^w<=2^4:=gY oM d;have:=c ⟨op,oM⟩ ⟨w,oM⟩ f hw;simp only[YP0,gV,gK,Gr,gX,GM,decide_eq_false_iff_not,gd] at this
 grind
theorem binM_ok {op w a b:Int} (k:3<=op) (c:op<=13) (g:vok w a=true) (h:vok w b=true):vok w (binM op w a b)=true:=by
 obtain⟨i,j,l,m⟩:=vok_iff.1 g;obtain⟨_,_,d,f⟩:=vok_iff.1 h;have e:((2^w.toNat:Nat):Int)=2^w.toNat:=by simp
 have:=binN_lt (op:=op.toNat) (w:=w.toNat) (a:=a.toNat) (b:=b.toNat) oM oM oM oM oM oM
 grind [vok_iff,binM]
theorem cat_ok {v w a b:Int} (c:vok w a=true) (d:vok v b=true) (hs:w+v<=4):vok (w+v) (catM v a b)=true:=by
 obtain⟨e,f,g,h⟩:=vok_iff.1 c;obtain⟨i,j,k,l⟩:=vok_iff.1 d;refine vok_iff.2 ⟨oM,hs,?_⟩;unfold catM
 grind [four]
theorem cut_ok {w a hi lo:Int} (b:vok w a=true) (c:0<=lo) (h:lo<=hi) (hw:hi<w):vok (hi-lo+1) (cutM a hi lo)=true:=by
 obtain⟨d,e,f,g⟩:=vok_iff.1 b;refine vok_iff.2 ⟨oM,oM,?_⟩;unfold cutM;omega
def vecUn (op w n:Int):(Int×Int)×Bool:=if vok w n=true/\(op=1\/op=2) then((w,unM op w n),true) else((0,0),false)
def vecBin (op w n v m:Int):(Int×Int)×Bool:=
 if vok w n=true/\vok v m=true then
  if op=14 then(if w+v<=4 then((w+v,catM v n m),true) else((0,0),false))
  else if 3<=op/\op<=13/\w=v then((w,binM op w n m),true) else((0,0),false)
 else((0,0),false)
def vecCmp (op w n v m:Int):Bool×Bool:=
 if vok w n=true/\vok v m=true/\w=v/\15<=op/\op<=17 then(cmpM op w n m,true) else(false,false)
def vecCut (w n hi lo:Int):(Int×Int)×Bool:=if vok w n=true/\0<=lo/\lo<=hi/\hi<w then((hi-lo+1,cutM n hi lo),true) else((0,0),false)
theorem vok_nat {w n:Int} (h:vok w n=true):∃k a:Nat,w=k/\n=a/\1<=k/\k<=4/\a<2^k:=by
 obtain⟨b,c,d,e⟩:=vok_iff.1 h;refine⟨w.toNat,n.toNat,oM,oM,oM,oM,?_⟩
 grind
theorem unM_not {k a:Nat} (c:1<=k) (d:k<=4) (h:a<2^k):unM 1 k a=((18446744073709551615-a)%2^k:Nat):=by
 have b:∀v:Fin 5,∀x:Fin 16,1<=v.1->x.1<2^v.1->unM 1 v.1 x.1=((18446744073709551615-x.1)%2^v.1:Nat):=by decide+kernel
 have:2^k<=2^4:=gY oM d;exact b ⟨k,oM⟩ ⟨a,oM⟩ c h
theorem unM_neg {k a:Nat} (c:1<=k) (d:k<=4) (h:a<2^k):unM 2 k a=((if a=0 then 0 else 18446744073709551616-a)%2^k:Nat):=by
 have b:∀v:Fin 5,∀x:Fin 16,1<=v.1->x.1<2^v.1->unM 2 v.1 x.1=((if x.1=0 then 0 else 18446744073709551616-x.1)%2^v.1:Nat):=by decide+kernel
 have:2^k<=2^4:=gY oM d;exact b ⟨k,oM⟩ ⟨a,oM⟩ c h
theorem cat_or {k v a b:Nat} (d:v<=4) (f:k<=4) (i:a<2^k) (e:b<2^v):((a*2^v|||b:Nat):Int)=catM v a b:=by
 have c:∀v:Fin 5,∀x y:Fin 16,y.1<2^v.1->x.1*2^v.1|||y.1=x.1*2^v.1+y.1:=by decide+kernel
 have g:2^k<=2^4:=gY oM f;have h:2^v<=2^4:=gY oM d;have:=c ⟨v,oM⟩ ⟨a,oM⟩ ⟨b,oM⟩ e
 grind [catM]
end Go.M
end
namespace Go.M
open Go.Vc
abbrev Dcl:=ByteArray×Int
def findD (ds:List Dcl) (s:ByteArray):Int:=idxI ds.length λi=>decide ((ds.getD i (nada,0)).1=s)
def tru:ByteArray:=⟨#[116,114,117,101]⟩
def nameOk (s:ByteArray):Bool:=decide (1<=s.size)&&decide (s.size<=4)&&decide (s≠tru)&&s.data.all λc=>decide (97<=c.toNat)&&decide (c.toNat<=122)
def bits (ds:List Dcl):Int:=(ds.map (·.2)).sum
def dclOk (ds:List Dcl) (i:Nat):Bool:=nameOk (ds.getD i (nada,0)).1&&decide (1<=(ds.getD i (nada,0)).2)&&decide ((ds.getD i (nada,0)).2<=4)&&decide (findD (ds.take i) (ds.getD i (nada,0)).1<0)
def declOk (ds:List Dcl):Bool:=decide (ds.length<=4)&&((List.range ds.length).all λi=>dclOk ds i)&&decide (bits ds<=8)
def envOk (ds:List Dcl) (env:List Int):Bool:=declOk ds&&decide (env.length=ds.length)&&(List.range ds.length).all λi=>vok (ds.getD i (nada,0)).2 (env.getD i 0)
theorem findD_lt (ds:List Dcl) (s:ByteArray): -1<=findD ds s/\findD ds s<ds.length:=by
 grind [findD,idxI]
theorem findD_neg {ds:List Dcl} {s:ByteArray} (h:findD ds s<0) {j:Nat} (a:j<ds.length):(ds.getD j (nada,0)).1≠s:=by
 grind [findD,idxI]
theorem findD_get {ds:List Dcl} {s:ByteArray} (h:0<=findD ds s):(ds.getD (findD ds s).toNat (nada,0)).1=s:=by
 grind [findD,idxI]
theorem findD_of {ds:List Dcl} {s:ByteArray} {i:Nat} (hi:i<ds.length) (h:(ds.getD i (nada,0)).1=s) (b:∀j,j<i->(ds.getD j (nada,0)).1≠s):findD ds s=i:=
 idxI_some hi (by grind) λj a=>gj (b j a)
theorem findD_none {ds:List Dcl} {s:ByteArray} (b:∀j,j<ds.length->(ds.getD j (nada,0)).1≠s):findD ds s= -1:=
 KK λj a=>gj (b j a)
theorem decl_iff {ds:List Dcl}:declOk ds=true↔ds.length<=4/\(∀i,i<ds.length->dclOk ds i=true)/\bits ds<=8:=by
 grind [declOk]
theorem take_getD {α:Type} {l:List α} {i j:Nat} {d:α} (h:j<i):(l.take i).getD j d=l.getD j d:=by
 grind
theorem dcl_apart {ds:List Dcl} (h:declOk ds=true) {i j:Nat} (hi:i<ds.length) (b:j<i):(ds.getD j (nada,0)).1≠(ds.getD i (nada,0)).1:=by
 have:=(decl_iff.1 h).2.1 i hi;simp only[dclOk,gp,gd] at this;have a:=findD_neg this.2 (j:=j) (by rw[gi];omega);rwa[take_getD b] at a
def bitT (ds:List Dcl) (i:Nat):Int:=((ds.take i).map (·.2)).sum
theorem bitT_succ {ds:List Dcl} {i:Nat} (h:i<ds.length):bitT ds (i+1)=bitT ds i+(ds.getD i (nada,0)).2:=by
 grind [bitT,List.take_add_one]
theorem bitT_all (ds:List Dcl):bitT ds ds.length=bits ds:=by unfold bitT bits;grind
theorem dcl_wide {ds:List Dcl} (h:declOk ds=true) {i:Nat} (hi:i<ds.length):1<=(ds.getD i (nada,0)).2/\(ds.getD i (nada,0)).2<=4:=by
 simp_all[declOk,dclOk]
theorem env_ok {ds:List Dcl} {env:List Int} (h:envOk ds env=true):declOk ds=true/\env.length=ds.length/\∀i,i<ds.length->vok (ds.getD i (nada,0)).2 (env.getD i 0)=true:=by
 grind [envOk]
def sizeM:Tm->Nat:=Tm.fold λ_ xs=>1+xs.sum
def deepM:Tm->Nat:=Tm.fold λ_ xs=>1+xs.foldl max 0
theorem sizeM_eq (t:Tm):sizeM t=1+(t.ks.map sizeM).sum:=Tm.fold_eq _ t
theorem Yr (t:Tm):deepM t=1+(t.ks.map deepM).foldl max 0:=Tm.fold_eq _ t
def szT (ks:List Tm) (i:Nat):Nat:=((ks.take i).map sizeM).sum
def dpT (ks:List Tm) (i:Nat):Nat:=((ks.take i).map deepM).foldl max 0
theorem take_add {α:Type} {l:List α} {i:Nat} (h:i<l.length) (d:α):l.take (i+1)=l.take i++[l.getD i d]:=by
 simp_all
theorem szT_succ {ks:List Tm} {i:Nat} (h:i<ks.length):szT ks (i+1)=szT ks i+sizeM (ks.getD i default):=by
 grind [szT,take_add]
theorem dpT_succ {ks:List Tm} {i:Nat} (h:i<ks.length):dpT ks (i+1)=max (dpT ks i) (deepM (ks.getD i default)):=by
 grind [dpT,take_add]
theorem szT_all (t:Tm):sizeM t=1+szT t.ks t.ks.length:=by rw[sizeM_eq,szT,gF]
theorem dpT_all (t:Tm):deepM t=1+dpT t.ks t.ks.length:=by rw[Yr,dpT,gF]
theorem szT_mono {ks:List Tm} {i:Nat}:∀{j:Nat},i<=j->j<=ks.length->szT ks i<=szT ks j
 |0,h,_=>by
  grind
 |j+1,h,a=>by
  by_cases e:i=j+1
  .grind
  .have:=szT_mono (ks:=ks) (i:=i) (j:=j) oM oM;rw[szT_succ oM];omega
theorem dpT_mono {ks:List Tm} {i:Nat}:∀{j:Nat},i<=j->j<=ks.length->dpT ks i<=dpT ks j
 |0,h,_=>by
  grind
 |j+1,h,a=>by
  by_cases e:i=j+1
  .grind
  .have:=dpT_mono (ks:=ks) (i:=i) (j:=j) oM oM;rw[dpT_succ oM];omega
def fits (t:Tm):Bool:=decide (sizeM t<=20)&&decide (deepM t<=7)
theorem fits_iff {t:Tm}:fits t=true↔sizeM t<=20/\deepM t<=7:=by simp[fits]
def manyM (t:Tm):Nat:=if fits t then sizeM t else 21
def lvlM (t:Tm):Nat:=if fits t then deepM t else 8
def arity (o:Int):Int:=if o=20\/o=21\/o=24 then 0 else if o=1\/o=2\/o=22\/o=25 then 1 else if o=23 then 3 else if o=26\/o=27 then 2 else if 3<=o/\o<=17 then 2 else-1
def plainM (t:Tm):Bool:=(decide (t.op=20)||decide (t.op=22)||(decide (t.a=0)&&decide (t.b=0)))&&(decide (t.op=21)||decide (t.s=nada))
def sortK (ds:List Dcl) (t:Tm) (xs:List Int):Int:=
 if t.op=20 then(if vok t.a t.b then t.a else-1)
 else if t.op=21 then(if findD ds t.s<0 then-1 else(ds.getD (findD ds t.s).toNat (nada,0)).2)
 else if 24<=t.op then(if xs.any (λx=>decide (x≠0)) then-1 else 0)
 else if t.op=23 then(if xs.getD 0 0=0/\xs.getD 1 0=xs.getD 2 0 then xs.getD 1 0 else-1)
 else if t.op=22 then(if 0<=t.b/\t.b<=t.a/\t.a<xs.getD 0 0 then t.a-t.b+1 else-1)
 else if t.op<=2 then(if 0<xs.getD 0 0 then xs.getD 0 0 else-1)
 else if t.op=14 then(if 0<xs.getD 0 0/\0<xs.getD 1 0/\xs.getD 0 0+xs.getD 1 0<=4 then xs.getD 0 0+xs.getD 1 0 else-1)
 else if 15<=t.op then(if 0<xs.getD 0 0/\xs.getD 0 0=xs.getD 1 0 then 0 else-1)
 else(if 0<xs.getD 0 0/\xs.getD 0 0=xs.getD 1 0 then xs.getD 0 0 else-1)
def formed (t:Tm):Bool:=decide (arity t.op=t.ks.length)&&plainM t
def sortF (ds:List Dcl) (t:Tm) (xs:List Int):Int:=if formed t=true/\¬(-1∈xs) then sortK ds t xs else-1
def sortM (ds:List Dcl):Tm->Int:=Tm.fold (sortF ds)
theorem sortM_eq (ds:List Dcl) (t:Tm):sortM ds t=sortF ds t (t.ks.map (sortM ds)):=Tm.fold_eq _ t
theorem arity_ops {o:Int} (h:0<=arity o):(1<=o/\o<=17)\/(20<=o/\o<=27):=by
 grind [arity]
theorem getD_map {α β:Type} (f:α->β) {l:List α} {i:Nat} (h:i<l.length) (d:β) (e:α):(l.map f).getD i d=f (l.getD i e):=by
 grind
theorem getD_mem {α:Type} {l:List α} {i:Nat} (h:i<l.length) (d:α):l.getD i d∈l:=by
 grind
theorem sort_parts {ds:List Dcl} {t:Tm} (h:sortM ds t≠ -1):formed t=true/\(∀k,k∈t.ks->sortM ds k≠ -1)/\sortM ds t=sortK ds t (t.ks.map (sortM ds)):=by
 rw[sortM_eq] at h⊢
 grind [sortF]
theorem sort_range {ds:List Dcl} (c:declOk ds=true):∀t,-1<=sortM ds t/\sortM ds t<=4:=by
 refine Tm.ind λt k=>?_;rw[sortM_eq];unfold sortF;split
 .rename_i j;have a:∀i,-1<=(t.ks.map (sortM ds)).getD i 0/\(t.ks.map (sortM ds)).getD i 0<=4:=(by grind);have f:=a 0;have g:=a 1;have h:=a 2;have b:=arity_ops (o:=t.op) (by
   grind [formed])
  unfold sortK;split
  .split
   .rename_i e;have:=vok_lt e;omega
   .omega
  .split
   .have d:=findD_lt ds t.s;split
    .omega
    .have:=dcl_wide c (i:=(findD ds t.s).toNat) oM;omega
   omega
 .omega
def tsort (ds:List Dcl) (t:Tm):Int:=if fits t=true/\declOk ds=true then sortM ds t else-1
def b2i (b:Bool):Int:=if b then 1 else 0
def valK (ds:List Dcl) (env:List Int) (t:Tm) (xs:List (Int×Int)):Int:=
 if t.op=20 then t.b
 else if t.op=21 then env.getD (findD ds t.s).toNat 0
 else if t.op=24 then 1
 else if t.op=25 then b2i (decide ((xs.getD 0 (0,0)).2=0))
 else if t.op=26 then b2i (decide ((xs.getD 0 (0,0)).2=1)&&decide ((xs.getD 1 (0,0)).2=1))
 else if t.op=27 then b2i (decide ((xs.getD 0 (0,0)).2=1)||decide ((xs.getD 1 (0,0)).2=1))
 else if t.op=23 then(if(xs.getD 0 (0,0)).2=1 then(xs.getD 1 (0,0)).2 else(xs.getD 2 (0,0)).2)
 else if t.op=22 then cutM (xs.getD 0 (0,0)).2 t.a t.b
 else if t.op<=2 then unM t.op (xs.getD 0 (0,0)).1 (xs.getD 0 (0,0)).2
 else if t.op=14 then catM (xs.getD 1 (0,0)).1 (xs.getD 0 (0,0)).2 (xs.getD 1 (0,0)).2
 else if 15<=t.op then b2i (cmpM t.op (xs.getD 0 (0,0)).1 (xs.getD 0 (0,0)).2 (xs.getD 1 (0,0)).2)
 else binM t.op (xs.getD 0 (0,0)).1 (xs.getD 0 (0,0)).2 (xs.getD 1 (0,0)).2
def vecF (ds:List Dcl) (env:List Int) (t:Tm) (xs:List (Int×Int)):Int×Int:=(sortF ds t (xs.map (·.1)),valK ds env t xs)
def vecM (ds:List Dcl) (env:List Int):Tm->Int×Int:=Tm.fold (vecF ds env)
def evalM (ds:List Dcl) (env:List Int) (t:Tm):Int:=(vecM ds env t).2
theorem qJ0 (ds:List Dcl) (env:List Int) (t:Tm):vecM ds env t=vecF ds env t (t.ks.map (vecM ds env)):=Tm.fold_eq _ t
theorem vecM_sort (ds:List Dcl) (env:List Int):∀t,(vecM ds env t).1=sortM ds t:=by
 refine Tm.ind λt a=>?_;rw[qJ0,sortM_eq];show sortF ds t _=_
 grind [List.map_congr_left]
theorem vecM_pair (ds:List Dcl) (env:List Int) (t:Tm):vecM ds env t=(sortM ds t,evalM ds env t):=by rw[<-vecM_sort ds env t];rfl
theorem evalM_eq (ds:List Dcl) (env:List Int) (t:Tm):evalM ds env t=valK ds env t (t.ks.map (vecM ds env)):=by
 unfold evalM;rw[qJ0];rfl
def inS (w n:Int):Prop:=(w=0/\(n=0\/n=1))\/vok w n=true
theorem kP0 {b:Bool}:inS 0 (b2i b):=by left;cases b<;>simp[b2i]
theorem inS_zero {n:Int} (h:inS 0 n):n=0\/n=1:=by
 rcases h with h|h
 .exact h.2
 .exact absurd (vok_lt h).1 oM
theorem inS_pos {w n:Int} (h:inS w n) (hw:0<w):vok w n=true:=by
 rcases h with h|h
 .omega
 .exact h
def tok (ds:List Dcl) (t:Tm) (env:List Int):Bool:=decide (tsort ds t≠ -1)&&envOk ds env
def teval (ds:List Dcl) (t:Tm) (env:List Int):Int:=if tok ds t env then evalM ds env t else 0
theorem eval_in {ds:List Dcl} {env:List Int} (he:envOk ds env=true):∀t,sortM ds t≠ -1->inS (sortM ds t) (evalM ds env t):=by
 obtain⟨A,C,D⟩:=env_ok he;refine Tm.ind λt E h=>?_;obtain⟨r,B,hs⟩:=sort_parts h;rw[hs] at h;rw[hs,evalM_eq];simp only[formed,gp,gd] at r;obtain⟨x,z⟩:=r;have u:=arity_ops (o:=t.op) oM;have k:∀i,i<t.ks.length->(t.ks.map (sortM ds)).getD i 0=sortM ds (t.ks.getD i default):=by grind
 have l:∀i,i<t.ks.length->(t.ks.map (vecM ds env)).getD i (0,0)=(sortM ds (t.ks.getD i default),evalM ds env (t.ks.getD i default)):=by grind [getD_map,default,vecM_pair]
 have b:∀i,i<t.ks.length->inS (sortM ds (t.ks.getD i default)) (evalM ds env (t.ks.getD i default)):=by grind
 unfold sortK at h⊢;unfold valK;by_cases d:t.op=20
 .simp only[d,if_true] at h⊢;split
  .right;assumption
  grind
 simp only[q0 d] at h⊢;by_cases f:t.op=21
 .simp only[f,if_true] at h⊢;have y:=findD_lt ds t.s;split
  .omega
  .right;grind
 simp only[q0 f] at h⊢;by_cases j:24<=t.op
 .simp only[K3 j] at h⊢;split
  .grind
  .rcases(by omega:t.op=24\/t.op=25\/t.op=26\/t.op=27) with e|e|e|e
   .left;simp[e]
   .simp only[e];exact kP0
   .simp only[e];exact kP0
   .simp only[e];exact kP0
 simp only[q0 j,q0 (show¬t.op=24 by omega),q0 (show¬t.op=25 by omega),q0 (show¬t.op=26 by omega),q0 (show¬t.op=27 by omega)] at h⊢;by_cases n:t.op=23
 .grind [arity]
 simp only[q0 n] at h⊢;by_cases g:t.op=22
 .simp only[g,if_true] at h⊢;have q:t.ks.length=1:=(by grind [arity]);rw[k 0 oM] at h⊢;rw[l 0 oM];split
  .rename_i a;right;exact cut_ok (inS_pos (b 0 oM) oM) a.1 a.2.1 a.2.2
  omega
 simp only[q0 g] at h⊢;by_cases p:t.op<=2
 .simp only[K3 p] at h⊢;have q:t.ks.length=1:=by
   grind [arity]
  rw[k 0 oM] at h⊢;rw[l 0 oM];split
  .rename_i a;right
   grind [unM_ok,inS_pos]
  omega
 simp only[q0 p] at h⊢;have q:t.ks.length=2:=by
  grind [arity]
 have v:=k 0 oM;have w:=k 1 oM;rw[v,w] at h⊢;rw[l 0 oM,l 1 oM];have i0:=b 0 oM;have i1:=b 1 oM;by_cases c:t.op=14
 .simp only[c,if_true] at h⊢;split
  .rename_i a;right;exact cat_ok (inS_pos i0 a.1) (inS_pos i1 a.2.1) a.2.2
  omega
 simp only[q0 c] at h⊢;by_cases m:15<=t.op
 .grind [kP0]
 simp only[q0 m] at h⊢;split
 .rename_i a;right
  grind [binM_ok,inS_pos]
 omega
end Go.M
namespace Go.Vc
open Go Go.M
section
section
variable {F F' S:Nat->Prop} {w w':World} {K:oK} {k:Nat} {v:Value} {xs:List (List Value)}
theorem Sl.ldAgg (h:Sl F w k v xs) {t:TypeId} (b:aggB t k=true) {i:Nat} (hi:i<xs.length):zu t (.pointer (some (eaddr v k i))) w K=K (.agg ⟨xs.getD i []⟩) w:=by
 have a:(xs.getD i []).length=k:=h.wide _ (M.getD_mem hi _);exact XF (by rw[a];exact b) (Sl.cells h hi)
theorem Sl.ldField (h:Sl F w k v xs) {t:TypeId} (a:oneB t=true) {i j:Nat} {x:Value} (hi:i<xs.length) (b:(xs.getD i [])[j]?=some x):zu t (.pointer (some ((eaddr v k i).add j))) w K=K x w:=
 y1 a (Sl.cells h hi j x b)
theorem Sl.small (h:Sl F w k v xs):xs.length<=9223372036854775807:=by
 obtain⟨_,_,_,a,b,_⟩:=h.shape;omega
end
inductive TmR (F:Nat->Prop) (w:World):List Value->Tm->Prop
 |mk {o a b:Int} {s:ByteArray} {ks:List Tm} {kv:Value} {css:List (List Value)}:Sl F w 5 kv css->css.length=ks.length->(∀i,i<ks.length->TmR F w (css.getD i []) (ks.getD i default))->
  TmR F w [nI o,nI a,nI b,.string s,kv] (.mk o a b s ks)
def TmsR (F:Nat->Prop) (w:World) (kv:Value) (ks:List Tm):Prop:= ∃css:List (List Value),Sl F w 5 kv css/\css.length=ks.length/\∀i,i<ks.length->TmR F w (css.getD i []) (ks.getD i default)
def TermR (F:Nat->Prop) (w:World) (v:Value) (t:Tm):Prop:= ∃kv,v= .agg ⟨[nI t.op,nI t.a,nI t.b,.string t.s,kv]⟩/\TmsR F w kv t.ks
def DclsR (F:Nat->Prop) (w:World) (v:Value) (ds:List Dcl):Prop:=Sl F w 2 v (ds.map λd=>[.string d.1,nI d.2])
section
variable {F F' S:Nat->Prop} {w w':World} {K:oK} {v:Value} {cs:List Value} {t:Tm} {ks:List Tm} {ds:List Dcl}
theorem TmR.same (h:TmR F w cs t) (hw:Same S w w') (hs:∀b,F b->b<w.heap.size->¬S b):TmR F w' cs t:=by
 induction h with
 |mk a c e d=>exact .mk (a.same hw hs) c d
theorem TmR.ext (h:TmR F w cs t) (hw:Ext w w'):TmR F w' cs t:=h.same hw λ_ _ _ h=>h
theorem TmR.weaken (h:TmR F w cs t) (d:∀b,F b->b<w.heap.size->F' b):TmR F' w cs t:=by
 induction h with
 |mk a c f e=>exact .mk (a.weaken d) c e
theorem TmR.inv (h:TmR F w cs t):∃kv,cs=[nI t.op,nI t.a,nI t.b,.string t.s,kv]/\TmsR F w kv t.ks:=by
 cases h with
 |mk c d e=>exact⟨_,rfl,_,c,d,e⟩
theorem TmR.of {kv:Value} (h:TmsR F w kv t.ks):TmR F w [nI t.op,nI t.a,nI t.b,.string t.s,kv] t:=by
 obtain⟨css,c,d,e⟩:=h;cases t with
 |mk o a b s ks=>exact .mk c d e
theorem TmR.term (h:TmR F w cs t):TermR F w (.agg ⟨cs⟩) t:=by
 obtain⟨kv,rfl,a⟩:=h.inv;exact⟨kv,rfl,a⟩
theorem TermR.cells (h:TermR F w v t):∃cs,v= .agg ⟨cs⟩/\TmR F w cs t:=by
 obtain⟨kv,rfl,a⟩:=h;exact⟨_,rfl,TmR.of a⟩
theorem TmsR.same (h:TmsR F w v ks) (hw:Same S w w') (hs:∀b,F b->b<w.heap.size->¬S b):TmsR F w' v ks:=by
 obtain⟨css,a,c,d⟩:=h;exact⟨css,a.same hw hs,c,λi hi=>(d i hi).same hw hs⟩
theorem TmsR.ext (h:TmsR F w v ks) (hw:Ext w w'):TmsR F w' v ks:=h.same hw λ_ _ _ h=>h
theorem TmsR.weaken (h:TmsR F w v ks) (a:∀b,F b->b<w.heap.size->F' b):TmsR F' w v ks:=by
 obtain⟨css,c,d,e⟩:=h;exact⟨css,c.weaken a,d,λi hi=>(e i hi).weaken a⟩
theorem TermR.same (h:TermR F w v t) (hw:Same S w w') (hs:∀b,F b->b<w.heap.size->¬S b):TermR F w' v t:=by
 obtain⟨kv,a,c⟩:=h;exact⟨kv,a,c.same hw hs⟩
theorem TermR.ext (h:TermR F w v t) (hw:Ext w w'):TermR F w' v t:=h.same hw λ_ _ _ h=>h
theorem TermR.weaken (h:TermR F w v t) (d:∀b,F b->b<w.heap.size->F' b):TermR F' w v t:=by
 obtain⟨kv,a,c⟩:=h;exact⟨kv,a,c.weaken d⟩
theorem TmsR.small (h:TmsR F w v ks):ks.length<=9223372036854775807:=by
 obtain⟨css,a,b,c⟩:=h;rw[<-b];exact a.small
theorem TmsR.len (h:TmsR F w v ks) {t:TypeId} (c:isSl t=true) (ty:TypeId):vbi .len [t] ty [v] w' K=K (nI ks.length) w':=by
 obtain⟨css,a,b,d⟩:=h;have:=Sl.len (K:=K) (w':=w') a c ty;rwa[b] at this
theorem TmsR.iaddr (h:TmsR F w v ks) {t:TypeId} (e:elB t 5=true) {kd:IntKind} {i:Int} (b:0<=i) (c:i<ks.length):
  y2 t v (.int kd i) w' K=K (.pointer (some (eaddr v 5 i.toNat))) w':=by
 obtain⟨css,a,d,f⟩:=h;exact Sl.iaddr a e b (by rw[d];exact c)
theorem TmsR.load (h:TmsR F w v ks) {t:TypeId} (d:aggB t 5=true) {i:Nat} (hi:i<ks.length) (c:∀x,TermR F w x (ks.getD i default)->K x w):zu t (.pointer (some (eaddr v 5 i))) w K:=by
 obtain⟨css,a,e,b⟩:=h;rw[a.ldAgg d oM];exact c _ (b i hi).term
theorem TmsR.nil:TmsR F w (.slice none 0 0) []:=⟨[],⟨⟨none,0,rfl,by simp,by simp,by simp⟩,by simp⟩,rfl,by simp⟩
theorem DclsR.same (h:DclsR F w v ds) (hw:Same S w w') (hs:∀b,F b->b<w.heap.size->¬S b):DclsR F w' v ds:=Sl.same h hw hs
theorem DclsR.ext (h:DclsR F w v ds) (hw:Ext w w'):DclsR F w' v ds:=Sl.ext h hw
theorem DclsR.weaken (h:DclsR F w v ds) (a:∀b,F b->b<w.heap.size->F' b):DclsR F' w v ds:=Sl.weaken h a
theorem DclsR.len (h:DclsR F w v ds) {t:TypeId} (a:isSl t=true) (ty:TypeId):vbi .len [t] ty [v] w' K=K (nI ds.length) w':=by
 have:=Sl.len (K:=K) (w':=w') h a ty;rwa[V0] at this
theorem DclsR.iaddr (h:DclsR F w v ds) {t:TypeId} (c:elB t 2=true) {kd:IntKind} {i:Int} (a:0<=i) (b:i<ds.length):
  y2 t v (.int kd i) w' K=K (.pointer (some (eaddr v 2 i.toNat))) w':=Sl.iaddr h c a (by rw[V0];exact b)
theorem JP {i:Nat} (hi:i<ds.length):(ds.map λd=>[Value.string d.1,nI d.2]).getD i []=[.string (ds.getD i (nada,0)).1,nI (ds.getD i (nada,0)).2]:=M.getD_map _ hi _ _
theorem DclsR.load (h:DclsR F w v ds) {t:TypeId} (a:aggB t 2=true) {i:Nat} (hi:i<ds.length):zu t (.pointer (some (eaddr v 2 i))) w K=K (.agg ⟨[.string (ds.getD i (nada,0)).1,nI (ds.getD i (nada,0)).2]⟩) w:=by
 rw[Sl.ldAgg h a (by rw[V0];exact hi),JP hi]
theorem DclsR.load0 (h:DclsR F w v ds) {t:TypeId} (a:oneB t=true) {i:Nat} (hi:i<ds.length):zu t (.pointer (some ((eaddr v 2 i).add 0))) w K=K (.string (ds.getD i (nada,0)).1) w:=
 Sl.ldField h a (by rw[V0];exact hi) (by rw[JP hi];rfl)
theorem DclsR.load1 (h:DclsR F w v ds) {t:TypeId} (a:oneB t=true) {i:Nat} (hi:i<ds.length):zu t (.pointer (some ((eaddr v 2 i).add 1))) w K=K (nI (ds.getD i (nada,0)).2) w:=
 Sl.ldField h a (by rw[V0];exact hi) (by rw[JP hi];rfl)
theorem DclsR.small (h:DclsR F w v ds):ds.length<=9223372036854775807:=by have:=Sl.small h;simpa using this
theorem Sl.base {k:Nat} {xs:List (List Value)} (h:Sl F w k v xs) (f:xs≠[]):∀a l c,v= .slice (some a) l c->∃b o,a=⟨b,o,none⟩:=by
 intro a l c e;obtain⟨i,c',rfl,_,_,g⟩:=h.shape;obtain⟨b,o,rfl,_⟩:=g f
 injection e with d j m
 injection d with d
 exact⟨b,o,d.symm⟩
theorem Sl.taken {k:Nat} {xs:List (List Value)} (h:Sl F w k v xs) {n:Nat} (t:n<=xs.length):Sl F w k (cutV v n) (xs.take n):=by
 obtain⟨a,c,rfl,s,m,q⟩:=h.shape;have l:(xs.take n).length=n:=by rw[gi];omega
 refine⟨⟨a,c,by rw[l];rfl,oM,m,λj=>?_⟩,λx r=>h.wide x (gU r)⟩;have f:xs≠[]:=λe=>j (by rw[e,List.take_nil]);obtain⟨b,o,e,p,g,d⟩:=q f;refine⟨b,o,e,p,g,λi hi=>?_⟩;rw[l] at hi;rw[M.take_getD hi];exact d i oM
theorem DclsR.cut (h:DclsR F w v ds) (a:ds≠[]) {t:TypeId} (c:elB t 2=true) {kd:IntKind} {n:Nat} (b:n<=ds.length):xq t v none (some (.int kd n)) none w' K=K (cutV v n) w':=
 Sl.cut h (Sl.base h (by simpa using a)) c (by rw[V0];exact b)
theorem DclsR.taken (h:DclsR F w v ds) {n:Nat} (a:n<=ds.length):DclsR F w (cutV v n) (ds.take n):=by
 unfold DclsR;rw[GD];exact Sl.taken h (by rw[V0];exact a)
theorem Blk.sl1k {b k:Nat} {cs:List Value} {e:TypeId} (h:Blk w b cs e) (d:cs.length=k):Sl (· =b) w k (.slice (some ⟨b,0,none⟩) 1 1) [cs]:=by
 refine⟨⟨_,1,rfl,gz _,dC,λ_=>⟨b,0,rfl,rfl,h.lt,λi hi j v c=>?_⟩⟩,by simp[d]⟩;have a:i=0:=by simpa using hi
 subst a;rw[yp];simp only[z0b,Gd,G2];exact h.cell c
theorem Own.app1k {bs ty b k:Nat} {t e:TypeId} {xs:List (List Value)} {y:List Value} (h:Own 0 k t w v xs) (g:elZ t k bs=true) (j:0<k) (i:Blk w b y e) (l:y.length=k) (a:∀c,c∈y->c.oneCell'=true)
  (d:xs.length<9223372036854775807) (hlen:(xs.length+1)*bs<=140737488355328)
  (f:∀v' w',Own 0 k t w' v' (xs++[y])->Same (λb=>v.ownBlock=some b) w w'->(∀b,v'.ownBlock=some b->v.ownBlock=some b\/w.heap.size<=b)->K v' w'):vbi .append [t,t] ty [v,.slice (some ⟨b,0,none⟩) 1 1] w K:=
 vappend (F:=(· =b)) g j h (i.sl1k l) (by simpa using a) oM (by rw[gZ];omega) (by simpa using hlen) f
theorem xb {t e k:Nat} {z x:Value} {y:List Value} (hu:P.underlying t=some (.slice e)) (l:qa e k=true) (hzero:yn e z) (i:x.cells=⟨y⟩) (j:y.length=k) (h:k<=16777216)
  (g:∀b w',b=w.heap.size->Ext w w'->w'.heap.size=w.heap.size+1->Blk w' b y e->K (.slice (some ⟨b,0,none⟩) 1 1) w'):vbuildS t 1 [(0,x)] w K:=by
 refine vbuildS_row (xs:=[x]) (us:=[y]) hu l hzero (by simp[i]) (by simp[j]) (by simpa using h) λb w' a c d f=>g b w' a c d (by simpa using f)
theorem Blk.ownk {b k n:Nat} {t:TypeId} {css:List (List Value)} (h:Blk w b css.flatten (YT t)) (hw:∀x,x∈css->x.length=k) (c:n=css.length) (hm:n<=9223372036854775807):Own 0 k t w (.slice (some ⟨b,0,none⟩) n n) css:=by
 subst c;have a:=flatten_len hw;refine⟨⟨by rw[a],.inr ⟨b,css.length,⟨css.flatten⟩,by simp,gQ _,h,gz _,by simpa[maxLen] using hm,by simpa using a,?_⟩⟩,hw⟩;show List.take (css.length*k) css.flatten=css.flatten;rw[<-a,gF]
theorem flatten_set {k:Nat}:∀{xs:List (List Value)} (_:∀x,x∈xs->x.length=k) {i j:Nat} (u:Value),i<xs.length->j<k->xs.flatten.set (i*k+j) u=(xs.set i ((xs.getD i []).set j u)).flatten
 |[],_,i,j,u,hi,_=>by simp at hi
 |x::r,h,i,j,u,hi,a=>by
  have c:=h x gq;cases i with
  |zero=>
   rw[z0b,Gd];simp only[GW,pC,pt];rw[List.set_append_left _ _ oM]
  |succ i=>
   simp only[GW,PR,G5];rw[G8 _ _ (by rw[pg];omega)];congr 1;have e:(i+1)*k+j-x.length=i*k+j:=by rw[pg];omega
   rw[e,flatten_set (λy b=>h y (gw _ b)) u (by simpa using hi) a]
theorem Own.stCell {k:Nat} {t e:TypeId} {xs:List (List Value)} {x:Value} (h:Own 0 k t w v xs) (E:x.cells= #[x]) (o:x.oneCell'=true) (G:qa e 1=true) {i j:Nat} (hi:i<xs.length) (C:j<k)
  (p:∀w',Own 0 k t w' v (xs.set i ((xs.getD i []).set j x))->Same (λb=>v.ownBlock=some b) w w'->w'.heap.size=w.heap.size->K undef w'):zG e (.pointer (some ((eaddr v k i).add j))) x w K:=by
 rcases h.row.2 with⟨rfl,I⟩|⟨g,cap,cur,rfl,s,H,D,z,A,n⟩
 .omega
 .have a:=h.row;have d:i*k+j<xs.length*k:=by
   have:i*k+k<=xs.length*k:=by rw[<-Nat.succ_mul];exact pZ _ hi
   omega
  have u:=World.ownsRow.cellAt a (i*k+j) d;have B:=World.ownsRow.frozenAt a (i*k+j);obtain⟨l,m⟩:=World.ownsRow.stored a (i*k+j) x;have f:(xs.getD i []).length=k:=h.wide _ (M.getD_mem hi _);have c:w.cell? ⟨g,i*k+j,none⟩=some (xs.flatten.getD (i*k+j) undef):=by
   rw[u];have:i*k+j<xs.flatten.length:=by rw[flatten_len h.wide];exact d
   rw[X0,gk this];rfl
  have r:(⟨g,i*k+j,none⟩:Addr).add 0=⟨g,i*k+j,none⟩:=rfl;have he:(eaddr (.slice (some ⟨g,0,none⟩) xs.length cap) k i).add j=⟨g,i*k+j,none⟩:=by
   simp only[eaddr];rw[yp];simp
  rw[he];refine⟨(),w.setCell ⟨g,i*k+j,none⟩ x,?_,p _ ?_ (Same.of_grown m) (by simp)⟩
  .simp only[Instr.storeAt,Instr.sureAddr,Sem.run_bind,Sem.run_pure,Result.andThen_ok,storeVar,run_sizeOf G,E];cases x<;>first|(cases o;done)|simp[storeCells,store,Sem.run,r,c,B]
  .refine⟨?_,λy F=>?_⟩
   .rw[<-flatten_set h.wide x hi C];simpa using l
   .obtain⟨q,J,rfl⟩:=gx F;rw[pA];split
    .rw[G0];exact f
    .exact h.wide _ (GV _)
def PairsR (F:Nat->Prop) (w:World) (v:Value) (xs:List (Int×Int)):Prop:=Sl F w 2 v (xs.map λx=>[nI x.1,nI x.2])
def OwnP (t:TypeId) (w:World) (v:Value) (xs:List (Int×Int)):Prop:=Own 0 2 t w v (xs.map λx=>[nI x.1,nI x.2])
variable {xs:List (Int×Int)}
theorem PairsR.ext (h:PairsR F w v xs) (hw:Ext w w'):PairsR F w' v xs:=Sl.ext h hw
theorem PairsR.iaddr (h:PairsR F w v xs) {t:TypeId} (c:elB t 2=true) {kd:IntKind} {i:Int} (a:0<=i) (b:i<xs.length):
  y2 t v (.int kd i) w' K=K (.pointer (some (eaddr v 2 i.toNat))) w':=Sl.iaddr h c a (by rw[V0];exact b)
theorem PairsR.load (h:PairsR F w v xs) {t:TypeId} (a:aggB t 2=true) {i:Nat} (hi:i<xs.length):zu t (.pointer (some (eaddr v 2 i))) w K=K (.agg ⟨[nI (xs.getD i (0,0)).1,nI (xs.getD i (0,0)).2]⟩) w:=by
 rw[Sl.ldAgg h a (by rw[V0];exact hi),M.getD_map _ hi _ (0,0)]
theorem PairsR.load1 (h:PairsR F w v xs) {t:TypeId} (a:oneB t=true) {i:Nat} (hi:i<xs.length):zu t (.pointer (some ((eaddr v 2 i).add 1))) w K=K (nI (xs.getD i (0,0)).2) w:=
 Sl.ldField h a (by rw[V0];exact hi) (by rw[M.getD_map _ hi _ (0,0)];rfl)
theorem OwnP.pairs {t:TypeId} (h:OwnP t w v xs):PairsR (λb=>v.ownBlock=some b) w v xs:=Own.sl h
theorem OwnP.ext {t:TypeId} (h:OwnP t w v xs) (hw:Ext w w'):OwnP t w' v xs:=Own.ext h hw
theorem OwnP.nil (t:TypeId):OwnP t w (.slice none 0 0) []:=Own.nil 0 2 t w
end
end
end Go.Vc
namespace Go.Proofs.YtjkkiaacmedfdaaGreatDoor
open Go Go.Vc Go.Proofs
theorem mixed:P.follows .mixedOrders=true:=rK
abbrev Xd:Nat:=6
abbrev ZM:Nat:=7
abbrev y70:Nat:=8
abbrev y10:Nat:=9
abbrev QQ:Nat:=10
abbrev Kz:Nat:=12
abbrev Kx:Nat:=13
abbrev Ki:Nat:=15
abbrev Kw:Nat:=16
abbrev QF:Nat:=17
abbrev Ub:Nat:=19
abbrev U9:Nat:=20
abbrev Q3:Nat:=21
abbrev XQ:Nat:=22
abbrev Vu:Nat:=23
abbrev Vt:Nat:=24
abbrev WD:Nat:=25
abbrev WB:Nat:=26
abbrev j3:Nat:=27
abbrev U3:Nat:=28
abbrev Ue:Nat:=29
abbrev zy0:Nat:=30
abbrev Ve:Nat:=31
abbrev yY0:Nat:=32
abbrev Kr:Nat:=34
abbrev Jm:Nat:=35
abbrev XX:Nat:=36
abbrev qT:Nat:=37
abbrev WU:Nat:=39
abbrev Kk:Nat:=40
abbrev WW:Nat:=41
abbrev Ky:Nat:=42
abbrev Um:Nat:=43
abbrev jJ:Nat:=44
abbrev WA:Nat:=45
abbrev WY:Nat:=46
abbrev WZ:Nat:=47
abbrev X1:Nat:=48
abbrev Xh:Nat:=49
abbrev qF:Nat:=50
abbrev KA:Nat:=51
abbrev Vr:Nat:=52
abbrev xM:Nat:=53
abbrev WX:Nat:=54
abbrev YW:Nat:=55
abbrev Zf:Nat:=56
abbrev YX:Nat:=57
abbrev Ud:Nat:=58
abbrev qg:Nat:=59
abbrev zx0:Nat:=60
abbrev Vf:Nat:=61
abbrev Kf:Nat:=62
abbrev qw:Nat:=63
abbrev VC:Nat:=65
abbrev VB:Nat:=66
abbrev VA:Nat:=67
abbrev Vz:Nat:=68
abbrev QM:Nat:=69
abbrev zQ0:Nat:=70
abbrev zW0:Nat:=71
abbrev Vq:Nat:=72
abbrev y00:Nat:=73
abbrev zT0:Nat:=74
abbrev U1:Nat:=75
abbrev y30:Nat:=76
abbrev Vd:Nat:=77
abbrev xO:Nat:=78
abbrev j20:Nat:=79
abbrev Jl:Nat:=80
abbrev qf:Nat:=81
abbrev y80:Nat:=82
abbrev ja:Nat:=83
abbrev Ug:Nat:=84
abbrev zV0:Nat:=85
abbrev jV:Nat:=86
abbrev U4:Nat:=87
abbrev ZL:Nat:=88
abbrev jZ:Nat:=89
abbrev jp:Nat:=90
abbrev qG:Nat:=91
abbrev j4:Nat:=92
abbrev WF:Nat:=95
abbrev yR0:Nat:=96
abbrev zJ0:Nat:=97
abbrev zM0:Nat:=98
abbrev WM:Nat:=99
abbrev Kl:Nat:=100
abbrev Vo:Nat:=101
abbrev WT:Nat:=102
abbrev Xg:Nat:=103
abbrev zR0:Nat:=104
abbrev U0:Nat:=105
abbrev WV:Nat:=106
abbrev Vn:Nat:=107
abbrev zP0:Nat:=108
abbrev Vs:Nat:=109
abbrev qd:Nat:=117
abbrev y60:Nat:=118
abbrev Kt:Nat:=119
abbrev j30:Nat:=120
abbrev xW0:Nat:=121
abbrev KB:Nat:=122
abbrev XU:Nat:=123
abbrev Ui:Nat:=124
abbrev WE:Nat:=125
abbrev Vg:Nat:=126
abbrev yS0:Nat:=127
abbrev zE0:Nat:=128
abbrev zF0:Nat:=129
abbrev WL:Nat:=130
abbrev yU0:Nat:=131
abbrev U2:Nat:=132
abbrev ke:Nat:=133
abbrev qU:Nat:=134
abbrev jx:Nat:=135
abbrev jy:Nat:=136
abbrev kc:Nat:=137
abbrev jj:Nat:=138
abbrev jz:Nat:=139
abbrev Jr:Nat:=140
abbrev yX0:Nat:=141
abbrev yW0:Nat:=142
abbrev Kj:Nat:=143
abbrev Vp:Nat:=144
abbrev Vm:Nat:=145
abbrev xN:Nat:=150
abbrev xX0:Nat:=151
abbrev QK:Nat:=152
abbrev Xn:Nat:=153
abbrev kD:Nat:=154
abbrev Vx:Nat:=155
abbrev Kq:Nat:=156
abbrev XV:Nat:=157
abbrev Uf:Nat:=158
abbrev Zj:Nat:=159
abbrev zw0:Nat:=160
abbrev WC:Nat:=161
abbrev WG:Nat:=162
abbrev zG0:Nat:=163
abbrev yT0:Nat:=164
abbrev zC0:Nat:=165
abbrev zH0:Nat:=166
abbrev WK:Nat:=167
abbrev WH:Nat:=168
abbrev WI:Nat:=169
abbrev zB0:Nat:=170
abbrev zD0:Nat:=171
abbrev Vh:Nat:=172
abbrev Vi:Nat:=173
abbrev WR:Nat:=174
abbrev Vk:Nat:=175
abbrev yV0:Nat:=176
abbrev y20:Nat:=177
abbrev Jx:Nat:=178
abbrev Ks:Nat:=179
abbrev XW:Nat:=180
abbrev j10:Nat:=181
abbrev Uh:Nat:=182
abbrev y40:Nat:=183
abbrev zS0:Nat:=184
abbrev U6:Nat:=185
abbrev zZ0:Nat:=186
abbrev U7:Nat:=187
abbrev U8:Nat:=188
abbrev ZN:Nat:=192
abbrev Vv:Nat:=193
abbrev Zg:Nat:=194
abbrev Xo:Nat:=195
abbrev jq:Nat:=196
abbrev km:Nat:=197
abbrev QI:Nat:=198
abbrev ZQ:Nat:=199
abbrev Yw:Nat:=200
abbrev Yx:Nat:=201
abbrev ZP:Nat:=202
abbrev zX0:Nat:=203
abbrev zK0:Nat:=204
abbrev zA0:Nat:=205
abbrev zz0:Nat:=206
abbrev WJ:Nat:=207
abbrev WO:Nat:=208
abbrev Kg:Nat:=209
abbrev zL0:Nat:=210
abbrev Vj:Nat:=211
abbrev WS:Nat:=212
abbrev Vl:Nat:=213
abbrev Jv:Nat:=214
abbrev Va:Nat:=215
abbrev zU0:Nat:=216
abbrev Kh:Nat:=217
abbrev zY0:Nat:=218
abbrev qx:Nat:=223
abbrev Jt:Nat:=224
abbrev XT:Nat:=225
abbrev YZ:Nat:=226
abbrev j9:Nat:=227
abbrev YV:Nat:=228
abbrev Ko:Nat:=229
abbrev ZU:Nat:=230
abbrev qe:Nat:=231
abbrev ZT:Nat:=232
abbrev QN:Nat:=233
abbrev kG:Nat:=234
abbrev Zy:Nat:=235
abbrev yx0:Nat:=236
abbrev QJ:Nat:=237
abbrev jh:Nat:=238
abbrev Zi:Nat:=239
abbrev XS:Nat:=240
abbrev Xf:Nat:=241
abbrev Yv:Nat:=242
abbrev QH:Nat:=243
abbrev Jk:Nat:=244
abbrev Jj:Nat:=245
abbrev zI0:Nat:=246
abbrev WN:Nat:=247
abbrev WP:Nat:=248
abbrev WQ:Nat:=249
abbrev zO0:Nat:=250
abbrev Ua:Nat:=251
abbrev U5:Nat:=252
abbrev YY:Nat:=253
abbrev kR:Nat:=255
abbrev Uc:Nat:=256
abbrev xW:Nat:=260
abbrev kj:Nat:=261
abbrev yZ0:Nat:=262
abbrev Zk:Nat:=263
abbrev qH:Nat:=264
abbrev Vy:Nat:=265
abbrev kE:Nat:=266
abbrev xX:Nat:=267
abbrev Q2:Nat:=268
abbrev QO:Nat:=269
abbrev Q0:Nat:=270
abbrev kF:Nat:=271
abbrev ZS:Nat:=272
abbrev Yz:Nat:=273
abbrev Xj:Nat:=274
abbrev Xm:Nat:=275
abbrev Yy:Nat:=276
abbrev Xe:Nat:=277
abbrev jW:Nat:=278
abbrev XR:Nat:=279
abbrev ZO:Nat:=280
abbrev kQ:Nat:=281
abbrev ZR:Nat:=282
abbrev QR:Nat:=283
abbrev ky:Nat:=284
abbrev yE:Nat:=285
abbrev zN0:Nat:=286
abbrev JK:Nat:=288
abbrev Km:Nat:=291
abbrev Ju:Nat:=292
abbrev qm:Nat:=293
abbrev Xl:Nat:=294
abbrev XZ:Nat:=295
abbrev XY:Nat:=296
abbrev Xk:Nat:=297
abbrev KC:Nat:=298
abbrev We:Nat:=301
abbrev JJ:Nat:=302
abbrev QG:Nat:=303
abbrev Js:Nat:=304
abbrev xV0:Nat:=308
abbrev Xi:Nat:=309
abbrev Yu:Nat:=310
abbrev jk:Nat:=311
abbrev yl:Nat:=350
abbrev yu:Nat:=351
abbrev kB:Nat:=352
abbrev jY:Nat:=353
abbrev Zh:Nat:=354
abbrev y50:Nat:=355
abbrev VE:Nat:=356
abbrev Vw:Nat:=357
abbrev ki:Nat:=358
abbrev jC:Nat:=359
abbrev Ul:Nat:=360
abbrev Ku:Nat:=361
abbrev xn:Nat:=362
abbrev xm:Nat:=363
abbrev xl:Nat:=364
abbrev xk:Nat:=365
abbrev xj:Nat:=366
abbrev xi:Nat:=367
abbrev xh:Nat:=368
abbrev Kv:Nat:=369
abbrev xg:Nat:=370
abbrev xf:Nat:=371
abbrev x8:Nat:=372
abbrev x7:Nat:=373
abbrev YA:Nat:=374
abbrev kg:Nat:=375
abbrev jB:Nat:=376
abbrev Uk:Nat:=377
abbrev Jw:Nat:=378
abbrev jX:Nat:=379
abbrev jv:Nat:=380
abbrev jw:Nat:=381
abbrev ji:Nat:=382
abbrev zh0:Nat:=383
abbrev kf:Nat:=384
abbrev jA:Nat:=385
abbrev Uj:Nat:=386
abbrev kC:Nat:=387
abbrev k8:Nat:=388
abbrev jD:Nat:=389
abbrev jl:Nat:=390
abbrev zi0:Nat:=391
abbrev kk:Nat:=392
abbrev jE:Nat:=393
abbrev yJ:Nat:=0
abbrev jm:Nat:=1
abbrev qs:Nat:=2
abbrev xQ:Nat:=3
abbrev jd:Nat:=7
abbrev T_T_:Nat:=0
abbrev T_int64:Nat:=2
abbrev zW:Nat:=3
abbrev xF:Nat:=4
abbrev Yg:Nat:=5
abbrev xc:Nat:=9
abbrev xd:Nat:=22
abbrev xe:Nat:=23
abbrev ze:Nat:=24
abbrev za:Nat:=26
abbrev zh:Nat:=29
abbrev zU:Nat:=58
abbrev yc:Nat:=61
abbrev yR:Nat:=68
abbrev yZ:Nat:=78
abbrev zL:Nat:=83
abbrev zr:Nat:=86
abbrev y3:Nat:=88
abbrev xG:Nat:=89
abbrev yV:Nat:=91
abbrev xw:Nat:=93
abbrev qB:Nat:=102
abbrev zR:Nat:=104
abbrev zO:Nat:=105
abbrev zI:Nat:=106
abbrev zQ:Nat:=107
abbrev zH:Nat:=108
abbrev zM:Nat:=109
abbrev zV:Nat:=110
abbrev xL:Nat:=111
abbrev Zr:Nat:=112
abbrev zy:Nat:=114
abbrev zi:Nat:=116
abbrev yF:Nat:=117
abbrev zJ:Nat:=118
abbrev x80:Nat:=120
abbrev kK:Nat:=137
abbrev zA:Nat:=146
abbrev zx:Nat:=148
abbrev zB:Nat:=150
abbrev zw:Nat:=155
abbrev qz:Nat:=158
abbrev zX:Nat:=162
abbrev yd:Nat:=164
abbrev yL:Nat:=180
abbrev W6:Nat:=182
abbrev yx:Nat:=184
abbrev zp:Nat:=204
abbrev zg:Nat:=216
abbrev yD:Nat:=218
abbrev yM:Nat:=219
abbrev ym:Nat:=221
abbrev JH:Nat:=222
abbrev yH:Nat:=224
abbrev yw:Nat:=225
abbrev JR:Nat:=227
abbrev Jd:Nat:=228
abbrev yy:Nat:=232
abbrev kd0:Nat:=233
abbrev zK:Nat:=263
abbrev y6:Nat:=265
abbrev yb:Nat:=267
abbrev yw0:Nat:=286
abbrev zc0:Nat:=306
abbrev Je:Nat:=338
abbrev ZA0:Nat:=353
abbrev yQ:Nat:=388
abbrev xa:Nat:=405
theorem xt:yn zW (nI 0):=by unfold yn;kernel_rfl
@[push_cast] theorem Wy:oneB zW=true:=rK
@[push_cast] theorem yO:qa zW 1=true:=rK
theorem Wg:qq0 zW .i64:=by unfold qq0;kernel_rfl
theorem xl0:(P.underlying zW).isSome=true:=rK
theorem yy0:yn xF (.bool false):=by unfold yn;kernel_rfl
@[push_cast] theorem Zs0:oneB xF=true:=rK
@[push_cast] theorem xa0:qa xF 1=true:=rK
@[push_cast] theorem o_uint8:oneB Yg=true:=rK
theorem kQ0:qq0 Yg .u8:=by unfold qq0;kernel_rfl
theorem xk0:(P.underlying Yg).isSome=true:=rK
theorem kT:yn xc (.string ⟨#[]⟩):=by unfold yn;kernel_rfl
@[push_cast] theorem kD0:oneB xc=true:=rK
@[push_cast] theorem Wk:qa xc 1=true:=rK
theorem kZ:P.underlying xc=some .string:=rK
@[push_cast] theorem o_Luint8:oneB xd=true:=rK
@[push_cast] theorem kN0:elZ xd 1 1=true:=rK
theorem XJ:P.underlying xd=some (.slice Yg):=rK
theorem jy0:YT xd=Yg:=rK
@[push_cast] theorem s_Luint8:isSl xd=true:=rK
@[push_cast] theorem Zb0:elB xd 1=true:=rK
@[push_cast] theorem Ji:oneB xe=true:=rK
@[push_cast] theorem Y5:elZ xe 2 24=true:=rK
theorem jg:P.underlying xe=some (.slice yR):=rK
theorem Qf:YT xe=yR:=rK
@[push_cast] theorem Zq0:isSl xe=true:=rK
@[push_cast] theorem Yd:elB xe 2=true:=rK
@[push_cast] theorem zv0:oneB ze=true:=rK
@[push_cast] theorem xZ:qa ze 1=true:=rK
@[push_cast] theorem qh:elZ ze 5 64=true:=rK
theorem y5:P.underlying ze=some (.slice za):=rK
theorem qn:YT ze=za:=rK
@[push_cast] theorem ZI:isSl ze=true:=rK
@[push_cast] theorem Zz0:elB ze 5=true:=rK
theorem zn:yn za (.agg #[(nI 0),(nI 0),(nI 0),(.string ⟨#[]⟩),(.slice none 0 0)]):=by unfold yn;kernel_rfl
theorem ql:strF za=some ([(0,1),(1,1),(2,1),(3,1),(4,1)],[(nI 0),(nI 0),(nI 0),(.string ⟨#[]⟩),(.slice none 0 0)]):=rK
@[push_cast] theorem zc:aggB za 5=true:=rK
@[push_cast] theorem yh:qa za 5=true:=rK
theorem JS:yn zh (.slice none 0 0):=by unfold yn;kernel_rfl
@[push_cast] theorem Zt0:oneB zh=true:=rK
@[push_cast] theorem qS:qa zh 1=true:=rK
@[push_cast] theorem xu:elZ zh 1 8=true:=rK
theorem x6:P.underlying zh=some (.slice zW):=rK
theorem qy:YT zh=zW:=rK
@[push_cast] theorem Zp0:isSl zh=true:=rK
@[push_cast] theorem Qh:elB zh 1=true:=rK
@[push_cast] theorem zt0:oneB zU=true:=rK
theorem Zm:P.underlying zU=some (.map 3 120):=rK
theorem za0:strF yc=some ([(0,1),(1,1)],[(.slice none 0 0),(.map none)]):=rK
@[push_cast] theorem xI:aggB yc 2=true:=rK
theorem yW:yn yR (.agg #[(.string ⟨#[]⟩),(nI 0)]):=by unfold yn;kernel_rfl
theorem x70:strF yR=some ([(0,1),(1,1)],[(.string ⟨#[]⟩),(nI 0)]):=rK
@[push_cast] theorem ZZ0:aggB yR 2=true:=rK
@[push_cast] theorem jQ:qa yR 2=true:=rK
theorem ys0:strF yZ=some ([(0,1),(1,1)],[(.slice none 0 0),(nI 0)]):=rK
theorem ke0:yn zL (.slice none 0 0):=by unfold yn;kernel_rfl
@[push_cast] theorem o_LLint:oneB zL=true:=rK
@[push_cast] theorem Qw:qa zL 1=true:=rK
@[push_cast] theorem Y6:elZ zL 1 24=true:=rK
theorem Qy:P.underlying zL=some (.slice zh):=rK
theorem UX:YT zL=zh:=rK
@[push_cast] theorem ZP0:isSl zL=true:=rK
@[push_cast] theorem Y30:elB zL 1=true:=rK
theorem xp:yn zr (.agg #[(nI 0),(.slice none 0 0)]):=by unfold yn;kernel_rfl
theorem Jb:strF zr=some ([(0,1),(1,1)],[(nI 0),(.slice none 0 0)]):=rK
@[push_cast] theorem zF:aggB zr 2=true:=rK
theorem qh0:strF y3=some ([(0,1),(1,1),(2,1),(3,2),(5,1)],[(.slice none 0 0),(.slice none 0 0),(.slice none 0 0),(nI 0),(.slice none 0 0),(.slice none 0 0)]):=rK
theorem kV:P.underlying xG=some (.slice yV):=rK
@[push_cast] theorem Wa:isSl xG=true:=rK
@[push_cast] theorem Z4:elB xG 1=true:=rK
theorem ku:yn yV .nilFunc:=by unfold yn;kernel_rfl
@[push_cast] theorem kP:oneB yV=true:=rK
@[push_cast] theorem kM:qa yV 1=true:=rK
@[push_cast] theorem xr:oneB xw=true:=rK
@[push_cast] theorem ZC0:qa xw 1=true:=rK
theorem yu0:strF qB=some ([(0,1),(1,1)],[(.string ⟨#[]⟩),(nI 0)]):=rK
theorem qp:yn zR (.agg #[(.string ⟨#[]⟩),(nI 0)]):=by unfold yn;kernel_rfl
theorem z60:strF zR=some ([(0,2)],[(.string ⟨#[]⟩),(nI 0)]):=rK
@[push_cast] theorem Ux:aggB zR 2=true:=rK
theorem jO:yn zO (.agg #[(.string ⟨#[]⟩),(nI 0)]):=by unfold yn;kernel_rfl
theorem W2:strF zO=some ([(0,2)],[(.string ⟨#[]⟩),(nI 0)]):=rK
theorem ZC:yn zI (.agg #[(.string ⟨#[]⟩),(nI 0)]):=by unfold yn;kernel_rfl
theorem W0:strF zI=some ([(0,2)],[(.string ⟨#[]⟩),(nI 0)]):=rK
@[push_cast] theorem VI:aggB zI 2=true:=rK
theorem yI:yn zQ (.agg #[(.string ⟨#[]⟩),(nI 0)]):=by unfold yn;kernel_rfl
theorem VY:strF zQ=some ([(0,2)],[(.string ⟨#[]⟩),(nI 0)]):=rK
@[push_cast] theorem VG:aggB zQ 2=true:=rK
theorem yN:yn zH (.agg #[(.string ⟨#[]⟩),(nI 0)]):=by unfold yn;kernel_rfl
theorem V6:strF zH=some ([(0,2)],[(.string ⟨#[]⟩),(nI 0)]):=rK
@[push_cast] theorem KM:aggB zH 2=true:=rK
theorem xo:yn zM (.agg #[(.string ⟨#[]⟩),(nI 0)]):=by unfold yn;kernel_rfl
theorem VZ:strF zM=some ([(0,2)],[(.string ⟨#[]⟩),(nI 0)]):=rK
@[push_cast] theorem VH:aggB zM 2=true:=rK
theorem xP:yn zV (.agg #[(.string ⟨#[]⟩),(nI 0)]):=by unfold yn;kernel_rfl
theorem z90:strF zV=some ([(0,2)],[(.string ⟨#[]⟩),(nI 0)]):=rK
@[push_cast] theorem Uy:aggB zV 2=true:=rK
@[push_cast] theorem x00:elZ xL 2 16=true:=rK
theorem yD0:P.underlying xL=some (.slice zi):=rK
@[push_cast] theorem Y20:elB xL 2=true:=rK
@[push_cast] theorem Wz:oneB Zr=true:=rK
theorem Jp:yn zy (.agg #[(.string ⟨#[]⟩),(nI 0),.nilFunc]):=by unfold yn;kernel_rfl
theorem V7:strF zy=some ([(0,2),(2,1)],[(.string ⟨#[]⟩),(nI 0),.nilFunc]):=rK
@[push_cast] theorem Y9:aggB zy 3=true:=rK
theorem zY:yn zi (.agg #[(nI 0),(nI 0)]):=by unfold yn;kernel_rfl
theorem J9:strF zi=some ([(0,1),(1,1)],[(nI 0),(nI 0)]):=rK
@[push_cast] theorem zt:aggB zi 2=true:=rK
@[push_cast] theorem xH0:qa zi 2=true:=rK
@[push_cast] theorem yb0:elZ yF 1 16=true:=rK
theorem kU:P.underlying yF=some (.slice xc):=rK
theorem qb0:YT yF=xc:=rK
@[push_cast] theorem Yz0:isSl yF=true:=rK
theorem jP:yn zJ (.agg #[(.string ⟨#[]⟩),(nI 0)]):=by unfold yn;kernel_rfl
theorem W5:strF zJ=some ([(0,2)],[(.string ⟨#[]⟩),(nI 0)]):=rK
theorem YR:P.underlying kK=some (.map 9 3):=rK
@[push_cast] theorem Zu0:oneB zA=true:=rK
@[push_cast] theorem Jg:qa zA 1=true:=rK
@[push_cast] theorem qA:elZ zA 3 24=true:=rK
theorem jf:P.underlying zA=some (.slice zp):=rK
theorem Qe:YT zA=zp:=rK
@[push_cast] theorem qb:isSl zA=true:=rK
@[push_cast] theorem Yc:elB zA 3=true:=rK
theorem qX:yn zx (.agg #[(nI 0),(.slice none 0 0)]):=by unfold yn;kernel_rfl
theorem Ja:strF zx=some ([(0,1),(1,1)],[(nI 0),(.slice none 0 0)]):=rK
@[push_cast] theorem zZ:aggB zx 2=true:=rK
theorem xx:yn zB (.agg #[(nI 0),(.slice none 0 0),(.bool false)]):=by unfold yn;kernel_rfl
theorem x60:strF zB=some ([(0,2),(2,1)],[(nI 0),(.slice none 0 0),(.bool false)]):=rK
@[push_cast] theorem j5:aggB zB 3=true:=rK
theorem qW:yn zw (.agg #[(.slice none 0 0),(.slice none 0 0),(.slice none 0 0),(nI 0)]):=by unfold yn;kernel_rfl
theorem qi0:strF zw=some ([(0,1),(1,1),(2,1),(3,1)],[(.slice none 0 0),(.slice none 0 0),(.slice none 0 0),(nI 0)]):=rK
@[push_cast] theorem zS:aggB zw 4=true:=rK
@[push_cast] theorem je0:elZ qz 1 1=true:=rK
theorem qM0:P.underlying qz=some (.slice xF):=rK
theorem UW:YT qz=xF:=rK
@[push_cast] theorem s_Lbool:isSl qz=true:=rK
@[push_cast] theorem x40:elB qz 1=true:=rK
theorem qR:P.underlying zX=some (.slice yd):=rK
theorem qN:YT zX=yd:=rK
@[push_cast] theorem Qu:isSl zX=true:=rK
@[push_cast] theorem Qv:elB zX 1=true:=rK
@[push_cast] theorem Yt:oneB yd=true:=rK
@[push_cast] theorem Ys:qa yd 1=true:=rK
@[push_cast] theorem qX0:oneB yL=true:=rK
@[push_cast] theorem jY0:oneB W6=true:=rK
theorem z80:strF yx=some ([(0,2),(2,1),(3,1),(4,1),(5,1)],[(nI 0),(.slice none 0 0),(.pointer none),(.slice none 0 0),(.slice none 0 0),(nI 0)]):=rK
theorem kz:yn zp (.agg #[(.bool false),(nI 0),(nI 0)]):=by unfold yn;kernel_rfl
theorem Zq:strF zp=some ([(0,1),(1,1),(2,1)],[(.bool false),(nI 0),(nI 0)]):=rK
@[push_cast] theorem xJ:aggB zp 3=true:=rK
@[push_cast] theorem X4:qa zp 3=true:=rK
theorem qC:yn zg (.slice none 0 0):=by unfold yn;kernel_rfl
@[push_cast] theorem Vb:oneB zg=true:=rK
@[push_cast] theorem j6:qa zg 1=true:=rK
@[push_cast] theorem yA:elZ zg 1 8=true:=rK
theorem yz:P.underlying zg=some (.slice yw):=rK
theorem yK:YT zg=yw:=rK
@[push_cast] theorem yS:isSl zg=true:=rK
@[push_cast] theorem yG:elB zg 1=true:=rK
@[push_cast] theorem qn0:oneB yD=true:=rK
@[push_cast] theorem Kb:oneB yM=true:=rK
theorem jr:P.underlying yM=some (.map 9 216):=rK
theorem W4:strF ym=some ([(0,1),(1,1),(2,1),(3,1)],[(.pointer none),(.slice none 0 0),(.map none),(.map none)]):=rK
@[push_cast] theorem qm0:oneB JH=true:=rK
theorem W3:strF yH=some ([(0,1),(1,1)],[(.pointer none),.nilIface]):=rK
theorem yf:yn yw (nI 0):=by unfold yn;kernel_rfl
@[push_cast] theorem kE0:oneB yw=true:=rK
@[push_cast] theorem y4:qa yw 1=true:=rK
theorem x20:qq0 Jd .u64:=by unfold qq0;kernel_rfl
theorem K4:(P.underlying Jd).isSome=true:=rK
theorem yt0:strF yy=some ([(0,1),(1,1),(2,1)],[(.slice none 0 0),(.slice none 0 0),(.slice none 0 0)]):=rK
@[push_cast] theorem KH:elZ zK 1 24=true:=rK
theorem ZH:P.underlying zK=some (.slice zg):=rK
@[push_cast] theorem qU0:isSl zK=true:=rK
@[push_cast] theorem KZ:elB zK 1=true:=rK
@[push_cast] theorem zu0:oneB y6=true:=rK
theorem qJ:P.underlying y6=some (.map 204 3):=rK
theorem W1:strF yb=some ([(0,2),(2,1)],[(nI 0),(.slice none 0 0),(.map none)]):=rK
theorem jm0:qq0 yw0 .u64:=by unfold qq0;kernel_rfl
theorem ZM0:(P.underlying yw0).isSome=true:=rK
theorem kp0:P.underlying zc0=some (.slice zL):=rK
@[push_cast] theorem s_LLLint:isSl zc0=true:=rK
@[push_cast] theorem e_LLLint:elB zc0 1=true:=rK
@[push_cast] theorem xA:imapB Je=true:=rK
theorem VQ:fieldB za 0 0=true:=rK
@[push_cast] theorem k70 {w:World} {K:oK} (a:Addr):zD za (.pointer (some a)) 0 w K=K (.pointer (some (a.add 0))) w:=zz VQ a
theorem VO:fieldB za 1 1=true:=rK
@[push_cast] theorem k60 {w:World} {K:oK} (a:Addr):zD za (.pointer (some a)) 1 w K=K (.pointer (some (a.add 1))) w:=zz VO a
theorem VN:fieldB za 2 2=true:=rK
@[push_cast] theorem k50 {w:World} {K:oK} (a:Addr):zD za (.pointer (some a)) 2 w K=K (.pointer (some (a.add 2))) w:=zz VN a
theorem VM:fieldB za 3 3=true:=rK
@[push_cast] theorem k40 {w:World} {K:oK} (a:Addr):zD za (.pointer (some a)) 3 w K=K (.pointer (some (a.add 3))) w:=zz VM a
theorem VL:fieldB za 4 4=true:=rK
@[push_cast] theorem k30 {w:World} {K:oK} (a:Addr):zD za (.pointer (some a)) 4 w K=K (.pointer (some (a.add 4))) w:=zz VL a
theorem JE:fieldB yc 0 0=true:=rK
@[push_cast] theorem qx0 {w:World} {K:oK} (a:Addr):zD yc (.pointer (some a)) 0 w K=K (.pointer (some (a.add 0))) w:=zz JE a
theorem JD:fieldB yc 1 1=true:=rK
@[push_cast] theorem qw0 {w:World} {K:oK} (a:Addr):zD yc (.pointer (some a)) 1 w K=K (.pointer (some (a.add 1))) w:=zz JD a
theorem VW:fieldB yR 0 0=true:=rK
@[push_cast] theorem kc0 {w:World} {K:oK} (a:Addr):zD yR (.pointer (some a)) 0 w K=K (.pointer (some (a.add 0))) w:=zz VW a
theorem VV:fieldB yR 1 1=true:=rK
@[push_cast] theorem kb0 {w:World} {K:oK} (a:Addr):zD yR (.pointer (some a)) 1 w K=K (.pointer (some (a.add 1))) w:=zz VV a
theorem KO:fieldB yZ 0 0=true:=rK
@[push_cast] theorem Yb {w:World} {K:oK} (a:Addr):zD yZ (.pointer (some a)) 0 w K=K (.pointer (some (a.add 0))) w:=zz KO a
theorem KN:fieldB yZ 1 1=true:=rK
@[push_cast] theorem KX {w:World} {K:oK} (a:Addr):zD yZ (.pointer (some a)) 1 w K=K (.pointer (some (a.add 1))) w:=zz KN a
theorem UQ:fieldB zr 0 0=true:=rK
@[push_cast] theorem Z90 {w:World} {K:oK} (a:Addr):zD zr (.pointer (some a)) 0 w K=K (.pointer (some (a.add 0))) w:=zz UQ a
theorem UP:fieldB zr 1 1=true:=rK
@[push_cast] theorem UU {w:World} {K:oK} (a:Addr):zD zr (.pointer (some a)) 1 w K=K (.pointer (some (a.add 1))) w:=zz UP a
theorem UG:fieldB y3 0 0=true:=rK
@[push_cast] theorem Z30 {w:World} {K:oK} (a:Addr):zD y3 (.pointer (some a)) 0 w K=K (.pointer (some (a.add 0))) w:=zz UG a
theorem UF:fieldB y3 1 1=true:=rK
@[push_cast] theorem Z20 {w:World} {K:oK} (a:Addr):zD y3 (.pointer (some a)) 1 w K=K (.pointer (some (a.add 1))) w:=zz UF a
theorem UE:fieldB y3 2 2=true:=rK
@[push_cast] theorem Z10 {w:World} {K:oK} (a:Addr):zD y3 (.pointer (some a)) 2 w K=K (.pointer (some (a.add 2))) w:=zz UE a
theorem UD:fieldB y3 3 3=true:=rK
@[push_cast] theorem Z00 {w:World} {K:oK} (a:Addr):zD y3 (.pointer (some a)) 3 w K=K (.pointer (some (a.add 3))) w:=zz UD a
theorem UC:fieldB y3 4 5=true:=rK
@[push_cast] theorem kZ0 {w:World} {K:oK} (a:Addr):zD y3 (.pointer (some a)) 4 w K=K (.pointer (some (a.add 5))) w:=zz UC a
theorem KU:fieldB qB 0 0=true:=rK
@[push_cast] theorem jv0 {w:World} {K:oK} (a:Addr):zD qB (.pointer (some a)) 0 w K=K (.pointer (some (a.add 0))) w:=zz KU a
theorem KT:fieldB qB 1 1=true:=rK
@[push_cast] theorem ju0 {w:World} {K:oK} (a:Addr):zD qB (.pointer (some a)) 1 w K=K (.pointer (some (a.add 1))) w:=zz KT a
theorem Qd:fieldB zy 1 2=true:=rK
@[push_cast] theorem xv0 {w:World} {K:oK} (a:Addr):zD zy (.pointer (some a)) 1 w K=K (.pointer (some (a.add 2))) w:=zz Qd a
theorem UI:fieldB zi 0 0=true:=rK
@[push_cast] theorem Z50 {w:World} {K:oK} (a:Addr):zD zi (.pointer (some a)) 0 w K=K (.pointer (some (a.add 0))) w:=zz UI a
theorem UH:fieldB zi 1 1=true:=rK
@[push_cast] theorem Z40 {w:World} {K:oK} (a:Addr):zD zi (.pointer (some a)) 1 w K=K (.pointer (some (a.add 1))) w:=zz UH a
theorem UO:fieldB zx 0 0=true:=rK
@[push_cast] theorem Z80 {w:World} {K:oK} (a:Addr):zD zx (.pointer (some a)) 0 w K=K (.pointer (some (a.add 0))) w:=zz UO a
theorem UN:fieldB zx 1 1=true:=rK
@[push_cast] theorem Z70 {w:World} {K:oK} (a:Addr):zD zx (.pointer (some a)) 1 w K=K (.pointer (some (a.add 1))) w:=zz UN a
theorem VK:fieldB zB 0 0=true:=rK
@[push_cast] theorem k20 {w:World} {K:oK} (a:Addr):zD zB (.pointer (some a)) 0 w K=K (.pointer (some (a.add 0))) w:=zz VK a
theorem VJ:fieldB zB 1 2=true:=rK
@[push_cast] theorem k10 {w:World} {K:oK} (a:Addr):zD zB (.pointer (some a)) 1 w K=K (.pointer (some (a.add 2))) w:=zz VJ a
theorem UM:fieldB zw 0 0=true:=rK
@[push_cast] theorem UT {w:World} {K:oK} (a:Addr):zD zw (.pointer (some a)) 0 w K=K (.pointer (some (a.add 0))) w:=zz UM a
theorem UL:fieldB zw 1 1=true:=rK
@[push_cast] theorem US {w:World} {K:oK} (a:Addr):zD zw (.pointer (some a)) 1 w K=K (.pointer (some (a.add 1))) w:=zz UL a
theorem UK:fieldB zw 2 2=true:=rK
@[push_cast] theorem UR {w:World} {K:oK} (a:Addr):zD zw (.pointer (some a)) 2 w K=K (.pointer (some (a.add 2))) w:=zz UK a
theorem UJ:fieldB zw 3 3=true:=rK
@[push_cast] theorem Z60 {w:World} {K:oK} (a:Addr):zD zw (.pointer (some a)) 3 w K=K (.pointer (some (a.add 3))) w:=zz UJ a
theorem JC:fieldB yx 0 0=true:=rK
@[push_cast] theorem qv0 {w:World} {K:oK} (a:Addr):zD yx (.pointer (some a)) 0 w K=K (.pointer (some (a.add 0))) w:=zz JC a
theorem JB:fieldB yx 1 2=true:=rK
@[push_cast] theorem qu0 {w:World} {K:oK} (a:Addr):zD yx (.pointer (some a)) 1 w K=K (.pointer (some (a.add 2))) w:=zz JB a
theorem JA:fieldB yx 2 3=true:=rK
@[push_cast] theorem qt0 {w:World} {K:oK} (a:Addr):zD yx (.pointer (some a)) 2 w K=K (.pointer (some (a.add 3))) w:=zz JA a
theorem Jz:fieldB yx 3 4=true:=rK
@[push_cast] theorem qs0 {w:World} {K:oK} (a:Addr):zD yx (.pointer (some a)) 3 w K=K (.pointer (some (a.add 4))) w:=zz Jz a
theorem Jy:fieldB yx 4 5=true:=rK
@[push_cast] theorem qr0 {w:World} {K:oK} (a:Addr):zD yx (.pointer (some a)) 4 w K=K (.pointer (some (a.add 5))) w:=zz Jy a
theorem VU:fieldB zp 0 0=true:=rK
@[push_cast] theorem ka0 {w:World} {K:oK} (a:Addr):zD zp (.pointer (some a)) 0 w K=K (.pointer (some (a.add 0))) w:=zz VU a
theorem VS:fieldB zp 1 1=true:=rK
@[push_cast] theorem k90 {w:World} {K:oK} (a:Addr):zD zp (.pointer (some a)) 1 w K=K (.pointer (some (a.add 1))) w:=zz VS a
theorem VR:fieldB zp 2 2=true:=rK
@[push_cast] theorem k80 {w:World} {K:oK} (a:Addr):zD zp (.pointer (some a)) 2 w K=K (.pointer (some (a.add 2))) w:=zz VR a
theorem J7:fieldB ym 0 0=true:=rK
@[push_cast] theorem q90 {w:World} {K:oK} (a:Addr):zD ym (.pointer (some a)) 0 w K=K (.pointer (some (a.add 0))) w:=zz J7 a
theorem J6:fieldB ym 1 1=true:=rK
@[push_cast] theorem q80 {w:World} {K:oK} (a:Addr):zD ym (.pointer (some a)) 1 w K=K (.pointer (some (a.add 1))) w:=zz J6 a
theorem J5:fieldB ym 2 2=true:=rK
@[push_cast] theorem q70 {w:World} {K:oK} (a:Addr):zD ym (.pointer (some a)) 2 w K=K (.pointer (some (a.add 2))) w:=zz J5 a
theorem J4:fieldB ym 3 3=true:=rK
@[push_cast] theorem q60 {w:World} {K:oK} (a:Addr):zD ym (.pointer (some a)) 3 w K=K (.pointer (some (a.add 3))) w:=zz J4 a
theorem J3:fieldB yH 0 0=true:=rK
@[push_cast] theorem q50 {w:World} {K:oK} (a:Addr):zD yH (.pointer (some a)) 0 w K=K (.pointer (some (a.add 0))) w:=zz J3 a
theorem J0:fieldB yH 1 1=true:=rK
@[push_cast] theorem q40 {w:World} {K:oK} (a:Addr):zD yH (.pointer (some a)) 1 w K=K (.pointer (some (a.add 1))) w:=zz J0 a
theorem KR:fieldB yy 0 0=true:=rK
@[push_cast] theorem jt0 {w:World} {K:oK} (a:Addr):zD yy (.pointer (some a)) 0 w K=K (.pointer (some (a.add 0))) w:=zz KR a
theorem KQ:fieldB yy 1 1=true:=rK
@[push_cast] theorem js0 {w:World} {K:oK} (a:Addr):zD yy (.pointer (some a)) 1 w K=K (.pointer (some (a.add 1))) w:=zz KQ a
theorem KP:fieldB yy 2 2=true:=rK
@[push_cast] theorem jr0 {w:World} {K:oK} (a:Addr):zD yy (.pointer (some a)) 2 w K=K (.pointer (some (a.add 2))) w:=zz KP a
theorem QZ:fieldB yb 0 0=true:=rK
@[push_cast] theorem q30 {w:World} {K:oK} (a:Addr):zD yb (.pointer (some a)) 0 w K=K (.pointer (some (a.add 0))) w:=zz QZ a
theorem QY:fieldB yb 1 2=true:=rK
@[push_cast] theorem q20 {w:World} {K:oK} (a:Addr):zD yb (.pointer (some a)) 1 w K=K (.pointer (some (a.add 2))) w:=zz QY a
@[push_cast] theorem kk0 {w:World} {K:oK} (b a:Value):Zm0 zi (.agg ⟨[b,a]⟩) 1 w K=K a w:=y7 rK
noncomputable def mn_kids:String:=match P.info? 104 with|some i=>(match i.methods[0]? with|some m=>m.name|none=>default)|none=>default
noncomputable def ko:String:=match P.info? 104 with|some i=>(match i.methods[1]? with|some m=>m.name|none=>default)|none=>default
noncomputable def qI:String:=match P.info? 104 with|some i=>(match i.methods[2]? with|some m=>m.name|none=>default)|none=>default
noncomputable def Zl:String:=match P.info? 104 with|some i=>(match i.methods[3]? with|some m=>m.name|none=>default)|none=>default
theorem jH0:concB xc=true:=rK
@[push_cast] theorem YB0 {w:World} {K:oK} (v:Value):qk0 xc v w K=K (.iface xc v) w:=kN jH0 v
theorem xR:concB zR=true:=rK
@[push_cast] theorem jZ0 {w:World} {K:oK} (v:Value):qk0 zR v w K=K (.iface zR v) w:=kN xR v
theorem Xr (a b:Value) (w:World):(method (P.types.size+Made.depth) zR (.agg ⟨[a,b]⟩) mn_kids).run P w= .ok (yl,.agg ⟨[a,b]⟩) w:=rK
theorem Xq (a b:Value) (w:World):(method (P.types.size+Made.depth) zR (.agg ⟨[a,b]⟩) ko).run P w= .ok (kB,.agg ⟨[a,b]⟩) w:=rK
theorem YD (a b:Value) (w:World):(method (P.types.size+Made.depth) zR (.agg ⟨[a,b]⟩) qI).run P w= .ok (jY,.agg ⟨[a,b]⟩) w:=rK
theorem Xp (a b:Value) (w:World):(method (P.types.size+Made.depth) zR (.agg ⟨[a,b]⟩) Zl).run P w= .ok (yu,.agg ⟨[a,b]⟩) w:=rK
theorem qj:concB zO=true:=rK
@[push_cast] theorem j70 {w:World} {K:oK} (v:Value):qk0 zO v w K=K (.iface zO v) w:=kN qj v
theorem YN (a b:Value) (w:World):(method (P.types.size+Made.depth) zO (.agg ⟨[a,b]⟩) mn_kids).run P w= .ok (yl,.agg ⟨[a,b]⟩) w:=rK
theorem YM (a b:Value) (w:World):(method (P.types.size+Made.depth) zO (.agg ⟨[a,b]⟩) ko).run P w= .ok (ki,.agg ⟨[a,b]⟩) w:=rK
theorem Y0 (a b:Value) (w:World):(method (P.types.size+Made.depth) zO (.agg ⟨[a,b]⟩) qI).run P w= .ok (jC,.agg ⟨[a,b]⟩) w:=rK
theorem YL (a b:Value) (w:World):(method (P.types.size+Made.depth) zO (.agg ⟨[a,b]⟩) Zl).run P w= .ok (yu,.agg ⟨[a,b]⟩) w:=rK
theorem kq:concB zI=true:=rK
@[push_cast] theorem j60 {w:World} {K:oK} (v:Value):qk0 zI v w K=K (.iface zI v) w:=kN kq v
theorem YK (a b:Value) (w:World):(method (P.types.size+Made.depth) zI (.agg ⟨[a,b]⟩) mn_kids).run P w= .ok (yl,.agg ⟨[a,b]⟩) w:=rK
theorem YJ (a b:Value) (w:World):(method (P.types.size+Made.depth) zI (.agg ⟨[a,b]⟩) ko).run P w= .ok (kg,.agg ⟨[a,b]⟩) w:=rK
theorem ZZ (a b:Value) (w:World):(method (P.types.size+Made.depth) zI (.agg ⟨[a,b]⟩) qI).run P w= .ok (jB,.agg ⟨[a,b]⟩) w:=rK
theorem YI (a b:Value) (w:World):(method (P.types.size+Made.depth) zI (.agg ⟨[a,b]⟩) Zl).run P w= .ok (yu,.agg ⟨[a,b]⟩) w:=rK
theorem yB:concB zQ=true:=rK
@[push_cast] theorem j40 {w:World} {K:oK} (v:Value):qk0 zQ v w K=K (.iface zQ v) w:=kN yB v
theorem YC (a b:Value) (w:World):(method (P.types.size+Made.depth) zQ (.agg ⟨[a,b]⟩) mn_kids).run P w= .ok (yl,.agg ⟨[a,b]⟩) w:=rK
theorem YB (a b:Value) (w:World):(method (P.types.size+Made.depth) zQ (.agg ⟨[a,b]⟩) ko).run P w= .ok (jX,.agg ⟨[a,b]⟩) w:=rK
theorem ZV (a b:Value) (w:World):(method (P.types.size+Made.depth) zQ (.agg ⟨[a,b]⟩) qI).run P w= .ok (jv,.agg ⟨[a,b]⟩) w:=rK
theorem yC:concB zH=true:=rK
@[push_cast] theorem qo0 {w:World} {K:oK} (v:Value):qk0 zH v w K=K (.iface zH v) w:=kN yC v
theorem ZX (a b:Value) (w:World):(method (P.types.size+Made.depth) zH (.agg ⟨[a,b]⟩) mn_kids).run P w= .ok (yl,.agg ⟨[a,b]⟩) w:=rK
theorem ZW (a b:Value) (w:World):(method (P.types.size+Made.depth) zH (.agg ⟨[a,b]⟩) ko).run P w= .ok (jw,.agg ⟨[a,b]⟩) w:=rK
theorem Zz (a b:Value) (w:World):(method (P.types.size+Made.depth) zH (.agg ⟨[a,b]⟩) qI).run P w= .ok (ji,.agg ⟨[a,b]⟩) w:=rK
theorem yY:concB zM=true:=rK
@[push_cast] theorem j50 {w:World} {K:oK} (v:Value):qk0 zM v w K=K (.iface zM v) w:=kN yY v
theorem YH (a b:Value) (w:World):(method (P.types.size+Made.depth) zM (.agg ⟨[a,b]⟩) mn_kids).run P w= .ok (yl,.agg ⟨[a,b]⟩) w:=rK
theorem YG (a b:Value) (w:World):(method (P.types.size+Made.depth) zM (.agg ⟨[a,b]⟩) ko).run P w= .ok (kf,.agg ⟨[a,b]⟩) w:=rK
theorem ZY (a b:Value) (w:World):(method (P.types.size+Made.depth) zM (.agg ⟨[a,b]⟩) qI).run P w= .ok (jA,.agg ⟨[a,b]⟩) w:=rK
theorem YF (a b:Value) (w:World):(method (P.types.size+Made.depth) zM (.agg ⟨[a,b]⟩) Zl).run P w= .ok (yu,.agg ⟨[a,b]⟩) w:=rK
theorem xB:concB zV=true:=rK
@[push_cast] theorem k00 {w:World} {K:oK} (v:Value):qk0 zV v w K=K (.iface zV v) w:=kN xB v
theorem Xu (a b:Value) (w:World):(method (P.types.size+Made.depth) zV (.agg ⟨[a,b]⟩) mn_kids).run P w= .ok (yl,.agg ⟨[a,b]⟩) w:=rK
theorem Xt (a b:Value) (w:World):(method (P.types.size+Made.depth) zV (.agg ⟨[a,b]⟩) ko).run P w= .ok (kC,.agg ⟨[a,b]⟩) w:=rK
theorem YE (a b:Value) (w:World):(method (P.types.size+Made.depth) zV (.agg ⟨[a,b]⟩) qI).run P w= .ok (k8,.agg ⟨[a,b]⟩) w:=rK
theorem Xs (a b:Value) (w:World):(method (P.types.size+Made.depth) zV (.agg ⟨[a,b]⟩) Zl).run P w= .ok (yu,.agg ⟨[a,b]⟩) w:=rK
theorem Zu:concB zy=true:=rK
@[push_cast] theorem qp0 {w:World} {K:oK} (v:Value):qk0 zy v w K=K (.iface zy v) w:=kN Zu v
theorem Y3 (a b c:Value) (w:World):(method (P.types.size+Made.depth) zy (.agg ⟨[a,b,c]⟩) mn_kids).run P w= .ok (yl,.agg ⟨[a,b]⟩) w:=rK
theorem Y2 (a b c:Value) (w:World):(method (P.types.size+Made.depth) zy (.agg ⟨[a,b,c]⟩) ko).run P w= .ok (jD,.agg ⟨[a,b,c]⟩) w:=rK
theorem ZA (a b c:Value) (w:World):(method (P.types.size+Made.depth) zy (.agg ⟨[a,b,c]⟩) qI).run P w= .ok (jl,.agg ⟨[a,b,c]⟩) w:=rK
theorem Y1 (a b c:Value) (w:World):(method (P.types.size+Made.depth) zy (.agg ⟨[a,b,c]⟩) Zl).run P w= .ok (yu,.agg ⟨[a,b]⟩) w:=rK
theorem qk:concB zJ=true:=rK
@[push_cast] theorem j80 {w:World} {K:oK} (v:Value):qk0 zJ v w K=K (.iface zJ v) w:=kN qk v
theorem YQ (a b:Value) (w:World):(method (P.types.size+Made.depth) zJ (.agg ⟨[a,b]⟩) mn_kids).run P w= .ok (yl,.agg ⟨[a,b]⟩) w:=rK
theorem YP (a b:Value) (w:World):(method (P.types.size+Made.depth) zJ (.agg ⟨[a,b]⟩) ko).run P w= .ok (kk,.agg ⟨[a,b]⟩) w:=rK
theorem Y4 (a b:Value) (w:World):(method (P.types.size+Made.depth) zJ (.agg ⟨[a,b]⟩) qI).run P w= .ok (jE,.agg ⟨[a,b]⟩) w:=rK
theorem YO (a b:Value) (w:World):(method (P.types.size+Made.depth) zJ (.agg ⟨[a,b]⟩) Zl).run P w= .ok (yu,.agg ⟨[a,b]⟩) w:=rK
end Go.Proofs.YtjkkiaacmedfdaaGreatDoor
section
namespace Go.Proofs.YtjkkiaacmedfdaaGreatDoor
open Go Go.Vc Go.Proofs
open Go.ChangeShapes Go.WideShapes Go.ChangeAt Go.RowKit
theorem ZR0:ownKnob P.godebug=none:=rK
theorem X7:laidOutB P=true:=rK
def restFacts (P:Program) (f:FuncId) (fn:Func) (s:ChangeSpec) (c:OpenClaim):Bool:=
 c.wf (OpenSpec.ofChange s)&&
 fn.params.all (P.readableRec ·)&&namedTie P c.named s.vars&&
 (c.stops==[])&&(P.stops==[])&&(c.knobs==[])&&(P.stopKnobs==[])&&
 (c.maps==(fn.params.toList++s.plain.varTypes P).any (P.mapsRec ·))&&(c.ifaces==(fn.params.toList++s.plain.varTypes P).any (P.ifacesRec ·))&&(c.mapsOut==P.mapsAmong fn.resultTypes.toList)&&
 (c.loops==(fn.params.toList++s.plain.varTypes P).any (P.loopsFrom ·))&&(c.wideKeys==(fn.params.toList++s.plain.varTypes P++fn.resultTypes.toList).any (P.wideKeysFrom ·))&&
 s.vars.all (P.varReadable ·)&&fn.resultTypes.all (λt=>P.readableRec t&&decide (t<P.types.size))&&(c.ifacesOut==fn.resultTypes.toList.any (P.ifacesRec ·))&&(c.loopsOut==fn.resultTypes.toList.any (P.loopsFrom ·))&&(c.plainKeys==P.plainKeys)&&c.shortTexts.isNone&&P.stopsHeard&&P.mayEnter&&(c.lifted==P.liftsFinal)&&(P.make==some c.make)&&(c.kinds==(if c.domain.isEmpty then[] else fn.params.toList.map λt=>match P.underlying t with|some (.int k)=>some k|_=>none))&&(c.pinned==c.pinnedBy)&&
 (c.veiled==(fn.params.toList++s.plain.varTypes P++fn.resultTypes.toList).any (P.veiledRec ·))&&c.veiledFits P fn.params.toList (fn.params.toList++s.plain.varTypes P++fn.resultTypes.toList)
theorem jg0 {P:Program} {f:FuncId} {fn:Func} {s:ChangeSpec} {c:OpenClaim} (b:laidOutB P=true) (d:mapsRowed P=true) (e:(c.inPlace==P.inPlace f)=true) (g:(c.unfollowed==P.unfollowed f)=true)
  (h:(c.recurses==P.recurses f)=true) (i:(c.named==P.varsNamed f)=true) (a:restFacts P f fn s c=true):joinedFacts P f fn s c=true:=by
 unfold restFacts at a;unfold joinedFacts;rw[b,d,e,g,h,i];simp only[PC];exact a
theorem kz0:mapsRowed P=true:=rK
theorem jw0 {w w':World} (h:Ext w w'):Below w.heap.size w w':=⟨h.os,h.tape,h.output,h.size,λk a=>h.block k a id⟩
theorem u8_wf {n:Int} (h:(Lit.int .u8 n).wf=true):0<=n/\n<256:=by
 simp only[Lit.wf,gp,gd] at h;have a:IntKind.u8.min=0:=dC
 have b:IntKind.u8.max=255:=dC
 omega
def xF0 (w:World) (v:Value) (xs:List Nat):Prop:=Vals (λ_=>True) w v (xs.map λx=>Value.int .u8 (x:Nat))/\∀x,x∈xs->x<256
theorem jI0 (w:World):xF0 w (.slice none 0 0) []:=⟨⟨⟨none,0,rfl,by simp,by simp,λh=>absurd rfl h⟩,by simp⟩,by simp⟩
theorem bytes_of {w:World} {x:Addr} {len cap:Nat} {zs:List Int} (z:len<=cap) (hm:cap<=maxLen) (A:zs.length=cap) (a:∀i,i<zs.length->w.cell? (x.add i)=some (.int .u8 (zs.getD i 0))) (o:∀n,n∈zs->(Lit.int .u8 n).wf=true):
  xF0 w (.slice (some x) len cap) ((zs.take len).map Int.toNat):=by
 have c:∀n,n∈zs.take len->0<=n/\n<256:=λn l=>u8_wf (o n (gU l));refine⟨⟨⟨some x,cap,?_,?_,by unfold maxLen at hm;exact hm,λm=>?_⟩,λy p=>by obtain⟨u,_,rfl⟩:=gy.1 p;rfl⟩,λy p=>?_⟩
 .simp only[V0,gi];rw[GB oM]
 .simp only[V0,gi];omega
 .have hlen:0<len:=by
   refine Nat.pos_of_ne_zero λe=>m ?_;subst e;simp
  obtain⟨b,off,spot⟩:=x;have f:=a 0 oM;have d:spot=none:=(by simpa[Addr.add] using World.cell?_spot f);subst d;refine⟨b,off,rfl,trivial,World.block_lt_of_cell? w _ f,λi hi=>?_⟩;simp only[V0,gi] at hi;intro j v h;have hit:i<(zs.take len).length:=by simp only[gi];omega
  have s:((((zs.take len).map Int.toNat).map λx=>Value.int .u8 (x:Nat)).map λx=>[x]).getD i []=[Value.int .u8 (((zs.take len)[i].toNat:Nat):Int)]:=by
   simp[X0,hi]
  rw[s] at h;have t:j=0:=by
   cases j with
   |zero=>rfl
   |succ j=>simp at h
  subst t;simp only[Pm,Gx] at h;subst h;have g:i<zs.length:=oM;have q:=a i g;have k:=c _ (GV hit);have r:zs.getD i 0=(zs.take len)[i]:=(by simp[X0,g]);rw[r,yp] at q;rw[PJ k.1,yp,G2,pQ];exact q
 .obtain⟨n,l,rfl⟩:=gy.1 p;have:=c n l;omega
end Go.Proofs.YtjkkiaacmedfdaaGreatDoor
end
end
