import Derived.Test.YtfjlkobhagjdaaaGreatDoorWzdP1
import Derived.Laws.Strings2
import Derived.Laws.Concat
import Derived.Laws.StructEq
import Derived.Laws.Shifts
import Derived.Laws.Build
import Derived.RangeFuncRecord
import Derived.WalkKit
import Derived.ProofKit
import Derived.OpenShut
import Derived.ShutString
import Derived.ChangeOld
import Derived.JoinedOf
/- A part of the proof. -/
set_option linter.all false
set_option maxRecDepth 9999
set_option maxHeartbeats 2000000
noncomputable section
namespace Go.Vc
open Go Go.MapKept
section
def MapF (d:TypeDesc) (w:World) (b:Nat) (f:List (Value×Value)):Prop:=
 ∃es clock,w.heap[b]?=some (.map es clock)/\Stamped es clock/\(∀x∈es.toList,IsKey d x.key)/\es.toList.map (λe=>(e.key,e.val))=f
def Z00 (t:TypeId) (d:TypeDesc) (e:TypeId):Prop:= ∃kt,P.underlying t=some (.map kt e)/\P.underlying kt=some d
section
variable {t e:TypeId} {d:TypeDesc} {w w':World} {K:oK} {b:Nat} {f:List (Value×Value)} {S:oA}
theorem MapF.lt (h:MapF d w b f):b<w.heap.size:=by
 obtain⟨es,cl,a,_⟩:=h;exact(gL.1 a).1
theorem MapF.same (h:MapF d w b f) (hw:Same S w w') (hs: ¬S b):MapF d w' b f:=by
 have a:=h.lt;obtain⟨es,cl,c,r⟩:=h;exact⟨es,cl,(hw.block b a hs).trans c,r⟩
theorem MapF.ext (h:MapF d w b f) (hw:Ext w w'):MapF d w' b f:=h.same hw id
theorem MapF.nodup (h:MapF d w b f):(f.map (·.1)).Nodup:=by
 obtain⟨es,cl,e,a,c,rfl⟩:=h;have:=a.2.2;rw[G4];exact this
theorem qP0 {r:Option Value} {k:IntKind} {n:Nat} (c:Z00 t d e) (g:r=none\/r=some (.int k n)) (a:∀b w',b=w.heap.size->MapF d w' b []->Ext w w'->w'.heap.size=w.heap.size+1->K (.map (some b)) w'):YM0 t r w K:=by
 refine⟨.map (some w.heap.size),w.alloc (.map #[] 0),?_,a _ _ rfl ⟨#[],0,(heap_alloc w _).1,stamped_empty 0,by simp,rfl⟩ ⟨rfl,rfl,rfl,by simp,λk f _=>(heap_alloc w _).2 k f⟩ (by simp)⟩;obtain⟨kt,hm,h⟩:=c;rcases g with rfl|rfl
 .simp[Instr.makeMap,newObj,Sem.run]
 .simp only[Instr.makeMap,Sem.run_bind,xy hm,Result.andThen_ok];simp[asInt,asIntOf,newObj,Sem.run,Result.andThen]
theorem Ws (c:Z00 t d e) (a:∀b w',b=w.heap.size->MapF d w' b []->Ext w w'->w'.heap.size=w.heap.size+1->K (.map (some b)) w'):YM0 t none w K:=qP0 (k:= .i64) (n:=0) c (.inl rfl) a
theorem zt0 {k x:Value} (r:Z00 t d e) (h:MapF d w b f) (l:IsKey d k) (s:∀v,(k,v)∉f)
  (q:∀w',MapF d w' b (f++[(k,x)])->Same (· =b) w w'->w'.heap.size=w.heap.size->K undef w'):zu0 t (.map (some b)) k x w K:=by
 obtain⟨kt,hm,o⟩:=r;obtain⟨es,cl,g,m,c,rfl⟩:=h;rcases findNow_spec l es.toList 0 c with⟨n,i⟩|⟨j,e,n,i,p⟩
 .refine⟨(),{w with heap:=w.heap.setIfInBounds b (.map (es.push {key:=k,val:=x,born:=cl}) (cl+1))},?_,q _ ⟨_,_,(heap_set g).1,stamped_push m i,λy a=>?_,by simp⟩ (jH g) (by simp)⟩
  .simp[Instr.mapUpdate,run_underlying hm,MapKept.run_getObj_map g,run_checkKey o l,run_findKey o n,run_setObj_map _ g,Result.andThen]
  .rw[z0a] at a;rcases gr.1 a with a|a
   .exact c y a
   .rw[gB.1 a];exact l
 .exact absurd (gz.2 ⟨e,pn i,by rw[p]⟩) (s e.val)
theorem XA {k v:Value} {ok:Bool} (F:Z00 t d e) (h:MapF d w b f) (E:IsKey d k) (l:(k,v)∈f):
  XB t (.map (some b)) k ok w K=K (if ok then .tuple #[v,.bool true] else v) w:=by
 obtain⟨kt,hm,D⟩:=F;have H:=h.nodup;obtain⟨es,cl,G,u,r,rfl⟩:=h;rcases findNow_spec E es.toList 0 r with⟨B,q⟩|⟨j,e,B,q,C⟩
 .obtain⟨x,y,e⟩:=gz.1 l;cases e;exact absurd rfl (q x y)
 .obtain⟨x,y,A⟩:=gz.1 l;have z:x=e:=by
   have s:e∈es.toList:=pn q;have I:=u.2.2;cases A;have n:es.toList.Pairwise λa b=>a.key≠b.key:=pw.1 I;by_cases m:x=e
   .exact m
   .obtain⟨i1,g,o⟩:=gx y;obtain⟨i2,i,p⟩:=gx s;rcases Nat.lt_trichotomy i1 i2 with c|heq|c
    .exact absurd (by rw[o,p];exact C.symm) (GI.1 n i1 i2 g i c)
    .subst heq;exact absurd (o.symm.trans p) m
    .exact absurd (by rw[o,p];exact C) (GI.1 n i2 i1 i g c)
  subst z;cases A;refine y1 ?_;cases ok<;>simp[Instr.lookup,run_underlying hm,MapKept.run_getObj_map G,run_checkKey D E,run_findKey D B,Result.andThen]
theorem zv0 {k z:Value} {ok:Bool} (n:Z00 t d e) (r:yg e z) (h:MapF d w b f) (l:IsKey d k) (p:∀v,(k,v)∉f):
  XB t (.map (some b)) k ok w K=K (if ok then .tuple #[z,.bool false] else z) w:=by
 obtain⟨kt,hm,i⟩:=n;obtain⟨es,cl,o,q,a,rfl⟩:=h;rcases findNow_spec l es.toList 0 a with⟨c,g⟩|⟨j,e,c,g,m⟩
 .refine y1 ?_;cases ok<;>simp[Instr.lookup,run_underlying hm,MapKept.run_getObj_map o,run_checkKey i l,run_findKey i c,Zd r,Result.andThen]
 .exact absurd (gz.2 ⟨e,pn g,by rw[m]⟩) (p e.val)
theorem zM {ty:TypeId} {v rcv:Value} {name:String} {args:Array Value} {g:Nat} (hm:∀w:World,(method (P.types.size+Made.depth) ty v name).run P w= .ok (g,rcv) w) (h:vcall g ⟨rcv::args.toList⟩ w K):vinvoke (.iface ty v) name args w K:=
 ⟨g,rcv,hm w,h⟩
def concB (t:TypeId):Bool:=match P.underlying t with|some (.interface _)=>false|some _=>true|none=>false
theorem kN (h:concB t=true) (v:Value):qv0 t v w K=K (.iface t v) w:=by
 refine y1 ?_;unfold concB at h;cases hu:P.underlying t with
 |none=>rw[hu] at h;cases h
 |some x=>
  rw[hu] at h;simp only[Instr.makeInterface,Sem.run_bind,xy hu,Result.andThen_ok];cases x<;>first|(cases h;done)|simp
theorem yC0 (a b:ByteArray):(a.toList==b.toList)=decide (a=b):=by
 rw[<-beq_toListBytes];by_cases h:a=b
 .subst h;rw[gl rfl];exact(MapKept.bytes_beq a a).2 rfl
 .rw[gk h,G0];exact λe=>h ((MapKept.bytes_beq a b).1 e)
@[push_cast] theorem Yx0 {c:Bool} (t:TypeId) (a b:ByteArray):qn .eql t c (.string a) (.string b) w K=K (.bool (decide (a=b))) w:=
 yh rfl (by rw[binOp_string_eql,yC0];rfl)
@[push_cast] theorem Yw0 {c:Bool} (t:TypeId) (a b:ByteArray):qn .neq t c (.string a) (.string b) w K=K (.bool (decide (a≠b))) w:=
 yh rfl (by rw[binOp_string_neq,yC0,decide_not];rfl)
theorem JY {c:Bool} {t:TypeId} {a b:ByteArray} (h:a.size+b.size<=9223372036854775807):qn .add t c (.string a) (.string b) w K=K (.string (a++b)) w:=
 yh rfl (by simp only[binOp_string_add];exact run_string_add_sum w a b h)
theorem Wv {t ty:TypeId} {s:ByteArray} (h:P.underlying t=some .string):vbi .len [t] ty [.string s] w K=K (nI s.size) w:=
 y1 (run_len_string (P:=P) (w:=w) t ty s h)
theorem vindex_str {t:TypeId} {s:ByteArray} {k:IntKind} {i:Int} (h:P.underlying t=some .string) (b:0<=i) (c:i<s.size):qR0 t (.string s) (.int k i) w K=K (.int .u8 ((s.data.getD i.toNat 0).toNat:Int)) w:=by
 refine y1 ?_;rw[run_index_string (P:=P) (w:=w) t s k i h];have a:i.toNat<s.size:=oM
 have d:i.toNat<s.data.size:=a;rw[dif_pos ⟨b,c⟩,Gd,GG d];rfl
theorem xT0 {t:TypeId} {s:ByteArray} {k a:IntKind} {i j:Int} (h:P.underlying t=some .string) (b:0<=i) (c:i<=j) (d:j<=s.size):yH t (.string s) (some (.int k i)) (some (.int a j)) none w K=K (.string (s.extract i.toNat j.toNat)) w:=by
 refine y1 ?_;rw[run_sliceAt_string w t _ _ _ _ h];exact run_slice_string (P:=P) w t s k a i j h b c d
theorem Wx {c:Bool} {t:TypeId} {k yk:IntKind} {x y:Int} (h:0<=y):qn .shl t c (.int k x) (.int yk y) w K=K (.int k (k.wrap (x*2^min y.toNat k.bits))) w:=
 yh rfl (by simp[binOp,shift_shl_any,h])
theorem xm0 {c:Bool} {t:TypeId} {k yk:IntKind} {x y:Int} (h:0<=y):qn .shr t c (.int k x) (.int yk y) w K=K (.int k (x/2^min y.toNat k.bits)) w:=
 yh rfl (by simp[binOp,shift_shr_any,h])
theorem wrapU {n:Nat} (h:n<18446744073709551616):IntKind.u64.wrap (n:Int)=n:=by
 simp only[IntKind.wrap,IntKind.bits,IntKind.signed,G2,Gg,if_false];omega
theorem wrapN {n:Nat} (h:n<9223372036854775808):IntKind.i64.wrap (n:Int)=n:=zj oM oM
theorem XM (n:Nat):BitVec.ofInt 64 (n:Int)=BitVec.ofNat 64 n:=by simp
theorem ZI {c:Bool} {t:TypeId} {a b:Nat} (d:a<18446744073709551616) (g:b<18446744073709551616):qn .and t c (.int .u64 a) (.int .u64 b) w K=K (.int .u64 (a&&&b:Nat)) w:=
 yh rfl (by
  have f:a&&&b<18446744073709551616:=PY Nat.and_le_left d;have e:(BitVec.ofInt 64 (a:Int)&&&BitVec.ofInt 64 (b:Int)).toNat=a&&&b:=by
   rw[XM,XM,BitVec.toNat_and,BitVec.toNat_ofNat,BitVec.toNat_ofNat,Gx d,Gx g]
  simp only[binOp,z0h,not_true_eq_false,if_false,Op.intBits];show(pure (Value.int .u64 (IntKind.u64.wrap ((BitVec.ofInt 64 (a:Int)&&&BitVec.ofInt 64 (b:Int)).toNat:Int))):Sem Value).run P w=_;rw[e,wrapU f];rfl)
theorem xn0 {c:Bool} {t:TypeId} {a b:Nat} (d:a<18446744073709551616) (f:b<18446744073709551616):qn .or t c (.int .u64 a) (.int .u64 b) w K=K (.int .u64 (a|||b:Nat)) w:=
 yh rfl (by
  have g:a|||b<2^64:=z0b d f;have e:(BitVec.ofInt 64 (a:Int)|||BitVec.ofInt 64 (b:Int)).toNat=a|||b:=by
   rw[XM,XM,BitVec.toNat_or,BitVec.toNat_ofNat,BitVec.toNat_ofNat,Gx d,Gx f]
  simp only[binOp,z0h,not_true_eq_false,if_false,Op.intBits];show(pure (Value.int .u64 (IntKind.u64.wrap ((BitVec.ofInt 64 (a:Int)|||BitVec.ofInt 64 (b:Int)).toNat:Int))):Sem Value).run P w=_;rw[e,wrapU g];rfl)
theorem qX0 {c:Bool} {t:TypeId} {a b:Nat} (d:a<18446744073709551616) (f:b<18446744073709551616):qn .xor t c (.int .u64 a) (.int .u64 b) w K=K (.int .u64 (a^^^b:Nat)) w:=
 yh rfl (by
  have g:a^^^b<2^64:=P3 d f;have e:(BitVec.ofInt 64 (a:Int)^^^BitVec.ofInt 64 (b:Int)).toNat=a^^^b:=by
   rw[XM,XM,BitVec.toNat_xor,BitVec.toNat_ofNat,BitVec.toNat_ofNat,Gx d,Gx f]
  simp only[binOp,z0h,not_true_eq_false,if_false,Op.intBits];show(pure (Value.int .u64 (IntKind.u64.wrap ((BitVec.ofInt 64 (a:Int)^^^BitVec.ofInt 64 (b:Int)).toNat:Int))):Sem Value).run P w=_;rw[e,wrapU g];rfl)
theorem vbin_orI {c:Bool} {t:TypeId} {a b:Nat} (f:a<9223372036854775808) (g:b<9223372036854775808):qn .or t c (nI a) (nI b) w K=K (nI (a|||b:Nat)) w:=
 yh rfl (by
  have d:a|||b<2^63:=z0b f g;have e:(BitVec.ofInt 64 (a:Int)|||BitVec.ofInt 64 (b:Int)).toNat=a|||b:=by
   rw[XM,XM,BitVec.toNat_or,BitVec.toNat_ofNat,BitVec.toNat_ofNat,Gx oM,Gx oM]
  simp only[binOp,z0h,not_true_eq_false,if_false,Op.intBits];show(pure (nI (IntKind.i64.wrap ((BitVec.ofInt 64 (a:Int)|||BitVec.ofInt 64 (b:Int)).toNat:Int))):Sem Value).run P w=_;rw[e,wrapN d];rfl)
theorem vun_xorU {a:Nat} (c:a<18446744073709551616):vun .xor (.int .u64 a) w K=K (.int .u64 (18446744073709551615-a:Nat)) w:=by
 refine y1 ?_;have e:(BitVec.ofInt 64 (18446744073709551615:Int)^^^BitVec.ofInt 64 (a:Int)).toNat=18446744073709551615-a:=by
  have b:BitVec.ofInt 64 (18446744073709551615:Int)=BitVec.allOnes 64:=dC;rw[b,XM,BitVec.allOnes_xor,BitVec.toNat_not,BitVec.toNat_ofNat,Gx c]
 show(pure (Value.int .u64 (IntKind.u64.wrap ((BitVec.ofInt 64 (18446744073709551615:Int)^^^BitVec.ofInt 64 (a:Int)).toNat:Int))):Sem Value).run P w=_;rw[e,wrapU oM];rfl
theorem vbin_shlU {c:Bool} {t:TypeId} {yk:IntKind} {x y:Nat} (a:y<64) (h:x*2^y<18446744073709551616):qn .shl t c (.int .u64 x) (.int yk y) w K=K (.int .u64 (x*2^y:Nat)) w:=by
 rw[Wx oM];have e:((x:Int)*2^min (y:Int).toNat IntKind.u64.bits)=((x*2^y:Nat):Int):=by
  have:min (y:Int).toNat IntKind.u64.bits=y:=by show min y 64=y;omega
  rw[this];simp
 rw[e,wrapU h]
theorem vbin_shlI {c:Bool} {t:TypeId} {yk:IntKind} {x y:Nat} (a:y<64) (h:x*2^y<9223372036854775808):qn .shl t c (nI x) (.int yk y) w K=K (nI (x*2^y:Nat)) w:=by
 rw[Wx oM];have e:((x:Int)*2^min (y:Int).toNat IntKind.i64.bits)=((x*2^y:Nat):Int):=by
  have:min (y:Int).toNat IntKind.i64.bits=y:=by show min y 64=y;omega
  rw[this];simp
 rw[e,wrapN h]
theorem vbin_shrU {c:Bool} {t:TypeId} {yk:IntKind} {x y:Nat} (a:y<64):qn .shr t c (.int .u64 x) (.int yk y) w K=K (.int .u64 (x/2^y:Nat)) w:=by
 rw[xm0 oM];have:min (y:Int).toNat IntKind.u64.bits=y:=by show min y 64=y;omega
 rw[this];simp
theorem zl {t:TypeId} {cs:List Value} (h:∀b w',b=w.heap.size->Ext w w'->w'.heap.size=w.heap.size+1->Blk w' b cs t->K (oP b 0) w'):zo0 t (.agg ⟨cs⟩) w K:=ye h
theorem zi {t:TypeId} {cs:List Value} (a:yg t (.agg ⟨cs⟩)) (h:∀b w',b=w.heap.size->Ext w w'->w'.heap.size=w.heap.size+1->Blk w' b cs t->K (oP b 0) w'):xU t w K:=xw a h
theorem zS {t:TypeId} {pl:List (Nat×Nat)} {ps:List (Nat×Value)} {us:List (List Value)} {zs cs:List Value} (h:strF t=some (pl,zs)) (c:ps.map (λp=>p.2.cells)=us.map List.toArray)
  (a:fillC pl zs (ps.map (·.1)) us=some cs):yl t ps w K=K (.agg ⟨cs⟩) w:=by
 refine y1 (run_build (P:=P) w t ⟨ps⟩ ⟨cs⟩ ?_);unfold strF at h;split at h
 .rename_i fs i hu hi;split at h
  .rename_i e z b d;simp only[GA,GC] at h;obtain⟨rfl,rfl⟩:=h;simp only[Program.built,hu,hi,d,b];exact fill_eq c a
  .cases h
 .cases h
theorem Y7 (s:ByteArray):IsKey .string (.string s):=by simp[IsKey]
theorem inc64' {i:Nat} (h:i<9223372036854775807):IntKind.i64.wrap ((i:Int)+1)=((i+1:Nat):Int):=by rw[zj oM oM];omega
end
end
end Go.Vc
namespace Go.Vc
open Go Go.RowKit
section
def hasR:Code->Bool
 | .rangeFunc _ _ _ _=>true
 | .seq a b=>hasR a||hasR b
 | .block _ b=>hasR b
 |_=>false
def ovrAt:List Nat->Fr->List Value->Fr
 |[],f,_=>f
 |p::r,f,args=>ovrAt r (put f (some p) (args.headD undef)) args.tail
def jmp (x:Nat) (Nn Nr Nx:World->Prop) (pe:Option Code) (w:World):Prop:=
 match pe with
 |none=>Nn w
 |some .ret=>Nr w
 |some (.exit i)=>i=x/\Nx w
 |_=>False
def ZX0 (gv:Value) (n x:Nat) (w:World) (B:List Value->(World->(World->Prop)->Prop)->(World->Prop)->(World->Prop)->(World->Prop)->World->Prop) (Nn Nr Nx:Nat->World->Prop):Prop:=
 ∃gf lb,gv= .func (.func gf) #[] lb/\∀(l D:Nat) (w1:World) (RR:LoopState->Option Code->World->Prop),D=w.heap.size->l=w.heap.size+1->Ext w w1->w1.heap.size=w.heap.size+2->w1.heap[D]?=some (.deferred (some []))->
  (∀st pe w' w'',RR st pe w'->w''.heap[l]?=w'.heap[l]?->RR st pe w'')->RR .ready none w1->
  (∀(args:List Value) (w':World) (K:oK),args.length=n->RR .ready none w'->
   B args (λw1 k=>RR .ready none w1/\∀w2,Same (· =l) w1 w2->w2.heap.size=w1.heap.size->RR .busy none w2->k w2)
    (λw3=>RR .busy none w3/\∀w4,Same (· =l) w3 w4->w4.heap.size=w3.heap.size->RR .ready none w4->K (.bool true) w4)
    (λw3=>RR .busy none w3/\∀w4,Same (· =l) w3 w4->w4.heap.size=w3.heap.size->RR .done (some .ret) w4->K (.bool false) w4)
    (λw3=>RR .busy none w3/\∀w4,Same (· =l) w3 w4->w4.heap.size=w3.heap.size->RR .done (some (.exit x)) w4->K (.bool false) w4) w'->
   vcallv (.func (.yield l) #[] #[]) ⟨args⟩ w' K)->
  vcall gf ⟨.func (.yield l) #[] #[]::lb.toList⟩ w1 λ_ w3=> ∃st pe,st≠ .busy/\RR st pe w3/\∀w4,Same (· =l) w3 w4->w4.heap.size=w3.heap.size->jmp x (Nn D) (Nr D) (Nx D) pe w4
def rndK (x:Nat) (kn kr kx:World->Prop) (e:Exit) (_:Fr) (w:World):Prop:=
 match e with
 | .normal=>kn w
 | .ret=>kr w
 | .exit i=>cond (Nat.beq i x) (kx w) False
 |_=>False
def vx (T:Ann) (x:Nat):Code->(Exit->Fr->World->Prop)->(Nat->Exit->Fr->World->Prop)->Fr->World->Prop
 | .rangeFunc g ps asg body,_,K1,f,w=>
  ZX0 (ev f g) ps.size x w
   (λargs beg kn kr kx w'=>vc T asg (seqK (λf1 w1=>beg w1 λw2=>vc T body (rndK x kn kr kx) f1 w2) (λ_ _ _=>False)) (ovrAt ps.toList f args) w')
   (λD w'=>K1 D .normal f w') (λD w'=>K1 D .ret f w') (λD w'=>K1 D (.exit x) f w')
 | .seq a b,K0,K1,f,w=>
  match hasR a with
  |true=>vx T x a (seqK (λf' w'=>vc T b K0 f' w') K0) (λD=>seqK (λf' w'=>vc T b (K1 D) f' w') (K1 D)) f w
  |false=>vc T a (seqK (λf' w'=>vx T x b K0 K1 f' w') K0) f w
 | .block id c,K0,K1,f,w=>vx T x c (blkK id K0) (λD=>blkK id (K1 D)) f w
 |_,_,_,_,_=>False
def okX (n:Nat) (T:Ann):Code->Bool
 | .rangeFunc _ ps asg body=>okC n T asg&&(okC n T body&&ps.toList.all λp=>Nat.blt p n)
 | .seq a b=>cond (hasR a) (okX n T a&&okC n T b) (okC n T a&&okX n T b)
 | .block _ c=>okX n T c
 |_=>false
def YU0 (D:Nat):Deferred:={target:= .collected D,args:= #[]}
def ZA0 (n:Nat) (K0:Exit->Fr->World->Prop) (K1:Nat->Exit->Fr->World->Prop) (e:Exit) (a:Act) (w:World):Prop:=
 (∃f',Sim [] n f' a/\K0 e f' w)\/ ∃D f',Sim [YU0 D] n f' a/\K1 D e f' w
section
variable {T:Ann} {n x:Nat}
theorem Y50:∀(ps:List Nat) (f:Fr) (args:List Value) (tmps:Array Value),args.length=ps.length->ps.all (λp=>Nat.blt p n)=true->tmps.size=n->(∀t,tmps.getD t undef=f t)->
  Sim [] n (ovrAt ps f args) {tmps:=(ps.zip args).foldl (λt p=>t.setIfInBounds p.1 p.2) tmps,defers:=[]}:=by
 intro ps;induction ps with
 |nil=>intro f args tmps _ _ hs a;exact⟨hs,rfl,a⟩
 |cons p r g=>
  intro f args tmps d b hs a;cases args with
  |nil=>simp at d
  |cons v args=>
   simp only[List.all_cons,gp] at b;have c:p<n:=(by simpa[Pa] using b.1);refine g (put f (some p) v) args (tmps.setIfInBounds p v) (by simpa using d) b.2 (by simpa using hs) λt=>?_;by_cases e:t=p
   .subst e;rw[JL];simp[Gd,hs,c]
   .rw[Wi _ _ _ _ e,<-a t];simp only[Gd];rw[Pz (Ne.symm e)]
theorem Yl (w:World) (l:Nat) (o:Obj):Same (· =l) w (w.putObj l o):=
 ⟨rfl,rfl,rfl,by simp,λ_ _ a=>World.putObj_heap_other a⟩
theorem Ym {w:World} {l:Nat} {o:Obj} (h:w.heap[l]?=some o):l<w.heap.size:=(gL.1 h).1
theorem range_sound (hm:P.follows .mixedOrders=true) {g:Operand} {ps:Array Tmp} {asg body:Code} {S:Exit->Fr->World->Prop} {U:Nat->Exit->Fr->World->Prop} {f:Fr} {a:Act} {w:World}
  (z:okX n T (.rangeFunc g ps asg body)=true) (h:vx T x (.rangeFunc g ps asg body) S U f w) (hs:Sim [] n f a):(Code.rangeFunc g ps asg body).wpIn (FR none) 0 P (ZA0 n S U) a w:=by
 simp only[okX,gp] at z;obtain⟨M,N,O⟩:=z;obtain⟨gf,lb,hg,H⟩:=h;refine wpIn_rangeFunc λfn _=>?_
 let d:LoopState->Option Code->Loop:=λst pe=>{state:=st,pending:=pe,fn,tmps:=a.tmps,params:=ps,assign:=asg,body,defers:=w.heap.size}
 obtain⟨w1,q⟩:∃w1,(w.alloc (.deferred (some []))).alloc (.loop (d .ready none))=w1:=⟨_,rfl⟩;have G:w1.heap[w.heap.size+1]?=some (.loop (d .ready none)):=by
  rw[<-q];have:=World.alloc_heap_new (w.alloc (.deferred (some []))) (.loop (d .ready none));rwa[World.size_alloc] at this
 have hD1:w1.heap[w.heap.size]?=some (.deferred (some [])):=by
  rw[<-q];exact(Below.heap_alloc _ _ _ (by simp)).trans (World.alloc_heap_new w _)
 have D:w1.heap.size=w.heap.size+2:=by rw[<-q,World.size_alloc,World.size_alloc]
 have F:Ext w w1:=by
  rw[<-q];exact⟨rfl,rfl,rfl,by rw[World.size_alloc,World.size_alloc];omega,λb Y _=>(Below.heap_alloc _ _ b (by rw[World.size_alloc];omega)).trans (Below.heap_alloc w _ b Y)⟩
 have Z:=H (w.heap.size+1) w.heap.size w1 (λst pe w'=>w'.heap[w.heap.size+1]?=some (.loop (d st pe))) rfl rfl F D hD1 (λst pe w' w'' A he=>he.trans A) G ?_
 .obtain⟨I,r⟩:=Z;refine⟨w.heap.size+1,[YU0 w.heap.size],w1,{target:= .fn (.func gf) lb,args:= #[.func (.yield (w.heap.size+1)) #[] #[]]},w1,gf,
   #[.func (.yield (w.heap.size+1)) #[] #[]]++lb,w1,?_,?_,λ_ _=>trivial,?_,λh=>(by cases h),?_⟩
  .rw[<-q];exact run_enterLoop_outer _ _ _ _ _
  .simp only[resolve,hs.eval,hg];simp[go_sem,ev]
  .simp[invoke,go_sem,callFunc_run I]
  .have e:(#[.func (.yield (w.heap.size+1)) #[] #[]]++lb:Array Value)=⟨.func (.yield (w.heap.size+1)) #[] #[]::lb.toList⟩:=by apply GX.1;simp
   rw[e];refine callsIn_wide.2 (Calls.mono r λe E he=>?_);cases e with
   |returned v=>
    obtain⟨st,pe,R,A,X⟩:=he;have u:=run_endLoop (P:=P) A (by exact R);have m:=X _ (Yl E _ (.loop {d st pe with state:= .exhausted})) (by simp);have s:Sim [YU0 w.heap.size] n f {a with defers:=[YU0 w.heap.size]++a.defers}:=⟨hs.size,by rw[hs.defers];rfl,hs.at_⟩;refine⟨pe,_,u,?_⟩;cases pe with
    |none=>exact .inr ⟨_,f,s,m⟩
    |some c=>
     cases c<;>simp only[jmp] at m<;>try exact m.elim
     case exit i=>
      obtain⟨rfl,m⟩:=m;exact wpIn_exit (.inr ⟨_,f,s,m⟩)
     case ret=>exact wpIn_ret (.inr ⟨_,f,s,m⟩)
   |panicked c=>exact he.elim
   |outgrown=>exact he.elim
 .intro args w' K hlen A W;have hy:=run_yield (P:=P) (args:=(⟨args⟩:Array Value)) A (by simpa[d] using hlen);refine⟨fn,_,asg,body,hy,roundIn_of_wpIn trivial ?_⟩;have C:=Y50 (n:=n) ps.toList f args a.tmps (by simpa using hlen) O hs.size hs.at_;have ez:((d .ready none).params.zip (⟨args⟩:Array Value)).foldl (λtmps (t,a)=>tmps.setIfInBounds t a) (d .ready none).tmps=(ps.toList.zip args).foldl (λt p=>t.setIfInBounds p.1 p.2) a.tmps:=by
   rw[<-P0,Array.toList_zip]
  rw[ez];have V:=vc_sound (ro:=some (w.heap.size+1)) hm asg _ _ _ w' M W C (λl f w h=>h);refine wpIn_mono V ?_;rintro e a2 w2 ⟨f2,Q,_,y⟩;cases e<;>simp only[seqK] at y<;>try exact y.elim
  case normal=>
   obtain⟨B,y⟩:=y;refine⟨_,run_beginRound B rfl,?_⟩;have L:=Ym B;have J:=y _ (Yl w2 _ (.loop {d .ready none with state:= .busy})) (by simp) (World.putObj_heap_same L);refine wpIn_mono (vc_sound (ro:=some (w.heap.size+1)) hm body _ _ _ _ N J Q (λl f w h=>h)) ?_;rintro e a3 E ⟨f3,a0,_,j⟩;cases e<;>simp only[rndK] at j<;>try exact j.elim
   case normal=>
    obtain⟨k,o⟩:=j;exact⟨_,_,run_endRound none k,o _ (Yl E _ _) (by simp) (World.putObj_heap_same (Ym k))⟩
   case ret=>
    obtain⟨k,o⟩:=j;exact⟨_,_,run_endRound (some .ret) k,o _ (Yl E _ _) (by simp) (World.putObj_heap_same (Ym k))⟩
   case exit i=>
    cases hi:Nat.beq i x
    .rw[hi] at j;exact j.elim
    .rw[hi] at j;obtain rfl:=gE hi;obtain⟨k,o⟩:=j;exact⟨_,_,run_endRound (some (.exit i)) k,o _ (Yl E _ _) (by simp) (World.putObj_heap_same (Ym k))⟩
theorem kw0 (hm:P.follows .mixedOrders=true):∀(c:Code) (p:Exit->Fr->World->Prop) (q:Nat->Exit->Fr->World->Prop) (f:Fr) (a:Act) (w:World),okX n T c=true->vx T x c p q f w->Sim [] n f a->
  (∀l f w,¬p (.goto l) f w)->(∀D l f w,¬q D (.goto l) f w)->c.wpIn (FR none) 0 P (ZA0 n p q) a w:=by
 intro c;induction c with
 |rangeFunc g ps asg body _ _=>intro p q f a w d h hs _ _;exact range_sound hm d h hs
 |seq y z ihy ihz=>
  intro p q f a w d h hs o s;refine wpIn_seq ?_;simp only[okX] at d;simp only[vx] at h;cases E:hasR y with
  |true=>
   rw[E] at d h;simp only[cond,gp] at d;simp only at h;refine wpIn_mono (ihy _ _ f a w d.1 h hs (λl f w h=>o l f w h) (λD l f w h=>s D l f w h)) ?_;rintro e r w' (⟨m,j,k⟩|⟨D,m,j,k⟩)
   .cases e with
    |normal=>
     refine wpIn_mono (vc_sound hm z p m r w' d.2 k j o) ?_;rintro e A w'' ⟨u,t,_,v⟩;exact .inl ⟨u,t,v⟩
    |_=>exact .inl ⟨m,j,k⟩
   .cases e with
    |normal=>
     refine wpIn_mono (vc_sound hm z (q D) m r w' d.2 k j (s D)) ?_;rintro e A w'' ⟨u,t,_,v⟩;exact .inr ⟨D,u,t,v⟩
    |_=>exact .inr ⟨D,m,j,k⟩
  |false=>
   rw[E] at d h;simp only[cond,gp] at d;simp only at h;refine wpIn_mono (vc_sound hm y _ f a w d.1 h hs (λl f w h=>o l f w h)) ?_;rintro e r w' ⟨m,j,_,k⟩;cases e with
   |normal=>exact ihz p q m r w' d.2 k j o s
   |_=>exact .inl ⟨m,j,k⟩
 |block id b F=>
  intro p q f a w d h hs o s;simp only[vx] at h;refine wpIn_block (wpIn_mono (F _ _ f a w d h hs (λl f w h=>o l f w h) (λD l f w h=>s D l f w h)) ?_);have key:∀(K:Exit->Fr->World->Prop) (e:Exit) (m:Fr) (w':World),blkK id K e m w'->∀(df:List Deferred) (r:Act),Sim df n m r->(∀e f w a,Sim df n f a->K e f w->ZA0 n p q e a w)->Exit.inBlock id (ZA0 n p q) e r w':=by
   intro K e m w' k df r j B;cases e with
   |exit i=>
    simp only[blkK] at k;cases hi:Nat.beq i id
    .rw[hi] at k;have C:i≠id:=Nat.ne_of_beq_eq_false hi;simp only[Exit.inBlock,C,if_false];exact B _ _ _ _ j k
    .rw[hi] at k;have:i=id:=gE hi;subst this;simp only[Exit.inBlock,if_true];exact B _ _ _ _ j k
   |_=>exact B _ _ _ _ j k
  rintro e r w' (⟨m,j,k⟩|⟨D,m,j,k⟩)
  .exact key p e m w' k [] r j λe f w a hs h=> .inl ⟨f,hs,h⟩
  .exact key (q D) e m w' k [YU0 D] r j λe f w a hs h=> .inr ⟨D,f,hs,h⟩
 |_=>intro p q f a w d;exact absurd d (by simp[okX])
def Wt (D:Nat) (w:World) (k:World->Prop):Prop:=w.heap[D]?=some (.deferred (some []))/\∀w',Same (· =D) w w'->w'.heap.size=w.heap.size->k w'
def retM (rs:List ResultVar) (K:oK) (D:Nat) (e:Exit) (f:Fr) (w:World):Prop:=
 match e with
 | .normal=>Wt D w λw'=>Yv0 rs f w' K
 | .ret=>Wt D w λw'=>Yv0 rs f w' K
 |_=>False
theorem Jo {g:Nat} {fn:Func} {c:Code} {args:List Value} {w:World} {K:oK} (hm:P.follows .mixedOrders=true) (r:P.funcs[g]?=some fn) (q:fn.body=some c)
  (t:fn.ntmps=n) (s:okFn g=true) (j:okX n T c=true) (hlen:Nat.ble args.length n=true)
  (h:vx T x c (retF fn.results.toList K) (retM fn.results.toList K) (nthV args) w):vcall g args.toArray w K:=by
 refine⟨s,callsIn_wide (n:=0).1 (callsIn_of_wp_marks r q trivial ?_)⟩;rw[t];refine wpIn_mono (kw0 (x:=x) hm c _ _ _ _ w j h (sim_enter args n (Gw hlen)) (λl f w h=>h) (λD l f w h=>h)) ?_;rintro e k w' (⟨m,a,b⟩|⟨D,m,a,b⟩)
 .cases e with
  |normal=>obtain⟨v,d,i⟩:=vres_sound b a;rw[bodyPostM,a.defers];exact⟨v,d,i⟩
  |ret=>obtain⟨v,d,i⟩:=vres_sound b a;rw[bodyPostM,a.defers];exact⟨v,d,i⟩
  |_=>exact b.elim
 .have fin:Wt D w' (λw'=>Yv0 fn.results.toList m w' K)->LeavesInM (FR none) 0 P fn k.tmps (retK K) k.defers .returning w':=by
   rintro⟨o,p⟩;rw[a.defers];obtain⟨v,d,i⟩:=vres_sound (p _ (Yl w' D (.deferred none)) (by simp)) a;exact⟨by simp,.inl ⟨_,_,rfl,run_takeDeferred o,v,d,i⟩⟩
  cases e with
  |normal=>exact fin b
  |ret=>exact fin b
  |_=>exact b.elim
end
end
end Go.Vc
section
namespace Go.M
inductive Tm where
 |mk (op a b:Int) (s:ByteArray) (ks:List Tm)
namespace Tm
def op:Tm->Int|mk o _ _ _ _=>o
def a:Tm->Int|mk _ a _ _ _=>a
def b:Tm->Int|mk _ _ b _ _=>b
def s:Tm->ByteArray|mk _ _ _ s _=>s
def ks:Tm->List Tm|mk _ _ _ _ ks=>ks
theorem ind {p:Tm->Prop} (h:∀t,(∀k,k∈t.ks->p k)->p t):∀t,p t
 |mk o a b s ks=>h _ λk (c:k∈ks)=>by
   have:=List.sizeOf_lt_of_mem c;exact ind h k
decreasing_by
 grind
variable {α:Type}
mutual
def fold (f:Tm->List α->α):Tm->α
 |mk o a b s ks=>f (mk o a b s ks) (foldL f ks)
def foldL (f:Tm->List α->α):List Tm->List α
 |[]=>[]
 |k::r=>fold f k::foldL f r
end
theorem foldL_eq (f:Tm->List α->α) (ks:List Tm):foldL f ks=ks.map (fold f):=by
 induction ks with
 |nil=>simp only[foldL,PX]
 |cons k r a=>simp only[foldL,a,GL]
theorem fold_eq (f:Tm->List α->α) (t:Tm):fold f t=f t (t.ks.map (fold f)):=by
 cases t with
 |mk o a b s ks=>simp only[fold,foldL_eq];rfl
end Tm
def nada:ByteArray:=⟨#[]⟩
instance:Inhabited Tm:=⟨.mk 0 0 0 nada []⟩
def vok (w n:Int):Bool:=decide (1<=w)&&decide (w<=4)&&decide (0<=n)&&decide (n<2^w.toNat)
theorem vok_iff {w n:Int}:vok w n=true↔1<=w/\w<=4/\0<=n/\n<2^w.toNat:=by simp[vok,and_assoc]
theorem four {w:Int} (a:1<=w) (b:w<=4):w=1\/w=2\/w=3\/w=4:=oM
theorem vok_lt {w n:Int} (h:vok w n=true):1<=w/\w<=4/\0<=n/\n<16:=by
 obtain⟨a,b,c,d⟩:=vok_iff.1 h
 grind [four]
theorem small1 {p:Nat->Nat->Prop} [∀w n,Decidable (p w n)] (h:∀w:Fin 5,∀n:Fin 16,1<=w.1->n.1<2^w.1->p w n) {w n:Int} (a:vok w n=true):p w.toNat n.toNat:=by
 obtain⟨b,c,d,e⟩:=vok_lt a;obtain⟨_,_,_,f⟩:=vok_iff.1 a;refine h ⟨w.toNat,oM⟩ ⟨n.toNat,oM⟩ (by grind) ?_
 grind
def unM (op w a:Int):Int:=if op=1 then 2^w.toNat-1-a else(2^w.toNat-a)%2^w.toNat
def binN (op w a b:Nat):Nat:=
 if op=3 then a&&&b
 else if op=4 then a|||b
 else if op=5 then a^^^b
 else if op=6 then(a+b)%2^w
 else if op=7 then(a+2^w-b)%2^w
 else if op=8 then a*b%2^w
 else if op=9 then(if b=0 then 2^w-1 else a/b)
 else if op=10 then(if b=0 then a else a%b)
 else if op=11 then a*2^b%2^w
 else if op=12 then a/2^b
 else if a<2^(w-1) then a/2^b else 2^w-1-(2^w-1-a)/2^b
def binM (op w a b:Int):Int:=binN op.toNat w.toNat a.toNat b.toNat
def catM (v a b:Int):Int:=a*2^v.toNat+b
def sgn (w a:Int):Int:=if a<2^(w.toNat-1) then a else a-2^w.toNat
def cmpM (op w a b:Int):Bool:=if op=15 then decide (a=b) else if op=16 then decide (a<b) else decide (sgn w a<sgn w b)
def cutM (a hi lo:Int):Int:=a/2^lo.toNat%2^(hi-lo+1).toNat
theorem unM_ok {op w a:Int} (h:vok w a=true):vok w (unM op w a)=true:=by
 obtain⟨b,c,d,e⟩:=vok_iff.1 h;refine vok_iff.2 ⟨b,c,?_⟩;unfold unM;omega
def X70 (op w:Nat):Bool:=(List.range 16).all λa=>(List.range 16).all λb=> !(decide (a<2^w)&&decide (b<2^w))||decide (binN op w a b<2^w)
theorem binN_lt {op w a b:Nat} (f:3<=op) (h:op<=13) (hw:1<=w) (d:w<=4) (g:a<2^w) (i:b<2^w):binN op w a b<2^w:=by
 have c:∀o:Fin 14,∀v:Fin 5,3<=o.1->1<=v.1->X70 o v=true:=by decide+kernel
 have e:2^w<=2^4:=gZ oM d;have:=c ⟨op,oM⟩ ⟨w,oM⟩ f hw;simp only[X70,gV,gK,Gv,gX,GN,decide_eq_false_iff_not,gg] at this
 grind
theorem binM_ok {op w a b:Int} (k:3<=op) (c:op<=13) (g:vok w a=true) (h:vok w b=true):vok w (binM op w a b)=true:=by
 obtain⟨i,j,l,m⟩:=vok_iff.1 g;obtain⟨_,_,d,f⟩:=vok_iff.1 h;have e:((2^w.toNat:Nat):Int)=2^w.toNat:=by simp
 have:=binN_lt (op:=op.toNat) (w:=w.toNat) (a:=a.toNat) (b:=b.toNat) oM oM oM oM oM oM
 grind [vok_iff,binM]
theorem cat_ok {v w a b:Int} (c:vok w a=true) (d:vok v b=true) (hs:w+v<=4):vok (w+v) (catM v a b)=true:=by
 obtain⟨e,f,g,h⟩:=vok_iff.1 c;obtain⟨i,j,k,l⟩:=vok_iff.1 d;refine vok_iff.2 ⟨oM,hs,?_⟩;unfold catM
 grind [four]
theorem cut_ok {w a hi lo:Int} (b:vok w a=true) (c:0<=lo) (h:lo<=hi) (hw:hi<w):vok (hi-lo+1) (cutM a hi lo)=true:=by
 obtain⟨d,e,f,g⟩:=vok_iff.1 b;refine vok_iff.2 ⟨oM,oM,?_⟩;unfold cutM;omega
def vecUn (op w n:Int):(Int×Int)×Bool:=if vok w n=true/\(op=1\/op=2) then((w,unM op w n),true) else((0,0),false)
def vecBin (op w n v m:Int):(Int×Int)×Bool:=
 if vok w n=true/\vok v m=true then
  if op=14 then(if w+v<=4 then((w+v,catM v n m),true) else((0,0),false))
  else if 3<=op/\op<=13/\w=v then((w,binM op w n m),true) else((0,0),false)
 else((0,0),false)
def vecCmp (op w n v m:Int):Bool×Bool:=
 if vok w n=true/\vok v m=true/\w=v/\15<=op/\op<=17 then(cmpM op w n m,true) else(false,false)
def vecCut (w n hi lo:Int):(Int×Int)×Bool:=if vok w n=true/\0<=lo/\lo<=hi/\hi<w then((hi-lo+1,cutM n hi lo),true) else((0,0),false)
theorem vok_nat {w n:Int} (h:vok w n=true):∃k a:Nat,w=k/\n=a/\1<=k/\k<=4/\a<2^k:=by
 obtain⟨b,c,d,e⟩:=vok_iff.1 h;refine⟨w.toNat,n.toNat,oM,oM,oM,oM,?_⟩
 grind
theorem unM_not {k a:Nat} (c:1<=k) (d:k<=4) (h:a<2^k):unM 1 k a=((18446744073709551615-a)%2^k:Nat):=by
 have b:∀v:Fin 5,∀x:Fin 16,1<=v.1->x.1<2^v.1->unM 1 v.1 x.1=((18446744073709551615-x.1)%2^v.1:Nat):=by decide+kernel
 have:2^k<=2^4:=gZ oM d;exact b ⟨k,oM⟩ ⟨a,oM⟩ c h
theorem unM_neg {k a:Nat} (c:1<=k) (d:k<=4) (h:a<2^k):unM 2 k a=((if a=0 then 0 else 18446744073709551616-a)%2^k:Nat):=by
 have b:∀v:Fin 5,∀x:Fin 16,1<=v.1->x.1<2^v.1->unM 2 v.1 x.1=((if x.1=0 then 0 else 18446744073709551616-x.1)%2^v.1:Nat):=by decide+kernel
 have:2^k<=2^4:=gZ oM d;exact b ⟨k,oM⟩ ⟨a,oM⟩ c h
theorem cat_or {k v a b:Nat} (d:v<=4) (f:k<=4) (i:a<2^k) (e:b<2^v):((a*2^v|||b:Nat):Int)=catM v a b:=by
 have c:∀v:Fin 5,∀x y:Fin 16,y.1<2^v.1->x.1*2^v.1|||y.1=x.1*2^v.1+y.1:=by decide+kernel
 have g:2^k<=2^4:=gZ oM f;have h:2^v<=2^4:=gZ oM d;have:=c ⟨v,oM⟩ ⟨a,oM⟩ ⟨b,oM⟩ e
 grind [catM]
end Go.M
end
namespace Go.M
open Go.Vc
abbrev Dcl:=ByteArray×Int
def findD (ds:List Dcl) (s:ByteArray):Int:=idxI ds.length λi=>decide ((ds.getD i (nada,0)).1=s)
def tru:ByteArray:=⟨#[116,114,117,101]⟩
def nameOk (s:ByteArray):Bool:=decide (1<=s.size)&&decide (s.size<=4)&&decide (s≠tru)&&s.data.all λc=>decide (97<=c.toNat)&&decide (c.toNat<=122)
def bits (ds:List Dcl):Int:=(ds.map (·.2)).sum
def dclOk (ds:List Dcl) (i:Nat):Bool:=nameOk (ds.getD i (nada,0)).1&&decide (1<=(ds.getD i (nada,0)).2)&&decide ((ds.getD i (nada,0)).2<=4)&&decide (findD (ds.take i) (ds.getD i (nada,0)).1<0)
def declOk (ds:List Dcl):Bool:=decide (ds.length<=4)&&((List.range ds.length).all λi=>dclOk ds i)&&decide (bits ds<=8)
def envOk (ds:List Dcl) (env:oI):Bool:=declOk ds&&decide (env.length=ds.length)&&(List.range ds.length).all λi=>vok (ds.getD i (nada,0)).2 (env.getD i 0)
theorem findD_lt (ds:List Dcl) (s:ByteArray): -1<=findD ds s/\findD ds s<ds.length:=by
 grind [findD,idxI]
theorem findD_neg {ds:List Dcl} {s:ByteArray} (h:findD ds s<0) {j:Nat} (a:j<ds.length):(ds.getD j (nada,0)).1≠s:=by
 grind [findD,idxI]
theorem findD_get {ds:List Dcl} {s:ByteArray} (h:0<=findD ds s):(ds.getD (findD ds s).toNat (nada,0)).1=s:=by
 grind [findD,idxI]
theorem findD_of {ds:List Dcl} {s:ByteArray} {i:Nat} (hi:i<ds.length) (h:(ds.getD i (nada,0)).1=s) (b:∀j,j<i->(ds.getD j (nada,0)).1≠s):findD ds s=i:=
 idxI_some hi (by grind) λj a=>gk (b j a)
theorem findD_none {ds:List Dcl} {s:ByteArray} (b:∀j,j<ds.length->(ds.getD j (nada,0)).1≠s):findD ds s= -1:=
 KN λj a=>gk (b j a)
theorem decl_iff {ds:List Dcl}:declOk ds=true↔ds.length<=4/\(∀i,i<ds.length->dclOk ds i=true)/\bits ds<=8:=by
 grind [declOk]
theorem take_getD {α:Type} {l:List α} {i j:Nat} {d:α} (h:j<i):(l.take i).getD j d=l.getD j d:=by
 grind
theorem dcl_apart {ds:List Dcl} (h:declOk ds=true) {i j:Nat} (hi:i<ds.length) (b:j<i):(ds.getD j (nada,0)).1≠(ds.getD i (nada,0)).1:=by
 have:=(decl_iff.1 h).2.1 i hi;simp only[dclOk,gp,gg] at this;have a:=findD_neg this.2 (j:=j) (by rw[gi];omega);rwa[take_getD b] at a
def bitT (ds:List Dcl) (i:Nat):Int:=((ds.take i).map (·.2)).sum
theorem bitT_succ {ds:List Dcl} {i:Nat} (h:i<ds.length):bitT ds (i+1)=bitT ds i+(ds.getD i (nada,0)).2:=by
 grind [bitT,List.take_add_one]
theorem bitT_all (ds:List Dcl):bitT ds ds.length=bits ds:=by unfold bitT bits;grind
theorem dcl_wide {ds:List Dcl} (h:declOk ds=true) {i:Nat} (hi:i<ds.length):1<=(ds.getD i (nada,0)).2/\(ds.getD i (nada,0)).2<=4:=by
 simp_all[declOk,dclOk]
theorem env_ok {ds:List Dcl} {env:oI} (h:envOk ds env=true):declOk ds=true/\env.length=ds.length/\∀i,i<ds.length->vok (ds.getD i (nada,0)).2 (env.getD i 0)=true:=by
 grind [envOk]
def sizeM:Tm->Nat:=Tm.fold λ_ xs=>1+xs.sum
def deepM:Tm->Nat:=Tm.fold λ_ xs=>1+xs.foldl max 0
theorem sizeM_eq (t:Tm):sizeM t=1+(t.ks.map sizeM).sum:=Tm.fold_eq _ t
theorem Yq (t:Tm):deepM t=1+(t.ks.map deepM).foldl max 0:=Tm.fold_eq _ t
def szT (ks:List Tm) (i:Nat):Nat:=((ks.take i).map sizeM).sum
def dpT (ks:List Tm) (i:Nat):Nat:=((ks.take i).map deepM).foldl max 0
theorem take_add {α:Type} {l:List α} {i:Nat} (h:i<l.length) (d:α):l.take (i+1)=l.take i++[l.getD i d]:=by
 simp_all
theorem szT_succ {ks:List Tm} {i:Nat} (h:i<ks.length):szT ks (i+1)=szT ks i+sizeM (ks.getD i default):=by
 grind [szT,take_add]
theorem dpT_succ {ks:List Tm} {i:Nat} (h:i<ks.length):dpT ks (i+1)=max (dpT ks i) (deepM (ks.getD i default)):=by
 grind [dpT,take_add]
theorem szT_all (t:Tm):sizeM t=1+szT t.ks t.ks.length:=by rw[sizeM_eq,szT,gG]
theorem dpT_all (t:Tm):deepM t=1+dpT t.ks t.ks.length:=by rw[Yq,dpT,gG]
theorem szT_mono {ks:List Tm} {i:Nat}:∀{j:Nat},i<=j->j<=ks.length->szT ks i<=szT ks j
 |0,h,_=>by
  grind
 |j+1,h,a=>by
  by_cases e:i=j+1
  .grind
  .have:=szT_mono (ks:=ks) (i:=i) (j:=j) oM oM;rw[szT_succ oM];omega
theorem dpT_mono {ks:List Tm} {i:Nat}:∀{j:Nat},i<=j->j<=ks.length->dpT ks i<=dpT ks j
 |0,h,_=>by
  grind
 |j+1,h,a=>by
  by_cases e:i=j+1
  .grind
  .have:=dpT_mono (ks:=ks) (i:=i) (j:=j) oM oM;rw[dpT_succ oM];omega
def fits (t:Tm):Bool:=decide (sizeM t<=20)&&decide (deepM t<=7)
theorem fits_iff {t:Tm}:fits t=true↔sizeM t<=20/\deepM t<=7:=by simp[fits]
def manyM (t:Tm):Nat:=if fits t then sizeM t else 21
def lvlM (t:Tm):Nat:=if fits t then deepM t else 8
def arity (o:Int):Int:=if o=20\/o=21\/o=24 then 0 else if o=1\/o=2\/o=22\/o=25 then 1 else if o=23 then 3 else if o=26\/o=27 then 2 else if 3<=o/\o<=17 then 2 else-1
def plainM (t:Tm):Bool:=(decide (t.op=20)||decide (t.op=22)||(decide (t.a=0)&&decide (t.b=0)))&&(decide (t.op=21)||decide (t.s=nada))
def sortK (ds:List Dcl) (t:Tm) (xs:oI):Int:=
 if t.op=20 then(if vok t.a t.b then t.a else-1)
 else if t.op=21 then(if findD ds t.s<0 then-1 else(ds.getD (findD ds t.s).toNat (nada,0)).2)
 else if 24<=t.op then(if xs.any (λx=>decide (x≠0)) then-1 else 0)
 else if t.op=23 then(if xs.getD 0 0=0/\xs.getD 1 0=xs.getD 2 0 then xs.getD 1 0 else-1)
 else if t.op=22 then(if 0<=t.b/\t.b<=t.a/\t.a<xs.getD 0 0 then t.a-t.b+1 else-1)
 else if t.op<=2 then(if 0<xs.getD 0 0 then xs.getD 0 0 else-1)
 else if t.op=14 then(if 0<xs.getD 0 0/\0<xs.getD 1 0/\xs.getD 0 0+xs.getD 1 0<=4 then xs.getD 0 0+xs.getD 1 0 else-1)
 else if 15<=t.op then(if 0<xs.getD 0 0/\xs.getD 0 0=xs.getD 1 0 then 0 else-1)
 else(if 0<xs.getD 0 0/\xs.getD 0 0=xs.getD 1 0 then xs.getD 0 0 else-1)
def formed (t:Tm):Bool:=decide (arity t.op=t.ks.length)&&plainM t
def sortF (ds:List Dcl) (t:Tm) (xs:oI):Int:=if formed t=true/\¬(-1∈xs) then sortK ds t xs else-1
def sortM (ds:List Dcl):Tm->Int:=Tm.fold (sortF ds)
theorem sortM_eq (ds:List Dcl) (t:Tm):sortM ds t=sortF ds t (t.ks.map (sortM ds)):=Tm.fold_eq _ t
theorem arity_ops {o:Int} (h:0<=arity o):(1<=o/\o<=17)\/(20<=o/\o<=27):=by
 grind [arity]
theorem getD_map {α β:Type} (f:α->β) {l:List α} {i:Nat} (h:i<l.length) (d:β) (e:α):(l.map f).getD i d=f (l.getD i e):=by
 grind
theorem getD_mem {α:Type} {l:List α} {i:Nat} (h:i<l.length) (d:α):l.getD i d∈l:=by
 grind
theorem sort_parts {ds:List Dcl} {t:Tm} (h:sortM ds t≠ -1):formed t=true/\(∀k,k∈t.ks->sortM ds k≠ -1)/\sortM ds t=sortK ds t (t.ks.map (sortM ds)):=by
 rw[sortM_eq] at h⊢
 grind [sortF]
theorem sort_range {ds:List Dcl} (c:declOk ds=true):∀t,-1<=sortM ds t/\sortM ds t<=4:=by
 refine Tm.ind λt k=>?_;rw[sortM_eq];unfold sortF;split
 .rename_i j;have a:∀i,-1<=(t.ks.map (sortM ds)).getD i 0/\(t.ks.map (sortM ds)).getD i 0<=4:=(by grind);have f:=a 0;have g:=a 1;have h:=a 2;have b:=arity_ops (o:=t.op) (by
   grind [formed])
  unfold sortK;split
  .split
   .rename_i e;have:=vok_lt e;omega
   .omega
  .split
   .have d:=findD_lt ds t.s;split
    .omega
    .have:=dcl_wide c (i:=(findD ds t.s).toNat) oM;omega
   omega
 .omega
def tsort (ds:List Dcl) (t:Tm):Int:=if fits t=true/\declOk ds=true then sortM ds t else-1
def b2i (b:Bool):Int:=if b then 1 else 0
def valK (ds:List Dcl) (env:oI) (t:Tm) (xs:List (Int×Int)):Int:=
 if t.op=20 then t.b
 else if t.op=21 then env.getD (findD ds t.s).toNat 0
 else if t.op=24 then 1
 else if t.op=25 then b2i (decide ((xs.getD 0 (0,0)).2=0))
 else if t.op=26 then b2i (decide ((xs.getD 0 (0,0)).2=1)&&decide ((xs.getD 1 (0,0)).2=1))
 else if t.op=27 then b2i (decide ((xs.getD 0 (0,0)).2=1)||decide ((xs.getD 1 (0,0)).2=1))
 else if t.op=23 then(if(xs.getD 0 (0,0)).2=1 then(xs.getD 1 (0,0)).2 else(xs.getD 2 (0,0)).2)
 else if t.op=22 then cutM (xs.getD 0 (0,0)).2 t.a t.b
 else if t.op<=2 then unM t.op (xs.getD 0 (0,0)).1 (xs.getD 0 (0,0)).2
 else if t.op=14 then catM (xs.getD 1 (0,0)).1 (xs.getD 0 (0,0)).2 (xs.getD 1 (0,0)).2
 else if 15<=t.op then b2i (cmpM t.op (xs.getD 0 (0,0)).1 (xs.getD 0 (0,0)).2 (xs.getD 1 (0,0)).2)
 else binM t.op (xs.getD 0 (0,0)).1 (xs.getD 0 (0,0)).2 (xs.getD 1 (0,0)).2
def vecF (ds:List Dcl) (env:oI) (t:Tm) (xs:List (Int×Int)):Int×Int:=(sortF ds t (xs.map (·.1)),valK ds env t xs)
def vecM (ds:List Dcl) (env:oI):Tm->Int×Int:=Tm.fold (vecF ds env)
def evalM (ds:List Dcl) (env:oI) (t:Tm):Int:=(vecM ds env t).2
theorem qV0 (ds:List Dcl) (env:oI) (t:Tm):vecM ds env t=vecF ds env t (t.ks.map (vecM ds env)):=Tm.fold_eq _ t
theorem vecM_sort (ds:List Dcl) (env:oI):∀t,(vecM ds env t).1=sortM ds t:=by
 refine Tm.ind λt a=>?_;rw[qV0,sortM_eq];show sortF ds t _=_
 grind [List.map_congr_left]
theorem vecM_pair (ds:List Dcl) (env:oI) (t:Tm):vecM ds env t=(sortM ds t,evalM ds env t):=by rw[<-vecM_sort ds env t];rfl
theorem evalM_eq (ds:List Dcl) (env:oI) (t:Tm):evalM ds env t=valK ds env t (t.ks.map (vecM ds env)):=by
 unfold evalM;rw[qV0];rfl
def inS (w n:Int):Prop:=(w=0/\(n=0\/n=1))\/vok w n=true
theorem Z70 {b:Bool}:inS 0 (b2i b):=by left;cases b<;>simp[b2i]
theorem inS_zero {n:Int} (h:inS 0 n):n=0\/n=1:=by
 rcases h with h|h
 .exact h.2
 .exact absurd (vok_lt h).1 oM
theorem inS_pos {w n:Int} (h:inS w n) (hw:0<w):vok w n=true:=by
 rcases h with h|h
 .omega
 .exact h
def tok (ds:List Dcl) (t:Tm) (env:oI):Bool:=decide (tsort ds t≠ -1)&&envOk ds env
def teval (ds:List Dcl) (t:Tm) (env:oI):Int:=if tok ds t env then evalM ds env t else 0
theorem eval_in {ds:List Dcl} {env:oI} (he:envOk ds env=true):∀t,sortM ds t≠ -1->inS (sortM ds t) (evalM ds env t):=by
 obtain⟨A,C,D⟩:=env_ok he;refine Tm.ind λt E h=>?_;obtain⟨r,B,hs⟩:=sort_parts h;rw[hs] at h;rw[hs,evalM_eq];simp only[formed,gp,gg] at r;obtain⟨x,z⟩:=r;have u:=arity_ops (o:=t.op) oM;have k:∀i,i<t.ks.length->(t.ks.map (sortM ds)).getD i 0=sortM ds (t.ks.getD i default):=by grind
 have l:∀i,i<t.ks.length->(t.ks.map (vecM ds env)).getD i (0,0)=(sortM ds (t.ks.getD i default),evalM ds env (t.ks.getD i default)):=by grind [getD_map,default,vecM_pair]
 have b:∀i,i<t.ks.length->inS (sortM ds (t.ks.getD i default)) (evalM ds env (t.ks.getD i default)):=by grind
 unfold sortK at h⊢;unfold valK;by_cases d:t.op=20
 .simp only[d,if_true] at h⊢;split
  .right;assumption
  grind
 simp only[X0 d] at h⊢;by_cases f:t.op=21
 .simp only[f,if_true] at h⊢;have y:=findD_lt ds t.s;split
  .omega
  .right;grind
 simp only[X0 f] at h⊢;by_cases j:24<=t.op
 .simp only[K3 j] at h⊢;split
  .grind
  .rcases(by omega:t.op=24\/t.op=25\/t.op=26\/t.op=27) with e|e|e|e
   .left;simp[e]
   .simp only[e];exact Z70
   .simp only[e];exact Z70
   .simp only[e];exact Z70
 simp only[X0 j,X0 (show¬t.op=24 by omega),X0 (show¬t.op=25 by omega),X0 (show¬t.op=26 by omega),X0 (show¬t.op=27 by omega)] at h⊢;by_cases n:t.op=23
 .grind [arity]
 simp only[X0 n] at h⊢;by_cases g:t.op=22
 .simp only[g,if_true] at h⊢;have q:t.ks.length=1:=(by grind [arity]);rw[k 0 oM] at h⊢;rw[l 0 oM];split
  .rename_i a;right;exact cut_ok (inS_pos (b 0 oM) oM) a.1 a.2.1 a.2.2
  omega
 simp only[X0 g] at h⊢;by_cases p:t.op<=2
 .simp only[K3 p] at h⊢;have q:t.ks.length=1:=by
   grind [arity]
  rw[k 0 oM] at h⊢;rw[l 0 oM];split
  .rename_i a;right
   grind [unM_ok,inS_pos]
  omega
 simp only[X0 p] at h⊢;have q:t.ks.length=2:=by
  grind [arity]
 have v:=k 0 oM;have w:=k 1 oM;rw[v,w] at h⊢;rw[l 0 oM,l 1 oM];have i0:=b 0 oM;have i1:=b 1 oM;by_cases c:t.op=14
 .simp only[c,if_true] at h⊢;split
  .rename_i a;right;exact cat_ok (inS_pos i0 a.1) (inS_pos i1 a.2.1) a.2.2
  omega
 simp only[X0 c] at h⊢;by_cases m:15<=t.op
 .grind [Z70]
 simp only[X0 m] at h⊢;split
 .rename_i a;right
  grind [binM_ok,inS_pos]
 omega
end Go.M
namespace Go.Vc
open Go Go.M
section
section
variable {F F' S:oA} {w w':World} {K:oK} {k:Nat} {v:Value} {xs:List (List Value)}
theorem Sl.ldAgg (h:Sl F w k v xs) {t:TypeId} (b:aggB t k=true) {i:Nat} (hi:i<xs.length):zt t (oE (eaddr v k i)) w K=K (.agg ⟨xs.getD i []⟩) w:=by
 have a:(xs.getD i []).length=k:=h.wide _ (M.getD_mem hi _);exact XC (by rw[a];exact b) (Sl.cells h hi)
theorem Sl.ldField (h:Sl F w k v xs) {t:TypeId} (a:oneB t=true) {i j:Nat} {x:Value} (hi:i<xs.length) (b:(xs.getD i [])[j]?=some x):zt t (oE ((eaddr v k i).add j)) w K=K x w:=
 y0 a (Sl.cells h hi j x b)
theorem Sl.small (h:Sl F w k v xs):xs.length<=9223372036854775807:=by
 obtain⟨_,_,_,a,b,_⟩:=h.shape;omega
end
inductive TmR (F:oA) (w:World):List Value->Tm->Prop
 |mk {o a b:Int} {s:ByteArray} {ks:List Tm} {kv:Value} {css:List (List Value)}:Sl F w 5 kv css->css.length=ks.length->(∀i,i<ks.length->TmR F w (css.getD i []) (ks.getD i default))->
  TmR F w [nI o,nI a,nI b,.string s,kv] (.mk o a b s ks)
def TmsR (F:oA) (w:World) (kv:Value) (ks:List Tm):Prop:= ∃css:List (List Value),Sl F w 5 kv css/\css.length=ks.length/\∀i,i<ks.length->TmR F w (css.getD i []) (ks.getD i default)
def TermR (F:oA) (w:World) (v:Value) (t:Tm):Prop:= ∃kv,v= .agg ⟨[nI t.op,nI t.a,nI t.b,.string t.s,kv]⟩/\TmsR F w kv t.ks
def DclsR (F:oA) (w:World) (v:Value) (ds:List Dcl):Prop:=Sl F w 2 v (ds.map λd=>[.string d.1,nI d.2])
section
variable {F F' S:oA} {w w':World} {K:oK} {v:Value} {cs:List Value} {t:Tm} {ks:List Tm} {ds:List Dcl}
theorem TmR.same (h:TmR F w cs t) (hw:Same S w w') (hs:∀b,F b->b<w.heap.size->¬S b):TmR F w' cs t:=by
 induction h with
 |mk a c e d=>exact .mk (a.same hw hs) c d
theorem TmR.ext (h:TmR F w cs t) (hw:Ext w w'):TmR F w' cs t:=h.same hw λ_ _ _ h=>h
theorem TmR.weaken (h:TmR F w cs t) (d:∀b,F b->b<w.heap.size->F' b):TmR F' w cs t:=by
 induction h with
 |mk a c f e=>exact .mk (a.weaken d) c e
theorem TmR.inv (h:TmR F w cs t):∃kv,cs=[nI t.op,nI t.a,nI t.b,.string t.s,kv]/\TmsR F w kv t.ks:=by
 cases h with
 |mk c d e=>exact⟨_,rfl,_,c,d,e⟩
theorem TmR.of {kv:Value} (h:TmsR F w kv t.ks):TmR F w [nI t.op,nI t.a,nI t.b,.string t.s,kv] t:=by
 obtain⟨css,c,d,e⟩:=h;cases t with
 |mk o a b s ks=>exact .mk c d e
theorem TmR.term (h:TmR F w cs t):TermR F w (.agg ⟨cs⟩) t:=by
 obtain⟨kv,rfl,a⟩:=h.inv;exact⟨kv,rfl,a⟩
theorem TermR.cells (h:TermR F w v t):∃cs,v= .agg ⟨cs⟩/\TmR F w cs t:=by
 obtain⟨kv,rfl,a⟩:=h;exact⟨_,rfl,TmR.of a⟩
theorem TmsR.same (h:TmsR F w v ks) (hw:Same S w w') (hs:∀b,F b->b<w.heap.size->¬S b):TmsR F w' v ks:=by
 obtain⟨css,a,c,d⟩:=h;exact⟨css,a.same hw hs,c,λi hi=>(d i hi).same hw hs⟩
theorem TmsR.ext (h:TmsR F w v ks) (hw:Ext w w'):TmsR F w' v ks:=h.same hw λ_ _ _ h=>h
theorem TmsR.weaken (h:TmsR F w v ks) (a:∀b,F b->b<w.heap.size->F' b):TmsR F' w v ks:=by
 obtain⟨css,c,d,e⟩:=h;exact⟨css,c.weaken a,d,λi hi=>(e i hi).weaken a⟩
theorem TermR.same (h:TermR F w v t) (hw:Same S w w') (hs:∀b,F b->b<w.heap.size->¬S b):TermR F w' v t:=by
 obtain⟨kv,a,c⟩:=h;exact⟨kv,a,c.same hw hs⟩
theorem TermR.ext (h:TermR F w v t) (hw:Ext w w'):TermR F w' v t:=h.same hw λ_ _ _ h=>h
theorem TermR.weaken (h:TermR F w v t) (d:∀b,F b->b<w.heap.size->F' b):TermR F' w v t:=by
 obtain⟨kv,a,c⟩:=h;exact⟨kv,a,c.weaken d⟩
theorem TmsR.small (h:TmsR F w v ks):ks.length<=9223372036854775807:=by
 obtain⟨css,a,b,c⟩:=h;rw[<-b];exact a.small
theorem TmsR.len (h:TmsR F w v ks) {t:TypeId} (c:isSl t=true) (ty:TypeId):vbi .len [t] ty [v] w' K=K (nI ks.length) w':=by
 obtain⟨css,a,b,d⟩:=h;have:=Sl.len (K:=K) (w':=w') a c ty;rwa[b] at this
theorem TmsR.iaddr (h:TmsR F w v ks) {t:TypeId} (e:elB t 5=true) {kd:IntKind} {i:Int} (b:0<=i) (c:i<ks.length):
  y2 t v (.int kd i) w' K=K (oE (eaddr v 5 i.toNat)) w':=by
 obtain⟨css,a,d,f⟩:=h;exact Sl.iaddr a e b (by rw[d];exact c)
theorem TmsR.load (h:TmsR F w v ks) {t:TypeId} (d:aggB t 5=true) {i:Nat} (hi:i<ks.length) (c:∀x,TermR F w x (ks.getD i default)->K x w):zt t (oE (eaddr v 5 i)) w K:=by
 obtain⟨css,a,e,b⟩:=h;rw[a.ldAgg d oM];exact c _ (b i hi).term
theorem TmsR.nil:TmsR F w (oN) []:=⟨[],⟨⟨none,0,rfl,by simp,by simp,by simp⟩,by simp⟩,rfl,by simp⟩
theorem DclsR.same (h:DclsR F w v ds) (hw:Same S w w') (hs:∀b,F b->b<w.heap.size->¬S b):DclsR F w' v ds:=Sl.same h hw hs
theorem DclsR.ext (h:DclsR F w v ds) (hw:Ext w w'):DclsR F w' v ds:=Sl.ext h hw
theorem DclsR.weaken (h:DclsR F w v ds) (a:∀b,F b->b<w.heap.size->F' b):DclsR F' w v ds:=Sl.weaken h a
theorem DclsR.len (h:DclsR F w v ds) {t:TypeId} (a:isSl t=true) (ty:TypeId):vbi .len [t] ty [v] w' K=K (nI ds.length) w':=by
 have:=Sl.len (K:=K) (w':=w') h a ty;rwa[V0] at this
theorem DclsR.iaddr (h:DclsR F w v ds) {t:TypeId} (c:elB t 2=true) {kd:IntKind} {i:Int} (a:0<=i) (b:i<ds.length):
  y2 t v (.int kd i) w' K=K (oE (eaddr v 2 i.toNat)) w':=Sl.iaddr h c a (by rw[V0];exact b)
theorem JS {i:Nat} (hi:i<ds.length):(ds.map λd=>[Value.string d.1,nI d.2]).getD i []=[.string (ds.getD i (nada,0)).1,nI (ds.getD i (nada,0)).2]:=M.getD_map _ hi _ _
theorem DclsR.load (h:DclsR F w v ds) {t:TypeId} (a:aggB t 2=true) {i:Nat} (hi:i<ds.length):zt t (oE (eaddr v 2 i)) w K=K (.agg ⟨[.string (ds.getD i (nada,0)).1,nI (ds.getD i (nada,0)).2]⟩) w:=by
 rw[Sl.ldAgg h a (by rw[V0];exact hi),JS hi]
theorem DclsR.load0 (h:DclsR F w v ds) {t:TypeId} (a:oneB t=true) {i:Nat} (hi:i<ds.length):zt t (oE ((eaddr v 2 i).add 0)) w K=K (.string (ds.getD i (nada,0)).1) w:=
 Sl.ldField h a (by rw[V0];exact hi) (by rw[JS hi];rfl)
theorem DclsR.load1 (h:DclsR F w v ds) {t:TypeId} (a:oneB t=true) {i:Nat} (hi:i<ds.length):zt t (oE ((eaddr v 2 i).add 1)) w K=K (nI (ds.getD i (nada,0)).2) w:=
 Sl.ldField h a (by rw[V0];exact hi) (by rw[JS hi];rfl)
theorem DclsR.small (h:DclsR F w v ds):ds.length<=9223372036854775807:=by have:=Sl.small h;simpa using this
theorem Sl.base {k:Nat} {xs:List (List Value)} (h:Sl F w k v xs) (f:xs≠[]):∀a l c,v= .slice (some a) l c->∃b o,a=⟨b,o,none⟩:=by
 intro a l c e;obtain⟨i,c',rfl,_,_,g⟩:=h.shape;obtain⟨b,o,rfl,_⟩:=g f
 injection e with d j m
 injection d with d
 exact⟨b,o,d.symm⟩
theorem Sl.taken {k:Nat} {xs:List (List Value)} (h:Sl F w k v xs) {n:Nat} (t:n<=xs.length):Sl F w k (cutV v n) (xs.take n):=by
 obtain⟨a,c,rfl,s,m,q⟩:=h.shape;have l:(xs.take n).length=n:=by rw[gi];omega
 refine⟨⟨a,c,by rw[l];rfl,oM,m,λj=>?_⟩,λx r=>h.wide x (gU r)⟩;have f:xs≠[]:=λe=>j (by rw[e,List.take_nil]);obtain⟨b,o,e,p,g,d⟩:=q f;refine⟨b,o,e,p,g,λi hi=>?_⟩;rw[l] at hi;rw[M.take_getD hi];exact d i oM
theorem DclsR.cut (h:DclsR F w v ds) (a:ds≠[]) {t:TypeId} (c:elB t 2=true) {kd:IntKind} {n:Nat} (b:n<=ds.length):yH t v none (some (.int kd n)) none w' K=K (cutV v n) w':=
 Sl.cut h (Sl.base h (by simpa using a)) c (by rw[V0];exact b)
theorem DclsR.taken (h:DclsR F w v ds) {n:Nat} (a:n<=ds.length):DclsR F w (cutV v n) (ds.take n):=by
 unfold DclsR;rw[GD];exact Sl.taken h (by rw[V0];exact a)
theorem Blk.sl1k {b k:Nat} {cs:List Value} {e:TypeId} (h:Blk w b cs e) (d:cs.length=k):Sl (· =b) w k (.slice (some ⟨b,0,none⟩) 1 1) [cs]:=by
 refine⟨⟨_,1,rfl,gy _,dC,λ_=>⟨b,0,rfl,rfl,h.lt,λi hi j v c=>?_⟩⟩,by simp[d]⟩;have a:i=0:=by simpa using hi
 subst a;rw[ym];simp only[z0e,Ge,G3];exact h.cell c
theorem Own.app1k {bs ty b k:Nat} {t e:TypeId} {xs:List (List Value)} {y:List Value} (h:Own 0 k t w v xs) (g:elZ t k bs=true) (j:0<k) (i:Blk w b y e) (l:y.length=k) (a:∀c,c∈y->c.oneCell'=true)
  (d:xs.length<9223372036854775807) (hlen:(xs.length+1)*bs<=140737488355328)
  (f:∀v' w',Own 0 k t w' v' (xs++[y])->Same (λb=>v.ownBlock=some b) w w'->(∀b,v'.ownBlock=some b->v.ownBlock=some b\/w.heap.size<=b)->K v' w'):vbi .append [t,t] ty [v,.slice (some ⟨b,0,none⟩) 1 1] w K:=
 vappend (F:=(· =b)) g j h (i.sl1k l) (by simpa using a) oM (by rw[Ga];omega) (by simpa using hlen) f
theorem qD {t e k:Nat} {z x:Value} {y:List Value} (hu:P.underlying t=some (.slice e)) (l:xZ e k=true) (hzero:yg e z) (i:x.cells=⟨y⟩) (j:y.length=k) (h:k<=16777216)
  (g:∀b w',b=w.heap.size->Ext w w'->w'.heap.size=w.heap.size+1->Blk w' b y e->K (.slice (some ⟨b,0,none⟩) 1 1) w'):vbuildS t 1 [(0,x)] w K:=by
 refine vbuildS_row (xs:=[x]) (us:=[y]) hu l hzero (by simp[i]) (by simp[j]) (by simpa using h) λb w' a c d f=>g b w' a c d (by simpa using f)
theorem Blk.ownk {b k n:Nat} {t:TypeId} {css:List (List Value)} (h:Blk w b css.flatten (Yo t)) (hw:∀x,x∈css->x.length=k) (c:n=css.length) (hm:n<=9223372036854775807):Own 0 k t w (.slice (some ⟨b,0,none⟩) n n) css:=by
 subst c;have a:=flatten_len hw;refine⟨⟨by rw[a],.inr ⟨b,css.length,⟨css.flatten⟩,by simp,gS _,h,gy _,by simpa[maxLen] using hm,by simpa using a,?_⟩⟩,hw⟩;show List.take (css.length*k) css.flatten=css.flatten;rw[<-a,gG]
theorem flatten_set {k:Nat}:∀{xs:List (List Value)} (_:∀x,x∈xs->x.length=k) {i j:Nat} (u:Value),i<xs.length->j<k->xs.flatten.set (i*k+j) u=(xs.set i ((xs.getD i []).set j u)).flatten
 |[],_,i,j,u,hi,_=>by simp at hi
 |x::r,h,i,j,u,hi,a=>by
  have c:=h x gq;cases i with
  |zero=>
   rw[z0e,Ge];simp only[GZ,pG,pA];rw[List.set_append_left _ _ oM]
  |succ i=>
   simp only[GZ,PZ,pa];rw[pd _ _ (by rw[po];omega)];congr 1;have e:(i+1)*k+j-x.length=i*k+j:=by rw[po];omega
   rw[e,flatten_set (λy b=>h y (gw _ b)) u (by simpa using hi) a]
theorem Own.stCell {k:Nat} {t e:TypeId} {xs:List (List Value)} {x:Value} (h:Own 0 k t w v xs) (E:x.cells= #[x]) (o:x.oneCell'=true) (G:xZ e 1=true) {i j:Nat} (hi:i<xs.length) (C:j<k)
  (p:∀w',Own 0 k t w' v (xs.set i ((xs.getD i []).set j x))->Same (λb=>v.ownBlock=some b) w w'->w'.heap.size=w.heap.size->K undef w'):zI e (oE ((eaddr v k i).add j)) x w K:=by
 rcases h.row.2 with⟨rfl,I⟩|⟨g,cap,cur,rfl,s,H,D,z,A,n⟩
 .omega
 .have a:=h.row;have d:i*k+j<xs.length*k:=by
   have:i*k+k<=xs.length*k:=by rw[<-Nat.succ_mul];exact Pc _ hi
   omega
  have u:=World.ownsRow.cellAt a (i*k+j) d;have B:=World.ownsRow.frozenAt a (i*k+j);obtain⟨l,m⟩:=World.ownsRow.stored a (i*k+j) x;have f:(xs.getD i []).length=k:=h.wide _ (M.getD_mem hi _);have c:w.cell? ⟨g,i*k+j,none⟩=some (xs.flatten.getD (i*k+j) undef):=by
   rw[u];have:i*k+j<xs.flatten.length:=by rw[flatten_len h.wide];exact d
   rw[q0,gj this];rfl
  have r:(⟨g,i*k+j,none⟩:Addr).add 0=⟨g,i*k+j,none⟩:=rfl;have he:(eaddr (.slice (some ⟨g,0,none⟩) xs.length cap) k i).add j=⟨g,i*k+j,none⟩:=by
   simp only[eaddr];rw[ym];simp
  rw[he];refine⟨(),w.setCell ⟨g,i*k+j,none⟩ x,?_,p _ ?_ (Same.of_grown m) (by simp)⟩
  .simp only[Instr.storeAt,Instr.sureAddr,Sem.run_bind,Sem.run_pure,Result.andThen_ok,storeVar,run_sizeOf G,E];cases x<;>first|(cases o;done)|simp[storeCells,store,Sem.run,r,c,B]
  .refine⟨?_,λy F=>?_⟩
   .rw[<-flatten_set h.wide x hi C];simpa using l
   .obtain⟨q,J,rfl⟩:=gx F;rw[pE];split
    .rw[GQ];exact f
    .exact h.wide _ (GY _)
def PairsR (F:oA) (w:World) (v:Value) (xs:List (Int×Int)):Prop:=Sl F w 2 v (xs.map λx=>[nI x.1,nI x.2])
def OwnP (t:TypeId) (w:World) (v:Value) (xs:List (Int×Int)):Prop:=Own 0 2 t w v (xs.map λx=>[nI x.1,nI x.2])
variable {xs:List (Int×Int)}
theorem PairsR.ext (h:PairsR F w v xs) (hw:Ext w w'):PairsR F w' v xs:=Sl.ext h hw
theorem PairsR.iaddr (h:PairsR F w v xs) {t:TypeId} (c:elB t 2=true) {kd:IntKind} {i:Int} (a:0<=i) (b:i<xs.length):
  y2 t v (.int kd i) w' K=K (oE (eaddr v 2 i.toNat)) w':=Sl.iaddr h c a (by rw[V0];exact b)
theorem PairsR.load (h:PairsR F w v xs) {t:TypeId} (a:aggB t 2=true) {i:Nat} (hi:i<xs.length):zt t (oE (eaddr v 2 i)) w K=K (.agg ⟨[nI (xs.getD i (0,0)).1,nI (xs.getD i (0,0)).2]⟩) w:=by
 rw[Sl.ldAgg h a (by rw[V0];exact hi),M.getD_map _ hi _ (0,0)]
theorem PairsR.load1 (h:PairsR F w v xs) {t:TypeId} (a:oneB t=true) {i:Nat} (hi:i<xs.length):zt t (oE ((eaddr v 2 i).add 1)) w K=K (nI (xs.getD i (0,0)).2) w:=
 Sl.ldField h a (by rw[V0];exact hi) (by rw[M.getD_map _ hi _ (0,0)];rfl)
theorem OwnP.pairs {t:TypeId} (h:OwnP t w v xs):PairsR (λb=>v.ownBlock=some b) w v xs:=Own.sl h
theorem OwnP.ext {t:TypeId} (h:OwnP t w v xs) (hw:Ext w w'):OwnP t w' v xs:=Own.ext h hw
theorem OwnP.nil (t:TypeId):OwnP t w (oN) []:=Own.nil 0 2 t w
end
end
end Go.Vc
namespace Go.Proofs.YtfjlkobhagjdaaaGreatDoor
open Go Go.Vc Go.Proofs
theorem mixed:P.follows .mixedOrders=true:=rK
abbrev XO:Nat:=6
abbrev Vz:Nat:=19
abbrev KD:Nat:=20
abbrev Js:Nat:=21
abbrev Jz:Nat:=22
abbrev Yv:Nat:=28
abbrev yh0:Nat:=29
abbrev Uj:Nat:=30
abbrev Kl:Nat:=32
abbrev ZM:Nat:=33
abbrev yb0:Nat:=34
abbrev Kz:Nat:=37
abbrev Vy:Nat:=40
abbrev WK:Nat:=41
abbrev Ug:Nat:=42
abbrev j0:Nat:=43
abbrev Ua:Nat:=44
abbrev WI:Nat:=45
abbrev xK:Nat:=46
abbrev X2:Nat:=47
abbrev Q2:Nat:=48
abbrev Ui:Nat:=49
abbrev yi0:Nat:=50
abbrev j9:Nat:=51
abbrev Jm:Nat:=52
abbrev Uo:Nat:=53
abbrev zF0:Nat:=54
abbrev Vi:Nat:=55
abbrev WH:Nat:=56
abbrev jI:Nat:=57
abbrev qE:Nat:=58
abbrev Q0:Nat:=59
abbrev Vk:Nat:=61
abbrev Um:Nat:=62
abbrev Ko:Nat:=63
abbrev U3:Nat:=64
abbrev zI0:Nat:=65
abbrev KB:Nat:=66
abbrev Uu:Nat:=67
abbrev jJ:Nat:=68
abbrev Vw:Nat:=70
abbrev U4:Nat:=71
abbrev YX:Nat:=72
abbrev U5:Nat:=73
abbrev U6:Nat:=74
abbrev Zf:Nat:=75
abbrev YY:Nat:=76
abbrev Xg:Nat:=77
abbrev yg0:Nat:=78
abbrev VI:Nat:=79
abbrev VH:Nat:=80
abbrev VG:Nat:=81
abbrev VF:Nat:=82
abbrev zH0:Nat:=83
abbrev Vj:Nat:=84
abbrev Ki:Nat:=85
abbrev jV:Nat:=86
abbrev Ul:Nat:=87
abbrev qf:Nat:=88
abbrev y60:Nat:=89
abbrev Vv:Nat:=90
abbrev ya0:Nat:=91
abbrev y30:Nat:=92
abbrev U8:Nat:=93
abbrev yd0:Nat:=94
abbrev Vh:Nat:=95
abbrev xM:Nat:=96
abbrev ji0:Nat:=97
abbrev Jl:Nat:=98
abbrev y50:Nat:=99
abbrev jU:Nat:=100
abbrev Ub:Nat:=101
abbrev qe:Nat:=102
abbrev WM:Nat:=103
abbrev x20:Nat:=104
abbrev zT0:Nat:=105
abbrev U1:Nat:=106
abbrev zW0:Nat:=107
abbrev WT:Nat:=108
abbrev Kq:Nat:=109
abbrev jY:Nat:=110
abbrev jo:Nat:=111
abbrev qF:Nat:=112
abbrev j3:Nat:=113
abbrev Vx:Nat:=116
abbrev qc:Nat:=124
abbrev WL:Nat:=125
abbrev Vl:Nat:=126
abbrev x30:Nat:=127
abbrev zO0:Nat:=128
abbrev zP0:Nat:=129
abbrev WS:Nat:=130
abbrev y00:Nat:=131
abbrev x50:Nat:=132
abbrev U9:Nat:=133
abbrev KC:Nat:=134
abbrev Kw:Nat:=135
abbrev jj0:Nat:=136
abbrev q80:Nat:=137
abbrev KE:Nat:=138
abbrev XS:Nat:=139
abbrev Uq:Nat:=140
abbrev zG0:Nat:=145
abbrev WJ:Nat:=146
abbrev WN:Nat:=147
abbrev zQ0:Nat:=148
abbrev x40:Nat:=149
abbrev zM0:Nat:=150
abbrev zR0:Nat:=151
abbrev WR:Nat:=152
abbrev WO:Nat:=153
abbrev WP:Nat:=154
abbrev zL0:Nat:=155
abbrev zN0:Nat:=156
abbrev Vm:Nat:=157
abbrev Vn:Nat:=158
abbrev y10:Nat:=159
abbrev U7:Nat:=160
abbrev U2:Nat:=161
abbrev Vs:Nat:=162
abbrev zZ0:Nat:=163
abbrev WY:Nat:=164
abbrev Vp:Nat:=165
abbrev x60:Nat:=166
abbrev Ku:Nat:=167
abbrev XV:Nat:=168
abbrev xL:Nat:=169
abbrev q90:Nat:=170
abbrev QJ:Nat:=171
abbrev Xm:Nat:=172
abbrev kD:Nat:=173
abbrev VC:Nat:=174
abbrev Kt:Nat:=175
abbrev XT:Nat:=176
abbrev Un:Nat:=177
abbrev Zj:Nat:=178
abbrev y70:Nat:=182
abbrev zU0:Nat:=183
abbrev zK0:Nat:=184
abbrev zJ0:Nat:=185
abbrev WQ:Nat:=186
abbrev Jr:Nat:=187
abbrev x80:Nat:=188
abbrev Vt:Nat:=189
abbrev x70:Nat:=190
abbrev Km:Nat:=191
abbrev Vu:Nat:=192
abbrev Vr:Nat:=193
abbrev WV:Nat:=194
abbrev Kj:Nat:=195
abbrev zV0:Nat:=196
abbrev Vo:Nat:=197
abbrev WZ:Nat:=198
abbrev Vq:Nat:=199
abbrev QK:Nat:=200
abbrev ZN:Nat:=201
abbrev VA:Nat:=202
abbrev Zg:Nat:=203
abbrev Xn:Nat:=204
abbrev jp:Nat:=205
abbrev km:Nat:=206
abbrev QH:Nat:=207
abbrev ZQ:Nat:=208
abbrev Yy:Nat:=209
abbrev Yz:Nat:=210
abbrev ZP:Nat:=211
abbrev Jk:Nat:=216
abbrev Jj:Nat:=217
abbrev zS0:Nat:=218
abbrev y20:Nat:=219
abbrev Ud:Nat:=220
abbrev y90:Nat:=221
abbrev Ue:Nat:=222
abbrev Uf:Nat:=223
abbrev U0:Nat:=224
abbrev WU:Nat:=225
abbrev WW:Nat:=226
abbrev WX:Nat:=227
abbrev zY0:Nat:=228
abbrev Xf:Nat:=229
abbrev qt:Nat:=230
abbrev Ju:Nat:=231
abbrev XR:Nat:=232
abbrev X1:Nat:=233
abbrev j8:Nat:=234
abbrev YW:Nat:=235
abbrev Ks:Nat:=236
abbrev ZU:Nat:=237
abbrev qd:Nat:=238
abbrev ZT:Nat:=239
abbrev QM:Nat:=240
abbrev kG:Nat:=241
abbrev ZB:Nat:=242
abbrev yK0:Nat:=243
abbrev QI:Nat:=244
abbrev jg:Nat:=245
abbrev Zi:Nat:=246
abbrev XQ:Nat:=247
abbrev Xe:Nat:=248
abbrev Yx:Nat:=249
abbrev QG:Nat:=250
abbrev y40:Nat:=252
abbrev Kk:Nat:=253
abbrev y80:Nat:=254
abbrev zX0:Nat:=255
abbrev kc:Nat:=256
abbrev qT:Nat:=257
abbrev jw:Nat:=258
abbrev jx:Nat:=259
abbrev k8:Nat:=260
abbrev ji:Nat:=261
abbrev jy:Nat:=262
abbrev kR:Nat:=263
abbrev Uk:Nat:=264
abbrev xV:Nat:=268
abbrev ki:Nat:=269
abbrev x90:Nat:=270
abbrev Zk:Nat:=271
abbrev qG:Nat:=272
abbrev VE:Nat:=273
abbrev kE:Nat:=274
abbrev xW:Nat:=275
abbrev XZ:Nat:=276
abbrev QN:Nat:=277
abbrev XY:Nat:=278
abbrev kF:Nat:=279
abbrev ZS:Nat:=280
abbrev YB:Nat:=281
abbrev Xi:Nat:=282
abbrev Xl:Nat:=283
abbrev YA:Nat:=284
abbrev Xd:Nat:=285
abbrev XP:Nat:=286
abbrev ZO:Nat:=287
abbrev kQ:Nat:=288
abbrev ZR:Nat:=289
abbrev QO:Nat:=290
abbrev ky:Nat:=291
abbrev yB:Nat:=292
abbrev Uc:Nat:=294
abbrev YZ:Nat:=295
abbrev yc0:Nat:=296
abbrev Jy:Nat:=297
abbrev Kv:Nat:=298
abbrev XU:Nat:=299
abbrev jh0:Nat:=300
abbrev Up:Nat:=301
abbrev KA:Nat:=302
abbrev ye0:Nat:=303
abbrev JN:Nat:=304
abbrev Kr:Nat:=307
abbrev Jv:Nat:=308
abbrev ql:Nat:=309
abbrev Xk:Nat:=310
abbrev XX:Nat:=311
abbrev XW:Nat:=312
abbrev Xj:Nat:=313
abbrev KF:Nat:=314
abbrev Jw:Nat:=317
abbrev qS:Nat:=318
abbrev Vf:Nat:=319
abbrev Wl:Nat:=320
abbrev JM:Nat:=321
abbrev QF:Nat:=322
abbrev Jt:Nat:=323
abbrev q70:Nat:=327
abbrev Xh:Nat:=328
abbrev Yw:Nat:=329
abbrev jj:Nat:=330
abbrev Uh:Nat:=341
abbrev Ky:Nat:=370
abbrev yi:Nat:=371
abbrev yp:Nat:=372
abbrev kB:Nat:=373
abbrev jX:Nat:=374
abbrev Zh:Nat:=375
abbrev yf0:Nat:=376
abbrev VJ:Nat:=377
abbrev VB:Nat:=378
abbrev kg:Nat:=379
abbrev jB:Nat:=380
abbrev Ut:Nat:=381
abbrev Kx:Nat:=382
abbrev xm:Nat:=383
abbrev xl:Nat:=384
abbrev xk:Nat:=385
abbrev xj:Nat:=386
abbrev xi:Nat:=387
abbrev xh:Nat:=388
abbrev xg:Nat:=389
abbrev xf:Nat:=390
abbrev xe:Nat:=391
abbrev x8:Nat:=392
abbrev x7:Nat:=393
abbrev YC:Nat:=394
abbrev kf:Nat:=395
abbrev jA:Nat:=396
abbrev Us:Nat:=397
abbrev Jx:Nat:=398
abbrev jW:Nat:=399
abbrev ju:Nat:=400
abbrev jv:Nat:=401
abbrev jh:Nat:=402
abbrev zp0:Nat:=403
abbrev ke:Nat:=404
abbrev jz:Nat:=405
abbrev Ur:Nat:=406
abbrev kC:Nat:=407
abbrev jZ:Nat:=408
abbrev jC:Nat:=409
abbrev jk:Nat:=410
abbrev zq0:Nat:=411
abbrev kj:Nat:=412
abbrev jD:Nat:=413
abbrev yJ:Nat:=0
abbrev jl:Nat:=1
abbrev qr:Nat:=2
abbrev xO:Nat:=3
abbrev jc:Nat:=7
abbrev T_T_:Nat:=0
abbrev T_int64:Nat:=2
abbrev zV:Nat:=3
abbrev xC:Nat:=4
abbrev Yh:Nat:=5
abbrev xb:Nat:=9
abbrev xd:Nat:=31
abbrev zk:Nat:=33
abbrev za:Nat:=36
abbrev xc:Nat:=42
abbrev zf:Nat:=45
abbrev yQ:Nat:=65
abbrev zh:Nat:=81
abbrev zT:Nat:=83
abbrev kK:Nat:=85
abbrev yZ:Nat:=99
abbrev xJ:Nat:=109
abbrev xi0:Nat:=111
abbrev qy:Nat:=114
abbrev zP:Nat:=116
abbrev zL:Nat:=117
abbrev zF:Nat:=118
abbrev zO:Nat:=119
abbrev zE:Nat:=120
abbrev zK:Nat:=121
abbrev zU:Nat:=122
abbrev Zs:Nat:=123
abbrev zx:Nat:=125
abbrev yC:Nat:=126
abbrev zG:Nat:=127
abbrev zJ:Nat:=128
abbrev zq:Nat:=130
abbrev y3:Nat:=138
abbrev xF:Nat:=139
abbrev yU:Nat:=141
abbrev xu:Nat:=143
abbrev zz:Nat:=159
abbrev zw:Nat:=161
abbrev zA:Nat:=163
abbrev zu:Nat:=169
abbrev qw:Nat:=172
abbrev zn:Nat:=196
abbrev yL:Nat:=202
abbrev Wc:Nat:=204
abbrev yr:Nat:=206
abbrev ya:Nat:=238
abbrev zg:Nat:=242
abbrev yA:Nat:=244
abbrev yM:Nat:=245
abbrev yj:Nat:=247
abbrev JJ:Nat:=248
abbrev yE:Nat:=250
abbrev yq:Nat:=251
abbrev JU:Nat:=253
abbrev Jc:Nat:=254
abbrev yu:Nat:=257
abbrev kt0:Nat:=258
abbrev zH:Nat:=277
abbrev y5:Nat:=279
abbrev y9:Nat:=281
abbrev yJ0:Nat:=288
abbrev zW:Nat:=306
abbrev yb:Nat:=308
abbrev zk0:Nat:=322
abbrev Jd:Nat:=351
abbrev ZR0:Nat:=372
abbrev yP:Nat:=407
abbrev xa:Nat:=424
theorem xn:yg zV (nI 0):=by unfold yg;kernel_rfl
@[push_cast] theorem WF:oneB zV=true:=rK
@[push_cast] theorem yG:xZ zV 1=true:=rK
theorem Wn:qB0 zV .i64:=by unfold qB0;kernel_rfl
theorem xv0:(P.underlying zV).isSome=true:=rK
theorem yL0:yg xC (.bool false):=by unfold yg;kernel_rfl
@[push_cast] theorem ZK0:oneB xC=true:=rK
@[push_cast] theorem xk0:xZ xC 1=true:=rK
@[push_cast] theorem o_uint8:oneB Yh=true:=rK
theorem Z80:qB0 Yh .u8:=by unfold qB0;kernel_rfl
theorem xu0:(P.underlying Yh).isSome=true:=rK
theorem kT:yg xb (.string ⟨#[]⟩):=by unfold yg;kernel_rfl
@[push_cast] theorem kV0:oneB xb=true:=rK
@[push_cast] theorem Wr:xZ xb 1=true:=rK
theorem kZ:P.underlying xb=some .string:=rK
@[push_cast] theorem Ji:oneB xd=true:=rK
@[push_cast] theorem Y5:elZ xd 2 24=true:=rK
theorem jf:P.underlying xd=some (.slice yQ):=rK
theorem Qf:Yo xd=yQ:=rK
@[push_cast] theorem ZI0:isSl xd=true:=rK
@[push_cast] theorem Ye:elB xd 2=true:=rK
@[push_cast] theorem zE0:oneB zk=true:=rK
@[push_cast] theorem xY:xZ zk 1=true:=rK
@[push_cast] theorem qg:elZ zk 5 64=true:=rK
theorem yW:P.underlying zk=some (.slice za):=rK
theorem qm:Yo zk=za:=rK
@[push_cast] theorem Jh:isSl zk=true:=rK
@[push_cast] theorem yz0:elB zk 5=true:=rK
theorem zp:yg za (.agg #[(nI 0),(nI 0),(nI 0),(.string ⟨#[]⟩),(oN)]):=by unfold yg;kernel_rfl
theorem qk:strF za=some ([(0,1),(1,1),(2,1),(3,1),(4,1)],[(nI 0),(nI 0),(nI 0),(.string ⟨#[]⟩),(oN)]):=rK
@[push_cast] theorem zc:aggB za 5=true:=rK
@[push_cast] theorem xq:xZ za 5=true:=rK
@[push_cast] theorem o_Luint8:oneB xc=true:=rK
@[push_cast] theorem Z50:elZ xc 1 1=true:=rK
theorem XG:P.underlying xc=some (.slice Yh):=rK
theorem jO0:Yo xc=Yh:=rK
@[push_cast] theorem s_Luint8:isSl xc=true:=rK
@[push_cast] theorem Zt0:elB xc 1=true:=rK
theorem JV:yg zf (oN):=by unfold yg;kernel_rfl
@[push_cast] theorem ZL0:oneB zf=true:=rK
@[push_cast] theorem qR:xZ zf 1=true:=rK
@[push_cast] theorem xt:elZ zf 1 8=true:=rK
theorem x6:P.underlying zf=some (.slice zV):=rK
theorem qu:Yo zf=zV:=rK
@[push_cast] theorem ZH0:isSl zf=true:=rK
@[push_cast] theorem Yc:elB zf 1=true:=rK
theorem yV:yg yQ (.agg #[(.string ⟨#[]⟩),(nI 0)]):=by unfold yg;kernel_rfl
theorem xg0:strF yQ=some ([(0,1),(1,1)],[(.string ⟨#[]⟩),(nI 0)]):=rK
@[push_cast] theorem Yg0:aggB yQ 2=true:=rK
@[push_cast] theorem jQ:xZ yQ 2=true:=rK
theorem zX:yg zh (.agg #[(nI 0),(nI 0)]):=by unfold yg;kernel_rfl
theorem J7:strF zh=some ([(0,1),(1,1)],[(nI 0),(nI 0)]):=rK
@[push_cast] theorem zr:aggB zh 2=true:=rK
@[push_cast] theorem xS0:xZ zh 2=true:=rK
@[push_cast] theorem zC0:oneB zT=true:=rK
theorem Zm:P.underlying zT=some (.map 3 111):=rK
theorem YT:P.underlying kK=some (.map 9 3):=rK
theorem yF0:strF yZ=some ([(0,1),(1,1)],[(oN),(nI 0)]):=rK
@[push_cast] theorem xa0:elZ xJ 2 16=true:=rK
theorem yQ0:P.underlying xJ=some (.slice zh):=rK
@[push_cast] theorem Yj0:elB xJ 2=true:=rK
theorem yH0:strF qy=some ([(0,1),(1,1)],[(.string ⟨#[]⟩),(nI 0)]):=rK
theorem qo:yg zP (.agg #[(.string ⟨#[]⟩),(nI 0)]):=by unfold yg;kernel_rfl
theorem zf0:strF zP=some ([(0,2)],[(.string ⟨#[]⟩),(nI 0)]):=rK
@[push_cast] theorem UF:aggB zP 2=true:=rK
theorem jO:yg zL (.agg #[(.string ⟨#[]⟩),(nI 0)]):=by unfold yg;kernel_rfl
theorem W8:strF zL=some ([(0,2)],[(.string ⟨#[]⟩),(nI 0)]):=rK
theorem ZF:yg zF (.agg #[(.string ⟨#[]⟩),(nI 0)]):=by unfold yg;kernel_rfl
theorem W6:strF zF=some ([(0,2)],[(.string ⟨#[]⟩),(nI 0)]):=rK
@[push_cast] theorem VO:aggB zF 2=true:=rK
theorem yF:yg zO (.agg #[(.string ⟨#[]⟩),(nI 0)]):=by unfold yg;kernel_rfl
theorem W4:strF zO=some ([(0,2)],[(.string ⟨#[]⟩),(nI 0)]):=rK
@[push_cast] theorem VM:aggB zO 2=true:=rK
theorem yN:yg zE (.agg #[(.string ⟨#[]⟩),(nI 0)]):=by unfold yg;kernel_rfl
theorem Va:strF zE=some ([(0,2)],[(.string ⟨#[]⟩),(nI 0)]):=rK
@[push_cast] theorem KP:aggB zE 2=true:=rK
theorem xo:yg zK (.agg #[(.string ⟨#[]⟩),(nI 0)]):=by unfold yg;kernel_rfl
theorem W5:strF zK=some ([(0,2)],[(.string ⟨#[]⟩),(nI 0)]):=rK
@[push_cast] theorem VN:aggB zK 2=true:=rK
theorem xN:yg zU (.agg #[(.string ⟨#[]⟩),(nI 0)]):=by unfold yg;kernel_rfl
theorem zh0:strF zU=some ([(0,2)],[(.string ⟨#[]⟩),(nI 0)]):=rK
@[push_cast] theorem UG:aggB zU 2=true:=rK
@[push_cast] theorem WG:oneB Zs=true:=rK
theorem Jp:yg zx (.agg #[(.string ⟨#[]⟩),(nI 0),.nilFunc]):=by unfold yg;kernel_rfl
theorem Vb:strF zx=some ([(0,2),(2,1)],[(.string ⟨#[]⟩),(nI 0),.nilFunc]):=rK
@[push_cast] theorem Y9:aggB zx 3=true:=rK
@[push_cast] theorem yl0:elZ yC 1 16=true:=rK
theorem kU:P.underlying yC=some (.slice xb):=rK
theorem qn0:Yo yC=xb:=rK
@[push_cast] theorem YQ0:isSl yC=true:=rK
theorem jP:yg zG (.agg #[(.string ⟨#[]⟩),(nI 0)]):=by unfold yg;kernel_rfl
theorem Wb:strF zG=some ([(0,2)],[(.string ⟨#[]⟩),(nI 0)]):=rK
theorem ku0:yg zJ (oN):=by unfold yg;kernel_rfl
@[push_cast] theorem o_LLint:oneB zJ=true:=rK
@[push_cast] theorem Qv:xZ zJ 1=true:=rK
@[push_cast] theorem Y6:elZ zJ 1 24=true:=rK
theorem Qy:P.underlying zJ=some (.slice zf):=rK
theorem z90:Yo zJ=zf:=rK
@[push_cast] theorem Y60:isSl zJ=true:=rK
@[push_cast] theorem Yk0:elB zJ 1=true:=rK
theorem xp:yg zq (.agg #[(nI 0),(oN)]):=by unfold yg;kernel_rfl
theorem J9:strF zq=some ([(0,1),(1,1)],[(nI 0),(oN)]):=rK
@[push_cast] theorem zD:aggB zq 2=true:=rK
theorem qt0:strF y3=some ([(0,1),(1,1),(2,1),(3,2),(5,1)],[(oN),(oN),(oN),(nI 0),(oN),(oN)]):=rK
theorem kV:P.underlying xF=some (.slice yU):=rK
@[push_cast] theorem Wg:isSl xF=true:=rK
@[push_cast] theorem Z4:elB xF 1=true:=rK
theorem ku:yg yU .nilFunc:=by unfold yg;kernel_rfl
@[push_cast] theorem kP:oneB yU=true:=rK
@[push_cast] theorem kM:xZ yU 1=true:=rK
@[push_cast] theorem xr:oneB xu=true:=rK
@[push_cast] theorem ZT0:xZ xu 1=true:=rK
@[push_cast] theorem ZM0:oneB zz=true:=rK
@[push_cast] theorem Jf:xZ zz 1=true:=rK
@[push_cast] theorem qx:elZ zz 3 24=true:=rK
theorem je:P.underlying zz=some (.slice zn):=rK
theorem Qe:Yo zz=zn:=rK
@[push_cast] theorem qa:isSl zz=true:=rK
@[push_cast] theorem Yd:elB zz 3=true:=rK
theorem qW:yg zw (.agg #[(nI 0),(oN)]):=by unfold yg;kernel_rfl
theorem J8:strF zw=some ([(0,1),(1,1)],[(nI 0),(oN)]):=rK
@[push_cast] theorem zY:aggB zw 2=true:=rK
theorem xx:yg zA (.agg #[(nI 0),(oN),(.bool false)]):=by unfold yg;kernel_rfl
theorem xf0:strF zA=some ([(0,2),(2,1)],[(nI 0),(oN),(.bool false)]):=rK
@[push_cast] theorem j4:aggB zA 3=true:=rK
theorem qV:yg zu (.agg #[(oN),(oN),(oN),(nI 0)]):=by unfold yg;kernel_rfl
theorem qu0:strF zu=some ([(0,1),(1,1),(2,1),(3,1)],[(oN),(oN),(oN),(nI 0)]):=rK
@[push_cast] theorem zQ:aggB zu 4=true:=rK
@[push_cast] theorem ju0:elZ qw 1 1=true:=rK
theorem qY0:P.underlying qw=some (.slice xC):=rK
theorem z80:Yo qw=xC:=rK
@[push_cast] theorem s_Lbool:isSl qw=true:=rK
@[push_cast] theorem xd0:elB qw 1=true:=rK
theorem kz:yg zn (.agg #[(.bool false),(nI 0),(nI 0)]):=by unfold yg;kernel_rfl
theorem Zr:strF zn=some ([(0,1),(1,1),(2,1)],[(.bool false),(nI 0),(nI 0)]):=rK
@[push_cast] theorem xI:aggB zn 3=true:=rK
@[push_cast] theorem X4:xZ zn 3=true:=rK
@[push_cast] theorem jd0:oneB yL=true:=rK
@[push_cast] theorem ke0:oneB Wc=true:=rK
theorem zg0:strF yr=some ([(0,2),(2,1),(3,1),(4,1),(5,1)],[(nI 0),(oN),(.pointer none),(oN),(oN),(nI 0)]):=rK
theorem zi0:strF ya=some ([(0,1),(1,1)],[(oN),(.map none)]):=rK
@[push_cast] theorem xH:aggB ya 2=true:=rK
theorem qz:yg zg (oN):=by unfold yg;kernel_rfl
@[push_cast] theorem Vg:oneB zg=true:=rK
@[push_cast] theorem j5:xZ zg 1=true:=rK
@[push_cast] theorem yx:elZ zg 1 8=true:=rK
theorem yw:P.underlying zg=some (.slice yq):=rK
theorem yK:Yo zg=yq:=rK
@[push_cast] theorem yR:isSl zg=true:=rK
@[push_cast] theorem yD:elB zg 1=true:=rK
@[push_cast] theorem qy0:oneB yA=true:=rK
@[push_cast] theorem Ke:oneB yM=true:=rK
theorem jq:P.underlying yM=some (.map 9 242):=rK
theorem Wa:strF yj=some ([(0,1),(1,1),(2,1),(3,1)],[(.pointer none),(oN),(.map none),(.map none)]):=rK
@[push_cast] theorem qx0:oneB JJ=true:=rK
theorem W9:strF yE=some ([(0,1),(1,1)],[(.pointer none),.nilIface]):=rK
theorem yd:yg yq (nI 0):=by unfold yg;kernel_rfl
@[push_cast] theorem kW0:oneB yq=true:=rK
@[push_cast] theorem y4:xZ yq 1=true:=rK
theorem xb0:qB0 Jc .u64:=by unfold qB0;kernel_rfl
theorem K6:(P.underlying Jc).isSome=true:=rK
theorem yG0:strF yu=some ([(0,1),(1,1),(2,1)],[(oN),(oN),(oN)]):=rK
@[push_cast] theorem KK:elZ zH 1 24=true:=rK
theorem ZK:P.underlying zH=some (.slice zg):=rK
@[push_cast] theorem j70:isSl zH=true:=rK
@[push_cast] theorem V5:elB zH 1=true:=rK
@[push_cast] theorem zD0:oneB y5=true:=rK
theorem qI:P.underlying y5=some (.map 196 3):=rK
theorem W7:strF y9=some ([(0,2),(2,1)],[(nI 0),(oN),(.map none)]):=rK
theorem jC0:qB0 yJ0 .u64:=by unfold qB0;kernel_rfl
theorem Y30:(P.underlying yJ0).isSome=true:=rK
theorem qQ:P.underlying zW=some (.slice yb):=rK
theorem qM:Yo zW=yb:=rK
@[push_cast] theorem Qt:isSl zW=true:=rK
@[push_cast] theorem Qu:elB zW 1=true:=rK
@[push_cast] theorem Yu:oneB yb=true:=rK
@[push_cast] theorem Yt:xZ yb 1=true:=rK
theorem kG0:P.underlying zk0=some (.slice zJ):=rK
@[push_cast] theorem s_LLLint:isSl zk0=true:=rK
@[push_cast] theorem e_LLLint:elB zk0 1=true:=rK
@[push_cast] theorem xA:imapB Jd=true:=rK
theorem VX:fieldB za 0 0=true:=rK
@[push_cast] theorem kn0 {w:World} {K:oK} (a:Addr):zB za (.pointer (some a)) 0 w K=K (oE (a.add 0)) w:=zy VX a
theorem VW:fieldB za 1 1=true:=rK
@[push_cast] theorem km0 {w:World} {K:oK} (a:Addr):zB za (.pointer (some a)) 1 w K=K (oE (a.add 1)) w:=zy VW a
theorem VV:fieldB za 2 2=true:=rK
@[push_cast] theorem kl0 {w:World} {K:oK} (a:Addr):zB za (.pointer (some a)) 2 w K=K (oE (a.add 2)) w:=zy VV a
theorem VU:fieldB za 3 3=true:=rK
@[push_cast] theorem kk0 {w:World} {K:oK} (a:Addr):zB za (.pointer (some a)) 3 w K=K (oE (a.add 3)) w:=zy VU a
theorem VS:fieldB za 4 4=true:=rK
@[push_cast] theorem kj0 {w:World} {K:oK} (a:Addr):zB za (.pointer (some a)) 4 w K=K (oE (a.add 4)) w:=zy VS a
theorem W2:fieldB yQ 0 0=true:=rK
@[push_cast] theorem ks0 {w:World} {K:oK} (a:Addr):zB yQ (.pointer (some a)) 0 w K=K (oE (a.add 0)) w:=zy W2 a
theorem W1:fieldB yQ 1 1=true:=rK
@[push_cast] theorem kr0 {w:World} {K:oK} (a:Addr):zB yQ (.pointer (some a)) 1 w K=K (oE (a.add 1)) w:=zy W1 a
theorem UQ:fieldB zh 0 0=true:=rK
@[push_cast] theorem Zn0 {w:World} {K:oK} (a:Addr):zB zh (.pointer (some a)) 0 w K=K (oE (a.add 0)) w:=zy UQ a
theorem UP:fieldB zh 1 1=true:=rK
@[push_cast] theorem Zm0 {w:World} {K:oK} (a:Addr):zB zh (.pointer (some a)) 1 w K=K (oE (a.add 1)) w:=zy UP a
theorem KR:fieldB yZ 0 0=true:=rK
@[push_cast] theorem Yb {w:World} {K:oK} (a:Addr):zB yZ (.pointer (some a)) 0 w K=K (oE (a.add 0)) w:=zy KR a
theorem KQ:fieldB yZ 1 1=true:=rK
@[push_cast] theorem V3 {w:World} {K:oK} (a:Addr):zB yZ (.pointer (some a)) 1 w K=K (oE (a.add 1)) w:=zy KQ a
theorem KY:fieldB qy 0 0=true:=rK
@[push_cast] theorem jL0 {w:World} {K:oK} (a:Addr):zB qy (.pointer (some a)) 0 w K=K (oE (a.add 0)) w:=zy KY a
theorem KX:fieldB qy 1 1=true:=rK
@[push_cast] theorem jK0 {w:World} {K:oK} (a:Addr):zB qy (.pointer (some a)) 1 w K=K (oE (a.add 1)) w:=zy KX a
theorem Qd:fieldB zx 1 2=true:=rK
@[push_cast] theorem xG0 {w:World} {K:oK} (a:Addr):zB zx (.pointer (some a)) 1 w K=K (oE (a.add 2)) w:=zy Qd a
theorem UY:fieldB zq 0 0=true:=rK
@[push_cast] theorem Zr0 {w:World} {K:oK} (a:Addr):zB zq (.pointer (some a)) 0 w K=K (oE (a.add 0)) w:=zy UY a
theorem UX:fieldB zq 1 1=true:=rK
@[push_cast] theorem z40 {w:World} {K:oK} (a:Addr):zB zq (.pointer (some a)) 1 w K=K (oE (a.add 1)) w:=zy UX a
theorem UO:fieldB y3 0 0=true:=rK
@[push_cast] theorem Zl0 {w:World} {K:oK} (a:Addr):zB y3 (.pointer (some a)) 0 w K=K (oE (a.add 0)) w:=zy UO a
theorem UN:fieldB y3 1 1=true:=rK
@[push_cast] theorem Zk0 {w:World} {K:oK} (a:Addr):zB y3 (.pointer (some a)) 1 w K=K (oE (a.add 1)) w:=zy UN a
theorem UM:fieldB y3 2 2=true:=rK
@[push_cast] theorem Zj0 {w:World} {K:oK} (a:Addr):zB y3 (.pointer (some a)) 2 w K=K (oE (a.add 2)) w:=zy UM a
theorem UL:fieldB y3 3 3=true:=rK
@[push_cast] theorem Zi0 {w:World} {K:oK} (a:Addr):zB y3 (.pointer (some a)) 3 w K=K (oE (a.add 3)) w:=zy UL a
theorem UK:fieldB y3 4 5=true:=rK
@[push_cast] theorem Zh0 {w:World} {K:oK} (a:Addr):zB y3 (.pointer (some a)) 4 w K=K (oE (a.add 5)) w:=zy UK a
theorem UW:fieldB zw 0 0=true:=rK
@[push_cast] theorem Zq0 {w:World} {K:oK} (a:Addr):zB zw (.pointer (some a)) 0 w K=K (oE (a.add 0)) w:=zy UW a
theorem UV:fieldB zw 1 1=true:=rK
@[push_cast] theorem Zp0 {w:World} {K:oK} (a:Addr):zB zw (.pointer (some a)) 1 w K=K (oE (a.add 1)) w:=zy UV a
theorem VR:fieldB zA 0 0=true:=rK
@[push_cast] theorem ki0 {w:World} {K:oK} (a:Addr):zB zA (.pointer (some a)) 0 w K=K (oE (a.add 0)) w:=zy VR a
theorem VQ:fieldB zA 1 2=true:=rK
@[push_cast] theorem kh0 {w:World} {K:oK} (a:Addr):zB zA (.pointer (some a)) 1 w K=K (oE (a.add 2)) w:=zy VQ a
theorem UU:fieldB zu 0 0=true:=rK
@[push_cast] theorem z30 {w:World} {K:oK} (a:Addr):zB zu (.pointer (some a)) 0 w K=K (oE (a.add 0)) w:=zy UU a
theorem UT:fieldB zu 1 1=true:=rK
@[push_cast] theorem z00 {w:World} {K:oK} (a:Addr):zB zu (.pointer (some a)) 1 w K=K (oE (a.add 1)) w:=zy UT a
theorem US:fieldB zu 2 2=true:=rK
@[push_cast] theorem UZ {w:World} {K:oK} (a:Addr):zB zu (.pointer (some a)) 2 w K=K (oE (a.add 2)) w:=zy US a
theorem UR:fieldB zu 3 3=true:=rK
@[push_cast] theorem Zo0 {w:World} {K:oK} (a:Addr):zB zu (.pointer (some a)) 3 w K=K (oE (a.add 3)) w:=zy UR a
theorem W0:fieldB zn 0 0=true:=rK
@[push_cast] theorem kq0 {w:World} {K:oK} (a:Addr):zB zn (.pointer (some a)) 0 w K=K (oE (a.add 0)) w:=zy W0 a
theorem VZ:fieldB zn 1 1=true:=rK
@[push_cast] theorem kp0 {w:World} {K:oK} (a:Addr):zB zn (.pointer (some a)) 1 w K=K (oE (a.add 1)) w:=zy VZ a
theorem VY:fieldB zn 2 2=true:=rK
@[push_cast] theorem ko0 {w:World} {K:oK} (a:Addr):zB zn (.pointer (some a)) 2 w K=K (oE (a.add 2)) w:=zy VY a
theorem JE:fieldB yr 0 0=true:=rK
@[push_cast] theorem qG0 {w:World} {K:oK} (a:Addr):zB yr (.pointer (some a)) 0 w K=K (oE (a.add 0)) w:=zy JE a
theorem JD:fieldB yr 1 2=true:=rK
@[push_cast] theorem qF0 {w:World} {K:oK} (a:Addr):zB yr (.pointer (some a)) 1 w K=K (oE (a.add 2)) w:=zy JD a
theorem JC:fieldB yr 2 3=true:=rK
@[push_cast] theorem qE0 {w:World} {K:oK} (a:Addr):zB yr (.pointer (some a)) 2 w K=K (oE (a.add 3)) w:=zy JC a
theorem JB:fieldB yr 3 4=true:=rK
@[push_cast] theorem qD0 {w:World} {K:oK} (a:Addr):zB yr (.pointer (some a)) 3 w K=K (oE (a.add 4)) w:=zy JB a
theorem JA:fieldB yr 4 5=true:=rK
@[push_cast] theorem qC0 {w:World} {K:oK} (a:Addr):zB yr (.pointer (some a)) 4 w K=K (oE (a.add 5)) w:=zy JA a
theorem JG:fieldB ya 0 0=true:=rK
@[push_cast] theorem qI0 {w:World} {K:oK} (a:Addr):zB ya (.pointer (some a)) 0 w K=K (oE (a.add 0)) w:=zy JG a
theorem JF:fieldB ya 1 1=true:=rK
@[push_cast] theorem qH0 {w:World} {K:oK} (a:Addr):zB ya (.pointer (some a)) 1 w K=K (oE (a.add 1)) w:=zy JF a
theorem J5:fieldB yj 0 0=true:=rK
@[push_cast] theorem ql0 {w:World} {K:oK} (a:Addr):zB yj (.pointer (some a)) 0 w K=K (oE (a.add 0)) w:=zy J5 a
theorem J4:fieldB yj 1 1=true:=rK
@[push_cast] theorem qk0 {w:World} {K:oK} (a:Addr):zB yj (.pointer (some a)) 1 w K=K (oE (a.add 1)) w:=zy J4 a
theorem J3:fieldB yj 2 2=true:=rK
@[push_cast] theorem qj0 {w:World} {K:oK} (a:Addr):zB yj (.pointer (some a)) 2 w K=K (oE (a.add 2)) w:=zy J3 a
theorem J0:fieldB yj 3 3=true:=rK
@[push_cast] theorem qi0 {w:World} {K:oK} (a:Addr):zB yj (.pointer (some a)) 3 w K=K (oE (a.add 3)) w:=zy J0 a
theorem QZ:fieldB yE 0 0=true:=rK
@[push_cast] theorem qh0 {w:World} {K:oK} (a:Addr):zB yE (.pointer (some a)) 0 w K=K (oE (a.add 0)) w:=zy QZ a
theorem QY:fieldB yE 1 1=true:=rK
@[push_cast] theorem qg0 {w:World} {K:oK} (a:Addr):zB yE (.pointer (some a)) 1 w K=K (oE (a.add 1)) w:=zy QY a
theorem KW:fieldB yu 0 0=true:=rK
@[push_cast] theorem jJ0 {w:World} {K:oK} (a:Addr):zB yu (.pointer (some a)) 0 w K=K (oE (a.add 0)) w:=zy KW a
theorem KU:fieldB yu 1 1=true:=rK
@[push_cast] theorem jI0 {w:World} {K:oK} (a:Addr):zB yu (.pointer (some a)) 1 w K=K (oE (a.add 1)) w:=zy KU a
theorem KT:fieldB yu 2 2=true:=rK
@[push_cast] theorem jH0 {w:World} {K:oK} (a:Addr):zB yu (.pointer (some a)) 2 w K=K (oE (a.add 2)) w:=zy KT a
theorem QX:fieldB y9 0 0=true:=rK
@[push_cast] theorem qf0 {w:World} {K:oK} (a:Addr):zB y9 (.pointer (some a)) 0 w K=K (oE (a.add 0)) w:=zy QX a
theorem QW:fieldB y9 1 2=true:=rK
@[push_cast] theorem qe0 {w:World} {K:oK} (a:Addr):zB y9 (.pointer (some a)) 1 w K=K (oE (a.add 2)) w:=zy QW a
@[push_cast] theorem kB0 {w:World} {K:oK} (b a:Value):ZE0 zh (.agg ⟨[b,a]⟩) 1 w K=K a w:=y1 rK
noncomputable def mn_kids:String:=match P.info? 116 with|some i=>(match i.methods[0]? with|some m=>m.name|none=>default)|none=>default
noncomputable def ko:String:=match P.info? 116 with|some i=>(match i.methods[1]? with|some m=>m.name|none=>default)|none=>default
noncomputable def qH:String:=match P.info? 116 with|some i=>(match i.methods[2]? with|some m=>m.name|none=>default)|none=>default
noncomputable def Zl:String:=match P.info? 116 with|some i=>(match i.methods[3]? with|some m=>m.name|none=>default)|none=>default
theorem jX0:concB xb=true:=rK
@[push_cast] theorem YT0 {w:World} {K:oK} (v:Value):qv0 xb v w K=K (.iface xb v) w:=kN jX0 v
theorem xP:concB zP=true:=rK
@[push_cast] theorem kf0 {w:World} {K:oK} (v:Value):qv0 zP v w K=K (.iface zP v) w:=kN xP v
theorem Xq (a b:Value) (w:World):(method (P.types.size+Made.depth) zP (.agg ⟨[a,b]⟩) mn_kids).run P w= .ok (yi,.agg ⟨[a,b]⟩) w:=rK
theorem Xp (a b:Value) (w:World):(method (P.types.size+Made.depth) zP (.agg ⟨[a,b]⟩) ko).run P w= .ok (kB,.agg ⟨[a,b]⟩) w:=rK
theorem YF (a b:Value) (w:World):(method (P.types.size+Made.depth) zP (.agg ⟨[a,b]⟩) qH).run P w= .ok (jX,.agg ⟨[a,b]⟩) w:=rK
theorem Xo (a b:Value) (w:World):(method (P.types.size+Made.depth) zP (.agg ⟨[a,b]⟩) Zl).run P w= .ok (yp,.agg ⟨[a,b]⟩) w:=rK
theorem qi:concB zL=true:=rK
@[push_cast] theorem jn0 {w:World} {K:oK} (v:Value):qv0 zL v w K=K (.iface zL v) w:=kN qi v
theorem YP (a b:Value) (w:World):(method (P.types.size+Made.depth) zL (.agg ⟨[a,b]⟩) mn_kids).run P w= .ok (yi,.agg ⟨[a,b]⟩) w:=rK
theorem YO (a b:Value) (w:World):(method (P.types.size+Made.depth) zL (.agg ⟨[a,b]⟩) ko).run P w= .ok (kg,.agg ⟨[a,b]⟩) w:=rK
theorem Y0 (a b:Value) (w:World):(method (P.types.size+Made.depth) zL (.agg ⟨[a,b]⟩) qH).run P w= .ok (jB,.agg ⟨[a,b]⟩) w:=rK
theorem YN (a b:Value) (w:World):(method (P.types.size+Made.depth) zL (.agg ⟨[a,b]⟩) Zl).run P w= .ok (yp,.agg ⟨[a,b]⟩) w:=rK
theorem kq:concB zF=true:=rK
@[push_cast] theorem jm0 {w:World} {K:oK} (v:Value):qv0 zF v w K=K (.iface zF v) w:=kN kq v
theorem YM (a b:Value) (w:World):(method (P.types.size+Made.depth) zF (.agg ⟨[a,b]⟩) mn_kids).run P w= .ok (yi,.agg ⟨[a,b]⟩) w:=rK
theorem YL (a b:Value) (w:World):(method (P.types.size+Made.depth) zF (.agg ⟨[a,b]⟩) ko).run P w= .ok (kf,.agg ⟨[a,b]⟩) w:=rK
theorem ZZ (a b:Value) (w:World):(method (P.types.size+Made.depth) zF (.agg ⟨[a,b]⟩) qH).run P w= .ok (jA,.agg ⟨[a,b]⟩) w:=rK
theorem YK (a b:Value) (w:World):(method (P.types.size+Made.depth) zF (.agg ⟨[a,b]⟩) Zl).run P w= .ok (yp,.agg ⟨[a,b]⟩) w:=rK
theorem yy:concB zO=true:=rK
@[push_cast] theorem jk0 {w:World} {K:oK} (v:Value):qv0 zO v w K=K (.iface zO v) w:=kN yy v
theorem YE (a b:Value) (w:World):(method (P.types.size+Made.depth) zO (.agg ⟨[a,b]⟩) mn_kids).run P w= .ok (yi,.agg ⟨[a,b]⟩) w:=rK
theorem YD (a b:Value) (w:World):(method (P.types.size+Made.depth) zO (.agg ⟨[a,b]⟩) ko).run P w= .ok (jW,.agg ⟨[a,b]⟩) w:=rK
theorem ZV (a b:Value) (w:World):(method (P.types.size+Made.depth) zO (.agg ⟨[a,b]⟩) qH).run P w= .ok (ju,.agg ⟨[a,b]⟩) w:=rK
theorem yz:concB zE=true:=rK
@[push_cast] theorem qz0 {w:World} {K:oK} (v:Value):qv0 zE v w K=K (.iface zE v) w:=kN yz v
theorem ZX (a b:Value) (w:World):(method (P.types.size+Made.depth) zE (.agg ⟨[a,b]⟩) mn_kids).run P w= .ok (yi,.agg ⟨[a,b]⟩) w:=rK
theorem ZW (a b:Value) (w:World):(method (P.types.size+Made.depth) zE (.agg ⟨[a,b]⟩) ko).run P w= .ok (jv,.agg ⟨[a,b]⟩) w:=rK
theorem ZC (a b:Value) (w:World):(method (P.types.size+Made.depth) zE (.agg ⟨[a,b]⟩) qH).run P w= .ok (jh,.agg ⟨[a,b]⟩) w:=rK
theorem yY:concB zK=true:=rK
@[push_cast] theorem jl0 {w:World} {K:oK} (v:Value):qv0 zK v w K=K (.iface zK v) w:=kN yY v
theorem YJ (a b:Value) (w:World):(method (P.types.size+Made.depth) zK (.agg ⟨[a,b]⟩) mn_kids).run P w= .ok (yi,.agg ⟨[a,b]⟩) w:=rK
theorem YI (a b:Value) (w:World):(method (P.types.size+Made.depth) zK (.agg ⟨[a,b]⟩) ko).run P w= .ok (ke,.agg ⟨[a,b]⟩) w:=rK
theorem ZY (a b:Value) (w:World):(method (P.types.size+Made.depth) zK (.agg ⟨[a,b]⟩) qH).run P w= .ok (jz,.agg ⟨[a,b]⟩) w:=rK
theorem YH (a b:Value) (w:World):(method (P.types.size+Made.depth) zK (.agg ⟨[a,b]⟩) Zl).run P w= .ok (yp,.agg ⟨[a,b]⟩) w:=rK
theorem xB:concB zU=true:=rK
@[push_cast] theorem kg0 {w:World} {K:oK} (v:Value):qv0 zU v w K=K (.iface zU v) w:=kN xB v
theorem Xt (a b:Value) (w:World):(method (P.types.size+Made.depth) zU (.agg ⟨[a,b]⟩) mn_kids).run P w= .ok (yi,.agg ⟨[a,b]⟩) w:=rK
theorem Xs (a b:Value) (w:World):(method (P.types.size+Made.depth) zU (.agg ⟨[a,b]⟩) ko).run P w= .ok (kC,.agg ⟨[a,b]⟩) w:=rK
theorem YG (a b:Value) (w:World):(method (P.types.size+Made.depth) zU (.agg ⟨[a,b]⟩) qH).run P w= .ok (jZ,.agg ⟨[a,b]⟩) w:=rK
theorem Xr (a b:Value) (w:World):(method (P.types.size+Made.depth) zU (.agg ⟨[a,b]⟩) Zl).run P w= .ok (yp,.agg ⟨[a,b]⟩) w:=rK
theorem Zw:concB zx=true:=rK
@[push_cast] theorem qA0 {w:World} {K:oK} (v:Value):qv0 zx v w K=K (.iface zx v) w:=kN Zw v
theorem Y3 (a b c:Value) (w:World):(method (P.types.size+Made.depth) zx (.agg ⟨[a,b,c]⟩) mn_kids).run P w= .ok (yi,.agg ⟨[a,b]⟩) w:=rK
theorem Y2 (a b c:Value) (w:World):(method (P.types.size+Made.depth) zx (.agg ⟨[a,b,c]⟩) ko).run P w= .ok (jC,.agg ⟨[a,b,c]⟩) w:=rK
theorem ZD (a b c:Value) (w:World):(method (P.types.size+Made.depth) zx (.agg ⟨[a,b,c]⟩) qH).run P w= .ok (jk,.agg ⟨[a,b,c]⟩) w:=rK
theorem Y1 (a b c:Value) (w:World):(method (P.types.size+Made.depth) zx (.agg ⟨[a,b,c]⟩) Zl).run P w= .ok (yp,.agg ⟨[a,b]⟩) w:=rK
theorem qj:concB zG=true:=rK
@[push_cast] theorem jo0 {w:World} {K:oK} (v:Value):qv0 zG v w K=K (.iface zG v) w:=kN qj v
theorem YS (a b:Value) (w:World):(method (P.types.size+Made.depth) zG (.agg ⟨[a,b]⟩) mn_kids).run P w= .ok (yi,.agg ⟨[a,b]⟩) w:=rK
theorem YR (a b:Value) (w:World):(method (P.types.size+Made.depth) zG (.agg ⟨[a,b]⟩) ko).run P w= .ok (kj,.agg ⟨[a,b]⟩) w:=rK
theorem Y4 (a b:Value) (w:World):(method (P.types.size+Made.depth) zG (.agg ⟨[a,b]⟩) qH).run P w= .ok (jD,.agg ⟨[a,b]⟩) w:=rK
theorem YQ (a b:Value) (w:World):(method (P.types.size+Made.depth) zG (.agg ⟨[a,b]⟩) Zl).run P w= .ok (yp,.agg ⟨[a,b]⟩) w:=rK
end Go.Proofs.YtfjlkobhagjdaaaGreatDoor
section
namespace Go.Proofs.YtfjlkobhagjdaaaGreatDoor
open Go Go.Vc Go.Proofs
open Go.ChangeShapes Go.WideShapes Go.ChangeAt Go.RowKit
theorem Y70:ownKnob P.godebug=none:=rK
theorem X7:laidOutB P=true:=rK
def restFacts (P:Program) (f:FuncId) (fn:Func) (s:ChangeSpec) (c:OpenClaim):Bool:=
 c.wf (OpenSpec.ofChange s)&&
 fn.params.all (P.readableRec ·)&&namedTie P c.named s.vars&&
 (c.stops==[])&&(P.stops==[])&&(c.knobs==[])&&(P.stopKnobs==[])&&
 (c.maps==(fn.params.toList++s.plain.varTypes P).any (P.mapsRec ·))&&(c.ifaces==(fn.params.toList++s.plain.varTypes P).any (P.ifacesRec ·))&&(c.mapsOut==P.mapsAmong fn.resultTypes.toList)&&
 (c.loops==(fn.params.toList++s.plain.varTypes P).any (P.loopsFrom ·))&&(c.wideKeys==(fn.params.toList++s.plain.varTypes P++fn.resultTypes.toList).any (P.wideKeysFrom ·))&&
 s.vars.all (P.varReadable ·)&&fn.resultTypes.all (λt=>P.readableRec t&&decide (t<P.types.size))&&(c.ifacesOut==fn.resultTypes.toList.any (P.ifacesRec ·))&&(c.loopsOut==fn.resultTypes.toList.any (P.loopsFrom ·))&&(c.plainKeys==P.plainKeys)&&c.shortTexts.isNone&&P.stopsHeard&&P.mayEnter&&(c.lifted==P.liftsFinal)&&(P.make==some c.make)&&(c.kinds==(if c.domain.isEmpty then[] else fn.params.toList.map λt=>match P.underlying t with|some (.int k)=>some k|_=>none))&&(c.pinned==c.pinnedBy)&&
 (c.veiled==(fn.params.toList++s.plain.varTypes P++fn.resultTypes.toList).any (P.veiledRec ·))&&c.veiledFits P fn.params.toList (fn.params.toList++s.plain.varTypes P++fn.resultTypes.toList)
theorem jw0 {P:Program} {f:FuncId} {fn:Func} {s:ChangeSpec} {c:OpenClaim} (b:laidOutB P=true) (d:mapsRowed P=true) (e:(c.inPlace==P.inPlace f)=true) (g:(c.unfollowed==P.unfollowed f)=true)
  (h:(c.recurses==P.recurses f)=true) (i:(c.named==P.varsNamed f)=true) (a:restFacts P f fn s c=true):joinedFacts P f fn s c=true:=by
 unfold restFacts at a;unfold joinedFacts;rw[b,d,e,g,h,i];simp only[PK];exact a
theorem kQ0:mapsRowed P=true:=rK
theorem jM0 {w w':World} (h:Ext w w'):Below w.heap.size w w':=⟨h.os,h.tape,h.output,h.size,λk a=>h.block k a id⟩
theorem u8_wf {n:Int} (h:(Lit.int .u8 n).wf=true):0<=n/\n<256:=by
 simp only[Lit.wf,gp,gg] at h;have a:IntKind.u8.min=0:=dC
 have b:IntKind.u8.max=255:=dC
 omega
def xQ0 (w:World) (v:Value) (xs:List Nat):Prop:=Vals (λ_=>True) w v (xs.map λx=>Value.int .u8 (x:Nat))/\∀x,x∈xs->x<256
theorem jY0 (w:World):xQ0 w (oN) []:=⟨⟨⟨none,0,rfl,by simp,by simp,λh=>absurd rfl h⟩,by simp⟩,by simp⟩
theorem bytes_of {w:World} {x:Addr} {len cap:Nat} {zs:oI} (z:len<=cap) (hm:cap<=maxLen) (A:zs.length=cap) (a:∀i,i<zs.length->w.cell? (x.add i)=some (.int .u8 (zs.getD i 0))) (o:∀n,n∈zs->(Lit.int .u8 n).wf=true):
  xQ0 w (.slice (some x) len cap) ((zs.take len).map Int.toNat):=by
 have c:∀n,n∈zs.take len->0<=n/\n<256:=λn l=>u8_wf (o n (gU l));refine⟨⟨⟨some x,cap,?_,?_,by unfold maxLen at hm;exact hm,λm=>?_⟩,λy p=>by obtain⟨u,_,rfl⟩:=gz.1 p;rfl⟩,λy p=>?_⟩
 .simp only[V0,gi];rw[Gy oM]
 .simp only[V0,gi];omega
 .have hlen:0<len:=by
   refine Nat.pos_of_ne_zero λe=>m ?_;subst e;simp
  obtain⟨b,off,spot⟩:=x;have f:=a 0 oM;have d:spot=none:=(by simpa[Addr.add] using World.cell?_spot f);subst d;refine⟨b,off,rfl,trivial,World.block_lt_of_cell? w _ f,λi hi=>?_⟩;simp only[V0,gi] at hi;intro j v h;have hit:i<(zs.take len).length:=by simp only[gi];omega
  have s:((((zs.take len).map Int.toNat).map λx=>Value.int .u8 (x:Nat)).map λx=>[x]).getD i []=[Value.int .u8 (((zs.take len)[i].toNat:Nat):Int)]:=by
   simp[q0,hi]
  rw[s] at h;have t:j=0:=by
   cases j with
   |zero=>rfl
   |succ j=>simp at h
  subst t;simp only[Po,GA] at h;subst h;have g:i<zs.length:=oM;have q:=a i g;have k:=c _ (GY hit);have r:zs.getD i 0=(zs.take len)[i]:=(by simp[q0,g]);rw[r,ym] at q;rw[PS k.1,ym,G3,pB];exact q
 .obtain⟨n,l,rfl⟩:=gz.1 p;have:=c n l;omega
end Go.Proofs.YtfjlkobhagjdaaaGreatDoor
end
end
