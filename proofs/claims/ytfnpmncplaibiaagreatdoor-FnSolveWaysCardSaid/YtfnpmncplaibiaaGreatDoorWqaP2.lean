import Derived.Test.YtfnpmncplaibiaaGreatDoorWqaP1
import Derived.Laws.Strings2
import Derived.Laws.Concat
import Derived.Laws.StructEq
import Derived.Laws.Shifts
import Derived.Laws.Build
import Derived.RangeFuncRecord
import Derived.WalkKit
import Derived.ProofKit
import Derived.OpenShut
import Derived.ShutString
import Derived.ChangeOld
import Derived.JoinedOf
/- A part of the proof. -/
set_option linter.all false
set_option maxRecDepth 9999
set_option maxHeartbeats 2000000
noncomputable section
namespace Go.Vc
open Go Go.MapKept
section
def MapF (d:TypeDesc) (w:World) (b:Nat) (f:List (Value×Value)):Prop:=
 ∃es clock,w.heap[b]?=some (.map es clock)/\Stamped es clock/\(∀x∈es.toList,IsKey d x.key)/\es.toList.map (λe=>(e.key,e.val))=f
def kR0 (t:TypeId) (d:TypeDesc) (e:TypeId):Prop:= ∃kt,P.underlying t=some (.map kt e)/\P.underlying kt=some d
section
variable {t e:TypeId} {d:TypeDesc} {w w':World} {K:oK} {b:Nat} {f:List (Value×Value)} {S:oA}
theorem MapF.lt (h:MapF d w b f):b<w.heap.size:=by
 obtain⟨es,cl,a,_⟩:=h;exact(gM.1 a).1
theorem MapF.same (h:MapF d w b f) (hw:Same S w w') (hs: ¬S b):MapF d w' b f:=by
 have a:=h.lt;obtain⟨es,cl,c,r⟩:=h;exact⟨es,cl,(hw.block b a hs).trans c,r⟩
theorem MapF.ext (h:MapF d w b f) (hw:Ext w w'):MapF d w' b f:=h.same hw id
theorem MapF.nodup (h:MapF d w b f):(f.map (·.1)).Nodup:=by
 obtain⟨es,cl,e,a,c,rfl⟩:=h;have:=a.2.2;rw[G3];exact this
theorem qT0 {r:Option Value} {k:IntKind} {n:Nat} (c:kR0 t d e) (g:r=none\/r=some (.int k n)) (a:∀b w',b=w.heap.size->MapF d w' b []->Ext w w'->w'.heap.size=w.heap.size+1->K (.map (some b)) w'):YE0 t r w K:=by
 refine⟨.map (some w.heap.size),w.alloc (.map #[] 0),?_,a _ _ rfl ⟨#[],0,(heap_alloc w _).1,stamped_empty 0,by simp,rfl⟩ ⟨rfl,rfl,rfl,by simp,λk f _=>(heap_alloc w _).2 k f⟩ (by simp)⟩;obtain⟨kt,hm,h⟩:=c;rcases g with rfl|rfl
 .simp[Instr.makeMap,newObj,Sem.run]
 .simp only[Instr.makeMap,Sem.run_bind,xz hm,Result.andThen_ok];simp[asInt,asIntOf,newObj,Sem.run,Result.andThen]
theorem WI (c:kR0 t d e) (a:∀b w',b=w.heap.size->MapF d w' b []->Ext w w'->w'.heap.size=w.heap.size+1->K (.map (some b)) w'):YE0 t none w K:=qT0 (k:= .i64) (n:=0) c (.inl rfl) a
theorem zE0 {k x:Value} (r:kR0 t d e) (h:MapF d w b f) (l:IsKey d k) (s:∀v,(k,v)∉f)
  (q:∀w',MapF d w' b (f++[(k,x)])->Same (· =b) w w'->w'.heap.size=w.heap.size->K undef w'):zF0 t (.map (some b)) k x w K:=by
 obtain⟨kt,hm,o⟩:=r;obtain⟨es,cl,g,m,c,rfl⟩:=h;rcases findNow_spec l es.toList 0 c with⟨n,i⟩|⟨j,e,n,i,p⟩
 .refine⟨(),{w with heap:=w.heap.setIfInBounds b (.map (es.push {key:=k,val:=x,born:=cl}) (cl+1))},?_,q _ ⟨_,_,(heap_set g).1,stamped_push m i,λy a=>?_,by simp⟩ (jT g) (by simp)⟩
  .simp[Instr.mapUpdate,run_underlying hm,MapKept.run_getObj_map g,run_checkKey o l,run_findKey o n,run_setObj_map _ g,Result.andThen]
  .rw[P4] at a;rcases gq.1 a with a|a
   .exact c y a
   .rw[gD.1 a];exact l
 .exact absurd (gB.2 ⟨e,pj i,by rw[p]⟩) (s e.val)
theorem XP {k v:Value} {ok:Bool} (F:kR0 t d e) (h:MapF d w b f) (E:IsKey d k) (l:(k,v)∈f):
  XQ t (.map (some b)) k ok w K=K (if ok then .tuple #[v,.bool true] else v) w:=by
 obtain⟨kt,hm,D⟩:=F;have H:=h.nodup;obtain⟨es,cl,G,u,r,rfl⟩:=h;rcases findNow_spec E es.toList 0 r with⟨B,q⟩|⟨j,e,B,q,C⟩
 .obtain⟨x,y,e⟩:=gB.1 l;cases e;exact absurd rfl (q x y)
 .obtain⟨x,y,A⟩:=gB.1 l;have z:x=e:=by
   have s:e∈es.toList:=pj q;have I:=u.2.2;cases A;have n:es.toList.Pairwise λa b=>a.key≠b.key:=pr.1 I;by_cases m:x=e
   .exact m
   .obtain⟨i1,g,o⟩:=gy y;obtain⟨i2,i,p⟩:=gy s;rcases Nat.lt_trichotomy i1 i2 with c|heq|c
    .exact absurd (by rw[o,p];exact C.symm) (GL.1 n i1 i2 g i c)
    .subst heq;exact absurd (o.symm.trans p) m
    .exact absurd (by rw[o,p];exact C) (GL.1 n i2 i1 i g c)
  subst z;cases A;refine y6 ?_;cases ok<;>simp[Instr.lookup,run_underlying hm,MapKept.run_getObj_map G,run_checkKey D E,run_findKey D B,Result.andThen]
theorem zG0 {k z:Value} {ok:Bool} (n:kR0 t d e) (r:yj e z) (h:MapF d w b f) (l:IsKey d k) (p:∀v,(k,v)∉f):
  XQ t (.map (some b)) k ok w K=K (if ok then .tuple #[z,.bool false] else z) w:=by
 obtain⟨kt,hm,i⟩:=n;obtain⟨es,cl,o,q,a,rfl⟩:=h;rcases findNow_spec l es.toList 0 a with⟨c,g⟩|⟨j,e,c,g,m⟩
 .refine y6 ?_;cases ok<;>simp[Instr.lookup,run_underlying hm,MapKept.run_getObj_map o,run_checkKey i l,run_findKey i c,YB r,Result.andThen]
 .exact absurd (gB.2 ⟨e,pj g,by rw[m]⟩) (p e.val)
theorem zO {ty:TypeId} {v rcv:Value} {name:String} {args:Array Value} {g:Nat} (hm:∀w:World,(method (P.types.size+Made.depth) ty v name).run P w= .ok (g,rcv) w) (h:vcall g ⟨rcv::args.toList⟩ w K):vinvoke (.iface ty v) name args w K:=
 ⟨g,rcv,hm w,h⟩
def concB (t:TypeId):Bool:=match P.underlying t with|some (.interface _)=>false|some _=>true|none=>false
theorem Z1 (h:concB t=true) (v:Value):qz0 t v w K=K (.iface t v) w:=by
 refine y6 ?_;unfold concB at h;cases hu:P.underlying t with
 |none=>rw[hu] at h;cases h
 |some x=>
  rw[hu] at h;simp only[Instr.makeInterface,Sem.run_bind,xz hu,Result.andThen_ok];cases x<;>first|(cases h;done)|simp
theorem yH0 (a b:ByteArray):(a.toList==b.toList)=decide (a=b):=by
 rw[<-beq_toListBytes];by_cases h:a=b
 .subst h;rw[gC rfl];exact(MapKept.bytes_beq a a).2 rfl
 .rw[gr h,G1];exact λe=>h ((MapKept.bytes_beq a b).1 e)
@[push_cast] theorem Yp0 {c:Bool} (t:TypeId) (a b:ByteArray):qb .eql t c (.string a) (.string b) w K=K (.bool (decide (a=b))) w:=
 yl rfl (by rw[binOp_string_eql,yH0];rfl)
@[push_cast] theorem Yo0 {c:Bool} (t:TypeId) (a b:ByteArray):qb .neq t c (.string a) (.string b) w K=K (.bool (decide (a≠b))) w:=
 yl rfl (by rw[binOp_string_neq,yH0,decide_not];rfl)
theorem Kf {c:Bool} {t:TypeId} {a b:ByteArray} (h:a.size+b.size<=9223372036854775807):qb .add t c (.string a) (.string b) w K=K (.string (a++b)) w:=
 yl rfl (by simp only[binOp_string_add];exact run_string_add_sum w a b h)
theorem WK {t ty:TypeId} {s:ByteArray} (h:P.underlying t=some .string):vbi .len [t] ty [.string s] w K=K (nI s.size) w:=
 y6 (run_len_string (P:=P) (w:=w) t ty s h)
theorem vindex_str {t:TypeId} {s:ByteArray} {k:IntKind} {i:Int} (h:P.underlying t=some .string) (b:0<=i) (c:i<s.size):qV0 t (.string s) (.int k i) w K=K (.int .u8 ((s.data.getD i.toNat 0).toNat:Int)) w:=by
 refine y6 ?_;rw[run_index_string (P:=P) (w:=w) t s k i h];have a:i.toNat<s.size:=oM
 have d:i.toNat<s.data.size:=a;rw[dif_pos ⟨b,c⟩,Gf,GJ d];rfl
theorem xW0 {t:TypeId} {s:ByteArray} {k a:IntKind} {i j:Int} (h:P.underlying t=some .string) (b:0<=i) (c:i<=j) (d:j<=s.size):xt t (.string s) (some (.int k i)) (some (.int a j)) none w K=K (.string (s.extract i.toNat j.toNat)) w:=by
 refine y6 ?_;rw[run_sliceAt_string w t _ _ _ _ h];exact run_slice_string (P:=P) w t s k a i j h b c d
theorem WN {c:Bool} {t:TypeId} {k yk:IntKind} {x y:Int} (h:0<=y):qb .shl t c (.int k x) (.int yk y) w K=K (.int k (k.wrap (x*2^min y.toNat k.bits))) w:=
 yl rfl (by simp[binOp,shift_shl_any,h])
theorem xp0 {c:Bool} {t:TypeId} {k yk:IntKind} {x y:Int} (h:0<=y):qb .shr t c (.int k x) (.int yk y) w K=K (.int k (x/2^min y.toNat k.bits)) w:=
 yl rfl (by simp[binOp,shift_shr_any,h])
theorem wrapU {n:Nat} (h:n<18446744073709551616):IntKind.u64.wrap (n:Int)=n:=by
 simp only[IntKind.wrap,IntKind.bits,IntKind.signed,G2,Gj,if_false];omega
theorem wrapN {n:Nat} (h:n<9223372036854775808):IntKind.i64.wrap (n:Int)=n:=zi oM oM
theorem Q3 (n:Nat):BitVec.ofInt 64 (n:Int)=BitVec.ofNat 64 n:=by simp
theorem ZV {c:Bool} {t:TypeId} {a b:Nat} (d:a<18446744073709551616) (g:b<18446744073709551616):qb .and t c (.int .u64 a) (.int .u64 b) w K=K (.int .u64 (a&&&b:Nat)) w:=
 yl rfl (by
  have f:a&&&b<18446744073709551616:=PQ Nat.and_le_left d;have e:(BitVec.ofInt 64 (a:Int)&&&BitVec.ofInt 64 (b:Int)).toNat=a&&&b:=by
   rw[Q3,Q3,BitVec.toNat_and,BitVec.toNat_ofNat,BitVec.toNat_ofNat,Gy d,Gy g]
  simp only[binOp,z0h,not_true_eq_false,if_false,Op.intBits];show(pure (Value.int .u64 (IntKind.u64.wrap ((BitVec.ofInt 64 (a:Int)&&&BitVec.ofInt 64 (b:Int)).toNat:Int))):Sem Value).run P w=_;rw[e,wrapU f];rfl)
theorem xq0 {c:Bool} {t:TypeId} {a b:Nat} (d:a<18446744073709551616) (f:b<18446744073709551616):qb .or t c (.int .u64 a) (.int .u64 b) w K=K (.int .u64 (a|||b:Nat)) w:=
 yl rfl (by
  have g:a|||b<2^64:=P5 d f;have e:(BitVec.ofInt 64 (a:Int)|||BitVec.ofInt 64 (b:Int)).toNat=a|||b:=by
   rw[Q3,Q3,BitVec.toNat_or,BitVec.toNat_ofNat,BitVec.toNat_ofNat,Gy d,Gy f]
  simp only[binOp,z0h,not_true_eq_false,if_false,Op.intBits];show(pure (Value.int .u64 (IntKind.u64.wrap ((BitVec.ofInt 64 (a:Int)|||BitVec.ofInt 64 (b:Int)).toNat:Int))):Sem Value).run P w=_;rw[e,wrapU g];rfl)
theorem j20 {c:Bool} {t:TypeId} {a b:Nat} (d:a<18446744073709551616) (f:b<18446744073709551616):qb .xor t c (.int .u64 a) (.int .u64 b) w K=K (.int .u64 (a^^^b:Nat)) w:=
 yl rfl (by
  have g:a^^^b<2^64:=PT d f;have e:(BitVec.ofInt 64 (a:Int)^^^BitVec.ofInt 64 (b:Int)).toNat=a^^^b:=by
   rw[Q3,Q3,BitVec.toNat_xor,BitVec.toNat_ofNat,BitVec.toNat_ofNat,Gy d,Gy f]
  simp only[binOp,z0h,not_true_eq_false,if_false,Op.intBits];show(pure (Value.int .u64 (IntKind.u64.wrap ((BitVec.ofInt 64 (a:Int)^^^BitVec.ofInt 64 (b:Int)).toNat:Int))):Sem Value).run P w=_;rw[e,wrapU g];rfl)
theorem vbin_orI {c:Bool} {t:TypeId} {a b:Nat} (f:a<9223372036854775808) (g:b<9223372036854775808):qb .or t c (nI a) (nI b) w K=K (nI (a|||b:Nat)) w:=
 yl rfl (by
  have d:a|||b<2^63:=P5 f g;have e:(BitVec.ofInt 64 (a:Int)|||BitVec.ofInt 64 (b:Int)).toNat=a|||b:=by
   rw[Q3,Q3,BitVec.toNat_or,BitVec.toNat_ofNat,BitVec.toNat_ofNat,Gy oM,Gy oM]
  simp only[binOp,z0h,not_true_eq_false,if_false,Op.intBits];show(pure (nI (IntKind.i64.wrap ((BitVec.ofInt 64 (a:Int)|||BitVec.ofInt 64 (b:Int)).toNat:Int))):Sem Value).run P w=_;rw[e,wrapN d];rfl)
theorem vun_xorU {a:Nat} (c:a<18446744073709551616):vun .xor (.int .u64 a) w K=K (.int .u64 (18446744073709551615-a:Nat)) w:=by
 refine y6 ?_;have e:(BitVec.ofInt 64 (18446744073709551615:Int)^^^BitVec.ofInt 64 (a:Int)).toNat=18446744073709551615-a:=by
  have b:BitVec.ofInt 64 (18446744073709551615:Int)=BitVec.allOnes 64:=dC;rw[b,Q3,BitVec.allOnes_xor,BitVec.toNat_not,BitVec.toNat_ofNat,Gy c]
 show(pure (Value.int .u64 (IntKind.u64.wrap ((BitVec.ofInt 64 (18446744073709551615:Int)^^^BitVec.ofInt 64 (a:Int)).toNat:Int))):Sem Value).run P w=_;rw[e,wrapU oM];rfl
theorem vbin_shlU {c:Bool} {t:TypeId} {yk:IntKind} {x y:Nat} (a:y<64) (h:x*2^y<18446744073709551616):qb .shl t c (.int .u64 x) (.int yk y) w K=K (.int .u64 (x*2^y:Nat)) w:=by
 rw[WN oM];have e:((x:Int)*2^min (y:Int).toNat IntKind.u64.bits)=((x*2^y:Nat):Int):=by
  have:min (y:Int).toNat IntKind.u64.bits=y:=by show min y 64=y;omega
  rw[this];simp
 rw[e,wrapU h]
theorem vbin_shlI {c:Bool} {t:TypeId} {yk:IntKind} {x y:Nat} (a:y<64) (h:x*2^y<9223372036854775808):qb .shl t c (nI x) (.int yk y) w K=K (nI (x*2^y:Nat)) w:=by
 rw[WN oM];have e:((x:Int)*2^min (y:Int).toNat IntKind.i64.bits)=((x*2^y:Nat):Int):=by
  have:min (y:Int).toNat IntKind.i64.bits=y:=by show min y 64=y;omega
  rw[this];simp
 rw[e,wrapN h]
theorem vbin_shrU {c:Bool} {t:TypeId} {yk:IntKind} {x y:Nat} (a:y<64):qb .shr t c (.int .u64 x) (.int yk y) w K=K (.int .u64 (x/2^y:Nat)) w:=by
 rw[xp0 oM];have:min (y:Int).toNat IntKind.u64.bits=y:=by show min y 64=y;omega
 rw[this];simp
theorem zk {t:TypeId} {cs:List Value} (h:∀b w',b=w.heap.size->Ext w w'->w'.heap.size=w.heap.size+1->Blk w' b cs t->K (oP b 0) w'):WM t (.agg ⟨cs⟩) w K:=y4 h
theorem zj {t:TypeId} {cs:List Value} (a:yj t (.agg ⟨cs⟩)) (h:∀b w',b=w.heap.size->Ext w w'->w'.heap.size=w.heap.size+1->Blk w' b cs t->K (oP b 0) w'):xE t w K:=yZ a h
theorem zT {t:TypeId} {pl:List (Nat×Nat)} {ps:List (Nat×Value)} {us:List (List Value)} {zs cs:List Value} (h:strF t=some (pl,zs)) (c:ps.map (λp=>p.2.cells)=us.map List.toArray)
  (a:fillC pl zs (ps.map (·.1)) us=some cs):yi t ps w K=K (.agg ⟨cs⟩) w:=by
 refine y6 (run_build (P:=P) w t ⟨ps⟩ ⟨cs⟩ ?_);unfold strF at h;split at h
 .rename_i fs i hu hi;split at h
  .rename_i e z b d;simp only[GA,GD] at h;obtain⟨rfl,rfl⟩:=h;simp only[Program.built,hu,hi,d,b];exact fill_eq c a
  .cases h
 .cases h
theorem Ym (s:ByteArray):IsKey .string (.string s):=by simp[IsKey]
theorem inc64' {i:Nat} (h:i<9223372036854775807):IntKind.i64.wrap ((i:Int)+1)=((i+1:Nat):Int):=by rw[zi oM oM];omega
end
end
end Go.Vc
namespace Go.Vc
open Go Go.RowKit
section
def hasR:Code->Bool
 | .rangeFunc _ _ _ _=>true
 | .seq a b=>hasR a||hasR b
 | .block _ b=>hasR b
 |_=>false
def ovrAt:List Nat->Fr->List Value->Fr
 |[],f,_=>f
 |p::r,f,args=>ovrAt r (put f (some p) (args.headD undef)) args.tail
def jmp (x:Nat) (Nn Nr Nx:World->Prop) (pe:Option Code) (w:World):Prop:=
 match pe with
 |none=>Nn w
 |some .ret=>Nr w
 |some (.exit i)=>i=x/\Nx w
 |_=>False
def kt0 (gv:Value) (n x:Nat) (w:World) (B:List Value->(World->(World->Prop)->Prop)->(World->Prop)->(World->Prop)->(World->Prop)->World->Prop) (Nn Nr Nx:Nat->World->Prop):Prop:=
 ∃gf lb,gv= .func (.func gf) #[] lb/\∀(l D:Nat) (w1:World) (RR:LoopState->Option Code->World->Prop),D=w.heap.size->l=w.heap.size+1->Ext w w1->w1.heap.size=w.heap.size+2->w1.heap[D]?=some (.deferred (some []))->
  (∀st pe w' w'',RR st pe w'->w''.heap[l]?=w'.heap[l]?->RR st pe w'')->RR .ready none w1->
  (∀(args:List Value) (w':World) (K:oK),args.length=n->RR .ready none w'->
   B args (λw1 k=>RR .ready none w1/\∀w2,Same (· =l) w1 w2->w2.heap.size=w1.heap.size->RR .busy none w2->k w2)
    (λw3=>RR .busy none w3/\∀w4,Same (· =l) w3 w4->w4.heap.size=w3.heap.size->RR .ready none w4->K (.bool true) w4)
    (λw3=>RR .busy none w3/\∀w4,Same (· =l) w3 w4->w4.heap.size=w3.heap.size->RR .done (some .ret) w4->K (.bool false) w4)
    (λw3=>RR .busy none w3/\∀w4,Same (· =l) w3 w4->w4.heap.size=w3.heap.size->RR .done (some (.exit x)) w4->K (.bool false) w4) w'->
   vcallv (.func (.yield l) #[] #[]) ⟨args⟩ w' K)->
  vcall gf ⟨.func (.yield l) #[] #[]::lb.toList⟩ w1 λ_ w3=> ∃st pe,st≠ .busy/\RR st pe w3/\∀w4,Same (· =l) w3 w4->w4.heap.size=w3.heap.size->jmp x (Nn D) (Nr D) (Nx D) pe w4
def rndK (x:Nat) (kn kr kx:World->Prop) (e:Exit) (_:Fr) (w:World):Prop:=
 match e with
 | .normal=>kn w
 | .ret=>kr w
 | .exit i=>cond (Nat.beq i x) (kx w) False
 |_=>False
def vx (T:Ann) (x:Nat):Code->(Exit->Fr->World->Prop)->(Nat->Exit->Fr->World->Prop)->Fr->World->Prop
 | .rangeFunc g ps asg body,_,K1,f,w=>
  kt0 (ev f g) ps.size x w
   (λargs beg kn kr kx w'=>vc T asg (seqK (λf1 w1=>beg w1 λw2=>vc T body (rndK x kn kr kx) f1 w2) (λ_ _ _=>False)) (ovrAt ps.toList f args) w')
   (λD w'=>K1 D .normal f w') (λD w'=>K1 D .ret f w') (λD w'=>K1 D (.exit x) f w')
 | .seq a b,K0,K1,f,w=>
  match hasR a with
  |true=>vx T x a (seqK (λf' w'=>vc T b K0 f' w') K0) (λD=>seqK (λf' w'=>vc T b (K1 D) f' w') (K1 D)) f w
  |false=>vc T a (seqK (λf' w'=>vx T x b K0 K1 f' w') K0) f w
 | .block id c,K0,K1,f,w=>vx T x c (blkK id K0) (λD=>blkK id (K1 D)) f w
 |_,_,_,_,_=>False
def okX (n:Nat) (T:Ann):Code->Bool
 | .rangeFunc _ ps asg body=>okC n T asg&&(okC n T body&&ps.toList.all λp=>Nat.blt p n)
 | .seq a b=>cond (hasR a) (okX n T a&&okC n T b) (okC n T a&&okX n T b)
 | .block _ c=>okX n T c
 |_=>false
def YL0 (D:Nat):Deferred:={target:= .collected D,args:= #[]}
def Zs0 (n:Nat) (K0:Exit->Fr->World->Prop) (K1:Nat->Exit->Fr->World->Prop) (e:Exit) (a:Act) (w:World):Prop:=
 (∃f',Sim [] n f' a/\K0 e f' w)\/ ∃D f',Sim [YL0 D] n f' a/\K1 D e f' w
section
variable {T:Ann} {n x:Nat}
theorem ZX0:∀(ps:List Nat) (f:Fr) (args:List Value) (tmps:Array Value),args.length=ps.length->ps.all (λp=>Nat.blt p n)=true->tmps.size=n->(∀t,tmps.getD t undef=f t)->
  Sim [] n (ovrAt ps f args) {tmps:=(ps.zip args).foldl (λt p=>t.setIfInBounds p.1 p.2) tmps,defers:=[]}:=by
 intro ps;induction ps with
 |nil=>intro f args tmps _ _ hs a;exact⟨hs,rfl,a⟩
 |cons p r g=>
  intro f args tmps d b hs a;cases args with
  |nil=>simp at d
  |cons v args=>
   simp only[List.all_cons,gl] at b;have c:p<n:=(by simpa[Pb] using b.1);refine g (put f (some p) v) args (tmps.setIfInBounds p v) (by simpa using d) b.2 (by simpa using hs) λt=>?_;by_cases e:t=p
   .subst e;rw[JW];simp[Gf,hs,c]
   .rw[Ww _ _ _ _ e,<-a t];simp only[Gf];rw[Pw (Ne.symm e)]
theorem YA (w:World) (l:Nat) (o:Obj):Same (· =l) w (w.putObj l o):=
 ⟨rfl,rfl,rfl,by simp,λ_ _ a=>World.putObj_heap_other a⟩
theorem YC {w:World} {l:Nat} {o:Obj} (h:w.heap[l]?=some o):l<w.heap.size:=(gM.1 h).1
theorem range_sound (hm:P.follows .mixedOrders=true) {g:Operand} {ps:Array Tmp} {asg body:Code} {S:Exit->Fr->World->Prop} {U:Nat->Exit->Fr->World->Prop} {f:Fr} {a:Act} {w:World}
  (z:okX n T (.rangeFunc g ps asg body)=true) (h:vx T x (.rangeFunc g ps asg body) S U f w) (hs:Sim [] n f a):(Code.rangeFunc g ps asg body).wpIn (FR none) 0 P (Zs0 n S U) a w:=by
 simp only[okX,gl] at z;obtain⟨M,N,O⟩:=z;obtain⟨gf,lb,hg,H⟩:=h;refine wpIn_rangeFunc λfn _=>?_
 let d:LoopState->Option Code->Loop:=λst pe=>{state:=st,pending:=pe,fn,tmps:=a.tmps,params:=ps,assign:=asg,body,defers:=w.heap.size}
 obtain⟨w1,q⟩:∃w1,(w.alloc (.deferred (some []))).alloc (.loop (d .ready none))=w1:=⟨_,rfl⟩;have G:w1.heap[w.heap.size+1]?=some (.loop (d .ready none)):=by
  rw[<-q];have:=World.alloc_heap_new (w.alloc (.deferred (some []))) (.loop (d .ready none));rwa[World.size_alloc] at this
 have hD1:w1.heap[w.heap.size]?=some (.deferred (some [])):=by
  rw[<-q];exact(Below.heap_alloc _ _ _ (by simp)).trans (World.alloc_heap_new w _)
 have D:w1.heap.size=w.heap.size+2:=by rw[<-q,World.size_alloc,World.size_alloc]
 have F:Ext w w1:=by
  rw[<-q];exact⟨rfl,rfl,rfl,by rw[World.size_alloc,World.size_alloc];omega,λb Y _=>(Below.heap_alloc _ _ b (by rw[World.size_alloc];omega)).trans (Below.heap_alloc w _ b Y)⟩
 have Z:=H (w.heap.size+1) w.heap.size w1 (λst pe w'=>w'.heap[w.heap.size+1]?=some (.loop (d st pe))) rfl rfl F D hD1 (λst pe w' w'' A he=>he.trans A) G ?_
 .obtain⟨I,r⟩:=Z;refine⟨w.heap.size+1,[YL0 w.heap.size],w1,{target:= .fn (.func gf) lb,args:= #[.func (.yield (w.heap.size+1)) #[] #[]]},w1,gf,
   #[.func (.yield (w.heap.size+1)) #[] #[]]++lb,w1,?_,?_,λ_ _=>trivial,?_,λh=>(by cases h),?_⟩
  .rw[<-q];exact run_enterLoop_outer _ _ _ _ _
  .simp only[resolve,hs.eval,hg];simp[go_sem,ev]
  .simp[invoke,go_sem,callFunc_run I]
  .have e:(#[.func (.yield (w.heap.size+1)) #[] #[]]++lb:Array Value)=⟨.func (.yield (w.heap.size+1)) #[] #[]::lb.toList⟩:=by apply GY.1;simp
   rw[e];refine callsIn_wide.2 (Calls.mono r λe E he=>?_);cases e with
   |returned v=>
    obtain⟨st,pe,R,A,X⟩:=he;have u:=run_endLoop (P:=P) A (by exact R);have m:=X _ (YA E _ (.loop {d st pe with state:= .exhausted})) (by simp);have s:Sim [YL0 w.heap.size] n f {a with defers:=[YL0 w.heap.size]++a.defers}:=⟨hs.size,by rw[hs.defers];rfl,hs.at_⟩;refine⟨pe,_,u,?_⟩;cases pe with
    |none=>exact .inr ⟨_,f,s,m⟩
    |some c=>
     cases c<;>simp only[jmp] at m<;>try exact m.elim
     case exit i=>
      obtain⟨rfl,m⟩:=m;exact wpIn_exit (.inr ⟨_,f,s,m⟩)
     case ret=>exact wpIn_ret (.inr ⟨_,f,s,m⟩)
   |panicked c=>exact he.elim
   |outgrown=>exact he.elim
 .intro args w' K hlen A W;have hy:=run_yield (P:=P) (args:=(⟨args⟩:Array Value)) A (by simpa[d] using hlen);refine⟨fn,_,asg,body,hy,roundIn_of_wpIn trivial ?_⟩;have C:=ZX0 (n:=n) ps.toList f args a.tmps (by simpa using hlen) O hs.size hs.at_;have ez:((d .ready none).params.zip (⟨args⟩:Array Value)).foldl (λtmps (t,a)=>tmps.setIfInBounds t a) (d .ready none).tmps=(ps.toList.zip args).foldl (λt p=>t.setIfInBounds p.1 p.2) a.tmps:=by
   rw[<-PS,Array.toList_zip]
  rw[ez];have V:=vc_sound (ro:=some (w.heap.size+1)) hm asg _ _ _ w' M W C (λl f w h=>h);refine wpIn_mono V ?_;rintro e a2 w2 ⟨f2,Q,_,y⟩;cases e<;>simp only[seqK] at y<;>try exact y.elim
  case normal=>
   obtain⟨B,y⟩:=y;refine⟨_,run_beginRound B rfl,?_⟩;have L:=YC B;have J:=y _ (YA w2 _ (.loop {d .ready none with state:= .busy})) (by simp) (World.putObj_heap_same L);refine wpIn_mono (vc_sound (ro:=some (w.heap.size+1)) hm body _ _ _ _ N J Q (λl f w h=>h)) ?_;rintro e a3 E ⟨f3,a0,_,j⟩;cases e<;>simp only[rndK] at j<;>try exact j.elim
   case normal=>
    obtain⟨k,o⟩:=j;exact⟨_,_,run_endRound none k,o _ (YA E _ _) (by simp) (World.putObj_heap_same (YC k))⟩
   case ret=>
    obtain⟨k,o⟩:=j;exact⟨_,_,run_endRound (some .ret) k,o _ (YA E _ _) (by simp) (World.putObj_heap_same (YC k))⟩
   case exit i=>
    cases hi:Nat.beq i x
    .rw[hi] at j;exact j.elim
    .rw[hi] at j;obtain rfl:=gH hi;obtain⟨k,o⟩:=j;exact⟨_,_,run_endRound (some (.exit i)) k,o _ (YA E _ _) (by simp) (World.putObj_heap_same (YC k))⟩
theorem ko0 (hm:P.follows .mixedOrders=true):∀(c:Code) (p:Exit->Fr->World->Prop) (q:Nat->Exit->Fr->World->Prop) (f:Fr) (a:Act) (w:World),okX n T c=true->vx T x c p q f w->Sim [] n f a->
  (∀l f w,¬p (.goto l) f w)->(∀D l f w,¬q D (.goto l) f w)->c.wpIn (FR none) 0 P (Zs0 n p q) a w:=by
 intro c;induction c with
 |rangeFunc g ps asg body _ _=>intro p q f a w d h hs _ _;exact range_sound hm d h hs
 |seq y z ihy ihz=>
  intro p q f a w d h hs o s;refine wpIn_seq ?_;simp only[okX] at d;simp only[vx] at h;cases E:hasR y with
  |true=>
   rw[E] at d h;simp only[cond,gl] at d;simp only at h;refine wpIn_mono (ihy _ _ f a w d.1 h hs (λl f w h=>o l f w h) (λD l f w h=>s D l f w h)) ?_;rintro e r w' (⟨m,j,k⟩|⟨D,m,j,k⟩)
   .cases e with
    |normal=>
     refine wpIn_mono (vc_sound hm z p m r w' d.2 k j o) ?_;rintro e A w'' ⟨u,t,_,v⟩;exact .inl ⟨u,t,v⟩
    |_=>exact .inl ⟨m,j,k⟩
   .cases e with
    |normal=>
     refine wpIn_mono (vc_sound hm z (q D) m r w' d.2 k j (s D)) ?_;rintro e A w'' ⟨u,t,_,v⟩;exact .inr ⟨D,u,t,v⟩
    |_=>exact .inr ⟨D,m,j,k⟩
  |false=>
   rw[E] at d h;simp only[cond,gl] at d;simp only at h;refine wpIn_mono (vc_sound hm y _ f a w d.1 h hs (λl f w h=>o l f w h)) ?_;rintro e r w' ⟨m,j,_,k⟩;cases e with
   |normal=>exact ihz p q m r w' d.2 k j o s
   |_=>exact .inl ⟨m,j,k⟩
 |block id b F=>
  intro p q f a w d h hs o s;simp only[vx] at h;refine wpIn_block (wpIn_mono (F _ _ f a w d h hs (λl f w h=>o l f w h) (λD l f w h=>s D l f w h)) ?_);have key:∀(K:Exit->Fr->World->Prop) (e:Exit) (m:Fr) (w':World),blkK id K e m w'->∀(df:List Deferred) (r:Act),Sim df n m r->(∀e f w a,Sim df n f a->K e f w->Zs0 n p q e a w)->Exit.inBlock id (Zs0 n p q) e r w':=by
   intro K e m w' k df r j B;cases e with
   |exit i=>
    simp only[blkK] at k;cases hi:Nat.beq i id
    .rw[hi] at k;have C:i≠id:=Nat.ne_of_beq_eq_false hi;simp only[Exit.inBlock,C,if_false];exact B _ _ _ _ j k
    .rw[hi] at k;have:i=id:=gH hi;subst this;simp only[Exit.inBlock,if_true];exact B _ _ _ _ j k
   |_=>exact B _ _ _ _ j k
  rintro e r w' (⟨m,j,k⟩|⟨D,m,j,k⟩)
  .exact key p e m w' k [] r j λe f w a hs h=> .inl ⟨f,hs,h⟩
  .exact key (q D) e m w' k [YL0 D] r j λe f w a hs h=> .inr ⟨D,f,hs,h⟩
 |_=>intro p q f a w d;exact absurd d (by simp[okX])
def Jx (D:Nat) (w:World) (k:World->Prop):Prop:=w.heap[D]?=some (.deferred (some []))/\∀w',Same (· =D) w w'->w'.heap.size=w.heap.size->k w'
def retM (rs:List ResultVar) (K:oK) (D:Nat) (e:Exit) (f:Fr) (w:World):Prop:=
 match e with
 | .normal=>Jx D w λw'=>Yn0 rs f w' K
 | .ret=>Jx D w λw'=>Yn0 rs f w' K
 |_=>False
theorem Yu {g:Nat} {fn:Func} {c:Code} {args:List Value} {w:World} {K:oK} (hm:P.follows .mixedOrders=true) (r:P.funcs[g]?=some fn) (q:fn.body=some c)
  (t:fn.ntmps=n) (s:okFn g=true) (j:okX n T c=true) (hlen:Nat.ble args.length n=true)
  (h:vx T x c (retF fn.results.toList K) (retM fn.results.toList K) (nthV args) w):vcall g args.toArray w K:=by
 refine⟨s,callsIn_wide (n:=0).1 (callsIn_of_wp_marks r q trivial ?_)⟩;rw[t];refine wpIn_mono (ko0 (x:=x) hm c _ _ _ _ w j h (sim_enter args n (Gx hlen)) (λl f w h=>h) (λD l f w h=>h)) ?_;rintro e k w' (⟨m,a,b⟩|⟨D,m,a,b⟩)
 .cases e with
  |normal=>obtain⟨v,d,i⟩:=vres_sound b a;rw[bodyPostM,a.defers];exact⟨v,d,i⟩
  |ret=>obtain⟨v,d,i⟩:=vres_sound b a;rw[bodyPostM,a.defers];exact⟨v,d,i⟩
  |_=>exact b.elim
 .have fin:Jx D w' (λw'=>Yn0 fn.results.toList m w' K)->LeavesInM (FR none) 0 P fn k.tmps (retK K) k.defers .returning w':=by
   rintro⟨o,p⟩;rw[a.defers];obtain⟨v,d,i⟩:=vres_sound (p _ (YA w' D (.deferred none)) (by simp)) a;exact⟨by simp,.inl ⟨_,_,rfl,run_takeDeferred o,v,d,i⟩⟩
  cases e with
  |normal=>exact fin b
  |ret=>exact fin b
  |_=>exact b.elim
end
end
end Go.Vc
section
namespace Go.M
inductive Tm where
 |mk (op a b:Int) (s:ByteArray) (ks:List Tm)
namespace Tm
def op:Tm->Int|mk o _ _ _ _=>o
def a:Tm->Int|mk _ a _ _ _=>a
def b:Tm->Int|mk _ _ b _ _=>b
def s:Tm->ByteArray|mk _ _ _ s _=>s
def ks:Tm->List Tm|mk _ _ _ _ ks=>ks
theorem ind {p:Tm->Prop} (h:∀t,(∀k,k∈t.ks->p k)->p t):∀t,p t
 |mk o a b s ks=>h _ λk (c:k∈ks)=>by
   have:=List.sizeOf_lt_of_mem c;exact ind h k
decreasing_by
 grind
variable {α:Type}
mutual
def fold (f:Tm->List α->α):Tm->α
 |mk o a b s ks=>f (mk o a b s ks) (foldL f ks)
def foldL (f:Tm->List α->α):List Tm->List α
 |[]=>[]
 |k::r=>fold f k::foldL f r
end
theorem foldL_eq (f:Tm->List α->α) (ks:List Tm):foldL f ks=ks.map (fold f):=by
 induction ks with
 |nil=>simp only[foldL,PO]
 |cons k r a=>simp only[foldL,a,GN]
theorem fold_eq (f:Tm->List α->α) (t:Tm):fold f t=f t (t.ks.map (fold f)):=by
 cases t with
 |mk o a b s ks=>simp only[fold,foldL_eq];rfl
end Tm
def nada:ByteArray:=⟨#[]⟩
instance:Inhabited Tm:=⟨.mk 0 0 0 nada []⟩
def vok (w n:Int):Bool:=decide (1<=w)&&decide (w<=4)&&decide (0<=n)&&decide (n<2^w.toNat)
theorem vok_iff {w n:Int}:vok w n=true↔1<=w/\w<=4/\0<=n/\n<2^w.toNat:=by simp[vok,and_assoc]
theorem four {w:Int} (a:1<=w) (b:w<=4):w=1\/w=2\/w=3\/w=4:=oM
theorem vok_lt {w n:Int} (h:vok w n=true):1<=w/\w<=4/\0<=n/\n<16:=by
 obtain⟨a,b,c,d⟩:=vok_iff.1 h
 grind [four]
theorem small1 {p:Nat->Nat->Prop} [∀w n,Decidable (p w n)] (h:∀w:Fin 5,∀n:Fin 16,1<=w.1->n.1<2^w.1->p w n) {w n:Int} (a:vok w n=true):p w.toNat n.toNat:=by
 obtain⟨b,c,d,e⟩:=vok_lt a;obtain⟨_,_,_,f⟩:=vok_iff.1 a;refine h ⟨w.toNat,oM⟩ ⟨n.toNat,oM⟩ (by grind) ?_
 grind
def unM (op w a:Int):Int:=if op=1 then 2^w.toNat-1-a else(2^w.toNat-a)%2^w.toNat
def binN (op w a b:Nat):Nat:=
 if op=3 then a&&&b
 else if op=4 then a|||b
 else if op=5 then a^^^b
 else if op=6 then(a+b)%2^w
 else if op=7 then(a+2^w-b)%2^w
 else if op=8 then a*b%2^w
 else if op=9 then(if b=0 then 2^w-1 else a/b)
 else if op=10 then(if b=0 then a else a%b)
 else if op=11 then a*2^b%2^w
 else if op=12 then a/2^b
 else if a<2^(w-1) then a/2^b else 2^w-1-(2^w-1-a)/2^b
def binM (op w a b:Int):Int:=binN op.toNat w.toNat a.toNat b.toNat
def catM (v a b:Int):Int:=a*2^v.toNat+b
def sgn (w a:Int):Int:=if a<2^(w.toNat-1) then a else a-2^w.toNat
def cmpM (op w a b:Int):Bool:=if op=15 then decide (a=b) else if op=16 then decide (a<b) else decide (sgn w a<sgn w b)
def cutM (a hi lo:Int):Int:=a/2^lo.toNat%2^(hi-lo+1).toNat
theorem unM_ok {op w a:Int} (h:vok w a=true):vok w (unM op w a)=true:=by
 obtain⟨b,c,d,e⟩:=vok_iff.1 h;refine vok_iff.2 ⟨b,c,?_⟩;unfold unM;omega
def YY0 (op w:Nat):Bool:=(List.range 16).all λa=>(List.range 16).all λb=> !(decide (a<2^w)&&decide (b<2^w))||decide (binN op w a b<2^w)
theorem binN_lt {op w a b:Nat} (f:3<=op) (h:op<=13) (hw:1<=w) (d:w<=4) (g:a<2^w) (i:b<2^w):binN op w a b<2^w:=by
 have c:∀o:Fin 14,∀v:Fin 5,3<=o.1->1<=v.1->YY0 o v=true:=by decide+kernel
 have e:2^w<=2^4:=gY oM d;have:=c ⟨op,oM⟩ ⟨w,oM⟩ f hw;simp only[YY0,Ga,gN,Gv,Gb,GP,decide_eq_false_iff_not,gh] at this
 grind
theorem binM_ok {op w a b:Int} (k:3<=op) (c:op<=13) (g:vok w a=true) (h:vok w b=true):vok w (binM op w a b)=true:=by
 obtain⟨i,j,l,m⟩:=vok_iff.1 g;obtain⟨_,_,d,f⟩:=vok_iff.1 h;have e:((2^w.toNat:Nat):Int)=2^w.toNat:=by simp
 have:=binN_lt (op:=op.toNat) (w:=w.toNat) (a:=a.toNat) (b:=b.toNat) oM oM oM oM oM oM
 grind [vok_iff,binM]
theorem cat_ok {v w a b:Int} (c:vok w a=true) (d:vok v b=true) (hs:w+v<=4):vok (w+v) (catM v a b)=true:=by
 obtain⟨e,f,g,h⟩:=vok_iff.1 c;obtain⟨i,j,k,l⟩:=vok_iff.1 d;refine vok_iff.2 ⟨oM,hs,?_⟩;unfold catM
 grind [four]
theorem cut_ok {w a hi lo:Int} (b:vok w a=true) (c:0<=lo) (h:lo<=hi) (hw:hi<w):vok (hi-lo+1) (cutM a hi lo)=true:=by
 obtain⟨d,e,f,g⟩:=vok_iff.1 b;refine vok_iff.2 ⟨oM,oM,?_⟩;unfold cutM;omega
def vecUn (op w n:Int):(Int×Int)×Bool:=if vok w n=true/\(op=1\/op=2) then((w,unM op w n),true) else((0,0),false)
def vecBin (op w n v m:Int):(Int×Int)×Bool:=
 if vok w n=true/\vok v m=true then
  if op=14 then(if w+v<=4 then((w+v,catM v n m),true) else((0,0),false))
  else if 3<=op/\op<=13/\w=v then((w,binM op w n m),true) else((0,0),false)
 else((0,0),false)
def vecCmp (op w n v m:Int):Bool×Bool:=
 if vok w n=true/\vok v m=true/\w=v/\15<=op/\op<=17 then(cmpM op w n m,true) else(false,false)
def vecCut (w n hi lo:Int):(Int×Int)×Bool:=if vok w n=true/\0<=lo/\lo<=hi/\hi<w then((hi-lo+1,cutM n hi lo),true) else((0,0),false)
theorem vok_nat {w n:Int} (h:vok w n=true):∃k a:Nat,w=k/\n=a/\1<=k/\k<=4/\a<2^k:=by
 obtain⟨b,c,d,e⟩:=vok_iff.1 h;refine⟨w.toNat,n.toNat,oM,oM,oM,oM,?_⟩
 grind
theorem unM_not {k a:Nat} (c:1<=k) (d:k<=4) (h:a<2^k):unM 1 k a=((18446744073709551615-a)%2^k:Nat):=by
 have b:∀v:Fin 5,∀x:Fin 16,1<=v.1->x.1<2^v.1->unM 1 v.1 x.1=((18446744073709551615-x.1)%2^v.1:Nat):=by decide+kernel
 have:2^k<=2^4:=gY oM d;exact b ⟨k,oM⟩ ⟨a,oM⟩ c h
theorem unM_neg {k a:Nat} (c:1<=k) (d:k<=4) (h:a<2^k):unM 2 k a=((if a=0 then 0 else 18446744073709551616-a)%2^k:Nat):=by
 have b:∀v:Fin 5,∀x:Fin 16,1<=v.1->x.1<2^v.1->unM 2 v.1 x.1=((if x.1=0 then 0 else 18446744073709551616-x.1)%2^v.1:Nat):=by decide+kernel
 have:2^k<=2^4:=gY oM d;exact b ⟨k,oM⟩ ⟨a,oM⟩ c h
theorem cat_or {k v a b:Nat} (d:v<=4) (f:k<=4) (i:a<2^k) (e:b<2^v):((a*2^v|||b:Nat):Int)=catM v a b:=by
 have c:∀v:Fin 5,∀x y:Fin 16,y.1<2^v.1->x.1*2^v.1|||y.1=x.1*2^v.1+y.1:=by decide+kernel
 have g:2^k<=2^4:=gY oM f;have h:2^v<=2^4:=gY oM d;have:=c ⟨v,oM⟩ ⟨a,oM⟩ ⟨b,oM⟩ e
 grind [catM]
end Go.M
end
namespace Go.M
open Go.Vc
abbrev Dcl:=ByteArray×Int
def findD (ds:List Dcl) (s:ByteArray):Int:=idxI ds.length λi=>decide ((ds.getD i (nada,0)).1=s)
def tru:ByteArray:=⟨#[116,114,117,101]⟩
def nameOk (s:ByteArray):Bool:=decide (1<=s.size)&&decide (s.size<=4)&&decide (s≠tru)&&s.data.all λc=>decide (97<=c.toNat)&&decide (c.toNat<=122)
def bits (ds:List Dcl):Int:=(ds.map (·.2)).sum
def dclOk (ds:List Dcl) (i:Nat):Bool:=nameOk (ds.getD i (nada,0)).1&&decide (1<=(ds.getD i (nada,0)).2)&&decide ((ds.getD i (nada,0)).2<=4)&&decide (findD (ds.take i) (ds.getD i (nada,0)).1<0)
def declOk (ds:List Dcl):Bool:=decide (ds.length<=4)&&((List.range ds.length).all λi=>dclOk ds i)&&decide (bits ds<=8)
def envOk (ds:List Dcl) (env:oI):Bool:=declOk ds&&decide (env.length=ds.length)&&(List.range ds.length).all λi=>vok (ds.getD i (nada,0)).2 (env.getD i 0)
theorem findD_lt (ds:List Dcl) (s:ByteArray): -1<=findD ds s/\findD ds s<ds.length:=by
 grind [findD,idxI]
theorem findD_neg {ds:List Dcl} {s:ByteArray} (h:findD ds s<0) {j:Nat} (a:j<ds.length):(ds.getD j (nada,0)).1≠s:=by
 grind [findD,idxI]
theorem findD_get {ds:List Dcl} {s:ByteArray} (h:0<=findD ds s):(ds.getD (findD ds s).toNat (nada,0)).1=s:=by
 grind [findD,idxI]
theorem findD_of {ds:List Dcl} {s:ByteArray} {i:Nat} (hi:i<ds.length) (h:(ds.getD i (nada,0)).1=s) (b:∀j,j<i->(ds.getD j (nada,0)).1≠s):findD ds s=i:=
 idxI_some hi (by grind) λj a=>gr (b j a)
theorem findD_none {ds:List Dcl} {s:ByteArray} (b:∀j,j<ds.length->(ds.getD j (nada,0)).1≠s):findD ds s= -1:=
 V7 λj a=>gr (b j a)
theorem decl_iff {ds:List Dcl}:declOk ds=true↔ds.length<=4/\(∀i,i<ds.length->dclOk ds i=true)/\bits ds<=8:=by
 grind [declOk]
theorem take_getD {α:Type} {l:List α} {i j:Nat} {d:α} (h:j<i):(l.take i).getD j d=l.getD j d:=by
 grind
theorem dcl_apart {ds:List Dcl} (h:declOk ds=true) {i j:Nat} (hi:i<ds.length) (b:j<i):(ds.getD j (nada,0)).1≠(ds.getD i (nada,0)).1:=by
 have:=(decl_iff.1 h).2.1 i hi;simp only[dclOk,gl,gh] at this;have a:=findD_neg this.2 (j:=j) (by rw[gi];omega);rwa[take_getD b] at a
def bitT (ds:List Dcl) (i:Nat):Int:=((ds.take i).map (·.2)).sum
theorem bitT_succ {ds:List Dcl} {i:Nat} (h:i<ds.length):bitT ds (i+1)=bitT ds i+(ds.getD i (nada,0)).2:=by
 grind [bitT,List.take_add_one]
theorem bitT_all (ds:List Dcl):bitT ds ds.length=bits ds:=by unfold bitT bits;grind
theorem dcl_wide {ds:List Dcl} (h:declOk ds=true) {i:Nat} (hi:i<ds.length):1<=(ds.getD i (nada,0)).2/\(ds.getD i (nada,0)).2<=4:=by
 simp_all[declOk,dclOk]
theorem env_ok {ds:List Dcl} {env:oI} (h:envOk ds env=true):declOk ds=true/\env.length=ds.length/\∀i,i<ds.length->vok (ds.getD i (nada,0)).2 (env.getD i 0)=true:=by
 grind [envOk]
def sizeM:Tm->Nat:=Tm.fold λ_ xs=>1+xs.sum
def deepM:Tm->Nat:=Tm.fold λ_ xs=>1+xs.foldl max 0
theorem sizeM_eq (t:Tm):sizeM t=1+(t.ks.map sizeM).sum:=Tm.fold_eq _ t
theorem YF (t:Tm):deepM t=1+(t.ks.map deepM).foldl max 0:=Tm.fold_eq _ t
def szT (ks:List Tm) (i:Nat):Nat:=((ks.take i).map sizeM).sum
def dpT (ks:List Tm) (i:Nat):Nat:=((ks.take i).map deepM).foldl max 0
theorem take_add {α:Type} {l:List α} {i:Nat} (h:i<l.length) (d:α):l.take (i+1)=l.take i++[l.getD i d]:=by
 simp_all
theorem szT_succ {ks:List Tm} {i:Nat} (h:i<ks.length):szT ks (i+1)=szT ks i+sizeM (ks.getD i default):=by
 grind [szT,take_add]
theorem dpT_succ {ks:List Tm} {i:Nat} (h:i<ks.length):dpT ks (i+1)=max (dpT ks i) (deepM (ks.getD i default)):=by
 grind [dpT,take_add]
theorem szT_all (t:Tm):sizeM t=1+szT t.ks t.ks.length:=by rw[sizeM_eq,szT,gF]
theorem dpT_all (t:Tm):deepM t=1+dpT t.ks t.ks.length:=by rw[YF,dpT,gF]
theorem szT_mono {ks:List Tm} {i:Nat}:∀{j:Nat},i<=j->j<=ks.length->szT ks i<=szT ks j
 |0,h,_=>by
  grind
 |j+1,h,a=>by
  by_cases e:i=j+1
  .grind
  .have:=szT_mono (ks:=ks) (i:=i) (j:=j) oM oM;rw[szT_succ oM];omega
theorem dpT_mono {ks:List Tm} {i:Nat}:∀{j:Nat},i<=j->j<=ks.length->dpT ks i<=dpT ks j
 |0,h,_=>by
  grind
 |j+1,h,a=>by
  by_cases e:i=j+1
  .grind
  .have:=dpT_mono (ks:=ks) (i:=i) (j:=j) oM oM;rw[dpT_succ oM];omega
def fits (t:Tm):Bool:=decide (sizeM t<=20)&&decide (deepM t<=7)
theorem fits_iff {t:Tm}:fits t=true↔sizeM t<=20/\deepM t<=7:=by simp[fits]
def manyM (t:Tm):Nat:=if fits t then sizeM t else 21
def lvlM (t:Tm):Nat:=if fits t then deepM t else 8
def arity (o:Int):Int:=if o=20\/o=21\/o=24 then 0 else if o=1\/o=2\/o=22\/o=25 then 1 else if o=23 then 3 else if o=26\/o=27 then 2 else if 3<=o/\o<=17 then 2 else-1
def plainM (t:Tm):Bool:=(decide (t.op=20)||decide (t.op=22)||(decide (t.a=0)&&decide (t.b=0)))&&(decide (t.op=21)||decide (t.s=nada))
def sortK (ds:List Dcl) (t:Tm) (xs:oI):Int:=
 if t.op=20 then(if vok t.a t.b then t.a else-1)
 else if t.op=21 then(if findD ds t.s<0 then-1 else(ds.getD (findD ds t.s).toNat (nada,0)).2)
 else if 24<=t.op then(if xs.any (λx=>decide (x≠0)) then-1 else 0)
 else if t.op=23 then(if xs.getD 0 0=0/\xs.getD 1 0=xs.getD 2 0 then xs.getD 1 0 else-1)
 else if t.op=22 then(if 0<=t.b/\t.b<=t.a/\t.a<xs.getD 0 0 then t.a-t.b+1 else-1)
 else if t.op<=2 then(if 0<xs.getD 0 0 then xs.getD 0 0 else-1)
 else if t.op=14 then(if 0<xs.getD 0 0/\0<xs.getD 1 0/\xs.getD 0 0+xs.getD 1 0<=4 then xs.getD 0 0+xs.getD 1 0 else-1)
 else if 15<=t.op then(if 0<xs.getD 0 0/\xs.getD 0 0=xs.getD 1 0 then 0 else-1)
 else(if 0<xs.getD 0 0/\xs.getD 0 0=xs.getD 1 0 then xs.getD 0 0 else-1)
def formed (t:Tm):Bool:=decide (arity t.op=t.ks.length)&&plainM t
def sortF (ds:List Dcl) (t:Tm) (xs:oI):Int:=if formed t=true/\¬(-1∈xs) then sortK ds t xs else-1
def sortM (ds:List Dcl):Tm->Int:=Tm.fold (sortF ds)
theorem sortM_eq (ds:List Dcl) (t:Tm):sortM ds t=sortF ds t (t.ks.map (sortM ds)):=Tm.fold_eq _ t
theorem arity_ops {o:Int} (h:0<=arity o):(1<=o/\o<=17)\/(20<=o/\o<=27):=by
 grind [arity]
theorem getD_map {α β:Type} (f:α->β) {l:List α} {i:Nat} (h:i<l.length) (d:β) (e:α):(l.map f).getD i d=f (l.getD i e):=by
 grind
theorem getD_mem {α:Type} {l:List α} {i:Nat} (h:i<l.length) (d:α):l.getD i d∈l:=by
 grind
theorem sort_parts {ds:List Dcl} {t:Tm} (h:sortM ds t≠ -1):formed t=true/\(∀k,k∈t.ks->sortM ds k≠ -1)/\sortM ds t=sortK ds t (t.ks.map (sortM ds)):=by
 rw[sortM_eq] at h⊢
 grind [sortF]
theorem sort_range {ds:List Dcl} (c:declOk ds=true):∀t,-1<=sortM ds t/\sortM ds t<=4:=by
 refine Tm.ind λt k=>?_;rw[sortM_eq];unfold sortF;split
 .rename_i j;have a:∀i,-1<=(t.ks.map (sortM ds)).getD i 0/\(t.ks.map (sortM ds)).getD i 0<=4:=(by grind);have f:=a 0;have g:=a 1;have h:=a 2;have b:=arity_ops (o:=t.op) (by
   grind [formed])
  unfold sortK;split
  .split
   .rename_i e;have:=vok_lt e;omega
   .omega
  .split
   .have d:=findD_lt ds t.s;split
    .omega
    .have:=dcl_wide c (i:=(findD ds t.s).toNat) oM;omega
   omega
 .omega
def tsort (ds:List Dcl) (t:Tm):Int:=if fits t=true/\declOk ds=true then sortM ds t else-1
def b2i (b:Bool):Int:=if b then 1 else 0
def valK (ds:List Dcl) (env:oI) (t:Tm) (xs:List (Int×Int)):Int:=
 if t.op=20 then t.b
 else if t.op=21 then env.getD (findD ds t.s).toNat 0
 else if t.op=24 then 1
 else if t.op=25 then b2i (decide ((xs.getD 0 (0,0)).2=0))
 else if t.op=26 then b2i (decide ((xs.getD 0 (0,0)).2=1)&&decide ((xs.getD 1 (0,0)).2=1))
 else if t.op=27 then b2i (decide ((xs.getD 0 (0,0)).2=1)||decide ((xs.getD 1 (0,0)).2=1))
 else if t.op=23 then(if(xs.getD 0 (0,0)).2=1 then(xs.getD 1 (0,0)).2 else(xs.getD 2 (0,0)).2)
 else if t.op=22 then cutM (xs.getD 0 (0,0)).2 t.a t.b
 else if t.op<=2 then unM t.op (xs.getD 0 (0,0)).1 (xs.getD 0 (0,0)).2
 else if t.op=14 then catM (xs.getD 1 (0,0)).1 (xs.getD 0 (0,0)).2 (xs.getD 1 (0,0)).2
 else if 15<=t.op then b2i (cmpM t.op (xs.getD 0 (0,0)).1 (xs.getD 0 (0,0)).2 (xs.getD 1 (0,0)).2)
 else binM t.op (xs.getD 0 (0,0)).1 (xs.getD 0 (0,0)).2 (xs.getD 1 (0,0)).2
def vecF (ds:List Dcl) (env:oI) (t:Tm) (xs:List (Int×Int)):Int×Int:=(sortF ds t (xs.map (·.1)),valK ds env t xs)
def vecM (ds:List Dcl) (env:oI):Tm->Int×Int:=Tm.fold (vecF ds env)
def evalM (ds:List Dcl) (env:oI) (t:Tm):Int:=(vecM ds env t).2
theorem qZ0 (ds:List Dcl) (env:oI) (t:Tm):vecM ds env t=vecF ds env t (t.ks.map (vecM ds env)):=Tm.fold_eq _ t
theorem vecM_sort (ds:List Dcl) (env:oI):∀t,(vecM ds env t).1=sortM ds t:=by
 refine Tm.ind λt a=>?_;rw[qZ0,sortM_eq];show sortF ds t _=_
 grind [List.map_congr_left]
theorem vecM_pair (ds:List Dcl) (env:oI) (t:Tm):vecM ds env t=(sortM ds t,evalM ds env t):=by rw[<-vecM_sort ds env t];rfl
theorem evalM_eq (ds:List Dcl) (env:oI) (t:Tm):evalM ds env t=valK ds env t (t.ks.map (vecM ds env)):=by
 unfold evalM;rw[qZ0];rfl
def inS (w n:Int):Prop:=(w=0/\(n=0\/n=1))\/vok w n=true
theorem kY0 {b:Bool}:inS 0 (b2i b):=by left;cases b<;>simp[b2i]
theorem inS_zero {n:Int} (h:inS 0 n):n=0\/n=1:=by
 rcases h with h|h
 .exact h.2
 .exact absurd (vok_lt h).1 oM
theorem inS_pos {w n:Int} (h:inS w n) (hw:0<w):vok w n=true:=by
 rcases h with h|h
 .omega
 .exact h
def tok (ds:List Dcl) (t:Tm) (env:oI):Bool:=decide (tsort ds t≠ -1)&&envOk ds env
def teval (ds:List Dcl) (t:Tm) (env:oI):Int:=if tok ds t env then evalM ds env t else 0
theorem eval_in {ds:List Dcl} {env:oI} (he:envOk ds env=true):∀t,sortM ds t≠ -1->inS (sortM ds t) (evalM ds env t):=by
 obtain⟨A,C,D⟩:=env_ok he;refine Tm.ind λt E h=>?_;obtain⟨r,B,hs⟩:=sort_parts h;rw[hs] at h;rw[hs,evalM_eq];simp only[formed,gl,gh] at r;obtain⟨x,z⟩:=r;have u:=arity_ops (o:=t.op) oM;have k:∀i,i<t.ks.length->(t.ks.map (sortM ds)).getD i 0=sortM ds (t.ks.getD i default):=by grind
 have l:∀i,i<t.ks.length->(t.ks.map (vecM ds env)).getD i (0,0)=(sortM ds (t.ks.getD i default),evalM ds env (t.ks.getD i default)):=by grind [getD_map,default,vecM_pair]
 have b:∀i,i<t.ks.length->inS (sortM ds (t.ks.getD i default)) (evalM ds env (t.ks.getD i default)):=by grind
 unfold sortK at h⊢;unfold valK;by_cases d:t.op=20
 .simp only[d,if_true] at h⊢;split
  .right;assumption
  grind
 simp only[Q1 d] at h⊢;by_cases f:t.op=21
 .simp only[f,if_true] at h⊢;have y:=findD_lt ds t.s;split
  .omega
  .right;grind
 simp only[Q1 f] at h⊢;by_cases j:24<=t.op
 .simp only[V0 j] at h⊢;split
  .grind
  .rcases(by omega:t.op=24\/t.op=25\/t.op=26\/t.op=27) with e|e|e|e
   .left;simp[e]
   .simp only[e];exact kY0
   .simp only[e];exact kY0
   .simp only[e];exact kY0
 simp only[Q1 j,Q1 (show¬t.op=24 by omega),Q1 (show¬t.op=25 by omega),Q1 (show¬t.op=26 by omega),Q1 (show¬t.op=27 by omega)] at h⊢;by_cases n:t.op=23
 .grind [arity]
 simp only[Q1 n] at h⊢;by_cases g:t.op=22
 .simp only[g,if_true] at h⊢;have q:t.ks.length=1:=(by grind [arity]);rw[k 0 oM] at h⊢;rw[l 0 oM];split
  .rename_i a;right;exact cut_ok (inS_pos (b 0 oM) oM) a.1 a.2.1 a.2.2
  omega
 simp only[Q1 g] at h⊢;by_cases p:t.op<=2
 .simp only[V0 p] at h⊢;have q:t.ks.length=1:=by
   grind [arity]
  rw[k 0 oM] at h⊢;rw[l 0 oM];split
  .rename_i a;right
   grind [unM_ok,inS_pos]
  omega
 simp only[Q1 p] at h⊢;have q:t.ks.length=2:=by
  grind [arity]
 have v:=k 0 oM;have w:=k 1 oM;rw[v,w] at h⊢;rw[l 0 oM,l 1 oM];have i0:=b 0 oM;have i1:=b 1 oM;by_cases c:t.op=14
 .simp only[c,if_true] at h⊢;split
  .rename_i a;right;exact cat_ok (inS_pos i0 a.1) (inS_pos i1 a.2.1) a.2.2
  omega
 simp only[Q1 c] at h⊢;by_cases m:15<=t.op
 .grind [kY0]
 simp only[Q1 m] at h⊢;split
 .rename_i a;right
  grind [binM_ok,inS_pos]
 omega
end Go.M
namespace Go.Vc
open Go Go.M
section
section
variable {F F' S:oA} {w w':World} {K:oK} {k:Nat} {v:Value} {xs:List (List Value)}
theorem Sl.ldAgg (h:Sl F w k v xs) {t:TypeId} (b:aggB t k=true) {i:Nat} (hi:i<xs.length):zu t (oE (eaddr v k i)) w K=K (.agg ⟨xs.getD i []⟩) w:=by
 have a:(xs.getD i []).length=k:=h.wide _ (M.getD_mem hi _);exact XR (by rw[a];exact b) (Sl.cells h hi)
theorem Sl.ldField (h:Sl F w k v xs) {t:TypeId} (a:oneB t=true) {i j:Nat} {x:Value} (hi:i<xs.length) (b:(xs.getD i [])[j]?=some x):zu t (oE ((eaddr v k i).add j)) w K=K x w:=
 zZ a (Sl.cells h hi j x b)
theorem Sl.small (h:Sl F w k v xs):xs.length<=9223372036854775807:=by
 obtain⟨_,_,_,a,b,_⟩:=h.shape;omega
end
inductive TmR (F:oA) (w:World):List Value->Tm->Prop
 |mk {o a b:Int} {s:ByteArray} {ks:List Tm} {kv:Value} {css:List (List Value)}:Sl F w 5 kv css->css.length=ks.length->(∀i,i<ks.length->TmR F w (css.getD i []) (ks.getD i default))->
  TmR F w [nI o,nI a,nI b,.string s,kv] (.mk o a b s ks)
def TmsR (F:oA) (w:World) (kv:Value) (ks:List Tm):Prop:= ∃css:List (List Value),Sl F w 5 kv css/\css.length=ks.length/\∀i,i<ks.length->TmR F w (css.getD i []) (ks.getD i default)
def TermR (F:oA) (w:World) (v:Value) (t:Tm):Prop:= ∃kv,v= .agg ⟨[nI t.op,nI t.a,nI t.b,.string t.s,kv]⟩/\TmsR F w kv t.ks
def DclsR (F:oA) (w:World) (v:Value) (ds:List Dcl):Prop:=Sl F w 2 v (ds.map λd=>[.string d.1,nI d.2])
section
variable {F F' S:oA} {w w':World} {K:oK} {v:Value} {cs:List Value} {t:Tm} {ks:List Tm} {ds:List Dcl}
theorem TmR.same (h:TmR F w cs t) (hw:Same S w w') (hs:∀b,F b->b<w.heap.size->¬S b):TmR F w' cs t:=by
 induction h with
 |mk a c e d=>exact .mk (a.same hw hs) c d
theorem TmR.ext (h:TmR F w cs t) (hw:Ext w w'):TmR F w' cs t:=h.same hw λ_ _ _ h=>h
theorem TmR.weaken (h:TmR F w cs t) (d:∀b,F b->b<w.heap.size->F' b):TmR F' w cs t:=by
 induction h with
 |mk a c f e=>exact .mk (a.weaken d) c e
theorem TmR.inv (h:TmR F w cs t):∃kv,cs=[nI t.op,nI t.a,nI t.b,.string t.s,kv]/\TmsR F w kv t.ks:=by
 cases h with
 |mk c d e=>exact⟨_,rfl,_,c,d,e⟩
theorem TmR.of {kv:Value} (h:TmsR F w kv t.ks):TmR F w [nI t.op,nI t.a,nI t.b,.string t.s,kv] t:=by
 obtain⟨css,c,d,e⟩:=h;cases t with
 |mk o a b s ks=>exact .mk c d e
theorem TmR.term (h:TmR F w cs t):TermR F w (.agg ⟨cs⟩) t:=by
 obtain⟨kv,rfl,a⟩:=h.inv;exact⟨kv,rfl,a⟩
theorem TermR.cells (h:TermR F w v t):∃cs,v= .agg ⟨cs⟩/\TmR F w cs t:=by
 obtain⟨kv,rfl,a⟩:=h;exact⟨_,rfl,TmR.of a⟩
theorem TmsR.same (h:TmsR F w v ks) (hw:Same S w w') (hs:∀b,F b->b<w.heap.size->¬S b):TmsR F w' v ks:=by
 obtain⟨css,a,c,d⟩:=h;exact⟨css,a.same hw hs,c,λi hi=>(d i hi).same hw hs⟩
theorem TmsR.ext (h:TmsR F w v ks) (hw:Ext w w'):TmsR F w' v ks:=h.same hw λ_ _ _ h=>h
theorem TmsR.weaken (h:TmsR F w v ks) (a:∀b,F b->b<w.heap.size->F' b):TmsR F' w v ks:=by
 obtain⟨css,c,d,e⟩:=h;exact⟨css,c.weaken a,d,λi hi=>(e i hi).weaken a⟩
theorem TermR.same (h:TermR F w v t) (hw:Same S w w') (hs:∀b,F b->b<w.heap.size->¬S b):TermR F w' v t:=by
 obtain⟨kv,a,c⟩:=h;exact⟨kv,a,c.same hw hs⟩
theorem TermR.ext (h:TermR F w v t) (hw:Ext w w'):TermR F w' v t:=h.same hw λ_ _ _ h=>h
theorem TermR.weaken (h:TermR F w v t) (d:∀b,F b->b<w.heap.size->F' b):TermR F' w v t:=by
 obtain⟨kv,a,c⟩:=h;exact⟨kv,a,c.weaken d⟩
theorem TmsR.small (h:TmsR F w v ks):ks.length<=9223372036854775807:=by
 obtain⟨css,a,b,c⟩:=h;rw[<-b];exact a.small
theorem TmsR.len (h:TmsR F w v ks) {t:TypeId} (c:isSl t=true) (ty:TypeId):vbi .len [t] ty [v] w' K=K (nI ks.length) w':=by
 obtain⟨css,a,b,d⟩:=h;have:=Sl.len (K:=K) (w':=w') a c ty;rwa[b] at this
theorem TmsR.iaddr (h:TmsR F w v ks) {t:TypeId} (e:elB t 5=true) {kd:IntKind} {i:Int} (b:0<=i) (c:i<ks.length):
  y2 t v (.int kd i) w' K=K (oE (eaddr v 5 i.toNat)) w':=by
 obtain⟨css,a,d,f⟩:=h;exact Sl.iaddr a e b (by rw[d];exact c)
theorem TmsR.load (h:TmsR F w v ks) {t:TypeId} (d:aggB t 5=true) {i:Nat} (hi:i<ks.length) (c:∀x,TermR F w x (ks.getD i default)->K x w):zu t (oE (eaddr v 5 i)) w K:=by
 obtain⟨css,a,e,b⟩:=h;rw[a.ldAgg d oM];exact c _ (b i hi).term
theorem TmsR.nil:TmsR F w (oN) []:=⟨[],⟨⟨none,0,rfl,by simp,by simp,by simp⟩,by simp⟩,rfl,by simp⟩
theorem DclsR.same (h:DclsR F w v ds) (hw:Same S w w') (hs:∀b,F b->b<w.heap.size->¬S b):DclsR F w' v ds:=Sl.same h hw hs
theorem DclsR.ext (h:DclsR F w v ds) (hw:Ext w w'):DclsR F w' v ds:=Sl.ext h hw
theorem DclsR.weaken (h:DclsR F w v ds) (a:∀b,F b->b<w.heap.size->F' b):DclsR F' w v ds:=Sl.weaken h a
theorem DclsR.len (h:DclsR F w v ds) {t:TypeId} (a:isSl t=true) (ty:TypeId):vbi .len [t] ty [v] w' K=K (nI ds.length) w':=by
 have:=Sl.len (K:=K) (w':=w') h a ty;rwa[gd] at this
theorem DclsR.iaddr (h:DclsR F w v ds) {t:TypeId} (c:elB t 2=true) {kd:IntKind} {i:Int} (a:0<=i) (b:i<ds.length):
  y2 t v (.int kd i) w' K=K (oE (eaddr v 2 i.toNat)) w':=Sl.iaddr h c a (by rw[gd];exact b)
theorem K8 {i:Nat} (hi:i<ds.length):(ds.map λd=>[Value.string d.1,nI d.2]).getD i []=[.string (ds.getD i (nada,0)).1,nI (ds.getD i (nada,0)).2]:=M.getD_map _ hi _ _
theorem DclsR.load (h:DclsR F w v ds) {t:TypeId} (a:aggB t 2=true) {i:Nat} (hi:i<ds.length):zu t (oE (eaddr v 2 i)) w K=K (.agg ⟨[.string (ds.getD i (nada,0)).1,nI (ds.getD i (nada,0)).2]⟩) w:=by
 rw[Sl.ldAgg h a (by rw[gd];exact hi),K8 hi]
theorem DclsR.load0 (h:DclsR F w v ds) {t:TypeId} (a:oneB t=true) {i:Nat} (hi:i<ds.length):zu t (oE ((eaddr v 2 i).add 0)) w K=K (.string (ds.getD i (nada,0)).1) w:=
 Sl.ldField h a (by rw[gd];exact hi) (by rw[K8 hi];rfl)
theorem DclsR.load1 (h:DclsR F w v ds) {t:TypeId} (a:oneB t=true) {i:Nat} (hi:i<ds.length):zu t (oE ((eaddr v 2 i).add 1)) w K=K (nI (ds.getD i (nada,0)).2) w:=
 Sl.ldField h a (by rw[gd];exact hi) (by rw[K8 hi];rfl)
theorem DclsR.small (h:DclsR F w v ds):ds.length<=9223372036854775807:=by have:=Sl.small h;simpa using this
theorem Sl.base {k:Nat} {xs:List (List Value)} (h:Sl F w k v xs) (f:xs≠[]):∀a l c,v= .slice (some a) l c->∃b o,a=⟨b,o,none⟩:=by
 intro a l c e;obtain⟨i,c',rfl,_,_,g⟩:=h.shape;obtain⟨b,o,rfl,_⟩:=g f
 injection e with d j m
 injection d with d
 exact⟨b,o,d.symm⟩
theorem Sl.taken {k:Nat} {xs:List (List Value)} (h:Sl F w k v xs) {n:Nat} (t:n<=xs.length):Sl F w k (cutV v n) (xs.take n):=by
 obtain⟨a,c,rfl,s,m,q⟩:=h.shape;have l:(xs.take n).length=n:=by rw[gi];omega
 refine⟨⟨a,c,by rw[l];rfl,oM,m,λj=>?_⟩,λx r=>h.wide x (gV r)⟩;have f:xs≠[]:=λe=>j (by rw[e,List.take_nil]);obtain⟨b,o,e,p,g,d⟩:=q f;refine⟨b,o,e,p,g,λi hi=>?_⟩;rw[l] at hi;rw[M.take_getD hi];exact d i oM
theorem DclsR.cut (h:DclsR F w v ds) (a:ds≠[]) {t:TypeId} (c:elB t 2=true) {kd:IntKind} {n:Nat} (b:n<=ds.length):xt t v none (some (.int kd n)) none w' K=K (cutV v n) w':=
 Sl.cut h (Sl.base h (by simpa using a)) c (by rw[gd];exact b)
theorem DclsR.taken (h:DclsR F w v ds) {n:Nat} (a:n<=ds.length):DclsR F w (cutV v n) (ds.take n):=by
 unfold DclsR;rw[GO];exact Sl.taken h (by rw[gd];exact a)
theorem Blk.sl1k {b k:Nat} {cs:List Value} {e:TypeId} (h:Blk w b cs e) (d:cs.length=k):Sl (· =b) w k (.slice (some ⟨b,0,none⟩) 1 1) [cs]:=by
 refine⟨⟨_,1,rfl,gz _,dC,λ_=>⟨b,0,rfl,rfl,h.lt,λi hi j v c=>?_⟩⟩,by simp[d]⟩;have a:i=0:=by simpa using hi
 subst a;rw[ym];simp only[z0e,Gg,G6];exact h.cell c
theorem Own.app1k {bs ty b k:Nat} {t e:TypeId} {xs:List (List Value)} {y:List Value} (h:Own 0 k t w v xs) (g:elZ t k bs=true) (j:0<k) (i:Blk w b y e) (l:y.length=k) (a:∀c,c∈y->c.oneCell'=true)
  (d:xs.length<9223372036854775807) (hlen:(xs.length+1)*bs<=140737488355328)
  (f:∀v' w',Own 0 k t w' v' (xs++[y])->Same (λb=>v.ownBlock=some b) w w'->(∀b,v'.ownBlock=some b->v.ownBlock=some b\/w.heap.size<=b)->K v' w'):vbi .append [t,t] ty [v,.slice (some ⟨b,0,none⟩) 1 1] w K:=
 vappend (F:=(· =b)) g j h (i.sl1k l) (by simpa using a) oM (by rw[gL];omega) (by simpa using hlen) f
theorem qH {t e k:Nat} {z x:Value} {y:List Value} (hu:P.underlying t=some (.slice e)) (l:qg e k=true) (hzero:yj e z) (i:x.cells=⟨y⟩) (j:y.length=k) (h:k<=16777216)
  (g:∀b w',b=w.heap.size->Ext w w'->w'.heap.size=w.heap.size+1->Blk w' b y e->K (.slice (some ⟨b,0,none⟩) 1 1) w'):vbuildS t 1 [(0,x)] w K:=by
 refine vbuildS_row (xs:=[x]) (us:=[y]) hu l hzero (by simp[i]) (by simp[j]) (by simpa using h) λb w' a c d f=>g b w' a c d (by simpa using f)
theorem Blk.ownk {b k n:Nat} {t:TypeId} {css:List (List Value)} (h:Blk w b css.flatten (X9 t)) (hw:∀x,x∈css->x.length=k) (c:n=css.length) (hm:n<=9223372036854775807):Own 0 k t w (.slice (some ⟨b,0,none⟩) n n) css:=by
 subst c;have a:=flatten_len hw;refine⟨⟨by rw[a],.inr ⟨b,css.length,⟨css.flatten⟩,by simp,gW _,h,gz _,by simpa[maxLen] using hm,by simpa using a,?_⟩⟩,hw⟩;show List.take (css.length*k) css.flatten=css.flatten;rw[<-a,gF]
theorem flatten_set {k:Nat}:∀{xs:List (List Value)} (_:∀x,x∈xs->x.length=k) {i j:Nat} (u:Value),i<xs.length->j<k->xs.flatten.set (i*k+j) u=(xs.set i ((xs.getD i []).set j u)).flatten
 |[],_,i,j,u,hi,_=>by simp at hi
 |x::r,h,i,j,u,hi,a=>by
  have c:=h x gp;cases i with
  |zero=>
   rw[z0e,Gg];simp only[G0,pD,pw];rw[List.set_append_left _ _ oM]
  |succ i=>
   simp only[G0,PR,G9];rw[pc _ _ (by rw[pk];omega)];congr 1;have e:(i+1)*k+j-x.length=i*k+j:=by rw[pk];omega
   rw[e,flatten_set (λy b=>h y (gx _ b)) u (by simpa using hi) a]
theorem Own.stCell {k:Nat} {t e:TypeId} {xs:List (List Value)} {x:Value} (h:Own 0 k t w v xs) (E:x.cells= #[x]) (o:x.oneCell'=true) (G:qg e 1=true) {i j:Nat} (hi:i<xs.length) (C:j<k)
  (p:∀w',Own 0 k t w' v (xs.set i ((xs.getD i []).set j x))->Same (λb=>v.ownBlock=some b) w w'->w'.heap.size=w.heap.size->K undef w'):zy e (oE ((eaddr v k i).add j)) x w K:=by
 rcases h.row.2 with⟨rfl,I⟩|⟨g,cap,cur,rfl,s,H,D,z,A,n⟩
 .omega
 .have a:=h.row;have d:i*k+j<xs.length*k:=by
   have:i*k+k<=xs.length*k:=by rw[<-Nat.succ_mul];exact Pd _ hi
   omega
  have u:=World.ownsRow.cellAt a (i*k+j) d;have B:=World.ownsRow.frozenAt a (i*k+j);obtain⟨l,m⟩:=World.ownsRow.stored a (i*k+j) x;have f:(xs.getD i []).length=k:=h.wide _ (M.getD_mem hi _);have c:w.cell? ⟨g,i*k+j,none⟩=some (xs.flatten.getD (i*k+j) undef):=by
   rw[u];have:i*k+j<xs.flatten.length:=by rw[flatten_len h.wide];exact d
   rw[X0,gj this];rfl
  have r:(⟨g,i*k+j,none⟩:Addr).add 0=⟨g,i*k+j,none⟩:=rfl;have he:(eaddr (.slice (some ⟨g,0,none⟩) xs.length cap) k i).add j=⟨g,i*k+j,none⟩:=by
   simp only[eaddr];rw[ym];simp
  rw[he];refine⟨(),w.setCell ⟨g,i*k+j,none⟩ x,?_,p _ ?_ (Same.of_grown m) (by simp)⟩
  .simp only[Instr.storeAt,Instr.sureAddr,Sem.run_bind,Sem.run_pure,Result.andThen_ok,storeVar,run_sizeOf G,E];cases x<;>first|(cases o;done)|simp[storeCells,store,Sem.run,r,c,B]
  .refine⟨?_,λy F=>?_⟩
   .rw[<-flatten_set h.wide x hi C];simpa using l
   .obtain⟨q,J,rfl⟩:=gy F;rw[pQ];split
    .rw[G4];exact f
    .exact h.wide _ (GZ _)
def PairsR (F:oA) (w:World) (v:Value) (xs:List (Int×Int)):Prop:=Sl F w 2 v (xs.map λx=>[nI x.1,nI x.2])
def OwnP (t:TypeId) (w:World) (v:Value) (xs:List (Int×Int)):Prop:=Own 0 2 t w v (xs.map λx=>[nI x.1,nI x.2])
variable {xs:List (Int×Int)}
theorem PairsR.ext (h:PairsR F w v xs) (hw:Ext w w'):PairsR F w' v xs:=Sl.ext h hw
theorem PairsR.iaddr (h:PairsR F w v xs) {t:TypeId} (c:elB t 2=true) {kd:IntKind} {i:Int} (a:0<=i) (b:i<xs.length):
  y2 t v (.int kd i) w' K=K (oE (eaddr v 2 i.toNat)) w':=Sl.iaddr h c a (by rw[gd];exact b)
theorem PairsR.load (h:PairsR F w v xs) {t:TypeId} (a:aggB t 2=true) {i:Nat} (hi:i<xs.length):zu t (oE (eaddr v 2 i)) w K=K (.agg ⟨[nI (xs.getD i (0,0)).1,nI (xs.getD i (0,0)).2]⟩) w:=by
 rw[Sl.ldAgg h a (by rw[gd];exact hi),M.getD_map _ hi _ (0,0)]
theorem PairsR.load1 (h:PairsR F w v xs) {t:TypeId} (a:oneB t=true) {i:Nat} (hi:i<xs.length):zu t (oE ((eaddr v 2 i).add 1)) w K=K (nI (xs.getD i (0,0)).2) w:=
 Sl.ldField h a (by rw[gd];exact hi) (by rw[M.getD_map _ hi _ (0,0)];rfl)
theorem OwnP.pairs {t:TypeId} (h:OwnP t w v xs):PairsR (λb=>v.ownBlock=some b) w v xs:=Own.sl h
theorem OwnP.ext {t:TypeId} (h:OwnP t w v xs) (hw:Ext w w'):OwnP t w' v xs:=Own.ext h hw
theorem OwnP.nil (t:TypeId):OwnP t w (oN) []:=Own.nil 0 2 t w
end
end
end Go.Vc
namespace Go.Proofs.YtfnpmncplaibiaaGreatDoor
open Go Go.Vc Go.Proofs
theorem mixed:P.follows .mixedOrders=true:=rK
abbrev Q6:Nat:=4
abbrev JB:Nat:=9
abbrev ZH:Nat:=12
abbrev YI:Nat:=20
abbrev VQ:Nat:=21
abbrev Ux:Nat:=22
abbrev zS0:Nat:=40
abbrev zR0:Nat:=41
abbrev Vy:Nat:=42
abbrev Kw:Nat:=43
abbrev Vz:Nat:=44
abbrev KC:Nat:=45
abbrev Y9:Nat:=48
abbrev xC:Nat:=49
abbrev JD:Nat:=50
abbrev xL:Nat:=51
abbrev VO:Nat:=55
abbrev Q5:Nat:=56
abbrev xQ:Nat:=57
abbrev j9:Nat:=58
abbrev Xg:Nat:=59
abbrev Qj:Nat:=60
abbrev Uw:Nat:=61
abbrev Uu:Nat:=68
abbrev Kz:Nat:=69
abbrev UA:Nat:=71
abbrev U0:Nat:=75
abbrev x90:Nat:=76
abbrev y30:Nat:=77
abbrev Uf:Nat:=78
abbrev y60:Nat:=79
abbrev U7:Nat:=80
abbrev KD:Nat:=81
abbrev yl0:Nat:=82
abbrev yh0:Nat:=83
abbrev UI:Nat:=84
abbrev xR:Nat:=85
abbrev qd0:Nat:=86
abbrev KL:Nat:=87
abbrev QU:Nat:=88
abbrev XB:Nat:=89
abbrev kR:Nat:=90
abbrev qI:Nat:=93
abbrev VM:Nat:=94
abbrev WX:Nat:=95
abbrev Ui:Nat:=96
abbrev Xc:Nat:=97
abbrev Uo:Nat:=98
abbrev Xv:Nat:=99
abbrev KP:Nat:=100
abbrev Uj:Nat:=104
abbrev Uk:Nat:=105
abbrev KB:Nat:=106
abbrev Uh:Nat:=107
abbrev KH:Nat:=108
abbrev Uz:Nat:=109
abbrev WZ:Nat:=110
abbrev VA:Nat:=111
abbrev xa0:Nat:=112
abbrev zY0:Nat:=113
abbrev zZ0:Nat:=114
abbrev U6:Nat:=115
abbrev ya0:Nat:=116
abbrev xc0:Nat:=117
abbrev Un:Nat:=118
abbrev yk0:Nat:=119
abbrev Y0:Nat:=120
abbrev Vx:Nat:=121
abbrev xS:Nat:=122
abbrev jh0:Nat:=123
abbrev Y1:Nat:=124
abbrev KN:Nat:=125
abbrev jU:Nat:=126
abbrev Ju:Nat:=127
abbrev VR:Nat:=128
abbrev UE:Nat:=129
abbrev Zt:Nat:=130
abbrev XC:Nat:=131
abbrev jz:Nat:=132
abbrev kG:Nat:=133
abbrev yf0:Nat:=134
abbrev Zs:Nat:=135
abbrev Xd:Nat:=136
abbrev km:Nat:=137
abbrev ql:Nat:=138
abbrev yr0:Nat:=139
abbrev ji:Nat:=140
abbrev UC:Nat:=141
abbrev yg0:Nat:=146
abbrev VL:Nat:=147
abbrev yd0:Nat:=148
abbrev Um:Nat:=149
abbrev ku:Nat:=150
abbrev jy:Nat:=151
abbrev qJ:Nat:=152
abbrev ja:Nat:=153
abbrev zQ0:Nat:=154
abbrev WY:Nat:=155
abbrev U1:Nat:=156
abbrev y00:Nat:=157
abbrev xb0:Nat:=158
abbrev zW0:Nat:=159
abbrev y10:Nat:=160
abbrev U5:Nat:=161
abbrev U2:Nat:=162
abbrev U3:Nat:=163
abbrev zV0:Nat:=164
abbrev zX0:Nat:=165
abbrev VB:Nat:=166
abbrev VC:Nat:=167
abbrev yb0:Nat:=168
abbrev Ul:Nat:=169
abbrev Ug:Nat:=170
abbrev VI:Nat:=171
abbrev y90:Nat:=172
abbrev Uc:Nat:=173
abbrev VF:Nat:=174
abbrev xd0:Nat:=175
abbrev qj:Nat:=183
abbrev yn0:Nat:=184
abbrev Jt:Nat:=185
abbrev VZ:Nat:=186
abbrev VY:Nat:=187
abbrev VX:Nat:=188
abbrev VW:Nat:=189
abbrev qC:Nat:=190
abbrev JE:Nat:=191
abbrev Q9:Nat:=192
abbrev Xf:Nat:=193
abbrev jh:Nat:=194
abbrev Xb:Nat:=195
abbrev KF:Nat:=196
abbrev VU:Nat:=197
abbrev Y8:Nat:=198
abbrev qk:Nat:=199
abbrev Y7:Nat:=200
abbrev QW:Nat:=201
abbrev kU:Nat:=202
abbrev ZN:Nat:=203
abbrev yQ0:Nat:=204
abbrev Up:Nat:=205
abbrev yq0:Nat:=206
abbrev VN:Nat:=212
abbrev KO:Nat:=213
abbrev KQ:Nat:=214
abbrev qc0:Nat:=215
abbrev KR:Nat:=216
abbrev Qa:Nat:=217
abbrev y40:Nat:=218
abbrev zU0:Nat:=219
abbrev zT0:Nat:=220
abbrev U4:Nat:=221
abbrev JA:Nat:=222
abbrev xf0:Nat:=223
abbrev VJ:Nat:=224
abbrev xe0:Nat:=225
abbrev KA:Nat:=226
abbrev VK:Nat:=227
abbrev VH:Nat:=228
abbrev U9:Nat:=229
abbrev Kx:Nat:=230
abbrev y50:Nat:=231
abbrev VE:Nat:=232
abbrev Ud:Nat:=233
abbrev VG:Nat:=234
abbrev Z5:Nat:=239
abbrev Uy:Nat:=240
abbrev xY:Nat:=244
abbrev kE:Nat:=245
abbrev xg0:Nat:=246
abbrev Zx:Nat:=247
abbrev qK:Nat:=248
abbrev VV:Nat:=249
abbrev kS:Nat:=250
abbrev xZ:Nat:=251
abbrev Qi:Nat:=252
abbrev QX:Nat:=253
abbrev Qh:Nat:=254
abbrev kT:Nat:=255
abbrev Y6:Nat:=256
abbrev YO:Nat:=257
abbrev Xx:Nat:=258
abbrev XA:Nat:=259
abbrev YN:Nat:=260
abbrev Qe:Nat:=261
abbrev KG:Nat:=262
abbrev Qc:Nat:=263
abbrev UB:Nat:=264
abbrev Zw:Nat:=265
abbrev Js:Nat:=266
abbrev Jr:Nat:=267
abbrev y20:Nat:=268
abbrev yc0:Nat:=269
abbrev Ur:Nat:=270
abbrev yj0:Nat:=271
abbrev Us:Nat:=272
abbrev Ut:Nat:=273
abbrev Ue:Nat:=274
abbrev U8:Nat:=275
abbrev Ua:Nat:=276
abbrev Ub:Nat:=277
abbrev y80:Nat:=278
abbrev JY:Nat:=282
abbrev KE:Nat:=285
abbrev JF:Nat:=286
abbrev qs:Nat:=287
abbrev Xz:Nat:=288
abbrev Qg:Nat:=289
abbrev Qf:Nat:=290
abbrev Xy:Nat:=291
abbrev QV:Nat:=292
abbrev QS:Nat:=293
abbrev Y4:Nat:=294
abbrev YL:Nat:=295
abbrev YM:Nat:=296
abbrev Y3:Nat:=297
abbrev ye0:Nat:=298
abbrev Ky:Nat:=299
abbrev yi0:Nat:=300
abbrev y70:Nat:=301
abbrev WA:Nat:=306
abbrev JX:Nat:=307
abbrev QQ:Nat:=308
abbrev JC:Nat:=309
abbrev qb0:Nat:=313
abbrev Xw:Nat:=314
abbrev YJ:Nat:=315
abbrev jr:Nat:=316
abbrev Xu:Nat:=317
abbrev QT:Nat:=318
abbrev jo:Nat:=319
abbrev Zv:Nat:=320
abbrev Q8:Nat:=321
abbrev Xt:Nat:=322
abbrev YK:Nat:=323
abbrev QR:Nat:=324
abbrev Uq:Nat:=325
abbrev Xe:Nat:=326
abbrev kA:Nat:=333
abbrev qX:Nat:=334
abbrev jH:Nat:=335
abbrev jI:Nat:=336
abbrev kz:Nat:=337
abbrev jq:Nat:=338
abbrev jJ:Nat:=339
abbrev Xs:Nat:=340
abbrev ko:Nat:=341
abbrev Q7:Nat:=342
abbrev Y2:Nat:=343
abbrev Z4:Nat:=344
abbrev Y5:Nat:=345
abbrev QY:Nat:=346
abbrev kL:Nat:=347
abbrev yD:Nat:=348
abbrev ym0:Nat:=352
abbrev JI:Nat:=353
abbrev KI:Nat:=354
abbrev Qd:Nat:=355
abbrev jg0:Nat:=356
abbrev UD:Nat:=357
abbrev KM:Nat:=358
abbrev yo0:Nat:=359
abbrev KT:Nat:=360
abbrev JG:Nat:=363
abbrev qW:Nat:=364
abbrev Vv:Nat:=365
abbrev Uv:Nat:=375
abbrev KK:Nat:=398
abbrev yg:Nat:=411
abbrev yp:Nat:=412
abbrev kP:Nat:=413
abbrev kq:Nat:=414
abbrev Zu:Nat:=415
abbrev yp0:Nat:=416
abbrev W0:Nat:=417
abbrev VS:Nat:=418
abbrev kD:Nat:=419
abbrev jM:Nat:=420
abbrev UH:Nat:=421
abbrev KJ:Nat:=422
abbrev xo:Nat:=423
abbrev xn:Nat:=424
abbrev xm:Nat:=425
abbrev xl:Nat:=426
abbrev xk:Nat:=427
abbrev xj:Nat:=428
abbrev xi:Nat:=429
abbrev xh:Nat:=430
abbrev xg:Nat:=431
abbrev xb:Nat:=432
abbrev xa:Nat:=433
abbrev YP:Nat:=434
abbrev kC:Nat:=435
abbrev jL:Nat:=436
abbrev UG:Nat:=437
abbrev JH:Nat:=438
abbrev kp:Nat:=439
abbrev jF:Nat:=440
abbrev jG:Nat:=441
abbrev jp:Nat:=442
abbrev zz0:Nat:=443
abbrev kB:Nat:=444
abbrev jK:Nat:=445
abbrev UF:Nat:=446
abbrev kQ:Nat:=447
abbrev ky:Nat:=448
abbrev jN:Nat:=449
abbrev jt:Nat:=450
abbrev zA0:Nat:=451
abbrev kF:Nat:=452
abbrev jP:Nat:=453
abbrev yz:Nat:=0
abbrev xV:Nat:=1
abbrev ju:Nat:=2
abbrev qz:Nat:=3
abbrev jk:Nat:=4
abbrev T_T_:Nat:=0
abbrev T_int64:Nat:=2
abbrev zE:Nat:=3
abbrev xH:Nat:=4
abbrev Yw:Nat:=5
abbrev xe:Nat:=9
abbrev zn:Nat:=26
abbrev yF:Nat:=29
abbrev zl:Nat:=31
abbrev xf:Nat:=40
abbrev ze:Nat:=43
abbrev zq:Nat:=72
abbrev xw:Nat:=78
abbrev yR:Nat:=80
abbrev za:Nat:=83
abbrev xu:Nat:=86
abbrev zB:Nat:=123
abbrev zx:Nat:=125
abbrev zD:Nat:=127
abbrev zw:Nat:=133
abbrev zg:Nat:=143
abbrev yC:Nat:=145
abbrev zU:Nat:=146
abbrev yM:Nat:=147
abbrev yh:Nat:=149
abbrev JV:Nat:=150
abbrev yI:Nat:=152
abbrev yq:Nat:=153
abbrev yY:Nat:=161
abbrev zW:Nat:=181
abbrev xI:Nat:=182
abbrev yV:Nat:=184
abbrev zo:Nat:=193
abbrev zh:Nat:=198
abbrev zK:Nat:=209
abbrev y5:Nat:=211
abbrev ya:Nat:=213
abbrev yE:Nat:=226
abbrev kY:Nat:=231
abbrev xm0:Nat:=265
abbrev qF:Nat:=269
abbrev zQ:Nat:=271
abbrev zM:Nat:=272
abbrev zI:Nat:=273
abbrev zP:Nat:=274
abbrev zH:Nat:=275
abbrev zL:Nat:=276
abbrev zV:Nat:=277
abbrev xP:Nat:=278
abbrev ZE:Nat:=279
abbrev zz:Nat:=281
abbrev zJ:Nat:=282
abbrev Ka:Nat:=289
abbrev Jk:Nat:=290
abbrev yL:Nat:=302
abbrev Wq:Nat:=304
abbrev yr:Nat:=306
abbrev yb:Nat:=344
abbrev yw:Nat:=347
abbrev kn0:Nat:=348
abbrev yO0:Nat:=363
abbrev ZK0:Nat:=383
abbrev zX:Nat:=399
abbrev yc:Nat:=401
abbrev zw0:Nat:=403
abbrev Jl:Nat:=415
abbrev yQ:Nat:=443
abbrev xc:Nat:=468
theorem xp:yj zE (nI 0):=by unfold yj;kernel_rfl
@[push_cast] theorem Jz:oneB zE=true:=rK
@[push_cast] theorem yG:qg zE 1=true:=rK
theorem WC:qF0 zE .i64:=by unfold qF0;kernel_rfl
theorem zJ0:(P.underlying zE).isSome=true:=rK
theorem yR0:yj xH (.bool false):=by unfold yj;kernel_rfl
@[push_cast] theorem ZC0:oneB xH=true:=rK
@[push_cast] theorem zB0:qg xH 1=true:=rK
@[push_cast] theorem o_uint8:oneB Yw=true:=rK
theorem kZ0:qF0 Yw .u8:=by unfold qF0;kernel_rfl
theorem xy0:(P.underlying Yw).isSome=true:=rK
theorem Z7:yj xe (.string ⟨#[]⟩):=by unfold yj;kernel_rfl
@[push_cast] theorem kM0:oneB xe=true:=rK
@[push_cast] theorem WH:qg xe 1=true:=rK
theorem Zd:P.underlying xe=some .string:=rK
theorem WG:yj zn (oN):=by unfold yj;kernel_rfl
@[push_cast] theorem Zr:oneB zn=true:=rK
@[push_cast] theorem jx:qg zn 1=true:=rK
@[push_cast] theorem jB:elZ zn 1 24=true:=rK
theorem kg:P.underlying zn=some (.slice ze):=rK
theorem K6:X9 zn=ze:=rK
@[push_cast] theorem ZY0:isSl zn=true:=rK
@[push_cast] theorem Yc0:elB zn 1=true:=rK
@[push_cast] theorem ZY:oneB yF=true:=rK
@[push_cast] theorem Yl:elZ yF 2 24=true:=rK
theorem jn:P.underlying yF=some (.slice yR):=rK
theorem Qt:X9 yF=yR:=rK
@[push_cast] theorem ZA0:isSl yF=true:=rK
@[push_cast] theorem Ys:elB yF 2=true:=rK
@[push_cast] theorem Jq:oneB zl=true:=rK
@[push_cast] theorem qf:qg zl 1=true:=rK
@[push_cast] theorem qm:elZ zl 5 64=true:=rK
theorem xJ:P.underlying zl=some (.slice za):=rK
theorem jW:X9 zl=za:=rK
@[push_cast] theorem Jp:isSl zl=true:=rK
@[push_cast] theorem ZJ0:elB zl 5=true:=rK
@[push_cast] theorem o_Luint8:oneB xf=true:=rK
@[push_cast] theorem kW0:elZ xf 1 1=true:=rK
theorem XV:P.underlying xf=some (.slice Yw):=rK
theorem jK0:X9 xf=Yw:=rK
@[push_cast] theorem s_Luint8:isSl xf=true:=rK
@[push_cast] theorem Zl0:elB xf 1=true:=rK
theorem ZS:yj ze (oN):=by unfold yj;kernel_rfl
@[push_cast] theorem ZD0:oneB ze=true:=rK
@[push_cast] theorem qe:qg ze 1=true:=rK
@[push_cast] theorem xx:elZ ze 1 8=true:=rK
theorem x8:P.underlying ze=some (.slice zE):=rK
theorem qD:X9 ze=zE:=rK
@[push_cast] theorem Zz0:isSl ze=true:=rK
@[push_cast] theorem Qv:elB ze 1=true:=rK
theorem xr:yj zq (.agg #[(nI 0),(oN)]):=by unfold yj;kernel_rfl
theorem Ji:strF zq=some ([(0,1),(1,1)],[(nI 0),(oN)]):=rK
@[push_cast] theorem zG:aggB zq 2=true:=rK
@[push_cast] theorem UN:elZ xw 1 1=true:=rK
theorem yX0:P.underlying xw=some (.slice xH):=rK
theorem K5:X9 xw=xH:=rK
@[push_cast] theorem s_Lbool:isSl xw=true:=rK
@[push_cast] theorem xi0:elB xw 1=true:=rK
theorem yO:yj yR (.agg #[(.string ⟨#[]⟩),(nI 0)]):=by unfold yj;kernel_rfl
theorem xl0:strF yR=some ([(0,1),(1,1)],[(.string ⟨#[]⟩),(nI 0)]):=rK
@[push_cast] theorem Y80:aggB yR 2=true:=rK
@[push_cast] theorem kf:qg yR 2=true:=rK
theorem zr:yj za (.agg #[(nI 0),(nI 0),(nI 0),(.string ⟨#[]⟩),(oN)]):=by unfold yj;kernel_rfl
theorem qq:strF za=some ([(0,1),(1,1),(2,1),(3,1),(4,1)],[(nI 0),(nI 0),(nI 0),(.string ⟨#[]⟩),(oN)]):=rK
@[push_cast] theorem zc:aggB za 5=true:=rK
@[push_cast] theorem qc:qg za 5=true:=rK
@[push_cast] theorem xd:oneB xu=true:=rK
@[push_cast] theorem ZM0:qg xu 1=true:=rK
@[push_cast] theorem ZE0:oneB zB=true:=rK
@[push_cast] theorem Jn:qg zB 1=true:=rK
@[push_cast] theorem qE:elZ zB 3 24=true:=rK
theorem jm:P.underlying zB=some (.slice zo):=rK
theorem Qs:X9 zB=zo:=rK
@[push_cast] theorem qh:isSl zB=true:=rK
@[push_cast] theorem Yr:elB zB 3=true:=rK
theorem j0:yj zx (.agg #[(nI 0),(oN)]):=by unfold yj;kernel_rfl
theorem Jh:strF zx=some ([(0,1),(1,1)],[(nI 0),(oN)]):=rK
@[push_cast] theorem y0:aggB zx 2=true:=rK
theorem xy:yj zD (.agg #[(nI 0),(oN),(.bool false)]):=by unfold yj;kernel_rfl
theorem xk0:strF zD=some ([(0,2),(2,1)],[(nI 0),(oN),(.bool false)]):=rK
@[push_cast] theorem jc:aggB zD 3=true:=rK
theorem qZ:yj zw (.agg #[(oN),(oN),(oN),(nI 0)]):=by unfold yj;kernel_rfl
theorem qy0:strF zw=some ([(0,1),(1,1),(2,1),(3,1)],[(oN),(oN),(oN),(nI 0)]):=rK
@[push_cast] theorem zR:aggB zw 4=true:=rK
theorem qG:yj zg (oN):=by unfold yj;kernel_rfl
@[push_cast] theorem Vw:oneB zg=true:=rK
@[push_cast] theorem je:qg zg 1=true:=rK
@[push_cast] theorem yy:elZ zg 1 8=true:=rK
theorem yx:P.underlying zg=some (.slice yq):=rK
theorem yK:X9 zg=yq:=rK
@[push_cast] theorem yS:isSl zg=true:=rK
@[push_cast] theorem yH:elB zg 1=true:=rK
@[push_cast] theorem qC0:oneB yC=true:=rK
@[push_cast] theorem zO0:oneB zU=true:=rK
theorem Zz:P.underlying zU=some (.map 3 265):=rK
@[push_cast] theorem Kt:oneB yM=true:=rK
theorem jA:P.underlying yM=some (.map 9 143):=rK
theorem Wo:strF yh=some ([(0,1),(1,1),(2,1),(3,1)],[(.pointer none),(oN),(.map none),(.map none)]):=rK
@[push_cast] theorem qB0:oneB JV=true:=rK
theorem Wn:strF yI=some ([(0,1),(1,1)],[(.pointer none),.nilIface]):=rK
theorem ye:yj yq (nI 0):=by unfold yj;kernel_rfl
@[push_cast] theorem kN0:oneB yq=true:=rK
@[push_cast] theorem y3:qg yq 1=true:=rK
theorem yK0:strF yY=some ([(0,1),(1,1)],[(oN),(nI 0)]):=rK
theorem qx0:strF zW=some ([(0,1),(1,1),(2,1),(3,2),(5,1)],[(oN),(oN),(oN),(nI 0),(oN),(oN)]):=rK
theorem Z9:P.underlying xI=some (.slice yV):=rK
@[push_cast] theorem Wv:isSl xI=true:=rK
@[push_cast] theorem Zh:elB xI 1=true:=rK
theorem kK:yj yV .nilFunc:=by unfold yj;kernel_rfl
@[push_cast] theorem Z3:oneB yV=true:=rK
@[push_cast] theorem Z0:qg yV 1=true:=rK
theorem kM:yj zo (.agg #[(.bool false),(nI 0),(nI 0)]):=by unfold yj;kernel_rfl
theorem ZD:strF zo=some ([(0,1),(1,1),(2,1)],[(.bool false),(nI 0),(nI 0)]):=rK
@[push_cast] theorem xN:aggB zo 3=true:=rK
@[push_cast] theorem Xj:qg zo 3=true:=rK
theorem zY:yj zh (.agg #[(nI 0),(nI 0)]):=by unfold yj;kernel_rfl
theorem Jg:strF zh=some ([(0,1),(1,1)],[(nI 0),(nI 0)]):=rK
@[push_cast] theorem zt:aggB zh 2=true:=rK
@[push_cast] theorem xV0:qg zh 2=true:=rK
@[push_cast] theorem KZ:elZ zK 1 24=true:=rK
theorem ZX:P.underlying zK=some (.slice zg):=rK
@[push_cast] theorem j90:isSl zK=true:=rK
@[push_cast] theorem Vl:elB zK 1=true:=rK
@[push_cast] theorem zP0:oneB y5=true:=rK
theorem qM:P.underlying y5=some (.map 193 3):=rK
theorem Wl:strF ya=some ([(0,2),(2,1)],[(nI 0),(oN),(.map none)]):=rK
@[push_cast] theorem yu0:elZ yE 1 16=true:=rK
theorem Z8:P.underlying yE=some (.slice xe):=rK
theorem qr0:X9 yE=xe:=rK
@[push_cast] theorem YI0:isSl yE=true:=rK
theorem X7:P.underlying kY=some (.map 9 3):=rK
theorem yM0:strF qF=some ([(0,1),(1,1)],[(.string ⟨#[]⟩),(nI 0)]):=rK
theorem qu:yj zQ (.agg #[(.string ⟨#[]⟩),(nI 0)]):=by unfold yj;kernel_rfl
theorem zr0:strF zQ=some ([(0,2)],[(.string ⟨#[]⟩),(nI 0)]):=rK
@[push_cast] theorem UT:aggB zQ 2=true:=rK
theorem kc:yj zM (.agg #[(.string ⟨#[]⟩),(nI 0)]):=by unfold yj;kernel_rfl
theorem Wm:strF zM=some ([(0,2)],[(.string ⟨#[]⟩),(nI 0)]):=rK
theorem ZR:yj zI (.agg #[(.string ⟨#[]⟩),(nI 0)]):=by unfold yj;kernel_rfl
theorem Wk:strF zI=some ([(0,2)],[(.string ⟨#[]⟩),(nI 0)]):=rK
@[push_cast] theorem W4:aggB zI 2=true:=rK
theorem yJ:yj zP (.agg #[(.string ⟨#[]⟩),(nI 0)]):=by unfold yj;kernel_rfl
theorem Wi:strF zP=some ([(0,2)],[(.string ⟨#[]⟩),(nI 0)]):=rK
@[push_cast] theorem W2:aggB zP 2=true:=rK
theorem yN:yj zH (.agg #[(.string ⟨#[]⟩),(nI 0)]):=by unfold yj;kernel_rfl
theorem Vq:strF zH=some ([(0,2)],[(.string ⟨#[]⟩),(nI 0)]):=rK
@[push_cast] theorem V9:aggB zH 2=true:=rK
theorem xq:yj zL (.agg #[(.string ⟨#[]⟩),(nI 0)]):=by unfold yj;kernel_rfl
theorem Wj:strF zL=some ([(0,2)],[(.string ⟨#[]⟩),(nI 0)]):=rK
@[push_cast] theorem W3:aggB zL 2=true:=rK
theorem xU:yj zV (.agg #[(.string ⟨#[]⟩),(nI 0)]):=by unfold yj;kernel_rfl
theorem zt0:strF zV=some ([(0,2)],[(.string ⟨#[]⟩),(nI 0)]):=rK
@[push_cast] theorem UU:aggB zV 2=true:=rK
@[push_cast] theorem xh0:elZ xP 2 16=true:=rK
theorem yW0:P.underlying xP=some (.slice zh):=rK
@[push_cast] theorem Yb0:elB xP 2=true:=rK
@[push_cast] theorem WW:oneB ZE=true:=rK
theorem Jw:yj zz (.agg #[(.string ⟨#[]⟩),(nI 0),.nilFunc]):=by unfold yj;kernel_rfl
theorem Vr:strF zz=some ([(0,2),(2,1)],[(.string ⟨#[]⟩),(nI 0),.nilFunc]):=rK
@[push_cast] theorem Yo:aggB zz 3=true:=rK
theorem ke:yj zJ (.agg #[(.string ⟨#[]⟩),(nI 0)]):=by unfold yj;kernel_rfl
theorem Wp:strF zJ=some ([(0,2)],[(.string ⟨#[]⟩),(nI 0)]):=rK
theorem V6:qF0 Jk .u64:=by unfold qF0;kernel_rfl
theorem Kk:(P.underlying Jk).isSome=true:=rK
@[push_cast] theorem jc0:oneB yL=true:=rK
@[push_cast] theorem k80:oneB Wq=true:=rK
theorem zs0:strF yr=some ([(0,2),(2,1),(3,1),(4,1),(5,1)],[(nI 0),(oN),(.pointer none),(oN),(oN),(nI 0)]):=rK
theorem zu0:strF yb=some ([(0,1),(1,1)],[(oN),(.map none)]):=rK
@[push_cast] theorem xM:aggB yb 2=true:=rK
theorem yL0:strF yw=some ([(0,1),(1,1),(2,1)],[(oN),(oN),(oN)]):=rK
theorem jy0:qF0 yO0 .u64:=by unfold qF0;kernel_rfl
theorem ZV0:(P.underlying yO0).isSome=true:=rK
theorem qU:P.underlying zX=some (.slice yc):=rK
theorem qQ:X9 zX=yc:=rK
@[push_cast] theorem QF:isSl zX=true:=rK
@[push_cast] theorem QG:elB zX 1=true:=rK
@[push_cast] theorem YH:oneB yc=true:=rK
@[push_cast] theorem YG:qg yc 1=true:=rK
theorem kA0:P.underlying zw0=some (.slice zn):=rK
@[push_cast] theorem s_LLLint:isSl zw0=true:=rK
@[push_cast] theorem e_LLLint:elB zw0 1=true:=rK
@[push_cast] theorem xB:imapB Jl=true:=rK
theorem zg0:fieldB zq 0 0=true:=rK
@[push_cast] theorem Zi0 {w:World} {K:oK} (a:Addr):zF zq (.pointer (some a)) 0 w K=K (oE (a.add 0)) w:=zA zg0 a
theorem zf0:fieldB zq 1 1=true:=rK
@[push_cast] theorem zk0 {w:World} {K:oK} (a:Addr):zF zq (.pointer (some a)) 1 w K=K (oE (a.add 1)) w:=zA zf0 a
theorem Wg:fieldB yR 0 0=true:=rK
@[push_cast] theorem km0 {w:World} {K:oK} (a:Addr):zF yR (.pointer (some a)) 0 w K=K (oE (a.add 0)) w:=zA Wg a
theorem Wf:fieldB yR 1 1=true:=rK
@[push_cast] theorem kl0 {w:World} {K:oK} (a:Addr):zF yR (.pointer (some a)) 1 w K=K (oE (a.add 1)) w:=zA Wf a
theorem Wb:fieldB za 0 0=true:=rK
@[push_cast] theorem kh0 {w:World} {K:oK} (a:Addr):zF za (.pointer (some a)) 0 w K=K (oE (a.add 0)) w:=zA Wb a
theorem Wa:fieldB za 1 1=true:=rK
@[push_cast] theorem kg0 {w:World} {K:oK} (a:Addr):zF za (.pointer (some a)) 1 w K=K (oE (a.add 1)) w:=zA Wa a
theorem W9:fieldB za 2 2=true:=rK
@[push_cast] theorem kf0 {w:World} {K:oK} (a:Addr):zF za (.pointer (some a)) 2 w K=K (oE (a.add 2)) w:=zA W9 a
theorem W8:fieldB za 3 3=true:=rK
@[push_cast] theorem ke0 {w:World} {K:oK} (a:Addr):zF za (.pointer (some a)) 3 w K=K (oE (a.add 3)) w:=zA W8 a
theorem W7:fieldB za 4 4=true:=rK
@[push_cast] theorem kd0 {w:World} {K:oK} (a:Addr):zF za (.pointer (some a)) 4 w K=K (oE (a.add 4)) w:=zA W7 a
theorem ze0:fieldB zx 0 0=true:=rK
@[push_cast] theorem Zh0 {w:World} {K:oK} (a:Addr):zF zx (.pointer (some a)) 0 w K=K (oE (a.add 0)) w:=zA ze0 a
theorem zd0:fieldB zx 1 1=true:=rK
@[push_cast] theorem Zg0 {w:World} {K:oK} (a:Addr):zF zx (.pointer (some a)) 1 w K=K (oE (a.add 1)) w:=zA zd0 a
theorem W6:fieldB zD 0 0=true:=rK
@[push_cast] theorem kc0 {w:World} {K:oK} (a:Addr):zF zD (.pointer (some a)) 0 w K=K (oE (a.add 0)) w:=zA W6 a
theorem W5:fieldB zD 1 2=true:=rK
@[push_cast] theorem kb0 {w:World} {K:oK} (a:Addr):zF zD (.pointer (some a)) 1 w K=K (oE (a.add 2)) w:=zA W5 a
theorem zc0:fieldB zw 0 0=true:=rK
@[push_cast] theorem zj0 {w:World} {K:oK} (a:Addr):zF zw (.pointer (some a)) 0 w K=K (oE (a.add 0)) w:=zA zc0 a
theorem zb0:fieldB zw 1 1=true:=rK
@[push_cast] theorem zi0 {w:World} {K:oK} (a:Addr):zF zw (.pointer (some a)) 1 w K=K (oE (a.add 1)) w:=zA zb0 a
theorem za0:fieldB zw 2 2=true:=rK
@[push_cast] theorem zh0 {w:World} {K:oK} (a:Addr):zF zw (.pointer (some a)) 2 w K=K (oE (a.add 2)) w:=zA za0 a
theorem z90:fieldB zw 3 3=true:=rK
@[push_cast] theorem Zf0 {w:World} {K:oK} (a:Addr):zF zw (.pointer (some a)) 3 w K=K (oE (a.add 3)) w:=zA z90 a
theorem Je:fieldB yh 0 0=true:=rK
@[push_cast] theorem qp0 {w:World} {K:oK} (a:Addr):zF yh (.pointer (some a)) 0 w K=K (oE (a.add 0)) w:=zA Je a
theorem Jd:fieldB yh 1 1=true:=rK
@[push_cast] theorem qo0 {w:World} {K:oK} (a:Addr):zF yh (.pointer (some a)) 1 w K=K (oE (a.add 1)) w:=zA Jd a
theorem Jc:fieldB yh 2 2=true:=rK
@[push_cast] theorem qn0 {w:World} {K:oK} (a:Addr):zF yh (.pointer (some a)) 2 w K=K (oE (a.add 2)) w:=zA Jc a
theorem Jb:fieldB yh 3 3=true:=rK
@[push_cast] theorem qm0 {w:World} {K:oK} (a:Addr):zF yh (.pointer (some a)) 3 w K=K (oE (a.add 3)) w:=zA Jb a
theorem Ja:fieldB yI 0 0=true:=rK
@[push_cast] theorem ql0 {w:World} {K:oK} (a:Addr):zF yI (.pointer (some a)) 0 w K=K (oE (a.add 0)) w:=zA Ja a
theorem J9:fieldB yI 1 1=true:=rK
@[push_cast] theorem qk0 {w:World} {K:oK} (a:Addr):zF yI (.pointer (some a)) 1 w K=K (oE (a.add 1)) w:=zA J9 a
theorem Vb:fieldB yY 0 0=true:=rK
@[push_cast] theorem Yq {w:World} {K:oK} (a:Addr):zF yY (.pointer (some a)) 0 w K=K (oE (a.add 0)) w:=zA Vb a
theorem Va:fieldB yY 1 1=true:=rK
@[push_cast] theorem Vj {w:World} {K:oK} (a:Addr):zF yY (.pointer (some a)) 1 w K=K (oE (a.add 1)) w:=zA Va a
theorem z40:fieldB zW 0 0=true:=rK
@[push_cast] theorem Zc0 {w:World} {K:oK} (a:Addr):zF zW (.pointer (some a)) 0 w K=K (oE (a.add 0)) w:=zA z40 a
theorem z30:fieldB zW 1 1=true:=rK
@[push_cast] theorem Zb0 {w:World} {K:oK} (a:Addr):zF zW (.pointer (some a)) 1 w K=K (oE (a.add 1)) w:=zA z30 a
theorem z00:fieldB zW 2 2=true:=rK
@[push_cast] theorem Za0 {w:World} {K:oK} (a:Addr):zF zW (.pointer (some a)) 2 w K=K (oE (a.add 2)) w:=zA z00 a
theorem UZ:fieldB zW 3 3=true:=rK
@[push_cast] theorem Z90 {w:World} {K:oK} (a:Addr):zF zW (.pointer (some a)) 3 w K=K (oE (a.add 3)) w:=zA UZ a
theorem UY:fieldB zW 4 5=true:=rK
@[push_cast] theorem Z80 {w:World} {K:oK} (a:Addr):zF zW (.pointer (some a)) 4 w K=K (oE (a.add 5)) w:=zA UY a
theorem We:fieldB zo 0 0=true:=rK
@[push_cast] theorem kk0 {w:World} {K:oK} (a:Addr):zF zo (.pointer (some a)) 0 w K=K (oE (a.add 0)) w:=zA We a
theorem Wd:fieldB zo 1 1=true:=rK
@[push_cast] theorem kj0 {w:World} {K:oK} (a:Addr):zF zo (.pointer (some a)) 1 w K=K (oE (a.add 1)) w:=zA Wd a
theorem Wc:fieldB zo 2 2=true:=rK
@[push_cast] theorem ki0 {w:World} {K:oK} (a:Addr):zF zo (.pointer (some a)) 2 w K=K (oE (a.add 2)) w:=zA Wc a
theorem z80:fieldB zh 0 0=true:=rK
@[push_cast] theorem Ze0 {w:World} {K:oK} (a:Addr):zF zh (.pointer (some a)) 0 w K=K (oE (a.add 0)) w:=zA z80 a
theorem z60:fieldB zh 1 1=true:=rK
@[push_cast] theorem Zd0 {w:World} {K:oK} (a:Addr):zF zh (.pointer (some a)) 1 w K=K (oE (a.add 1)) w:=zA z60 a
theorem J8:fieldB ya 0 0=true:=rK
@[push_cast] theorem qj0 {w:World} {K:oK} (a:Addr):zF ya (.pointer (some a)) 0 w K=K (oE (a.add 0)) w:=zA J8 a
theorem J7:fieldB ya 1 2=true:=rK
@[push_cast] theorem qi0 {w:World} {K:oK} (a:Addr):zF ya (.pointer (some a)) 1 w K=K (oE (a.add 2)) w:=zA J7 a
theorem Vh:fieldB qF 0 0=true:=rK
@[push_cast] theorem jH0 {w:World} {K:oK} (a:Addr):zF qF (.pointer (some a)) 0 w K=K (oE (a.add 0)) w:=zA Vh a
theorem Vg:fieldB qF 1 1=true:=rK
@[push_cast] theorem jG0 {w:World} {K:oK} (a:Addr):zF qF (.pointer (some a)) 1 w K=K (oE (a.add 1)) w:=zA Vg a
theorem Qr:fieldB zz 1 2=true:=rK
@[push_cast] theorem xI0 {w:World} {K:oK} (a:Addr):zF zz (.pointer (some a)) 1 w K=K (oE (a.add 2)) w:=zA Qr a
theorem JP:fieldB yr 0 0=true:=rK
@[push_cast] theorem qK0 {w:World} {K:oK} (a:Addr):zF yr (.pointer (some a)) 0 w K=K (oE (a.add 0)) w:=zA JP a
theorem JO:fieldB yr 1 2=true:=rK
@[push_cast] theorem qJ0 {w:World} {K:oK} (a:Addr):zF yr (.pointer (some a)) 1 w K=K (oE (a.add 2)) w:=zA JO a
theorem JN:fieldB yr 2 3=true:=rK
@[push_cast] theorem qI0 {w:World} {K:oK} (a:Addr):zF yr (.pointer (some a)) 2 w K=K (oE (a.add 3)) w:=zA JN a
theorem JM:fieldB yr 3 4=true:=rK
@[push_cast] theorem qH0 {w:World} {K:oK} (a:Addr):zF yr (.pointer (some a)) 3 w K=K (oE (a.add 4)) w:=zA JM a
theorem JL:fieldB yr 4 5=true:=rK
@[push_cast] theorem qG0 {w:World} {K:oK} (a:Addr):zF yr (.pointer (some a)) 4 w K=K (oE (a.add 5)) w:=zA JL a
theorem JR:fieldB yb 0 0=true:=rK
@[push_cast] theorem qM0 {w:World} {K:oK} (a:Addr):zF yb (.pointer (some a)) 0 w K=K (oE (a.add 0)) w:=zA JR a
theorem JQ:fieldB yb 1 1=true:=rK
@[push_cast] theorem qL0 {w:World} {K:oK} (a:Addr):zF yb (.pointer (some a)) 1 w K=K (oE (a.add 1)) w:=zA JQ a
theorem Vf:fieldB yw 0 0=true:=rK
@[push_cast] theorem jF0 {w:World} {K:oK} (a:Addr):zF yw (.pointer (some a)) 0 w K=K (oE (a.add 0)) w:=zA Vf a
theorem Ve:fieldB yw 1 1=true:=rK
@[push_cast] theorem jE0 {w:World} {K:oK} (a:Addr):zF yw (.pointer (some a)) 1 w K=K (oE (a.add 1)) w:=zA Ve a
theorem Vd:fieldB yw 2 2=true:=rK
@[push_cast] theorem jD0 {w:World} {K:oK} (a:Addr):zF yw (.pointer (some a)) 2 w K=K (oE (a.add 2)) w:=zA Vd a
@[push_cast] theorem ku0 {w:World} {K:oK} (b a:Value):Zw0 zh (.agg ⟨[b,a]⟩) 1 w K=K a w:=y6 rK
noncomputable def mn_kids:String:=match P.info? 271 with|some i=>(match i.methods[0]? with|some m=>m.name|none=>default)|none=>default
noncomputable def kH:String:=match P.info? 271 with|some i=>(match i.methods[1]? with|some m=>m.name|none=>default)|none=>default
noncomputable def qL:String:=match P.info? 271 with|some i=>(match i.methods[2]? with|some m=>m.name|none=>default)|none=>default
noncomputable def Zy:String:=match P.info? 271 with|some i=>(match i.methods[3]? with|some m=>m.name|none=>default)|none=>default
theorem jS0:concB xe=true:=rK
@[push_cast] theorem YK0 {w:World} {K:oK} (v:Value):qz0 xe v w K=K (.iface xe v) w:=Z1 jS0 v
theorem xW:concB zQ=true:=rK
@[push_cast] theorem k90 {w:World} {K:oK} (v:Value):qz0 zQ v w K=K (.iface zQ v) w:=Z1 xW v
theorem XF (a b:Value) (w:World):(method (P.types.size+Made.depth) zQ (.agg ⟨[a,b]⟩) mn_kids).run P w= .ok (yg,.agg ⟨[a,b]⟩) w:=rK
theorem XE (a b:Value) (w:World):(method (P.types.size+Made.depth) zQ (.agg ⟨[a,b]⟩) kH).run P w= .ok (kP,.agg ⟨[a,b]⟩) w:=rK
theorem YS (a b:Value) (w:World):(method (P.types.size+Made.depth) zQ (.agg ⟨[a,b]⟩) qL).run P w= .ok (kq,.agg ⟨[a,b]⟩) w:=rK
theorem XD (a b:Value) (w:World):(method (P.types.size+Made.depth) zQ (.agg ⟨[a,b]⟩) Zy).run P w= .ok (yp,.agg ⟨[a,b]⟩) w:=rK
theorem qo:concB zM=true:=rK
@[push_cast] theorem jl0 {w:World} {K:oK} (v:Value):qz0 zM v w K=K (.iface zM v) w:=Z1 qo v
theorem X3 (a b:Value) (w:World):(method (P.types.size+Made.depth) zM (.agg ⟨[a,b]⟩) mn_kids).run P w= .ok (yg,.agg ⟨[a,b]⟩) w:=rK
theorem X2 (a b:Value) (w:World):(method (P.types.size+Made.depth) zM (.agg ⟨[a,b]⟩) kH).run P w= .ok (kD,.agg ⟨[a,b]⟩) w:=rK
theorem Yf (a b:Value) (w:World):(method (P.types.size+Made.depth) zM (.agg ⟨[a,b]⟩) qL).run P w= .ok (jM,.agg ⟨[a,b]⟩) w:=rK
theorem X1 (a b:Value) (w:World):(method (P.types.size+Made.depth) zM (.agg ⟨[a,b]⟩) Zy).run P w= .ok (yp,.agg ⟨[a,b]⟩) w:=rK
theorem kJ:concB zI=true:=rK
@[push_cast] theorem jk0 {w:World} {K:oK} (v:Value):qz0 zI v w K=K (.iface zI v) w:=Z1 kJ v
theorem YZ (a b:Value) (w:World):(method (P.types.size+Made.depth) zI (.agg ⟨[a,b]⟩) mn_kids).run P w= .ok (yg,.agg ⟨[a,b]⟩) w:=rK
theorem YY (a b:Value) (w:World):(method (P.types.size+Made.depth) zI (.agg ⟨[a,b]⟩) kH).run P w= .ok (kC,.agg ⟨[a,b]⟩) w:=rK
theorem Ye (a b:Value) (w:World):(method (P.types.size+Made.depth) zI (.agg ⟨[a,b]⟩) qL).run P w= .ok (jL,.agg ⟨[a,b]⟩) w:=rK
theorem YX (a b:Value) (w:World):(method (P.types.size+Made.depth) zI (.agg ⟨[a,b]⟩) Zy).run P w= .ok (yp,.agg ⟨[a,b]⟩) w:=rK
theorem yA:concB zP=true:=rK
@[push_cast] theorem ji0 {w:World} {K:oK} (v:Value):qz0 zP v w K=K (.iface zP v) w:=Z1 yA v
theorem YR (a b:Value) (w:World):(method (P.types.size+Made.depth) zP (.agg ⟨[a,b]⟩) mn_kids).run P w= .ok (yg,.agg ⟨[a,b]⟩) w:=rK
theorem YQ (a b:Value) (w:World):(method (P.types.size+Made.depth) zP (.agg ⟨[a,b]⟩) kH).run P w= .ok (kp,.agg ⟨[a,b]⟩) w:=rK
theorem Ya (a b:Value) (w:World):(method (P.types.size+Made.depth) zP (.agg ⟨[a,b]⟩) qL).run P w= .ok (jF,.agg ⟨[a,b]⟩) w:=rK
theorem yB:concB zH=true:=rK
@[push_cast] theorem qD0 {w:World} {K:oK} (v:Value):qz0 zH v w K=K (.iface zH v) w:=Z1 yB v
theorem Yc (a b:Value) (w:World):(method (P.types.size+Made.depth) zH (.agg ⟨[a,b]⟩) mn_kids).run P w= .ok (yg,.agg ⟨[a,b]⟩) w:=rK
theorem Yb (a b:Value) (w:World):(method (P.types.size+Made.depth) zH (.agg ⟨[a,b]⟩) kH).run P w= .ok (jG,.agg ⟨[a,b]⟩) w:=rK
theorem ZO (a b:Value) (w:World):(method (P.types.size+Made.depth) zH (.agg ⟨[a,b]⟩) qL).run P w= .ok (jp,.agg ⟨[a,b]⟩) w:=rK
theorem yX:concB zL=true:=rK
@[push_cast] theorem jj0 {w:World} {K:oK} (v:Value):qz0 zL v w K=K (.iface zL v) w:=Z1 yX v
theorem YW (a b:Value) (w:World):(method (P.types.size+Made.depth) zL (.agg ⟨[a,b]⟩) mn_kids).run P w= .ok (yg,.agg ⟨[a,b]⟩) w:=rK
theorem YV (a b:Value) (w:World):(method (P.types.size+Made.depth) zL (.agg ⟨[a,b]⟩) kH).run P w= .ok (kB,.agg ⟨[a,b]⟩) w:=rK
theorem Yd (a b:Value) (w:World):(method (P.types.size+Made.depth) zL (.agg ⟨[a,b]⟩) qL).run P w= .ok (jK,.agg ⟨[a,b]⟩) w:=rK
theorem YU (a b:Value) (w:World):(method (P.types.size+Made.depth) zL (.agg ⟨[a,b]⟩) Zy).run P w= .ok (yp,.agg ⟨[a,b]⟩) w:=rK
theorem xD:concB zV=true:=rK
@[push_cast] theorem ka0 {w:World} {K:oK} (v:Value):qz0 zV v w K=K (.iface zV v) w:=Z1 xD v
theorem XI (a b:Value) (w:World):(method (P.types.size+Made.depth) zV (.agg ⟨[a,b]⟩) mn_kids).run P w= .ok (yg,.agg ⟨[a,b]⟩) w:=rK
theorem XH (a b:Value) (w:World):(method (P.types.size+Made.depth) zV (.agg ⟨[a,b]⟩) kH).run P w= .ok (kQ,.agg ⟨[a,b]⟩) w:=rK
theorem YT (a b:Value) (w:World):(method (P.types.size+Made.depth) zV (.agg ⟨[a,b]⟩) qL).run P w= .ok (ky,.agg ⟨[a,b]⟩) w:=rK
theorem XG (a b:Value) (w:World):(method (P.types.size+Made.depth) zV (.agg ⟨[a,b]⟩) Zy).run P w= .ok (yp,.agg ⟨[a,b]⟩) w:=rK
theorem ZI:concB zz=true:=rK
@[push_cast] theorem qE0 {w:World} {K:oK} (v:Value):qz0 zz v w K=K (.iface zz v) w:=Z1 ZI v
theorem Yi (a b c:Value) (w:World):(method (P.types.size+Made.depth) zz (.agg ⟨[a,b,c]⟩) mn_kids).run P w= .ok (yg,.agg ⟨[a,b]⟩) w:=rK
theorem Yh (a b c:Value) (w:World):(method (P.types.size+Made.depth) zz (.agg ⟨[a,b,c]⟩) kH).run P w= .ok (jN,.agg ⟨[a,b,c]⟩) w:=rK
theorem ZP (a b c:Value) (w:World):(method (P.types.size+Made.depth) zz (.agg ⟨[a,b,c]⟩) qL).run P w= .ok (jt,.agg ⟨[a,b,c]⟩) w:=rK
theorem Yg (a b c:Value) (w:World):(method (P.types.size+Made.depth) zz (.agg ⟨[a,b,c]⟩) Zy).run P w= .ok (yp,.agg ⟨[a,b]⟩) w:=rK
theorem qp:concB zJ=true:=rK
@[push_cast] theorem jm0 {w:World} {K:oK} (v:Value):qz0 zJ v w K=K (.iface zJ v) w:=Z1 qp v
theorem X6 (a b:Value) (w:World):(method (P.types.size+Made.depth) zJ (.agg ⟨[a,b]⟩) mn_kids).run P w= .ok (yg,.agg ⟨[a,b]⟩) w:=rK
theorem X5 (a b:Value) (w:World):(method (P.types.size+Made.depth) zJ (.agg ⟨[a,b]⟩) kH).run P w= .ok (kF,.agg ⟨[a,b]⟩) w:=rK
theorem Yj (a b:Value) (w:World):(method (P.types.size+Made.depth) zJ (.agg ⟨[a,b]⟩) qL).run P w= .ok (jP,.agg ⟨[a,b]⟩) w:=rK
theorem X4 (a b:Value) (w:World):(method (P.types.size+Made.depth) zJ (.agg ⟨[a,b]⟩) Zy).run P w= .ok (yp,.agg ⟨[a,b]⟩) w:=rK
end Go.Proofs.YtfnpmncplaibiaaGreatDoor
section
namespace Go.Proofs.YtfnpmncplaibiaaGreatDoor
open Go Go.Vc Go.Proofs
open Go.ChangeShapes Go.WideShapes Go.ChangeAt Go.RowKit
theorem Y00:ownKnob P.godebug=none:=rK
theorem Xm:laidOutB P=true:=rK
def restFacts (P:Program) (f:FuncId) (fn:Func) (s:ChangeSpec) (c:OpenClaim):Bool:=
 c.wf (OpenSpec.ofChange s)&&
 fn.params.all (P.readableRec ·)&&namedTie P c.named s.vars&&
 (c.stops==[])&&(P.stops==[])&&(c.knobs==[])&&(P.stopKnobs==[])&&
 (c.maps==(fn.params.toList++s.plain.varTypes P).any (P.mapsRec ·))&&(c.ifaces==(fn.params.toList++s.plain.varTypes P).any (P.ifacesRec ·))&&(c.mapsOut==P.mapsAmong fn.resultTypes.toList)&&
 (c.loops==(fn.params.toList++s.plain.varTypes P).any (P.loopsFrom ·))&&(c.wideKeys==(fn.params.toList++s.plain.varTypes P++fn.resultTypes.toList).any (P.wideKeysFrom ·))&&
 s.vars.all (P.varReadable ·)&&fn.resultTypes.all (λt=>P.readableRec t&&decide (t<P.types.size))&&(c.ifacesOut==fn.resultTypes.toList.any (P.ifacesRec ·))&&(c.loopsOut==fn.resultTypes.toList.any (P.loopsFrom ·))&&(c.plainKeys==P.plainKeys)&&c.shortTexts.isNone&&P.stopsHeard&&P.mayEnter&&(c.lifted==P.liftsFinal)&&(P.make==some c.make)&&(c.kinds==(if c.domain.isEmpty then[] else fn.params.toList.map λt=>match P.underlying t with|some (.int k)=>some k|_=>none))&&(c.pinned==c.pinnedBy)&&
 (c.veiled==(fn.params.toList++s.plain.varTypes P++fn.resultTypes.toList).any (P.veiledRec ·))&&c.veiledFits P fn.params.toList (fn.params.toList++s.plain.varTypes P++fn.resultTypes.toList)
theorem jt0 {P:Program} {f:FuncId} {fn:Func} {s:ChangeSpec} {c:OpenClaim} (b:laidOutB P=true) (d:mapsRowed P=true) (e:(c.inPlace==P.inPlace f)=true) (g:(c.unfollowed==P.unfollowed f)=true)
  (h:(c.recurses==P.recurses f)=true) (i:(c.named==P.varsNamed f)=true) (a:restFacts P f fn s c=true):joinedFacts P f fn s c=true:=by
 unfold restFacts at a;unfold joinedFacts;rw[b,d,e,g,h,i];simp only[z0a];exact a
theorem kI0:mapsRowed P=true:=rK
theorem jI0 {w w':World} (h:Ext w w'):Below w.heap.size w w':=⟨h.os,h.tape,h.output,h.size,λk a=>h.block k a id⟩
theorem u8_wf {n:Int} (h:(Lit.int .u8 n).wf=true):0<=n/\n<256:=by
 simp only[Lit.wf,gl,gh] at h;have a:IntKind.u8.min=0:=dC
 have b:IntKind.u8.max=255:=dC
 omega
def xT0 (w:World) (v:Value) (xs:List Nat):Prop:=Vals (λ_=>True) w v (xs.map λx=>Value.int .u8 (x:Nat))/\∀x,x∈xs->x<256
theorem jT0 (w:World):xT0 w (oN) []:=⟨⟨⟨none,0,rfl,by simp,by simp,λh=>absurd rfl h⟩,by simp⟩,by simp⟩
theorem bytes_of {w:World} {x:Addr} {len cap:Nat} {zs:oI} (z:len<=cap) (hm:cap<=maxLen) (A:zs.length=cap) (a:∀i,i<zs.length->w.cell? (x.add i)=some (.int .u8 (zs.getD i 0))) (o:∀n,n∈zs->(Lit.int .u8 n).wf=true):
  xT0 w (.slice (some x) len cap) ((zs.take len).map Int.toNat):=by
 have c:∀n,n∈zs.take len->0<=n/\n<256:=λn l=>u8_wf (o n (gV l));refine⟨⟨⟨some x,cap,?_,?_,by unfold maxLen at hm;exact hm,λm=>?_⟩,λy p=>by obtain⟨u,_,rfl⟩:=gB.1 p;rfl⟩,λy p=>?_⟩
 .simp only[gd,gi];rw[GG oM]
 .simp only[gd,gi];omega
 .have hlen:0<len:=by
   refine Nat.pos_of_ne_zero λe=>m ?_;subst e;simp
  obtain⟨b,off,spot⟩:=x;have f:=a 0 oM;have d:spot=none:=(by simpa[Addr.add] using World.cell?_spot f);subst d;refine⟨b,off,rfl,trivial,World.block_lt_of_cell? w _ f,λi hi=>?_⟩;simp only[gd,gi] at hi;intro j v h;have hit:i<(zs.take len).length:=by simp only[gi];omega
  have s:((((zs.take len).map Int.toNat).map λx=>Value.int .u8 (x:Nat)).map λx=>[x]).getD i []=[Value.int .u8 (((zs.take len)[i].toNat:Nat):Int)]:=by
   simp[X0,hi]
  rw[s] at h;have t:j=0:=by
   cases j with
   |zero=>rfl
   |succ j=>simp at h
  subst t;simp only[Po,GA] at h;subst h;have g:i<zs.length:=oM;have q:=a i g;have k:=c _ (GZ hit);have r:zs.getD i 0=(zs.take len)[i]:=(by simp[X0,g]);rw[r,ym] at q;rw[PJ k.1,ym,G6,pS];exact q
 .obtain⟨n,l,rfl⟩:=gB.1 p;have:=c n l;omega
end Go.Proofs.YtfnpmncplaibiaaGreatDoor
end
end
