import Derived.Test.YtaekfnbnhjgboaaGreatDoorWueP2
import Derived.Test.YtaekfnbnhjgboaaGreatDoorWueP3
import Derived.Test.YtaekfnbnhjgboaaGreatDoorWueP4
/- A part of the proof. -/
set_option linter.unusedVariables false
set_option linter.unusedSimpArgs false
set_option linter.unnecessarySimpa false
set_option linter.unusedSectionVars false
section
namespace Go.Proofs.YtaekfnbnhjgboaaGreatDoor
open Go Go.Vc Go.Proofs
variable {w:World} {K:Value→World→Prop} {F:Nat→Prop}
abbrev kK (wd n:Int):Value:= .agg ⟨[.int .i64 wd,.int .i64 n]⟩
theorem pow4 {k:Nat} (a:1≤k) (b:k≤4):2≤2^k∧2^k≤16:=by
 rcases(by omega:k=1∨k=2∨k=3∨k=4) with rfl|rfl|rfl|rfl<;>decide
@[push_cast] theorem bd_Vec (a b:Int):zH PP zd [(0,.int .i64 a),(1,.int .i64 b)] w K=K (kK a b) w:=yh UF (us:=[[.int .i64 a],[.int .i64 b]]) rfl rfl
@[push_cast] theorem bd_VecZ:zH PP zd [] w K=K (kK 0 0) w:=yh UF (us:=[]) rfl rfl
theorem stVec {b:Nat} {x y:Value} {t:TypeId} {p q:Int} (h:Blk w b [x,y] t) (c:∀w',Same (· =b) w w'→w'.heap.size=w.heap.size→Blk w' b [.int .i64 p,.int .i64 q] t→K undef w'):zt PP zd (.pointer (some ⟨b,0,none⟩)) (kK p q) w K:=
 h.stAgg rfl (by kernel_rfl) (by intro v a;simp only[List.mem_cons,List.not_mem_nil,or_false] at a;rcases a with rfl|rfl<;>rfl) c
theorem xF0 (k:Nat):((2^k:Nat):Int)=2^k:=by simp
theorem VecOk_spec {wd n:Int} (m:∀w',Ext w w'→K (.bool (M.vok wd n)) w'):vcall PP xp #[kK wd n] w K:=by
 apply jQ0
 refine zD fun b1 r o h p j=>?_
 refine zx fun f d _=>?_
 have i:=j.ext d
 have l:=h.trans d
 simp(disch:=(simp only[push_cast];done)) only[push_cast,i.ld0,i.ld1,true_and]
 have a:=m f l
 refine zh (fun g=>?_) (fun g=>?_)
 ·refine zh (fun a2=>?_) (fun a2=>?_)
  ·refine zh (fun a3=>?_) (fun a3=>?_)
   ·obtain⟨k,rfl⟩:∃k:Nat,wd=k:=⟨wd.toNat,by omega⟩
    have q:=pow4 (k:=k) (by omega) (by omega)
    have e:zr PP .shl zb true (.int .i64 1) (.int .i64 (k:Int)) f=fun K=>K (.int .i64 (2^k:Nat)) f:=by
     funext K
     have:=vbin_shlI (P:=PP) (w:=f) (K:=K) (c:=true) (t:=zb) (yk:= .i64) (x:=1) (y:=k) (by omega) (by omega)
     rw[Nat.one_mul] at this
     exact this
    rw[e]
    simp only[push_cast,true_and]
    have b:M.vok (k:Int) n=decide (n<(2^k:Nat)):=by
     simp only[M.vok,decide_eq_true g,decide_eq_true a2,decide_eq_true a3,Bool.true_and,Int.toNat_natCast,xF0]
    rw[b,xF0] at a
    exact a
   ·have b:M.vok wd n=false:=by simp only[M.vok,decide_eq_false a3,Bool.and_false,Bool.false_and]
    rw[b] at a;exact a
  ·have b:M.vok wd n=false:=by simp only[M.vok,decide_eq_false a2,Bool.and_false,Bool.false_and]
   rw[b] at a;exact a
 ·have b:M.vok wd n=false:=by simp only[M.vok,decide_eq_false g,Bool.false_and]
  rw[b] at a;exact a
theorem cut_spec {n k:Nat} (d:n<18446744073709551616) (a:1≤k) (b:k≤4) (c:K (.int .u64 (n%2^k:Nat)) w):vcall PP Z3 #[.int .u64 n,.int .i64 k] w K:=by
 apply xc0
 have e:=pow4 a b
 rw[show(1:Int)=((1:Nat):Int) from rfl,vbin_shlU (by omega) (by omega),Nat.one_mul,VW,show((2^k:Nat):Int)-((1:Nat):Int)=((2^k-1:Nat):Int) by omega,wrapU (by omega),QK d (by omega),Nat.and_two_pow_sub_one_eq_mod]
 exact c
theorem bit_spec {n k:Nat} (f:n<18446744073709551616) (c:k<64) (b:K (.bool (decide (n/2^k%2=1))) w):vcall PP qm #[.int .u64 n,.int .i64 k] w K:=by
 apply xd0
 have d:n/2^k≤n:=Nat.div_le_self _ _
 rw[vbin_shrU c,show(1:Int)=((1:Nat):Int) from rfl,QK (by omega) (by omega),X70]
 have e:n/2^k&&&1=n/2^k%2:=Nat.and_one_is_mod _
 rw[e]
 have a:decide (((n/2^k%2:Nat):Int)=((1:Nat):Int))=decide (n/2^k%2=1):=by
  by_cases h:n/2^k%2=1
  ·rw[h];simp
  ·rw[decide_eq_false h,decide_eq_false];omega
 rw[a];exact b
theorem raw_spec {wd:Int} {n:Nat} (f:n<9223372036854775808) (c:∀w',Ext w w'→K (.int .u64 n) w'):vcall PP zK #[kK wd n] w K:=by
 apply xk0
 refine zD fun b1 g d a e b=>?_
 simp(disch:=(simp only[push_cast];done)) only[push_cast,b.ld1]
 rw[qS j60 y30,wrapU (by omega)]
 exact c _ a
theorem ones_spec {k:Nat} {n:Int} (c:1≤k) (d:k≤4) (e:∀w',Ext w w'→K (.int .u64 (2^k-1:Nat)) w'):vcall PP kq #[kK k n] w K:=by
 apply yv0
 refine zD fun b1 i f a g b=>?_
 simp(disch:=(simp only[push_cast];done)) only[push_cast,b.ld0]
 have h:=pow4 c d
 rw[show(1:Int)=((1:Nat):Int) from rfl,vbin_shlU (by omega) (by omega),Nat.one_mul,VW,show((2^k:Nat):Int)-((1:Nat):Int)=((2^k-1:Nat):Int) by omega,wrapU (by omega)]
 exact e _ a
theorem vec_spec {k n:Nat} {x:Int} (q:n<18446744073709551616) (h:1≤k) (i:k≤4) (j:∀w',Ext w w'→K (kK k (n%2^k:Nat)) w'):vcall PP jz #[kK k x,.int .u64 n] w K:=by
 apply xj0
 have z:=pow4 h i
 have hm:n%2^k<2^k:=Nat.mod_lt _ (by omega)
 refine zD fun b1 A o c r e=>?_
 refine zF yZ fun b2 B p b s f=>?_
 refine zx fun C a _=>?_
 have l:=(e.ext b).ext a
 have u:=f.ext a
 simp(disch:=(simp only[push_cast];done)) only[push_cast,l.ld0,true_and]
 refine cut_spec q h i ?_
 obtain⟨m,d⟩:∃m,m=n%2^k:=⟨_,rfl⟩
 rw[←d] at hm j⊢
 simp(disch:=(simp only[push_cast];done)) only[push_cast,l.ld0,true_and,and_self]
 rw[qS zM0 y20,wrapN (by omega)]
 simp only[push_cast,true_and]
 refine stVec u fun D g _ v=>?_
 rw[v.lv (by kernel_rfl)]
 exact j _ (Ext.then ((c.trans b).trans a) g fun y t=>by subst t;omega)
theorem strF_low {k n:Nat} (c:1≤k) (d:k≤4) (e:n<2^k):n|||((18446744073709551615-(2^k-1))&&&4294967295)=n+(4294967296-2^k):=by
 have b:∀v:Fin 5,∀a:Fin 16,1≤v.1→a.1<2^v.1→a.1|||((18446744073709551615-(2^v.1-1))&&&4294967295)=a.1+(4294967296-2^v.1):=by decide+kernel
 have f:=pow4 c d
 exact b ⟨k,by omega⟩ ⟨n,by omega⟩ c e
theorem top_bit {k n:Nat} (c:1≤k) (d:k≤4) (e:n<2^k):decide (n/2^(k-1)%2=1)=decide (¬n<2^(k-1)):=by
 have b:∀v:Fin 5,∀a:Fin 16,1≤v.1→a.1<2^v.1→decide (a.1/2^(v.1-1)%2=1)=decide (¬a.1<2^(v.1-1)):=by decide+kernel
 have f:=pow4 c d
 exact b ⟨k,by omega⟩ ⟨n,by omega⟩ c e
def Ql0 (k n:Nat):Nat:=if n<2^(k-1) then n else n+(4294967296-2^k)
theorem stretched_spec {k n:Nat} (f:1≤k) (g:k≤4) (q:n<2^k) (p:∀w',Ext w w'→K (.int .u64 (Ql0 k n:Nat)) w'):vcall PP js #[kK k n] w K:=by
 apply KB
 have z:=pow4 f g
 refine zD fun b1 A u d v i=>?_
 refine zx fun B b _=>?_
 have j:=i.ext b
 simp(disch:=(simp only[push_cast];done)) only[push_cast,j.ld0,j.ldAgg (t:=zd) zW,true_and]
 have o:IntKind.i64.wrap ((k:Int)-1)=((k-1:Nat):Int):=by rw[zy (by omega) (by omega)];omega
 rw[o]
 refine raw_spec (by omega) fun C c=>?_
 have l:=j.ext c
 simp(disch:=(simp only[push_cast];done)) only[push_cast,l.ld0,true_and,o]
 refine bit_spec (by omega) (by omega) ?_
 rw[top_bit f g q]
 refine zh (fun m=>?_) (fun m=>?_)
 ·refine zx fun D e _=>?_
  have r:=l.ext e
  simp(disch:=(simp only[push_cast];done)) only[push_cast,r.ldAgg (t:=zd) zW,true_and]
  refine raw_spec (by omega) fun s a=>?_
  have x:=r.ext a
  simp(disch:=(simp only[push_cast];done)) only[push_cast,x.ldAgg (t:=zd) zW,true_and]
  refine ones_spec f g fun y h=>?_
  rw[vun_xorU (by omega)]
  refine⟨rfl,?_⟩
  rw[show(4294967295:Int)=((4294967295:Nat):Int) from rfl,QK (by omega) (by omega)]
  refine⟨rfl,?_⟩
  have hle:(18446744073709551615-(2^k-1))&&&4294967295≤4294967295:=Nat.and_le_right
  rw[kz0 (by omega) (by omega)]
  refine⟨rfl,?_⟩
  have:=p y (((((d.trans b).trans c).trans e).trans a).trans h)
  unfold Ql0 at this
  rw[if_neg m] at this
  rw[strF_low f g q]
  exact this
 ·simp(disch:=(simp only[push_cast];done)) only[push_cast,l.ldAgg (t:=zd) zW,true_and]
  refine raw_spec (by omega) fun s a=>?_
  have:=p s (((d.trans b).trans c).trans a)
  unfold Ql0 at this
  rw[if_pos (by omega)] at this
  exact this
theorem pre2 {k a b:Nat} (D:a<16) (E:b<16) {X:Value→Value→World→Prop} (s:∀w',Ext w w'→X (.int .u64 a) (.int .u64 b) w'):
  yG PP zd (kK k a) w fun t2 m=>
  yG PP zd (kK k b) m fun t3 n=>
  y4 n fun c=>
  zf PP zd t2 c fun t5 o=>o=c∧
  zf PP zd t3 c fun t7 p=>p=c∧
  vcall PP zK #[t5] c fun t6 e=>(zf PP zd t3 e fun v x=>v=t7∧x=e)∧
  vcall PP zK #[t7] e fun t8 q=>X t6 t8 q:=by
 refine zD fun b1 F u h z j=>?_
 refine zD fun b2 G y f A l=>?_
 refine zx fun H d _=>?_
 have B:=(j.ext f).ext d
 have r:=l.ext d
 simp(disch:=(simp only[push_cast];done)) only[push_cast,B.ldAgg (t:=zd) zW,r.ldAgg (t:=zd) zW,true_and]
 refine raw_spec (by omega) fun I g=>?_
 have C:=r.ext g
 simp(disch:=(simp only[push_cast];done)) only[push_cast,C.ldAgg (t:=zd) zW,true_and,and_self]
 refine raw_spec (by omega) fun J i=>?_
 exact s _ ((((h.trans f).trans d).trans g).trans i)
theorem pow16 {k a:Nat} (b:k≤4) (c:a<2^k):a<16:=by
 have:2^k≤2^4:=Nat.pow_le_pow_right (by omega) b
 omega
def OpR (K:Value→World→Prop) (w:World) (op k a b:Nat):Prop:=∀w' (r:Nat),Ext w w'→r<18446744073709551616→r%2^k=M.binN op k a b→K (.int .u64 r) w'
theorem bin_ck {f:Nat→Nat→Nat→Nat} {op:Nat} (h:∀v:Fin 5,(List.range 16).all (fun a=>(List.range 16).all fun b=> !(decide (1≤v.1)&&decide (a<2^v.1)&&decide (b<2^v.1))||decide (f v.1 a b%2^v.1=M.binN op v.1 a b))=true) {k a b:Nat} (g:1≤k) (c:k≤4) (d:a<2^k) (e:b<2^k):f k a b%2^k=M.binN op k a b:=by
 have:=h ⟨k,by omega⟩
 simp only[List.all_eq_true,List.mem_range,Bool.or_eq_true,Bool.not_eq_true',Bool.and_eq_false_iff,decide_eq_false_iff_not,decide_eq_true_eq] at this
 rcases this a (pow16 c d) b (pow16 c e) with(⟨h|h⟩|h)|h
 ·exact absurd g h
 ·exact absurd d h
 ·exact absurd e h
 ·exact h
theorem mul225 {a b:Nat} (c:a<16) (d:b<16):a*b≤225:=by
 have:=Nat.mul_le_mul (show a≤15 by omega) (show b≤15 by omega)
 omega
theorem shl_small {a b:Nat} (d:a<16) (e:b<16):a*2^b≤524288:=by
 have c:2^b≤2^15:=Nat.pow_le_pow_right (by omega) (by omega)
 have:=Nat.mul_le_mul (show a≤15 by omega) c
 omega
theorem strN_lt {k n:Nat} (a:1≤k) (b:k≤4) (c:n<2^k):Ql0 k n<4294967296:=by
 have:=pow4 a b
 unfold Ql0;split<;>omega
theorem binaries_1_spec {k a b:Nat} (g:1≤k) (e:k≤4) (h:a<2^k) (i:b<2^k) (j:OpR K w 3 k a b):vcall PP xf #[kK k a,kK k b] w K:=by
 have c:=pow16 e h
 have d:=pow16 e i
 have l:=pow4 g e
 apply UE
 refine pre2 c d fun m he=>?_
 rw[QK (by omega) (by omega)]
 exact⟨rfl,j _ _ he (Nat.lt_of_le_of_lt Nat.and_le_left (by omega)) (bin_ck (f:=fun k a b=>a&&&b) (by decide+kernel) g e h i)⟩
theorem binaries_2_spec {k a b:Nat} (g:1≤k) (e:k≤4) (h:a<2^k) (i:b<2^k) (j:OpR K w 4 k a b):vcall PP xe #[kK k a,kK k b] w K:=by
 have c:=pow16 e h
 have d:=pow16 e i
 have l:=pow4 g e
 apply UD
 refine pre2 c d fun m he=>?_
 rw[kz0 (by omega) (by omega)]
 exact⟨rfl,j _ _ he (Nat.lt_trans (Nat.or_lt_two_pow (n:=4) c d) (by decide)) (bin_ck (f:=fun k a b=>a|||b) (by decide+kernel) g e h i)⟩
theorem binaries_3_spec {k a b:Nat} (g:1≤k) (e:k≤4) (h:a<2^k) (i:b<2^k) (j:OpR K w 5 k a b):vcall PP xd #[kK k a,kK k b] w K:=by
 have c:=pow16 e h
 have d:=pow16 e i
 have l:=pow4 g e
 apply UC
 refine pre2 c d fun m he=>?_
 rw[ZJ0 (by omega) (by omega)]
 exact⟨rfl,j _ _ he (Nat.lt_trans (Nat.xor_lt_two_pow (n:=4) c d) (by decide)) (bin_ck (f:=fun k a b=>a^^^b) (by decide+kernel) g e h i)⟩
theorem binaries_4_spec {k a b:Nat} (g:1≤k) (e:k≤4) (h:a<2^k) (i:b<2^k) (j:OpR K w 6 k a b):vcall PP xc #[kK k a,kK k b] w K:=by
 have c:=pow16 e h
 have d:=pow16 e i
 have l:=pow4 g e
 apply UB
 refine pre2 c d fun m he=>?_
 rw[kB0,show(a:Int)+(b:Int)=((a+b:Nat):Int) by omega,wrapU (by omega)]
 exact⟨rfl,j _ _ he (by omega) (bin_ck (f:=fun k a b=>a+b) (by decide+kernel) g e h i)⟩
theorem binaries_5_spec {k a b:Nat} (h:1≤k) (g:k≤4) (i:a<2^k) (j:b<2^k) (l:OpR K w 7 k a b):vcall PP xb #[kK k a,kK k b] w K:=by
 have c:=pow16 g i
 have d:=pow16 g j
 have m:=pow4 h g
 apply UA
 refine pre2 c d fun n he=>?_
 have e:IntKind.u64.wrap ((a:Int)-(b:Int))=((if b≤a then a-b else 18446744073709551616+a-b:Nat):Int):=by
  simp only[IntKind.wrap,IntKind.bits,IntKind.signed,Bool.false_and,Bool.false_eq_true,if_false]
  split<;>omega
 rw[VW,e]
 exact⟨rfl,l _ _ he (by split<;>omega) (bin_ck (f:=fun k a b=>if b≤a then a-b else 18446744073709551616+a-b) (by decide+kernel) h g i j)⟩
theorem binaries_6_spec {k a b:Nat} (g:1≤k) (e:k≤4) (h:a<2^k) (i:b<2^k) (j:OpR K w 8 k a b):vcall PP xa #[kK k a,kK k b] w K:=by
 have c:=pow16 e h
 have d:=pow16 e i
 have l:=pow4 g e
 apply Uz
 refine pre2 c d fun m he=>?_
 have hm:=mul225 c d
 rw[kA0,show(a:Int)*(b:Int)=((a*b:Nat):Int) by simp,wrapU (by omega)]
 exact⟨rfl,j _ _ he (by omega) (bin_ck (f:=fun k a b=>a*b) (by decide+kernel) g e h i)⟩
theorem binaries_7_spec {k a b:Nat} (l:1≤k) (h:k≤4) (s:a<2^k) (u:b<2^k) (m:OpR K w 9 k a b):vcall PP x8 #[kK k a,kK k b] w K:=by
 have n:=pow16 h s
 have o:=pow16 h u
 have E:=pow4 l h
 apply Uy
 refine zD fun b1 F v e y j=>?_
 refine zD fun b2 G x d z g=>?_
 have p:=j.ext d
 simp(disch:=(simp only[push_cast];done)) only[push_cast,g.ld1]
 refine zh (fun r=>?_) (fun r=>?_)
 ·simp(disch:=(simp only[push_cast];done)) only[push_cast,p.ldAgg (t:=zd) zW]
  refine ones_spec l h fun C c=>m _ _ ((e.trans d).trans c) (by omega) ?_
  have:b=0:=by omega
  subst this
  rw[Nat.mod_eq_of_lt (by omega)]
  simp[M.binN]
 ·refine zx fun C c _=>?_
  have A:=p.ext c
  have q:=g.ext c
  simp(disch:=(simp only[push_cast];done)) only[push_cast,A.ldAgg (t:=zd) zW,q.ldAgg (t:=zd) zW,true_and]
  refine raw_spec (by omega) fun H f=>?_
  have B:=q.ext f
  simp(disch:=(simp only[push_cast];done)) only[push_cast,B.ldAgg (t:=zd) zW,true_and,and_self]
  refine raw_spec (by omega) fun I i=>?_
  have D:a/b≤a:=Nat.div_le_self _ _
  rw[zx0 (by omega),show(a:Int).tdiv (b:Int)=((a/b:Nat):Int) from rfl,wrapU (by omega)]
  refine⟨rfl,m _ _ ((((e.trans d).trans c).trans f).trans i) (by omega) ?_⟩
  rw[Nat.mod_eq_of_lt (by omega)]
  simp[M.binN,show b≠0 by omega]
theorem binaries_8_spec {k a b:Nat} (r:1≤k) (h:k≤4) (s:a<2^k) (u:b<2^k) (l:OpR K w 10 k a b):vcall PP x7 #[kK k a,kK k b] w K:=by
 have m:=pow16 h s
 have n:=pow16 h u
 have E:=pow4 r h
 apply Ux
 refine zD fun b1 F v e y j=>?_
 refine zD fun b2 G x d z g=>?_
 have o:=j.ext d
 simp(disch:=(simp only[push_cast];done)) only[push_cast,g.ld1]
 refine zh (fun q=>?_) (fun q=>?_)
 ·simp(disch:=(simp only[push_cast];done)) only[push_cast,o.ldAgg (t:=zd) zW]
  refine raw_spec (by omega) fun C c=>l _ _ ((e.trans d).trans c) (by omega) ?_
  have:b=0:=by omega
  subst this
  rw[Nat.mod_eq_of_lt (by omega)]
  simp[M.binN]
 ·refine zx fun C c _=>?_
  have A:=o.ext c
  have p:=g.ext c
  simp(disch:=(simp only[push_cast];done)) only[push_cast,A.ldAgg (t:=zd) zW,p.ldAgg (t:=zd) zW,true_and]
  refine raw_spec (by omega) fun H f=>?_
  have B:=p.ext f
  simp(disch:=(simp only[push_cast];done)) only[push_cast,B.ldAgg (t:=zd) zW,true_and,and_self]
  refine raw_spec (by omega) fun I i=>?_
  have D:a%b≤a:=Nat.mod_le _ _
  rw[YD (by omega),show(a:Int).tmod (b:Int)=((a%b:Nat):Int) from rfl]
  refine⟨rfl,l _ _ ((((e.trans d).trans c).trans f).trans i) (by omega) ?_⟩
  rw[Nat.mod_eq_of_lt (by omega)]
  simp[M.binN,show b≠0 by omega]
theorem binaries_9_spec {k a b:Nat} (g:1≤k) (e:k≤4) (h:a<2^k) (i:b<2^k) (j:OpR K w 11 k a b):vcall PP x6 #[kK k a,kK k b] w K:=by
 have c:=pow16 e h
 have d:=pow16 e i
 have l:=pow4 g e
 apply Uw
 refine pre2 c d fun m he=>?_
 have hm:=shl_small c d
 rw[vbin_shlU (by omega) (by omega)]
 exact⟨rfl,j _ _ he (by omega) (bin_ck (f:=fun k a b=>a*2^b) (by decide+kernel) g e h i)⟩
theorem binaries_10_spec {k a b:Nat} (g:1≤k) (e:k≤4) (h:a<2^k) (i:b<2^k) (j:OpR K w 12 k a b):vcall PP yT #[kK k a,kK k b] w K:=by
 have c:=pow16 e h
 have d:=pow16 e i
 have l:=pow4 g e
 apply Wr
 refine pre2 c d fun m he=>?_
 have hm:=Nat.div_le_self a (2^b)
 rw[vbin_shrU (by omega)]
 exact⟨rfl,j _ _ he (by omega) (bin_ck (f:=fun k a b=>a/2^b) (by decide+kernel) g e h i)⟩
theorem binaries_11_spec {k a b:Nat} (h:1≤k) (d:k≤4) (i:a<2^k) (p:b<2^k) (s:OpR K w 13 k a b):vcall PP yS #[kK k a,kK k b] w K:=by
 have o:=pow16 d i
 have q:=pow16 d p
 have B:=pow4 h d
 apply Wq
 refine zD fun b1 C u j x m=>?_
 refine zD fun b2 D v e y n=>?_
 refine zx fun E c _=>?_
 have z:=(m.ext e).ext c
 have r:=n.ext c
 simp(disch:=(simp only[push_cast];done)) only[push_cast,z.ldAgg (t:=zd) zW,r.ldAgg (t:=zd) zW,true_and]
 refine stretched_spec h d i fun F g=>?_
 have A:=r.ext g
 simp(disch:=(simp only[push_cast];done)) only[push_cast,A.ldAgg (t:=zd) zW,true_and,and_self]
 refine raw_spec (by omega) fun G l=>?_
 have hs:=strN_lt h d i
 have hm:=Nat.div_le_self (Ql0 k a) (2^b)
 rw[vbin_shrU (by omega)]
 exact⟨rfl,s _ _ ((((j.trans e).trans c).trans g).trans l) (by omega) (bin_ck (f:=fun k a b=>Ql0 k a/2^b) (by decide+kernel) h d i p)⟩
end Go.Proofs.YtaekfnbnhjgboaaGreatDoor
end
section
namespace Go.Proofs.YtaekfnbnhjgboaaGreatDoor
open Go Go.Vc Go.Proofs
variable {w:World} {K:Value→World→Prop} {F:Nat→Prop}
theorem VecSigned_spec {wd n:Int} (h:∀w',Ext w w'→K (.int .i64 (if M.vok wd n=true then M.sgn wd n else 0)) w'):vcall PP jB #[kK wd n] w K:=by
 apply zv0
 refine zD fun b1 F x c y m=>?_
 simp(disch:=(simp only[push_cast];done)) only[push_cast,m.ldAgg (t:=zd) zW]
 refine VecOk_spec fun A b=>?_
 have u:=m.ext b
 simp only[push_cast]
 refine y9 (fun g=>?_) (fun g=>?_)
 ·have:=h A (c.trans b)
  rwa[if_neg (by simpa using g)] at this
 ·rw[Bool.not_eq_false'] at g
  rw[if_pos g] at h
  obtain⟨k,a,rfl,rfl,q,r,v⟩:=M.vok_nat g
  have D:=pow4 q r
  refine zx fun G d _=>?_
  have i:=u.ext d
  have l:IntKind.i64.wrap ((k:Int)-1)=((k-1:Nat):Int):=by rw[zy (by omega) (by omega)];omega
  simp(disch:=(simp only[push_cast];done)) only[push_cast,i.ldAgg (t:=zd) zW,i.ld0,true_and,l]
  refine raw_spec (by omega) fun B e=>?_
  have j:=i.ext e
  simp(disch:=(simp only[push_cast];done)) only[push_cast,j.ld0,true_and,l,and_self]
  refine bit_spec (by omega) (by omega) ?_
  rw[top_bit q r v]
  have z:=(xF0 k).symm
  have p:(2:Int)^((k:Int).toNat-1)=((2^(k-1):Nat):Int):=by simp
  have E:2^(k-1)<2^k:=Nat.pow_lt_pow_right (by omega) (by omega)
  refine zh (fun s=>?_) (fun s=>?_)
  ·refine zx fun C f _=>?_
   have o:=j.ext f
   simp(disch:=(simp only[push_cast];done)) only[push_cast,o.ld0,o.ld1,true_and]
   rw[show(1:Int)=((1:Nat):Int) from rfl,vbin_shlI (by omega) (by omega),Nat.one_mul]
   refine⟨rfl,?_⟩
   rw[VW,zy (by omega) (by omega)]
   refine⟨rfl,?_⟩
   have:=h C ((((c.trans b).trans d).trans e).trans f)
   unfold M.sgn at this
   rw[if_neg (by rw[p];omega),Int.toNat_natCast,z] at this
   exact this
  ·simp(disch:=(simp only[push_cast];done)) only[push_cast,j.ld1]
   have:=h B (((c.trans b).trans d).trans e)
   unfold M.sgn at this
   rw[if_pos (by rw[p];omega)] at this
   exact this
theorem VecUn_spec {op wd n:Int} (p:∀w',Ext w w'→K (.tuple #[kK (M.vecUn op wd n).1.1 (M.vecUn op wd n).1.2,.bool (M.vecUn op wd n).2]) w'):vcall PP YI #[.int .i64 op,kK wd n] w K:=by
 apply jP0
 refine zD fun b1 R H q J F=>?_
 refine zF yZ fun b2 S I r L g2=>?_
 have B:=F.ext r
 simp(disch:=(simp only[push_cast];done)) only[push_cast,B.ldAgg (t:=zd) zW]
 refine VecOk_spec fun O i=>?_
 have C:=B.ext i
 have g3:=g2.ext i
 have G:=(q.trans r).trans i
 have d:∀g v,Ext O g→Same (· =b2) g v→Ext w v:=fun g v h E=>Ext.then (G.trans h) E fun y N=>by subst N;have:=q.size;omega
 simp only[push_cast]
 unfold M.vecUn at p
 refine y9 (fun j=>?_) (fun j=>?_)
 ·refine stVec g3 fun g l _ g4=>?_
  rw[g4.lv (by kernel_rfl)]
  have:=p g (d _ _ (Same.refl _ _) l)
  rwa[if_neg (by simp at j;simp[j])] at this
 ·rw[Bool.not_eq_false'] at j
  obtain⟨k,a,rfl,rfl,s,u,D⟩:=M.vok_nat j
  have Q:=pow4 s u
  refine zh (fun x=>?_) (fun x=>?_)
  ·subst x
   refine zx fun g b _=>?_
   have o:=C.ext b
   simp(disch:=(simp only[push_cast];done)) only[push_cast,o.ldAgg (t:=zd) zW,true_and]
   refine raw_spec (by omega) fun v c=>?_
   have z:=o.ext c
   have g5:=(g3.ext b).ext c
   simp(disch:=(simp only[push_cast];done)) only[push_cast,z.ldAgg (t:=zd) zW,true_and,and_self]
   rw[vun_xorU (by omega)]
   refine⟨rfl,vec_spec (by omega) s u fun P f=>?_⟩
   refine stVec (g5.ext f) fun A m _ g7=>?_
   rw[g7.lv (by kernel_rfl)]
   have:=p A (d _ _ ((b.trans c).trans f) m)
   rw[if_pos ⟨j,.inl rfl⟩,M.unM_not s u D] at this
   exact this
  refine zh (fun a2=>?_) (fun a2=>?_)
  ·subst a2
   refine zx fun g b _=>?_
   have o:=C.ext b
   simp(disch:=(simp only[push_cast];done)) only[push_cast,o.ldAgg (t:=zd) zW,true_and]
   refine raw_spec (by omega) fun v c=>?_
   have z:=o.ext c
   have g5:=(g3.ext b).ext c
   have e:IntKind.u64.wrap (0-(a:Int))=((if a=0 then 0 else 18446744073709551616-a:Nat):Int):=by
    simp only[IntKind.wrap,IntKind.bits,IntKind.signed,Bool.false_and,Bool.false_eq_true,if_false]
    split<;>omega
   simp(disch:=(simp only[push_cast];done)) only[push_cast,z.ldAgg (t:=zd) zW,true_and,and_self]
   rw[e]
   refine vec_spec (by split<;>omega) s u fun P f=>?_
   refine stVec (g5.ext f) fun A m _ g7=>?_
   rw[g7.lv (by kernel_rfl)]
   have:=p A (d _ _ ((b.trans c).trans f) m)
   rw[if_pos ⟨j,.inr rfl⟩,M.unM_neg s u D] at this
   exact this
  ·refine stVec g3 fun g l _ g4=>?_
   rw[g4.lv (by kernel_rfl)]
   have:=p g (d _ _ (Same.refl _ _) l)
   rwa[if_neg (fun h=>h.2.elim x a2)] at this
theorem binaries_spec (g:∀w',Ext w w'→K (.agg ⟨[.nilFunc,.nilFunc,.nilFunc,.func (.func xf) #[] #[],.func (.func xe) #[] #[],.func (.func xd) #[] #[],.func (.func xc) #[] #[],.func (.func xb) #[] #[],.func (.func xa) #[] #[],.func (.func x8) #[] #[],.func (.func x7) #[] #[],.func (.func x6) #[] #[],.func (.func yT) #[] #[],.func (.func yS) #[] #[]]⟩) w'):vcall PP Y6 #[] w K:=by
 apply yu0
 have k:yP PP y2 (.agg ⟨[.nilFunc,.nilFunc,.nilFunc,.nilFunc,.nilFunc,.nilFunc,.nilFunc,.nilFunc,.nilFunc,.nilFunc,.nilFunc,.nilFunc,.nilFunc,.nilFunc]⟩):=by unfold yP;kernel_rfl
 refine zF k fun b1 d h a i e=>?_
 refine⟨_,d,run_build (P:=PP) d _ _ ⟨[.nilFunc,.nilFunc,.nilFunc,.func (.func xf) #[] #[],.func (.func xe) #[] #[],.func (.func xd) #[] #[],.func (.func xc) #[] #[],.func (.func xb) #[] #[],.func (.func xa) #[] #[],.func (.func x8) #[] #[],.func (.func x7) #[] #[],.func (.func x6) #[] #[],.func (.func yT) #[] #[],.func (.func yS) #[] #[]]⟩ (by kernel_rfl),?_⟩
 refine e.stAgg rfl (by kernel_rfl) (by intro v c;simp only[List.mem_cons,List.not_mem_nil,or_false] at c;rcases c with rfl|rfl|rfl|rfl|rfl|rfl|rfl|rfl|rfl|rfl|rfl|rfl|rfl|rfl<;>rfl) fun l b _ f=>?_
 rw[f.lv (by kernel_rfl)]
 exact g _ (Ext.then a b fun y j=>by subst j;omega)
theorem bin_all {op k a b:Nat} (j:3≤op) (i:op≤13) (g:1≤k) (h:k≤4) (e:a<2^k) (f:b<2^k) {K:Value→World→Prop} {w w0:World} (hw:w0=w) (c:OpR K w op k a b) {N:Value→World→Prop}
  (d:∀x,vcallv PP x #[kK k a,kK k b] w K→N x w):
  xz0 PP y2 (.agg ⟨[.nilFunc,.nilFunc,.nilFunc,.func (.func xf) #[] #[],.func (.func xe) #[] #[],.func (.func xd) #[] #[],.func (.func xc) #[] #[],.func (.func xb) #[] #[],.func (.func xa) #[] #[],.func (.func x8) #[] #[],.func (.func x7) #[] #[],.func (.func x6) #[] #[],.func (.func yT) #[] #[],.func (.func yS) #[] #[]]⟩) (.int .i64 op) w N:=by
 rcases(by omega:op=3∨op=4∨op=5∨op=6∨op=7∨op=8∨op=9∨op=10∨op=11∨op=12∨op=13) with rfl|rfl|rfl|rfl|rfl|rfl|rfl|rfl|rfl|rfl|rfl
 ·exact⟨.func (.func xf) #[] #[],w,by kernel_rfl,d (.func (.func xf) #[] #[]) (binaries_1_spec g h e f c)⟩
 ·exact⟨.func (.func xe) #[] #[],w,by kernel_rfl,d (.func (.func xe) #[] #[]) (binaries_2_spec g h e f c)⟩
 ·exact⟨.func (.func xd) #[] #[],w,by kernel_rfl,d (.func (.func xd) #[] #[]) (binaries_3_spec g h e f c)⟩
 ·exact⟨.func (.func xc) #[] #[],w,by kernel_rfl,d (.func (.func xc) #[] #[]) (binaries_4_spec g h e f c)⟩
 ·exact⟨.func (.func xb) #[] #[],w,by kernel_rfl,d (.func (.func xb) #[] #[]) (binaries_5_spec g h e f c)⟩
 ·exact⟨.func (.func xa) #[] #[],w,by kernel_rfl,d (.func (.func xa) #[] #[]) (binaries_6_spec g h e f c)⟩
 ·exact⟨.func (.func x8) #[] #[],w,by kernel_rfl,d (.func (.func x8) #[] #[]) (binaries_7_spec g h e f c)⟩
 ·exact⟨.func (.func x7) #[] #[],w,by kernel_rfl,d (.func (.func x7) #[] #[]) (binaries_8_spec g h e f c)⟩
 ·exact⟨.func (.func x6) #[] #[],w,by kernel_rfl,d (.func (.func x6) #[] #[]) (binaries_9_spec g h e f c)⟩
 ·exact⟨.func (.func yT) #[] #[],w,by kernel_rfl,d (.func (.func yT) #[] #[]) (binaries_10_spec g h e f c)⟩
 ·exact⟨.func (.func yS) #[] #[],w,by kernel_rfl,d (.func (.func yS) #[] #[]) (binaries_11_spec g h e f c)⟩
theorem VecBin_spec {op wd n v m:Int} (D:∀w',Ext w w'→K (.tuple #[kK (M.vecBin op wd n v m).1.1 (M.vecBin op wd n v m).1.2,.bool (M.vecBin op wd n v m).2]) w'):vcall PP jh #[.int .i64 op,kK wd n,kK v m] w K:=by
 apply qU0
 refine zD fun b1 w1 a9 L ad h1=>?_
 refine zD fun b2 w2 aa E ae g2=>?_
 refine zF yZ fun b3 U ab F af r3=>?_
 have hE:=(L.trans E).trans F
 have ah:=L.size
 have ai:=E.size
 have h3:=(h1.ext E).ext F
 have g3:=g2.ext F
 have B:∀s A,Ext U s→Same (· =b3) s A→Ext w A:=fun s A h h'=>Ext.then (hE.trans h) h' fun y hy=>by subst hy;omega
 have d:(M.vecBin op wd n v m)=((0,0),false)→∀s,Ext U s→zt PP zd (.pointer (some ⟨b3,0,none⟩)) (kK 0 0) s fun _ A=>vlv PP zd (.pointer (some ⟨b3,0,none⟩)) A fun r w6=>K (.tuple #[r,.bool false]) w6:=by
  intro e s c
  refine stVec (r3.ext c) fun A a5 _ T=>?_
  rw[T.lv (by kernel_rfl)]
  have:=D A (B _ _ c a5)
  rwa[e] at this
 refine zV (fun u s=>u=[]∧Ext U s∧M.vok wd n=true∧M.vok v m=true) (fun C Z=>?_) ?_
 ·simp(disch:=(simp only[push_cast];done)) only[push_cast,h3.ldAgg (t:=zd) zW]
  refine VecOk_spec fun s c=>?_
  have g4:=g3.ext c
  simp only[push_cast]
  refine y9 (fun R=>d ?_ _ c) (fun R=>?_)
  ·unfold M.vecBin;rw[if_neg (by simp at R;simp[R])]
  ·simp(disch:=(simp only[push_cast];done)) only[push_cast,g4.ldAgg (t:=zd) zW]
   refine VecOk_spec fun A i=>?_
   simp only[push_cast]
   refine y9 (fun p=>d ?_ _ (c.trans i)) (fun p=>?_)
   ·unfold M.vecBin;rw[if_neg (by simp at p;simp[p])]
   ·exact Z _ _ ⟨rfl,c.trans i,by simpa using R,by simpa using p⟩
 ·rintro u g s ⟨rfl,c,O,p⟩
  have X:=h3.ext c
  have g4:=g3.ext c
  have r4:=r3.ext c
  obtain⟨k,a,rfl,rfl,k1,k4,ha⟩:=M.vok_nat O
  obtain⟨l,b,rfl,rfl,l1,S,hb⟩:=M.vok_nat p
  have I:=pow16 k4 ha
  have a8:=pow16 S hb
  unfold M.vecBin at D d
  rw[if_pos ⟨O,p⟩] at D d
  simp only[push_cast]
  refine zh (fun V=>?_) (fun V=>?_)
  ·rw[if_pos V] at D d
   refine zx fun A i _=>?_
   have Y:=X.ext i
   have g5:=g4.ext i
   have T:=r4.ext i
   have hm:a*2^l≤524288:=shl_small I (by omega)
   have e1:IntKind.i64.wrap ((k:Int)+(l:Int))=((k+l:Nat):Int):=by rw[zy (by omega) (by omega)];omega
   have eS:∀(w:World) (K:Value→World→Prop),zr PP .shl zb false (.int .i64 (a:Int)) (.int .i64 (l:Int)) w K=K (.int .i64 (a*2^l:Nat)) w:=fun w K=>vbin_shlI (by omega) (by omega)
   have eO:∀(w:World) (K:Value→World→Prop),zr PP .or zb false (.int .i64 ((a*2^l:Nat):Int)) (.int .i64 (b:Int)) w K=K (.int .i64 (a*2^l|||b:Nat)) w:=fun w K=>vbin_orI (by omega) (by omega)
   have eC:=M.cat_or S k4 ha hb
   obtain⟨q,hq⟩:∃q,q=a*2^l:=⟨_,rfl⟩
   obtain⟨z,hz⟩:∃z,z=q|||b:=⟨_,rfl⟩
   rw[←hq] at eS eO eC
   rw[←hz] at eO eC
   simp(disch:=(simp only[push_cast];done)) only[push_cast,Y.ld0,Y.ld1,g5.ld0,g5.ld1,true_and,e1,eS,eO]
   refine zF yZ fun b4 w6 ac f ag p6=>?_
   have H:=Y.ext f
   have g6:=g5.ext f
   have r6:=T.ext f
   simp(disch:=(simp only[push_cast];done)) only[push_cast,H.ld0,H.ld1,g6.ld0,g6.ld1,true_and,e1,eS,eO,and_self]
   refine stVec p6 fun w7 Q _ p7=>?_
   have J:b3≠b4:=by have:=T.lt;omega
   have r7:=r6.same Q J
   have j:Ext U w7:=Ext.then ((c.trans i).trans f) Q fun y hy=>by subst hy;have:=(c.trans i).size;omega
   simp(disch:=(simp only[push_cast];done)) only[push_cast,p7.ld0]
   refine zh (fun a2=>d ?_ _ j) (fun a2=>?_)
   ·rw[if_neg (by omega)]
   ·simp(disch:=(simp only[push_cast];done)) only[push_cast,p7.ldAgg (t:=zd) zW]
    refine stVec r7 fun w8 a6 _ r8=>?_
    rw[r8.lv (by kernel_rfl)]
    have:=D w8 (B _ _ j a6)
    rw[if_pos (by omega),←eC] at this
    exact this
  ·rw[if_neg V] at D d
   refine zV (fun u A=>u=[]∧A=s∧3≤op∧op≤13∧(k:Int)=l) (fun C Z=>?_) ?_
   ·refine zh (fun a2=>d (by rw[if_neg (by omega)]) _ c) (fun a2=>?_)
    refine zh (fun a3=>d (by rw[if_neg (by omega)]) _ c) (fun a3=>?_)
    simp(disch:=(simp only[push_cast];done)) only[push_cast,X.ld0,g4.ld0]
    refine zh (fun a4=>d (by rw[if_neg (by omega)]) _ c) (fun a4=>?_)
    exact Z _ _ ⟨rfl,rfl,by omega,by omega,by omega⟩
   ·rintro u g A ⟨rfl,rfl,c3,W,ckl⟩
    have:l=k:=by omega
    subst this
    refine zx fun w6 f _=>?_
    have H:=X.ext f
    have g6:=g4.ext f
    simp(disch:=(simp only[push_cast];done)) only[push_cast,H.ldAgg (t:=zd) zW,g6.ldAgg (t:=zd) zW,true_and]
    refine binaries_spec fun w7 j=>?_
    have h7:=H.ext j
    have g7:=g6.ext j
    simp(disch:=(simp only[push_cast];done)) only[push_cast,h7.ldAgg (t:=zd) zW,g7.ldAgg (t:=zd) zW,true_and,and_self]
    obtain⟨o,rfl⟩:∃o:Nat,op=o:=⟨op.toNat,by omega⟩
    refine bin_all (by omega) (by omega) l1 S ha hb rfl ?_ fun x hx=>⟨rfl,hx⟩
    intro w8 r G hr a0
    have h8:=h7.ext G
    simp(disch:=(simp only[push_cast];done)) only[push_cast,h8.ldAgg (t:=zd) zW,true_and,and_self]
    refine vec_spec hr l1 S fun w9 N=>?_
    have r9:=(((r4.ext f).ext j).ext G).ext N
    refine stVec r9 fun w10 P _ a7=>?_
    rw[a7.lv (by kernel_rfl)]
    have:=D w10 (B _ _ ((((c.trans f).trans j).trans G).trans N) P)
    rw[if_pos ⟨c3,W,rfl⟩] at this
    rw[a0]
    exact this
theorem eqVec {a b c d:Int} {t:Bool}:zr PP .eql zd t (kK a b) (kK c d) w K=K (.bool (decide (a=c∧b=d))) w:=by
 refine yJ (run_eqGuard_agg w _ _ _ _ _ _ (by kernel_rfl)) ?_
 have i:(PP.fieldsOf zd).toList=[(PP.fieldsOf zd).getD 0 default,(PP.fieldsOf zd).getD 1 default]:=by kernel_rfl
 have g:((PP.fieldsOf zd).getD 0 default).name≠ "_" :=by decide+kernel
 have h:((PP.fieldsOf zd).getD 1 default).name≠ "_" :=by decide+kernel
 have i0:PP.underlying ((PP.fieldsOf zd).getD 0 default).type=some (.int .i64):=by kernel_rfl
 have i1:PP.underlying ((PP.fieldsOf zd).getD 1 default).type=some (.int .i64):=by kernel_rfl
 have p0:∀x y:Value,(part ((PP.fieldsOf zd).getD 0 default).type ⟨[x,y]⟩ ((PP.fieldsOf zd).getD 0 default).offset).run PP w= .ok x w:=fun x y=>by kernel_rfl
 have p1:∀x y:Value,(part ((PP.fieldsOf zd).getD 1 default).type ⟨[x,y]⟩ ((PP.fieldsOf zd).getD 1 default).offset).run PP w= .ok y w:=fun x y=>by kernel_rfl
 have j:(Op.equalIn 10000 zd (kK a b) (kK c d)).run PP w= .ok (decide (a=c∧b=d)) w:=by
  rw[run_equalIn_struct w 9999 zd _ _ (by kernel_rfl) (by kernel_rfl),i]
  generalize (PP.fieldsOf zd).getD 0 default=f0 at g i0 p0⊢
  generalize (PP.fieldsOf zd).getD 1 default=f1 at h i1 p1⊢
  simp only[Op.eqFields,if_pos g,if_pos h,Sem.run_bind,p0,p1,Result.andThen_ok,run_equalIn_int w 9998 _ _ _ _ _ i0,run_equalIn_int w 9998 _ _ _ _ _ i1]
  by_cases e:a=c
  ·by_cases f:b=d
   ·subst e;subst f;simp[run_equalIn_int w 9998 _ _ _ _ _ i1,p1]
   ·subst e;simp[run_equalIn_int w 9998 _ _ _ _ _ i1,p1,f]
  ·simp[e]
 rw[run_eql_struct,j]
 rfl
theorem VecCmp_spec {op wd n v m:Int} (k:∀w',Ext w w'→K (.tuple #[.bool (M.vecCmp op wd n v m).1,.bool (M.vecCmp op wd n v m).2]) w'):vcall PP Qd #[.int .i64 op,kK wd n,kK v m] w K:=by
 apply qT0
 refine zD fun b1 L E y G B=>?_
 refine zD fun b2 A F l H g2=>?_
 have p:=y.trans l
 have r:=B.ext l
 have d:(M.vecCmp op wd n v m)=(false,false)→∀f,Ext A f→K (.tuple #[.bool false,.bool false]) f:=by
  intro e f a
  have:=k f (p.trans a)
  rwa[e] at this
 refine zV (fun u f=>u=[]∧Ext A f∧M.vok wd n=true∧M.vok v m=true∧wd=v) (fun C D=>?_) ?_
 ·simp(disch:=(simp only[push_cast];done)) only[push_cast,r.ldAgg (t:=zd) zW]
  refine VecOk_spec fun f a=>?_
  have g4:=g2.ext a
  simp only[push_cast]
  refine y9 (fun q=>d ?_ _ a) (fun q=>?_)
  ·unfold M.vecCmp;rw[if_neg (by simp at q;simp[q])]
  ·simp(disch:=(simp only[push_cast];done)) only[push_cast,g4.ldAgg (t:=zd) zW]
   refine VecOk_spec fun I b=>?_
   have g5:=g4.ext b
   have x:=(r.ext a).ext b
   simp only[push_cast]
   refine y9 (fun c=>d ?_ _ (a.trans b)) (fun c=>?_)
   ·unfold M.vecCmp;rw[if_neg (by simp at c;simp[c])]
   ·simp(disch:=(simp only[push_cast];done)) only[push_cast,x.ld0,g5.ld0]
    refine zh (fun j=>d ?_ _ (a.trans b)) (fun j=>?_)
    ·unfold M.vecCmp;rw[if_neg (fun h=>j h.2.2.1)]
    ·exact D _ _ ⟨rfl,a.trans b,by simpa using q,by simpa using c,by omega⟩
 ·rintro u g f ⟨rfl,a,i,c,rfl⟩
  have s:=r.ext a
  have g4:=g2.ext a
  unfold M.vecCmp at k d
  simp only[push_cast]
  refine zh (fun j=>?_) (fun j=>?_)
  ·subst j
   simp(disch:=(simp only[push_cast];done)) only[push_cast,s.ldAgg (t:=zd) zW,g4.ldAgg (t:=zd) zW]
   rw[eqVec]
   have:=k f (p.trans a)
   rw[if_pos ⟨i,c,rfl,by omega,by omega⟩] at this
   simp only[M.cmpM,if_true] at this
   simp only[true_and]
   exact this
  refine zh (fun a2=>?_) (fun a2=>?_)
  ·subst a2
   simp(disch:=(simp only[push_cast];done)) only[push_cast,s.ld1,g4.ld1]
   have:=k f (p.trans a)
   rw[if_pos ⟨i,c,rfl,by omega,by omega⟩] at this
   exact this
  refine zh (fun a3=>?_) (fun a3=>?_)
  ·subst a3
   refine zx fun I b _=>?_
   have x:=s.ext b
   have g5:=g4.ext b
   simp(disch:=(simp only[push_cast];done)) only[push_cast,x.ldAgg (t:=zd) zW,g5.ldAgg (t:=zd) zW,true_and]
   refine VecSigned_spec fun N o=>?_
   have g6:=g5.ext o
   simp(disch:=(simp only[push_cast];done)) only[push_cast,g6.ldAgg (t:=zd) zW,true_and,and_self]
   refine VecSigned_spec fun J z=>?_
   simp only[push_cast,if_pos i,if_pos c,true_and]
   have:=k J (((p.trans a).trans b).trans (o.trans z))
   rw[if_pos ⟨i,c,rfl,by omega,by omega⟩] at this
   exact this
  ·exact d (by rw[if_neg (fun h=>by omega)]) _ a
theorem VecCut_spec {wd n hi lo:Int} (m:∀w',Ext w w'→K (.tuple #[kK (M.vecCut wd n hi lo).1.1 (M.vecCut wd n hi lo).1.2,.bool (M.vecCut wd n hi lo).2]) w'):vcall PP ZN #[kK wd n,.int .i64 hi,.int .i64 lo] w K:=by
 apply qS0
 refine zD fun b1 w1 U o W Q=>?_
 refine zF yZ fun b3 E V p X I=>?_
 have S:=o.trans p
 have a0:=o.size
 have v:=Q.ext p
 have f:∀d i,Ext E d→Same (· =b3) d i→Ext w i:=fun d i h P=>Ext.then (S.trans h) P fun y Y=>by subst Y;omega
 have c:(M.vecCut wd n hi lo)=((0,0),false)→∀d,Ext E d→zt PP zd (.pointer (some ⟨b3,0,none⟩)) (kK 0 0) d fun _ i=>vlv PP zd (.pointer (some ⟨b3,0,none⟩)) i fun r F=>K (.tuple #[r,.bool false]) F:=by
  intro e d b
  refine stVec (I.ext b) fun i B _ r5=>?_
  rw[r5.lv (by kernel_rfl)]
  have:=m i (f _ _ b B)
  rwa[e] at this
 unfold M.vecCut at m c
 refine zV (fun u d=>u=[]∧Ext E d∧M.vok wd n=true∧0≤lo∧lo≤hi∧hi<wd) (fun C R=>?_) ?_
 ·simp(disch:=(simp only[push_cast];done)) only[push_cast,v.ldAgg (t:=zd) zW]
  refine VecOk_spec fun d b=>?_
  have A:=v.ext b
  simp only[push_cast]
  refine y9 (fun j=>c ?_ _ b) (fun j=>?_)
  ·rw[if_neg (by simp at j;simp[j])]
  refine zh (fun J=>c (if_neg (by omega)) _ b) (fun J=>?_)
  refine zh (fun a2=>c (if_neg (by omega)) _ b) (fun a2=>?_)
  simp(disch:=(simp only[push_cast];done)) only[push_cast,A.ld0]
  refine zh (fun a3=>c (if_neg (by omega)) _ b) (fun a3=>?_)
  exact R _ _ ⟨rfl,b,by simpa using j,by omega,by omega,by omega⟩
 ·rintro u g d ⟨rfl,b,j,L,N,c3⟩
  have A:=v.ext b
  have r4:=I.ext b
  obtain⟨k,a,rfl,rfl,k1,k4,T⟩:=M.vok_nat j
  obtain⟨l,rfl⟩:∃l:Nat,lo=l:=⟨lo.toNat,by omega⟩
  obtain⟨t,H⟩:∃t:Nat,hi-(l:Int)+1=t:=⟨(hi-l+1).toNat,by omega⟩
  have G:=pow16 k4 T
  have O:IntKind.i64.wrap (IntKind.i64.wrap (hi-(l:Int))+1)=(t:Int):=by rw[zy (x:=hi-l) (by omega) (by omega),zy (by omega) (by omega)];omega
  simp(disch:=(simp only[push_cast];done)) only[push_cast,A.ldAgg (t:=zd) zW,O]
  refine raw_spec (by omega) fun i q=>?_
  have hd:=Nat.div_le_self a (2^l)
  rw[vbin_shrU (by omega)]
  refine cut_spec (by omega) (by omega) (by omega) ?_
  have hm:=Nat.mod_le (a/2^l) (2^t)
  have s:M.cutM (a:Int) hi (l:Int)=((a/2^l%2^t:Nat):Int):=by
   unfold M.cutM
   rw[H]
   simp
  rw[if_pos ⟨j,L,N,c3⟩] at m
  simp only[s,H] at m
  obtain⟨z,Z⟩:∃z,z=a/2^l%2^t:=⟨_,rfl⟩
  rw[←Z] at hm m⊢
  rw[qS zM0 y20,wrapN (by omega)]
  simp only[push_cast]
  refine stVec (r4.ext q) fun F D _ r6=>?_
  rw[r6.lv (by kernel_rfl)]
  exact m F (f _ _ (b.trans q) D)
end Go.Proofs.YtaekfnbnhjgboaaGreatDoor
end
section
namespace Go.Proofs.YtaekfnbnhjgboaaGreatDoor
open Go Go.Vc Go.Proofs
variable {w:World} {K:Value→World→Prop} {F:Nat→Prop}
theorem ZQ0 (x y:Bool):(Op.equal xr (.bool x) (.bool y)).run PP w= .ok (x==y) w:=by
 have hu:PP.underlying xr=some .bool:=by kernel_rfl
 have:∀d,(Op.equalIn (d+1) xr (.bool x) (.bool y)).run PP w= .ok (x==y) w:=fun d=>by
  rw[Op.equalIn,Sem.run_bind,run_underlying hu];rfl
 exact this 9999
@[push_cast] theorem vbin_neb (b:Bool) (x y:Bool):zr PP .neq xr b (.bool x) (.bool y) w K=K (.bool (x != y)) w:=
 yJ rfl (by simp[binOp,ZQ0,Result.andThen,bne])
@[push_cast] theorem vbin_eqb (b:Bool) (x y:Bool):zr PP .eql xr b (.bool x) (.bool y) w K=K (.bool (x==y)) w:=
 yJ rfl (by simp[binOp,ZQ0,Result.andThen])
theorem IndexFunc_Lint_int {v f:Value} {vs:List Value} {p:Nat→Bool} (e:Vals F w v vs) (o:∀i,i<vs.length→FnB PP w f #[vs.getD i undef] (p i))
  (k:∀w',Ext w w'→K (.int .i64 (idxI vs.length p)) w'):vcall PP qb #[v,f] w K:=by
 apply Yf
 simp(disch:=first|(simp only[push_cast];done)|omega) only[push_cast,e.len]
 have hlen:vs.length≤9223372036854775807:=by obtain⟨_,_,_,m,x,_⟩:=e.shape;simp at m;omega
 refine vloop_up vs.length (fun i u w'=>u=[.int .i64 i]∧Ext w w'∧∀j,j<i→p j=false) ⟨rfl,Same.refl _ _,by omega⟩ ?_
 rintro i _ g l C hi ⟨rfl,he,d⟩ n
 simp only[push_cast]
 refine zh (fun s=>?_) (fun q=>?_)
 ·have b:=e.ext he
  simp(disch:=first|(simp only[push_cast];done)|omega) only[push_cast,b.iaddr,b.load]
  refine o i (by omega) l _ he fun t a=>y9 (fun c=>?_) (fun c=>?_)
  ·have:=k t (he.trans a)
   rwa[idxI_some (by omega) c d] at this
  ·simp(disch:=omega) only[push_cast,zy]
   exact n (by omega) _ _ ⟨by simp,he.trans a,fun j r=>by
    by_cases h:j=i
    ·subst h;exact c
    ·exact d j (by omega)⟩
 ·have:=k l he
  rwa[W4 (fun j r=>d j (by omega))] at this
theorem JQ {v f:Value} {vs:List Value} {p:Nat→Bool} (c:Vals F w v vs) (b:∀i,i<vs.length→FnB PP w f #[vs.getD i undef] (p i))
  (a:∀w',Ext w w'→K (.bool ((List.range vs.length).any p)) w'):vcall PP xK #[v,f] w K:=by
 apply Zd
 refine IndexFunc_Lint_int c b fun w' he=>?_
 simp only[push_cast,Qg]
 exact a w' he
theorem IndexFunc_LLint_Lint {v f:Value} {vs:List Value} {p:Nat→Bool} (e:Vals F w v vs) (o:∀i,i<vs.length→FnB PP w f #[vs.getD i undef] (p i))
  (k:∀w',Ext w w'→K (.int .i64 (idxI vs.length p)) w'):vcall PP xU #[v,f] w K:=by
 apply Zs
 simp(disch:=first|(simp only[push_cast];done)|omega) only[push_cast,e.len]
 have hlen:vs.length≤9223372036854775807:=by obtain⟨_,_,_,m,x,_⟩:=e.shape;simp at m;omega
 refine vloop_up vs.length (fun i u w'=>u=[.int .i64 i]∧Ext w w'∧∀j,j<i→p j=false) ⟨rfl,Same.refl _ _,by omega⟩ ?_
 rintro i _ g l C hi ⟨rfl,he,d⟩ n
 simp only[push_cast]
 refine zh (fun s=>?_) (fun q=>?_)
 ·have b:=e.ext he
  simp(disch:=first|(simp only[push_cast];done)|omega) only[push_cast,b.iaddr,b.load]
  refine o i (by omega) l _ he fun t a=>y9 (fun c=>?_) (fun c=>?_)
  ·have:=k t (he.trans a)
   rwa[idxI_some (by omega) c d] at this
  ·simp(disch:=omega) only[push_cast,zy]
   exact n (by omega) _ _ ⟨by simp,he.trans a,fun j r=>by
    by_cases h:j=i
    ·subst h;exact c
    ·exact d j (by omega)⟩
 ·have:=k l he
  rwa[W4 (fun j r=>d j (by omega))] at this
theorem Qs {v f:Value} {vs:List Value} {p:Nat→Bool} (c:Vals F w v vs) (b:∀i,i<vs.length→FnB PP w f #[vs.getD i undef] (p i))
  (a:∀w',Ext w w'→K (.bool ((List.range vs.length).any p)) w'):vcall PP xw #[v,f] w K:=by
 apply kJ
 refine IndexFunc_LLint_Lint c b fun w' he=>?_
 simp only[push_cast,Qg]
 exact a w' he
theorem Equal_Lint {F':Nat→Prop} {v v':Value} {xs ys:List Int} (l:Ints F w v xs) (p:Ints F' w v' ys) (f:∀w',Ext w w'→K (.bool (decide (xs=ys))) w'):vcall PP xY #[v,v'] w K:=by
 apply Ql
 simp(disch:=first|(simp only[push_cast];done)|omega) only[push_cast,l.len,p.len]
 have hlen:xs.length≤9223372036854775807:=by obtain⟨_,_,_,d,m,_⟩:=l.shape;simp at d;omega
 refine zh (fun k=>?_) (fun heq=>?_)
 ·have:=f w (Same.refl _ _)
  rwa[decide_eq_false (fun e=>k (by rw[e]))] at this
 ·refine vloop_up xs.length (fun i u w'=>u=[.int .i64 i]∧Ext w w'∧∀j,j<i→xs.getD j 0=ys.getD j 0) ⟨rfl,Same.refl _ _,by omega⟩ ?_
  rintro i _ g t C hi ⟨rfl,he,o⟩ q
  simp only[push_cast]
  refine zh (fun s=>zx fun x a _=>?_) (fun r=>?_)
  ·have b:=l.ext (he.trans a)
   have c:=p.ext (he.trans a)
   simp(disch:=first|(simp only[push_cast];done)|omega) only[push_cast,b.iaddr,b.load,c.iaddr,c.load,true_and]
   refine zh (fun n=>?_) (fun n=>?_)
   ·have:=f x (he.trans a)
    rwa[decide_eq_false (fun e=>n (by rw[e]))] at this
   ·simp(disch:=omega) only[push_cast,zy]
    exact q (by omega) _ _ ⟨by simp,he.trans a,fun j y=>by
     by_cases h:j=i
     ·subst h;omega
     ·exact o j (by omega)⟩
  ·have:=f t he
   rwa[decide_eq_true (List.ext_getElem (by omega) fun j d m=>by have:=o j (by omega);simpa[List.getD_eq_getElem?_getD,d,m] using this)] at this
end Go.Proofs.YtaekfnbnhjgboaaGreatDoor
end
section
namespace Go.Proofs.YtaekfnbnhjgboaaGreatDoor
open Go Go.Vc Go.Proofs
variable {w:World} {K:Value→World→Prop} {F G:Nat→Prop}
@[push_cast] theorem tn0:(0:Int).toNat=0:=rfl
@[push_cast] theorem tn1:(1:Int).toNat=1:=rfl
@[push_cast] theorem tn2:(2:Int).toNat=2:=rfl
theorem Yu0 {α:Type} (xs:List α) (d:α) (p:α→Bool):(List.range xs.length).any (fun i=>p (xs.getD i d))=xs.any p:=by
 rw[Bool.eq_iff_iff,List.any_eq_true,List.any_eq_true]
 constructor
 ·rintro⟨i,hi,a⟩
  exact⟨_,M.getD_mem (List.mem_range.1 hi) d,a⟩
 ·rintro⟨x,b,a⟩
  obtain⟨i,hi,rfl⟩:=List.getElem_of_mem b
  exact⟨i,List.mem_range.2 hi,by rw[List.getD_eq_getElem?_getD,List.getElem?_eq_getElem hi];exact a⟩
abbrev DclV (d:M.Dcl):Value:= .agg ⟨[.string d.1,.int .i64 d.2]⟩
abbrev Wd:M.Dcl:=(M.nada,0)
theorem IndexFunc_Decl {v f:Value} {ds:List M.Dcl} {p:Nat→Bool} (e:DclsR F w v ds) (n:∀i,i<ds.length→FnB PP w f #[DclV (ds.getD i Wd)] (p i))
  (k:∀w',Ext w w'→K (.int .i64 (idxI ds.length p)) w'):vcall PP yp #[v,f] w K:=by
 apply j9
 simp(disch:=first|(simp only[push_cast];done)|omega) only[push_cast,e.len]
 have hlen:=e.small
 refine vloop_up ds.length (fun i u w'=>u=[.int .i64 i]∧Ext w w'∧∀j,j<i→p j=false) ⟨rfl,Same.refl _ _,by omega⟩ ?_
 rintro i _ g l C hi ⟨rfl,he,d⟩ m
 simp only[push_cast]
 refine zh (fun r=>?_) (fun o=>?_)
 ·have b:=e.ext he
  simp(disch:=first|(simp only[push_cast];done)|omega) only[push_cast,b.iaddr,b.load]
  refine n i (by omega) l _ he fun s a=>y9 (fun c=>?_) (fun c=>?_)
  ·have:=k s (he.trans a)
   rwa[idxI_some (by omega) c d] at this
  ·rw[inc64' (by omega)]
   exact m (by omega) _ _ ⟨rfl,he.trans a,fun j q=>by
    by_cases h:j=i
    ·subst h;exact c
    ·exact d j (by omega)⟩
 ·have:=k l he
  rwa[W4 (fun j q=>d j (by omega))] at this
theorem UJ {v f:Value} {ds:List M.Dcl} {p:Nat→Bool} (c:DclsR F w v ds) (b:∀i,i<ds.length→FnB PP w f #[DclV (ds.getD i Wd)] (p i))
  (a:∀w',Ext w w'→K (.bool ((List.range ds.length).any p)) w'):vcall PP yI #[v,f] w K:=by
 apply qE
 refine IndexFunc_Decl c b fun w' he=>?_
 simp only[push_cast,Qg]
 exact a w' he
theorem zT0 {b:Bool} (a:K (.int .i64 (M.b2i b)) w):vcall PP ZM #[.bool b] w K:=by
 apply qP0
 refine y9 (fun h=>?_) (fun h=>?_)<;>subst h<;>exact a
theorem XW {b:Bool} {s:Int} (a:K (.int .i64 (if b=true then s else-1)) w):vcall PP yj #[.bool b,.int .i64 s] w K:=by
 apply qN0
 refine y9 (fun h=>?_) (fun h=>?_)<;>subst h<;>exact a
theorem kS {p:Prop} [Decidable p] {s:Int} (a:K (.int .i64 (if p then s else-1)) w):vcall PP yj #[.bool (decide p),.int .i64 s] w K:=
 XW (by simpa using a)
theorem ZX {s:Int} (a:K (.int .i64 (-1)) w):vcall PP yj #[.bool false,.int .i64 s] w K:=XW a
theorem kA {s:ByteArray} {n:Int} (c:∀w',Ext w w'→K (.int .i64 n) w'):vcall PP yz #[.agg ⟨[.string s,.int .i64 n]⟩] w K:=by
 apply Ur
 refine zD fun b1 f d a e b=>?_
 simp(disch:=(simp only[push_cast];done)) only[push_cast,b.ld1]
 exact c _ a
abbrev KV (s:ByteArray) (n:Int):Value:= .agg ⟨[.string s,.int .i64 n]⟩
theorem unKind_sort_spec {s:ByteArray} {n:Int} {dv tv kv:Value} {t:M.Tm} {xs:List Int} (k:TermR F w tv t) (l:Ints G w kv xs) (p:xs.length=1)
  (e:∀w',Ext w w'→K (.int .i64 (if 0<xs.getD 0 0 then xs.getD 0 0 else-1)) w'):vcall PP kf #[KV s n,dv,tv,kv] w K:=by
 apply We
 obtain⟨ksv,rfl,h⟩:=k
 refine zD fun b1 q f a i m=>?_
 refine zD fun b2 r g b j o=>?_
 refine zx fun u c _=>?_
 have d:=l.ext ((a.trans b).trans c)
 simp(disch:=first|(simp only[push_cast];done)|omega) only[push_cast,d.iaddr,d.load,true_and]
 exact kS (e _ ((a.trans b).trans c))
theorem binKind_sort_spec {s:ByteArray} {n:Int} {dv tv kv:Value} {t:M.Tm} {xs:List Int} (m:TermR F w tv t) (o:Ints G w kv xs) (r:xs.length=2)
  (g:∀w',Ext w w'→K (.int .i64 (if 0<xs.getD 0 0∧xs.getD 0 0=xs.getD 1 0 then xs.getD 0 0 else-1)) w'):vcall PP jO #[KV s n,dv,tv,kv] w K:=by
 apply VM
 obtain⟨ksv,rfl,j⟩:=m
 refine zD fun b1 u h b k p=>?_
 refine zD fun b2 v i c l q=>?_
 refine zx fun x d _=>?_
 have e:=o.ext ((b.trans c).trans d)
 have f:=g _ ((b.trans c).trans d)
 simp(disch:=first|(simp only[push_cast];done)|omega) only[push_cast,e.iaddr,e.load,true_and]
 refine zh (fun a=>?_) (fun a=>?_)
 ·refine kS ?_
  simpa only[a,true_and] using f
 ·refine ZX ?_
  simpa only[a,false_and,if_false] using f
theorem cmpKind_sort_spec {s:ByteArray} {n:Int} {dv tv kv:Value} {t:M.Tm} {xs:List Int} (m:TermR F w tv t) (o:Ints G w kv xs) (r:xs.length=2)
  (g:∀w',Ext w w'→K (.int .i64 (if 0<xs.getD 0 0∧xs.getD 0 0=xs.getD 1 0 then 0 else-1)) w'):vcall PP jK #[KV s n,dv,tv,kv] w K:=by
 apply VC
 obtain⟨ksv,rfl,j⟩:=m
 refine zD fun b1 u h b k p=>?_
 refine zD fun b2 v i c l q=>?_
 refine zx fun x d _=>?_
 have e:=o.ext ((b.trans c).trans d)
 have f:=g _ ((b.trans c).trans d)
 simp(disch:=first|(simp only[push_cast];done)|omega) only[push_cast,e.iaddr,e.load,true_and]
 refine zh (fun a=>?_) (fun a=>?_)
 ·refine kS ?_
  simpa only[a,true_and] using f
 ·refine ZX ?_
  simpa only[a,false_and,if_false] using f
theorem catKind_sort_spec {s:ByteArray} {n:Int} {dv tv kv:Value} {t:M.Tm} {xs:List Int} (r:TermR F w tv t) (u:Ints G w kv xs) (y:xs.length=2) (h:∀i,-1≤xs.getD i 0∧xs.getD i 0≤4)
  (k:∀w',Ext w w'→K (.int .i64 (if 0<xs.getD 0 0∧0<xs.getD 1 0∧xs.getD 0 0+xs.getD 1 0≤4 then xs.getD 0 0+xs.getD 1 0 else-1)) w'):vcall PP jL #[KV s n,dv,tv,kv] w K:=by
 apply VF
 obtain⟨ksv,rfl,o⟩:=r
 refine zD fun b1 B l c p v=>?_
 refine zD fun b2 C m d q x=>?_
 refine zx fun D e _=>?_
 have f:=u.ext ((c.trans d).trans e)
 have g:=k _ ((c.trans d).trans e)
 have z:=h 0
 have A:=h 1
 have j:IntKind.i64.wrap (xs.getD 0 0+xs.getD 1 0)=xs.getD 0 0+xs.getD 1 0:=zy (by omega) (by omega)
 simp(disch:=first|(simp only[push_cast];done)|omega) only[push_cast,f.iaddr,f.load,true_and,j]
 refine zh (fun a=>?_) (fun a=>?_)
 ·refine zh (fun b=>?_) (fun b=>?_)
  ·refine kS ?_
   simpa only[a,b,true_and] using g
  ·refine ZX ?_
   simpa only[b,false_and,and_false,if_false] using g
 ·refine ZX ?_
  simpa only[a,false_and,if_false] using g
theorem ifKind_sort_spec {s:ByteArray} {n:Int} {dv tv kv:Value} {t:M.Tm} {xs:List Int} (m:TermR F w tv t) (o:Ints G w kv xs) (r:xs.length=3)
  (g:∀w',Ext w w'→K (.int .i64 (if xs.getD 0 0=0∧xs.getD 1 0=xs.getD 2 0 then xs.getD 1 0 else-1)) w'):vcall PP ki #[KV s n,dv,tv,kv] w K:=by
 apply Wg
 obtain⟨ksv,rfl,j⟩:=m
 refine zD fun b1 u h b k p=>?_
 refine zD fun b2 v i c l q=>?_
 refine zx fun x d _=>?_
 have e:=o.ext ((b.trans c).trans d)
 have f:=g _ ((b.trans c).trans d)
 simp(disch:=first|(simp only[push_cast];done)|omega) only[push_cast,e.iaddr,e.load,true_and]
 refine zh (fun a=>?_) (fun a=>?_)
 ·refine kS ?_
  simpa only[a,true_and] using f
 ·refine ZX ?_
  simpa only[a,false_and,if_false] using f
theorem U3 {s:ByteArray} {n:Int} {dv tv kv:Value} {t:M.Tm} (q:TermR F w tv t)
  (j:∀w',Ext w w'→K (.int .i64 (if M.vok t.a t.b=true then t.a else-1)) w'):vcall PP jE #[KV s n,dv,tv,kv] w K:=by
 apply Vw
 obtain⟨ksv,rfl,m⟩:=q
 refine zD fun b1 u k f o r=>?_
 refine zD fun b2 v l g p h=>?_
 refine zx fun x c _=>?_
 have e:=h.ext c
 simp(disch:=first|(simp only[push_cast];done)|omega) only[push_cast,e.ld1,e.ld2,true_and]
 refine VecOk_spec fun y d=>?_
 have i:=e.ext d
 simp(disch:=first|(simp only[push_cast];done)|omega) only[push_cast,i.ld1,true_and,and_self]
 exact XW (j _ (((f.trans g).trans c).trans d))
theorem cutKind_sort_spec {s:ByteArray} {n:Int} {dv tv kv:Value} {t:M.Tm} {xs:List Int} (y:TermR F w tv t) (z:Ints G w kv xs) (B:xs.length=1) (r:∀i,-1≤xs.getD i 0∧xs.getD i 0≤4)
  (m:∀w',Ext w w'→K (.int .i64 (if 0≤t.b∧t.b≤t.a∧t.a<xs.getD 0 0 then t.a-t.b+1 else-1)) w'):vcall PP jJ #[KV s n,dv,tv,kv] w K:=by
 apply VB
 obtain⟨ksv,rfl,q⟩:=y
 refine zD fun b1 D o e u A=>?_
 refine zD fun b2 E p f v l=>?_
 refine zx fun H d _=>?_
 have g:=z.ext ((e.trans f).trans d)
 have j:=l.ext d
 have h:=m _ ((e.trans f).trans d)
 have C:=r 0
 simp(disch:=first|(simp only[push_cast];done)|omega) only[push_cast,j.ld1,j.ld2,g.iaddr,g.load,true_and]
 refine zh (fun a=>?_) (fun a=>?_)
 ·refine zh (fun b=>?_) (fun b=>?_)
  ·by_cases c:t.a<xs.getD 0 0
   ·have k:IntKind.i64.wrap (IntKind.i64.wrap (t.a-t.b)+1)=t.a-t.b+1:=by rw[zy (x:=t.a-t.b) (by omega) (by omega),zy (by omega) (by omega)]
    rw[k]
    refine kS ?_
    simpa only[a,b,c,true_and] using h
   ·refine kS ?_
    simpa only[c,and_false,if_false] using h
  ·refine ZX ?_
   simpa only[b,false_and,and_false,if_false] using h
 ·refine ZX ?_
  simpa only[a,false_and,if_false] using h
theorem Ws {s:ByteArray} {n:Int} {f dv tv kv:Value} {t:M.Tm} {xs:List Int} (q:TermR F w tv t) (r:Ints G w kv xs)
  (c:∀w',Ext w w'→K (.int .i64 (if xs.any (fun x=>decide (x≠0)) then-1 else 0)) w'):vcall PP jq #[.agg ⟨[.string s,.int .i64 n,f]⟩,dv,tv,kv] w K:=by
 apply Ky
 obtain⟨ksv,rfl,l⟩:=q
 refine zD fun b1 y j a m u=>?_
 refine zD fun b2 z k b o v=>?_
 have e:=r.ext (a.trans b)
 refine JQ (p:=fun i=>decide (xs.getD i 0≠0)) e (fun i hi=>?_) fun A d=>?_
 ·rw[ji0 (by simpa using hi)]
  intro w' K he c
  simp only[push_cast]
  apply QG
  simp only[push_cast]
  have:=c _ (Same.refl _ _)
  simpa using this
 ·have g:=c _ ((a.trans b).trans d)
  rw[List.length_map,Yu0 xs 0 (fun x=>decide (x≠0))]
  simp only[push_cast]
  refine XW ?_
  cases h:xs.any fun x=>decide (x≠0)<;>rw[h] at g<;>exact g
theorem nameKind_sort_spec {s:ByteArray} {n:Int} {dv tv kv:Value} {t:M.Tm} {ds:List M.Dcl} (B:TermR F w tv t) (u:DclsR G w dv ds)
  (h:∀w',Ext w w'→K (.int .i64 (if M.findD ds t.s<0 then-1 else(ds.getD (M.findD ds t.s).toNat Wd).2)) w'):vcall PP jl #[KV s n,dv,tv,kv] w K:=by
 apply Ks
 obtain⟨ksv,rfl,x⟩:=B
 refine zD fun b1 D o d y C=>?_
 refine zD fun b2 E q e z k=>?_
 simp only[push_cast]
 have b:=u.ext (d.trans e)
 refine IndexFunc_Decl (p:=fun i=>decide ((ds.getD i Wd).1=t.s)) b (fun i hi=>?_) fun H f=>?_
 ·intro w' K he h
  simp only[push_cast]
  apply QE
  refine zD fun b3 I r g A l=>?_
  have m:=(k.ext he).ext g
  simp(disch:=first|(simp only[push_cast];done)|omega) only[push_cast,l.ld0,m.ld3]
  exact h _ g
 ·have v:=M.findD_lt ds t.s
  have j:=h _ ((d.trans e).trans f)
  have c:=b.ext f
  have efd:idxI ds.length (fun i=>decide ((ds.getD i Wd).1=t.s))=M.findD ds t.s:=rfl
  rw[efd]
  simp only[push_cast]
  refine zh (fun a=>?_) (fun a=>?_)
  ·rwa[if_pos a] at j
  ·rw[if_neg a] at j
   simp(disch:=first|(simp only[push_cast];done)|omega) only[push_cast,c.iaddr]
   simp(disch:=first|(simp only[push_cast];done)|omega) only[push_cast,c.load1]
   exact j
end Go.Proofs.YtaekfnbnhjgboaaGreatDoor
end
section
namespace Go.Proofs.YtaekfnbnhjgboaaGreatDoor
open Go Go.Vc Go.Proofs
variable {w:World} {K:Value→World→Prop} {F:Nat→Prop}
theorem l1Max_spec {a b:Int} (c:K (.int .i64 (max a b)) w):vcall PP J4 #[.int .i64 a,.int .i64 b] w K:=by
 apply jI0
 simp only[push_cast]
 refine zh (fun h=>?_) (fun h=>?_)
 ·rwa[show max a b=a by omega] at c
 ·rwa[show max a b=b by omega] at c
theorem l1Min_spec {a b:Int} (c:K (.int .i64 (min a b)) w):vcall PP J3 #[.int .i64 a,.int .i64 b] w K:=by
 apply jH0
 simp only[push_cast]
 refine zh (fun h=>?_) (fun h=>?_)
 ·rwa[show min a b=a by omega] at c
 ·rwa[show min a b=b by omega] at c
theorem pow62 {k:Nat} (h:k≤62):2^k≤4611686018427387904:=Nat.le_trans (Nat.pow_le_pow_right (by omega) h) (by decide)
theorem l1Two_spec {n:Int} (h:n≤62) (l:K (.int .i64 ((2^n.toNat:Nat):Int)) w):vcall PP qg #[.int .i64 n] w K:=by
 apply jG0
 refine vloop_up n.toNat (fun i u w'=>u=[.int .i64 (2^i:Nat),.int .i64 i]∧w'=w) ⟨rfl,rfl⟩ ?_
 rintro i _ _ o C hi ⟨rfl,rfl⟩ e
 have m:=pow62 (k:=i) (by omega)
 have c:((2^i:Nat):Int)*2=((2^(i+1):Nat):Int):=by rw[Nat.pow_succ];omega
 have b:i<n.toNat→2^(i+1)≤4611686018427387904:=fun h=>pow62 (by omega)
 obtain⟨q,g⟩:∃q,q=2^i:=⟨_,rfl⟩
 obtain⟨j,d⟩:∃j,j=2^(i+1):=⟨_,rfl⟩
 rw[←g] at c m⊢
 rw[←d] at c e b
 simp only[push_cast]
 refine zh (fun a=>?_) (fun a=>?_)
 ·have f:=b (by omega)
  rw[c,zy (by omega) (by omega),inc64' (by omega)]
  exact e (by omega) _ _ ⟨rfl,rfl⟩
 ·have:i=n.toNat:=by omega
  subst this
  rw[g];exact l
theorem l1Two_nat {n:Nat} (h:n≤62) (a:K (.int .i64 ((2^n:Nat):Int)) w):vcall PP qg #[.int .i64 (n:Int)] w K:=
 l1Two_spec (by omega) (by rwa[Int.toNat_natCast])
theorem spec_VecOk_spec {wd n:Int} (j:∀w',Ext w w'→K (.bool (M.vok wd n)) w'):vcall PP J6 #[kK wd n] w K:=by
 apply jK0
 refine zD fun b1 o k f l h=>?_
 refine zx fun m c _=>?_
 have e:=h.ext c
 have i:=f.trans c
 simp(disch:=(simp only[push_cast];done)) only[push_cast,e.ld0,e.ld1,true_and]
 have a:=j m i
 refine zh (fun d=>?_) (fun d=>?_)
 ·refine zh (fun a2=>?_) (fun a2=>?_)
  ·refine zh (fun a3=>?_) (fun a3=>?_)
   ·refine l1Two_spec (by omega) ?_
    obtain⟨q,g⟩:∃q,q=2^wd.toNat:=⟨_,rfl⟩
    have b:M.vok wd n=decide (n<(q:Nat)):=by
     simp only[M.vok,decide_eq_true d,decide_eq_true a2,decide_eq_true a3,Bool.true_and]
     rw[g,xF0]
    rw[←g]
    simp(disch:=(simp only[push_cast];done)) only[push_cast,e.ld1,true_and,and_self]
    rw[b] at a
    exact a
   ·have b:M.vok wd n=false:=by simp only[M.vok,decide_eq_false a3,Bool.and_false,Bool.false_and]
    rw[b] at a;exact a
  ·have b:M.vok wd n=false:=by simp only[M.vok,decide_eq_false a2,Bool.and_false,Bool.false_and]
   rw[b] at a;exact a
 ·have b:M.vok wd n=false:=by simp only[M.vok,decide_eq_false d,Bool.false_and]
  rw[b] at a;exact a
theorem l1Bit_spec {n k:Nat} (d:n<9223372036854775808) (b:k≤62) (a:K (.int .i64 ((n/2^k%2:Nat):Int)) w):vcall PP J5 #[.int .i64 (n:Int),.int .i64 (k:Int)] w K:=by
 apply jJ0
 refine l1Two_nat b ?_
 have e:0<2^k:=Nat.pow_pos (by omega)
 have c:n/2^k≤n:=Nat.div_le_self _ _
 rw[zx0 (by omega),show(n:Int).tdiv ((2^k:Nat):Int)=((n/2^k:Nat):Int) from rfl,wrapN (by omega),YD (by omega),show((n/2^k:Nat):Int).tmod 2=((n/2^k%2:Nat):Int) from rfl]
 exact a
end Go.Proofs.YtaekfnbnhjgboaaGreatDoor
end
section
namespace Go.Proofs.YtaekfnbnhjgboaaGreatDoor
open Go Go.Vc Go.Proofs
variable {w:World} {K:Value→World→Prop} {F G:Nat→Prop}
theorem unKind_value_spec {s:ByteArray} {n:Int} {ev tv kv:Value} {t:M.Tm} {xs:List (Int×Int)} (Q:TermR F w tv t) (R:PairsR G w kv xs) (Y:xs.length=1)
  (I:∀w',Ext w w'→K (.int .i64 (M.vecUn t.op (xs.getD 0 (0,0)).1 (xs.getD 0 (0,0)).2).1.2) w'):vcall PP jF #[KV s n,ev,tv,kv] w K:=by
 apply Vx
 obtain⟨ksv,rfl,N⟩:=Q
 refine zD fun b1 w1 J m O X=>?_
 refine zD fun b2 w2 L o P B=>?_
 have z:=m.trans o
 have Z:=z.size
 refine zV (fun u w'=> ∃b wd,u=[.pointer (some ⟨b,0,none⟩)]∧Ext w w'∧Blk w' b [.int .i64 wd,.int .i64 (M.vecUn t.op (xs.getD 0 (0,0)).1 (xs.getD 0 (0,0)).2).1.2] zd) (fun C x=>?_) ?_
 ·refine zx fun U d _=>?_
  have c:=z.trans d
  have e:=R.ext c
  have j:=B.ext d
  have S:=c.size
  simp(disch:=first|(simp only[push_cast];done)|omega) only[push_cast,j.ld0,e.iaddr,e.load,true_and,and_true]
  refine⟨?_,?_⟩
  ·refine VecUn_spec fun w4 f=>?_
   have T:=f.size
   simp only[push_cast,true_and]
   refine zF yZ fun A V l a p k=>?_
   try simp only[push_cast,true_and,and_self]
   refine stVec k fun W q _ E=>?_
   try simp only[push_cast,true_and,and_self]
   exact x _ _ ⟨_,_,rfl,Ext.then ((c.trans f).trans a) q fun y v=>by subst v;omega,E⟩
  ·refine zF yZ fun A V l a p k=>?_
   have D:=j.ext a
   have i:=e.ext a
   simp(disch:=first|(simp only[push_cast];done)|omega) only[push_cast,D.ld0,i.iaddr,i.load,true_and,and_self,and_true]
   refine VecUn_spec fun W h=>?_
   simp only[push_cast,true_and]
   refine stVec (k.ext h) fun w7 r _ H=>?_
   try simp only[push_cast,true_and,and_self]
   exact x _ _ ⟨_,_,rfl,Ext.then ((c.trans a).trans h) r fun y v=>by subst v;omega,H⟩
 ·rintro u g U ⟨b,wd,rfl,d,j⟩
  simp(disch:=(simp only[push_cast];done)) only[push_cast,j.ld1]
  exact I _ d
theorem binKind_value_spec {s:ByteArray} {n:Int} {ev tv kv:Value} {t:M.Tm} {xs:List (Int×Int)} (Q:TermR F w tv t) (R:PairsR G w kv xs) (Y:xs.length=2)
  (I:∀w',Ext w w'→K (.int .i64 (M.vecBin t.op (xs.getD 0 (0,0)).1 (xs.getD 0 (0,0)).2 (xs.getD 1 (0,0)).1 (xs.getD 1 (0,0)).2).1.2) w'):vcall PP jr #[KV s n,ev,tv,kv] w K:=by
 apply KA
 obtain⟨ksv,rfl,N⟩:=Q
 refine zD fun b1 w1 J m O X=>?_
 refine zD fun b2 w2 L o P B=>?_
 have z:=m.trans o
 have Z:=z.size
 refine zV (fun u w'=> ∃b wd,u=[.pointer (some ⟨b,0,none⟩)]∧Ext w w'∧Blk w' b [.int .i64 wd,.int .i64 (M.vecBin t.op (xs.getD 0 (0,0)).1 (xs.getD 0 (0,0)).2 (xs.getD 1 (0,0)).1 (xs.getD 1 (0,0)).2).1.2] zd) (fun C x=>?_) ?_
 ·refine zx fun U d _=>?_
  have c:=z.trans d
  have e:=R.ext c
  have j:=B.ext d
  have S:=c.size
  simp(disch:=first|(simp only[push_cast];done)|omega) only[push_cast,j.ld0,e.iaddr,e.load,true_and,and_true]
  refine⟨?_,?_⟩
  ·refine VecBin_spec fun w4 f=>?_
   have T:=f.size
   simp only[push_cast,true_and]
   refine zF yZ fun A V l a p k=>?_
   try simp only[push_cast,true_and,and_self]
   refine stVec k fun W q _ E=>?_
   try simp only[push_cast,true_and,and_self]
   exact x _ _ ⟨_,_,rfl,Ext.then ((c.trans f).trans a) q fun y v=>by subst v;omega,E⟩
  ·refine zF yZ fun A V l a p k=>?_
   have D:=j.ext a
   have i:=e.ext a
   simp(disch:=first|(simp only[push_cast];done)|omega) only[push_cast,D.ld0,i.iaddr,i.load,true_and,and_self,and_true]
   refine VecBin_spec fun W h=>?_
   simp only[push_cast,true_and]
   refine stVec (k.ext h) fun w7 r _ H=>?_
   try simp only[push_cast,true_and,and_self]
   exact x _ _ ⟨_,_,rfl,Ext.then ((c.trans a).trans h) r fun y v=>by subst v;omega,H⟩
 ·rintro u g U ⟨b,wd,rfl,d,j⟩
  simp(disch:=(simp only[push_cast];done)) only[push_cast,j.ld1]
  exact I _ d
theorem catKind_value_spec {s:ByteArray} {n:Int} {ev tv kv:Value} {t:M.Tm} {xs:List (Int×Int)} (Q:TermR F w tv t) (R:PairsR G w kv xs) (Y:xs.length=2)
  (I:∀w',Ext w w'→K (.int .i64 (M.vecBin t.op (xs.getD 0 (0,0)).1 (xs.getD 0 (0,0)).2 (xs.getD 1 (0,0)).1 (xs.getD 1 (0,0)).2).1.2) w'):vcall PP jo #[KV s n,ev,tv,kv] w K:=by
 apply Kv
 obtain⟨ksv,rfl,N⟩:=Q
 refine zD fun b1 w1 J m O X=>?_
 refine zD fun b2 w2 L o P B=>?_
 have z:=m.trans o
 have Z:=z.size
 refine zV (fun u w'=> ∃b wd,u=[.pointer (some ⟨b,0,none⟩)]∧Ext w w'∧Blk w' b [.int .i64 wd,.int .i64 (M.vecBin t.op (xs.getD 0 (0,0)).1 (xs.getD 0 (0,0)).2 (xs.getD 1 (0,0)).1 (xs.getD 1 (0,0)).2).1.2] zd) (fun C x=>?_) ?_
 ·refine zx fun U d _=>?_
  have c:=z.trans d
  have e:=R.ext c
  have j:=B.ext d
  have S:=c.size
  simp(disch:=first|(simp only[push_cast];done)|omega) only[push_cast,j.ld0,e.iaddr,e.load,true_and,and_true]
  refine⟨?_,?_⟩
  ·refine VecBin_spec fun w4 f=>?_
   have T:=f.size
   simp only[push_cast,true_and]
   refine zF yZ fun A V l a p k=>?_
   try simp only[push_cast,true_and,and_self]
   refine stVec k fun W q _ E=>?_
   try simp only[push_cast,true_and,and_self]
   exact x _ _ ⟨_,_,rfl,Ext.then ((c.trans f).trans a) q fun y v=>by subst v;omega,E⟩
  ·refine zF yZ fun A V l a p k=>?_
   have D:=j.ext a
   have i:=e.ext a
   simp(disch:=first|(simp only[push_cast];done)|omega) only[push_cast,D.ld0,i.iaddr,i.load,true_and,and_self,and_true]
   refine VecBin_spec fun W h=>?_
   simp only[push_cast,true_and]
   refine stVec (k.ext h) fun w7 r _ H=>?_
   try simp only[push_cast,true_and,and_self]
   exact x _ _ ⟨_,_,rfl,Ext.then ((c.trans a).trans h) r fun y v=>by subst v;omega,H⟩
 ·rintro u g U ⟨b,wd,rfl,d,j⟩
  simp(disch:=(simp only[push_cast];done)) only[push_cast,j.ld1]
  exact I _ d
theorem cutKind_value_spec {s:ByteArray} {n:Int} {ev tv kv:Value} {t:M.Tm} {xs:List (Int×Int)} (R:TermR F w tv t) (S:PairsR G w kv xs) (Z:xs.length=1)
  (J:∀w',Ext w w'→K (.int .i64 (M.vecCut (xs.getD 0 (0,0)).1 (xs.getD 0 (0,0)).2 t.a t.b).1.2) w'):vcall PP jm #[KV s n,ev,tv,kv] w K:=by
 apply Kt
 obtain⟨ksv,rfl,O⟩:=R
 refine zD fun b1 w1 L o P Y=>?_
 refine zD fun b2 w2 N p Q E=>?_
 have B:=o.trans p
 have hz:=B.size
 refine zV (fun u w'=> ∃b wd,u=[.pointer (some ⟨b,0,none⟩)]∧Ext w w'∧Blk w' b [.int .i64 wd,.int .i64 (M.vecCut (xs.getD 0 (0,0)).1 (xs.getD 0 (0,0)).2 t.a t.b).1.2] zd) (fun C A=>?_) ?_
 ·refine zx fun V e _=>?_
  have d:=B.trans e
  have f:=S.ext d
  have h:=E.ext e
  have T:=d.size
  simp(disch:=first|(simp only[push_cast];done)|omega) only[push_cast,h.ld1,h.ld2,f.iaddr,f.load,true_and,and_true]
  refine⟨?_,?_⟩
  ·refine VecCut_spec fun w4 i=>?_
   have U:=i.size
   simp only[push_cast,true_and]
   refine zF yZ fun D W m c q l=>?_
   try simp only[push_cast,true_and,and_self]
   refine stVec l fun X r _ H=>?_
   try simp only[push_cast,true_and,and_self]
   exact A _ _ ⟨_,_,rfl,Ext.then ((d.trans i).trans c) r fun y x=>by subst x;omega,H⟩
  ·refine zF yZ fun D W m c q l=>?_
   have z:=h.ext c
   have k:=f.ext c
   simp(disch:=first|(simp only[push_cast];done)|omega) only[push_cast,z.ld1,z.ld2,k.iaddr,k.load,true_and,and_self,and_true]
   refine VecCut_spec fun X j=>?_
   simp only[push_cast,true_and]
   refine stVec (l.ext j) fun w7 v _ I=>?_
   try simp only[push_cast,true_and,and_self]
   exact A _ _ ⟨_,_,rfl,Ext.then ((d.trans c).trans j) v fun y x=>by subst x;omega,I⟩
 ·rintro u g V ⟨b,wd,rfl,e,h⟩
  simp(disch:=(simp only[push_cast];done)) only[push_cast,h.ld1]
  exact J _ e
theorem cmpKind_value_spec {s:ByteArray} {n:Int} {ev tv kv:Value} {t:M.Tm} {xs:List (Int×Int)} (p:TermR F w tv t) (q:PairsR G w kv xs) (u:xs.length=2)
  (i:∀w',Ext w w'→K (.int .i64 (M.b2i (M.vecCmp t.op (xs.getD 0 (0,0)).1 (xs.getD 0 (0,0)).2 (xs.getD 1 (0,0)).1 (xs.getD 1 (0,0)).2).1)) w'):vcall PP jn #[KV s n,ev,tv,kv] w K:=by
 apply Ku
 obtain⟨ksv,rfl,l⟩:=p
 refine zD fun b1 v j d m r=>?_
 refine zD fun b2 x k e o g=>?_
 refine zx fun y b _=>?_
 have a:=(d.trans e).trans b
 have c:=q.ext a
 have h:=g.ext b
 simp(disch:=first|(simp only[push_cast];done)|omega) only[push_cast,h.ld0,c.iaddr,c.load,true_and,and_true]
 refine VecCmp_spec fun z f=>?_
 simp only[push_cast,true_and]
 exact zT0 (i _ (a.trans f))
theorem VV {s:ByteArray} {n:Int} {ev tv kv:Value} {t:M.Tm} (k:TermR F w tv t)
  (e:∀w',Ext w w'→K (.int .i64 t.b) w'):vcall PP jk #[KV s n,ev,tv,kv] w K:=by
 apply Kq
 obtain⟨ksv,rfl,h⟩:=k
 refine zD fun b1 m f a i l=>?_
 refine zD fun b2 o g c j d=>?_
 simp(disch:=(simp only[push_cast];done)) only[push_cast,d.ld2]
 exact e _ (a.trans c)
theorem zX0:Xr0 PP qj .string zb:=⟨_,Kl,by kernel_rfl⟩
theorem Vk {s:ByteArray} {n:Int} {tv kv:Value} {t:M.Tm} {mb:Nat} {f:List (Value×Value)} {x:Int} (l:TermR F w tv t) (hm:MapF .string w mb f) (c:(Value.string t.s,Value.int .i64 x)∈f)
  (e:∀w',Ext w w'→K (.int .i64 x) w'):vcall PP j0 #[KV s n,.map (some mb),tv,kv] w K:=by
 apply Js
 obtain⟨ksv,rfl,i⟩:=l
 refine zD fun b1 o g a j m=>?_
 refine zD fun b2 p h b k d=>?_
 simp(disch:=(simp only[push_cast];done)) only[push_cast,d.ld3]
 rw[VU zX0 (hm.ext (a.trans b)) (Jl _) c]
 exact e _ (a.trans b)
theorem ifKind_value_spec {s:ByteArray} {n:Int} {ev tv kv:Value} {t:M.Tm} {xs:List (Int×Int)} (l:TermR F w tv t) (m:PairsR G w kv xs) (q:xs.length=3)
  (f:∀w',Ext w w'→K (.int .i64 (if(xs.getD 0 (0,0)).2=1 then(xs.getD 1 (0,0)).2 else(xs.getD 2 (0,0)).2)) w'):vcall PP jH #[KV s n,ev,tv,kv] w K:=by
 apply Vz
 obtain⟨ksv,rfl,i⟩:=l
 refine zD fun b1 r g c j o=>?_
 refine zD fun b2 u h d k p=>?_
 have b:=m.ext (c.trans d)
 have e:=f _ (c.trans d)
 try simp(disch:=first|(simp only[push_cast];done)|omega) only[push_cast,b.iaddr]
 try simp(disch:=first|(simp only[push_cast];done)|omega) only[push_cast,b.load1]
 refine zh (fun a=>?_) (fun a=>?_)
 ·rw[if_pos a] at e
  try simp(disch:=first|(simp only[push_cast];done)|omega) only[push_cast,b.iaddr]
  try simp(disch:=first|(simp only[push_cast];done)|omega) only[push_cast,b.load1]
  exact e
 ·rw[if_neg a] at e
  try simp(disch:=first|(simp only[push_cast];done)|omega) only[push_cast,b.iaddr]
  try simp(disch:=first|(simp only[push_cast];done)|omega) only[push_cast,b.load1]
  exact e
def xM0 (f:Value) (g:List (Int×Int)→Bool) (n:Nat):Prop:=∀(w:World) (G:Nat→Prop) (kv:Value) (xs:List (Int×Int)) (K:Value→World→Prop),PairsR G w kv xs→xs.length=n→K (.bool (g xs)) w→vcallv PP f #[kv] w K
theorem VO {s:ByteArray} {n:Int} {f ev tv kv:Value} {t:M.Tm} {g:List (Int×Int)→Bool} {m:Nat} {xs:List (Int×Int)} (j:xM0 f g m) (q:TermR F w tv t) (r:PairsR G w kv xs) (l:xs.length=m)
  (e:∀w',Ext w w'→K (.int .i64 (M.b2i (g xs))) w'):vcall PP j4 #[.agg ⟨[.string s,.int .i64 n,f]⟩,ev,tv,kv] w K:=by
 apply Jx
 obtain⟨ksv,rfl,k⟩:=q
 refine zD fun b1 v h b o c=>?_
 refine zD fun b2 x i a p u=>?_
 have d:=c.ext a
 simp(disch:=(simp only[push_cast];done)) only[push_cast,d.ld2]
 refine j _ _ _ _ _ (r.ext (b.trans a)) l ?_
 exact zT0 (e _ (b.trans a))
theorem Y50:xM0 (.func (.func Xg) #[] #[]) (fun _=>true) 0:=by
 intro w G kv xs K c b a
 simp only[push_cast]
 apply xi0
 exact a
theorem kinds2_fn:xM0 (.func (.func Xf) #[] #[]) (fun xs=>decide ((xs.getD 0 (0,0)).2=0)) 1:=by
 intro w G kv xs K a c b
 simp only[push_cast]
 apply xh0
 try simp(disch:=first|(simp only[push_cast];done)|omega) only[push_cast,a.iaddr]
 try simp(disch:=first|(simp only[push_cast];done)|omega) only[push_cast,a.load1]
 exact b
theorem kinds3_fn:xM0 (.func (.func Xe) #[] #[]) (fun xs=>decide ((xs.getD 0 (0,0)).2=1)&&decide ((xs.getD 1 (0,0)).2=1)) 2:=by
 intro w G kv xs K b d c
 simp only[push_cast]
 apply xg0
 try simp(disch:=first|(simp only[push_cast];done)|omega) only[push_cast,b.iaddr]
 try simp(disch:=first|(simp only[push_cast];done)|omega) only[push_cast,b.load1]
 refine zh (fun a=>?_) (fun a=>?_)
 ·try simp(disch:=first|(simp only[push_cast];done)|omega) only[push_cast,b.iaddr]
  try simp(disch:=first|(simp only[push_cast];done)|omega) only[push_cast,b.load1]
  simpa only[decide_eq_true a,Bool.true_and] using c
 ·simpa only[decide_eq_false a,Bool.false_and] using c
theorem kinds4_fn:xM0 (.func (.func Xd) #[] #[]) (fun xs=>decide ((xs.getD 0 (0,0)).2=1)||decide ((xs.getD 1 (0,0)).2=1)) 2:=by
 intro w G kv xs K b d c
 simp only[push_cast]
 apply xf0
 try simp(disch:=first|(simp only[push_cast];done)|omega) only[push_cast,b.iaddr]
 try simp(disch:=first|(simp only[push_cast];done)|omega) only[push_cast,b.load1]
 refine zh (fun a=>?_) (fun a=>?_)
 ·simpa only[decide_eq_true a,Bool.true_or] using c
 ·try simp(disch:=first|(simp only[push_cast];done)|omega) only[push_cast,b.iaddr]
  try simp(disch:=first|(simp only[push_cast];done)|omega) only[push_cast,b.load1]
  simpa only[decide_eq_false a,Bool.false_or] using c
end Go.Proofs.YtaekfnbnhjgboaaGreatDoor
end
section
namespace Go.M
open Go.Vc
def oneM (t:Tm) (a:Int):Int:=
 if t.op=25 then(if a=0 then 0 else-1) else if a<1 then-1
 else if t.op=22 then(if 0≤t.b∧t.b≤t.a∧t.a<a then t.a-t.b+1 else-1) else a
def bothM (o a b:Int):Int:=
 if o=26∨o=27 then(if a=0∧b=0 then 0 else-1)
 else if a<1∨b<1 then-1
 else if o=14 then(if a+b≤4 then a+b else-1)
 else if a≠b then-1 else if 15≤o then 0 else a
section
variable {ds:List Dcl} {env:List Int} {t:Tm}
def kid (t:Tm) (i:Nat):Tm:=t.ks.getD i default
theorem formed_iff:formed t=true↔arity t.op=t.ks.length∧plainM t=true:=by simp[formed]
theorem arity_one {o:Int} (h:arity o=1):o=1∨o=2∨o=22∨o=25:=by
 unfold arity at h
 repeat' split at h
 all_goals omega
theorem arity_two {o:Int} (h:arity o=2):(3≤o∧o≤17)∨o=26∨o=27:=by
 unfold arity at h
 repeat' split at h
 all_goals omega
theorem arity_three {o:Int} (h:arity o=3):o=23:=by
 unfold arity at h
 repeat' split at h
 all_goals omega
theorem arity_zero {o:Int} (h:arity o=0):o=20∨o=21∨o=24:=by
 unfold arity at h
 repeat' split at h
 all_goals omega
theorem ks1 (h:t.ks.length=1):t.ks=[kid t 0]:=by
 unfold kid
 generalize t.ks=ks at h⊢
 match ks,h with
 |[x],_=>rfl
theorem ks2 (h:t.ks.length=2):t.ks=[kid t 0,kid t 1]:=by
 unfold kid
 generalize t.ks=ks at h⊢
 match ks,h with
 |[x,y],_=>rfl
theorem ks3 (h:t.ks.length=3):t.ks=[kid t 0,kid t 1,kid t 2]:=by
 unfold kid
 generalize t.ks=ks at h⊢
 match ks,h with
 |[x,y,z],_=>rfl
theorem kid_mem {i:Nat} (h:i<t.ks.length):kid t i∈t.ks:=getD_mem h _
theorem sort_bad (h: ¬formed t=true):sortM ds t= -1:=by
 rw[sortM_eq];unfold sortF;rw[if_neg (fun x=>h x.1)]
theorem sort_leaf (a:formed t=true) (h:t.ks.length=0):sortM ds t=sortK ds t []:=by
 have:t.ks=[]:=List.eq_nil_of_length_eq_zero h
 rw[sortM_eq,this];unfold sortF
 rw[if_pos ⟨a,by simp⟩]
 rfl
theorem sort_one (g:declOk ds=true) (f:formed t=true) (h:t.ks.length=1):sortM ds t=oneM t (sortM ds (kid t 0)):=by
 have j:=arity_one (o:=t.op) (by have:=(formed_iff.1 f).1;omega)
 have i:=sort_range g (kid t 0)
 rw[sortM_eq,ks1 h]
 unfold sortF
 simp only[List.map_cons,List.map_nil,List.mem_singleton]
 generalize sortM ds (kid t 0)=s at i⊢
 unfold oneM
 by_cases hs:s= -1
 ·subst hs
  rw[if_neg (by simp)]
  split
  ·split<;>omega
  ·rfl
 ·rw[if_pos ⟨f,fun e=>hs e.symm⟩]
  unfold sortK
  rw[if_neg (by omega),if_neg (by omega)]
  by_cases c:t.op=25
  ·rw[if_pos (by omega),if_pos c]
   by_cases d:s=0
   ·simp[d]
   ·simp[d]
  rw[if_neg (by omega),if_neg c,if_neg (by omega)]
  simp only[List.getD_cons_zero]
  by_cases a:t.op=22
  ·rw[if_pos a,if_pos a]
   by_cases b:s<1
   ·rw[if_pos b,if_neg (by omega)]
   ·rw[if_neg b]
  ·rw[if_neg a,if_neg a,if_pos (by omega)]
   by_cases b:s<1
   ·rw[if_pos b,if_neg (by omega)]
   ·rw[if_neg b,if_pos (by omega)]
theorem sort_two (e:declOk ds=true) (f:formed t=true) (h:t.ks.length=2):sortM ds t=bothM t.op (sortM ds (kid t 0)) (sortM ds (kid t 1)):=by
 have i:=arity_two (o:=t.op) (by have:=(formed_iff.1 f).1;omega)
 have g:=sort_range e (kid t 0)
 have d:=sort_range e (kid t 1)
 rw[sortM_eq,ks2 h]
 unfold sortF
 simp only[List.map_cons,List.map_nil,List.mem_cons,List.not_mem_nil,or_false]
 generalize sortM ds (kid t 0)=a at g⊢
 generalize sortM ds (kid t 1)=b at d⊢
 unfold bothM
 by_cases hs: -1=a∨ -1=b
 ·rw[if_neg (fun x=>x.2 hs)]
  repeat' split
  all_goals omega
 ·rw[if_pos ⟨f,hs⟩]
  unfold sortK
  have c:([a,b].any fun x=>decide (x≠0))=decide (a≠0∨b≠0):=by
   simp only[List.any_cons,List.any_nil,Bool.or_false,Bool.decide_or]
  rw[c]
  simp only[List.getD_cons_zero,List.getD_cons_succ,decide_eq_true_eq]
  rw[if_neg (show¬t.op=20 by omega),if_neg (show¬t.op=21 by omega),if_neg (show¬t.op=23 by omega),if_neg (show¬t.op=22 by omega)]
  repeat' split
  all_goals omega
theorem sort_three (e:formed t=true) (h:t.ks.length=3):sortM ds t=if sortM ds (kid t 0)≠0∨sortM ds (kid t 1)≠sortM ds (kid t 2) then-1 else sortM ds (kid t 1):=by
 have f:=arity_three (o:=t.op) (by have:=(formed_iff.1 e).1;omega)
 rw[sortM_eq,ks3 h]
 unfold sortF
 simp only[List.map_cons,List.map_nil,List.mem_cons,List.not_mem_nil,or_false]
 generalize sortM ds (kid t 0)=a
 generalize sortM ds (kid t 1)=b
 generalize sortM ds (kid t 2)=c
 by_cases hs: -1=a∨ -1=b∨ -1=c
 ·rw[if_neg (fun x=>x.2 hs)]
  split
  ·rfl
  ·omega
 ·rw[if_pos ⟨e,hs⟩]
  unfold sortK
  rw[if_neg (by omega),if_neg (by omega),if_neg (by omega),if_pos f]
  simp only[List.getD_cons_zero,List.getD_cons_succ]
  by_cases d:a=0∧b=c
  ·rw[if_pos d,if_neg (by omega)]
  ·rw[if_neg d,if_pos (by omega)]
theorem kO0 (h:sortM ds t≠ -1) {i:Nat} (hi:i<t.ks.length):sortM ds (kid t i)≠ -1:=(sort_parts h).2.1 _ (kid_mem hi)
theorem Je0 (he:envOk ds env=true) (h:sortM ds t≠ -1) {i:Nat} (hi:i<t.ks.length):inS (sortM ds (kid t i)) (evalM ds env (kid t i)):=eval_in he _ (kO0 h hi)
theorem name_found (h:sortM ds t≠ -1) (a:t.op=21):0≤findD ds t.s:=by
 obtain⟨_,_,hs⟩:=sort_parts h
 rw[hs] at h
 unfold sortK at h
 rw[if_neg (by omega),if_pos a] at h
 split at h
 ·exact absurd rfl h
 ·omega
end
def wordL (o:Int):List UInt8:=
 if o=1 then[110,111,116] else if o=2 then[110,101,103] else if o=3 then[97,110,100] else if o=4 then[111,114] else if o=5 then[120,111,114]
 else if o=6 then[97,100,100] else if o=7 then[115,117,98] else if o=8 then[109,117,108] else if o=9 then[100,105,118] else if o=10 then[114,101,109]
 else if o=11 then[115,104,108] else if o=12 then[115,104,114] else if o=13 then[115,97,114] else if o=14 then[99,97,116] else if o=15 then[115,97,109,101]
 else if o=16 then[108,101,115,115] else if o=17 then[117,110,100,101,114] else if o=22 then[99,117,116] else if o=23 then[105,102] else if o=25 then[110,111]
 else if o=26 then[98,111,116,104] else if o=27 then[97,110,121] else[]
end Go.M
end
section
namespace Go.Proofs.YtaekfnbnhjgboaaGreatDoor
open Go Go.Vc Go.Proofs
variable {w:World} {K:Value→World→Prop} {F G:Nat→Prop}
def EnvM (w:World) (mb:Nat) (ds:List M.Dcl) (env:List Int):Prop:= ∃f,MapF .string w mb f∧∀s,0≤M.findD ds s→(Value.string s,Value.int .i64 (env.getD (M.findD ds s).toNat 0))∈f
theorem EnvM.ext {mb:Nat} {ds:List M.Dcl} {env:List Int} {w':World} (h:EnvM w mb ds env) (he:Ext w w'):EnvM w' mb ds env:=by
 obtain⟨f,a,b⟩:=h;exact⟨f,a.ext he,b⟩
def kTy (o:Int):TypeId:=if o≤2 then zQ else if o≤13 then zU else if o=14 then zX else if o≤17 then zL else if o=20 then zT else if o=21 then zO else if o=22 then zR else if o=23 then zY else zE
structure KindR (o:Int) (v:Value):Prop where
 word:∃(s:ByteArray) (m:Int) (r:List Value),v= .iface (kTy o) (.agg ⟨.string s:: .int .i64 m::r⟩)∧(o<24→r=[])∧(24≤o→∃f,r=[f]∧f.oneCell'=true)∧(o=20∨o=21∨o=24∨s.data.toList=M.wordL o)
 iface:∃ty x,v= .iface ty x
 kids:∀(w:World) (K:Value→World→Prop),(∀w',Ext w w'→K (.int .i64 (M.arity o)) w')→vinvoke PP v mn_kids #[] w K
 sort:∀(w:World) (K:Value→World→Prop) (F G H:Nat→Prop) (dv tv kv:Value) (ds:List M.Dcl) (t:M.Tm) (xs:List Int),t.op=o→DclsR F w dv ds→TermR G w tv t→Ints H w kv xs→(xs.length:Int)=M.arity o→(∀i,-1≤xs.getD i 0∧xs.getD i 0≤4)→
  (∀w',Ext w w'→K (.int .i64 (M.sortK ds t xs)) w')→vinvoke PP v Yb #[dv,tv,kv] w K
 value:∀(w:World) (K:Value→World→Prop) (G H:Nat→Prop) (ev tv kv:Value) (ds:List M.Dcl) (env:List Int) (t:M.Tm) (xs:List (Int×Int)),t.op=o→(t.op=21→∃mb,ev= .map (some mb)∧EnvM w mb ds env)→TermR G w tv t→PairsR H w kv xs→(xs.length:Int)=M.arity o→(∀i,i<xs.length→M.inS (xs.getD i (0,0)).1 (xs.getD i (0,0)).2)→
  M.sortK ds t (xs.map (·.1))≠ -1→(∀w',Ext w w'→K (.int .i64 (M.valK ds env t xs)) w')→vinvoke PP v ky #[ev,tv,kv] w K
section
variable {ds:List M.Dcl} {env:List Int} {t:M.Tm} {xs:List Int} {ys:List (Int×Int)}
theorem YL {i:Nat} (h:i<ys.length):(ys.map (·.1)).getD i 0=(ys.getD i (0,0)).1:=M.getD_map _ h _ _
theorem kind_un {o:Int} {s:ByteArray} (d:o=1∨o=2) (hw:s.data.toList=M.wordL o):KindR o (.iface zQ (KV s 1)) where
 word:=⟨_,_,_,by(rw[show kTy o=zQ by unfold kTy;rw[if_pos (by omega)]];try rfl),fun _=>rfl,fun h=>by omega,.inr (.inr (.inr hw))⟩
 iface:=⟨_,_,rfl⟩
 kids:=fun w K b=>y7 (Vp _ _) (kA fun w' he=>by have:=b w' he;rcases d with rfl|rfl<;>exact this)
 sort:=fun w K F G H dv tv kv ds t xs f l e g c i b=>by
  have a:xs.length=1:=by rcases d with rfl|rfl<;>simp[M.arity] at c<;>omega
  refine y7 (Vo _ _) (unKind_sort_spec e g a fun w' he=>?_)
  have:=b w' he
  unfold M.sortK at this
  rwa[if_neg (by omega),if_neg (by omega),if_neg (by omega),if_neg (by omega),if_neg (by omega),if_pos (by omega)] at this
 value:=fun w K G H mb tv kv ds env t ys f he e g c i hs b=>by
  have a:ys.length=1:=by rcases d with rfl|rfl<;>simp[M.arity] at c<;>omega
  refine y7 (K7 _ _) (unKind_value_spec e g a fun w' he=>?_)
  have:=b w' he
  unfold M.sortK at hs
  rw[if_neg (by omega),if_neg (by omega),if_neg (by omega),if_neg (by omega),if_neg (by omega),if_pos (by omega),YL (by omega)] at hs
  have j:0<(ys.getD 0 (0,0)).1:=by
   by_cases h:0<(ys.getD 0 (0,0)).1
   ·exact h
   ·rw[if_neg h] at hs;exact absurd rfl hs
  have k:=M.inS_pos (i 0 (by omega)) j
  unfold M.valK at this
  rw[if_neg (by omega),if_neg (by omega),if_neg (by omega),if_neg (by omega),if_neg (by omega),if_neg (by omega),if_neg (by omega),if_neg (by omega),if_pos (by omega)] at this
  unfold M.vecUn
  rw[if_pos ⟨k,by omega⟩]
  exact this
theorem kind_bin {o:Int} {s:ByteArray} (m:3≤o) (k:o≤13) (hw:s.data.toList=M.wordL o):KindR o (.iface zU (KV s 2)) where
 word:=⟨_,_,_,by(rw[show kTy o=zU by unfold kTy;rw[if_neg (by omega),if_pos (by omega)]];try rfl),fun _=>rfl,fun h=>by omega,.inr (.inr (.inr hw))⟩
 iface:=⟨_,_,rfl⟩
 kids:=fun w K b=>y7 (Kk _ _) (kA fun w' he=>by
  have:=b w' he
  unfold M.arity at this
  rwa[if_neg (by omega),if_neg (by omega),if_neg (by omega),if_neg (by omega),if_pos (by omega)] at this)
 sort:=fun w K F G H dv tv kv ds t xs f n e i c d b=>by
  have a:xs.length=2:=by
   unfold M.arity at c
   rw[if_neg (by omega),if_neg (by omega),if_neg (by omega),if_neg (by omega),if_pos (by omega)] at c;omega
  refine y7 (Kj _ _) (binKind_sort_spec e i a fun w' he=>?_)
  have:=b w' he
  unfold M.sortK at this
  rwa[if_neg (by omega),if_neg (by omega),if_neg (by omega),if_neg (by omega),if_neg (by omega),if_neg (by omega),if_neg (by omega),if_neg (by omega)] at this
 value:=fun w K G H mb tv kv ds env t ys f he e i c d hs b=>by
  have a:ys.length=2:=by
   unfold M.arity at c
   rw[if_neg (by omega),if_neg (by omega),if_neg (by omega),if_neg (by omega),if_pos (by omega)] at c;omega
  refine y7 (Ji _ _) (binKind_value_spec e i a fun w' he=>?_)
  have:=b w' he
  unfold M.sortK at hs
  rw[if_neg (by omega),if_neg (by omega),if_neg (by omega),if_neg (by omega),if_neg (by omega),if_neg (by omega),if_neg (by omega),if_neg (by omega),YL (by omega),YL (by omega)] at hs
  have j:0<(ys.getD 0 (0,0)).1∧(ys.getD 0 (0,0)).1=(ys.getD 1 (0,0)).1:=by
   by_cases h:0<(ys.getD 0 (0,0)).1∧(ys.getD 0 (0,0)).1=(ys.getD 1 (0,0)).1
   ·exact h
   ·rw[if_neg h] at hs;exact absurd rfl hs
  have l:=M.inS_pos (d 0 (by omega)) j.1
  have g:=M.inS_pos (d 1 (by omega)) (by omega)
  unfold M.valK at this
  rw[if_neg (by omega),if_neg (by omega),if_neg (by omega),if_neg (by omega),if_neg (by omega),if_neg (by omega),if_neg (by omega),if_neg (by omega),if_neg (by omega),if_neg (by omega),if_neg (by omega)] at this
  unfold M.vecBin
  rw[if_pos ⟨l,g⟩,if_neg (by omega),if_pos ⟨by omega,by omega,j.2⟩]
  exact this
theorem kind_cat {s:ByteArray} (hw:s.data.toList=M.wordL 14):KindR 14 (.iface zX (KV s 2)) where
 word:=⟨_,_,_,rfl,fun _=>rfl,fun h=>by omega,.inr (.inr (.inr hw))⟩
 iface:=⟨_,_,rfl⟩
 kids:=fun w K b=>y7 (Kh _ _) (kA fun w' he=>b w' he)
 sort:=fun w K F G H dv tv kv ds t xs c l g j e d b=>by
  have a:xs.length=2:=by simp[M.arity] at e;omega
  refine y7 (Kg _ _) (catKind_sort_spec g j a d fun w' he=>?_)
  have:=b w' he
  unfold M.sortK at this
  rwa[if_neg (by omega),if_neg (by omega),if_neg (by omega),if_neg (by omega),if_neg (by omega),if_neg (by omega),if_pos (by omega)] at this
 value:=fun w K G H mb tv kv ds env t ys c he g j e d hs b=>by
  have a:ys.length=2:=by simp[M.arity] at e;omega
  refine y7 (Je _ _) (catKind_value_spec g j a fun w' he=>?_)
  have:=b w' he
  unfold M.sortK at hs
  rw[if_neg (by omega),if_neg (by omega),if_neg (by omega),if_neg (by omega),if_neg (by omega),if_neg (by omega),if_pos (by omega),YL (by omega),YL (by omega)] at hs
  have f:0<(ys.getD 0 (0,0)).1∧0<(ys.getD 1 (0,0)).1∧(ys.getD 0 (0,0)).1+(ys.getD 1 (0,0)).1≤4:=by
   by_cases h:0<(ys.getD 0 (0,0)).1∧0<(ys.getD 1 (0,0)).1∧(ys.getD 0 (0,0)).1+(ys.getD 1 (0,0)).1≤4
   ·exact h
   ·rw[if_neg h] at hs;exact absurd rfl hs
  have k:=M.inS_pos (d 0 (by omega)) f.1
  have i:=M.inS_pos (d 1 (by omega)) f.2.1
  unfold M.valK at this
  rw[if_neg (by omega),if_neg (by omega),if_neg (by omega),if_neg (by omega),if_neg (by omega),if_neg (by omega),if_neg (by omega),if_neg (by omega),if_neg (by omega),if_pos (by omega)] at this
  unfold M.vecBin
  rw[if_pos ⟨k,i⟩,if_pos c,if_pos f.2.2]
  exact this
theorem kind_cmp {o:Int} {s:ByteArray} (m:15≤o) (k:o≤17) (hw:s.data.toList=M.wordL o):KindR o (.iface zL (KV s 2)) where
 word:=⟨_,_,_,by(rw[show kTy o=zL by unfold kTy;rw[if_neg (by omega),if_neg (by omega),if_neg (by omega),if_pos (by omega)]];try rfl),fun _=>rfl,fun h=>by omega,.inr (.inr (.inr hw))⟩
 iface:=⟨_,_,rfl⟩
 kids:=fun w K b=>y7 (Ke _ _) (kA fun w' he=>by
  have:=b w' he
  unfold M.arity at this
  rwa[if_neg (by omega),if_neg (by omega),if_neg (by omega),if_neg (by omega),if_pos (by omega)] at this)
 sort:=fun w K F G H dv tv kv ds t xs f n e i c d b=>by
  have a:xs.length=2:=by
   unfold M.arity at c
   rw[if_neg (by omega),if_neg (by omega),if_neg (by omega),if_neg (by omega),if_pos (by omega)] at c;omega
  refine y7 (Kd _ _) (cmpKind_sort_spec e i a fun w' he=>?_)
  have:=b w' he
  unfold M.sortK at this
  rwa[if_neg (by omega),if_neg (by omega),if_neg (by omega),if_neg (by omega),if_neg (by omega),if_neg (by omega),if_neg (by omega),if_pos (by omega)] at this
 value:=fun w K G H mb tv kv ds env t ys f he e i c d hs b=>by
  have a:ys.length=2:=by
   unfold M.arity at c
   rw[if_neg (by omega),if_neg (by omega),if_neg (by omega),if_neg (by omega),if_pos (by omega)] at c;omega
  refine y7 (Jd _ _) (cmpKind_value_spec e i a fun w' he=>?_)
  have:=b w' he
  unfold M.sortK at hs
  rw[if_neg (by omega),if_neg (by omega),if_neg (by omega),if_neg (by omega),if_neg (by omega),if_neg (by omega),if_neg (by omega),if_pos (by omega),YL (by omega),YL (by omega)] at hs
  have j:0<(ys.getD 0 (0,0)).1∧(ys.getD 0 (0,0)).1=(ys.getD 1 (0,0)).1:=by
   by_cases h:0<(ys.getD 0 (0,0)).1∧(ys.getD 0 (0,0)).1=(ys.getD 1 (0,0)).1
   ·exact h
   ·rw[if_neg h] at hs;exact absurd rfl hs
  have l:=M.inS_pos (d 0 (by omega)) j.1
  have g:=M.inS_pos (d 1 (by omega)) (by omega)
  unfold M.valK at this
  rw[if_neg (by omega),if_neg (by omega),if_neg (by omega),if_neg (by omega),if_neg (by omega),if_neg (by omega),if_neg (by omega),if_neg (by omega),if_neg (by omega),if_neg (by omega),if_pos (by omega)] at this
  unfold M.vecCmp
  rw[if_pos ⟨l,g,j.2,by omega,by omega⟩]
  exact this
theorem kind_vec {s:ByteArray}:KindR 20 (.iface zT (KV s 0)) where
 word:=⟨_,_,_,rfl,fun _=>rfl,fun h=>by omega,.inl rfl⟩
 iface:=⟨_,_,rfl⟩
 kids:=fun w K b=>y7 (K6 _ _) (kA fun w' he=>b w' he)
 sort:=fun w K F G H dv tv kv ds t xs a g c f d e b=>by
  refine y7 (K5 _ _) (U3 c fun w' he=>?_)
  have:=b w' he
  unfold M.sortK at this
  rwa[if_pos a] at this
 value:=fun w K G H mb tv kv ds env t ys a he c f d e hs b=>by
  refine y7 (J9 _ _) (VV c fun w' he=>?_)
  have:=b w' he
  unfold M.valK at this
  rwa[if_pos a] at this
theorem kind_name {s:ByteArray}:KindR 21 (.iface zO (KV s 0)) where
 word:=⟨_,_,_,rfl,fun _=>rfl,fun h=>by omega,.inr (.inl rfl)⟩
 iface:=⟨_,_,rfl⟩
 kids:=fun w K b=>y7 (Jb _ _) (kA fun w' he=>b w' he)
 sort:=fun w K F G H dv tv kv ds t xs a g e k i j b=>by
  refine y7 (Ja _ _) (nameKind_sort_spec e g fun w' he=>?_)
  have:=b w' he
  unfold M.sortK at this
  rwa[if_neg (by omega),if_pos a] at this
 value:=fun w K G H mb tv kv ds env t ys a he e k i j hs b=>by
  obtain⟨mb,rfl,f,hm,d⟩:=he a
  unfold M.sortK at hs
  rw[if_neg (by omega),if_pos a] at hs
  have c:0≤M.findD ds t.s:=by
   by_cases h:M.findD ds t.s<0
   ·rw[if_pos h] at hs;exact absurd rfl hs
   ·omega
  refine y7 (QC _ _) (Vk e hm (d _ c) fun w' he=>?_)
  have:=b w' he
  unfold M.valK at this
  rwa[if_neg (by omega),if_pos a] at this
theorem kind_cut {s:ByteArray} (hw:s.data.toList=M.wordL 22):KindR 22 (.iface zR (KV s 1)) where
 word:=⟨_,_,_,rfl,fun _=>rfl,fun h=>by omega,.inr (.inr (.inr hw))⟩
 iface:=⟨_,_,rfl⟩
 kids:=fun w K d=>y7 (Kb _ _) (kA fun w' he=>d w' he)
 sort:=fun w K F G H dv tv kv ds t xs i m g j e f d=>by
  have c:xs.length=1:=by simp[M.arity] at e;omega
  refine y7 (Ka _ _) (cutKind_sort_spec g j c f fun w' he=>?_)
  have:=d w' he
  unfold M.sortK at this
  rwa[if_neg (by omega),if_neg (by omega),if_neg (by omega),if_neg (by omega),if_pos (by omega)] at this
 value:=fun w K G H mb tv kv ds env t ys i he g j e f hs d=>by
  have c:ys.length=1:=by simp[M.arity] at e;omega
  refine y7 (Jc _ _) (cutKind_value_spec g j c fun w' he=>?_)
  have:=d w' he
  unfold M.sortK at hs
  rw[if_neg (by omega),if_neg (by omega),if_neg (by omega),if_neg (by omega),if_pos (by omega),YL (by omega)] at hs
  have k:0≤t.b∧t.b≤t.a∧t.a<(ys.getD 0 (0,0)).1:=by
   by_cases h:0≤t.b∧t.b≤t.a∧t.a<(ys.getD 0 (0,0)).1
   ·exact h
   ·rw[if_neg h] at hs;exact absurd rfl hs
  have l:=M.inS_pos (f 0 (by omega)) (by omega)
  unfold M.valK at this
  rw[if_neg (by omega),if_neg (by omega),if_neg (by omega),if_neg (by omega),if_neg (by omega),if_neg (by omega),if_neg (by omega),if_pos (by omega)] at this
  unfold M.vecCut
  rw[if_pos ⟨l,k⟩]
  exact this
theorem kind_if {s:ByteArray} (hw:s.data.toList=M.wordL 23):KindR 23 (.iface zY (KV s 3)) where
 word:=⟨_,_,_,rfl,fun _=>rfl,fun h=>by omega,.inr (.inr (.inr hw))⟩
 iface:=⟨_,_,rfl⟩
 kids:=fun w K b=>y7 (Vs _ _) (kA fun w' he=>b w' he)
 sort:=fun w K F G H dv tv kv ds t xs e i d f c g b=>by
  have a:xs.length=3:=by simp[M.arity] at c;omega
  refine y7 (Vr _ _) (ifKind_sort_spec d f a fun w' he=>?_)
  have:=b w' he
  unfold M.sortK at this
  rwa[if_neg (by omega),if_neg (by omega),if_neg (by omega),if_pos (by omega)] at this
 value:=fun w K G H mb tv kv ds env t ys e he d f c g hs b=>by
  have a:ys.length=3:=by simp[M.arity] at c;omega
  refine y7 (K8 _ _) (ifKind_value_spec d f a fun w' he=>?_)
  have:=b w' he
  unfold M.valK at this
  rwa[if_neg (by omega),if_neg (by omega),if_neg (by omega),if_neg (by omega),if_neg (by omega),if_neg (by omega),if_pos (by omega)] at this
theorem kind_bool {o:Int} {s:ByteArray} {f:Value} {g:List (Int×Int)→Bool} {m:Nat} (q:24≤o) (i:M.arity o=m) (j:xM0 f g m) (c:f.oneCell'=true) (hw:o=24∨s.data.toList=M.wordL o) (k:∀ds env (t:M.Tm) ys,t.op=o→M.valK ds env t ys=M.b2i (g ys)):
  KindR o (.iface zE (.agg ⟨[.string s,.int .i64 m,f]⟩)) where
 word:=⟨_,_,_,by rw[show kTy o=zE by unfold kTy;rw[if_neg (by omega),if_neg (by omega),if_neg (by omega),if_neg (by omega),if_neg (by omega),if_neg (by omega),if_neg (by omega),if_neg (by omega)]],fun h=>by omega,fun _=>⟨_,rfl,c⟩,.inr (.inr hw)⟩
 iface:=⟨_,_,rfl⟩
 kids:=fun w K a=>y7 (Jh _ _ _) (kA fun w' he=>by have:=a w' he;rwa[i] at this)
 sort:=fun w K F G H dv tv kv ds t xs b p d e l n a=>by
  refine y7 (Jg _ _ _) (Ws d e fun w' he=>?_)
  have:=a w' he
  unfold M.sortK at this
  rwa[if_neg (by omega),if_neg (by omega),if_pos (by omega)] at this
 value:=fun w K G H mb tv kv ds env t ys b he d e l n hs a=>by
  refine y7 (QD _ _ _) (VO j d e (by omega) fun w' he=>?_)
  have:=a w' he
  rwa[k ds env t ys b] at this
end
def KindsR (w:World) (mb:Nat):Prop:= ∃f,MapF (.int .i64) w mb f∧(∀o,0≤M.arity o→∃v,(Value.int .i64 o,v)∈f∧KindR o v)∧∀p,p∈f→∃o,p.1= .int .i64 o∧0≤M.arity o
theorem KindsR.ext {mb:Nat} {w':World} (h:KindsR w mb) (he:Ext w w'):KindsR w' mb:=by
 obtain⟨f,a,b⟩:=h;exact⟨f,a.ext he,b⟩
end Go.Proofs.YtaekfnbnhjgboaaGreatDoor
end
section
namespace Go.Proofs.YtaekfnbnhjgboaaGreatDoor
open Go Go.Vc Go.Proofs
variable {w:World} {K:Value→World→Prop} {F G:Nat→Prop}
theorem ZR:Xr0 PP zA (.int .i64) qo:=⟨_,Qf,by kernel_rfl⟩
def KS (w0 w:World) (b:Nat) (S:Int→Prop):Prop:=Ext w0 w∧w0.heap.size≤b∧∃f,MapF (.int .i64) w b f∧(∀o,S o→∃v,(Value.int .i64 o,v)∈f∧KindR o v)∧∀p,p∈f→∃o,p.1= .int .i64 o∧S o
theorem KS.set {w0 w:World} {b:Nat} {S:Int→Prop} {o:Int} {v:Value} (h:KS w0 w b S) (q: ¬S o) (r:KindR o v) (m:∀w',KS w0 w' b (fun x=>x=o∨S x)→Same (· =b) w w'→K undef w'):
  Z7 PP zA (.map (some b)) (.int .i64 o) v w K:=by
 obtain⟨he,k,f,hm,l,j⟩:=h
 refine j30 ZR hm (Jm o) (fun x i=>?_) fun w' g hs _=>m w' ⟨Ext.then he hs fun y s=>by subst s;exact k,k,_,g,fun x i=>?_,fun p c=>?_⟩ hs
 ·obtain⟨o',a,d⟩:=j _ i
  cases a;exact q d
 ·by_cases e:x=o
  ·subst e
   exact⟨v,List.mem_append.2 (.inr (List.mem_singleton.2 rfl)),r⟩
  ·obtain⟨u,hu,n⟩:=l x (i.resolve_left e)
   exact⟨u,List.mem_append.2 (.inl hu),n⟩
 ·rcases List.mem_append.1 c with c|c
  ·obtain⟨o',a,d⟩:=j _ c
   exact⟨o',a,.inr d⟩
  ·rw[List.mem_singleton.1 c]
   exact⟨o,rfl,.inl rfl⟩
theorem KS.ext {w0 w w':World} {b:Nat} {S:Int→Prop} (h:KS w0 w b S) (he:Ext w w'):KS w0 w' b S:=by
 obtain⟨a,c,f,hm,r⟩:=h;exact⟨a.trans he,c,f,hm.ext he,r⟩
theorem KS.congr {w0 w:World} {b:Nat} {S S':Int→Prop} (h:KS w0 w b S) (a:∀x,S x↔S' x):KS w0 w b S':=by
 have:S=S':=funext fun x=>propext (a x)
 subst this;exact h
theorem KS.kinds {w0 w:World} {b:Nat} {S:Int→Prop} (h:KS w0 w b S) (a:∀o,S o↔0≤M.arity o):KindsR w b:=by
 obtain⟨he,k,f,hm,c,d⟩:=h
 refine⟨f,hm,fun o i=>c o ((a o).2 i),fun p j=>?_⟩
 obtain⟨o,e,g⟩:=d p j
 exact⟨o,e,(a o).1 g⟩
@[push_cast] theorem bd_named (s:ByteArray) (n:Int):zH PP yd [(0,.string s),(1,.int .i64 n)] w K=K (KV s n) w:=yh k00 (us:=[[.string s],[.int .i64 n]]) rfl rfl
@[push_cast] theorem Jq0 (s:ByteArray) (n:Int):zH PP zQ [(0,KV s n)] w K=K (KV s n) w:=yh qY0 (us:=[[.string s,.int .i64 n]]) rfl rfl
@[push_cast] theorem QW0 (s:ByteArray) (n:Int):zH PP zU [(0,KV s n)] w K=K (KV s n) w:=yh xx0 (us:=[[.string s,.int .i64 n]]) rfl rfl
@[push_cast] theorem QV0 (s:ByteArray) (n:Int):zH PP zX [(0,KV s n)] w K=K (KV s n) w:=yh xu0 (us:=[[.string s,.int .i64 n]]) rfl rfl
@[push_cast] theorem QU0 (s:ByteArray) (n:Int):zH PP zL [(0,KV s n)] w K=K (KV s n) w:=yh xs0 (us:=[[.string s,.int .i64 n]]) rfl rfl
@[push_cast] theorem QT0 (s:ByteArray) (n:Int):zH PP zR [(0,KV s n)] w K=K (KV s n) w:=yh xr0 (us:=[[.string s,.int .i64 n]]) rfl rfl
@[push_cast] theorem Jr0 (s:ByteArray) (n:Int):zH PP zY [(0,KV s n)] w K=K (KV s n) w:=yh qZ0 (us:=[[.string s,.int .i64 n]]) rfl rfl
@[push_cast] theorem QS0:zH PP zT [] w K=K (KV ⟨#[]⟩ 0) w:=yh xq0 (us:=[]) rfl rfl
@[push_cast] theorem QI0:zH PP zO [] w K=K (KV ⟨#[]⟩ 0) w:=yh yC0 (us:=[]) rfl rfl
@[push_cast] theorem QL0 (s:ByteArray) (n:Int) (f:Fn) (a c:Array Value):zH PP zE [(0,KV s n),(1,.func f a c)] w K=K (.agg ⟨[.string s,.int .i64 n,.func f a c]⟩) w:=yh yD0 (us:=[[.string s,.int .i64 n],[.func f a c]]) rfl rfl
theorem val24 (ds:List M.Dcl) (env:List Int) (t:M.Tm) (ys:List (Int×Int)) (h:t.op=24):M.valK ds env t ys=M.b2i true:=by simp[M.valK,h,M.b2i]
theorem val25 (ds:List M.Dcl) (env:List Int) (t:M.Tm) (ys:List (Int×Int)) (h:t.op=25):M.valK ds env t ys=M.b2i (decide ((ys.getD 0 (0,0)).2=0)):=by unfold M.valK;simp only[h];rfl
theorem val26 (ds:List M.Dcl) (env:List Int) (t:M.Tm) (ys:List (Int×Int)) (h:t.op=26):M.valK ds env t ys=M.b2i (decide ((ys.getD 0 (0,0)).2=1)&&decide ((ys.getD 1 (0,0)).2=1)):=by unfold M.valK;simp only[h];rfl
theorem val27 (ds:List M.Dcl) (env:List Int) (t:M.Tm) (ys:List (Int×Int)) (h:t.op=27):M.valK ds env t ys=M.b2i (decide ((ys.getD 0 (0,0)).2=1)||decide ((ys.getD 1 (0,0)).2=1)):=by unfold M.valK;simp only[h];rfl
def binWords:List ByteArray:=[⟨#[97,110,100]⟩,⟨#[111,114]⟩,⟨#[120,111,114]⟩,⟨#[97,100,100]⟩,⟨#[115,117,98]⟩,⟨#[109,117,108]⟩,⟨#[100,105,118]⟩,⟨#[114,101,109]⟩,⟨#[115,104,108]⟩,⟨#[115,104,114]⟩,⟨#[115,97,114]⟩]
theorem XM0:∀i:Fin 11,(binWords.getD i.1 ⟨#[]⟩).data.toList=M.wordL (3+(i.1:Int)):=by decide
theorem kinds_new (W:∀w' b,Ext w w'→KindsR w' b→w.heap.size≤b→K (.map (some b)) w'):vcall PP jV #[] w K:=by
 apply jN0
 refine xP0 ZR fun b X hb hm he hs=>?_
 have J:KS w X b (fun _=>False):=⟨he,by omega,[],hm,fun _ h=>h.elim,fun _ h=>by cases h⟩
 simp only[push_cast]
 refine J.set (by decide) (kind_un (.inl rfl) (by decide)) fun w2 L _=>?_
 refine L.set (by decide) (kind_un (.inr rfl) (by decide)) fun w3 N _=>?_
 refine N.set (by decide) (kind_cat (by decide)) fun w4 O _=>?_
 refine O.set (by decide) (kind_cmp (by decide) (by decide) (by decide)) fun w5 P _=>?_
 refine P.set (by decide) (kind_cmp (by decide) (by decide) (by decide)) fun w6 Q _=>?_
 refine Q.set (by decide) (kind_cmp (by decide) (by decide) (by decide)) fun w7 R _=>?_
 refine R.set (by decide) kind_vec fun w8 S _=>?_
 refine S.set (by decide) kind_name fun w9 T _=>?_
 refine T.set (by decide) (kind_cut (by decide)) fun w10 U _=>?_
 refine U.set (by decide) (kind_if (by decide)) fun Y l _=>?_
 refine l.set (by decide) (kind_bool (m:=0) (by decide) rfl Y50 rfl (.inl rfl) val24) fun Z n _=>?_
 refine n.set (by decide) (kind_bool (m:=1) (by decide) rfl kinds2_fn rfl (.inr (by decide)) val25) fun a0 p _=>?_
 refine p.set (by decide) (kind_bool (m:=2) (by decide) rfl kinds3_fn rfl (.inr (by decide)) val26) fun a1 q _=>?_
 refine q.set (by decide) (kind_bool (m:=2) (by decide) rfl kinds4_fn rfl (.inr (by decide)) val27) fun a2 g _=>?_
 refine vbuildS_row1 (xs:=binWords.map .string) Xn (by kernel_rfl) Xk (fun x B=>by obtain⟨s,_,rfl⟩:=List.mem_map.1 B;rfl) (by decide) fun bs D F j G t=>?_
 have d:Vals (· =bs) D (.slice (some ⟨bs,0,none⟩) (binWords.map Value.string).length (binWords.map Value.string).length) (binWords.map Value.string):=t.sl1 rfl (by decide)
 have r:=g.ext j
 have v:bs≠b:=by
  obtain⟨_,_,f,hm,_⟩:=g
  have:=hm.lt;omega
 have hlen:(binWords.map Value.string).length=11:=rfl
 simp(disch:=(simp only[push_cast];done)) only[push_cast,d.len]
 rw[hlen]
 rw[hlen] at d
 refine vloop_up 11 (fun i u w'=>u=[.int .i64 i]∧Vals (· =bs) w' (.slice (some ⟨bs,0,none⟩) 11 11) (binWords.map Value.string)∧KS w w' b fun x=>(3≤x∧x<3+(i:Int))∨x=27∨x=26∨x=25∨x=24∨x=23∨x=22∨x=21∨x=20∨x=17∨x=16∨x=15∨x=14∨x=2∨x=1) ⟨rfl,d,r.congr fun x=>by simp only[or_false];constructor<;>intro h<;>omega⟩ ?_
 rintro i _ _ E C hi ⟨rfl,A,k⟩ V
 simp only[push_cast]
 refine zh (fun a=>?_) (fun a=>?_)
 ·have c:i<11:=by omega
  have H:(binWords.map Value.string).getD i undef= .string (binWords.getD i ⟨#[]⟩):=M.getD_map _ (show i<binWords.length from c) _ _
  have I:IntKind.i64.wrap (3+(i:Int))=3+(i:Int):=zy (by omega) (by omega)
  rw[A.iaddr (by kernel_rfl) (by omega) (by rw[hlen];omega),Int.toNat_natCast,A.load (by kernel_rfl) (by rw[hlen];omega),H]
  simp only[push_cast,I]
  refine k.set (by omega) (kind_bin (by omega) (by omega) (XM0 ⟨i,c⟩)) fun a3 y z=>?_
  try simp only[push_cast]
  rw[inc64' (by omega)]
  exact V c _ _ ⟨rfl,A.same z fun x B _ e=>v (B.symm.trans e),y.congr fun x=>by constructor<;>intro h<;>omega⟩
 ·have:i=11:=by omega
  subst this
  refine W E b k.1 (k.kinds fun o=>?_) k.2.1
  constructor
  ·intro h
   have:(1≤o∧o≤17)∨(20≤o∧o≤27):=by omega
   unfold M.arity
   repeat' split
   all_goals omega
  ·intro h
   have:=M.arity_ops h
   omega
theorem xH0 (d:∀w' b,Ext w w'→KindsR w' b→K (.map (some b)) w'):vcall PP jV #[] w K:=kinds_new fun w' b a c _=>d w' b a c
end Go.Proofs.YtaekfnbnhjgboaaGreatDoor
end
