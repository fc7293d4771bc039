import Derived.Test.YtaekfnbnhjgboaaGreatDoorWuaP2
import Derived.Test.YtaekfnbnhjgboaaGreatDoorWuaP3
import Derived.Test.YtaekfnbnhjgboaaGreatDoorWuaP4
import Derived.Test.YtaekfnbnhjgboaaGreatDoorWuaP5
import Derived.Ground.NamesProg
import Derived.Shelf.Strings.OnBuilder
import Derived.Shelf.Strings.SlTrimAscii
import Derived.Shelf.SlGeneric
import Derived.Test.YtaekfnbnhjgboaaGreatDoorProg
/- A part of the proof. -/
set_option linter.unusedVariables false
set_option linter.unusedSimpArgs false
set_option linter.unnecessarySimpa false
set_option linter.unusedSectionVars false
section
namespace Go.Proofs.YtaekfnbnhjgboaaGreatDoor
open Go Go.Vc Go.Proofs
variable {w:World} {K:Value→World→Prop} {F:Nat→Prop}
abbrev jU (wd n:Int):Value:= .agg ⟨[.int .i64 wd,.int .i64 n]⟩
theorem pow4 {k:Nat} (h1:1≤k) (h2:k≤4):2≤2^k∧2^k≤16:=by
 rcases(by omega:k=1∨k=2∨k=3∨k=4) with rfl|rfl|rfl|rfl<;>decide
@[push_cast] theorem bd_Vec (a b:Int):zE PP zb [(0,.int .i64 a),(1,.int .i64 b)] w K=K (jU a b) w:=yf VA (us:=[[.int .i64 a],[.int .i64 b]]) rfl rfl
@[push_cast] theorem bd_VecZ:zE PP zb [] w K=K (jU 0 0) w:=yf VA (us:=[]) rfl rfl
theorem stVec {b:Nat} {x y:Value} {t:TypeId} {p q:Int} (h:Blk w b [x,y] t) (hK:∀w',Same (· =b) w w'→w'.heap.size=w.heap.size→Blk w' b [.int .i64 p,.int .i64 q] t→K undef w'):zr PP zb (.pointer (some ⟨b,0,none⟩)) (jU p q) w K:=
 h.stAgg rfl (by kernel_rfl) (by intro v hv;simp only[List.mem_cons,List.not_mem_nil,or_false] at hv;rcases hv with rfl|rfl<;>rfl) hK
theorem ze0 (k:Nat):((2^k:Nat):Int)=2^k:=by simp
theorem VecOk_spec {wd n:Int} (hK:∀w',Ext w w'→K (.bool (M.vok wd n)) w'):vcall PP xh #[jU wd n] w K:=by
 apply x40;unfold Wb
 refine zx fun b1 w1 hb1 he1 hs1 h1=>?_
 refine zt fun w2 he2 _=>?_
 have h2:=h1.ext he2
 have hE:=he1.trans he2
 simp(disch:=(simp only[push_cast];done)) only[push_cast,h2.ld0,h2.ld1,true_and]
 have hk:=hK w2 hE
 refine zg (fun a1=>?_) (fun a1=>?_)
 ·refine zg (fun a2=>?_) (fun a2=>?_)
  ·refine zg (fun a3=>?_) (fun a3=>?_)
   ·obtain⟨k,rfl⟩:∃k:Nat,wd=k:=⟨wd.toNat,by omega⟩
    have hp:=pow4 (k:=k) (by omega) (by omega)
    have e:zq PP .shl zc true (.int .i64 1) (.int .i64 (k:Int)) w2=fun K=>K (.int .i64 (2^k:Nat)) w2:=by
     funext K
     have:=vbin_shlI (P:=PP) (w:=w2) (K:=K) (c:=true) (t:=zc) (yk:= .i64) (x:=1) (y:=k) (by omega) (by omega)
     rw[Nat.one_mul] at this
     exact this
    rw[e]
    simp only[push_cast,true_and]
    have hv:M.vok (k:Int) n=decide (n<(2^k:Nat)):=by
     simp only[M.vok,decide_eq_true a1,decide_eq_true a2,decide_eq_true a3,Bool.true_and,Int.toNat_natCast,ze0]
    rw[hv,ze0] at hk
    exact hk
   ·have hv:M.vok wd n=false:=by simp only[M.vok,decide_eq_false a3,Bool.and_false,Bool.false_and]
    rw[hv] at hk;exact hk
  ·have hv:M.vok wd n=false:=by simp only[M.vok,decide_eq_false a2,Bool.and_false,Bool.false_and]
   rw[hv] at hk;exact hk
 ·have hv:M.vok wd n=false:=by simp only[M.vok,decide_eq_false a1,Bool.false_and]
  rw[hv] at hk;exact hk
theorem cut_spec {n k:Nat} (hn:n<18446744073709551616) (h1:1≤k) (h2:k≤4) (hK:K (.int .u64 (n%2^k:Nat)) w):vcall PP jX #[.int .u64 n,.int .i64 k] w K:=by
 apply UM;unfold J4
 have hp:=pow4 h1 h2
 rw[show(1:Int)=((1:Nat):Int) from rfl,vbin_shlU (by omega) (by omega),Nat.one_mul,JS,show((2^k:Nat):Int)-((1:Nat):Int)=((2^k-1:Nat):Int) by omega,wrapU (by omega),Xh hn (by omega),Nat.and_two_pow_sub_one_eq_mod]
 exact hK
theorem bit_spec {n k:Nat} (hn:n<18446744073709551616) (hk:k<64) (hK:K (.bool (decide (n/2^k%2=1))) w):vcall PP qh #[.int .u64 n,.int .i64 k] w K:=by
 apply UN;unfold J5
 have hd:n/2^k≤n:=Nat.div_le_self _ _
 rw[vbin_shrU hk,show(1:Int)=((1:Nat):Int) from rfl,Xh (by omega) (by omega),jO0]
 have e:n/2^k&&&1=n/2^k%2:=Nat.and_one_is_mod _
 rw[e]
 have e2:decide (((n/2^k%2:Nat):Int)=((1:Nat):Int))=decide (n/2^k%2=1):=by
  by_cases h:n/2^k%2=1
  ·rw[h];simp
  ·rw[decide_eq_false h,decide_eq_false];omega
 rw[e2];exact hK
theorem raw_spec {wd:Int} {n:Nat} (hn:n<9223372036854775808) (hK:∀w',Ext w w'→K (.int .u64 n) w'):vcall PP zF #[jU wd n] w K:=by
 apply UV;unfold Jd
 refine zx fun b1 w1 hb1 he1 hs1 h1=>?_
 simp(disch:=(simp only[push_cast];done)) only[push_cast,h1.ld1]
 rw[jj xA0 xk0,wrapU (by omega)]
 exact hK _ he1
theorem ones_spec {k:Nat} {n:Int} (h1:1≤k) (h2:k≤4) (hK:∀w',Ext w w'→K (.int .u64 (2^k-1:Nat)) w'):vcall PP jx #[jU k n] w K:=by
 apply U9;unfold XZ
 refine zx fun b1 w1 hb1 he1 hs1 hq1=>?_
 simp(disch:=(simp only[push_cast];done)) only[push_cast,hq1.ld0]
 have hp:=pow4 h1 h2
 rw[show(1:Int)=((1:Nat):Int) from rfl,vbin_shlU (by omega) (by omega),Nat.one_mul,JS,show((2^k:Nat):Int)-((1:Nat):Int)=((2^k-1:Nat):Int) by omega,wrapU (by omega)]
 exact hK _ he1
theorem vec_spec {k n:Nat} {x:Int} (hn:n<18446744073709551616) (h1:1≤k) (h2:k≤4) (hK:∀w',Ext w w'→K (jU k (n%2^k:Nat)) w'):vcall PP qY #[jU k x,.int .u64 n] w K:=by
 apply UU;unfold Jc
 have hp:=pow4 h1 h2
 have hm:n%2^k<2^k:=Nat.mod_lt _ (by omega)
 refine zx fun b1 w1 hb1 he1 hs1 hq1=>?_
 refine zD xm fun b2 w2 hb2 he2 hs2 hq2=>?_
 refine zt fun w3 he3 _=>?_
 have q1:=(hq1.ext he2).ext he3
 have q2:=hq2.ext he3
 simp(disch:=(simp only[push_cast];done)) only[push_cast,q1.ld0,true_and]
 refine cut_spec hn h1 h2 ?_
 obtain⟨m,hm0⟩:∃m,m=n%2^k:=⟨_,rfl⟩
 rw[←hm0] at hm hK⊢
 simp(disch:=(simp only[push_cast];done)) only[push_cast,q1.ld0,true_and,and_self]
 rw[jj Wz zf0,wrapN (by omega)]
 simp only[push_cast,true_and]
 refine stVec q2 fun w4 hw4 _ q3=>?_
 rw[q3.lv (by kernel_rfl)]
 exact hK _ (Ext.then ((he1.trans he2).trans he3) hw4 fun y hy=>by subst hy;omega)
theorem strF_low {k n:Nat} (h1:1≤k) (h2:k≤4) (hn:n<2^k):n|||((18446744073709551615-(2^k-1))&&&4294967295)=n+(4294967296-2^k):=by
 have hall:∀v:Fin 5,∀a:Fin 16,1≤v.1→a.1<2^v.1→a.1|||((18446744073709551615-(2^v.1-1))&&&4294967295)=a.1+(4294967296-2^v.1):=by decide+kernel
 have hp:=pow4 h1 h2
 exact hall ⟨k,by omega⟩ ⟨n,by omega⟩ h1 hn
theorem top_bit {k n:Nat} (h1:1≤k) (h2:k≤4) (hn:n<2^k):decide (n/2^(k-1)%2=1)=decide (¬n<2^(k-1)):=by
 have hall:∀v:Fin 5,∀a:Fin 16,1≤v.1→a.1<2^v.1→decide (a.1/2^(v.1-1)%2=1)=decide (¬a.1<2^(v.1-1)):=by decide+kernel
 have hp:=pow4 h1 h2
 exact hall ⟨k,by omega⟩ ⟨n,by omega⟩ h1 hn
def kQ0 (k n:Nat):Nat:=if n<2^(k-1) then n else n+(4294967296-2^k)
theorem stretched_spec {k n:Nat} (h1:1≤k) (h2:k≤4) (hn:n<2^k) (hK:∀w',Ext w w'→K (.int .u64 (kQ0 k n:Nat)) w'):vcall PP qV #[jU k n] w K:=by
 apply QJ;unfold kN
 have hp:=pow4 h1 h2
 refine zx fun b1 w1 hb1 he1 hs1 hq1=>?_
 refine zt fun w3 he3 _=>?_
 have q1:=hq1.ext he3
 simp(disch:=(simp only[push_cast];done)) only[push_cast,q1.ld0,q1.ldAgg (t:=zb) zS,true_and]
 have e1:IntKind.i64.wrap ((k:Int)-1)=((k-1:Nat):Int):=by rw[zA (by omega) (by omega)];omega
 rw[e1]
 refine raw_spec (by omega) fun w4 he4=>?_
 have q2:=q1.ext he4
 simp(disch:=(simp only[push_cast];done)) only[push_cast,q2.ld0,true_and,e1]
 refine bit_spec (by omega) (by omega) ?_
 rw[top_bit h1 h2 hn]
 refine zg (fun a1=>?_) (fun a1=>?_)
 ·refine zt fun w5 he5 _=>?_
  have q3:=q2.ext he5
  simp(disch:=(simp only[push_cast];done)) only[push_cast,q3.ldAgg (t:=zb) zS,true_and]
  refine raw_spec (by omega) fun w6 he6=>?_
  have q4:=q3.ext he6
  simp(disch:=(simp only[push_cast];done)) only[push_cast,q4.ldAgg (t:=zb) zS,true_and]
  refine ones_spec h1 h2 fun w7 he7=>?_
  rw[vun_xorU (by omega)]
  refine⟨rfl,?_⟩
  rw[show(4294967295:Int)=((4294967295:Nat):Int) from rfl,Xh (by omega) (by omega)]
  refine⟨rfl,?_⟩
  have hle:(18446744073709551615-(2^k-1))&&&4294967295≤4294967295:=Nat.and_le_right
  rw[xw0 (by omega) (by omega)]
  refine⟨rfl,?_⟩
  have:=hK w7 (((((he1.trans he3).trans he4).trans he5).trans he6).trans he7)
  unfold kQ0 at this
  rw[if_neg a1] at this
  rw[strF_low h1 h2 hn]
  exact this
 ·simp(disch:=(simp only[push_cast];done)) only[push_cast,q2.ldAgg (t:=zb) zS,true_and]
  refine raw_spec (by omega) fun w6 he6=>?_
  have:=hK w6 (((he1.trans he3).trans he4).trans he6)
  unfold kQ0 at this
  rw[if_pos (by omega)] at this
  exact this
theorem pre2 {k a b:Nat} (ha:a<16) (hb:b<16) {X:Value→Value→World→Prop} (hX:∀w',Ext w w'→X (.int .u64 a) (.int .u64 b) w'):
  yD PP zb (jU k a) w fun t2 w_1=>
  yD PP zb (jU k b) w_1 fun t3 w_2=>
  y3 w_2 fun w_3=>
  ze PP zb t2 w_3 fun t5 w_4=>w_4=w_3∧
  ze PP zb t3 w_3 fun t7 w_5=>w_5=w_3∧
  vcall PP zF #[t5] w_3 fun t6 w_6=>(ze PP zb t3 w_6 fun v x=>v=t7∧x=w_6)∧
  vcall PP zF #[t7] w_6 fun t8 w_7=>X t6 t8 w_7:=by
 refine zx fun b1 w1 hb1 he1 hs1 hq1=>?_
 refine zx fun b2 w2 hb2 he2 hs2 hq2=>?_
 refine zt fun w3 he3 _=>?_
 have q1:=(hq1.ext he2).ext he3
 have q2:=hq2.ext he3
 simp(disch:=(simp only[push_cast];done)) only[push_cast,q1.ldAgg (t:=zb) zS,q2.ldAgg (t:=zb) zS,true_and]
 refine raw_spec (by omega) fun w4 he4=>?_
 have q3:=q2.ext he4
 simp(disch:=(simp only[push_cast];done)) only[push_cast,q3.ldAgg (t:=zb) zS,true_and,and_self]
 refine raw_spec (by omega) fun w5 he5=>?_
 exact hX _ ((((he1.trans he2).trans he3).trans he4).trans he5)
theorem pow16 {k a:Nat} (h2:k≤4) (ha:a<2^k):a<16:=by
 have:2^k≤2^4:=Nat.pow_le_pow_right (by omega) h2
 omega
def OpR (K:Value→World→Prop) (w:World) (op k a b:Nat):Prop:=∀w' (r:Nat),Ext w w'→r<18446744073709551616→r%2^k=M.binN op k a b→K (.int .u64 r) w'
theorem bin_ck {f:Nat→Nat→Nat→Nat} {op:Nat} (h:∀v:Fin 5,(List.range 16).all (fun a=>(List.range 16).all fun b=> !(decide (1≤v.1)&&decide (a<2^v.1)&&decide (b<2^v.1))||decide (f v.1 a b%2^v.1=M.binN op v.1 a b))=true) {k a b:Nat} (h1:1≤k) (h2:k≤4) (ha:a<2^k) (hb:b<2^k):f k a b%2^k=M.binN op k a b:=by
 have:=h ⟨k,by omega⟩
 simp only[List.all_eq_true,List.mem_range,Bool.or_eq_true,Bool.not_eq_true',Bool.and_eq_false_iff,decide_eq_false_iff_not,decide_eq_true_eq] at this
 rcases this a (pow16 h2 ha) b (pow16 h2 hb) with(⟨h|h⟩|h)|h
 ·exact absurd h1 h
 ·exact absurd ha h
 ·exact absurd hb h
 ·exact h
theorem mul225 {a b:Nat} (ha:a<16) (hb:b<16):a*b≤225:=by
 have:=Nat.mul_le_mul (show a≤15 by omega) (show b≤15 by omega)
 omega
theorem shl_small {a b:Nat} (ha:a<16) (hb:b<16):a*2^b≤524288:=by
 have h1:2^b≤2^15:=Nat.pow_le_pow_right (by omega) (by omega)
 have:=Nat.mul_le_mul (show a≤15 by omega) h1
 omega
theorem strN_lt {k n:Nat} (h1:1≤k) (h2:k≤4) (hn:n<2^k):kQ0 k n<4294967296:=by
 have:=pow4 h1 h2
 unfold kQ0;split<;>omega
theorem binaries_1_spec {k a b:Nat} (h1:1≤k) (h2:k≤4) (ha:a<2^k) (hb:b<2^k) (hK:OpR K w 3 k a b):vcall PP x6 #[jU k a,jU k b] w K:=by
 have ha16:=pow16 h2 ha
 have hb16:=pow16 h2 hb
 have hp:=pow4 h1 h2
 apply Vz;unfold Yw
 refine pre2 ha16 hb16 fun w1 he=>?_
 rw[Xh (by omega) (by omega)]
 exact⟨rfl,hK _ _ he (Nat.lt_of_le_of_lt Nat.and_le_left (by omega)) (bin_ck (f:=fun k a b=>a&&&b) (by decide+kernel) h1 h2 ha hb)⟩
theorem binaries_2_spec {k a b:Nat} (h1:1≤k) (h2:k≤4) (ha:a<2^k) (hb:b<2^k) (hK:OpR K w 4 k a b):vcall PP x5 #[jU k a,jU k b] w K:=by
 have ha16:=pow16 h2 ha
 have hb16:=pow16 h2 hb
 have hp:=pow4 h1 h2
 apply Vy;unfold Yv
 refine pre2 ha16 hb16 fun w1 he=>?_
 rw[xw0 (by omega) (by omega)]
 exact⟨rfl,hK _ _ he (Nat.lt_trans (Nat.or_lt_two_pow (n:=4) ha16 hb16) (by decide)) (bin_ck (f:=fun k a b=>a|||b) (by decide+kernel) h1 h2 ha hb)⟩
theorem binaries_3_spec {k a b:Nat} (h1:1≤k) (h2:k≤4) (ha:a<2^k) (hb:b<2^k) (hK:OpR K w 5 k a b):vcall PP yZ #[jU k a,jU k b] w K:=by
 have ha16:=pow16 h2 ha
 have hb16:=pow16 h2 hb
 have hp:=pow4 h1 h2
 apply Vx;unfold Yu
 refine pre2 ha16 hb16 fun w1 he=>?_
 rw[qy0 (by omega) (by omega)]
 exact⟨rfl,hK _ _ he (Nat.lt_trans (Nat.xor_lt_two_pow (n:=4) ha16 hb16) (by decide)) (bin_ck (f:=fun k a b=>a^^^b) (by decide+kernel) h1 h2 ha hb)⟩
theorem binaries_4_spec {k a b:Nat} (h1:1≤k) (h2:k≤4) (ha:a<2^k) (hb:b<2^k) (hK:OpR K w 6 k a b):vcall PP yY #[jU k a,jU k b] w K:=by
 have ha16:=pow16 h2 ha
 have hb16:=pow16 h2 hb
 have hp:=pow4 h1 h2
 apply Vw;unfold Yt
 refine pre2 ha16 hb16 fun w1 he=>?_
 rw[xy0,show(a:Int)+(b:Int)=((a+b:Nat):Int) by omega,wrapU (by omega)]
 exact⟨rfl,hK _ _ he (by omega) (bin_ck (f:=fun k a b=>a+b) (by decide+kernel) h1 h2 ha hb)⟩
theorem binaries_5_spec {k a b:Nat} (h1:1≤k) (h2:k≤4) (ha:a<2^k) (hb:b<2^k) (hK:OpR K w 7 k a b):vcall PP yX #[jU k a,jU k b] w K:=by
 have ha16:=pow16 h2 ha
 have hb16:=pow16 h2 hb
 have hp:=pow4 h1 h2
 apply Vv;unfold Ys
 refine pre2 ha16 hb16 fun w1 he=>?_
 have e:IntKind.u64.wrap ((a:Int)-(b:Int))=((if b≤a then a-b else 18446744073709551616+a-b:Nat):Int):=by
  simp only[IntKind.wrap,IntKind.bits,IntKind.signed,Bool.false_and,Bool.false_eq_true,if_false]
  split<;>omega
 rw[JS,e]
 exact⟨rfl,hK _ _ he (by split<;>omega) (bin_ck (f:=fun k a b=>if b≤a then a-b else 18446744073709551616+a-b) (by decide+kernel) h1 h2 ha hb)⟩
theorem binaries_6_spec {k a b:Nat} (h1:1≤k) (h2:k≤4) (ha:a<2^k) (hb:b<2^k) (hK:OpR K w 8 k a b):vcall PP yW #[jU k a,jU k b] w K:=by
 have ha16:=pow16 h2 ha
 have hb16:=pow16 h2 hb
 have hp:=pow4 h1 h2
 apply Vu;unfold Yr
 refine pre2 ha16 hb16 fun w1 he=>?_
 have hm:=mul225 ha16 hb16
 rw[xx0,show(a:Int)*(b:Int)=((a*b:Nat):Int) by simp,wrapU (by omega)]
 exact⟨rfl,hK _ _ he (by omega) (bin_ck (f:=fun k a b=>a*b) (by decide+kernel) h1 h2 ha hb)⟩
theorem binaries_7_spec {k a b:Nat} (h1:1≤k) (h2:k≤4) (ha:a<2^k) (hb:b<2^k) (hK:OpR K w 9 k a b):vcall PP yV #[jU k a,jU k b] w K:=by
 have ha16:=pow16 h2 ha
 have hb16:=pow16 h2 hb
 have hp:=pow4 h1 h2
 apply Vt;unfold Yq
 refine zx fun b1 w1 hb1 he1 hs1 hq1=>?_
 refine zx fun b2 w2 hb2 he2 hs2 hq2=>?_
 have q1:=hq1.ext he2
 simp(disch:=(simp only[push_cast];done)) only[push_cast,hq2.ld1]
 refine zg (fun a1=>?_) (fun a1=>?_)
 ·simp(disch:=(simp only[push_cast];done)) only[push_cast,q1.ldAgg (t:=zb) zS]
  refine ones_spec h1 h2 fun w3 he3=>hK _ _ ((he1.trans he2).trans he3) (by omega) ?_
  have:b=0:=by omega
  subst this
  rw[Nat.mod_eq_of_lt (by omega)]
  simp[M.binN]
 ·refine zt fun w3 he3 _=>?_
  have r1:=q1.ext he3
  have r2:=hq2.ext he3
  simp(disch:=(simp only[push_cast];done)) only[push_cast,r1.ldAgg (t:=zb) zS,r2.ldAgg (t:=zb) zS,true_and]
  refine raw_spec (by omega) fun w4 he4=>?_
  have r3:=r2.ext he4
  simp(disch:=(simp only[push_cast];done)) only[push_cast,r3.ldAgg (t:=zb) zS,true_and,and_self]
  refine raw_spec (by omega) fun w5 he5=>?_
  have hd:a/b≤a:=Nat.div_le_self _ _
  rw[Wn (by omega),show(a:Int).tdiv (b:Int)=((a/b:Nat):Int) from rfl,wrapU (by omega)]
  refine⟨rfl,hK _ _ ((((he1.trans he2).trans he3).trans he4).trans he5) (by omega) ?_⟩
  rw[Nat.mod_eq_of_lt (by omega)]
  simp[M.binN,show b≠0 by omega]
theorem binaries_8_spec {k a b:Nat} (h1:1≤k) (h2:k≤4) (ha:a<2^k) (hb:b<2^k) (hK:OpR K w 10 k a b):vcall PP yU #[jU k a,jU k b] w K:=by
 have ha16:=pow16 h2 ha
 have hb16:=pow16 h2 hb
 have hp:=pow4 h1 h2
 apply Vs;unfold Yp
 refine zx fun b1 w1 hb1 he1 hs1 hq1=>?_
 refine zx fun b2 w2 hb2 he2 hs2 hq2=>?_
 have q1:=hq1.ext he2
 simp(disch:=(simp only[push_cast];done)) only[push_cast,hq2.ld1]
 refine zg (fun a1=>?_) (fun a1=>?_)
 ·simp(disch:=(simp only[push_cast];done)) only[push_cast,q1.ldAgg (t:=zb) zS]
  refine raw_spec (by omega) fun w3 he3=>hK _ _ ((he1.trans he2).trans he3) (by omega) ?_
  have:b=0:=by omega
  subst this
  rw[Nat.mod_eq_of_lt (by omega)]
  simp[M.binN]
 ·refine zt fun w3 he3 _=>?_
  have r1:=q1.ext he3
  have r2:=hq2.ext he3
  simp(disch:=(simp only[push_cast];done)) only[push_cast,r1.ldAgg (t:=zb) zS,r2.ldAgg (t:=zb) zS,true_and]
  refine raw_spec (by omega) fun w4 he4=>?_
  have r3:=r2.ext he4
  simp(disch:=(simp only[push_cast];done)) only[push_cast,r3.ldAgg (t:=zb) zS,true_and,and_self]
  refine raw_spec (by omega) fun w5 he5=>?_
  have hd:a%b≤a:=Nat.mod_le _ _
  rw[Q6 (by omega),show(a:Int).tmod (b:Int)=((a%b:Nat):Int) from rfl]
  refine⟨rfl,hK _ _ ((((he1.trans he2).trans he3).trans he4).trans he5) (by omega) ?_⟩
  rw[Nat.mod_eq_of_lt (by omega)]
  simp[M.binN,show b≠0 by omega]
theorem binaries_9_spec {k a b:Nat} (h1:1≤k) (h2:k≤4) (ha:a<2^k) (hb:b<2^k) (hK:OpR K w 11 k a b):vcall PP yT #[jU k a,jU k b] w K:=by
 have ha16:=pow16 h2 ha
 have hb16:=pow16 h2 hb
 have hp:=pow4 h1 h2
 apply Vr;unfold Yo
 refine pre2 ha16 hb16 fun w1 he=>?_
 have hm:=shl_small ha16 hb16
 rw[vbin_shlU (by omega) (by omega)]
 exact⟨rfl,hK _ _ he (by omega) (bin_ck (f:=fun k a b=>a*2^b) (by decide+kernel) h1 h2 ha hb)⟩
theorem binaries_10_spec {k a b:Nat} (h1:1≤k) (h2:k≤4) (ha:a<2^k) (hb:b<2^k) (hK:OpR K w 12 k a b):vcall PP yL #[jU k a,jU k b] w K:=by
 have ha16:=pow16 h2 ha
 have hb16:=pow16 h2 hb
 have hp:=pow4 h1 h2
 apply Kq;unfold ZO
 refine pre2 ha16 hb16 fun w1 he=>?_
 have hm:=Nat.div_le_self a (2^b)
 rw[vbin_shrU (by omega)]
 exact⟨rfl,hK _ _ he (by omega) (bin_ck (f:=fun k a b=>a/2^b) (by decide+kernel) h1 h2 ha hb)⟩
theorem binaries_11_spec {k a b:Nat} (h1:1≤k) (h2:k≤4) (ha:a<2^k) (hb:b<2^k) (hK:OpR K w 13 k a b):vcall PP yK #[jU k a,jU k b] w K:=by
 have ha16:=pow16 h2 ha
 have hb16:=pow16 h2 hb
 have hp:=pow4 h1 h2
 apply Ko;unfold ZN
 refine zx fun b1 w1 hb1 he1 hs1 hq1=>?_
 refine zx fun b2 w2 hb2 he2 hs2 hq2=>?_
 refine zt fun w3 he3 _=>?_
 have r1:=(hq1.ext he2).ext he3
 have r2:=hq2.ext he3
 simp(disch:=(simp only[push_cast];done)) only[push_cast,r1.ldAgg (t:=zb) zS,r2.ldAgg (t:=zb) zS,true_and]
 refine stretched_spec h1 h2 ha fun w4 he4=>?_
 have r3:=r2.ext he4
 simp(disch:=(simp only[push_cast];done)) only[push_cast,r3.ldAgg (t:=zb) zS,true_and,and_self]
 refine raw_spec (by omega) fun w5 he5=>?_
 have hs:=strN_lt h1 h2 ha
 have hm:=Nat.div_le_self (kQ0 k a) (2^b)
 rw[vbin_shrU (by omega)]
 exact⟨rfl,hK _ _ ((((he1.trans he2).trans he3).trans he4).trans he5) (by omega) (bin_ck (f:=fun k a b=>kQ0 k a/2^b) (by decide+kernel) h1 h2 ha hb)⟩
end Go.Proofs.YtaekfnbnhjgboaaGreatDoor
end
section
namespace Go.Proofs.YtaekfnbnhjgboaaGreatDoor
open Go Go.Vc Go.Proofs
variable {w:World} {K:Value→World→Prop} {F:Nat→Prop}
theorem VecSigned_spec {wd n:Int} (hK:∀w',Ext w w'→K (.int .i64 (if M.vok wd n=true then M.sgn wd n else 0)) w'):vcall PP qZ #[jU wd n] w K:=by
 apply Wk;unfold X5
 refine zx fun b1 w1 hb1 he1 hs1 h1=>?_
 simp(disch:=(simp only[push_cast];done)) only[push_cast,h1.ldAgg (t:=zb) zS]
 refine VecOk_spec fun w2 he2=>?_
 have h2:=h1.ext he2
 simp only[push_cast]
 refine yG (fun hv=>?_) (fun hv=>?_)
 ·have:=hK w2 (he1.trans he2)
  rwa[if_neg (by simpa using hv)] at this
 ·rw[Bool.not_eq_false'] at hv
  rw[if_pos hv] at hK
  obtain⟨k,a,rfl,rfl,k1,k4,ha⟩:=M.vok_nat hv
  have hp:=pow4 k1 k4
  refine zt fun w3 he3 _=>?_
  have h3:=h2.ext he3
  have e1:IntKind.i64.wrap ((k:Int)-1)=((k-1:Nat):Int):=by rw[zA (by omega) (by omega)];omega
  simp(disch:=(simp only[push_cast];done)) only[push_cast,h3.ldAgg (t:=zb) zS,h3.ld0,true_and,e1]
  refine raw_spec (by omega) fun w4 he4=>?_
  have h4:=h3.ext he4
  simp(disch:=(simp only[push_cast];done)) only[push_cast,h4.ld0,true_and,e1,and_self]
  refine bit_spec (by omega) (by omega) ?_
  rw[top_bit k1 k4 ha]
  have hx:=(ze0 k).symm
  have hy:(2:Int)^((k:Int).toNat-1)=((2^(k-1):Nat):Int):=by simp
  have hq:2^(k-1)<2^k:=Nat.pow_lt_pow_right (by omega) (by omega)
  refine zg (fun a1=>?_) (fun a1=>?_)
  ·refine zt fun w5 he5 _=>?_
   have h5:=h4.ext he5
   simp(disch:=(simp only[push_cast];done)) only[push_cast,h5.ld0,h5.ld1,true_and]
   rw[show(1:Int)=((1:Nat):Int) from rfl,vbin_shlI (by omega) (by omega),Nat.one_mul]
   refine⟨rfl,?_⟩
   rw[JS,zA (by omega) (by omega)]
   refine⟨rfl,?_⟩
   have:=hK w5 ((((he1.trans he2).trans he3).trans he4).trans he5)
   unfold M.sgn at this
   rw[if_neg (by rw[hy];omega),Int.toNat_natCast,hx] at this
   exact this
  ·simp(disch:=(simp only[push_cast];done)) only[push_cast,h4.ld1]
   have:=hK w4 (((he1.trans he2).trans he3).trans he4)
   unfold M.sgn at this
   rw[if_pos (by rw[hy];omega)] at this
   exact this
theorem VecUn_spec {op wd n:Int} (hK:∀w',Ext w w'→K (.tuple #[jU (M.vecUn op wd n).1.1 (M.vecUn op wd n).1.2,.bool (M.vecUn op wd n).2]) w'):vcall PP Zz #[.int .i64 op,jU wd n] w K:=by
 apply x30;unfold Wa
 refine zx fun b1 w1 hb1 he1 hs1 h1=>?_
 refine zD xm fun b2 w2 hb2 he2 hs2 g2=>?_
 have h2:=h1.ext he2
 simp(disch:=(simp only[push_cast];done)) only[push_cast,h2.ldAgg (t:=zb) zS]
 refine VecOk_spec fun w3 he3=>?_
 have h3:=h2.ext he3
 have g3:=g2.ext he3
 have hE:=(he1.trans he2).trans he3
 have hnew:∀w4 w5,Ext w3 w4→Same (· =b2) w4 w5→Ext w w5:=fun w4 w5 h h'=>Ext.then (hE.trans h) h' fun y hy=>by subst hy;have:=he1.size;omega
 simp only[push_cast]
 unfold M.vecUn at hK
 refine yG (fun hv=>?_) (fun hv=>?_)
 ·refine stVec g3 fun w4 hw4 _ g4=>?_
  rw[g4.lv (by kernel_rfl)]
  have:=hK w4 (hnew _ _ (Same.refl _ _) hw4)
  rwa[if_neg (by simp at hv;simp[hv])] at this
 ·rw[Bool.not_eq_false'] at hv
  obtain⟨k,a,rfl,rfl,k1,k4,ha⟩:=M.vok_nat hv
  have hp:=pow4 k1 k4
  refine zg (fun a1=>?_) (fun a1=>?_)
  ·subst a1
   refine zt fun w4 he4 _=>?_
   have h4:=h3.ext he4
   simp(disch:=(simp only[push_cast];done)) only[push_cast,h4.ldAgg (t:=zb) zS,true_and]
   refine raw_spec (by omega) fun w5 he5=>?_
   have h5:=h4.ext he5
   have g5:=(g3.ext he4).ext he5
   simp(disch:=(simp only[push_cast];done)) only[push_cast,h5.ldAgg (t:=zb) zS,true_and,and_self]
   rw[vun_xorU (by omega)]
   refine⟨rfl,vec_spec (by omega) k1 k4 fun w6 he6=>?_⟩
   refine stVec (g5.ext he6) fun w7 hw7 _ g7=>?_
   rw[g7.lv (by kernel_rfl)]
   have:=hK w7 (hnew _ _ ((he4.trans he5).trans he6) hw7)
   rw[if_pos ⟨hv,.inl rfl⟩,M.unM_not k1 k4 ha] at this
   exact this
  refine zg (fun a2=>?_) (fun a2=>?_)
  ·subst a2
   refine zt fun w4 he4 _=>?_
   have h4:=h3.ext he4
   simp(disch:=(simp only[push_cast];done)) only[push_cast,h4.ldAgg (t:=zb) zS,true_and]
   refine raw_spec (by omega) fun w5 he5=>?_
   have h5:=h4.ext he5
   have g5:=(g3.ext he4).ext he5
   have e:IntKind.u64.wrap (0-(a:Int))=((if a=0 then 0 else 18446744073709551616-a:Nat):Int):=by
    simp only[IntKind.wrap,IntKind.bits,IntKind.signed,Bool.false_and,Bool.false_eq_true,if_false]
    split<;>omega
   simp(disch:=(simp only[push_cast];done)) only[push_cast,h5.ldAgg (t:=zb) zS,true_and,and_self]
   rw[e]
   refine vec_spec (by split<;>omega) k1 k4 fun w6 he6=>?_
   refine stVec (g5.ext he6) fun w7 hw7 _ g7=>?_
   rw[g7.lv (by kernel_rfl)]
   have:=hK w7 (hnew _ _ ((he4.trans he5).trans he6) hw7)
   rw[if_pos ⟨hv,.inr rfl⟩,M.unM_neg k1 k4 ha] at this
   exact this
  ·refine stVec g3 fun w4 hw4 _ g4=>?_
   rw[g4.lv (by kernel_rfl)]
   have:=hK w4 (hnew _ _ (Same.refl _ _) hw4)
   rwa[if_neg (fun h=>h.2.elim a1 a2)] at this
theorem binaries_spec (hK:∀w',Ext w w'→K (.agg ⟨[.nilFunc,.nilFunc,.nilFunc,.func (.func x6) #[] #[],.func (.func x5) #[] #[],.func (.func yZ) #[] #[],.func (.func yY) #[] #[],.func (.func yX) #[] #[],.func (.func yW) #[] #[],.func (.func yV) #[] #[],.func (.func yU) #[] #[],.func (.func yT) #[] #[],.func (.func yL) #[] #[],.func (.func yK) #[] #[]]⟩) w'):vcall PP Z4 #[] w K:=by
 apply U8;unfold XY
 have hz:yM PP zX (.agg ⟨[.nilFunc,.nilFunc,.nilFunc,.nilFunc,.nilFunc,.nilFunc,.nilFunc,.nilFunc,.nilFunc,.nilFunc,.nilFunc,.nilFunc,.nilFunc,.nilFunc]⟩):=by unfold yM;kernel_rfl
 refine zD hz fun b1 w1 hb1 he1 hs1 h1=>?_
 refine⟨_,w1,run_build (P:=PP) w1 _ _ ⟨[.nilFunc,.nilFunc,.nilFunc,.func (.func x6) #[] #[],.func (.func x5) #[] #[],.func (.func yZ) #[] #[],.func (.func yY) #[] #[],.func (.func yX) #[] #[],.func (.func yW) #[] #[],.func (.func yV) #[] #[],.func (.func yU) #[] #[],.func (.func yT) #[] #[],.func (.func yL) #[] #[],.func (.func yK) #[] #[]]⟩ (by kernel_rfl),?_⟩
 refine h1.stAgg rfl (by kernel_rfl) (by intro v hv;simp only[List.mem_cons,List.not_mem_nil,or_false] at hv;rcases hv with rfl|rfl|rfl|rfl|rfl|rfl|rfl|rfl|rfl|rfl|rfl|rfl|rfl|rfl<;>rfl) fun w2 hw2 _ h2=>?_
 rw[h2.lv (by kernel_rfl)]
 exact hK _ (Ext.then he1 hw2 fun y hy=>by subst hy;omega)
theorem bin_all {op k a b:Nat} (h3:3≤op) (h13:op≤13) (k1:1≤k) (k4:k≤4) (ha:a<2^k) (hb:b<2^k) {K:Value→World→Prop} {w w0:World} (hw:w0=w) (hK:OpR K w op k a b) {N:Value→World→Prop}
  (hN:∀x,vcallv PP x #[jU k a,jU k b] w K→N x w):
  z90 PP zX (.agg ⟨[.nilFunc,.nilFunc,.nilFunc,.func (.func x6) #[] #[],.func (.func x5) #[] #[],.func (.func yZ) #[] #[],.func (.func yY) #[] #[],.func (.func yX) #[] #[],.func (.func yW) #[] #[],.func (.func yV) #[] #[],.func (.func yU) #[] #[],.func (.func yT) #[] #[],.func (.func yL) #[] #[],.func (.func yK) #[] #[]]⟩) (.int .i64 op) w N:=by
 rcases(by omega:op=3∨op=4∨op=5∨op=6∨op=7∨op=8∨op=9∨op=10∨op=11∨op=12∨op=13) with rfl|rfl|rfl|rfl|rfl|rfl|rfl|rfl|rfl|rfl|rfl
 ·exact⟨.func (.func x6) #[] #[],w,by kernel_rfl,hN (.func (.func x6) #[] #[]) (binaries_1_spec k1 k4 ha hb hK)⟩
 ·exact⟨.func (.func x5) #[] #[],w,by kernel_rfl,hN (.func (.func x5) #[] #[]) (binaries_2_spec k1 k4 ha hb hK)⟩
 ·exact⟨.func (.func yZ) #[] #[],w,by kernel_rfl,hN (.func (.func yZ) #[] #[]) (binaries_3_spec k1 k4 ha hb hK)⟩
 ·exact⟨.func (.func yY) #[] #[],w,by kernel_rfl,hN (.func (.func yY) #[] #[]) (binaries_4_spec k1 k4 ha hb hK)⟩
 ·exact⟨.func (.func yX) #[] #[],w,by kernel_rfl,hN (.func (.func yX) #[] #[]) (binaries_5_spec k1 k4 ha hb hK)⟩
 ·exact⟨.func (.func yW) #[] #[],w,by kernel_rfl,hN (.func (.func yW) #[] #[]) (binaries_6_spec k1 k4 ha hb hK)⟩
 ·exact⟨.func (.func yV) #[] #[],w,by kernel_rfl,hN (.func (.func yV) #[] #[]) (binaries_7_spec k1 k4 ha hb hK)⟩
 ·exact⟨.func (.func yU) #[] #[],w,by kernel_rfl,hN (.func (.func yU) #[] #[]) (binaries_8_spec k1 k4 ha hb hK)⟩
 ·exact⟨.func (.func yT) #[] #[],w,by kernel_rfl,hN (.func (.func yT) #[] #[]) (binaries_9_spec k1 k4 ha hb hK)⟩
 ·exact⟨.func (.func yL) #[] #[],w,by kernel_rfl,hN (.func (.func yL) #[] #[]) (binaries_10_spec k1 k4 ha hb hK)⟩
 ·exact⟨.func (.func yK) #[] #[],w,by kernel_rfl,hN (.func (.func yK) #[] #[]) (binaries_11_spec k1 k4 ha hb hK)⟩
theorem VecBin_spec {op wd n v m:Int} (hK:∀w',Ext w w'→K (.tuple #[jU (M.vecBin op wd n v m).1.1 (M.vecBin op wd n v m).1.2,.bool (M.vecBin op wd n v m).2]) w'):vcall PP qL #[.int .i64 op,jU wd n,jU v m] w K:=by
 apply ye0;unfold KZ
 refine zx fun b1 w1 hb1 he1 hs1 h1=>?_
 refine zx fun b2 w2 hb2 he2 hs2 g2=>?_
 refine zD xm fun b3 w3 hb3 he3 hs3 r3=>?_
 have hE:=(he1.trans he2).trans he3
 have hz1:=he1.size
 have hz2:=he2.size
 have h3:=(h1.ext he2).ext he3
 have g3:=g2.ext he3
 have hnew:∀w4 w5,Ext w3 w4→Same (· =b3) w4 w5→Ext w w5:=fun w4 w5 h h'=>Ext.then (hE.trans h) h' fun y hy=>by subst hy;omega
 have hno:(M.vecBin op wd n v m)=((0,0),false)→∀w4,Ext w3 w4→zr PP zb (.pointer (some ⟨b3,0,none⟩)) (jU 0 0) w4 fun _ w5=>vlv PP zb (.pointer (some ⟨b3,0,none⟩)) w5 fun r w6=>K (.tuple #[r,.bool false]) w6:=by
  intro e w4 he4
  refine stVec (r3.ext he4) fun w5 hw5 _ r5=>?_
  rw[r5.lv (by kernel_rfl)]
  have:=hK w5 (hnew _ _ he4 hw5)
  rwa[e] at this
 refine zW (fun u w4=>u=[]∧Ext w3 w4∧M.vok wd n=true∧M.vok v m=true) (fun C hC=>?_) ?_
 ·simp(disch:=(simp only[push_cast];done)) only[push_cast,h3.ldAgg (t:=zb) zS]
  refine VecOk_spec fun w4 he4=>?_
  have g4:=g3.ext he4
  simp only[push_cast]
  refine yG (fun hv=>hno ?_ _ he4) (fun hv=>?_)
  ·unfold M.vecBin;rw[if_neg (by simp at hv;simp[hv])]
  ·simp(disch:=(simp only[push_cast];done)) only[push_cast,g4.ldAgg (t:=zb) zS]
   refine VecOk_spec fun w5 he5=>?_
   simp only[push_cast]
   refine yG (fun hv2=>hno ?_ _ (he4.trans he5)) (fun hv2=>?_)
   ·unfold M.vecBin;rw[if_neg (by simp at hv2;simp[hv2])]
   ·exact hC _ _ ⟨rfl,he4.trans he5,by simpa using hv,by simpa using hv2⟩
 ·rintro u g w4 ⟨rfl,he4,hv1,hv2⟩
  have h4:=h3.ext he4
  have g4:=g3.ext he4
  have r4:=r3.ext he4
  obtain⟨k,a,rfl,rfl,k1,k4,ha⟩:=M.vok_nat hv1
  obtain⟨l,b,rfl,rfl,l1,l4,hb⟩:=M.vok_nat hv2
  have ha16:=pow16 k4 ha
  have hb16:=pow16 l4 hb
  unfold M.vecBin at hK hno
  rw[if_pos ⟨hv1,hv2⟩] at hK hno
  simp only[push_cast]
  refine zg (fun a1=>?_) (fun a1=>?_)
  ·rw[if_pos a1] at hK hno
   refine zt fun w5 he5 _=>?_
   have h5:=h4.ext he5
   have g5:=g4.ext he5
   have r5:=r4.ext he5
   have hm:a*2^l≤524288:=shl_small ha16 (by omega)
   have e1:IntKind.i64.wrap ((k:Int)+(l:Int))=((k+l:Nat):Int):=by rw[zA (by omega) (by omega)];omega
   have eS:∀(w:World) (K:Value→World→Prop),zq PP .shl zc false (.int .i64 (a:Int)) (.int .i64 (l:Int)) w K=K (.int .i64 (a*2^l:Nat)) w:=fun w K=>vbin_shlI (by omega) (by omega)
   have eO:∀(w:World) (K:Value→World→Prop),zq PP .or zc false (.int .i64 ((a*2^l:Nat):Int)) (.int .i64 (b:Int)) w K=K (.int .i64 (a*2^l|||b:Nat)) w:=fun w K=>vbin_orI (by omega) (by omega)
   have eC:=M.cat_or l4 k4 ha hb
   obtain⟨q,hq⟩:∃q,q=a*2^l:=⟨_,rfl⟩
   obtain⟨z,hz⟩:∃z,z=q|||b:=⟨_,rfl⟩
   rw[←hq] at eS eO eC
   rw[←hz] at eO eC
   simp(disch:=(simp only[push_cast];done)) only[push_cast,h5.ld0,h5.ld1,g5.ld0,g5.ld1,true_and,e1,eS,eO]
   refine zD xm fun b4 w6 hb4 he6 hs6 p6=>?_
   have h6:=h5.ext he6
   have g6:=g5.ext he6
   have r6:=r5.ext he6
   simp(disch:=(simp only[push_cast];done)) only[push_cast,h6.ld0,h6.ld1,g6.ld0,g6.ld1,true_and,e1,eS,eO,and_self]
   refine stVec p6 fun w7 hw7 _ p7=>?_
   have hb34:b3≠b4:=by have:=r5.lt;omega
   have r7:=r6.same hw7 hb34
   have he7:Ext w3 w7:=Ext.then ((he4.trans he5).trans he6) hw7 fun y hy=>by subst hy;have:=(he4.trans he5).size;omega
   simp(disch:=(simp only[push_cast];done)) only[push_cast,p7.ld0]
   refine zg (fun a2=>hno ?_ _ he7) (fun a2=>?_)
   ·rw[if_neg (by omega)]
   ·simp(disch:=(simp only[push_cast];done)) only[push_cast,p7.ldAgg (t:=zb) zS]
    refine stVec r7 fun w8 hw8 _ r8=>?_
    rw[r8.lv (by kernel_rfl)]
    have:=hK w8 (hnew _ _ he7 hw8)
    rw[if_pos (by omega),←eC] at this
    exact this
  ·rw[if_neg a1] at hK hno
   refine zW (fun u w5=>u=[]∧w5=w4∧3≤op∧op≤13∧(k:Int)=l) (fun C hC=>?_) ?_
   ·refine zg (fun a2=>hno (by rw[if_neg (by omega)]) _ he4) (fun a2=>?_)
    refine zg (fun a3=>hno (by rw[if_neg (by omega)]) _ he4) (fun a3=>?_)
    simp(disch:=(simp only[push_cast];done)) only[push_cast,h4.ld0,g4.ld0]
    refine zg (fun a4=>hno (by rw[if_neg (by omega)]) _ he4) (fun a4=>?_)
    exact hC _ _ ⟨rfl,rfl,by omega,by omega,by omega⟩
   ·rintro u g w5 ⟨rfl,rfl,c3,c13,ckl⟩
    have:l=k:=by omega
    subst this
    refine zt fun w6 he6 _=>?_
    have h6:=h4.ext he6
    have g6:=g4.ext he6
    simp(disch:=(simp only[push_cast];done)) only[push_cast,h6.ldAgg (t:=zb) zS,g6.ldAgg (t:=zb) zS,true_and]
    refine binaries_spec fun w7 he7=>?_
    have h7:=h6.ext he7
    have g7:=g6.ext he7
    simp(disch:=(simp only[push_cast];done)) only[push_cast,h7.ldAgg (t:=zb) zS,g7.ldAgg (t:=zb) zS,true_and,and_self]
    obtain⟨o,rfl⟩:∃o:Nat,op=o:=⟨op.toNat,by omega⟩
    refine bin_all (by omega) (by omega) l1 l4 ha hb rfl ?_ fun x hx=>⟨rfl,hx⟩
    intro w8 r he8 hr hrm
    have h8:=h7.ext he8
    simp(disch:=(simp only[push_cast];done)) only[push_cast,h8.ldAgg (t:=zb) zS,true_and,and_self]
    refine vec_spec hr l1 l4 fun w9 he9=>?_
    have r9:=(((r4.ext he6).ext he7).ext he8).ext he9
    refine stVec r9 fun w10 hw10 _ r10=>?_
    rw[r10.lv (by kernel_rfl)]
    have:=hK w10 (hnew _ _ ((((he4.trans he6).trans he7).trans he8).trans he9) hw10)
    rw[if_pos ⟨c3,c13,rfl⟩] at this
    rw[hrm]
    exact this
theorem eqVec {a b c d:Int} {t:Bool}:zq PP .eql zb t (jU a b) (jU c d) w K=K (.bool (decide (a=c∧b=d))) w:=by
 refine yB (run_eqGuard_agg w _ _ _ _ _ _ (by kernel_rfl)) ?_
 have h0:(PP.fieldsOf zb).toList=[(PP.fieldsOf zb).getD 0 default,(PP.fieldsOf zb).getD 1 default]:=by kernel_rfl
 have n0:((PP.fieldsOf zb).getD 0 default).name≠ "_" :=by decide+kernel
 have n1:((PP.fieldsOf zb).getD 1 default).name≠ "_" :=by decide+kernel
 have i0:PP.underlying ((PP.fieldsOf zb).getD 0 default).type=some (.int .i64):=by kernel_rfl
 have i1:PP.underlying ((PP.fieldsOf zb).getD 1 default).type=some (.int .i64):=by kernel_rfl
 have p0:∀x y:Value,(part ((PP.fieldsOf zb).getD 0 default).type ⟨[x,y]⟩ ((PP.fieldsOf zb).getD 0 default).offset).run PP w= .ok x w:=fun x y=>by kernel_rfl
 have p1:∀x y:Value,(part ((PP.fieldsOf zb).getD 1 default).type ⟨[x,y]⟩ ((PP.fieldsOf zb).getD 1 default).offset).run PP w= .ok y w:=fun x y=>by kernel_rfl
 have hE:(Op.equalIn 10000 zb (jU a b) (jU c d)).run PP w= .ok (decide (a=c∧b=d)) w:=by
  rw[run_equalIn_struct w 9999 zb _ _ (by kernel_rfl) (by kernel_rfl),h0]
  generalize (PP.fieldsOf zb).getD 0 default=f0 at n0 i0 p0⊢
  generalize (PP.fieldsOf zb).getD 1 default=f1 at n1 i1 p1⊢
  simp only[Op.eqFields,if_pos n0,if_pos n1,Sem.run_bind,p0,p1,Result.andThen_ok,run_equalIn_int w 9998 _ _ _ _ _ i0,run_equalIn_int w 9998 _ _ _ _ _ i1]
  by_cases e1:a=c
  ·by_cases e2:b=d
   ·subst e1;subst e2;simp[run_equalIn_int w 9998 _ _ _ _ _ i1,p1]
   ·subst e1;simp[run_equalIn_int w 9998 _ _ _ _ _ i1,p1,e2]
  ·simp[e1]
 rw[run_eql_struct,hE]
 rfl
theorem VecCmp_spec {op wd n v m:Int} (hK:∀w',Ext w w'→K (.tuple #[.bool (M.vecCmp op wd n v m).1,.bool (M.vecCmp op wd n v m).2]) w'):vcall PP YM #[.int .i64 op,jU wd n,jU v m] w K:=by
 apply yd0;unfold KY
 refine zx fun b1 w1 hb1 he1 hs1 h1=>?_
 refine zx fun b2 w2 hb2 he2 hs2 g2=>?_
 have hE:=he1.trans he2
 have h3:=h1.ext he2
 have hno:(M.vecCmp op wd n v m)=(false,false)→∀w4,Ext w2 w4→K (.tuple #[.bool false,.bool false]) w4:=by
  intro e w4 he4
  have:=hK w4 (hE.trans he4)
  rwa[e] at this
 refine zW (fun u w4=>u=[]∧Ext w2 w4∧M.vok wd n=true∧M.vok v m=true∧wd=v) (fun C hC=>?_) ?_
 ·simp(disch:=(simp only[push_cast];done)) only[push_cast,h3.ldAgg (t:=zb) zS]
  refine VecOk_spec fun w4 he4=>?_
  have g4:=g2.ext he4
  simp only[push_cast]
  refine yG (fun hv=>hno ?_ _ he4) (fun hv=>?_)
  ·unfold M.vecCmp;rw[if_neg (by simp at hv;simp[hv])]
  ·simp(disch:=(simp only[push_cast];done)) only[push_cast,g4.ldAgg (t:=zb) zS]
   refine VecOk_spec fun w5 he5=>?_
   have g5:=g4.ext he5
   have h5:=(h3.ext he4).ext he5
   simp only[push_cast]
   refine yG (fun hv2=>hno ?_ _ (he4.trans he5)) (fun hv2=>?_)
   ·unfold M.vecCmp;rw[if_neg (by simp at hv2;simp[hv2])]
   ·simp(disch:=(simp only[push_cast];done)) only[push_cast,h5.ld0,g5.ld0]
    refine zg (fun a1=>hno ?_ _ (he4.trans he5)) (fun a1=>?_)
    ·unfold M.vecCmp;rw[if_neg (fun h=>a1 h.2.2.1)]
    ·exact hC _ _ ⟨rfl,he4.trans he5,by simpa using hv,by simpa using hv2,by omega⟩
 ·rintro u g w4 ⟨rfl,he4,hv1,hv2,rfl⟩
  have h4:=h3.ext he4
  have g4:=g2.ext he4
  unfold M.vecCmp at hK hno
  simp only[push_cast]
  refine zg (fun a1=>?_) (fun a1=>?_)
  ·subst a1
   simp(disch:=(simp only[push_cast];done)) only[push_cast,h4.ldAgg (t:=zb) zS,g4.ldAgg (t:=zb) zS]
   rw[eqVec]
   have:=hK w4 (hE.trans he4)
   rw[if_pos ⟨hv1,hv2,rfl,by omega,by omega⟩] at this
   simp only[M.cmpM,if_true] at this
   simp only[true_and]
   exact this
  refine zg (fun a2=>?_) (fun a2=>?_)
  ·subst a2
   simp(disch:=(simp only[push_cast];done)) only[push_cast,h4.ld1,g4.ld1]
   have:=hK w4 (hE.trans he4)
   rw[if_pos ⟨hv1,hv2,rfl,by omega,by omega⟩] at this
   exact this
  refine zg (fun a3=>?_) (fun a3=>?_)
  ·subst a3
   refine zt fun w5 he5 _=>?_
   have h5:=h4.ext he5
   have g5:=g4.ext he5
   simp(disch:=(simp only[push_cast];done)) only[push_cast,h5.ldAgg (t:=zb) zS,g5.ldAgg (t:=zb) zS,true_and]
   refine VecSigned_spec fun w6 he6=>?_
   have g6:=g5.ext he6
   simp(disch:=(simp only[push_cast];done)) only[push_cast,g6.ldAgg (t:=zb) zS,true_and,and_self]
   refine VecSigned_spec fun w7 he7=>?_
   simp only[push_cast,if_pos hv1,if_pos hv2,true_and]
   have:=hK w7 (((hE.trans he4).trans he5).trans (he6.trans he7))
   rw[if_pos ⟨hv1,hv2,rfl,by omega,by omega⟩] at this
   exact this
  ·exact hno (by rw[if_neg (fun h=>by omega)]) _ he4
theorem VecCut_spec {wd n hi lo:Int} (hK:∀w',Ext w w'→K (.tuple #[jU (M.vecCut wd n hi lo).1.1 (M.vecCut wd n hi lo).1.2,.bool (M.vecCut wd n hi lo).2]) w'):vcall PP kW #[jU wd n,.int .i64 hi,.int .i64 lo] w K:=by
 apply yc0;unfold KX
 refine zx fun b1 w1 hb1 he1 hs1 h1=>?_
 refine zD xm fun b3 w3 hb3 he3 hs3 r3=>?_
 have hE:=he1.trans he3
 have hz1:=he1.size
 have h3:=h1.ext he3
 have hnew:∀w4 w5,Ext w3 w4→Same (· =b3) w4 w5→Ext w w5:=fun w4 w5 h h'=>Ext.then (hE.trans h) h' fun y hy=>by subst hy;omega
 have hno:(M.vecCut wd n hi lo)=((0,0),false)→∀w4,Ext w3 w4→zr PP zb (.pointer (some ⟨b3,0,none⟩)) (jU 0 0) w4 fun _ w5=>vlv PP zb (.pointer (some ⟨b3,0,none⟩)) w5 fun r w6=>K (.tuple #[r,.bool false]) w6:=by
  intro e w4 he4
  refine stVec (r3.ext he4) fun w5 hw5 _ r5=>?_
  rw[r5.lv (by kernel_rfl)]
  have:=hK w5 (hnew _ _ he4 hw5)
  rwa[e] at this
 unfold M.vecCut at hK hno
 refine zW (fun u w4=>u=[]∧Ext w3 w4∧M.vok wd n=true∧0≤lo∧lo≤hi∧hi<wd) (fun C hC=>?_) ?_
 ·simp(disch:=(simp only[push_cast];done)) only[push_cast,h3.ldAgg (t:=zb) zS]
  refine VecOk_spec fun w4 he4=>?_
  have h4:=h3.ext he4
  simp only[push_cast]
  refine yG (fun hv=>hno ?_ _ he4) (fun hv=>?_)
  ·rw[if_neg (by simp at hv;simp[hv])]
  refine zg (fun a1=>hno (if_neg (by omega)) _ he4) (fun a1=>?_)
  refine zg (fun a2=>hno (if_neg (by omega)) _ he4) (fun a2=>?_)
  simp(disch:=(simp only[push_cast];done)) only[push_cast,h4.ld0]
  refine zg (fun a3=>hno (if_neg (by omega)) _ he4) (fun a3=>?_)
  exact hC _ _ ⟨rfl,he4,by simpa using hv,by omega,by omega,by omega⟩
 ·rintro u g w4 ⟨rfl,he4,hv,c1,c2,c3⟩
  have h4:=h3.ext he4
  have r4:=r3.ext he4
  obtain⟨k,a,rfl,rfl,k1,k4,ha⟩:=M.vok_nat hv
  obtain⟨l,rfl⟩:∃l:Nat,lo=l:=⟨lo.toNat,by omega⟩
  obtain⟨t,ht⟩:∃t:Nat,hi-(l:Int)+1=t:=⟨(hi-l+1).toNat,by omega⟩
  have ha16:=pow16 k4 ha
  have e1:IntKind.i64.wrap (IntKind.i64.wrap (hi-(l:Int))+1)=(t:Int):=by rw[zA (x:=hi-l) (by omega) (by omega),zA (by omega) (by omega)];omega
  simp(disch:=(simp only[push_cast];done)) only[push_cast,h4.ldAgg (t:=zb) zS,e1]
  refine raw_spec (by omega) fun w5 he5=>?_
  have hd:=Nat.div_le_self a (2^l)
  rw[vbin_shrU (by omega)]
  refine cut_spec (by omega) (by omega) (by omega) ?_
  have hm:=Nat.mod_le (a/2^l) (2^t)
  have hres:M.cutM (a:Int) hi (l:Int)=((a/2^l%2^t:Nat):Int):=by
   unfold M.cutM
   rw[ht]
   simp
  rw[if_pos ⟨hv,c1,c2,c3⟩] at hK
  simp only[hres,ht] at hK
  obtain⟨z,hz⟩:∃z,z=a/2^l%2^t:=⟨_,rfl⟩
  rw[←hz] at hm hK⊢
  rw[jj Wz zf0,wrapN (by omega)]
  simp only[push_cast]
  refine stVec (r4.ext he5) fun w6 hw6 _ r6=>?_
  rw[r6.lv (by kernel_rfl)]
  exact hK w6 (hnew _ _ (he4.trans he5) hw6)
end Go.Proofs.YtaekfnbnhjgboaaGreatDoor
end
section
namespace Go.Proofs.YtaekfnbnhjgboaaGreatDoor
open Go Go.Vc Go.Proofs
variable {w:World} {K:Value→World→Prop} {F G:Nat→Prop}
@[push_cast] theorem tn0:(0:Int).toNat=0:=rfl
@[push_cast] theorem tn1:(1:Int).toNat=1:=rfl
@[push_cast] theorem tn2:(2:Int).toNat=2:=rfl
theorem jh0 {α:Type} (xs:List α) (d:α) (p:α→Bool):(List.range xs.length).any (fun i=>p (xs.getD i d))=xs.any p:=by
 rw[Bool.eq_iff_iff,List.any_eq_true,List.any_eq_true]
 constructor
 ·rintro⟨i,hi,hp⟩
  exact⟨_,M.getD_mem (List.mem_range.1 hi) d,hp⟩
 ·rintro⟨x,hx,hp⟩
  obtain⟨i,hi,rfl⟩:=List.getElem_of_mem hx
  exact⟨i,List.mem_range.2 hi,by rw[List.getD_eq_getElem?_getD,List.getElem?_eq_getElem hi];exact hp⟩
abbrev DclV (d:M.Dcl):Value:= .agg ⟨[.string d.1,.int .i64 d.2]⟩
abbrev We:M.Dcl:=(M.nada,0)
theorem IndexFunc_Decl {v f:Value} {ds:List M.Dcl} {p:Nat→Bool} (hx:DclsR F w v ds) (hf:∀i,i<ds.length→FnB PP w f #[DclV (ds.getD i We)] (p i))
  (hK:∀w',Ext w w'→K (.int .i64 (idxI ds.length p)) w'):vcall PP yi #[v,f] w K:=by
 apply qG
 unfold xx
 simp(disch:=first|(simp only[push_cast];done)|omega) only[push_cast,hx.len]
 have hlen:=hx.small
 refine vloop_up ds.length (fun i u w'=>u=[.int .i64 i]∧Ext w w'∧∀j,j<i→p j=false) ⟨rfl,Same.refl _ _,by omega⟩ ?_
 rintro i _ g w1 C hi ⟨rfl,he,hp⟩ hC
 simp only[push_cast]
 refine zg (fun hlt=>?_) (fun hge=>?_)
 ·have hx1:=hx.ext he
  simp(disch:=first|(simp only[push_cast];done)|omega) only[push_cast,hx1.iaddr,hx1.load]
  refine hf i (by omega) w1 _ he fun w2 he2=>yG (fun hb=>?_) (fun hb=>?_)
  ·have:=hK w2 (he.trans he2)
   rwa[idxI_some (by omega) hb hp] at this
  ·rw[inc64' (by omega)]
   exact hC (by omega) _ _ ⟨rfl,he.trans he2,fun j hj=>by
    by_cases h:j=i
    ·subst h;exact hb
    ·exact hp j (by omega)⟩
 ·have:=hK w1 he
  rwa[WN (fun j hj=>hp j (by omega))] at this
theorem VE {v f:Value} {ds:List M.Dcl} {p:Nat→Bool} (hx:DclsR F w v ds) (hf:∀i,i<ds.length→FnB PP w f #[DclV (ds.getD i We)] (p i))
  (hK:∀w',Ext w w'→K (.bool ((List.range ds.length).any p)) w'):vcall PP yz #[v,f] w K:=by
 apply qd
 unfold xi
 refine IndexFunc_Decl hx hf fun w' he=>?_
 simp only[push_cast,Jv]
 exact hK w' he
theorem WH {b:Bool} (hK:K (.int .i64 (M.b2i b)) w):vcall PP kV #[.bool b] w K:=by
 apply ya0;unfold KU
 refine yG (fun h=>?_) (fun h=>?_)<;>subst h<;>exact hK
theorem Yy {b:Bool} {s:Int} (hK:K (.int .i64 (if b=true then s else-1)) w):vcall PP yb #[.bool b,.int .i64 s] w K:=by
 apply y80;unfold KR
 refine yG (fun h=>?_) (fun h=>?_)<;>subst h<;>exact hK
theorem jN {p:Prop} [Decidable p] {s:Int} (hK:K (.int .i64 (if p then s else-1)) w):vcall PP yb #[.bool (decide p),.int .i64 s] w K:=
 Yy (by simpa using hK)
theorem Z1 {s:Int} (hK:K (.int .i64 (-1)) w):vcall PP yb #[.bool false,.int .i64 s] w K:=Yy hK
theorem jz {s:ByteArray} {n:Int} (hK:∀w',Ext w w'→K (.int .i64 n) w'):vcall PP yr #[.agg ⟨[.string s,.int .i64 n]⟩] w K:=by
 apply Vo;unfold Yl
 refine zx fun b1 w1 hb1 he1 hs1 h1=>?_
 simp(disch:=(simp only[push_cast];done)) only[push_cast,h1.ld1]
 exact hK _ he1
abbrev KV (s:ByteArray) (n:Int):Value:= .agg ⟨[.string s,.int .i64 n]⟩
theorem unKind_sort_spec {s:ByteArray} {n:Int} {dv tv kv:Value} {t:M.Tm} {xs:List Int} (ht:TermR F w tv t) (hx:Ints G w kv xs) (hl:xs.length=1)
  (hK:∀w',Ext w w'→K (.int .i64 (if 0<xs.getD 0 0 then xs.getD 0 0 else-1)) w'):vcall PP jr #[KV s n,dv,tv,kv] w K:=by
 apply Kc;unfold ZD
 obtain⟨ksv,rfl,hks⟩:=ht
 refine zx fun b1 w1 hb1 he1 hs1 h1=>?_
 refine zx fun b2 w2 hb2 he2 hs2 h2=>?_
 refine zt fun w3 he3 _=>?_
 have hx3:=hx.ext ((he1.trans he2).trans he3)
 simp(disch:=first|(simp only[push_cast];done)|omega) only[push_cast,hx3.iaddr,hx3.load,true_and]
 exact jN (hK _ ((he1.trans he2).trans he3))
theorem binKind_sort_spec {s:ByteArray} {n:Int} {dv tv kv:Value} {t:M.Tm} {xs:List Int} (ht:TermR F w tv t) (hx:Ints G w kv xs) (hl:xs.length=2)
  (hK:∀w',Ext w w'→K (.int .i64 (if 0<xs.getD 0 0∧xs.getD 0 0=xs.getD 1 0 then xs.getD 0 0 else-1)) w'):vcall PP ja #[KV s n,dv,tv,kv] w K:=by
 apply JK;unfold Zq
 obtain⟨ksv,rfl,hks⟩:=ht
 refine zx fun b1 w1 hb1 he1 hs1 h1=>?_
 refine zx fun b2 w2 hb2 he2 hs2 h2=>?_
 refine zt fun w3 he3 _=>?_
 have hx3:=hx.ext ((he1.trans he2).trans he3)
 have hk:=hK _ ((he1.trans he2).trans he3)
 simp(disch:=first|(simp only[push_cast];done)|omega) only[push_cast,hx3.iaddr,hx3.load,true_and]
 refine zg (fun a=>?_) (fun a=>?_)
 ·refine jN ?_
  simpa only[a,true_and] using hk
 ·refine Z1 ?_
  simpa only[a,false_and,if_false] using hk
theorem cmpKind_sort_spec {s:ByteArray} {n:Int} {dv tv kv:Value} {t:M.Tm} {xs:List Int} (ht:TermR F w tv t) (hx:Ints G w kv xs) (hl:xs.length=2)
  (hK:∀w',Ext w w'→K (.int .i64 (if 0<xs.getD 0 0∧xs.getD 0 0=xs.getD 1 0 then 0 else-1)) w'):vcall PP j6 #[KV s n,dv,tv,kv] w K:=by
 apply JB;unfold Zh
 obtain⟨ksv,rfl,hks⟩:=ht
 refine zx fun b1 w1 hb1 he1 hs1 h1=>?_
 refine zx fun b2 w2 hb2 he2 hs2 h2=>?_
 refine zt fun w3 he3 _=>?_
 have hx3:=hx.ext ((he1.trans he2).trans he3)
 have hk:=hK _ ((he1.trans he2).trans he3)
 simp(disch:=first|(simp only[push_cast];done)|omega) only[push_cast,hx3.iaddr,hx3.load,true_and]
 refine zg (fun a=>?_) (fun a=>?_)
 ·refine jN ?_
  simpa only[a,true_and] using hk
 ·refine Z1 ?_
  simpa only[a,false_and,if_false] using hk
theorem catKind_sort_spec {s:ByteArray} {n:Int} {dv tv kv:Value} {t:M.Tm} {xs:List Int} (ht:TermR F w tv t) (hx:Ints G w kv xs) (hl:xs.length=2) (hr:∀i,-1≤xs.getD i 0∧xs.getD i 0≤4)
  (hK:∀w',Ext w w'→K (.int .i64 (if 0<xs.getD 0 0∧0<xs.getD 1 0∧xs.getD 0 0+xs.getD 1 0≤4 then xs.getD 0 0+xs.getD 1 0 else-1)) w'):vcall PP j7 #[KV s n,dv,tv,kv] w K:=by
 apply JD;unfold Zj
 obtain⟨ksv,rfl,hks⟩:=ht
 refine zx fun b1 w1 hb1 he1 hs1 h1=>?_
 refine zx fun b2 w2 hb2 he2 hs2 h2=>?_
 refine zt fun w3 he3 _=>?_
 have hx3:=hx.ext ((he1.trans he2).trans he3)
 have hk:=hK _ ((he1.trans he2).trans he3)
 have r0:=hr 0
 have r1:=hr 1
 have e1:IntKind.i64.wrap (xs.getD 0 0+xs.getD 1 0)=xs.getD 0 0+xs.getD 1 0:=zA (by omega) (by omega)
 simp(disch:=first|(simp only[push_cast];done)|omega) only[push_cast,hx3.iaddr,hx3.load,true_and,e1]
 refine zg (fun a=>?_) (fun a=>?_)
 ·refine zg (fun b=>?_) (fun b=>?_)
  ·refine jN ?_
   simpa only[a,b,true_and] using hk
  ·refine Z1 ?_
   simpa only[b,false_and,and_false,if_false] using hk
 ·refine Z1 ?_
  simpa only[a,false_and,if_false] using hk
theorem ifKind_sort_spec {s:ByteArray} {n:Int} {dv tv kv:Value} {t:M.Tm} {xs:List Int} (ht:TermR F w tv t) (hx:Ints G w kv xs) (hl:xs.length=3)
  (hK:∀w',Ext w w'→K (.int .i64 (if xs.getD 0 0=0∧xs.getD 1 0=xs.getD 2 0 then xs.getD 1 0 else-1)) w'):vcall PP js #[KV s n,dv,tv,kv] w K:=by
 apply Ke;unfold ZF
 obtain⟨ksv,rfl,hks⟩:=ht
 refine zx fun b1 w1 hb1 he1 hs1 h1=>?_
 refine zx fun b2 w2 hb2 he2 hs2 h2=>?_
 refine zt fun w3 he3 _=>?_
 have hx3:=hx.ext ((he1.trans he2).trans he3)
 have hk:=hK _ ((he1.trans he2).trans he3)
 simp(disch:=first|(simp only[push_cast];done)|omega) only[push_cast,hx3.iaddr,hx3.load,true_and]
 refine zg (fun a=>?_) (fun a=>?_)
 ·refine jN ?_
  simpa only[a,true_and] using hk
 ·refine Z1 ?_
  simpa only[a,false_and,if_false] using hk
theorem V5 {s:ByteArray} {n:Int} {dv tv kv:Value} {t:M.Tm} (ht:TermR F w tv t)
  (hK:∀w',Ext w w'→K (.int .i64 (if M.vok t.a t.b=true then t.a else-1)) w'):vcall PP j1 #[KV s n,dv,tv,kv] w K:=by
 apply Jx;unfold Zd
 obtain⟨ksv,rfl,hks⟩:=ht
 refine zx fun b1 w1 hb1 he1 hs1 h1=>?_
 refine zx fun b2 w2 hb2 he2 hs2 h2=>?_
 refine zt fun w3 he3 _=>?_
 have h3:=h2.ext he3
 simp(disch:=first|(simp only[push_cast];done)|omega) only[push_cast,h3.ld1,h3.ld2,true_and]
 refine VecOk_spec fun w4 he4=>?_
 have h4:=h3.ext he4
 simp(disch:=first|(simp only[push_cast];done)|omega) only[push_cast,h4.ld1,true_and,and_self]
 exact Yy (hK _ (((he1.trans he2).trans he3).trans he4))
theorem cutKind_sort_spec {s:ByteArray} {n:Int} {dv tv kv:Value} {t:M.Tm} {xs:List Int} (ht:TermR F w tv t) (hx:Ints G w kv xs) (hl:xs.length=1) (hr:∀i,-1≤xs.getD i 0∧xs.getD i 0≤4)
  (hK:∀w',Ext w w'→K (.int .i64 (if 0≤t.b∧t.b≤t.a∧t.a<xs.getD 0 0 then t.a-t.b+1 else-1)) w'):vcall PP j5 #[KV s n,dv,tv,kv] w K:=by
 apply JA;unfold Zg
 obtain⟨ksv,rfl,hks⟩:=ht
 refine zx fun b1 w1 hb1 he1 hs1 h1=>?_
 refine zx fun b2 w2 hb2 he2 hs2 h2=>?_
 refine zt fun w3 he3 _=>?_
 have hx3:=hx.ext ((he1.trans he2).trans he3)
 have h3:=h2.ext he3
 have hk:=hK _ ((he1.trans he2).trans he3)
 have r0:=hr 0
 simp(disch:=first|(simp only[push_cast];done)|omega) only[push_cast,h3.ld1,h3.ld2,hx3.iaddr,hx3.load,true_and]
 refine zg (fun a=>?_) (fun a=>?_)
 ·refine zg (fun b=>?_) (fun b=>?_)
  ·by_cases c:t.a<xs.getD 0 0
   ·have e1:IntKind.i64.wrap (IntKind.i64.wrap (t.a-t.b)+1)=t.a-t.b+1:=by rw[zA (x:=t.a-t.b) (by omega) (by omega),zA (by omega) (by omega)]
    rw[e1]
    refine jN ?_
    simpa only[a,b,c,true_and] using hk
   ·refine jN ?_
    simpa only[c,and_false,if_false] using hk
  ·refine Z1 ?_
   simpa only[b,false_and,and_false,if_false] using hk
 ·refine Z1 ?_
  simpa only[a,false_and,if_false] using hk
theorem Kr {s:ByteArray} {n:Int} {f dv tv kv:Value} {t:M.Tm} {xs:List Int} (ht:TermR F w tv t) (hx:Ints G w kv xs)
  (hK:∀w',Ext w w'→K (.int .i64 (if xs.any (fun x=>decide (x≠0)) then-1 else 0)) w'):vcall PP qT #[.agg ⟨[.string s,.int .i64 n,f]⟩,dv,tv,kv] w K:=by
 apply QG;unfold kK
 obtain⟨ksv,rfl,hks⟩:=ht
 refine zx fun b1 w1 hb1 he1 hs1 h1=>?_
 refine zx fun b2 w2 hb2 he2 hs2 h2=>?_
 have hx3:=hx.ext (he1.trans he2)
 refine Q4 (p:=fun i=>decide (xs.getD i 0≠0)) hx3 (fun i hi=>?_) fun w3 he3=>?_
 ·rw[yy0 (by simpa using hi)]
  intro w' K he hK
  simp only[push_cast]
  apply Xc;unfold jL
  simp only[push_cast]
  have:=hK _ (Same.refl _ _)
  simpa using this
 ·have hk:=hK _ ((he1.trans he2).trans he3)
  rw[List.length_map,jh0 xs 0 (fun x=>decide (x≠0))]
  simp only[push_cast]
  refine Yy ?_
  cases hb:xs.any fun x=>decide (x≠0)<;>rw[hb] at hk<;>exact hk
theorem nameKind_sort_spec {s:ByteArray} {n:Int} {dv tv kv:Value} {t:M.Tm} {ds:List M.Dcl} (ht:TermR F w tv t) (hd:DclsR G w dv ds)
  (hK:∀w',Ext w w'→K (.int .i64 (if M.findD ds t.s<0 then-1 else(ds.getD (M.findD ds t.s).toNat We).2)) w'):vcall PP qO #[KV s n,dv,tv,kv] w K:=by
 apply QA;unfold kE
 obtain⟨ksv,rfl,hks⟩:=ht
 refine zx fun b1 w1 hb1 he1 hs1 h1=>?_
 refine zx fun b2 w2 hb2 he2 hs2 h2=>?_
 simp only[push_cast]
 have hd2:=hd.ext (he1.trans he2)
 refine IndexFunc_Decl (p:=fun i=>decide ((ds.getD i We).1=t.s)) hd2 (fun i hi=>?_) fun w3 he3=>?_
 ·intro w' K he hK
  simp only[push_cast]
  apply Xa;unfold jJ
  refine zx fun b3 w4 hb3 he4 hs4 h4=>?_
  have h5:=(h2.ext he).ext he4
  simp(disch:=first|(simp only[push_cast];done)|omega) only[push_cast,h4.ld0,h5.ld3]
  exact hK _ he4
 ·have hfd:=M.findD_lt ds t.s
  have hk:=hK _ ((he1.trans he2).trans he3)
  have hd3:=hd2.ext he3
  have efd:idxI ds.length (fun i=>decide ((ds.getD i We).1=t.s))=M.findD ds t.s:=rfl
  rw[efd]
  simp only[push_cast]
  refine zg (fun a=>?_) (fun a=>?_)
  ·rwa[if_pos a] at hk
  ·rw[if_neg a] at hk
   simp(disch:=first|(simp only[push_cast];done)|omega) only[push_cast,hd3.iaddr]
   simp(disch:=first|(simp only[push_cast];done)|omega) only[push_cast,hd3.load1]
   exact hk
end Go.Proofs.YtaekfnbnhjgboaaGreatDoor
end
section
namespace Go.Proofs.YtaekfnbnhjgboaaGreatDoor
open Go Go.Vc Go.Proofs
variable {w:World} {K:Value→World→Prop} {F:Nat→Prop}
theorem l1Max_spec {a b:Int} (hK:K (.int .i64 (max a b)) w):vcall PP Xt #[.int .i64 a,.int .i64 b] w K:=by
 apply yW0;unfold W3
 simp only[push_cast]
 refine zg (fun h=>?_) (fun h=>?_)
 ·rwa[show max a b=a by omega] at hK
 ·rwa[show max a b=b by omega] at hK
theorem l1Min_spec {a b:Int} (hK:K (.int .i64 (min a b)) w):vcall PP Xs #[.int .i64 a,.int .i64 b] w K:=by
 apply yV0;unfold W2
 simp only[push_cast]
 refine zg (fun h=>?_) (fun h=>?_)
 ·rwa[show min a b=a by omega] at hK
 ·rwa[show min a b=b by omega] at hK
theorem pow62 {k:Nat} (h:k≤62):2^k≤4611686018427387904:=Nat.le_trans (Nat.pow_le_pow_right (by omega) h) (by decide)
theorem l1Two_spec {n:Int} (h:n≤62) (hK:K (.int .i64 ((2^n.toNat:Nat):Int)) w):vcall PP xM #[.int .i64 n] w K:=by
 apply yU0;unfold W1
 refine vloop_up n.toNat (fun i u w'=>u=[.int .i64 (2^i:Nat),.int .i64 i]∧w'=w) ⟨rfl,rfl⟩ ?_
 rintro i _ _ w1 C hi ⟨rfl,rfl⟩ hC
 have hp:=pow62 (k:=i) (by omega)
 have e1:((2^i:Nat):Int)*2=((2^(i+1):Nat):Int):=by rw[Nat.pow_succ];omega
 have hp2:i<n.toNat→2^(i+1)≤4611686018427387904:=fun h=>pow62 (by omega)
 obtain⟨q,hq⟩:∃q,q=2^i:=⟨_,rfl⟩
 obtain⟨q2,hq2⟩:∃q2,q2=2^(i+1):=⟨_,rfl⟩
 rw[←hq] at e1 hp⊢
 rw[←hq2] at e1 hC hp2
 simp only[push_cast]
 refine zg (fun a=>?_) (fun a=>?_)
 ·have hp2':=hp2 (by omega)
  rw[e1,zA (by omega) (by omega),inc64' (by omega)]
  exact hC (by omega) _ _ ⟨rfl,rfl⟩
 ·have:i=n.toNat:=by omega
  subst this
  rw[hq];exact hK
theorem l1Two_nat {n:Nat} (h:n≤62) (hK:K (.int .i64 ((2^n:Nat):Int)) w):vcall PP xM #[.int .i64 (n:Int)] w K:=
 l1Two_spec (by omega) (by rwa[Int.toNat_natCast])
theorem spec_VecOk_spec {wd n:Int} (hK:∀w',Ext w w'→K (.bool (M.vok wd n)) w'):vcall PP Xv #[jU wd n] w K:=by
 apply yY0;unfold W5
 refine zx fun b1 w1 hb1 he1 hs1 h1=>?_
 refine zt fun w2 he2 _=>?_
 have h2:=h1.ext he2
 have hE:=he1.trans he2
 simp(disch:=(simp only[push_cast];done)) only[push_cast,h2.ld0,h2.ld1,true_and]
 have hk:=hK w2 hE
 refine zg (fun a1=>?_) (fun a1=>?_)
 ·refine zg (fun a2=>?_) (fun a2=>?_)
  ·refine zg (fun a3=>?_) (fun a3=>?_)
   ·refine l1Two_spec (by omega) ?_
    obtain⟨q,hq⟩:∃q,q=2^wd.toNat:=⟨_,rfl⟩
    have hv:M.vok wd n=decide (n<(q:Nat)):=by
     simp only[M.vok,decide_eq_true a1,decide_eq_true a2,decide_eq_true a3,Bool.true_and]
     rw[hq,ze0]
    rw[←hq]
    simp(disch:=(simp only[push_cast];done)) only[push_cast,h2.ld1,true_and,and_self]
    rw[hv] at hk
    exact hk
   ·have hv:M.vok wd n=false:=by simp only[M.vok,decide_eq_false a3,Bool.and_false,Bool.false_and]
    rw[hv] at hk;exact hk
  ·have hv:M.vok wd n=false:=by simp only[M.vok,decide_eq_false a2,Bool.and_false,Bool.false_and]
   rw[hv] at hk;exact hk
 ·have hv:M.vok wd n=false:=by simp only[M.vok,decide_eq_false a1,Bool.false_and]
  rw[hv] at hk;exact hk
theorem l1Bit_spec {n k:Nat} (hn:n<9223372036854775808) (hk:k≤62) (hK:K (.int .i64 ((n/2^k%2:Nat):Int)) w):vcall PP Xu #[.int .i64 (n:Int),.int .i64 (k:Int)] w K:=by
 apply yX0;unfold W4
 refine l1Two_nat hk ?_
 have hp:0<2^k:=Nat.pow_pos (by omega)
 have hd:n/2^k≤n:=Nat.div_le_self _ _
 rw[Wn (by omega),show(n:Int).tdiv ((2^k:Nat):Int)=((n/2^k:Nat):Int) from rfl,wrapN (by omega),Q6 (by omega),show((n/2^k:Nat):Int).tmod 2=((n/2^k%2:Nat):Int) from rfl]
 exact hK
end Go.Proofs.YtaekfnbnhjgboaaGreatDoor
end
section
namespace Go.Proofs.YtaekfnbnhjgboaaGreatDoor
open Go Go.Vc Go.Proofs
variable {w:World} {K:Value→World→Prop} {F G:Nat→Prop}
theorem unKind_value_spec {s:ByteArray} {n:Int} {ev tv kv:Value} {t:M.Tm} {xs:List (Int×Int)} (ht:TermR F w tv t) (hx:PairsR G w kv xs) (hl:xs.length=1)
  (hK:∀w',Ext w w'→K (.int .i64 (M.vecUn t.op (xs.getD 0 (0,0)).1 (xs.getD 0 (0,0)).2).1.2) w'):vcall PP j2 #[KV s n,ev,tv,kv] w K:=by
 apply Jy;unfold Ze
 obtain⟨ksv,rfl,hks⟩:=ht
 refine zx fun b1 w1 hb1 he1 hs1 h1=>?_
 refine zx fun b2 w2 hb2 he2 hs2 h2=>?_
 have hE:=he1.trans he2
 have hz:=hE.size
 refine zW (fun u w'=> ∃b wd,u=[.pointer (some ⟨b,0,none⟩)]∧Ext w w'∧Blk w' b [.int .i64 wd,.int .i64 (M.vecUn t.op (xs.getD 0 (0,0)).1 (xs.getD 0 (0,0)).2).1.2] zb) (fun C hC=>?_) ?_
 ·refine zt fun w3 he3 _=>?_
  have hE3:=hE.trans he3
  have hx3:=hx.ext hE3
  have h3:=h2.ext he3
  have hz3:=hE3.size
  simp(disch:=first|(simp only[push_cast];done)|omega) only[push_cast,h3.ld0,hx3.iaddr,hx3.load,true_and,and_true]
  refine⟨?_,?_⟩
  ·refine VecUn_spec fun w4 he4=>?_
   have hz4:=he4.size
   simp only[push_cast,true_and]
   refine zD xm fun b5 w5 hb5 he5 hs5 h5=>?_
   try simp only[push_cast,true_and,and_self]
   refine stVec h5 fun w6 hw6 _ h6=>?_
   try simp only[push_cast,true_and,and_self]
   exact hC _ _ ⟨_,_,rfl,Ext.then ((hE3.trans he4).trans he5) hw6 fun y hy=>by subst hy;omega,h6⟩
  ·refine zD xm fun b5 w5 hb5 he5 hs5 h5=>?_
   have h4:=h3.ext he5
   have hx4:=hx3.ext he5
   simp(disch:=first|(simp only[push_cast];done)|omega) only[push_cast,h4.ld0,hx4.iaddr,hx4.load,true_and,and_self,and_true]
   refine VecUn_spec fun w6 he6=>?_
   simp only[push_cast,true_and]
   refine stVec (h5.ext he6) fun w7 hw7 _ h7=>?_
   try simp only[push_cast,true_and,and_self]
   exact hC _ _ ⟨_,_,rfl,Ext.then ((hE3.trans he5).trans he6) hw7 fun y hy=>by subst hy;omega,h7⟩
 ·rintro u g w3 ⟨b,wd,rfl,he3,h3⟩
  simp(disch:=(simp only[push_cast];done)) only[push_cast,h3.ld1]
  exact hK _ he3
theorem binKind_value_spec {s:ByteArray} {n:Int} {ev tv kv:Value} {t:M.Tm} {xs:List (Int×Int)} (ht:TermR F w tv t) (hx:PairsR G w kv xs) (hl:xs.length=2)
  (hK:∀w',Ext w w'→K (.int .i64 (M.vecBin t.op (xs.getD 0 (0,0)).1 (xs.getD 0 (0,0)).2 (xs.getD 1 (0,0)).1 (xs.getD 1 (0,0)).2).1.2) w'):vcall PP qU #[KV s n,ev,tv,kv] w K:=by
 apply QI;unfold kM
 obtain⟨ksv,rfl,hks⟩:=ht
 refine zx fun b1 w1 hb1 he1 hs1 h1=>?_
 refine zx fun b2 w2 hb2 he2 hs2 h2=>?_
 have hE:=he1.trans he2
 have hz:=hE.size
 refine zW (fun u w'=> ∃b wd,u=[.pointer (some ⟨b,0,none⟩)]∧Ext w w'∧Blk w' b [.int .i64 wd,.int .i64 (M.vecBin t.op (xs.getD 0 (0,0)).1 (xs.getD 0 (0,0)).2 (xs.getD 1 (0,0)).1 (xs.getD 1 (0,0)).2).1.2] zb) (fun C hC=>?_) ?_
 ·refine zt fun w3 he3 _=>?_
  have hE3:=hE.trans he3
  have hx3:=hx.ext hE3
  have h3:=h2.ext he3
  have hz3:=hE3.size
  simp(disch:=first|(simp only[push_cast];done)|omega) only[push_cast,h3.ld0,hx3.iaddr,hx3.load,true_and,and_true]
  refine⟨?_,?_⟩
  ·refine VecBin_spec fun w4 he4=>?_
   have hz4:=he4.size
   simp only[push_cast,true_and]
   refine zD xm fun b5 w5 hb5 he5 hs5 h5=>?_
   try simp only[push_cast,true_and,and_self]
   refine stVec h5 fun w6 hw6 _ h6=>?_
   try simp only[push_cast,true_and,and_self]
   exact hC _ _ ⟨_,_,rfl,Ext.then ((hE3.trans he4).trans he5) hw6 fun y hy=>by subst hy;omega,h6⟩
  ·refine zD xm fun b5 w5 hb5 he5 hs5 h5=>?_
   have h4:=h3.ext he5
   have hx4:=hx3.ext he5
   simp(disch:=first|(simp only[push_cast];done)|omega) only[push_cast,h4.ld0,hx4.iaddr,hx4.load,true_and,and_self,and_true]
   refine VecBin_spec fun w6 he6=>?_
   simp only[push_cast,true_and]
   refine stVec (h5.ext he6) fun w7 hw7 _ h7=>?_
   try simp only[push_cast,true_and,and_self]
   exact hC _ _ ⟨_,_,rfl,Ext.then ((hE3.trans he5).trans he6) hw7 fun y hy=>by subst hy;omega,h7⟩
 ·rintro u g w3 ⟨b,wd,rfl,he3,h3⟩
  simp(disch:=(simp only[push_cast];done)) only[push_cast,h3.ld1]
  exact hK _ he3
theorem catKind_value_spec {s:ByteArray} {n:Int} {ev tv kv:Value} {t:M.Tm} {xs:List (Int×Int)} (ht:TermR F w tv t) (hx:PairsR G w kv xs) (hl:xs.length=2)
  (hK:∀w',Ext w w'→K (.int .i64 (M.vecBin t.op (xs.getD 0 (0,0)).1 (xs.getD 0 (0,0)).2 (xs.getD 1 (0,0)).1 (xs.getD 1 (0,0)).2).1.2) w'):vcall PP qR #[KV s n,ev,tv,kv] w K:=by
 apply QD;unfold kH
 obtain⟨ksv,rfl,hks⟩:=ht
 refine zx fun b1 w1 hb1 he1 hs1 h1=>?_
 refine zx fun b2 w2 hb2 he2 hs2 h2=>?_
 have hE:=he1.trans he2
 have hz:=hE.size
 refine zW (fun u w'=> ∃b wd,u=[.pointer (some ⟨b,0,none⟩)]∧Ext w w'∧Blk w' b [.int .i64 wd,.int .i64 (M.vecBin t.op (xs.getD 0 (0,0)).1 (xs.getD 0 (0,0)).2 (xs.getD 1 (0,0)).1 (xs.getD 1 (0,0)).2).1.2] zb) (fun C hC=>?_) ?_
 ·refine zt fun w3 he3 _=>?_
  have hE3:=hE.trans he3
  have hx3:=hx.ext hE3
  have h3:=h2.ext he3
  have hz3:=hE3.size
  simp(disch:=first|(simp only[push_cast];done)|omega) only[push_cast,h3.ld0,hx3.iaddr,hx3.load,true_and,and_true]
  refine⟨?_,?_⟩
  ·refine VecBin_spec fun w4 he4=>?_
   have hz4:=he4.size
   simp only[push_cast,true_and]
   refine zD xm fun b5 w5 hb5 he5 hs5 h5=>?_
   try simp only[push_cast,true_and,and_self]
   refine stVec h5 fun w6 hw6 _ h6=>?_
   try simp only[push_cast,true_and,and_self]
   exact hC _ _ ⟨_,_,rfl,Ext.then ((hE3.trans he4).trans he5) hw6 fun y hy=>by subst hy;omega,h6⟩
  ·refine zD xm fun b5 w5 hb5 he5 hs5 h5=>?_
   have h4:=h3.ext he5
   have hx4:=hx3.ext he5
   simp(disch:=first|(simp only[push_cast];done)|omega) only[push_cast,h4.ld0,hx4.iaddr,hx4.load,true_and,and_self,and_true]
   refine VecBin_spec fun w6 he6=>?_
   simp only[push_cast,true_and]
   refine stVec (h5.ext he6) fun w7 hw7 _ h7=>?_
   try simp only[push_cast,true_and,and_self]
   exact hC _ _ ⟨_,_,rfl,Ext.then ((hE3.trans he5).trans he6) hw7 fun y hy=>by subst hy;omega,h7⟩
 ·rintro u g w3 ⟨b,wd,rfl,he3,h3⟩
  simp(disch:=(simp only[push_cast];done)) only[push_cast,h3.ld1]
  exact hK _ he3
theorem cutKind_value_spec {s:ByteArray} {n:Int} {ev tv kv:Value} {t:M.Tm} {xs:List (Int×Int)} (ht:TermR F w tv t) (hx:PairsR G w kv xs) (hl:xs.length=1)
  (hK:∀w',Ext w w'→K (.int .i64 (M.vecCut (xs.getD 0 (0,0)).1 (xs.getD 0 (0,0)).2 t.a t.b).1.2) w'):vcall PP qP #[KV s n,ev,tv,kv] w K:=by
 apply QB;unfold kF
 obtain⟨ksv,rfl,hks⟩:=ht
 refine zx fun b1 w1 hb1 he1 hs1 h1=>?_
 refine zx fun b2 w2 hb2 he2 hs2 h2=>?_
 have hE:=he1.trans he2
 have hz:=hE.size
 refine zW (fun u w'=> ∃b wd,u=[.pointer (some ⟨b,0,none⟩)]∧Ext w w'∧Blk w' b [.int .i64 wd,.int .i64 (M.vecCut (xs.getD 0 (0,0)).1 (xs.getD 0 (0,0)).2 t.a t.b).1.2] zb) (fun C hC=>?_) ?_
 ·refine zt fun w3 he3 _=>?_
  have hE3:=hE.trans he3
  have hx3:=hx.ext hE3
  have h3:=h2.ext he3
  have hz3:=hE3.size
  simp(disch:=first|(simp only[push_cast];done)|omega) only[push_cast,h3.ld1,h3.ld2,hx3.iaddr,hx3.load,true_and,and_true]
  refine⟨?_,?_⟩
  ·refine VecCut_spec fun w4 he4=>?_
   have hz4:=he4.size
   simp only[push_cast,true_and]
   refine zD xm fun b5 w5 hb5 he5 hs5 h5=>?_
   try simp only[push_cast,true_and,and_self]
   refine stVec h5 fun w6 hw6 _ h6=>?_
   try simp only[push_cast,true_and,and_self]
   exact hC _ _ ⟨_,_,rfl,Ext.then ((hE3.trans he4).trans he5) hw6 fun y hy=>by subst hy;omega,h6⟩
  ·refine zD xm fun b5 w5 hb5 he5 hs5 h5=>?_
   have h4:=h3.ext he5
   have hx4:=hx3.ext he5
   simp(disch:=first|(simp only[push_cast];done)|omega) only[push_cast,h4.ld1,h4.ld2,hx4.iaddr,hx4.load,true_and,and_self,and_true]
   refine VecCut_spec fun w6 he6=>?_
   simp only[push_cast,true_and]
   refine stVec (h5.ext he6) fun w7 hw7 _ h7=>?_
   try simp only[push_cast,true_and,and_self]
   exact hC _ _ ⟨_,_,rfl,Ext.then ((hE3.trans he5).trans he6) hw7 fun y hy=>by subst hy;omega,h7⟩
 ·rintro u g w3 ⟨b,wd,rfl,he3,h3⟩
  simp(disch:=(simp only[push_cast];done)) only[push_cast,h3.ld1]
  exact hK _ he3
theorem cmpKind_value_spec {s:ByteArray} {n:Int} {ev tv kv:Value} {t:M.Tm} {xs:List (Int×Int)} (ht:TermR F w tv t) (hx:PairsR G w kv xs) (hl:xs.length=2)
  (hK:∀w',Ext w w'→K (.int .i64 (M.b2i (M.vecCmp t.op (xs.getD 0 (0,0)).1 (xs.getD 0 (0,0)).2 (xs.getD 1 (0,0)).1 (xs.getD 1 (0,0)).2).1)) w'):vcall PP qQ #[KV s n,ev,tv,kv] w K:=by
 apply QC;unfold kG
 obtain⟨ksv,rfl,hks⟩:=ht
 refine zx fun b1 w1 hb1 he1 hs1 h1=>?_
 refine zx fun b2 w2 hb2 he2 hs2 h2=>?_
 refine zt fun w3 he3 _=>?_
 have hE3:=(he1.trans he2).trans he3
 have hx3:=hx.ext hE3
 have h3:=h2.ext he3
 simp(disch:=first|(simp only[push_cast];done)|omega) only[push_cast,h3.ld0,hx3.iaddr,hx3.load,true_and,and_true]
 refine VecCmp_spec fun w4 he4=>?_
 simp only[push_cast,true_and]
 exact WH (hK _ (hE3.trans he4))
theorem JQ {s:ByteArray} {n:Int} {ev tv kv:Value} {t:M.Tm} (ht:TermR F w tv t)
  (hK:∀w',Ext w w'→K (.int .i64 t.b) w'):vcall PP qN #[KV s n,ev,tv,kv] w K:=by
 apply Qy;unfold kC
 obtain⟨ksv,rfl,hks⟩:=ht
 refine zx fun b1 w1 hb1 he1 hs1 h1=>?_
 refine zx fun b2 w2 hb2 he2 hs2 h2=>?_
 simp(disch:=(simp only[push_cast];done)) only[push_cast,h2.ld2]
 exact hK _ (he1.trans he2)
theorem qR0:k10 PP jB .string zc:=⟨_,Qv,by kernel_rfl⟩
theorem Jm {s:ByteArray} {n:Int} {tv kv:Value} {t:M.Tm} {mb:Nat} {f:List (Value×Value)} {x:Int} (ht:TermR F w tv t) (hm:MapF .string w mb f) (hin:(Value.string t.s,Value.int .i64 x)∈f)
  (hK:∀w',Ext w w'→K (.int .i64 x) w'):vcall PP qy #[KV s n,.map (some mb),tv,kv] w K:=by
 apply XN;unfold kf
 obtain⟨ksv,rfl,hks⟩:=ht
 refine zx fun b1 w1 hb1 he1 hs1 h1=>?_
 refine zx fun b2 w2 hb2 he2 hs2 h2=>?_
 simp(disch:=(simp only[push_cast];done)) only[push_cast,h2.ld3]
 rw[zk0 qR0 (hm.ext (he1.trans he2)) (K4 _) hin]
 exact hK _ (he1.trans he2)
theorem ifKind_value_spec {s:ByteArray} {n:Int} {ev tv kv:Value} {t:M.Tm} {xs:List (Int×Int)} (ht:TermR F w tv t) (hx:PairsR G w kv xs) (hl:xs.length=3)
  (hK:∀w',Ext w w'→K (.int .i64 (if(xs.getD 0 (0,0)).2=1 then(xs.getD 1 (0,0)).2 else(xs.getD 2 (0,0)).2)) w'):vcall PP j3 #[KV s n,ev,tv,kv] w K:=by
 apply Jz;unfold Zf
 obtain⟨ksv,rfl,hks⟩:=ht
 refine zx fun b1 w1 hb1 he1 hs1 h1=>?_
 refine zx fun b2 w2 hb2 he2 hs2 h2=>?_
 have hx3:=hx.ext (he1.trans he2)
 have hk:=hK _ (he1.trans he2)
 try simp(disch:=first|(simp only[push_cast];done)|omega) only[push_cast,hx3.iaddr]
 try simp(disch:=first|(simp only[push_cast];done)|omega) only[push_cast,hx3.load1]
 refine zg (fun a=>?_) (fun a=>?_)
 ·rw[if_pos a] at hk
  try simp(disch:=first|(simp only[push_cast];done)|omega) only[push_cast,hx3.iaddr]
  try simp(disch:=first|(simp only[push_cast];done)|omega) only[push_cast,hx3.load1]
  exact hk
 ·rw[if_neg a] at hk
  try simp(disch:=first|(simp only[push_cast];done)|omega) only[push_cast,hx3.iaddr]
  try simp(disch:=first|(simp only[push_cast];done)|omega) only[push_cast,hx3.load1]
  exact hk
def zi0 (f:Value) (g:List (Int×Int)→Bool) (n:Nat):Prop:=∀(w:World) (G:Nat→Prop) (kv:Value) (xs:List (Int×Int)) (K:Value→World→Prop),PairsR G w kv xs→xs.length=n→K (.bool (g xs)) w→vcallv PP f #[kv] w K
theorem JL {s:ByteArray} {n:Int} {f ev tv kv:Value} {t:M.Tm} {g:List (Int×Int)→Bool} {m:Nat} {xs:List (Int×Int)} (hf:zi0 f g m) (ht:TermR F w tv t) (hx:PairsR G w kv xs) (hl:xs.length=m)
  (hK:∀w',Ext w w'→K (.int .i64 (M.b2i (g xs))) w'):vcall PP qA #[.agg ⟨[.string s,.int .i64 n,f]⟩,ev,tv,kv] w K:=by
 apply XR;unfold kk
 obtain⟨ksv,rfl,hks⟩:=ht
 refine zx fun b1 w1 hb1 he1 hs1 h1=>?_
 refine zx fun b2 w2 hb2 he2 hs2 h2=>?_
 have h3:=h1.ext he2
 simp(disch:=(simp only[push_cast];done)) only[push_cast,h3.ld2]
 refine hf _ _ _ _ _ (hx.ext (he1.trans he2)) hl ?_
 exact WH (hK _ (he1.trans he2))
theorem qV0:zi0 (.func (.func Y5) #[] #[]) (fun _=>true) 0:=by
 intro w G kv xs K hx hl hK
 simp only[push_cast]
 apply UT;unfold Jb
 exact hK
theorem kinds2_fn:zi0 (.func (.func Y4) #[] #[]) (fun xs=>decide ((xs.getD 0 (0,0)).2=0)) 1:=by
 intro w G kv xs K hx hl hK
 simp only[push_cast]
 apply US;unfold Ja
 try simp(disch:=first|(simp only[push_cast];done)|omega) only[push_cast,hx.iaddr]
 try simp(disch:=first|(simp only[push_cast];done)|omega) only[push_cast,hx.load1]
 exact hK
theorem kinds3_fn:zi0 (.func (.func Y3) #[] #[]) (fun xs=>decide ((xs.getD 0 (0,0)).2=1)&&decide ((xs.getD 1 (0,0)).2=1)) 2:=by
 intro w G kv xs K hx hl hK
 simp only[push_cast]
 apply UR;unfold J9
 try simp(disch:=first|(simp only[push_cast];done)|omega) only[push_cast,hx.iaddr]
 try simp(disch:=first|(simp only[push_cast];done)|omega) only[push_cast,hx.load1]
 refine zg (fun a=>?_) (fun a=>?_)
 ·try simp(disch:=first|(simp only[push_cast];done)|omega) only[push_cast,hx.iaddr]
  try simp(disch:=first|(simp only[push_cast];done)|omega) only[push_cast,hx.load1]
  simpa only[decide_eq_true a,Bool.true_and] using hK
 ·simpa only[decide_eq_false a,Bool.false_and] using hK
theorem kinds4_fn:zi0 (.func (.func Y2) #[] #[]) (fun xs=>decide ((xs.getD 0 (0,0)).2=1)||decide ((xs.getD 1 (0,0)).2=1)) 2:=by
 intro w G kv xs K hx hl hK
 simp only[push_cast]
 apply UQ;unfold J8
 try simp(disch:=first|(simp only[push_cast];done)|omega) only[push_cast,hx.iaddr]
 try simp(disch:=first|(simp only[push_cast];done)|omega) only[push_cast,hx.load1]
 refine zg (fun a=>?_) (fun a=>?_)
 ·simpa only[decide_eq_true a,Bool.true_or] using hK
 ·try simp(disch:=first|(simp only[push_cast];done)|omega) only[push_cast,hx.iaddr]
  try simp(disch:=first|(simp only[push_cast];done)|omega) only[push_cast,hx.load1]
  simpa only[decide_eq_false a,Bool.false_or] using hK
end Go.Proofs.YtaekfnbnhjgboaaGreatDoor
end
section
namespace Go.Proofs.YtaekfnbnhjgboaaGreatDoor
open Go Go.Vc Go.Proofs
variable {w:World} {K:Value→World→Prop} {F G:Nat→Prop}
def EnvM (w:World) (mb:Nat) (ds:List M.Dcl) (env:List Int):Prop:= ∃f,MapF .string w mb f∧∀s,0≤M.findD ds s→(Value.string s,Value.int .i64 (env.getD (M.findD ds s).toNat 0))∈f
theorem EnvM.ext {mb:Nat} {ds:List M.Dcl} {env:List Int} {w':World} (h:EnvM w mb ds env) (he:Ext w w'):EnvM w' mb ds env:=by
 obtain⟨f,h1,h2⟩:=h;exact⟨f,h1.ext he,h2⟩
def kTy (o:Int):TypeId:=if o≤2 then zM else if o≤13 then zR else if o=14 then zT else if o≤17 then zH else if o=20 then zP else if o=21 then zK else if o=22 then zN else if o=23 then zU else zy
structure KindR (o:Int) (v:Value):Prop where
 word:∃(s:ByteArray) (m:Int) (r:List Value),v= .iface (kTy o) (.agg ⟨.string s:: .int .i64 m::r⟩)∧(o<24→r=[])∧(24≤o→∃f,r=[f]∧f.oneCell'=true)∧(o=20∨o=21∨o=24∨s.data.toList=M.wordL o)
 iface:∃ty x,v= .iface ty x
 kids:∀(w:World) (K:Value→World→Prop),(∀w',Ext w w'→K (.int .i64 (M.arity o)) w')→vinvoke PP v mn_kids #[] w K
 sort:∀(w:World) (K:Value→World→Prop) (F G H:Nat→Prop) (dv tv kv:Value) (ds:List M.Dcl) (t:M.Tm) (xs:List Int),t.op=o→DclsR F w dv ds→TermR G w tv t→Ints H w kv xs→(xs.length:Int)=M.arity o→(∀i,-1≤xs.getD i 0∧xs.getD i 0≤4)→
  (∀w',Ext w w'→K (.int .i64 (M.sortK ds t xs)) w')→vinvoke PP v Z7 #[dv,tv,kv] w K
 value:∀(w:World) (K:Value→World→Prop) (G H:Nat→Prop) (ev tv kv:Value) (ds:List M.Dcl) (env:List Int) (t:M.Tm) (xs:List (Int×Int)),t.op=o→(t.op=21→∃mb,ev= .map (some mb)∧EnvM w mb ds env)→TermR G w tv t→PairsR H w kv xs→(xs.length:Int)=M.arity o→(∀i,i<xs.length→M.inS (xs.getD i (0,0)).1 (xs.getD i (0,0)).2)→
  M.sortK ds t (xs.map (·.1))≠ -1→(∀w',Ext w w'→K (.int .i64 (M.valK ds env t xs)) w')→vinvoke PP v jY #[ev,tv,kv] w K
section
variable {ds:List M.Dcl} {env:List Int} {t:M.Tm} {xs:List Int} {ys:List (Int×Int)}
theorem ZB {i:Nat} (h:i<ys.length):(ys.map (·.1)).getD i 0=(ys.getD i (0,0)).1:=M.getD_map _ h _ _
theorem kind_un {o:Int} {s:ByteArray} (ho:o=1∨o=2) (hw:s.data.toList=M.wordL o):KindR o (.iface zM (KV s 1)) where
 word:=⟨_,_,_,by(rw[show kTy o=zM by unfold kTy;rw[if_pos (by omega)]];try rfl),fun _=>rfl,fun h=>by omega,.inr (.inr (.inr hw))⟩
 iface:=⟨_,_,rfl⟩
 kids:=fun w K hK=>y1 (Jr _ _) (jz fun w' he=>by have:=hK w' he;rcases ho with rfl|rfl<;>exact this)
 sort:=fun w K F G H dv tv kv ds t xs hto hd ht hx hl hr hK=>by
  have hl1:xs.length=1:=by rcases ho with rfl|rfl<;>simp[M.arity] at hl<;>omega
  refine y1 (Jq _ _) (unKind_sort_spec ht hx hl1 fun w' he=>?_)
  have:=hK w' he
  unfold M.sortK at this
  rwa[if_neg (by omega),if_neg (by omega),if_neg (by omega),if_neg (by omega),if_neg (by omega),if_pos (by omega)] at this
 value:=fun w K G H mb tv kv ds env t ys hto he ht hx hl hr hs hK=>by
  have hl1:ys.length=1:=by rcases ho with rfl|rfl<;>simp[M.arity] at hl<;>omega
  refine y1 (Qh _ _) (unKind_value_spec ht hx hl1 fun w' he=>?_)
  have:=hK w' he
  unfold M.sortK at hs
  rw[if_neg (by omega),if_neg (by omega),if_neg (by omega),if_neg (by omega),if_neg (by omega),if_pos (by omega),ZB (by omega)] at hs
  have hp:0<(ys.getD 0 (0,0)).1:=by
   by_cases h:0<(ys.getD 0 (0,0)).1
   ·exact h
   ·rw[if_neg h] at hs;exact absurd rfl hs
  have hv:=M.inS_pos (hr 0 (by omega)) hp
  unfold M.valK at this
  rw[if_neg (by omega),if_neg (by omega),if_neg (by omega),if_neg (by omega),if_neg (by omega),if_neg (by omega),if_neg (by omega),if_neg (by omega),if_pos (by omega)] at this
  unfold M.vecUn
  rw[if_pos ⟨hv,by omega⟩]
  exact this
theorem kind_bin {o:Int} {s:ByteArray} (h3:3≤o) (h13:o≤13) (hw:s.data.toList=M.wordL o):KindR o (.iface zR (KV s 2)) where
 word:=⟨_,_,_,by(rw[show kTy o=zR by unfold kTy;rw[if_neg (by omega),if_pos (by omega)]];try rfl),fun _=>rfl,fun h=>by omega,.inr (.inr (.inr hw))⟩
 iface:=⟨_,_,rfl⟩
 kids:=fun w K hK=>y1 (Qu _ _) (jz fun w' he=>by
  have:=hK w' he
  unfold M.arity at this
  rwa[if_neg (by omega),if_neg (by omega),if_neg (by omega),if_neg (by omega),if_pos (by omega)] at this)
 sort:=fun w K F G H dv tv kv ds t xs hto hd ht hx hl hr hK=>by
  have hl1:xs.length=2:=by
   unfold M.arity at hl
   rw[if_neg (by omega),if_neg (by omega),if_neg (by omega),if_neg (by omega),if_pos (by omega)] at hl;omega
  refine y1 (Qt _ _) (binKind_sort_spec ht hx hl1 fun w' he=>?_)
  have:=hK w' he
  unfold M.sortK at this
  rwa[if_neg (by omega),if_neg (by omega),if_neg (by omega),if_neg (by omega),if_neg (by omega),if_neg (by omega),if_neg (by omega),if_neg (by omega)] at this
 value:=fun w K G H mb tv kv ds env t ys hto he ht hx hl hr hs hK=>by
  have hl1:ys.length=2:=by
   unfold M.arity at hl
   rw[if_neg (by omega),if_neg (by omega),if_neg (by omega),if_neg (by omega),if_pos (by omega)] at hl;omega
  refine y1 (XI _ _) (binKind_value_spec ht hx hl1 fun w' he=>?_)
  have:=hK w' he
  unfold M.sortK at hs
  rw[if_neg (by omega),if_neg (by omega),if_neg (by omega),if_neg (by omega),if_neg (by omega),if_neg (by omega),if_neg (by omega),if_neg (by omega),ZB (by omega),ZB (by omega)] at hs
  have hp:0<(ys.getD 0 (0,0)).1∧(ys.getD 0 (0,0)).1=(ys.getD 1 (0,0)).1:=by
   by_cases h:0<(ys.getD 0 (0,0)).1∧(ys.getD 0 (0,0)).1=(ys.getD 1 (0,0)).1
   ·exact h
   ·rw[if_neg h] at hs;exact absurd rfl hs
  have hv:=M.inS_pos (hr 0 (by omega)) hp.1
  have hv2:=M.inS_pos (hr 1 (by omega)) (by omega)
  unfold M.valK at this
  rw[if_neg (by omega),if_neg (by omega),if_neg (by omega),if_neg (by omega),if_neg (by omega),if_neg (by omega),if_neg (by omega),if_neg (by omega),if_neg (by omega),if_neg (by omega),if_neg (by omega)] at this
  unfold M.vecBin
  rw[if_pos ⟨hv,hv2⟩,if_neg (by omega),if_pos ⟨by omega,by omega,hp.2⟩]
  exact this
theorem kind_cat {s:ByteArray} (hw:s.data.toList=M.wordL 14):KindR 14 (.iface zT (KV s 2)) where
 word:=⟨_,_,_,rfl,fun _=>rfl,fun h=>by omega,.inr (.inr (.inr hw))⟩
 iface:=⟨_,_,rfl⟩
 kids:=fun w K hK=>y1 (Qr _ _) (jz fun w' he=>hK w' he)
 sort:=fun w K F G H dv tv kv ds t xs hto hd ht hx hl hr hK=>by
  have hl1:xs.length=2:=by simp[M.arity] at hl;omega
  refine y1 (Qq _ _) (catKind_sort_spec ht hx hl1 hr fun w' he=>?_)
  have:=hK w' he
  unfold M.sortK at this
  rwa[if_neg (by omega),if_neg (by omega),if_neg (by omega),if_neg (by omega),if_neg (by omega),if_neg (by omega),if_pos (by omega)] at this
 value:=fun w K G H mb tv kv ds env t ys hto he ht hx hl hr hs hK=>by
  have hl1:ys.length=2:=by simp[M.arity] at hl;omega
  refine y1 (XE _ _) (catKind_value_spec ht hx hl1 fun w' he=>?_)
  have:=hK w' he
  unfold M.sortK at hs
  rw[if_neg (by omega),if_neg (by omega),if_neg (by omega),if_neg (by omega),if_neg (by omega),if_neg (by omega),if_pos (by omega),ZB (by omega),ZB (by omega)] at hs
  have hp:0<(ys.getD 0 (0,0)).1∧0<(ys.getD 1 (0,0)).1∧(ys.getD 0 (0,0)).1+(ys.getD 1 (0,0)).1≤4:=by
   by_cases h:0<(ys.getD 0 (0,0)).1∧0<(ys.getD 1 (0,0)).1∧(ys.getD 0 (0,0)).1+(ys.getD 1 (0,0)).1≤4
   ·exact h
   ·rw[if_neg h] at hs;exact absurd rfl hs
  have hv:=M.inS_pos (hr 0 (by omega)) hp.1
  have hv2:=M.inS_pos (hr 1 (by omega)) hp.2.1
  unfold M.valK at this
  rw[if_neg (by omega),if_neg (by omega),if_neg (by omega),if_neg (by omega),if_neg (by omega),if_neg (by omega),if_neg (by omega),if_neg (by omega),if_neg (by omega),if_pos (by omega)] at this
  unfold M.vecBin
  rw[if_pos ⟨hv,hv2⟩,if_pos hto,if_pos hp.2.2]
  exact this
theorem kind_cmp {o:Int} {s:ByteArray} (h3:15≤o) (h13:o≤17) (hw:s.data.toList=M.wordL o):KindR o (.iface zH (KV s 2)) where
 word:=⟨_,_,_,by(rw[show kTy o=zH by unfold kTy;rw[if_neg (by omega),if_neg (by omega),if_neg (by omega),if_pos (by omega)]];try rfl),fun _=>rfl,fun h=>by omega,.inr (.inr (.inr hw))⟩
 iface:=⟨_,_,rfl⟩
 kids:=fun w K hK=>y1 (Qo _ _) (jz fun w' he=>by
  have:=hK w' he
  unfold M.arity at this
  rwa[if_neg (by omega),if_neg (by omega),if_neg (by omega),if_neg (by omega),if_pos (by omega)] at this)
 sort:=fun w K F G H dv tv kv ds t xs hto hd ht hx hl hr hK=>by
  have hl1:xs.length=2:=by
   unfold M.arity at hl
   rw[if_neg (by omega),if_neg (by omega),if_neg (by omega),if_neg (by omega),if_pos (by omega)] at hl;omega
  refine y1 (Qn _ _) (cmpKind_sort_spec ht hx hl1 fun w' he=>?_)
  have:=hK w' he
  unfold M.sortK at this
  rwa[if_neg (by omega),if_neg (by omega),if_neg (by omega),if_neg (by omega),if_neg (by omega),if_neg (by omega),if_neg (by omega),if_pos (by omega)] at this
 value:=fun w K G H mb tv kv ds env t ys hto he ht hx hl hr hs hK=>by
  have hl1:ys.length=2:=by
   unfold M.arity at hl
   rw[if_neg (by omega),if_neg (by omega),if_neg (by omega),if_neg (by omega),if_pos (by omega)] at hl;omega
  refine y1 (XD _ _) (cmpKind_value_spec ht hx hl1 fun w' he=>?_)
  have:=hK w' he
  unfold M.sortK at hs
  rw[if_neg (by omega),if_neg (by omega),if_neg (by omega),if_neg (by omega),if_neg (by omega),if_neg (by omega),if_neg (by omega),if_pos (by omega),ZB (by omega),ZB (by omega)] at hs
  have hp:0<(ys.getD 0 (0,0)).1∧(ys.getD 0 (0,0)).1=(ys.getD 1 (0,0)).1:=by
   by_cases h:0<(ys.getD 0 (0,0)).1∧(ys.getD 0 (0,0)).1=(ys.getD 1 (0,0)).1
   ·exact h
   ·rw[if_neg h] at hs;exact absurd rfl hs
  have hv:=M.inS_pos (hr 0 (by omega)) hp.1
  have hv2:=M.inS_pos (hr 1 (by omega)) (by omega)
  unfold M.valK at this
  rw[if_neg (by omega),if_neg (by omega),if_neg (by omega),if_neg (by omega),if_neg (by omega),if_neg (by omega),if_neg (by omega),if_neg (by omega),if_neg (by omega),if_neg (by omega),if_pos (by omega)] at this
  unfold M.vecCmp
  rw[if_pos ⟨hv,hv2,hp.2,by omega,by omega⟩]
  exact this
theorem kind_vec {s:ByteArray}:KindR 20 (.iface zP (KV s 0)) where
 word:=⟨_,_,_,rfl,fun _=>rfl,fun h=>by omega,.inl rfl⟩
 iface:=⟨_,_,rfl⟩
 kids:=fun w K hK=>y1 (Qg _ _) (jz fun w' he=>hK w' he)
 sort:=fun w K F G H dv tv kv ds t xs hto hd ht hx hl hr hK=>by
  refine y1 (Qf _ _) (V5 ht fun w' he=>?_)
  have:=hK w' he
  unfold M.sortK at this
  rwa[if_pos hto] at this
 value:=fun w K G H mb tv kv ds env t ys hto he ht hx hl hr hs hK=>by
  refine y1 (Xz _ _) (JQ ht fun w' he=>?_)
  have:=hK w' he
  unfold M.valK at this
  rwa[if_pos hto] at this
theorem kind_name {s:ByteArray}:KindR 21 (.iface zK (KV s 0)) where
 word:=⟨_,_,_,rfl,fun _=>rfl,fun h=>by omega,.inr (.inl rfl)⟩
 iface:=⟨_,_,rfl⟩
 kids:=fun w K hK=>y1 (XB _ _) (jz fun w' he=>hK w' he)
 sort:=fun w K F G H dv tv kv ds t xs hto hd ht hx hl hr hK=>by
  refine y1 (XA _ _) (nameKind_sort_spec ht hd fun w' he=>?_)
  have:=hK w' he
  unfold M.sortK at this
  rwa[if_neg (by omega),if_pos hto] at this
 value:=fun w K G H mb tv kv ds env t ys hto he ht hx hl hr hs hK=>by
  obtain⟨mb,rfl,f,hm,hin⟩:=he hto
  unfold M.sortK at hs
  rw[if_neg (by omega),if_pos hto] at hs
  have hfd:0≤M.findD ds t.s:=by
   by_cases h:M.findD ds t.s<0
   ·rw[if_pos h] at hs;exact absurd rfl hs
   ·omega
  refine y1 (X8 _ _) (Jm ht hm (hin _ hfd) fun w' he=>?_)
  have:=hK w' he
  unfold M.valK at this
  rwa[if_neg (by omega),if_pos hto] at this
theorem kind_cut {s:ByteArray} (hw:s.data.toList=M.wordL 22):KindR 22 (.iface zN (KV s 1)) where
 word:=⟨_,_,_,rfl,fun _=>rfl,fun h=>by omega,.inr (.inr (.inr hw))⟩
 iface:=⟨_,_,rfl⟩
 kids:=fun w K hK=>y1 (Ql _ _) (jz fun w' he=>hK w' he)
 sort:=fun w K F G H dv tv kv ds t xs hto hd ht hx hl hr hK=>by
  have hl1:xs.length=1:=by simp[M.arity] at hl;omega
  refine y1 (Qk _ _) (cutKind_sort_spec ht hx hl1 hr fun w' he=>?_)
  have:=hK w' he
  unfold M.sortK at this
  rwa[if_neg (by omega),if_neg (by omega),if_neg (by omega),if_neg (by omega),if_pos (by omega)] at this
 value:=fun w K G H mb tv kv ds env t ys hto he ht hx hl hr hs hK=>by
  have hl1:ys.length=1:=by simp[M.arity] at hl;omega
  refine y1 (XC _ _) (cutKind_value_spec ht hx hl1 fun w' he=>?_)
  have:=hK w' he
  unfold M.sortK at hs
  rw[if_neg (by omega),if_neg (by omega),if_neg (by omega),if_neg (by omega),if_pos (by omega),ZB (by omega)] at hs
  have hp:0≤t.b∧t.b≤t.a∧t.a<(ys.getD 0 (0,0)).1:=by
   by_cases h:0≤t.b∧t.b≤t.a∧t.a<(ys.getD 0 (0,0)).1
   ·exact h
   ·rw[if_neg h] at hs;exact absurd rfl hs
  have hv:=M.inS_pos (hr 0 (by omega)) (by omega)
  unfold M.valK at this
  rw[if_neg (by omega),if_neg (by omega),if_neg (by omega),if_neg (by omega),if_neg (by omega),if_neg (by omega),if_neg (by omega),if_pos (by omega)] at this
  unfold M.vecCut
  rw[if_pos ⟨hv,hp⟩]
  exact this
theorem kind_if {s:ByteArray} (hw:s.data.toList=M.wordL 23):KindR 23 (.iface zU (KV s 3)) where
 word:=⟨_,_,_,rfl,fun _=>rfl,fun h=>by omega,.inr (.inr (.inr hw))⟩
 iface:=⟨_,_,rfl⟩
 kids:=fun w K hK=>y1 (Ju _ _) (jz fun w' he=>hK w' he)
 sort:=fun w K F G H dv tv kv ds t xs hto hd ht hx hl hr hK=>by
  have hl1:xs.length=3:=by simp[M.arity] at hl;omega
  refine y1 (Jt _ _) (ifKind_sort_spec ht hx hl1 fun w' he=>?_)
  have:=hK w' he
  unfold M.sortK at this
  rwa[if_neg (by omega),if_neg (by omega),if_neg (by omega),if_pos (by omega)] at this
 value:=fun w K G H mb tv kv ds env t ys hto he ht hx hl hr hs hK=>by
  have hl1:ys.length=3:=by simp[M.arity] at hl;omega
  refine y1 (Qi _ _) (ifKind_value_spec ht hx hl1 fun w' he=>?_)
  have:=hK w' he
  unfold M.valK at this
  rwa[if_neg (by omega),if_neg (by omega),if_neg (by omega),if_neg (by omega),if_neg (by omega),if_neg (by omega),if_pos (by omega)] at this
theorem kind_bool {o:Int} {s:ByteArray} {f:Value} {g:List (Int×Int)→Bool} {m:Nat} (ho:24≤o) (ha:M.arity o=m) (hf:zi0 f g m) (hof:f.oneCell'=true) (hw:o=24∨s.data.toList=M.wordL o) (hg:∀ds env (t:M.Tm) ys,t.op=o→M.valK ds env t ys=M.b2i (g ys)):
  KindR o (.iface zy (.agg ⟨[.string s,.int .i64 m,f]⟩)) where
 word:=⟨_,_,_,by rw[show kTy o=zy by unfold kTy;rw[if_neg (by omega),if_neg (by omega),if_neg (by omega),if_neg (by omega),if_neg (by omega),if_neg (by omega),if_neg (by omega),if_neg (by omega)]],fun h=>by omega,fun _=>⟨_,rfl,hof⟩,.inr (.inr hw)⟩
 iface:=⟨_,_,rfl⟩
 kids:=fun w K hK=>y1 (XH _ _ _) (jz fun w' he=>by have:=hK w' he;rwa[ha] at this)
 sort:=fun w K F G H dv tv kv ds t xs hto hd ht hx hl hr hK=>by
  refine y1 (XG _ _ _) (Kr ht hx fun w' he=>?_)
  have:=hK w' he
  unfold M.sortK at this
  rwa[if_neg (by omega),if_neg (by omega),if_pos (by omega)] at this
 value:=fun w K G H mb tv kv ds env t ys hto he ht hx hl hr hs hK=>by
  refine y1 (X9 _ _ _) (JL hf ht hx (by omega) fun w' he=>?_)
  have:=hK w' he
  rwa[hg ds env t ys hto] at this
end
def KindsR (w:World) (mb:Nat):Prop:= ∃f,MapF (.int .i64) w mb f∧(∀o,0≤M.arity o→∃v,(Value.int .i64 o,v)∈f∧KindR o v)∧∀p,p∈f→∃o,p.1= .int .i64 o∧0≤M.arity o
theorem KindsR.ext {mb:Nat} {w':World} (h:KindsR w mb) (he:Ext w w'):KindsR w' mb:=by
 obtain⟨f,h1,h2⟩:=h;exact⟨f,h1.ext he,h2⟩
end Go.Proofs.YtaekfnbnhjgboaaGreatDoor
end
section
namespace Go.Proofs.YtaekfnbnhjgboaaGreatDoor
open Go Go.Vc Go.Proofs
variable {w:World} {K:Value→World→Prop} {F G:Nat→Prop}
theorem Qb:k10 PP zB (.int .i64) xQ:=⟨_,YQ,by kernel_rfl⟩
def KS (w0 w:World) (b:Nat) (S:Int→Prop):Prop:=Ext w0 w∧w0.heap.size≤b∧∃f,MapF (.int .i64) w b f∧(∀o,S o→∃v,(Value.int .i64 o,v)∈f∧KindR o v)∧∀p,p∈f→∃o,p.1= .int .i64 o∧S o
theorem KS.set {w0 w:World} {b:Nat} {S:Int→Prop} {o:Int} {v:Value} (h:KS w0 w b S) (hn: ¬S o) (hv:KindR o v) (hK:∀w',KS w0 w' b (fun x=>x=o∨S x)→Same (· =b) w w'→K undef w'):
  ko PP zB (.map (some b)) (.int .i64 o) v w K:=by
 obtain⟨he,hb,f,hm,h1,h2⟩:=h
 refine qr0 Qb hm (WM o) (fun x hx=>?_) fun w' hm' hs _=>hK w' ⟨Ext.then he hs fun y hy=>by subst hy;exact hb,hb,_,hm',fun x hx=>?_,fun p hp=>?_⟩ hs
 ·obtain⟨o',he',hS⟩:=h2 _ hx
  cases he';exact hn hS
 ·by_cases e:x=o
  ·subst e
   exact⟨v,List.mem_append.2 (.inr (List.mem_singleton.2 rfl)),hv⟩
  ·obtain⟨u,hu,hk⟩:=h1 x (hx.resolve_left e)
   exact⟨u,List.mem_append.2 (.inl hu),hk⟩
 ·rcases List.mem_append.1 hp with hp|hp
  ·obtain⟨o',he',hS⟩:=h2 _ hp
   exact⟨o',he',.inr hS⟩
  ·rw[List.mem_singleton.1 hp]
   exact⟨o,rfl,.inl rfl⟩
theorem KS.ext {w0 w w':World} {b:Nat} {S:Int→Prop} (h:KS w0 w b S) (he:Ext w w'):KS w0 w' b S:=by
 obtain⟨h1,h2,f,hm,r⟩:=h;exact⟨h1.trans he,h2,f,hm.ext he,r⟩
theorem KS.congr {w0 w:World} {b:Nat} {S S':Int→Prop} (h:KS w0 w b S) (hS:∀x,S x↔S' x):KS w0 w b S':=by
 have:S=S':=funext fun x=>propext (hS x)
 subst this;exact h
theorem KS.kinds {w0 w:World} {b:Nat} {S:Int→Prop} (h:KS w0 w b S) (hS:∀o,S o↔0≤M.arity o):KindsR w b:=by
 obtain⟨he,hb,f,hm,h1,h2⟩:=h
 refine⟨f,hm,fun o ho=>h1 o ((hS o).2 ho),fun p hp=>?_⟩
 obtain⟨o,h3,h4⟩:=h2 p hp
 exact⟨o,h3,(hS o).1 h4⟩
@[push_cast] theorem bd_named (s:ByteArray) (n:Int):zE PP y7 [(0,.string s),(1,.int .i64 n)] w K=K (KV s n) w:=yf x90 (us:=[[.string s],[.int .i64 n]]) rfl rfl
@[push_cast] theorem ZU0 (s:ByteArray) (n:Int):zE PP zM [(0,KV s n)] w K=K (KV s n) w:=yf yi0 (us:=[[.string s,.int .i64 n]]) rfl rfl
@[push_cast] theorem Zp0 (s:ByteArray) (n:Int):zE PP zR [(0,KV s n)] w K=K (KV s n) w:=yf z60 (us:=[[.string s,.int .i64 n]]) rfl rfl
@[push_cast] theorem Zo0 (s:ByteArray) (n:Int):zE PP zT [(0,KV s n)] w K=K (KV s n) w:=yf z30 (us:=[[.string s,.int .i64 n]]) rfl rfl
@[push_cast] theorem Zn0 (s:ByteArray) (n:Int):zE PP zH [(0,KV s n)] w K=K (KV s n) w:=yf z00 (us:=[[.string s,.int .i64 n]]) rfl rfl
@[push_cast] theorem Zm0 (s:ByteArray) (n:Int):zE PP zN [(0,KV s n)] w K=K (KV s n) w:=yf UZ (us:=[[.string s,.int .i64 n]]) rfl rfl
@[push_cast] theorem ZV0 (s:ByteArray) (n:Int):zE PP zU [(0,KV s n)] w K=K (KV s n) w:=yf yj0 (us:=[[.string s,.int .i64 n]]) rfl rfl
@[push_cast] theorem Zl0:zE PP zP [] w K=K (KV ⟨#[]⟩ 0) w:=yf UY (us:=[]) rfl rfl
@[push_cast] theorem Z90:zE PP zK [] w K=K (KV ⟨#[]⟩ 0) w:=yf Ue (us:=[]) rfl rfl
@[push_cast] theorem Zc0 (s:ByteArray) (n:Int) (f:Fn) (a c:Array Value):zE PP zy [(0,KV s n),(1,.func f a c)] w K=K (.agg ⟨[.string s,.int .i64 n,.func f a c]⟩) w:=yf Uf (us:=[[.string s,.int .i64 n],[.func f a c]]) rfl rfl
theorem val24 (ds:List M.Dcl) (env:List Int) (t:M.Tm) (ys:List (Int×Int)) (h:t.op=24):M.valK ds env t ys=M.b2i true:=by simp[M.valK,h,M.b2i]
theorem val25 (ds:List M.Dcl) (env:List Int) (t:M.Tm) (ys:List (Int×Int)) (h:t.op=25):M.valK ds env t ys=M.b2i (decide ((ys.getD 0 (0,0)).2=0)):=by unfold M.valK;simp only[h];rfl
theorem val26 (ds:List M.Dcl) (env:List Int) (t:M.Tm) (ys:List (Int×Int)) (h:t.op=26):M.valK ds env t ys=M.b2i (decide ((ys.getD 0 (0,0)).2=1)&&decide ((ys.getD 1 (0,0)).2=1)):=by unfold M.valK;simp only[h];rfl
theorem val27 (ds:List M.Dcl) (env:List Int) (t:M.Tm) (ys:List (Int×Int)) (h:t.op=27):M.valK ds env t ys=M.b2i (decide ((ys.getD 0 (0,0)).2=1)||decide ((ys.getD 1 (0,0)).2=1)):=by unfold M.valK;simp only[h];rfl
def binWords:List ByteArray:=[⟨#[97,110,100]⟩,⟨#[111,114]⟩,⟨#[120,111,114]⟩,⟨#[97,100,100]⟩,⟨#[115,117,98]⟩,⟨#[109,117,108]⟩,⟨#[100,105,118]⟩,⟨#[114,101,109]⟩,⟨#[115,104,108]⟩,⟨#[115,104,114]⟩,⟨#[115,97,114]⟩]
theorem kn0:∀i:Fin 11,(binWords.getD i.1 ⟨#[]⟩).data.toList=M.wordL (3+(i.1:Int)):=by decide
theorem kinds_new (hK:∀w' b,Ext w w'→KindsR w' b→w.heap.size≤b→K (.map (some b)) w'):vcall PP ka #[] w K:=by
 apply x10;unfold W8
 refine xu0 Qb fun b w1 hb hm he hs=>?_
 have h0:KS w w1 b (fun _=>False):=⟨he,by omega,[],hm,fun _ h=>h.elim,fun _ h=>by cases h⟩
 simp only[push_cast]
 refine h0.set (by decide) (kind_un (.inl rfl) (by decide)) fun w2 h1 _=>?_
 refine h1.set (by decide) (kind_un (.inr rfl) (by decide)) fun w3 h2 _=>?_
 refine h2.set (by decide) (kind_cat (by decide)) fun w4 h3 _=>?_
 refine h3.set (by decide) (kind_cmp (by decide) (by decide) (by decide)) fun w5 h4 _=>?_
 refine h4.set (by decide) (kind_cmp (by decide) (by decide) (by decide)) fun w6 h5 _=>?_
 refine h5.set (by decide) (kind_cmp (by decide) (by decide) (by decide)) fun w7 h6 _=>?_
 refine h6.set (by decide) kind_vec fun w8 h7 _=>?_
 refine h7.set (by decide) kind_name fun w9 h8 _=>?_
 refine h8.set (by decide) (kind_cut (by decide)) fun w10 h9 _=>?_
 refine h9.set (by decide) (kind_if (by decide)) fun w11 h10 _=>?_
 refine h10.set (by decide) (kind_bool (m:=0) (by decide) rfl qV0 rfl (.inl rfl) val24) fun w12 h11 _=>?_
 refine h11.set (by decide) (kind_bool (m:=1) (by decide) rfl kinds2_fn rfl (.inr (by decide)) val25) fun w13 h12 _=>?_
 refine h12.set (by decide) (kind_bool (m:=2) (by decide) rfl kinds3_fn rfl (.inr (by decide)) val26) fun w14 h13 _=>?_
 refine h13.set (by decide) (kind_bool (m:=2) (by decide) rfl kinds4_fn rfl (.inr (by decide)) val27) fun w15 h14 _=>?_
 refine vbuildS_row1 (xs:=binWords.map .string) Ya (by kernel_rfl) Y9 (fun x hx=>by obtain⟨s,_,rfl⟩:=List.mem_map.1 hx;rfl) (by decide) fun bs w16 hb16 he16 hs16 hbl=>?_
 have hsl:Vals (· =bs) w16 (.slice (some ⟨bs,0,none⟩) (binWords.map Value.string).length (binWords.map Value.string).length) (binWords.map Value.string):=hbl.sl1 rfl (by decide)
 have h15:=h14.ext he16
 have hbs:bs≠b:=by
  obtain⟨_,_,f,hm,_⟩:=h14
  have:=hm.lt;omega
 have hlen:(binWords.map Value.string).length=11:=rfl
 simp(disch:=(simp only[push_cast];done)) only[push_cast,hsl.len]
 rw[hlen]
 rw[hlen] at hsl
 refine vloop_up 11 (fun i u w'=>u=[.int .i64 i]∧Vals (· =bs) w' (.slice (some ⟨bs,0,none⟩) 11 11) (binWords.map Value.string)∧KS w w' b fun x=>(3≤x∧x<3+(i:Int))∨x=27∨x=26∨x=25∨x=24∨x=23∨x=22∨x=21∨x=20∨x=17∨x=16∨x=15∨x=14∨x=2∨x=1) ⟨rfl,hsl,h15.congr fun x=>by simp only[or_false];constructor<;>intro h<;>omega⟩ ?_
 rintro i _ _ w17 C hi ⟨rfl,hv,hk⟩ hC
 simp only[push_cast]
 refine zg (fun a=>?_) (fun a=>?_)
 ·have hi11:i<11:=by omega
  have e1:(binWords.map Value.string).getD i undef= .string (binWords.getD i ⟨#[]⟩):=M.getD_map _ (show i<binWords.length from hi11) _ _
  have e2:IntKind.i64.wrap (3+(i:Int))=3+(i:Int):=zA (by omega) (by omega)
  rw[hv.iaddr (by kernel_rfl) (by omega) (by rw[hlen];omega),Int.toNat_natCast,hv.load (by kernel_rfl) (by rw[hlen];omega),e1]
  simp only[push_cast,e2]
  refine hk.set (by omega) (kind_bin (by omega) (by omega) (kn0 ⟨i,hi11⟩)) fun w18 hk2 hs2=>?_
  try simp only[push_cast]
  rw[inc64' (by omega)]
  exact hC hi11 _ _ ⟨rfl,hv.same hs2 fun x hx _ e=>hbs (hx.symm.trans e),hk2.congr fun x=>by constructor<;>intro h<;>omega⟩
 ·have:i=11:=by omega
  subst this
  refine hK w17 b hk.1 (hk.kinds fun o=>?_) hk.2.1
  constructor
  ·intro h
   have:(1≤o∧o≤17)∨(20≤o∧o≤27):=by omega
   unfold M.arity
   repeat' split
   all_goals omega
  ·intro h
   have:=M.arity_ops h
   omega
theorem q10 (hK:∀w' b,Ext w w'→KindsR w' b→K (.map (some b)) w'):vcall PP ka #[] w K:=kinds_new fun w' b h1 h2 _=>hK w' b h1 h2
end Go.Proofs.YtaekfnbnhjgboaaGreatDoor
end
section
namespace Go.Proofs.YtaekfnbnhjgboaaGreatDoor
open Go Go.Vc Go.Proofs
variable {w:World} {K:Value→World→Prop} {F G:Nat→Prop}
theorem stTerm {b:Nat} {cs cs':List Value} {t:TypeId} {t':M.Tm} (h:Blk w b cs t) (hl:cs.length=5) (hc:TmR F w cs' t') (hK:∀w',Same (· =b) w w'→w'.heap.size=w.heap.size→Blk w' b cs' t→K undef w'):zr PP z7 (.pointer (some ⟨b,0,none⟩)) (.agg ⟨cs'⟩) w K:=by
 obtain⟨kv,rfl,hk⟩:=hc.inv
 obtain⟨css,hs,_⟩:=hk
 refine h.stAgg (by simp[hl]) zJ ?_ hK
 intro v hv
 simp only[List.mem_cons,List.not_mem_nil,or_false] at hv
 rcases hv with rfl|rfl|rfl|rfl|rfl
 ·rfl
 ·rfl
 ·rfl
 ·rfl
 ·exact hs.one
theorem xG {cs:List Value} {t:M.Tm} (h:TmR F w cs t):cs.length=5:=by
 obtain⟨kv,rfl,_⟩:=h.inv;rfl
theorem xY0 {v:Value} {t:M.Tm} (ht:TermR F w v t) (hK:∀w',Ext w w'→K (.bool (M.plainM t)) w'):vcall PP Xx #[v] w K:=by
 apply x00;unfold W7
 obtain⟨ksv,rfl,hks⟩:=ht
 refine zx fun b1 w1 hb1 he1 hs1 h1=>?_
 have hk:=hK _ he1
 unfold M.plainM at hk
 refine zW (fun u w'=>u=[.bool (decide (t.op=20)||decide (t.op=22)||(decide (t.a=0)&&decide (t.b=0)))]∧w'=w1) (fun C hC=>?_) ?_
 ·simp(disch:=(simp only[push_cast];done)) only[push_cast,h1.ld0,h1.ld1,h1.ld2]
  refine zg (fun a=>?_) (fun a=>?_)
  ·exact hC _ _ ⟨by rw[decide_eq_true a];rfl,rfl⟩
  refine zg (fun b=>?_) (fun b=>?_)
  ·exact hC _ _ ⟨by rw[decide_eq_true b];simp,rfl⟩
  refine zg (fun c=>?_) (fun c=>?_)
  ·exact hC _ _ ⟨by rw[decide_eq_false a,decide_eq_false b,decide_eq_true c];rfl,rfl⟩
  ·exact hC _ _ ⟨by rw[decide_eq_false a,decide_eq_false b,decide_eq_false c];rfl,rfl⟩
 ·rintro u g w2 ⟨rfl,rfl⟩
  simp(disch:=(simp only[push_cast];done)) only[push_cast,h1.ld0,h1.ld3]
  refine yG (fun a=>?_) (fun a=>?_)
  ·rw[a,Bool.true_and] at hk
   refine zg (fun b=>?_) (fun b=>?_)
   ·rwa[decide_eq_true b,Bool.true_or] at hk
   ·rw[decide_eq_false b,Bool.false_or] at hk
    exact hk
  ·rwa[a,Bool.false_and] at hk
theorem WK {mb:Nat} {o:Int} {ok:Bool} (h:KindsR w mb) (ho:0≤M.arity o) (hK:∀v,KindR o v→K (if ok then .tuple #[v,.bool true] else v) w):Qe PP zB (.map (some mb)) (.int .i64 o) ok w K:=by
 obtain⟨f,hm,h1,h2⟩:=h
 obtain⟨v,hv,hk⟩:=h1 o ho
 rw[zk0 Qb hm (WM o) hv]
 exact hK v hk
theorem qS0 {mb:Nat} {o:Int} (h:KindsR w mb) (ho: ¬0≤M.arity o) (hK:K (.tuple #[.nilIface,.bool false]) w):Qe PP zB (.map (some mb)) (.int .i64 o) true w K:=by
 obtain⟨f,hm,h1,h2⟩:=h
 rw[yl0 Qb (z:= .nilIface) (by unfold yM;kernel_rfl) hm (WM o) fun v hv=>?_]
 ·exact hK
 ·obtain⟨o',e,ha⟩:=h2 _ hv
  cases e;exact ho ha
theorem JU {α β:Type} (f:α→β) {l:List α} {i:Nat} (h:i<l.length) (d:α):(l.take i).map f++[f (l.getD i d)]=(l.take (i+1)).map f:=by
 rw[List.take_add_one,List.getElem?_eq_getElem h,List.map_append,List.getD_eq_getElem?_getD,List.getElem?_eq_getElem h]
 rfl
theorem sortOf_spec:∀(t:M.Tm) {w:World} {K:Value→World→Prop} {F G:Nat→Prop} {mb:Nat} {dv v:Value} {ds:List M.Dcl},KindsR w mb→DclsR F w dv ds→M.declOk ds=true→TermR G w v t→
  (∀w',Ext w w'→K (.int .i64 (M.sortM ds t)) w')→vcall PP kU #[.map (some mb),dv,v] w K:=by
 refine M.Tm.ind fun t ih w K F G mb dv v ds hm hd hok ht hK=>?_
 apply y90;unfold KT
 obtain⟨ksv,rfl,hks⟩:=ht
 refine zx fun b1 w1 hb1 he1 hs1 h1=>?_
 have hm1:=hm.ext he1
 simp(disch:=(simp only[push_cast];done)) only[push_cast,h1.ld0]
 have hno: ¬(M.formed t=true)→∀w',Ext w w'→K (.int .i64 (-1)) w':=fun hn w' he=>by
  have:=hK w' he
  rw[M.sortM_eq] at this
  unfold M.sortF at this
  rwa[if_neg (fun h=>hn h.1)] at this
 by_cases ho': ¬0≤M.arity t.op
 ·have ho:=ho'
  refine qS0 hm1 ho ?_
  simp only[push_cast]
  refine zW (fun _ _=>False) (fun C hC=>?_) (fun _ _ _ h=>h.elim)
  refine zt fun w2 he2 _=>?_
  simp only[push_cast,true_and]
  refine hno (fun h=>ho ?_) _ (he1.trans he2)
  simp only[M.formed,Bool.and_eq_true,decide_eq_true_eq] at h
  omega
 have ho:0≤M.arity t.op:=by omega
 refine WK hm1 ho fun kv hkv=>?_
 simp only[push_cast,if_true]
 have hsm:=hks.small
 refine zW (fun u w'=>u=[]∧Ext w1 w'∧M.formed t=true) (fun C hC=>?_) ?_
 ·refine zt fun w2 he2 _=>?_
  have h2:=h1.ext he2
  simp(disch:=(simp only[push_cast];done)) only[push_cast,h2.ld4,hks.len,true_and]
  refine hkv.kids _ _ fun w3 he3=>?_
  have h3:=h2.ext he3
  simp(disch:=(simp only[push_cast];done)) only[push_cast,h3.ld4,hks.len,true_and,and_self]
  refine zg (fun a=>?_) (fun a=>?_)
  ·refine hno (fun h=>?_) _ ((he1.trans he2).trans he3)
   simp only[M.formed,Bool.and_eq_true,decide_eq_true_eq] at h
   omega
  ·simp(disch:=(simp only[push_cast];done)) only[push_cast,h3.ldAgg (t:=z7) zJ,true_and]
   refine xY0 (F:=G) (t:=t) ⟨ksv,rfl,hks.ext ((he1.trans he2).trans he3)⟩ fun w4 he4=>?_
   simp only[push_cast,true_and]
   refine yG (fun b=>?_) (fun b=>?_)
   ·refine hno (fun h=>?_) _ (((he1.trans he2).trans he3).trans he4)
    simp only[M.formed,Bool.and_eq_true] at h
    rw[h.2] at b;cases b
   ·refine hC _ _ ⟨rfl,(he2.trans he3).trans he4,?_⟩
    simp only[M.formed,Bool.and_eq_true,decide_eq_true_eq]
    exact⟨by omega,by simpa using b⟩
 ·rintro u g w2 ⟨rfl,he2,hf⟩
  have h2:=h1.ext he2
  have hE:=he1.trans he2
  have hzE:=hE.size
  simp(disch:=(simp only[push_cast];done)) only[push_cast,h2.ld4,hks.len]
  have hfa:=hf
  simp only[M.formed,Bool.and_eq_true,decide_eq_true_eq] at hfa
  have har:t.ks.length≤3:=by
   have h1:=hfa.1
   unfold M.arity at h1
   repeat' split at h1
   all_goals omega
  refine vloop_up t.ks.length (fun i u w'=> ∃sv,u=[sv,.int .i64 i]∧Ext w2 w'∧OwnI PP zh w' sv ((t.ks.take i).map (M.sortM ds))∧(∀b,sv.ownBlock=some b→w2.heap.size≤b)∧(∀x,x∈(t.ks.take i).map (M.sortM ds)→x≠ -1)) ⟨_,rfl,Same.refl _ _,OwnI.nil,(fun b h=>by cases h),by simp⟩ ?_
  rintro i _ _ w3 C hi ⟨sv,rfl,he3,hsv,hnb,hall⟩ hC
  have hE3:=hE.trans he3
  have hks3:=hks.ext hE3
  simp only[push_cast]
  refine zg (fun a=>?_) (fun a=>?_)
  ·simp(disch:=first|(simp only[push_cast];done)|omega) only[push_cast,hks3.iaddr]
   refine hks3.load zJ (by omega) fun x hx=>?_
   obtain⟨cs,rfl,hcs⟩:=hx.cells
   refine zD yw fun b2 w4 hb2 he4 hs4 h4=>?_
   refine stTerm h4 rfl (hcs.ext he4) fun w5 hw5 hz5 h5=>?_
   have he5:Ext w3 w5:=Ext.then he4 hw5 fun y hy=>by subst hy;omega
   rw[h5.ldAgg (t:=z7) (by rw[xG hcs];exact zJ)]
   refine ih _ (M.getD_mem (by omega) _) (hm.ext (hE3.trans he5)) (hd.ext (hE3.trans he5)) hok (hcs.ext he5).term fun w6 he6=>?_
   simp only[push_cast]
   have he36:=he5.trans he6
   refine zg (fun b=>?_) (fun b=>?_)
   ·have:=hK _ (hE3.trans he36)
    rw[M.sortM_eq] at this
    unfold M.sortF at this
    rwa[if_neg (fun h=>h.2 (b▸List.mem_map_of_mem (M.getD_mem (by omega) _)))] at this
   ·refine JR Zu kO Zr rfl rfl (by decide) fun b3 w7 hb3 he7 hs7 h7=>?_
    have hsv7:=(hsv.ext he36).ext he7
    have hlen:((t.ks.take i).map (M.sortM ds)).length=i:=by rw[List.length_map,List.length_take];omega
    refine hsv7.app1 Z8 h7 (by rw[hlen];omega) (by rw[hlen];omega) fun sv' w8 hsv' hw8 hn8=>?_
    try simp only[push_cast]
    rw[inc64' (by omega)]
    rw[JU _ (by omega)] at hsv'
    refine hC (by omega) _ _ ⟨sv',rfl,Ext.then ((he3.trans he36).trans he7) hw8 fun y hy=>hnb y hy,hsv',fun y hy=>?_,fun x hx=>?_⟩
    ·rcases hn8 y hy with h|h
     ·exact hnb y h
     ·have:=(he3.trans he36).size;have:=he7.size;omega
    ·rw[←JU _ (by omega) default] at hx
     rcases List.mem_append.1 hx with hx|hx
     ·exact hall x hx
     ·rw[List.mem_singleton.1 hx];exact b
  ·have hi':i=t.ks.length:=by omega
   subst hi'
   rw[List.take_length] at hsv hall
   have h3:=h2.ext he3
   simp(disch:=(simp only[push_cast];done)) only[push_cast,h3.ldAgg (t:=z7) zJ]
   refine hkv.sort _ _ F G _ _ _ _ ds t _ rfl (hd.ext hE3) ⟨ksv,rfl,hks3⟩ hsv.ints (by rw[List.length_map];omega) (fun j=>?_) fun w4 he4=>?_
   ·by_cases hj:j<t.ks.length
    ·rw[M.getD_map _ hj 0 default];exact M.sort_range hok _
    ·rw[List.getD_eq_getElem?_getD,List.getElem?_eq_none (by simpa using hj)];simp
   ·have:=hK _ (hE3.trans he4)
    rw[M.sortM_eq] at this
    unfold M.sortF at this
    rwa[if_pos ⟨hf,fun h=>hall _ h rfl⟩] at this
theorem count_spec:∀(t:M.Tm) {w:World} {K:Value→World→Prop} {F:Nat→Prop} {v:Value} {m deep mb:Nat} {ty:TypeId},TermR F w v t→Blk w mb [.int .i64 m] ty→(∀b,F b→b≠mb)→m≤20→1≤deep→deep≤8→
  (∀w' (r m':Nat),Same (· =mb) w w'→Blk w' mb [.int .i64 m'] ty→m<m'→m'≤21→deep≤r→r≤8→(m+M.sizeM t≤20∧deep-1+M.deepM t≤7→m'=m+M.sizeM t∧r=deep-1+M.deepM t)→(¬(m+M.sizeM t≤20∧deep-1+M.deepM t≤7)→20<m'∨7<r)→K (.int .i64 r) w')→
  vcall PP Zy #[v,.int .i64 deep,.pointer (some ⟨mb,0,none⟩)] w K:=by
 refine M.Tm.ind fun t ih w K F v m deep mb ty ht hb hF hm hd1 hd8 hK=>?_
 apply x20;unfold W9
 obtain⟨ksv,rfl,hks⟩:=ht
 refine zx fun b1 w1 hb1 he1 hs1 h1=>?_
 have hb':=hb.ext he1
 have hmlt:=hb.lt
 have hsm:=hks.small
 have hS:=M.szT_all t
 have hD:=M.dpT_all t
 simp(disch:=(simp only[push_cast];done)) only[push_cast,hb'.ld0]
 rw[inc64' (by omega)]
 refine hb'.st (i:=0) rfl rfl kO rfl fun w2 hw2 hz2 h2=>?_
 have hs2:Same (· =mb) w w2:=(Same.of_ext he1).trans hw2
 have q2:=h1.same hw2 (by omega)
 replace h2:Blk w2 mb [.int .i64 (m+1:Nat)] ty:=h2
 refine zg (fun a=>?_) (fun a=>?_)
 ·exact hK w2 deep (m+1) hs2 h2 (by omega) (by omega) (by omega) (by omega) (fun h=>by omega) (fun h=>by omega)
 simp(disch:=(simp only[push_cast];done)) only[push_cast,q2.ld4,hks.len]
 refine vloop_up t.ks.length (fun i u w'=> ∃r mi:Nat,u=[.int .i64 r,.int .i64 i]∧Same (· =mb) w2 w'∧Blk w' mb [.int .i64 mi] ty∧m<mi∧mi≤21∧deep≤r∧r≤8∧(m+1+M.szT t.ks i≤20∧deep+M.dpT t.ks i≤7→mi=m+1+M.szT t.ks i∧r=deep+M.dpT t.ks i)∧(¬(m+1+M.szT t.ks i≤20∧deep+M.dpT t.ks i≤7)→20<mi∨7<r))
  ⟨deep,m+1,rfl,Same.refl _ _,h2,by omega,by omega,by omega,by omega,fun h=>by simp[M.szT,M.dpT],fun h=>by
   have e1:M.szT t.ks 0=0:=rfl
   have e2:M.dpT t.ks 0=0:=rfl
   omega⟩ ?_
 rintro i _ _ w3 C hi ⟨r,mi,rfl,hs3,h3,c1,c2,c3,c4,c5,c6⟩ hC
 have hS3:Same (· =mb) w w3:=hs2.trans hs3
 have hks3:TmsR F w3 ksv t.ks:=hks.same hS3 fun b hb _ e=>hF b hb e
 have hz3:=hS3.size
 simp only[push_cast]
 refine zg (fun b=>?_) (fun b=>?_)
 ·have hm1:=M.szT_mono (ks:=t.ks) (i:=i) (j:=t.ks.length) (by omega) (Nat.le_refl _)
  have hm2:=M.dpT_mono (ks:=t.ks) (i:=i) (j:=t.ks.length) (by omega) (Nat.le_refl _)
  have hm3:=M.szT_succ (ks:=t.ks) (i:=i) (by omega)
  have hm4:=M.dpT_succ (ks:=t.ks) (i:=i) (by omega)
  simp(disch:=first|(simp only[push_cast];done)|omega) only[push_cast,hks3.iaddr]
  refine hks3.load zJ (by omega) fun x hx=>?_
  obtain⟨cs,rfl,hcs⟩:=hx.cells
  refine zD yw fun b2 w4 hb2 he4 hs4 h4=>?_
  refine stTerm h4 rfl (hcs.ext he4) fun w5 hw5 hz5 h5=>?_
  have he5:Ext w3 w5:=Ext.then he4 hw5 fun y hy=>by subst hy;omega
  have hb5:=h3.ext he5
  have hl3:=h3.lt
  simp(disch:=(simp only[push_cast];done)) only[push_cast,hb5.ld0]
  refine zg (fun c=>?_) (fun c=>?_)
  ·exact hK w5 r mi (hS3.trans (Same.of_ext he5)) hb5 c1 c2 c3 c4 (fun h=>by omega) (fun h=>by omega)
  ·rw[h5.ldAgg (t:=z7) (by rw[xG hcs];exact zJ)]
   have e1:IntKind.i64.wrap ((deep:Int)+1)=((deep+1:Nat):Int):=inc64' (by omega)
   rw[e1]
   refine ih _ (M.getD_mem (by omega) _) (hcs.ext he5).term hb5 hF (by omega) (by omega) (by omega) fun w6 r2 m2 hs6 h6 d1 d2 d3 d4 d5 d6=>?_
   simp only[push_cast]
   rw[inc64' (by omega),show max (r:Int) (r2:Int)=((max r r2:Nat):Int) by omega]
   refine hC (by omega) _ _ ⟨max r r2,m2,rfl,(hs3.trans (Same.of_ext he5)).trans hs6,h6,by omega,d2,by omega,by omega,fun h=>?_,fun h=>?_⟩
   ·have:=c5 (by omega)
    have:=d5 (by omega)
    omega
   ·by_cases hg:m+1+M.szT t.ks i≤20∧deep+M.dpT t.ks i≤7
    ·have:=c5 hg
     have:=d6 (by omega)
     omega
    ·have:=c6 hg
     omega
 ·have hi':i=t.ks.length:=by omega
  subst hi'
  refine hK w3 r mi hS3 h3 c1 c2 c3 c4 (fun h=>?_) (fun h=>?_)
  ·have:=c5 (by omega)
   omega
  ·exact c6 (by omega)
theorem TermMany_spec {v:Value} {t:M.Tm} (ht:TermR F w v t) (hK:∀w',Ext w w'→K (.tuple #[.int .i64 (M.manyM t),.int .i64 (M.lvlM t)]) w'):vcall PP Z6 #[v] w K:=by
 apply Uc;unfold Q2
 have ht':=ht.weaken (F':=fun b=>b<w.heap.size) fun b _ h=>h
 obtain⟨ksv,rfl,hks⟩:=ht
 refine zx fun b1 w1 hb1 he1 hs1 h1=>?_
 refine V6 Zr fun b2 w2 hb2 he2 hs2 h2=>?_
 replace h2:Blk w2 b2 [.int .i64 0] zc:=h2
 refine h2.st (i:=0) rfl rfl kO rfl fun w3 hw3 hz3 h3=>?_
 replace h3:Blk w3 b2 [.int .i64 ((0:Nat):Int)] zc:=h3
 have q3:=(h1.ext he2).same hw3 (by omega)
 have he3:Ext w w3:=Ext.then (he1.trans he2) hw3 fun y hy=>by subst hy;omega
 rw[q3.ldAgg (t:=z7) zJ]
 refine count_spec t (m:=0) (deep:=1) (ht'.ext he3) h3 (fun b hb e=>by omega) (by omega) (by omega) (by omega) fun w4 r m' hs4 h4 c1 c2 c3 c4 c5 c6=>?_
 have he4:Ext w w4:=Ext.then he3 hs4 fun y hy=>by subst hy;omega
 have hk:=hK w4 he4
 have hfit:M.fits t=true↔M.sizeM t≤20∧M.deepM t≤7:=M.fits_iff
 unfold M.manyM M.lvlM at hk
 simp(disch:=(simp only[push_cast];done)) only[push_cast,h4.ld0]
 refine zg (fun a=>?_) (fun a=>?_)
 ·rw[if_neg (fun h=>by have hx:=hfit.1 h;have:=c5 (by omega);omega),if_neg (fun h=>by have hx:=hfit.1 h;have:=c5 (by omega);omega)] at hk
  exact hk
 ·refine zg (fun b=>?_) (fun b=>?_)
  ·rw[if_neg (fun h=>by have hx:=hfit.1 h;have:=c5 (by omega);omega),if_neg (fun h=>by have hx:=hfit.1 h;have:=c5 (by omega);omega)] at hk
   exact hk
  ·have hg:M.sizeM t≤20∧M.deepM t≤7:=by
    by_cases h:M.sizeM t≤20∧M.deepM t≤7
    ·exact h
    ·have:=c6 (by omega);omega
   have h5:=c5 (by omega)
   rw[if_pos (hfit.2 hg),if_pos (hfit.2 hg)] at hk
   rw[show m'=M.sizeM t by omega,show r=M.deepM t by omega]
   exact hk
end Go.Proofs.YtaekfnbnhjgboaaGreatDoor
end
section
namespace Go.Proofs
open Go.Shelf
def YtaekfnbnhjgboaaGreatDoor.trimL_ren:Go.Shelf.Ren:=⟨fun|160=>137 |232=>197 |231=>196 |227=>198 |234=>200 |233=>199 |236=>202 |235=>201 |228=>236 |271=>239 |151=>238 |197=>237 |120=>263 |152=>262 |260=>261 |137=>281 |119=>282 |224=>283 |225=>284 |217=>291 |266=>295 |n=>n,fun|9=>9 |4=>4 |3=>3 |5=>5 |117=>273 |116=>272 |0=>0 |124=>276 |21=>21 |105=>309 |46=>314 |119=>344 |139=>347 |138=>346 |n=>n,fun|3=>3 |4=>4 |n=>n⟩
theorem YtaekfnbnhjgboaaGreatDoor.trimL:Go.Proofs.Lays.n160 Tryz.prog YtaekfnbnhjgboaaGreatDoor.trimL_ren:={
 mixed:=by kernel_rfl
 f119:=Tryz.func282.trans (congrArg some (by kernel_rfl))
 f120:=Tryz.func263.trans (congrArg some (by kernel_rfl))
 f137:=Tryz.func281.trans (congrArg some (by kernel_rfl))
 f151:=Tryz.func238.trans (congrArg some (by kernel_rfl))
 f152:=Tryz.func262.trans (congrArg some (by kernel_rfl))
 f160:=Tryz.func137.trans (congrArg some (by kernel_rfl))
 f197:=Tryz.func237.trans (congrArg some (by kernel_rfl))
 f217:=Tryz.func291.trans (congrArg some (by kernel_rfl))
 f224:=Tryz.func283.trans (congrArg some (by kernel_rfl))
 f225:=Tryz.func284.trans (congrArg some (by kernel_rfl))
 f227:=Tryz.func198.trans (congrArg some (by kernel_rfl))
 f228:=Tryz.func236.trans (congrArg some (by kernel_rfl))
 f231:=Tryz.func196.trans (congrArg some (by kernel_rfl))
 f232:=Tryz.func197.trans (congrArg some (by kernel_rfl))
 f233:=Tryz.func199.trans (congrArg some (by kernel_rfl))
 f234:=Tryz.func200.trans (congrArg some (by kernel_rfl))
 f235:=Tryz.func201.trans (congrArg some (by kernel_rfl))
 f236:=Tryz.func202.trans (congrArg some (by kernel_rfl))
 f260:=Tryz.func261.trans (congrArg some (by kernel_rfl))
 f266:=Tryz.func295.trans (congrArg some (by kernel_rfl))
 f271:=Tryz.func239.trans (congrArg some (by kernel_rfl))
 t0:=Tryz.underlying0
 a0:=Tryz.isAgg0
 z0:=Tryz.sizeOf0
 v0:=Tryz.zeroValue0
 t3:=Tryz.underlying3
 a3:=Tryz.isAgg3
 z3:=Tryz.sizeOf3
 v3:=Tryz.zeroValue3
 t4:=Tryz.underlying4
 a4:=Tryz.isAgg4
 z4:=Tryz.sizeOf4
 v4:=Tryz.zeroValue4
 t5:=Tryz.underlying5
 a5:=Tryz.isAgg5
 z5:=Tryz.sizeOf5
 v5:=Tryz.zeroValue5
 t9:=Tryz.underlying9
 a9:=Tryz.isAgg9
 z9:=Tryz.sizeOf9
 v9:=Tryz.zeroValue9
 t21:=Tryz.underlying21
 a21:=Tryz.isAgg21
 z21:=Tryz.sizeOf21
 v21:=Tryz.zeroValue21
 t46:=Tryz.underlying314
 a46:=Tryz.isAgg314
 z46:=Tryz.sizeOf314
 v46:=Tryz.zeroValue314
 t105:=Tryz.underlying309
 a105:=Tryz.isAgg309
 z105:=Tryz.sizeOf309
 v105:=Tryz.zeroValue309
 t116:=Tryz.underlying272
 a116:=Tryz.isAgg272
 z116:=Tryz.sizeOf272
 t117:=Tryz.underlying273
 a117:=Tryz.isAgg273
 z117:=Tryz.sizeOf273
 v117:=Tryz.zeroValue273
 t119:=Tryz.underlying344
 a119:=Tryz.isAgg344
 z119:=Tryz.sizeOf344
 t124:=Tryz.underlying276
 a124:=Tryz.isAgg276
 z124:=Tryz.sizeOf276
 v124:=Tryz.zeroValue276
 t138:=Tryz.underlying346
 a138:=Tryz.isAgg346
 z138:=Tryz.sizeOf346
 v138:=Tryz.zeroValue346
 t139:=Tryz.underlying347
 a139:=Tryz.isAgg347
 z139:=Tryz.sizeOf347
 v139:=Tryz.zeroValue347
 g3:=by kernel_rfl
 g4:=by kernel_rfl}
def YtaekfnbnhjgboaaGreatDoor.joinL_ren:Go.Shelf.Ren:=⟨fun|156=>168 |165=>211 |166=>212 |169=>213 |240=>249 |241=>250 |276=>274 |277=>275 |n=>n,fun|31=>218 |9=>9 |3=>3 |4=>4 |0=>0 |20=>20 |72=>288 |76=>290 |70=>286 |37=>22 |75=>102 |127=>313 |164=>333 |5=>5 |80=>238 |n=>n,fun|n=>n⟩
theorem YtaekfnbnhjgboaaGreatDoor.joinL:Go.Proofs.Lays.n156 Tryz.prog YtaekfnbnhjgboaaGreatDoor.joinL_ren:={
 mixed:=by kernel_rfl
 f156:=Tryz.func168.trans (congrArg some (by kernel_rfl))
 f165:=Tryz.func211.trans (congrArg some (by kernel_rfl))
 f166:=Tryz.func212.trans (congrArg some (by kernel_rfl))
 f169:=Tryz.func213.trans (congrArg some (by kernel_rfl))
 f240:=Tryz.func249.trans (congrArg some (by kernel_rfl))
 f241:=Tryz.func250.trans (congrArg some (by kernel_rfl))
 f276:=Tryz.func274.trans (congrArg some (by kernel_rfl))
 f277:=Tryz.func275.trans (congrArg some (by kernel_rfl))
 t0:=Tryz.underlying0
 a0:=Tryz.isAgg0
 z0:=Tryz.sizeOf0
 v0:=Tryz.zeroValue0
 t3:=Tryz.underlying3
 a3:=Tryz.isAgg3
 z3:=Tryz.sizeOf3
 v3:=Tryz.zeroValue3
 t4:=Tryz.underlying4
 a4:=Tryz.isAgg4
 z4:=Tryz.sizeOf4
 v4:=Tryz.zeroValue4
 t9:=Tryz.underlying9
 a9:=Tryz.isAgg9
 z9:=Tryz.sizeOf9
 v9:=Tryz.zeroValue9
 t20:=Tryz.underlying20
 a20:=Tryz.isAgg20
 z20:=Tryz.sizeOf20
 v20:=Tryz.zeroValue20
 t31:=Tryz.underlying218
 a31:=Tryz.isAgg218
 z31:=Tryz.sizeOf218
 v31:=Tryz.zeroValue218
 t37:=Tryz.underlying22
 a37:=Tryz.isAgg22
 z37:=Tryz.sizeOf22
 v37:=Tryz.zeroValue22
 t70:=Tryz.underlying286
 a70:=Tryz.isAgg286
 z70:=Tryz.sizeOf286
 v70:=Tryz.zeroValue286
 t72:=Tryz.underlying288
 a72:=Tryz.isAgg288
 z72:=Tryz.sizeOf288
 v72:=Tryz.zeroValue288
 t75:=Tryz.underlying102
 a75:=Tryz.isAgg102
 z75:=Tryz.sizeOf102
 v75:=Tryz.zeroValue102
 t76:=Tryz.underlying290
 a76:=Tryz.isAgg290
 z76:=Tryz.sizeOf290
 v76:=Tryz.zeroValue290
 t127:=Tryz.underlying313
 a127:=Tryz.isAgg313
 z127:=Tryz.sizeOf313
 v127:=Tryz.zeroValue313
 t164:=Tryz.underlying333
 a164:=Tryz.isAgg333
 z164:=Tryz.sizeOf333
 v164:=Tryz.zeroValue333}
end Go.Proofs
end
