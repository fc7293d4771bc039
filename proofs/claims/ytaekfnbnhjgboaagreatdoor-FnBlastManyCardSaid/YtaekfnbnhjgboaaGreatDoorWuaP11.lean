import Derived.Test.YtaekfnbnhjgboaaGreatDoorWuaP10
import Derived.Test.YtaekfnbnhjgboaaGreatDoorWuaP5
import Derived.Test.YtaekfnbnhjgboaaGreatDoorWuaP8
import Derived.Test.YtaekfnbnhjgboaaGreatDoorWuaP9
import Derived.Deep.Slices
import Derived.OpenVars
import Derived.MakeChecks
import Derived.Stop.LaidErr
import Derived.Stop.LaidTwo
/- A part of the proof. -/
set_option linter.unusedVariables false
set_option linter.unusedSimpArgs false
set_option linter.unnecessarySimpa false
set_option linter.unusedSectionVars false
section
namespace Go.Proofs.YtaekfnbnhjgboaaGreatDoor
open Go Go.Vc Go.Proofs
variable {w:World} {K:Value→World→Prop} {D F Fx Fy Y S O O':Nat→Prop} {n b4 b8:Nat} {gs gs':M.Gs} {v v' nv xv yv sv:Value} {cs cs':List Value} {st st':Option M.Gs} {a b c m x y r:Int} {xs ys:List Int}
abbrev New (w:World):Nat→Prop:=fun b=>w.heap.size≤b
theorem Fm.res {w0 w5:World} {rv:Value} {zs:List Int} (h:Fm n D O w0 b4 b8 w st) (he:Ext w w5) (hk:MkR n (Zr0 D O b4 b8) w5 cs' st') (hz:Ints (New w) w5 rv zs)
  (hK:∀w6,Ext w0 w6→MkR n D w6 cs' st'→Ints (New w0) w6 rv zs→K (.tuple #[.agg ⟨cs'⟩,rv]) w6):
  zr PP zd (.pointer (some ⟨b8,0,none⟩)) (.agg ⟨cs'⟩) w5 fun _ w6=>vlv PP zd (.pointer (some ⟨b8,0,none⟩)) w6 fun r8 w7=>K (.tuple #[r8,rv]) w7:=by
 refine h.out he hk fun w6 e6 hk6 hs6=>hK w6 e6 hk6 ?_
 have l:=h.lt4;have s:=h.ext.size
 exact Ints.weaken (Ints.same hz hs6 fun b hb _ e=>by have:w.heap.size≤b:=hb;omega) fun b hb _=>by have:w.heap.size≤b:=hb;show w0.heap.size≤b;omega
theorem jO {w0:World} {rv:Value} {zs:List Int} (ho:OwnI PP zh w rv zs) (hn:∀b,rv.ownBlock=some b→w0.heap.size≤b):Ints (New w0) w rv zs:=Ints.weaken ho.ints fun b hb _=>hn b hb
theorem sbin7_spec {op:Int} (h3:3≤op) (h14:op≤14) (hn:n≤8) (hk:MkR n D w cs st) (hD:∀b,D b→b<w.heap.size) (hx:Ints Fx w xv xs) (hy:Ints Fy w yv ys) (hl:op≠14→xs.length=ys.length) (hx1:1≤xs.length) (h8:xs.length≤8) (hy8:ys.length≤8) (hxs:SnL st xs) (hys:SnL st ys)
  (hK:∀w' cs' st' r zs,Ext w w'→MkR n D w' cs' st'→Ints (New w) w' r zs→SnL st' zs→M.Bd.Out n (M.binB op xs ys) st st' zs→K (.tuple #[.agg ⟨cs'⟩,r]) w'):
  vcall PP Xo #[.agg ⟨cs⟩,.int .i64 op,xv,yv] w K:=by
 apply yM0;unfold VS
 refine Fm.start hk hD fun b4 b8 w1 h1=>?_
 have hx0:=Ints.ext (Ints.under hx) h1.ext;have hy0:=Ints.ext (Ints.under hy) h1.ext
 unfold M.binB at hK
 obtain⟨c1,hk1,hld1⟩:=h1.call
 simp only[push_cast]
 refine zg (fun c=>?_) (fun c6=>?_)
 ·subst c
  simp only[if_neg (show¬(6:Int)=14 by decide),if_neg (show¬(6:Int)=3 by decide),if_neg (show¬(6:Int)=4 by decide),if_neg (show¬(6:Int)=5 by decide),if_true] at hK
  simp only[hld1 w1 (Same.refl _ _)]
  refine sadd7_spec hn hk1 h1.dl hx0 hy0 (by have:=hl (by decide);omega) (by omega) hxs hys (Sn.of (by decide) (by decide)) fun w2 cs2 st2 rv zs he2 hk2 hr2 hnr2 hz2 ho2=>?_
  simp only[push_cast]
  exact h1.res he2 hk2 (jO hr2 hnr2) fun w3 e3 hk3 hz3=>hK w3 cs2 st2 rv zs e3 hk3 hz3 hz2 ho2
 try simp only[push_cast]
 refine zg (fun c=>?_) (fun c7=>?_)
 ·subst c
  simp only[if_neg (show¬(7:Int)=14 by decide),if_neg (show¬(7:Int)=3 by decide),if_neg (show¬(7:Int)=4 by decide),if_neg (show¬(7:Int)=5 by decide),if_neg (show¬(7:Int)=6 by decide),if_true] at hK
  refine zt fun w2 he2 _=>?_
  simp only[hld1 w2 he2,true_and]
  refine sturn7_spec (Ints.ext hy0 he2) (by omega) hys.sm fun w3 nv he3 hn3 hnn3=>?_
  simp only[hld1 w3 (he2.trans he3),true_and,and_self]
  have h3':=(h1.grow he2).grow he3
  refine sadd7_spec hn (hk1.ext (he2.trans he3) fun _ h _=>h) h3'.dl (Ints.ext hx0 (he2.trans he3)) hn3.ints (by rw[M.negL_len];have:=hl (by decide);omega) (by omega) hxs hys.neg (Sn.of (by decide) (by decide)) fun w4 cs4 st4 rv zs he4 hk4 hr4 hnr4 hz4 ho4=>?_
  simp only[push_cast,true_and]
  exact h3'.res he4 hk4 (jO hr4 hnr4) fun w5 e5 hk5 hz5=>hK w5 cs4 st4 rv zs e5 hk5 hz5 hz4 ho4
 try simp only[push_cast]
 refine zg (fun c=>?_) (fun c8=>?_)
 ·subst c
  simp only[if_neg (show¬(8:Int)=14 by decide),if_neg (show¬(8:Int)=3 by decide),if_neg (show¬(8:Int)=4 by decide),if_neg (show¬(8:Int)=5 by decide),if_neg (show¬(8:Int)=6 by decide),if_neg (show¬(8:Int)=7 by decide),if_true] at hK
  simp only[hld1 w1 (Same.refl _ _)]
  refine smul7_spec hn hk1 h1.dl hx0 hy0 (hl (by decide)) (by omega) hxs hys fun w2 cs2 st2 rv zs he2 hk2 hr2 hz2 ho2=>?_
  simp only[push_cast]
  exact h1.res he2 hk2 hr2 fun w3 e3 hk3 hz3=>hK w3 cs2 st2 rv zs e3 hk3 hz3 hz2 ho2
 try simp only[push_cast]
 refine zg (fun c=>?_) (fun c9=>?_)
 ·subst c
  simp only[if_neg (show¬(9:Int)=14 by decide),if_neg (show¬(9:Int)=3 by decide),if_neg (show¬(9:Int)=4 by decide),if_neg (show¬(9:Int)=5 by decide),if_neg (show¬(9:Int)=6 by decide),if_neg (show¬(9:Int)=7 by decide),if_neg (show¬(9:Int)=8 by decide),if_true] at hK
  simp only[hld1 w1 (Same.refl _ _)]
  refine sdiv7_spec hn hk1 h1.dl hx0 hy0 (hl (by decide)) (by omega) hxs hys fun w2 cs2 st2 qv rv q r he2 hk2 hq2 hr2 hqs hrs ho2=>?_
  simp only[push_cast]
  refine zD xS fun b10 w3 hb3 he3 hz3 hB3=>?_
  refine mk_put hB3 rfl hk2.len hk2.one fun w4 hs4 hz4 hB4=>?_
  rw[WJ hB4 hk2.len]
  have e24:Ext w2 w4:=Ext.then he3 hs4 fun b hb=>by omega
  exact h1.res (he2.trans e24) (hk2.ext e24 fun _ h _=>h) (Ints.ext hq2 e24) fun w5 e5 hk5 hz5=>hK w5 cs2 st2 qv q e5 hk5 hz5 hqs (M.Bd.Out.map _ ho2)
 try simp only[push_cast]
 refine zg (fun c=>?_) (fun c10=>?_)
 ·subst c
  simp only[if_neg (show¬(10:Int)=14 by decide),if_neg (show¬(10:Int)=3 by decide),if_neg (show¬(10:Int)=4 by decide),if_neg (show¬(10:Int)=5 by decide),if_neg (show¬(10:Int)=6 by decide),if_neg (show¬(10:Int)=7 by decide),if_neg (show¬(10:Int)=8 by decide),if_neg (show¬(10:Int)=9 by decide),if_true] at hK
  simp only[hld1 w1 (Same.refl _ _)]
  refine sdiv7_spec hn hk1 h1.dl hx0 hy0 (hl (by decide)) (by omega) hxs hys fun w2 cs2 st2 qv rv q r he2 hk2 hq2 hr2 hqs hrs ho2=>?_
  simp only[push_cast]
  refine zD xS fun b10 w3 hb3 he3 hz3 hB3=>?_
  refine mk_put hB3 rfl hk2.len hk2.one fun w4 hs4 hz4 hB4=>?_
  rw[WJ hB4 hk2.len]
  have e24:Ext w2 w4:=Ext.then he3 hs4 fun b hb=>by omega
  exact h1.res (he2.trans e24) (hk2.ext e24 fun _ h _=>h) (Ints.ext hr2 e24) fun w5 e5 hk5 hz5=>hK w5 cs2 st2 rv r e5 hk5 hz5 hrs (M.Bd.Out.map _ ho2)
 refine zW (fun u w'=>u=[.bool (decide (op=11∨op=12∨op=13))]∧w'=w1) ?_ ?_
 ·intro J hJ
  try simp only[push_cast]
  refine zg (fun c=>?_) (fun c=>?_)
  ·refine hJ _ _ ⟨?_,rfl⟩
   rw[decide_eq_true c,decide_eq_true (.inl c)]
  try simp only[push_cast]
  refine zg (fun d=>?_) (fun d=>?_)
  ·refine hJ _ _ ⟨?_,rfl⟩
   rw[decide_eq_true d,decide_eq_true (.inr (.inl d))]
  try simp only[push_cast]
  refine hJ _ _ ⟨?_,rfl⟩
  rw[decide_eq_decide.2 (show(op=11∨op=12∨op=13)↔op=13 from⟨fun h=>by omega,fun h=> .inr (.inr h)⟩)]
 rintro _ _ w2 ⟨rfl,rfl⟩
 try simp only[push_cast]
 refine zg (fun c=>?_) (fun cs13=>?_)
 ·simp only[hld1 w2 (Same.refl _ _)]
  refine sshift7_spec hn hk1 h1.dl hx0 hy0 hx1 (by omega) (by omega) hxs hys fun w3 cs3 st3 rv zs he3 hk3 hr3 hz3 ho3=>?_
  simp only[push_cast]
  refine h1.res he3 hk3 hr3 fun w5 e5 hk5 hz5=>hK w5 cs3 st3 rv zs e5 hk5 hz5 hz3 ?_
  rw[if_neg (by omega),if_neg (by omega),if_neg (by omega),if_neg (by omega),if_neg c6,if_neg c7,if_neg c8,if_neg c9,if_neg c10]
  rcases c with rfl|rfl|rfl
  ·exact ho3
  ·exact ho3
  ·exact ho3
 try simp only[push_cast]
 refine zg (fun c=>?_) (fun c14=>?_)
 ·rw[if_pos c] at hK
  refine zt fun w3 he3 _=>?_
  simp only[hld1 w3 he3,true_and]
  refine spec_nil fun v4 w4 ho4 e4 hn4=>?_
  simp only[hld1 w4 (he3.trans e4),true_and,and_self]
  refine ho4.app Z8 (Ints.ext hy0 (he3.trans e4)) (by simp;omega) (by simp;omega) fun v5 w5 ho5 hs5 hn5=>?_
  have z3:=he3.size;have z4:=e4.size
  have e35:Ext w3 w5:=Ext.then e4 hs5 fun b hb=>hn4 b hb
  simp only[hld1 w5 (he3.trans e35),true_and,and_self]
  have hv5:∀b,v5.ownBlock=some b→w3.heap.size≤b:=fun b hb=>(hn5 b hb).elim (hn4 b) fun h=>by omega
  refine ho5.app Z8 (Ints.ext hx0 (he3.trans e35)) (by simp;omega) (by simp;omega) fun v6 w6 ho6 hs6 hn6=>?_
  have z5:=e35.size
  have e36:Ext w3 w6:=Ext.then e35 hs6 fun b hb=>hv5 b hb
  simp only[hld1 w6 (he3.trans e36),true_and,and_self]
  refine h1.res (he3.trans e36) (hk1.ext (he3.trans e36) fun _ h _=>h) (jO ho6 fun b hb=>(hn6 b hb).elim (fun h=>by have:=hv5 b h;omega) fun h=>by omega) fun w7 e7 hk7 hz7=>hK w7 c1 st v6 _ e7 hk7 hz7 (by rw[List.nil_append];exact hys.app hxs) (M.Bd.Out.ret _ _)
 simp only[hld1 w2 (Same.refl _ _)]
 refine splain7_spec hn hk1 h1.dl hx0 hy0 (by have:=hl c14;omega) (by omega) hxs hys fun w3 cs3 st3 rv zs he3 hk3 hr3 hnr3 hz3 ho3=>?_
 simp only[push_cast]
 refine h1.res he3 hk3 (jO hr3 hnr3) fun w5 e5 hk5 hz5=>hK w5 cs3 st3 rv zs e5 hk5 hz5 hz3 ?_
 rw[if_neg c14]
 unfold Yd at ho3
 rcases(by omega:op=3∨op=4∨op=5) with rfl|rfl|rfl
 ·exact ho3
 ·exact ho3
 ·exact ho3
theorem sun7_spec {op:Int} (ho:op=1∨op=2) (hn:n≤8) (hk:MkR n D w cs st) (hD:∀b,D b→b<w.heap.size) (hx:Ints Fx w xv xs) (h8:xs.length≤8) (hxs:SnL st xs)
  (hK:∀w' cs' st' r zs,Ext w w'→MkR n D w' cs' st'→Ints (New w) w' r zs→SnL st' zs→M.Bd.Out n (M.unB op xs) st st' zs→K (.tuple #[.agg ⟨cs'⟩,r]) w'):
  vcall PP Jn #[.agg ⟨cs⟩,.int .i64 op,xv] w K:=by
 apply xo0;unfold Uh
 refine Fm.start hk hD fun b4 b8 w1 h1=>?_
 have hx0:=Ints.ext (Ints.under hx) h1.ext
 unfold M.unB at hK
 obtain⟨c1,hk1,hld1⟩:=h1.call
 simp only[push_cast]
 refine zg (fun c=>?_) (fun c=>?_)
 ·rw[if_pos c] at hK
  refine zt fun w2 he2 _=>?_
  simp only[hld1 w2 he2,true_and]
  refine sturn7_spec (Ints.ext hx0 he2) (by omega) hxs.sm fun w3 nv he3 hn3 hnn3=>?_
  simp only[hld1 w3 (he2.trans he3),true_and,and_self]
  have z2:=he2.size
  exact h1.res (he2.trans he3) (hk1.ext (he2.trans he3) fun _ h _=>h) (jO hn3 fun b hb=>by have:=hnn3 b hb;omega) fun w5 e5 hk5 hz5=>hK w5 c1 st nv _ e5 hk5 hz5 hxs.neg (M.Bd.Out.ret _ _)
 ·rw[if_neg c] at hK
  refine zt fun w2 he2 _=>?_
  have hx2:=Ints.ext hx0 he2
  simp(disch:=first|(simp only[push_cast];done)|omega) only[push_cast,hld1 w2 he2,true_and,hx2.len]
  refine sfill7_spec (by omega) fun w3 fv he3 hf3 hnf3=>?_
  simp only[hld1 w3 (he2.trans he3),true_and,and_self]
  refine sturn7_spec (Ints.ext hx2 he3) (by omega) hxs.sm fun w4 nv he4 hn4 hnn4=>?_
  have e14:=he2.trans (he3.trans he4)
  simp only[hld1 w4 e14,true_and,and_self]
  have h4:=h1.grow e14
  refine sadd7_spec hn (hk1.ext e14 fun _ h _=>h) h4.dl (hf3.ext he4).ints hn4.ints (by rw[M.negL_len,List.length_replicate];omega) (by rw[List.length_replicate];omega) (SnL.fill _) hxs.neg (Sn.of (by decide) (by decide)) fun w5 cs5 st5 rv zs he5 hk5 hr5 hnr5 hz5 ho5=>?_
  simp only[push_cast,true_and]
  exact h4.res he5 hk5 (jO hr5 hnr5) fun w6 e6 hk6 hz6=>hK w6 cs5 st5 rv zs e6 hk6 hz6 hz5 ho5
theorem swap_get (xs ys:List Int) (h:xs.length=ys.length) (h1:1≤xs.length):xs.take (xs.length-1)++[ys.getD (xs.length-1) 0]=M.swapT xs ys:=by
 unfold M.swapT
 refine List.ext_getElem (by simp;omega) fun i hi1 hi2=>?_
 rw[List.getElem_set]
 by_cases c:xs.length-1=i
 ·subst c
  rw[if_pos rfl,List.getElem_append_right (by simp)]
  simp
 ·have hi3:i<xs.length:=by simpa using hi2
  rw[if_neg c,List.getElem_append_left (by simp;omega),List.getElem_take]
theorem cut_app {w0:World} {vx:Value} {zs:List Int} {x:Int} {b7:Nat} {t0:TypeId} (h0:Ext w0 w) (hx:Ints Fx w vx zs) (hz:zs.length≤1000) (hB:Blk w b7 [.int .i64 x] t0) (hb7:w0.heap.size≤b7) (ho:OwnI PP zh w v []) (hv:∀b,v.ownBlock=some b→w0.heap.size≤b∧b≠b7)
  (hK:∀w' v',Ext w0 w'→OwnI PP zh w' v' (zs++[x])→(∀b,v'.ownBlock=some b→w0.heap.size≤b)→K v' w'):
  vbi PP .append [zh,zh] zh [v,vx] w fun t w1=>vbi PP .append [zh,zh] zh [t,.slice (some ⟨b7,0,none⟩) 1 1] w1 K:=by
 have s0:=h0.size
 refine ho.app Z8 hx (by simp;omega) (by simp;omega) fun v2 w2 ho2 hs2 hn2=>?_
 have s2:=hs2.size
 refine OwnI.app1 ho2 Z8 (hB.same hs2 fun e=>(hv _ e).2 rfl) (by simp;omega) (by simp;omega) fun v3 w3 ho3 hs3 hn3=>?_
 have e2:Ext w0 w2:=Ext.then h0 hs2 fun b hb=>(hv b hb).1
 have hv2:∀b,v2.ownBlock=some b→w0.heap.size≤b:=fun b hb=>(hn2 b hb).elim (fun h=>(hv b h).1) fun h=>by omega
 exact hK w3 v3 (Ext.then e2 hs3 fun b hb=>hv2 b hb) (by simpa using ho3) fun b hb=>(hn3 b hb).elim (hv2 b) fun h=>by omega
theorem top_region {J:List Value→World→Prop} (hx:Ints Fx w xv xs) (hy:Ints Fy w yv ys) (hl:xs.length=ys.length) (h1:1≤xs.length) (h8:xs.length≤8) (hJ:∀w' r,Ext w w'→OwnI PP zh w' r (M.swapT xs ys)→(∀b,r.ownBlock=some b→w.heap.size≤b)→J [r] w'):
  y3 w fun w_20=>
    yq PP zh xv none (some (.int .i64 ((xs.length-1:Nat):Int))) none w_20 fun t36 w_21=>w_21=w_20∧
    zl PP zh yv (.int .i64 ((xs.length-1:Nat):Int)) w_20 fun t40 w_22=>w_22=w_20∧
    ze PP zc t40 w_20 fun t41 w_23=>w_23=w_20∧
    (vbuildS PP zh 0 [] w_20 fun t33 w_24=>(ze PP zc t40 w_24 fun v x=>v=t41∧x=w_24)∧(zl PP zh yv (.int .i64 ((xs.length-1:Nat):Int)) w_24 fun v x=>v=t40∧x=w_24)∧(yq PP zh xv none (some (.int .i64 ((xs.length-1:Nat):Int))) none w_24 fun v x=>v=t36∧x=w_24)∧
     (vbi PP .append [zh,zh] zh [t33,t36] w_24 fun t37 w_25=>(ze PP zc t40 w_25 fun v x=>v=t41∧x=w_25)∧(zl PP zh yv (.int .i64 ((xs.length-1:Nat):Int)) w_25 fun v x=>v=t40∧x=w_25)∧
      (vbuildS PP zh 1 [(0,t41)] w_25 fun t42 w_26=>
       (vbi PP .append [zh,zh] zh [t37,t42] w_26 fun t43 w_27=>
        J [t43] w_27)∧
       True)∧
      True)∧
     (vbuildS PP zh 1 [(0,t41)] w_24 fun t42_1 w_28=>(yq PP zh xv none (some (.int .i64 ((xs.length-1:Nat):Int))) none w_28 fun v x=>v=t36∧x=w_28)∧
      (vbi PP .append [zh,zh] zh [t33,t36] w_28 fun t37_1 w_29=>
       (vbi PP .append [zh,zh] zh [t37_1,t42_1] w_29 fun t43_1 w_30=>
        J [t43_1] w_30)∧
       True)∧
      True)∧
     True)∧
    (vbuildS PP zh 1 [(0,t41)] w_20 fun t42_2 w_31=>(yq PP zh xv none (some (.int .i64 ((xs.length-1:Nat):Int))) none w_31 fun v x=>v=t36∧x=w_31)∧
     (vbuildS PP zh 0 [] w_31 fun t33_1 w_32=>(yq PP zh xv none (some (.int .i64 ((xs.length-1:Nat):Int))) none w_32 fun v x=>v=t36∧x=w_32)∧
      (vbi PP .append [zh,zh] zh [t33_1,t36] w_32 fun t37_2 w_33=>
       (vbi PP .append [zh,zh] zh [t37_2,t42_2] w_33 fun t43_2 w_34=>
        J [t43_2] w_34)∧
       True)∧
      True)∧
     True)∧
    True:=by
 refine zt fun w2 he2 _=>?_
 have sl:∀(w':World) (K:Value→World→Prop),Ext w w'→yq PP zh xv none (some (.int .i64 ((xs.length-1:Nat):Int))) none w' K=K (cutV xv (xs.length-1)) w':=fun w' K he=>by
  have hx':=Ints.ext hx he
  exact propext ⟨fun h=>by rwa[Sl.cut hx' (Sl.base hx' (by simp;intro h;rw[h] at h1;simp at h1)) Ka (by simp)] at h,fun h=>by rwa[Sl.cut hx' (Sl.base hx' (by simp;intro h;rw[h] at h1;simp at h1)) Ka (by simp)]⟩
 have ia:∀(w':World) (K:Value→World→Prop),zl PP zh yv (.int .i64 ((xs.length-1:Nat):Int)) w' K=K (.pointer (some (eaddr yv 1 (xs.length-1)))) w':=fun w' K=>by
  rw[hy.iaddr Ka (by omega) (by omega),Int.toNat_natCast]
 have ld:∀(w':World) (K:Value→World→Prop),Ext w w'→ze PP zc (.pointer (some (eaddr yv 1 (xs.length-1)))) w' K=K (.int .i64 (ys.getD (xs.length-1) 0)) w':=fun w' K he=>(Ints.ext hy he).load q00 (by omega)
 have hc:∀w',Ext w w'→Ints Fx w' (cutV xv (xs.length-1)) (xs.take (xs.length-1)):=fun w' he=>by
  have:=Sl.taken (Ints.ext hx he) (n:=xs.length-1) (by simp)
  unfold Ints Vals;rw[List.map_take,List.map_take];exact this
 have hlc:(xs.take (xs.length-1)).length≤1000:=by rw[List.length_take];omega
 have s2:=he2.size
 simp only[sl _ _ he2,ia,ld _ _ he2,true_and,and_true]
 refine⟨?_,?_⟩
 ·refine spec_nil fun v3 w3 ho3 e3 hn3=>?_
  have e23:=he2.trans e3
  simp only[sl _ _ e23,ld _ _ e23,true_and,and_true,and_self]
  refine⟨?_,?_⟩
  ·refine ho3.app Z8 (hc _ e23) (by simp;omega) (by simp;omega) fun v4 w4 ho4 hs4 hn4=>?_
   have e24:Ext w w4:=Ext.then e23 hs4 fun b hb=>by have:=hn3 b hb;omega
   have s3:=e3.size
   simp only[ld _ _ e24,true_and,and_true,and_self]
   refine spec_app (w0:=w) e24 ho4 (fun b hb=>(hn4 b hb).elim (fun h=>by have:=hn3 b h;omega) fun h=>by omega) (by simp;omega) fun v5 w5 ho5 e5 hn5=>?_
   refine hJ w5 v5 e5 ?_ hn5
   rw[←swap_get xs ys hl h1];simpa using ho5
  ·refine ya Zu kO Zr rfl rfl fun b7 w7 hb7 he7 hz7 hB7=>?_
   have s3:=e3.size
   simp only[sl _ _ (e23.trans he7),true_and,and_true,and_self]
   refine cut_app (w0:=w) (e23.trans he7) (hc _ (e23.trans he7)) hlc hB7 (by omega) (ho3.ext he7) (fun b hb=>by have:=hn3 b hb;have:=ho3.lt hb;omega) fun w8 v8 e8 ho8 hn8=>?_
   refine hJ w8 v8 e8 ?_ hn8
   rw[←swap_get xs ys hl h1];exact ho8
 ·refine ya Zu kO Zr rfl rfl fun b7 w7 hb7 he7 hz7 hB7=>?_
  have e27:=he2.trans he7
  simp only[sl _ _ e27,true_and,and_true,and_self]
  refine spec_nil fun v3 w3 ho3 e3 hn3=>?_
  simp only[sl _ _ (e27.trans e3),true_and,and_true,and_self]
  refine cut_app (w0:=w) (e27.trans e3) (hc _ (e27.trans e3)) hlc (hB7.ext e3) (by omega) ho3 (fun b hb=>by have:=hn3 b hb;omega) fun w8 v8 e8 ho8 hn8=>?_
  refine hJ w8 v8 e8 ?_ hn8
  rw[←swap_get xs ys hl h1];exact ho8
theorem swap_sn (hx:SnL st xs) (hy:SnL st ys) (hl:xs.length=ys.length) (h1:1≤xs.length):SnL st (M.swapT xs ys):=hx.set (hy.get (by omega))
theorem zq0 (xs ys:List Int):(M.swapT xs ys).length=xs.length:=List.length_set ..
theorem scmp7_spec {op:Int} (h15:15≤op) (h17:op≤17) (hn:n≤8) (hk:MkR n D w cs st) (hD:∀b,D b→b<w.heap.size) (hx:Ints Fx w xv xs) (hy:Ints Fy w yv ys) (hl:xs.length=ys.length) (hx1:1≤xs.length) (h8:xs.length≤8) (hxs:SnL st xs) (hys:SnL st ys)
  (hK:∀w' cs' st' r,Ext w w'→MkR n D w' cs' st'→Sn st' r→M.Bd.Out n (M.cmpB op xs ys) st st' r→K (.tuple #[.agg ⟨cs'⟩,.int .i64 r]) w'):
  vcall PP Xn #[.agg ⟨cs⟩,.int .i64 op,xv,yv] w K:=by
 apply yL0;unfold VR
 refine Fm.start hk hD fun b4 b8 w1 h1=>?_
 have hx0:=Ints.ext (Ints.under hx) h1.ext;have hy0:=Ints.ext (Ints.under hy) h1.ext
 unfold M.cmpB at hK
 obtain⟨c1,hk1,hld1⟩:=h1.call
 simp only[push_cast]
 refine zg (fun c=>?_) (fun c5=>?_)
 ·rw[if_pos c] at hK
  simp only[hld1 w1 (Same.refl _ _)]
  refine ssame7_spec hn hk1 h1.dl hx0 hy0 (by omega) (by omega) hxs hys fun w2 cs2 st2 r he2 hk2 hr2 ho2=>?_
  simp only[push_cast]
  exact h1.out he2 hk2 fun w3 e3 hk3 hs3=>hK w3 cs2 st2 r e3 hk3 hr2 ho2
 rw[if_neg c5] at hK
 try simp only[push_cast]
 refine zg (fun c=>?_) (fun c6=>?_)
 ·rw[if_pos c] at hK
  simp only[hld1 w1 (Same.refl _ _)]
  refine sless7_spec hn hk1 h1.dl hx0 hy0 (by omega) (by omega) hxs hys fun w2 cs2 st2 r he2 hk2 hr2 ho2=>?_
  simp only[push_cast]
  exact h1.out he2 hk2 fun w3 e3 hk3 hs3=>hK w3 cs2 st2 r e3 hk3 hr2 ho2
 rw[if_neg c6] at hK
 rw[hx0.len ZA0]
 simp(disch:=omega) only[push_cast,zA]
 rw[show((xs.length:Int)-1)=((xs.length-1:Nat):Int) by omega]
 refine zW (fun u w'=> ∃r,u=[r]∧Ext w1 w'∧OwnI PP zh w' r (M.swapT xs ys)) ?_ ?_
 ·intro J hJ
  exact top_region hx0 hy0 hl hx1 (by omega) fun w' r he ho hn=>hJ _ _ ⟨r,rfl,he,ho⟩
 rintro _ _ w2 ⟨av,rfl,e2,ha2⟩
 refine zW (fun u w'=> ∃r,u=[r]∧Ext w2 w'∧OwnI PP zh w' r (M.swapT ys xs)) ?_ ?_
 ·intro J hJ
  rw[hl]
  exact top_region (Ints.ext hy0 e2) (Ints.ext hx0 e2) hl.symm (by omega) (by omega) fun w' r he ho hn=>hJ _ _ ⟨r,rfl,he,ho⟩
 rintro _ _ w3 ⟨bv,rfl,e3,hb3⟩
 have e13:=e2.trans e3
 try simp only[push_cast]
 simp only[hld1 w3 e13]
 refine sless7_spec hn (hk1.ext e13 fun _ h _=>h) (h1.grow e13).dl (ha2.ext e3).ints hb3.ints (by rw[zq0,zq0];omega) (by rw[zq0];omega) (swap_sn hxs hys hl hx1) (swap_sn hys hxs hl.symm (by omega)) fun w4 cs4 st4 r he4 hk4 hr4 ho4=>?_
 simp only[push_cast]
 exact(h1.grow e13).out he4 hk4 fun w5 e5 hk5 hs5=>hK w5 cs4 st4 r e5 hk5 hr4 ho4
theorem fresh6_spec {o:Option Addr} {l c:Nat} (hg:GatesR Fx w (.slice o l c) gs) (hl:gs.length≤1000) (hK:∀w' o' c',Ext w w'→OwnG w' (.slice o' gs.length c') gs→(∀b,(Value.slice o' gs.length c').ownBlock=some b→w.heap.size≤b)→K (.agg ⟨[.int .i64 n,.slice o' gs.length c']⟩) w'):
  vcall PP ZV #[.agg ⟨[.int .i64 n,.slice o l c]⟩] w K:=by
 apply UE;unfold QU
 refine zx fun b1 w1 hb1 he1 hz1 hB1=>?_
 refine zD xE fun b2 w2 hb2 he2 hz2 hB2=>?_
 refine zt fun w3 he3 _=>?_
 have e23:=he2.trans he3
 have hB13:=hB1.ext e23
 simp(disch:=first|(simp only[push_cast];done)|omega) only[push_cast,hB13.ld0,hB13.ld1,true_and]
 refine qs je Yx fun b4 w4 hb4 he4 hz4 hB4=>?_
 have hB14:=hB13.ext he4
 simp(disch:=first|(simp only[push_cast];done)|omega) only[push_cast,hB14.ld0,hB14.ld1,true_and,and_self]
 have hown:Own PP 0 3 zk w4 (.slice (some ⟨b4,0,none⟩) 0 0) []:=Blk.ownk (css:=[]) (by rw[YR];exact hB4) (fun x hx=>by cases hx) rfl (by omega)
 have e04:=he1.trans (e23.trans he4)
 refine vappend (bs:=24) qD (by decide) hown (Sl.ext hg e04) (gone gs) (by omega) (by rw[List.length_map];simp;omega) (by rw[List.length_map];simp;omega) fun v5 w5 ho5 hs5 hn5=>?_
 have z1:=he1.size;have z2:=he2.size;have z3:=he3.size
 have e45:Ext w w5:=Ext.then e04 hs5 fun b hb=>by have e:b4=b:=Option.some.inj hb;omega
 have hB15:=hB14.same hs5 fun e=>by have e:b4=b1:=Option.some.inj e;omega
 obtain⟨o5,c5,hv5,_⟩:=(Own.sl ho5).shape
 subst hv5
 simp(disch:=first|(simp only[push_cast];done)|omega) only[push_cast,hB15.ld0,true_and,and_self,xM0]
 have hB25:=((hB2.ext he3).ext he4).same hs5 fun e=>by have e:b4=b2:=Option.some.inj e;omega
 refine net_out hB25 rfl rfl net_one fun w6 hs6=>?_
 have hlen:([]++gs.map yH).length=gs.length:=by simp
 have hn5':∀b,(Value.slice o5 ([]++gs.map yH).length c5).ownBlock=some b→b4≤b:=fun b hb=>(hn5 b hb).elim (fun h=>by have e:b4=b:=Option.some.inj h;omega) fun h=>by omega
 have ho6:=Own.same ho5 hs6 fun b hb e=>by have:=hn5' b hb;omega
 rw[hlen] at ho6 hn5'⊢
 exact hK w6 o5 c5 (Ext.then e45 hs6 fun b hb=>by omega) ho6 fun b hb=>by have:=hn5' b hb;omega
def toldR (n:Nat) (st:Option M.Gs) (zs:List Int):Nat×M.Gs×List Int:=match st with
 |some gs=>(n,gs,zs)
 |none=>(0,[],[])
theorem told7_spec {zs:List Int} {rv:Value} (hk:MkR n D w cs st) (hz:Ints Fx w rv zs) (h8:zs.length≤8)
  (hK:∀w' o c lv,Ext w w'→OwnG w' (.slice o (toldR n st zs).2.1.length c) (toldR n st zs).2.1→OwnI PP zh w' lv (toldR n st zs).2.2→(∀b,(Value.slice o (toldR n st zs).2.1.length c).ownBlock=some b→w.heap.size≤b)→(∀b,lv.ownBlock=some b→w.heap.size≤b∧(Value.slice o (toldR n st zs).2.1.length c).ownBlock≠some b)→K (.tuple #[.agg ⟨[.int .i64 (toldR n st zs).1,.slice o (toldR n st zs).2.1.length c]⟩,lv]) w'):
  vcall PP YC #[.agg ⟨cs⟩,rv] w K:=by
 apply zR0;unfold KA
 refine zx fun b1 w1 hb1 he1 hz1 hB1=>?_
 refine zD xE fun b2 w2 hb2 he2 hz2 hB2=>?_
 have hB12:=hB1.ext he2
 have e2:=he1.trans he2
 have z1:=he1.size;have z2:=he2.size
 cases st with
 |none=>
  have hcs:cs=[.int .i64 0,.slice none 0 0,.bool false]:=hk
  subst hcs
  simp(disch:=first|(simp only[push_cast];done)|omega) only[push_cast,hB12.ld2,Bool.not_false,yh0]
  refine spec_nil fun v3 w3 ho3 e3 hn3=>?_
  refine net_out (hB2.ext e3) rfl rfl net_one fun w4 hs4=>?_
  refine hK w4 none 0 v3 (Ext.then (e2.trans e3) hs4 fun b hb=>by omega) OwnG.nil (ho3.same hs4 fun b hb e=>by have:=hn3 b hb;omega) (fun b hb=>by cases hb) fun b hb=>⟨by have:=hn3 b hb;omega,fun h=>by cases h⟩
 |some gs=>
  obtain⟨o,l,c,rfl,hg,hl⟩:=hk
  have hnet:ze PP zf (.pointer (some ⟨b1,0,none⟩)) w2=fun K=>K (.agg ⟨[.int .i64 n,.slice o l c]⟩) w2:=by
   funext K;exact Blk.ldTake (us:=[.int .i64 n,.slice o l c]) (r:=[.bool true]) hB12 y5
  simp(disch:=first|(simp only[push_cast];done)|omega) only[push_cast,hB12.ld2,Bool.not_true,x7,Nat.add_zero,hnet]
  refine fresh6_spec (Sl.ext hg e2) (by omega) fun w3 o3 c3 e3 ho3 hn3=>?_
  refine spec_nil fun v4 w4 ho4 e4 hn4=>?_
  refine ho4.app Z8 (Ints.ext hz (e2.trans (e3.trans e4))) (by simp;omega) (by simp;omega) fun v5 w5 ho5 hs5 hn5=>?_
  have z3:=e3.size;have z4:=e4.size
  have e45:Ext w3 w5:=Ext.then e4 hs5 fun b hb=>hn4 b hb
  have hB25:=(hB2.ext e3).ext e45
  refine net_out hB25 rfl rfl net_one fun w6 hs6=>?_
  have hv5:∀b,v5.ownBlock=some b→w3.heap.size≤b:=fun b hb=>(hn5 b hb).elim (hn4 b) fun h=>by omega
  refine hK w6 o3 c3 v5 (Ext.then (e2.trans (e3.trans e45)) hs6 fun b hb=>by omega) ((Own.ext ho3 e45).same hs6 fun b hb e=>by have:=hn3 b hb;omega) (show OwnI PP zh w6 v5 zs by simpa using ho5.same hs6 fun b hb e=>by have:=hv5 b hb;omega) (fun b hb=>by have:=hn3 b hb;omega) fun b hb=>⟨by have:=hv5 b hb;omega,fun h=>by have:=(Own.lt ho3 h).2;have:=hv5 b hb;omega⟩
end Go.Proofs.YtaekfnbnhjgboaaGreatDoor
end
section
namespace Go.Proofs.YtaekfnbnhjgboaaGreatDoor
open Go Go.Vc Go.Proofs
variable {w:World} {K:Value→World→Prop} {D F Fx Fy Y S O O':Nat→Prop} {n b4 b8:Nat} {gs gs':M.Gs} {v v' nv xv yv sv dv tv:Value} {cs cs':List Value} {st st':Option M.Gs} {a b c m x y r:Int} {xs ys:List Int} {ds:List M.Dcl} {t:M.Tm}
theorem spec_one {x:Int} (hK:∀w' r,Ext w w'→OwnI PP zh w' r [x]→(∀b,r.ownBlock=some b→w.heap.size≤b)→K r w'):vbuildS PP zh 1 [(0,.int .i64 x)] w K:=by
 refine ya Zu kO Zr rfl rfl fun b5 w5 hb5 he5 hz5 hB5=>?_
 exact hK w5 _ he5 (Blk.own1 (P:=PP) (t:=zh) (cs:=[Value.int .i64 x]) (by rw[zK0];exact hB5) (Nat.zero_le _) rfl rfl (by omega)) fun b hb=>by have e:b5=b:=Option.some.inj hb;omega
theorem sbits8_spec {k:Nat} (hok:M.declOk ds=true) (hk:k≤ds.length) (hd:DclsR F w v (ds.take k)) (hK:∀w',Ext w w'→K (.int .i64 (M.bitT ds k)) w'):vcall PP kQ #[v] w K:=by
 apply zP0;unfold Ky
 have hlen:(ds.take k).length=k:=by rw[List.length_take];omega
 have h4:=(M.decl_iff.1 hok).1
 refine vloop_up k (fun i u w'=>u=[.int .i64 (M.bitT ds i),.int .i64 i]∧Ext w w') ⟨rfl,Same.refl _ _⟩ ?_
 rintro i _ _ w2 C hi ⟨rfl,he2⟩ hC
 have hd2:=hd.ext he2
 simp(disch:=first|(simp only[push_cast];done)|omega) only[push_cast,hd2.len]
 refine zg (fun a=>?_) (fun a=>?_)
 ·have hi':i<k:=by omega
  have hs1:=dcl_small hok (i:=i) (by omega)
  have hs2:=dcl_small hok (i:=i+1) (by omega)
  rw[M.bitT_succ (by omega)] at hs2
  have hg:(ds.take k).getD i (M.nada,0)=ds.getD i (M.nada,0):=M.take_getD hi'
  simp(disch:=first|(simp only[push_cast];done)|omega) only[push_cast,hd2.iaddr,hd2.load1,hg,zA]
  refine hC hi' _ _ ⟨?_,he2⟩
  rw[M.bitT_succ (by omega)]
  simp
 ·have:i=k:=by omega
  subst this
  exact hK w2 he2
theorem fix_val {nn:Int} {j:Nat}:2*((nn.toNat/2^j%2:Nat):Int)-1=if nn.toNat/2^j%2=1 then 1 else-1:=by
 have h:nn.toNat/2^j%2=0∨nn.toNat/2^j%2=1:=by omega
 rcases h with h|h<;>rw[h]<;>rfl
theorem sfix8_spec {wd nn:Int} (hv:M.vok wd nn=true) (hK:∀w' r,Ext w w'→OwnI PP zh w' r (M.fixB wd nn)→(∀b,r.ownBlock=some b→w.heap.size≤b)→K r w'):vcall PP Xl #[.int .i64 wd,.int .i64 nn] w K:=by
 apply yF0;unfold VK
 obtain⟨v1,v2,v3,v4⟩:=M.vok_lt hv
 refine spec_nil fun v1' w1 ho1 e1 hn1=>?_
 refine vloop_up wd.toNat (fun i u w'=> ∃r,u=[r,.int .i64 i]∧Ext w w'∧OwnI PP zh w' r ((M.fixB wd nn).take i)∧∀b,r.ownBlock=some b→w.heap.size≤b) ⟨_,rfl,e1,ho1,hn1⟩ ?_
 rintro i _ g w2 C hi ⟨r,rfl,e2,ho2,hn2⟩ hC
 simp only[push_cast]
 refine zg (fun a=>?_) (fun a=>?_)
 ·have hi':i<wd.toNat:=by omega
  rw[show nn=((nn.toNat:Nat):Int) by omega]
  refine l1Bit_spec (by omega) (by omega) ?_
  have hb:nn.toNat/2^i%2<2:=Nat.mod_lt _ (by decide)
  have hval:=fix_val (nn:=nn) (j:=i)
  generalize hbt:nn.toNat/2^i%2=bt at hval hb
  simp(disch:=omega) only[push_cast,zA]
  rw[hval]
  refine spec_app e2 ho2 hn2 (by rw[List.length_take,M.fixB_len];omega) fun v3 w3 ho3 e3 hn3=>?_
  try simp(disch:=omega) only[push_cast,zA]
  refine hC hi' _ _ ⟨v3,by simp,e3,?_,hn3⟩
  rw[M.take_add (by rw[M.fixB_len];omega) 0,fixB_at (by omega),hbt]
  exact ho3
 ·have hi':i=wd.toNat:=by omega
  rw[List.take_of_length_le (by rw[M.fixB_len];omega)] at ho2
  exact hK w2 r e2 ho2 hn2
theorem sname8_spec {k:Nat} (hok:M.declOk ds=true) (hk:k<ds.length) (hd:DclsR F w v ds) (hK:∀w' r,Ext w w'→OwnI PP zh w' r (M.nameB ds k)→(∀b,r.ownBlock=some b→w.heap.size≤b)→K r w'):vcall PP Yz #[v,.int .i64 k] w K:=by
 apply zN0;unfold Kw
 have h4:=(M.decl_iff.1 hok).1
 rw[hd.cut (by intro h;rw[h] at hk;simp at hk) XM (by omega)]
 refine sbits8_spec hok (by omega) (hd.taken (by omega)) fun w1 e1=>?_
 have hs1:=dcl_small hok (i:=k) (by omega)
 have hwd:=M.dcl_wide hok hk
 simp(disch:=omega) only[push_cast,zA]
 refine spec_nil fun v2 w2 ho2 e2 hn2=>?_
 have z1:=e1.size
 refine vloop_up (ds.getD k (M.nada,0)).2.toNat (fun i u w'=> ∃r,u=[r,.int .i64 i]∧Ext w w'∧OwnI PP zh w' r ((M.nameB ds k).take i)∧∀b,r.ownBlock=some b→w.heap.size≤b) ⟨_,rfl,e1.trans e2,ho2,fun b hb=>by have:=hn2 b hb;omega⟩ ?_
 rintro i _ g w3 C hi ⟨r,rfl,e3,ho3,hn3⟩ hC
 have hd3:=hd.ext e3
 have hget:∀hi':i<(ds.getD k (M.nada,0)).2.toNat,(M.nameB ds k).getD i 0=2+M.bitT ds k+(ds.getD k (M.nada,0)).2-1-(i:Int):=fun hi'=>by unfold M.nameB;rw[WC hi'];rfl
 rw[hd3.iaddr XM (by omega) (by omega),Int.toNat_natCast]
 simp only[push_cast]
 rw[hd3.load1 q00 hk]
 generalize hW:(ds.getD k (M.nada,0)).2=wd at*
 simp only[push_cast]
 refine zg (fun a=>?_) (fun a=>?_)
 ·have hi':i<wd.toNat:=by omega
  rw[hd3.iaddr XM (by omega) (by omega),Int.toNat_natCast]
  simp only[push_cast]
  rw[hd3.load1 q00 hk,hW]
  simp(disch:=omega) only[push_cast,zA]
  refine spec_app e3 ho3 hn3 (by rw[List.length_take,M.nameB_len];omega) fun v5 w5 ho5 e5 hn5=>?_
  try simp(disch:=omega) only[push_cast,zA]
  refine hC hi' _ _ ⟨v5,by simp,e5,?_,hn5⟩
  rw[M.take_add (by rw[M.nameB_len,hW];omega) 0,hget hi']
  exact ho5
 ·rw[List.take_of_length_le (by rw[M.nameB_len,hW];omega)] at ho3
  exact hK w3 r e3 ho3 hn3
theorem sleaf8_spec (hok:M.declOk ds=true) (hs:M.sortM ds t≠ -1) (h0:t.ks.length=0) (hd:DclsR F w dv ds) (ht:TermR Fx w tv t)
  (hK:∀w' r zs,Ext w w'→OwnI PP zh w' r zs→(∀b,r.ownBlock=some b→w.heap.size≤b)→SnL st zs→M.Bd.Out n (M.nodeB ds t []) st st zs→K r w'):vcall PP YA #[dv,tv] w K:=by
 apply zO0;unfold Kx
 obtain⟨kv,rfl,hks⟩:=ht
 obtain⟨har,hp,ho⟩:=M.right_op hs
 have hop:t.op=20∨t.op=21∨t.op=24:=Classical.byContradiction fun h=>by have:=M.node_arity ho h;omega
 refine zx fun b1 w1 hb1 he1 hz1 hB1=>?_
 simp(disch:=first|(simp only[push_cast];done)|omega) only[push_cast,hB1.ld0]
 unfold M.nodeB at hK
 refine zg (fun c=>?_) (fun c=>?_)
 ·rw[if_pos c] at hK
  have hv:=M.vec_ok hs c
  simp(disch:=first|(simp only[push_cast];done)|omega) only[push_cast,hB1.ld1,hB1.ld2]
  refine sfix8_spec hv fun w2 r he2 ho2 hn2=>?_
  exact hK w2 r _ (he1.trans he2) ho2 (fun b hb=>by have:=hn2 b hb;omega) (fun x hx=>by
   unfold M.fixB at hx
   obtain⟨j,_,rfl⟩:=List.mem_map.1 hx
   split<;>exact Sn.of (by decide) (by decide)) (M.Bd.Out.ret _ _)
 rw[if_neg c] at hK
 try simp only[push_cast]
 refine zg (fun c2=>?_) (fun c2=>?_)
 ·rw[if_pos c2] at hK
  have hf:=M.name_found hs c2
  have hlt:=M.findD_lt ds t.s
  simp(disch:=first|(simp only[push_cast];done)|omega) only[push_cast,hB1.ld3]
  refine l2Find_spec (hd.ext he1) ?_
  rw[show M.findD ds t.s=(((M.findD ds t.s).toNat:Nat):Int) by omega]
  refine sname8_spec hok (by omega) (hd.ext he1) fun w2 r he2 ho2 hn2=>?_
  refine hK w2 r _ (he1.trans he2) ho2 (fun b hb=>by have:=hn2 b hb;omega) (fun x hx=>?_) (M.Bd.Out.ret _ _)
  obtain⟨p1,p2,p3⟩:=M.name_has (m:=9) hok (k:=(M.findD ds t.s).toNat) (by omega) (by have:=(M.decl_iff.1 hok).2.2;omega) x hx
  exact Sn.of (by unfold Sm;omega) p1
 ·rw[if_neg c2,if_pos (by omega)] at hK
  refine spec_one fun w2 r he2 ho2 hn2=>?_
  exact hK w2 r _ (he1.trans he2) ho2 (fun b hb=>by have:=hn2 b hb;omega) (SnL.one (Sn.of (by decide) (by decide))) (M.Bd.Out.ret _ _)
end Go.Proofs.YtaekfnbnhjgboaaGreatDoor
end
section
namespace Go.Proofs.YtaekfnbnhjgboaaGreatDoor
open Go Go.Vc Go.Proofs
variable {w:World} {K:Value→World→Prop} {D F Fx Fy Y S O O':Nat→Prop} {n b4 b8:Nat} {gs gs':M.Gs} {v v' nv xv yv sv dv tv kv:Value} {cs cs' ts:List Value} {st st':Option M.Gs} {a b c m x y r:Int} {xs ys:List Int} {ds:List M.Dcl} {t:M.Tm} {rs:List (List Int)}
theorem Fm.start2 (hk:MkR n D w cs st) (hD:∀b,D b→b<w.heap.size) {K:Value→Value→Value→World→Prop} (hK:∀b4 b5 b8 w',Fm n D (fun _=>False) w b4 b8 w' st→Blk w' b5 ts z7→w.heap.size≤b5∧b5≠b4∧b5≠b8→K (.pointer (some ⟨b4,0,none⟩)) (.pointer (some ⟨b5,0,none⟩)) (.pointer (some ⟨b8,0,none⟩)) w'):
  yD PP zd (.agg ⟨cs⟩) w fun t w1=>yD PP z7 (.agg ⟨ts⟩) w1 fun t5 w2=>zY PP zd w2 fun t8 w3=>K t t5 t8 w3:=by
 refine zx fun b4 w1 hb1 he1 hz1 hB1=>?_
 refine zx fun b5 w2 hb2 he2 hz2 hB2=>?_
 refine zD xS fun b8 w3 hb3 he3 hz3 hB3=>?_
 have e13:=he2.trans he3
 have e3:=he1.trans e13
 refine hK b4 b5 b8 w3 ⟨e3,⟨cs,hB1.ext e13,hk.ext e3 fun b hb hl=>hb.elim id fun h=>?_⟩,⟨_,hB3,rfl⟩,by omega,fun b h=>h.elim,hD⟩ (hB2.ext he3) (by omega)
 rcases h with h|h|h
 ·omega
 ·omega
 ·exact h.elim
def KidsS (w:World) (kv:Value) (rs:List (List Int)):Prop:= ∃(vs:List Value) (Fk:Nat→Prop),Vals Fk w kv vs∧vs.length=rs.length∧∀i,i<rs.length→Ints (fun _=>True) w (vs.getD i undef) (rs.getD i [])
theorem KidsS.vals (h:KidsS w kv rs):∃vs:List Value,(∀(w':World),Ext w w'→∀i:Nat,i<rs.length→∀K:Value→World→Prop,zl PP ye kv (.int .i64 i) w' K=K (.pointer (some (eaddr kv 1 i))) w'∧ze PP zh (.pointer (some (eaddr kv 1 i))) w' K=K (vs.getD i undef) w')∧
  ∀i,i<rs.length→Ints (fun _=>True) w (vs.getD i undef) (rs.getD i []):=by
 obtain⟨vs,Fk,h1,h2,h3⟩:=h
 refine⟨vs,fun w' he i hi K=>?_,h3⟩
 have h1':=h1.ext he
 refine⟨?_,h1'.load ZD0 (by omega)⟩
 rw[h1'.iaddr Z70 (by omega) (by omega),Int.toNat_natCast]
theorem KidsS.ext {w':World} (h:KidsS w kv rs) (he:Ext w w'):KidsS w' kv rs:=by
 obtain⟨vs,Fk,h1,h2,h3⟩:=h
 exact⟨vs,Fk,h1.ext he,h2,fun i hi=>Ints.ext (h3 i hi) he⟩
theorem len_one {l:List Int} (h:l.length=1):l=[l.getD 0 0]:=by
 match l,h with
 |[x],_=>rfl
theorem slogic8_spec (hok:M.declOk ds=true) (hs:M.sortM ds t≠ -1) (h22:22<t.op) (h24:t.op≠24) (hn:n≤8) (hk:MkR n D w cs st) (hD:∀b,D b→b<w.heap.size) (ht:TermR Fx w tv t) (hkids:KidsS w kv rs) (hrl:rs.length=t.ks.length) (hlen:∀i,i<t.ks.length→(rs.getD i []).length=M.lenS (M.sortM ds (M.kid t i))) (hrs:∀r,r∈rs→SnL st r)
  (hK:∀w' cs' st' r zs,Ext w w'→MkR n D w' cs' st'→Ints (New w) w' r zs→SnL st' zs→M.Bd.Out n (M.nodeB ds t rs) st st' zs→K (.tuple #[.agg ⟨cs'⟩,r]) w'):
  vcall PP ZS #[.agg ⟨cs⟩,tv,kv] w K:=by
 apply UB;unfold QR
 obtain⟨kw,rfl,hks⟩:=ht
 obtain⟨har,hp,ho⟩:=M.right_op hs
 obtain⟨q1,q2,q3,q4,q5,q6,q7⟩:=M.node_right hok hs (L:=fun i=>(rs.getD i []).length) hlen
 refine Fm.start2 hk hD fun b4 b5 b8 w1 h1 hB1 hne=>?_
 obtain⟨c1,hk1,hld1⟩:=h1.call
 obtain⟨vs,hA,hvs⟩:=(hkids.ext h1.ext).vals
 have get:∀i,i<rs.length→SnL st (rs.getD i []):=fun i hi=>hrs _ (M.getD_mem hi [])
 simp(disch:=first|(simp only[push_cast];done)|omega) only[push_cast,hB1.ld0]
 unfold M.nodeB at hK
 rw[if_neg (by omega),if_neg (by omega),if_neg h24] at hK
 refine zg (fun c=>?_) (fun c25=>?_)
 ·rw[if_pos c] at hK
  obtain⟨hk7,hL7⟩:=q7 (by omega)
  rw[if_pos c] at hk7
  have hL0:=hL7 0 (by omega)
  refine zt fun w2 he2 _=>?_
  have A0:∀K:Value→World→Prop,zl PP ye kv (.int .i64 0) w2 K=K (.pointer (some (eaddr kv 1 0))) w2:=fun K=>(hA w2 he2 0 (by omega) K).1
  have B0:∀K:Value→World→Prop,ze PP zh (.pointer (some (eaddr kv 1 0))) w2 K=K (vs.getD 0 undef) w2:=fun K=>(hA w2 he2 0 (by omega) K).2
  simp only[hld1 w2 he2,A0,B0,true_and]
  refine sturn7_spec (Ints.ext (hvs 0 (by omega)) he2) (by omega) (get 0 (by omega)).sm fun w3 r3 he3 ho3 hn3=>?_
  simp only[hld1 w3 (he2.trans he3),true_and,and_self]
  have z2:=he2.size
  refine h1.res (he2.trans he3) (hk1.ext (he2.trans he3) fun _ h _=>h) (jO ho3 fun b hb=>by have:=hn3 b hb;omega) fun w4 e4 hk4 hz4=>hK w4 c1 st r3 _ e4 hk4 hz4 (get 0 (by omega)).neg ?_
  rw[len_one hL0]
  exact M.Bd.Out.ret _ _
 rw[if_neg c25] at hK
 try simp only[push_cast]
 refine zg (fun c=>?_) (fun c26=>?_)
 ·rw[if_pos c] at hK
  obtain⟨hk7,hL7⟩:=q7 (by omega)
  rw[if_neg c25] at hk7
  have hL0:=hL7 0 (by omega)
  have hL1:=hL7 1 (by omega)
  refine zt fun w2 he2 _=>?_
  have A0:∀K:Value→World→Prop,zl PP ye kv (.int .i64 0) w2 K=K (.pointer (some (eaddr kv 1 0))) w2:=fun K=>(hA w2 he2 0 (by omega) K).1
  have B0:∀K:Value→World→Prop,ze PP zh (.pointer (some (eaddr kv 1 0))) w2 K=K (vs.getD 0 undef) w2:=fun K=>(hA w2 he2 0 (by omega) K).2
  have A1:∀K:Value→World→Prop,zl PP ye kv (.int .i64 1) w2 K=K (.pointer (some (eaddr kv 1 1))) w2:=fun K=>(hA w2 he2 1 (by omega) K).1
  have B1:∀K:Value→World→Prop,ze PP zh (.pointer (some (eaddr kv 1 1))) w2 K=K (vs.getD 1 undef) w2:=fun K=>(hA w2 he2 1 (by omega) K).2
  have V0:=Ints.ext (hvs 0 (by omega)) he2
  have V1:=Ints.ext (hvs 1 (by omega)) he2
  simp(disch:=first|(simp only[push_cast];done)|omega) only[hld1 w2 he2,A0,B0,A1,B1,V0.iaddr,V0.load,V1.iaddr,V1.load,push_cast,true_and]
  have h2:=h1.grow he2
  refine sand7_spec hn (hk1.ext he2 fun _ h _=>h) h2.dl ((get 0 (by omega)).get (by omega)) ((get 1 (by omega)).get (by omega)) fun w3 cs3 st3 r he3 hk3 hr3 ho3=>?_
  simp only[push_cast,true_and]
  refine h2.put he3 hk3 fun w4 h4 hs4 hz4=>?_
  try simp only[push_cast,true_and,and_self]
  obtain⟨c4,hk4,hld4⟩:=h4.call
  simp only[hld4 w4 (Same.refl _ _)]
  refine spec_one fun w5 rv he5 ho5 hn5=>?_
  refine h4.res he5 (hk4.ext he5 fun _ h _=>h) (jO ho5 hn5) fun w6 e6 hk6 hz6=>hK w6 c4 st3 rv [r] e6 hk6 hz6 (SnL.one hr3) (xR ho3 (M.Bd.Out.ret _ _))
 rw[if_neg c26] at hK
 try simp only[push_cast]
 refine zg (fun c=>?_) (fun c27=>?_)
 ·rw[if_pos c] at hK
  obtain⟨hk7,hL7⟩:=q7 (by omega)
  rw[if_neg c25] at hk7
  have hL0:=hL7 0 (by omega)
  have hL1:=hL7 1 (by omega)
  refine zt fun w2 he2 _=>?_
  have A0:∀K:Value→World→Prop,zl PP ye kv (.int .i64 0) w2 K=K (.pointer (some (eaddr kv 1 0))) w2:=fun K=>(hA w2 he2 0 (by omega) K).1
  have B0:∀K:Value→World→Prop,ze PP zh (.pointer (some (eaddr kv 1 0))) w2 K=K (vs.getD 0 undef) w2:=fun K=>(hA w2 he2 0 (by omega) K).2
  have A1:∀K:Value→World→Prop,zl PP ye kv (.int .i64 1) w2 K=K (.pointer (some (eaddr kv 1 1))) w2:=fun K=>(hA w2 he2 1 (by omega) K).1
  have B1:∀K:Value→World→Prop,ze PP zh (.pointer (some (eaddr kv 1 1))) w2 K=K (vs.getD 1 undef) w2:=fun K=>(hA w2 he2 1 (by omega) K).2
  have V0:=Ints.ext (hvs 0 (by omega)) he2
  have V1:=Ints.ext (hvs 1 (by omega)) he2
  simp(disch:=first|(simp only[push_cast];done)|omega) only[hld1 w2 he2,A0,B0,A1,B1,V0.iaddr,V0.load,V1.iaddr,V1.load,push_cast,true_and]
  have h2:=h1.grow he2
  refine sor7_spec hn (hk1.ext he2 fun _ h _=>h) h2.dl ((get 0 (by omega)).get (by omega)) ((get 1 (by omega)).get (by omega)) fun w3 cs3 st3 r he3 hk3 hr3 ho3=>?_
  simp only[push_cast,true_and]
  refine h2.put he3 hk3 fun w4 h4 hs4 hz4=>?_
  try simp only[push_cast,true_and,and_self]
  obtain⟨c4,hk4,hld4⟩:=h4.call
  simp only[hld4 w4 (Same.refl _ _)]
  refine spec_one fun w5 rv he5 ho5 hn5=>?_
  refine h4.res he5 (hk4.ext he5 fun _ h _=>h) (jO ho5 hn5) fun w6 e6 hk6 hz6=>hK w6 c4 st3 rv [r] e6 hk6 hz6 (SnL.one hr3) (M.Bd.Out.map _ ho3)
 have c23:t.op=23:=by omega
 rw[if_neg c27,if_pos c23] at hK
 obtain⟨k1,l0,l1,l2,l3⟩:=q6 c23
 refine zt fun w2 he2 _=>?_
 have A0:∀K:Value→World→Prop,zl PP ye kv (.int .i64 0) w2 K=K (.pointer (some (eaddr kv 1 0))) w2:=fun K=>(hA w2 he2 0 (by omega) K).1
 have B0:∀K:Value→World→Prop,ze PP zh (.pointer (some (eaddr kv 1 0))) w2 K=K (vs.getD 0 undef) w2:=fun K=>(hA w2 he2 0 (by omega) K).2
 have A1:∀K:Value→World→Prop,zl PP ye kv (.int .i64 1) w2 K=K (.pointer (some (eaddr kv 1 1))) w2:=fun K=>(hA w2 he2 1 (by omega) K).1
 have B1:∀K:Value→World→Prop,ze PP zh (.pointer (some (eaddr kv 1 1))) w2 K=K (vs.getD 1 undef) w2:=fun K=>(hA w2 he2 1 (by omega) K).2
 have A2:∀K:Value→World→Prop,zl PP ye kv (.int .i64 2) w2 K=K (.pointer (some (eaddr kv 1 2))) w2:=fun K=>(hA w2 he2 2 (by omega) K).1
 have B2:∀K:Value→World→Prop,ze PP zh (.pointer (some (eaddr kv 1 2))) w2 K=K (vs.getD 2 undef) w2:=fun K=>(hA w2 he2 2 (by omega) K).2
 have V0:=Ints.ext (hvs 0 (by omega)) he2
 have V1:=Ints.ext (hvs 1 (by omega)) he2
 have V2:=Ints.ext (hvs 2 (by omega)) he2
 simp(disch:=first|(simp only[push_cast];done)|omega) only[hld1 w2 he2,A0,B0,A1,B1,A2,B2,V0.iaddr,V0.load,push_cast,true_and]
 have h2:=h1.grow he2
 refine sifs7_spec hn (hk1.ext he2 fun _ h _=>h) h2.dl V1 V2 (by omega) (by omega) (get 1 (by omega)) (get 2 (by omega)) ((get 0 (by omega)).get (by omega)) fun w3 cs3 st3 r zs he3 hk3 hr3 hnr3 hz3 ho3=>?_
 simp only[push_cast,true_and]
 exact h2.res he3 hk3 (jO hr3 hnr3) fun w4 e4 hk4 hz4=>hK w4 cs3 st3 r zs e4 hk4 hz4 hz3 ho3
end Go.Proofs.YtaekfnbnhjgboaaGreatDoor
end
section
namespace Go.Proofs.YtaekfnbnhjgboaaGreatDoor
open Go Go.Vc Go.Proofs
variable {w:World} {K:Value→World→Prop} {D F Fx Fy Y S O O':Nat→Prop} {n b4 b8:Nat} {gs gs':M.Gs} {v v' nv xv yv sv dv tv kv:Value} {cs cs' ts:List Value} {st st':Option M.Gs} {a b c m x y r:Int} {xs ys:List Int} {ds:List M.Dcl} {t:M.Tm} {rs:List (List Int)}
theorem cutEq {lo hi:Nat} {kl kh:IntKind} (h:Ints F w v xs) (hl:lo≤hi) (hh:hi≤xs.length):∃v',(∀(w':World) (K:Value→World→Prop),yq PP zh v (some (.int kl lo)) (some (.int kh hi)) none w' K=K v' w')∧Ints F w v' ((xs.drop lo).take (hi-lo)):=by
 have ht:elB PP zh 1=true:=Ka
 obtain⟨hu,hs⟩:=WX ht
 have hlen:((xs.drop lo).take (hi-lo)).length=hi-lo:=by rw[List.length_take,List.length_drop];omega
 obtain⟨a,c,rfl,hc,hcm,hcell⟩:=h.shape
 rw[List.length_map,List.length_map] at hc
 refine⟨sliced a lo hi c 1,fun w' K=>yy ?_,?_⟩
 ·rw[List.length_map,List.length_map,run_sliceAt_slice w' zh _ _ _ _ hu,run_slice_lh w' zh _ _ _ hu kl kh lo hi (by omega) (by omega) (by omega),Go.Vc.run_sizeOf hs]
  simp[Result.andThen]
 ·have key:=Ints.cutLH (P:=PP) (t:=zh) (kl:=kl) (kh:=kh) (w':=w) (K:=fun v' w'=>v'=sliced a lo hi c 1→Ints F w v' ((xs.drop lo).take (hi-lo))) h ht hl hh fun v' h' _=>h'
  rw[List.length_map,List.length_map] at key
  have e:yq PP zh (.slice a xs.length c) (some (.int kl lo)) (some (.int kh hi)) none w (fun v' w'=>v'=sliced a lo hi c 1→Ints F w v' ((xs.drop lo).take (hi-lo)))=(sliced a lo hi c 1=sliced a lo hi c 1→Ints F w (sliced a lo hi c 1) ((xs.drop lo).take (hi-lo))):=yy (by
   rw[run_sliceAt_slice w zh _ _ _ _ hu,run_slice_lh w zh _ _ _ hu kl kh lo hi (by omega) (by omega) (by omega),Go.Vc.run_sizeOf hs]
   simp[Result.andThen]
   rfl)
  rw[e] at key
  exact key rfl
theorem qE0 (ps:List (M.Bd (List Int))) (p:M.Bd (List Int)):M.seqB (ps++[p])=(M.seqB ps).bind fun rs=>p.map fun r=>rs++[r]:=by
 induction ps with
 |nil=>rfl
 |cons q ps ih=>
  show(q.bind fun r=>(M.seqB (ps++[p])).map (r:: ·))=((q.bind fun r=>(M.seqB ps).map (r:: ·)).bind fun rs=>p.map fun r=>rs++[r])
  rw[M.Bd.bind_assoc]
  congr 1
  funext r
  rw[ih]
  unfold M.Bd.map
  rw[M.Bd.bind_assoc,M.Bd.bind_assoc]
  congr 1
  funext rs
  rw[M.Bd.bind_assoc]
  rfl
theorem jX0 {ps:List (M.Bd (List Int))} {p:M.Bd (List Int)} {st st1 st2:Option M.Gs} {rs:List (List Int)} {r:List Int} (h:M.Bd.Out n (M.seqB ps) st st1 rs) (h2:M.Bd.Out n p st1 st2 r):M.Bd.Out n (M.seqB (ps++[p])) st st2 (rs++[r]):=by
 rw[qE0]
 exact M.Bd.Out.bind h (M.Bd.Out.map _ h2)
theorem ks_few (hs:M.sortM ds t≠ -1):t.ks.length≤3:=by
 obtain⟨har,hp,ho⟩:=M.right_op hs
 have h:M.arity t.op≤3:=by
  unfold M.arity;repeat' split
  all_goals omega
 omega
theorem sdo8_spec (hok:M.declOk ds=true) (hn:n≤8):∀(t:M.Tm),M.sortM ds t≠ -1→∀{w:World} {K:Value→World→Prop} {D:Nat→Prop} {cs:List Value} {st:Option M.Gs} {tv:Value} {Fd Ft:Nat→Prop},MkR n D w cs st→(∀b,D b→b<w.heap.size)→DclsR Fd w dv ds→TermR Ft w tv t→
  (∀w' cs' st' r zs,Ext w w'→MkR n D w' cs' st'→Ints (New w) w' r zs→SnL st' zs→M.Bd.Out n (M.termB ds t) st st' zs→K (.tuple #[.agg ⟨cs'⟩,r]) w')→
  vcall PP YB #[.agg ⟨cs⟩,dv,tv] w K:=by
 refine M.Tm.ind fun t ih hs w K D cs st tv Fd Ft hk hD hdv ht hK=>?_
 obtain⟨kw,rfl,hks⟩:=ht
 apply xn0;unfold Ug
 have hfew:=ks_few hs
 refine Fm.start2 hk hD fun b4 b5 b8 w1 h1 hB1 hne=>?_
 refine qs qB0 kt0 fun b6 w2 hb6 he2 hz2 hB6=>?_
 have ho2:OwnV PP ye w2 (.slice (some ⟨b6,0,none⟩) 0 0) []:=Blk.own1 (P:=PP) (t:=ye) (cs:=[]) (by rw[kj0];exact hB6) (Nat.zero_le _) rfl rfl (by omega)
 have h2:Fm n D (O1 (.slice (some ⟨b6,0,none⟩) 0 0)) w b4 b8 w2 st:=h1.own (S:=fun _=>False) he2 (fun b hb=>hb) fun b hb=>by
  have e:b6=b:=Option.some.inj hb
  exact⟨by omega,.inr (by omega)⟩
 have hl5:=hB1.lt
 have hT0:TmsR (Low w) w kw t.ks:=hks.weaken fun b _ hl=>hl
 refine vloop_up t.ks.length (fun i u w'=> ∃kv st3 vs rs,u=[kv,.int .i64 i]∧Fm n D (O1 kv) w b4 b8 w' st3∧Blk w' b5 [.int .i64 t.op,.int .i64 t.a,.int .i64 t.b,.string t.s,kw] z7∧(∀b,kv.ownBlock=some b→b≠b5)∧OwnV PP ye w' kv vs∧vs.length=i∧rs.length=i∧
  (∀j,j<i→Ints (Kp b4 b8 (O1 kv)) w' (vs.getD j undef) (rs.getD j []))∧(∀r,r∈rs→SnL st3 r)∧M.Bd.Out n (M.seqB ((t.ks.take i).map (M.termB ds))) st st3 rs)
  ⟨_,st,[],[],rfl,h2,hB1.ext he2,fun b hb=>by have e:b6=b:=Option.some.inj hb;omega,ho2,rfl,rfl,fun j hj=>absurd hj (by omega),(fun r hr=>by cases hr),M.Bd.Out.ret _ _⟩ ?_
 rintro i _ g w3 C hi ⟨kv,st3,vs,rs,rfl,h3,hB3,hn5,ho3,hvl,hrl,hint,hsn,hto⟩ hC
 have hT3:TmsR (Low w) w3 kw t.ks:=hT0.ext h3.ext
 simp(disch:=first|(simp only[push_cast];done)|omega) only[push_cast,hB3.ld4,hT3.len]
 refine zg (fun a=>?_) (fun a=>?_)
 ·have hi':i<t.ks.length:=by omega
  refine spec_nil fun vz w4 hz4 e4 hnz4=>?_
  refine zt fun w5 he5 _=>?_
  have e35:=e4.trans he5
  have h5:=h3.grow e35
  have hB5:=hB3.ext e35
  have hT5:=hT3.ext e35
  obtain⟨c5,hk5,hld5⟩:=h5.call
  simp(disch:=first|(simp only[push_cast];done)|omega) only[push_cast,hB5.ld4,hT5.iaddr,hld5 w5 (Same.refl _ _),true_and]
  refine hT5.load zJ hi' fun x hx=>?_
  simp only[push_cast,true_and]
  have hmem:t.ks.getD i default∈t.ks:=M.getD_mem hi' _
  refine ih _ hmem ((M.sort_parts hs).2.1 _ hmem) hk5 h5.dl (hdv.ext h5.ext) hx fun w6 cs6 st6 r zs he6 hk6 hz6 hsn6 ho6=>?_
  simp only[push_cast,true_and]
  refine h5.put he6 hk6 fun w7 h7 hs7 hz7=>?_
  try simp only[push_cast,true_and,and_self]
  have l5:=h5.lt4
  have hr7:Ints (Kp b4 b8 (O1 kv)) w7 r zs:=Ints.same (Ints.weaken (F':=Kp b4 b8 (O1 kv)) hz6 fun b hb _=>by
   have hb':w5.heap.size≤b:=hb
   exact⟨by omega,by omega,fun hO=>by have:=(h5.off b hO).1;omega⟩) hs7 fun b hb _ e=>hb.1 e
  have ho7:OwnV PP ye w7 kv vs:=((ho3.ext e35).ext he6).same hs7 fun b hb=>(h3.off b hb).2.2.1
  have hB7:=(hB5.ext he6).same hs7 (fun e=>hne.2.1 e)
  have hint7:∀j,j<i→Ints (Kp b4 b8 (O1 kv)) w7 (vs.getD j undef) (rs.getD j []):=fun j hj=>Ints.kp4 (Ints.ext (Ints.ext (hint j hj) e35) he6) hs7
  refine ya qB0 kt0 kI0 rfl (Sl.cells1 hr7) fun b9 w9 hb9 he9 hz9 hB9=>?_
  refine(ho7.ext he9).app1 Z00 hB9 (Sl.one hr7) (by omega) (by omega) fun v10 w10 ho10 hs10 hn10=>?_
  try simp(disch:=omega) only[push_cast,zA]
  have h10:Fm n D (O1 v10) w b4 b8 w10 st6:=(h7.grow he9).own hs10 (fun b hb=>hb) fun b hb=>⟨ho10.lt hb,hn10 b hb⟩
  have hkp:∀{xv:Value} {xs:List Int},Ints (Kp b4 b8 (O1 kv)) w7 xv xs→Ints (Kp b4 b8 (O1 v10)) w10 xv xs:=fun h=>Ints.kpO (Ints.ext h he9) hs10 (fun b hb=>hb) fun b hb=>hn10 b hb
  have hB9':=hB7.ext he9
  have hl9:=hB9'.lt
  refine hC hi' _ _ ⟨v10,st6,vs++[r],rs++[zs],by simp,h10,hB9'.same hs10 (fun e=>hn5 _ e rfl),fun b hb=>(hn10 b hb).elim (hn5 b) fun h=>by omega,ho10,by simp[hvl],by simp[hrl],fun j hj=>?_,fun q hq=>?_,?_⟩
  ·by_cases c:j<i
   ·rw[Wq (by omega),Wq (by omega)]
    exact hkp (hint7 j c)
   ·have:j=i:=by omega
    subst this
    rw[Wr hvl,Wr hrl]
    exact hkp hr7
  ·rcases List.mem_append.1 hq with h|h
   ·exact(hsn q h).out ho6
   ·rw[List.mem_singleton.1 h];exact hsn6
  ·rw[M.take_add hi' default,List.map_append]
   exact jX0 hto ho6
 have hi':i=t.ks.length:=by omega
 subst hi'
 rw[List.take_length] at hto
 obtain⟨hrl',hre⟩:=M.seq_reach hto.reach
 have hlen:∀j,j<t.ks.length→(rs.getD j []).length=M.lenS (M.sortM ds (M.kid t j)):=fun j hj=>by
  have hmem:t.ks.getD j default∈t.ks:=M.getD_mem hj _
  have:=M.term_len hok _ ((M.sort_parts hs).2.1 _ hmem) (hre j hj)
  rw[this];rfl
 have hkids:KidsS w3 kv rs:=⟨vs,_,ho3.vals,by omega,fun j hj=>Ints.weaken (hint j (by omega)) fun _ _ _=>trivial⟩
 have fin:∀{st4:Option M.Gs} {zs:List Int},M.Bd.Out n (M.nodeB ds t rs) st3 st4 zs→M.Bd.Out n (M.termB ds t) st st4 zs:=fun h=>by
  rw[M.termB_eq];exact M.Bd.Out.bind hto h
 have hterm:∀w',Ext w3 w'→TermR (Low w) w' (.agg ⟨[.int .i64 t.op,.int .i64 t.a,.int .i64 t.b,.string t.s,kw]⟩) t:=fun w' he=>⟨kw,rfl,hT3.ext he⟩
 obtain⟨c3,hk3,hld3⟩:=h3.call
 have hllen:∀(w':World) (K:Value→World→Prop),vbi PP .len [ye] zc [kv] w' K=K (.int .i64 t.ks.length) w':=fun w' K=>by rw[ho3.vals.len kU0,hvl]
 rw[hllen]
 simp only[push_cast]
 obtain⟨har,hp,hop⟩:=M.right_op hs
 obtain⟨q1,q2,q3,q4,q5,q6,q7⟩:=M.node_right hok hs (L:=fun i=>(rs.getD i []).length) hlen
 have get:∀i,i<rs.length→SnL st3 (rs.getD i []):=fun i hi=>hsn _ (M.getD_mem hi [])
 refine zg (fun c0=>?_) (fun c0=>?_)
 ·have h0:t.ks.length=0:=by omega
  refine zt fun w4 he4 _=>?_
  have hB4:=hB3.ext he4
  simp(disch:=first|(simp only[push_cast];done)|omega) only[push_cast,hld3 w4 he4,hB4.ldAgg (t:=z7) zJ,true_and]
  refine sleaf8_spec (n:=n) (st:=st3) hok hs h0 (hdv.ext (h3.ext.trans he4)) (hterm w4 he4) fun w5 r zs he5 ho5 hn5' hz5 hout5=>?_
  simp only[hld3 w5 (he4.trans he5),true_and,and_self]
  have z4:=he4.size
  refine h3.res (he4.trans he5) (hk3.ext (he4.trans he5) fun _ h _=>h) (jO ho5 fun b hb=>by have:=hn5' b hb;omega) fun w6 e6 hk6 hz6=>hK w6 c3 st3 r zs e6 hk6 hz6 hz5 (fin ?_)
  have:rs=[]:=List.length_eq_zero_iff.1 (by omega)
  rw[this];exact hout5
 have hop2: ¬(t.op=20∨t.op=21∨t.op=24):=fun h=>by
  have:M.arity t.op=0:=by rcases h with h|h|h<;>rw[h]<;>decide
  omega
 obtain⟨vs',hA,hvs⟩:=hkids.vals
 simp(disch:=first|(simp only[push_cast];done)|omega) only[push_cast,hB3.ld0]
 refine zg (fun c=>?_) (fun c22=>?_)
 ·obtain⟨k1,b0,ba,aL,L4⟩:=q5 c
  have aL':t.a<((rs.getD 0 []).length:Int):=aL
  have L4':(rs.getD 0 []).length≤4:=L4
  refine zt fun w4 he4 _=>?_
  have hB4:=hB3.ext he4
  have A0:∀w',Ext w3 w'→∀K:Value→World→Prop,zl PP ye kv (.int .i64 0) w' K=K (.pointer (some (eaddr kv 1 0))) w':=fun w' he K=>(hA w' he 0 (by omega) K).1
  have B0:∀w',Ext w3 w'→∀K:Value→World→Prop,ze PP zh (.pointer (some (eaddr kv 1 0))) w' K=K (vs'.getD 0 undef) w':=fun w' he K=>(hA w' he 0 (by omega) K).2
  obtain⟨cv,hcv,hci⟩:=cutEq (kl:= .i64) (kh:= .i64) (lo:=t.b.toNat) (hi:=(t.a+1).toNat) (hvs 0 (by omega)) (by omega) (by omega)
  have hcv':∀(w':World) (K:Value→World→Prop),yq PP zh (vs'.getD 0 undef) (some (.int .i64 t.b)) (some (.int .i64 (t.a+1))) none w' K=K cv w':=fun w' K=>by
   have:=hcv w' K
   rwa[show((t.b.toNat:Nat):Int)=t.b by omega,show(((t.a+1).toNat:Nat):Int)=t.a+1 by omega] at this
  simp(disch:=first|(simp only[push_cast];done)|omega) only[push_cast,hld3 w4 he4,A0 w4 he4,B0 w4 he4,hB4.ld1,hB4.ld2,zA,hcv',true_and]
  refine spec_nil fun v5 w5 ho5 e5 hn5'=>?_
  have e35:=he4.trans e5
  have hB5:=hB4.ext e5
  simp(disch:=first|(simp only[push_cast];done)|omega) only[push_cast,hld3 w5 e35,A0 w5 e35,B0 w5 e35,hB5.ld1,hB5.ld2,zA,hcv',true_and,and_self]
  refine ho5.app Z8 (Ints.ext hci e35) (by simp;omega) (by simp;omega) fun v6 w6 ho6 hs6 hn6=>?_
  have z4:=he4.size;have z5:=e5.size
  have e46:Ext w4 w6:=Ext.then e5 hs6 fun b hb=>hn5' b hb
  simp(disch:=first|(simp only[push_cast];done)|omega) only[push_cast,hld3 w6 (he4.trans e46),true_and,and_self]
  refine h3.res (he4.trans e46) (hk3.ext (he4.trans e46) fun _ h _=>h) (jO ho6 fun b hb=>(hn6 b hb).elim (fun h=>by have:=hn5' b h;omega) fun h=>by omega) fun w7 e7 hk7 hz7=>hK w7 c3 st3 v6 _ e7 hk7 hz7 (fun x hx=>?_) (fin ?_)
  ·rw[List.nil_append] at hx
   exact get 0 (by omega) x (List.mem_of_mem_drop (List.mem_of_mem_take hx))
  ·rw[List.nil_append]
   unfold M.nodeB
   rw[if_neg (by omega),if_neg (by omega),if_neg (by omega),if_neg (by omega),if_neg (by omega),if_neg (by omega),if_neg (by omega),if_pos c,show(t.a-t.b+1).toNat=(t.a+1).toNat-t.b.toNat by omega]
   exact M.Bd.Out.ret _ _
 try simp(disch:=first|(simp only[push_cast];done)|omega) only[push_cast,hB3.ld0]
 refine zg (fun c=>?_) (fun cg=>?_)
 ·simp(disch:=first|(simp only[push_cast];done)|omega) only[push_cast,hld3 w3 (Same.refl _ _),hB3.ldAgg (t:=z7) zJ]
  refine slogic8_spec hok hs (by omega) (fun h=>hop2 (.inr (.inr h))) hn hk3 h3.dl (hterm w3 (Same.refl _ _)) hkids hrl' hlen hsn fun w4 cs4 st4 r zs he4 hk4 hz4 hsn4 ho4=>?_
  simp only[push_cast]
  exact h3.res he4 hk4 hz4 fun w5 e5 hk5 hz5=>hK w5 cs4 st4 r zs e5 hk5 hz5 hsn4 (fin ho4)
 have hnode:M.nodeB ds t rs=if t.op≤2 then M.unB t.op (rs.getD 0 []) else if 15≤t.op∧t.op≤17 then(M.cmpB t.op (rs.getD 0 []) (rs.getD 1 [])).map fun v=>[v] else M.binB t.op (rs.getD 0 []) (rs.getD 1 []):=by
  unfold M.nodeB
  rw[if_neg (by omega),if_neg (by omega),if_neg (by omega),if_neg (by omega),if_neg (by omega),if_neg (by omega),if_neg (by omega),if_neg (by omega)]
 rw[hnode] at fin
 rw[hllen]
 simp only[push_cast]
 refine zg (fun c1=>?_) (fun c1=>?_)
 ·have hop12:t.op≤2:=Classical.byContradiction fun h=>by
   by_cases c15:15≤t.op
   ·have:=(q4 c15 (by omega)).1;omega
   ·by_cases c14:t.op=14
    ·have:=(q3 c14).1;omega
    ·have:=(q2 (by omega) (by omega)).1;omega
  rw[if_pos hop12] at fin
  obtain⟨k1,l1,l4⟩:=q1 (by omega) hop12
  have l4':(rs.getD 0 []).length≤4:=l4
  refine zt fun w4 he4 _=>?_
  have hB4:=hB3.ext he4
  have A0:∀K:Value→World→Prop,zl PP ye kv (.int .i64 0) w4 K=K (.pointer (some (eaddr kv 1 0))) w4:=fun K=>(hA w4 he4 0 (by omega) K).1
  have B0:∀K:Value→World→Prop,ze PP zh (.pointer (some (eaddr kv 1 0))) w4 K=K (vs'.getD 0 undef) w4:=fun K=>(hA w4 he4 0 (by omega) K).2
  simp(disch:=first|(simp only[push_cast];done)|omega) only[push_cast,hld3 w4 he4,A0,B0,hB4.ld0,true_and]
  have h4:=h3.grow he4
  refine sun7_spec (by omega) hn (hk3.ext he4 fun _ h _=>h) h4.dl (Ints.ext (hvs 0 (by omega)) he4) (by omega) (get 0 (by omega)) fun w5 cs5 st5 r zs he5 hk5 hz5 hsn5 ho5=>?_
  simp only[push_cast,true_and]
  exact h4.res he5 hk5 hz5 fun w6 e6 hk6 hz6=>hK w6 cs5 st5 r zs e6 hk6 hz6 hsn5 (fin ho5)
 have hop3:3≤t.op:=Classical.byContradiction fun h=>by have:=(q1 (by omega) (by omega)).1;omega
 rw[if_neg (by omega)] at fin
 try simp(disch:=first|(simp only[push_cast];done)|omega) only[push_cast,hB3.ld0]
 refine zg (fun c15=>?_) (fun c15=>?_)
 ·rw[if_pos (by omega)] at fin
  obtain⟨k1,l0,l1,l4⟩:=q4 (by omega) (by omega)
  have l0':(rs.getD 0 []).length=(rs.getD 1 []).length:=l0
  have l1':1≤(rs.getD 0 []).length:=l1
  have l4':(rs.getD 0 []).length≤4:=l4
  refine zt fun w4 he4 _=>?_
  have hB4:=hB3.ext he4
  have A0:∀K:Value→World→Prop,zl PP ye kv (.int .i64 0) w4 K=K (.pointer (some (eaddr kv 1 0))) w4:=fun K=>(hA w4 he4 0 (by omega) K).1
  have B0:∀K:Value→World→Prop,ze PP zh (.pointer (some (eaddr kv 1 0))) w4 K=K (vs'.getD 0 undef) w4:=fun K=>(hA w4 he4 0 (by omega) K).2
  have A1:∀K:Value→World→Prop,zl PP ye kv (.int .i64 1) w4 K=K (.pointer (some (eaddr kv 1 1))) w4:=fun K=>(hA w4 he4 1 (by omega) K).1
  have B1:∀K:Value→World→Prop,ze PP zh (.pointer (some (eaddr kv 1 1))) w4 K=K (vs'.getD 1 undef) w4:=fun K=>(hA w4 he4 1 (by omega) K).2
  simp(disch:=first|(simp only[push_cast];done)|omega) only[push_cast,hld3 w4 he4,A0,B0,A1,B1,hB4.ld0,true_and]
  have h4:=h3.grow he4
  refine scmp7_spec (by omega) (by omega) hn (hk3.ext he4 fun _ h _=>h) h4.dl (Ints.ext (hvs 0 (by omega)) he4) (Ints.ext (hvs 1 (by omega)) he4) l0' l1' (by omega) (get 0 (by omega)) (get 1 (by omega)) fun w5 cs5 st5 r he5 hk5 hr5 ho5=>?_
  simp only[push_cast,true_and]
  refine h4.put he5 hk5 fun w6 h6 hs6 hz6=>?_
  try simp only[push_cast,true_and,and_self]
  obtain⟨c6,hk6,hld6⟩:=h6.call
  simp only[hld6 w6 (Same.refl _ _)]
  refine spec_one fun w7 rv he7 ho7 hn7=>?_
  exact h6.res he7 (hk6.ext he7 fun _ h _=>h) (jO ho7 hn7) fun w8 e8 hk8 hz8=>hK w8 c6 st5 rv [r] e8 hk8 hz8 (SnL.one hr5) (fin (M.Bd.Out.map _ ho5))
 rw[if_neg (by omega)] at fin
 have hlr:t.ks.length=2∧(t.op≠14→(rs.getD 0 []).length=(rs.getD 1 []).length)∧1≤(rs.getD 0 []).length∧(rs.getD 0 []).length≤8∧(rs.getD 1 []).length≤8:=by
  by_cases c:t.op=14
  ·obtain⟨a1,a2,a3,a4⟩:=q3 c
   exact⟨a1,fun h=>absurd c h,a2,by omega,by omega⟩
  ·obtain⟨a1,a2,a3,a4⟩:=q2 (by omega) (by omega)
   exact⟨a1,fun _=>a2,a3,by omega,by omega⟩
 obtain⟨k1,l0,l1,l2,l3⟩:=hlr
 refine zt fun w4 he4 _=>?_
 have hB4:=hB3.ext he4
 have A0:∀K:Value→World→Prop,zl PP ye kv (.int .i64 0) w4 K=K (.pointer (some (eaddr kv 1 0))) w4:=fun K=>(hA w4 he4 0 (by omega) K).1
 have B0:∀K:Value→World→Prop,ze PP zh (.pointer (some (eaddr kv 1 0))) w4 K=K (vs'.getD 0 undef) w4:=fun K=>(hA w4 he4 0 (by omega) K).2
 have A1:∀K:Value→World→Prop,zl PP ye kv (.int .i64 1) w4 K=K (.pointer (some (eaddr kv 1 1))) w4:=fun K=>(hA w4 he4 1 (by omega) K).1
 have B1:∀K:Value→World→Prop,ze PP zh (.pointer (some (eaddr kv 1 1))) w4 K=K (vs'.getD 1 undef) w4:=fun K=>(hA w4 he4 1 (by omega) K).2
 simp(disch:=first|(simp only[push_cast];done)|omega) only[push_cast,hld3 w4 he4,A0,B0,A1,B1,hB4.ld0,true_and]
 have h4:=h3.grow he4
 refine sbin7_spec hop3 (by omega) hn (hk3.ext he4 fun _ h _=>h) h4.dl (Ints.ext (hvs 0 (by omega)) he4) (Ints.ext (hvs 1 (by omega)) he4) l0 l1 l2 l3 (get 0 (by omega)) (get 1 (by omega)) fun w5 cs5 st5 r zs he5 hk5 hz5 hsn5 ho5=>?_
 simp only[push_cast,true_and]
 exact h4.res he5 hk5 hz5 fun w6 e6 hk6 hz6=>hK w6 cs5 st5 r zs e6 hk6 hz6 hsn5 (fin ho5)
end Go.Proofs.YtaekfnbnhjgboaaGreatDoor
end
section
namespace Go.Proofs.YtaekfnbnhjgboaaGreatDoor
open Go Go.Vc Go.Proofs
variable {w:World} {K:Value→World→Prop} {D F Fx Fy Y S O O':Nat→Prop} {n b4 b8:Nat} {gs gs':M.Gs} {v v' nv xv yv sv dv tv kv:Value} {cs cs' ts:List Value} {st st':Option M.Gs} {a b c m x y r:Int} {xs ys:List Int} {ds:List M.Dcl} {t:M.Tm} {rs:List (List Int)}
theorem bits_nat (hd:M.declOk ds=true):M.bits ds=(((M.bits ds).toNat:Nat):Int)∧(M.bits ds).toNat≤8:=by
 have h8:=(M.decl_iff.1 hd).2.2
 have h0:=(dcl_small hd (i:=ds.length) (Nat.le_refl _)).1
 rw[M.bitT_all] at h0
 exact⟨by omega,by omega⟩
theorem xU0 {zs:List Int} (ht:M.tsort ds t≠ -1) (ho:M.Bd.Out (M.bits ds).toNat (M.termB ds t) (some []) st zs):toldR (M.bits ds).toNat st zs=blastR ds t:=by
 unfold blastR
 rw[if_neg ht]
 rcases ho with⟨gs,h1,rfl⟩|⟨h1,rfl,_⟩
 ·rw[h1];rfl
 ·rw[h1];rfl
theorem out_lens {zs:List Int} (hd:M.declOk ds=true) (hs:M.sortM ds t≠ -1) (ho:M.Bd.Out n (M.termB ds t) st st' zs):zs.length=M.lenS (M.sortM ds t)∧zs.length≤4:=by
 have h1:=M.term_len hd t hs ho.reach
 have h2:=M.sort_range hd t
 refine⟨h1,?_⟩
 rw[h1];unfold M.lenS;omega
theorem spec_Blast_spec (hsz:kr0 ds) (hdv:DclsR Fx w dv ds) (ht:TermR Fy w tv t)
  (hK:∀w' gv lv,Ext w w'→OwnG w' gv (blastR ds t).2.1→OwnI PP zh w' lv (blastR ds t).2.2→(∀b,gv.ownBlock=some b→w.heap.size≤b)→(∀b,lv.ownBlock=some b→w.heap.size≤b∧gv.ownBlock≠some b)→K (.tuple #[.agg ⟨[.int .i64 (blastR ds t).1,gv]⟩,lv]) w'):
  vcall PP Xw #[dv,tv] w K:=by
 apply yZ0;unfold W6
 obtain⟨cs,rfl,hcs⟩:=ht.cells
 refine zx fun b1 w1 hb1 he1 hz1 hB1=>?_
 refine zD xE fun b2 w2 hb2 he2 hz2 hB2=>?_
 have e2:=he1.trans he2
 have hB12:=hB1.ext he2
 have hld:∀w':World,Blk w' b1 cs z7→∀K:Value→World→Prop,ze PP z7 (.pointer (some ⟨b1,0,none⟩)) w' K=K (.agg ⟨cs⟩) w':=fun w' h K=>h.ldAgg (t:=z7) (by rw[xG hcs];exact zJ)
 rw[hld w2 hB12]
 refine spec_TermSort_spec hsz (hdv.ext e2) (hcs.ext e2).term fun w3 he3=>?_
 have e3:=e2.trans he3
 have hB13:=hB12.ext he3
 have hB23:=hB2.ext he3
 have z1:=he1.size;have z2:=he2.size;have z3:=he3.size
 simp only[push_cast]
 have hge: -1≤M.tsort ds t:=by
  unfold M.tsort;split
  ·next h=>exact(M.sort_range h.2 t).1
  ·exact Int.le_refl _
 refine zg (fun c=>?_) (fun c=>?_)
 ·have c':M.tsort ds t= -1:=by omega
  unfold blastR at hK
  rw[if_pos c'] at hK
  rw[yh0]
  refine spec_nil fun v4 w4 ho4 e4 hn4=>?_
  refine net_out (hB23.ext e4) rfl rfl net_one fun w5 hs5=>?_
  have s4:=e4.size
  exact hK w5 _ v4 (Ext.then (e3.trans e4) hs5 fun b hb=>by omega) OwnG.nil (ho4.same hs5 fun b hb e=>by have:=hn4 b hb;omega) (fun b hb=>by cases hb) fun b hb=>⟨by have:=hn4 b hb;omega,fun h=>by cases h⟩
 ·have c':M.tsort ds t≠ -1:=by omega
  obtain⟨hfit,hd,hs,h20⟩:=zo0 c'
  obtain⟨hbn,hb8⟩:=bits_nat hd
  refine zt fun w4 he4 _=>?_
  have hB14:=hB13.ext he4
  simp only[push_cast,hld w4 hB14,true_and]
  refine sbits8_spec (k:=ds.length) hd (Nat.le_refl _) (by rw[List.take_length];exact hdv.ext (e3.trans he4)) fun w5 he5=>?_
  rw[M.bitT_all,hbn]
  have hB15:=hB14.ext he5
  have e5:=(e3.trans he4).trans he5
  simp only[push_cast,hld w5 hB15,true_and,and_self,jg0,Za0]
  refine sdo8_spec hd hb8 t hs (D:=fun _=>False) (st:=some []) ⟨none,0,0,rfl,GatesR.nil,by simp⟩ (fun b hb=>hb.elim) (hdv.ext e5) (hcs.ext e5).term fun w6 cs6 st6 r zs he6 hk6 hz6 hsn6 ho6=>?_
  simp only[push_cast,true_and]
  have hzl:=out_lens hd hs ho6
  refine told7_spec hk6 hz6 (by omega) fun w7 o c7 lv he7 hog hol hno hnl=>?_
  rw[xU0 c' ho6] at hog hol hno hnl⊢
  simp only[push_cast,true_and]
  have z4:=he4.size;have z5:=he5.size;have z6:=he6.size
  have hB27:=(((hB23.ext he4).ext he5).ext he6).ext he7
  refine net_out hB27 rfl rfl net_one fun w8 hs8=>?_
  refine hK w8 _ lv (Ext.then (e5.trans (he6.trans he7)) hs8 fun b hb=>by omega) (Own.same hog hs8 fun b hb e=>by have:=hno b hb;omega) (hol.same hs8 fun b hb e=>by have:=(hnl b hb).1;omega) (fun b hb=>by have:=hno b hb;omega) fun b hb=>⟨by have:=(hnl b hb).1;omega,(hnl b hb).2⟩
end Go.Proofs.YtaekfnbnhjgboaaGreatDoor
end
section
namespace Go.M
open Go.Vc
mutual
def sameT:Tm→Tm→Bool
 | .mk o a b s ks,.mk o' a' b' s' ks'=>decide (o=o')&&decide (a=a')&&decide (b=b')&&decide (s=s')&&sameL ks ks'
def sameL:List Tm→List Tm→Bool
 |[],[]=>true
 |x::xs,y::ys=>sameT x y&&sameL xs ys
 |[],_::_=>false
 |_::_,[]=>false
end
theorem jS0 {xs:List Tm} (ih:∀k,k∈xs→∀y,sameT k y=true↔k=y):∀ys,sameL xs ys=true↔xs=ys:=by
 induction xs with
 |nil=>intro ys;cases ys<;>simp[sameL]
 |cons x xs ihx=>
  intro ys
  cases ys with
  |nil=>simp[sameL]
  |cons y ys=>
   rw[sameL,Bool.and_eq_true,ih x List.mem_cons_self,ihx (fun k hk=>ih k (List.mem_cons_of_mem _ hk)),List.cons.injEq]
theorem sameT_iff:∀t u:Tm,sameT t u=true↔t=u:=by
 refine Tm.ind fun t ih u=>?_
 cases t with
 |mk o a b s ks=>
  cases u with
  |mk o' a' b' s' ks'=>
   rw[sameT,Bool.and_eq_true,jS0 (xs:=ks) ih]
   simp only[Bool.and_eq_true,decide_eq_true_eq,Tm.mk.injEq,and_assoc]
instance:DecidableEq Tm:=fun t u=>decidable_of_iff _ (sameT_iff t u)
theorem tm_ext {t u:Tm} (h1:t.op=u.op) (h2:t.a=u.a) (h3:t.b=u.b) (h4:t.s=u.s) (h5:t.ks=u.ks):t=u:=by
 cases t;cases u
 simp only[Tm.op,Tm.a,Tm.b,Tm.s,Tm.ks] at h1 h2 h3 h4 h5
 rw[h1,h2,h3,h4,h5]
def truT:Tm:= .mk 24 0 0 nada []
def flsT:Tm:= .mk 25 0 0 nada [truT]
def fixedM (t:Tm):Option Int:=if t=truT then some 1 else if t=flsT then some 0 else if t.op=20∧t.ks=[]∧t.s=nada∧vok t.a t.b=true then some t.b else none
section
variable {ds:List Dcl} {env:List Int} {t u:Tm} {w n:Int}
theorem xl0 (h:fixedM t=some n):(t=truT∧n=1)∨(t=flsT∧n=0)∨(t.op=20∧t.ks=[]∧t.s=nada∧vok t.a t.b=true∧n=t.b):=by
 unfold fixedM at h
 split at h
 ·exact .inl ⟨by assumption,(Option.some.inj h).symm⟩
 split at h
 ·exact .inr (.inl ⟨by assumption,(Option.some.inj h).symm⟩)
 split at h
 ·rename_i hv
  exact .inr (.inr ⟨hv.1,hv.2.1,hv.2.2.1,hv.2.2.2,(Option.some.inj h).symm⟩)
 ·cases h
def binT (w n:Nat):Prop:=
 (binN 3 w n n=n∧binN 4 w n n=n∧binN 5 w n n=0∧binN 7 w n n=0)∧
 (binN 4 w n 0=n∧binN 5 w n 0=n∧binN 6 w n 0=n∧binN 7 w n 0=n∧binN 11 w n 0=n∧binN 12 w n 0=n∧binN 13 w n 0=n)∧
 (binN 3 w n 0=0∧binN 8 w n 0=0∧binN 8 w n 1=n)∧
 (binN 4 w 0 n=n∧binN 5 w 0 n=n∧binN 6 w 0 n=n∧binN 3 w 0 n=0∧binN 8 w 0 n=0∧binN 8 w 1 n=n)
instance (w n:Nat):Decidable (binT w n):=by unfold binT;infer_instance
end
end Go.M
end
section
namespace Go.Proofs.YtaekfnbnhjgboaaGreatDoor
open Go Go.Vc Go.Proofs
variable {w:World} {K:Value→World→Prop} {F F' D G:Nat→Prop}
theorem TermSame_spec:∀(t:M.Tm) {w:World} {K:Value→World→Prop} {F G:Nat→Prop} {va vb:Value} {u:M.Tm},TermR F w va t→TermR G w vb u→(∀w',Ext w w'→K (.bool (decide (t=u))) w')→vcall PP qC #[va,vb] w K:=by
 refine M.Tm.ind fun t ih w K F G va vb u ha hb hK=>?_
 apply Ub;unfold Q1
 obtain⟨kva,rfl,hka⟩:=ha
 obtain⟨kvb,rfl,hkb⟩:=hb
 refine zx fun b1 w1 hb1 he1 hs1 h1=>?_
 refine zx fun b2 w2 hb2 he2 hs2 h2=>?_
 have q1:=h1.ext he2
 have hE:=he1.trans he2
 have no:∀w',Ext w w'→t≠u→K (.bool false) w':=fun w' h hn=>by
  have:=hK w' h
  rwa[decide_eq_false hn] at this
 simp(disch:=(simp only[push_cast];done)) only[push_cast,q1.ld0,h2.ld0,q1.ld1,h2.ld1,q1.ld2,h2.ld2,q1.ld3,h2.ld3,q1.ld4,h2.ld4]
 refine zg (fun e1=>?_) (fun e=>no _ hE fun h=>e (by rw[h]))
 refine zg (fun e2=>?_) (fun e=>no _ hE fun h=>e (by rw[h]))
 refine zg (fun e3=>?_) (fun e=>no _ hE fun h=>e (by rw[h]))
 refine zg (fun e4=>?_) (fun e=>no _ hE fun h=>e (by rw[h]))
 apply xk;unfold yo
 have hka2:=hka.ext hE
 have hkb2:=hkb.ext hE
 have hsm:=hka.small
 simp(disch:=(simp only[push_cast];done)) only[push_cast,hka2.len,hkb2.len]
 refine zg (fun e=>no _ hE fun h=>e (by rw[h])) (fun el=>?_)
 have el:t.ks.length=u.ks.length:=by omega
 refine vloop_up t.ks.length (fun i x w'=>x=[.int .i64 i]∧Ext w w'∧∀j,j<i→t.ks.getD j default=u.ks.getD j default) ⟨rfl,hE,fun j hj=>absurd hj (by omega)⟩ ?_
 rintro i _ _ w3 C hi ⟨rfl,he3,hall⟩ hC
 have ha3:=hka.ext he3
 have hb3:=hkb.ext he3
 simp(disch:=first|(simp only[push_cast];done)|omega) only[push_cast,ha3.len]
 refine zg (fun a=>?_) (fun a=>?_)
 ·simp(disch:=first|(simp only[push_cast];done)|omega) only[push_cast,ha3.iaddr]
  refine ha3.load zJ (by omega) fun x hx=>?_
  obtain⟨cx,rfl,hcx⟩:=hx.cells
  refine zD yw fun b4 w4 hb4 he4 hs4 h4=>?_
  refine stTerm h4 rfl ((hcx.weaken (F':=fun b=>b<w3.heap.size) fun b _ h=>h).ext he4) fun w5 hw5 hz5 h5=>?_
  have he5:Ext w3 w5:=Ext.then he4 hw5 fun y hy=>by subst hy;omega
  have hb5:=hb3.ext he5
  simp(disch:=first|(simp only[push_cast];done)|omega) only[push_cast,hb5.iaddr]
  refine hb5.load zJ (by omega) fun y hy=>?_
  obtain⟨cy,rfl,hcy⟩:=hy.cells
  refine zD yw fun b6 w6 hb6 he6 hs6 h6=>?_
  refine stTerm h6 rfl ((hcy.weaken (F':=fun b=>b<w5.heap.size) fun b _ h=>h).ext he6) fun w7 hw7 hz7 h7=>?_
  have he7:Ext w5 w7:=Ext.then he6 hw7 fun y hy=>by subst hy;omega
  rw[(h5.ext he7).ldAgg (t:=z7) (by rw[xG hcx];exact zJ),h7.ldAgg (t:=z7) (by rw[xG hcy];exact zJ)]
  simp only[push_cast,List.append_nil,List.nil_append]
  have hE7:=he3.trans (he5.trans he7)
  refine ih _ (M.getD_mem (by omega) _) (hcx.ext (he5.trans he7)).term (hcy.ext he7).term fun w8 he8=>?_
  simp only[push_cast]
  refine yG (fun b=>?_) (fun b=>?_)
  ·rw[Bool.not_eq_true',decide_eq_false_iff_not] at b
   exact no _ (hE7.trans he8) fun h=>b (by rw[h])
  ·rw[Bool.not_eq_false',decide_eq_true_eq] at b
   rw[inc64' (by omega)]
   refine hC (by omega) _ _ ⟨rfl,hE7.trans he8,fun j hj=>?_⟩
   by_cases e:j<i
   ·exact hall j e
   ·have:j=i:=by omega
    subst this;exact b
 ·have:t=u:=M.tm_ext e1 e2 e3 e4 (List.ext_getElem el fun j h1 h2=>by
   have:=hall j (by omega)
   rwa[List.getD_eq_getElem?_getD,List.getElem?_eq_getElem h1,List.getD_eq_getElem?_getD,List.getElem?_eq_getElem h2] at this)
  have:=hK w3 he3
  rwa[decide_eq_true ‹t=u›] at this
theorem falseTerm_spec (hK:∀w' v,Ext w w'→TermR (fun b=>w.heap.size≤b) w' v M.flsT→K v w'):vcall PP ky #[] w K:=by
 apply Wj;unfold X4
 refine zD yw fun b1 w1 hb1 he1 hs1 h1=>?_
 simp only[push_cast]
 refine q20 (ys0 (o:=24) (F:=fun _=>False)) fun w2 a he2 hs2 k2=>?_
 simp only[push_cast]
 have hn:TmR (fun b=>b≠b1∧w.heap.size≤b) w2 _ M.flsT:=(TmR.of (t:=M.flsT) k2).weaken fun z hz _=>by
  rcases hz with h|h
  ·exact h.elim
  ·exact⟨by omega,by omega⟩
 refine zv0 (h1.ext he2) rfl hn (fun x hx=>hx.1) fun w3 hw3 hz3 ht3=>?_
 exact hK _ _ (Ext.then (he1.trans he2) hw3 fun y hy=>by subst hy;omega) (ht3.weaken fun b hb _=>hb.2)
theorem j30 {t:M.Tm} (h:t.op=20):M.fixedM t=if t.ks=[]∧t.s=M.nada∧M.vok t.a t.b=true then some t.b else none:=by
 unfold M.fixedM
 rw[if_neg (fun e=>by rw[e] at h;exact absurd h (by decide)),if_neg (fun e=>by rw[e] at h;exact absurd h (by decide))]
 by_cases hc:t.ks=[]∧t.s=M.nada∧M.vok t.a t.b=true
 ·rw[if_pos hc,if_pos ⟨h,hc⟩]
 ·rw[if_neg hc,if_neg (fun x=>hc x.2)]
theorem nil_len {ks:List M.Tm}:((ks.length:Int)=0)↔ks=[]:=by
 rw[←List.length_eq_zero_iff];omega
theorem z80 {v:Value} {t:M.Tm} (ht:TermR F w v t) (hK:∀w',Ext w w'→K (.tuple #[.int .i64 ((M.fixedM t).getD 0),.bool (M.fixedM t).isSome]) w'):vcall PP kz #[v] w K:=by
 apply Wl;unfold X6
 have ht':=ht
 obtain⟨kv,rfl,hks⟩:=ht
 refine zx fun b1 w1 hb1 he1 hs1 h1=>?_
 have out:∀w' o,Ext w w'→M.fixedM t=o→K (.tuple #[.int .i64 (o.getD 0),.bool o.isSome]) w':=fun w' o h e=>by rw[←e];exact hK w' h
 have hsz:(M.truT).s=M.nada∧(M.flsT).s=M.nada:=⟨rfl,rfl⟩
 simp(disch:=(simp only[push_cast];done)) only[push_cast,h1.ld3]
 refine zg (fun a=>?_) (fun a=>?_)
 ·refine out w1 none he1 ?_
  have hn:t.s≠M.nada:=a
  unfold M.fixedM
  rw[if_neg (fun e=>hn (by rw[e];rfl)),if_neg (fun e=>hn (by rw[e];rfl)),if_neg (fun e=>hn e.2.2.1)]
 have hs:t.s=M.nada:=by
  by_cases h:t.s=M.nada
  ·exact h
  ·exact absurd h a
 refine zW (fun u w'=> ∃b:Bool,u=[.bool b]∧Ext w1 w'∧(b=true↔t.op=20∧t.ks=[]∧M.vok t.a t.b=true)) (fun C hC=>?_) ?_
 ·simp(disch:=(simp only[push_cast];done)) only[push_cast,h1.ld0]
  refine zg (fun c=>?_) (fun c=>?_)
  ·simp(disch:=(simp only[push_cast];done)) only[push_cast,h1.ld4,hks.len]
   refine zg (fun d=>?_) (fun d=>?_)
   ·try simp(disch:=(simp only[push_cast];done)) only[push_cast,h1.ld1,h1.ld2]
    refine VecOk_spec fun w2 he2=>?_
    exact hC _ _ ⟨_,rfl,he2,⟨fun h=>⟨c,nil_len.1 d,h⟩,fun h=>h.2.2⟩⟩
   ·exact hC _ _ ⟨false,rfl,Same.refl _ _,⟨fun h=>(by cases h),fun h=>absurd (nil_len.2 h.2.1) d⟩⟩
  ·exact hC _ _ ⟨false,rfl,Same.refl _ _,⟨fun h=>(by cases h),fun h=>absurd h.1 c⟩⟩
 rintro u g w2 ⟨b,rfl,he2,hb⟩
 have q2:=h1.ext he2
 have hE2:=he1.trans he2
 simp only[push_cast]
 refine yG (fun c=>?_) (fun c=>?_)
 ·obtain⟨c1,c2,c3⟩:=hb.1 c
  simp(disch:=(simp only[push_cast];done)) only[push_cast,q2.ld2]
  refine out w2 (some t.b) hE2 ?_
  rw[j30 c1,if_pos ⟨c2,hs,c3⟩]
 have hnv: ¬(t.op=20∧t.ks=[]∧t.s=M.nada∧M.vok t.a t.b=true):=fun h=>by
  have:=hb.2 ⟨h.1,h.2.1,h.2.2.2⟩
  rw[c] at this;cases this
 rw[q2.ldAgg (t:=z7) zJ]
 try simp only[push_cast]
 refine TermSame_spec t (ht'.ext hE2) (ys0 (o:=24) (F:=fun _=>False)) fun w3 he3=>?_
 have hE3:=hE2.trans he3
 refine zg (fun d=>?_) (fun d=>?_)
 ·exact out w3 (some 1) hE3 (if_pos d)
 have d': ¬t=M.truT:=d
 refine zt fun w4 he4 _=>?_
 have hE4:=hE3.trans he4
 have q4:=q2.ext (he3.trans he4)
 simp(disch:=(simp only[push_cast];done)) only[push_cast,q4.ld0,true_and]
 refine zg (fun e=>?_) (fun e=>?_)
 ·simp(disch:=(simp only[push_cast];done)) only[push_cast,q4.ldAgg (t:=z7) zJ,true_and]
  refine falseTerm_spec fun w5 fv he5 hf5=>?_
  have q5:=q4.ext he5
  simp(disch:=(simp only[push_cast];done)) only[push_cast,q5.ldAgg (t:=z7) zJ,true_and,and_self]
  refine TermSame_spec t (ht'.ext (hE4.trans he5)) hf5 fun w6 he6=>?_
  have hE6:=hE4.trans (he5.trans he6)
  refine zg (fun f=>?_) (fun f=>?_)
  ·refine out w6 (some 0) hE6 ?_
   unfold M.fixedM
   rw[if_neg d',if_pos f]
  ·refine out w6 none hE6 ?_
   unfold M.fixedM
   rw[if_neg d',if_neg f,if_neg hnv]
 ·refine out w4 none hE4 ?_
  unfold M.fixedM
  rw[if_neg d',if_neg (fun x=>e (by rw[x];rfl)),if_neg hnv]
end Go.Proofs.YtaekfnbnhjgboaaGreatDoor
end
section
namespace Go.M
def allI (n:Nat) (p:Nat→Bool):Bool:=(List.range n).all p
theorem allI_iff {n:Nat} {p:Nat→Bool}:allI n p=true↔ ∀k,k<n→p k=true:=by
 unfold allI;rw[List.all_eq_true];simp only[List.mem_range]
def ZJ0 (m l:Int):Bool:=decide (l≠0∧ -m≤l∧l≤m)
def Wt (m:Int) (xs:List Int):Bool:=allI xs.length fun k=>ZJ0 m (xs.getD k 0)&&(k==0||decide ((xs.getD (k-1) 0).natAbs<(xs.getD k 0).natAbs))
structure Cnf where
 many:Int
 list:List (List Int)
structure Sat where
 put:List Int
 why:List Int
 learned:List (List Int)
 code:Int
def ZT0 (c:Cnf):Bool:=decide (0≤c.many)&&decide (c.many≤700)&&decide (c.list.length≤2500)&&allI c.list.length fun k=>Wt c.many (c.list.getD k [])
def jk (put:List Int) (v:Nat):Nat:=match(List.range put.length).find? (fun i=>(put.getD i 0).natAbs==v) with|some i=>i+1 |none=>0
theorem WP {n i:Nat} {p:Nat→Bool} (hi:i<n) (hp:p i=true) (hl:∀j,j<i→p j=false):(List.range n).find? p=some i:=by
 rw[List.find?_eq_some_iff_append]
 refine⟨hp,List.range i,(List.range' (i+1) (n-(i+1))),?_,fun j hj=>by simp[hl j (List.mem_range.1 hj)]⟩
 rw[List.range_eq_range',List.range_eq_range',show n=i+(n-(i+1)+1) from by omega,←List.range'_append_1,List.range'_succ]
 simp
 omega
theorem xj0 {put:List Int} {v:Nat} (h:jk put v≠0):jk put v≤put.length∧(put.getD (jk put v-1) 0).natAbs=v:=by
 unfold jk at*
 cases hf:(List.range put.length).find? (fun i=>(put.getD i 0).natAbs==v) with
 |none=>rw[hf] at h;exact absurd rfl h
 |some i=>
  have h1:=List.find?_some hf
  have h2:=List.mem_range.1 (List.mem_of_find?_eq_some hf)
  simp only[Nat.add_sub_cancel]
  exact⟨h2,by simpa using h1⟩
def YV (put:List Int):Prop:=(put.map Int.natAbs).Nodup
theorem k90 {put:List Int} {i:Nat} (hi:i<put.length):put.getD i 0∈put:=by
 rw[List.getD_eq_getElem?_getD,List.getElem?_eq_getElem hi];exact List.getElem_mem hi
theorem xZ0 {put:List Int} (hd:YV put) {i:Nat} (hi:i<put.length):jk put (put.getD i 0).natAbs=i+1:=by
 unfold jk
 rw[WP hi (by simp) ?_]
 intro j hj
 have hne:(put.map Int.natAbs)[j]'(by simp;omega)≠(put.map Int.natAbs)[i]'(by simp;omega):=List.pairwise_iff_getElem.1 hd j i _ _ hj
 have hj':j<put.length:=by omega
 simp only[List.getElem_map] at hne
 simp[List.getD_eq_getElem?_getD,hi,hj',hne]
end Go.M
namespace Go.M
theorem WD {put:List Int} {l:Int} (h:l∈put):jk put l.natAbs≠0:=by
 obtain⟨i,hi,rfl⟩:=List.getElem_of_mem h
 intro e
 unfold jk at e
 cases hf:(List.range put.length).find? (fun j=>(put.getD j 0).natAbs==(put[i]).natAbs) with
 |none=>
  rw[List.find?_eq_none] at hf
  have:=hf i (List.mem_range.2 hi)
  simp[List.getD_eq_getElem?_getD,hi] at this
 |some k=>rw[hf] at e;cases e
theorem JY {put:List Int} (hd:YV put) {l:Int}:l∈put↔jk put l.natAbs≠0∧put.getD (jk put l.natAbs-1) 0=l:=by
 constructor
 ·intro h
  refine⟨WD h,?_⟩
  obtain⟨i,hi,rfl⟩:=List.getElem_of_mem h
  have:=xZ0 hd hi
  simp only[List.getD_eq_getElem?_getD,List.getElem?_eq_getElem hi,Option.getD_some] at this⊢
  rw[this];simp[hi]
 ·rintro⟨h1,h2⟩
  rw[←h2]
  have:=(xj0 h1).1
  exact k90 (by omega)
theorem zL0 {put:List Int} (hd:YV put) (n:Nat):YV (put.take n):=by
 unfold YV at*
 rw[List.map_take]
 exact hd.sublist (List.take_sublist _ _)
theorem yC0 {m:Int} {xs:List Int} (h:Wt m xs=true) {x:Int} (hx:x∈xs):x≠0∧ -m≤x∧x≤m:=by
 obtain⟨k,hk,rfl⟩:=List.getElem_of_mem hx
 have:=allI_iff.1 h k hk
 rw[Bool.and_eq_true] at this
 have h1:=this.1
 simp only[ZJ0,decide_eq_true_eq,List.getD_eq_getElem?_getD,List.getElem?_eq_getElem hk,Option.getD_some] at h1
 exact h1
def atM (c:Cnf) (s:Sat) (k:Nat):List Int:=(c.list++s.learned).getD k []
def marksOk (many:Nat) (put:List Int):Prop:=YV put∧∀x,x∈put→x≠0∧x.natAbs≤many
def badM (put:List Int) (k:Nat) (l:Int):Bool:=decide (l≠put.getD k 0)&&(decide (jk put l.natAbs=0)||(decide (l∈put)||decide ((k:Int)≤(jk put l.natAbs:Int)-1)))
def implM (put:List Int) (k:Nat) (cl:List Int):Bool:=decide (put.getD k 0∈cl)&& !((List.range cl.length).any fun i=>badM put k (cl.getD i 0))
def whyOk (c:Cnf) (s:Sat) (k:Nat):Prop:=s.why.getD k 0= -1∨(0≤s.why.getD k 0∧s.why.getD k 0<c.list.length+s.learned.length∧implM s.put k (atM c s (s.why.getD k 0).toNat)=true)
structure satOk (many:Nat) (c:Cnf) (s:Sat):Prop where
 cnf:ZT0 c=true
 few:s.learned.length≤300
 c0:0≤s.code
 c3:s.code≤3
 len:s.put.length=s.why.length
 lrn:∀x,x∈s.learned→Wt c.many x=true
 mks:marksOk many s.put
 why:∀k,k<s.why.length→whyOk c s k
end Go.M
namespace Go.M
theorem xm0 {put:List Int} (hd:YV put) {x y:Int} (hx:x∈put) (hy:y∈put) (h:x.natAbs=y.natAbs):x=y:=by
 have h1:=(JY hd).1 hx
 have h2:=(JY hd).1 hy
 rw[h] at h1
 rw[←h1.2,h2.2]
theorem satOk.lit {many:Nat} {c:Cnf} {s:Sat} (h:satOk many c s) (hcm:c.many=many) {k:Nat} (hk:k<c.list.length+s.learned.length) {l:Int} (hl:l∈atM c s k):l≠0∧l.natAbs≤many:=by
 have hm':atM c s k∈c.list++s.learned:=by
  unfold atM;rw[List.getD_eq_getElem?_getD,List.getElem?_eq_getElem (by rw[List.length_append];omega)];exact List.getElem_mem _
 have hok:∀x,x∈c.list→Wt c.many x=true:=fun x hx=>by
  have hc:=h.cnf
  unfold ZT0 at hc
  rw[Bool.and_eq_true] at hc
  obtain⟨i,hi,rfl⟩:=List.getElem_of_mem hx
  have:=allI_iff.1 hc.2 i hi
  simpa[List.getD_eq_getElem?_getD,hi] using this
 have:=(List.mem_append.1 hm').elim (hok _) (h.lrn _)
 have:=yC0 this hl
 omega
end Go.M
namespace Go.M
def ja0 (put cl:List Int):Prop:=∀l,l∈cl→l∉put∧jk put l.natAbs≠0
def qA0 (put cl:List Int) (x:Int):Prop:=(∀l,l∈cl→l∉put)∧(cl.filter fun l=>decide (jk put l.natAbs=0))=[x]
def FindP (put:List Int) (L:List (List Int)) (k0 u0 x0:Int) (r:Int×Int×Int):Prop:=
 (∃i,i<L.length∧r.1=k0+(i:Nat)∧ja0 put (L.getD i []))∨
  (r.1= -1∧(∀cl,cl∈L→¬ja0 put cl)∧((0≤u0∧r.2=(u0,x0))∨
   (u0<0∧((∃i,i<L.length∧r.2.1=k0+(i:Nat)∧qA0 put (L.getD i []) r.2.2∧∀j,j<i→∀x,¬qA0 put (L.getD j []) x)∨
    (r.2=(u0,x0)∧∀cl,cl∈L→∀x,¬qA0 put cl x)))))
theorem FindP.skip {put cl:List Int} {L:List (List Int)} {k0 u0 x0:Int} {r:Int×Int×Int} (hc: ¬ja0 put cl) (hu:0≤u0∨ ∀x,¬qA0 put cl x) (h:FindP put L (k0+1) u0 x0 r):FindP put (cl::L) k0 u0 x0 r:=by
 rcases h with⟨i,hi,h1,h2⟩|⟨h1,h2,h3⟩
 ·exact .inl ⟨i+1,by simpa using hi,by rw[h1];omega,by simpa using h2⟩
 ·refine .inr ⟨h1,fun c hc'=>(List.mem_cons.1 hc').elim (fun e=>e▸hc) (h2 c),?_⟩
  rcases h3 with h3|⟨h0,h3⟩
  ·exact .inl h3
  have hu:∀x,¬qA0 put cl x:=hu.elim (fun h=>absurd h (by omega)) id
  rcases h3 with⟨i,hi,h4,h5,h6⟩|⟨h4,h5⟩
  ·refine .inr ⟨h0,.inl ⟨i+1,by simpa using hi,by rw[h4];omega,by simpa using h5,fun j hj x=>?_⟩⟩
   cases j with
   |zero=>simpa using hu x
   |succ j=>simpa using h6 j (by omega) x
  ·exact .inr ⟨h0,.inr ⟨h4,fun c hc'=>(List.mem_cons.1 hc').elim (fun e=>e▸hu) (h5 c)⟩⟩
end Go.M
namespace Go.M
theorem marksOk.zero {many:Nat} {put:List Int} (h:marksOk many put):(0:Int)∉put:=fun e=>(h.2 0 e).1 rfl
theorem marksOk.neg {many:Nat} {put:List Int} (h:marksOk many put) {l:Int} (h1:l∈put): -l∉put:=fun h2=>by
 have:=xm0 h.1 h1 h2 (by omega)
 have e:l=0:=by omega
 subst e;exact h.zero h1
theorem marksOk.take {many:Nat} {put:List Int} (h:marksOk many put) (n:Nat):marksOk many (put.take n):=⟨zL0 h.1 n,fun x hx=>h.2 x (List.mem_of_mem_take hx)⟩
theorem marksOk.len {many:Nat} {put:List Int} (h:marksOk many put):put.length≤many:=by
 have:=h.1.length_le_of_subset (l₂:=List.range' 1 many) fun x hx=>by
  obtain⟨y,hy,rfl⟩:=List.mem_map.1 hx
  have:=h.2 y hy
  rw[List.mem_range'_1];omega
 simpa using this
end Go.M
namespace Go.M
end Go.M
namespace Go.M
end Go.M
end
section
namespace Go.M
def litT (v:Nat→Bool) (l:Int):Bool:=if 0<l then v l.natAbs else !v l.natAbs
variable {many:Nat} {c:Cnf} {s:Sat} {v:Nat→Bool}
end Go.M
namespace Go.M
variable {many n:Nat} {c:Cnf} {s:Sat} {cl:List Int} {p:Int}
end Go.M
namespace Go.M
variable {many:Nat} {c:Cnf} {a b v:Nat→Bool}
end Go.M
end
section
namespace Go.M
theorem ZI0 {v:Nat→Bool} {vals:List Bool} {m:Int} (h0:m≠0) (h:v m.natAbs=vals.getD (m.natAbs-1) false):litT v m=litV vals m:=by
 unfold litT litV
 rw[h]
 by_cases hp:0<m
 ·rw[if_pos hp,if_pos hp,show m.natAbs-1=(m-1).toNat by omega]
 ·rw[if_neg hp,if_neg hp,show m.natAbs-1=(-m-1).toNat by omega]
def insV (v:Nat→Bool) (n:Nat):List Bool:=(List.range n).map fun i=>v (i+2)
theorem jW0 {α:Type} {a b:List α} {i:Nat} {d:α} (h:a<+:b) (hi:i<a.length):b.getD i d=a.getD i d:=by
 obtain⟨t,rfl⟩:=h
 rw[List.getD_eq_getElem?_getD,List.getElem?_append_left hi,←List.getD_eq_getElem?_getD]
theorem qz0 {ins:List Bool} {gs:Gs}:(valsG (true::ins) gs).getD 0 false=true:=by
 rw[jW0 (valsG_pre gs (true::ins)) (by simp)];rfl
def Follows (v:Nat→Bool) (n:Nat) (gs:Gs):Prop:=∀k,k<1+n+gs.length→v (k+1)=(valsG (true::insV v n) gs).getD k false
theorem Follows.lit {v:Nat→Bool} {n:Nat} {gs:Gs} (h:Follows v n gs) {m:Int} (hm:has (1+n+gs.length) m):litT v m=litV (valsG (true::insV v n) gs) m:=by
 obtain⟨h0,h1,h2⟩:=hm
 refine ZI0 h0 ?_
 have:=h (m.natAbs-1) (by omega)
 rwa[show m.natAbs-1+1=m.natAbs by omega] at this
end Go.M
end
section
namespace Go.M
variable {ds:List Dcl} {env:List Int}
def numB:List Bool→Int
 |b::bs=>b2i b+2*numB bs
 |[]=>0
theorem num_bits:∀w:Fin 5,∀a:Fin 16,a.1<2^w.1→numB (je0 w a)=(a.1:Int):=by decide+kernel
theorem num_val {w n:Int} (h:inS w n):numB (valB w n)=n:=by
 rcases h with⟨rfl,rfl|rfl⟩|h
 ·decide
 ·decide
 ·obtain⟨h1,h2,h3,h4⟩:=vok_iff.1 h
  have e:((2^w.toNat:Nat):Int)=2^w.toNat:=by simp
  have h16:2^w.toNat≤2^4:=Nat.pow_le_pow_right (by omega) (by omega)
  have:=num_bits ⟨w.toNat,by omega⟩ ⟨n.toNat,by omega⟩ (by show n.toNat<2^w.toNat;omega)
  unfold valB
  rw[if_neg (by omega)]
  simp only at this
  rw[this];omega
theorem kW0 (ins:List Bool) (F:Gs):Rho (litV (valsG (true::ins) F)):=⟨fun m h=>lit_neg _ h,by
 unfold litV
 rw[if_pos (by decide)]
 exact qz0⟩
section
variable {ts:List Tm} {gs:Gs} {rs:List (List Int)}
end
end Go.M
end
section
namespace Go.Proofs.YtaekfnbnhjgboaaGreatDoor
open Go Go.Vc Go.Proofs
variable {w:World} {K:Value→World→Prop} {D F F' G Fx Fy:Nat→Prop} {n:Nat} {gs:M.Gs} {v xv yv dv tv:Value} {xs ys:List Int} {bs:List Bool} {ds:List M.Dcl} {t:M.Tm} {ar ab:Addr}
theorem wpInts_spec {va vb:Value} {a b:List Int} (ha:Ints F w va a) (hb:Ints F' w vb b) (hK:∀w',Ext w w'→K (.bool (decide (a=b))) w'):vcall PP jp #[va,vb] w K:=by
 apply y60;unfold KP
 have hla:a.length≤9223372036854775807:=by obtain⟨_,_,_,h1,h2,_⟩:=ha.shape;simp at h1;omega
 simp(disch:=(simp only[push_cast];done)) only[push_cast,ha.len,hb.len]
 refine zg (fun h=>?_) (fun h=>?_)
 ·have:=hK w (Same.refl _ _)
  rwa[decide_eq_false (fun e=>h (by rw[e]))] at this
 refine vloop_up a.length (fun i u w'=>u=[.int .i64 i]∧Ext w w'∧∀j,j<i→a.getD j 0=b.getD j 0) ⟨rfl,Same.refl _ _,by omega⟩ ?_
 rintro i _ _ w1 C hi ⟨rfl,he,hp⟩ hC
 have ha1:=ha.ext he
 have hb1:=hb.ext he
 simp(disch:=(simp only[push_cast];done)) only[push_cast,ha1.len]
 refine zg (fun h2=>?_) (fun h2=>?_)
 ·refine zt fun w2 he2 _=>?_
  have ha2:=ha1.ext he2
  have hb2:=hb1.ext he2
  simp(disch:=first|(simp only[push_cast];done)|omega) only[push_cast,ha2.iaddr,ha2.load,hb2.iaddr,hb2.load,true_and]
  refine zg (fun h3=>?_) (fun h3=>?_)
  ·have:=hK w2 (he.trans he2)
   rwa[decide_eq_false (fun e=>h3 (by rw[e]))] at this
  ·simp(disch:=omega) only[push_cast,zA]
   refine hC (by omega) _ _ ⟨rfl,he.trans he2,fun j hj=>?_⟩
   by_cases e:j=i
   ·subst e;simpa using h3
   ·exact hp j (by omega)
 ·have:=hK w1 he
  rwa[decide_eq_true (List.ext_getElem (by omega) fun j h1 h2=>by have:=hp j (by omega);simpa[List.getD_eq_getElem?_getD,h1,h2] using this)] at this
theorem DrawBlast_spec {v:Value} {xs:List Nat} (hx:Bytes F w v xs) (hF:∀b,F b→b<w.heap.size)
  (hK:∀w' dv tv ds t,Ext w w'→DclsR (fun x=>w.heap.size≤x) w' dv ds→Dsm ds→TermR (fun x=>w.heap.size≤x) w' tv t→K (.tuple #[dv,tv]) w'):vcall PP kq #[v] w K:=by
 apply Wg;unfold X1
 refine zD yw fun b1 w1 hb1 he1 hs1 h1=>?_
 have hz1:=he1.size
 refine l12Open_spec (hx.ext he1) (fun b hb=>by have:=hF b hb;omega) fun w2 b v' ys he2 hR2 hb2=>?_
 have hz2:=he2.size
 have lb:=hR2.blk.lt
 refine l2Draw_spec (F:=fun x=>F x∧x<w2.heap.size) ⟨hR2.blk,⟨hR2.bytes.1.weaken fun x hx hl=>⟨hx,hl⟩,hR2.bytes.2⟩,fun h=>hR2.apart h.1,hR2.few⟩ (fun x hx=>hx.2) (by omega) fun w3 p3 dv tv ds t hs3 hR3 hp3 hd3 hok ht3=>?_
 have hz3:=hs3.size
 have q3:=(h1.ext he2).same hs3 (by omega)
 obtain⟨cs,rfl,hcs3⟩:=ht3.cells
 simp only[push_cast]
 refine stTerm q3 rfl hcs3 fun w8 hw8 hz8 h8=>?_
 rw[h8.lv (by rw[xG hcs3];exact zJ)]
 have hX:Ext w w8:=by
  have hE:Same (fun x=>w.heap.size≤x) w w8:=(((Same.of_ext he1).trans (Same.of_ext he2)).trans (hs3.mono fun x _ hx=>by subst hx;omega)).trans (hw8.mono fun x _ hx=>by subst hx;omega)
  exact hE.mono fun x hx hh=>by omega
 exact hK w8 dv _ ds t hX ((hd3.same hw8 fun x hx _ e=>by omega).weaken fun x hx _=>by omega) hok ((hcs3.same hw8 fun x hx _ e=>by omega).term.weaken fun x hx _=>by omega)
theorem Errs.ext0 {w':World} (h:Errs (fun _=>False) w ar ab) (he:Ext w w'):Errs (fun _=>False) w' ar ab:=⟨h.room.same he id,h.bits.same he id,id,id⟩
theorem NetLit_spec {m:Int} (hv:Bools F w v bs) (hl:bs.length≤1000) (hm:M.has bs.length m) (hK:K (.bool (M.litV bs m)) w):vcall PP YN #[v,.int .i64 m] w K:=by
 apply yf0;unfold V3
 obtain⟨h0,h1,h2⟩:=hm
 simp(disch:=first|(simp only[push_cast];done)|omega) only[push_cast,hv.len]
 refine sigof_spec (by omega) ?_
 rw[decide_eq_true ⟨h0,h1,h2⟩]
 simp only[push_cast]
 refine node_spec (by omega) ?_
 have ha:M.absI m=(m.natAbs:Int):=by unfold M.absI;split<;>omega
 simp(disch:=omega) only[push_cast,zA,ha]
 rw[show((m.natAbs:Int)-1)=((m.natAbs-1:Nat):Int) by omega]
 rw[hv.iaddr Z60 (by omega) (by omega),Int.toNat_natCast,hv.load ZC0 (by omega)]
 simp only[push_cast]
 unfold M.litV at hK
 by_cases c:0<m
 ·rw[if_pos c,show(m-1).toNat=m.natAbs-1 by omega] at hK
  rw[decide_eq_true (show(m:Int)>0 from c)]
  simpa using hK
 ·rw[if_neg c,show(-m-1).toNat=m.natAbs-1 by omega] at hK
  rw[decide_eq_false (show¬(m:Int)>0 from c)]
  simpa using hK
def numN:List Bool→Nat
 |b::bs=>b.toNat+2*numN bs
 |[]=>0
theorem num_nat:∀bs:List Bool,M.numB bs=(numN bs:Int)
 |[]=>rfl
 |b::bs=>by
  have:=num_nat bs
  simp only[M.numB,numN,this,M.b2i]
  cases b<;>simp
theorem num_snoc:∀(bs:List Bool) (b:Bool),numN (bs++[b])=numN bs+2^bs.length*b.toNat
 |[],b=>by cases b<;>rfl
 |c::bs,b=>by
  rw[List.cons_append]
  simp only[numN,num_snoc bs b,List.length_cons,Nat.pow_succ]
  cases b<;>simp<;>omega
theorem num_lt:∀bs:List Bool,numN bs<2^bs.length
 |[]=>by decide
 |b::bs=>by
  have:=num_lt bs
  have hb:b.toNat≤1:=Bool.toNat_le b
  simp only[numN,List.length_cons,Nat.pow_succ]
  omega
theorem BitsVal_spec (hv:Bools F w v bs) (hx:Ints G w xv xs) (hl:bs.length≤1000) (h4:xs.length≤4) (hh:∀x,x∈xs→M.has bs.length x) (hK:K (.int .i64 (M.numB (xs.map (M.litV bs)))) w):vcall PP Y7 #[v,xv] w K:=by
 apply UX;unfold Jf
 simp(disch:=first|(simp only[push_cast];done)|omega) only[push_cast,hx.len]
 refine zg (fun c=>absurd c (by omega)) (fun _=>?_)
 try simp(disch:=first|(simp only[push_cast];done)|omega) only[push_cast,hx.len]
 refine vloop_up xs.length (fun i u w'=>u=[.int .i64 (numN ((xs.take i).map (M.litV bs)):Nat),.int .i64 i]∧w'=w) ⟨rfl,rfl⟩ ?_
 rintro i _ g w1 C hi ⟨rfl,rfl⟩ hC
 simp only[push_cast]
 refine zg (fun a=>?_) (fun a=>?_)
 ·have hi':i<xs.length:=by omega
  simp(disch:=first|(simp only[push_cast];done)|omega) only[push_cast,hx.iaddr,hx.load]
  refine NetLit_spec hv hl (hh _ (M.getD_mem hi' _)) ?_
  have htk:(xs.take (i+1)).map (M.litV bs)=(xs.take i).map (M.litV bs)++[M.litV bs (xs.getD i 0)]:=by rw[M.take_add hi' 0,List.map_append];rfl
  have hlen:((xs.take i).map (M.litV bs)).length=i:=by rw[List.length_map,List.length_take];omega
  have hsn:=num_snoc ((xs.take i).map (M.litV bs)) (M.litV bs (xs.getD i 0))
  have hlt:=num_lt ((xs.take i).map (M.litV bs))
  rw[←htk,hlen] at hsn
  rw[hlen] at hlt
  generalize hA:numN ((xs.take i).map (M.litV bs))=A at hsn hlt⊢
  have h16:2^i≤2^3:=Nat.pow_le_pow_right (by omega) (by omega)
  refine yG (fun hb=>?_) (fun hb=>?_)
  ·rw[hb] at hsn
   have hsh:∀(K:Value→World→Prop),zq PP .shl zc true (.int .i64 1) (.int .i64 i) w1 K=K (.int .i64 ((2^i:Nat):Int)) w1:=fun K=>by
    rw[zn0 (by omega)]
    rcases(by omega:i=0∨i=1∨i=2∨i=3) with rfl|rfl|rfl|rfl<;>rfl
   rw[hsh,vbin_orI (by omega) (by omega)]
   have hor:A|||2^i=A+2^i:=by
    have:=Nat.two_pow_add_eq_or_of_lt hlt 1
    rw[Nat.mul_one] at this
    rw[Nat.or_comm,←this,Nat.add_comm]
   simp(disch:=omega) only[push_cast,zA]
   refine hC hi' _ _ ⟨?_,rfl⟩
   rw[hsn,hor]
   simp
  ·rw[hb] at hsn
   simp(disch:=omega) only[push_cast,zA]
   refine hC hi' _ _ ⟨?_,rfl⟩
   rw[hsn]
   simp
 ·have hi':i=xs.length:=by omega
  subst hi'
  rw[List.take_length]
  rw[num_nat] at hK
  exact hK
end Go.Proofs.YtaekfnbnhjgboaaGreatDoor
end
section
namespace Go.M
variable {ds:List Dcl} {env:List Int}
def nameT (s:ByteArray):Tm:= .mk 21 0 0 s []
theorem yt0 (hd:declOk ds=true) {i:Nat} (hi:i<ds.length):findD ds (ds.getD i (nada,0)).1=i:=
 findD_of hi rfl fun _ hj=>dcl_apart hd hi hj
theorem name_sort (hd:declOk ds=true) {i:Nat} (hi:i<ds.length):sortM ds (nameT (ds.getD i (nada,0)).1)=(ds.getD i (nada,0)).2:=by
 have hp:plainM (nameT (ds.getD i (nada,0)).1)=true:=rfl
 rw[sort_leaf (formed_iff.2 ⟨rfl,hp⟩) rfl]
 unfold sortK
 show(if findD ds (ds.getD i (nada,0)).1<0 then(-1:Int) else(ds.getD (findD ds (ds.getD i (nada,0)).1).toNat (nada,0)).2)=_
 rw[yt0 hd hi,if_neg (by omega),Int.toNat_natCast]
theorem name_tsort (hd:declOk ds=true) {i:Nat} (hi:i<ds.length):tsort ds (nameT (ds.getD i (nada,0)).1)=(ds.getD i (nada,0)).2:=by
 unfold tsort
 rw[if_pos ⟨by show fits (.mk 21 0 0 _ [])=true;exact fits_iff.2 ⟨by show(1:Nat)≤20;omega,by show(1:Nat)≤7;omega⟩,hd⟩,name_sort hd hi]
theorem name_blast (hd:declOk ds=true) {i n:Nat} (hi:i<ds.length):(termB ds (nameT (ds.getD i (nada,0)).1)).run n []=some ([],nameB ds i):=by
 rw[termB_eq]
 show((Bd.ret []:Bd (List (List Int))).bind (nodeB ds (nameT (ds.getD i (nada,0)).1))).run n []=_
 show(nodeB ds (nameT (ds.getD i (nada,0)).1) []).run n []=_
 unfold nodeB
 show(Bd.ret (nameB ds (findD ds (ds.getD i (nada,0)).1).toNat):Bd (List Int)).run n []=_
 rw[yt0 hd hi,Int.toNat_natCast]
 rfl
theorem nameB_get {i j:Nat} (hj:(j:Int)<(ds.getD i (nada,0)).2):(nameB ds i).getD j 0=2+bits (ds.take i)+(ds.getD i (nada,0)).2-1-j:=by
 unfold nameB
 rw[getD_map (fun(j:Nat)=>2+bits (ds.take i)+(ds.getD i (nada,0)).2-1-(j:Int)) (by rw[List.length_range];omega) 0 0]
 have hr:(List.range ((ds.getD i (nada,0)).2).toNat).getD j 0=j:=by
  rw[List.getD_eq_getElem?_getD,List.getElem?_range (by omega)];rfl
 rw[hr]
theorem j40 {w n:Int}:∀z,z∈fixB w n→z=1∨z= -1:=fun z hz=>by
 unfold fixB at hz
 obtain⟨j,_,rfl⟩:=List.mem_map.1 hz
 split
 ·exact .inl rfl
 ·exact .inr rfl
theorem ZH0 {z:Int} (h:z=1∨z= -1) (bs:List Bool):litV [true] z=litV (true::bs) z:=by
 rcases h with rfl|rfl<;>rfl
theorem fixed_blast {t:Tm} {n:Int} {k:Nat} (hd:declOk ds=true) (h:fixedM t=some n):∃zs,(termB ds t).run k []=some ([],zs)∧(∀z,z∈zs→z=1∨z= -1)∧numB (zs.map (litV [true]))=n:=by
 rcases xl0 h with⟨rfl,rfl⟩|⟨rfl,rfl⟩|⟨h1,h2,h3,h4,h5⟩
 ·exact⟨[1],by rw[termB_eq];rfl,by simp,by decide⟩
 ·exact⟨[-1],by rw[termB_eq];rfl,by simp,by decide⟩
 ·refine⟨fixB t.a t.b,?_,j40,?_⟩
  ·rw[termB_eq,h2]
   show(nodeB ds t []).run k []=_
   unfold nodeB
   rw[if_pos h1];rfl
  ·have hl:(fixB t.a t.b).map (litV [true])=je0 t.a.toNat t.b.toNat:=by
    rw[←ka0 (kW0 [] [])]
    exact List.map_congr_left fun z hz=>ZH0 (j40 z hz) _
   obtain⟨v1,v2,v3,v4⟩:=vok_iff.1 h4
   have:=num_val (w:=t.a) (n:=t.b) (.inr h4)
   unfold valB at this
   rw[if_neg (by omega)] at this
   rw[hl,this,h5]
end Go.M
end
section
namespace Go.Proofs.YtaekfnbnhjgboaaGreatDoor
open Go Go.Vc Go.Proofs
variable {w:World} {K:Value→World→Prop} {D F F' G Fx Fy:Nat→Prop} {n:Nat} {gs:M.Gs} {v xv yv dv tv gv:Value} {xs ys:List Int} {bs:List Bool} {ds:List M.Dcl} {t:M.Tm} {ar ab:Addr}
theorem term_new {cs:List Value} {K:Value→World→Prop} (hc:TmR F w cs t) (hK:∀w' b,w.heap.size≤b→Ext w w'→Blk w' b cs z7→TmR F w' cs t→K (.pointer (some ⟨b,0,none⟩)) w'):
  zY PP z7 w fun t4 w1=>zr PP z7 t4 (.agg ⟨cs⟩) w1 fun _ w2=>K t4 w2:=by
 refine zD yw fun b w1 hb1 he1 hs1 h1=>?_
 have hc1:TmR (fun x=>F x∧x<w.heap.size) w1 cs t:=(hc.weaken fun x hx hl=>⟨hx,hl⟩).ext he1
 refine stTerm h1 rfl hc1 fun w2 hw2 hz2 h2=>?_
 exact hK w2 b (by omega) (Ext.then he1 hw2 fun y hy=>by subst hy;omega) h2 ((hc1.same hw2 fun x hx _ e=>by have:=hx.2;omega).weaken fun x hx _=>hx.1)
theorem net_new {a:Int} {gs:M.Gs} {K:Value→World→Prop} (hg:OwnG w gv gs) (hK:∀w' b,w.heap.size≤b→Ext w w'→Blk w' b [.int .i64 a,gv] zf→OwnG w' gv gs→K (.pointer (some ⟨b,0,none⟩)) w'):
  zY PP zf w fun t4 w1=>zr PP zf t4 (.agg ⟨[.int .i64 a,gv]⟩) w1 fun _ w2=>K t4 w2:=by
 obtain⟨o,c,rfl,_⟩:=(Own.sl hg).shape
 refine zD xE fun b w1 hb1 he1 hs1 h1=>?_
 refine h1.stAgg (cs':=[.int .i64 a,.slice o (gs.map yH).length c]) rfl y5 net_one fun w2 hw2 hz2 h2=>?_
 have he2:Ext w w2:=Ext.then he1 hw2 fun y hy=>by subst hy;omega
 exact hK w2 b (by omega) he2 h2 (Own.ext hg he2)
theorem yA0 {w':World} (hg:OwnG w gv gs):vbi PP .len [zk] zc [gv] w' K=K (.int .i64 gs.length) w':=by
 have h:=Own.sl hg
 simp(disch:=(simp only[push_cast];done)) only[h.len,List.length_map]
theorem blast_name {i:Nat} (hd:M.declOk ds=true) (hi:i<ds.length):blastR ds (M.nameT (ds.getD i (M.nada,0)).1)=((M.bits ds).toNat,[],M.nameB ds i):=by
 have hw:=M.dcl_wide hd hi
 unfold blastR
 rw[M.name_tsort hd hi,if_neg (by omega),M.name_blast hd hi]
theorem one_bool {c:Bool} {K:Value→World→Prop} (hK:∀w' b,b=w.heap.size→Ext w w'→OwnB PP Y8 w' (.slice (some ⟨b,0,none⟩) 1 1) [c]→K (.slice (some ⟨b,0,none⟩) 1 1) w'):vbuildS PP Y8 1 [(0,.bool c)] w K:=
 JR (y:=[.bool c]) kP0 Zs0 kH0 rfl rfl (by decide) fun b w' hb he _ hB=>hK w' b hb he (Blk.own1 (P:=PP) (t:=Y8) (cs:=[.bool c]) (by rw[ki0];exact hB) (Nat.zero_le _) rfl rfl (by omega))
theorem FnBlastMany_spec {v:Value} {xs:List Nat} (hx:Bytes F w v xs) (he0:Errs (fun _=>False) w ar ab) (hK:∀w',Ext w w'→K (.bool true) w'):vcall PP Zx #[v] w K:=by
 apply Kb;unfold ZC
 simp(disch:=(simp only[push_cast];done)) only[push_cast,hx.len]
 refine zg (fun _=>hK w (Same.refl _ _)) (fun _=>?_)
 refine DrawBlast_spec hx.below (fun b hb=>hb) fun w1 dv tv ds t he1 hd hok ht=>?_
 obtain⟨cs,rfl,hcs⟩:=ht.cells
 simp only[push_cast]
 refine term_new (hcs.weaken (F':=fun _=>True) fun _ _ _=>trivial) fun w2 b2 hb2 he2 h2 hc2=>?_
 have hg:aggB PP z7 cs.length=true:=by rw[xG hcs];exact zJ
 have e2:=he1.trans he2
 rw[h2.ldAgg (t:=z7) hg]
 refine Blast_spec (hd.ext he2) hc2.term (he0.ext0 e2) fun w3 gv lv he3 hg3 hl3 _ _=>?_
 simp only[push_cast]
 have hh3:=hl3.ints
 refine net_new hg3 fun w4 b4 hb4 he4 h4 hg4=>?_
 have h24:=h2.ext (he3.trans he4)
 have e24:=he3.trans he4
 rw[h24.ldAgg (t:=z7) hg]
 refine spec_Blast_spec (dsm_sized hok) (hd.ext (he2.trans e24)) (hc2.ext e24).term fun w5 gv5 lv5 he5 hg5 hl5 _ _=>?_
 simp only[push_cast]
 refine net_new hg5 fun w6 b6 hb6 he6 h6 hg6=>?_
 have e46:=he5.trans he6
 have e6:Ext w w6:=(e2.trans e24).trans e46
 have hlA:=hl3.ints.ext (he4.trans e46)
 have hlB:=hl5.ints.ext he6
 refine zW (fun u w'=>u=[]∧Ext w6 w'∧M.declOk ds=true) (fun C hC=>?_) ?_
 ·refine wpInts_spec hlA hlB fun w7 he7=>?_
  rw[decide_eq_true rfl]
  simp only[push_cast,Bool.not_true]
  have e7:=e6.trans he7
  refine spec_DeclOk_spec (hd.ext (he2.trans (e24.trans (e46.trans he7)))) (dsm_sized hok) fun w8 he8=>?_
  simp only[push_cast]
  refine yG (fun c=>?_) (fun c=>?_)
  ·refine wpInts_spec (hlA.ext (he7.trans he8)) (hlB.ext (he7.trans he8)) fun w9 he9=>?_
   rw[decide_eq_true rfl]
   exact hK w9 (e7.trans (he8.trans he9))
  ·exact hC _ _ ⟨rfl,he7.trans he8,by simpa using c⟩
 rintro _ _ w60 ⟨rfl,e60,hdk⟩
 replace e46:=e46.trans e60
 replace e6:=e6.trans e60
 replace hlA:=hlA.ext e60
 clear hlB h6 hg6 e60 he6
 have hd6:=hd.ext (he2.trans (e24.trans e46))
 have h26:=h24.ext e46
 have h46:=h4.ext e46
 have hbk:=bits_nat hdk
 have hd4:=(M.decl_iff.1 hdk).1
 have hg46:OwnG w60 gv (blastR ds t).2.1:=Own.ext hg4 e46
 refine vloop_up ds.length (fun i u w'=>u=[.int .i64 (M.bits (ds.take i)),.int .i64 i]∧Ext w60 w') ⟨rfl,Same.refl _ _⟩ ?_
 rintro i _ _ w7 C hi ⟨rfl,e67⟩ hC
 have hd7:=hd6.ext e67
 simp(disch:=(simp only[push_cast];done)) only[push_cast,hd7.len]
 refine zg (fun a=>?_) (fun a=>?_)
 ·have hil:i<ds.length:=by omega
  have hwd:=M.dcl_wide hdk hil
  have hbl:=M.bits_le hdk hil
  simp(disch:=first|(simp only[push_cast];done)|omega) only[push_cast,hd7.iaddr,hd7.load0,hd7.load1]
  refine Blast_spec hd7 (qU0 21 0 0 _:TmR (fun _=>True) w7 _ _).term (he0.ext0 (e6.trans e67)) fun w8 mv nv he8 hm8 hn8 _ _=>?_
  rw[show(M.Tm.mk 21 0 0 (ds.getD i (M.nada,0)).1 [])=M.nameT (ds.getD i (M.nada,0)).1 from rfl,blast_name hdk hil] at hm8 hn8⊢
  dsimp only at hm8 hn8
  simp only[push_cast]
  refine net_new hm8 fun w9 b9 hb9 he9 h9 hm9=>?_
  have e79:=he8.trans he9
  have hn9:=hn8.ints.ext he9
  have hlen:(M.nameB ds i).length=((ds.getD i (M.nada,0)).2).toNat:=M.nameB_len
  refine vloop_up ((ds.getD i (M.nada,0)).2).toNat (fun j u w'=>u=[.int .i64 j]∧Ext w9 w') ⟨rfl,Same.refl _ _⟩ ?_
  rintro j _ _ w10 C1 hj ⟨rfl,e910⟩ hC1
  have e710:=e79.trans e910
  have hd10:=hd7.ext e710
  simp(disch:=first|(simp only[push_cast];done)|omega) only[push_cast,hd10.iaddr,hd10.load1]
  refine zg (fun c=>?_) (fun c=>?_)
  ·refine zt fun w11 he11 _=>?_
   have hd11:=hd10.ext he11
   have hn11:=(hn9.ext e910).ext he11
   have hget:=M.nameB_get (ds:=ds) (i:=i) (j:=j) c
   simp(disch:=first|(simp only[push_cast];done)|omega) only[push_cast,hn11.iaddr,hn11.load,hd11.iaddr,hd11.load1,hget,true_and,zA]
   refine zg (fun c2=>absurd c2 (by omega)) (fun _=>?_)
   try simp(disch:=omega) only[push_cast,zA,true_and,and_self]
   exact hC1 (by omega) _ _ ⟨rfl,e910.trans he11⟩
  ·simp(disch:=first|(simp only[push_cast];done)|omega) only[push_cast,hd10.iaddr,hd10.load1,(h9.ext e910).ld1,yA0 hm9,(hn9.ext e910).len,hlen,zA,List.length_nil]
   refine zg (fun c2=>absurd c2 (by simp)) (fun _=>?_)
   try simp(disch:=first|(simp only[push_cast];done)|omega) only[push_cast,(hn9.ext e910).len,hlen,hd10.iaddr,hd10.load1,zA]
   refine zg (fun c2=>absurd c2 (by omega)) (fun _=>?_)
   try simp(disch:=omega) only[push_cast,zA]
   have hb1:=M.bitT_succ hil
   unfold M.bitT at hb1
   have:M.bits (ds.take (i+1))=M.bits (ds.take i)+(ds.getD i (M.nada,0)).2:=hb1
   refine hC (by omega) _ _ ⟨?_,e67.trans e710⟩
   rw[this];rfl
 ·have hi':i=ds.length:=by omega
  subst hi'
  rw[List.take_length]
  have h27:=h26.ext e67
  have h47:=h46.ext e67
  have hl7:=hlA.ext e67
  rw[h27.ldAgg (t:=z7) hg]
  refine z80 ((hc2.ext (e24.trans e46)).ext e67).term fun w8 he8=>?_
  simp only[push_cast]
  have h48:=h47.ext he8
  have hl8:=hl7.ext he8
  have e8:=e6.trans (e67.trans he8)
  refine zW (fun u w'=>u=[.bool ((M.fixedM t).isSome&&decide (0<(blastR ds t).2.2.length))]∧w'=w8) (fun C hC=>?_) ?_
  ·refine yG (fun c=>?_) (fun c=>?_)
   ·simp(disch:=(simp only[push_cast];done)) only[push_cast,hl8.len]
    refine hC _ _ ⟨?_,rfl⟩
    rw[c];simp
   ·refine hC _ _ ⟨?_,rfl⟩
    rw[c];simp
  rintro _ _ _ ⟨rfl,rfl⟩
  rename_i w8
  simp only[push_cast]
  refine yG (fun c=>?_) (fun c=>?_)
  ·obtain⟨c1,c2⟩:=Bool.and_eq_true_iff.1 c
   obtain⟨k,hk⟩:=Option.isSome_iff_exists.1 c1
   have c2:=of_decide_eq_true c2
   have hts:M.tsort ds t≠ -1:=fun h=>by
    unfold blastR at c2
    rw[if_pos h] at c2
    simp at c2
   obtain⟨zs,z1,z2,z3⟩:=M.fixed_blast (ds:=ds) (k:=(M.bits ds).toNat) hdk hk
   have hb:blastR ds t=((M.bits ds).toNat,[],zs):=by
    unfold blastR
    rw[if_neg hts,z1]
   rw[hb] at hl8 hg46
   rw[hk]
   simp(disch:=first|(simp only[push_cast];done)|omega) only[push_cast,h48.ld1,yA0 hg46,List.length_nil,Option.getD_some]
   refine zg (fun _=>?_) (fun h=>absurd trivial h)
   refine one_bool fun w9 b9 hb9 he9 ho9=>?_
   have hzl:zs.length≤4:=by
    have h1:=M.term_len hdk t (zo0 hts).2.2.1 (M.Bd.reach_of_run z1)
    have h2:=M.sort_range hdk t
    rw[h1];unfold M.lenS;omega
   refine BitsVal_spec ho9.bools (hl8.ext he9) (by simp) hzl (fun x hx=>?_) ?_
   ·rcases z2 x hx with rfl|rfl
    ·exact⟨by decide,by decide,by decide⟩
    ·exact⟨by decide,by decide,by decide⟩
   ·rw[z3]
    simp only[push_cast]
    rw[decide_eq_true trivial]
    exact hK _ (e8.trans he9)
  ·simp(disch:=first|(simp only[push_cast];done)|omega) only[push_cast,hl8.len]
   refine zg (fun _=>hK _ e8) (fun h=>?_)
   have hts:M.tsort ds t≠ -1:=fun hh=>by
    refine h ?_
    unfold blastR
    rw[if_pos hh];rfl
   have hb:(blastR ds t).1=(M.bits ds).toNat:=by
    unfold blastR
    rw[if_neg hts]
    split
    ·rfl
    ·next hn=>
     refine absurd ?_ h
     unfold blastR
     rw[if_neg hts,hn];rfl
   simp(disch:=first|(simp only[push_cast];done)|omega) only[push_cast,h48.ld0,hb]
   rw[decide_eq_true (show(((M.bits ds).toNat:Nat):Int)=M.bits ds by omega)]
   exact hK _ e8
end Go.Proofs.YtaekfnbnhjgboaaGreatDoor
end
section
namespace Go.Proofs.YtaekfnbnhjgboaaGreatDoor
open Go Go.Vc Go.Proofs
open Go.RowKit
theorem laid_at {l:List (String×DataW Unit)} {W:World} (h:laidMet PP l W):∀k,laidMet PP (l.drop k) W
 |0=>h
 |k+1=>by
  have h':=laid_at h k
  rw[←List.tail_drop]
  cases hd:l.drop k with
  |nil=>rw[hd] at h';exact h'
  |cons x r=>rw[hd] at h';exact h'.tail
theorem yn0: "*" ++ "errors.errorString" = "*errors.errorString" :=by decide
theorem jQ0 (u:TypeId) (h:PP.typeName? 3 u=some "*errors.errorString"):u=xl:=
 typeName_ptr_named (nm:= "errors.errorString") (by rw[yn0];kernel_rfl) (by kernel_rfl) (by decide) u (by rw[yn0];exact h)
def ifaceB (P:Program) (t:TypeId):Bool:=match P.underlying t with
 |some (.interface _)=>true
 |_=>false
theorem k60 {P:Program} {t:TypeId} (h:ifaceB P t=true):∃ms,P.underlying t=some (.interface ms):=by
 unfold ifaceB at h
 split at h
 ·exact⟨_,by assumption⟩
 ·cases h
theorem xV0:∃ms,PP.underlying yJ=some (.interface ms):=k60 (by kernel_rfl)
def fieldB (P:Program) (t u:TypeId):Bool:=match P.underlying t with
 |some (.struct fs)=>match fs.toList with
  |[f]=>decide (f.type=u)&&decide (f.offset=0)
  |_=>false
 |_=>false
theorem kb0 {P:Program} {t u:TypeId} (h:fieldB P t u=true):∃f,P.underlying t=some (.struct #[f])∧f.type=u∧f.offset=0:=by
 unfold fieldB at h
 split at h
 ·rename_i fs hfs
  split at h
  ·rename_i f hf
   simp only[Bool.and_eq_true,decide_eq_true_eq] at h
   refine⟨f,?_,h⟩
   rw[hfs]
   congr 2
   exact Array.toList_inj.1 (by simpa using hf)
  ·cases h
 ·cases h
theorem jR0:PP.underlying xl=some (.pointer 396):=by kernel_rfl
theorem xc0:∃f,PP.underlying 396=some (.struct #[f])∧f.type=zG∧f.offset=0:=kb0 (by kernel_rfl)
theorem xd0:PP.underlying zG=some .string:=by kernel_rfl
theorem Zk0:PP.cellsOf 396=1∧PP.cellsOf zG=1:=⟨by kernel_rfl,by kernel_rfl⟩
theorem qF0 {n:String} {text:List UInt8} {r l:List (String×DataW Unit)} {W:World} {g:Nat} (h:laidMet PP l W) (k:Nat) (hl:l.drop k=(n,.iface "*errors.errorString" (.ptr (.agg [.lit (.string text)])))::r)
  (hg:PP.globalNamed n=some g) (ht:(PP.globals[g]?).map (·.type)=some yJ):∃a,Sent W g a:=by
 have h':=laid_at h k
 rw[hl] at h'
 obtain⟨ms,hi⟩:=xV0
 obtain⟨f,h1,h2,h3⟩:=xc0
 obtain⟨a,s,hv,_⟩:=laid_sentinel h' hg ht hi jQ0 jR0 h1 h2 h3 xd0 Zk0.1 Zk0.2
 exact⟨a,by unfold Sent;simpa using World.var?_cell hg hv 0⟩
theorem vars_len {H:Type} {enc:TypeId×Value→H} {P:Program} {w:World} {sp:Nat→Bool}:∀{ns:List String} {gs:List (DataW H)} {ps:List MemPlace},DataW.TrodVars enc P w sp ns gs ps→gs.length=ns.length
 |[],[],_,_=>rfl
 |[],_::_,_,h=>h.elim
 |_::_,[],_,h=>h.elim
 |_::_,_::_,_,⟨_,_,_,_,_,_,_,_,_,_,hs,_⟩=>by rw[List.length_cons,List.length_cons,vars_len hs]
theorem vlist2 {α:Type} {l:List α} (h:l.length=2):∃a b,l=[a,b]:=by
 match l,h with
 |[a,b],_=>exact⟨a,b,rfl⟩
end Go.Proofs.YtaekfnbnhjgboaaGreatDoor
end
