import Derived.Test.YtaekfnbnhjgboaaGreatDoorWucP6
import Derived.Test.YtaekfnbnhjgboaaGreatDoorWucP2
import Derived.Test.YtaekfnbnhjgboaaGreatDoorWucP3
import Derived.Test.YtaekfnbnhjgboaaGreatDoorWucP4
import Derived.Test.YtaekfnbnhjgboaaGreatDoorWucP5
/- A part of the proof. -/
set_option linter.unusedVariables false
set_option linter.unusedSimpArgs false
set_option linter.unnecessarySimpa false
set_option linter.unusedSectionVars false
section
namespace Go.Proofs.YtaekfnbnhjgboaaGreatDoor
open Go Go.Vc Go.Proofs
variable {w:World} {K:Value→World→Prop} {F F' Fx Fy X:Nat→Prop} {n bc mb bb:Nat} {gs:M.Gs} {v:Value} {ar ab:Addr} {st:Option M.Gs}
theorem choose_spec {c:Int} {xv yv:Value} {xs ys:List Int} (h:BdR n bb ar ab X F w st) (hne:∃gs,st=some gs) (hx:Ints (Off X F) w xv xs) (hy:Ints (Off X F) w yv ys) (hl:xs.length=ys.length) (h8:xs.length≤1000) (hxs:SmL xs) (hys:SmL ys) (hc:Sm c)
  (hK:∀w' F' st' r zs,BdR n bb ar ab X F' w' st'→Mv F w F' w'→Ints (Off X F') w' r zs→SmL zs→M.Bd.Out n (M.eachB (M.muxB c) xs ys) st st' zs→K r w'):
  vcall PP qJ #[.pointer (some ⟨bb,0,none⟩),.int .i64 c,xv,yv] w K:=by
 apply Qk;unfold kJ
 obtain⟨gs,rfl⟩:=hne
 refine kk fun b1 w1 hb1 he1 hz1 hB1=>?_
 replace hB1:Blk w1 b1 [.pointer (some ⟨bb,0,none⟩)] zO:=hB1
 refine kk fun b2 w2 hb2 he2 hz2 hB2=>?_
 replace hB2:Blk w2 b2 [.int .i64 c] zq:=hB2
 have hB12:=hB1.ext he2
 have e2:=he1.trans he2
 have h2:=h.ext e2
 have hx2:Ints (Off X F) w2 xv xs:=hx.ext e2
 have hy2:Ints (Off X F) w2 yv ys:=hy.ext e2
 obtain⟨bc,hB,hC⟩:=h2.blk
 simp only at hB
 simp(disch:=first|(simp only[push_cast];done)|omega) only[push_cast,hB12.ld0,hx2.len,hy2.len,xI XI h2.err.bits.cell]
 rw[decide_eq_false (by omega)]
 refine UL ?_
 simp(disch:=first|(simp only[push_cast];done)|omega) only[push_cast,hB12.ld0,hB.ld1,JY]
 refine each_spec (p:=M.muxB c) h2 hx2 hy2 (by omega) h8 hxs hys ?_ fun w3 F3 st3 r zs h3 hm3 hr3 hz3 ho3=>hK w3 F3 st3 r zs h3 ?_ hr3.ints hz3 ho3
 ·intro w3 F3 st3 x y K3 h3 hm3 hx3 hy3 hK3
  have l1: ¬F b1:=fun hf=>by have:=h.lt _ (.inl hf);omega
  have l2: ¬F b2:=fun hf=>by have:=h.lt _ (.inl hf);omega
  have k1:=hB12.same hm3.same l1
  have k2:=hB2.same hm3.same l2
  refine Xk ?_
  unfold jS
  simp(disch:=first|(simp only[push_cast];done)|omega) only[push_cast,k1.ld0,k2.ld0]
  exact bmux_spec h3 hc hx3 hy3 hK3
 ·exact(Mv.refl.ext e2).trans hm3
theorem KP {p:Int→Int→M.Bd Int} {xs ys:List Int} {i:Nat} (hx:i<xs.length) (hy:i<ys.length):M.eachB p (xs.drop i) (ys.drop i)=(p (xs.getD i 0) (ys.getD i 0)).bind fun s=>(M.eachB p (xs.drop (i+1)) (ys.drop (i+1))).map (s:: ·):=by
 rw[xq hx,xq hy];rfl
theorem Ints.low {v:Value} {xs:List Int} (h:Ints (Off X F) w v xs):Ints (fun b=> ¬F b∧b<w.heap.size) w v xs:=Ints.weaken h fun _ h1 h2=>⟨h1.1,h2⟩
theorem Ints.lowMv {v:Value} {xs:List Int} {B:Nat} {w':World} (h:Ints (fun b=> ¬F b∧b<B) w v xs) (hm:Mv F w F' w'):Ints (fun b=> ¬F' b∧b<B) w' v xs:=by
 have h1:Ints (fun b=>(¬F b∧b<B)∧b<w.heap.size) w v xs:=Ints.weaken h fun _ h1 h2=>⟨h1,h2⟩
 have h2:=Ints.same h1 hm.same fun b hb _=>hb.1.1
 exact Ints.weaken h2 fun b hb _=>⟨hm.off hb.1.1 hb.2,hb.1.2⟩
theorem from_at {up:Bool} {fill:Int} {s:List Int} {b k:Nat} (hk:k<s.length):(0≤(k:Int)+(if up then-(b:Int) else b)→(k:Int)+(if up then-(b:Int) else b)<s.length→M.fromL up fill s b k=s.getD ((k:Int)+(if up then-(b:Int) else b)).toNat 0)∧
  ((k:Int)+(if up then-(b:Int) else b)<0→M.fromL up fill s b k=fill)∧((s.length:Int)≤(k:Int)+(if up then-(b:Int) else b)→M.fromL up fill s b k=fill):=by
 unfold M.fromL
 cases up
 ·simp only[Bool.false_eq_true,if_false]
  refine⟨fun h0 h1=>?_,fun h=>by omega,fun h=>?_⟩
  ·rw[if_pos (by omega),show((k:Int)+b).toNat=k+b by omega]
  ·rw[if_neg (by omega)]
 ·simp only[if_true]
  refine⟨fun h0 h1=>?_,fun h=>?_,fun h=>by omega⟩
  ·rw[if_neg (by omega),show((k:Int)+ -b).toNat=k-b by omega]
  ·rw[if_pos (by omega)]
theorem fill_set {zs:List Int} {m k:Nat} {s:Int} (hz:zs.length=k) (hk:k<m):(zs++List.replicate (m-k) 0).set k s=(zs++[s])++List.replicate (m-(k+1)) 0:=by
 rw[List.set_append_right _ _ (by omega),hz,Nat.sub_self,show m-k=(m-(k+1))+1 by omega,List.replicate_succ,List.set_cons_zero,List.append_assoc]
 rfl
theorem Uo {m k:Nat} {f:Nat→Int} (hk:k<m):((List.range m).map f).getD k 0=f k:=by
 rw[List.getD_eq_getElem?_getD,List.getElem?_map,List.getElem?_range hk];rfl
theorem xw0 {up:Bool} {fill:Int} {i:Nat} {ys s:List Int} {j:Nat} (h:ys.length≤j):M.shiftB up fill (ys.drop j) i s= .ret s:=by
 rw[List.drop_eq_nil_of_le h];rfl
theorem pow_le4 {i:Nat} (h:i<10):2^i≤512∧1≤2^i:=⟨Nat.pow_le_pow_right (by omega) (show i≤9 by omega),Nat.one_le_two_pow⟩
theorem from_sm {up:Bool} {fill:Int} {s:List Int} {b k:Nat} (hf:Sm fill) (hs:SmL s) (hk:k<s.length):Sm (M.fromL up fill s b k):=by
 unfold M.fromL
 repeat' split
 all_goals first|exact hf|exact hs.get (by omega)
theorem shift_spec {xv yv:Value} {xs ys:List Int} {up:Bool} {fill:Int} (h:BdR n bb ar ab X F w st) (hx:Ints (Off X F) w xv xs) (hy:Ints (Off X F) w yv ys) (h8:xs.length≤1000) (hy8:ys.length≤8) (hxs:SmL xs) (hys:SmL ys) (hf:Sm fill)
  (hK:∀w' F' st' r zs,BdR n bb ar ab X F' w' st'→Mv F w F' w'→Ints (Off X F') w' r zs→SmL zs→M.Bd.Out n (M.shiftB up fill ys 0 xs) st st' zs→K r w'):
  vcall PP xE #[.pointer (some ⟨bb,0,none⟩),xv,yv,.bool up,.int .i64 fill] w K:=by
 apply Jg;unfold kY
 simp(disch:=first|(simp only[push_cast];done)|omega) only[push_cast,hy.len]
 refine vloop_up ys.length (fun i u w'=> ∃F1 st1 sv ss,u=[sv,.int .i64 i]∧BdR n bb ar ab X F1 w' st1∧Mv F w F1 w'∧Ints (Off X F1) w' sv ss∧SmL ss∧ss.length=xs.length∧
  ∀st2 rs,M.Bd.Out n (M.shiftB up fill (ys.drop i) i ss) st1 st2 rs→M.Bd.Out n (M.shiftB up fill ys 0 xs) st st2 rs) ⟨F,st,xv,xs,rfl,h,Mv.refl,hx,hxs,rfl,fun _ _ h=>h⟩ ?_
 rintro i _ g w1 C hi ⟨F1,st1,sv,ss,rfl,h1,hm1,hs1,hsm,hsl,hout⟩ hC
 simp only[push_cast]
 refine zh (fun hlt=>?_) (fun hge=>hK w1 F1 st1 sv ss h1 hm1 hs1 hsm (hout st1 ss (by rw[xw0 (by omega)];exact M.Bd.Out.ret _ _)))
 have hi':i<ys.length:=by omega
 have hy1:=Ints.mv hy hm1
 obtain⟨hp1,hp2⟩:=pow_le4 (i:=i) (by omega)
 have hshl:∀K:Value→World→Prop,zo PP .shl zc true (.int .i64 1) (.int .i64 i) w1 K=K (.int .i64 (2^i:Nat)) w1:=fun K=>by
  have:=vbin_shlI (P:=PP) (w:=w1) (K:=K) (c:=true) (t:=zc) (yk:= .i64) (x:=1) (y:=i) (by omega) (by rw[Nat.one_mul];omega)
  rw[Nat.one_mul] at this
  exact this
 simp(disch:=first|(simp only[push_cast];done)|omega) only[push_cast,hy1.iaddr,hy1.load]
 rw[hshl]
 generalize hb:2^i=b at*
 refine zU (fun u w'=>w'=w1∧u=[.int .i64 (if up then-(b:Int) else b)]) ?_ ?_
 ·intro J hJ
  cases up
  ·exact hJ _ _ ⟨rfl,rfl⟩
  ·simp(disch:=omega) only[push_cast,zA,Int.zero_sub]
   exact hJ _ _ ⟨rfl,rfl⟩
 rintro _ _ w2 ⟨hw2,rfl⟩
 rw[hw2]
 simp(disch:=first|(simp only[push_cast];done)|omega) only[push_cast,hs1.len]
 refine vmkS_own (z:= .int .i64 0) (bs:=8) yO xf yr rfl (by omega) (by omega) fun nv w3 hn3 he3 hnn3=>?_
 have hn3:OwnI PP za w3 nv (List.replicate ss.length 0):=by unfold OwnI;rw[List.map_replicate];exact hn3
 have h3:=h1.ext he3
 have hs3:Ints (fun b=> ¬F1 b∧b<w1.heap.size) w3 sv ss:=(Ints.low hs1).ext he3
 have hcc:Sm (ys.getD i 0):=hys.get hi'
 have hnew3:NewI X w1 F1 w3 nv (List.replicate ss.length 0):=NewI.of hn3 hnn3 h1.lt
 have hm3:=hm1.ext he3
 have hz1:=hm1.same.size
 refine vloop_up ss.length (fun k u w'=> ∃F4 st4 zs,u=[.int .i64 k]∧BdR n bb ar ab X F4 w' st4∧Mv F w F4 w'∧Ints (fun b=> ¬F4 b∧b<w1.heap.size) w' sv ss∧NewI X w1 F4 w' nv (zs++List.replicate (ss.length-k) 0)∧SmL zs∧zs.length=k∧
  ∀st2 rs,M.Bd.Out n (M.eachB (M.muxB (ys.getD i 0)) (((List.range ss.length).map (M.fromL up fill ss b)).drop k) (ss.drop k)) st4 st2 rs→M.Bd.Out n (M.eachB (M.muxB (ys.getD i 0)) ((List.range ss.length).map (M.fromL up fill ss b)) ss) st1 st2 (zs++rs))
  ⟨F1,st1,[],rfl,h3,hm3,hs3,by simpa using hnew3,SmL.nil,rfl,fun _ _ h=>h⟩ ?_
 rintro k _ g4 w4 C4 hk ⟨F4,st4,zs,rfl,h4,hm4,hs4,hn4,hz4,hzl,hout4⟩ hC4
 simp only[push_cast]
 refine zh (fun hlt4=>?_) (fun hge4=>?_)
 ·have hk':k<ss.length:=by omega
  have hfs:Sm (M.fromL up fill ss b k):=from_sm hf hsm hk'
  have hnl:(zs++List.replicate (ss.length-k) (0:Int)).length=ss.length:=by rw[List.length_append,List.length_replicate];omega
  have go:∀(C5:Value→World→Prop),(∀w5 F5 st5 s,BdR n bb ar ab X F5 w5 st5→Mv F w F5 w5→Ints (fun b=> ¬F5 b∧b<w1.heap.size) w5 sv ss→NewI X w1 F5 w5 nv (zs++List.replicate (ss.length-k) 0)→Sm s→M.Bd.Out n (M.muxB (ys.getD i 0) (M.fromL up fill ss b k) (ss.getD k 0)) st4 st5 s→C5 (.int .i64 s) w5)→
    vcall PP yD #[.pointer (some ⟨bb,0,none⟩),.int .i64 (ys.getD i 0),.int .i64 (M.fromL up fill ss b k),.int .i64 (ss.getD k 0)] w4 C5:=fun C5 hC5=>
   bmux_spec h4 hcc hfs (hsm.get hk') fun w5 F5 st5 s h5 hm5 hs5 ho5=>hC5 w5 F5 st5 s h5 (hm4.trans hm5) (Ints.lowMv hs4 hm5) (hn4.mv hm5) hs5 ho5
  have fin:∀w5 F5 st5 s,BdR n bb ar ab X F5 w5 st5→Mv F w F5 w5→Ints (fun b=> ¬F5 b∧b<w1.heap.size) w5 sv ss→NewI X w1 F5 w5 nv (zs++List.replicate (ss.length-k) 0)→Sm s→M.Bd.Out n (M.muxB (ys.getD i 0) (M.fromL up fill ss b k) (ss.getD k 0)) st4 st5 s→
    zm PP za nv (.int .i64 k) w5 fun t66 w6=>zp PP zq t66 (.int .i64 s) w6 fun _ w7=>C4 [.int .i64 ((k:Int)+1)] w7:=fun w5 F5 st5 s h5 hm5 hs5 hn5 hsm5 ho5=>by
   have hni:=hn5.own.ints
   rw[hni.iaddr xb (by omega) (by rw[hnl];omega),Int.toNat_natCast]
   refine hn5.own.st yg (by rw[hnl];exact hk') fun w6 ho6 hs6 hz6=>?_
   rw[fill_set hzl hk'] at ho6
   refine hC4 hk' _ _ ⟨F5,st5,zs++[s],by simp,h5.upd h.err hs6 fun b hb=>⟨by have:=(hn5.off b hb).1;omega,(hn5.off b hb).2⟩,hm5.to hs6 fun b hb=> .inr (by have:=(hn5.off b hb).1;omega),Ints.same hs5 hs6 fun x hx _ hxs=>by have:=(hn5.off x hxs).1;omega,⟨ho6,hn5.off,hn5.out⟩,hz4.app (SmL.one hsm5),by simp[hzl],fun st2 rs ho=>?_⟩
   have:=hout4 st2 (s::rs) ?_
   ·simpa using this
   rw[KP (by simpa using hk') hk',Uo hk']
   exact M.Bd.Out.bind ho5 (M.Bd.Out.map _ ho)
  obtain⟨f1,f2,f3⟩:=from_at (up:=up) (fill:=fill) (s:=ss) (b:=b) hk'
  have hd:(if up then-(b:Int) else b)= -(b:Int)∨(if up then-(b:Int) else b)=b:=by cases up<;>simp
  generalize (if up then-(b:Int) else b)=d at f1 f2 f3 hd
  simp(disch:=omega) only[push_cast,zA]
  refine zh (fun h0=>?_) (fun h0=>?_)
  ·refine zh (fun hl=>?_) (fun hl=>?_)
   ·simp(disch:=first|(simp only[push_cast];done)|omega) only[push_cast,hs4.iaddr,hs4.load]
    rw[←f1 (by omega) (by omega)]
    exact go _ fun w5 F5 st5 s h5 hm5 hs5 hn5 hsm5 ho5=>fin w5 F5 st5 s h5 hm5 hs5 hn5 hsm5 ho5
   ·simp(disch:=first|(simp only[push_cast];done)|omega) only[push_cast,hs4.iaddr,hs4.load]
    rw[←f3 (by omega)]
    exact go _ fun w5 F5 st5 s h5 hm5 hs5 hn5 hsm5 ho5=>fin w5 F5 st5 s h5 hm5 hs5 hn5 hsm5 ho5
  ·simp(disch:=first|(simp only[push_cast];done)|omega) only[push_cast,hs4.iaddr,hs4.load]
   rw[←f2 (by omega)]
   exact go _ fun w5 F5 st5 s h5 hm5 hs5 hn5 hsm5 ho5=>fin w5 F5 st5 s h5 hm5 hs5 hn5 hsm5 ho5
 ·rw[show ss.length-k=0 by omega,List.replicate_zero,List.append_nil] at hn4
  have:=hout4 st4 [] (by rw[QK (by simp;omega)];exact M.Bd.Out.ret _ _)
  rw[List.append_nil] at this
  simp(disch:=omega) only[push_cast,zA]
  refine hC hi' _ _ ⟨F4,st4,nv,zs,by simp<;>exact⟨rfl,rfl⟩,h4,hm4,hn4.ints,hz4,by omega,fun st2 rs ho=>hout st2 rs ?_⟩
  rw[xq hi']
  unfold M.shiftB
  rw[hb]
  exact M.Bd.Out.bind this ho
end Go.Proofs.YtaekfnbnhjgboaaGreatDoor
end
section
namespace Go.Proofs.YtaekfnbnhjgboaaGreatDoor
open Go Go.Vc Go.Proofs
variable {w:World} {K:Value→World→Prop} {F F' Fx Fy X Q:Nat→Prop} {n bc mb bb:Nat} {gs:M.Gs} {v:Value} {ar ab:Addr} {st:Option M.Gs}
theorem Ints.mvQ {v:Value} {xs:List Int} {w':World} (h:Ints (fun b=> ¬F b∧Q b) w v xs) (hm:Mv F w F' w'):Ints (fun b=> ¬F' b∧Q b) w' v xs:=by
 have h1:Ints (fun b=>(¬F b∧Q b)∧b<w.heap.size) w v xs:=Ints.weaken h fun _ h1 h2=>⟨h1,h2⟩
 have h2:=Ints.same h1 hm.same fun b hb _=>hb.1.1
 exact Ints.weaken h2 fun b hb _=>⟨hm.off hb.1.1 hb.2,hb.1.2⟩
theorem Ints.offQ {v:Value} {xs:List Int} (h:Ints (fun b=> ¬F b∧Q b∧¬X b) w v xs):Ints (Off X F) w v xs:=Ints.weaken h fun _ h _=>⟨h.1,h.2.2⟩
theorem SmL.set {xs:List Int} (h:SmL xs) {i:Nat} {x:Int} (hx:Sm x):SmL (xs.set i x):=fun y hy=>by
 rcases List.mem_or_eq_of_mem_set hy with h1|h1
 ·exact h y h1
 ·rw[h1];exact hx
theorem under_spec {xv yv:Value} {xs ys:List Int} (h:BdR n bb ar ab X F w st) (hx:Ints (Off X F) w xv xs) (hy:Ints (Off X F) w yv ys) (hl:xs.length=ys.length) (h1:1≤xs.length) (h8:xs.length≤1000) (hxs:SmL xs) (hys:SmL ys)
  (hK:∀w' F' st' r,BdR n bb ar ab X F' w' st'→Mv F w F' w'→Sm r→M.Bd.Out n (M.lessB (M.swapT xs ys) (M.swapT ys xs) (-1)) st st' r→K (.int .i64 r) w'):
  vcall PP j1 #[.pointer (some ⟨bb,0,none⟩),xv,yv] w K:=by
 apply Jf;unfold kX
 simp(disch:=first|(simp only[push_cast];done)|omega) only[push_cast,hx.len,zA]
 refine Clone_signal hx (by omega) fun w1 av he1 ha1 hna=>?_
 refine Clone_signal (hy.ext he1) (by omega) fun w2 cv he2 hc2 hnc=>?_
 refine zu fun w3 he3 _=>?_
 have e3:=he1.trans (he2.trans he3)
 have ha3:=ha1.ext (he2.trans he3)
 have hc3:=hc2.ext he3
 have hai:=ha3.ints
 have hci:=hc3.ints
 have hac:∀b,av.ownBlock=some b→cv.ownBlock≠some b:=fun b hb hc=>by have:=ha1.lt hb;have:=hnc b hc;omega
 simp(disch:=first|(simp only[push_cast];done)|omega) only[push_cast,hai.iaddr,hai.load,hci.iaddr,hci.load,true_and]
 rw[show((xs.length:Int)-1).toNat=xs.length-1 by omega]
 refine ha3.st yg (by omega) fun w4 ha4 hs4 hz4=>?_
 have hc4:=hc3.same hs4 fun b hb hx=>hac b hx hb
 have hci4:=hc4.ints
 refine hc4.st yg (by omega) fun w5 hc5 hs5 hz5=>?_
 have ha5:=ha4.same hs5 fun b hb hx=>hac b hb hx
 have hw:=e3.size
 have hw1:=he1.size
 have hF:∀b,(av.ownBlock=some b∨cv.ownBlock=some b)→w.heap.size≤b∧¬F b:=fun b hb=>by
  have hge:w.heap.size≤b:=hb.elim (hna b) fun hb=>by have:=hnc b hb;omega
  exact⟨hge,fun hf=>by have:=h.lt b (.inl hf);omega⟩
 have h5:BdR n bb ar ab X F w5 st:=((h.ext e3).upd h.err hs4 fun b hb=>hF b (.inl hb)).upd h.err hs5 fun b hb=>hF b (.inr hb)
 have hF2:∀b,(av.ownBlock=some b∨cv.ownBlock=some b)→Off X F b:=fun b hb=>⟨(hF b hb).2,fun hf=>by have:=(hF b hb).1;have:=h.lt b (.inr hf);omega⟩
 have hm5:Mv F w F w5:=((Mv.refl.ext e3).to hs4 fun b hb=> .inr (hF b (.inl hb)).1).to hs5 fun b hb=> .inr (hF b (.inr hb)).1
 have hA:Ints (Off X F) w5 av (M.swapT xs ys):=Ints.weaken ha5.ints fun b hb _=>hF2 b (.inl hb)
 have hC:Ints (Off X F) w5 cv (M.swapT ys xs):=by
  have:=Ints.weaken hc5.ints fun b hb _=>hF2 b (.inr hb)
  unfold M.swapT;rw[hl] at this;exact this
 refine bless_spec h5 hA hC (by unfold M.swapT;simp;omega) (by unfold M.swapT;simp;omega) ?_ ?_ fun w6 F6 st6 r h6 hm6 hr6 ho6=>hK w6 F6 st6 r h6 (hm5.trans hm6) hr6 ho6
 ·exact hxs.set (hys.get (by omega))
 ·exact hys.set (hxs.get (by omega))
theorem KD {xs:List Int} {m k:Nat} (h:k<m):(xs.take m).getD k 0=xs.getD k 0:=M.take_getD h
theorem j40 {xs wide r q:List Int} {m:Nat} {l:Int} {u r':List Int} {st st1 st2 st3 st4:Option M.Gs} {res:List Int×List Int} (h1:M.Bd.Out n (M.lessB (xs.getD m 0::r) wide (-1)) st st1 l) (h2:M.Bd.Out n (M.sumB (xs.getD m 0::r) (M.negL wide) 1) st1 st2 u)
  (h3:M.Bd.Out n (M.eachB (M.muxB l) ((xs.getD m 0::r).take xs.length) (u.take xs.length)) st2 st3 r') (h4:M.Bd.Out n (M.divB xs wide m r' (q.set m (-l))) st3 st4 res):M.Bd.Out n (M.divB xs wide (m+1) r q) st st4 res:=by
 unfold M.divB
 exact M.Bd.Out.bind h1 (M.Bd.Out.bind h2 (M.Bd.Out.bind h3 h4))
theorem divide_spec {xv yv:Value} {xs ys:List Int} (h:BdR n bb ar ab X F w st) (hx:Ints (Off X F) w xv xs) (hy:Ints (Off X F) w yv ys) (hl:xs.length=ys.length) (h8:xs.length≤900) (hxs:SmL xs) (hys:SmL ys)
  (hK:∀w' F' st' qv rv q r,BdR n bb ar ab X F' w' st'→Mv F w F' w'→Ints (Off X F') w' qv q→Ints (Off X F') w' rv r→SmL q→SmL r→M.Bd.Out n (M.divB xs (ys++[-1]) xs.length (M.offsL xs.length) (M.offsL xs.length)) st st' (q,r)→K (.tuple #[qv,rv]) w'):
  vcall PP xS #[.pointer (some ⟨bb,0,none⟩),xv,yv] w K:=by
 apply Qj;unfold kI
 simp(disch:=first|(simp only[push_cast];done)|omega) only[push_cast,hx.len]
 refine offs_spec (by omega) fun w1 rv0 he1 hr1 hnr=>?_
 refine offs_spec (by omega) fun w2 qv he2 hq2 hnq=>?_
 have e2:=he1.trans he2
 refine Clone_signal (hy.ext e2) (by omega) fun w3 wv0 he3 hw3 hnw=>?_
 refine yb yN yg yr rfl rfl fun b4 w4 hb4 he4 hz4 hB4=>?_
 refine(hw3.ext he4).app1 yO hB4 (by omega) (by omega) fun wv w5 hw5 hs5 hn5=>?_
 have z1:=he1.size;have z2:=he2.size;have z3:=he3.size
 have hwn:∀b,wv.ownBlock=some b→w2.heap.size≤b:=fun b hb=>(hn5 b hb).elim (hnw b) fun h=>by omega
 have e4:=e2.trans (he3.trans he4)
 have hF0:∀b,F b→b<w.heap.size:=fun b hb=>h.lt b (.inl hb)
 have hX0:∀b,w.heap.size≤b→¬X b:=fun b hb hx=>by have:=h.lt b (.inr hx);omega
 have e5:Ext w w5:=Ext.then e4 hs5 fun b hb=>by have:=hnw b hb;omega
 have e25:Ext w2 w5:=Ext.then (he3.trans he4) hs5 fun b hb=>hnw b hb
 have h5:=h.ext e5
 have hm5:Mv F w F w5:=Mv.refl.ext e5
 have hq5:=hq2.ext e25
 have hr5:=hr1.ext (he2.trans e25)
 have hqr:∀b,rv0.ownBlock=some b→qv.ownBlock≠some b:=fun b hb hc=>by have:=hr1.lt hb;have:=hnq b hc;omega
 have hqw:∀b,wv.ownBlock=some b→qv.ownBlock≠some b:=fun b hb hc=>by have:=hwn b hb;have:=hq2.lt hc;omega
 have hqx:∀b,qv.ownBlock=some b→w.heap.size≤b:=fun b hb=>by have:=hnq b hb;omega
 have hR:Ints (fun b=> ¬F b∧qv.ownBlock≠some b∧¬X b) w5 rv0 (M.offsL xs.length):=Ints.weaken hr5.ints fun b hb _=>⟨fun hf=>by have:=hF0 b hf;have:=hnr b hb;omega,hqr b hb,hX0 b (hnr b hb)⟩
 have hW:Ints (fun b=> ¬F b∧qv.ownBlock≠some b∧¬X b) w5 wv (ys++[-1]):=Ints.weaken hw5.ints fun b hb _=>⟨fun hf=>by have:=hF0 b hf;have:=hwn b hb;omega,hqw b hb,hX0 b (by have:=hwn b hb;omega)⟩
 have hX:Ints (fun b=> ¬F b∧qv.ownBlock≠some b∧¬X b) w5 xv xs:=by
  have h1:Ints (fun b=>(¬F b∧¬X b)∧b<w.heap.size) w xv xs:=Ints.weaken hx fun _ h1 h2=>⟨h1,h2⟩
  exact Ints.weaken (h1.ext e5) fun b hb _=>⟨hb.1.1,fun hc=>(by have:=hqx b hc;omega),hb.1.2⟩
 have hQ:NewI X w F w5 qv (M.offsL xs.length):=NewI.of hq5 hqx h.lt
 simp(disch:=first|(simp only[push_cast];done)|omega) only[push_cast,zA]
 have hwl:(ys++[(-1:Int)]).length=xs.length+1:=by rw[List.length_append,hl];rfl
 have hws:SmL (ys++[(-1:Int)]):=hys.app (SmL.one (by decide))
 generalize ys++[(-1:Int)]=wide at*
 refine ZP (fun m u w'=> ∃F1 st1 rv r q,u=[rv,.int .i64 ((m:Int)-1)]∧m≤xs.length∧BdR n bb ar ab X F1 w' st1∧Mv F w F1 w'∧Ints (fun b=> ¬F1 b∧qv.ownBlock≠some b∧¬X b) w' rv r∧r.length=xs.length∧SmL r∧NewI X w F1 w' qv q∧q.length=xs.length∧SmL q∧
  Ints (fun b=> ¬F1 b∧qv.ownBlock≠some b∧¬X b) w' wv wide∧Ints (fun b=> ¬F1 b∧qv.ownBlock≠some b∧¬X b) w' xv xs∧
  ∀st2 res,M.Bd.Out n (M.divB xs wide m r q) st1 st2 res→M.Bd.Out n (M.divB xs wide xs.length (M.offsL xs.length) (M.offsL xs.length)) st st2 res) xs.length
  ⟨F,st,rv0,_,_,rfl,Nat.le_refl _,h5,hm5,hR,M.offsL_len _,SmL.offs _,hQ,M.offsL_len _,SmL.offs _,hW,hX,fun _ _ h=>h⟩ ?_
 rintro m _ g w6 C ⟨F6,st6,rv,r,q,rfl,hm,h6,hm6,hr6,hrl,hrs,hq6,hql,hqs,hw6,hx6,hout⟩ hC
 simp only[push_cast]
 refine zh (fun hge=>?_) (fun hlt=>?_)
 ·obtain⟨m,rfl⟩:∃j,m=j+1:=⟨m-1,by omega⟩
  have hmx:m<xs.length:=by omega
  rw[show((m+1:Nat):Int)-1=(m:Int) by omega]
  simp(disch:=first|(simp only[push_cast];done)|omega) only[push_cast,hx6.iaddr,hx6.load]
  refine yb yN yg yr rfl rfl fun b7 w7 hb7 he7 hz7 hB7=>?_
  have ht7:OwnI PP za w7 (.slice (some ⟨b7,0,none⟩) 1 1) [xs.getD m 0]:=Blk.own1 (P:=PP) (t:=za) (cs:=[Value.int .i64 (xs.getD m 0)]) (by rw[xf];exact hB7) (Nat.zero_le _) rfl rfl (by omega)
  refine ht7.app yO (hr6.ext he7) (by simp;omega) (by simp;omega) fun tv w8 ht8 hs8 hn8=>?_
  have l6:=hm6.same.size
  have htn:∀b,tv.ownBlock=some b→w6.heap.size≤b:=fun b hb=>(hn8 b hb).elim (fun h=>by have e:b7=b:=Option.some.inj h;omega) fun h=>by omega
  have e8:Ext w6 w8:=Ext.then he7 hs8 fun b hb=>by have e:b7=b:=Option.some.inj hb;omega
  have h8':=h6.ext e8
  have hT:Ints (fun b=> ¬F6 b∧qv.ownBlock≠some b∧¬X b) w8 tv (xs.getD m 0::r):=Ints.weaken ht8.ints fun b hb _=>⟨fun hf=>by have:=h6.lt b (.inl hf);have:=htn b hb;omega,fun hc=>(by have:=hq6.own.lt hc;have:=htn b hb;omega),hX0 b (by have:=htn b hb;omega)⟩
  have hts:SmL (xs.getD m 0::r):=(SmL.one (hxs.get hmx)).app hrs
  have hmv8:Mv F6 w6 F6 w8:=Mv.refl.ext e8
  refine bless_spec h8' (Ints.offQ hT) (Ints.offQ (Ints.ext hw6 e8)) (by simp;omega) (by simp;omega) hts hws fun w9 F9 st9 l h9 hm9 hl9 ho9=>?_
  have hq9:=(hq6.mv hmv8).mv hm9
  have hqi:=hq9.own.ints
  simp(disch:=first|(simp only[push_cast];done)|omega) only[push_cast,zA,Int.zero_sub,hqi.iaddr]
  refine hq9.own.st yg (by omega) fun w10 hq10 hs10 hz10=>?_
  have h10:BdR n bb ar ab X F9 w10 st9:=h9.upd h.err hs10 fun b hb=>hq9.off b hb
  have hm10:Mv F w F9 w10:=(((hm6.trans hmv8)).trans hm9).to hs10 fun b hb=> .inr (hq9.off b hb).1
  have keep:∀{v:Value} {zs:List Int},Ints (fun b=> ¬F9 b∧qv.ownBlock≠some b∧¬X b) w9 v zs→Ints (fun b=> ¬F9 b∧qv.ownBlock≠some b∧¬X b) w10 v zs:=fun hh=>Ints.same hh hs10 fun b hb _ hx=>hb.2.1 hx
  have hT10:=keep (Ints.mvQ hT hm9)
  have hw10:=keep (Ints.mvQ (Ints.ext hw6 e8) hm9)
  have hx10:=keep (Ints.mvQ (Ints.ext hx6 e8) hm9)
  refine negated_spec hw10 (by omega) hws fun w11 nv he11 hn11 hnn11=>?_
  have h11:=h10.ext he11
  have hN:Ints (Off X F9) w11 nv (M.negL wide):=(NewI.of hn11 hnn11 h10.lt).ints
  refine bsum_spec h11 (Ints.offQ (Ints.ext hT10 he11)) hN (by rw[M.negL_len];simp;omega) (by simp;omega) hts hws.neg (by decide) fun w12 F12 st12 uv us h12 hm12 hu12 hus ho12=>?_
  have hul:us.length=xs.length+1:=by
   have:=M.sum_len ho12.reach
   rw[M.negL_len,hwl,List.length_cons,hrl] at this
   omega
  have l12:=hm12.same.size
  have hm12w:Mv F w F12 w12:=(hm10.ext he11).trans hm12
  have hT12:=Ints.mvQ (Ints.ext hT10 he11) hm12
  have hw12:=Ints.mvQ (Ints.ext hw10 he11) hm12
  have hx12:=Ints.mvQ (Ints.ext hx10 he11) hm12
  have hq12:NewI X w F12 w12 qv (q.set m (-l)):=(NewI.mv (F':=F9) ⟨hq10,hq9.off,hq9.out⟩ (Mv.refl.ext he11)).mv hm12
  have hU12:=hu12.ints
  refine vmkS_own (z:= .int .i64 0) (bs:=8) yO xf yr rfl (by omega) (by omega) fun nv2 w13 hn13 he13 hnn13=>?_
  have hn13:OwnI PP za w13 nv2 (List.replicate xs.length 0):=by unfold OwnI;rw[List.map_replicate];exact hn13
  have h13:=h12.ext he13
  have hnew:NewI X w12 F12 w13 nv2 (List.replicate xs.length 0):=NewI.of hn13 hnn13 h12.lt
  have hni13:=hn13.ints
  have hrepl:(List.replicate xs.length (0:Int)).length=xs.length:=List.length_replicate
  have hlen:∀(w':World) (K:Value→World→Prop),vbi PP .len [za] zc [nv2] w' K=K (.int .i64 xs.length) w':=fun w' K=>by rw[hni13.len xp,hrepl]
  simp only[hlen]
  have htl:(xs.getD m 0::r).length=xs.length+1:=by rw[List.length_cons,hrl]
  generalize ht:xs.getD m 0::r=t at*
  refine vloop_up xs.length (fun k u w'=> ∃F4 st4 zs,u=[.int .i64 k]∧BdR n bb ar ab X F4 w' st4∧Mv F12 w12 F4 w'∧NewI X w12 F4 w' nv2 (zs++List.replicate (xs.length-k) 0)∧SmL zs∧zs.length=k∧
   ∀st2 rs,M.Bd.Out n (M.eachB (M.muxB l) ((t.take xs.length).drop k) ((us.take xs.length).drop k)) st4 st2 rs→M.Bd.Out n (M.eachB (M.muxB l) (t.take xs.length) (us.take xs.length)) st12 st2 (zs++rs))
   ⟨F12,st12,[],rfl,h13,Mv.refl.ext he13,by simpa using hnew,SmL.nil,rfl,fun _ _ h=>h⟩ ?_
  rintro k _ g4 w14 C4 hk ⟨F4,st4,zs,rfl,h4,hm4,hn4,hz4,hzl,hout4⟩ hC4
  simp only[push_cast]
  refine zh (fun hlt4=>?_) (fun hge4=>?_)
  ·have hk':k<xs.length:=by omega
   have hnl:(zs++List.replicate (xs.length-k) (0:Int)).length=xs.length:=by rw[List.length_append,List.length_replicate];omega
   refine zu fun w15 he15 _=>?_
   have h15:=h4.ext he15
   have hm15:=hm4.ext he15
   have hT15:=Ints.mvQ hT12 hm15
   have hU15:=Ints.mv hU12 hm15
   simp(disch:=first|(simp only[push_cast];done)|omega) only[push_cast,hT15.iaddr,hT15.load,hU15.iaddr,hU15.load,true_and]
   refine bmux_spec h15 hl9 (hts.get (by omega)) (hus.get (by omega)) fun w16 F16 st16 s h16 hm16 hs16 ho16=>?_
   have hn16:=(hn4.mv (Mv.refl.ext he15)).mv hm16
   have hni:=hn16.own.ints
   rw[hni.iaddr xb (by omega) (by rw[hnl];omega),Int.toNat_natCast]
   simp only[true_and]
   refine hn16.own.st yg (by rw[hnl];exact hk') fun w17 ho17 hs17 hz17=>?_
   rw[fill_set hzl hk'] at ho17
   try simp(disch:=omega) only[push_cast,zA]
   have hm16':Mv F12 w12 F16 w16:=hm15.trans hm16
   have l16:=hm12w.same.size
   refine hC4 hk' _ _ ⟨F16,st16,zs++[s],by simp,h16.upd h.err hs17 fun b hb=>⟨by have:=(hn16.off b hb).1;omega,(hn16.off b hb).2⟩,hm16'.to hs17 fun b hb=> .inr (hn16.off b hb).1,⟨ho17,hn16.off,hn16.out⟩,hz4.app (SmL.one hs16),by simp[hzl],fun st2 rs ho=>?_⟩
   have:=hout4 st2 (s::rs) ?_
   ·simpa using this
   rw[KP (by rw[List.length_take];omega) (by rw[List.length_take];omega),KD hk',KD hk']
   exact M.Bd.Out.bind ho16 (M.Bd.Out.map _ ho)
  ·rw[show xs.length-k=0 by omega,List.replicate_zero,List.append_nil] at hn4
   have hfin:=hout4 st4 [] (by rw[QK (by rw[List.length_take];omega)];exact M.Bd.Out.ret _ _)
   rw[List.append_nil] at hfin
   try simp(disch:=omega) only[push_cast,zA]
   have l16:=hm12w.same.size
   refine hC m _ _ (by omega) ⟨F4,st4,nv2,zs,q.set m (-l),by simp<;>exact⟨rfl,rfl⟩,by omega,h4,hm12w.trans hm4,Ints.weaken hn4.own.ints fun b hb _=>⟨(hn4.off b hb).2,fun hc=>(by have:=(hn4.off b hb).1;have:=hq12.own.lt hc;omega),hn4.out b hb⟩,by omega,hz4,hq12.mv hm4,by rw[List.length_set];exact hql,hqs.set (by unfold Sm at*;omega),Ints.mvQ hw12 hm4,Ints.mvQ hx12 hm4,fun st2 res ho=>hout st2 res ?_⟩
   subst ht
   exact j40 ho9 ho12 hfin ho
 ·have hm0:m=0:=by omega
  subst hm0
  exact hK w6 F6 st6 qv rv q r h6 hm6 hq6.ints (Ints.offQ hr6) hqs hrs (hout st6 (q,r) (by unfold M.divB;exact M.Bd.Out.ret _ _))
end Go.Proofs.YtaekfnbnhjgboaaGreatDoor
end
section
namespace Go.Proofs.YtaekfnbnhjgboaaGreatDoor
open Go Go.Vc Go.Proofs
variable {w:World} {K:Value→World→Prop} {F F' Fx Fy X Q:Nat→Prop} {n bc mb bb:Nat} {gs:M.Gs} {v:Value} {ar ab:Addr} {st:Option M.Gs}
theorem SmL.take {xs:List Int} (h:SmL xs) (m:Nat):SmL (xs.take m):=fun x hx=>h x (List.mem_of_mem_take hx)
theorem qR0 {s:Int} {xs:List Int} {j:Nat} (h:xs.length≤j):M.rowB s (xs.drop j)= .ret []:=by rw[List.drop_eq_nil_of_le h];rfl
theorem k90 {s:Int} {xs:List Int} {j:Nat} (h:j<xs.length):M.rowB s (xs.drop j)= .and (xs.getD j 0) s fun v=>(M.rowB s (xs.drop (j+1))).map (v:: ·):=by rw[xq h];rfl
theorem qV0 {xs ys s:List Int} {i j:Nat} (h:ys.length≤j):M.mulB xs (ys.drop j) i s= .ret s:=by rw[List.drop_eq_nil_of_le h];rfl
def P2 (l t:Nat) (F:Nat→Prop) (b:Nat):Prop:=F b∨b=l∨b=t
theorem Mv.p2 {w':World} {l t:Nat} (h:Mv F w F' w'):Mv (P2 l t F) w (P2 l t F') w':=
 ⟨h.same.mono fun _ _ h=> .inl h,fun b hb=>hb.elim (fun hb=>(h.new b hb).imp .inl id) fun hb=> .inl (.inr hb)⟩
theorem Mv.sub {w' w'':World} {S:Nat→Prop} (h:Mv F w F' w') (hs:Same S w' w'') (hS:∀b,S b→F' b):Mv F w F' w'':=h.to hs fun b hb=> .inl (hS b hb)
theorem Ints.notD {xs:List Int} {D:Nat} {ds:Option (List Deferred)} (h:Ints F w v xs) (hd:w.heap[D]?=some (.deferred ds)):Ints (fun b=>F b∧b≠D) w v xs:=by
 obtain⟨⟨a,c,hv,hc,hm,hb⟩,hk⟩:=h
 refine⟨⟨a,c,hv,hc,hm,fun hne=>?_⟩,hk⟩
 obtain⟨b,o,ha,h1,hlt,hcell⟩:=hb hne
 refine⟨b,o,ha,⟨h1,fun e=>?_⟩,hlt,hcell⟩
 subst e
 have h0:=List.length_pos_iff.2 hne
 have hw:=hk _ (M.getD_mem h0 [])
 have hc0:=hcell 0 h0 0 _ (List.getElem?_eq_getElem (by omega))
 rw[x8] at hc0
 simp[World.cell?,hd] at hc0
theorem mul_spec {xv yv:Value} {xs ys:List Int} (h:BdR n bb ar ab X F w st) (hx:Ints (Off X F) w xv xs) (hy:Ints (Off X F) w yv ys) (hl:xs.length=ys.length) (h8:xs.length≤900) (hxs:SmL xs) (hys:SmL ys)
  (hK:∀w' F' st' r zs,BdR n bb ar ab X F' w' st'→Mv F w F' w'→Ints (Off X F') w' r zs→SmL zs→M.Bd.Out n (M.mulB xs ys 0 (M.offsL xs.length)) st st' zs→K r w'):
  vcall PP jF #[.pointer (some ⟨bb,0,none⟩),xv,yv] w K:=by
 apply V4;unfold jR
 have hF0:=h.lt
 refine kk fun b3 w1 hb3 he1 hz1 hB3=>?_
 replace hB3:Blk w1 b3 [.pointer (some ⟨bb,0,none⟩)] zO:=hB3
 have hx1:Ints (Off X F) w1 xv xs:=hx.ext he1
 simp(disch:=first|(simp only[push_cast];done)|omega) only[push_cast,hx1.len]
 refine offs_spec (by omega) fun w2 sv0 he2 hs2 hn2=>?_
 refine Yu ju fun b7 w3 hb7 he3 hz3 hB7=>?_
 replace hB7:Blk w3 b7 [.slice none 0 0] za:=hB7
 refine Blk.st (i:=0) hB7 (Sl.cells1 (hs2.ext he3).ints) (Sl.one (hs2.ext he3).ints) kj rfl fun w4 hs4 hz4 hB74=>?_
 replace hB74:Blk w4 b7 [sv0] za:=hB74
 have z2:=he2.size
 have e2:=he1.trans he2
 have e14:Ext w1 w4:=Ext.then (he2.trans he3) hs4 fun b hb=>by omega
 have e4:=he1.trans e14
 have hB34:=hB3.ext e14
 have hs4':=(hs2.ext he3).same hs4 fun b hb hx=>by have:=hs2.lt hb;omega
 simp(disch:=first|(simp only[push_cast];done)|omega) only[push_cast,hB34.ld0]
 apply Km;unfold ZH
 refine kk fun bq w5 hbq he5 hz5 hBq=>?_
 replace hBq:Blk w5 bq [.pointer (some ⟨bb,0,none⟩)] zO:=hBq
 refine kk fun bx w6 hbx he6 hz6 hBx=>?_
 refine kk fun by_ w7 hby he7 hz7 hBy=>?_
 have hBx':Blk w6 bx [xv] za:=by have:=hBx;rwa[Sl.cells1 hx] at this
 have hBy':Blk w7 by_ [yv] za:=by have:=hBy;rwa[Sl.cells1 hy] at this
 simp only[push_cast]
 refine⟨xR,⟨[.pointer (some ⟨by_,0,none⟩),.pointer (some ⟨bx,0,none⟩),.pointer (some ⟨bq,0,none⟩)]⟩,rfl,fun l D w8 RR hD hl8 he8 hs8 hD8 hst hr8 hround=>?_⟩
 have e58:=he6.trans (he7.trans he8)
 have e48:=he5.trans e58
 have e8:=e4.trans e48
 have z4:=e4.size
 have z48:=e48.size
 have z14:=e14.size
 have pq:=hBq.ext e58
 have px:=hBx'.ext (he7.trans he8)
 have py:=hBy'.ext he8
 have p3:=hB34.ext e48
 have p7:=hB74.ext e48
 have h8':=h.ext e8
 have hge:∀b,w.heap.size≤b→¬F b:=fun b hb hf=>by have:=hF0 b (.inl hf);omega
 have sz:w1.heap.size=b3+1∧w3.heap.size=b7+1∧w5.heap.size=bq+1∧w6.heap.size=bx+1∧w7.heap.size=by_+1∧D=w7.heap.size∧l=D+1:=⟨by omega,by omega,by omega,by omega,by omega,hD,by omega⟩
 have z34:w4.heap.size=w3.heap.size:=hz4
 have z23:=he3.size
 have z45:=he5.size;have z56:=he6.size;have z67:=he7.size
 have hxP:Ints (Off X (P2 l b7 F)) w8 xv xs:=by
  have h1:Ints (fun b=>(¬F b∧¬X b)∧b<w.heap.size) w xv xs:=Ints.weaken hx fun _ h1 h2=>⟨h1,h2⟩
  exact Ints.weaken (h1.ext e8) fun b hb _=>⟨fun hp=>hp.elim hb.1.1 fun hp=>by have:=hb.2;omega,hb.1.2⟩
 have hyP:Ints (Off X (P2 l b7 F)) w8 yv ys:=by
  have h1:Ints (fun b=>(¬F b∧¬X b)∧b<w.heap.size) w yv ys:=Ints.weaken hy fun _ h1 h2=>⟨h1,h2⟩
  exact Ints.weaken (h1.ext e8) fun b hb _=>⟨fun hp=>hp.elim hb.1.1 fun hp=>by have:=hb.2;omega,hb.1.2⟩
 have hsP:Ints (Off X (P2 l b7 F)) w8 sv0 (M.offsL xs.length):=Ints.weaken (hs4'.ext e48).ints fun b hb _=>by
  have h1:=hs2.lt hb
  have h2:=hn2 b hb
  refine⟨fun hp=>?_,fun hx=>by have:=h.lt b (.inr hx);omega⟩
  rcases hp with hp|hp|hp
  ·exact hge b (by omega) hp
  ·omega
  ·omega
 have off:∀(F1:Nat→Prop),(∀b,F1 b→F b∨w8.heap.size≤b)→∀b,w.heap.size≤b→b<w8.heap.size→¬F1 b:=fun F1 hN b h1 h2 hf=>(hN b hf).elim (hge b h1) fun h=>by omega
 show vcall PP xR #[.func (.yield l) #[] #[],.pointer (some ⟨by_,0,none⟩),.pointer (some ⟨bx,0,none⟩),.pointer (some ⟨bq,0,none⟩)] w8 _
 apply Qi;unfold kH
 simp(disch:=first|(simp only[push_cast];done)|omega) only[push_cast,py.ld0,hyP.len]
 refine vloop_up ys.length (fun i u w'=> ∃F1 st1 sv s,u=[.int .i64 i]∧RR .ready none w'∧BdR n bb ar ab X F1 w' st1∧Mv (P2 l b7 F) w8 (P2 l b7 F1) w'∧(∀b,F1 b→F b∨w8.heap.size≤b)∧Blk w' b7 [sv] za∧Ints (Off X (P2 l b7 F1)) w' sv s∧s.length=xs.length∧SmL s∧
  ∀st2 res,M.Bd.Out n (M.mulB xs (ys.drop i) i s) st1 st2 res→M.Bd.Out n (M.mulB xs ys 0 (M.offsL xs.length)) st st2 res)
  ⟨F,st,sv0,_,rfl,hr8,h8',Mv.refl,fun b hb=> .inl hb,p7,hsP,M.offsL_len _,SmL.offs _,fun _ _ h=>h⟩ ?_
 rintro i _ g w9 C hi ⟨F1,st1,sv,s,rfl,hr9,h9,hm9,hN9,p79,hs9,hsl,hss,hout⟩ hC
 simp only[push_cast]
 have z9:=hm9.same.size
 have keep:∀{b:Nat} {cs:List Value} {t:TypeId},Blk w8 b cs t→w.heap.size≤b→b≠l→b≠b7→Blk w9 b cs t:=fun hb h1 h2 h3=>hb.same hm9.same fun hp=>hp.elim (hge _ h1) fun hp=>hp.elim h2 h3
 have q9:=keep pq (by omega) (by omega) (by omega)
 have x9:=keep px (by omega) (by omega) (by omega)
 have k9:=keep p3 (by omega) (by omega) (by omega)
 have d9:w9.heap[D]?=some (.deferred (some [])):=(hm9.same.block D (by omega) fun hp=>hp.elim (hge _ (by omega)) fun hp=>by omega).trans hD8
 refine zh (fun hlt=>?_) (fun hge'=>?_)
 ·have hi':i<ys.length:=by omega
  have hy9:=Ints.mv hyP hm9
  simp(disch:=first|(simp only[push_cast];done)|omega) only[push_cast,hy9.iaddr,hy9.load]
  refine offs_spec (by omega) fun w10 rv0 he10 hr10 hn10=>?_
  have h10:=h9.ext he10
  have hrow:NewI X w9 F1 w10 rv0 (M.offsL i):=NewI.of hr10 hn10 h9.lt
  have hxl:(xs.take (xs.length-i)).length=xs.length-i:=by rw[List.length_take];omega
  refine vloop_up (xs.length-i) (fun j u w'=> ∃F2 st2 rv zs,u=[rv,.int .i64 ((i+j:Nat):Int)]∧BdR n bb ar ab X F2 w' st2∧Mv F1 w9 F2 w'∧NewI X w9 F2 w' rv (M.offsL i++zs)∧SmL zs∧zs.length=j∧
   ∀st3 rs,M.Bd.Out n (M.rowB (ys.getD i 0) ((xs.take (xs.length-i)).drop j)) st2 st3 rs→M.Bd.Out n (M.rowB (ys.getD i 0) (xs.take (xs.length-i))) st1 st3 (zs++rs))
   ⟨F1,st1,rv0,[],rfl,h10,Mv.refl.ext he10,by rw[List.append_nil];exact hrow,SmL.nil,rfl,fun _ _ h=>h⟩ ?_
  rintro j _ g2 w11 C2 hj ⟨F2,st2,rv,zs,rfl,h11,hm11,hr11,hz11,hzl,hout2⟩ hC2
  have hm11p:Mv (P2 l b7 F) w8 (P2 l b7 F2) w11:=hm9.trans hm11.p2
  have hN11:∀b,F2 b→F b∨w8.heap.size≤b:=fun b hb=>(hm11.new b hb).elim (hN9 b) fun h=> .inr (by omega)
  have keep2:∀{b:Nat} {cs:List Value} {t:TypeId},Blk w9 b cs t→w.heap.size≤b→b<w8.heap.size→Blk w11 b cs t:=fun hb h1 h2=>hb.same hm11.same (off F1 hN9 _ h1 h2)
  have q11:=keep2 q9 (by omega) (by omega)
  have x11:=keep2 x9 (by omega) (by omega)
  have k11:=keep2 k9 (by omega) (by omega)
  have p711:=keep2 p79 (by omega) (by omega)
  have d11:w11.heap[D]?=some (.deferred (some [])):=(hm11.same.block D (by omega) (off F1 hN9 D (by omega) (by omega))).trans d9
  have r11:RR .ready none w11:=hst _ _ _ _ hr9 (hm11.same.block l (by omega) (off F1 hN9 l (by omega) (by omega)))
  have z11:=hm11.same.size
  have hx11:=Ints.mv hxP hm11p
  simp(disch:=first|(simp only[push_cast];done)|omega) only[push_cast,x11.ld0,hx11.len]
  refine zh (fun hlt2=>?_) (fun hge2=>?_)
  ·have hj':j<xs.length-i:=by omega
   refine zu fun w12 he12 _=>?_
   have hx12:Ints (Off X (P2 l b7 F2)) w12 xv xs:=Ints.ext hx11 he12
   have q12:=q11.ext he12
   have x12:=x11.ext he12
   have ei:((i:Int)+j)-i=(j:Int):=by omega
   simp(disch:=first|(simp only[push_cast];done)|omega) only[push_cast,q12.ld0,x12.ld0,zA,ei,hx12.iaddr,hx12.load,true_and]
   refine jN (h11.ext he12) (hxs.get (by omega)) (hys.get hi') fun w13 F13 st13 s13 h13 hm13 hs13 ho13=>?_
   refine yb yN yg yr rfl rfl fun b14 w14 hb14 he14 hz14 hB14=>?_
   have hm14:Mv F1 w9 F13 w14:=((hm11.ext he12).trans hm13).ext he14
   have h14:=h13.ext he14
   have hr14:NewI X w9 F13 w14 rv (M.offsL i++zs):=((hr11.mv (Mv.refl.ext he12)).mv hm13).mv (Mv.refl.ext he14)
   have hol:(M.offsL i++zs).length=i+j:=by rw[List.length_append,M.offsL_len,hzl]
   refine hr14.app1 hB14 hm14.same.size h14.lt (by omega) fun r15 w15 hr15 hs15=>?_
   have h15:BdR n bb ar ab X F13 w15 st13:=h14.upd h.err hs15 fun b hb=>⟨by have:=(hr14.off b hb).1;omega,(hr14.off b hb).2⟩
   have hm15:Mv F1 w9 F13 w15:=hm14.to hs15 fun b hb=> .inr (hr14.off b hb).1
   try simp(disch:=omega) only[push_cast,zA]
   refine hC2 hj' _ _ ⟨F13,st13,r15,zs++[s13],by simp<;>omega,h15,hm15,by rw[←List.append_assoc];exact hr15,hz11.app (SmL.one hs13),by simp[hzl],fun st3 rs ho=>?_⟩
   have:=hout2 st3 (s13::rs) ?_
   ·simpa using this
   rw[k90 (by omega),KD hj']
   exact xZ ho13 (M.Bd.Out.map _ ho)
  ·have hj0:j=xs.length-i:=by omega
   have hrowo:=hout2 st2 [] (by rw[qR0 (by omega)];exact M.Bd.Out.ret _ _)
   rw[List.append_nil] at hrowo
   refine hround [rv] w11 _ rfl r11 ⟨r11,fun w12 hs12 hz12 hb12=>?_⟩
   have hl12:∀b,(b=l)→w.heap.size≤b∧¬F2 b:=fun b hb=>⟨by omega,off F2 hN11 b (by omega) (by omega)⟩
   have h12:BdR n bb ar ab X F2 w12 st2:=h11.upd h.err hs12 hl12
   have k12:=k11.same hs12 (show¬b3=l by omega)
   have p712:=p711.same hs12 (show¬b7=l by omega)
   have hs11:=Ints.mv hs9 hm11.p2
   have hs12':Ints (Off X (P2 l b7 F2)) w12 sv s:=Ints.same hs11 hs12 fun b hb _ e=>hb.1 (.inr (.inl e))
   have hr12:NewI X w9 F2 w12 rv (M.offsL i++zs):=⟨hr11.own.same hs12 fun b hb e=>by have:=(hr11.off b hb).1;omega,hr11.off,hr11.out⟩
   simp(disch:=first|(simp only[push_cast];done)|omega) only[push_cast,k12.ld0,p712.ld0]
   have hs12o:Ints (Off X F2) w12 sv s:=Ints.weaken hs12' fun b hb _=>⟨fun hf=>hb.1 (.inl hf),hb.2⟩
   refine bsum_spec h12 hs12o hr12.ints (by rw[List.length_append,M.offsL_len];omega) (by omega) hss ((SmL.offs i).app hz11) (by decide) fun w13 F13 st13 nv ns h13 hm13 hn13 hns ho13=>?_
   have hN13:∀b,F13 b→F b∨w8.heap.size≤b:=fun b hb=>(hm13.new b hb).elim (hN11 b) fun h=> .inr (by omega)
   have p713:=p712.same hm13.same (off F2 hN11 b7 (by omega) (by omega))
   refine Blk.st (i:=0) p713 (Sl.cells1 hn13.own.ints) (Sl.one hn13.own.ints) kj rfl fun w14 hs14 hz14 hB14=>?_
   replace hB14:Blk w14 b7 [nv] za:=hB14
   have rb13:RR .busy none w13:=hst _ _ _ _ hb12 (hm13.same.block l (by omega) (off F2 hN11 l (by omega) (by omega)))
   have rb14:RR .busy none w14:=hst _ _ _ _ rb13 (hs14.block l (by have:=hm13.same.size;omega) (by omega))
   refine⟨rb14,fun w15 hs15 hz15 hr15=>?_⟩
   have h14:BdR n bb ar ab X F13 w14 st13:=h13.upd h.err hs14 fun b hb=>⟨by omega,off F13 hN13 b (by omega) (by omega)⟩
   have h15:BdR n bb ar ab X F13 w15 st13:=h14.upd h.err hs15 fun b hb=>⟨by omega,off F13 hN13 b (by omega) (by omega)⟩
   have z12:=hs12.size
   have hm12p:Mv (P2 l b7 F) w8 (P2 l b7 F2) w12:=hm11p.sub hs12 fun b hb=> .inr (.inl hb)
   have hm15p:Mv (P2 l b7 F) w8 (P2 l b7 F13) w15:=(((hm12p.trans hm13.p2).sub hs14 fun b hb=> .inr (.inr hb))).sub hs15 fun b hb=> .inr (.inl hb)
   have p715:=hB14.same hs15 (show¬b7=l by omega)
   have hns15:Ints (Off X (P2 l b7 F13)) w15 nv ns:=by
    have h1:Ints (Off X (P2 l b7 F13)) w13 nv ns:=Ints.weaken hn13.own.ints fun b hb _=>⟨fun hp=>by
     have:=(hn13.off b hb).1
     rcases hp with hp|hp|hp
     ·exact(hn13.off b hb).2 hp
     ·omega
     ·omega,hn13.out b hb⟩
    exact Ints.same (Ints.same h1 hs14 fun b hb _ e=>hb.1 (.inr (.inr e))) hs15 fun b hb _ e=>hb.1 (.inr (.inl e))
   have hnl:ns.length=xs.length:=by
    have:=M.sum_len ho13.reach
    rw[List.length_append,M.offsL_len] at this
    omega
   simp(disch:=omega) only[push_cast,Bool.not_true,zA]
   refine hC hi' _ _ ⟨F13,st13,nv,ns,by simp,hr15,h15,hm15p,hN13,p715,hns15,hnl,hns,fun st3 res ho=>hout st3 res ?_⟩
   rw[xq hi']
   exact M.Bd.Out.bind hrowo (M.Bd.Out.bind ho13 ho)
 ·refine⟨.ready,none,by decide,hr9,fun w10 hs10 hz10=>?_⟩
  show ze PP za _ w10 _
  have p710:=p79.same hs10 (show¬b7=l by omega)
  have d10:w10.heap[D]?=some (.deferred (some [])):=(hs10.block D (by omega) (by omega)).trans d9
  simp(disch:=first|(simp only[push_cast];done)|omega) only[push_cast,p710.ld0]
  refine⟨d10,fun w11 hs11 hz11=>?_⟩
  have hlF:∀b,w.heap.size≤b→b<w8.heap.size→w.heap.size≤b∧¬F1 b:=fun b h1 h2=>⟨h1,off F1 hN9 b h1 h2⟩
  have h11:BdR n bb ar ab X F1 w11 st1:=(h9.upd h.err hs10 fun b hb=>hlF b (by omega) (by omega)).upd h.err hs11 fun b hb=>hlF b (by omega) (by omega)
  have hmF:Mv F w F1 w11:=by
   refine⟨Same.thn (Same.thn (Same.thn (Same.of_ext e8) hm9.same fun b hb=>hb.elim .inl fun hb=> .inr (by omega)) hs10 fun b hb=> .inr (by omega)) hs11 fun b hb=> .inr (by omega),fun b hb=>(hN9 b hb).imp id fun h=>?_⟩
   have:=e8.size;omega
  have hs11':Ints (Off X F1) w11 sv s:=by
   have h1:Ints (Off X (P2 l b7 F1)) w10 sv s:=Ints.same hs9 hs10 fun b hb _ e=>hb.1 (.inr (.inl e))
   have h2:=Ints.notD h1 d10
   exact Ints.weaken (Ints.same h2 hs11 fun b hb _ e=>hb.2 e) fun b hb _=>⟨fun hf=>hb.1.1 (.inl hf),hb.1.2⟩
  exact hK w11 F1 st1 sv s h11 hmF hs11' hss (hout st1 s (by rw[qV0 (by omega)];exact M.Bd.Out.ret _ _))
end Go.Proofs.YtaekfnbnhjgboaaGreatDoor
end
section
namespace Go.Proofs.YtaekfnbnhjgboaaGreatDoor
open Go Go.Vc Go.Proofs
variable {w:World} {K:Value→World→Prop} {F F' Fx Fy X Q:Nat→Prop} {n bc mb bb:Nat} {gs:M.Gs} {v:Value} {ar ab:Addr} {st:Option M.Gs}
theorem jW0 {t ty:TypeId} {a:Option Addr} {l c:Nat} (ht:isSl PP t=true):vbi PP .cap [t] ty [.slice a l c] w K=K (.int .i64 c) w:=by
 obtain⟨e,he⟩:=yD0 ht
 exact yw (by simp[biSem,Builtin.cap_,xP he,goInt])
theorem Grow_nil {m:Nat} (hm:m≤1000) (hK:∀w' r,Ext w w'→OwnI PP za w' r []→(∀b,r.ownBlock=some b→w.heap.size≤b)→K r w'):vcall PP yI #[.slice none 0 0,.int .i64 m] w K:=by
 apply qV;unfold xC
 refine zU (fun u w'=>w'=w) ?_ ?_
 ·intro J hJ
  simp only[push_cast]
  refine zh (fun h=>?_) (fun h=>hJ _ _ rfl)
  omega
 rintro _ _ w' hw
 rw[hw,jW0 xp,yo0 xp]
 simp(disch:=omega) only[push_cast,zA,Int.sub_zero]
 refine zh (fun h=>?_) (fun h=>?_)
 ·rw[jW0 xp]
  have c0:∀K:Value→World→Prop,yp PP za (.slice none 0 0) none (some (.int .i64 (0:Nat))) none w K=K (.slice none 0 0) w:=fun K=>OwnV.cut (P:=PP) (t:=za) (w:=w) OwnV.nil xb (n:=0) (by simp)
  rw[c0]
  refine vappend_make (bs:=8) yO xf yr rfl UB (by omega) (by omega) (by omega) fun v' w1 hv he hn=>?_
  rw[yo0 xp,OwnV.cut hv xb (n:=0) (by omega)]
  have h0:=OwnV.taken hv (n:=0) (by omega)
  exact hK w1 _ he (by rw[List.take_zero] at h0;exact h0) fun b hb=>hn b (by rw[←ZR0 v' 0];exact hb)
 ·exact hK w _ (Same.refl _ _) OwnI.nil fun b hb=>by cases hb
theorem KL {zss:List (List Int)} {i:Nat} (hi:i<zss.length):(zss.take (i+1)).flatten=(zss.take i).flatten++zss.getD i []:=by
 rw[M.take_add hi [],List.flatten_append];simp
theorem flat_le {zss:List (List Int)} (i:Nat):(zss.take i).flatten.length≤zss.flatten.length:=by
 have:zss.flatten=(zss.take i).flatten++(zss.drop i).flatten:=by rw[←List.flatten_append,List.take_append_drop]
 rw[this,List.length_append];omega
theorem Concat_spec {vs:List Value} {zss:List (List Int)} (hv:Vals Fx w v vs) (hl:vs.length=zss.length) (hi:∀i,i<zss.length→Ints Fy w (vs.getD i undef) (zss.getD i [])) (hsm:zss.flatten.length≤1000) (h63:zss.length≤1000)
  (hK:∀w' r,Ext w w'→OwnI PP za w' r zss.flatten→(∀b,r.ownBlock=some b→w.heap.size≤b)→K r w'):vcall PP yF #[v] w K:=by
 apply qB;unfold xo
 simp(disch:=first|(simp only[push_cast];done)|omega) only[push_cast,hv.len]
 refine vloop_up zss.length (fun i u w'=>u=[.int .i64 ((zss.take i).flatten.length:Nat),.int .i64 i]∧w'=w) ⟨rfl,rfl⟩ ?_
 rintro i _ g w1 C hil ⟨rfl,hw1⟩ hC
 rw[hw1]
 simp only[push_cast]
 refine zh (fun hlt=>?_) (fun hge=>?_)
 ·have hi':i<zss.length:=by omega
  have hz:=hi i hi'
  have hle:=flat_le (zss:=zss) (i+1)
  rw[KL hi',List.length_append] at hle
  simp(disch:=first|(simp only[push_cast];done)|omega) only[push_cast,hv.iaddr,hv.load,hz.len,zA]
  refine zh (fun hh=>by omega) (fun _=>?_)
  exact hC hi' _ _ ⟨by rw[KL hi',List.length_append];simp,rfl⟩
 have hie:i=zss.length:=by omega
 subst hie
 rw[List.take_length]
 refine Grow_nil hsm fun w2 r0 he2 hr2 hn2=>?_
 refine vloop_up zss.length (fun i u w'=> ∃r,u=[r,.int .i64 i]∧Ext w w'∧OwnI PP za w' r (zss.take i).flatten∧∀b,r.ownBlock=some b→w.heap.size≤b) ⟨r0,rfl,he2,hr2,hn2⟩ ?_
 rintro i _ g w3 C hil ⟨r,rfl,he3,hr3,hn3⟩ hC
 simp only[push_cast]
 refine zh (fun hlt=>?_) (fun hge=>?_)
 ·have hi':i<zss.length:=by omega
  have hz:=(hi i hi').ext he3
  have hv3:=hv.ext he3
  have hle:=flat_le (zss:=zss) (i+1)
  rw[KL hi',List.length_append] at hle
  simp(disch:=first|(simp only[push_cast];done)|omega) only[push_cast,hv3.iaddr,hv3.load]
  refine hr3.app yO hz (by omega) (by omega) fun r4 w4 hr4 hs4 hn4=>?_
  have:=he3.size
  try simp(disch:=omega) only[push_cast,zA]
  exact hC hi' _ _ ⟨r4,by simp<;>exact⟨rfl,rfl⟩,Ext.then he3 hs4 fun b hb=>hn3 b hb,by rw[KL hi'];exact hr4,fun b hb=>(hn4 b hb).elim (hn3 b) fun h=>by omega⟩
 ·rw[show i=zss.length by omega,List.take_length] at hr3
  exact hK w3 r he3 hr3 hn3
theorem un_spec {op:Int} {xv:Value} {xs:List Int} (h:BdR n bb ar ab X F w st) (hop:op=1∨op=2) (hx:Ints (Off X F) w xv xs) (h8:xs.length≤900) (hxs:SmL xs)
  (hK:∀w' F' st' r zs,BdR n bb ar ab X F' w' st'→Mv F w F' w'→Ints (Off X F') w' r zs→SmL zs→M.Bd.Out n (M.unB op xs) st st' zs→K r w'):
  vcall PP ki #[.pointer (some ⟨bb,0,none⟩),.int .i64 op,xv] w K:=by
 apply W9;unfold YH
 simp only[push_cast]
 unfold M.unB at hK
 refine zh (fun c=>?_) (fun c=>?_)
 ·rw[if_pos c] at hK
  refine negated_spec hx (by omega) hxs fun w1 r he1 hr1 hn1=>?_
  exact hK w1 F st r _ (h.ext he1) (Mv.refl.ext he1) (NewI.of hr1 hn1 h.lt).ints hxs.neg (M.Bd.Out.ret _ _)
 rw[if_neg c] at hK
 simp(disch:=first|(simp only[push_cast];done)|omega) only[push_cast,hx.len]
 refine zh (fun c2=>?_) (fun c2=>by omega)
 refine offs_spec (by omega) fun w1 ov he1 ho1 hno=>?_
 refine negated_spec (hx.ext he1) (by omega) hxs fun w2 nv he2 hn2 hnn2=>?_
 have e2:=he1.trans he2
 have z1:=he1.size
 have hO:Ints (Off X F) w2 ov (M.offsL xs.length):=(NewI.of (ho1.ext he2) hno h.lt).ints
 have hN:Ints (Off X F) w2 nv (M.negL xs):=(NewI.of hn2 (fun b hb=>by have:=hnn2 b hb;omega) h.lt).ints
 refine bsum_spec (h.ext e2) hO hN (by rw[M.offsL_len,M.negL_len];exact Nat.le_refl _) (by rw[M.offsL_len];omega) (SmL.offs _) hxs.neg (by decide) fun w3 F3 st3 r zs h3 hm3 hr3 hz3 ho3=>?_
 exact hK w3 F3 st3 r zs h3 ((Mv.refl.ext e2).trans hm3) hr3.ints hz3 ho3
theorem bin_spec {op:Int} {xv yv:Value} {xs ys:List Int} (h:BdR n bb ar ab X F w st) (hst:∃gs,st=some gs) (h3:3≤op) (h14:op≤14) (hx:Ints (Off X F) w xv xs) (hy:Ints (Off X F) w yv ys) (hl:op≠14→xs.length=ys.length) (hc:op=14→xs.length+ys.length≤4) (h1:1≤xs.length) (h8:xs.length≤8) (hxs:SmL xs) (hys:SmL ys)
  (hK:∀w' F' st' r zs,BdR n bb ar ab X F' w' st'→Mv F w F' w'→Ints (Off X F') w' r zs→SmL zs→M.Bd.Out n (M.binB op xs ys) st st' zs→K r w'):
  vcall PP qy #[.pointer (some ⟨bb,0,none⟩),.int .i64 op,xv,yv] w K:=by
 apply V5;unfold Y6
 obtain⟨gs,rfl⟩:=hst
 obtain⟨bc,hB,hC⟩:=h.blk
 simp only at hB
 unfold M.binB at hK
 simp only[push_cast,xI XI h.err.bits.cell]
 refine zh (fun c=>?_) (fun c=>?_)
 ·rw[if_pos c] at hK
  have:=hc c
  simp(disch:=first|(simp only[push_cast];done)|omega) only[push_cast,hx.len,hy.len,zA,xI XI h.err.bits.cell]
  rw[decide_eq_false (by omega)]
  refine UL ?_
  refine vbuildS_row1 (xs:=[yv,xv]) XH kj ju (fun x hx'=>by
   simp only[List.mem_cons,List.not_mem_nil,or_false] at hx'
   rcases hx' with rfl|rfl
   ·exact Sl.cells1 hy
   ·exact Sl.cells1 hx) (by simp) fun b1 w1 hb1 he1 hz1 hB1=>?_
  have hv:Vals (· =b1) w1 (.slice (some ⟨b1,0,none⟩) [yv,xv].length [yv,xv].length) [yv,xv]:=hB1.sl1 rfl (by simp)
  refine Concat_spec (zss:=[ys,xs]) hv rfl (Fy:=Off X F) (fun i hi=>?_) (by simp;omega) (by simp) fun w2 r he2 hr2 hn2=>?_
  ·match i,hi with
   |0,_=>exact hy.ext he1
   |1,_=>exact hx.ext he1
  ·have e2:=he1.trans he2
   have z1:=he1.size
   refine hK w2 F (some gs) r (ys++xs) (h.ext e2) (Mv.refl.ext e2) (NewI.of (w:=w) (by simpa using hr2) (fun b hb=>by have:=hn2 b hb;omega) h.lt).ints (hys.app hxs) (M.Bd.Out.ret _ _)
 rw[if_neg c] at hK
 have hl:=hl c
 simp(disch:=first|(simp only[push_cast];done)|omega) only[push_cast,hx.len,hy.len,xI XI h.err.bits.cell]
 rw[decide_eq_false (by omega)]
 refine UL ?_
 simp(disch:=first|(simp only[push_cast];done)|omega) only[push_cast,hB.ld1,JY]
 refine zh (fun c=>?_) (fun c=>?_)
 ·rw[if_pos c] at hK
  exact each_spec (p:=fun a b=> .and a b .ret) h hx hy (by omega) (by omega) hxs hys (fun w1 F1 st1 x y K1 h1 _ hx1 hy1 hK1=>jN h1 hx1 hy1 hK1) fun w3 F3 st3 r zs h3 hm3 hr3 hz3 ho3=>hK w3 F3 st3 r zs h3 hm3 hr3.ints hz3 ho3
 rw[if_neg c] at hK
 refine zh (fun c=>?_) (fun c=>?_)
 ·rw[if_pos c] at hK
  exact each_spec (p:=M.orB) h hx hy (by omega) (by omega) hxs hys (fun w1 F1 st1 x y K1 h1 _ hx1 hy1 hK1=>bor_spec h1 hx1 hy1 hK1) fun w3 F3 st3 r zs h3 hm3 hr3 hz3 ho3=>hK w3 F3 st3 r zs h3 hm3 hr3.ints hz3 ho3
 rw[if_neg c] at hK
 refine zh (fun c=>?_) (fun c=>?_)
 ·rw[if_pos c] at hK
  exact each_spec (p:=fun a b=> .xor a b .ret) h hx hy (by omega) (by omega) hxs hys (fun w1 F1 st1 x y K1 h1 _ hx1 hy1 hK1=>Qn h1 hx1 hy1 hK1) fun w3 F3 st3 r zs h3 hm3 hr3 hz3 ho3=>hK w3 F3 st3 r zs h3 hm3 hr3.ints hz3 ho3
 rw[if_neg c] at hK
 refine zh (fun c=>?_) (fun c=>?_)
 ·rw[if_pos c] at hK
  exact bsum_spec h hx hy (by omega) (by omega) hxs hys (by decide) fun w3 F3 st3 r zs h3 hm3 hr3 hz3 ho3=>hK w3 F3 st3 r zs h3 hm3 hr3.ints hz3 ho3
 rw[if_neg c] at hK
 refine zh (fun c=>?_) (fun c=>?_)
 ·rw[if_pos c] at hK
  refine negated_spec hy (by omega) hys fun w1 nv he1 hn1 hnn1=>?_
  exact bsum_spec (h.ext he1) (hx.ext he1) (NewI.of hn1 hnn1 h.lt).ints (by rw[M.negL_len];omega) (by omega) hxs hys.neg (by decide) fun w3 F3 st3 r zs h3 hm3 hr3 hz3 ho3=>hK w3 F3 st3 r zs h3 ((Mv.refl.ext he1).trans hm3) hr3.ints hz3 ho3
 rw[if_neg c] at hK
 refine zh (fun c=>?_) (fun c=>?_)
 ·rw[if_pos c] at hK
  exact mul_spec h hx hy hl (by omega) hxs hys hK
 rw[if_neg c] at hK
 refine zh (fun c=>?_) (fun c=>?_)
 ·rw[if_pos c] at hK
  refine divide_spec h hx hy hl (by omega) hxs hys fun w3 F3 st3 qv rv q r h3 hm3 hq3 hr3 hqs hrs ho3=>?_
  simp only[push_cast]
  exact hK w3 F3 st3 qv q h3 hm3 hq3 hqs (M.Bd.Out.map _ ho3)
 rw[if_neg c] at hK
 refine zh (fun c=>?_) (fun c=>?_)
 ·rw[if_pos c] at hK
  refine divide_spec h hx hy hl (by omega) hxs hys fun w3 F3 st3 qv rv q r h3 hm3 hq3 hr3 hqs hrs ho3=>?_
  simp only[push_cast]
  exact hK w3 F3 st3 rv r h3 hm3 hr3 hrs (M.Bd.Out.map _ ho3)
 rw[if_neg c] at hK
 refine zh (fun c=>?_) (fun c=>?_)
 ·rw[if_pos c] at hK
  exact shift_spec h hx hy (by omega) (by omega) hxs hys (by decide) hK
 rw[if_neg c] at hK
 refine zh (fun c=>?_) (fun c=>?_)
 ·rw[if_pos c] at hK
  exact shift_spec h hx hy (by omega) (by omega) hxs hys (by decide) hK
 rw[if_neg c] at hK
 refine zh (fun c=>?_) (fun c=>by omega)
 simp(disch:=first|(simp only[push_cast];done)|omega) only[push_cast,hx.len,zA,hx.iaddr,hx.load]
 rw[show((xs.length:Int)-1).toNat=xs.length-1 by omega]
 exact shift_spec h hx hy (by omega) (by omega) hxs hys (hxs.get (by omega)) hK
theorem compare_spec {op:Int} {xv yv:Value} {xs ys:List Int} (h:BdR n bb ar ab X F w st) (hst:∃gs,st=some gs) (h3:15≤op) (h14:op≤17) (hx:Ints (Off X F) w xv xs) (hy:Ints (Off X F) w yv ys) (hl:xs.length=ys.length) (h1:1≤xs.length) (h8:xs.length≤8) (hxs:SmL xs) (hys:SmL ys)
  (hK:∀w' F' st' r,BdR n bb ar ab X F' w' st'→Mv F w F' w'→Sm r→M.Bd.Out n (M.cmpB op xs ys) st st' r→K (.int .i64 r) w'):
  vcall PP qu #[.pointer (some ⟨bb,0,none⟩),.int .i64 op,xv,yv] w K:=by
 apply XB;unfold jY
 obtain⟨gs,rfl⟩:=hst
 obtain⟨bc,hB,hC⟩:=h.blk
 simp only at hB
 unfold M.cmpB at hK
 simp(disch:=first|(simp only[push_cast];done)|omega) only[push_cast,hx.len,hy.len,xI XI h.err.bits.cell]
 rw[decide_eq_false (by omega)]
 refine UL ?_
 simp(disch:=first|(simp only[push_cast];done)|omega) only[push_cast,hB.ld1,JY]
 refine zh (fun c=>?_) (fun c=>?_)
 ·rw[if_pos c] at hK
  exact bsame_spec h hx hy (by omega) (by omega) hxs hys hK
 rw[if_neg c] at hK
 refine zh (fun c=>?_) (fun c=>?_)
 ·rw[if_pos c] at hK
  exact bless_spec h hx hy (by omega) (by omega) hxs hys hK
 rw[if_neg c] at hK
 refine zh (fun c=>?_) (fun c=>by omega)
 exact under_spec h hx hy hl h1 (by omega) hxs hys hK
theorem numbers_spec {xv:Value} {xs:List Int} (hx:Ints Fx w xv xs) (h8:xs.length≤1000) (hK:∀w' r,Ext w w'→OwnI PP zg w' r xs→(∀b,r.ownBlock=some b→w.heap.size≤b)→K r w'):vcall PP Yk #[xv] w K:=by
 apply zN0;unfold JH
 simp(disch:=first|(simp only[push_cast];done)|omega) only[push_cast,hx.len]
 refine vloop_up xs.length (fun i u w'=> ∃r,u=[r,.int .i64 i]∧Ext w w'∧OwnI PP zg w' r (xs.take i)∧∀b,r.ownBlock=some b→w.heap.size≤b) ⟨_,rfl,Same.refl _ _,OwnI.nil,fun b hb=>by cases hb⟩ ?_
 rintro i _ g w1 C hi ⟨r,rfl,he1,ho1,hn1⟩ hC
 simp only[push_cast]
 refine zh (fun hlt=>?_) (fun hge=>?_)
 ·have hi':i<xs.length:=by omega
  have hx2:=hx.ext he1
  simp(disch:=first|(simp only[push_cast];done)|omega) only[push_cast,hx2.iaddr,hx2.load]
  refine yb Zj jT Ze rfl rfl fun b5 w5 hb5 he5 hz5 hB5=>?_
  have he:=he1.trans he5
  have hs5:=he.size
  refine(ho1.ext he5).app1 kB hB5 (by simp;omega) (by simp;omega) fun r6 w6 ho6 hs6 hn6=>?_
  try simp(disch:=omega) only[push_cast,zA]
  refine hC hi' _ _ ⟨r6,by simp<;>exact⟨rfl,rfl⟩,Ext.then he hs6 fun x hx=>hn1 x hx,?_,fun b hb=>(hn6 b hb).elim (hn1 b) fun h=>by omega⟩
  rw[M.take_add hi' 0];exact ho6
 ·rw[List.take_of_length_le (by omega)] at ho1
  exact hK w1 r he1 ho1 hn1
end Go.Proofs.YtaekfnbnhjgboaaGreatDoor
end
section
namespace Go.Proofs.YtaekfnbnhjgboaaGreatDoor
open Go Go.Vc Go.Proofs
variable {w:World} {K:Value→World→Prop} {F:Nat→Prop}
abbrev jU (wd n:Int):Value:= .agg ⟨[.int .i64 wd,.int .i64 n]⟩
theorem pow4 {k:Nat} (h1:1≤k) (h2:k≤4):2≤2^k∧2^k≤16:=by
 rcases(by omega:k=1∨k=2∨k=3∨k=4) with rfl|rfl|rfl|rfl<;>decide
@[push_cast] theorem bd_Vec (a b:Int):zE PP zb [(0,.int .i64 a),(1,.int .i64 b)] w K=K (jU a b) w:=yf Wk (us:=[[.int .i64 a],[.int .i64 b]]) rfl rfl
@[push_cast] theorem bd_VecZ:zE PP zb [] w K=K (jU 0 0) w:=yf Wk (us:=[]) rfl rfl
theorem stVec {b:Nat} {x y:Value} {t:TypeId} {p q:Int} (h:Blk w b [x,y] t) (hK:∀w',Same (· =b) w w'→w'.heap.size=w.heap.size→Blk w' b [.int .i64 p,.int .i64 q] t→K undef w'):zp PP zb (.pointer (some ⟨b,0,none⟩)) (jU p q) w K:=
 h.stAgg rfl (by kernel_rfl) (by intro v hv;simp only[List.mem_cons,List.not_mem_nil,or_false] at hv;rcases hv with rfl|rfl<;>rfl) hK
theorem yc0 (k:Nat):((2^k:Nat):Int)=2^k:=by simp
theorem VecOk_spec {wd n:Int} (hK:∀w',Ext w w'→K (.bool (M.vok wd n)) w'):vcall PP xi #[jU wd n] w K:=by
 apply qc0;unfold WU
 refine zy fun b1 w1 hb1 he1 hs1 h1=>?_
 refine zu fun w2 he2 _=>?_
 have h2:=h1.ext he2
 have hE:=he1.trans he2
 simp(disch:=(simp only[push_cast];done)) only[push_cast,h2.ld0,h2.ld1,true_and]
 have hk:=hK w2 hE
 refine zh (fun a1=>?_) (fun a1=>?_)
 ·refine zh (fun a2=>?_) (fun a2=>?_)
  ·refine zh (fun a3=>?_) (fun a3=>?_)
   ·obtain⟨k,rfl⟩:∃k:Nat,wd=k:=⟨wd.toNat,by omega⟩
    have hp:=pow4 (k:=k) (by omega) (by omega)
    have e:zo PP .shl zc true (.int .i64 1) (.int .i64 (k:Int)) w2=fun K=>K (.int .i64 (2^k:Nat)) w2:=by
     funext K
     have:=vbin_shlI (P:=PP) (w:=w2) (K:=K) (c:=true) (t:=zc) (yk:= .i64) (x:=1) (y:=k) (by omega) (by omega)
     rw[Nat.one_mul] at this
     exact this
    rw[e]
    simp only[push_cast,true_and]
    have hv:M.vok (k:Int) n=decide (n<(2^k:Nat)):=by
     simp only[M.vok,decide_eq_true a1,decide_eq_true a2,decide_eq_true a3,Bool.true_and,Int.toNat_natCast,yc0]
    rw[hv,yc0] at hk
    exact hk
   ·have hv:M.vok wd n=false:=by simp only[M.vok,decide_eq_false a3,Bool.and_false,Bool.false_and]
    rw[hv] at hk;exact hk
  ·have hv:M.vok wd n=false:=by simp only[M.vok,decide_eq_false a2,Bool.and_false,Bool.false_and]
   rw[hv] at hk;exact hk
 ·have hv:M.vok wd n=false:=by simp only[M.vok,decide_eq_false a1,Bool.false_and]
  rw[hv] at hk;exact hk
theorem cut_spec {n k:Nat} (hn:n<18446744073709551616) (h1:1≤k) (h2:k≤4) (hK:K (.int .u64 (n%2^k:Nat)) w):vcall PP kp #[.int .u64 n,.int .i64 k] w K:=by
 apply zL0;unfold JF
 have hp:=pow4 h1 h2
 rw[show(1:Int)=((1:Nat):Int) from rfl,vbin_shlU (by omega) (by omega),Nat.one_mul,KB,show((2^k:Nat):Int)-((1:Nat):Int)=((2^k-1:Nat):Int) by omega,wrapU (by omega),XG hn (by omega),Nat.and_two_pow_sub_one_eq_mod]
 exact hK
theorem bit_spec {n k:Nat} (hn:n<18446744073709551616) (hk:k<64) (hK:K (.bool (decide (n/2^k%2=1))) w):vcall PP xV #[.int .u64 n,.int .i64 k] w K:=by
 apply zM0;unfold JG
 have hd:n/2^k≤n:=Nat.div_le_self _ _
 rw[vbin_shrU hk,show(1:Int)=((1:Nat):Int) from rfl,XG (by omega) (by omega),Zf0]
 have e:n/2^k&&&1=n/2^k%2:=Nat.and_one_is_mod _
 rw[e]
 have e2:decide (((n/2^k%2:Nat):Int)=((1:Nat):Int))=decide (n/2^k%2=1):=by
  by_cases h:n/2^k%2=1
  ·rw[h];simp
  ·rw[decide_eq_false h,decide_eq_false];omega
 rw[e2];exact hK
theorem raw_spec {wd:Int} {n:Nat} (hn:n<9223372036854775808) (hK:∀w',Ext w w'→K (.int .u64 n) w'):vcall PP zF #[jU wd n] w K:=by
 apply zU0;unfold JO
 refine zy fun b1 w1 hb1 he1 hs1 h1=>?_
 simp(disch:=(simp only[push_cast];done)) only[push_cast,h1.ld1]
 rw[qC xv0 UC,wrapU (by omega)]
 exact hK _ he1
theorem ones_spec {k:Nat} {n:Int} (h1:1≤k) (h2:k≤4) (hK:∀w',Ext w w'→K (.int .u64 (2^k-1:Nat)) w'):vcall PP jH #[jU k n] w K:=by
 apply z30;unfold Qt
 refine zy fun b1 w1 hb1 he1 hs1 hq1=>?_
 simp(disch:=(simp only[push_cast];done)) only[push_cast,hq1.ld0]
 have hp:=pow4 h1 h2
 rw[show(1:Int)=((1:Nat):Int) from rfl,vbin_shlU (by omega) (by omega),Nat.one_mul,KB,show((2^k:Nat):Int)-((1:Nat):Int)=((2^k-1:Nat):Int) by omega,wrapU (by omega)]
 exact hK _ he1
theorem vec_spec {k n:Nat} {x:Int} (hn:n<18446744073709551616) (h1:1≤k) (h2:k≤4) (hK:∀w',Ext w w'→K (jU k (n%2^k:Nat)) w'):vcall PP j9 #[jU k x,.int .u64 n] w K:=by
 apply zT0;unfold JN
 have hp:=pow4 h1 h2
 have hm:n%2^k<2^k:=Nat.mod_lt _ (by omega)
 refine zy fun b1 w1 hb1 he1 hs1 hq1=>?_
 refine zC yS fun b2 w2 hb2 he2 hs2 hq2=>?_
 refine zu fun w3 he3 _=>?_
 have q1:=(hq1.ext he2).ext he3
 have q2:=hq2.ext he3
 simp(disch:=(simp only[push_cast];done)) only[push_cast,q1.ld0,true_and]
 refine cut_spec hn h1 h2 ?_
 obtain⟨m,hm0⟩:∃m,m=n%2^k:=⟨_,rfl⟩
 rw[←hm0] at hm hK⊢
 simp(disch:=(simp only[push_cast];done)) only[push_cast,q1.ld0,true_and,and_self]
 rw[qC Ul UB,wrapN (by omega)]
 simp only[push_cast,true_and]
 refine stVec q2 fun w4 hw4 _ q3=>?_
 rw[q3.lv (by kernel_rfl)]
 exact hK _ (Ext.then ((he1.trans he2).trans he3) hw4 fun y hy=>by subst hy;omega)
theorem strF_low {k n:Nat} (h1:1≤k) (h2:k≤4) (hn:n<2^k):n|||((18446744073709551615-(2^k-1))&&&4294967295)=n+(4294967296-2^k):=by
 have hall:∀v:Fin 5,∀a:Fin 16,1≤v.1→a.1<2^v.1→a.1|||((18446744073709551615-(2^v.1-1))&&&4294967295)=a.1+(4294967296-2^v.1):=by decide+kernel
 have hp:=pow4 h1 h2
 exact hall ⟨k,by omega⟩ ⟨n,by omega⟩ h1 hn
theorem top_bit {k n:Nat} (h1:1≤k) (h2:k≤4) (hn:n<2^k):decide (n/2^(k-1)%2=1)=decide (¬n<2^(k-1)):=by
 have hall:∀v:Fin 5,∀a:Fin 16,1≤v.1→a.1<2^v.1→decide (a.1/2^(v.1-1)%2=1)=decide (¬a.1<2^(v.1-1)):=by decide+kernel
 have hp:=pow4 h1 h2
 exact hall ⟨k,by omega⟩ ⟨n,by omega⟩ h1 hn
def Yq0 (k n:Nat):Nat:=if n<2^(k-1) then n else n+(4294967296-2^k)
theorem stretched_spec {k n:Nat} (h1:1≤k) (h2:k≤4) (hn:n<2^k) (hK:∀w',Ext w w'→K (.int .u64 (Yq0 k n:Nat)) w'):vcall PP j4 #[jU k n] w K:=by
 apply Jk;unfold Z2
 have hp:=pow4 h1 h2
 refine zy fun b1 w1 hb1 he1 hs1 hq1=>?_
 refine zu fun w3 he3 _=>?_
 have q1:=hq1.ext he3
 simp(disch:=(simp only[push_cast];done)) only[push_cast,q1.ld0,q1.ldAgg (t:=zb) zS,true_and]
 have e1:IntKind.i64.wrap ((k:Int)-1)=((k-1:Nat):Int):=by rw[zA (by omega) (by omega)];omega
 rw[e1]
 refine raw_spec (by omega) fun w4 he4=>?_
 have q2:=q1.ext he4
 simp(disch:=(simp only[push_cast];done)) only[push_cast,q2.ld0,true_and,e1]
 refine bit_spec (by omega) (by omega) ?_
 rw[top_bit h1 h2 hn]
 refine zh (fun a1=>?_) (fun a1=>?_)
 ·refine zu fun w5 he5 _=>?_
  have q3:=q2.ext he5
  simp(disch:=(simp only[push_cast];done)) only[push_cast,q3.ldAgg (t:=zb) zS,true_and]
  refine raw_spec (by omega) fun w6 he6=>?_
  have q4:=q3.ext he6
  simp(disch:=(simp only[push_cast];done)) only[push_cast,q4.ldAgg (t:=zb) zS,true_and]
  refine ones_spec h1 h2 fun w7 he7=>?_
  rw[vun_xorU (by omega)]
  refine⟨rfl,?_⟩
  rw[show(4294967295:Int)=((4294967295:Nat):Int) from rfl,XG (by omega) (by omega)]
  refine⟨rfl,?_⟩
  have hle:(18446744073709551615-(2^k-1))&&&4294967295≤4294967295:=Nat.and_le_right
  rw[qM0 (by omega) (by omega)]
  refine⟨rfl,?_⟩
  have:=hK w7 (((((he1.trans he3).trans he4).trans he5).trans he6).trans he7)
  unfold Yq0 at this
  rw[if_neg a1] at this
  rw[strF_low h1 h2 hn]
  exact this
 ·simp(disch:=(simp only[push_cast];done)) only[push_cast,q2.ldAgg (t:=zb) zS,true_and]
  refine raw_spec (by omega) fun w6 he6=>?_
  have:=hK w6 (((he1.trans he3).trans he4).trans he6)
  unfold Yq0 at this
  rw[if_pos (by omega)] at this
  exact this
theorem pre2 {k a b:Nat} (ha:a<16) (hb:b<16) {X:Value→Value→World→Prop} (hX:∀w',Ext w w'→X (.int .u64 a) (.int .u64 b) w'):
  yB PP zb (jU k a) w fun t2 w_1=>
  yB PP zb (jU k b) w_1 fun t3 w_2=>
  y1 w_2 fun w_3=>
  ze PP zb t2 w_3 fun t5 w_4=>w_4=w_3∧
  ze PP zb t3 w_3 fun t7 w_5=>w_5=w_3∧
  vcall PP zF #[t5] w_3 fun t6 w_6=>(ze PP zb t3 w_6 fun v x=>v=t7∧x=w_6)∧
  vcall PP zF #[t7] w_6 fun t8 w_7=>X t6 t8 w_7:=by
 refine zy fun b1 w1 hb1 he1 hs1 hq1=>?_
 refine zy fun b2 w2 hb2 he2 hs2 hq2=>?_
 refine zu fun w3 he3 _=>?_
 have q1:=(hq1.ext he2).ext he3
 have q2:=hq2.ext he3
 simp(disch:=(simp only[push_cast];done)) only[push_cast,q1.ldAgg (t:=zb) zS,q2.ldAgg (t:=zb) zS,true_and]
 refine raw_spec (by omega) fun w4 he4=>?_
 have q3:=q2.ext he4
 simp(disch:=(simp only[push_cast];done)) only[push_cast,q3.ldAgg (t:=zb) zS,true_and,and_self]
 refine raw_spec (by omega) fun w5 he5=>?_
 exact hX _ ((((he1.trans he2).trans he3).trans he4).trans he5)
theorem pow16 {k a:Nat} (h2:k≤4) (ha:a<2^k):a<16:=by
 have:2^k≤2^4:=Nat.pow_le_pow_right (by omega) h2
 omega
def OpR (K:Value→World→Prop) (w:World) (op k a b:Nat):Prop:=∀w' (r:Nat),Ext w w'→r<18446744073709551616→r%2^k=M.binN op k a b→K (.int .u64 r) w'
theorem bin_ck {f:Nat→Nat→Nat→Nat} {op:Nat} (h:∀v:Fin 5,(List.range 16).all (fun a=>(List.range 16).all fun b=> !(decide (1≤v.1)&&decide (a<2^v.1)&&decide (b<2^v.1))||decide (f v.1 a b%2^v.1=M.binN op v.1 a b))=true) {k a b:Nat} (h1:1≤k) (h2:k≤4) (ha:a<2^k) (hb:b<2^k):f k a b%2^k=M.binN op k a b:=by
 have:=h ⟨k,by omega⟩
 simp only[List.all_eq_true,List.mem_range,Bool.or_eq_true,Bool.not_eq_true',Bool.and_eq_false_iff,decide_eq_false_iff_not,decide_eq_true_eq] at this
 rcases this a (pow16 h2 ha) b (pow16 h2 hb) with(⟨h|h⟩|h)|h
 ·exact absurd h1 h
 ·exact absurd ha h
 ·exact absurd hb h
 ·exact h
theorem mul225 {a b:Nat} (ha:a<16) (hb:b<16):a*b≤225:=by
 have:=Nat.mul_le_mul (show a≤15 by omega) (show b≤15 by omega)
 omega
theorem shl_small {a b:Nat} (ha:a<16) (hb:b<16):a*2^b≤524288:=by
 have h1:2^b≤2^15:=Nat.pow_le_pow_right (by omega) (by omega)
 have:=Nat.mul_le_mul (show a≤15 by omega) h1
 omega
theorem strN_lt {k n:Nat} (h1:1≤k) (h2:k≤4) (hn:n<2^k):Yq0 k n<4294967296:=by
 have:=pow4 h1 h2
 unfold Yq0;split<;>omega
theorem binaries_1_spec {k a b:Nat} (h1:1≤k) (h2:k≤4) (ha:a<2^k) (hb:b<2^k) (hK:OpR K w 3 k a b):vcall PP x7 #[jU k a,jU k b] w K:=by
 have ha16:=pow16 h2 ha
 have hb16:=pow16 h2 hb
 have hp:=pow4 h1 h2
 apply Wj;unfold YR
 refine pre2 ha16 hb16 fun w1 he=>?_
 rw[XG (by omega) (by omega)]
 exact⟨rfl,hK _ _ he (Nat.lt_of_le_of_lt Nat.and_le_left (by omega)) (bin_ck (f:=fun k a b=>a&&&b) (by decide+kernel) h1 h2 ha hb)⟩
theorem binaries_2_spec {k a b:Nat} (h1:1≤k) (h2:k≤4) (ha:a<2^k) (hb:b<2^k) (hK:OpR K w 4 k a b):vcall PP x6 #[jU k a,jU k b] w K:=by
 have ha16:=pow16 h2 ha
 have hb16:=pow16 h2 hb
 have hp:=pow4 h1 h2
 apply Wi;unfold YQ
 refine pre2 ha16 hb16 fun w1 he=>?_
 rw[qM0 (by omega) (by omega)]
 exact⟨rfl,hK _ _ he (Nat.lt_trans (Nat.or_lt_two_pow (n:=4) ha16 hb16) (by decide)) (bin_ck (f:=fun k a b=>a|||b) (by decide+kernel) h1 h2 ha hb)⟩
theorem binaries_3_spec {k a b:Nat} (h1:1≤k) (h2:k≤4) (ha:a<2^k) (hb:b<2^k) (hK:OpR K w 5 k a b):vcall PP x5 #[jU k a,jU k b] w K:=by
 have ha16:=pow16 h2 ha
 have hb16:=pow16 h2 hb
 have hp:=pow4 h1 h2
 apply Wh;unfold YP
 refine pre2 ha16 hb16 fun w1 he=>?_
 rw[jX0 (by omega) (by omega)]
 exact⟨rfl,hK _ _ he (Nat.lt_trans (Nat.xor_lt_two_pow (n:=4) ha16 hb16) (by decide)) (bin_ck (f:=fun k a b=>a^^^b) (by decide+kernel) h1 h2 ha hb)⟩
theorem binaries_4_spec {k a b:Nat} (h1:1≤k) (h2:k≤4) (ha:a<2^k) (hb:b<2^k) (hK:OpR K w 6 k a b):vcall PP yZ #[jU k a,jU k b] w K:=by
 have ha16:=pow16 h2 ha
 have hb16:=pow16 h2 hb
 have hp:=pow4 h1 h2
 apply Wg;unfold YO
 refine pre2 ha16 hb16 fun w1 he=>?_
 rw[qO0,show(a:Int)+(b:Int)=((a+b:Nat):Int) by omega,wrapU (by omega)]
 exact⟨rfl,hK _ _ he (by omega) (bin_ck (f:=fun k a b=>a+b) (by decide+kernel) h1 h2 ha hb)⟩
theorem binaries_5_spec {k a b:Nat} (h1:1≤k) (h2:k≤4) (ha:a<2^k) (hb:b<2^k) (hK:OpR K w 7 k a b):vcall PP yY #[jU k a,jU k b] w K:=by
 have ha16:=pow16 h2 ha
 have hb16:=pow16 h2 hb
 have hp:=pow4 h1 h2
 apply Wf;unfold YN
 refine pre2 ha16 hb16 fun w1 he=>?_
 have e:IntKind.u64.wrap ((a:Int)-(b:Int))=((if b≤a then a-b else 18446744073709551616+a-b:Nat):Int):=by
  simp only[IntKind.wrap,IntKind.bits,IntKind.signed,Bool.false_and,Bool.false_eq_true,if_false]
  split<;>omega
 rw[KB,e]
 exact⟨rfl,hK _ _ he (by split<;>omega) (bin_ck (f:=fun k a b=>if b≤a then a-b else 18446744073709551616+a-b) (by decide+kernel) h1 h2 ha hb)⟩
theorem binaries_6_spec {k a b:Nat} (h1:1≤k) (h2:k≤4) (ha:a<2^k) (hb:b<2^k) (hK:OpR K w 8 k a b):vcall PP yX #[jU k a,jU k b] w K:=by
 have ha16:=pow16 h2 ha
 have hb16:=pow16 h2 hb
 have hp:=pow4 h1 h2
 apply We;unfold YM
 refine pre2 ha16 hb16 fun w1 he=>?_
 have hm:=mul225 ha16 hb16
 rw[qN0,show(a:Int)*(b:Int)=((a*b:Nat):Int) by simp,wrapU (by omega)]
 exact⟨rfl,hK _ _ he (by omega) (bin_ck (f:=fun k a b=>a*b) (by decide+kernel) h1 h2 ha hb)⟩
theorem binaries_7_spec {k a b:Nat} (h1:1≤k) (h2:k≤4) (ha:a<2^k) (hb:b<2^k) (hK:OpR K w 9 k a b):vcall PP yW #[jU k a,jU k b] w K:=by
 have ha16:=pow16 h2 ha
 have hb16:=pow16 h2 hb
 have hp:=pow4 h1 h2
 apply Wd;unfold YL
 refine zy fun b1 w1 hb1 he1 hs1 hq1=>?_
 refine zy fun b2 w2 hb2 he2 hs2 hq2=>?_
 have q1:=hq1.ext he2
 simp(disch:=(simp only[push_cast];done)) only[push_cast,hq2.ld1]
 refine zh (fun a1=>?_) (fun a1=>?_)
 ·simp(disch:=(simp only[push_cast];done)) only[push_cast,q1.ldAgg (t:=zb) zS]
  refine ones_spec h1 h2 fun w3 he3=>hK _ _ ((he1.trans he2).trans he3) (by omega) ?_
  have:b=0:=by omega
  subst this
  rw[Nat.mod_eq_of_lt (by omega)]
  simp[M.binN]
 ·refine zu fun w3 he3 _=>?_
  have r1:=q1.ext he3
  have r2:=hq2.ext he3
  simp(disch:=(simp only[push_cast];done)) only[push_cast,r1.ldAgg (t:=zb) zS,r2.ldAgg (t:=zb) zS,true_and]
  refine raw_spec (by omega) fun w4 he4=>?_
  have r3:=r2.ext he4
  simp(disch:=(simp only[push_cast];done)) only[push_cast,r3.ldAgg (t:=zb) zS,true_and,and_self]
  refine raw_spec (by omega) fun w5 he5=>?_
  have hd:a/b≤a:=Nat.div_le_self _ _
  rw[U6 (by omega),show(a:Int).tdiv (b:Int)=((a/b:Nat):Int) from rfl,wrapU (by omega)]
  refine⟨rfl,hK _ _ ((((he1.trans he2).trans he3).trans he4).trans he5) (by omega) ?_⟩
  rw[Nat.mod_eq_of_lt (by omega)]
  simp[M.binN,show b≠0 by omega]
theorem binaries_8_spec {k a b:Nat} (h1:1≤k) (h2:k≤4) (ha:a<2^k) (hb:b<2^k) (hK:OpR K w 10 k a b):vcall PP yV #[jU k a,jU k b] w K:=by
 have ha16:=pow16 h2 ha
 have hb16:=pow16 h2 hb
 have hp:=pow4 h1 h2
 apply Wc;unfold YK
 refine zy fun b1 w1 hb1 he1 hs1 hq1=>?_
 refine zy fun b2 w2 hb2 he2 hs2 hq2=>?_
 have q1:=hq1.ext he2
 simp(disch:=(simp only[push_cast];done)) only[push_cast,hq2.ld1]
 refine zh (fun a1=>?_) (fun a1=>?_)
 ·simp(disch:=(simp only[push_cast];done)) only[push_cast,q1.ldAgg (t:=zb) zS]
  refine raw_spec (by omega) fun w3 he3=>hK _ _ ((he1.trans he2).trans he3) (by omega) ?_
  have:b=0:=by omega
  subst this
  rw[Nat.mod_eq_of_lt (by omega)]
  simp[M.binN]
 ·refine zu fun w3 he3 _=>?_
  have r1:=q1.ext he3
  have r2:=hq2.ext he3
  simp(disch:=(simp only[push_cast];done)) only[push_cast,r1.ldAgg (t:=zb) zS,r2.ldAgg (t:=zb) zS,true_and]
  refine raw_spec (by omega) fun w4 he4=>?_
  have r3:=r2.ext he4
  simp(disch:=(simp only[push_cast];done)) only[push_cast,r3.ldAgg (t:=zb) zS,true_and,and_self]
  refine raw_spec (by omega) fun w5 he5=>?_
  have hd:a%b≤a:=Nat.mod_le _ _
  rw[ZQ (by omega),show(a:Int).tmod (b:Int)=((a%b:Nat):Int) from rfl]
  refine⟨rfl,hK _ _ ((((he1.trans he2).trans he3).trans he4).trans he5) (by omega) ?_⟩
  rw[Nat.mod_eq_of_lt (by omega)]
  simp[M.binN,show b≠0 by omega]
theorem binaries_9_spec {k a b:Nat} (h1:1≤k) (h2:k≤4) (ha:a<2^k) (hb:b<2^k) (hK:OpR K w 11 k a b):vcall PP yU #[jU k a,jU k b] w K:=by
 have ha16:=pow16 h2 ha
 have hb16:=pow16 h2 hb
 have hp:=pow4 h1 h2
 apply Wb;unfold YJ
 refine pre2 ha16 hb16 fun w1 he=>?_
 have hm:=shl_small ha16 hb16
 rw[vbin_shlU (by omega) (by omega)]
 exact⟨rfl,hK _ _ he (by omega) (bin_ck (f:=fun k a b=>a*2^b) (by decide+kernel) h1 h2 ha hb)⟩
theorem binaries_10_spec {k a b:Nat} (h1:1≤k) (h2:k≤4) (ha:a<2^k) (hb:b<2^k) (hK:OpR K w 12 k a b):vcall PP yL #[jU k a,jU k b] w K:=by
 have ha16:=pow16 h2 ha
 have hb16:=pow16 h2 hb
 have hp:=pow4 h1 h2
 apply V8;unfold Y9
 refine pre2 ha16 hb16 fun w1 he=>?_
 have hm:=Nat.div_le_self a (2^b)
 rw[vbin_shrU (by omega)]
 exact⟨rfl,hK _ _ he (by omega) (bin_ck (f:=fun k a b=>a/2^b) (by decide+kernel) h1 h2 ha hb)⟩
theorem binaries_11_spec {k a b:Nat} (h1:1≤k) (h2:k≤4) (ha:a<2^k) (hb:b<2^k) (hK:OpR K w 13 k a b):vcall PP yK #[jU k a,jU k b] w K:=by
 have ha16:=pow16 h2 ha
 have hb16:=pow16 h2 hb
 have hp:=pow4 h1 h2
 apply V7;unfold Y8
 refine zy fun b1 w1 hb1 he1 hs1 hq1=>?_
 refine zy fun b2 w2 hb2 he2 hs2 hq2=>?_
 refine zu fun w3 he3 _=>?_
 have r1:=(hq1.ext he2).ext he3
 have r2:=hq2.ext he3
 simp(disch:=(simp only[push_cast];done)) only[push_cast,r1.ldAgg (t:=zb) zS,r2.ldAgg (t:=zb) zS,true_and]
 refine stretched_spec h1 h2 ha fun w4 he4=>?_
 have r3:=r2.ext he4
 simp(disch:=(simp only[push_cast];done)) only[push_cast,r3.ldAgg (t:=zb) zS,true_and,and_self]
 refine raw_spec (by omega) fun w5 he5=>?_
 have hs:=strN_lt h1 h2 ha
 have hm:=Nat.div_le_self (Yq0 k a) (2^b)
 rw[vbin_shrU (by omega)]
 exact⟨rfl,hK _ _ ((((he1.trans he2).trans he3).trans he4).trans he5) (by omega) (bin_ck (f:=fun k a b=>Yq0 k a/2^b) (by decide+kernel) h1 h2 ha hb)⟩
end Go.Proofs.YtaekfnbnhjgboaaGreatDoor
end
section
namespace Go.Proofs.YtaekfnbnhjgboaaGreatDoor
open Go Go.Vc Go.Proofs
variable {w:World} {K:Value→World→Prop} {F:Nat→Prop}
theorem VecSigned_spec {wd n:Int} (hK:∀w',Ext w w'→K (.int .i64 (if M.vok wd n=true then M.sgn wd n else 0)) w'):vcall PP ja #[jU wd n] w K:=by
 apply U3;unfold Xw
 refine zy fun b1 w1 hb1 he1 hs1 h1=>?_
 simp(disch:=(simp only[push_cast];done)) only[push_cast,h1.ldAgg (t:=zb) zS]
 refine VecOk_spec fun w2 he2=>?_
 have h2:=h1.ext he2
 simp only[push_cast]
 refine yx (fun hv=>?_) (fun hv=>?_)
 ·have:=hK w2 (he1.trans he2)
  rwa[if_neg (by simpa using hv)] at this
 ·rw[Bool.not_eq_false'] at hv
  rw[if_pos hv] at hK
  obtain⟨k,a,rfl,rfl,k1,k4,ha⟩:=M.vok_nat hv
  have hp:=pow4 k1 k4
  refine zu fun w3 he3 _=>?_
  have h3:=h2.ext he3
  have e1:IntKind.i64.wrap ((k:Int)-1)=((k-1:Nat):Int):=by rw[zA (by omega) (by omega)];omega
  simp(disch:=(simp only[push_cast];done)) only[push_cast,h3.ldAgg (t:=zb) zS,h3.ld0,true_and,e1]
  refine raw_spec (by omega) fun w4 he4=>?_
  have h4:=h3.ext he4
  simp(disch:=(simp only[push_cast];done)) only[push_cast,h4.ld0,true_and,e1,and_self]
  refine bit_spec (by omega) (by omega) ?_
  rw[top_bit k1 k4 ha]
  have hx:=(yc0 k).symm
  have hy:(2:Int)^((k:Int).toNat-1)=((2^(k-1):Nat):Int):=by simp
  have hq:2^(k-1)<2^k:=Nat.pow_lt_pow_right (by omega) (by omega)
  refine zh (fun a1=>?_) (fun a1=>?_)
  ·refine zu fun w5 he5 _=>?_
   have h5:=h4.ext he5
   simp(disch:=(simp only[push_cast];done)) only[push_cast,h5.ld0,h5.ld1,true_and]
   rw[show(1:Int)=((1:Nat):Int) from rfl,vbin_shlI (by omega) (by omega),Nat.one_mul]
   refine⟨rfl,?_⟩
   rw[KB,zA (by omega) (by omega)]
   refine⟨rfl,?_⟩
   have:=hK w5 ((((he1.trans he2).trans he3).trans he4).trans he5)
   unfold M.sgn at this
   rw[if_neg (by rw[hy];omega),Int.toNat_natCast,hx] at this
   exact this
  ·simp(disch:=(simp only[push_cast];done)) only[push_cast,h4.ld1]
   have:=hK w4 (((he1.trans he2).trans he3).trans he4)
   unfold M.sgn at this
   rw[if_pos (by rw[hy];omega)] at this
   exact this
theorem VecUn_spec {op wd n:Int} (hK:∀w',Ext w w'→K (.tuple #[jU (M.vecUn op wd n).1.1 (M.vecUn op wd n).1.2,.bool (M.vecUn op wd n).2]) w'):vcall PP ZU #[.int .i64 op,jU wd n] w K:=by
 apply qb0;unfold WT
 refine zy fun b1 w1 hb1 he1 hs1 h1=>?_
 refine zC yS fun b2 w2 hb2 he2 hs2 g2=>?_
 have h2:=h1.ext he2
 simp(disch:=(simp only[push_cast];done)) only[push_cast,h2.ldAgg (t:=zb) zS]
 refine VecOk_spec fun w3 he3=>?_
 have h3:=h2.ext he3
 have g3:=g2.ext he3
 have hE:=(he1.trans he2).trans he3
 have hnew:∀w4 w5,Ext w3 w4→Same (· =b2) w4 w5→Ext w w5:=fun w4 w5 h h'=>Ext.then (hE.trans h) h' fun y hy=>by subst hy;have:=he1.size;omega
 simp only[push_cast]
 unfold M.vecUn at hK
 refine yx (fun hv=>?_) (fun hv=>?_)
 ·refine stVec g3 fun w4 hw4 _ g4=>?_
  rw[g4.lv (by kernel_rfl)]
  have:=hK w4 (hnew _ _ (Same.refl _ _) hw4)
  rwa[if_neg (by simp at hv;simp[hv])] at this
 ·rw[Bool.not_eq_false'] at hv
  obtain⟨k,a,rfl,rfl,k1,k4,ha⟩:=M.vok_nat hv
  have hp:=pow4 k1 k4
  refine zh (fun a1=>?_) (fun a1=>?_)
  ·subst a1
   refine zu fun w4 he4 _=>?_
   have h4:=h3.ext he4
   simp(disch:=(simp only[push_cast];done)) only[push_cast,h4.ldAgg (t:=zb) zS,true_and]
   refine raw_spec (by omega) fun w5 he5=>?_
   have h5:=h4.ext he5
   have g5:=(g3.ext he4).ext he5
   simp(disch:=(simp only[push_cast];done)) only[push_cast,h5.ldAgg (t:=zb) zS,true_and,and_self]
   rw[vun_xorU (by omega)]
   refine⟨rfl,vec_spec (by omega) k1 k4 fun w6 he6=>?_⟩
   refine stVec (g5.ext he6) fun w7 hw7 _ g7=>?_
   rw[g7.lv (by kernel_rfl)]
   have:=hK w7 (hnew _ _ ((he4.trans he5).trans he6) hw7)
   rw[if_pos ⟨hv,.inl rfl⟩,M.unM_not k1 k4 ha] at this
   exact this
  refine zh (fun a2=>?_) (fun a2=>?_)
  ·subst a2
   refine zu fun w4 he4 _=>?_
   have h4:=h3.ext he4
   simp(disch:=(simp only[push_cast];done)) only[push_cast,h4.ldAgg (t:=zb) zS,true_and]
   refine raw_spec (by omega) fun w5 he5=>?_
   have h5:=h4.ext he5
   have g5:=(g3.ext he4).ext he5
   have e:IntKind.u64.wrap (0-(a:Int))=((if a=0 then 0 else 18446744073709551616-a:Nat):Int):=by
    simp only[IntKind.wrap,IntKind.bits,IntKind.signed,Bool.false_and,Bool.false_eq_true,if_false]
    split<;>omega
   simp(disch:=(simp only[push_cast];done)) only[push_cast,h5.ldAgg (t:=zb) zS,true_and,and_self]
   rw[e]
   refine vec_spec (by split<;>omega) k1 k4 fun w6 he6=>?_
   refine stVec (g5.ext he6) fun w7 hw7 _ g7=>?_
   rw[g7.lv (by kernel_rfl)]
   have:=hK w7 (hnew _ _ ((he4.trans he5).trans he6) hw7)
   rw[if_pos ⟨hv,.inr rfl⟩,M.unM_neg k1 k4 ha] at this
   exact this
  ·refine stVec g3 fun w4 hw4 _ g4=>?_
   rw[g4.lv (by kernel_rfl)]
   have:=hK w4 (hnew _ _ (Same.refl _ _) hw4)
   rwa[if_neg (fun h=>h.2.elim a1 a2)] at this
theorem binaries_spec (hK:∀w',Ext w w'→K (.agg ⟨[.nilFunc,.nilFunc,.nilFunc,.func (.func x7) #[] #[],.func (.func x6) #[] #[],.func (.func x5) #[] #[],.func (.func yZ) #[] #[],.func (.func yY) #[] #[],.func (.func yX) #[] #[],.func (.func yW) #[] #[],.func (.func yV) #[] #[],.func (.func yU) #[] #[],.func (.func yL) #[] #[],.func (.func yK) #[] #[]]⟩) w'):vcall PP Zo #[] w K:=by
 apply z00;unfold Qs
 have hz:yM PP zX (.agg ⟨[.nilFunc,.nilFunc,.nilFunc,.nilFunc,.nilFunc,.nilFunc,.nilFunc,.nilFunc,.nilFunc,.nilFunc,.nilFunc,.nilFunc,.nilFunc,.nilFunc]⟩):=by unfold yM;kernel_rfl
 refine zC hz fun b1 w1 hb1 he1 hs1 h1=>?_
 refine⟨_,w1,run_build (P:=PP) w1 _ _ ⟨[.nilFunc,.nilFunc,.nilFunc,.func (.func x7) #[] #[],.func (.func x6) #[] #[],.func (.func x5) #[] #[],.func (.func yZ) #[] #[],.func (.func yY) #[] #[],.func (.func yX) #[] #[],.func (.func yW) #[] #[],.func (.func yV) #[] #[],.func (.func yU) #[] #[],.func (.func yL) #[] #[],.func (.func yK) #[] #[]]⟩ (by kernel_rfl),?_⟩
 refine h1.stAgg rfl (by kernel_rfl) (by intro v hv;simp only[List.mem_cons,List.not_mem_nil,or_false] at hv;rcases hv with rfl|rfl|rfl|rfl|rfl|rfl|rfl|rfl|rfl|rfl|rfl|rfl|rfl|rfl<;>rfl) fun w2 hw2 _ h2=>?_
 rw[h2.lv (by kernel_rfl)]
 exact hK _ (Ext.then he1 hw2 fun y hy=>by subst hy;omega)
theorem bin_all {op k a b:Nat} (h3:3≤op) (h13:op≤13) (k1:1≤k) (k4:k≤4) (ha:a<2^k) (hb:b<2^k) {K:Value→World→Prop} {w w0:World} (hw:w0=w) (hK:OpR K w op k a b) {N:Value→World→Prop}
  (hN:∀x,vcallv PP x #[jU k a,jU k b] w K→N x w):
  y80 PP zX (.agg ⟨[.nilFunc,.nilFunc,.nilFunc,.func (.func x7) #[] #[],.func (.func x6) #[] #[],.func (.func x5) #[] #[],.func (.func yZ) #[] #[],.func (.func yY) #[] #[],.func (.func yX) #[] #[],.func (.func yW) #[] #[],.func (.func yV) #[] #[],.func (.func yU) #[] #[],.func (.func yL) #[] #[],.func (.func yK) #[] #[]]⟩) (.int .i64 op) w N:=by
 rcases(by omega:op=3∨op=4∨op=5∨op=6∨op=7∨op=8∨op=9∨op=10∨op=11∨op=12∨op=13) with rfl|rfl|rfl|rfl|rfl|rfl|rfl|rfl|rfl|rfl|rfl
 ·exact⟨.func (.func x7) #[] #[],w,by kernel_rfl,hN (.func (.func x7) #[] #[]) (binaries_1_spec k1 k4 ha hb hK)⟩
 ·exact⟨.func (.func x6) #[] #[],w,by kernel_rfl,hN (.func (.func x6) #[] #[]) (binaries_2_spec k1 k4 ha hb hK)⟩
 ·exact⟨.func (.func x5) #[] #[],w,by kernel_rfl,hN (.func (.func x5) #[] #[]) (binaries_3_spec k1 k4 ha hb hK)⟩
 ·exact⟨.func (.func yZ) #[] #[],w,by kernel_rfl,hN (.func (.func yZ) #[] #[]) (binaries_4_spec k1 k4 ha hb hK)⟩
 ·exact⟨.func (.func yY) #[] #[],w,by kernel_rfl,hN (.func (.func yY) #[] #[]) (binaries_5_spec k1 k4 ha hb hK)⟩
 ·exact⟨.func (.func yX) #[] #[],w,by kernel_rfl,hN (.func (.func yX) #[] #[]) (binaries_6_spec k1 k4 ha hb hK)⟩
 ·exact⟨.func (.func yW) #[] #[],w,by kernel_rfl,hN (.func (.func yW) #[] #[]) (binaries_7_spec k1 k4 ha hb hK)⟩
 ·exact⟨.func (.func yV) #[] #[],w,by kernel_rfl,hN (.func (.func yV) #[] #[]) (binaries_8_spec k1 k4 ha hb hK)⟩
 ·exact⟨.func (.func yU) #[] #[],w,by kernel_rfl,hN (.func (.func yU) #[] #[]) (binaries_9_spec k1 k4 ha hb hK)⟩
 ·exact⟨.func (.func yL) #[] #[],w,by kernel_rfl,hN (.func (.func yL) #[] #[]) (binaries_10_spec k1 k4 ha hb hK)⟩
 ·exact⟨.func (.func yK) #[] #[],w,by kernel_rfl,hN (.func (.func yK) #[] #[]) (binaries_11_spec k1 k4 ha hb hK)⟩
theorem VecBin_spec {op wd n v m:Int} (hK:∀w',Ext w w'→K (.tuple #[jU (M.vecBin op wd n v m).1.1 (M.vecBin op wd n v m).1.2,.bool (M.vecBin op wd n v m).2]) w'):vcall PP qU #[.int .i64 op,jU wd n,jU v m] w K:=by
 apply xk0;unfold VJ
 refine zy fun b1 w1 hb1 he1 hs1 h1=>?_
 refine zy fun b2 w2 hb2 he2 hs2 g2=>?_
 refine zC yS fun b3 w3 hb3 he3 hs3 r3=>?_
 have hE:=(he1.trans he2).trans he3
 have hz1:=he1.size
 have hz2:=he2.size
 have h3:=(h1.ext he2).ext he3
 have g3:=g2.ext he3
 have hnew:∀w4 w5,Ext w3 w4→Same (· =b3) w4 w5→Ext w w5:=fun w4 w5 h h'=>Ext.then (hE.trans h) h' fun y hy=>by subst hy;omega
 have hno:(M.vecBin op wd n v m)=((0,0),false)→∀w4,Ext w3 w4→zp PP zb (.pointer (some ⟨b3,0,none⟩)) (jU 0 0) w4 fun _ w5=>vlv PP zb (.pointer (some ⟨b3,0,none⟩)) w5 fun r w6=>K (.tuple #[r,.bool false]) w6:=by
  intro e w4 he4
  refine stVec (r3.ext he4) fun w5 hw5 _ r5=>?_
  rw[r5.lv (by kernel_rfl)]
  have:=hK w5 (hnew _ _ he4 hw5)
  rwa[e] at this
 refine zU (fun u w4=>u=[]∧Ext w3 w4∧M.vok wd n=true∧M.vok v m=true) (fun C hC=>?_) ?_
 ·simp(disch:=(simp only[push_cast];done)) only[push_cast,h3.ldAgg (t:=zb) zS]
  refine VecOk_spec fun w4 he4=>?_
  have g4:=g3.ext he4
  simp only[push_cast]
  refine yx (fun hv=>hno ?_ _ he4) (fun hv=>?_)
  ·unfold M.vecBin;rw[if_neg (by simp at hv;simp[hv])]
  ·simp(disch:=(simp only[push_cast];done)) only[push_cast,g4.ldAgg (t:=zb) zS]
   refine VecOk_spec fun w5 he5=>?_
   simp only[push_cast]
   refine yx (fun hv2=>hno ?_ _ (he4.trans he5)) (fun hv2=>?_)
   ·unfold M.vecBin;rw[if_neg (by simp at hv2;simp[hv2])]
   ·exact hC _ _ ⟨rfl,he4.trans he5,by simpa using hv,by simpa using hv2⟩
 ·rintro u g w4 ⟨rfl,he4,hv1,hv2⟩
  have h4:=h3.ext he4
  have g4:=g3.ext he4
  have r4:=r3.ext he4
  obtain⟨k,a,rfl,rfl,k1,k4,ha⟩:=M.vok_nat hv1
  obtain⟨l,b,rfl,rfl,l1,l4,hb⟩:=M.vok_nat hv2
  have ha16:=pow16 k4 ha
  have hb16:=pow16 l4 hb
  unfold M.vecBin at hK hno
  rw[if_pos ⟨hv1,hv2⟩] at hK hno
  simp only[push_cast]
  refine zh (fun a1=>?_) (fun a1=>?_)
  ·rw[if_pos a1] at hK hno
   refine zu fun w5 he5 _=>?_
   have h5:=h4.ext he5
   have g5:=g4.ext he5
   have r5:=r4.ext he5
   have hm:a*2^l≤524288:=shl_small ha16 (by omega)
   have e1:IntKind.i64.wrap ((k:Int)+(l:Int))=((k+l:Nat):Int):=by rw[zA (by omega) (by omega)];omega
   have eS:∀(w:World) (K:Value→World→Prop),zo PP .shl zc false (.int .i64 (a:Int)) (.int .i64 (l:Int)) w K=K (.int .i64 (a*2^l:Nat)) w:=fun w K=>vbin_shlI (by omega) (by omega)
   have eO:∀(w:World) (K:Value→World→Prop),zo PP .or zc false (.int .i64 ((a*2^l:Nat):Int)) (.int .i64 (b:Int)) w K=K (.int .i64 (a*2^l|||b:Nat)) w:=fun w K=>vbin_orI (by omega) (by omega)
   have eC:=M.cat_or l4 k4 ha hb
   obtain⟨q,hq⟩:∃q,q=a*2^l:=⟨_,rfl⟩
   obtain⟨z,hz⟩:∃z,z=q|||b:=⟨_,rfl⟩
   rw[←hq] at eS eO eC
   rw[←hz] at eO eC
   simp(disch:=(simp only[push_cast];done)) only[push_cast,h5.ld0,h5.ld1,g5.ld0,g5.ld1,true_and,e1,eS,eO]
   refine zC yS fun b4 w6 hb4 he6 hs6 p6=>?_
   have h6:=h5.ext he6
   have g6:=g5.ext he6
   have r6:=r5.ext he6
   simp(disch:=(simp only[push_cast];done)) only[push_cast,h6.ld0,h6.ld1,g6.ld0,g6.ld1,true_and,e1,eS,eO,and_self]
   refine stVec p6 fun w7 hw7 _ p7=>?_
   have hb34:b3≠b4:=by have:=r5.lt;omega
   have r7:=r6.same hw7 hb34
   have he7:Ext w3 w7:=Ext.then ((he4.trans he5).trans he6) hw7 fun y hy=>by subst hy;have:=(he4.trans he5).size;omega
   simp(disch:=(simp only[push_cast];done)) only[push_cast,p7.ld0]
   refine zh (fun a2=>hno ?_ _ he7) (fun a2=>?_)
   ·rw[if_neg (by omega)]
   ·simp(disch:=(simp only[push_cast];done)) only[push_cast,p7.ldAgg (t:=zb) zS]
    refine stVec r7 fun w8 hw8 _ r8=>?_
    rw[r8.lv (by kernel_rfl)]
    have:=hK w8 (hnew _ _ he7 hw8)
    rw[if_pos (by omega),←eC] at this
    exact this
  ·rw[if_neg a1] at hK hno
   refine zU (fun u w5=>u=[]∧w5=w4∧3≤op∧op≤13∧(k:Int)=l) (fun C hC=>?_) ?_
   ·refine zh (fun a2=>hno (by rw[if_neg (by omega)]) _ he4) (fun a2=>?_)
    refine zh (fun a3=>hno (by rw[if_neg (by omega)]) _ he4) (fun a3=>?_)
    simp(disch:=(simp only[push_cast];done)) only[push_cast,h4.ld0,g4.ld0]
    refine zh (fun a4=>hno (by rw[if_neg (by omega)]) _ he4) (fun a4=>?_)
    exact hC _ _ ⟨rfl,rfl,by omega,by omega,by omega⟩
   ·rintro u g w5 ⟨rfl,rfl,c3,c13,ckl⟩
    have:l=k:=by omega
    subst this
    refine zu fun w6 he6 _=>?_
    have h6:=h4.ext he6
    have g6:=g4.ext he6
    simp(disch:=(simp only[push_cast];done)) only[push_cast,h6.ldAgg (t:=zb) zS,g6.ldAgg (t:=zb) zS,true_and]
    refine binaries_spec fun w7 he7=>?_
    have h7:=h6.ext he7
    have g7:=g6.ext he7
    simp(disch:=(simp only[push_cast];done)) only[push_cast,h7.ldAgg (t:=zb) zS,g7.ldAgg (t:=zb) zS,true_and,and_self]
    obtain⟨o,rfl⟩:∃o:Nat,op=o:=⟨op.toNat,by omega⟩
    refine bin_all (by omega) (by omega) l1 l4 ha hb rfl ?_ fun x hx=>⟨rfl,hx⟩
    intro w8 r he8 hr hrm
    have h8:=h7.ext he8
    simp(disch:=(simp only[push_cast];done)) only[push_cast,h8.ldAgg (t:=zb) zS,true_and,and_self]
    refine vec_spec hr l1 l4 fun w9 he9=>?_
    have r9:=(((r4.ext he6).ext he7).ext he8).ext he9
    refine stVec r9 fun w10 hw10 _ r10=>?_
    rw[r10.lv (by kernel_rfl)]
    have:=hK w10 (hnew _ _ ((((he4.trans he6).trans he7).trans he8).trans he9) hw10)
    rw[if_pos ⟨c3,c13,rfl⟩] at this
    rw[hrm]
    exact this
theorem eqVec {a b c d:Int} {t:Bool}:zo PP .eql zb t (jU a b) (jU c d) w K=K (.bool (decide (a=c∧b=d))) w:=by
 refine yA (run_eqGuard_agg w _ _ _ _ _ _ (by kernel_rfl)) ?_
 have h0:(PP.fieldsOf zb).toList=[(PP.fieldsOf zb).getD 0 default,(PP.fieldsOf zb).getD 1 default]:=by kernel_rfl
 have n0:((PP.fieldsOf zb).getD 0 default).name≠ "_" :=by decide+kernel
 have n1:((PP.fieldsOf zb).getD 1 default).name≠ "_" :=by decide+kernel
 have i0:PP.underlying ((PP.fieldsOf zb).getD 0 default).type=some (.int .i64):=by kernel_rfl
 have i1:PP.underlying ((PP.fieldsOf zb).getD 1 default).type=some (.int .i64):=by kernel_rfl
 have p0:∀x y:Value,(part ((PP.fieldsOf zb).getD 0 default).type ⟨[x,y]⟩ ((PP.fieldsOf zb).getD 0 default).offset).run PP w= .ok x w:=fun x y=>by kernel_rfl
 have p1:∀x y:Value,(part ((PP.fieldsOf zb).getD 1 default).type ⟨[x,y]⟩ ((PP.fieldsOf zb).getD 1 default).offset).run PP w= .ok y w:=fun x y=>by kernel_rfl
 have hE:(Op.equalIn 10000 zb (jU a b) (jU c d)).run PP w= .ok (decide (a=c∧b=d)) w:=by
  rw[run_equalIn_struct w 9999 zb _ _ (by kernel_rfl) (by kernel_rfl),h0]
  generalize (PP.fieldsOf zb).getD 0 default=f0 at n0 i0 p0⊢
  generalize (PP.fieldsOf zb).getD 1 default=f1 at n1 i1 p1⊢
  simp only[Op.eqFields,if_pos n0,if_pos n1,Sem.run_bind,p0,p1,Result.andThen_ok,run_equalIn_int w 9998 _ _ _ _ _ i0,run_equalIn_int w 9998 _ _ _ _ _ i1]
  by_cases e1:a=c
  ·by_cases e2:b=d
   ·subst e1;subst e2;simp[run_equalIn_int w 9998 _ _ _ _ _ i1,p1]
   ·subst e1;simp[run_equalIn_int w 9998 _ _ _ _ _ i1,p1,e2]
  ·simp[e1]
 rw[run_eql_struct,hE]
 rfl
theorem VecCmp_spec {op wd n v m:Int} (hK:∀w',Ext w w'→K (.tuple #[.bool (M.vecCmp op wd n v m).1,.bool (M.vecCmp op wd n v m).2]) w'):vcall PP Xe #[.int .i64 op,jU wd n,jU v m] w K:=by
 apply xj0;unfold VI
 refine zy fun b1 w1 hb1 he1 hs1 h1=>?_
 refine zy fun b2 w2 hb2 he2 hs2 g2=>?_
 have hE:=he1.trans he2
 have h3:=h1.ext he2
 have hno:(M.vecCmp op wd n v m)=(false,false)→∀w4,Ext w2 w4→K (.tuple #[.bool false,.bool false]) w4:=by
  intro e w4 he4
  have:=hK w4 (hE.trans he4)
  rwa[e] at this
 refine zU (fun u w4=>u=[]∧Ext w2 w4∧M.vok wd n=true∧M.vok v m=true∧wd=v) (fun C hC=>?_) ?_
 ·simp(disch:=(simp only[push_cast];done)) only[push_cast,h3.ldAgg (t:=zb) zS]
  refine VecOk_spec fun w4 he4=>?_
  have g4:=g2.ext he4
  simp only[push_cast]
  refine yx (fun hv=>hno ?_ _ he4) (fun hv=>?_)
  ·unfold M.vecCmp;rw[if_neg (by simp at hv;simp[hv])]
  ·simp(disch:=(simp only[push_cast];done)) only[push_cast,g4.ldAgg (t:=zb) zS]
   refine VecOk_spec fun w5 he5=>?_
   have g5:=g4.ext he5
   have h5:=(h3.ext he4).ext he5
   simp only[push_cast]
   refine yx (fun hv2=>hno ?_ _ (he4.trans he5)) (fun hv2=>?_)
   ·unfold M.vecCmp;rw[if_neg (by simp at hv2;simp[hv2])]
   ·simp(disch:=(simp only[push_cast];done)) only[push_cast,h5.ld0,g5.ld0]
    refine zh (fun a1=>hno ?_ _ (he4.trans he5)) (fun a1=>?_)
    ·unfold M.vecCmp;rw[if_neg (fun h=>a1 h.2.2.1)]
    ·exact hC _ _ ⟨rfl,he4.trans he5,by simpa using hv,by simpa using hv2,by omega⟩
 ·rintro u g w4 ⟨rfl,he4,hv1,hv2,rfl⟩
  have h4:=h3.ext he4
  have g4:=g2.ext he4
  unfold M.vecCmp at hK hno
  simp only[push_cast]
  refine zh (fun a1=>?_) (fun a1=>?_)
  ·subst a1
   simp(disch:=(simp only[push_cast];done)) only[push_cast,h4.ldAgg (t:=zb) zS,g4.ldAgg (t:=zb) zS]
   rw[eqVec]
   have:=hK w4 (hE.trans he4)
   rw[if_pos ⟨hv1,hv2,rfl,by omega,by omega⟩] at this
   simp only[M.cmpM,if_true] at this
   simp only[true_and]
   exact this
  refine zh (fun a2=>?_) (fun a2=>?_)
  ·subst a2
   simp(disch:=(simp only[push_cast];done)) only[push_cast,h4.ld1,g4.ld1]
   have:=hK w4 (hE.trans he4)
   rw[if_pos ⟨hv1,hv2,rfl,by omega,by omega⟩] at this
   exact this
  refine zh (fun a3=>?_) (fun a3=>?_)
  ·subst a3
   refine zu fun w5 he5 _=>?_
   have h5:=h4.ext he5
   have g5:=g4.ext he5
   simp(disch:=(simp only[push_cast];done)) only[push_cast,h5.ldAgg (t:=zb) zS,g5.ldAgg (t:=zb) zS,true_and]
   refine VecSigned_spec fun w6 he6=>?_
   have g6:=g5.ext he6
   simp(disch:=(simp only[push_cast];done)) only[push_cast,g6.ldAgg (t:=zb) zS,true_and,and_self]
   refine VecSigned_spec fun w7 he7=>?_
   simp only[push_cast,if_pos hv1,if_pos hv2,true_and]
   have:=hK w7 (((hE.trans he4).trans he5).trans (he6.trans he7))
   rw[if_pos ⟨hv1,hv2,rfl,by omega,by omega⟩] at this
   exact this
  ·exact hno (by rw[if_neg (fun h=>by omega)]) _ he4
theorem VecCut_spec {wd n hi lo:Int} (hK:∀w',Ext w w'→K (.tuple #[jU (M.vecCut wd n hi lo).1.1 (M.vecCut wd n hi lo).1.2,.bool (M.vecCut wd n hi lo).2]) w'):vcall PP Z9 #[jU wd n,.int .i64 hi,.int .i64 lo] w K:=by
 apply xi0;unfold VH
 refine zy fun b1 w1 hb1 he1 hs1 h1=>?_
 refine zC yS fun b3 w3 hb3 he3 hs3 r3=>?_
 have hE:=he1.trans he3
 have hz1:=he1.size
 have h3:=h1.ext he3
 have hnew:∀w4 w5,Ext w3 w4→Same (· =b3) w4 w5→Ext w w5:=fun w4 w5 h h'=>Ext.then (hE.trans h) h' fun y hy=>by subst hy;omega
 have hno:(M.vecCut wd n hi lo)=((0,0),false)→∀w4,Ext w3 w4→zp PP zb (.pointer (some ⟨b3,0,none⟩)) (jU 0 0) w4 fun _ w5=>vlv PP zb (.pointer (some ⟨b3,0,none⟩)) w5 fun r w6=>K (.tuple #[r,.bool false]) w6:=by
  intro e w4 he4
  refine stVec (r3.ext he4) fun w5 hw5 _ r5=>?_
  rw[r5.lv (by kernel_rfl)]
  have:=hK w5 (hnew _ _ he4 hw5)
  rwa[e] at this
 unfold M.vecCut at hK hno
 refine zU (fun u w4=>u=[]∧Ext w3 w4∧M.vok wd n=true∧0≤lo∧lo≤hi∧hi<wd) (fun C hC=>?_) ?_
 ·simp(disch:=(simp only[push_cast];done)) only[push_cast,h3.ldAgg (t:=zb) zS]
  refine VecOk_spec fun w4 he4=>?_
  have h4:=h3.ext he4
  simp only[push_cast]
  refine yx (fun hv=>hno ?_ _ he4) (fun hv=>?_)
  ·rw[if_neg (by simp at hv;simp[hv])]
  refine zh (fun a1=>hno (if_neg (by omega)) _ he4) (fun a1=>?_)
  refine zh (fun a2=>hno (if_neg (by omega)) _ he4) (fun a2=>?_)
  simp(disch:=(simp only[push_cast];done)) only[push_cast,h4.ld0]
  refine zh (fun a3=>hno (if_neg (by omega)) _ he4) (fun a3=>?_)
  exact hC _ _ ⟨rfl,he4,by simpa using hv,by omega,by omega,by omega⟩
 ·rintro u g w4 ⟨rfl,he4,hv,c1,c2,c3⟩
  have h4:=h3.ext he4
  have r4:=r3.ext he4
  obtain⟨k,a,rfl,rfl,k1,k4,ha⟩:=M.vok_nat hv
  obtain⟨l,rfl⟩:∃l:Nat,lo=l:=⟨lo.toNat,by omega⟩
  obtain⟨t,ht⟩:∃t:Nat,hi-(l:Int)+1=t:=⟨(hi-l+1).toNat,by omega⟩
  have ha16:=pow16 k4 ha
  have e1:IntKind.i64.wrap (IntKind.i64.wrap (hi-(l:Int))+1)=(t:Int):=by rw[zA (x:=hi-l) (by omega) (by omega),zA (by omega) (by omega)];omega
  simp(disch:=(simp only[push_cast];done)) only[push_cast,h4.ldAgg (t:=zb) zS,e1]
  refine raw_spec (by omega) fun w5 he5=>?_
  have hd:=Nat.div_le_self a (2^l)
  rw[vbin_shrU (by omega)]
  refine cut_spec (by omega) (by omega) (by omega) ?_
  have hm:=Nat.mod_le (a/2^l) (2^t)
  have hres:M.cutM (a:Int) hi (l:Int)=((a/2^l%2^t:Nat):Int):=by
   unfold M.cutM
   rw[ht]
   simp
  rw[if_pos ⟨hv,c1,c2,c3⟩] at hK
  simp only[hres,ht] at hK
  obtain⟨z,hz⟩:∃z,z=a/2^l%2^t:=⟨_,rfl⟩
  rw[←hz] at hm hK⊢
  rw[qC Ul UB,wrapN (by omega)]
  simp only[push_cast]
  refine stVec (r4.ext he5) fun w6 hw6 _ r6=>?_
  rw[r6.lv (by kernel_rfl)]
  exact hK w6 (hnew _ _ (he4.trans he5) hw6)
end Go.Proofs.YtaekfnbnhjgboaaGreatDoor
end
section
namespace Go.Proofs.YtaekfnbnhjgboaaGreatDoor
open Go Go.Vc Go.Proofs
variable {w:World} {K:Value→World→Prop} {F G:Nat→Prop}
@[push_cast] theorem tn0:(0:Int).toNat=0:=rfl
@[push_cast] theorem tn1:(1:Int).toNat=1:=rfl
@[push_cast] theorem tn2:(2:Int).toNat=2:=rfl
theorem kG0 {α:Type} (xs:List α) (d:α) (p:α→Bool):(List.range xs.length).any (fun i=>p (xs.getD i d))=xs.any p:=by
 rw[Bool.eq_iff_iff,List.any_eq_true,List.any_eq_true]
 constructor
 ·rintro⟨i,hi,hp⟩
  exact⟨_,M.getD_mem (List.mem_range.1 hi) d,hp⟩
 ·rintro⟨x,hx,hp⟩
  obtain⟨i,hi,rfl⟩:=List.getElem_of_mem hx
  exact⟨i,List.mem_range.2 hi,by rw[List.getD_eq_getElem?_getD,List.getElem?_eq_getElem hi];exact hp⟩
abbrev DclV (d:M.Dcl):Value:= .agg ⟨[.string d.1,.int .i64 d.2]⟩
abbrev VN:M.Dcl:=(M.nada,0)
theorem IndexFunc_Decl {v f:Value} {ds:List M.Dcl} {p:Nat→Bool} (hx:DclsR F w v ds) (hf:∀i,i<ds.length→FnB PP w f #[DclV (ds.getD i VN)] (p i))
  (hK:∀w',Ext w w'→K (.int .i64 (idxI ds.length p)) w'):vcall PP yi #[v,f] w K:=by
 apply qQ
 unfold xA
 simp(disch:=first|(simp only[push_cast];done)|omega) only[push_cast,hx.len]
 have hlen:=hx.small
 refine vloop_up ds.length (fun i u w'=>u=[.int .i64 i]∧Ext w w'∧∀j,j<i→p j=false) ⟨rfl,Same.refl _ _,by omega⟩ ?_
 rintro i _ g w1 C hi ⟨rfl,he,hp⟩ hC
 simp only[push_cast]
 refine zh (fun hlt=>?_) (fun hge=>?_)
 ·have hx1:=hx.ext he
  simp(disch:=first|(simp only[push_cast];done)|omega) only[push_cast,hx1.iaddr,hx1.load]
  refine hf i (by omega) w1 _ he fun w2 he2=>yx (fun hb=>?_) (fun hb=>?_)
  ·have:=hK w2 (he.trans he2)
   rwa[idxI_some (by omega) hb hp] at this
  ·rw[inc64' (by omega)]
   exact hC (by omega) _ _ ⟨rfl,he.trans he2,fun j hj=>by
    by_cases h:j=i
    ·subst h;exact hb
    ·exact hp j (by omega)⟩
 ·have:=hK w1 he
  rwa[UD (fun j hj=>hp j (by omega))] at this
theorem Wn {v f:Value} {ds:List M.Dcl} {p:Nat→Bool} (hx:DclsR F w v ds) (hf:∀i,i<ds.length→FnB PP w f #[DclV (ds.getD i VN)] (p i))
  (hK:∀w',Ext w w'→K (.bool ((List.range ds.length).any p)) w'):vcall PP yz #[v,f] w K:=by
 apply qm
 unfold xj
 refine IndexFunc_Decl hx hf fun w' he=>?_
 simp only[push_cast,Kb]
 exact hK w' he
theorem Ut {b:Bool} (hK:K (.int .i64 (M.b2i b)) w):vcall PP Z8 #[.bool b] w K:=by
 apply xf0;unfold VE
 refine yx (fun h=>?_) (fun h=>?_)<;>subst h<;>exact hK
theorem YV {b:Bool} {s:Int} (hK:K (.int .i64 (if b=true then s else-1)) w):vcall PP yc #[.bool b,.int .i64 s] w K:=by
 apply xd0;unfold VB
 refine yx (fun h=>?_) (fun h=>?_)<;>subst h<;>exact hK
theorem ka {p:Prop} [Decidable p] {s:Int} (hK:K (.int .i64 (if p then s else-1)) w):vcall PP yc #[.bool (decide p),.int .i64 s] w K:=
 YV (by simpa using hK)
theorem Zk {s:Int} (hK:K (.int .i64 (-1)) w):vcall PP yc #[.bool false,.int .i64 s] w K:=YV hK
theorem jM {s:ByteArray} {n:Int} (hK:∀w',Ext w w'→K (.int .i64 n) w'):vcall PP yq #[.agg ⟨[.string s,.int .i64 n]⟩] w K:=by
 apply W8;unfold YG
 refine zy fun b1 w1 hb1 he1 hs1 h1=>?_
 simp(disch:=(simp only[push_cast];done)) only[push_cast,h1.ld1]
 exact hK _ he1
abbrev KV (s:ByteArray) (n:Int):Value:= .agg ⟨[.string s,.int .i64 n]⟩
theorem unKind_sort_spec {s:ByteArray} {n:Int} {dv tv kv:Value} {t:M.Tm} {xs:List Int} (ht:TermR F w tv t) (hx:Ints G w kv xs) (hl:xs.length=1)
  (hK:∀w',Ext w w'→K (.int .i64 (if 0<xs.getD 0 0 then xs.getD 0 0 else-1)) w'):vcall PP jA #[KV s n,dv,tv,kv] w K:=by
 apply KR;unfold ZY
 obtain⟨ksv,rfl,hks⟩:=ht
 refine zy fun b1 w1 hb1 he1 hs1 h1=>?_
 refine zy fun b2 w2 hb2 he2 hs2 h2=>?_
 refine zu fun w3 he3 _=>?_
 have hx3:=hx.ext ((he1.trans he2).trans he3)
 simp(disch:=first|(simp only[push_cast];done)|omega) only[push_cast,hx3.iaddr,hx3.load,true_and]
 exact ka (hK _ ((he1.trans he2).trans he3))
theorem binKind_sort_spec {s:ByteArray} {n:Int} {dv tv kv:Value} {t:M.Tm} {xs:List Int} (ht:TermR F w tv t) (hx:Ints G w kv xs) (hl:xs.length=2)
  (hK:∀w',Ext w w'→K (.int .i64 (if 0<xs.getD 0 0∧xs.getD 0 0=xs.getD 1 0 then xs.getD 0 0 else-1)) w'):vcall PP jl #[KV s n,dv,tv,kv] w K:=by
 apply Kt;unfold ZM
 obtain⟨ksv,rfl,hks⟩:=ht
 refine zy fun b1 w1 hb1 he1 hs1 h1=>?_
 refine zy fun b2 w2 hb2 he2 hs2 h2=>?_
 refine zu fun w3 he3 _=>?_
 have hx3:=hx.ext ((he1.trans he2).trans he3)
 have hk:=hK _ ((he1.trans he2).trans he3)
 simp(disch:=first|(simp only[push_cast];done)|omega) only[push_cast,hx3.iaddr,hx3.load,true_and]
 refine zh (fun a=>?_) (fun a=>?_)
 ·refine ka ?_
  simpa only[a,true_and] using hk
 ·refine Zk ?_
  simpa only[a,false_and,if_false] using hk
theorem cmpKind_sort_spec {s:ByteArray} {n:Int} {dv tv kv:Value} {t:M.Tm} {xs:List Int} (ht:TermR F w tv t) (hx:Ints G w kv xs) (hl:xs.length=2)
  (hK:∀w',Ext w w'→K (.int .i64 (if 0<xs.getD 0 0∧xs.getD 0 0=xs.getD 1 0 then 0 else-1)) w'):vcall PP jh #[KV s n,dv,tv,kv] w K:=by
 apply Ki;unfold ZD
 obtain⟨ksv,rfl,hks⟩:=ht
 refine zy fun b1 w1 hb1 he1 hs1 h1=>?_
 refine zy fun b2 w2 hb2 he2 hs2 h2=>?_
 refine zu fun w3 he3 _=>?_
 have hx3:=hx.ext ((he1.trans he2).trans he3)
 have hk:=hK _ ((he1.trans he2).trans he3)
 simp(disch:=first|(simp only[push_cast];done)|omega) only[push_cast,hx3.iaddr,hx3.load,true_and]
 refine zh (fun a=>?_) (fun a=>?_)
 ·refine ka ?_
  simpa only[a,true_and] using hk
 ·refine Zk ?_
  simpa only[a,false_and,if_false] using hk
theorem catKind_sort_spec {s:ByteArray} {n:Int} {dv tv kv:Value} {t:M.Tm} {xs:List Int} (ht:TermR F w tv t) (hx:Ints G w kv xs) (hl:xs.length=2) (hr:∀i,-1≤xs.getD i 0∧xs.getD i 0≤4)
  (hK:∀w',Ext w w'→K (.int .i64 (if 0<xs.getD 0 0∧0<xs.getD 1 0∧xs.getD 0 0+xs.getD 1 0≤4 then xs.getD 0 0+xs.getD 1 0 else-1)) w'):vcall PP ji #[KV s n,dv,tv,kv] w K:=by
 apply Kk;unfold ZF
 obtain⟨ksv,rfl,hks⟩:=ht
 refine zy fun b1 w1 hb1 he1 hs1 h1=>?_
 refine zy fun b2 w2 hb2 he2 hs2 h2=>?_
 refine zu fun w3 he3 _=>?_
 have hx3:=hx.ext ((he1.trans he2).trans he3)
 have hk:=hK _ ((he1.trans he2).trans he3)
 have r0:=hr 0
 have r1:=hr 1
 have e1:IntKind.i64.wrap (xs.getD 0 0+xs.getD 1 0)=xs.getD 0 0+xs.getD 1 0:=zA (by omega) (by omega)
 simp(disch:=first|(simp only[push_cast];done)|omega) only[push_cast,hx3.iaddr,hx3.load,true_and,e1]
 refine zh (fun a=>?_) (fun a=>?_)
 ·refine zh (fun b=>?_) (fun b=>?_)
  ·refine ka ?_
   simpa only[a,b,true_and] using hk
  ·refine Zk ?_
   simpa only[b,false_and,and_false,if_false] using hk
 ·refine Zk ?_
  simpa only[a,false_and,if_false] using hk
theorem ifKind_sort_spec {s:ByteArray} {n:Int} {dv tv kv:Value} {t:M.Tm} {xs:List Int} (ht:TermR F w tv t) (hx:Ints G w kv xs) (hl:xs.length=3)
  (hK:∀w',Ext w w'→K (.int .i64 (if xs.getD 0 0=0∧xs.getD 1 0=xs.getD 2 0 then xs.getD 1 0 else-1)) w'):vcall PP jC #[KV s n,dv,tv,kv] w K:=by
 apply KU;unfold Y0
 obtain⟨ksv,rfl,hks⟩:=ht
 refine zy fun b1 w1 hb1 he1 hs1 h1=>?_
 refine zy fun b2 w2 hb2 he2 hs2 h2=>?_
 refine zu fun w3 he3 _=>?_
 have hx3:=hx.ext ((he1.trans he2).trans he3)
 have hk:=hK _ ((he1.trans he2).trans he3)
 simp(disch:=first|(simp only[push_cast];done)|omega) only[push_cast,hx3.iaddr,hx3.load,true_and]
 refine zh (fun a=>?_) (fun a=>?_)
 ·refine ka ?_
  simpa only[a,true_and] using hk
 ·refine Zk ?_
  simpa only[a,false_and,if_false] using hk
theorem VO {s:ByteArray} {n:Int} {dv tv kv:Value} {t:M.Tm} (ht:TermR F w tv t)
  (hK:∀w',Ext w w'→K (.int .i64 (if M.vok t.a t.b=true then t.a else-1)) w'):vcall PP jc #[KV s n,dv,tv,kv] w K:=by
 apply Kd;unfold Zy
 obtain⟨ksv,rfl,hks⟩:=ht
 refine zy fun b1 w1 hb1 he1 hs1 h1=>?_
 refine zy fun b2 w2 hb2 he2 hs2 h2=>?_
 refine zu fun w3 he3 _=>?_
 have h3:=h2.ext he3
 simp(disch:=first|(simp only[push_cast];done)|omega) only[push_cast,h3.ld1,h3.ld2,true_and]
 refine VecOk_spec fun w4 he4=>?_
 have h4:=h3.ext he4
 simp(disch:=first|(simp only[push_cast];done)|omega) only[push_cast,h4.ld1,true_and,and_self]
 exact YV (hK _ (((he1.trans he2).trans he3).trans he4))
theorem cutKind_sort_spec {s:ByteArray} {n:Int} {dv tv kv:Value} {t:M.Tm} {xs:List Int} (ht:TermR F w tv t) (hx:Ints G w kv xs) (hl:xs.length=1) (hr:∀i,-1≤xs.getD i 0∧xs.getD i 0≤4)
  (hK:∀w',Ext w w'→K (.int .i64 (if 0≤t.b∧t.b≤t.a∧t.a<xs.getD 0 0 then t.a-t.b+1 else-1)) w'):vcall PP jg #[KV s n,dv,tv,kv] w K:=by
 apply Kh;unfold ZC
 obtain⟨ksv,rfl,hks⟩:=ht
 refine zy fun b1 w1 hb1 he1 hs1 h1=>?_
 refine zy fun b2 w2 hb2 he2 hs2 h2=>?_
 refine zu fun w3 he3 _=>?_
 have hx3:=hx.ext ((he1.trans he2).trans he3)
 have h3:=h2.ext he3
 have hk:=hK _ ((he1.trans he2).trans he3)
 have r0:=hr 0
 simp(disch:=first|(simp only[push_cast];done)|omega) only[push_cast,h3.ld1,h3.ld2,hx3.iaddr,hx3.load,true_and]
 refine zh (fun a=>?_) (fun a=>?_)
 ·refine zh (fun b=>?_) (fun b=>?_)
  ·by_cases c:t.a<xs.getD 0 0
   ·have e1:IntKind.i64.wrap (IntKind.i64.wrap (t.a-t.b)+1)=t.a-t.b+1:=by rw[zA (x:=t.a-t.b) (by omega) (by omega),zA (by omega) (by omega)]
    rw[e1]
    refine ka ?_
    simpa only[a,b,c,true_and] using hk
   ·refine ka ?_
    simpa only[c,and_false,if_false] using hk
  ·refine Zk ?_
   simpa only[b,false_and,and_false,if_false] using hk
 ·refine Zk ?_
  simpa only[a,false_and,if_false] using hk
theorem V9 {s:ByteArray} {n:Int} {f dv tv kv:Value} {t:M.Tm} {xs:List Int} (ht:TermR F w tv t) (hx:Ints G w kv xs)
  (hK:∀w',Ext w w'→K (.int .i64 (if xs.any (fun x=>decide (x≠0)) then-1 else 0)) w'):vcall PP j2 #[.agg ⟨[.string s,.int .i64 n,f]⟩,dv,tv,kv] w K:=by
 apply Jh;unfold kZ
 obtain⟨ksv,rfl,hks⟩:=ht
 refine zy fun b1 w1 hb1 he1 hs1 h1=>?_
 refine zy fun b2 w2 hb2 he2 hs2 h2=>?_
 have hx3:=hx.ext (he1.trans he2)
 refine Qz (p:=fun i=>decide (xs.getD i 0≠0)) hx3 (fun i hi=>?_) fun w3 he3=>?_
 ·rw[xG0 (by simpa using hi)]
  intro w' K he hK
  simp only[push_cast]
  apply XC;unfold jZ
  simp only[push_cast]
  have:=hK _ (Same.refl _ _)
  simpa using this
 ·have hk:=hK _ ((he1.trans he2).trans he3)
  rw[List.length_map,kG0 xs 0 (fun x=>decide (x≠0))]
  simp only[push_cast]
  refine YV ?_
  cases hb:xs.any fun x=>decide (x≠0)<;>rw[hb] at hk<;>exact hk
theorem nameKind_sort_spec {s:ByteArray} {n:Int} {dv tv kv:Value} {t:M.Tm} {ds:List M.Dcl} (ht:TermR F w tv t) (hd:DclsR G w dv ds)
  (hK:∀w',Ext w w'→K (.int .i64 (if M.findD ds t.s<0 then-1 else(ds.getD (M.findD ds t.s).toNat VN).2)) w'):vcall PP qX #[KV s n,dv,tv,kv] w K:=by
 apply Jb;unfold kT
 obtain⟨ksv,rfl,hks⟩:=ht
 refine zy fun b1 w1 hb1 he1 hs1 h1=>?_
 refine zy fun b2 w2 hb2 he2 hs2 h2=>?_
 simp only[push_cast]
 have hd2:=hd.ext (he1.trans he2)
 refine IndexFunc_Decl (p:=fun i=>decide ((ds.getD i VN).1=t.s)) hd2 (fun i hi=>?_) fun w3 he3=>?_
 ·intro w' K he hK
  simp only[push_cast]
  apply XA;unfold jX
  refine zy fun b3 w4 hb3 he4 hs4 h4=>?_
  have h5:=(h2.ext he).ext he4
  simp(disch:=first|(simp only[push_cast];done)|omega) only[push_cast,h4.ld0,h5.ld3]
  exact hK _ he4
 ·have hfd:=M.findD_lt ds t.s
  have hk:=hK _ ((he1.trans he2).trans he3)
  have hd3:=hd2.ext he3
  have efd:idxI ds.length (fun i=>decide ((ds.getD i VN).1=t.s))=M.findD ds t.s:=rfl
  rw[efd]
  simp only[push_cast]
  refine zh (fun a=>?_) (fun a=>?_)
  ·rwa[if_pos a] at hk
  ·rw[if_neg a] at hk
   simp(disch:=first|(simp only[push_cast];done)|omega) only[push_cast,hd3.iaddr]
   simp(disch:=first|(simp only[push_cast];done)|omega) only[push_cast,hd3.load1]
   exact hk
end Go.Proofs.YtaekfnbnhjgboaaGreatDoor
end
section
namespace Go.Proofs.YtaekfnbnhjgboaaGreatDoor
open Go Go.Vc Go.Proofs
variable {w:World} {K:Value→World→Prop} {F:Nat→Prop}
theorem l1Max_spec {a b:Int} (hK:K (.int .i64 (max a b)) w):vcall PP XS #[.int .i64 a,.int .i64 b] w K:=by
 apply q40;unfold WM
 simp only[push_cast]
 refine zh (fun h=>?_) (fun h=>?_)
 ·rwa[show max a b=a by omega] at hK
 ·rwa[show max a b=b by omega] at hK
theorem l1Min_spec {a b:Int} (hK:K (.int .i64 (min a b)) w):vcall PP XR #[.int .i64 a,.int .i64 b] w K:=by
 apply q30;unfold WL
 simp only[push_cast]
 refine zh (fun h=>?_) (fun h=>?_)
 ·rwa[show min a b=a by omega] at hK
 ·rwa[show min a b=b by omega] at hK
theorem pow62 {k:Nat} (h:k≤62):2^k≤4611686018427387904:=Nat.le_trans (Nat.pow_le_pow_right (by omega) h) (by decide)
theorem l1Two_spec {n:Int} (h:n≤62) (hK:K (.int .i64 ((2^n.toNat:Nat):Int)) w):vcall PP xQ #[.int .i64 n] w K:=by
 apply q20;unfold WK
 refine vloop_up n.toNat (fun i u w'=>u=[.int .i64 (2^i:Nat),.int .i64 i]∧w'=w) ⟨rfl,rfl⟩ ?_
 rintro i _ _ w1 C hi ⟨rfl,rfl⟩ hC
 have hp:=pow62 (k:=i) (by omega)
 have e1:((2^i:Nat):Int)*2=((2^(i+1):Nat):Int):=by rw[Nat.pow_succ];omega
 have hp2:i<n.toNat→2^(i+1)≤4611686018427387904:=fun h=>pow62 (by omega)
 obtain⟨q,hq⟩:∃q,q=2^i:=⟨_,rfl⟩
 obtain⟨q2,hq2⟩:∃q2,q2=2^(i+1):=⟨_,rfl⟩
 rw[←hq] at e1 hp⊢
 rw[←hq2] at e1 hC hp2
 simp only[push_cast]
 refine zh (fun a=>?_) (fun a=>?_)
 ·have hp2':=hp2 (by omega)
  rw[e1,zA (by omega) (by omega),inc64' (by omega)]
  exact hC (by omega) _ _ ⟨rfl,rfl⟩
 ·have:i=n.toNat:=by omega
  subst this
  rw[hq];exact hK
theorem l1Two_nat {n:Nat} (h:n≤62) (hK:K (.int .i64 ((2^n:Nat):Int)) w):vcall PP xQ #[.int .i64 (n:Int)] w K:=
 l1Two_spec (by omega) (by rwa[Int.toNat_natCast])
theorem spec_VecOk_spec {wd n:Int} (hK:∀w',Ext w w'→K (.bool (M.vok wd n)) w'):vcall PP XU #[jU wd n] w K:=by
 apply q60;unfold WO
 refine zy fun b1 w1 hb1 he1 hs1 h1=>?_
 refine zu fun w2 he2 _=>?_
 have h2:=h1.ext he2
 have hE:=he1.trans he2
 simp(disch:=(simp only[push_cast];done)) only[push_cast,h2.ld0,h2.ld1,true_and]
 have hk:=hK w2 hE
 refine zh (fun a1=>?_) (fun a1=>?_)
 ·refine zh (fun a2=>?_) (fun a2=>?_)
  ·refine zh (fun a3=>?_) (fun a3=>?_)
   ·refine l1Two_spec (by omega) ?_
    obtain⟨q,hq⟩:∃q,q=2^wd.toNat:=⟨_,rfl⟩
    have hv:M.vok wd n=decide (n<(q:Nat)):=by
     simp only[M.vok,decide_eq_true a1,decide_eq_true a2,decide_eq_true a3,Bool.true_and]
     rw[hq,yc0]
    rw[←hq]
    simp(disch:=(simp only[push_cast];done)) only[push_cast,h2.ld1,true_and,and_self]
    rw[hv] at hk
    exact hk
   ·have hv:M.vok wd n=false:=by simp only[M.vok,decide_eq_false a3,Bool.and_false,Bool.false_and]
    rw[hv] at hk;exact hk
  ·have hv:M.vok wd n=false:=by simp only[M.vok,decide_eq_false a2,Bool.and_false,Bool.false_and]
   rw[hv] at hk;exact hk
 ·have hv:M.vok wd n=false:=by simp only[M.vok,decide_eq_false a1,Bool.false_and]
  rw[hv] at hk;exact hk
theorem l1Bit_spec {n k:Nat} (hn:n<9223372036854775808) (hk:k≤62) (hK:K (.int .i64 ((n/2^k%2:Nat):Int)) w):vcall PP XT #[.int .i64 (n:Int),.int .i64 (k:Int)] w K:=by
 apply q50;unfold WN
 refine l1Two_nat hk ?_
 have hp:0<2^k:=Nat.pow_pos (by omega)
 have hd:n/2^k≤n:=Nat.div_le_self _ _
 rw[U6 (by omega),show(n:Int).tdiv ((2^k:Nat):Int)=((n/2^k:Nat):Int) from rfl,wrapN (by omega),ZQ (by omega),show((n/2^k:Nat):Int).tmod 2=((n/2^k%2:Nat):Int) from rfl]
 exact hK
end Go.Proofs.YtaekfnbnhjgboaaGreatDoor
end
