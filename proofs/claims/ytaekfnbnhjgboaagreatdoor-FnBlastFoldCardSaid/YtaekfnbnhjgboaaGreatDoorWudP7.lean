import Derived.Test.YtaekfnbnhjgboaaGreatDoorWudP6
import Derived.Test.YtaekfnbnhjgboaaGreatDoorWudP2
import Derived.Test.YtaekfnbnhjgboaaGreatDoorWudP3
import Derived.Test.YtaekfnbnhjgboaaGreatDoorWudP4
import Derived.Test.YtaekfnbnhjgboaaGreatDoorWudP5
/- A part of the proof. -/
set_option linter.unusedVariables false
set_option linter.unusedSimpArgs false
set_option linter.unnecessarySimpa false
set_option linter.unusedSectionVars false
section
namespace Go.Proofs.YtaekfnbnhjgboaaGreatDoor
open Go Go.Vc Go.Proofs
variable {w:World} {K:Value→World→Prop} {F F' Fx Fy X:Nat→Prop} {n bc mb bb:Nat} {gs:M.Gs} {v:Value} {ar ab:Addr} {st:Option M.Gs}
theorem choose_spec {c:Int} {xv yv:Value} {xs ys:List Int} (h:BdR n bb ar ab X F w st) (t:∃gs,st=some gs) (Q:Ints (Off X F) w xv xs) (R:Ints (Off X F) w yv ys) (hl:xs.length=ys.length) (J:xs.length≤1000) (A:SmL xs) (C:SmL ys) (P:Sm c)
  (L:∀w' F' st' r zs,BdR n bb ar ab X F' w' st'→Mv F w F' w'→Ints (Off X F') w' r zs→SmL zs→M.Bd.Out n (M.eachB (M.muxB c) xs ys) st st' zs→K r w'):
  vcall PP jf #[.pointer (some ⟨bb,0,none⟩),.int .i64 c,xv,yv] w K:=by
 apply JL
 obtain⟨gs,rfl⟩:=t
 refine Zg fun b1 Z N q S d=>?_
 replace d:Blk Z b1 [.pointer (some ⟨bb,0,none⟩)] zS:=d
 refine Zg fun b2 E O f T e=>?_
 replace e:Blk E b2 [.int .i64 c] zt:=e
 have a:=d.ext f
 have k:=q.trans f
 have l:=h.ext k
 have g:Ints (Off X F) E xv xs:=Q.ext k
 have i:Ints (Off X F) E yv ys:=R.ext k
 obtain⟨bc,H,hC⟩:=l.blk
 simp only at H
 simp(disch:=first|(simp only[push_cast];done)|omega) only[push_cast,a.ld0,g.len,i.len,xY J6 l.err.bits.cell]
 rw[decide_eq_false (by omega)]
 refine yv0 ?_
 simp(disch:=first|(simp only[push_cast];done)|omega) only[push_cast,a.ld0,H.ld1,VE]
 refine each_spec (p:=M.muxB c) l g i (by omega) J A C ?_ fun I G j r zs m b v D u=>L I G j r zs m ?_ v.ints D u
 ·intro I G j x y K3 m b z B o
  have W: ¬F b1:=fun s=>by have:=h.lt _ (.inl s);omega
  have Y: ¬F b2:=fun s=>by have:=h.lt _ (.inl s);omega
  have U:=a.same b.same W
  have V:=e.same b.same Y
  refine QE ?_
  unfold kX
  simp(disch:=first|(simp only[push_cast];done)|omega) only[push_cast,U.ld0,V.ld0]
  exact bmux_spec m P z B o
 ·exact(Mv.refl.ext k).trans b
theorem Wx {p:Int→Int→M.Bd Int} {xs ys:List Int} {i:Nat} (a:i<xs.length) (b:i<ys.length):M.eachB p (xs.drop i) (ys.drop i)=(p (xs.getD i 0) (ys.getD i 0)).bind fun s=>(M.eachB p (xs.drop (i+1)) (ys.drop (i+1))).map (s:: ·):=by
 rw[xF a,xF b];rfl
theorem Ints.low {v:Value} {xs:List Int} (h:Ints (Off X F) w v xs):Ints (fun b=> ¬F b∧b<w.heap.size) w v xs:=Ints.weaken h fun _ a c=>⟨a.1,c⟩
theorem Ints.lowMv {v:Value} {xs:List Int} {B:Nat} {w':World} (h:Ints (fun b=> ¬F b∧b<B) w v xs) (hm:Mv F w F' w'):Ints (fun b=> ¬F' b∧b<B) w' v xs:=by
 have c:Ints (fun b=>(¬F b∧b<B)∧b<w.heap.size) w v xs:=Ints.weaken h fun _ c d=>⟨c,d⟩
 have d:=Ints.same c hm.same fun b a _=>a.1.1
 exact Ints.weaken d fun b a _=>⟨hm.off a.1.1 a.2,a.1.2⟩
theorem from_at {up:Bool} {fill:Int} {s:List Int} {b k:Nat} (d:k<s.length):(0≤(k:Int)+(if up then-(b:Int) else b)→(k:Int)+(if up then-(b:Int) else b)<s.length→M.fromL up fill s b k=s.getD ((k:Int)+(if up then-(b:Int) else b)).toNat 0)∧
  ((k:Int)+(if up then-(b:Int) else b)<0→M.fromL up fill s b k=fill)∧((s.length:Int)≤(k:Int)+(if up then-(b:Int) else b)→M.fromL up fill s b k=fill):=by
 unfold M.fromL
 cases up
 ·simp only[Bool.false_eq_true,if_false]
  refine⟨fun a c=>?_,fun h=>by omega,fun h=>?_⟩
  ·rw[if_pos (by omega),show((k:Int)+b).toNat=k+b by omega]
  ·rw[if_neg (by omega)]
 ·simp only[if_true]
  refine⟨fun a c=>?_,fun h=>?_,fun h=>by omega⟩
  ·rw[if_neg (by omega),show((k:Int)+ -b).toNat=k-b by omega]
  ·rw[if_pos (by omega)]
theorem fill_set {zs:List Int} {m k:Nat} {s:Int} (a:zs.length=k) (b:k<m):(zs++List.replicate (m-k) 0).set k s=(zs++[s])++List.replicate (m-(k+1)) 0:=by
 rw[List.set_append_right _ _ (by omega),a,Nat.sub_self,show m-k=(m-(k+1))+1 by omega,List.replicate_succ,List.set_cons_zero,List.append_assoc]
 rfl
theorem yc0 {m k:Nat} {f:Nat→Int} (a:k<m):((List.range m).map f).getD k 0=f k:=by
 rw[List.getD_eq_getElem?_getD,List.getElem?_map,List.getElem?_range a];rfl
theorem jh0 {up:Bool} {fill:Int} {i:Nat} {ys s:List Int} {j:Nat} (h:ys.length≤j):M.shiftB up fill (ys.drop j) i s= .ret s:=by
 rw[List.drop_eq_nil_of_le h];rfl
theorem pow_le4 {i:Nat} (h:i<10):2^i≤512∧1≤2^i:=⟨Nat.pow_le_pow_right (by omega) (show i≤9 by omega),Nat.one_le_two_pow⟩
theorem from_sm {up:Bool} {fill:Int} {s:List Int} {b k:Nat} (a:Sm fill) (hs:SmL s) (c:k<s.length):Sm (M.fromL up fill s b k):=by
 unfold M.fromL
 repeat' split
 all_goals first|exact a|exact hs.get (by omega)
theorem shift_spec {xv yv:Value} {xs ys:List Int} {up:Bool} {fill:Int} (h:BdR n bb ar ab X F w st) (hx:Ints (Off X F) w xv xs) (hy:Ints (Off X F) w yv ys) (h8:xs.length≤1000) (ap:ys.length≤8) (W:SmL xs) (ah:SmL ys) (hf:Sm fill)
  (hK:∀w' F' st' r zs,BdR n bb ar ab X F' w' st'→Mv F w F' w'→Ints (Off X F') w' r zs→SmL zs→M.Bd.Out n (M.shiftB up fill ys 0 xs) st st' zs→K r w'):
  vcall PP xS #[.pointer (some ⟨bb,0,none⟩),xv,yv,.bool up,.int .i64 fill] w K:=by
 apply KP
 simp(disch:=first|(simp only[push_cast];done)|omega) only[push_cast,hy.len]
 refine vloop_up ys.length (fun i u w'=> ∃I A sv ss,u=[sv,.int .i64 i]∧BdR n bb ar ab X I w' A∧Mv F w I w'∧Ints (Off X I) w' sv ss∧SmL ss∧ss.length=xs.length∧
  ∀st2 rs,M.Bd.Out n (M.shiftB up fill (ys.drop i) i ss) A st2 rs→M.Bd.Out n (M.shiftB up fill ys 0 xs) st st2 rs) ⟨F,st,xv,xs,rfl,h,Mv.refl,hx,W,rfl,fun _ _ h=>h⟩ ?_
 rintro i _ g D C hi ⟨I,A,sv,ss,rfl,h1,H,T,V,ao,L⟩ hC
 simp only[push_cast]
 refine zh (fun al=>?_) (fun ak=>hK D I A sv ss h1 H T V (L A ss (by rw[jh0 (by omega)];exact M.Bd.Out.ret _ _)))
 have O:i<ys.length:=by omega
 have a5:=Ints.mv hy H
 obtain⟨am,an⟩:=pow_le4 (i:=i) (by omega)
 have a4:∀K:Value→World→Prop,zq PP .shl zd true (.int .i64 1) (.int .i64 i) D K=K (.int .i64 (2^i:Nat)) D:=fun K=>by
  have:=vbin_shlI (P:=PP) (w:=D) (K:=K) (c:=true) (t:=zd) (yk:= .i64) (x:=1) (y:=i) (by omega) (by rw[Nat.one_mul];omega)
  rw[Nat.one_mul] at this
  exact this
 simp(disch:=first|(simp only[push_cast];done)|omega) only[push_cast,a5.iaddr,a5.load]
 rw[a4]
 generalize Z:2^i=b at*
 refine zI (fun u w'=>w'=D∧u=[.int .i64 (if up then-(b:Int) else b)]) ?_ ?_
 ·intro J hJ
  cases up
  ·exact hJ _ _ ⟨rfl,rfl⟩
  ·simp(disch:=omega) only[push_cast,zE,Int.zero_sub]
   exact hJ _ _ ⟨rfl,rfl⟩
 rintro _ _ w2 ⟨ag,rfl⟩
 rw[ag]
 simp(disch:=first|(simp only[push_cast];done)|omega) only[push_cast,T.len]
 refine vmkS_own (z:= .int .i64 0) (bs:=8) yX xq yE rfl (by omega) (by omega) fun nv w3 Q N a2=>?_
 have Q:OwnI PP zb w3 nv (List.replicate ss.length 0):=by unfold OwnI;rw[List.map_replicate];exact Q
 have h3:=h1.ext N
 have af:Ints (fun b=> ¬I b∧b<D.heap.size) w3 sv ss:=(Ints.low T).ext N
 have aa:Sm (ys.getD i 0):=ah.get O
 have S:NewI X D I w3 nv (List.replicate ss.length 0):=NewI.of Q a2 h1.lt
 have ad:=H.ext N
 have aq:=H.same.size
 refine vloop_up ss.length (fun k u w'=> ∃Y B zs,u=[.int .i64 k]∧BdR n bb ar ab X Y w' B∧Mv F w Y w'∧Ints (fun b=> ¬Y b∧b<D.heap.size) w' sv ss∧NewI X D Y w' nv (zs++List.replicate (ss.length-k) 0)∧SmL zs∧zs.length=k∧
  ∀st2 rs,M.Bd.Out n (M.eachB (M.muxB (ys.getD i 0)) (((List.range ss.length).map (M.fromL up fill ss b)).drop k) (ss.drop k)) B st2 rs→M.Bd.Out n (M.eachB (M.muxB (ys.getD i 0)) ((List.range ss.length).map (M.fromL up fill ss b)) ss) A st2 (zs++rs))
  ⟨I,A,[],rfl,h3,ad,af,by simpa using S,SmL.nil,rfl,fun _ _ h=>h⟩ ?_
 rintro k _ g4 w4 C4 hk ⟨Y,B,zs,rfl,h4,a0,v,R,a6,a7,E⟩ a8
 simp only[push_cast]
 refine zh (fun aj=>?_) (fun ai=>?_)
 ·have o:k<ss.length:=by omega
  have ac:Sm (M.fromL up fill ss b k):=from_sm hf V o
  have a1:(zs++List.replicate (ss.length-k) (0:Int)).length=ss.length:=by rw[List.length_append,List.length_replicate];omega
  have go:∀(C5:Value→World→Prop),(∀l m a s,BdR n bb ar ab X m l a→Mv F w m l→Ints (fun b=> ¬m b∧b<D.heap.size) l sv ss→NewI X D m l nv (zs++List.replicate (ss.length-k) 0)→Sm s→M.Bd.Out n (M.muxB (ys.getD i 0) (M.fromL up fill ss b k) (ss.getD k 0)) B a s→C5 (.int .i64 s) l)→
    vcall PP yN #[.pointer (some ⟨bb,0,none⟩),.int .i64 (ys.getD i 0),.int .i64 (M.fromL up fill ss b k),.int .i64 (ss.getD k 0)] w4 C5:=fun C5 a9=>
   bmux_spec h4 aa ac (V.get o) fun l m a s G f q p=>a9 l m a s G (a0.trans f) (Ints.lowMv v f) (R.mv f) q p
  have fin:∀l m a s,BdR n bb ar ab X m l a→Mv F w m l→Ints (fun b=> ¬m b∧b<D.heap.size) l sv ss→NewI X D m l nv (zs++List.replicate (ss.length-k) 0)→Sm s→M.Bd.Out n (M.muxB (ys.getD i 0) (M.fromL up fill ss b k) (ss.getD k 0)) B a s→
    zm PP zb nv (.int .i64 k) l fun t66 w6=>zl PP zt t66 (.int .i64 s) w6 fun _ w7=>C4 [.int .i64 ((k:Int)+1)] w7:=fun l m a s G f q e j p=>by
   have ae:=e.own.ints
   rw[ae.iaddr xk (by omega) (by rw[a1];omega),Int.toNat_natCast]
   refine e.own.st yq (by rw[a1];exact o) fun w6 a3 U au=>?_
   rw[fill_set a7 o] at a3
   refine a8 o _ _ ⟨m,a,zs++[s],by simp,G.upd h.err U fun b Z=>⟨by have:=(e.off b Z).1;omega,(e.off b Z).2⟩,f.to U fun b Z=> .inr (by have:=(e.off b Z).1;omega),Ints.same q U fun x hx _ W=>by have:=(e.off x W).1;omega,⟨a3,e.off,e.out⟩,a6.app (SmL.one j),by simp[a7],fun st2 rs ho=>?_⟩
   have:=E st2 (s::rs) ?_
   ·simpa using this
   rw[Wx (by simpa using o) o,yc0 o]
   exact M.Bd.Out.bind p (M.Bd.Out.map _ ho)
  obtain⟨f1,f2,f3⟩:=from_at (up:=up) (fill:=fill) (s:=ss) (b:=b) o
  have hd:(if up then-(b:Int) else b)= -(b:Int)∨(if up then-(b:Int) else b)=b:=by cases up<;>simp
  generalize (if up then-(b:Int) else b)=d at f1 f2 f3 hd
  simp(disch:=omega) only[push_cast,zE]
  refine zh (fun h0=>?_) (fun h0=>?_)
  ·refine zh (fun hl=>?_) (fun hl=>?_)
   ·simp(disch:=first|(simp only[push_cast];done)|omega) only[push_cast,v.iaddr,v.load]
    rw[←f1 (by omega) (by omega)]
    exact go _ fun l m a s G f q e j p=>fin l m a s G f q e j p
   ·simp(disch:=first|(simp only[push_cast];done)|omega) only[push_cast,v.iaddr,v.load]
    rw[←f3 (by omega)]
    exact go _ fun l m a s G f q e j p=>fin l m a s G f q e j p
  ·simp(disch:=first|(simp only[push_cast];done)|omega) only[push_cast,v.iaddr,v.load]
   rw[←f2 (by omega)]
   exact go _ fun l m a s G f q e j p=>fin l m a s G f q e j p
 ·rw[show ss.length-k=0 by omega,List.replicate_zero,List.append_nil] at R
  have:=E B [] (by rw[Kf (by simp;omega)];exact M.Bd.Out.ret _ _)
  rw[List.append_nil] at this
  simp(disch:=omega) only[push_cast,zE]
  refine hC O _ _ ⟨Y,B,nv,zs,by simp<;>exact⟨rfl,rfl⟩,h4,a0,R.ints,a6,by omega,fun st2 rs ho=>L st2 rs ?_⟩
  rw[xF O]
  unfold M.shiftB
  rw[Z]
  exact M.Bd.Out.bind this ho
end Go.Proofs.YtaekfnbnhjgboaaGreatDoor
end
section
namespace Go.Proofs.YtaekfnbnhjgboaaGreatDoor
open Go Go.Vc Go.Proofs
variable {w:World} {K:Value→World→Prop} {F F' Fx Fy X Q:Nat→Prop} {n bc mb bb:Nat} {gs:M.Gs} {v:Value} {ar ab:Addr} {st:Option M.Gs}
theorem Ints.mvQ {v:Value} {xs:List Int} {w':World} (h:Ints (fun b=> ¬F b∧Q b) w v xs) (hm:Mv F w F' w'):Ints (fun b=> ¬F' b∧Q b) w' v xs:=by
 have c:Ints (fun b=>(¬F b∧Q b)∧b<w.heap.size) w v xs:=Ints.weaken h fun _ c d=>⟨c,d⟩
 have d:=Ints.same c hm.same fun b a _=>a.1.1
 exact Ints.weaken d fun b a _=>⟨hm.off a.1.1 a.2,a.1.2⟩
theorem Ints.offQ {v:Value} {xs:List Int} (h:Ints (fun b=> ¬F b∧Q b∧¬X b) w v xs):Ints (Off X F) w v xs:=Ints.weaken h fun _ h _=>⟨h.1,h.2.2⟩
theorem SmL.set {xs:List Int} (h:SmL xs) {i:Nat} {x:Int} (b:Sm x):SmL (xs.set i x):=fun y c=>by
 rcases List.mem_or_eq_of_mem_set c with a|a
 ·exact h y a
 ·rw[a];exact b
theorem under_spec {xv yv:Value} {xs ys:List Int} (h:BdR n bb ar ab X F w st) (g:Ints (Off X F) w xv xs) (Z:Ints (Off X F) w yv ys) (W:xs.length=ys.length) (h1:1≤xs.length) (h8:xs.length≤1000) (u:SmL xs) (v:SmL ys)
  (U:∀w' F' st' r,BdR n bb ar ab X F' w' st'→Mv F w F' w'→Sm r→M.Bd.Out n (M.lessB (M.swapT xs ys) (M.swapT ys xs) (-1)) st st' r→K (.int .i64 r) w'):
  vcall PP jC #[.pointer (some ⟨bb,0,none⟩),xv,yv] w K:=by
 apply KO
 simp(disch:=first|(simp only[push_cast];done)|omega) only[push_cast,g.len,zE]
 refine Clone_signal g (by omega) fun w1 av c j I=>?_
 refine Clone_signal (Z.ext c) (by omega) fun w2 cv s B t=>?_
 refine zr fun w3 d _=>?_
 have y:=c.trans (s.trans d)
 have k:=j.ext (s.trans d)
 have o:=B.ext d
 have m:=k.ints
 have q:=o.ints
 have l:∀b,av.ownBlock=some b→cv.ownBlock≠some b:=fun b a V=>by have:=j.lt a;have:=t b V;omega
 simp(disch:=first|(simp only[push_cast];done)|omega) only[push_cast,m.iaddr,m.load,q.iaddr,q.load,true_and]
 rw[show((xs.length:Int)-1).toNat=xs.length-1 by omega]
 refine k.st yq (by omega) fun w4 z e a0=>?_
 have p:=o.same e fun b a g=>l b g a
 have O:=p.ints
 refine p.st yq (by omega) fun x C f a1=>?_
 have A:=z.same f fun b a g=>l b a g
 have hw:=y.size
 have Y:=c.size
 have hF:∀b,(av.ownBlock=some b∨cv.ownBlock=some b)→w.heap.size≤b∧¬F b:=fun b a=>by
  have E:w.heap.size≤b:=a.elim (I b) fun a=>by have:=t b a;omega
  exact⟨E,fun D=>by have:=h.lt b (.inl D);omega⟩
 have Q:BdR n bb ar ab X F x st:=((h.ext y).upd h.err e fun b a=>hF b (.inl a)).upd h.err f fun b a=>hF b (.inr a)
 have i:∀b,(av.ownBlock=some b∨cv.ownBlock=some b)→Off X F b:=fun b a=>⟨(hF b a).2,fun D=>by have:=(hF b a).1;have:=h.lt b (.inr D);omega⟩
 have G:Mv F w F x:=((Mv.refl.ext y).to e fun b a=> .inr (hF b (.inl a)).1).to f fun b a=> .inr (hF b (.inr a)).1
 have S:Ints (Off X F) x av (M.swapT xs ys):=Ints.weaken A.ints fun b a _=>i b (.inl a)
 have T:Ints (Off X F) x cv (M.swapT ys xs):=by
  have:=Ints.weaken C.ints fun b a _=>i b (.inr a)
  unfold M.swapT;rw[W] at this;exact this
 refine bless_spec Q S T (by unfold M.swapT;simp;omega) (by unfold M.swapT;simp;omega) ?_ ?_ fun w6 P N r R H L J=>U w6 P N r R (G.trans H) L J
 ·exact u.set (v.get (by omega))
 ·exact v.set (u.get (by omega))
theorem Wl {xs:List Int} {m k:Nat} (h:k<m):(xs.take m).getD k 0=xs.getD k 0:=M.take_getD h
theorem kY0 {xs wide r q:List Int} {m:Nat} {l:Int} {u d:List Int} {st a st2 b c:Option M.Gs} {res:List Int×List Int} (e:M.Bd.Out n (M.lessB (xs.getD m 0::r) wide (-1)) st a l) (f:M.Bd.Out n (M.sumB (xs.getD m 0::r) (M.negL wide) 1) a st2 u)
  (g:M.Bd.Out n (M.eachB (M.muxB l) ((xs.getD m 0::r).take xs.length) (u.take xs.length)) st2 b d) (h:M.Bd.Out n (M.divB xs wide m d (q.set m (-l))) b c res):M.Bd.Out n (M.divB xs wide (m+1) r q) st c res:=by
 unfold M.divB
 exact M.Bd.Out.bind e (M.Bd.Out.bind f (M.Bd.Out.bind g h))
theorem divide_spec {xv yv:Value} {xs ys:List Int} (h:BdR n bb ar ab X F w st) (hx:Ints (Off X F) w xv xs) (hy:Ints (Off X F) w yv ys) (hl:xs.length=ys.length) (h8:xs.length≤900) (cr:SmL xs) (ct:SmL ys)
  (hK:∀w' F' st' qv rv q r,BdR n bb ar ab X F' w' st'→Mv F w F' w'→Ints (Off X F') w' qv q→Ints (Off X F') w' rv r→SmL q→SmL r→M.Bd.Out n (M.divB xs (ys++[-1]) xs.length (M.offsL xs.length) (M.offsL xs.length)) st st' (q,r)→K (.tuple #[qv,rv]) w'):
  vcall PP qn #[.pointer (some ⟨bb,0,none⟩),xv,yv] w K:=by
 apply JK
 simp(disch:=first|(simp only[push_cast];done)|omega) only[push_cast,hx.len]
 refine offs_spec (by omega) fun w1 ao b0 bg b9=>?_
 refine offs_spec (by omega) fun w2 qv a6 bd b8=>?_
 have e2:=b0.trans a6
 refine Clone_signal (hy.ext e2) (by omega) fun w3 dd a7 co af=>?_
 refine yh yW yq yE rfl rfl fun b4 w4 d2 a8 an c3=>?_
 refine(co.ext a8).app1 yX c3 (by omega) (by omega) fun wv w5 cp bl ca=>?_
 have z1:=b0.size;have z2:=a6.size;have z3:=a7.size
 have ak:∀b,wv.ownBlock=some b→w2.heap.size≤b:=fun b a=>(ca b a).elim (af b) fun h=>by omega
 have e4:=e2.trans (a7.trans a8)
 have ax:∀b,F b→b<w.heap.size:=fun b a=>h.lt b (.inl a)
 have a5:∀b,w.heap.size≤b→¬X b:=fun b a hx=>by have:=h.lt b (.inr hx);omega
 have e5:Ext w w5:=Ext.then e4 bl fun b a=>by have:=af b a;omega
 have au:Ext w2 w5:=Ext.then (a7.trans a8) bl fun b a=>af b a
 have h5:=h.ext e5
 have c8:Mv F w F w5:=Mv.refl.ext e5
 have ce:=bd.ext au
 have cj:=bg.ext (a6.trans au)
 have ch:∀b,ao.ownBlock=some b→qv.ownBlock≠some b:=fun b a O=>by have:=bg.lt a;have:=b8 b O;omega
 have ci:∀b,wv.ownBlock=some b→qv.ownBlock≠some b:=fun b a O=>by have:=ak b a;have:=bd.lt O;omega
 have bf:∀b,qv.ownBlock=some b→w.heap.size≤b:=fun b a=>by have:=b8 b a;omega
 have hR:Ints (fun b=> ¬F b∧qv.ownBlock≠some b∧¬X b) w5 ao (M.offsL xs.length):=Ints.weaken cj.ints fun b a _=>⟨fun hf=>by have:=ax b hf;have:=b9 b a;omega,ch b a,a5 b (b9 b a)⟩
 have hW:Ints (fun b=> ¬F b∧qv.ownBlock≠some b∧¬X b) w5 wv (ys++[-1]):=Ints.weaken cp.ints fun b a _=>⟨fun hf=>by have:=ax b hf;have:=ak b a;omega,ci b a,a5 b (by have:=ak b a;omega)⟩
 have hX:Ints (fun b=> ¬F b∧qv.ownBlock≠some b∧¬X b) w5 xv xs:=by
  have h1:Ints (fun b=>(¬F b∧¬X b)∧b<w.heap.size) w xv xs:=Ints.weaken hx fun _ h1 h2=>⟨h1,h2⟩
  exact Ints.weaken (h1.ext e5) fun b a _=>⟨a.1.1,fun O=>(by have:=bf b O;omega),a.1.2⟩
 have hQ:NewI X w F w5 qv (M.offsL xs.length):=NewI.of ce bf h.lt
 simp(disch:=first|(simp only[push_cast];done)|omega) only[push_cast,zE]
 have cq:(ys++[(-1:Int)]).length=xs.length+1:=by rw[List.length_append,hl];rfl
 have al:SmL (ys++[(-1:Int)]):=ct.app (SmL.one (by decide))
 generalize ys++[(-1:Int)]=wide at*
 refine YX (fun m u w'=> ∃F1 bt rv r q,u=[rv,.int .i64 ((m:Int)-1)]∧m≤xs.length∧BdR n bb ar ab X F1 w' bt∧Mv F w F1 w'∧Ints (fun b=> ¬F1 b∧qv.ownBlock≠some b∧¬X b) w' rv r∧r.length=xs.length∧SmL r∧NewI X w F1 w' qv q∧q.length=xs.length∧SmL q∧
  Ints (fun b=> ¬F1 b∧qv.ownBlock≠some b∧¬X b) w' wv wide∧Ints (fun b=> ¬F1 b∧qv.ownBlock≠some b∧¬X b) w' xv xs∧
  ∀st2 res,M.Bd.Out n (M.divB xs wide m r q) bt st2 res→M.Bd.Out n (M.divB xs wide xs.length (M.offsL xs.length) (M.offsL xs.length)) st st2 res) xs.length
  ⟨F,st,ao,_,_,rfl,Nat.le_refl _,h5,c8,hR,M.offsL_len _,SmL.offs _,hQ,M.offsL_len _,SmL.offs _,hW,hX,fun _ _ h=>h⟩ ?_
 rintro m _ g w6 C ⟨F6,bv,rv,r,q,rfl,hm,h6,aa,bh,bi,bj,ag,cg,be,bo,am,a0⟩ hC
 simp only[push_cast]
 refine zh (fun d4=>?_) (fun d5=>?_)
 ·obtain⟨m,rfl⟩:∃j,m=j+1:=⟨m-1,by omega⟩
  have c9:m<xs.length:=by omega
  rw[show((m+1:Nat):Int)-1=(m:Int) by omega]
  simp(disch:=first|(simp only[push_cast];done)|omega) only[push_cast,am.iaddr,am.load]
  refine yh yW yq yE rfl rfl fun b7 w7 d3 b1 d8 c4=>?_
  have cl:OwnI PP zb w7 (.slice (some ⟨b7,0,none⟩) 1 1) [xs.getD m 0]:=Blk.own1 (P:=PP) (t:=zb) (cs:=[Value.int .i64 (xs.getD m 0)]) (by rw[xq];exact c4) (Nat.zero_le _) rfl rfl (by omega)
  refine cl.app yX (bh.ext b1) (by simp;omega) (by simp;omega) fun tv w8 cm ck cb=>?_
  have l6:=aa.same.size
  have ai:∀b,tv.ownBlock=some b→w6.heap.size≤b:=fun b a=>(cb b a).elim (fun h=>by have e:b7=b:=Option.some.inj h;omega) fun h=>by omega
  have e8:Ext w6 w8:=Ext.then b1 ck fun b a=>by have e:b7=b:=Option.some.inj a;omega
  have c2:=h6.ext e8
  have hT:Ints (fun b=> ¬F6 b∧qv.ownBlock≠some b∧¬X b) w8 tv (xs.getD m 0::r):=Ints.weaken cm.ints fun b a _=>⟨fun hf=>by have:=h6.lt b (.inl hf);have:=ai b a;omega,fun O=>(by have:=ag.own.lt O;have:=ai b a;omega),a5 b (by have:=ai b a;omega)⟩
  have aj:SmL (xs.getD m 0::r):=(SmL.one (cr.get c9)).app bj
  have W:Mv F6 w6 F6 w8:=Mv.refl.ext e8
  refine bless_spec c2 (Ints.offQ hT) (Ints.offQ (Ints.ext bo e8)) (by simp;omega) (by simp;omega) aj al fun w9 F9 cv l h9 H c6 cd=>?_
  have y:=(ag.mv W).mv H
  have cf:=y.own.ints
  simp(disch:=first|(simp only[push_cast];done)|omega) only[push_cast,zE,Int.zero_sub,cf.iaddr]
  refine y.own.st yq (by omega) fun ap bc J d0=>?_
  have av:BdR n bb ar ab X F9 ap cv:=h9.upd h.err J fun b a=>y.off b a
  have b2:Mv F w F9 ap:=(((aa.trans W)).trans H).to J fun b a=> .inr (y.off b a).1
  have keep:∀{v:Value} {zs:List Int},Ints (fun b=> ¬F9 b∧qv.ownBlock≠some b∧¬X b) w9 v zs→Ints (fun b=> ¬F9 b∧qv.ownBlock≠some b∧¬X b) ap v zs:=fun hh=>Ints.same hh J fun b a _ hx=>a.2.1 hx
  have Q:=keep (Ints.mvQ hT H)
  have a3:=keep (Ints.mvQ (Ints.ext bo e8) H)
  have bp:=keep (Ints.mvQ (Ints.ext am e8) H)
  refine negated_spec a3 (by omega) al fun cw nv c b3 ad=>?_
  have bx:=av.ext c
  have hN:Ints (Off X F9) cw nv (M.negL wide):=(NewI.of b3 ad av.lt).ints
  refine bsum_spec bx (Ints.offQ (Ints.ext Q c)) hN (by rw[M.negL_len];simp;omega) (by simp;omega) aj al.neg (by decide) fun A p a4 uv us aw f bm cn Y=>?_
  have d7:us.length=xs.length+1:=by
   have:=M.sum_len Y.reach
   rw[M.negL_len,cq,List.length_cons,bi] at this
   omega
  have d9:=f.same.size
  have i:Mv F w p A:=(b2.ext c).trans f
  have ay:=Ints.mvQ (Ints.ext Q c) f
  have bn:=Ints.mvQ (Ints.ext a3 c) f
  have bq:=Ints.mvQ (Ints.ext bp c) f
  have a1:NewI X w p A qv (q.set m (-l)):=(NewI.mv (F':=F9) ⟨bc,y.off,y.out⟩ (Mv.refl.ext c)).mv f
  have az:=bm.ints
  refine vmkS_own (z:= .int .i64 0) (bs:=8) yX xq yE rfl (by omega) (by omega) fun L bw o T ae=>?_
  have o:OwnI PP zb bw L (List.replicate xs.length 0):=by unfold OwnI;rw[List.map_replicate];exact o
  have bz:=aw.ext T
  have b5:NewI X A p bw L (List.replicate xs.length 0):=NewI.of o ae aw.lt
  have ac:=o.ints
  have ah:(List.replicate xs.length (0:Int)).length=xs.length:=List.length_replicate
  have hlen:∀(w':World) (K:Value→World→Prop),vbi PP .len [zb] zd [L] w' K=K (.int .i64 xs.length) w':=fun w' K=>by rw[ac.len xE,ah]
  simp only[hlen]
  have d6:(xs.getD m 0::r).length=xs.length+1:=by rw[List.length_cons,bi]
  generalize ht:xs.getD m 0::r=t at*
  refine vloop_up xs.length (fun k u w'=> ∃F4 N zs,u=[.int .i64 k]∧BdR n bb ar ab X F4 w' N∧Mv p A F4 w'∧NewI X A F4 w' L (zs++List.replicate (xs.length-k) 0)∧SmL zs∧zs.length=k∧
   ∀st2 rs,M.Bd.Out n (M.eachB (M.muxB l) ((t.take xs.length).drop k) ((us.take xs.length).drop k)) N st2 rs→M.Bd.Out n (M.eachB (M.muxB l) (t.take xs.length) (us.take xs.length)) a4 st2 (zs++rs))
   ⟨p,a4,[],rfl,bz,Mv.refl.ext T,by simpa using b5,SmL.nil,rfl,fun _ _ h=>h⟩ ?_
  rintro k _ g4 da C4 hk ⟨F4,N,zs,rfl,h4,G,x,an,br,I⟩ c5
  simp only[push_cast]
  refine zh (fun cz=>?_) (fun cy=>?_)
  ·have D:k<xs.length:=by omega
   have b6:(zs++List.replicate (xs.length-k) (0:Int)).length=xs.length:=by rw[List.length_append,List.length_replicate];omega
   refine zr fun db B _=>?_
   have c0:=h4.ext B
   have E:=G.ext B
   have R:=Ints.mvQ ay E
   have S:=Ints.mv az E
   simp(disch:=first|(simp only[push_cast];done)|omega) only[push_cast,R.iaddr,R.load,S.iaddr,S.load,true_and]
   refine bmux_spec c0 c6 (aj.get (by omega)) (cn.get (by omega)) fun cx aq bu s c1 V bk ba=>?_
   have d:=(x.mv (Mv.refl.ext B)).mv V
   have cc:=d.own.ints
   rw[cc.iaddr xk (by omega) (by rw[b6];omega),Int.toNat_natCast]
   simp only[true_and]
   refine d.own.st yq (by rw[b6];exact D) fun dc Z a2 d1=>?_
   rw[fill_set br D] at Z
   try simp(disch:=omega) only[push_cast,zE]
   have a9:Mv p A aq cx:=E.trans V
   have cu:=i.same.size
   refine c5 D _ _ ⟨aq,bu,zs++[s],by simp,c1.upd h.err a2 fun b a=>⟨by have:=(d.off b a).1;omega,(d.off b a).2⟩,a9.to a2 fun b a=> .inr (d.off b a).1,⟨Z,d.off,d.out⟩,an.app (SmL.one bk),by simp[br],fun st2 rs ho=>?_⟩
   have:=I st2 (s::rs) ?_
   ·simpa using this
   rw[Wx (by rw[List.length_take];omega) (by rw[List.length_take];omega),Wl D,Wl D]
   exact M.Bd.Out.bind ba (M.Bd.Out.map _ ho)
  ·rw[show xs.length-k=0 by omega,List.replicate_zero,List.append_nil] at x
   have U:=I N [] (by rw[Kf (by rw[List.length_take];omega)];exact M.Bd.Out.ret _ _)
   rw[List.append_nil] at U
   try simp(disch:=omega) only[push_cast,zE]
   have cu:=i.same.size
   refine hC m _ _ (by omega) ⟨F4,N,L,zs,q.set m (-l),by simp<;>exact⟨rfl,rfl⟩,by omega,h4,i.trans G,Ints.weaken x.own.ints fun b a _=>⟨(x.off b a).2,fun O=>(by have:=(x.off b a).1;have:=a1.own.lt O;omega),x.out b a⟩,by omega,an,a1.mv G,by rw[List.length_set];exact cg,be.set (by unfold Sm at*;omega),Ints.mvQ bn G,Ints.mvQ bq G,fun st2 res ho=>a0 st2 res ?_⟩
   subst ht
   exact kY0 cd Y U ho
 ·have c7:m=0:=by omega
  subst c7
  exact hK w6 F6 bv qv rv q r h6 aa ag.ints (Ints.offQ bh) be bj (a0 bv (q,r) (by unfold M.divB;exact M.Bd.Out.ret _ _))
end Go.Proofs.YtaekfnbnhjgboaaGreatDoor
end
section
namespace Go.Proofs.YtaekfnbnhjgboaaGreatDoor
open Go Go.Vc Go.Proofs
variable {w:World} {K:Value→World→Prop} {F F' Fx Fy X Q:Nat→Prop} {n bc mb bb:Nat} {gs:M.Gs} {v:Value} {ar ab:Addr} {st:Option M.Gs}
theorem kM0 {s:Int} {xs:List Int} {j:Nat} (h:xs.length≤j):M.rowB s (xs.drop j)= .ret []:=by rw[List.drop_eq_nil_of_le h];rfl
theorem Y70 {s:Int} {xs:List Int} {j:Nat} (h:j<xs.length):M.rowB s (xs.drop j)= .and (xs.getD j 0) s fun v=>(M.rowB s (xs.drop (j+1))).map (v:: ·):=by rw[xF h];rfl
theorem kQ0 {xs ys s:List Int} {i j:Nat} (h:ys.length≤j):M.mulB xs (ys.drop j) i s= .ret s:=by rw[List.drop_eq_nil_of_le h];rfl
def P2 (l t:Nat) (F:Nat→Prop) (b:Nat):Prop:=F b∨b=l∨b=t
theorem Mv.p2 {w':World} {l t:Nat} (h:Mv F w F' w'):Mv (P2 l t F) w (P2 l t F') w':=
 ⟨h.same.mono fun _ _ h=> .inl h,fun b a=>a.elim (fun a=>(h.new b a).imp .inl id) fun a=> .inl (.inr a)⟩
theorem Mv.sub {w' w'':World} {S:Nat→Prop} (h:Mv F w F' w') (hs:Same S w' w'') (a:∀b,S b→F' b):Mv F w F' w'':=h.to hs fun b c=> .inl (a b c)
theorem Ints.notD {xs:List Int} {D:Nat} {ds:Option (List Deferred)} (h:Ints F w v xs) (q:w.heap[D]?=some (.deferred ds)):Ints (fun b=>F b∧b≠D) w v xs:=by
 obtain⟨⟨a,c,r,p,hm,n⟩,k⟩:=h
 refine⟨⟨a,c,r,p,hm,fun g=>?_⟩,k⟩
 obtain⟨b,o,m,l,i,d⟩:=n g
 refine⟨b,o,m,⟨l,fun e=>?_⟩,i,d⟩
 subst e
 have j:=List.length_pos_iff.2 g
 have hw:=k _ (M.getD_mem j [])
 have f:=d 0 j 0 _ (List.getElem?_eq_getElem (by omega))
 rw[xj] at f
 simp[World.cell?,q] at f
theorem mul_spec {xv yv:Value} {xs ys:List Int} (h:BdR n bb ar ab X F w st) (hx:Ints (Off X F) w xv xs) (hy:Ints (Off X F) w yv ys) (hl:xs.length=ys.length) (h8:xs.length≤900) (cx:SmL xs) (cy:SmL ys)
  (hK:∀w' F' st' r zs,BdR n bb ar ab X F' w' st'→Mv F w F' w'→Ints (Off X F') w' r zs→SmL zs→M.Bd.Out n (M.mulB xs ys 0 (M.offsL xs.length)) st st' zs→K r w'):
  vcall PP kF #[.pointer (some ⟨bb,0,none⟩),xv,yv] w K:=by
 apply WK;unfold kW
 have cn:=h.lt
 refine Zg fun b3 w1 df ax ds au=>?_
 replace au:Blk w1 b3 [.pointer (some ⟨bb,0,none⟩)] zS:=au
 have cv:Ints (Off X F) w1 xv xs:=hx.ext ax
 simp(disch:=first|(simp only[push_cast];done)|omega) only[push_cast,cv.len]
 refine offs_spec (by omega) fun w2 bc ay a9 cp=>?_
 refine XH kk fun d w3 dg a4 dt av=>?_
 replace av:Blk w3 d [.slice none 0 0] zb:=av
 refine Blk.st (i:=0) av (Sl.cells1 (a9.ext a4).ints) (Sl.one (a9.ext a4).ints) Zf rfl fun w4 bv cz a1=>?_
 replace a1:Blk w4 d [bc] zb:=a1
 have z2:=ay.size
 have e2:=ax.trans ay
 have ao:Ext w1 w4:=Ext.then (ay.trans a4) bv fun b a=>by omega
 have e4:=ax.trans ao
 have ah:=au.ext ao
 have bw:=(a9.ext a4).same bv fun b a hx=>by have:=a9.lt a;omega
 simp(disch:=first|(simp only[push_cast];done)|omega) only[push_cast,ah.ld0]
 apply W6
 refine Zg fun bq w5 dh bi du aw=>?_
 replace aw:Blk w5 bq [.pointer (some ⟨bb,0,none⟩)] zS:=aw
 refine Zg fun bx w6 di bj dv cj=>?_
 refine Zg fun by_ w7 dj az dw ck=>?_
 have bf:Blk w6 bx [xv] zb:=by have:=cj;rwa[Sl.cells1 hx] at this
 have bg:Blk w7 by_ [yv] zb:=by have:=ck;rwa[Sl.cells1 hy] at this
 simp only[push_cast]
 refine⟨qm,⟨[.pointer (some ⟨by_,0,none⟩),.pointer (some ⟨bx,0,none⟩),.pointer (some ⟨bq,0,none⟩)]⟩,rfl,fun l D N RR hD dl b0 dp cm ba ct ag=>?_⟩
 have be:=bj.trans (az.trans b0)
 have a0:=bi.trans be
 have e8:=e4.trans a0
 have z4:=e4.size
 have e3:=a0.size
 have dy:=ao.size
 have pq:=aw.ext be
 have px:=bf.ext (az.trans b0)
 have py:=bg.ext b0
 have p3:=ah.ext a0
 have p7:=a1.ext a0
 have ci:=h.ext e8
 have af:∀b,w.heap.size≤b→¬F b:=fun b a hf=>by have:=cn b (.inl hf);omega
 have sz:w1.heap.size=b3+1∧w3.heap.size=d+1∧w5.heap.size=bq+1∧w6.heap.size=bx+1∧w7.heap.size=by_+1∧D=w7.heap.size∧l=D+1:=⟨by omega,by omega,by omega,by omega,by omega,hD,by omega⟩
 have e0:w4.heap.size=w3.heap.size:=cz
 have dz:=a4.size
 have e1:=bi.size;have e5:=bj.size;have e6:=az.size
 have cw:Ints (Off X (P2 l d F)) N xv xs:=by
  have v:Ints (fun b=>(¬F b∧¬X b)∧b<w.heap.size) w xv xs:=Ints.weaken hx fun _ v T=>⟨v,T⟩
  exact Ints.weaken (v.ext e8) fun b a _=>⟨fun o=>o.elim a.1.1 fun o=>by have:=a.2;omega,a.1.2⟩
 have c2:Ints (Off X (P2 l d F)) N yv ys:=by
  have v:Ints (fun b=>(¬F b∧¬X b)∧b<w.heap.size) w yv ys:=Ints.weaken hy fun _ v T=>⟨v,T⟩
  exact Ints.weaken (v.ext e8) fun b a _=>⟨fun o=>o.elim a.1.1 fun o=>by have:=a.2;omega,a.1.2⟩
 have cu:Ints (Off X (P2 l d F)) N bc (M.offsL xs.length):=Ints.weaken (bw.ext a0).ints fun b a _=>by
  have v:=a9.lt a
  have T:=cp b a
  refine⟨fun o=>?_,fun hx=>by have:=h.lt b (.inr hx);omega⟩
  rcases o with o|o|o
  ·exact af b (by omega) o
  ·omega
  ·omega
 have off:∀(m:Nat→Prop),(∀b,m b→F b∨N.heap.size≤b)→∀b,w.heap.size≤b→b<N.heap.size→¬m b:=fun m hN b v T hf=>(hN b hf).elim (af b v) fun h=>by omega
 show vcall PP qm #[.func (.yield l) #[] #[],.pointer (some ⟨by_,0,none⟩),.pointer (some ⟨bx,0,none⟩),.pointer (some ⟨bq,0,none⟩)] N _
 apply JJ
 simp(disch:=first|(simp only[push_cast];done)|omega) only[push_cast,py.ld0,c2.len]
 refine vloop_up ys.length (fun i u w'=> ∃m J sv s,u=[.int .i64 i]∧RR .ready none w'∧BdR n bb ar ab X m w' J∧Mv (P2 l d F) N (P2 l d m) w'∧(∀b,m b→F b∨N.heap.size≤b)∧Blk w' d [sv] zb∧Ints (Off X (P2 l d m)) w' sv s∧s.length=xs.length∧SmL s∧
  ∀st2 res,M.Bd.Out n (M.mulB xs (ys.drop i) i s) J st2 res→M.Bd.Out n (M.mulB xs ys 0 (M.offsL xs.length)) st st2 res)
  ⟨F,st,bc,_,rfl,ct,ci,Mv.refl,fun b a=> .inl a,p7,cu,M.offsL_len _,SmL.offs _,fun _ _ h=>h⟩ ?_
 rintro i _ g w9 C hi ⟨m,J,sv,s,rfl,bs,h9,V,U,c9,bz,dq,c0,ak⟩ hC
 simp only[push_cast]
 have z9:=V.same.size
 have keep:∀{b:Nat} {cs:List Value} {t:TypeId},Blk N b cs t→w.heap.size≤b→b≠l→b≠d→Blk w9 b cs t:=fun a v T h3=>a.same V.same fun o=>o.elim (af _ v) fun o=>o.elim T h3
 have q9:=keep pq (by omega) (by omega) (by omega)
 have x9:=keep px (by omega) (by omega) (by omega)
 have k9:=keep p3 (by omega) (by omega) (by omega)
 have d9:w9.heap[D]?=some (.deferred (some [])):=(V.same.block D (by omega) fun o=>o.elim (af _ (by omega)) fun o=>by omega).trans cm
 refine zh (fun dm=>?_) (fun d7=>?_)
 ·have b1:i<ys.length:=by omega
  have c1:=Ints.mv c2 V
  simp(disch:=first|(simp only[push_cast];done)|omega) only[push_cast,c1.iaddr,c1.load]
  refine offs_spec (by omega) fun ac cd ai bp bo=>?_
  have cg:=h9.ext ai
  have bt:NewI X w9 m ac cd (M.offsL i):=NewI.of bp bo h9.lt
  have dr:(xs.take (xs.length-i)).length=xs.length-i:=by rw[List.length_take];omega
  refine vloop_up (xs.length-i) (fun j u w'=> ∃L st2 rv zs,u=[rv,.int .i64 ((i+j:Nat):Int)]∧BdR n bb ar ab X L w' st2∧Mv m w9 L w'∧NewI X w9 L w' rv (M.offsL i++zs)∧SmL zs∧zs.length=j∧
   ∀W rs,M.Bd.Out n (M.rowB (ys.getD i 0) ((xs.take (xs.length-i)).drop j)) st2 W rs→M.Bd.Out n (M.rowB (ys.getD i 0) (xs.take (xs.length-i))) J W (zs++rs))
   ⟨m,J,cd,[],rfl,cg,Mv.refl.ext ai,by rw[List.append_nil];exact bt,SmL.nil,rfl,fun _ _ h=>h⟩ ?_
  rintro j _ g2 x C2 hj ⟨L,st2,rv,zs,rfl,ad,f,G,aa,c4,a6⟩ cl
  have a5:Mv (P2 l d F) N (P2 l d L) x:=V.trans f.p2
  have P:∀b,L b→F b∨N.heap.size≤b:=fun b a=>(f.new b a).elim (U b) fun h=> .inr (by omega)
  have B:∀{b:Nat} {cs:List Value} {t:TypeId},Blk w9 b cs t→w.heap.size≤b→b<N.heap.size→Blk x b cs t:=fun a v T=>a.same f.same (off m U _ v T)
  have d2:=B q9 (by omega) (by omega)
  have cf:=B x9 (by omega) (by omega)
  have d0:=B k9 (by omega) (by omega)
  have c6:=B c9 (by omega) (by omega)
  have d11:x.heap[D]?=some (.deferred (some [])):=(f.same.block D (by omega) (off m U D (by omega) (by omega))).trans d9
  have ca:RR .ready none x:=ba _ _ _ _ bs (f.same.block l (by omega) (off m U l (by omega) (by omega)))
  have dx:=f.same.size
  have al:=Ints.mv cw a5
  simp(disch:=first|(simp only[push_cast];done)|omega) only[push_cast,cf.ld0,al.len]
  refine zh (fun da=>?_) (fun d8=>?_)
  ·have bk:j<xs.length-i:=by omega
   refine zr fun O y _=>?_
   have am:Ints (Off X (P2 l d L)) O xv xs:=Ints.ext al y
   have d3:=d2.ext y
   have d5:=cf.ext y
   have ei:((i:Int)+j)-i=(j:Int):=by omega
   simp(disch:=first|(simp only[push_cast];done)|omega) only[push_cast,d3.ld0,d5.ld0,zE,ei,am.iaddr,am.load,true_and]
   refine kQ (ad.ext y) (cx.get (by omega)) (cy.get b1) fun bd c A ce ap k bu Q=>?_
   refine yh yW yq yE rfl rfl fun de Y d6 a3 c3 E=>?_
   have aj:Mv m w9 c Y:=((f.ext y).trans k).ext a3
   have ae:=ap.ext a3
   have R:NewI X w9 c Y rv (M.offsL i++zs):=((G.mv (Mv.refl.ext y)).mv k).mv (Mv.refl.ext a3)
   have dn:(M.offsL i++zs).length=i+j:=by rw[List.length_append,M.offsL_len,c4]
   refine R.app1 E aj.same.size ae.lt (by omega) fun d4 Z a7 q=>?_
   have aq:BdR n bb ar ab X c Z A:=ae.upd h.err q fun b a=>⟨by have:=(R.off b a).1;omega,(R.off b a).2⟩
   have bn:Mv m w9 c Z:=aj.to q fun b a=> .inr (R.off b a).1
   try simp(disch:=omega) only[push_cast,zE]
   refine cl bk _ _ ⟨c,A,d4,zs++[ce],by simp<;>omega,aq,bn,by rw[←List.append_assoc];exact a7,aa.app (SmL.one bu),by simp[c4],fun W rs ho=>?_⟩
   have:=a6 W (ce::rs) ?_
   ·simpa using this
   rw[Y70 (by omega),Wl bk]
   exact qx Q (M.Bd.Out.map _ ho)
  ·have dk:j=xs.length-i:=by omega
   have a8:=a6 st2 [] (by rw[kM0 (by omega)];exact M.Bd.Out.ret _ _)
   rw[List.append_nil] at a8
   refine ag [rv] x _ rfl ca ⟨ca,fun O p dc bh=>?_⟩
   have bl:∀b,(b=l)→w.heap.size≤b∧¬L b:=fun b a=>⟨by omega,off L P b (by omega) (by omega)⟩
   have ch:BdR n bb ar ab X L O st2:=ad.upd h.err p bl
   have d1:=d0.same p (show¬b3=l by omega)
   have an:=c6.same p (show¬d=l by omega)
   have I:=Ints.mv bz f.p2
   have b8:Ints (Off X (P2 l d L)) O sv s:=Ints.same I p fun b a _ e=>a.1 (.inr (.inl e))
   have br:NewI X w9 L O rv (M.offsL i++zs):=⟨G.own.same p fun b a e=>by have:=(G.off b a).1;omega,G.off,G.out⟩
   simp(disch:=first|(simp only[push_cast];done)|omega) only[push_cast,d1.ld0,an.ld0]
   have b9:Ints (Off X L) O sv s:=Ints.weaken b8 fun b a _=>⟨fun hf=>a.1 (.inl hf),a.2⟩
   refine bsum_spec ch b9 br.ints (by rw[List.length_append,M.offsL_len];omega) (by omega) c0 ((SmL.offs i).app aa) (by decide) fun bd c A nv ns ap k z cr Q=>?_
   have a2:∀b,c b→F b∨N.heap.size≤b:=fun b a=>(k.new b a).elim (P b) fun h=> .inr (by omega)
   have c7:=an.same k.same (off L P d (by omega) (by omega))
   refine Blk.st (i:=0) c7 (Sl.cells1 z.own.ints) (Sl.one z.own.ints) Zf rfl fun Y S c3 E=>?_
   replace E:Blk Y d [nv] zb:=E
   have cb:RR .busy none bd:=ba _ _ _ _ bh (k.same.block l (by omega) (off L P l (by omega) (by omega)))
   have cc:RR .busy none Y:=ba _ _ _ _ cb (S.block l (by have:=k.same.size;omega) (by omega))
   refine⟨cc,fun Z q dd a7=>?_⟩
   have ae:BdR n bb ar ab X c Y A:=ap.upd h.err S fun b a=>⟨by omega,off c a2 b (by omega) (by omega)⟩
   have aq:BdR n bb ar ab X c Z A:=ae.upd h.err q fun b a=>⟨by omega,off c a2 b (by omega) (by omega)⟩
   have z12:=p.size
   have b2:Mv (P2 l d F) N (P2 l d L) O:=a5.sub p fun b a=> .inr (.inl a)
   have b4:Mv (P2 l d F) N (P2 l d c) Z:=(((b2.trans k.p2).sub S fun b a=> .inr (.inr a))).sub q fun b a=> .inr (.inl a)
   have c8:=E.same q (show¬d=l by omega)
   have b5:Ints (Off X (P2 l d c)) Z nv ns:=by
    have v:Ints (Off X (P2 l d c)) bd nv ns:=Ints.weaken z.own.ints fun b a _=>⟨fun o=>by
     have:=(z.off b a).1
     rcases o with o|o|o
     ·exact(z.off b a).2 o
     ·omega
     ·omega,z.out b a⟩
    exact Ints.same (Ints.same v S fun b a _ e=>a.1 (.inr (.inr e))) q fun b a _ e=>a.1 (.inr (.inl e))
   have cq:ns.length=xs.length:=by
    have:=M.sum_len Q.reach
    rw[List.length_append,M.offsL_len] at this
    omega
   simp(disch:=omega) only[push_cast,Bool.not_true,zE]
   refine hC b1 _ _ ⟨c,A,nv,ns,by simp,a7,aq,b4,a2,c8,b5,cq,cr,fun W res ho=>ak W res ?_⟩
   rw[xF b1]
   exact M.Bd.Out.bind a8 (M.Bd.Out.bind Q ho)
 ·refine⟨.ready,none,by decide,bs,fun ac H db=>?_⟩
  show ze PP zb _ ac _
  have c5:=c9.same H (show¬d=l by omega)
  have d10:ac.heap[D]?=some (.deferred (some [])):=(H.block D (by omega) (by omega)).trans d9
  simp(disch:=first|(simp only[push_cast];done)|omega) only[push_cast,c5.ld0]
  refine⟨d10,fun x I aa=>?_⟩
  have bm:∀b,w.heap.size≤b→b<N.heap.size→w.heap.size≤b∧¬m b:=fun b v T=>⟨v,off m U b v T⟩
  have ad:BdR n bb ar ab X m x J:=(h9.upd h.err H fun b a=>bm b (by omega) (by omega)).upd h.err I fun b a=>bm b (by omega) (by omega)
  have co:Mv F w m x:=by
   refine⟨Same.thn (Same.thn (Same.thn (Same.of_ext e8) V.same fun b a=>a.elim .inl fun a=> .inr (by omega)) H fun b a=> .inr (by omega)) I fun b a=> .inr (by omega),fun b a=>(U b a).imp id fun h=>?_⟩
   have:=e8.size;omega
  have b6:Ints (Off X m) x sv s:=by
   have v:Ints (Off X (P2 l d m)) ac sv s:=Ints.same bz H fun b a _ e=>a.1 (.inr (.inl e))
   have T:=Ints.notD v d10
   exact Ints.weaken (Ints.same T I fun b a _ e=>a.2 e) fun b a _=>⟨fun hf=>a.1.1 (.inl hf),a.1.2⟩
  exact hK x m J sv s ad co b6 c0 (ak J s (by rw[kQ0 (by omega)];exact M.Bd.Out.ret _ _))
end Go.Proofs.YtaekfnbnhjgboaaGreatDoor
end
section
namespace Go.Proofs.YtaekfnbnhjgboaaGreatDoor
open Go Go.Vc Go.Proofs
variable {w:World} {K:Value→World→Prop} {F F' Fx Fy X Q:Nat→Prop} {n bc mb bb:Nat} {gs:M.Gs} {v:Value} {ar ab:Addr} {st:Option M.Gs}
theorem ZU0 {t ty:TypeId} {a:Option Addr} {l c:Nat} (b:isSl PP t=true):vbi PP .cap [t] ty [.slice a l c] w K=K (.int .i64 c) w:=by
 obtain⟨e,he⟩:=qn0 b
 exact yH (by simp[biSem,Builtin.cap_,qh he,goInt])
theorem Grow_nil {m:Nat} (hm:m≤1000) (d:∀w' r,Ext w w'→OwnI PP zb w' r []→(∀b,r.ownBlock=some b→w.heap.size≤b)→K r w'):vcall PP yR #[.slice none 0 0,.int .i64 m] w K:=by
 apply jt
 refine zI (fun u w'=>w'=w) ?_ ?_
 ·intro J f
  simp only[push_cast]
  refine zh (fun h=>?_) (fun h=>f _ _ rfl)
  omega
 rintro _ _ w' hw
 rw[hw,ZU0 xE,q60 xE]
 simp(disch:=omega) only[push_cast,zE,Int.sub_zero]
 refine zh (fun h=>?_) (fun h=>?_)
 ·rw[ZU0 xE]
  have c0:∀K:Value→World→Prop,yC PP zb (.slice none 0 0) none (some (.int .i64 (0:Nat))) none w K=K (.slice none 0 0) w:=fun K=>OwnV.cut (P:=PP) (t:=zb) (w:=w) OwnV.nil xk (n:=0) (by simp)
  rw[c0]
  refine vappend_make (bs:=8) yX xq yE rfl ym0 (by omega) (by omega) (by omega) fun v' i e he g=>?_
  rw[q60 xE,OwnV.cut e xk (n:=0) (by omega)]
  have c:=OwnV.taken e (n:=0) (by omega)
  exact d i _ he (by rw[List.take_zero] at c;exact c) fun b a=>g b (by rw[←XS0 v' 0];exact a)
 ·exact d w _ (Same.refl _ _) OwnI.nil fun b a=>by cases a
theorem Wt {zss:List (List Int)} {i:Nat} (hi:i<zss.length):(zss.take (i+1)).flatten=(zss.take i).flatten++zss.getD i []:=by
 rw[M.take_add hi [],List.flatten_append];simp
theorem flat_le {zss:List (List Int)} (i:Nat):(zss.take i).flatten.length≤zss.flatten.length:=by
 have:zss.flatten=(zss.take i).flatten++(zss.drop i).flatten:=by rw[←List.flatten_append,List.take_append_drop]
 rw[this,List.length_append];omega
theorem Concat_spec {vs:List Value} {zss:List (List Int)} (j:Vals Fx w v vs) (L:vs.length=zss.length) (hi:∀i,i<zss.length→Ints Fy w (vs.getD i undef) (zss.getD i [])) (A:zss.flatten.length≤1000) (E:zss.length≤1000)
  (F:∀w' r,Ext w w'→OwnI PP zb w' r zss.flatten→(∀b,r.ownBlock=some b→w.heap.size≤b)→K r w'):vcall PP yP #[v] w K:=by
 apply j5
 simp(disch:=first|(simp only[push_cast];done)|omega) only[push_cast,j.len]
 refine vloop_up zss.length (fun i u w'=>u=[.int .i64 ((zss.take i).flatten.length:Nat),.int .i64 i]∧w'=w) ⟨rfl,rfl⟩ ?_
 rintro i _ g M C p ⟨rfl,B⟩ k
 rw[B]
 simp only[push_cast]
 refine zh (fun q=>?_) (fun n=>?_)
 ·have a:i<zss.length:=by omega
  have D:=hi i a
  have hle:=flat_le (zss:=zss) (i+1)
  rw[Wt a,List.length_append] at hle
  simp(disch:=first|(simp only[push_cast];done)|omega) only[push_cast,j.iaddr,j.load,D.len,zE]
  refine zh (fun J=>by omega) (fun _=>?_)
  exact k a _ _ ⟨by rw[Wt a,List.length_append];simp,rfl⟩
 have o:i=zss.length:=by omega
 subst o
 rw[List.take_length]
 refine Grow_nil A fun N G m x s=>?_
 refine vloop_up zss.length (fun i u w'=> ∃r,u=[r,.int .i64 i]∧Ext w w'∧OwnI PP zb w' r (zss.take i).flatten∧∀b,r.ownBlock=some b→w.heap.size≤b) ⟨G,rfl,m,x,s⟩ ?_
 rintro i _ g I C p ⟨r,rfl,c,e,d⟩ k
 simp only[push_cast]
 refine zh (fun q=>?_) (fun n=>?_)
 ·have a:i<zss.length:=by omega
  have D:=(hi i a).ext c
  have f:=j.ext c
  have hle:=flat_le (zss:=zss) (i+1)
  rw[Wt a,List.length_append] at hle
  simp(disch:=first|(simp only[push_cast];done)|omega) only[push_cast,f.iaddr,f.load]
  refine e.app yX D (by omega) (by omega) fun H O y z t=>?_
  have:=c.size
  try simp(disch:=omega) only[push_cast,zE]
  exact k a _ _ ⟨H,by simp<;>exact⟨rfl,rfl⟩,Ext.then c z fun b l=>d b l,by rw[Wt a];exact y,fun b l=>(t b l).elim (d b) fun h=>by omega⟩
 ·rw[show i=zss.length by omega,List.take_length] at e
  exact F I r c e d
theorem un_spec {op:Int} {xv:Value} {xs:List Int} (h:BdR n bb ar ab X F w st) (G:op=1∨op=2) (s:Ints (Off X F) w xv xs) (I:xs.length≤900) (d:SmL xs)
  (e:∀w' F' st' r zs,BdR n bb ar ab X F' w' st'→Mv F w F' w'→Ints (Off X F') w' r zs→SmL zs→M.Bd.Out n (M.unB op xs) st st' zs→K r w'):
  vcall PP Ze #[.pointer (some ⟨bb,0,none⟩),.int .i64 op,xv] w K:=by
 apply UT
 simp only[push_cast]
 unfold M.unB at e
 refine zh (fun c=>?_) (fun c=>?_)
 ·rw[if_pos c] at e
  refine negated_spec s (by omega) d fun x r a p j=>?_
  exact e x F st r _ (h.ext a) (Mv.refl.ext a) (NewI.of p j h.lt).ints d.neg (M.Bd.Out.ret _ _)
 rw[if_neg c] at e
 simp(disch:=first|(simp only[push_cast];done)|omega) only[push_cast,s.len]
 refine zh (fun A=>?_) (fun A=>by omega)
 refine offs_spec (by omega) fun x ov a m l=>?_
 refine negated_spec (s.ext a) (by omega) d fun y nv f k g=>?_
 have v:=a.trans f
 have J:=a.size
 have D:Ints (Off X F) y ov (M.offsL xs.length):=(NewI.of (m.ext f) l h.lt).ints
 have C:Ints (Off X F) y nv (M.negL xs):=(NewI.of k (fun b E=>by have:=g b E;omega) h.lt).ints
 refine bsum_spec (h.ext v) D C (by rw[M.offsL_len,M.negL_len];exact Nat.le_refl _) (by rw[M.offsL_len];omega) (SmL.offs _) d.neg (by decide) fun H z u r zs B i q t o=>?_
 exact e H z u r zs B ((Mv.refl.ext v).trans i) q.ints t o
theorem bin_spec {op:Int} {xv yv:Value} {xs ys:List Int} (h:BdR n bb ar ab X F w st) (U:∃gs,st=some gs) (u:3≤op) (a0:op≤14) (o:Ints (Off X F) w xv xs) (t:Ints (Off X F) w yv ys) (E:op≠14→xs.length=ys.length) (hc:op=14→xs.length+ys.length≤4) (D:1≤xs.length) (h8:xs.length≤8) (g:SmL xs) (j:SmL ys)
  (d:∀w' F' st' r zs,BdR n bb ar ab X F' w' st'→Mv F w F' w'→Ints (Off X F') w' r zs→SmL zs→M.Bd.Out n (M.binB op xs ys) st st' zs→K r w'):
  vcall PP j2 #[.pointer (some ⟨bb,0,none⟩),.int .i64 op,xv,yv] w K:=by
 apply WL
 obtain⟨gs,rfl⟩:=U
 obtain⟨bc,Z,hC⟩:=h.blk
 simp only at Z
 unfold M.binB at d
 simp only[push_cast,xY J6 h.err.bits.cell]
 refine zh (fun c=>?_) (fun c=>?_)
 ·rw[if_pos c] at d
  have:=hc c
  simp(disch:=first|(simp only[push_cast];done)|omega) only[push_cast,o.len,t.len,zE,xY J6 h.err.bits.cell]
  rw[decide_eq_false (by omega)]
  refine yv0 ?_
  refine vbuildS_row1 (xs:=[yv,xv]) J5 Zf kk (fun x L=>by
   simp only[List.mem_cons,List.not_mem_nil,or_false] at L
   rcases L with rfl|rfl
   ·exact Sl.cells1 t
   ·exact Sl.cells1 o) (by simp) fun b1 O a1 s a2 P=>?_
  have hv:Vals (· =b1) O (.slice (some ⟨b1,0,none⟩) [yv,xv].length [yv,xv].length) [yv,xv]:=P.sl1 rfl (by simp)
  refine Concat_spec (zss:=[ys,xs]) hv rfl (Fy:=Off X F) (fun i hi=>?_) (by simp;omega) (by simp) fun w2 r Q T S=>?_
  ·match i,hi with
   |0,_=>exact t.ext s
   |1,_=>exact o.ext s
  ·have Y:=s.trans Q
   have z1:=s.size
   refine d w2 F (some gs) r (ys++xs) (h.ext Y) (Mv.refl.ext Y) (NewI.of (w:=w) (by simpa using T) (fun b hb=>by have:=S b hb;omega) h.lt).ints (j.app g) (M.Bd.Out.ret _ _)
 rw[if_neg c] at d
 have E:=E c
 simp(disch:=first|(simp only[push_cast];done)|omega) only[push_cast,o.len,t.len,xY J6 h.err.bits.cell]
 rw[decide_eq_false (by omega)]
 refine yv0 ?_
 simp(disch:=first|(simp only[push_cast];done)|omega) only[push_cast,Z.ld1,VE]
 refine zh (fun c=>?_) (fun c=>?_)
 ·rw[if_pos c] at d
  exact each_spec (p:=fun a b=> .and a b .ret) h o t (by omega) (by omega) g j (fun O V N x y W D _ B C A=>kQ D B C A) fun z v k r zs u e l m f=>d z v k r zs u e l.ints m f
 rw[if_neg c] at d
 refine zh (fun c=>?_) (fun c=>?_)
 ·rw[if_pos c] at d
  exact each_spec (p:=M.orB) h o t (by omega) (by omega) g j (fun O V N x y W D _ B C A=>bor_spec D B C A) fun z v k r zs u e l m f=>d z v k r zs u e l.ints m f
 rw[if_neg c] at d
 refine zh (fun c=>?_) (fun c=>?_)
 ·rw[if_pos c] at d
  exact each_spec (p:=fun a b=> .xor a b .ret) h o t (by omega) (by omega) g j (fun O V N x y W D _ B C A=>JO D B C A) fun z v k r zs u e l m f=>d z v k r zs u e l.ints m f
 rw[if_neg c] at d
 refine zh (fun c=>?_) (fun c=>?_)
 ·rw[if_pos c] at d
  exact bsum_spec h o t (by omega) (by omega) g j (by decide) fun z v k r zs u e l m f=>d z v k r zs u e l.ints m f
 rw[if_neg c] at d
 refine zh (fun c=>?_) (fun c=>?_)
 ·rw[if_pos c] at d
  refine negated_spec t (by omega) j fun O nv s R G=>?_
  exact bsum_spec (h.ext s) (o.ext s) (NewI.of R G h.lt).ints (by rw[M.negL_len];omega) (by omega) g j.neg (by decide) fun z v k r zs u e l m f=>d z v k r zs u ((Mv.refl.ext s).trans e) l.ints m f
 rw[if_neg c] at d
 refine zh (fun c=>?_) (fun c=>?_)
 ·rw[if_pos c] at d
  exact mul_spec h o t E (by omega) g j d
 rw[if_neg c] at d
 refine zh (fun c=>?_) (fun c=>?_)
 ·rw[if_pos c] at d
  refine divide_spec h o t E (by omega) g j fun z v k qv rv q r u e H l I J f=>?_
  simp only[push_cast]
  exact d z v k qv q u e H I (M.Bd.Out.map _ f)
 rw[if_neg c] at d
 refine zh (fun c=>?_) (fun c=>?_)
 ·rw[if_pos c] at d
  refine divide_spec h o t E (by omega) g j fun z v k qv rv q r u e H l I J f=>?_
  simp only[push_cast]
  exact d z v k rv r u e l J (M.Bd.Out.map _ f)
 rw[if_neg c] at d
 refine zh (fun c=>?_) (fun c=>?_)
 ·rw[if_pos c] at d
  exact shift_spec h o t (by omega) (by omega) g j (by decide) d
 rw[if_neg c] at d
 refine zh (fun c=>?_) (fun c=>?_)
 ·rw[if_pos c] at d
  exact shift_spec h o t (by omega) (by omega) g j (by decide) d
 rw[if_neg c] at d
 refine zh (fun c=>?_) (fun c=>by omega)
 simp(disch:=first|(simp only[push_cast];done)|omega) only[push_cast,o.len,zE,o.iaddr,o.load]
 rw[show((xs.length:Int)-1).toNat=xs.length-1 by omega]
 exact shift_spec h o t (by omega) (by omega) g j (g.get (by omega)) d
theorem compare_spec {op:Int} {xv yv:Value} {xs ys:List Int} (h:BdR n bb ar ab X F w st) (g:∃gs,st=some gs) (m:15≤op) (k:op≤17) (e:Ints (Off X F) w xv xs) (f:Ints (Off X F) w yv ys) (l:xs.length=ys.length) (j:1≤xs.length) (o:xs.length≤8) (b:SmL xs) (d:SmL ys)
  (a:∀w' F' st' r,BdR n bb ar ab X F' w' st'→Mv F w F' w'→Sm r→M.Bd.Out n (M.cmpB op xs ys) st st' r→K (.int .i64 r) w'):
  vcall PP qY #[.pointer (some ⟨bb,0,none⟩),.int .i64 op,xv,yv] w K:=by
 apply QX
 obtain⟨gs,rfl⟩:=g
 obtain⟨bc,i,p⟩:=h.blk
 simp only at i
 unfold M.cmpB at a
 simp(disch:=first|(simp only[push_cast];done)|omega) only[push_cast,e.len,f.len,xY J6 h.err.bits.cell]
 rw[decide_eq_false (by omega)]
 refine yv0 ?_
 simp(disch:=first|(simp only[push_cast];done)|omega) only[push_cast,i.ld1,VE]
 refine zh (fun c=>?_) (fun c=>?_)
 ·rw[if_pos c] at a
  exact bsame_spec h e f (by omega) (by omega) b d a
 rw[if_neg c] at a
 refine zh (fun c=>?_) (fun c=>?_)
 ·rw[if_pos c] at a
  exact bless_spec h e f (by omega) (by omega) b d a
 rw[if_neg c] at a
 refine zh (fun c=>?_) (fun c=>by omega)
 exact under_spec h e f l j (by omega) b d a
theorem numbers_spec {xv:Value} {xs:List Int} (k:Ints Fx w xv xs) (F:xs.length≤1000) (s:∀w' r,Ext w w'→OwnI PP zj w' r xs→(∀b,r.ownBlock=some b→w.heap.size≤b)→K r w'):vcall PP Xz #[xv] w K:=by
 apply xw0
 simp(disch:=first|(simp only[push_cast];done)|omega) only[push_cast,k.len]
 refine vloop_up xs.length (fun i u w'=> ∃r,u=[r,.int .i64 i]∧Ext w w'∧OwnI PP zj w' r (xs.take i)∧∀b,r.ownBlock=some b→w.heap.size≤b) ⟨_,rfl,Same.refl _ _,OwnI.nil,fun b m=>by cases m⟩ ?_
 rintro i _ g D C hi ⟨r,rfl,a,d,c⟩ q
 simp only[push_cast]
 refine zh (fun y=>?_) (fun v=>?_)
 ·have f:i<xs.length:=by omega
  have j:=k.ext a
  simp(disch:=first|(simp only[push_cast];done)|omega) only[push_cast,j.iaddr,j.load]
  refine yh ZP km ZO rfl rfl fun E G t e A l=>?_
  have he:=a.trans e
  have z:=he.size
  refine(d.ext e).app1 Zu l (by simp;omega) (by simp;omega) fun B H o p n=>?_
  try simp(disch:=omega) only[push_cast,zE]
  refine q f _ _ ⟨B,by simp<;>exact⟨rfl,rfl⟩,Ext.then he p fun x k=>c x k,?_,fun b m=>(n b m).elim (c b) fun h=>by omega⟩
  rw[M.take_add f 0];exact o
 ·rw[List.take_of_length_le (by omega)] at d
  exact s D r a d c
end Go.Proofs.YtaekfnbnhjgboaaGreatDoor
end
section
namespace Go.Proofs.YtaekfnbnhjgboaaGreatDoor
open Go Go.Vc Go.Proofs
variable {w:World} {K:Value→World→Prop} {F:Nat→Prop}
abbrev Z2 (wd n:Int):Value:= .agg ⟨[.int .i64 wd,.int .i64 n]⟩
theorem pow4 {k:Nat} (a:1≤k) (b:k≤4):2≤2^k∧2^k≤16:=by
 rcases(by omega:k=1∨k=2∨k=3∨k=4) with rfl|rfl|rfl|rfl<;>decide
@[push_cast] theorem bd_Vec (a b:Int):zC PP zc [(0,.int .i64 a),(1,.int .i64 b)] w K=K (Z2 a b) w:=ye z60 (us:=[[.int .i64 a],[.int .i64 b]]) rfl rfl
@[push_cast] theorem bd_VecZ:zC PP zc [] w K=K (Z2 0 0) w:=ye z60 (us:=[]) rfl rfl
theorem stVec {b:Nat} {x y:Value} {t:TypeId} {p q:Int} (h:Blk w b [x,y] t) (c:∀w',Same (· =b) w w'→w'.heap.size=w.heap.size→Blk w' b [.int .i64 p,.int .i64 q] t→K undef w'):zl PP zc (.pointer (some ⟨b,0,none⟩)) (Z2 p q) w K:=
 h.stAgg rfl (by kernel_rfl) (by intro v a;simp only[List.mem_cons,List.not_mem_nil,or_false] at a;rcases a with rfl|rfl<;>rfl) c
theorem xV0 (k:Nat):((2^k:Nat):Int)=2^k:=by simp
theorem VecOk_spec {wd n:Int} (m:∀w',Ext w w'→K (.bool (M.vok wd n)) w'):vcall PP xi #[Z2 wd n] w K:=by
 apply k00
 refine zy fun b1 r o h p j=>?_
 refine zr fun f d _=>?_
 have i:=j.ext d
 have l:=h.trans d
 simp(disch:=(simp only[push_cast];done)) only[push_cast,i.ld0,i.ld1,true_and]
 have a:=m f l
 refine zh (fun g=>?_) (fun g=>?_)
 ·refine zh (fun a2=>?_) (fun a2=>?_)
  ·refine zh (fun a3=>?_) (fun a3=>?_)
   ·obtain⟨k,rfl⟩:∃k:Nat,wd=k:=⟨wd.toNat,by omega⟩
    have q:=pow4 (k:=k) (by omega) (by omega)
    have e:zq PP .shl zd true (.int .i64 1) (.int .i64 (k:Int)) f=fun K=>K (.int .i64 (2^k:Nat)) f:=by
     funext K
     have:=vbin_shlI (P:=PP) (w:=f) (K:=K) (c:=true) (t:=zd) (yk:= .i64) (x:=1) (y:=k) (by omega) (by omega)
     rw[Nat.one_mul] at this
     exact this
    rw[e]
    simp only[push_cast,true_and]
    have b:M.vok (k:Int) n=decide (n<(2^k:Nat)):=by
     simp only[M.vok,decide_eq_true g,decide_eq_true a2,decide_eq_true a3,Bool.true_and,Int.toNat_natCast,xV0]
    rw[b,xV0] at a
    exact a
   ·have b:M.vok wd n=false:=by simp only[M.vok,decide_eq_false a3,Bool.and_false,Bool.false_and]
    rw[b] at a;exact a
  ·have b:M.vok wd n=false:=by simp only[M.vok,decide_eq_false a2,Bool.and_false,Bool.false_and]
   rw[b] at a;exact a
 ·have b:M.vok wd n=false:=by simp only[M.vok,decide_eq_false g,Bool.false_and]
  rw[b] at a;exact a
theorem cut_spec {n k:Nat} (d:n<18446744073709551616) (a:1≤k) (b:k≤4) (c:K (.int .u64 (n%2^k:Nat)) w):vcall PP Zl #[.int .u64 n,.int .i64 k] w K:=by
 apply xu0
 have e:=pow4 a b
 rw[show(1:Int)=((1:Nat):Int) from rfl,vbin_shlU (by omega) (by omega),Nat.one_mul,Wi,show((2^k:Nat):Int)-((1:Nat):Int)=((2^k-1:Nat):Int) by omega,wrapU (by omega),J4 d (by omega),Nat.and_two_pow_sub_one_eq_mod]
 exact c
theorem bit_spec {n k:Nat} (f:n<18446744073709551616) (c:k<64) (b:K (.bool (decide (n/2^k%2=1))) w):vcall PP qo #[.int .u64 n,.int .i64 k] w K:=by
 apply xv0
 have d:n/2^k≤n:=Nat.div_le_self _ _
 rw[vbin_shrU c,show(1:Int)=((1:Nat):Int) from rfl,J4 (by omega) (by omega),Xd0]
 have e:n/2^k&&&1=n/2^k%2:=Nat.and_one_is_mod _
 rw[e]
 have a:decide (((n/2^k%2:Nat):Int)=((1:Nat):Int))=decide (n/2^k%2=1):=by
  by_cases h:n/2^k%2=1
  ·rw[h];simp
  ·rw[decide_eq_false h,decide_eq_false];omega
 rw[a];exact b
theorem raw_spec {wd:Int} {n:Nat} (f:n<9223372036854775808) (c:∀w',Ext w w'→K (.int .u64 n) w'):vcall PP zK #[Z2 wd n] w K:=by
 apply xD0
 refine zy fun b1 g d a e b=>?_
 simp(disch:=(simp only[push_cast];done)) only[push_cast,b.ld1]
 rw[j6 jg0 yn0,wrapU (by omega)]
 exact c _ a
theorem ones_spec {k:Nat} {n:Int} (c:1≤k) (d:k≤4) (e:∀w',Ext w w'→K (.int .u64 (2^k-1:Nat)) w'):vcall PP kH #[Z2 k n] w K:=by
 apply yM0
 refine zy fun b1 i f a g b=>?_
 simp(disch:=(simp only[push_cast];done)) only[push_cast,b.ld0]
 have h:=pow4 c d
 rw[show(1:Int)=((1:Nat):Int) from rfl,vbin_shlU (by omega) (by omega),Nat.one_mul,Wi,show((2^k:Nat):Int)-((1:Nat):Int)=((2^k-1:Nat):Int) by omega,wrapU (by omega)]
 exact e _ a
theorem vec_spec {k n:Nat} {x:Int} (q:n<18446744073709551616) (h:1≤k) (i:k≤4) (j:∀w',Ext w w'→K (Z2 k (n%2^k:Nat)) w'):vcall PP jJ #[Z2 k x,.int .u64 n] w K:=by
 apply xC0
 have z:=pow4 h i
 have hm:n%2^k<2^k:=Nat.mod_lt _ (by omega)
 refine zy fun b1 A o c r e=>?_
 refine zz x6 fun b2 B p b s f=>?_
 refine zr fun C a _=>?_
 have l:=(e.ext b).ext a
 have u:=f.ext a
 simp(disch:=(simp only[push_cast];done)) only[push_cast,l.ld0,true_and]
 refine cut_spec q h i ?_
 obtain⟨m,d⟩:∃m,m=n%2^k:=⟨_,rfl⟩
 rw[←d] at hm j⊢
 simp(disch:=(simp only[push_cast];done)) only[push_cast,l.ld0,true_and,and_self]
 rw[j6 y90 ym0,wrapN (by omega)]
 simp only[push_cast,true_and]
 refine stVec u fun D g _ v=>?_
 rw[v.lv (by kernel_rfl)]
 exact j _ (Ext.then ((c.trans b).trans a) g fun y t=>by subst t;omega)
theorem strF_low {k n:Nat} (c:1≤k) (d:k≤4) (e:n<2^k):n|||((18446744073709551615-(2^k-1))&&&4294967295)=n+(4294967296-2^k):=by
 have b:∀v:Fin 5,∀a:Fin 16,1≤v.1→a.1<2^v.1→a.1|||((18446744073709551615-(2^v.1-1))&&&4294967295)=a.1+(4294967296-2^v.1):=by decide+kernel
 have f:=pow4 c d
 exact b ⟨k,by omega⟩ ⟨n,by omega⟩ c e
theorem top_bit {k n:Nat} (c:1≤k) (d:k≤4) (e:n<2^k):decide (n/2^(k-1)%2=1)=decide (¬n<2^(k-1)):=by
 have b:∀v:Fin 5,∀a:Fin 16,1≤v.1→a.1<2^v.1→decide (a.1/2^(v.1-1)%2=1)=decide (¬a.1<2^(v.1-1)):=by decide+kernel
 have f:=pow4 c d
 exact b ⟨k,by omega⟩ ⟨n,by omega⟩ c e
def Qp0 (k n:Nat):Nat:=if n<2^(k-1) then n else n+(4294967296-2^k)
theorem stretched_spec {k n:Nat} (f:1≤k) (g:k≤4) (q:n<2^k) (p:∀w',Ext w w'→K (.int .u64 (Qp0 k n:Nat)) w'):vcall PP jF #[Z2 k n] w K:=by
 apply KU
 have z:=pow4 f g
 refine zy fun b1 A u d v i=>?_
 refine zr fun B b _=>?_
 have j:=i.ext b
 simp(disch:=(simp only[push_cast];done)) only[push_cast,j.ld0,j.ldAgg (t:=zc) zW,true_and]
 have o:IntKind.i64.wrap ((k:Int)-1)=((k-1:Nat):Int):=by rw[zE (by omega) (by omega)];omega
 rw[o]
 refine raw_spec (by omega) fun C c=>?_
 have l:=j.ext c
 simp(disch:=(simp only[push_cast];done)) only[push_cast,l.ld0,true_and,o]
 refine bit_spec (by omega) (by omega) ?_
 rw[top_bit f g q]
 refine zh (fun m=>?_) (fun m=>?_)
 ·refine zr fun D e _=>?_
  have r:=l.ext e
  simp(disch:=(simp only[push_cast];done)) only[push_cast,r.ldAgg (t:=zc) zW,true_and]
  refine raw_spec (by omega) fun s a=>?_
  have x:=r.ext a
  simp(disch:=(simp only[push_cast];done)) only[push_cast,x.ldAgg (t:=zc) zW,true_and]
  refine ones_spec f g fun y h=>?_
  rw[vun_xorU (by omega)]
  refine⟨rfl,?_⟩
  rw[show(4294967295:Int)=((4294967295:Nat):Int) from rfl,J4 (by omega) (by omega)]
  refine⟨rfl,?_⟩
  have hle:(18446744073709551615-(2^k-1))&&&4294967295≤4294967295:=Nat.and_le_right
  rw[kG0 (by omega) (by omega)]
  refine⟨rfl,?_⟩
  have:=p y (((((d.trans b).trans c).trans e).trans a).trans h)
  unfold Qp0 at this
  rw[if_neg m] at this
  rw[strF_low f g q]
  exact this
 ·simp(disch:=(simp only[push_cast];done)) only[push_cast,l.ldAgg (t:=zc) zW,true_and]
  refine raw_spec (by omega) fun s a=>?_
  have:=p s (((d.trans b).trans c).trans a)
  unfold Qp0 at this
  rw[if_pos (by omega)] at this
  exact this
theorem pre2 {k a b:Nat} (D:a<16) (E:b<16) {X:Value→Value→World→Prop} (s:∀w',Ext w w'→X (.int .u64 a) (.int .u64 b) w'):
  yo PP zc (Z2 k a) w fun t2 m=>
  yo PP zc (Z2 k b) m fun t3 n=>
  y0 n fun c=>
  ze PP zc t2 c fun t5 o=>o=c∧
  ze PP zc t3 c fun t7 p=>p=c∧
  vcall PP zK #[t5] c fun t6 e=>(ze PP zc t3 e fun v x=>v=t7∧x=e)∧
  vcall PP zK #[t7] e fun t8 q=>X t6 t8 q:=by
 refine zy fun b1 F u h z j=>?_
 refine zy fun b2 G y f A l=>?_
 refine zr fun H d _=>?_
 have B:=(j.ext f).ext d
 have r:=l.ext d
 simp(disch:=(simp only[push_cast];done)) only[push_cast,B.ldAgg (t:=zc) zW,r.ldAgg (t:=zc) zW,true_and]
 refine raw_spec (by omega) fun I g=>?_
 have C:=r.ext g
 simp(disch:=(simp only[push_cast];done)) only[push_cast,C.ldAgg (t:=zc) zW,true_and,and_self]
 refine raw_spec (by omega) fun J i=>?_
 exact s _ ((((h.trans f).trans d).trans g).trans i)
theorem pow16 {k a:Nat} (b:k≤4) (c:a<2^k):a<16:=by
 have:2^k≤2^4:=Nat.pow_le_pow_right (by omega) b
 omega
def OpR (K:Value→World→Prop) (w:World) (op k a b:Nat):Prop:=∀w' (r:Nat),Ext w w'→r<18446744073709551616→r%2^k=M.binN op k a b→K (.int .u64 r) w'
theorem bin_ck {f:Nat→Nat→Nat→Nat} {op:Nat} (h:∀v:Fin 5,(List.range 16).all (fun a=>(List.range 16).all fun b=> !(decide (1≤v.1)&&decide (a<2^v.1)&&decide (b<2^v.1))||decide (f v.1 a b%2^v.1=M.binN op v.1 a b))=true) {k a b:Nat} (g:1≤k) (c:k≤4) (d:a<2^k) (e:b<2^k):f k a b%2^k=M.binN op k a b:=by
 have:=h ⟨k,by omega⟩
 simp only[List.all_eq_true,List.mem_range,Bool.or_eq_true,Bool.not_eq_true',Bool.and_eq_false_iff,decide_eq_false_iff_not,decide_eq_true_eq] at this
 rcases this a (pow16 c d) b (pow16 c e) with(⟨h|h⟩|h)|h
 ·exact absurd g h
 ·exact absurd d h
 ·exact absurd e h
 ·exact h
theorem mul225 {a b:Nat} (c:a<16) (d:b<16):a*b≤225:=by
 have:=Nat.mul_le_mul (show a≤15 by omega) (show b≤15 by omega)
 omega
theorem shl_small {a b:Nat} (d:a<16) (e:b<16):a*2^b≤524288:=by
 have c:2^b≤2^15:=Nat.pow_le_pow_right (by omega) (by omega)
 have:=Nat.mul_le_mul (show a≤15 by omega) c
 omega
theorem strN_lt {k n:Nat} (a:1≤k) (b:k≤4) (c:n<2^k):Qp0 k n<4294967296:=by
 have:=pow4 a b
 unfold Qp0;split<;>omega
theorem binaries_1_spec {k a b:Nat} (g:1≤k) (e:k≤4) (h:a<2^k) (i:b<2^k) (j:OpR K w 3 k a b):vcall PP xh #[Z2 k a,Z2 k b] w K:=by
 have c:=pow16 e h
 have d:=pow16 e i
 have l:=pow4 g e
 apply z50
 refine pre2 c d fun m he=>?_
 rw[J4 (by omega) (by omega)]
 exact⟨rfl,j _ _ he (Nat.lt_of_le_of_lt Nat.and_le_left (by omega)) (bin_ck (f:=fun k a b=>a&&&b) (by decide+kernel) g e h i)⟩
theorem binaries_2_spec {k a b:Nat} (g:1≤k) (e:k≤4) (h:a<2^k) (i:b<2^k) (j:OpR K w 4 k a b):vcall PP xg #[Z2 k a,Z2 k b] w K:=by
 have c:=pow16 e h
 have d:=pow16 e i
 have l:=pow4 g e
 apply z40
 refine pre2 c d fun m he=>?_
 rw[kG0 (by omega) (by omega)]
 exact⟨rfl,j _ _ he (Nat.lt_trans (Nat.or_lt_two_pow (n:=4) c d) (by decide)) (bin_ck (f:=fun k a b=>a|||b) (by decide+kernel) g e h i)⟩
theorem binaries_3_spec {k a b:Nat} (g:1≤k) (e:k≤4) (h:a<2^k) (i:b<2^k) (j:OpR K w 5 k a b):vcall PP xf #[Z2 k a,Z2 k b] w K:=by
 have c:=pow16 e h
 have d:=pow16 e i
 have l:=pow4 g e
 apply z30
 refine pre2 c d fun m he=>?_
 rw[ZV0 (by omega) (by omega)]
 exact⟨rfl,j _ _ he (Nat.lt_trans (Nat.xor_lt_two_pow (n:=4) c d) (by decide)) (bin_ck (f:=fun k a b=>a^^^b) (by decide+kernel) g e h i)⟩
theorem binaries_4_spec {k a b:Nat} (g:1≤k) (e:k≤4) (h:a<2^k) (i:b<2^k) (j:OpR K w 6 k a b):vcall PP xe #[Z2 k a,Z2 k b] w K:=by
 have c:=pow16 e h
 have d:=pow16 e i
 have l:=pow4 g e
 apply z00
 refine pre2 c d fun m he=>?_
 rw[kI0,show(a:Int)+(b:Int)=((a+b:Nat):Int) by omega,wrapU (by omega)]
 exact⟨rfl,j _ _ he (by omega) (bin_ck (f:=fun k a b=>a+b) (by decide+kernel) g e h i)⟩
theorem binaries_5_spec {k a b:Nat} (h:1≤k) (g:k≤4) (i:a<2^k) (j:b<2^k) (l:OpR K w 7 k a b):vcall PP xd #[Z2 k a,Z2 k b] w K:=by
 have c:=pow16 g i
 have d:=pow16 g j
 have m:=pow4 h g
 apply UZ
 refine pre2 c d fun n he=>?_
 have e:IntKind.u64.wrap ((a:Int)-(b:Int))=((if b≤a then a-b else 18446744073709551616+a-b:Nat):Int):=by
  simp only[IntKind.wrap,IntKind.bits,IntKind.signed,Bool.false_and,Bool.false_eq_true,if_false]
  split<;>omega
 rw[Wi,e]
 exact⟨rfl,l _ _ he (by split<;>omega) (bin_ck (f:=fun k a b=>if b≤a then a-b else 18446744073709551616+a-b) (by decide+kernel) h g i j)⟩
theorem binaries_6_spec {k a b:Nat} (g:1≤k) (e:k≤4) (h:a<2^k) (i:b<2^k) (j:OpR K w 8 k a b):vcall PP xc #[Z2 k a,Z2 k b] w K:=by
 have c:=pow16 e h
 have d:=pow16 e i
 have l:=pow4 g e
 apply UY
 refine pre2 c d fun m he=>?_
 have hm:=mul225 c d
 rw[kH0,show(a:Int)*(b:Int)=((a*b:Nat):Int) by simp,wrapU (by omega)]
 exact⟨rfl,j _ _ he (by omega) (bin_ck (f:=fun k a b=>a*b) (by decide+kernel) g e h i)⟩
theorem binaries_7_spec {k a b:Nat} (l:1≤k) (h:k≤4) (s:a<2^k) (u:b<2^k) (m:OpR K w 9 k a b):vcall PP xb #[Z2 k a,Z2 k b] w K:=by
 have n:=pow16 h s
 have o:=pow16 h u
 have E:=pow4 l h
 apply UX
 refine zy fun b1 F v e y j=>?_
 refine zy fun b2 G x d z g=>?_
 have p:=j.ext d
 simp(disch:=(simp only[push_cast];done)) only[push_cast,g.ld1]
 refine zh (fun r=>?_) (fun r=>?_)
 ·simp(disch:=(simp only[push_cast];done)) only[push_cast,p.ldAgg (t:=zc) zW]
  refine ones_spec l h fun C c=>m _ _ ((e.trans d).trans c) (by omega) ?_
  have:b=0:=by omega
  subst this
  rw[Nat.mod_eq_of_lt (by omega)]
  simp[M.binN]
 ·refine zr fun C c _=>?_
  have A:=p.ext c
  have q:=g.ext c
  simp(disch:=(simp only[push_cast];done)) only[push_cast,A.ldAgg (t:=zc) zW,q.ldAgg (t:=zc) zW,true_and]
  refine raw_spec (by omega) fun H f=>?_
  have B:=q.ext f
  simp(disch:=(simp only[push_cast];done)) only[push_cast,B.ldAgg (t:=zc) zW,true_and,and_self]
  refine raw_spec (by omega) fun I i=>?_
  have D:a/b≤a:=Nat.div_le_self _ _
  rw[zW0 (by omega),show(a:Int).tdiv (b:Int)=((a/b:Nat):Int) from rfl,wrapU (by omega)]
  refine⟨rfl,m _ _ ((((e.trans d).trans c).trans f).trans i) (by omega) ?_⟩
  rw[Nat.mod_eq_of_lt (by omega)]
  simp[M.binN,show b≠0 by omega]
theorem binaries_8_spec {k a b:Nat} (r:1≤k) (h:k≤4) (s:a<2^k) (u:b<2^k) (l:OpR K w 10 k a b):vcall PP xa #[Z2 k a,Z2 k b] w K:=by
 have m:=pow16 h s
 have n:=pow16 h u
 have E:=pow4 r h
 apply UW
 refine zy fun b1 F v e y j=>?_
 refine zy fun b2 G x d z g=>?_
 have o:=j.ext d
 simp(disch:=(simp only[push_cast];done)) only[push_cast,g.ld1]
 refine zh (fun q=>?_) (fun q=>?_)
 ·simp(disch:=(simp only[push_cast];done)) only[push_cast,o.ldAgg (t:=zc) zW]
  refine raw_spec (by omega) fun C c=>l _ _ ((e.trans d).trans c) (by omega) ?_
  have:b=0:=by omega
  subst this
  rw[Nat.mod_eq_of_lt (by omega)]
  simp[M.binN]
 ·refine zr fun C c _=>?_
  have A:=o.ext c
  have p:=g.ext c
  simp(disch:=(simp only[push_cast];done)) only[push_cast,A.ldAgg (t:=zc) zW,p.ldAgg (t:=zc) zW,true_and]
  refine raw_spec (by omega) fun H f=>?_
  have B:=p.ext f
  simp(disch:=(simp only[push_cast];done)) only[push_cast,B.ldAgg (t:=zc) zW,true_and,and_self]
  refine raw_spec (by omega) fun I i=>?_
  have D:a%b≤a:=Nat.mod_le _ _
  rw[YZ (by omega),show(a:Int).tmod (b:Int)=((a%b:Nat):Int) from rfl]
  refine⟨rfl,l _ _ ((((e.trans d).trans c).trans f).trans i) (by omega) ?_⟩
  rw[Nat.mod_eq_of_lt (by omega)]
  simp[M.binN,show b≠0 by omega]
theorem binaries_9_spec {k a b:Nat} (g:1≤k) (e:k≤4) (h:a<2^k) (i:b<2^k) (j:OpR K w 11 k a b):vcall PP x8 #[Z2 k a,Z2 k b] w K:=by
 have c:=pow16 e h
 have d:=pow16 e i
 have l:=pow4 g e
 apply UV
 refine pre2 c d fun m he=>?_
 have hm:=shl_small c d
 rw[vbin_shlU (by omega) (by omega)]
 exact⟨rfl,j _ _ he (by omega) (bin_ck (f:=fun k a b=>a*2^b) (by decide+kernel) g e h i)⟩
theorem binaries_10_spec {k a b:Nat} (g:1≤k) (e:k≤4) (h:a<2^k) (i:b<2^k) (j:OpR K w 12 k a b):vcall PP yV #[Z2 k a,Z2 k b] w K:=by
 have c:=pow16 e h
 have d:=pow16 e i
 have l:=pow4 g e
 apply WO
 refine pre2 c d fun m he=>?_
 have hm:=Nat.div_le_self a (2^b)
 rw[vbin_shrU (by omega)]
 exact⟨rfl,j _ _ he (by omega) (bin_ck (f:=fun k a b=>a/2^b) (by decide+kernel) g e h i)⟩
theorem binaries_11_spec {k a b:Nat} (h:1≤k) (d:k≤4) (i:a<2^k) (p:b<2^k) (s:OpR K w 13 k a b):vcall PP yU #[Z2 k a,Z2 k b] w K:=by
 have o:=pow16 d i
 have q:=pow16 d p
 have B:=pow4 h d
 apply WN
 refine zy fun b1 C u j x m=>?_
 refine zy fun b2 D v e y n=>?_
 refine zr fun E c _=>?_
 have z:=(m.ext e).ext c
 have r:=n.ext c
 simp(disch:=(simp only[push_cast];done)) only[push_cast,z.ldAgg (t:=zc) zW,r.ldAgg (t:=zc) zW,true_and]
 refine stretched_spec h d i fun F g=>?_
 have A:=r.ext g
 simp(disch:=(simp only[push_cast];done)) only[push_cast,A.ldAgg (t:=zc) zW,true_and,and_self]
 refine raw_spec (by omega) fun G l=>?_
 have hs:=strN_lt h d i
 have hm:=Nat.div_le_self (Qp0 k a) (2^b)
 rw[vbin_shrU (by omega)]
 exact⟨rfl,s _ _ ((((j.trans e).trans c).trans g).trans l) (by omega) (bin_ck (f:=fun k a b=>Qp0 k a/2^b) (by decide+kernel) h d i p)⟩
end Go.Proofs.YtaekfnbnhjgboaaGreatDoor
end
section
namespace Go.Proofs.YtaekfnbnhjgboaaGreatDoor
open Go Go.Vc Go.Proofs
variable {w:World} {K:Value→World→Prop} {F:Nat→Prop}
theorem VecSigned_spec {wd n:Int} (h:∀w',Ext w w'→K (.int .i64 (if M.vok wd n=true then M.sgn wd n else 0)) w'):vcall PP jL #[Z2 wd n] w K:=by
 apply zS0
 refine zy fun b1 F x c y m=>?_
 simp(disch:=(simp only[push_cast];done)) only[push_cast,m.ldAgg (t:=zc) zW]
 refine VecOk_spec fun A b=>?_
 have u:=m.ext b
 simp only[push_cast]
 refine y3 (fun g=>?_) (fun g=>?_)
 ·have:=h A (c.trans b)
  rwa[if_neg (by simpa using g)] at this
 ·rw[Bool.not_eq_false'] at g
  rw[if_pos g] at h
  obtain⟨k,a,rfl,rfl,q,r,v⟩:=M.vok_nat g
  have D:=pow4 q r
  refine zr fun G d _=>?_
  have i:=u.ext d
  have l:IntKind.i64.wrap ((k:Int)-1)=((k-1:Nat):Int):=by rw[zE (by omega) (by omega)];omega
  simp(disch:=(simp only[push_cast];done)) only[push_cast,i.ldAgg (t:=zc) zW,i.ld0,true_and,l]
  refine raw_spec (by omega) fun B e=>?_
  have j:=i.ext e
  simp(disch:=(simp only[push_cast];done)) only[push_cast,j.ld0,true_and,l,and_self]
  refine bit_spec (by omega) (by omega) ?_
  rw[top_bit q r v]
  have z:=(xV0 k).symm
  have p:(2:Int)^((k:Int).toNat-1)=((2^(k-1):Nat):Int):=by simp
  have E:2^(k-1)<2^k:=Nat.pow_lt_pow_right (by omega) (by omega)
  refine zh (fun s=>?_) (fun s=>?_)
  ·refine zr fun C f _=>?_
   have o:=j.ext f
   simp(disch:=(simp only[push_cast];done)) only[push_cast,o.ld0,o.ld1,true_and]
   rw[show(1:Int)=((1:Nat):Int) from rfl,vbin_shlI (by omega) (by omega),Nat.one_mul]
   refine⟨rfl,?_⟩
   rw[Wi,zE (by omega) (by omega)]
   refine⟨rfl,?_⟩
   have:=h C ((((c.trans b).trans d).trans e).trans f)
   unfold M.sgn at this
   rw[if_neg (by rw[p];omega),Int.toNat_natCast,z] at this
   exact this
  ·simp(disch:=(simp only[push_cast];done)) only[push_cast,j.ld1]
   have:=h B (((c.trans b).trans d).trans e)
   unfold M.sgn at this
   rw[if_pos (by rw[p];omega)] at this
   exact this
theorem VecUn_spec {op wd n:Int} (p:∀w',Ext w w'→K (.tuple #[Z2 (M.vecUn op wd n).1.1 (M.vecUn op wd n).1.2,.bool (M.vecUn op wd n).2]) w'):vcall PP X6 #[.int .i64 op,Z2 wd n] w K:=by
 apply jZ0
 refine zy fun b1 R H q J F=>?_
 refine zz x6 fun b2 S I r L g2=>?_
 have B:=F.ext r
 simp(disch:=(simp only[push_cast];done)) only[push_cast,B.ldAgg (t:=zc) zW]
 refine VecOk_spec fun O i=>?_
 have C:=B.ext i
 have g3:=g2.ext i
 have G:=(q.trans r).trans i
 have d:∀g v,Ext O g→Same (· =b2) g v→Ext w v:=fun g v h E=>Ext.then (G.trans h) E fun y N=>by subst N;have:=q.size;omega
 simp only[push_cast]
 unfold M.vecUn at p
 refine y3 (fun j=>?_) (fun j=>?_)
 ·refine stVec g3 fun g l _ g4=>?_
  rw[g4.lv (by kernel_rfl)]
  have:=p g (d _ _ (Same.refl _ _) l)
  rwa[if_neg (by simp at j;simp[j])] at this
 ·rw[Bool.not_eq_false'] at j
  obtain⟨k,a,rfl,rfl,s,u,D⟩:=M.vok_nat j
  have Q:=pow4 s u
  refine zh (fun x=>?_) (fun x=>?_)
  ·subst x
   refine zr fun g b _=>?_
   have o:=C.ext b
   simp(disch:=(simp only[push_cast];done)) only[push_cast,o.ldAgg (t:=zc) zW,true_and]
   refine raw_spec (by omega) fun v c=>?_
   have z:=o.ext c
   have g5:=(g3.ext b).ext c
   simp(disch:=(simp only[push_cast];done)) only[push_cast,z.ldAgg (t:=zc) zW,true_and,and_self]
   rw[vun_xorU (by omega)]
   refine⟨rfl,vec_spec (by omega) s u fun P f=>?_⟩
   refine stVec (g5.ext f) fun A m _ g7=>?_
   rw[g7.lv (by kernel_rfl)]
   have:=p A (d _ _ ((b.trans c).trans f) m)
   rw[if_pos ⟨j,.inl rfl⟩,M.unM_not s u D] at this
   exact this
  refine zh (fun a2=>?_) (fun a2=>?_)
  ·subst a2
   refine zr fun g b _=>?_
   have o:=C.ext b
   simp(disch:=(simp only[push_cast];done)) only[push_cast,o.ldAgg (t:=zc) zW,true_and]
   refine raw_spec (by omega) fun v c=>?_
   have z:=o.ext c
   have g5:=(g3.ext b).ext c
   have e:IntKind.u64.wrap (0-(a:Int))=((if a=0 then 0 else 18446744073709551616-a:Nat):Int):=by
    simp only[IntKind.wrap,IntKind.bits,IntKind.signed,Bool.false_and,Bool.false_eq_true,if_false]
    split<;>omega
   simp(disch:=(simp only[push_cast];done)) only[push_cast,z.ldAgg (t:=zc) zW,true_and,and_self]
   rw[e]
   refine vec_spec (by split<;>omega) s u fun P f=>?_
   refine stVec (g5.ext f) fun A m _ g7=>?_
   rw[g7.lv (by kernel_rfl)]
   have:=p A (d _ _ ((b.trans c).trans f) m)
   rw[if_pos ⟨j,.inr rfl⟩,M.unM_neg s u D] at this
   exact this
  ·refine stVec g3 fun g l _ g4=>?_
   rw[g4.lv (by kernel_rfl)]
   have:=p g (d _ _ (Same.refl _ _) l)
   rwa[if_neg (fun h=>h.2.elim x a2)] at this
theorem binaries_spec (g:∀w',Ext w w'→K (.agg ⟨[.nilFunc,.nilFunc,.nilFunc,.func (.func xh) #[] #[],.func (.func xg) #[] #[],.func (.func xf) #[] #[],.func (.func xe) #[] #[],.func (.func xd) #[] #[],.func (.func xc) #[] #[],.func (.func xb) #[] #[],.func (.func xa) #[] #[],.func (.func x8) #[] #[],.func (.func yV) #[] #[],.func (.func yU) #[] #[]]⟩) w'):vcall PP Yr #[] w K:=by
 apply yL0
 have k:yT PP y2 (.agg ⟨[.nilFunc,.nilFunc,.nilFunc,.nilFunc,.nilFunc,.nilFunc,.nilFunc,.nilFunc,.nilFunc,.nilFunc,.nilFunc,.nilFunc,.nilFunc,.nilFunc]⟩):=by unfold yT;kernel_rfl
 refine zz k fun b1 d h a i e=>?_
 refine⟨_,d,run_build (P:=PP) d _ _ ⟨[.nilFunc,.nilFunc,.nilFunc,.func (.func xh) #[] #[],.func (.func xg) #[] #[],.func (.func xf) #[] #[],.func (.func xe) #[] #[],.func (.func xd) #[] #[],.func (.func xc) #[] #[],.func (.func xb) #[] #[],.func (.func xa) #[] #[],.func (.func x8) #[] #[],.func (.func yV) #[] #[],.func (.func yU) #[] #[]]⟩ (by kernel_rfl),?_⟩
 refine e.stAgg rfl (by kernel_rfl) (by intro v c;simp only[List.mem_cons,List.not_mem_nil,or_false] at c;rcases c with rfl|rfl|rfl|rfl|rfl|rfl|rfl|rfl|rfl|rfl|rfl|rfl|rfl|rfl<;>rfl) fun l b _ f=>?_
 rw[f.lv (by kernel_rfl)]
 exact g _ (Ext.then a b fun y j=>by subst j;omega)
theorem bin_all {op k a b:Nat} (j:3≤op) (i:op≤13) (g:1≤k) (h:k≤4) (e:a<2^k) (f:b<2^k) {K:Value→World→Prop} {w w0:World} (hw:w0=w) (c:OpR K w op k a b) {N:Value→World→Prop}
  (d:∀x,vcallv PP x #[Z2 k a,Z2 k b] w K→N x w):
  xR0 PP y2 (.agg ⟨[.nilFunc,.nilFunc,.nilFunc,.func (.func xh) #[] #[],.func (.func xg) #[] #[],.func (.func xf) #[] #[],.func (.func xe) #[] #[],.func (.func xd) #[] #[],.func (.func xc) #[] #[],.func (.func xb) #[] #[],.func (.func xa) #[] #[],.func (.func x8) #[] #[],.func (.func yV) #[] #[],.func (.func yU) #[] #[]]⟩) (.int .i64 op) w N:=by
 rcases(by omega:op=3∨op=4∨op=5∨op=6∨op=7∨op=8∨op=9∨op=10∨op=11∨op=12∨op=13) with rfl|rfl|rfl|rfl|rfl|rfl|rfl|rfl|rfl|rfl|rfl
 ·exact⟨.func (.func xh) #[] #[],w,by kernel_rfl,d (.func (.func xh) #[] #[]) (binaries_1_spec g h e f c)⟩
 ·exact⟨.func (.func xg) #[] #[],w,by kernel_rfl,d (.func (.func xg) #[] #[]) (binaries_2_spec g h e f c)⟩
 ·exact⟨.func (.func xf) #[] #[],w,by kernel_rfl,d (.func (.func xf) #[] #[]) (binaries_3_spec g h e f c)⟩
 ·exact⟨.func (.func xe) #[] #[],w,by kernel_rfl,d (.func (.func xe) #[] #[]) (binaries_4_spec g h e f c)⟩
 ·exact⟨.func (.func xd) #[] #[],w,by kernel_rfl,d (.func (.func xd) #[] #[]) (binaries_5_spec g h e f c)⟩
 ·exact⟨.func (.func xc) #[] #[],w,by kernel_rfl,d (.func (.func xc) #[] #[]) (binaries_6_spec g h e f c)⟩
 ·exact⟨.func (.func xb) #[] #[],w,by kernel_rfl,d (.func (.func xb) #[] #[]) (binaries_7_spec g h e f c)⟩
 ·exact⟨.func (.func xa) #[] #[],w,by kernel_rfl,d (.func (.func xa) #[] #[]) (binaries_8_spec g h e f c)⟩
 ·exact⟨.func (.func x8) #[] #[],w,by kernel_rfl,d (.func (.func x8) #[] #[]) (binaries_9_spec g h e f c)⟩
 ·exact⟨.func (.func yV) #[] #[],w,by kernel_rfl,d (.func (.func yV) #[] #[]) (binaries_10_spec g h e f c)⟩
 ·exact⟨.func (.func yU) #[] #[],w,by kernel_rfl,d (.func (.func yU) #[] #[]) (binaries_11_spec g h e f c)⟩
theorem VecBin_spec {op wd n v m:Int} (D:∀w',Ext w w'→K (.tuple #[Z2 (M.vecBin op wd n v m).1.1 (M.vecBin op wd n v m).1.2,.bool (M.vecBin op wd n v m).2]) w'):vcall PP js #[.int .i64 op,Z2 wd n,Z2 v m] w K:=by
 apply j60
 refine zy fun b1 w1 aa L ae h1=>?_
 refine zy fun b2 w2 ab E af g2=>?_
 refine zz x6 fun b3 U ac F ag r3=>?_
 have hE:=(L.trans E).trans F
 have ai:=L.size
 have aj:=E.size
 have h3:=(h1.ext E).ext F
 have g3:=g2.ext F
 have B:∀s A,Ext U s→Same (· =b3) s A→Ext w A:=fun s A h h'=>Ext.then (hE.trans h) h' fun y hy=>by subst hy;omega
 have d:(M.vecBin op wd n v m)=((0,0),false)→∀s,Ext U s→zl PP zc (.pointer (some ⟨b3,0,none⟩)) (Z2 0 0) s fun _ A=>vlv PP zc (.pointer (some ⟨b3,0,none⟩)) A fun r w6=>K (.tuple #[r,.bool false]) w6:=by
  intro e s c
  refine stVec (r3.ext c) fun A a5 _ T=>?_
  rw[T.lv (by kernel_rfl)]
  have:=D A (B _ _ c a5)
  rwa[e] at this
 refine zI (fun u s=>u=[]∧Ext U s∧M.vok wd n=true∧M.vok v m=true) (fun C Z=>?_) ?_
 ·simp(disch:=(simp only[push_cast];done)) only[push_cast,h3.ldAgg (t:=zc) zW]
  refine VecOk_spec fun s c=>?_
  have g4:=g3.ext c
  simp only[push_cast]
  refine y3 (fun R=>d ?_ _ c) (fun R=>?_)
  ·unfold M.vecBin;rw[if_neg (by simp at R;simp[R])]
  ·simp(disch:=(simp only[push_cast];done)) only[push_cast,g4.ldAgg (t:=zc) zW]
   refine VecOk_spec fun A i=>?_
   simp only[push_cast]
   refine y3 (fun p=>d ?_ _ (c.trans i)) (fun p=>?_)
   ·unfold M.vecBin;rw[if_neg (by simp at p;simp[p])]
   ·exact Z _ _ ⟨rfl,c.trans i,by simpa using R,by simpa using p⟩
 ·rintro u g s ⟨rfl,c,O,p⟩
  have X:=h3.ext c
  have g4:=g3.ext c
  have r4:=r3.ext c
  obtain⟨k,a,rfl,rfl,k1,k4,ha⟩:=M.vok_nat O
  obtain⟨l,b,rfl,rfl,l1,S,hb⟩:=M.vok_nat p
  have I:=pow16 k4 ha
  have a9:=pow16 S hb
  unfold M.vecBin at D d
  rw[if_pos ⟨O,p⟩] at D d
  simp only[push_cast]
  refine zh (fun V=>?_) (fun V=>?_)
  ·rw[if_pos V] at D d
   refine zr fun A i _=>?_
   have Y:=X.ext i
   have g5:=g4.ext i
   have T:=r4.ext i
   have hm:a*2^l≤524288:=shl_small I (by omega)
   have e1:IntKind.i64.wrap ((k:Int)+(l:Int))=((k+l:Nat):Int):=by rw[zE (by omega) (by omega)];omega
   have eS:∀(w:World) (K:Value→World→Prop),zq PP .shl zd false (.int .i64 (a:Int)) (.int .i64 (l:Int)) w K=K (.int .i64 (a*2^l:Nat)) w:=fun w K=>vbin_shlI (by omega) (by omega)
   have eO:∀(w:World) (K:Value→World→Prop),zq PP .or zd false (.int .i64 ((a*2^l:Nat):Int)) (.int .i64 (b:Int)) w K=K (.int .i64 (a*2^l|||b:Nat)) w:=fun w K=>vbin_orI (by omega) (by omega)
   have eC:=M.cat_or S k4 ha hb
   obtain⟨q,hq⟩:∃q,q=a*2^l:=⟨_,rfl⟩
   obtain⟨z,hz⟩:∃z,z=q|||b:=⟨_,rfl⟩
   rw[←hq] at eS eO eC
   rw[←hz] at eO eC
   simp(disch:=(simp only[push_cast];done)) only[push_cast,Y.ld0,Y.ld1,g5.ld0,g5.ld1,true_and,e1,eS,eO]
   refine zz x6 fun b4 w6 ad f ah p6=>?_
   have H:=Y.ext f
   have g6:=g5.ext f
   have r6:=T.ext f
   simp(disch:=(simp only[push_cast];done)) only[push_cast,H.ld0,H.ld1,g6.ld0,g6.ld1,true_and,e1,eS,eO,and_self]
   refine stVec p6 fun w7 Q _ p7=>?_
   have J:b3≠b4:=by have:=T.lt;omega
   have r7:=r6.same Q J
   have j:Ext U w7:=Ext.then ((c.trans i).trans f) Q fun y hy=>by subst hy;have:=(c.trans i).size;omega
   simp(disch:=(simp only[push_cast];done)) only[push_cast,p7.ld0]
   refine zh (fun a2=>d ?_ _ j) (fun a2=>?_)
   ·rw[if_neg (by omega)]
   ·simp(disch:=(simp only[push_cast];done)) only[push_cast,p7.ldAgg (t:=zc) zW]
    refine stVec r7 fun w8 a6 _ r8=>?_
    rw[r8.lv (by kernel_rfl)]
    have:=D w8 (B _ _ j a6)
    rw[if_pos (by omega),←eC] at this
    exact this
  ·rw[if_neg V] at D d
   refine zI (fun u A=>u=[]∧A=s∧3≤op∧op≤13∧(k:Int)=l) (fun C Z=>?_) ?_
   ·refine zh (fun a2=>d (by rw[if_neg (by omega)]) _ c) (fun a2=>?_)
    refine zh (fun a3=>d (by rw[if_neg (by omega)]) _ c) (fun a3=>?_)
    simp(disch:=(simp only[push_cast];done)) only[push_cast,X.ld0,g4.ld0]
    refine zh (fun a4=>d (by rw[if_neg (by omega)]) _ c) (fun a4=>?_)
    exact Z _ _ ⟨rfl,rfl,by omega,by omega,by omega⟩
   ·rintro u g A ⟨rfl,rfl,c3,W,ckl⟩
    have:l=k:=by omega
    subst this
    refine zr fun w6 f _=>?_
    have H:=X.ext f
    have g6:=g4.ext f
    simp(disch:=(simp only[push_cast];done)) only[push_cast,H.ldAgg (t:=zc) zW,g6.ldAgg (t:=zc) zW,true_and]
    refine binaries_spec fun w7 j=>?_
    have h7:=H.ext j
    have g7:=g6.ext j
    simp(disch:=(simp only[push_cast];done)) only[push_cast,h7.ldAgg (t:=zc) zW,g7.ldAgg (t:=zc) zW,true_and,and_self]
    obtain⟨o,rfl⟩:∃o:Nat,op=o:=⟨op.toNat,by omega⟩
    refine bin_all (by omega) (by omega) l1 S ha hb rfl ?_ fun x hx=>⟨rfl,hx⟩
    intro w8 r G hr a0
    have h8:=h7.ext G
    simp(disch:=(simp only[push_cast];done)) only[push_cast,h8.ldAgg (t:=zc) zW,true_and,and_self]
    refine vec_spec hr l1 S fun w9 N=>?_
    have r9:=(((r4.ext f).ext j).ext G).ext N
    refine stVec r9 fun a8 P _ a7=>?_
    rw[a7.lv (by kernel_rfl)]
    have:=D a8 (B _ _ ((((c.trans f).trans j).trans G).trans N) P)
    rw[if_pos ⟨c3,W,rfl⟩] at this
    rw[a0]
    exact this
theorem eqVec {a b c d:Int} {t:Bool}:zq PP .eql zc t (Z2 a b) (Z2 c d) w K=K (.bool (decide (a=c∧b=d))) w:=by
 refine yL (run_eqGuard_agg w _ _ _ _ _ _ (by kernel_rfl)) ?_
 have i:(PP.fieldsOf zc).toList=[(PP.fieldsOf zc).getD 0 default,(PP.fieldsOf zc).getD 1 default]:=by kernel_rfl
 have g:((PP.fieldsOf zc).getD 0 default).name≠ "_" :=by decide+kernel
 have h:((PP.fieldsOf zc).getD 1 default).name≠ "_" :=by decide+kernel
 have i0:PP.underlying ((PP.fieldsOf zc).getD 0 default).type=some (.int .i64):=by kernel_rfl
 have i1:PP.underlying ((PP.fieldsOf zc).getD 1 default).type=some (.int .i64):=by kernel_rfl
 have p0:∀x y:Value,(part ((PP.fieldsOf zc).getD 0 default).type ⟨[x,y]⟩ ((PP.fieldsOf zc).getD 0 default).offset).run PP w= .ok x w:=fun x y=>by kernel_rfl
 have p1:∀x y:Value,(part ((PP.fieldsOf zc).getD 1 default).type ⟨[x,y]⟩ ((PP.fieldsOf zc).getD 1 default).offset).run PP w= .ok y w:=fun x y=>by kernel_rfl
 have j:(Op.equalIn 10000 zc (Z2 a b) (Z2 c d)).run PP w= .ok (decide (a=c∧b=d)) w:=by
  rw[run_equalIn_struct w 9999 zc _ _ (by kernel_rfl) (by kernel_rfl),i]
  generalize (PP.fieldsOf zc).getD 0 default=f0 at g i0 p0⊢
  generalize (PP.fieldsOf zc).getD 1 default=f1 at h i1 p1⊢
  simp only[Op.eqFields,if_pos g,if_pos h,Sem.run_bind,p0,p1,Result.andThen_ok,run_equalIn_int w 9998 _ _ _ _ _ i0,run_equalIn_int w 9998 _ _ _ _ _ i1]
  by_cases e:a=c
  ·by_cases f:b=d
   ·subst e;subst f;simp[run_equalIn_int w 9998 _ _ _ _ _ i1,p1]
   ·subst e;simp[run_equalIn_int w 9998 _ _ _ _ _ i1,p1,f]
  ·simp[e]
 rw[run_eql_struct,j]
 rfl
theorem VecCmp_spec {op wd n v m:Int} (k:∀w',Ext w w'→K (.tuple #[.bool (M.vecCmp op wd n v m).1,.bool (M.vecCmp op wd n v m).2]) w'):vcall PP Qx #[.int .i64 op,Z2 wd n,Z2 v m] w K:=by
 apply j50
 refine zy fun b1 L E y G B=>?_
 refine zy fun b2 A F l H g2=>?_
 have p:=y.trans l
 have r:=B.ext l
 have d:(M.vecCmp op wd n v m)=(false,false)→∀f,Ext A f→K (.tuple #[.bool false,.bool false]) f:=by
  intro e f a
  have:=k f (p.trans a)
  rwa[e] at this
 refine zI (fun u f=>u=[]∧Ext A f∧M.vok wd n=true∧M.vok v m=true∧wd=v) (fun C D=>?_) ?_
 ·simp(disch:=(simp only[push_cast];done)) only[push_cast,r.ldAgg (t:=zc) zW]
  refine VecOk_spec fun f a=>?_
  have g4:=g2.ext a
  simp only[push_cast]
  refine y3 (fun q=>d ?_ _ a) (fun q=>?_)
  ·unfold M.vecCmp;rw[if_neg (by simp at q;simp[q])]
  ·simp(disch:=(simp only[push_cast];done)) only[push_cast,g4.ldAgg (t:=zc) zW]
   refine VecOk_spec fun I b=>?_
   have g5:=g4.ext b
   have x:=(r.ext a).ext b
   simp only[push_cast]
   refine y3 (fun c=>d ?_ _ (a.trans b)) (fun c=>?_)
   ·unfold M.vecCmp;rw[if_neg (by simp at c;simp[c])]
   ·simp(disch:=(simp only[push_cast];done)) only[push_cast,x.ld0,g5.ld0]
    refine zh (fun j=>d ?_ _ (a.trans b)) (fun j=>?_)
    ·unfold M.vecCmp;rw[if_neg (fun h=>j h.2.2.1)]
    ·exact D _ _ ⟨rfl,a.trans b,by simpa using q,by simpa using c,by omega⟩
 ·rintro u g f ⟨rfl,a,i,c,rfl⟩
  have s:=r.ext a
  have g4:=g2.ext a
  unfold M.vecCmp at k d
  simp only[push_cast]
  refine zh (fun j=>?_) (fun j=>?_)
  ·subst j
   simp(disch:=(simp only[push_cast];done)) only[push_cast,s.ldAgg (t:=zc) zW,g4.ldAgg (t:=zc) zW]
   rw[eqVec]
   have:=k f (p.trans a)
   rw[if_pos ⟨i,c,rfl,by omega,by omega⟩] at this
   simp only[M.cmpM,if_true] at this
   simp only[true_and]
   exact this
  refine zh (fun a2=>?_) (fun a2=>?_)
  ·subst a2
   simp(disch:=(simp only[push_cast];done)) only[push_cast,s.ld1,g4.ld1]
   have:=k f (p.trans a)
   rw[if_pos ⟨i,c,rfl,by omega,by omega⟩] at this
   exact this
  refine zh (fun a3=>?_) (fun a3=>?_)
  ·subst a3
   refine zr fun I b _=>?_
   have x:=s.ext b
   have g5:=g4.ext b
   simp(disch:=(simp only[push_cast];done)) only[push_cast,x.ldAgg (t:=zc) zW,g5.ldAgg (t:=zc) zW,true_and]
   refine VecSigned_spec fun N o=>?_
   have g6:=g5.ext o
   simp(disch:=(simp only[push_cast];done)) only[push_cast,g6.ldAgg (t:=zc) zW,true_and,and_self]
   refine VecSigned_spec fun J z=>?_
   simp only[push_cast,if_pos i,if_pos c,true_and]
   have:=k J (((p.trans a).trans b).trans (o.trans z))
   rw[if_pos ⟨i,c,rfl,by omega,by omega⟩] at this
   exact this
  ·exact d (by rw[if_neg (fun h=>by omega)]) _ a
theorem VecCut_spec {wd n hi lo:Int} (m:∀w',Ext w w'→K (.tuple #[Z2 (M.vecCut wd n hi lo).1.1 (M.vecCut wd n hi lo).1.2,.bool (M.vecCut wd n hi lo).2]) w'):vcall PP Yc #[Z2 wd n,.int .i64 hi,.int .i64 lo] w K:=by
 apply j40
 refine zy fun b1 w1 U o W Q=>?_
 refine zz x6 fun b3 E V p X I=>?_
 have S:=o.trans p
 have a0:=o.size
 have v:=Q.ext p
 have f:∀d i,Ext E d→Same (· =b3) d i→Ext w i:=fun d i h P=>Ext.then (S.trans h) P fun y Y=>by subst Y;omega
 have c:(M.vecCut wd n hi lo)=((0,0),false)→∀d,Ext E d→zl PP zc (.pointer (some ⟨b3,0,none⟩)) (Z2 0 0) d fun _ i=>vlv PP zc (.pointer (some ⟨b3,0,none⟩)) i fun r F=>K (.tuple #[r,.bool false]) F:=by
  intro e d b
  refine stVec (I.ext b) fun i B _ r5=>?_
  rw[r5.lv (by kernel_rfl)]
  have:=m i (f _ _ b B)
  rwa[e] at this
 unfold M.vecCut at m c
 refine zI (fun u d=>u=[]∧Ext E d∧M.vok wd n=true∧0≤lo∧lo≤hi∧hi<wd) (fun C R=>?_) ?_
 ·simp(disch:=(simp only[push_cast];done)) only[push_cast,v.ldAgg (t:=zc) zW]
  refine VecOk_spec fun d b=>?_
  have A:=v.ext b
  simp only[push_cast]
  refine y3 (fun j=>c ?_ _ b) (fun j=>?_)
  ·rw[if_neg (by simp at j;simp[j])]
  refine zh (fun J=>c (if_neg (by omega)) _ b) (fun J=>?_)
  refine zh (fun a2=>c (if_neg (by omega)) _ b) (fun a2=>?_)
  simp(disch:=(simp only[push_cast];done)) only[push_cast,A.ld0]
  refine zh (fun a3=>c (if_neg (by omega)) _ b) (fun a3=>?_)
  exact R _ _ ⟨rfl,b,by simpa using j,by omega,by omega,by omega⟩
 ·rintro u g d ⟨rfl,b,j,L,N,c3⟩
  have A:=v.ext b
  have r4:=I.ext b
  obtain⟨k,a,rfl,rfl,k1,k4,T⟩:=M.vok_nat j
  obtain⟨l,rfl⟩:∃l:Nat,lo=l:=⟨lo.toNat,by omega⟩
  obtain⟨t,H⟩:∃t:Nat,hi-(l:Int)+1=t:=⟨(hi-l+1).toNat,by omega⟩
  have G:=pow16 k4 T
  have O:IntKind.i64.wrap (IntKind.i64.wrap (hi-(l:Int))+1)=(t:Int):=by rw[zE (x:=hi-l) (by omega) (by omega),zE (by omega) (by omega)];omega
  simp(disch:=(simp only[push_cast];done)) only[push_cast,A.ldAgg (t:=zc) zW,O]
  refine raw_spec (by omega) fun i q=>?_
  have hd:=Nat.div_le_self a (2^l)
  rw[vbin_shrU (by omega)]
  refine cut_spec (by omega) (by omega) (by omega) ?_
  have hm:=Nat.mod_le (a/2^l) (2^t)
  have s:M.cutM (a:Int) hi (l:Int)=((a/2^l%2^t:Nat):Int):=by
   unfold M.cutM
   rw[H]
   simp
  rw[if_pos ⟨j,L,N,c3⟩] at m
  simp only[s,H] at m
  obtain⟨z,Z⟩:∃z,z=a/2^l%2^t:=⟨_,rfl⟩
  rw[←Z] at hm m⊢
  rw[j6 y90 ym0,wrapN (by omega)]
  simp only[push_cast]
  refine stVec (r4.ext q) fun F D _ r6=>?_
  rw[r6.lv (by kernel_rfl)]
  exact m F (f _ _ (b.trans q) D)
end Go.Proofs.YtaekfnbnhjgboaaGreatDoor
end
section
namespace Go.Proofs.YtaekfnbnhjgboaaGreatDoor
open Go Go.Vc Go.Proofs
variable {w:World} {K:Value→World→Prop} {F G:Nat→Prop}
@[push_cast] theorem tn0:(0:Int).toNat=0:=rfl
@[push_cast] theorem tn1:(1:Int).toNat=1:=rfl
@[push_cast] theorem tn2:(2:Int).toNat=2:=rfl
theorem YH0 {α:Type} (xs:List α) (d:α) (p:α→Bool):(List.range xs.length).any (fun i=>p (xs.getD i d))=xs.any p:=by
 rw[Bool.eq_iff_iff,List.any_eq_true,List.any_eq_true]
 constructor
 ·rintro⟨i,hi,a⟩
  exact⟨_,M.getD_mem (List.mem_range.1 hi) d,a⟩
 ·rintro⟨x,b,a⟩
  obtain⟨i,hi,rfl⟩:=List.getElem_of_mem b
  exact⟨i,List.mem_range.2 hi,by rw[List.getD_eq_getElem?_getD,List.getElem?_eq_getElem hi];exact a⟩
abbrev DclV (d:M.Dcl):Value:= .agg ⟨[.string d.1,.int .i64 d.2]⟩
abbrev UM:M.Dcl:=(M.nada,0)
theorem IndexFunc_Decl {v f:Value} {ds:List M.Dcl} {p:Nat→Bool} (e:DclsR F w v ds) (n:∀i,i<ds.length→FnB PP w f #[DclV (ds.getD i UM)] (p i))
  (k:∀w',Ext w w'→K (.int .i64 (idxI ds.length p)) w'):vcall PP yr #[v,f] w K:=by
 apply jn
 simp(disch:=first|(simp only[push_cast];done)|omega) only[push_cast,e.len]
 have hlen:=e.small
 refine vloop_up ds.length (fun i u w'=>u=[.int .i64 i]∧Ext w w'∧∀j,j<i→p j=false) ⟨rfl,Same.refl _ _,by omega⟩ ?_
 rintro i _ g l C hi ⟨rfl,he,d⟩ m
 simp only[push_cast]
 refine zh (fun r=>?_) (fun o=>?_)
 ·have b:=e.ext he
  simp(disch:=first|(simp only[push_cast];done)|omega) only[push_cast,b.iaddr,b.load]
  refine n i (by omega) l _ he fun s a=>y3 (fun c=>?_) (fun c=>?_)
  ·have:=k s (he.trans a)
   rwa[idxI_some (by omega) c d] at this
  ·rw[inc64' (by omega)]
   exact m (by omega) _ _ ⟨rfl,he.trans a,fun j q=>by
    by_cases h:j=i
    ·subst h;exact c
    ·exact d j (by omega)⟩
 ·have:=k l he
  rwa[yo0 (fun j q=>d j (by omega))] at this
theorem za0 {v f:Value} {ds:List M.Dcl} {p:Nat→Bool} (c:DclsR F w v ds) (b:∀i,i<ds.length→FnB PP w f #[DclV (ds.getD i UM)] (p i))
  (a:∀w',Ext w w'→K (.bool ((List.range ds.length).any p)) w'):vcall PP yK #[v,f] w K:=by
 apply qR
 refine IndexFunc_Decl c b fun w' he=>?_
 simp only[push_cast,VO]
 exact a w' he
theorem yg0 {b:Bool} (a:K (.int .i64 (M.b2i b)) w):vcall PP Yb #[.bool b] w K:=by
 apply j10
 refine y3 (fun h=>?_) (fun h=>?_)<;>subst h<;>exact a
theorem Qf {b:Bool} {s:Int} (a:K (.int .i64 (if b=true then s else-1)) w):vcall PP yi #[.bool b,.int .i64 s] w K:=by
 apply qZ0
 refine y3 (fun h=>?_) (fun h=>?_)<;>subst h<;>exact a
theorem Z8 {p:Prop} [Decidable p] {s:Int} (a:K (.int .i64 (if p then s else-1)) w):vcall PP yi #[.bool (decide p),.int .i64 s] w K:=
 Qf (by simpa using a)
theorem Ym {s:Int} (a:K (.int .i64 (-1)) w):vcall PP yi #[.bool false,.int .i64 s] w K:=Qf a
theorem kN {s:ByteArray} {n:Int} (c:∀w',Ext w w'→K (.int .i64 n) w'):vcall PP yD #[.agg ⟨[.string s,.int .i64 n]⟩] w K:=by
 apply UR
 refine zy fun b1 f d a e b=>?_
 simp(disch:=(simp only[push_cast];done)) only[push_cast,b.ld1]
 exact c _ a
abbrev KV (s:ByteArray) (n:Int):Value:= .agg ⟨[.string s,.int .i64 n]⟩
theorem unKind_sort_spec {s:ByteArray} {n:Int} {dv tv kv:Value} {t:M.Tm} {xs:List Int} (k:TermR F w tv t) (l:Ints G w kv xs) (p:xs.length=1)
  (e:∀w',Ext w w'→K (.int .i64 (if 0<xs.getD 0 0 then xs.getD 0 0 else-1)) w'):vcall PP kA #[KV s n,dv,tv,kv] w K:=by
 apply WA
 obtain⟨ksv,rfl,h⟩:=k
 refine zy fun b1 q f a i m=>?_
 refine zy fun b2 r g b j o=>?_
 refine zr fun u c _=>?_
 have d:=l.ext ((a.trans b).trans c)
 simp(disch:=first|(simp only[push_cast];done)|omega) only[push_cast,d.iaddr,d.load,true_and]
 exact Z8 (e _ ((a.trans b).trans c))
theorem binKind_sort_spec {s:ByteArray} {n:Int} {dv tv kv:Value} {t:M.Tm} {xs:List Int} (m:TermR F w tv t) (o:Ints G w kv xs) (r:xs.length=2)
  (g:∀w',Ext w w'→K (.int .i64 (if 0<xs.getD 0 0∧xs.getD 0 0=xs.getD 1 0 then xs.getD 0 0 else-1)) w'):vcall PP jY #[KV s n,dv,tv,kv] w K:=by
 apply Wb
 obtain⟨ksv,rfl,j⟩:=m
 refine zy fun b1 u h b k p=>?_
 refine zy fun b2 v i c l q=>?_
 refine zr fun x d _=>?_
 have e:=o.ext ((b.trans c).trans d)
 have f:=g _ ((b.trans c).trans d)
 simp(disch:=first|(simp only[push_cast];done)|omega) only[push_cast,e.iaddr,e.load,true_and]
 refine zh (fun a=>?_) (fun a=>?_)
 ·refine Z8 ?_
  simpa only[a,true_and] using f
 ·refine Ym ?_
  simpa only[a,false_and,if_false] using f
theorem cmpKind_sort_spec {s:ByteArray} {n:Int} {dv tv kv:Value} {t:M.Tm} {xs:List Int} (m:TermR F w tv t) (o:Ints G w kv xs) (r:xs.length=2)
  (g:∀w',Ext w w'→K (.int .i64 (if 0<xs.getD 0 0∧xs.getD 0 0=xs.getD 1 0 then 0 else-1)) w'):vcall PP jU #[KV s n,dv,tv,kv] w K:=by
 apply W2
 obtain⟨ksv,rfl,j⟩:=m
 refine zy fun b1 u h b k p=>?_
 refine zy fun b2 v i c l q=>?_
 refine zr fun x d _=>?_
 have e:=o.ext ((b.trans c).trans d)
 have f:=g _ ((b.trans c).trans d)
 simp(disch:=first|(simp only[push_cast];done)|omega) only[push_cast,e.iaddr,e.load,true_and]
 refine zh (fun a=>?_) (fun a=>?_)
 ·refine Z8 ?_
  simpa only[a,true_and] using f
 ·refine Ym ?_
  simpa only[a,false_and,if_false] using f
theorem catKind_sort_spec {s:ByteArray} {n:Int} {dv tv kv:Value} {t:M.Tm} {xs:List Int} (r:TermR F w tv t) (u:Ints G w kv xs) (y:xs.length=2) (h:∀i,-1≤xs.getD i 0∧xs.getD i 0≤4)
  (k:∀w',Ext w w'→K (.int .i64 (if 0<xs.getD 0 0∧0<xs.getD 1 0∧xs.getD 0 0+xs.getD 1 0≤4 then xs.getD 0 0+xs.getD 1 0 else-1)) w'):vcall PP jV #[KV s n,dv,tv,kv] w K:=by
 apply W4
 obtain⟨ksv,rfl,o⟩:=r
 refine zy fun b1 B l c p v=>?_
 refine zy fun b2 C m d q x=>?_
 refine zr fun D e _=>?_
 have f:=u.ext ((c.trans d).trans e)
 have g:=k _ ((c.trans d).trans e)
 have z:=h 0
 have A:=h 1
 have j:IntKind.i64.wrap (xs.getD 0 0+xs.getD 1 0)=xs.getD 0 0+xs.getD 1 0:=zE (by omega) (by omega)
 simp(disch:=first|(simp only[push_cast];done)|omega) only[push_cast,f.iaddr,f.load,true_and,j]
 refine zh (fun a=>?_) (fun a=>?_)
 ·refine zh (fun b=>?_) (fun b=>?_)
  ·refine Z8 ?_
   simpa only[a,b,true_and] using g
  ·refine Ym ?_
   simpa only[b,false_and,and_false,if_false] using g
 ·refine Ym ?_
  simpa only[a,false_and,if_false] using g
theorem ifKind_sort_spec {s:ByteArray} {n:Int} {dv tv kv:Value} {t:M.Tm} {xs:List Int} (m:TermR F w tv t) (o:Ints G w kv xs) (r:xs.length=3)
  (g:∀w',Ext w w'→K (.int .i64 (if xs.getD 0 0=0∧xs.getD 1 0=xs.getD 2 0 then xs.getD 1 0 else-1)) w'):vcall PP kB #[KV s n,dv,tv,kv] w K:=by
 apply WC
 obtain⟨ksv,rfl,j⟩:=m
 refine zy fun b1 u h b k p=>?_
 refine zy fun b2 v i c l q=>?_
 refine zr fun x d _=>?_
 have e:=o.ext ((b.trans c).trans d)
 have f:=g _ ((b.trans c).trans d)
 simp(disch:=first|(simp only[push_cast];done)|omega) only[push_cast,e.iaddr,e.load,true_and]
 refine zh (fun a=>?_) (fun a=>?_)
 ·refine Z8 ?_
  simpa only[a,true_and] using f
 ·refine Ym ?_
  simpa only[a,false_and,if_false] using f
theorem Uv {s:ByteArray} {n:Int} {dv tv kv:Value} {t:M.Tm} (q:TermR F w tv t)
  (j:∀w',Ext w w'→K (.int .i64 (if M.vok t.a t.b=true then t.a else-1)) w'):vcall PP jO #[KV s n,dv,tv,kv] w K:=by
 apply VU
 obtain⟨ksv,rfl,m⟩:=q
 refine zy fun b1 u k f o r=>?_
 refine zy fun b2 v l g p h=>?_
 refine zr fun x c _=>?_
 have e:=h.ext c
 simp(disch:=first|(simp only[push_cast];done)|omega) only[push_cast,e.ld1,e.ld2,true_and]
 refine VecOk_spec fun y d=>?_
 have i:=e.ext d
 simp(disch:=first|(simp only[push_cast];done)|omega) only[push_cast,i.ld1,true_and,and_self]
 exact Qf (j _ (((f.trans g).trans c).trans d))
theorem cutKind_sort_spec {s:ByteArray} {n:Int} {dv tv kv:Value} {t:M.Tm} {xs:List Int} (y:TermR F w tv t) (z:Ints G w kv xs) (B:xs.length=1) (r:∀i,-1≤xs.getD i 0∧xs.getD i 0≤4)
  (m:∀w',Ext w w'→K (.int .i64 (if 0≤t.b∧t.b≤t.a∧t.a<xs.getD 0 0 then t.a-t.b+1 else-1)) w'):vcall PP jT #[KV s n,dv,tv,kv] w K:=by
 apply W1
 obtain⟨ksv,rfl,q⟩:=y
 refine zy fun b1 D o e u A=>?_
 refine zy fun b2 E p f v l=>?_
 refine zr fun H d _=>?_
 have g:=z.ext ((e.trans f).trans d)
 have j:=l.ext d
 have h:=m _ ((e.trans f).trans d)
 have C:=r 0
 simp(disch:=first|(simp only[push_cast];done)|omega) only[push_cast,j.ld1,j.ld2,g.iaddr,g.load,true_and]
 refine zh (fun a=>?_) (fun a=>?_)
 ·refine zh (fun b=>?_) (fun b=>?_)
  ·by_cases c:t.a<xs.getD 0 0
   ·have k:IntKind.i64.wrap (IntKind.i64.wrap (t.a-t.b)+1)=t.a-t.b+1:=by rw[zE (x:=t.a-t.b) (by omega) (by omega),zE (by omega) (by omega)]
    rw[k]
    refine Z8 ?_
    simpa only[a,b,c,true_and] using h
   ·refine Z8 ?_
    simpa only[c,and_false,if_false] using h
  ·refine Ym ?_
   simpa only[b,false_and,and_false,if_false] using h
 ·refine Ym ?_
  simpa only[a,false_and,if_false] using h
theorem WP {s:ByteArray} {n:Int} {f dv tv kv:Value} {t:M.Tm} {xs:List Int} (q:TermR F w tv t) (r:Ints G w kv xs)
  (c:∀w',Ext w w'→K (.int .i64 (if xs.any (fun x=>decide (x≠0)) then-1 else 0)) w'):vcall PP jD #[.agg ⟨[.string s,.int .i64 n,f]⟩,dv,tv,kv] w K:=by
 apply KQ
 obtain⟨ksv,rfl,l⟩:=q
 refine zy fun b1 y j a m u=>?_
 refine zy fun b2 z k b o v=>?_
 have e:=r.ext (a.trans b)
 refine K6 (p:=fun i=>decide (xs.getD i 0≠0)) e (fun i hi=>?_) fun A d=>?_
 ·rw[jt0 (by simpa using hi)]
  intro w' K he c
  simp only[push_cast]
  apply QY
  simp only[push_cast]
  have:=c _ (Same.refl _ _)
  simpa using this
 ·have g:=c _ ((a.trans b).trans d)
  rw[List.length_map,YH0 xs 0 (fun x=>decide (x≠0))]
  simp only[push_cast]
  refine Qf ?_
  cases h:xs.any fun x=>decide (x≠0)<;>rw[h] at g<;>exact g
theorem nameKind_sort_spec {s:ByteArray} {n:Int} {dv tv kv:Value} {t:M.Tm} {ds:List M.Dcl} (B:TermR F w tv t) (u:DclsR G w dv ds)
  (h:∀w',Ext w w'→K (.int .i64 (if M.findD ds t.s<0 then-1 else(ds.getD (M.findD ds t.s).toNat UM).2)) w'):vcall PP jy #[KV s n,dv,tv,kv] w K:=by
 apply KH
 obtain⟨ksv,rfl,x⟩:=B
 refine zy fun b1 D o d y C=>?_
 refine zy fun b2 E q e z k=>?_
 simp only[push_cast]
 have b:=u.ext (d.trans e)
 refine IndexFunc_Decl (p:=fun i=>decide ((ds.getD i UM).1=t.s)) b (fun i hi=>?_) fun H f=>?_
 ·intro w' K he h
  simp only[push_cast]
  apply QV
  refine zy fun b3 I r g A l=>?_
  have m:=(k.ext he).ext g
  simp(disch:=first|(simp only[push_cast];done)|omega) only[push_cast,l.ld0,m.ld3]
  exact h _ g
 ·have v:=M.findD_lt ds t.s
  have j:=h _ ((d.trans e).trans f)
  have c:=b.ext f
  have efd:idxI ds.length (fun i=>decide ((ds.getD i UM).1=t.s))=M.findD ds t.s:=rfl
  rw[efd]
  simp only[push_cast]
  refine zh (fun a=>?_) (fun a=>?_)
  ·rwa[if_pos a] at j
  ·rw[if_neg a] at j
   simp(disch:=first|(simp only[push_cast];done)|omega) only[push_cast,c.iaddr]
   simp(disch:=first|(simp only[push_cast];done)|omega) only[push_cast,c.load1]
   exact j
end Go.Proofs.YtaekfnbnhjgboaaGreatDoor
end
section
namespace Go.Proofs.YtaekfnbnhjgboaaGreatDoor
open Go Go.Vc Go.Proofs
variable {w:World} {K:Value→World→Prop} {F:Nat→Prop}
theorem l1Max_spec {a b:Int} (c:K (.int .i64 (max a b)) w):vcall PP Jh #[.int .i64 a,.int .i64 b] w K:=by
 apply jR0
 simp only[push_cast]
 refine zh (fun h=>?_) (fun h=>?_)
 ·rwa[show max a b=a by omega] at c
 ·rwa[show max a b=b by omega] at c
theorem l1Min_spec {a b:Int} (c:K (.int .i64 (min a b)) w):vcall PP Jg #[.int .i64 a,.int .i64 b] w K:=by
 apply jQ0
 simp only[push_cast]
 refine zh (fun h=>?_) (fun h=>?_)
 ·rwa[show min a b=a by omega] at c
 ·rwa[show min a b=b by omega] at c
theorem pow62 {k:Nat} (h:k≤62):2^k≤4611686018427387904:=Nat.le_trans (Nat.pow_le_pow_right (by omega) h) (by decide)
theorem l1Two_spec {n:Int} (h:n≤62) (l:K (.int .i64 ((2^n.toNat:Nat):Int)) w):vcall PP qi #[.int .i64 n] w K:=by
 apply jP0
 refine vloop_up n.toNat (fun i u w'=>u=[.int .i64 (2^i:Nat),.int .i64 i]∧w'=w) ⟨rfl,rfl⟩ ?_
 rintro i _ _ o C hi ⟨rfl,rfl⟩ e
 have m:=pow62 (k:=i) (by omega)
 have c:((2^i:Nat):Int)*2=((2^(i+1):Nat):Int):=by rw[Nat.pow_succ];omega
 have b:i<n.toNat→2^(i+1)≤4611686018427387904:=fun h=>pow62 (by omega)
 obtain⟨q,g⟩:∃q,q=2^i:=⟨_,rfl⟩
 obtain⟨j,d⟩:∃j,j=2^(i+1):=⟨_,rfl⟩
 rw[←g] at c m⊢
 rw[←d] at c e b
 simp only[push_cast]
 refine zh (fun a=>?_) (fun a=>?_)
 ·have f:=b (by omega)
  rw[c,zE (by omega) (by omega),inc64' (by omega)]
  exact e (by omega) _ _ ⟨rfl,rfl⟩
 ·have:i=n.toNat:=by omega
  subst this
  rw[g];exact l
theorem l1Two_nat {n:Nat} (h:n≤62) (a:K (.int .i64 ((2^n:Nat):Int)) w):vcall PP qi #[.int .i64 (n:Int)] w K:=
 l1Two_spec (by omega) (by rwa[Int.toNat_natCast])
theorem spec_VecOk_spec {wd n:Int} (j:∀w',Ext w w'→K (.bool (M.vok wd n)) w'):vcall PP Jj #[Z2 wd n] w K:=by
 apply jT0
 refine zy fun b1 o k f l h=>?_
 refine zr fun m c _=>?_
 have e:=h.ext c
 have i:=f.trans c
 simp(disch:=(simp only[push_cast];done)) only[push_cast,e.ld0,e.ld1,true_and]
 have a:=j m i
 refine zh (fun d=>?_) (fun d=>?_)
 ·refine zh (fun a2=>?_) (fun a2=>?_)
  ·refine zh (fun a3=>?_) (fun a3=>?_)
   ·refine l1Two_spec (by omega) ?_
    obtain⟨q,g⟩:∃q,q=2^wd.toNat:=⟨_,rfl⟩
    have b:M.vok wd n=decide (n<(q:Nat)):=by
     simp only[M.vok,decide_eq_true d,decide_eq_true a2,decide_eq_true a3,Bool.true_and]
     rw[g,xV0]
    rw[←g]
    simp(disch:=(simp only[push_cast];done)) only[push_cast,e.ld1,true_and,and_self]
    rw[b] at a
    exact a
   ·have b:M.vok wd n=false:=by simp only[M.vok,decide_eq_false a3,Bool.and_false,Bool.false_and]
    rw[b] at a;exact a
  ·have b:M.vok wd n=false:=by simp only[M.vok,decide_eq_false a2,Bool.and_false,Bool.false_and]
   rw[b] at a;exact a
 ·have b:M.vok wd n=false:=by simp only[M.vok,decide_eq_false d,Bool.false_and]
  rw[b] at a;exact a
theorem l1Bit_spec {n k:Nat} (d:n<9223372036854775808) (b:k≤62) (a:K (.int .i64 ((n/2^k%2:Nat):Int)) w):vcall PP Ji #[.int .i64 (n:Int),.int .i64 (k:Int)] w K:=by
 apply jS0
 refine l1Two_nat b ?_
 have e:0<2^k:=Nat.pow_pos (by omega)
 have c:n/2^k≤n:=Nat.div_le_self _ _
 rw[zW0 (by omega),show(n:Int).tdiv ((2^k:Nat):Int)=((n/2^k:Nat):Int) from rfl,wrapN (by omega),YZ (by omega),show((n/2^k:Nat):Int).tmod 2=((n/2^k%2:Nat):Int) from rfl]
 exact a
end Go.Proofs.YtaekfnbnhjgboaaGreatDoor
end
