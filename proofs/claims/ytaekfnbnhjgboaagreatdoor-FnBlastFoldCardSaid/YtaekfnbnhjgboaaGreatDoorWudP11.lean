import Derived.Test.YtaekfnbnhjgboaaGreatDoorWudP10
/- A part of the proof. -/
set_option linter.unusedVariables false
set_option linter.unusedSimpArgs false
set_option linter.unnecessarySimpa false
set_option linter.unusedSectionVars false
section
namespace Go.Proofs.YtaekfnbnhjgboaaGreatDoor
open Go Go.Vc Go.Proofs
variable {w:World} {K:Value→World→Prop} {D F Fx Fy Y S O:Nat→Prop} {n b4 b8:Nat} {gs gs':M.Gs} {v nv xv yv:Value} {cs cs':List Value} {st st':Option M.Gs} {a b c m x y r:Int} {xs ys:List Int}
abbrev J40 (D O:Nat→Prop) (b4 b8:Nat):Nat→Prop:=fun b=>D b∨b=b4∨b=b8∨O b
structure Fm (n:Nat) (D O:Nat→Prop) (w0:World) (b4 b8:Nat) (w:World) (st:Option M.Gs):Prop where
 ext:Ext w0 w
 k:∃cs,Blk w b4 cs zf∧MkR n (J40 D O b4 b8) w cs st
 r:∃cs,Blk w b8 cs zf∧cs.length=3
 lo:w0.heap.size≤b4∧w0.heap.size≤b8∧b4≠b8
 off:∀b,O b→b<w.heap.size∧w0.heap.size≤b∧b≠b4∧b≠b8
 dlt:∀b,D b→b<w0.heap.size
theorem Fm.start (m:MkR n D w cs st) (hD:∀b,D b→b<w.heap.size) {K:Value→Value→World→Prop} (i:∀b4 b8 w',Fm n D (fun _=>False) w b4 b8 w' st→K (.pointer (some ⟨b4,0,none⟩)) (.pointer (some ⟨b8,0,none⟩)) w'):
  yo PP zf (.agg ⟨cs⟩) w fun t g=>zJ PP zf g fun t8 f=>K t t8 f:=by
 refine zy fun b4 g k c o d=>?_
 refine zz qz fun b8 f l a p e=>?_
 refine i b4 b8 f ⟨c.trans a,⟨cs,d.ext a,m.ext (c.trans a) fun b j q=>j.elim id fun h=>?_⟩,⟨_,e,rfl⟩,by omega,fun b h=>h.elim,hD⟩
 rcases h with h|h|h
 ·omega
 ·omega
 ·exact h.elim
section
variable {w0 w':World}
theorem Fm.lt4 (h:Fm n D O w0 b4 b8 w st):b4<w.heap.size∧b8<w.heap.size:=by
 obtain⟨_,a,_⟩:=h.k;obtain⟨_,b,_⟩:=h.r;exact⟨a.lt,b.lt⟩
theorem Fm.dl (h:Fm n D O w0 b4 b8 w st):∀b,J40 D O b4 b8 b→b<w.heap.size:=fun b c=>by
 have l:=h.lt4;have s:=h.ext.size
 rcases c with a|a|a|a
 ·have:=h.dlt b a;omega
 ·omega
 ·omega
 ·exact(h.off b a).1
theorem Fm.grow (h:Fm n D O w0 b4 b8 w st) (he:Ext w w'):Fm n D O w0 b4 b8 w' st:=by
 obtain⟨cs,c,d⟩:=h.k;obtain⟨a,e,f⟩:=h.r
 exact⟨h.ext.trans he,⟨cs,c.ext he,d.ext he fun _ h _=>h⟩,⟨a,e.ext he,f⟩,h.lo,fun b i=>by have g:=h.off b i;have:=he.size;exact⟨by omega,g.2⟩,h.dlt⟩
theorem Fm.call (h:Fm n D O w0 b4 b8 w st):∃cs,MkR n (J40 D O b4 b8) w cs st∧∀w',Ext w w'→∀K:Value→World→Prop,ze PP zf (.pointer (some ⟨b4,0,none⟩)) w' K=K (.agg ⟨cs⟩) w':=by
 obtain⟨cs,b,a⟩:=h.k
 exact⟨cs,a,fun w' he K=>yi0 (b.ext he) a.len⟩
theorem Fm.put (h:Fm n D O w0 b4 b8 w st) (he:Ext w w') (c:MkR n (J40 D O b4 b8) w' cs' st') (o:∀w'',Fm n D O w0 b4 b8 w'' st'→Same (· =b4) w' w''→w''.heap.size=w'.heap.size→K undef w''):
  zl PP zf (.pointer (some ⟨b4,0,none⟩)) (.agg ⟨cs'⟩) w' K:=by
 obtain⟨cs,f,g⟩:=h.k;obtain⟨d,i,j⟩:=h.r
 refine mk_put (f.ext he) g.len c.len c.one fun w'' hs p m=>o w'' ⟨Ext.then (h.ext.trans he) hs fun b a=>by have:=h.lo;omega,⟨cs',m,c.same hs fun b a=> .inr (.inl a)⟩,⟨d,(i.ext he).same hs fun e=>h.lo.2.2 e.symm,j⟩,h.lo,fun b a=>?_,h.dlt⟩ hs p
 have l:=h.off b a;have:=he.size;exact⟨by omega,l.2⟩
theorem Fm.own {O':Nat→Prop} (h:Fm n D O w0 b4 b8 w st) (hw:Same S w w') (e:∀b,S b→O b) (g:∀b,O' b→b<w'.heap.size∧(O b∨w.heap.size≤b)):Fm n D O' w0 b4 b8 w' st:=by
 obtain⟨cs,a,j⟩:=h.k;obtain⟨i,m,o⟩:=h.r
 have l:=h.lt4;have s:=h.ext.size
 refine⟨Ext.then h.ext hw fun b c=>(h.off b (e b c)).2.1,⟨cs,a.same hw fun hs=>(h.off _ (e _ hs)).2.2.1 rfl,j.swap hw (fun b c=> .inr (.inr (.inr (e b c)))) fun b c p=>?_⟩,⟨i,m.same hw fun hs=>(h.off _ (e _ hs)).2.2.2 rfl,o⟩,h.lo,fun b c=>?_,h.dlt⟩
 ·rcases c with a|a|a|a
  ·exact .inl a
  ·exact .inr (.inl a)
  ·exact .inr (.inr (.inl a))
  ·exact(g b a).2.elim (fun h=> .inr (.inr (.inr h))) fun h=>by omega
 ·obtain⟨f,d⟩:=g b c
  rcases d with d|d
  ·have:=h.off b d;exact⟨f,this.2⟩
  ·exact⟨f,by omega,by omega,by omega⟩
theorem Fm.fin (h:Fm n D O w0 b4 b8 w st) (g:∀w' cs,Ext w0 w'→MkR n D w' cs st→Same (· =b8) w w'→K (.agg ⟨cs⟩) w'):
  ze PP zf (.pointer (some ⟨b4,0,none⟩)) w fun t i=>zl PP zf (.pointer (some ⟨b8,0,none⟩)) t i fun _ j=>vlv PP zf (.pointer (some ⟨b8,0,none⟩)) j K:=by
 obtain⟨cs,d,a⟩:=h.k;obtain⟨l,e,f⟩:=h.r
 rw[yi0 d a.len]
 exact zd0 e f a.len a.one fun w' hs=>g w' cs (Ext.then h.ext hs fun b c=>by have:=h.lo;omega) (a.swap hs (fun b c=> .inr (.inr (.inl c))) fun b c _=> .inl c) hs
theorem Fm.out (h:Fm n D O w0 b4 b8 w st) (he:Ext w w') (c:MkR n (J40 D O b4 b8) w' cs' st') (f:∀w'',Ext w0 w''→MkR n D w'' cs' st'→Same (· =b8) w' w''→K (.agg ⟨cs'⟩) w''):
  zl PP zf (.pointer (some ⟨b8,0,none⟩)) (.agg ⟨cs'⟩) w' fun _ g=>vlv PP zf (.pointer (some ⟨b8,0,none⟩)) g K:=by
 obtain⟨i,d,e⟩:=h.r
 exact zd0 (d.ext he) e c.len c.one fun w'' hs=>f w'' (Ext.then (h.ext.trans he) hs fun b a=>by have:=h.lo;omega) (c.swap hs (fun b a=> .inr (.inr (.inl a))) fun b a _=> .inl a) hs
end
abbrev O1 (v:Value):Nat→Prop:=fun b=>v.ownBlock=some b
abbrev Low (w:World):Nat→Prop:=fun b=>b<w.heap.size
theorem Ints.under (h:Ints Fx w xv xs):Ints (Low w) w xv xs:=Ints.weaken h fun _ _ a=>a
theorem Ints.ext0 {w0 w:World} (h:Ints (Low w0) w0 xv xs) (he:Ext w0 w):Ints (Low w0) w xv xs:=Ints.ext h he
theorem Fm.app {w0:World} {zs:List Int} {x:Int} {ty:Nat} (h:Fm n D (O1 v) w0 b4 b8 w st) (l:OwnI PP zj w v zs) (r:zs.length≤1000000)
  (j:∀v' w',Fm n D (O1 v') w0 b4 b8 w' st→OwnI PP zj w' v' (zs++[x])→Ext w0 w'→K v' w'):
  vbuildS PP zj 1 [(0,.int .i64 x)] w fun t o=>vbi PP .append [zj,zj] ty [v,t] o K:=by
 refine yh ZP km ZO rfl rfl fun q s k a m e=>?_
 refine(l.ext a).app1 Zu e (by omega) (by omega) fun v6 p c g f=>?_
 have i:=(h.grow a).own (O':=O1 v6) g (fun b d=>d) fun b d=>⟨c.lt d,f b d⟩
 exact j v6 p i c i.ext
theorem Fm.nil {w0:World} (h:Fm n D (fun _=>False) w0 b4 b8 w st) (j:∀v' w',Fm n D (O1 v') w0 b4 b8 w' st→OwnI PP zj w' v' []→Ext w0 w'→K v' w'):vbuildS PP zj 0 [] w K:=by
 refine qC ZP km fun a i k f m c=>?_
 have l:OwnI PP zj i (.slice (some ⟨a,0,none⟩) 0 0) []:=Blk.own1 (P:=PP) (t:=zj) (cs:=[]) (by rw[UL];exact c) (Nat.zero_le _) rfl rfl (by omega)
 have g:=h.own (O':=O1 (.slice (some ⟨a,0,none⟩) 0 0)) (S:=fun _=>False) f (fun b d=>d) fun b d=>by
  have e:a=b:=Option.some.inj d
  exact⟨by omega,.inr (by omega)⟩
 exact j _ i g l g.ext
theorem sadd7_spec (hn:n≤8) (hk:MkR n D w cs st) (hD:∀b,D b→b<w.heap.size) (O:Ints Fx w xv xs) (hy:Ints Fy w yv ys) (hl:xs.length≤ys.length) (h8:xs.length≤1000) (b0:SnL st xs) (b1:SnL st ys) (hc:Sn st c)
  (hK:∀w' cs' st' r zs,Ext w w'→MkR n D w' cs' st'→OwnI PP zj w' r zs→(∀b,r.ownBlock=some b→w.heap.size≤b)→SnL st' zs→M.Bd.Out n (M.sumB xs ys c) st st' zs→K (.tuple #[.agg ⟨cs'⟩,r]) w'):
  vcall PP j9 #[.agg ⟨cs⟩,xv,yv,.int .i64 c] w K:=by
 apply jJ0
 refine Fm.start hk hD fun b4 b8 w1 h1=>?_
 refine h1.nil fun v2 w2 h2 av e2=>?_
 have P:=Ints.under O;have af:=Ints.under hy
 refine vloop_up xs.length (fun i u w'=> ∃k r zs c1,u=[.int .i64 c1,r,.int .i64 i]∧Fm n D (O1 r) w b4 b8 w' k∧OwnI PP zj w' r zs∧zs.length=i∧SnL k zs∧SnL k xs∧SnL k ys∧Sn k c1∧
  ∀st2 rs,M.Bd.Out n (M.sumB (xs.drop i) (ys.drop i) c1) k st2 rs→M.Bd.Out n (M.sumB xs ys c) st st2 (zs++rs)) ⟨st,_,[],c,rfl,h2,av,rfl,SnL.nil,b0,b1,hc,fun _ _ h=>h⟩ ?_
 rintro i _ g w3 C hi ⟨aj,r3,zs,c3,rfl,Q,a9,b2,ai,A,E,U,z⟩ hC
 have az:=Ints.ext0 P Q.ext
 simp(disch:=first|(simp only[push_cast];done)|omega) only[push_cast,az.len]
 refine zh (fun bo=>?_) (fun bn=>?_)
 ·have m:i<xs.length:=by omega
  refine zr fun w4 V _=>?_
  have R:=Q.grow V
  have ad:=Ints.ext0 P R.ext
  have ag:=Ints.ext0 af R.ext
  obtain⟨c4,J,a4⟩:=R.call
  simp(disch:=first|(simp only[push_cast];done)|omega) only[push_cast,ad.iaddr,ad.load,ag.iaddr,ag.load,true_and,a4 w4 (Same.refl _ _)]
  refine sxor7_spec hn J R.dl (A.get m) (E.get (by omega)) fun w5 bk br d W ap hd f=>?_
  simp only[push_cast,true_and]
  refine R.put W ap fun w6 h6 ax bp=>?_
  obtain⟨c6,aq,a5⟩:=h6.call
  simp only[push_cast,true_and,and_self,a5 w6 (Same.refl _ _)]
  refine sxor7_spec hn aq h6.dl hd (U.out f) fun w7 bl b5 s X ar hs j=>?_
  simp only[push_cast,true_and]
  refine h6.put X ar fun w8 an ay bq=>?_
  refine zr fun w9 Y _=>?_
  have S:=an.grow Y
  have ae:=Ints.ext0 P S.ext
  have ah:=Ints.ext0 af S.ext
  obtain⟨c9,au,a6⟩:=S.call
  simp(disch:=first|(simp only[push_cast];done)|omega) only[push_cast,ae.iaddr,ae.load,ah.iaddr,ah.load,true_and,a6 w9 (Same.refl _ _)]
  have B:=(A.out f).out j
  have F:=(E.out f).out j
  refine sand7_spec hn au S.dl (B.get m) (F.get (by omega)) fun bs ba bg p o Z hp a=>?_
  simp only[push_cast,true_and]
  refine S.put o Z fun b6 H aa bd=>?_
  obtain⟨bi,a0,L⟩:=H.call
  simp only[push_cast,true_and,and_self,L b6 (Same.refl _ _)]
  refine sand7_spec hn a0 H.dl ((hd.out j).out a) (((U.out f).out j).out a) fun bt bb bh q t a1 hq l=>?_
  simp only[push_cast,true_and]
  refine H.put t a1 fun b7 I ab be=>?_
  obtain⟨bj,a2,N⟩:=I.call
  simp only[push_cast,true_and,and_self,N b7 (Same.refl _ _)]
  refine sor7_spec hn a2 I.dl (hp.out l) hq fun bu bc G c2 v a3 ao y=>?_
  simp only[push_cast,true_and]
  refine I.put v a3 fun b9 al ac bf=>?_
  have a7:OwnI PP zj b9 r3 zs:=by
   have off:∀b,r3.ownBlock=some b→¬b=b4:=fun b T=>(Q.off b T).2.2.1
   exact((((((((((a9.ext V).ext W).same ax off).ext X).same ay off).ext Y).ext o).same aa off).ext t).same ab off|>.ext v).same ac off
  refine al.app a7 (by omega) fun b3 bv am a8 bm=>?_
  simp(disch:=omega) only[push_cast,zE]
  have up:∀{x},Sn b5 x→Sn G x:=fun h=>((h.out a).out l).out y
  refine hC m _ _ ⟨G,b3,zs++[s],c2,by simp<;>exact⟨rfl,rfl⟩,am,a8,by simp[b2],SnL.app (fun x O=>up (((ai x O).out f).out j)) (SnL.one (up hs)),fun x O=>up (B x O),fun x O=>up (F x O),ao,fun st2 rs ho=>?_⟩
  have:=z st2 (s::rs) ?_
  ·simpa using this
  rw[xF m,xF (show i<ys.length by omega)]
  exact YW f (YW j (qx a (qx l (M.Bd.Out.bind y (M.Bd.Out.map _ ho)))))
 ·have:=z aj [] (by rw[Y00 (by omega)];exact M.Bd.Out.ret _ _)
  rw[List.append_nil] at this
  refine Q.fin fun w4 ak e4 J aw=>?_
  exact hK w4 ak aj r3 zs e4 J (a9.same aw fun b T e=>(Q.off b T).2.2.2 e) (fun b T=>(Q.off b T).2.1) ai this
end Go.Proofs.YtaekfnbnhjgboaaGreatDoor
end
section
namespace Go.Proofs.YtaekfnbnhjgboaaGreatDoor
open Go Go.Vc Go.Proofs
variable {w:World} {K:Value→World→Prop} {D F Fx Fy Y S O:Nat→Prop} {n b4 b8:Nat} {gs gs':M.Gs} {v nv xv yv:Value} {cs cs':List Value} {st st':Option M.Gs} {a b c m x y r:Int} {xs ys:List Int}
theorem spec_nil (f:∀v' w',OwnI PP zj w' v' []→Ext w w'→(∀b,v'.ownBlock=some b→w.heap.size≤b)→K v' w'):vbuildS PP zj 0 [] w K:=by
 refine qC ZP km fun d j h c i a=>?_
 exact f _ j (Blk.own1 (P:=PP) (t:=zj) (cs:=[]) (by rw[UL];exact a) (Nat.zero_le _) rfl rfl (by omega)) c fun b g=>by have e:d=b:=Option.some.inj g;omega
theorem spec_app {w0:World} {zs:List Int} {x:Int} {ty:Nat} (he:Ext w0 w) (l:OwnI PP zj w v zs) (i:∀b,v.ownBlock=some b→w0.heap.size≤b) (q:zs.length≤1000000)
  (j:∀v' w',OwnI PP zj w' v' (zs++[x])→Ext w0 w'→(∀b,v'.ownBlock=some b→w0.heap.size≤b)→K v' w'):
  vbuildS PP zj 1 [(0,.int .i64 x)] w fun t n=>vbi PP .append [zj,zj] ty [v,t] n K:=by
 refine yh ZP km ZO rfl rfl fun p r k a m c=>?_
 refine(l.ext a).app1 Zu c (by omega) (by omega) fun v6 o f g e=>?_
 have s:=he.size
 exact j v6 o f (Ext.then (he.trans a) g fun b d=>i b d) fun b d=>(e b d).elim (i b) fun h=>by omega
theorem sturn7_spec (t:Ints Fx w xv xs) (x:xs.length≤100000) (n:SmL xs) (s:∀w' r,Ext w w'→OwnI PP zj w' r (M.negL xs)→(∀b,r.ownBlock=some b→w.heap.size≤b)→K r w'):vcall PP qD #[xv] w K:=by
 apply qE0
 refine spec_nil fun v1 y m o k=>?_
 refine vloop_up xs.length (fun i u w'=> ∃r,u=[r,.int .i64 i]∧Ext w w'∧OwnI PP zj w' r (M.negL (xs.take i))∧∀b,r.ownBlock=some b→w.heap.size≤b) ⟨_,rfl,o,m,k⟩ ?_
 rintro i _ g v C hi ⟨r,rfl,j,d,f⟩ q
 have e:=Ints.ext t j
 simp(disch:=first|(simp only[push_cast];done)|omega) only[push_cast,e.len]
 refine zh (fun a=>?_) (fun a=>?_)
 ·have c:i<xs.length:=by omega
  have hs:=n.get c
  unfold Sm at hs
  simp(disch:=first|(simp only[push_cast];done)|omega) only[push_cast,e.iaddr,e.load,zE,Int.zero_sub]
  refine spec_app j d f (by rw[M.negL_len,List.length_take];omega) fun v3 z h p l=>?_
  try simp(disch:=omega) only[push_cast,zE]
  refine q c _ _ ⟨v3,by simp,p,?_,l⟩
  rw[M.take_add c 0];unfold M.negL at h⊢;rw[List.map_append];exact h
 ·have c:i=xs.length:=by omega
  subst c
  rw[List.take_length] at d
  exact s v r j d f
theorem sfill7_spec {m:Nat} {x:Int} (t:m≤100000) (q:∀w' r,Ext w w'→OwnI PP zj w' r (List.replicate m x)→(∀b,r.ownBlock=some b→w.heap.size≤b)→K r w'):vcall PP qE #[.int .i64 x,.int .i64 m] w K:=by
 apply qJ0
 refine spec_nil fun v1 v j n f=>?_
 refine vloop_up m (fun i u w'=> ∃r,u=[r,.int .i64 i]∧Ext w w'∧OwnI PP zj w' r (List.replicate i x)∧∀b,r.ownBlock=some b→w.heap.size≤b) ⟨_,rfl,n,j,f⟩ ?_
 rintro i _ g s C hi ⟨r,rfl,l,e,d⟩ p
 simp only[push_cast]
 refine zh (fun a=>?_) (fun a=>?_)
 ·have c:i<m:=by omega
  refine spec_app l e d (by rw[List.length_replicate];omega) fun v3 y k o h=>?_
  try simp(disch:=omega) only[push_cast,zE]
  refine p c _ _ ⟨v3,by simp,o,?_,h⟩
  rw[List.replicate_succ'];exact k
 ·have c:i=m:=by omega
  subst c
  exact q s r l e d
theorem sless7_spec (W:n≤8) (hk:MkR n D w cs st) (hD:∀b,D b→b<w.heap.size) (hx:Ints Fx w xv xs) (hy:Ints Fy w yv ys) (hl:xs.length≤ys.length) (h8:xs.length≤1000) (S:SnL st xs) (T:SnL st ys)
  (hK:∀w' cs' st' r,Ext w w'→MkR n D w' cs' st'→Sn st' r→M.Bd.Out n (M.lessB xs ys (-1)) st st' r→K (.tuple #[.agg ⟨cs'⟩,.int .i64 r]) w'):
  vcall PP ko #[.agg ⟨cs⟩,xv,yv] w K:=by
 apply qH0
 refine Fm.start hk hD fun b4 b8 w1 h1=>?_
 have v:=Ints.under hx;have y:=Ints.under hy
 refine vloop_up xs.length (fun i u w'=> ∃e r,u=[.int .i64 r,.int .i64 i]∧Fm n D (fun _=>False) w b4 b8 w' e∧SnL e xs∧SnL e ys∧Sn e r∧
  ∀st2 q,M.Bd.Out n (M.lessB (xs.drop i) (ys.drop i) r) e st2 q→M.Bd.Out n (M.lessB xs ys (-1)) st st2 q) ⟨st,-1,rfl,h1,S,T,Sn.of (by decide) (by decide),fun _ _ h=>h⟩ ?_
 rintro i _ g w3 C hi ⟨E,X,rfl,H,j,c,t,f⟩ hC
 have R:=Ints.ext0 v H.ext
 simp(disch:=first|(simp only[push_cast];done)|omega) only[push_cast,R.len]
 refine zh (fun a1=>?_) (fun a0=>?_)
 ·have k:i<xs.length:=by omega
  refine zr fun V I _=>?_
  have o:=H.grow I
  have x:=Ints.ext0 v o.ext
  have A:=Ints.ext0 y o.ext
  obtain⟨c4,l,p⟩:=o.call
  simp(disch:=first|(simp only[push_cast];done)|omega) only[push_cast,x.iaddr,x.load,A.iaddr,A.load,true_and,p V (Same.refl _ _)]
  refine sxor7_spec W l o.dl (j.get k) (c.get (by omega)) fun w5 Y a7 d J O hd a=>?_
  simp only[push_cast,true_and]
  refine o.put J O fun w6 h6 a3 a5=>?_
  try simp only[push_cast,true_and,and_self]
  refine zr fun w7 L _=>?_
  have F:=h6.grow L
  have B:=Ints.ext0 y F.ext
  obtain⟨c7,P,s⟩:=F.call
  simp(disch:=first|(simp only[push_cast];done)|omega) only[push_cast,B.iaddr,B.load,true_and,s w7 (Same.refl _ _)]
  refine sone7_spec W P F.dl hd ((c.out a).get (by omega)) (t.out a) fun w8 Z U q N Q hq m=>?_
  simp only[push_cast,true_and]
  refine F.put N Q fun w9 h9 a4 a6=>?_
  try simp(disch:=omega) only[push_cast,zE,true_and,and_self]
  refine hC k _ _ ⟨U,q,by simp<;>exact⟨rfl,rfl⟩,h9,(j.out a).out m,(c.out a).out m,hq,fun st2 z ho=>f st2 z ?_⟩
  rw[xF k,xF (show i<ys.length by omega)]
  exact YW a (M.Bd.Out.bind m ho)
 ·refine H.fin fun V G e4 l a2=>?_
  exact hK V G E X e4 l t (f E X (by rw[kS0 (by omega)];exact M.Bd.Out.ret _ _))
theorem ssame7_spec (W:n≤8) (hk:MkR n D w cs st) (hD:∀b,D b→b<w.heap.size) (hx:Ints Fx w xv xs) (hy:Ints Fy w yv ys) (hl:xs.length≤ys.length) (h8:xs.length≤1000) (Q:SnL st xs) (S:SnL st ys)
  (hK:∀w' cs' st' r,Ext w w'→MkR n D w' cs' st'→Sn st' r→M.Bd.Out n (M.sameB xs ys 1) st st' r→K (.tuple #[.agg ⟨cs'⟩,.int .i64 r]) w'):
  vcall PP Qm #[.agg ⟨cs⟩,xv,yv] w K:=by
 apply qG0
 refine Fm.start hk hD fun b4 b8 w1 h1=>?_
 have v:=Ints.under hx;have R:=Ints.under hy
 refine vloop_up xs.length (fun i u w'=> ∃a r,u=[.int .i64 r,.int .i64 i]∧Fm n D (fun _=>False) w b4 b8 w' a∧SnL a xs∧SnL a ys∧Sn a r∧
  ∀st2 q,M.Bd.Out n (M.sameB (xs.drop i) (ys.drop i) r) a st2 q→M.Bd.Out n (M.sameB xs ys 1) st st2 q) ⟨st,1,rfl,h1,Q,S,Sn.of (by decide) (by decide),fun _ _ h=>h⟩ ?_
 rintro i _ g w3 C hi ⟨A,X,rfl,E,f,j,t,e⟩ hC
 have P:=Ints.ext0 v E.ext
 simp(disch:=first|(simp only[push_cast];done)|omega) only[push_cast,P.len]
 refine zh (fun a1=>?_) (fun a0=>?_)
 ·have k:i<xs.length:=by omega
  refine zr fun U H _=>?_
  have o:=E.grow H
  have x:=Ints.ext0 v o.ext
  have y:=Ints.ext0 R o.ext
  obtain⟨c4,l,p⟩:=o.call
  simp(disch:=first|(simp only[push_cast];done)|omega) only[push_cast,x.iaddr,x.load,y.iaddr,y.load,true_and,p U (Same.refl _ _)]
  refine sxor7_spec W l o.dl (f.get k) (j.get (by omega)) fun w5 Y a7 d I L V c=>?_
  simp only[push_cast,true_and]
  refine o.put I L fun w6 F a3 a5=>?_
  obtain⟨c6,N,s⟩:=F.call
  have G:=V.1
  unfold Sm at G
  simp(disch:=omega) only[push_cast,true_and,and_self,s w6 (Same.refl _ _),zE,Int.zero_sub]
  refine sand7_spec W N F.dl (t.out c) V.neg fun w8 Z T q J O hq m=>?_
  simp only[push_cast,true_and]
  refine F.put J O fun w9 h9 a4 a6=>?_
  try simp(disch:=omega) only[push_cast,zE,true_and,and_self]
  refine hC k _ _ ⟨T,q,by simp<;>exact⟨rfl,rfl⟩,h9,(f.out c).out m,(j.out c).out m,hq,fun st2 z ho=>e st2 z ?_⟩
  rw[xF k,xF (show i<ys.length by omega)]
  exact YW c (qx m ho)
 ·refine E.fin fun U B e4 l a2=>?_
  exact hK U B A X e4 l t (e A X (by rw[kL0 (by omega)];exact M.Bd.Out.ret _ _))
theorem sifs7_spec (hn:n≤8) (hk:MkR n D w cs st) (hD:∀b,D b→b<w.heap.size) (hx:Ints Fx w xv xs) (hy:Ints Fy w yv ys) (hl:xs.length≤ys.length) (h8:xs.length≤1000) (R:SnL st xs) (T:SnL st ys) (hc:Sn st c)
  (hK:∀w' cs' st' r zs,Ext w w'→MkR n D w' cs' st'→OwnI PP zj w' r zs→(∀b,r.ownBlock=some b→w.heap.size≤b)→SnL st' zs→M.Bd.Out n (M.eachB (M.muxB c) xs ys) st st' zs→K (.tuple #[.agg ⟨cs'⟩,r]) w'):
  vcall PP X2 #[.agg ⟨cs⟩,.int .i64 c,xv,yv] w K:=by
 apply jE0
 refine Fm.start hk hD fun b4 b8 w1 h1=>?_
 refine h1.nil fun v2 w2 h2 J e2=>?_
 have A:=Ints.under hx;have S:=Ints.under hy
 refine vloop_up xs.length (fun i u w'=> ∃a r zs,u=[r,.int .i64 i]∧Fm n D (O1 r) w b4 b8 w' a∧OwnI PP zj w' r zs∧zs.length=i∧SnL a zs∧SnL a xs∧SnL a ys∧Sn a c∧
  ∀st2 rs,M.Bd.Out n (M.eachB (M.muxB c) (xs.drop i) (ys.drop i)) a st2 rs→M.Bd.Out n (M.eachB (M.muxB c) xs ys) st st2 (zs++rs)) ⟨st,_,[],rfl,h2,J,rfl,SnL.nil,R,T,hc,fun _ _ h=>h⟩ ?_
 rintro i _ g w3 C hi ⟨G,X,zs,rfl,o,z,U,F,j,k,t,f⟩ hC
 have Q:=Ints.ext0 A o.ext
 simp(disch:=first|(simp only[push_cast];done)|omega) only[push_cast,Q.len]
 refine zh (fun a1=>?_) (fun a0=>?_)
 ·have l:i<xs.length:=by omega
  refine zr fun W v _=>?_
  have p:=o.grow v
  have B:=Ints.ext0 A p.ext
  have E:=Ints.ext0 S p.ext
  obtain⟨c4,m,y⟩:=p.call
  simp(disch:=first|(simp only[push_cast];done)|omega) only[push_cast,B.iaddr,B.load,E.iaddr,E.load,true_and,y W (Same.refl _ _)]
  refine sone7_spec hn m p.dl t (j.get l) (k.get (by omega)) fun w5 Y V s x I hs d=>?_
  simp only[push_cast,true_and]
  refine p.put x I fun w6 h6 P a2=>?_
  try simp only[push_cast,true_and,and_self]
  have L:OwnI PP zj w6 X zs:=((z.ext v).ext x).same P fun b q=>(o.off b q).2.2.1
  refine h6.app L (by omega) fun r7 w7 h7 N e7=>?_
  simp(disch:=omega) only[push_cast,zE]
  refine hC l _ _ ⟨V,r7,zs++[s],by simp,h7,N,by simp[U],SnL.app (F.out d) (SnL.one hs),j.out d,k.out d,t.out d,fun st2 rs ho=>?_⟩
  have:=f st2 (s::rs) ?_
  ·simpa using this
  rw[Wx l (show i<ys.length by omega)]
  exact M.Bd.Out.bind d (M.Bd.Out.map _ ho)
 ·have:=f G [] (by rw[Kf (by omega)];exact M.Bd.Out.ret _ _)
  rw[List.append_nil] at this
  refine o.fin fun W H Z m O=>?_
  exact hK W H G X zs Z m (z.same O fun b q e=>(o.off b q).2.2.2 e) (fun b q=>(o.off b q).2.1) F this
def XM (op:Int):Int→Int→M.Bd Int:=if op=3 then fun a b=> .and a b .ret else if op=4 then M.orB else fun a b=> .xor a b .ret
theorem splain7_spec {op:Int} (hn:n≤8) (hk:MkR n D w cs st) (hD:∀b,D b→b<w.heap.size) (hx:Ints Fx w xv xs) (hy:Ints Fy w yv ys) (hl:xs.length≤ys.length) (h8:xs.length≤1000) (a4:SnL st xs) (a5:SnL st ys)
  (hK:∀w' cs' st' r zs,Ext w w'→MkR n D w' cs' st'→OwnI PP zj w' r zs→(∀b,r.ownBlock=some b→w.heap.size≤b)→SnL st' zs→M.Bd.Out n (M.eachB (XM op) xs ys) st st' zs→K (.tuple #[.agg ⟨cs'⟩,r]) w'):
  vcall PP Xt #[.agg ⟨cs⟩,.int .i64 op,xv,yv] w K:=by
 apply xj0
 refine Fm.start hk hD fun b4 b8 w1 h1=>?_
 refine h1.nil fun v2 w2 h2 a1 e2=>?_
 have H:=Ints.under hx;have N:=Ints.under hy
 refine vloop_up xs.length (fun i u w'=> ∃B r zs,u=[r,.int .i64 i]∧Fm n D (O1 r) w b4 b8 w' B∧OwnI PP zj w' r zs∧zs.length=i∧SnL B zs∧SnL B xs∧SnL B ys∧
  ∀st2 rs,M.Bd.Out n (M.eachB (XM op) (xs.drop i) (ys.drop i)) B st2 rs→M.Bd.Out n (M.eachB (XM op) xs ys) st st2 (zs++rs)) ⟨st,_,[],rfl,h2,a1,rfl,SnL.nil,a4,a5,fun _ _ h=>h⟩ ?_
 rintro i _ g w3 C hi ⟨P,Z,zs,rfl,E,G,O,I,f,j,J⟩ hC
 have a3:=Ints.ext0 H E.ext
 simp(disch:=first|(simp only[push_cast];done)|omega) only[push_cast,a3.len]
 refine zh (fun a7=>?_) (fun a6=>?_)
 ·have t:i<xs.length:=by omega
  have L:∀d s,M.Bd.Out n (XM op (xs.getD i 0) (ys.getD i 0)) P d s→∀st2 rs,M.Bd.Out n (M.eachB (XM op) (xs.drop (i+1)) (ys.drop (i+1))) d st2 rs→M.Bd.Out n (M.eachB (XM op) xs ys) st st2 ((zs++[s])++rs):=fun d s c st2 rs ho=>by
   have:=J st2 (s::rs) ?_
   ·simpa using this
   rw[Wx t (show i<ys.length by omega)]
   exact M.Bd.Out.bind c (M.Bd.Out.map _ ho)
  try simp only[push_cast]
  refine zh (fun c3=>?_) (fun c3=>?_)
  ·have V:XM op=(fun a b=> .and a b .ret):=by unfold XM;rw[if_pos c3]
   refine zr fun Q l _=>?_
   have k:=E.grow l
   have p:=Ints.ext0 H k.ext
   have q:=Ints.ext0 N k.ext
   obtain⟨R,v,o⟩:=k.call
   simp(disch:=first|(simp only[push_cast];done)|omega) only[push_cast,p.iaddr,p.load,q.iaddr,q.load,true_and,o Q (Same.refl _ _)]
   refine sand7_spec hn v k.dl (f.get t) (j.get (by omega)) fun w5 S d s m x hs c=>?_
   simp only[push_cast,true_and]
   refine k.put m x fun Y T A W=>?_
   try simp only[push_cast,true_and,and_self]
   have y:OwnI PP zj Y Z zs:=((G.ext l).ext m).same A fun b F=>(E.off b F).2.2.1
   refine T.app y (by omega) fun X w7 U z e7=>?_
   simp(disch:=omega) only[push_cast,zE]
   exact hC t _ _ ⟨d,X,zs++[s],by simp,U,z,by simp[O],SnL.app (I.out c) (SnL.one hs),f.out c,j.out c,L d s (by rw[V];exact c)⟩
  try simp only[push_cast]
  refine zh (fun R=>?_) (fun R=>?_)
  ·have V:XM op=M.orB:=by unfold XM;rw[if_neg c3,if_pos R]
   refine zr fun Q l _=>?_
   have k:=E.grow l
   have p:=Ints.ext0 H k.ext
   have q:=Ints.ext0 N k.ext
   obtain⟨R,v,o⟩:=k.call
   simp(disch:=first|(simp only[push_cast];done)|omega) only[push_cast,p.iaddr,p.load,q.iaddr,q.load,true_and,o Q (Same.refl _ _)]
   refine sor7_spec hn v k.dl (f.get t) (j.get (by omega)) fun w5 S d s m x hs c=>?_
   simp only[push_cast,true_and]
   refine k.put m x fun Y T A W=>?_
   try simp only[push_cast,true_and,and_self]
   have y:OwnI PP zj Y Z zs:=((G.ext l).ext m).same A fun b F=>(E.off b F).2.2.1
   refine T.app y (by omega) fun X w7 U z e7=>?_
   simp(disch:=omega) only[push_cast,zE]
   exact hC t _ _ ⟨d,X,zs++[s],by simp,U,z,by simp[O],SnL.app (I.out c) (SnL.one hs),f.out c,j.out c,L d s (by rw[V];exact c)⟩
  have V:XM op=(fun a b=> .xor a b .ret):=by unfold XM;rw[if_neg c3,if_neg R]
  refine zr fun Q l _=>?_
  have k:=E.grow l
  have p:=Ints.ext0 H k.ext
  have q:=Ints.ext0 N k.ext
  obtain⟨R,v,o⟩:=k.call
  simp(disch:=first|(simp only[push_cast];done)|omega) only[push_cast,p.iaddr,p.load,q.iaddr,q.load,true_and,o Q (Same.refl _ _)]
  refine sxor7_spec hn v k.dl (f.get t) (j.get (by omega)) fun w5 S d s m x hs c=>?_
  simp only[push_cast,true_and]
  refine k.put m x fun Y T A W=>?_
  try simp only[push_cast,true_and,and_self]
  have y:OwnI PP zj Y Z zs:=((G.ext l).ext m).same A fun b F=>(E.off b F).2.2.1
  refine T.app y (by omega) fun X w7 U z e7=>?_
  simp(disch:=omega) only[push_cast,zE]
  exact hC t _ _ ⟨d,X,zs++[s],by simp,U,z,by simp[O],SnL.app (I.out c) (SnL.one hs),f.out c,j.out c,L d s (by rw[V];exact c)⟩
 ·have:=J P [] (by rw[Kf (by omega)];exact M.Bd.Out.ret _ _)
  rw[List.append_nil] at this
  refine E.fin fun Q a0 e4 v a2=>?_
  exact hK Q a0 P Z zs e4 v (G.same a2 fun b F e=>(E.off b F).2.2.2 e) (fun b F=>(E.off b F).2.1) I this
end Go.Proofs.YtaekfnbnhjgboaaGreatDoor
end
section
namespace Go.Proofs.YtaekfnbnhjgboaaGreatDoor
open Go Go.Vc Go.Proofs
variable {w:World} {K:Value→World→Prop} {D F Fx Fy Y S O O':Nat→Prop} {n b4 b8:Nat} {gs gs':M.Gs} {v v' nv xv yv sv:Value} {cs cs':List Value} {st st':Option M.Gs} {a b c m x y r:Int} {xs ys:List Int}
abbrev Kp (b4 b8:Nat) (O:Nat→Prop):Nat→Prop:=fun b=>b≠b4∧b≠b8∧¬O b
section
variable {w0 w':World}
theorem Ints.kp4 (h:Ints (Kp b4 b8 O) w xv xs) (hs:Same (· =b4) w w'):Ints (Kp b4 b8 O) w' xv xs:=Ints.same h hs fun b a _ e=>a.1 e
theorem Ints.kpO (h:Ints (Kp b4 b8 O) w xv xs) (hs:Same S w w') (f:∀b,S b→O b) (d:∀b,O' b→O b∨w.heap.size≤b):Ints (Kp b4 b8 O') w' xv xs:=by
 have c:Ints (fun b=>Kp b4 b8 O b∧b<w.heap.size) w xv xs:=Ints.weaken h fun b a g=>⟨a,g⟩
 exact Ints.weaken (Ints.same c hs fun b a _ e=>a.1.2.2 (f b e)) fun b a _=>⟨a.1.1,a.1.2.1,fun i=>(d b i).elim a.1.2.2 fun h=>by have:=a.2;omega⟩
theorem Fm.new {zs:List Int} (h:Fm n D O w0 b4 b8 w st) (e:OwnI PP zj w' v zs) (d:∀b,v.ownBlock=some b→w.heap.size≤b):Ints (Kp b4 b8 O) w' v zs:=Ints.weaken e.ints fun b c _=>by
 have f:=d b c;have g:=h.lt4
 exact⟨by omega,by omega,fun a=>by have:=(h.off b a).1;omega⟩
theorem Fm.app' {zs:List Int} {x:Int} {ty:Nat} (h:Fm n D (O1 v) w0 b4 b8 w st) (l:OwnI PP zj w v zs) (s:zs.length≤1000000)
  (j:∀v' w',Fm n D (O1 v') w0 b4 b8 w' st→OwnI PP zj w' v' (zs++[x])→(∀xv xs,Ints (Kp b4 b8 (O1 v)) w xv xs→Ints (Kp b4 b8 (O1 v')) w' xv xs)→K v' w'):
  vbuildS PP zj 1 [(0,.int .i64 x)] w fun t p=>vbi PP .append [zj,zj] ty [v,t] p K:=by
 refine yh ZP km ZO rfl rfl fun r u k c o g=>?_
 refine(l.ext c).app1 Zu g (by omega) (by omega) fun v6 q e f d=>?_
 have i:=(h.grow c).own (O':=O1 v6) f (fun b a=>a) fun b a=>⟨e.lt a,d b a⟩
 exact j v6 q i e fun xv xs m=>Ints.kpO (Ints.ext m c) f (fun b a=>a) fun b a=>d b a
theorem Fm.take {zs:List Int} (h:Fm n D (fun _=>False) w0 b4 b8 w st) (he:Ext w w') (d:OwnI PP zj w' v zs) (c:∀b,v.ownBlock=some b→w.heap.size≤b):Fm n D (O1 v) w0 b4 b8 w' st:=
 h.own (S:=fun _=>False) he (fun b a=>a) fun b a=>⟨d.lt a,.inr (c b a)⟩
theorem Fm.drop (h:Fm n D O w0 b4 b8 w st):Fm n D (fun _=>False) w0 b4 b8 w st:=h.own (S:=fun _=>False) (Same.refl _ _) (fun b a=>a.elim) fun b a=>a.elim
end
theorem smul7_spec (hn:n≤8) (hk:MkR n D w cs st) (hD:∀b,D b→b<w.heap.size) (hx:Ints Fx w xv xs) (hy:Ints Fy w yv ys) (hl:xs.length=ys.length) (h8:xs.length≤900) (ao:SnL st xs) (aq:SnL st ys)
  (hK:∀w' cs' st' r zs,Ext w w'→MkR n D w' cs' st'→Ints (fun b=>w.heap.size≤b) w' r zs→SnL st' zs→M.Bd.Out n (M.mulB xs ys 0 (M.offsL xs.length)) st st' zs→K (.tuple #[.agg ⟨cs'⟩,r]) w'):
  vcall PP Ja #[.agg ⟨cs⟩,xv,yv] w K:=by
 apply jD0
 refine Fm.start hk hD fun b4 b8 w1 R=>?_
 have P:=Ints.under hx;have a3:=Ints.under hy
 have am:=Ints.ext0 P R.ext
 simp(disch:=first|(simp only[push_cast];done)|omega) only[push_cast,am.len]
 refine sfill7_spec (by omega) fun w2 a9 ad al af=>?_
 have lo:=R.lo;have s1:=R.ext.size
 have a7:Ints (fun b=>Kp b4 b8 (fun _=>False) b∧w.heap.size≤b) w2 a9 (M.offsL xs.length):=Ints.weaken al.ints fun b a _=>by
  have az:=af b a;have h2:=R.lt4
  exact⟨⟨by omega,by omega,id⟩,by omega⟩
 refine vloop_up ys.length (fun i u w'=> ∃v sv s,u=[sv,.int .i64 i]∧Fm n D (fun _=>False) w b4 b8 w' v∧Ints (fun b=>Kp b4 b8 (fun _=>False) b∧w.heap.size≤b) w' sv s∧s.length=xs.length∧SnL v s∧SnL v xs∧SnL v ys∧
  ∀st2 res,M.Bd.Out n (M.mulB xs (ys.drop i) i s) v st2 res→M.Bd.Out n (M.mulB xs ys 0 (M.offsL xs.length)) st st2 res) ⟨st,a9,_,rfl,R.grow ad,a7,M.offsL_len _,SnL.fill _,ao,aq,fun _ _ h=>h⟩ ?_
 rintro i _ g w3 C hi ⟨y,sv,s,rfl,h3,Y,b3,B,a2,a5,A⟩ hC
 have ap:=Ints.ext0 a3 h3.ext
 simp(disch:=first|(simp only[push_cast];done)|omega) only[push_cast,ap.len]
 refine zh (fun b2=>?_) (fun b0=>?_)
 ·have H:i<ys.length:=by omega
  refine sfill7_spec (by omega) fun w4 rv T W V=>?_
  have h4:=h3.take T W V
  have N:Ints (Kp b4 b8 (O1 rv)) w4 sv s:=Ints.kpO (O:=fun _=>False) (Ints.weaken Y fun b a _=>a.1) T (fun b a=>a.elim) fun b a=> .inr (V b a)
  have ay:(xs.take (xs.length-i)).length=xs.length-i:=by rw[List.length_take];omega
  refine vloop_up (xs.length-i) (fun j u w'=> ∃c rv zs,u=[rv,.int .i64 ((i+j:Nat):Int)]∧Fm n D (O1 rv) w b4 b8 w' c∧OwnI PP zj w' rv (M.offsL i++zs)∧zs.length=j∧Ints (Kp b4 b8 (O1 rv)) w' sv s∧SnL c zs∧SnL c s∧SnL c xs∧SnL c ys∧
   ∀st2 rs,M.Bd.Out n (M.rowB (ys.getD i 0) ((xs.take (xs.length-i)).drop j)) c st2 rs→M.Bd.Out n (M.rowB (ys.getD i 0) (xs.take (xs.length-i))) y st2 (zs++rs)) ⟨y,rv,[],rfl,h4,by rw[List.append_nil];exact W,rfl,N,SnL.nil,B,a2,a5,fun _ _ h=>h⟩ ?_
  rintro j _ g5 w5 C5 hj ⟨c,a8,zs,rfl,z,X,au,Z,a6,E,q,t,o⟩ ac
  have an:=Ints.ext0 P z.ext
  simp(disch:=first|(simp only[push_cast];done)|omega) only[push_cast,an.len]
  refine zh (fun ax=>?_) (fun aw=>?_)
  ·have U:j<xs.length-i:=by omega
   refine zr fun w6 G _=>?_
   have S:=z.grow G
   have a1:=Ints.ext0 P S.ext
   have a4:=Ints.ext0 a3 S.ext
   obtain⟨c6,I,m⟩:=S.call
   have ei:((i:Int)+j)-i=(j:Int):=by omega
   simp(disch:=first|(simp only[push_cast];done)|omega) only[push_cast,zE,ei,a1.iaddr,a1.load,a4.iaddr,a4.load,true_and,m w6 (Same.refl _ _)]
   refine sand7_spec hn I S.dl (q.get (by omega)) (t.get H) fun w7 ab Q d l J hd f=>?_
   simp only[push_cast,true_and]
   refine S.put l J fun w8 F x ar=>?_
   try simp only[push_cast,true_and,and_self]
   have aj:OwnI PP zj w8 a8 (M.offsL i++zs):=((X.ext G).ext l).same x fun b a=>(z.off b a).2.2.1
   have a0:Ints (Kp b4 b8 (O1 a8)) w8 sv s:=Ints.kp4 (Ints.ext (Ints.ext Z G) l) x
   refine F.app' aj (by rw[List.length_append,M.offsL_len];omega) fun av w9 h9 ak L=>?_
   try simp(disch:=omega) only[push_cast,zE]
   refine ac U _ _ ⟨Q,av,zs++[d],by simp<;>omega,h9,by rw[←List.append_assoc];exact ak,by simp[au],L _ _ a0,SnL.app (a6.out f) (SnL.one hd),E.out f,q.out f,t.out f,fun st2 rs ho=>?_⟩
   have:=o st2 (d::rs) ?_
   ·simpa using this
   rw[Y70 (by omega),Wl U]
   exact qx f (M.Bd.Out.map _ ho)
  ·have b1:j=xs.length-i:=by omega
   have p:=o c [] (by rw[kM0 (by omega)];exact M.Bd.Out.ret _ _)
   rw[List.append_nil] at p
   obtain⟨c6,I,m⟩:=z.call
   simp only[m w5 (Same.refl _ _)]
   refine sadd7_spec hn I z.dl Z X.ints (by rw[List.length_append,M.offsL_len];omega) (by omega) E (SnL.app (SnL.fill i) a6) (Sn.of (by decide) (by decide)) fun w7 ab Q nv ns l J f ag ai k=>?_
   simp only[push_cast,true_and]
   refine z.put l J fun w8 F x ar=>?_
   try simp(disch:=omega) only[push_cast,zE]
   have ah:ns.length=xs.length:=by
    have:=M.sum_len k.reach
    rw[List.length_append,M.offsL_len] at this
    omega
   have l5:=z.lt4;have s5:=z.ext.size
   refine hC H _ _ ⟨Q,nv,ns,by simp,F.drop,Ints.same (Ints.weaken (F':=fun b=>Kp b4 b8 (fun _=>False) b∧w.heap.size≤b) f.ints fun b a _=>by have:=ag b a;exact⟨⟨by omega,by omega,id⟩,by omega⟩) x (fun b a _ e=>a.1.1 e),ah,ai,q.out k,t.out k,fun st2 res ho=>A st2 res ?_⟩
   rw[xF H]
   exact M.Bd.Out.bind p (M.Bd.Out.bind k ho)
 ·refine h3.fin fun w4 aa e4 ae N=>?_
  exact hK w4 aa y sv s e4 ae (Ints.weaken (Ints.same Y N fun b a _ e=>a.1.2.1 e) fun b a _=>a.2) B (A y s (by rw[kQ0 (by omega)];exact M.Bd.Out.ret _ _))
theorem sfrom7_spec {op fill:Int} {j b:Nat} (hs:Ints Fx w sv xs) (f:j<xs.length) (h:xs.length≤1000) (g:b≤1000) (a:K (.int .i64 (M.fromL (decide (op=11)) fill xs b j)) w):
  vcall PP Qn #[.int .i64 op,sv,.int .i64 j,.int .i64 b,.int .i64 fill] w K:=by
 apply qI0
 obtain⟨f1,f2,f3⟩:=from_at (up:=decide (op=11)) (fill:=fill) (s:=xs) (b:=b) f
 simp(disch:=omega) only[push_cast,zE]
 refine zh (fun c=>?_) (fun c=>?_)
 ·rw[decide_eq_true c] at f1 f2 f3 a
  simp only[if_true] at f1 f2 f3
  rw[show(j:Int)-b=j+ -(b:Int) by omega]
  try simp(disch:=omega) only[push_cast,zE]
  refine zh (fun d=>?_) (fun d=>?_)
  ·rw[f2 d] at a;exact a
  try simp(disch:=first|(simp only[push_cast];done)|omega) only[push_cast,hs.len]
  refine zh (fun e=>?_) (fun e=>?_)
  ·rw[f3 e] at a;exact a
  simp(disch:=first|(simp only[push_cast];done)|omega) only[push_cast,hs.iaddr,hs.load]
  rw[f1 (by omega) (by omega)] at a;exact a
 ·rw[decide_eq_false c] at f1 f2 f3 a
  simp only[Bool.false_eq_true,if_false] at f1 f2 f3
  refine zh (fun d=>absurd d (by omega)) (fun d=>?_)
  try simp(disch:=first|(simp only[push_cast];done)|omega) only[push_cast,hs.len]
  refine zh (fun e=>?_) (fun e=>?_)
  ·rw[f3 e] at a;exact a
  simp(disch:=first|(simp only[push_cast];done)|omega) only[push_cast,hs.iaddr,hs.load]
  rw[f1 (by omega) (by omega)] at a;exact a
theorem from_sn {up:Bool} {fill:Int} {s:List Int} {b k:Nat} (a:Sn st fill) (hs:SnL st s) (c:k<s.length):Sn st (M.fromL up fill s b k):=by
 unfold M.fromL
 repeat' split
 all_goals first|exact a|exact hs.get (by omega)
theorem sshift7_spec {op:Int} (hn:n≤8) (hk:MkR n D w cs st) (hD:∀b,D b→b<w.heap.size) (hx:Ints Fx w xv xs) (hy:Ints Fy w yv ys) (h1:1≤xs.length) (h8:xs.length≤1000) (b6:ys.length≤8) (a6:SnL st xs) (au:SnL st ys)
  (hK:∀w' cs' st' r zs,Ext w w'→MkR n D w' cs' st'→Ints (fun b=>w.heap.size≤b) w' r zs→SnL st' zs→M.Bd.Out n (M.shiftB (decide (op=11)) (if op=13 then xs.getD (xs.length-1) 0 else-1) ys 0 xs) st st' zs→K (.tuple #[.agg ⟨cs'⟩,r]) w'):
  vcall PP Xs #[.agg ⟨cs⟩,.int .i64 op,xv,yv] w K:=by
 apply xi0
 refine Fm.start hk hD fun b4 b8 w1 p=>?_
 have a5:=Ints.under hx;have a7:=Ints.under hy
 have lo:=p.lo;have s1:=p.ext.size
 refine spec_nil fun v2 w2 ao e2 W=>?_
 refine ao.app Zu (Ints.ext0 a5 (p.ext.trans e2)) (by simp;omega) (by simp;omega) fun v3 w3 ap aq an=>?_
 have l1:=p.lt4;have z2:=e2.size
 have ae:Ext w1 w3:=Ext.then e2 aq fun b f=>W b f
 have Y:∀b,v3.ownBlock=some b→w1.heap.size≤b:=fun b f=>(an b f).elim (W b) fun h=>by omega
 have h3:=p.grow ae
 have aa:Ints (fun b=>Kp b4 b8 (fun _=>False) b∧w.heap.size≤b) w3 v3 xs:=Ints.weaken ap.ints fun b f _=>by
  have:=Y b f
  exact⟨⟨by omega,by omega,id⟩,by omega⟩
 have aj:Sn st (if op=13 then xs.getD (xs.length-1) 0 else-1):=by
  split
  ·exact a6.get (by omega)
  ·exact Sn.of (by decide) (by decide)
 refine zI (fun u w'=>u=[.int .i64 (if op=13 then xs.getD (xs.length-1) 0 else-1)]∧w'=w3) ?_ ?_
 ·intro J hJ
  have T:=Ints.ext0 a5 h3.ext
  simp only[push_cast]
  refine zh (fun c=>?_) (fun c=>?_)
  ·rw[if_pos c] at hJ
   simp(disch:=first|(simp only[push_cast];done)|omega) only[push_cast,T.len,zE]
   rw[show((xs.length:Int)-1)=((xs.length-1:Nat):Int) by omega]
   rw[T.iaddr Wy (by omega) (by omega),Int.toNat_natCast,T.load ks0 (by omega)]
   exact hJ _ _ ⟨rfl,rfl⟩
  ·rw[if_neg c] at hJ
   exact hJ _ _ ⟨rfl,rfl⟩
 rintro _ _ w4 ⟨rfl,rfl⟩
 generalize (if op=13 then xs.getD (xs.length-1) 0 else-1)=fill at*
 refine vloop_up ys.length (fun i u w'=> ∃z sv s,u=[sv,.int .i64 i]∧Fm n D (fun _=>False) w b4 b8 w' z∧Ints (fun b=>Kp b4 b8 (fun _=>False) b∧w.heap.size≤b) w' sv s∧s.length=xs.length∧SnL z s∧SnL z ys∧Sn z fill∧
  ∀st2 res,M.Bd.Out n (M.shiftB (decide (op=11)) fill (ys.drop i) i s) z st2 res→M.Bd.Out n (M.shiftB (decide (op=11)) fill ys 0 xs) st st2 res) ⟨st,v3,_,rfl,h3,aa,rfl,a6,au,aj,fun _ _ h=>h⟩ ?_
 rintro i _ g w5 C hi ⟨E,sv,s,rfl,h5,a3,b5,H,a8,ai,F⟩ hC
 have ar:=Ints.ext0 a7 h5.ext
 simp(disch:=first|(simp only[push_cast];done)|omega) only[push_cast,ar.len]
 refine zh (fun b3=>?_) (fun b1=>?_)
 ·have P:i<ys.length:=by omega
  have hp:=pow_le4 (i:=i) (by omega)
  obtain⟨B,hB⟩:∃B,2^i=B:=⟨_,rfl⟩
  refine spec_nil fun rv w6 a1 V X=>?_
  have h6:=h5.take V a1 X
  have S:Ints (Kp b4 b8 (O1 rv)) w6 sv s:=Ints.kpO (O:=fun _=>False) (Ints.weaken a3 fun b f _=>f.1) V (fun b f=>f.elim) fun b f=> .inr (X b f)
  refine vloop_up s.length (fun j u w'=> ∃k rv zs,u=[rv,.int .i64 j]∧Fm n D (O1 rv) w b4 b8 w' k∧OwnI PP zj w' rv zs∧zs.length=j∧Ints (Kp b4 b8 (O1 rv)) w' sv s∧SnL k zs∧SnL k s∧SnL k ys∧Sn k fill∧
   ∀st2 rs,M.Bd.Out n (M.eachB (M.muxB (ys.getD i 0)) (((List.range s.length).map (M.fromL (decide (op=11)) fill s B)).drop j) (s.drop j)) k st2 rs→M.Bd.Out n (M.eachB (M.muxB (ys.getD i 0)) ((List.range s.length).map (M.fromL (decide (op=11)) fill s B)) s) E st2 (zs++rs)) ⟨E,rv,[],rfl,h6,a1,rfl,S,SnL.nil,H,a8,ai,fun _ _ h=>h⟩ ?_
  rintro j _ g7 w7 C7 hj ⟨k,U,zs,rfl,h7,a2,av,a4,a9,x,y,N,v⟩ ah
  simp(disch:=first|(simp only[push_cast];done)|omega) only[push_cast,a4.len]
  refine zh (fun ay=>?_) (fun ax=>?_)
  ·have m:j<s.length:=by omega
   refine zr fun w8 I _=>?_
   have A:=h7.grow I
   have l:=Ints.ext a4 I
   have a:=Ints.ext0 a7 A.ext
   obtain⟨c8,al,q⟩:=A.call
   simp(disch:=first|(simp only[push_cast];done)|omega) only[push_cast,l.iaddr,l.load,a.iaddr,a.load,true_and,q w8 (Same.refl _ _)]
   refine l1Two_nat (by omega) ?_
   rw[hB]
   simp(disch:=first|(simp only[push_cast];done)|omega) only[push_cast,l.iaddr,l.load,a.iaddr,a.load,true_and,and_self,q w8 (Same.refl _ _)]
   refine sfrom7_spec l m (by omega) (by omega) ?_
   simp(disch:=first|(simp only[push_cast];done)|omega) only[push_cast,l.iaddr,l.load,a.iaddr,a.load,true_and,and_self,q w8 (Same.refl _ _)]
   refine sone7_spec hn al A.dl (y.get P) (from_sn N x m) (x.get m) fun w9 b0 aw d L am hd t=>?_
   simp only[push_cast,true_and]
   refine A.put L am fun ac af G az=>?_
   try simp only[push_cast,true_and,and_self]
   have Z:OwnI PP zj ac U zs:=((a2.ext I).ext L).same G fun b f=>(h7.off b f).2.2.1
   have R:Ints (Kp b4 b8 (O1 U)) ac sv s:=Ints.kp4 (Ints.ext l L) G
   refine af.app' Z (by omega) fun ab b7 ag a0 Q=>?_
   try simp(disch:=omega) only[push_cast,zE]
   refine ah m _ _ ⟨aw,ab,zs++[d],by simp,ag,a0,by simp[av],Q _ _ R,SnL.app (a9.out t) (SnL.one hd),x.out t,y.out t,N.out t,fun st2 rs ho=>?_⟩
   have:=v st2 (d::rs) ?_
   ·simpa using this
   rw[Wx (by simpa using m) m,yc0 m]
   exact M.Bd.Out.bind t (M.Bd.Out.map _ ho)
  ·have b2:j=s.length:=by omega
   have o:=v k [] (by rw[Kf (by simp;omega)];exact M.Bd.Out.ret _ _)
   rw[List.append_nil] at o
   try simp(disch:=omega) only[push_cast,zE]
   refine hC P _ _ ⟨k,U,zs,by simp,h7.drop,Ints.weaken a2.ints (fun b f _=>by have h9:=h7.off b f;exact⟨⟨h9.2.2.1,h9.2.2.2,id⟩,h9.2.1⟩),by omega,a9,y,N,fun st2 res ho=>F st2 res ?_⟩
   rw[xF P]
   rw[←hB] at o
   exact M.Bd.Out.bind o ho
 ·refine h5.fin fun w6 ad e6 ak S=>?_
  exact hK w6 ad E sv s e6 ak (Ints.weaken (Ints.same a3 S fun b f _ e=>f.1.2.1 e) fun b f _=>f.2) H (F E s (by rw[jh0 (by omega)];exact M.Bd.Out.ret _ _))
end Go.Proofs.YtaekfnbnhjgboaaGreatDoor
end
section
namespace Go.Proofs.YtaekfnbnhjgboaaGreatDoor
open Go Go.Vc Go.Proofs
variable {w:World} {K:Value→World→Prop} {D F Fx Fy Y S O O':Nat→Prop} {n b4 b8:Nat} {gs gs':M.Gs} {v v' nv xv yv sv:Value} {cs cs':List Value} {st st':Option M.Gs} {a b c m x y r:Int} {xs ys:List Int}
theorem SnL.set {xs:List Int} (h:SnL st xs) {i:Nat} {x:Int} (b:Sn st x):SnL st (xs.set i x):=fun y c=>by
 rcases List.mem_or_eq_of_mem_set c with a|a
 ·exact h y a
 ·rw[a];exact b
theorem SnL.take (h:SnL st xs) (m:Nat):SnL st (xs.take m):=fun x a=>h x (List.mem_of_mem_take a)
theorem sdiv7_spec (hn:n≤8) (hk:MkR n D w cs st) (hD:∀b,D b→b<w.heap.size) (hx:Ints Fx w xv xs) (hy:Ints Fy w yv ys) (hl:xs.length=ys.length) (h8:xs.length≤900) (cr:SnL st xs) (cu:SnL st ys)
  (hK:∀w' cs' st' qv rv q r,Ext w w'→MkR n D w' cs' st'→Ints (fun b=>w.heap.size≤b) w' qv q→Ints (fun b=>w.heap.size≤b) w' rv r→SnL st' q→SnL st' r→M.Bd.Out n (M.divB xs (ys++[-1]) xs.length (M.offsL xs.length) (M.offsL xs.length)) st st' (q,r)→K (.tuple #[.agg ⟨cs'⟩,qv,rv]) w'):
  vcall PP X3 #[.agg ⟨cs⟩,xv,yv] w K:=by
 apply jF0
 refine Fm.start hk hD fun b4 b8 w1 h1=>?_
 have bk:=Ints.under hx;have ct:=Ints.under hy
 have lo:=h1.lo;have s1:=h1.ext.size;have l1:=h1.lt4
 have cq:=Ints.ext0 bk h1.ext
 simp(disch:=first|(simp only[push_cast];done)|omega) only[push_cast,cq.len]
 refine sfill7_spec (by omega) fun w2 bn a5 b9 b0=>?_
 refine sfill7_spec (by omega) fun w3 qv Q ab U=>?_
 refine spec_nil fun v4 w4 cd e4 az=>?_
 refine cd.app Zu (Ints.ext0 ct (h1.ext.trans (a5.trans (Q.trans e4)))) (by simp;omega) (by simp;omega) fun v5 w5 ce bc ca=>?_
 have z2:=a5.size;have z3:=Q.size;have z4:=e4.size;have z5:=bc.size
 have cn:∀b,v5.ownBlock=some b→w3.heap.size≤b:=fun b a=>(ca b a).elim (az b) fun h=>by omega
 have bt:Ext w3 w5:=Ext.then e4 bc fun b a=>az b a
 refine spec_app (w0:=w3) bt ce cn (by simp;omega) fun wv w6 bj a2 b1=>?_
 rw[List.nil_append] at bj
 simp(disch:=omega) only[push_cast,zE]
 have cf:=ab.ext a2
 have h2:=h1.grow a5
 have h3:=h2.take Q ab U
 have h6:Fm n D (O1 qv) w b4 b8 w6 st:=h3.grow a2
 have c0:Ints (fun b=>Kp b4 b8 (O1 qv) b∧w.heap.size≤b) w6 bn (M.offsL xs.length):=Ints.weaken (b9.ext (Q.trans a2)).ints fun b a _=>by
  have bx:=b0 b a;have c7:=b9.lt a
  exact⟨⟨by omega,by omega,fun hq=>by have:=U b hq;omega⟩,by omega⟩
 have c4:Ints (Kp b4 b8 (O1 qv)) w6 wv (ys++[-1]):=Ints.weaken bj.ints fun b a _=>by
  have bx:=b1 b a
  exact⟨by omega,by omega,fun hq=>by have:=ab.lt hq;omega⟩
 have de:(ys++[(-1:Int)]).length=xs.length+1:=by rw[List.length_append,hl];rfl
 have cp:SnL st (ys++[(-1:Int)]):=cu.app (SnL.one (Sn.of (by decide) (by decide)))
 generalize ys++[(-1:Int)]=wide at*
 refine YX (fun m u w'=> ∃B rv r q,u=[rv,.int .i64 ((m:Int)-1)]∧m≤xs.length∧Fm n D (O1 qv) w b4 b8 w' B∧Ints (fun b=>Kp b4 b8 (O1 qv) b∧w.heap.size≤b) w' rv r∧r.length=xs.length∧SnL B r∧OwnI PP zj w' qv q∧q.length=xs.length∧SnL B q∧Ints (Kp b4 b8 (O1 qv)) w' wv wide∧SnL B wide∧SnL B xs∧
  ∀st2 res,M.Bd.Out n (M.divB xs wide m r q) B st2 res→M.Bd.Out n (M.divB xs wide xs.length (M.offsL xs.length) (M.offsL xs.length)) st st2 res) xs.length
  ⟨st,bn,_,_,rfl,Nat.le_refl _,h6,c0,M.offsL_len _,SnL.fill _,cf,M.offsL_len _,SnL.fill _,c4,cp,cr,fun _ _ h=>h⟩ ?_
 rintro m _ g w7 C ⟨ad,rv,r,q,rfl,hm,h7,ba,ch,bb,b6,cg,b7,co,z,Z,V⟩ hC
 simp only[push_cast]
 refine zh (fun dc=>?_) (fun c7=>?_)
 ·obtain⟨m,rfl⟩:∃j,m=j+1:=⟨m-1,by omega⟩
  have c9:m<xs.length:=by omega
  rw[show((m+1:Nat):Int)-1=(m:Int) by omega]
  have bl:=Ints.ext0 bk h7.ext
  rw[bl.iaddr Wy (by omega) (by omega),Int.toNat_natCast,bl.load ks0 (by omega)]
  refine yh ZP km ZO rfl rfl fun a0 w8 db ap df bz=>?_
  have cj:OwnI PP zj w8 (.slice (some ⟨a0,0,none⟩) 1 1) [xs.getD m 0]:=Blk.own1 (P:=PP) (t:=zj) (cs:=[Value.int .i64 (xs.getD m 0)]) (by rw[UL];exact bz) (Nat.zero_le _) rfl rfl (by omega)
  refine cj.app Zu (Ints.ext ba ap) (by simp;omega) (by simp;omega) fun tv w9 ck ci cb=>?_
  have ai:Ext w7 w9:=Ext.then ap ci fun b a=>by have e:a0=b:=Option.some.inj a;omega
  have cl:∀b,tv.ownBlock=some b→w7.heap.size≤b:=fun b a=>(cb b a).elim (fun h=>by have e:a0=b:=Option.some.inj h;omega) fun h=>by omega
  have h9:=h7.grow ai
  have c1:Ints (Kp b4 b8 (O1 qv)) w9 tv (xs.getD m 0::r):=h7.new ck cl
  have ac:SnL ad (xs.getD m 0::r):=(SnL.one (Z.get c9)).app bb
  have be:(xs.getD m 0::r).length=xs.length+1:=by rw[List.length_cons,ch]
  refine spec_nil fun vz ae d1 a1 cc=>?_
  have E:=h9.grow a1
  have R:=ai.trans a1
  have S:Ints (Kp b4 b8 (O1 qv)) ae tv (xs.getD m 0::r):=Ints.ext c1 a1
  have X:Ints (Kp b4 b8 (O1 qv)) ae wv wide:=Ints.ext co R
  have b2:=b6.ext R
  generalize ht:xs.getD m 0::r=t at*
  obtain⟨d7,aq,a6⟩:=E.call
  simp only[a6 ae (Same.refl _ _)]
  refine sless7_spec hn aq E.dl S X (by omega) (by omega) ac z fun dh cy bo l v ar I d=>?_
  simp only[push_cast,true_and]
  refine E.put v ar fun af aj L d2=>?_
  have W:OwnI PP zj af qv q:=(b2.ext v).same L fun b a=>(E.off b a).2.2.1
  have al:Ints (Kp b4 b8 (O1 qv)) af tv t:=Ints.kp4 (Ints.ext S v) L
  have bh:Ints (Kp b4 b8 (O1 qv)) af wv wide:=Ints.kp4 (Ints.ext X v) L
  have c6:=I.1
  unfold Sm at c6
  simp(disch:=omega) only[push_cast,zE,Int.zero_sub]
  rw[W.ints.iaddr Wy (by omega) (by omega),Int.toNat_natCast]
  refine W.st km (by omega) fun ag b3 N d3=>?_
  have bu:Fm n D (O1 qv) w b4 b8 ag bo:=aj.own N (fun b a=>a) fun b a=>⟨by have:=(aj.off b a).1;omega,.inl a⟩
  have am:Ints (Kp b4 b8 (O1 qv)) ag tv t:=Ints.same al N fun b a _ e=>a.2.2 e
  have Y:Ints (Kp b4 b8 (O1 qv)) ag wv wide:=Ints.same bh N fun b a _ e=>a.2.2 e
  refine zr fun cx k _=>?_
  have a3:=bu.grow k
  obtain⟨d8,au,J⟩:=a3.call
  simp only[push_cast,true_and,J cx (Same.refl _ _)]
  refine sturn7_spec (Ints.ext Y k) (by omega) (z.sm) fun ah nv i ay a8=>?_
  have a4:=a3.grow i
  have ak:Ints (Kp b4 b8 (O1 qv)) ah nv (M.negL wide):=a3.new ay a8
  have T:Ints (Kp b4 b8 (O1 qv)) ah tv t:=Ints.ext (Ints.ext am k) i
  simp only[push_cast,true_and,and_self,J ah i]
  refine sadd7_spec hn (au.ext i fun _ h _=>h) a4.dl T ak (by rw[M.negL_len];omega) (by omega) (ac.out d) ((z.out d).neg) (Sn.of (by decide) (by decide)) fun di cz d6 uv us x av bf a9 cm f=>?_
  simp only[push_cast,true_and]
  refine a4.put x av fun bq bv y d4=>?_
  have bg:us.length=xs.length+1:=by
   have:=M.sum_len f.reach
   rw[M.negL_len] at this
   omega
  have ao:Ints (Kp b4 b8 (O1 qv)) bq uv us:=Ints.kp4 (a4.new bf a9) y
  have an:Ints (Kp b4 b8 (O1 qv)) bq tv t:=Ints.kp4 (Ints.ext T x) y
  try simp only[push_cast,true_and,and_self]
  refine zr fun s o _=>?_
  have A:=bv.grow o
  obtain⟨d9,aw,a7⟩:=A.call
  have F:=Ints.ext an o
  have G:=Ints.ext ao o
  have eT:yC PP zj tv none (some (.int .i64 xs.length)) none s=fun K=>K (cutV tv xs.length) s:=by
   funext K
   by_cases c:xs.length≤t.length
   ·exact Sl.cut F (Sl.base F (by simp;intro h;rw[h] at be;simp at be)) Wy (by simpa using c)
   ·omega
  have eU:yC PP zj uv none (some (.int .i64 xs.length)) none s=fun K=>K (cutV uv xs.length) s:=by
   funext K
   exact Sl.cut G (Sl.base G (by simp;intro h;rw[h] at bg;simp at bg)) Wy (by simpa using(show xs.length≤us.length by omega))
  have c2:Ints (Kp b4 b8 (O1 qv)) s (cutV tv xs.length) (t.take xs.length):=by
   have:=Sl.taken F (n:=xs.length) (by simpa using(show xs.length≤t.length by omega))
   unfold Ints Vals;rw[List.map_take,List.map_take];exact this
  have c3:Ints (Kp b4 b8 (O1 qv)) s (cutV uv xs.length) (us.take xs.length):=by
   have:=Sl.taken G (n:=xs.length) (by simpa using(show xs.length≤us.length by omega))
   unfold Ints Vals;rw[List.map_take,List.map_take];exact this
  simp only[push_cast,true_and,a7 s (Same.refl _ _),eT,eU]
  refine sifs7_spec hn aw A.dl c2 c3 (by rw[List.length_take,List.length_take];omega) (by rw[List.length_take];omega) (((ac.out d).out f).take _) (cm.take _) (I.out f) fun dj d0 bp zv zs H ax bm aa cw p=>?_
  simp only[push_cast,true_and]
  refine A.put H ax fun br bw O d5=>?_
  try simp(disch:=omega) only[push_cast,true_and,and_self,zE]
  have cv:zs.length=xs.length:=by
   have:=M.each_len p.reach
   rw[List.length_take,List.length_take] at this
   omega
  have b5:OwnI PP zj br qv (q.set m (-l)):=by
   have off:∀b,qv.ownBlock=some b→¬b=b4:=fun b a=>(E.off b a).2.2.1
   exact((((((b3.ext k).ext i).ext x).same y off).ext o).ext H).same O off
  have bi:Ints (Kp b4 b8 (O1 qv)) br wv wide:=Ints.kp4 (Ints.ext (Ints.ext (Ints.kp4 (Ints.ext (Ints.ext (Ints.ext Y k) i) x) y) o) H) O
  have dg:=A.ext.size
  refine hC m _ _ (by omega) ⟨bp,zv,zs,q.set m (-l),by simp<;>exact⟨rfl,rfl⟩,by omega,bw,Ints.same (Ints.weaken (F':=fun b=>Kp b4 b8 (O1 qv) b∧w.heap.size≤b) bm.ints fun b a _=>by
   have da:=aa b a;have dd:=A.lt4
   exact⟨⟨by omega,by omega,fun hO=>by have:=(A.off b hO).1;omega⟩,by omega⟩) O (fun b a _ e=>a.1.1 e),cv,cw,b5,by rw[List.length_set];exact cg,(((b7.out d).set I.neg).out f).out p,bi,((z.out d).out f).out p,((Z.out d).out f).out p,fun st2 res ho=>V st2 res ?_⟩
  subst ht
  exact kY0 d f p ho
 ·have c8:m=0:=by omega
  subst c8
  refine h7.fin fun w8 bs e8 c5 bd=>?_
  exact hK w8 bs ad qv rv q r e8 c5 (Ints.weaken (b6.same bd fun b a e=>(h7.off b a).2.2.2 e).ints fun b a _=>(h7.off b a).2.1) (Ints.weaken (Ints.same ba bd fun b a _ e=>a.1.2.1 e) fun b a _=>a.2) b7 bb (V ad (q,r) (by unfold M.divB;exact M.Bd.Out.ret _ _))
end Go.Proofs.YtaekfnbnhjgboaaGreatDoor
end
section
namespace Go.Proofs.YtaekfnbnhjgboaaGreatDoor
open Go Go.Vc Go.Proofs
variable {w:World} {K:Value→World→Prop} {D F Fx Fy Y S O O':Nat→Prop} {n b4 b8:Nat} {gs gs':M.Gs} {v v' nv xv yv sv:Value} {cs cs':List Value} {st st':Option M.Gs} {a b c m x y r:Int} {xs ys:List Int}
abbrev New (w:World):Nat→Prop:=fun b=>w.heap.size≤b
theorem Fm.res {w0 c:World} {rv:Value} {zs:List Int} (h:Fm n D O w0 b4 b8 w st) (he:Ext w c) (k:MkR n (J40 D O b4 b8) c cs' st') (m:Ints (New w) c rv zs)
  (j:∀a,Ext w0 a→MkR n D a cs' st'→Ints (New w0) a rv zs→K (.tuple #[.agg ⟨cs'⟩,rv]) a):
  zl PP zf (.pointer (some ⟨b8,0,none⟩)) (.agg ⟨cs'⟩) c fun _ a=>vlv PP zf (.pointer (some ⟨b8,0,none⟩)) a fun o p=>K (.tuple #[o,rv]) p:=by
 refine h.out he k fun a i f g=>j a i f ?_
 have l:=h.lt4;have s:=h.ext.size
 exact Ints.weaken (Ints.same m g fun b d _ e=>by have:w.heap.size≤b:=d;omega) fun b d _=>by have:w.heap.size≤b:=d;show w0.heap.size≤b;omega
theorem Z9 {w0:World} {rv:Value} {zs:List Int} (d:OwnI PP zj w rv zs) (c:∀b,rv.ownBlock=some b→w0.heap.size≤b):Ints (New w0) w rv zs:=Ints.weaken d.ints fun b a _=>c b a
theorem sbin7_spec {op:Int} (h3:3≤op) (aw:op≤14) (R:n≤8) (hk:MkR n D w cs st) (hD:∀b,D b→b<w.heap.size) (hx:Ints Fx w xv xs) (hy:Ints Fy w yv ys) (Y:op≠14→xs.length=ys.length) (ap:1≤xs.length) (h8:xs.length≤8) (ax:ys.length≤8) (t:SnL st xs) (j:SnL st ys)
  (z:∀w' cs' st' r zs,Ext w w'→MkR n D w' cs' st'→Ints (New w) w' r zs→SnL st' zs→M.Bd.Out n (M.binB op xs ys) st st' zs→K (.tuple #[.agg ⟨cs'⟩,r]) w'):
  vcall PP Jc #[.agg ⟨cs⟩,.int .i64 op,xv,yv] w K:=by
 apply jH0
 refine Fm.start hk hD fun b4 b8 w1 m=>?_
 have s:=Ints.ext (Ints.under hx) m.ext;have v:=Ints.ext (Ints.under hy) m.ext
 unfold M.binB at z
 obtain⟨c1,o,e⟩:=m.call
 simp only[push_cast]
 refine zh (fun c=>?_) (fun c6=>?_)
 ·subst c
  simp only[if_neg (show¬(6:Int)=14 by decide),if_neg (show¬(6:Int)=3 by decide),if_neg (show¬(6:Int)=4 by decide),if_neg (show¬(6:Int)=5 by decide),if_true] at z
  simp only[e w1 (Same.refl _ _)]
  refine sadd7_spec R o m.dl s v (by have:=Y (by decide);omega) (by omega) t j (Sn.of (by decide) (by decide)) fun G x st2 rv zs f g E a3 V B=>?_
  simp only[push_cast]
  exact m.res f g (Z9 E a3) fun C e3 A k=>z C x st2 rv zs e3 A k V B
 try simp only[push_cast]
 refine zh (fun c=>?_) (fun c7=>?_)
 ·subst c
  simp only[if_neg (show¬(7:Int)=14 by decide),if_neg (show¬(7:Int)=3 by decide),if_neg (show¬(7:Int)=4 by decide),if_neg (show¬(7:Int)=5 by decide),if_neg (show¬(7:Int)=6 by decide),if_true] at z
  refine zr fun G f _=>?_
  simp only[e G f,true_and]
  refine sturn7_spec (Ints.ext v f) (by omega) j.sm fun C nv a ah av=>?_
  simp only[e C (f.trans a),true_and,and_self]
  have a1:=(m.grow f).grow a
  refine sadd7_spec R (o.ext (f.trans a) fun _ h _=>h) a1.dl (Ints.ext s (f.trans a)) ah.ints (by rw[M.negL_len];have:=Y (by decide);omega) (by omega) t j.neg (Sn.of (by decide) (by decide)) fun Z ac ar rv zs ae af am a5 W S=>?_
  simp only[push_cast,true_and]
  exact a1.res ae af (Z9 am a5) fun F I i l=>z F ac ar rv zs I i l W S
 try simp only[push_cast]
 refine zh (fun c=>?_) (fun c8=>?_)
 ·subst c
  simp only[if_neg (show¬(8:Int)=14 by decide),if_neg (show¬(8:Int)=3 by decide),if_neg (show¬(8:Int)=4 by decide),if_neg (show¬(8:Int)=5 by decide),if_neg (show¬(8:Int)=6 by decide),if_neg (show¬(8:Int)=7 by decide),if_true] at z
  simp only[e w1 (Same.refl _ _)]
  refine smul7_spec R o m.dl s v (Y (by decide)) (by omega) t j fun G x st2 rv zs f g E V B=>?_
  simp only[push_cast]
  exact m.res f g E fun C e3 A k=>z C x st2 rv zs e3 A k V B
 try simp only[push_cast]
 refine zh (fun c=>?_) (fun c9=>?_)
 ·subst c
  simp only[if_neg (show¬(9:Int)=14 by decide),if_neg (show¬(9:Int)=3 by decide),if_neg (show¬(9:Int)=4 by decide),if_neg (show¬(9:Int)=5 by decide),if_neg (show¬(9:Int)=6 by decide),if_neg (show¬(9:Int)=7 by decide),if_neg (show¬(9:Int)=8 by decide),if_true] at z
  simp only[e w1 (Same.refl _ _)]
  refine sdiv7_spec R o m.dl s v (Y (by decide)) (by omega) t j fun G x st2 qv rv q r f g a6 E a7 a8 B=>?_
  simp only[push_cast]
  refine zz qz fun aa C ad a k P=>?_
  refine mk_put P rfl g.len g.one fun Z U W Q=>?_
  rw[yi0 Q g.len]
  have y:Ext G Z:=Ext.then a U fun b L=>by omega
  exact m.res (f.trans y) (g.ext y fun _ h _=>h) (Ints.ext a6 y) fun F I i l=>z F x st2 qv q I i l a7 (M.Bd.Out.map _ B)
 try simp only[push_cast]
 refine zh (fun c=>?_) (fun ab=>?_)
 ·subst c
  simp only[if_neg (show¬(10:Int)=14 by decide),if_neg (show¬(10:Int)=3 by decide),if_neg (show¬(10:Int)=4 by decide),if_neg (show¬(10:Int)=5 by decide),if_neg (show¬(10:Int)=6 by decide),if_neg (show¬(10:Int)=7 by decide),if_neg (show¬(10:Int)=8 by decide),if_neg (show¬(10:Int)=9 by decide),if_true] at z
  simp only[e w1 (Same.refl _ _)]
  refine sdiv7_spec R o m.dl s v (Y (by decide)) (by omega) t j fun G x st2 qv rv q r f g a6 E a7 a8 B=>?_
  simp only[push_cast]
  refine zz qz fun aa C ad a k P=>?_
  refine mk_put P rfl g.len g.one fun Z U W Q=>?_
  rw[yi0 Q g.len]
  have y:Ext G Z:=Ext.then a U fun b L=>by omega
  exact m.res (f.trans y) (g.ext y fun _ h _=>h) (Ints.ext E y) fun F I i l=>z F x st2 rv r I i l a8 (M.Bd.Out.map _ B)
 refine zI (fun u w'=>u=[.bool (decide (op=11∨op=12∨op=13))]∧w'=w1) ?_ ?_
 ·intro J hJ
  try simp only[push_cast]
  refine zh (fun c=>?_) (fun c=>?_)
  ·refine hJ _ _ ⟨?_,rfl⟩
   rw[decide_eq_true c,decide_eq_true (.inl c)]
  try simp only[push_cast]
  refine zh (fun d=>?_) (fun d=>?_)
  ·refine hJ _ _ ⟨?_,rfl⟩
   rw[decide_eq_true d,decide_eq_true (.inr (.inl d))]
  try simp only[push_cast]
  refine hJ _ _ ⟨?_,rfl⟩
  rw[decide_eq_decide.2 (show(op=11∨op=12∨op=13)↔op=13 from⟨fun h=>by omega,fun h=> .inr (.inr h)⟩)]
 rintro _ _ G ⟨rfl,rfl⟩
 try simp only[push_cast]
 refine zh (fun c=>?_) (fun au=>?_)
 ·simp only[e G (Same.refl _ _)]
  refine sshift7_spec R o m.dl s v ap (by omega) (by omega) t j fun C N X rv zs a A T k p=>?_
  simp only[push_cast]
  refine m.res a A T fun F I i l=>z F N X rv zs I i l k ?_
  rw[if_neg (by omega),if_neg (by omega),if_neg (by omega),if_neg (by omega),if_neg c6,if_neg c7,if_neg c8,if_neg c9,if_neg ab]
  rcases c with rfl|rfl|rfl
  ·exact p
  ·exact p
  ·exact p
 try simp only[push_cast]
 refine zh (fun c=>?_) (fun a0=>?_)
 ·rw[if_pos c] at z
  refine zr fun C a _=>?_
  simp only[e C a,true_and]
  refine spec_nil fun v4 Z S e4 a2=>?_
  simp only[e Z (a.trans e4),true_and,and_self]
  refine S.app Zu (Ints.ext v (a.trans e4)) (by simp;omega) (by simp;omega) fun v5 F ak an ai=>?_
  have z3:=a.size;have z4:=e4.size
  have H:Ext C F:=Ext.then e4 an fun b L=>a2 b L
  simp only[e F (a.trans H),true_and,and_self]
  have a9:∀b,v5.ownBlock=some b→C.heap.size≤b:=fun b L=>(ai b L).elim (a2 b) fun h=>by omega
  refine ak.app Zu (Ints.ext s (a.trans H)) (by simp;omega) (by simp;omega) fun v6 w6 al ao aj=>?_
  have z5:=H.size
  have O:Ext C w6:=Ext.then H ao fun b L=>a9 b L
  simp only[e w6 (a.trans O),true_and,and_self]
  refine m.res (a.trans O) (o.ext (a.trans O) fun _ h _=>h) (Z9 al fun b L=>(aj b L).elim (fun h=>by have:=a9 b h;omega) fun h=>by omega) fun w7 e7 ag aq=>z w7 c1 st v6 _ e7 ag aq (by rw[List.nil_append];exact j.app t) (M.Bd.Out.ret _ _)
 simp only[e G (Same.refl _ _)]
 refine splain7_spec R o m.dl s v (by have:=Y a0;omega) (by omega) t j fun C N X rv zs a A T a4 k p=>?_
 simp only[push_cast]
 refine m.res a A (Z9 T a4) fun F I i l=>z F N X rv zs I i l k ?_
 rw[if_neg a0]
 unfold XM at p
 rcases(by omega:op=3∨op=4∨op=5) with rfl|rfl|rfl
 ·exact p
 ·exact p
 ·exact p
theorem sun7_spec {op:Int} (Y:op=1∨op=2) (T:n≤8) (S:MkR n D w cs st) (hD:∀b,D b→b<w.heap.size) (U:Ints Fx w xv xs) (X:xs.length≤8) (f:SnL st xs)
  (k:∀w' cs' st' r zs,Ext w w'→MkR n D w' cs' st'→Ints (New w) w' r zs→SnL st' zs→M.Bd.Out n (M.unB op xs) st st' zs→K (.tuple #[.agg ⟨cs'⟩,r]) w'):
  vcall PP VG #[.agg ⟨cs⟩,.int .i64 op,xv] w K:=by
 apply kx0
 refine Fm.start S hD fun b4 b8 Z t=>?_
 have q:=Ints.ext (Ints.under U) t.ext
 unfold M.unB at k
 obtain⟨O,m,d⟩:=t.call
 simp only[push_cast]
 refine zh (fun c=>?_) (fun c=>?_)
 ·rw[if_pos c] at k
  refine zr fun G a _=>?_
  simp only[d G a,true_and]
  refine sturn7_spec (Ints.ext q a) (by omega) f.sm fun H nv e z o=>?_
  simp only[d H (a.trans e),true_and,and_self]
  have z2:=a.size
  exact t.res (a.trans e) (m.ext (a.trans e) fun _ h _=>h) (Z9 z fun b R=>by have:=o b R;omega) fun N P i j=>k N O st nv _ P i j f.neg (M.Bd.Out.ret _ _)
 ·rw[if_neg c] at k
  refine zr fun G a _=>?_
  have s:=Ints.ext q a
  simp(disch:=first|(simp only[push_cast];done)|omega) only[push_cast,d G a,true_and,s.len]
  refine sfill7_spec (by omega) fun H fv e x J=>?_
  simp only[d H (a.trans e),true_and,and_self]
  refine sturn7_spec (Ints.ext s e) (by omega) f.sm fun V nv l A L=>?_
  have g:=a.trans (e.trans l)
  simp only[d V g,true_and,and_self]
  have I:=t.grow g
  refine sadd7_spec T (m.ext g fun _ h _=>h) I.dl (x.ext l).ints A.ints (by rw[M.negL_len,List.length_replicate];omega) (by rw[List.length_replicate];omega) (SnL.fill _) f.neg (Sn.of (by decide) (by decide)) fun N u F rv zs v i C p j B=>?_
  simp only[push_cast,true_and]
  exact I.res v i (Z9 C p) fun W Q y E=>k W u F rv zs Q y E j B
theorem swap_get (xs ys:List Int) (h:xs.length=ys.length) (e:1≤xs.length):xs.take (xs.length-1)++[ys.getD (xs.length-1) 0]=M.swapT xs ys:=by
 unfold M.swapT
 refine List.ext_getElem (by simp;omega) fun i b a=>?_
 rw[List.getElem_set]
 by_cases c:xs.length-1=i
 ·subst c
  rw[if_pos rfl,List.getElem_append_right (by simp)]
  simp
 ·have d:i<xs.length:=by simpa using a
  rw[if_neg c,List.getElem_append_left (by simp;omega),List.getElem_take]
theorem cut_app {w0:World} {vx:Value} {zs:List Int} {x:Int} {f:Nat} {t0:TypeId} (n:Ext w0 w) (u:Ints Fx w vx zs) (B:zs.length≤1000) (p:Blk w f [.int .i64 x] t0) (r:w0.heap.size≤f) (s:OwnI PP zj w v []) (m:∀b,v.ownBlock=some b→w0.heap.size≤b∧b≠f)
  (q:∀w' v',Ext w0 w'→OwnI PP zj w' v' (zs++[x])→(∀b,v'.ownBlock=some b→w0.heap.size≤b)→K v' w'):
  vbi PP .append [zj,zj] zj [v,vx] w fun t y=>vbi PP .append [zj,zj] zj [t,.slice (some ⟨f,0,none⟩) 1 1] y K:=by
 have C:=n.size
 refine s.app Zu u (by simp;omega) (by simp;omega) fun v2 z j c g=>?_
 have s2:=c.size
 refine OwnI.app1 j Zu (p.same c fun e=>(m _ e).2 rfl) (by simp;omega) (by simp;omega) fun v3 A k l i=>?_
 have o:Ext w0 z:=Ext.then n c fun b a=>(m b a).1
 have d:∀b,v2.ownBlock=some b→w0.heap.size≤b:=fun b a=>(g b a).elim (fun h=>(m b h).1) fun h=>by omega
 exact q A v3 (Ext.then o l fun b a=>d b a) (by simpa using k) fun b a=>(i b a).elim (d b) fun h=>by omega
theorem top_region {J:List Value→World→Prop} (hx:Ints Fx w xv xs) (hy:Ints Fy w yv ys) (Z:xs.length=ys.length) (t:1≤xs.length) (h8:xs.length≤8) (W:∀w' r,Ext w w'→OwnI PP zj w' r (M.swapT xs ys)→(∀b,r.ownBlock=some b→w.heap.size≤b)→J [r] w'):
  y0 w fun a=>
    yC PP zj xv none (some (.int .i64 ((xs.length-1:Nat):Int))) none a fun t36 L=>L=a∧
    zm PP zj yv (.int .i64 ((xs.length-1:Nat):Int)) a fun t40 N=>N=a∧
    ze PP zd t40 a fun t41 O=>O=a∧
    (vbuildS PP zj 0 [] a fun t33 c=>(ze PP zd t40 c fun v x=>v=t41∧x=c)∧(zm PP zj yv (.int .i64 ((xs.length-1:Nat):Int)) c fun v x=>v=t40∧x=c)∧(yC PP zj xv none (some (.int .i64 ((xs.length-1:Nat):Int))) none c fun v x=>v=t36∧x=c)∧
     (vbi PP .append [zj,zj] zj [t33,t36] c fun t37 d=>(ze PP zd t40 d fun v x=>v=t41∧x=d)∧(zm PP zj yv (.int .i64 ((xs.length-1:Nat):Int)) d fun v x=>v=t40∧x=d)∧
      (vbuildS PP zj 1 [(0,t41)] d fun t42 P=>
       (vbi PP .append [zj,zj] zj [t37,t42] P fun t43 Q=>
        J [t43] Q)∧
       True)∧
      True)∧
     (vbuildS PP zj 1 [(0,t41)] c fun D k=>(yC PP zj xv none (some (.int .i64 ((xs.length-1:Nat):Int))) none k fun v x=>v=t36∧x=k)∧
      (vbi PP .append [zj,zj] zj [t33,t36] k fun B R=>
       (vbi PP .append [zj,zj] zj [B,D] R fun F S=>
        J [F] S)∧
       True)∧
      True)∧
     True)∧
    (vbuildS PP zj 1 [(0,t41)] a fun E l=>(yC PP zj xv none (some (.int .i64 ((xs.length-1:Nat):Int))) none l fun v x=>v=t36∧x=l)∧
     (vbuildS PP zj 0 [] l fun A m=>(yC PP zj xv none (some (.int .i64 ((xs.length-1:Nat):Int))) none m fun v x=>v=t36∧x=m)∧
      (vbi PP .append [zj,zj] zj [A,t36] m fun C T=>
       (vbi PP .append [zj,zj] zj [C,E] T fun G U=>
        J [G] U)∧
       True)∧
      True)∧
     True)∧
    True:=by
 refine zr fun w2 g _=>?_
 have sl:∀(w':World) (K:Value→World→Prop),Ext w w'→yC PP zj xv none (some (.int .i64 ((xs.length-1:Nat):Int))) none w' K=K (cutV xv (xs.length-1)) w':=fun w' K he=>by
  have p:=Ints.ext hx he
  exact propext ⟨fun h=>by rwa[Sl.cut p (Sl.base p (by simp;intro h;rw[h] at t;simp at t)) Wy (by simp)] at h,fun h=>by rwa[Sl.cut p (Sl.base p (by simp;intro h;rw[h] at t;simp at t)) Wy (by simp)]⟩
 have ia:∀(w':World) (K:Value→World→Prop),zm PP zj yv (.int .i64 ((xs.length-1:Nat):Int)) w' K=K (.pointer (some (eaddr yv 1 (xs.length-1)))) w':=fun w' K=>by
  rw[hy.iaddr Wy (by omega) (by omega),Int.toNat_natCast]
 have ld:∀(w':World) (K:Value→World→Prop),Ext w w'→ze PP zd (.pointer (some (eaddr yv 1 (xs.length-1)))) w' K=K (.int .i64 (ys.getD (xs.length-1) 0)) w':=fun w' K he=>(Ints.ext hy he).load ks0 (by omega)
 have Y:∀w',Ext w w'→Ints Fx w' (cutV xv (xs.length-1)) (xs.take (xs.length-1)):=fun w' he=>by
  have:=Sl.taken (Ints.ext hx he) (n:=xs.length-1) (by simp)
  unfold Ints Vals;rw[List.map_take,List.map_take];exact this
 have I:(xs.take (xs.length-1)).length≤1000:=by rw[List.length_take];omega
 have s2:=g.size
 simp only[sl _ _ g,ia,ld _ _ g,true_and,and_true]
 refine⟨?_,?_⟩
 ·refine spec_nil fun v3 w3 j q i=>?_
  have e:=g.trans q
  simp only[sl _ _ e,ld _ _ e,true_and,and_true,and_self]
  refine⟨?_,?_⟩
  ·refine j.app Zu (Y _ e) (by simp;omega) (by simp;omega) fun v4 w4 a2 a4 a0=>?_
   have H:Ext w w4:=Ext.then e a4 fun b s=>by have:=i b s;omega
   have s3:=q.size
   simp only[ld _ _ H,true_and,and_true,and_self]
   refine spec_app (w0:=w) H a2 (fun b s=>(a0 b s).elim (fun h=>by have:=i b h;omega) fun h=>by omega) (by simp;omega) fun v5 w5 a3 e5 a1=>?_
   refine W w5 v5 e5 ?_ a1
   rw[←swap_get xs ys Z t];simpa using a3
  ·refine yh ZP km ZO rfl rfl fun b7 w7 X f a5 u=>?_
   have s3:=q.size
   simp only[sl _ _ (e.trans f),true_and,and_true,and_self]
   refine cut_app (w0:=w) (e.trans f) (Y _ (e.trans f)) I u (by omega) (j.ext f) (fun b s=>by have:=i b s;have:=j.lt s;omega) fun w8 v8 V z y=>?_
   refine W w8 v8 V ?_ y
   rw[←swap_get xs ys Z t];exact z
 ·refine yh ZP km ZO rfl rfl fun b7 w7 X f a5 u=>?_
  have o:=g.trans f
  simp only[sl _ _ o,true_and,and_true,and_self]
  refine spec_nil fun v3 w3 j q i=>?_
  simp only[sl _ _ (o.trans q),true_and,and_true,and_self]
  refine cut_app (w0:=w) (o.trans q) (Y _ (o.trans q)) I (u.ext q) (by omega) j (fun b s=>by have:=i b s;omega) fun w8 v8 V z y=>?_
  refine W w8 v8 V ?_ y
  rw[←swap_get xs ys Z t];exact z
theorem swap_sn (a:SnL st xs) (b:SnL st ys) (d:xs.length=ys.length) (c:1≤xs.length):SnL st (M.swapT xs ys):=a.set (b.get (by omega))
theorem qa0 (xs ys:List Int):(M.swapT xs ys).length=xs.length:=List.length_set ..
theorem scmp7_spec {op:Int} (X:15≤op) (Y:op≤17) (y:n≤8) (Z:MkR n D w cs st) (hD:∀b,D b→b<w.heap.size) (hx:Ints Fx w xv xs) (hy:Ints Fy w yv ys) (x:xs.length=ys.length) (z:1≤xs.length) (h8:xs.length≤8) (g:SnL st xs) (j:SnL st ys)
  (k:∀w' cs' st' r,Ext w w'→MkR n D w' cs' st'→Sn st' r→M.Bd.Out n (M.cmpB op xs ys) st st' r→K (.tuple #[.agg ⟨cs'⟩,.int .i64 r]) w'):
  vcall PP Jb #[.agg ⟨cs⟩,.int .i64 op,xv,yv] w K:=by
 apply jG0
 refine Fm.start Z hD fun b4 b8 S f=>?_
 have d:=Ints.ext (Ints.under hx) f.ext;have i:=Ints.ext (Ints.under hy) f.ext
 unfold M.cmpB at k
 obtain⟨c1,o,a⟩:=f.call
 simp only[push_cast]
 refine zh (fun c=>?_) (fun U=>?_)
 ·rw[if_pos c] at k
  simp only[a S (Same.refl _ _)]
  refine ssame7_spec y o f.dl d i (by omega) (by omega) g j fun T l st2 r m p t s=>?_
  simp only[push_cast]
  exact f.out m p fun A v q Q=>k A l st2 r v q t s
 rw[if_neg U] at k
 try simp only[push_cast]
 refine zh (fun c=>?_) (fun V=>?_)
 ·rw[if_pos c] at k
  simp only[a S (Same.refl _ _)]
  refine sless7_spec y o f.dl d i (by omega) (by omega) g j fun T l st2 r m p t s=>?_
  simp only[push_cast]
  exact f.out m p fun A v q Q=>k A l st2 r v q t s
 rw[if_neg V] at k
 rw[d.len Q20]
 simp(disch:=omega) only[push_cast,zE]
 rw[show((xs.length:Int)-1)=((xs.length-1:Nat):Int) by omega]
 refine zI (fun u w'=> ∃r,u=[r]∧Ext S w'∧OwnI PP zj w' r (M.swapT xs ys)) ?_ ?_
 ·intro J E
  exact top_region d i x z (by omega) fun w' r he N y=>E _ _ ⟨r,rfl,he,N⟩
 rintro _ _ T ⟨av,rfl,C,F⟩
 refine zI (fun u w'=> ∃r,u=[r]∧Ext T w'∧OwnI PP zj w' r (M.swapT ys xs)) ?_ ?_
 ·intro J E
  rw[x]
  exact top_region (Ints.ext i C) (Ints.ext d C) x.symm (by omega) (by omega) fun w' r he N y=>E _ _ ⟨r,rfl,he,N⟩
 rintro _ _ A ⟨bv,rfl,v,G⟩
 have e:=C.trans v
 try simp only[push_cast]
 simp only[a A e]
 refine sless7_spec y (o.ext e fun _ h _=>h) (f.grow e).dl (F.ext v).ints G.ints (by rw[qa0,qa0];omega) (by rw[qa0];omega) (swap_sn g j x z) (swap_sn j g x.symm (by omega)) fun w4 B R r H I P O=>?_
 simp only[push_cast]
 exact(f.grow e).out H I fun w5 W L a0=>k w5 B R r W L P O
theorem fresh6_spec {o:Option Addr} {l c:Nat} (O:GatesR Fx w (.slice o l c) gs) (W:gs.length≤1000) (J:∀w' o' A,Ext w w'→OwnG w' (.slice o' gs.length A) gs→(∀b,(Value.slice o' gs.length A).ownBlock=some b→w.heap.size≤b)→K (.agg ⟨[.int .i64 n,.slice o' gs.length A]⟩) w'):
  vcall PP Xu #[.agg ⟨[.int .i64 n,.slice o l c]⟩] w K:=by
 apply xk0
 refine zy fun b1 X L s Q C=>?_
 refine zz xX fun b2 Y M t R D=>?_
 refine zr fun Z i _=>?_
 have p:=t.trans i
 have a:=C.ext p
 simp(disch:=first|(simp only[push_cast];done)|omega) only[push_cast,a.ld0,a.ld1,true_and]
 refine qC ke Qa fun b4 T N j S E=>?_
 have d:=a.ext j
 simp(disch:=first|(simp only[push_cast];done)|omega) only[push_cast,d.ld0,d.ld1,true_and,and_self]
 have y:Own PP 0 3 zn T (.slice (some ⟨b4,0,none⟩) 0 0) []:=Blk.ownk (css:=[]) (by rw[QA];exact E) (fun x P=>by cases P) rfl (by omega)
 have m:=s.trans (p.trans j)
 refine vappend (bs:=24) jj (by decide) y (Sl.ext O m) (gone gs) (by omega) (by rw[List.length_map];simp;omega) (by rw[List.length_map];simp;omega) fun v5 U u k F=>?_
 have z1:=s.size;have z2:=t.size;have z3:=i.size
 have B:Ext w U:=Ext.then m k fun b g=>by have e:b4=b:=Option.some.inj g;omega
 have q:=d.same k fun e=>by have e:b4=b1:=Option.some.inj e;omega
 obtain⟨I,H,G,_⟩:=(Own.sl u).shape
 subst G
 simp(disch:=first|(simp only[push_cast];done)|omega) only[push_cast,q.ld0,true_and,and_self,Z00]
 have r:=((D.ext i).ext j).same k fun e=>by have e:b4=b2:=Option.some.inj e;omega
 refine net_out r rfl rfl net_one fun V z=>?_
 have hlen:([]++gs.map yG).length=gs.length:=by simp
 have f:∀b,(Value.slice I ([]++gs.map yG).length H).ownBlock=some b→b4≤b:=fun b g=>(F b g).elim (fun h=>by have e:b4=b:=Option.some.inj h;omega) fun h=>by omega
 have v:=Own.same u z fun b g e=>by have:=f b g;omega
 rw[hlen] at v f⊢
 exact J V I H (Ext.then B z fun b g=>by omega) v fun b g=>by have:=f b g;omega
def toldR (n:Nat) (st:Option M.Gs) (zs:List Int):Nat×M.Gs×List Int:=match st with
 |some gs=>(n,gs,zs)
 |none=>(0,[],[])
theorem told7_spec {zs:List Int} {rv:Value} (J:MkR n D w cs st) (R:Ints Fx w rv zs) (W:zs.length≤8)
  (I:∀w' o c lv,Ext w w'→OwnG w' (.slice o (toldR n st zs).2.1.length c) (toldR n st zs).2.1→OwnI PP zj w' lv (toldR n st zs).2.2→(∀b,(Value.slice o (toldR n st zs).2.1.length c).ownBlock=some b→w.heap.size≤b)→(∀b,lv.ownBlock=some b→w.heap.size≤b∧(Value.slice o (toldR n st zs).2.1.length c).ownBlock≠some b)→K (.tuple #[.agg ⟨[.int .i64 (toldR n st zs).1,.slice o (toldR n st zs).2.1.length c]⟩,lv]) w'):
  vcall PP Ql #[.agg ⟨cs⟩,rv] w K:=by
 apply qF0
 refine zy fun b1 Y O t S A=>?_
 refine zz xX fun b2 L P k T q=>?_
 have d:=A.ext k
 have y:=t.trans k
 have Z:=t.size;have z2:=k.size
 cases st with
 |none=>
  have B:cs=[.int .i64 0,.slice none 0 0,.bool false]:=J
  subst B
  simp(disch:=first|(simp only[push_cast];done)|omega) only[push_cast,d.ld2,Bool.not_false,ja0]
  refine spec_nil fun v3 H g i f=>?_
  refine net_out (q.ext i) rfl rfl net_one fun M x=>?_
  refine I M none 0 v3 (Ext.then (y.trans i) x fun b a=>by omega) OwnG.nil (g.same x fun b a e=>by have:=f b a;omega) (fun b a=>by cases a) fun b a=>⟨by have:=f b a;omega,fun h=>by cases h⟩
 |some gs=>
  obtain⟨o,l,c,rfl,Q,X⟩:=J
  have v:ze PP zg (.pointer (some ⟨b1,0,none⟩)) L=fun K=>K (.agg ⟨[.int .i64 n,.slice o l c]⟩) L:=by
   funext K;exact Blk.ldTake (us:=[.int .i64 n,.slice o l c]) (r:=[.bool true]) d y5
  simp(disch:=first|(simp only[push_cast];done)|omega) only[push_cast,d.ld2,Bool.not_true,xj,Nat.add_zero,v]
  refine fresh6_spec (Sl.ext Q y) (by omega) fun H U c3 i g f=>?_
  refine spec_nil fun v4 M E z u=>?_
  refine E.app Zu (Ints.ext R (y.trans (i.trans z))) (by simp;omega) (by simp;omega) fun v5 V F G C=>?_
  have z3:=i.size;have z4:=z.size
  have j:Ext H V:=Ext.then z G fun b a=>u b a
  have s:=(q.ext i).ext j
  refine net_out s rfl rfl net_one fun N m=>?_
  have p:∀b,v5.ownBlock=some b→H.heap.size≤b:=fun b a=>(C b a).elim (u b) fun h=>by omega
  refine I N U c3 v5 (Ext.then (y.trans (i.trans j)) m fun b a=>by omega) ((Own.ext g j).same m fun b a e=>by have:=f b a;omega) (show OwnI PP zj N v5 zs by simpa using F.same m fun b a e=>by have:=p b a;omega) (fun b a=>by have:=f b a;omega) fun b a=>⟨by have:=p b a;omega,fun h=>by have:=(Own.lt g h).2;have:=p b a;omega⟩
end Go.Proofs.YtaekfnbnhjgboaaGreatDoor
end
section
namespace Go.Proofs.YtaekfnbnhjgboaaGreatDoor
open Go Go.Vc Go.Proofs
variable {w:World} {K:Value→World→Prop} {D F Fx Fy Y S O O':Nat→Prop} {n b4 b8:Nat} {gs gs':M.Gs} {v v' nv xv yv sv dv tv:Value} {cs cs':List Value} {st st':Option M.Gs} {a b c m x y r:Int} {xs ys:List Int} {ds:List M.Dcl} {t:M.Tm}
theorem spec_one {x:Int} (f:∀w' r,Ext w w'→OwnI PP zj w' r [x]→(∀b,r.ownBlock=some b→w.heap.size≤b)→K r w'):vbuildS PP zj 1 [(0,.int .i64 x)] w K:=by
 refine yh ZP km ZO rfl rfl fun d j h c i a=>?_
 exact f j _ c (Blk.own1 (P:=PP) (t:=zj) (cs:=[Value.int .i64 x]) (by rw[UL];exact a) (Nat.zero_le _) rfl rfl (by omega)) fun b g=>by have e:d=b:=Option.some.inj g;omega
theorem sbits8_spec {k:Nat} (d:M.declOk ds=true) (p:k≤ds.length) (j:DclsR F w v (ds.take k)) (h:∀w',Ext w w'→K (.int .i64 (M.bitT ds k)) w'):vcall PP Y7 #[v] w K:=by
 apply qD0
 have hlen:(ds.take k).length=k:=by rw[List.length_take];omega
 have o:=(M.decl_iff.1 d).1
 refine vloop_up k (fun i u w'=>u=[.int .i64 (M.bitT ds i),.int .i64 i]∧Ext w w') ⟨rfl,Same.refl _ _⟩ ?_
 rintro i _ _ n C hi ⟨rfl,c⟩ g
 have b:=j.ext c
 simp(disch:=first|(simp only[push_cast];done)|omega) only[push_cast,b.len]
 refine zh (fun a=>?_) (fun a=>?_)
 ·have e:i<k:=by omega
  have m:=dcl_small d (i:=i) (by omega)
  have f:=dcl_small d (i:=i+1) (by omega)
  rw[M.bitT_succ (by omega)] at f
  have l:(ds.take k).getD i (M.nada,0)=ds.getD i (M.nada,0):=M.take_getD e
  simp(disch:=first|(simp only[push_cast];done)|omega) only[push_cast,b.iaddr,b.load1,l,zE]
  refine g e _ _ ⟨?_,c⟩
  rw[M.bitT_succ (by omega)]
  simp
 ·have:i=k:=by omega
  subst this
  exact h n c
theorem fix_val {nn:Int} {j:Nat}:2*((nn.toNat/2^j%2:Nat):Int)-1=if nn.toNat/2^j%2=1 then 1 else-1:=by
 have h:nn.toNat/2^j%2=0∨nn.toNat/2^j%2=1:=by omega
 rcases h with h|h<;>rw[h]<;>rfl
theorem sfix8_spec {wd nn:Int} (x:M.vok wd nn=true) (t:∀w' r,Ext w w'→OwnI PP zj w' r (M.fixB wd nn)→(∀b,r.ownBlock=some b→w.heap.size≤b)→K r w'):vcall PP J9 #[.int .i64 wd,.int .i64 nn] w K:=by
 apply jA0
 obtain⟨v1,v2,v3,v4⟩:=M.vok_lt x
 refine spec_nil fun y A m p k=>?_
 refine vloop_up wd.toNat (fun i u w'=> ∃r,u=[r,.int .i64 i]∧Ext w w'∧OwnI PP zj w' r ((M.fixB wd nn).take i)∧∀b,r.ownBlock=some b→w.heap.size≤b) ⟨_,rfl,p,m,k⟩ ?_
 rintro i _ g z C hi ⟨r,rfl,o,d,f⟩ s
 simp only[push_cast]
 refine zh (fun a=>?_) (fun a=>?_)
 ·have e:i<wd.toNat:=by omega
  rw[show nn=((nn.toNat:Nat):Int) by omega]
  refine l1Bit_spec (by omega) (by omega) ?_
  have v:nn.toNat/2^i%2<2:=Nat.mod_lt _ (by decide)
  have c:=fix_val (nn:=nn) (j:=i)
  generalize h:nn.toNat/2^i%2=bt at c v
  simp(disch:=omega) only[push_cast,zE]
  rw[c]
  refine spec_app o d f (by rw[List.length_take,M.fixB_len];omega) fun v3 B n q l=>?_
  try simp(disch:=omega) only[push_cast,zE]
  refine s e _ _ ⟨v3,by simp,q,?_,l⟩
  rw[M.take_add (by rw[M.fixB_len];omega) 0,fixB_at (by omega),h]
  exact n
 ·have e:i=wd.toNat:=by omega
  rw[List.take_of_length_le (by rw[M.fixB_len];omega)] at d
  exact t z r o d f
theorem sname8_spec {k:Nat} (e:M.declOk ds=true) (l:k<ds.length) (p:DclsR F w v ds) (D:∀w' r,Ext w w'→OwnI PP zj w' r (M.nameB ds k)→(∀b,r.ownBlock=some b→w.heap.size≤b)→K r w'):vcall PP Qi #[v,.int .i64 k] w K:=by
 apply qB0
 have J:=(M.decl_iff.1 e).1
 rw[p.cut (by intro h;rw[h] at l;simp at l) JE (by omega)]
 refine sbits8_spec e (by omega) (p.taken (by omega)) fun L y=>?_
 have G:=dcl_small e (i:=k) (by omega)
 have H:=M.dcl_wide e l
 simp(disch:=omega) only[push_cast,zE]
 refine spec_nil fun v2 N t z q=>?_
 have P:=y.size
 refine vloop_up (ds.getD k (M.nada,0)).2.toNat (fun i u w'=> ∃r,u=[r,.int .i64 i]∧Ext w w'∧OwnI PP zj w' r ((M.nameB ds k).take i)∧∀b,r.ownBlock=some b→w.heap.size≤b) ⟨_,rfl,y.trans z,t,fun b E=>by have:=q b E;omega⟩ ?_
 rintro i _ g I C hi ⟨r,rfl,n,f,m⟩ B
 have d:=p.ext n
 have j:∀c:i<(ds.getD k (M.nada,0)).2.toNat,(M.nameB ds k).getD i 0=2+M.bitT ds k+(ds.getD k (M.nada,0)).2-1-(i:Int):=fun c=>by unfold M.nameB;rw[yc0 c];rfl
 rw[d.iaddr JE (by omega) (by omega),Int.toNat_natCast]
 simp only[push_cast]
 rw[d.load1 ks0 l]
 generalize o:(ds.getD k (M.nada,0)).2=wd at*
 simp only[push_cast]
 refine zh (fun a=>?_) (fun a=>?_)
 ·have c:i<wd.toNat:=by omega
  rw[d.iaddr JE (by omega) (by omega),Int.toNat_natCast]
  simp only[push_cast]
  rw[d.load1 ks0 l,o]
  simp(disch:=omega) only[push_cast,zE]
  refine spec_app n f m (by rw[List.length_take,M.nameB_len];omega) fun v5 O x A s=>?_
  try simp(disch:=omega) only[push_cast,zE]
  refine B c _ _ ⟨v5,by simp,A,?_,s⟩
  rw[M.take_add (by rw[M.nameB_len,o];omega) 0,j c]
  exact x
 ·rw[List.take_of_length_le (by rw[M.nameB_len,o];omega)] at f
  exact D I r n f m
theorem sleaf8_spec (l:M.declOk ds=true) (hs:M.sortM ds t≠ -1) (I:t.ks.length=0) (v:DclsR F w dv ds) (E:TermR Fx w tv t)
  (i:∀w' r zs,Ext w w'→OwnI PP zj w' r zs→(∀b,r.ownBlock=some b→w.heap.size≤b)→SnL st zs→M.Bd.Out n (M.nodeB ds t []) st st zs→K r w'):vcall PP Qj #[dv,tv] w K:=by
 apply qC0
 obtain⟨kv,rfl,A⟩:=E
 obtain⟨y,L,C⟩:=M.right_op hs
 have D:t.op=20∨t.op=21∨t.op=24:=Classical.byContradiction fun h=>by have:=M.node_arity C h;omega
 refine zy fun b1 O z a H g=>?_
 simp(disch:=first|(simp only[push_cast];done)|omega) only[push_cast,g.ld0]
 unfold M.nodeB at i
 refine zh (fun c=>?_) (fun c=>?_)
 ·rw[if_pos c] at i
  have G:=M.vec_ok hs c
  simp(disch:=first|(simp only[push_cast];done)|omega) only[push_cast,g.ld1,g.ld2]
  refine sfix8_spec G fun p r d f e=>?_
  exact i p r _ (a.trans d) f (fun b o=>by have:=e b o;omega) (fun x u=>by
   unfold M.fixB at u
   obtain⟨j,_,rfl⟩:=List.mem_map.1 u
   split<;>exact Sn.of (by decide) (by decide)) (M.Bd.Out.ret _ _)
 rw[if_neg c] at i
 try simp only[push_cast]
 refine zh (fun q=>?_) (fun q=>?_)
 ·rw[if_pos q] at i
  have J:=M.name_found hs q
  have B:=M.findD_lt ds t.s
  simp(disch:=first|(simp only[push_cast];done)|omega) only[push_cast,g.ld3]
  refine l2Find_spec (v.ext a) ?_
  rw[show M.findD ds t.s=(((M.findD ds t.s).toNat:Nat):Int) by omega]
  refine sname8_spec l (by omega) (v.ext a) fun p r d f e=>?_
  refine i p r _ (a.trans d) f (fun b o=>by have:=e b o;omega) (fun x u=>?_) (M.Bd.Out.ret _ _)
  obtain⟨p1,p2,N⟩:=M.name_has (m:=9) l (k:=(M.findD ds t.s).toNat) (by omega) (by have:=(M.decl_iff.1 l).2.2;omega) x u
  exact Sn.of (by unfold Sm;omega) p1
 ·rw[if_neg q,if_pos (by omega)] at i
  refine spec_one fun p r d f e=>?_
  exact i p r _ (a.trans d) f (fun b o=>by have:=e b o;omega) (SnL.one (Sn.of (by decide) (by decide))) (M.Bd.Out.ret _ _)
end Go.Proofs.YtaekfnbnhjgboaaGreatDoor
end
section
namespace Go.Proofs.YtaekfnbnhjgboaaGreatDoor
open Go Go.Vc Go.Proofs
variable {w:World} {K:Value→World→Prop} {D F Fx Fy Y S O O':Nat→Prop} {n b4 b8:Nat} {gs gs':M.Gs} {v v' nv xv yv sv dv tv kv:Value} {cs cs' ts:List Value} {st st':Option M.Gs} {a b c m x y r:Int} {xs ys:List Int} {ds:List M.Dcl} {t:M.Tm} {rs:List (List Int)}
theorem Fm.start2 (v:MkR n D w cs st) (hD:∀b,D b→b<w.heap.size) {K:Value→Value→Value→World→Prop} (p:∀b4 a b8 w',Fm n D (fun _=>False) w b4 b8 w' st→Blk w' a ts z7→w.heap.size≤a∧a≠b4∧a≠b8→K (.pointer (some ⟨b4,0,none⟩)) (.pointer (some ⟨a,0,none⟩)) (.pointer (some ⟨b8,0,none⟩)) w'):
  yo PP zf (.agg ⟨cs⟩) w fun t m=>yo PP z7 (.agg ⟨ts⟩) m fun t5 o=>zJ PP zf o fun t8 k=>K t t5 t8 k:=by
 refine zy fun b4 m r i x e=>?_
 refine zy fun a o s j y f=>?_
 refine zz qz fun b8 k u d z g=>?_
 have c:=j.trans d
 have l:=i.trans c
 refine p b4 a b8 k ⟨l,⟨cs,e.ext c,v.ext l fun b q A=>q.elim id fun h=>?_⟩,⟨_,g,rfl⟩,by omega,fun b h=>h.elim,hD⟩ (f.ext d) (by omega)
 rcases h with h|h|h
 ·omega
 ·omega
 ·exact h.elim
def KidsS (w:World) (kv:Value) (rs:List (List Int)):Prop:= ∃(vs:List Value) (Fk:Nat→Prop),Vals Fk w kv vs∧vs.length=rs.length∧∀i,i<rs.length→Ints (fun _=>True) w (vs.getD i undef) (rs.getD i [])
theorem KidsS.vals (h:KidsS w kv rs):∃vs:List Value,(∀(w':World),Ext w w'→∀i:Nat,i<rs.length→∀K:Value→World→Prop,zm PP yn kv (.int .i64 i) w' K=K (.pointer (some (eaddr kv 1 i))) w'∧ze PP zj (.pointer (some (eaddr kv 1 i))) w' K=K (vs.getD i undef) w')∧
  ∀i,i<rs.length→Ints (fun _=>True) w (vs.getD i undef) (rs.getD i []):=by
 obtain⟨vs,Fk,b,d,c⟩:=h
 refine⟨vs,fun w' he i hi K=>?_,c⟩
 have a:=b.ext he
 refine⟨?_,a.load Q80 (by omega)⟩
 rw[a.iaddr QJ0 (by omega) (by omega),Int.toNat_natCast]
theorem KidsS.ext {w':World} (h:KidsS w kv rs) (he:Ext w w'):KidsS w' kv rs:=by
 obtain⟨vs,Fk,a,b,c⟩:=h
 exact⟨vs,Fk,a.ext he,b,fun i hi=>Ints.ext (c i hi) he⟩
theorem len_one {l:List Int} (h:l.length=1):l=[l.getD 0 0]:=by
 match l,h with
 |[x],_=>rfl
theorem slogic8_spec (a5:M.declOk ds=true) (hs:M.sortM ds t≠ -1) (a9:22<t.op) (a1:t.op≠24) (hn:n≤8) (hk:MkR n D w cs st) (hD:∀b,D b→b<w.heap.size) (ht:TermR Fx w tv t) (N:KidsS w kv rs) (ad:rs.length=t.ks.length) (hlen:∀i,i<t.ks.length→(rs.getD i []).length=M.lenS (M.sortM ds (M.kid t i))) (a6:∀r,r∈rs→SnL st r)
  (o:∀w' cs' st' r zs,Ext w w'→MkR n D w' cs' st'→Ints (New w) w' r zs→SnL st' zs→M.Bd.Out n (M.nodeB ds t rs) st st' zs→K (.tuple #[.agg ⟨cs'⟩,r]) w'):
  vcall PP Xr #[.agg ⟨cs⟩,tv,kv] w K:=by
 apply xh0
 obtain⟨kw,rfl,ab⟩:=ht
 obtain⟨aa,hp,ho⟩:=M.right_op hs
 obtain⟨q1,q2,q3,q4,q5,q6,q7⟩:=M.node_right a5 hs (L:=fun i=>(rs.getD i []).length) hlen
 refine Fm.start2 hk hD fun b4 b5 b8 w1 S a2 ac=>?_
 obtain⟨c1,z,f⟩:=S.call
 obtain⟨vs,j,g⟩:=(N.ext S.ext).vals
 have get:∀i,i<rs.length→SnL st (rs.getD i []):=fun i hi=>a6 _ (M.getD_mem hi [])
 simp(disch:=first|(simp only[push_cast];done)|omega) only[push_cast,a2.ld0]
 unfold M.nodeB at o
 rw[if_neg (by omega),if_neg (by omega),if_neg a1] at o
 refine zh (fun c=>?_) (fun G=>?_)
 ·rw[if_pos c] at o
  obtain⟨s,k⟩:=q7 (by omega)
  rw[if_pos c] at s
  have I:=k 0 (by omega)
  refine zr fun d a _=>?_
  have C:∀K:Value→World→Prop,zm PP yn kv (.int .i64 0) d K=K (.pointer (some (eaddr kv 1 0))) d:=fun K=>(j d a 0 (by omega) K).1
  have E:∀K:Value→World→Prop,ze PP zj (.pointer (some (eaddr kv 1 0))) d K=K (vs.getD 0 undef) d:=fun K=>(j d a 0 (by omega) K).2
  simp only[f d a,C,E,true_and]
  refine sturn7_spec (Ints.ext (g 0 (by omega)) a) (by omega) (get 0 (by omega)).sm fun Y r3 e m a4=>?_
  simp only[f Y (a.trans e),true_and,and_self]
  have z2:=a.size
  refine S.res (a.trans e) (z.ext (a.trans e) fun _ h _=>h) (Z9 m fun b hb=>by have:=a4 b hb;omega) fun R e4 l x=>o R c1 st r3 _ e4 l x (get 0 (by omega)).neg ?_
  rw[len_one I]
  exact M.Bd.Out.ret _ _
 rw[if_neg G] at o
 try simp only[push_cast]
 refine zh (fun c=>?_) (fun Z=>?_)
 ·rw[if_pos c] at o
  obtain⟨s,k⟩:=q7 (by omega)
  rw[if_neg G] at s
  have I:=k 0 (by omega)
  have a3:=k 1 (by omega)
  refine zr fun d a _=>?_
  have C:∀K:Value→World→Prop,zm PP yn kv (.int .i64 0) d K=K (.pointer (some (eaddr kv 1 0))) d:=fun K=>(j d a 0 (by omega) K).1
  have E:∀K:Value→World→Prop,ze PP zj (.pointer (some (eaddr kv 1 0))) d K=K (vs.getD 0 undef) d:=fun K=>(j d a 0 (by omega) K).2
  have T:∀K:Value→World→Prop,zm PP yn kv (.int .i64 1) d K=K (.pointer (some (eaddr kv 1 1))) d:=fun K=>(j d a 1 (by omega) K).1
  have U:∀K:Value→World→Prop,ze PP zj (.pointer (some (eaddr kv 1 1))) d K=K (vs.getD 1 undef) d:=fun K=>(j d a 1 (by omega) K).2
  have A:=Ints.ext (g 0 (by omega)) a
  have F:=Ints.ext (g 1 (by omega)) a
  simp(disch:=first|(simp only[push_cast];done)|omega) only[f d a,C,E,T,U,A.iaddr,A.load,F.iaddr,F.load,push_cast,true_and]
  have B:=S.grow a
  refine sand7_spec hn (z.ext a fun _ h _=>h) B.dl ((get 0 (by omega)).get (by omega)) ((get 1 (by omega)).get (by omega)) fun Y H y r e q v m=>?_
  simp only[push_cast,true_and]
  refine B.put e q fun R W a7 x=>?_
  try simp only[push_cast,true_and,and_self]
  obtain⟨c4,l,u⟩:=W.call
  simp only[u R (Same.refl _ _)]
  refine spec_one fun w5 rv p P O=>?_
  refine W.res p (l.ext p fun _ h _=>h) (Z9 P O) fun w6 e6 J Q=>o w6 c4 y rv [r] e6 J Q (SnL.one v) (qx m (M.Bd.Out.ret _ _))
 rw[if_neg Z] at o
 try simp only[push_cast]
 refine zh (fun c=>?_) (fun a0=>?_)
 ·rw[if_pos c] at o
  obtain⟨s,k⟩:=q7 (by omega)
  rw[if_neg G] at s
  have I:=k 0 (by omega)
  have a3:=k 1 (by omega)
  refine zr fun d a _=>?_
  have C:∀K:Value→World→Prop,zm PP yn kv (.int .i64 0) d K=K (.pointer (some (eaddr kv 1 0))) d:=fun K=>(j d a 0 (by omega) K).1
  have E:∀K:Value→World→Prop,ze PP zj (.pointer (some (eaddr kv 1 0))) d K=K (vs.getD 0 undef) d:=fun K=>(j d a 0 (by omega) K).2
  have T:∀K:Value→World→Prop,zm PP yn kv (.int .i64 1) d K=K (.pointer (some (eaddr kv 1 1))) d:=fun K=>(j d a 1 (by omega) K).1
  have U:∀K:Value→World→Prop,ze PP zj (.pointer (some (eaddr kv 1 1))) d K=K (vs.getD 1 undef) d:=fun K=>(j d a 1 (by omega) K).2
  have A:=Ints.ext (g 0 (by omega)) a
  have F:=Ints.ext (g 1 (by omega)) a
  simp(disch:=first|(simp only[push_cast];done)|omega) only[f d a,C,E,T,U,A.iaddr,A.load,F.iaddr,F.load,push_cast,true_and]
  have B:=S.grow a
  refine sor7_spec hn (z.ext a fun _ h _=>h) B.dl ((get 0 (by omega)).get (by omega)) ((get 1 (by omega)).get (by omega)) fun Y H y r e q v m=>?_
  simp only[push_cast,true_and]
  refine B.put e q fun R W a7 x=>?_
  try simp only[push_cast,true_and,and_self]
  obtain⟨c4,l,u⟩:=W.call
  simp only[u R (Same.refl _ _)]
  refine spec_one fun w5 rv p P O=>?_
  refine W.res p (l.ext p fun _ h _=>h) (Z9 P O) fun w6 e6 J Q=>o w6 c4 y rv [r] e6 J Q (SnL.one v) (M.Bd.Out.map _ m)
 have V:t.op=23:=by omega
 rw[if_neg a0,if_pos V] at o
 obtain⟨k1,l0,l1,l2,l3⟩:=q6 V
 refine zr fun d a _=>?_
 have C:∀K:Value→World→Prop,zm PP yn kv (.int .i64 0) d K=K (.pointer (some (eaddr kv 1 0))) d:=fun K=>(j d a 0 (by omega) K).1
 have E:∀K:Value→World→Prop,ze PP zj (.pointer (some (eaddr kv 1 0))) d K=K (vs.getD 0 undef) d:=fun K=>(j d a 0 (by omega) K).2
 have T:∀K:Value→World→Prop,zm PP yn kv (.int .i64 1) d K=K (.pointer (some (eaddr kv 1 1))) d:=fun K=>(j d a 1 (by omega) K).1
 have U:∀K:Value→World→Prop,ze PP zj (.pointer (some (eaddr kv 1 1))) d K=K (vs.getD 1 undef) d:=fun K=>(j d a 1 (by omega) K).2
 have A2:∀K:Value→World→Prop,zm PP yn kv (.int .i64 2) d K=K (.pointer (some (eaddr kv 1 2))) d:=fun K=>(j d a 2 (by omega) K).1
 have B2:∀K:Value→World→Prop,ze PP zj (.pointer (some (eaddr kv 1 2))) d K=K (vs.getD 2 undef) d:=fun K=>(j d a 2 (by omega) K).2
 have A:=Ints.ext (g 0 (by omega)) a
 have F:=Ints.ext (g 1 (by omega)) a
 have V2:=Ints.ext (g 2 (by omega)) a
 simp(disch:=first|(simp only[push_cast];done)|omega) only[f d a,C,E,T,U,A2,B2,A.iaddr,A.load,push_cast,true_and]
 have B:=S.grow a
 refine sifs7_spec hn (z.ext a fun _ h _=>h) B.dl F V2 (by omega) (by omega) (get 1 (by omega)) (get 2 (by omega)) ((get 0 (by omega)).get (by omega)) fun Y H y r zs e q v X a8 m=>?_
 simp only[push_cast,true_and]
 exact B.res e q (Z9 v X) fun R e4 l x=>o R H y r zs e4 l x a8 m
end Go.Proofs.YtaekfnbnhjgboaaGreatDoor
end
section
namespace Go.Proofs.YtaekfnbnhjgboaaGreatDoor
open Go Go.Vc Go.Proofs
variable {w:World} {K:Value→World→Prop} {D F Fx Fy Y S O O':Nat→Prop} {n b4 b8:Nat} {gs gs':M.Gs} {v v' nv xv yv sv dv tv kv:Value} {cs cs' ts:List Value} {st st':Option M.Gs} {a b c m x y r:Int} {xs ys:List Int} {ds:List M.Dcl} {t:M.Tm} {rs:List (List Int)}
theorem cutEq {lo hi:Nat} {kl kh:IntKind} (h:Ints F w v xs) (k:lo≤hi) (j:hi≤xs.length):∃v',(∀(w':World) (K:Value→World→Prop),yC PP zj v (some (.int kl lo)) (some (.int kh hi)) none w' K=K v' w')∧Ints F w v' ((xs.drop lo).take (hi-lo)):=by
 have d:elB PP zj 1=true:=Wy
 obtain⟨hu,hs⟩:=yy0 d
 have hlen:((xs.drop lo).take (hi-lo)).length=hi-lo:=by rw[List.length_take,List.length_drop];omega
 obtain⟨a,c,rfl,g,i,b⟩:=h.shape
 rw[List.length_map,List.length_map] at g
 refine⟨sliced a lo hi c 1,fun w' K=>yH ?_,?_⟩
 ·rw[List.length_map,List.length_map,run_sliceAt_slice w' zj _ _ _ _ hu,run_slice_lh w' zj _ _ _ hu kl kh lo hi (by omega) (by omega) (by omega),Go.Vc.run_sizeOf hs]
  simp[Result.andThen]
 ·have key:=Ints.cutLH (P:=PP) (t:=zj) (kl:=kl) (kh:=kh) (w':=w) (K:=fun v' w'=>v'=sliced a lo hi c 1→Ints F w v' ((xs.drop lo).take (hi-lo))) h d k j fun v' f _=>f
  rw[List.length_map,List.length_map] at key
  have e:yC PP zj (.slice a xs.length c) (some (.int kl lo)) (some (.int kh hi)) none w (fun v' w'=>v'=sliced a lo hi c 1→Ints F w v' ((xs.drop lo).take (hi-lo)))=(sliced a lo hi c 1=sliced a lo hi c 1→Ints F w (sliced a lo hi c 1) ((xs.drop lo).take (hi-lo))):=yH (by
   rw[run_sliceAt_slice w zj _ _ _ _ hu,run_slice_lh w zj _ _ _ hu kl kh lo hi (by omega) (by omega) (by omega),Go.Vc.run_sizeOf hs]
   simp[Result.andThen]
   rfl)
  rw[e] at key
  exact key rfl
theorem Y20 (ps:List (M.Bd (List Int))) (p:M.Bd (List Int)):M.seqB (ps++[p])=(M.seqB ps).bind fun rs=>p.map fun r=>rs++[r]:=by
 induction ps with
 |nil=>rfl
 |cons q ps a=>
  show(q.bind fun r=>(M.seqB (ps++[p])).map (r:: ·))=((q.bind fun r=>(M.seqB ps).map (r:: ·)).bind fun rs=>p.map fun r=>rs++[r])
  rw[M.Bd.bind_assoc]
  congr 1
  funext r
  rw[a]
  unfold M.Bd.map
  rw[M.Bd.bind_assoc,M.Bd.bind_assoc]
  congr 1
  funext rs
  rw[M.Bd.bind_assoc]
  rfl
theorem Xo0 {ps:List (M.Bd (List Int))} {p:M.Bd (List Int)} {st a st2:Option M.Gs} {rs:List (List Int)} {r:List Int} (h:M.Bd.Out n (M.seqB ps) st a rs) (b:M.Bd.Out n p a st2 r):M.Bd.Out n (M.seqB (ps++[p])) st st2 (rs++[r]):=by
 rw[Y20]
 exact M.Bd.Out.bind h (M.Bd.Out.map _ b)
theorem ks_few (hs:M.sortM ds t≠ -1):t.ks.length≤3:=by
 obtain⟨a,c,b⟩:=M.right_op hs
 have h:M.arity t.op≤3:=by
  unfold M.arity;repeat' split
  all_goals omega
 omega
theorem sdo8_spec (ac:M.declOk ds=true) (hn:n≤8):∀(t:M.Tm),M.sortM ds t≠ -1→∀{w:World} {K:Value→World→Prop} {D:Nat→Prop} {cs:List Value} {st:Option M.Gs} {tv:Value} {Fd Ft:Nat→Prop},MkR n D w cs st→(∀b,D b→b<w.heap.size)→DclsR Fd w dv ds→TermR Ft w tv t→
  (∀w' cs' st' r zs,Ext w w'→MkR n D w' cs' st'→Ints (New w) w' r zs→SnL st' zs→M.Bd.Out n (M.termB ds t) st st' zs→K (.tuple #[.agg ⟨cs'⟩,r]) w')→
  vcall PP Qk #[.agg ⟨cs⟩,dv,tv] w K:=by
 refine M.Tm.ind fun t ih hs w K D cs st tv Fd Ft hk hD ay ht hK=>?_
 obtain⟨kw,rfl,c2⟩:=ht
 apply kw0
 have cj:=ks_few hs
 refine Fm.start2 hk hD fun b4 b5 b8 w1 h1 aw c9=>?_
 refine qC ZX0 ZH0 fun b6 w2 cr az cy bq=>?_
 have ca:OwnV PP yn w2 (.slice (some ⟨b6,0,none⟩) 0 0) []:=Blk.own1 (P:=PP) (t:=yn) (cs:=[]) (by rw[XQ0];exact bq) (Nat.zero_le _) rfl rfl (by omega)
 have h2:Fm n D (O1 (.slice (some ⟨b6,0,none⟩) 0 0)) w b4 b8 w2 st:=h1.own (S:=fun _=>False) az (fun b l=>l) fun b l=>by
  have e:b6=b:=Option.some.inj l
  exact⟨by omega,.inr (by omega)⟩
 have cu:=aw.lt
 have bt:TmsR (Low w) w kw t.ks:=c2.weaken fun b _ hl=>hl
 refine vloop_up t.ks.length (fun i u w'=> ∃kv E vs rs,u=[kv,.int .i64 i]∧Fm n D (O1 kv) w b4 b8 w' E∧Blk w' b5 [.int .i64 t.op,.int .i64 t.a,.int .i64 t.b,.string t.s,kw] z7∧(∀b,kv.ownBlock=some b→b≠b5)∧OwnV PP yn w' kv vs∧vs.length=i∧rs.length=i∧
  (∀j,j<i→Ints (Kp b4 b8 (O1 kv)) w' (vs.getD j undef) (rs.getD j []))∧(∀r,r∈rs→SnL E r)∧M.Bd.Out n (M.seqB ((t.ks.take i).map (M.termB ds))) st E rs)
  ⟨_,st,[],[],rfl,h2,aw.ext az,fun b l=>by have e:b6=b:=Option.some.inj l;omega,ca,rfl,rfl,fun j hj=>absurd hj (by omega),(fun r hr=>by cases hr),M.Bd.Out.ret _ _⟩ ?_
 rintro i _ g w3 C hi ⟨kv,E,vs,rs,rfl,T,m,bb,ao,av,be,hint,au,ae⟩ hC
 have al:TmsR (Low w) w3 kw t.ks:=bt.ext T.ext
 simp(disch:=first|(simp only[push_cast];done)|omega) only[push_cast,m.ld4,al.len]
 refine zh (fun a=>?_) (fun a=>?_)
 ·have N:i<t.ks.length:=by omega
  refine spec_nil fun vz f bj e4 ck=>?_
  refine zr fun R p _=>?_
  have y:=e4.trans p
  have h5:=T.grow y
  have V:=m.ext y
  have ax:=al.ext y
  obtain⟨c5,z,b3⟩:=h5.call
  simp(disch:=first|(simp only[push_cast];done)|omega) only[push_cast,V.ld4,ax.iaddr,b3 R (Same.refl _ _),true_and]
  refine ax.load zu N fun x hx=>?_
  simp only[push_cast,true_and]
  have I:t.ks.getD i default∈t.ks:=M.getD_mem N _
  refine ih _ I ((M.sort_parts hs).2.1 _ I) z h5.dl (ay.ext h5.ext) hx fun w6 co bl r zs a9 A F bi ab=>?_
  simp only[push_cast,true_and]
  refine h5.put a9 A fun w7 h7 ad bk=>?_
  try simp only[push_cast,true_and,and_self]
  have l5:=h5.lt4
  have ar:Ints (Kp b4 b8 (O1 kv)) w7 r zs:=Ints.same (Ints.weaken (F':=Kp b4 b8 (O1 kv)) F fun b l _=>by
   have cq:R.heap.size≤b:=l
   exact⟨by omega,by omega,fun hO=>by have:=(h5.off b hO).1;omega⟩) ad fun b l _ e=>l.1 e
  have ap:OwnV PP yn w7 kv vs:=((ao.ext y).ext a9).same ad fun b l=>(T.off b l).2.2.1
  have br:=(V.ext a9).same ad (fun e=>c9.2.1 e)
  have am:∀j,j<i→Ints (Kp b4 b8 (O1 kv)) w7 (vs.getD j undef) (rs.getD j []):=fun j hj=>Ints.kp4 (Ints.ext (Ints.ext (hint j hj) y) a9) ad
  refine yh ZX0 ZH0 ZG0 rfl (Sl.cells1 ar) fun b9 w9 ct aa cz bs=>?_
  refine(ap.ext aa).app1 Qz0 bs (Sl.one ar) (by omega) (by omega) fun v10 bm ai a0 Y=>?_
  try simp(disch:=omega) only[push_cast,zE]
  have bp:Fm n D (O1 v10) w b4 b8 bm bl:=(h7.grow aa).own a0 (fun b l=>l) fun b l=>⟨ai.lt l,Y b l⟩
  have b2:∀{xv:Value} {xs:List Int},Ints (Kp b4 b8 (O1 kv)) w7 xv xs→Ints (Kp b4 b8 (O1 v10)) bm xv xs:=fun h=>Ints.kpO (Ints.ext h aa) a0 (fun b l=>l) fun b l=>Y b l
  have ag:=br.ext aa
  have cw:=ag.lt
  refine hC N _ _ ⟨v10,bl,vs++[r],rs++[zs],by simp,bp,ag.same a0 (fun e=>bb _ e rfl),fun b l=>(Y b l).elim (bb b) fun h=>by omega,ai,by simp[av],by simp[be],fun j hj=>?_,fun q hq=>?_,?_⟩
  ·by_cases c:j<i
   ·rw[y20 (by omega),y20 (by omega)]
    exact b2 (am j c)
   ·have:j=i:=by omega
    subst this
    rw[y30 av,y30 be]
    exact b2 ar
  ·rcases List.mem_append.1 hq with h|h
   ·exact(au q h).out ab
   ·rw[List.mem_singleton.1 h];exact bi
  ·rw[M.take_add N default,List.map_append]
   exact Xo0 ae ab
 have N:i=t.ks.length:=by omega
 subst N
 rw[List.take_length] at ae
 obtain⟨bf,cd⟩:=M.seq_reach ae.reach
 have hlen:∀j,j<t.ks.length→(rs.getD j []).length=M.lenS (M.sortM ds (M.kid t j)):=fun j hj=>by
  have I:t.ks.getD j default∈t.ks:=M.getD_mem hj _
  have:=M.term_len ac _ ((M.sort_parts hs).2.1 _ I) (cd j hj)
  rw[this];rfl
 have W:KidsS w3 kv rs:=⟨vs,_,ao.vals,by omega,fun j hj=>Ints.weaken (hint j (by omega)) fun _ _ _=>trivial⟩
 have fin:∀{af:Option M.Gs} {zs:List Int},M.Bd.Out n (M.nodeB ds t rs) E af zs→M.Bd.Out n (M.termB ds t) st af zs:=fun h=>by
  rw[M.termB_eq];exact M.Bd.Out.bind ae h
 have a6:∀w',Ext w3 w'→TermR (Low w) w' (.agg ⟨[.int .i64 t.op,.int .i64 t.a,.int .i64 t.b,.string t.s,kw]⟩) t:=fun w' he=>⟨kw,rfl,al.ext he⟩
 obtain⟨c3,O,k⟩:=T.call
 have X:∀(w':World) (K:Value→World→Prop),vbi PP .len [yn] zd [kv] w' K=K (.int .i64 t.ks.length) w':=fun w' K=>by rw[ao.vals.len Qt0,av]
 rw[X]
 simp only[push_cast]
 obtain⟨cp,hp,cx⟩:=M.right_op hs
 obtain⟨q1,q2,q3,q4,q5,q6,q7⟩:=M.node_right ac hs (L:=fun i=>(rs.getD i []).length) hlen
 have get:∀i,i<rs.length→SnL E (rs.getD i []):=fun i hi=>au _ (M.getD_mem hi [])
 refine zh (fun c0=>?_) (fun c0=>?_)
 ·have h0:t.ks.length=0:=by omega
  refine zr fun f d _=>?_
  have o:=m.ext d
  simp(disch:=first|(simp only[push_cast];done)|omega) only[push_cast,k f d,o.ldAgg (t:=z7) zu,true_and]
  refine sleaf8_spec (n:=n) (st:=E) ac hs h0 (ay.ext (T.ext.trans d)) (a6 f d) fun R r zs p B J G aq=>?_
  simp only[k R (d.trans p),true_and,and_self]
  have z4:=d.size
  refine T.res (d.trans p) (O.ext (d.trans p) fun _ h _=>h) (Z9 B fun b l=>by have:=J b l;omega) fun w6 e6 A F=>hK w6 c3 E r zs e6 A F G (fin ?_)
  have:rs=[]:=List.length_eq_zero_iff.1 (by omega)
  rw[this];exact aq
 have bc: ¬(t.op=20∨t.op=21∨t.op=24):=fun h=>by
  have:M.arity t.op=0:=by rcases h with h|h|h<;>rw[h]<;>decide
  omega
 obtain⟨H,U,Q⟩:=W.vals
 simp(disch:=first|(simp only[push_cast];done)|omega) only[push_cast,m.ld0]
 refine zh (fun c=>?_) (fun cn=>?_)
 ·obtain⟨k1,b0,ba,aL,L4⟩:=q5 c
  have cm:t.a<((rs.getD 0 []).length:Int):=aL
  have cl:(rs.getD 0 []).length≤4:=L4
  refine zr fun f d _=>?_
  have o:=m.ext d
  have A0:∀w',Ext w3 w'→∀K:Value→World→Prop,zm PP yn kv (.int .i64 0) w' K=K (.pointer (some (eaddr kv 1 0))) w':=fun w' he K=>(U w' he 0 (by omega) K).1
  have B0:∀w',Ext w3 w'→∀K:Value→World→Prop,ze PP zj (.pointer (some (eaddr kv 1 0))) w' K=K (H.getD 0 undef) w':=fun w' he K=>(U w' he 0 (by omega) K).2
  obtain⟨cv,bv,bu⟩:=cutEq (kl:= .i64) (kh:= .i64) (lo:=t.b.toNat) (hi:=(t.a+1).toNat) (Q 0 (by omega)) (by omega) (by omega)
  have ah:∀(w':World) (K:Value→World→Prop),yC PP zj (H.getD 0 undef) (some (.int .i64 t.b)) (some (.int .i64 (t.a+1))) none w' K=K cv w':=fun w' K=>by
   have:=bv w' K
   rwa[show((t.b.toNat:Nat):Int)=t.b by omega,show(((t.a+1).toNat:Nat):Int)=t.a+1 by omega] at this
  simp(disch:=first|(simp only[push_cast];done)|omega) only[push_cast,k f d,A0 f d,B0 f d,o.ld1,o.ld2,zE,ah,true_and]
  refine spec_nil fun v5 R B e5 J=>?_
  have y:=d.trans e5
  have V:=o.ext e5
  simp(disch:=first|(simp only[push_cast];done)|omega) only[push_cast,k R y,A0 R y,B0 R y,V.ld1,V.ld2,zE,ah,true_and,and_self]
  refine B.app Zu (Ints.ext bu y) (by simp;omega) (by simp;omega) fun v6 w6 ab bg c7=>?_
  have z4:=d.size;have z5:=e5.size
  have ak:Ext f w6:=Ext.then e5 bg fun b l=>J b l
  simp(disch:=first|(simp only[push_cast];done)|omega) only[push_cast,k w6 (d.trans ak),true_and,and_self]
  refine T.res (d.trans ak) (O.ext (d.trans ak) fun _ h _=>h) (Z9 ab fun b l=>(c7 b l).elim (fun h=>by have:=J b h;omega) fun h=>by omega) fun w7 e7 bx bk=>hK w7 c3 E v6 _ e7 bx bk (fun x hx=>?_) (fin ?_)
  ·rw[List.nil_append] at hx
   exact get 0 (by omega) x (List.mem_of_mem_drop (List.mem_of_mem_take hx))
  ·rw[List.nil_append]
   unfold M.nodeB
   rw[if_neg (by omega),if_neg (by omega),if_neg (by omega),if_neg (by omega),if_neg (by omega),if_neg (by omega),if_neg (by omega),if_pos c,show(t.a-t.b+1).toNat=(t.a+1).toNat-t.b.toNat by omega]
   exact M.Bd.Out.ret _ _
 try simp(disch:=first|(simp only[push_cast];done)|omega) only[push_cast,m.ld0]
 refine zh (fun c=>?_) (fun cg=>?_)
 ·simp(disch:=first|(simp only[push_cast];done)|omega) only[push_cast,k w3 (Same.refl _ _),m.ldAgg (t:=z7) zu]
  refine slogic8_spec ac hs (by omega) (fun h=>bc (.inr (.inr h))) hn O T.dl (a6 w3 (Same.refl _ _)) W bf hlen au fun f bo af r zs d bw bj bh cb=>?_
  simp only[push_cast]
  exact T.res d bw bj fun R e5 z G=>hK R bo af r zs e5 z G bh (fin cb)
 have an:M.nodeB ds t rs=if t.op≤2 then M.unB t.op (rs.getD 0 []) else if 15≤t.op∧t.op≤17 then(M.cmpB t.op (rs.getD 0 []) (rs.getD 1 [])).map fun v=>[v] else M.binB t.op (rs.getD 0 []) (rs.getD 1 []):=by
  unfold M.nodeB
  rw[if_neg (by omega),if_neg (by omega),if_neg (by omega),if_neg (by omega),if_neg (by omega),if_neg (by omega),if_neg (by omega),if_neg (by omega)]
 rw[an] at fin
 rw[X]
 simp only[push_cast]
 refine zh (fun c1=>?_) (fun c1=>?_)
 ·have Z:t.op≤2:=Classical.byContradiction fun h=>by
   by_cases aj:15≤t.op
   ·have:=(q4 aj (by omega)).1;omega
   ·by_cases bn:t.op=14
    ·have:=(q3 bn).1;omega
    ·have:=(q2 (by omega) (by omega)).1;omega
  rw[if_pos Z] at fin
  obtain⟨k1,l1,l4⟩:=q1 (by omega) Z
  have ci:(rs.getD 0 []).length≤4:=l4
  refine zr fun f d _=>?_
  have o:=m.ext d
  have A0:∀K:Value→World→Prop,zm PP yn kv (.int .i64 0) f K=K (.pointer (some (eaddr kv 1 0))) f:=fun K=>(U f d 0 (by omega) K).1
  have B0:∀K:Value→World→Prop,ze PP zj (.pointer (some (eaddr kv 1 0))) f K=K (H.getD 0 undef) f:=fun K=>(U f d 0 (by omega) K).2
  simp(disch:=first|(simp only[push_cast];done)|omega) only[push_cast,k f d,A0,B0,o.ld0,true_and]
  have h4:=T.grow d
  refine sun7_spec (by omega) hn (O.ext d fun _ h _=>h) h4.dl (Ints.ext (Q 0 (by omega)) d) (by omega) (get 0 (by omega)) fun R a8 a7 r zs p z G a5 B=>?_
  simp only[push_cast,true_and]
  exact h4.res p z G fun w6 e6 A F=>hK w6 a8 a7 r zs e6 A F a5 (fin B)
 have bd:3≤t.op:=Classical.byContradiction fun h=>by have:=(q1 (by omega) (by omega)).1;omega
 rw[if_neg (by omega)] at fin
 try simp(disch:=first|(simp only[push_cast];done)|omega) only[push_cast,m.ld0]
 refine zh (fun aj=>?_) (fun aj=>?_)
 ·rw[if_pos (by omega)] at fin
  obtain⟨k1,l0,l1,l4⟩:=q4 (by omega) (by omega)
  have cf:(rs.getD 0 []).length=(rs.getD 1 []).length:=l0
  have ch:1≤(rs.getD 0 []).length:=l1
  have ci:(rs.getD 0 []).length≤4:=l4
  refine zr fun f d _=>?_
  have o:=m.ext d
  have A0:∀K:Value→World→Prop,zm PP yn kv (.int .i64 0) f K=K (.pointer (some (eaddr kv 1 0))) f:=fun K=>(U f d 0 (by omega) K).1
  have B0:∀K:Value→World→Prop,ze PP zj (.pointer (some (eaddr kv 1 0))) f K=K (H.getD 0 undef) f:=fun K=>(U f d 0 (by omega) K).2
  have A1:∀K:Value→World→Prop,zm PP yn kv (.int .i64 1) f K=K (.pointer (some (eaddr kv 1 1))) f:=fun K=>(U f d 1 (by omega) K).1
  have B1:∀K:Value→World→Prop,ze PP zj (.pointer (some (eaddr kv 1 1))) f K=K (H.getD 1 undef) f:=fun K=>(U f d 1 (by omega) K).2
  simp(disch:=first|(simp only[push_cast];done)|omega) only[push_cast,k f d,A0,B0,A1,B1,o.ld0,true_and]
  have h4:=T.grow d
  refine scmp7_spec (by omega) (by omega) hn (O.ext d fun _ h _=>h) h4.dl (Ints.ext (Q 0 (by omega)) d) (Ints.ext (Q 1 (by omega)) d) cf ch (by omega) (get 0 (by omega)) (get 1 (by omega)) fun R a8 a7 r p z cc B=>?_
  simp only[push_cast,true_and]
  refine h4.put p z fun w6 h6 bg F=>?_
  try simp only[push_cast,true_and,and_self]
  obtain⟨c6,A,b7⟩:=h6.call
  simp only[b7 w6 (Same.refl _ _)]
  refine spec_one fun w7 rv b1 ap c8=>?_
  exact h6.res b1 (A.ext b1 fun _ h _=>h) (Z9 ap c8) fun w8 e8 bz ce=>hK w8 c6 a7 rv [r] e8 bz ce (SnL.one cc) (fin (M.Bd.Out.map _ B))
 rw[if_neg (by omega)] at fin
 have c4:t.ks.length=2∧(t.op≠14→(rs.getD 0 []).length=(rs.getD 1 []).length)∧1≤(rs.getD 0 []).length∧(rs.getD 0 []).length≤8∧(rs.getD 1 []).length≤8:=by
  by_cases c:t.op=14
  ·obtain⟨a1,a2,a3,a4⟩:=q3 c
   exact⟨a1,fun h=>absurd c h,a2,by omega,by omega⟩
  ·obtain⟨a1,a2,a3,a4⟩:=q2 (by omega) (by omega)
   exact⟨a1,fun _=>a2,a3,by omega,by omega⟩
 obtain⟨k1,l0,l1,l2,l3⟩:=c4
 refine zr fun f d _=>?_
 have o:=m.ext d
 have A0:∀K:Value→World→Prop,zm PP yn kv (.int .i64 0) f K=K (.pointer (some (eaddr kv 1 0))) f:=fun K=>(U f d 0 (by omega) K).1
 have B0:∀K:Value→World→Prop,ze PP zj (.pointer (some (eaddr kv 1 0))) f K=K (H.getD 0 undef) f:=fun K=>(U f d 0 (by omega) K).2
 have A1:∀K:Value→World→Prop,zm PP yn kv (.int .i64 1) f K=K (.pointer (some (eaddr kv 1 1))) f:=fun K=>(U f d 1 (by omega) K).1
 have B1:∀K:Value→World→Prop,ze PP zj (.pointer (some (eaddr kv 1 1))) f K=K (H.getD 1 undef) f:=fun K=>(U f d 1 (by omega) K).2
 simp(disch:=first|(simp only[push_cast];done)|omega) only[push_cast,k f d,A0,B0,A1,B1,o.ld0,true_and]
 have h4:=T.grow d
 refine sbin7_spec bd (by omega) hn (O.ext d fun _ h _=>h) h4.dl (Ints.ext (Q 0 (by omega)) d) (Ints.ext (Q 1 (by omega)) d) l0 l1 l2 l3 (get 0 (by omega)) (get 1 (by omega)) fun R a8 a7 r zs p z G a5 B=>?_
 simp only[push_cast,true_and]
 exact h4.res p z G fun w6 e6 A F=>hK w6 a8 a7 r zs e6 A F a5 (fin B)
end Go.Proofs.YtaekfnbnhjgboaaGreatDoor
end
section
namespace Go.Proofs.YtaekfnbnhjgboaaGreatDoor
open Go Go.Vc Go.Proofs
variable {w:World} {K:Value→World→Prop} {D F Fx Fy Y S O O':Nat→Prop} {n b4 b8:Nat} {gs gs':M.Gs} {v v' nv xv yv sv dv tv kv:Value} {cs cs' ts:List Value} {st st':Option M.Gs} {a b c m x y r:Int} {xs ys:List Int} {ds:List M.Dcl} {t:M.Tm} {rs:List (List Int)}
theorem bits_nat (a:M.declOk ds=true):M.bits ds=(((M.bits ds).toNat:Nat):Int)∧(M.bits ds).toNat≤8:=by
 have c:=(M.decl_iff.1 a).2.2
 have b:=(dcl_small a (i:=ds.length) (Nat.le_refl _)).1
 rw[M.bitT_all] at b
 exact⟨by omega,by omega⟩
theorem Z70 {zs:List Int} (c:M.tsort ds t≠ -1) (b:M.Bd.Out (M.bits ds).toNat (M.termB ds t) (some []) st zs):toldR (M.bits ds).toNat st zs=blastR ds t:=by
 unfold blastR
 rw[if_neg c]
 rcases b with⟨gs,a,rfl⟩|⟨a,rfl,_⟩
 ·rw[a];rfl
 ·rw[a];rfl
theorem out_lens {zs:List Int} (b:M.declOk ds=true) (hs:M.sortM ds t≠ -1) (c:M.Bd.Out n (M.termB ds t) st st' zs):zs.length=M.lenS (M.sortM ds t)∧zs.length≤4:=by
 have a:=M.term_len b t hs c.reach
 have d:=M.sort_range b t
 refine⟨a,?_⟩
 rw[a];unfold M.lenS;omega
theorem spec_Blast_spec (Y:XX0 ds) (p:DclsR Fx w dv ds) (ht:TermR Fy w tv t)
  (L:∀w' gv lv,Ext w w'→OwnG w' gv (blastR ds t).2.1→OwnI PP zj w' lv (blastR ds t).2.2→(∀b,gv.ownBlock=some b→w.heap.size≤b)→(∀b,lv.ownBlock=some b→w.heap.size≤b∧gv.ownBlock≠some b)→K (.tuple #[.agg ⟨[.int .i64 (blastR ds t).1,gv]⟩,lv]) w'):
  vcall PP Jk #[dv,tv] w K:=by
 apply jU0
 obtain⟨cs,rfl,n⟩:=ht.cells
 refine zy fun b1 w1 a4 B a7 S=>?_
 refine zz xX fun b2 w2 a5 q a8 T=>?_
 have O:=B.trans q
 have j:=S.ext q
 have u:∀w':World,Blk w' b1 cs z7→∀K:Value→World→Prop,ze PP z7 (.pointer (some ⟨b1,0,none⟩)) w' K=K (.agg ⟨cs⟩) w':=fun w' h K=>h.ldAgg (t:=z7) (by rw[yp n];exact zu)
 rw[u w2 j]
 refine spec_TermSort_spec Y (p.ext O) (n.ext O).term fun w3 f=>?_
 have P:=O.trans f
 have y:=j.ext f
 have m:=T.ext f
 have z1:=B.size;have z2:=q.size;have z3:=f.size
 simp only[push_cast]
 have a6: -1≤M.tsort ds t:=by
  unfold M.tsort;split
  ·next h=>exact(M.sort_range h.2 t).1
  ·exact Int.le_refl _
 refine zh (fun c=>?_) (fun c=>?_)
 ·have J:M.tsort ds t= -1:=by omega
  unfold blastR at L
  rw[if_pos J] at L
  rw[ja0]
  refine spec_nil fun v4 w4 X Q E=>?_
  refine net_out (m.ext Q) rfl rfl net_one fun w5 I=>?_
  have s4:=Q.size
  exact L w5 _ v4 (Ext.then (P.trans Q) I fun b a=>by omega) OwnG.nil (X.same I fun b a e=>by have:=E b a;omega) (fun b a=>by cases a) fun b a=>⟨by have:=E b a;omega,fun h=>by cases h⟩
 ·have J:M.tsort ds t≠ -1:=by omega
  obtain⟨a0,N,hs,a3⟩:=Qc J
  obtain⟨V,U⟩:=bits_nat N
  refine zr fun w4 d _=>?_
  have l:=y.ext d
  simp only[push_cast,u w4 l,true_and]
  refine sbits8_spec (k:=ds.length) N (Nat.le_refl _) (by rw[List.take_length];exact p.ext (P.trans d)) fun w5 g=>?_
  rw[M.bitT_all,V]
  have z:=l.ext g
  have R:=(P.trans d).trans g
  simp only[push_cast,u w5 z,true_and,and_self,YF0,QO0]
  refine sdo8_spec N U t hs (D:=fun _=>False) (st:=some []) ⟨none,0,0,rfl,GatesR.nil,by simp⟩ (fun b a=>a.elim) (p.ext R) (n.ext R).term fun w6 a2 aa r zs s W Z a1 F=>?_
  simp only[push_cast,true_and]
  have a9:=out_lens N hs F
  refine told7_spec W Z (by omega) fun w7 o c7 lv C G H v i=>?_
  rw[Z70 J F] at G H v i⊢
  simp only[push_cast,true_and]
  have z4:=d.size;have z5:=g.size;have z6:=s.size
  have A:=(((m.ext d).ext g).ext s).ext C
  refine net_out A rfl rfl net_one fun w8 x=>?_
  refine L w8 _ lv (Ext.then (R.trans (s.trans C)) x fun b a=>by omega) (Own.same G x fun b a e=>by have:=v b a;omega) (H.same x fun b a e=>by have:=(i b a).1;omega) (fun b a=>by have:=v b a;omega) fun b a=>⟨by have:=(i b a).1;omega,(i b a).2⟩
end Go.Proofs.YtaekfnbnhjgboaaGreatDoor
end
