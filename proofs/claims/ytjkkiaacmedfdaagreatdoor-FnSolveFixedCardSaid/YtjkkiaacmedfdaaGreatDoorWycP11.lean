import Derived.Test.YtjkkiaacmedfdaaGreatDoorWycP10
/- A part of the proof. -/
set_option linter.all false
set_option maxRecDepth 9999
set_option maxHeartbeats 2000000
noncomputable section
namespace Go.Proofs.YtjkkiaacmedfdaaGreatDoor
open Go Go.Vc Go.Proofs
section
variable {w:World} {K:oK} {D F Fx Fy Y S O:Nat->Prop} {n b4 b8:Nat} {v xv yv:Value} {cs cs':List Value} {st st':Option M.Gs} {a b c m x y r:Int} {xs ys:List Int}
theorem spec_nil (f:∀v' w',OwnI zg w' v' []->Ext w w'->(∀b,v'.ownBlock=some b->w.heap.size<=b)->K v' w'):vbuildS zg 0 [] w K:=by
 refine yj yW yL λd j h c i a=>?_;exact f _ j (Blk.own1 (t:=zg) (cs:=[]) (by rw[qt];exact a) (gQ _) rfl rfl oM) c λb g=>by have e:d=b:=gh g;omega
theorem spec_app {w0:World} {zs:List Int} {x:Int} {ty:Nat} (he:Ext w0 w) (l:OwnI zg w v zs) (i:∀b,v.ownBlock=some b->w0.heap.size<=b) (p:zs.length<=1000000)
  (j:∀v' w',OwnI zg w' v' (zs++[x])->Ext w0 w'->(∀b,v'.ownBlock=some b->w0.heap.size<=b)->K v' w'):
  vbuildS zg 1 [(0,nI x)] w λt w1=>vbi .append [zg,zg] ty [v,t] w1 K:=by
 refine zC yW yL xo rfl rfl λo q k a m c=>?_;refine(l.ext a).app1 xp c oM oM λv6 n f g e=>?_;have s:=he.size;exact j v6 n f (Ext.then (he.trans a) g λb d=>i b d) λb d=>(e b d).elim (i b) λh=>oM
theorem sturn7_spec (t:Ints Fx w xv xs) (v:xs.length<=100000) (n:SmL xs) (s:∀w' r,Ext w w'->OwnI zg w' r (M.negL xs)->(∀b,r.ownBlock=some b->w.heap.size<=b)->K r w'):vcall Wv #[xv] w K:=by
 refine zf {loops:=[(3,[3,4])]} Tryz.func162 ?_;refine spec_nil λv1 w1 m o k=>?_;refine vloop_up xs.length (λi u w'=> ∃r,u=[r,nI i]/\Ext w w'/\OwnI zg w' r (M.negL (xs.take i))/\∀b,r.ownBlock=some b->w.heap.size<=b) ⟨_,rfl,o,m,k⟩ ?_;rintro i _ g w2 C hi ⟨r,rfl,j,d,f⟩ q;have e:=Ints.ext t j;simp(disch:=exact oS) only[push_cast,e.len];refine zb (λa=>?_) (λa=>?_)
 ·have c:i<xs.length:=oM;have hs:=n.get c;unfold Sm at hs;simp(disch:=exact oS) only[push_cast,e.iaddr,e.load,zj,Gc];refine spec_app j d f (by rw[M.negL_len,gi];omega) λv3 x h p l=>?_
  try simp(disch:=omega) only[push_cast,zj]
  refine q c _ _ ⟨v3,by simp,p,?_,l⟩;rw[M.take_add c 0];unfold M.negL at h⊢;rw[gE];exact h
 ·have c:i=xs.length:=oM;subst c;rw[gF] at d;exact s w2 r j d f
theorem sfill7_spec {m:Nat} {x:Int} (s:m<=100000) (q:∀w' r,Ext w w'->OwnI zg w' r (List.replicate m x)->(∀b,r.ownBlock=some b->w.heap.size<=b)->K r w'):vcall Wz #[nI x,nI m] w K:=by
 refine zf {loops:=[(3,[5,6])]} Tryz.func167 ?_;refine spec_nil λv1 w1 j n f=>?_;refine vloop_up m (λi u w'=> ∃r,u=[r,nI i]/\Ext w w'/\OwnI zg w' r (List.replicate i x)/\∀b,r.ownBlock=some b->w.heap.size<=b) ⟨_,rfl,n,j,f⟩ ?_;rintro i _ g w2 C hi ⟨r,rfl,l,e,d⟩ p;simp only[push_cast];refine zb (λa=>?_) (λa=>?_)
 ·have c:i<m:=oM;refine spec_app l e d (by rw[gH];omega) λv3 t k o h=>?_
  try simp(disch:=omega) only[push_cast,zj]
  refine p c _ _ ⟨v3,by simp,o,?_,h⟩;rw[List.replicate_succ'];exact k
 ·have c:i=m:=oM;subst c;exact q w2 r l e d
theorem sless7_spec (X:n<=8) (hk:MkR n D w cs st) (hD:∀b,D b->b<w.heap.size) (hx:Ints Fx w xv xs) (hy:Ints Fy w yv ys) (hl:xs.length<=ys.length) (h8:xs.length<=1000) (T:SnL st xs) (U:SnL st ys)
  (hK:∀w' cs' st' r,Ext w w'->MkR n D w' cs' st'->Sn st' r->M.Bd.Out n (M.lessB xs ys (-1)) st st' r->K (.tuple #[.agg ⟨cs'⟩,nI r]) w'):
  vcall Wx #[.agg ⟨cs⟩,xv,yv] w K:=by
 refine zf {loops:=[(3,[8,9])]} Tryz.func169 ?_;refine Fm.start hk hD λb4 b8 w1 h1=>?_;have v:=Ints.under hx;have y:=Ints.under hy;refine vloop_up xs.length (λi u w'=> ∃e r,u=[nI r,nI i]/\Fm n D (λ_=>False) w b4 b8 w' e/\SnL e xs/\SnL e ys/\Sn e r/\
  ∀st2 q,M.Bd.Out n (M.lessB (xs.drop i) (ys.drop i) r) e st2 q->M.Bd.Out n (M.lessB xs ys (-1)) st st2 q) ⟨st,-1,rfl,h1,T,U,Sn.of dC dC,λ_ _ h=>h⟩ ?_
 rintro i _ g w3 C hi ⟨E,Y,rfl,H,j,c,t,f⟩ hC;have S:=Ints.ext0 v H.ext;simp(disch:=exact oS) only[push_cast,S.len];refine zb (λa2=>?_) (λa1=>?_)
 ·have k:i<xs.length:=oM;refine zd λW I _=>?_;have o:=H.grow I;have x:=Ints.ext0 v o.ext;have A:=Ints.ext0 y o.ext;obtain⟨c4,l,p⟩:=o.call;simp(disch:=exact oS) only[push_cast,x.iaddr,x.load,A.iaddr,A.load,Q1,p W (Same.refl _ _)];refine sxor7_spec X l o.dl (j.get k) (c.get oM) λw5 Z a8 d J O hd a=>?_;simp only[push_cast,Q1];refine o.put J O λw6 h6 a4 a6=>?_
  try simp only[push_cast,Q1,gm]
  refine zd λw7 L _=>?_;have F:=h6.grow L;have B:=Ints.ext0 y F.ext;obtain⟨c7,Q,s⟩:=F.call;simp(disch:=exact oS) only[push_cast,B.iaddr,B.load,Q1,s w7 (Same.refl _ _)];refine sone7_spec X Q F.dl hd ((c.out a).get oM) (t.out a) λw8 a0 V q N R hq m=>?_;simp only[push_cast,Q1];refine F.put N R λw9 h9 a5 a7=>?_
  try simp(disch:=omega) only[push_cast,zj,Q1,gm]
  refine hC k _ _ ⟨V,q,by simp<;>exact⟨rfl,rfl⟩,h9,(j.out a).out m,(c.out a).out m,hq,λst2 z ho=>f st2 z ?_⟩;rw[yQ k,yQ (show i<ys.length by omega)];exact kq a (M.Bd.Out.bind m ho)
 ·refine H.fin λW G e4 l a3=>?_;exact hK W G E Y e4 l t (f E Y (by rw[xb0 oM];exact M.Bd.Out.ret _ _))
theorem ssame7_spec (X:n<=8) (hk:MkR n D w cs st) (hD:∀b,D b->b<w.heap.size) (hx:Ints Fx w xv xs) (hy:Ints Fy w yv ys) (hl:xs.length<=ys.length) (h8:xs.length<=1000) (R:SnL st xs) (T:SnL st ys)
  (hK:∀w' cs' st' r,Ext w w'->MkR n D w' cs' st'->Sn st' r->M.Bd.Out n (M.sameB xs ys 1) st st' r->K (.tuple #[.agg ⟨cs'⟩,nI r]) w'):
  vcall Ww #[.agg ⟨cs⟩,xv,yv] w K:=by
 refine zf {loops:=[(3,[8,9])]} Tryz.func168 ?_;refine Fm.start hk hD λb4 b8 w1 h1=>?_;have v:=Ints.under hx;have S:=Ints.under hy;refine vloop_up xs.length (λi u w'=> ∃a r,u=[nI r,nI i]/\Fm n D (λ_=>False) w b4 b8 w' a/\SnL a xs/\SnL a ys/\Sn a r/\
  ∀st2 q,M.Bd.Out n (M.sameB (xs.drop i) (ys.drop i) r) a st2 q->M.Bd.Out n (M.sameB xs ys 1) st st2 q) ⟨st,1,rfl,h1,R,T,Sn.of dC dC,λ_ _ h=>h⟩ ?_
 rintro i _ g w3 C hi ⟨A,Y,rfl,E,f,j,t,e⟩ hC;have Q:=Ints.ext0 v E.ext;simp(disch:=exact oS) only[push_cast,Q.len];refine zb (λa2=>?_) (λa1=>?_)
 ·have k:i<xs.length:=oM;refine zd λV H _=>?_;have o:=E.grow H;have x:=Ints.ext0 v o.ext;have y:=Ints.ext0 S o.ext;obtain⟨c4,l,p⟩:=o.call;simp(disch:=exact oS) only[push_cast,x.iaddr,x.load,y.iaddr,y.load,Q1,p V (Same.refl _ _)];refine sxor7_spec X l o.dl (f.get k) (j.get oM) λw5 Z a8 d I L W c=>?_;simp only[push_cast,Q1];refine o.put I L λw6 F a4 a6=>?_;obtain⟨c6,N,s⟩:=F.call;have G:=W.1;unfold Sm at G;simp(disch:=omega) only[push_cast,Q1,gm,s w6 (Same.refl _ _),zj,Gc];refine sand7_spec X N F.dl (t.out c) W.neg λw8 a0 U q J O hq m=>?_;simp only[push_cast,Q1];refine F.put J O λw9 h9 a5 a7=>?_
  try simp(disch:=omega) only[push_cast,zj,Q1,gm]
  refine hC k _ _ ⟨U,q,by simp<;>exact⟨rfl,rfl⟩,h9,(f.out c).out m,(j.out c).out m,hq,λst2 z ho=>e st2 z ?_⟩;rw[yQ k,yQ (show i<ys.length by omega)];exact kq c (xz m ho)
 ·refine E.fin λV B e4 l a3=>?_;exact hK V B A Y e4 l t (e A Y (by rw[x50 oM];exact M.Bd.Out.ret _ _))
theorem sifs7_spec (hn:n<=8) (hk:MkR n D w cs st) (hD:∀b,D b->b<w.heap.size) (hx:Ints Fx w xv xs) (hy:Ints Fy w yv ys) (hl:xs.length<=ys.length) (h8:xs.length<=1000) (S:SnL st xs) (U:SnL st ys) (hc:Sn st c)
  (hK:∀w' cs' st' r zs,Ext w w'->MkR n D w' cs' st'->OwnI zg w' r zs->(∀b,r.ownBlock=some b->w.heap.size<=b)->SnL st' zs->M.Bd.Out n (M.eachB (M.muxB c) xs ys) st st' zs->K (.tuple #[.agg ⟨cs'⟩,r]) w'):
  vcall zm0 #[.agg ⟨cs⟩,nI c,xv,yv] w K:=by
 refine zf {loops:=[(3,[10,11])]} Tryz.func165 ?_;refine Fm.start hk hD λb4 b8 w1 h1=>?_;refine h1.nil λv2 w2 h2 J e2=>?_;have A:=Ints.under hx;have T:=Ints.under hy;refine vloop_up xs.length (λi u w'=> ∃a r zs,u=[r,nI i]/\Fm n D (O1 r) w b4 b8 w' a/\OwnI zg w' r zs/\zs.length=i/\SnL a zs/\SnL a xs/\SnL a ys/\Sn a c/\
  ∀st2 rs,M.Bd.Out n (M.eachB (M.muxB c) (xs.drop i) (ys.drop i)) a st2 rs->M.Bd.Out n (M.eachB (M.muxB c) xs ys) st st2 (zs++rs)) ⟨st,_,[],rfl,h2,J,rfl,SnL.nil,S,U,hc,λ_ _ h=>h⟩ ?_
 rintro i _ g w3 C hi ⟨G,Y,zs,rfl,o,z,V,F,j,k,t,f⟩ hC;have R:=Ints.ext0 A o.ext;simp(disch:=exact oS) only[push_cast,R.len];refine zb (λa1=>?_) (λa0=>?_)
 ·have l:i<xs.length:=oM;refine zd λX v _=>?_;have p:=o.grow v;have B:=Ints.ext0 A p.ext;have E:=Ints.ext0 T p.ext;obtain⟨c4,m,y⟩:=p.call;simp(disch:=exact oS) only[push_cast,B.iaddr,B.load,E.iaddr,E.load,Q1,y X (Same.refl _ _)];refine sone7_spec hn m p.dl t (j.get l) (k.get oM) λw5 Z W s x I hs d=>?_;simp only[push_cast,Q1];refine p.put x I λw6 h6 Q a2=>?_
  try simp only[push_cast,Q1,gm]
  have L:OwnI zg w6 Y zs:=((z.ext v).ext x).same Q λb q=>(o.off b q).2.2.1;refine h6.app L oM λr7 w7 h7 N e7=>?_;simp(disch:=omega) only[push_cast,zj];refine hC l _ _ ⟨W,r7,zs++[s],by simp,h7,N,by simp[V],SnL.app (F.out d) (SnL.one hs),j.out d,k.out d,t.out d,λst2 rs ho=>?_⟩;have:=f st2 (s::rs) ?_
  ·simpa using this
  rw[Q3 l (show i<ys.length by omega)];exact M.Bd.Out.bind d (M.Bd.Out.map _ ho)
 ·have:=f G [] (by rw[Yh oM];exact M.Bd.Out.ret _ _);rw[gK] at this;refine o.fin λX H e4 m O=>?_;exact hK X H G Y zs e4 m (z.same O λb q e=>(o.off b q).2.2.2 e) (λb q=>(o.off b q).2.1) F this
def kY (op:Int):Int->Int->M.Bd Int:=if op=3 then λa b=> .and a b .ret else if op=4 then M.orB else λa b=> .xor a b .ret
theorem splain7_spec {op:Int} (hn:n<=8) (hk:MkR n D w cs st) (hD:∀b,D b->b<w.heap.size) (hx:Ints Fx w xv xs) (hy:Ints Fy w yv ys) (hl:xs.length<=ys.length) (h8:xs.length<=1000) (a4:SnL st xs) (a5:SnL st ys)
  (hK:∀w' cs' st' r zs,Ext w w'->MkR n D w' cs' st'->OwnI zg w' r zs->(∀b,r.ownBlock=some b->w.heap.size<=b)->SnL st' zs->M.Bd.Out n (M.eachB (kY op) xs ys) st st' zs->K (.tuple #[.agg ⟨cs'⟩,r]) w'):
  vcall V4 #[.agg ⟨cs⟩,nI op,xv,yv] w K:=by
 refine zf {loops:=[(3,[10,11])]} Tryz.func173 ?_;refine Fm.start hk hD λb4 b8 w1 h1=>?_;refine h1.nil λv2 w2 h2 a1 e2=>?_;have H:=Ints.under hx;have N:=Ints.under hy;refine vloop_up xs.length (λi u w'=> ∃B r zs,u=[r,nI i]/\Fm n D (O1 r) w b4 b8 w' B/\OwnI zg w' r zs/\zs.length=i/\SnL B zs/\SnL B xs/\SnL B ys/\
  ∀st2 rs,M.Bd.Out n (M.eachB (kY op) (xs.drop i) (ys.drop i)) B st2 rs->M.Bd.Out n (M.eachB (kY op) xs ys) st st2 (zs++rs)) ⟨st,_,[],rfl,h2,a1,rfl,SnL.nil,a4,a5,λ_ _ h=>h⟩ ?_
 rintro i _ g w3 C hi ⟨Q,r3,zs,rfl,E,G,O,I,f,j,J⟩ hC;have a3:=Ints.ext0 H E.ext;simp(disch:=exact oS) only[push_cast,a3.len];refine zb (λa7=>?_) (λa6=>?_)
 ·have t:i<xs.length:=oM;have L:∀d s,M.Bd.Out n (kY op (xs.getD i 0) (ys.getD i 0)) Q d s->∀st2 rs,M.Bd.Out n (M.eachB (kY op) (xs.drop (i+1)) (ys.drop (i+1))) d st2 rs->M.Bd.Out n (M.eachB (kY op) xs ys) st st2 ((zs++[s])++rs):=λd s c st2 rs ho=>by
   have:=J st2 (s::rs) ?_
   ·simpa using this
   rw[Q3 t (show i<ys.length by omega)];exact M.Bd.Out.bind c (M.Bd.Out.map _ ho)
  try simp only[push_cast]
  refine zb (λc3=>?_) (λc3=>?_)
  ·have W:kY op=(λa b=> .and a b .ret):=by unfold kY;rw[K3 c3]
   refine zd λR l _=>?_;have k:=E.grow l;have p:=Ints.ext0 H k.ext;have q:=Ints.ext0 N k.ext;obtain⟨S,v,o⟩:=k.call;simp(disch:=exact oS) only[push_cast,p.iaddr,p.load,q.iaddr,q.load,Q1,o R (Same.refl _ _)];refine sand7_spec hn v k.dl (f.get t) (j.get oM) λw5 T d s m x hs c=>?_;simp only[push_cast,Q1];refine k.put m x λZ U A X=>?_
   try simp only[push_cast,Q1,gm]
   have y:OwnI zg Z r3 zs:=((G.ext l).ext m).same A λb F=>(E.off b F).2.2.1;refine U.app y oM λY w7 V z e7=>?_;simp(disch:=omega) only[push_cast,zj];exact hC t _ _ ⟨d,Y,zs++[s],by simp,V,z,by simp[O],SnL.app (I.out c) (SnL.one hs),f.out c,j.out c,L d s (by rw[W];exact c)⟩
  try simp only[push_cast]
  refine zb (λS=>?_) (λS=>?_)
  ·have W:kY op=M.orB:=by unfold kY;rw[q0 c3,K3 S]
   refine zd λR l _=>?_;have k:=E.grow l;have p:=Ints.ext0 H k.ext;have q:=Ints.ext0 N k.ext;obtain⟨S,v,o⟩:=k.call;simp(disch:=exact oS) only[push_cast,p.iaddr,p.load,q.iaddr,q.load,Q1,o R (Same.refl _ _)];refine sor7_spec hn v k.dl (f.get t) (j.get oM) λw5 T d s m x hs c=>?_;simp only[push_cast,Q1];refine k.put m x λZ U A X=>?_
   try simp only[push_cast,Q1,gm]
   have y:OwnI zg Z r3 zs:=((G.ext l).ext m).same A λb F=>(E.off b F).2.2.1;refine U.app y oM λY w7 V z e7=>?_;simp(disch:=omega) only[push_cast,zj];exact hC t _ _ ⟨d,Y,zs++[s],by simp,V,z,by simp[O],SnL.app (I.out c) (SnL.one hs),f.out c,j.out c,L d s (by rw[W];exact c)⟩
  have W:kY op=(λa b=> .xor a b .ret):=by unfold kY;rw[q0 c3,q0 S]
  refine zd λR l _=>?_;have k:=E.grow l;have p:=Ints.ext0 H k.ext;have q:=Ints.ext0 N k.ext;obtain⟨S,v,o⟩:=k.call;simp(disch:=exact oS) only[push_cast,p.iaddr,p.load,q.iaddr,q.load,Q1,o R (Same.refl _ _)];refine sxor7_spec hn v k.dl (f.get t) (j.get oM) λw5 T d s m x hs c=>?_;simp only[push_cast,Q1];refine k.put m x λZ U A X=>?_
  try simp only[push_cast,Q1,gm]
  have y:OwnI zg Z r3 zs:=((G.ext l).ext m).same A λb F=>(E.off b F).2.2.1;refine U.app y oM λY w7 V z e7=>?_;simp(disch:=omega) only[push_cast,zj];exact hC t _ _ ⟨d,Y,zs++[s],by simp,V,z,by simp[O],SnL.app (I.out c) (SnL.one hs),f.out c,j.out c,L d s (by rw[W];exact c)⟩
 ·have:=J Q [] (by rw[Yh oM];exact M.Bd.Out.ret _ _);rw[gK] at this;refine E.fin λR a0 e4 v a2=>?_;exact hK R a0 Q r3 zs e4 v (G.same a2 λb F e=>(E.off b F).2.2.2 e) (λb F=>(E.off b F).2.1) I this
end
section
variable {w:World} {K:oK} {D F Fx Fy Y S O O':Nat->Prop} {n b4 b8:Nat} {v v' nv xv yv sv:Value} {cs cs':List Value} {st st':Option M.Gs} {a b c m x y r:Int} {xs ys:List Int}
abbrev Kp (b4 b8:Nat) (O:Nat->Prop):Nat->Prop:=λb=>b≠b4/\b≠b8/\¬O b
section
variable {w0 w':World}
theorem Ints.kp4 (h:Ints (Kp b4 b8 O) w xv xs) (hs:Same (· =b4) w w'):Ints (Kp b4 b8 O) w' xv xs:=Ints.same h hs λb a _ e=>a.1 e
theorem Ints.kpO (h:Ints (Kp b4 b8 O) w xv xs) (hs:Same S w w') (d:∀b,S b->O b) (hO:∀b,O' b->O b\/w.heap.size<=b):Ints (Kp b4 b8 O') w' xv xs:=by
 have c:Ints (λb=>Kp b4 b8 O b/\b<w.heap.size) w xv xs:=Ints.weaken h λb a f=>⟨a,f⟩;exact Ints.weaken (Ints.same c hs λb a _ e=>a.1.2.2 (d b e)) λb a _=>⟨a.1.1,a.1.2.1,λg=>(hO b g).elim a.1.2.2 λh=>by have:=a.2;omega⟩
theorem Fm.new {zs:List Int} (h:Fm n D O w0 b4 b8 w st) (d:OwnI zg w' v zs) (c:∀b,v.ownBlock=some b->w.heap.size<=b):Ints (Kp b4 b8 O) w' v zs:=Ints.weaken d.ints λb a _=>by
 have e:=c b a;have f:=h.lt4;exact⟨oM,oM,λhO=>by have:=(h.off b hO).1;omega⟩
theorem Fm.app' {zs:List Int} {x:Int} {ty:Nat} (h:Fm n D (O1 v) w0 b4 b8 w st) (l:OwnI zg w v zs) (r:zs.length<=1000000)
  (j:∀v' w',Fm n D (O1 v') w0 b4 b8 w' st->OwnI zg w' v' (zs++[x])->(∀xv xs,Ints (Kp b4 b8 (O1 v)) w xv xs->Ints (Kp b4 b8 (O1 v')) w' xv xs)->K v' w'):
  vbuildS zg 1 [(0,nI x)] w λt w1=>vbi .append [zg,zg] ty [v,t] w1 K:=by
 refine zC yW yL xo rfl rfl λq s k c o g=>?_;refine(l.ext c).app1 xp g oM oM λv6 p e f d=>?_;have i:=(h.grow c).own (O':=O1 v6) f (λb a=>a) λb a=>⟨e.lt a,d b a⟩;exact j v6 p i e λxv xs m=>Ints.kpO (Ints.ext m c) f (λb a=>a) λb a=>d b a
theorem Fm.take {zs:List Int} (h:Fm n D (λ_=>False) w0 b4 b8 w st) (he:Ext w w') (d:OwnI zg w' v zs) (c:∀b,v.ownBlock=some b->w.heap.size<=b):Fm n D (O1 v) w0 b4 b8 w' st:=
 h.own (S:=λ_=>False) he (λb a=>a) λb a=>⟨d.lt a,.inr (c b a)⟩
theorem Fm.drop (h:Fm n D O w0 b4 b8 w st):Fm n D (λ_=>False) w0 b4 b8 w st:=h.own (S:=λ_=>False) (Same.refl _ _) (λb a=>a.elim) λb a=>a.elim
end
theorem smul7_spec (hn:n<=8) (hk:MkR n D w cs st) (hD:∀b,D b->b<w.heap.size) (hx:Ints Fx w xv xs) (hy:Ints Fy w yv ys) (hl:xs.length=ys.length) (h8:xs.length<=900) (ap:SnL st xs) (ar:SnL st ys)
  (hK:∀w' cs' st' r zs,Ext w w'->MkR n D w' cs' st'->Ints (λb=>w.heap.size<=b) w' r zs->SnL st' zs->M.Bd.Out n (M.mulB xs ys 0 (M.offsL xs.length)) st st' zs->K (.tuple #[.agg ⟨cs'⟩,r]) w'):
  vcall zl0 #[.agg ⟨cs⟩,xv,yv] w K:=by
 refine zf {loops:=[(3,[8,9]),(7,[10,11])]} Tryz.func170 ?_;refine Fm.start hk hD λb4 b8 w1 S=>?_;have Q:=Ints.under hx;have a4:=Ints.under hy;have an:=Ints.ext0 Q S.ext;simp(disch:=exact oS) only[push_cast,an.len];refine sfill7_spec oM λw2 aa ae am ag=>?_;have lo:=S.lo;have s1:=S.ext.size;have a8:Ints (λb=>Kp b4 b8 (λ_=>False) b/\w.heap.size<=b) w2 aa (M.offsL xs.length):=Ints.weaken am.ints λb a _=>by
  have b0:=ag b a;have h2:=S.lt4;exact⟨⟨oM,oM,id⟩,oM⟩
 refine vloop_up ys.length (λi u w'=> ∃v sv s,u=[sv,nI i]/\Fm n D (λ_=>False) w b4 b8 w' v/\Ints (λb=>Kp b4 b8 (λ_=>False) b/\w.heap.size<=b) w' sv s/\s.length=xs.length/\SnL v s/\SnL v xs/\SnL v ys/\
  ∀st2 res,M.Bd.Out n (M.mulB xs (ys.drop i) i s) v st2 res->M.Bd.Out n (M.mulB xs ys 0 (M.offsL xs.length)) st st2 res) ⟨st,aa,_,rfl,S.grow ae,a8,M.offsL_len _,SnL.fill _,ap,ar,λ_ _ h=>h⟩ ?_
 rintro i _ g w3 C hi ⟨y,sv,s,rfl,h3,Z,b5,B,a3,a6,A⟩ hC;have aq:=Ints.ext0 a4 h3.ext;simp(disch:=exact oS) only[push_cast,aq.len];refine zb (λb3=>?_) (λb1=>?_)
 ·have H:i<ys.length:=oM;refine sfill7_spec oM λw4 rv U X W=>?_;have h4:=h3.take U X W;have N:Ints (Kp b4 b8 (O1 rv)) w4 sv s:=Ints.kpO (O:=λ_=>False) (Ints.weaken Z λb a _=>a.1) U (λb a=>a.elim) λb a=> .inr (W b a);have az:(xs.take (xs.length-i)).length=xs.length-i:=by rw[gi];omega
  refine vloop_up (xs.length-i) (λj u w'=> ∃c rv zs,u=[rv,nI ((i+j:Nat):Int)]/\Fm n D (O1 rv) w b4 b8 w' c/\OwnI zg w' rv (M.offsL i++zs)/\zs.length=j/\Ints (Kp b4 b8 (O1 rv)) w' sv s/\SnL c zs/\SnL c s/\SnL c xs/\SnL c ys/\
   ∀st2 rs,M.Bd.Out n (M.rowB (ys.getD i 0) ((xs.take (xs.length-i)).drop j)) c st2 rs->M.Bd.Out n (M.rowB (ys.getD i 0) (xs.take (xs.length-i))) y st2 (zs++rs)) ⟨y,rv,[],rfl,h4,by rw[gK];exact X,rfl,N,SnL.nil,B,a3,a6,λ_ _ h=>h⟩ ?_
  rintro j _ g5 w5 C5 hj ⟨c,a9,zs,rfl,z,Y,av,a0,a7,E,q,t,o⟩ ad;have ao:=Ints.ext0 Q z.ext;simp(disch:=exact oS) only[push_cast,ao.len];refine zb (λay=>?_) (λax=>?_)
  ·have V:j<xs.length-i:=oM;refine zd λw6 G _=>?_;have T:=z.grow G;have a2:=Ints.ext0 Q T.ext;have a5:=Ints.ext0 a4 T.ext;obtain⟨c6,I,m⟩:=T.call;have ei:((i:Int)+j)-i=(j:Int):=oM;simp(disch:=exact oS) only[push_cast,zj,ei,a2.iaddr,a2.load,a5.iaddr,a5.load,Q1,m w6 (Same.refl _ _)];refine sand7_spec hn I T.dl (q.get oM) (t.get H) λw7 ac R d l J hd f=>?_;simp only[push_cast,Q1];refine T.put l J λw8 F x au=>?_
   try simp only[push_cast,Q1,gm]
   have ak:OwnI zg w8 a9 (M.offsL i++zs):=((Y.ext G).ext l).same x λb a=>(z.off b a).2.2.1;have a1:Ints (Kp b4 b8 (O1 a9)) w8 sv s:=Ints.kp4 (Ints.ext (Ints.ext a0 G) l) x;refine F.app' ak (by rw[gg,M.offsL_len];omega) λaw w9 h9 al L=>?_
   try simp(disch:=omega) only[push_cast,zj]
   refine ad V _ _ ⟨R,aw,zs++[d],by simp<;>omega,h9,by rw[<-Gj];exact al,by simp[av],L _ _ a1,SnL.app (a7.out f) (SnL.one hd),E.out f,q.out f,t.out f,λst2 rs ho=>?_⟩;have:=o st2 (d::rs) ?_
   ·simpa using this
   rw[qC0 oM,XA V];exact xz f (M.Bd.Out.map _ ho)
  ·have b2:j=xs.length-i:=oM;have p:=o c [] (by rw[x60 oM];exact M.Bd.Out.ret _ _);rw[gK] at p;obtain⟨c6,I,m⟩:=z.call;simp only[m w5 (Same.refl _ _)];refine sadd7_spec hn I z.dl a0 Y.ints (by rw[gg,M.offsL_len];omega) oM E (SnL.app (SnL.fill i) a7) (Sn.of dC dC) λw7 ac R nv ns l J f ah aj k=>?_;simp only[push_cast,Q1];refine z.put l J λw8 F x au=>?_
   try simp(disch:=omega) only[push_cast,zj]
   have ai:ns.length=xs.length:=by
    have:=M.sum_len k.reach;rw[gg,M.offsL_len] at this;omega
   have l5:=z.lt4;have s5:=z.ext.size;refine hC H _ _ ⟨R,nv,ns,by simp,F.drop,Ints.same (Ints.weaken (F':=λb=>Kp b4 b8 (λ_=>False) b/\w.heap.size<=b) f.ints λb a _=>by have:=ah b a;exact⟨⟨oM,oM,id⟩,oM⟩) x (λb a _ e=>a.1.1 e),ai,aj,q.out k,t.out k,λst2 res ho=>A st2 res ?_⟩;rw[yQ H];exact M.Bd.Out.bind p (M.Bd.Out.bind k ho)
 ·refine h3.fin λw4 ab e4 af N=>?_;exact hK w4 ab y sv s e4 af (Ints.weaken (Ints.same Z N λb a _ e=>a.1.2.1 e) λb a _=>a.2) B (A y s (by rw[x90 oM];exact M.Bd.Out.ret _ _))
theorem sfrom7_spec {op fill:Int} {j b:Nat} (hs:Ints Fx w sv xs) (f:j<xs.length) (h:xs.length<=1000) (g:b<=1000) (a:K (nI (M.fromL (decide (op=11)) fill xs b j)) w):
  vcall Wy #[nI op,sv,nI j,nI b,nI fill] w K:=by
 refine zf {} Tryz.func207 ?_;obtain⟨f1,f2,f3⟩:=from_at (up:=decide (op=11)) (fill:=fill) (s:=xs) (b:=b) f;simp(disch:=omega) only[push_cast,zj];refine zb (λc=>?_) (λc=>?_)
 ·rw[gn c] at f1 f2 f3 a;simp only[if_true] at f1 f2 f3;rw[show(j:Int)-b=j+ -(b:Int) by omega]
  try simp(disch:=omega) only[push_cast,zj]
  refine zb (λd=>?_) (λd=>?_)
  ·rw[f2 d] at a;exact a
  try simp(disch:=exact oS) only[push_cast,hs.len]
  refine zb (λe=>?_) (λe=>?_)
  ·rw[f3 e] at a;exact a
  simp(disch:=exact oS) only[push_cast,hs.iaddr,hs.load];rw[f1 oM oM] at a;exact a
 ·rw[gk c] at f1 f2 f3 a;simp only[Ge,if_false] at f1 f2 f3;refine zb (λd=>absurd d oM) (λd=>?_)
  try simp(disch:=exact oS) only[push_cast,hs.len]
  refine zb (λe=>?_) (λe=>?_)
  ·rw[f3 e] at a;exact a
  simp(disch:=exact oS) only[push_cast,hs.iaddr,hs.load];rw[f1 oM oM] at a;exact a
theorem from_sn {up:Bool} {fill:Int} {s:List Int} {b k:Nat} (a:Sn st fill) (hs:SnL st s) (c:k<s.length):Sn st (M.fromL up fill s b k):=by
 unfold M.fromL
 repeat' split
 all_goals first|exact a|exact hs.get oM
theorem sshift7_spec {op:Int} (hn:n<=8) (hk:MkR n D w cs st) (hD:∀b,D b->b<w.heap.size) (hx:Ints Fx w xv xs) (hy:Ints Fy w yv ys) (h1:1<=xs.length) (h8:xs.length<=1000) (b6:ys.length<=8) (a7:SnL st xs) (au:SnL st ys)
  (hK:∀w' cs' st' r zs,Ext w w'->MkR n D w' cs' st'->Ints (λb=>w.heap.size<=b) w' r zs->SnL st' zs->M.Bd.Out n (M.shiftB (decide (op=11)) (if op=13 then xs.getD (xs.length-1) 0 else-1) ys 0 xs) st st' zs->K (.tuple #[.agg ⟨cs'⟩,r]) w'):
  vcall V3 #[.agg ⟨cs⟩,nI op,xv,yv] w K:=by
 refine zf {loops:=[(6,[10,12]),(10,[13,14])],cuts:=[(16389,[11])]} Tryz.func172 ?_;refine Fm.start hk hD λb4 b8 w1 p=>?_;have a6:=Ints.under hx;have a8:=Ints.under hy;have lo:=p.lo;have s1:=p.ext.size;refine spec_nil λv2 w2 ao e2 X=>?_;refine ao.app xp (Ints.ext0 a6 (p.ext.trans e2)) (by simp;omega) (by simp;omega) λv3 w3 ap aq an=>?_;have l1:=p.lt4;have z2:=e2.size;have ae:Ext w1 w3:=Ext.then e2 aq λb f=>X b f;have Z:∀b,v3.ownBlock=some b->w1.heap.size<=b:=λb f=>(an b f).elim (X b) λh=>oM
 have h3:=p.grow ae;have ab:Ints (λb=>Kp b4 b8 (λ_=>False) b/\w.heap.size<=b) w3 v3 xs:=Ints.weaken ap.ints λb f _=>by
  have:=Z b f;exact⟨⟨oM,oM,id⟩,oM⟩
 have aj:Sn st (if op=13 then xs.getD (xs.length-1) 0 else-1):=by
  split
  ·exact a7.get oM
  ·exact Sn.of dC dC
 refine zo (λu w'=>u=[nI (if op=13 then xs.getD (xs.length-1) 0 else-1)]/\w'=w3) ?_ ?_
 ·intro J hJ;have U:=Ints.ext0 a6 h3.ext;simp only[push_cast];refine zb (λc=>?_) (λc=>?_)
  ·rw[K3 c] at hJ;simp(disch:=exact oS) only[push_cast,U.len,zj];rw[show((xs.length:Int)-1)=((xs.length-1:Nat):Int) by omega];rw[U.iaddr Q4 oM oM,gw,U.load Wo oM];exact hJ _ _ ⟨rfl,rfl⟩
  ·rw[q0 c] at hJ;exact hJ _ _ ⟨rfl,rfl⟩
 rintro _ _ w4 ⟨rfl,rfl⟩;generalize (if op=13 then xs.getD (xs.length-1) 0 else-1)=fill at*;refine vloop_up ys.length (λi u w'=> ∃z sv s,u=[sv,nI i]/\Fm n D (λ_=>False) w b4 b8 w' z/\Ints (λb=>Kp b4 b8 (λ_=>False) b/\w.heap.size<=b) w' sv s/\s.length=xs.length/\SnL z s/\SnL z ys/\Sn z fill/\
  ∀st2 res,M.Bd.Out n (M.shiftB (decide (op=11)) fill (ys.drop i) i s) z st2 res->M.Bd.Out n (M.shiftB (decide (op=11)) fill ys 0 xs) st st2 res) ⟨st,v3,_,rfl,h3,ab,rfl,a7,au,aj,λ_ _ h=>h⟩ ?_
 rintro i _ g w5 C hi ⟨E,sv,s,rfl,h5,a4,b5,H,a9,ai,F⟩ hC;have ar:=Ints.ext0 a8 h5.ext;simp(disch:=exact oS) only[push_cast,ar.len];refine zb (λb3=>?_) (λb1=>?_)
 ·have Q:i<ys.length:=oM;have hp:=pow_le4 (i:=i) oM;obtain⟨B,hB⟩:∃B,2^i=B:=⟨_,rfl⟩;refine spec_nil λrv w6 a2 W Y=>?_;have h6:=h5.take W a2 Y;have T:Ints (Kp b4 b8 (O1 rv)) w6 sv s:=Ints.kpO (O:=λ_=>False) (Ints.weaken a4 λb f _=>f.1) W (λb f=>f.elim) λb f=> .inr (Y b f);refine vloop_up s.length (λj u w'=> ∃k rv zs,u=[rv,nI j]/\Fm n D (O1 rv) w b4 b8 w' k/\OwnI zg w' rv zs/\zs.length=j/\Ints (Kp b4 b8 (O1 rv)) w' sv s/\SnL k zs/\SnL k s/\SnL k ys/\Sn k fill/\
   ∀st2 rs,M.Bd.Out n (M.eachB (M.muxB (ys.getD i 0)) (((List.range s.length).map (M.fromL (decide (op=11)) fill s B)).drop j) (s.drop j)) k st2 rs->M.Bd.Out n (M.eachB (M.muxB (ys.getD i 0)) ((List.range s.length).map (M.fromL (decide (op=11)) fill s B)) s) E st2 (zs++rs)) ⟨E,rv,[],rfl,h6,a2,rfl,T,SnL.nil,H,a9,ai,λ_ _ h=>h⟩ ?_
  rintro j _ g7 w7 C7 hj ⟨k,V,zs,rfl,h7,a3,av,a5,aa,x,y,N,v⟩ ah;simp(disch:=exact oS) only[push_cast,a5.len];refine zb (λay=>?_) (λax=>?_)
  ·have m:j<s.length:=oM;refine zd λw8 I _=>?_;have A:=h7.grow I;have l:=Ints.ext a5 I;have a:=Ints.ext0 a8 A.ext;obtain⟨c8,al,q⟩:=A.call;simp(disch:=exact oS) only[push_cast,l.iaddr,l.load,a.iaddr,a.load,Q1,q w8 (Same.refl _ _)];refine l1Two_nat oM ?_;rw[hB];simp(disch:=exact oS) only[push_cast,l.iaddr,l.load,a.iaddr,a.load,Q1,gm,q w8 (Same.refl _ _)];refine sfrom7_spec l m oM oM ?_;simp(disch:=exact oS) only[push_cast,l.iaddr,l.load,a.iaddr,a.load,Q1,gm,q w8 (Same.refl _ _)];refine sone7_spec hn al A.dl (y.get Q) (from_sn N x m) (x.get m) λw9 b0 aw d L am hd t=>?_;simp only[push_cast,Q1];refine A.put L am λw10 af G az=>?_
   try simp only[push_cast,Q1,gm]
   have a0:OwnI zg w10 V zs:=((a3.ext I).ext L).same G λb f=>(h7.off b f).2.2.1;have S:Ints (Kp b4 b8 (O1 V)) w10 sv s:=Ints.kp4 (Ints.ext l L) G;refine af.app' a0 oM λac b7 ag a1 R=>?_
   try simp(disch:=omega) only[push_cast,zj]
   refine ah m _ _ ⟨aw,ac,zs++[d],by simp,ag,a1,by simp[av],R _ _ S,SnL.app (aa.out t) (SnL.one hd),x.out t,y.out t,N.out t,λst2 rs ho=>?_⟩;have:=v st2 (d::rs) ?_
   ·simpa using this
   rw[Q3 (by simpa using m) m,JT m];exact M.Bd.Out.bind t (M.Bd.Out.map _ ho)
  ·have b2:j=s.length:=oM;have o:=v k [] (by rw[Yh (by simp;omega)];exact M.Bd.Out.ret _ _);rw[gK] at o
   try simp(disch:=omega) only[push_cast,zj]
   refine hC Q _ _ ⟨k,V,zs,by simp,h7.drop,Ints.weaken a3.ints (λb f _=>by have h9:=h7.off b f;exact⟨⟨h9.2.2.1,h9.2.2.2,id⟩,h9.2.1⟩),oM,aa,y,N,λst2 res ho=>F st2 res ?_⟩;rw[yQ Q];rw[<-hB] at o;exact M.Bd.Out.bind o ho
 ·refine h5.fin λw6 ad e6 ak T=>?_;exact hK w6 ad E sv s e6 ak (Ints.weaken (Ints.same a4 T λb f _ e=>f.1.2.1 e) λb f _=>f.2) H (F E s (by rw[za0 oM];exact M.Bd.Out.ret _ _))
end
section
variable {w:World} {K:oK} {D F Fx Fy Y S O:Nat->Prop} {n b4 b8:Nat} {v nv xv yv:Value} {cs cs':List Value} {st st':Option M.Gs} {a b c m x y r:Int} {xs ys:List Int}
theorem SnL.set {xs:List Int} (h:SnL st xs) {i:Nat} {x:Int} (b:Sn st x):SnL st (xs.set i x):=λy c=>by
 rcases Pc c with a|a
 ·exact h y a
 ·rw[a];exact b
theorem SnL.take (h:SnL st xs) (m:Nat):SnL st (xs.take m):=λx a=>h x (gS a)
theorem sdiv7_spec (hn:n<=8) (hk:MkR n D w cs st) (hD:∀b,D b->b<w.heap.size) (hx:Ints Fx w xv xs) (hy:Ints Fy w yv ys) (hl:xs.length=ys.length) (h8:xs.length<=900) (cq:SnL st xs) (ct:SnL st ys)
  (hK:∀w' cs' st' qv rv q r,Ext w w'->MkR n D w' cs' st'->Ints (λb=>w.heap.size<=b) w' qv q->Ints (λb=>w.heap.size<=b) w' rv r->SnL st' q->SnL st' r->M.Bd.Out n (M.divB xs (ys++[-1]) xs.length (M.offsL xs.length) (M.offsL xs.length)) st st' (q,r)->K (.tuple #[.agg ⟨cs'⟩,qv,rv]) w'):
  vcall zn0 #[.agg ⟨cs⟩,xv,yv] w K:=by
 refine zf {loops:=[(6,[10,13])]} Tryz.func171 ?_;refine Fm.start hk hD λb4 b8 w1 h1=>?_;have bj:=Ints.under hx;have cr:=Ints.under hy;have lo:=h1.lo;have s1:=h1.ext.size;have l1:=h1.lt4;have cp:=Ints.ext0 bj h1.ext;simp(disch:=exact oS) only[push_cast,cp.len];refine sfill7_spec oM λw2 bm a5 b7 az=>?_;refine sfill7_spec oM λw3 qv Q ab U=>?_;refine spec_nil λv4 w4 cc e4 ay=>?_;refine cc.app xp (Ints.ext0 cr (h1.ext.trans (a5.trans (Q.trans e4)))) (by simp;omega) (by simp;omega) λv5 w5 cd bb c9=>?_;have z2:=a5.size;have z3:=Q.size;have z4:=e4.size;have z5:=bb.size;have cm:∀b,v5.ownBlock=some b->w3.heap.size<=b:=λb a=>(c9 b a).elim (ay b) λh=>oM
 have bs:Ext w3 w5:=Ext.then e4 bb λb a=>ay b a;refine spec_app (w0:=w3) bs cd cm (by simp;omega) λwv w6 bi a2 b0=>?_;rw[Gq] at bi;simp(disch:=omega) only[push_cast,zj];have ce:=ab.ext a2;have h2:=h1.grow a5;have h3:=h2.take Q ab U;have h6:Fm n D (O1 qv) w b4 b8 w6 st:=h3.grow a2;have bz:Ints (λb=>Kp b4 b8 (O1 qv) b/\w.heap.size<=b) w6 bm (M.offsL xs.length):=Ints.weaken (b7.ext (Q.trans a2)).ints λb a _=>by
  have bw:=az b a;have c6:=b7.lt a;exact⟨⟨oM,oM,λhq=>by have:=U b hq;omega⟩,oM⟩
 have c3:Ints (Kp b4 b8 (O1 qv)) w6 wv (ys++[-1]):=Ints.weaken bi.ints λb a _=>by
  have bw:=b0 b a;exact⟨oM,oM,λhq=>by have:=ab.lt hq;omega⟩
 have dd:(ys++[(-1:Int)]).length=xs.length+1:=by rw[gg,hl];rfl
 have co:SnL st (ys++[(-1:Int)]):=ct.app (SnL.one (Sn.of dC dC));generalize ys++[(-1:Int)]=wide at*;refine j4 (λm u w'=> ∃B rv r q,u=[rv,nI ((m:Int)-1)]/\m<=xs.length/\Fm n D (O1 qv) w b4 b8 w' B/\Ints (λb=>Kp b4 b8 (O1 qv) b/\w.heap.size<=b) w' rv r/\r.length=xs.length/\SnL B r/\OwnI zg w' qv q/\q.length=xs.length/\SnL B q/\Ints (Kp b4 b8 (O1 qv)) w' wv wide/\SnL B wide/\SnL B xs/\
  ∀st2 res,M.Bd.Out n (M.divB xs wide m r q) B st2 res->M.Bd.Out n (M.divB xs wide xs.length (M.offsL xs.length) (M.offsL xs.length)) st st2 res) xs.length
  ⟨st,bm,_,_,rfl,gB _,h6,bz,M.offsL_len _,SnL.fill _,ce,M.offsL_len _,SnL.fill _,c3,co,cq,λ_ _ h=>h⟩ ?_
 rintro m _ g w7 C ⟨ad,rv,r,q,rfl,hm,h7,b9,cg,ba,b5,cf,b6,cn,z,Z,V⟩ hC;simp only[push_cast];refine zb (λdb=>?_) (λc6=>?_)
 ·obtain⟨m,rfl⟩:∃j,m=j+1:=⟨m-1,oM⟩;have c8:m<xs.length:=oM;rw[show((m+1:Nat):Int)-1=(m:Int) by omega];have bk:=Ints.ext0 bj h7.ext;rw[bk.iaddr Q4 oM oM,gw,bk.load Wo oM];refine zC yW yL xo rfl rfl λa0 w8 da ao de bx=>?_;have ci:OwnI zg w8 (.slice (some ⟨a0,0,none⟩) 1 1) [xs.getD m 0]:=Blk.own1 (t:=zg) (cs:=[nI (xs.getD m 0)]) (by rw[qt];exact bx) (gQ _) rfl rfl oM;refine ci.app xp (Ints.ext b9 ao) (by simp;omega) (by simp;omega) λtv w9 cj ch ca=>?_;have ah:Ext w7 w9:=Ext.then ao ch λb a=>by have e:a0=b:=gh a;omega
  have ck:∀b,tv.ownBlock=some b->w7.heap.size<=b:=λb a=>(ca b a).elim (λh=>by have e:a0=b:=gh h;omega) λh=>oM;have h9:=h7.grow ah;have c0:Ints (Kp b4 b8 (O1 qv)) w9 tv (xs.getD m 0::r):=h7.new cj ck;have ac:SnL ad (xs.getD m 0::r):=(SnL.one (Z.get c8)).app ba;have bd:(xs.getD m 0::r).length=xs.length+1:=(by rw[gG,cg]);refine spec_nil λvz w10 d0 a1 cb=>?_;have E:=h9.grow a1;have R:=ah.trans a1;have S:Ints (Kp b4 b8 (O1 qv)) w10 tv (xs.getD m 0::r):=Ints.ext c0 a1;have X:Ints (Kp b4 b8 (O1 qv)) w10 wv wide:=Ints.ext cn R;have b1:=b5.ext R;generalize ht:xs.getD m 0::r=t at*;obtain⟨d6,ap,a6⟩:=E.call;simp only[a6 w10 (Same.refl _ _)];refine sless7_spec hn ap E.dl S X oM oM ac z λdg cx bn l v aq I d=>?_;simp only[push_cast,Q1];refine E.put v aq λae ai L d1=>?_;have W:OwnI zg ae qv q:=(b1.ext v).same L λb a=>(E.off b a).2.2.1;have ak:Ints (Kp b4 b8 (O1 qv)) ae tv t:=Ints.kp4 (Ints.ext S v) L;have bg:Ints (Kp b4 b8 (O1 qv)) ae wv wide:=Ints.kp4 (Ints.ext X v) L;have c5:=I.1;unfold Sm at c5;simp(disch:=omega) only[push_cast,zj,Gc];rw[W.ints.iaddr Q4 oM oM,gw];refine W.st yL oM λaf b2 N d2=>?_;have bt:Fm n D (O1 qv) w b4 b8 af bn:=ai.own N (λb a=>a) λb a=>⟨by have:=(ai.off b a).1;omega,.inl a⟩;have al:Ints (Kp b4 b8 (O1 qv)) af tv t:=Ints.same ak N λb a _ e=>a.2.2 e;have Y:Ints (Kp b4 b8 (O1 qv)) af wv wide:=Ints.same bg N λb a _ e=>a.2.2 e;refine zd λcw k _=>?_;have a3:=bt.grow k;obtain⟨d7,ar,J⟩:=a3.call;simp only[push_cast,Q1,J cw (Same.refl _ _)];refine sturn7_spec (Ints.ext Y k) oM (z.sm) λag nv i ax a8=>?_;have a4:=a3.grow i;have aj:Ints (Kp b4 b8 (O1 qv)) ag nv (M.negL wide):=a3.new ax a8;have T:Ints (Kp b4 b8 (O1 qv)) ag tv t:=Ints.ext (Ints.ext al k) i;simp only[push_cast,Q1,gm,J ag i];refine sadd7_spec hn (ar.ext i λ_ h _=>h) a4.dl T aj (by rw[M.negL_len];omega) oM (ac.out d) ((z.out d).neg) (Sn.of dC dC) λdh cy d5 uv us x au be a9 cl f=>?_;simp only[push_cast,Q1];refine a4.put x au λbp bu y d3=>?_;have bf:us.length=xs.length+1:=by
   have:=M.sum_len f.reach;rw[M.negL_len] at this;omega
  have an:Ints (Kp b4 b8 (O1 qv)) bp uv us:=Ints.kp4 (a4.new be a9) y;have am:Ints (Kp b4 b8 (O1 qv)) bp tv t:=Ints.kp4 (Ints.ext T x) y
  try simp only[push_cast,Q1,gm]
  refine zd λs o _=>?_;have A:=bu.grow o;obtain⟨d8,av,a7⟩:=A.call;have F:=Ints.ext am o;have G:=Ints.ext an o;have eT:xm zg tv none (some (nI xs.length)) none s=λK=>K (cutV tv xs.length) s:=by
   funext K
   by_cases c:xs.length<=t.length
   ·exact Sl.cut F (Sl.base F (by simp;intro h;rw[h] at bd;simp at bd)) Q4 (by simpa using c)
   ·omega
  have eU:xm zg uv none (some (nI xs.length)) none s=λK=>K (cutV uv xs.length) s:=by
   funext K
   exact Sl.cut G (Sl.base G (by simp;intro h;rw[h] at bf;simp at bf)) Q4 (by simpa using(show xs.length<=us.length by omega))
  have c1:Ints (Kp b4 b8 (O1 qv)) s (cutV tv xs.length) (t.take xs.length):=by
   have:=Sl.taken F (n:=xs.length) (by simpa using(show xs.length<=t.length by omega));unfold Ints Vals;rw[GD,GD];exact this
  have c2:Ints (Kp b4 b8 (O1 qv)) s (cutV uv xs.length) (us.take xs.length):=by
   have:=Sl.taken G (n:=xs.length) (by simpa using(show xs.length<=us.length by omega));unfold Ints Vals;rw[GD,GD];exact this
  simp only[push_cast,Q1,a7 s (Same.refl _ _),eT,eU];refine sifs7_spec hn av A.dl c1 c2 (by rw[gi,gi];omega) (by rw[gi];omega) (((ac.out d).out f).take _) (cl.take _) (I.out f) λdi cz bo zv zs H aw bl aa cv p=>?_;simp only[push_cast,Q1];refine A.put H aw λbq bv O d4=>?_
  try simp(disch:=omega) only[push_cast,Q1,gm,zj]
  have cu:zs.length=xs.length:=by
   have:=M.each_len p.reach;rw[gi,gi] at this;omega
  have b3:OwnI zg bq qv (q.set m (-l)):=by
   have off:∀b,qv.ownBlock=some b->¬b=b4:=λb a=>(E.off b a).2.2.1;exact((((((b2.ext k).ext i).ext x).same y off).ext o).ext H).same O off
  have bh:Ints (Kp b4 b8 (O1 qv)) bq wv wide:=Ints.kp4 (Ints.ext (Ints.ext (Ints.kp4 (Ints.ext (Ints.ext (Ints.ext Y k) i) x) y) o) H) O;have df:=A.ext.size;refine hC m _ _ oM ⟨bo,zv,zs,q.set m (-l),by simp<;>exact⟨rfl,rfl⟩,oM,bv,Ints.same (Ints.weaken (F':=λb=>Kp b4 b8 (O1 qv) b/\w.heap.size<=b) bl.ints λb a _=>by
   have d9:=aa b a;have dc:=A.lt4;exact⟨⟨oM,oM,λhO=>by have:=(A.off b hO).1;omega⟩,oM⟩) O (λb a _ e=>a.1.1 e),cu,cv,b3,by rw[GZ];exact cf,(((b6.out d).set I.neg).out f).out p,bh,((z.out d).out f).out p,((Z.out d).out f).out p,λst2 res ho=>V st2 res ?_⟩
  subst ht;exact xh0 d f p ho
 ·have c7:m=0:=oM;subst c7;refine h7.fin λw8 br e8 c4 bc=>?_;exact hK w8 br ad qv rv q r e8 c4 (Ints.weaken (b5.same bc λb a e=>(h7.off b a).2.2.2 e).ints λb a _=>(h7.off b a).2.1) (Ints.weaken (Ints.same b9 bc λb a _ e=>a.1.2.1 e) λb a _=>a.2) b6 ba (V ad (q,r) (by unfold M.divB;exact M.Bd.Out.ret _ _))
end
section
variable {w:World} {K:oK} {D F Fx Fy Y S O:Nat->Prop} {n b4 b8:Nat} {v v' nv xv yv:Value} {cs cs':List Value} {st st':Option M.Gs} {a b c m x y r:Int} {xs ys:List Int}
abbrev New (w:World):Nat->Prop:=λb=>w.heap.size<=b
theorem Fm.res {w0 c:World} {rv:Value} {zs:List Int} (h:Fm n D O w0 b4 b8 w st) (he:Ext w c) (k:MkR n (Y90 D O b4 b8) c cs' st') (m:Ints (New w) c rv zs)
  (j:∀a,Ext w0 a->MkR n D a cs' st'->Ints (New w0) a rv zs->K (.tuple #[.agg ⟨cs'⟩,rv]) a):
  zI zA (oP b8 0) (.agg ⟨cs'⟩) c λ_ a=>vlv zA (oP b8 0) a λo p=>K (.tuple #[o,rv]) p:=by
 refine h.out he k λa i f g=>j a i f ?_;have l:=h.lt4;have s:=h.ext.size;exact Ints.weaken (Ints.same m g λb d _ e=>by have:w.heap.size<=b:=d;omega) λb d _=>by have:w.heap.size<=b:=d;show w0.heap.size<=b;omega
theorem qX {w0:World} {rv:Value} {zs:List Int} (d:OwnI zg w rv zs) (c:∀b,rv.ownBlock=some b->w0.heap.size<=b):Ints (New w0) w rv zs:=Ints.weaken d.ints λb a _=>c b a
theorem sbin7_spec {op:Int} (h3:3<=op) (aw:op<=14) (R:n<=8) (hk:MkR n D w cs st) (hD:∀b,D b->b<w.heap.size) (hx:Ints Fx w xv xs) (hy:Ints Fy w yv ys) (Y:op≠14->xs.length=ys.length) (ap:1<=xs.length) (h8:xs.length<=8) (ax:ys.length<=8) (t:SnL st xs) (j:SnL st ys)
  (z:∀w' cs' st' r zs,Ext w w'->MkR n D w' cs' st'->Ints (New w) w' r zs->SnL st' zs->M.Bd.Out n (M.binB op xs ys) st st' zs->K (.tuple #[.agg ⟨cs'⟩,r]) w'):
  vcall zp0 #[.agg ⟨cs⟩,nI op,xv,yv] w K:=by
 refine zf {cuts:=[(61457,[66])]} Tryz.func129 ?_;refine Fm.start hk hD λb4 b8 w1 m=>?_;have s:=Ints.ext (Ints.under hx) m.ext;have v:=Ints.ext (Ints.under hy) m.ext;unfold M.binB at z;obtain⟨c1,o,e⟩:=m.call;simp only[push_cast];refine zb (λc=>?_) (λc6=>?_)
 ·subst c;simp only[q0 (show¬(6:Int)=14 by decide),q0 (show¬(6:Int)=3 by decide),q0 (show¬(6:Int)=4 by decide),q0 (show¬(6:Int)=5 by decide),if_true] at z;simp only[e w1 (Same.refl _ _)];refine sadd7_spec R o m.dl s v (by have:=Y dC;omega) oM t j (Sn.of dC dC) λw2 x st2 rv zs f g E a3 V B=>?_;simp only[push_cast];exact m.res f g (qX E a3) λC e3 A k=>z C x st2 rv zs e3 A k V B
 try simp only[push_cast]
 refine zb (λc=>?_) (λc7=>?_)
 ·subst c;simp only[q0 (show¬(7:Int)=14 by decide),q0 (show¬(7:Int)=3 by decide),q0 (show¬(7:Int)=4 by decide),q0 (show¬(7:Int)=5 by decide),q0 (show¬(7:Int)=6 by decide),if_true] at z;refine zd λw2 f _=>?_;simp only[e w2 f,Q1];refine sturn7_spec (Ints.ext v f) oM j.sm λC nv a ah av=>?_;simp only[e C (f.trans a),Q1,gm];have a1:=(m.grow f).grow a;refine sadd7_spec R (o.ext (f.trans a) λ_ h _=>h) a1.dl (Ints.ext s (f.trans a)) ah.ints (by rw[M.negL_len];have:=Y dC;omega) oM t j.neg (Sn.of dC dC) λZ ac ar rv zs ae af am a5 W S=>?_;simp only[push_cast,Q1];exact a1.res ae af (qX am a5) λF H i l=>z F ac ar rv zs H i l W S
 try simp only[push_cast]
 refine zb (λc=>?_) (λc8=>?_)
 ·subst c;simp only[q0 (show¬(8:Int)=14 by decide),q0 (show¬(8:Int)=3 by decide),q0 (show¬(8:Int)=4 by decide),q0 (show¬(8:Int)=5 by decide),q0 (show¬(8:Int)=6 by decide),q0 (show¬(8:Int)=7 by decide),if_true] at z;simp only[e w1 (Same.refl _ _)];refine smul7_spec R o m.dl s v (Y dC) oM t j λw2 x st2 rv zs f g E V B=>?_;simp only[push_cast];exact m.res f g E λC e3 A k=>z C x st2 rv zs e3 A k V B
 try simp only[push_cast]
 refine zb (λc=>?_) (λc9=>?_)
 ·subst c;simp only[q0 (show¬(9:Int)=14 by decide),q0 (show¬(9:Int)=3 by decide),q0 (show¬(9:Int)=4 by decide),q0 (show¬(9:Int)=5 by decide),q0 (show¬(9:Int)=6 by decide),q0 (show¬(9:Int)=7 by decide),q0 (show¬(9:Int)=8 by decide),if_true] at z;simp only[e w1 (Same.refl _ _)];refine sdiv7_spec R o m.dl s v (Y dC) oM t j λw2 x st2 qv rv q r f g a6 E a7 a8 B=>?_;simp only[push_cast];refine zi xr λaa C ad a k O=>?_;refine mk_put O rfl g.len g.one λZ U W Q=>?_;rw[Kr Q g.len];have y:Ext w2 Z:=Ext.then a U λb I=>oM;exact m.res (f.trans y) (g.ext y λ_ h _=>h) (Ints.ext a6 y) λF H i l=>z F x st2 qv q H i l a7 (M.Bd.Out.map _ B)
 try simp only[push_cast]
 refine zb (λc=>?_) (λab=>?_)
 ·subst c;simp only[q0 (show¬(10:Int)=14 by decide),q0 (show¬(10:Int)=3 by decide),q0 (show¬(10:Int)=4 by decide),q0 (show¬(10:Int)=5 by decide),q0 (show¬(10:Int)=6 by decide),q0 (show¬(10:Int)=7 by decide),q0 (show¬(10:Int)=8 by decide),q0 (show¬(10:Int)=9 by decide),if_true] at z;simp only[e w1 (Same.refl _ _)];refine sdiv7_spec R o m.dl s v (Y dC) oM t j λw2 x st2 qv rv q r f g a6 E a7 a8 B=>?_;simp only[push_cast];refine zi xr λaa C ad a k O=>?_;refine mk_put O rfl g.len g.one λZ U W Q=>?_;rw[Kr Q g.len];have y:Ext w2 Z:=Ext.then a U λb I=>oM;exact m.res (f.trans y) (g.ext y λ_ h _=>h) (Ints.ext E y) λF H i l=>z F x st2 rv r H i l a8 (M.Bd.Out.map _ B)
 refine zo (λu w'=>u=[.bool (decide (op=11\/op=12\/op=13))]/\w'=w1) ?_ ?_
 ·intro J hJ
  try simp only[push_cast]
  refine zb (λc=>?_) (λc=>?_)
  ·refine hJ _ _ ⟨?_,rfl⟩;rw[gn c,gn (.inl c)]
  try simp only[push_cast]
  refine zb (λd=>?_) (λd=>?_)
  ·refine hJ _ _ ⟨?_,rfl⟩;rw[gn d,gn (.inr (.inl d))]
  try simp only[push_cast]
  refine hJ _ _ ⟨?_,rfl⟩;rw[decide_eq_decide.2 (show(op=11\/op=12\/op=13)↔op=13 from⟨λh=>oM,λh=> .inr (.inr h)⟩)]
 rintro _ _ w2 ⟨rfl,rfl⟩
 try simp only[push_cast]
 refine zb (λc=>?_) (λau=>?_)
 ·simp only[e w2 (Same.refl _ _)];refine sshift7_spec R o m.dl s v ap oM oM t j λC L X rv zs a A T k p=>?_;simp only[push_cast];refine m.res a A T λF H i l=>z F L X rv zs H i l k ?_;rw[q0 oM,q0 oM,q0 oM,q0 oM,q0 c6,q0 c7,q0 c8,q0 c9,q0 ab];rcases c with rfl|rfl|rfl
  ·exact p
  ·exact p
  ·exact p
 try simp only[push_cast]
 refine zb (λc=>?_) (λa0=>?_)
 ·rw[K3 c] at z;refine zd λC a _=>?_;simp only[e C a,Q1];refine spec_nil λv4 Z S e4 a2=>?_;simp only[e Z (a.trans e4),Q1,gm];refine S.app xp (Ints.ext v (a.trans e4)) (by simp;omega) (by simp;omega) λv5 F ak an ai=>?_;have z3:=a.size;have z4:=e4.size;have G:Ext C F:=Ext.then e4 an λb I=>a2 b I;simp only[e F (a.trans G),Q1,gm];have a9:∀b,v5.ownBlock=some b->C.heap.size<=b:=λb I=>(ai b I).elim (a2 b) λh=>oM;refine ak.app xp (Ints.ext s (a.trans G)) (by simp;omega) (by simp;omega) λv6 w6 al ao aj=>?_;have z5:=G.size;have N:Ext C w6:=Ext.then G ao λb I=>a9 b I;simp only[e w6 (a.trans N),Q1,gm];refine m.res (a.trans N) (o.ext (a.trans N) λ_ h _=>h) (qX al λb I=>(aj b I).elim (λh=>by have:=a9 b h;omega) λh=>oM) λw7 e7 ag aq=>z w7 c1 st v6 _ e7 ag aq (by rw[Gq];exact j.app t) (M.Bd.Out.ret _ _)
 simp only[e w2 (Same.refl _ _)];refine splain7_spec R o m.dl s v (by have:=Y a0;omega) oM t j λC L X rv zs a A T a4 k p=>?_;simp only[push_cast];refine m.res a A (qX T a4) λF H i l=>z F L X rv zs H i l k ?_;rw[q0 a0];unfold kY at p;rcases(by omega:op=3\/op=4\/op=5) with rfl|rfl|rfl
 ·exact p
 ·exact p
 ·exact p
theorem sun7_spec {op:Int} (X:op=1\/op=2) (S:n<=8) (R:MkR n D w cs st) (hD:∀b,D b->b<w.heap.size) (T:Ints Fx w xv xs) (W:xs.length<=8) (f:SnL st xs)
  (k:∀w' cs' st' r zs,Ext w w'->MkR n D w' cs' st'->Ints (New w) w' r zs->SnL st' zs->M.Bd.Out n (M.unB op xs) st st' zs->K (.tuple #[.agg ⟨cs'⟩,r]) w'):
  vcall yB0 #[.agg ⟨cs⟩,nI op,xv] w K:=by
 refine zf {} Tryz.func127 ?_;refine Fm.start R hD λb4 b8 w1 t=>?_;have q:=Ints.ext (Ints.under T) t.ext;unfold M.unB at k;obtain⟨c1,m,d⟩:=t.call;simp only[push_cast];refine zb (λc=>?_) (λc=>?_)
 ·rw[K3 c] at k;refine zd λw2 a _=>?_;simp only[d w2 a,Q1];refine sturn7_spec (Ints.ext q a) oM f.sm λG nv e z o=>?_;simp only[d G (a.trans e),Q1,gm];have z2:=a.size;exact t.res (a.trans e) (m.ext (a.trans e) λ_ h _=>h) (qX z λb Q=>by have:=o b Q;omega) λL N i j=>k L c1 st nv _ N i j f.neg (M.Bd.Out.ret _ _)
 ·rw[q0 c] at k;refine zd λw2 a _=>?_;have s:=Ints.ext q a;simp(disch:=exact oS) only[push_cast,d w2 a,Q1,s.len];refine sfill7_spec oM λG fv e x I=>?_;simp only[d G (a.trans e),Q1,gm];refine sturn7_spec (Ints.ext s e) oM f.sm λU nv l A J=>?_;have g:=a.trans (e.trans l);simp only[d U g,Q1,gm];have H:=t.grow g;refine sadd7_spec S (m.ext g λ_ h _=>h) H.dl (x.ext l).ints A.ints (by rw[M.negL_len,gH];omega) (by rw[gH];omega) (SnL.fill _) f.neg (Sn.of dC dC) λL u F rv zs v i C p j B=>?_;simp only[push_cast,Q1];exact H.res v i (qX C p) λV O y E=>k V u F rv zs O y E j B
theorem swap_get (xs ys:List Int) (h:xs.length=ys.length) (e:1<=xs.length):xs.take (xs.length-1)++[ys.getD (xs.length-1) 0]=M.swapT xs ys:=by
 unfold M.swapT;refine Gd (by simp;omega) λi b a=>?_;rw[pB];by_cases c:xs.length-1=i
 ·subst c;rw[K3 rfl,List.getElem_append_right (by simp)];simp
 ·have d:i<xs.length:=(by simpa using a);rw[q0 c,Pg (by simp;omega),P5]
theorem cut_app {w0:World} {vx:Value} {zs:List Int} {x:Int} {f:Nat} {t0:TypeId} (n:Ext w0 w) (u:Ints Fx w vx zs) (z:zs.length<=1000) (p:Blk w f [nI x] t0) (r:w0.heap.size<=f) (s:OwnI zg w v []) (m:∀b,v.ownBlock=some b->w0.heap.size<=b/\b≠f)
  (q:∀w' v',Ext w0 w'->OwnI zg w' v' (zs++[x])->(∀b,v'.ownBlock=some b->w0.heap.size<=b)->K v' w'):
  vbi .append [zg,zg] zg [v,vx] w λt w1=>vbi .append [zg,zg] zg [t,.slice (some ⟨f,0,none⟩) 1 1] w1 K:=by
 have A:=n.size;refine s.app xp u (by simp;omega) (by simp;omega) λv2 w2 j c g=>?_;have s2:=c.size;refine OwnI.app1 j xp (p.same c λe=>(m _ e).2 rfl) (by simp;omega) (by simp;omega) λv3 y k l i=>?_;have o:Ext w0 w2:=Ext.then n c λb a=>(m b a).1;have d:∀b,v2.ownBlock=some b->w0.heap.size<=b:=λb a=>(g b a).elim (λh=>(m b h).1) λh=>oM
 exact q y v3 (Ext.then o l λb a=>d b a) (by simpa using k) λb a=>(i b a).elim (d b) λh=>oM
theorem top_region {J:List Value->World->Prop} (hx:Ints Fx w xv xs) (hy:Ints Fy w yv ys) (hl:xs.length=ys.length) (t:1<=xs.length) (h8:xs.length<=8) (X:∀w' r,Ext w w'->OwnI zg w' r (M.swapT xs ys)->(∀b,r.ownBlock=some b->w.heap.size<=b)->J [r] w'):
  Zt w λa=>
    xm zg xv none (some (nI ((xs.length-1:Nat):Int))) none a λt36 L=>L=a/\
    y1 zg yv (nI ((xs.length-1:Nat):Int)) a λt40 N=>N=a/\
    zt zV t40 a λt41 O=>O=a/\
    (vbuildS zg 0 [] a λt33 c=>(zt zV t40 c λv x=>v=t41/\x=c)/\(y1 zg yv (nI ((xs.length-1:Nat):Int)) c λv x=>v=t40/\x=c)/\(xm zg xv none (some (nI ((xs.length-1:Nat):Int))) none c λv x=>v=t36/\x=c)/\
     (vbi .append [zg,zg] zg [t33,t36] c λt37 d=>(zt zV t40 d λv x=>v=t41/\x=d)/\(y1 zg yv (nI ((xs.length-1:Nat):Int)) d λv x=>v=t40/\x=d)/\
      (vbuildS zg 1 [(0,t41)] d λt42 Q=>
       (vbi .append [zg,zg] zg [t37,t42] Q λt43 R=>
        J [t43] R)/\
       True)/\
      True)/\
     (vbuildS zg 1 [(0,t41)] c λD k=>(xm zg xv none (some (nI ((xs.length-1:Nat):Int))) none k λv x=>v=t36/\x=k)/\
      (vbi .append [zg,zg] zg [t33,t36] k λB S=>
       (vbi .append [zg,zg] zg [B,D] S λF T=>
        J [F] T)/\
       True)/\
      True)/\
     True)/\
    (vbuildS zg 1 [(0,t41)] a λE l=>(xm zg xv none (some (nI ((xs.length-1:Nat):Int))) none l λv x=>v=t36/\x=l)/\
     (vbuildS zg 0 [] l λA m=>(xm zg xv none (some (nI ((xs.length-1:Nat):Int))) none m λv x=>v=t36/\x=m)/\
      (vbi .append [zg,zg] zg [A,t36] m λC U=>
       (vbi .append [zg,zg] zg [C,E] U λG V=>
        J [G] V)/\
       True)/\
      True)/\
     True)/\
    True:=by
 refine zd λw2 g _=>?_;have sl:∀(w':World) (K:oK),Ext w w'->xm zg xv none (some (nI ((xs.length-1:Nat):Int))) none w' K=K (cutV xv (xs.length-1)) w':=λw' K he=>by
  have p:=Ints.ext hx he;exact propext ⟨λh=>by rwa[Sl.cut p (Sl.base p (by simp;intro h;rw[h] at t;simp at t)) Q4 (by simp)] at h,λh=>by rwa[Sl.cut p (Sl.base p (by simp;intro h;rw[h] at t;simp at t)) Q4 (by simp)]⟩
 have ia:∀(w':World) (K:oK),y1 zg yv (nI ((xs.length-1:Nat):Int)) w' K=K (.pointer (some (eaddr yv 1 (xs.length-1)))) w':=λw' K=>by
  rw[hy.iaddr Q4 oM oM,gw]
 have ld:∀(w':World) (K:oK),Ext w w'->zt zV (.pointer (some (eaddr yv 1 (xs.length-1)))) w' K=K (nI (ys.getD (xs.length-1) 0)) w':=λw' K he=>(Ints.ext hy he).load Wo oM;have Z:∀w',Ext w w'->Ints Fx w' (cutV xv (xs.length-1)) (xs.take (xs.length-1)):=λw' he=>by
  have:=Sl.taken (Ints.ext hx he) (n:=xs.length-1) (by simp);unfold Ints Vals;rw[GD,GD];exact this
 have I:(xs.take (xs.length-1)).length<=1000:=by rw[gi];omega
 have s2:=g.size;simp only[sl _ _ g,ia,ld _ _ g,Q1,Gm];refine⟨?_,?_⟩
 ·refine spec_nil λv3 w3 j q i=>?_;have e:=g.trans q;simp only[sl _ _ e,ld _ _ e,Q1,Gm,gm];refine⟨?_,?_⟩
  ·refine j.app xp (Z _ e) (by simp;omega) (by simp;omega) λv4 w4 a2 a4 a0=>?_;have H:Ext w w4:=Ext.then e a4 λb s=>by have:=i b s;omega
   have s3:=q.size;simp only[ld _ _ H,Q1,Gm,gm];refine spec_app (w0:=w) H a2 (λb s=>(a0 b s).elim (λh=>by have:=i b h;omega) λh=>oM) (by simp;omega) λv5 w5 a3 e5 a1=>?_;refine X w5 v5 e5 ?_ a1;rw[<-swap_get xs ys hl t];simpa using a3
  ·refine zC yW yL xo rfl rfl λb7 w7 Y f a5 u=>?_;have s3:=q.size;simp only[sl _ _ (e.trans f),Q1,Gm,gm];refine cut_app (w0:=w) (e.trans f) (Z _ (e.trans f)) I u oM (j.ext f) (λb s=>by have:=i b s;have:=j.lt s;omega) λw8 v8 W z y=>?_;refine X w8 v8 W ?_ y;rw[<-swap_get xs ys hl t];exact z
 ·refine zC yW yL xo rfl rfl λb7 w7 Y f a5 u=>?_;have o:=g.trans f;simp only[sl _ _ o,Q1,Gm,gm];refine spec_nil λv3 w3 j q i=>?_;simp only[sl _ _ (o.trans q),Q1,Gm,gm];refine cut_app (w0:=w) (o.trans q) (Z _ (o.trans q)) I (u.ext q) oM j (λb s=>by have:=i b s;omega) λw8 v8 W z y=>?_;refine X w8 v8 W ?_ y;rw[<-swap_get xs ys hl t];exact z
theorem swap_sn (a:SnL st xs) (b:SnL st ys) (d:xs.length=ys.length) (c:1<=xs.length):SnL st (M.swapT xs ys):=a.set (b.get oM)
theorem Wh (xs ys:List Int):(M.swapT xs ys).length=xs.length:=GZ ..
theorem scmp7_spec {op:Int} (W:15<=op) (X:op<=17) (y:n<=8) (Y:MkR n D w cs st) (hD:∀b,D b->b<w.heap.size) (hx:Ints Fx w xv xs) (hy:Ints Fy w yv ys) (x:xs.length=ys.length) (z:1<=xs.length) (h8:xs.length<=8) (g:SnL st xs) (j:SnL st ys)
  (k:∀w' cs' st' r,Ext w w'->MkR n D w' cs' st'->Sn st' r->M.Bd.Out n (M.cmpB op xs ys) st st' r->K (.tuple #[.agg ⟨cs'⟩,nI r]) w'):
  vcall zo0 #[.agg ⟨cs⟩,nI op,xv,yv] w K:=by
 refine zf {cuts:=[(32776,[11]),(36873,[12])]} Tryz.func128 ?_;refine Fm.start Y hD λb4 b8 w1 f=>?_;have d:=Ints.ext (Ints.under hx) f.ext;have i:=Ints.ext (Ints.under hy) f.ext;unfold M.cmpB at k;obtain⟨c1,o,a⟩:=f.call;simp only[push_cast];refine zb (λc=>?_) (λT=>?_)
 ·rw[K3 c] at k;simp only[a w1 (Same.refl _ _)];refine ssame7_spec y o f.dl d i oM oM g j λw2 l st2 r m p t s=>?_;simp only[push_cast];exact f.out m p λA v q R=>k A l st2 r v q t s
 rw[q0 T] at k
 try simp only[push_cast]
 refine zb (λc=>?_) (λU=>?_)
 ·rw[K3 c] at k;simp only[a w1 (Same.refl _ _)];refine sless7_spec y o f.dl d i oM oM g j λw2 l st2 r m p t s=>?_;simp only[push_cast];exact f.out m p λA v q R=>k A l st2 r v q t s
 rw[q0 U] at k;rw[d.len Z60];simp(disch:=omega) only[push_cast,zj];rw[show((xs.length:Int)-1)=((xs.length-1:Nat):Int) by omega];refine zo (λu w'=> ∃r,u=[r]/\Ext w1 w'/\OwnI zg w' r (M.swapT xs ys)) ?_ ?_
 ·intro J E;exact top_region d i x z oM λw' r he N y=>E _ _ ⟨r,rfl,he,N⟩
 rintro _ _ w2 ⟨av,rfl,C,F⟩;refine zo (λu w'=> ∃r,u=[r]/\Ext w2 w'/\OwnI zg w' r (M.swapT ys xs)) ?_ ?_
 ·intro J E;rw[x];exact top_region (Ints.ext i C) (Ints.ext d C) x.symm oM oM λw' r he N y=>E _ _ ⟨r,rfl,he,N⟩
 rintro _ _ A ⟨bv,rfl,v,G⟩;have e:=C.trans v
 try simp only[push_cast]
 simp only[a A e];refine sless7_spec y (o.ext e λ_ h _=>h) (f.grow e).dl (F.ext v).ints G.ints (by rw[Wh,Wh];omega) (by rw[Wh];omega) (swap_sn g j x z) (swap_sn j g x.symm oM) λw4 B S r H I Q O=>?_;simp only[push_cast];exact(f.grow e).out H I λw5 V L Z=>k w5 B S r V L Q O
end
section
variable {w:World} {K:oK} {D F Fx:Nat->Prop} {n:Nat} {v dv tv:Value} {cs:List Value} {st:Option M.Gs} {a b c m x y r:Int} {ds:List M.Dcl} {t:M.Tm}
theorem spec_one {x:Int} (f:∀w' r,Ext w w'->OwnI zg w' r [x]->(∀b,r.ownBlock=some b->w.heap.size<=b)->K r w'):vbuildS zg 1 [(0,nI x)] w K:=by
 refine zC yW yL xo rfl rfl λd j h c i a=>?_;exact f j _ c (Blk.own1 (t:=zg) (cs:=[nI x]) (by rw[qt];exact a) (gQ _) rfl rfl oM) λb g=>by have e:d=b:=gh g;omega
theorem sbits8_spec {k:Nat} (d:M.declOk ds=true) (o:k<=ds.length) (j:DclsR F w v (ds.take k)) (h:∀w',Ext w w'->K (nI (M.bitT ds k)) w'):vcall Wu #[v] w K:=by
 refine zf {loops:=[(3,[3,4])]} Tryz.func95 ?_;have hlen:(ds.take k).length=k:=by rw[gi];omega
 have n:=(M.decl_iff.1 d).1;refine vloop_up k (λi u w'=>u=[nI (M.bitT ds i),nI i]/\Ext w w') ⟨rfl,Same.refl _ _⟩ ?_;rintro i _ _ w2 C hi ⟨rfl,c⟩ g;have b:=j.ext c;simp(disch:=exact oS) only[push_cast,b.len];refine zb (λa=>?_) (λa=>?_)
 ·have e:i<k:=oM;have m:=dcl_small d (i:=i) oM;have f:=dcl_small d (i:=i+1) oM;rw[M.bitT_succ oM] at f;have l:(ds.take k).getD i (M.nada,0)=ds.getD i (M.nada,0):=M.take_getD e;simp(disch:=exact oS) only[push_cast,b.iaddr,b.load1,l,zj];refine g e _ _ ⟨?_,c⟩;rw[M.bitT_succ oM];simp
 ·have:i=k:=oM;subst this;exact h w2 c
theorem fix_val {nn:Int} {j:Nat}:2*((nn.toNat/2^j%2:Nat):Int)-1=if nn.toNat/2^j%2=1 then 1 else-1:=by
 have h:nn.toNat/2^j%2=0\/nn.toNat/2^j%2=1:=oM
 rcases h with h|h<;>rw[h]<;>rfl
theorem sfix8_spec {wd nn:Int} (x:M.vok wd nn=true) (t:∀w' r,Ext w w'->OwnI zg w' r (M.fixB wd nn)->(∀b,r.ownBlock=some b->w.heap.size<=b)->K r w'):vcall zg0 #[nI wd,nI nn] w K:=by
 refine zf {loops:=[(3,[5,6])]} Tryz.func160 ?_;obtain⟨v1,v2,v3,v4⟩:=M.vok_lt x;refine spec_nil λy w1 m p k=>?_;refine vloop_up wd.toNat (λi u w'=> ∃r,u=[r,nI i]/\Ext w w'/\OwnI zg w' r ((M.fixB wd nn).take i)/\∀b,r.ownBlock=some b->w.heap.size<=b) ⟨_,rfl,p,m,k⟩ ?_;rintro i _ g w2 C hi ⟨r,rfl,o,d,f⟩ s;simp only[push_cast];refine zb (λa=>?_) (λa=>?_)
 ·have e:i<wd.toNat:=oM;rw[show nn=((nn.toNat:Nat):Int) by omega];refine l1Bit_spec oM oM ?_;have v:nn.toNat/2^i%2<2:=pE _ dC;have c:=fix_val (nn:=nn) (j:=i);generalize h:nn.toNat/2^i%2=bt at c v;simp(disch:=omega) only[push_cast,zj];rw[c];refine spec_app o d f (by rw[gi,M.fixB_len];omega) λv3 z n q l=>?_
  try simp(disch:=omega) only[push_cast,zj]
  refine s e _ _ ⟨v3,by simp,q,?_,l⟩;rw[M.take_add (by rw[M.fixB_len];omega) 0,fixB_at oM,h];exact n
 ·have e:i=wd.toNat:=oM;rw[gI (by rw[M.fixB_len];omega)] at d;exact t w2 r o d f
theorem sname8_spec {k:Nat} (e:M.declOk ds=true) (l:k<ds.length) (p:DclsR F w v ds) (D:∀w' r,Ext w w'->OwnI zg w' r (M.nameB ds k)->(∀b,r.ownBlock=some b->w.heap.size<=b)->K r w'):vcall Wr #[v,nI k] w K:=by
 refine zf {loops:=[(4,[6,7])]} Tryz.func161 ?_;have J:=(M.decl_iff.1 e).1;rw[p.cut (by intro h;rw[h] at l;simp at l) Y6 oM];refine sbits8_spec e oM (p.taken oM) λw1 y=>?_;have G:=dcl_small e (i:=k) oM;have H:=M.dcl_wide e l;simp(disch:=omega) only[push_cast,zj];refine spec_nil λv2 w2 t z q=>?_;have N:=y.size;refine vloop_up (ds.getD k (M.nada,0)).2.toNat (λi u w'=> ∃r,u=[r,nI i]/\Ext w w'/\OwnI zg w' r ((M.nameB ds k).take i)/\∀b,r.ownBlock=some b->w.heap.size<=b) ⟨_,rfl,y.trans z,t,λb E=>by have:=q b E;omega⟩ ?_;rintro i _ g I C hi ⟨r,rfl,n,f,m⟩ B;have d:=p.ext n;have j:∀c:i<(ds.getD k (M.nada,0)).2.toNat,(M.nameB ds k).getD i 0=2+M.bitT ds k+(ds.getD k (M.nada,0)).2-1-(i:Int):=λc=>by unfold M.nameB;rw[JT c];rfl
 rw[d.iaddr Y6 oM oM,gw];simp only[push_cast];rw[d.load1 Wo l];generalize o:(ds.getD k (M.nada,0)).2=wd at*;simp only[push_cast];refine zb (λa=>?_) (λa=>?_)
 ·have c:i<wd.toNat:=oM;rw[d.iaddr Y6 oM oM,gw];simp only[push_cast];rw[d.load1 Wo l,o];simp(disch:=omega) only[push_cast,zj];refine spec_app n f m (by rw[gi,M.nameB_len];omega) λv5 L x A s=>?_
  try simp(disch:=omega) only[push_cast,zj]
  refine B c _ _ ⟨v5,by simp,A,?_,s⟩;rw[M.take_add (by rw[M.nameB_len,o];omega) 0,j c];exact x
 ·rw[gI (by rw[M.nameB_len,o];omega)] at f;exact D I r n f m
theorem sleaf8_spec (l:M.declOk ds=true) (hs:M.sortM ds t≠ -1) (G:t.ks.length=0) (q:DclsR F w dv ds) (C:TermR Fx w tv t)
  (i:∀w' r zs,Ext w w'->OwnI zg w' r zs->(∀b,r.ownBlock=some b->w.heap.size<=b)->SnL st zs->M.Bd.Out n (M.nodeB ds t []) st st zs->K r w'):vcall Wt #[dv,tv] w K:=by
 refine zf {} Tryz.func125 ?_;obtain⟨kv,rfl,y⟩:=C;obtain⟨u,I,A⟩:=M.right_op hs;have B:t.op=20\/t.op=21\/t.op=24:=Gn λh=>by have:=M.node_arity A h;omega
 refine zk λb1 w1 v a E g=>?_;simp(disch:=exact oS) only[push_cast,g.ld0];unfold M.nodeB at i;refine zb (λc=>?_) (λc=>?_)
 ·rw[K3 c] at i;have D:=M.vec_ok hs c;simp(disch:=exact oS) only[push_cast,g.ld1,g.ld2];refine sfix8_spec D λw2 r d f e=>?_;exact i w2 r _ (a.trans d) f (λb o=>by have:=e b o;omega) (λx p=>by
   unfold M.fixB at p;obtain⟨j,_,rfl⟩:=gy.1 p;split<;>exact Sn.of dC dC) (M.Bd.Out.ret _ _)
 rw[q0 c] at i
 try simp only[push_cast]
 refine zb (λc2=>?_) (λc2=>?_)
 ·rw[K3 c2] at i;have H:=M.name_found hs c2;have z:=M.findD_lt ds t.s;simp(disch:=exact oS) only[push_cast,g.ld3];refine l2Find_spec (q.ext a) ?_;rw[show M.findD ds t.s=(((M.findD ds t.s).toNat:Nat):Int) by omega];refine sname8_spec l oM (q.ext a) λw2 r d f e=>?_;refine i w2 r _ (a.trans d) f (λb o=>by have:=e b o;omega) (λx p=>?_) (M.Bd.Out.ret _ _);obtain⟨p1,p2,J⟩:=M.name_has (m:=9) l (k:=(M.findD ds t.s).toNat) oM (by have:=(M.decl_iff.1 l).2.2;omega) x p;exact Sn.of (by unfold Sm;omega) p1
 ·rw[q0 c2,K3 oM] at i;refine spec_one λw2 r d f e=>?_;exact i w2 r _ (a.trans d) f (λb o=>by have:=e b o;omega) (SnL.one (Sn.of dC dC)) (M.Bd.Out.ret _ _)
end
section
variable {w:World} {K:oK} {D F Fx Y S O:Nat->Prop} {n b4 b8:Nat} {v tv kv:Value} {cs cs' ts:List Value} {st st':Option M.Gs} {a b c m x y r:Int} {ds:List M.Dcl} {t:M.Tm} {rs:List (List Int)}
theorem Fm.start2 (s:MkR n D w cs st) (hD:∀b,D b->b<w.heap.size) {K:Value->Value->oK} (m:∀b4 a b8 w',Fm n D (λ_=>False) w b4 b8 w' st->Blk w' a ts za->w.heap.size<=a/\a≠b4/\a≠b8->K (oP b4 0) (oP a 0) (oP b8 0) w'):
  UY zA (.agg ⟨cs⟩) w λt w1=>UY za (.agg ⟨ts⟩) w1 λt5 w2=>xR zA w2 λt8 k=>K t t5 t8 k:=by
 refine zk λb4 w1 p i u e=>?_;refine zk λa w2 q j v f=>?_;refine zi xr λb8 k r d x g=>?_;have c:=j.trans d;have l:=i.trans c;refine m b4 a b8 k ⟨l,⟨cs,e.ext c,s.ext l λb o y=>o.elim id λh=>?_⟩,⟨_,g,rfl⟩,oM,λb h=>h.elim,hD⟩ (f.ext d) oM;rcases h with h|h|h
 ·omega
 ·omega
 ·exact h.elim
def KidsS (w:World) (kv:Value) (rs:List (List Int)):Prop:= ∃(vs:List Value) (Fk:Nat->Prop),Vals Fk w kv vs/\vs.length=rs.length/\∀i,i<rs.length->Ints (λ_=>True) w (vs.getD i undef) (rs.getD i [])
theorem KidsS.vals (h:KidsS w kv rs):∃vs:List Value,(∀(w':World),Ext w w'->∀i:Nat,i<rs.length->∀K:oK,y1 zJ kv (nI i) w' K=K (.pointer (some (eaddr kv 1 i))) w'/\zt zg (.pointer (some (eaddr kv 1 i))) w' K=K (vs.getD i undef) w')/\
  ∀i,i<rs.length->Ints (λ_=>True) w (vs.getD i undef) (rs.getD i []):=by
 obtain⟨vs,Fk,b,d,c⟩:=h;refine⟨vs,λw' he i hi K=>?_,c⟩;have a:=b.ext he;refine⟨?_,a.load Za0 oM⟩;rw[a.iaddr ZL0 oM oM,gw]
theorem KidsS.ext {w':World} (h:KidsS w kv rs) (he:Ext w w'):KidsS w' kv rs:=by
 obtain⟨vs,Fk,a,b,c⟩:=h;exact⟨vs,Fk,a.ext he,b,λi hi=>Ints.ext (c i hi) he⟩
theorem len_one {l:List Int} (h:l.length=1):l=[l.getD 0 0]:=by
 match l,h with
 |[x],_=>rfl
theorem slogic8_spec (a5:M.declOk ds=true) (hs:M.sortM ds t≠ -1) (a9:22<t.op) (a1:t.op≠24) (hn:n<=8) (hk:MkR n D w cs st) (hD:∀b,D b->b<w.heap.size) (ht:TermR Fx w tv t) (J:KidsS w kv rs) (ad:rs.length=t.ks.length) (hlen:∀i,i<t.ks.length->(rs.getD i []).length=M.lenS (M.sortM ds (M.kid t i))) (a6:∀r,r∈rs->SnL st r)
  (m:∀w' cs' st' r zs,Ext w w'->MkR n D w' cs' st'->Ints (New w) w' r zs->SnL st' zs->M.Bd.Out n (M.nodeB ds t rs) st st' zs->K (.tuple #[.agg ⟨cs'⟩,r]) w'):
  vcall KZ #[.agg ⟨cs⟩,tv,kv] w K:=by
 refine zf {} Tryz.func126 ?_;obtain⟨kw,rfl,ab⟩:=ht;obtain⟨aa,hp,ho⟩:=M.right_op hs;obtain⟨q1,q2,q3,q4,q5,q6,q7⟩:=M.node_right a5 hs (L:=λi=>(rs.getD i []).length) hlen;refine Fm.start2 hk hD λb4 b5 b8 w1 S a2 ac=>?_;obtain⟨c1,y,e⟩:=S.call;obtain⟨vs,g,f⟩:=(J.ext S.ext).vals;have get:∀i,i<rs.length->SnL st (rs.getD i []):=λi hi=>a6 _ (M.getD_mem hi []);simp(disch:=exact oS) only[push_cast,a2.ld0];unfold M.nodeB at m;rw[q0 oM,q0 oM,q0 a1] at m;refine zb (λc=>?_) (λF=>?_)
 ·rw[K3 c] at m;obtain⟨q,j⟩:=q7 oM;rw[K3 c] at q;have H:=j 0 oM;refine zd λw2 a _=>?_;have B:∀K:oK,y1 zJ kv (nI 0) w2 K=K (.pointer (some (eaddr kv 1 0))) w2:=λK=>(g w2 a 0 oM K).1;have C:∀K:oK,zt zg (.pointer (some (eaddr kv 1 0))) w2 K=K (vs.getD 0 undef) w2:=λK=>(g w2 a 0 oM K).2;simp only[e w2 a,B,C,Q1];refine sturn7_spec (Ints.ext (f 0 oM) a) oM (get 0 oM).sm λY r3 d l a4=>?_;simp only[e Y (a.trans d),Q1,gm];have z2:=a.size;refine S.res (a.trans d) (y.ext (a.trans d) λ_ h _=>h) (qX l λb hb=>by have:=a4 b hb;omega) λR e4 k v=>m R c1 st r3 _ e4 k v (get 0 oM).neg ?_;rw[len_one H];exact M.Bd.Out.ret _ _
 rw[q0 F] at m
 try simp only[push_cast]
 refine zb (λc=>?_) (λZ=>?_)
 ·rw[K3 c] at m;obtain⟨q,j⟩:=q7 oM;rw[q0 F] at q;have H:=j 0 oM;have a3:=j 1 oM;refine zd λw2 a _=>?_;have B:∀K:oK,y1 zJ kv (nI 0) w2 K=K (.pointer (some (eaddr kv 1 0))) w2:=λK=>(g w2 a 0 oM K).1;have C:∀K:oK,zt zg (.pointer (some (eaddr kv 1 0))) w2 K=K (vs.getD 0 undef) w2:=λK=>(g w2 a 0 oM K).2;have T:∀K:oK,y1 zJ kv (nI 1) w2 K=K (.pointer (some (eaddr kv 1 1))) w2:=λK=>(g w2 a 1 oM K).1;have U:∀K:oK,zt zg (.pointer (some (eaddr kv 1 1))) w2 K=K (vs.getD 1 undef) w2:=λK=>(g w2 a 1 oM K).2;have z:=Ints.ext (f 0 oM) a;have E:=Ints.ext (f 1 oM) a;simp(disch:=exact oS) only[e w2 a,B,C,T,U,z.iaddr,z.load,E.iaddr,E.load,push_cast,Q1];have A:=S.grow a;refine sand7_spec hn (y.ext a λ_ h _=>h) A.dl ((get 0 oM).get oM) ((get 1 oM).get oM) λY G x r d p u l=>?_;simp only[push_cast,Q1];refine A.put d p λR W a7 v=>?_
  try simp only[push_cast,Q1,gm]
  obtain⟨c4,k,s⟩:=W.call;simp only[s R (Same.refl _ _)];refine spec_one λw5 rv o O N=>?_;refine W.res o (k.ext o λ_ h _=>h) (qX O N) λw6 e6 I Q=>m w6 c4 x rv [r] e6 I Q (SnL.one u) (xz l (M.Bd.Out.ret _ _))
 rw[q0 Z] at m
 try simp only[push_cast]
 refine zb (λc=>?_) (λa0=>?_)
 ·rw[K3 c] at m;obtain⟨q,j⟩:=q7 oM;rw[q0 F] at q;have H:=j 0 oM;have a3:=j 1 oM;refine zd λw2 a _=>?_;have B:∀K:oK,y1 zJ kv (nI 0) w2 K=K (.pointer (some (eaddr kv 1 0))) w2:=λK=>(g w2 a 0 oM K).1;have C:∀K:oK,zt zg (.pointer (some (eaddr kv 1 0))) w2 K=K (vs.getD 0 undef) w2:=λK=>(g w2 a 0 oM K).2;have T:∀K:oK,y1 zJ kv (nI 1) w2 K=K (.pointer (some (eaddr kv 1 1))) w2:=λK=>(g w2 a 1 oM K).1;have U:∀K:oK,zt zg (.pointer (some (eaddr kv 1 1))) w2 K=K (vs.getD 1 undef) w2:=λK=>(g w2 a 1 oM K).2;have z:=Ints.ext (f 0 oM) a;have E:=Ints.ext (f 1 oM) a;simp(disch:=exact oS) only[e w2 a,B,C,T,U,z.iaddr,z.load,E.iaddr,E.load,push_cast,Q1];have A:=S.grow a;refine sor7_spec hn (y.ext a λ_ h _=>h) A.dl ((get 0 oM).get oM) ((get 1 oM).get oM) λY G x r d p u l=>?_;simp only[push_cast,Q1];refine A.put d p λR W a7 v=>?_
  try simp only[push_cast,Q1,gm]
  obtain⟨c4,k,s⟩:=W.call;simp only[s R (Same.refl _ _)];refine spec_one λw5 rv o O N=>?_;refine W.res o (k.ext o λ_ h _=>h) (qX O N) λw6 e6 I Q=>m w6 c4 x rv [r] e6 I Q (SnL.one u) (M.Bd.Out.map _ l)
 have V:t.op=23:=oM
 rw[q0 a0,K3 V] at m;obtain⟨k1,l0,l1,l2,l3⟩:=q6 V;refine zd λw2 a _=>?_;have B:∀K:oK,y1 zJ kv (nI 0) w2 K=K (.pointer (some (eaddr kv 1 0))) w2:=λK=>(g w2 a 0 oM K).1;have C:∀K:oK,zt zg (.pointer (some (eaddr kv 1 0))) w2 K=K (vs.getD 0 undef) w2:=λK=>(g w2 a 0 oM K).2;have T:∀K:oK,y1 zJ kv (nI 1) w2 K=K (.pointer (some (eaddr kv 1 1))) w2:=λK=>(g w2 a 1 oM K).1;have U:∀K:oK,zt zg (.pointer (some (eaddr kv 1 1))) w2 K=K (vs.getD 1 undef) w2:=λK=>(g w2 a 1 oM K).2;have A2:∀K:oK,y1 zJ kv (nI 2) w2 K=K (.pointer (some (eaddr kv 1 2))) w2:=λK=>(g w2 a 2 oM K).1;have B2:∀K:oK,zt zg (.pointer (some (eaddr kv 1 2))) w2 K=K (vs.getD 2 undef) w2:=λK=>(g w2 a 2 oM K).2;have z:=Ints.ext (f 0 oM) a;have E:=Ints.ext (f 1 oM) a;have V2:=Ints.ext (f 2 oM) a;simp(disch:=exact oS) only[e w2 a,B,C,T,U,A2,B2,z.iaddr,z.load,push_cast,Q1];have A:=S.grow a;refine sifs7_spec hn (y.ext a λ_ h _=>h) A.dl E V2 oM oM (get 1 oM) (get 2 oM) ((get 0 oM).get oM) λY G x r zs d p u X a8 l=>?_;simp only[push_cast,Q1];exact A.res d p (qX u X) λR e4 k v=>m R G x r zs e4 k v a8 l
end
section
variable {w:World} {K:oK} {D F Y S O:Nat->Prop} {n b4 b8:Nat} {v v' xv dv tv kv:Value} {cs cs':List Value} {st st':Option M.Gs} {a b c m x y r:Int} {xs:List Int} {ds:List M.Dcl} {t:M.Tm} {rs:List (List Int)}
theorem cutEq {lo hi:Nat} {kl kh:IntKind} (h:Ints F w v xs) (k:lo<=hi) (j:hi<=xs.length):∃v',(∀(w':World) (K:oK),xm zg v (some (.int kl lo)) (some (.int kh hi)) none w' K=K v' w')/\Ints F w v' ((xs.drop lo).take (hi-lo)):=by
 have d:elB zg 1=true:=Q4;obtain⟨hu,hs⟩:=YS d;have hlen:((xs.drop lo).take (hi-lo)).length=hi-lo:=by rw[gi,pf];omega
 obtain⟨a,c,rfl,g,i,b⟩:=h.shape;rw[V0,V0] at g;refine⟨sliced a lo hi c 1,λw' K=>y5 ?_,?_⟩
 ·rw[V0,V0,run_sliceAt_slice w' zg _ _ _ _ hu,run_slice_lh w' zg _ _ _ hu kl kh lo hi oM oM oM,Go.Vc.run_sizeOf hs];simp[Result.andThen]
 ·have key:=Ints.cutLH (t:=zg) (kl:=kl) (kh:=kh) (w':=w) (K:=λv' w'=>v'=sliced a lo hi c 1->Ints F w v' ((xs.drop lo).take (hi-lo))) h d k j λv' f _=>f;rw[V0,V0] at key;have e:xm zg (.slice a xs.length c) (some (.int kl lo)) (some (.int kh hi)) none w (λv' w'=>v'=sliced a lo hi c 1->Ints F w v' ((xs.drop lo).take (hi-lo)))=(sliced a lo hi c 1=sliced a lo hi c 1->Ints F w (sliced a lo hi c 1) ((xs.drop lo).take (hi-lo))):=y5 (by
   rw[run_sliceAt_slice w zg _ _ _ _ hu,run_slice_lh w zg _ _ _ hu kl kh lo hi oM oM oM,Go.Vc.run_sizeOf hs];simp[Result.andThen];rfl)
  rw[e] at key;exact key rfl
theorem qz0 (ps:List (M.Bd (List Int))) (p:M.Bd (List Int)):M.seqB (ps++[p])=(M.seqB ps).bind λrs=>p.map λr=>rs++[r]:=by
 induction ps with
 |nil=>rfl
 |cons q ps a=>
  show(q.bind λr=>(M.seqB (ps++[p])).map (r:: ·))=((q.bind λr=>(M.seqB ps).map (r:: ·)).bind λrs=>p.map λr=>rs++[r]);rw[M.Bd.bind_assoc];congr 1
  funext r
  rw[a];unfold M.Bd.map;rw[M.Bd.bind_assoc,M.Bd.bind_assoc];congr 1
  funext rs
  rw[M.Bd.bind_assoc];rfl
theorem x80 {ps:List (M.Bd (List Int))} {p:M.Bd (List Int)} {st a st2:Option M.Gs} {rs:List (List Int)} {r:List Int} (h:M.Bd.Out n (M.seqB ps) st a rs) (b:M.Bd.Out n p a st2 r):M.Bd.Out n (M.seqB (ps++[p])) st st2 (rs++[r]):=by
 rw[qz0];exact M.Bd.Out.bind h (M.Bd.Out.map _ b)
theorem ks_few (hs:M.sortM ds t≠ -1):t.ks.length<=3:=by
 obtain⟨a,c,b⟩:=M.right_op hs;have h:M.arity t.op<=3:=by
  unfold M.arity;repeat' split
  all_goals omega
 omega
theorem sdo8_spec (ac:M.declOk ds=true) (hn:n<=8):∀(t:M.Tm),M.sortM ds t≠ -1->∀{w:World} {K:oK} {D:Nat->Prop} {cs:List Value} {st:Option M.Gs} {tv:Value} {Fd Ft:Nat->Prop},MkR n D w cs st->(∀b,D b->b<w.heap.size)->DclsR Fd w dv ds->TermR Ft w tv t->
  (∀w' cs' st' r zs,Ext w w'->MkR n D w' cs' st'->Ints (New w) w' r zs->SnL st' zs->M.Bd.Out n (M.termB ds t) st st' zs->K (.tuple #[.agg ⟨cs'⟩,r]) w')->
  vcall yA0 #[.agg ⟨cs⟩,dv,tv] w K:=by
 refine M.Tm.ind λt ih hs w K D cs st tv Fd Ft hk hD ay ht hK=>?_;obtain⟨kw,rfl,bz⟩:=ht;refine zf {loops:=[(3,[8,9])]} Tryz.func96 ?_;have ci:=ks_few hs;refine Fm.start2 hk hD λb4 b5 b8 w1 h1 aw c8=>?_;refine yj Ql qQ λb6 w2 cq az cx bp=>?_;have c9:OwnV zJ w2 (.slice (some ⟨b6,0,none⟩) 0 0) []:=Blk.own1 (t:=zJ) (cs:=[]) (by rw[UL];exact bp) (gQ _) rfl rfl oM;have h2:Fm n D (O1 (.slice (some ⟨b6,0,none⟩) 0 0)) w b4 b8 w2 st:=h1.own (S:=λ_=>False) az (λb l=>l) λb l=>by
  have e:b6=b:=gh l;exact⟨oM,.inr oM⟩
 have ct:=aw.lt;have bs:TmsR (Low w) w kw t.ks:=bz.weaken λb _ hl=>hl;refine vloop_up t.ks.length (λi u w'=> ∃kv E vs rs,u=[kv,nI i]/\Fm n D (O1 kv) w b4 b8 w' E/\Blk w' b5 [nI t.op,nI t.a,nI t.b,.string t.s,kw] za/\(∀b,kv.ownBlock=some b->b≠b5)/\OwnV zJ w' kv vs/\vs.length=i/\rs.length=i/\
  (∀j,j<i->Ints (Kp b4 b8 (O1 kv)) w' (vs.getD j undef) (rs.getD j []))/\(∀r,r∈rs->SnL E r)/\M.Bd.Out n (M.seqB ((t.ks.take i).map (M.termB ds))) st E rs)
  ⟨_,st,[],[],rfl,h2,aw.ext az,λb l=>by have e:b6=b:=gh l;omega,c9,rfl,rfl,λj hj=>absurd hj oM,(λr hr=>by cases hr),M.Bd.Out.ret _ _⟩ ?_
 rintro i _ g w3 C hi ⟨kv,E,vs,rs,rfl,T,m,bb,ao,av,be,hint,au,ae⟩ hC;have al:TmsR (Low w) w3 kw t.ks:=bs.ext T.ext;simp(disch:=exact oS) only[push_cast,m.ld4,al.len];refine zb (λa=>?_) (λa=>?_)
 ·have N:i<t.ks.length:=oM;refine spec_nil λvz f bj e4 cj=>?_;refine zd λR p _=>?_;have y:=e4.trans p;have h5:=T.grow y;have V:=m.ext y;have ax:=al.ext y;obtain⟨c5,z,b3⟩:=h5.call;simp(disch:=exact oS) only[push_cast,V.ld4,ax.iaddr,b3 R (Same.refl _ _),Q1];refine ax.load zc N λx hx=>?_;simp only[push_cast,Q1];have I:t.ks.getD i default∈t.ks:=M.getD_mem N _;refine ih _ I ((M.sort_parts hs).2.1 _ I) z h5.dl (ay.ext h5.ext) hx λw6 cn bl r zs a9 A F bi ab=>?_;simp only[push_cast,Q1];refine h5.put a9 A λw7 h7 ad bk=>?_
  try simp only[push_cast,Q1,gm]
  have l5:=h5.lt4;have ar:Ints (Kp b4 b8 (O1 kv)) w7 r zs:=Ints.same (Ints.weaken (F':=Kp b4 b8 (O1 kv)) F λb l _=>by
   have cp:R.heap.size<=b:=l;exact⟨oM,oM,λhO=>by have:=(h5.off b hO).1;omega⟩) ad λb l _ e=>l.1 e
  have ap:OwnV zJ w7 kv vs:=((ao.ext y).ext a9).same ad λb l=>(T.off b l).2.2.1;have bq:=(V.ext a9).same ad (λe=>c8.2.1 e);have am:∀j,j<i->Ints (Kp b4 b8 (O1 kv)) w7 (vs.getD j undef) (rs.getD j []):=λj hj=>Ints.kp4 (Ints.ext (Ints.ext (hint j hj) y) a9) ad;refine zC Ql qQ JF rfl (Sl.cells1 ar) λb9 w9 cr aa cy br=>?_;refine(ap.ext aa).app1 Y0 br (Sl.one ar) oM oM λv10 w10 ai a0 Y=>?_
  try simp(disch:=omega) only[push_cast,zj]
  have bo:Fm n D (O1 v10) w b4 b8 w10 bl:=(h7.grow aa).own a0 (λb l=>l) λb l=>⟨ai.lt l,Y b l⟩;have b2:∀{xv:Value} {xs:List Int},Ints (Kp b4 b8 (O1 kv)) w7 xv xs->Ints (Kp b4 b8 (O1 v10)) w10 xv xs:=λh=>Ints.kpO (Ints.ext h aa) a0 (λb l=>l) λb l=>Y b l;have ag:=bq.ext aa;have cu:=ag.lt;refine hC N _ _ ⟨v10,bl,vs++[r],rs++[zs],by simp,bo,ag.same a0 (λe=>bb _ e rfl),λb l=>(Y b l).elim (bb b) λh=>oM,ai,by simp[av],by simp[be],λj hj=>?_,λq hq=>?_,?_⟩
  ·by_cases c:j<i
   ·rw[Jz oM,Jz oM];exact b2 (am j c)
   ·have:j=i:=oM;subst this;rw[JA av,JA be];exact b2 ar
  ·rcases gr.1 hq with h|h
   ·exact(au q h).out ab
   ·rw[gz.1 h];exact bi
  ·rw[M.take_add N default,gE];exact x80 ae ab
 have N:i=t.ks.length:=oM
 subst N;rw[gF] at ae;obtain⟨bf,cc⟩:=M.seq_reach ae.reach;have hlen:∀j,j<t.ks.length->(rs.getD j []).length=M.lenS (M.sortM ds (M.kid t j)):=λj hj=>by
  have I:t.ks.getD j default∈t.ks:=M.getD_mem hj _;have:=M.term_len ac _ ((M.sort_parts hs).2.1 _ I) (cc j hj);rw[this];rfl
 have W:KidsS w3 kv rs:=⟨vs,_,ao.vals,oM,λj hj=>Ints.weaken (hint j oM) λ_ _ _=>trivial⟩;have fin:∀{af:Option M.Gs} {zs:List Int},M.Bd.Out n (M.nodeB ds t rs) E af zs->M.Bd.Out n (M.termB ds t) st af zs:=λh=>by
  rw[M.termB_eq];exact M.Bd.Out.bind ae h
 have a6:∀w',Ext w3 w'->TermR (Low w) w' (.agg ⟨[nI t.op,nI t.a,nI t.b,.string t.s,kw]⟩) t:=λw' he=>⟨kw,rfl,al.ext he⟩;obtain⟨c3,O,k⟩:=T.call;have X:∀(w':World) (K:oK),vbi .len [zJ] zV [kv] w' K=K (nI t.ks.length) w':=λw' K=>by rw[ao.vals.len Zw0,av]
 rw[X];simp only[push_cast];obtain⟨co,hp,cw⟩:=M.right_op hs;obtain⟨q1,q2,q3,q4,q5,q6,q7⟩:=M.node_right ac hs (L:=λi=>(rs.getD i []).length) hlen;have get:∀i,i<rs.length->SnL E (rs.getD i []):=λi hi=>au _ (M.getD_mem hi []);refine zb (λc0=>?_) (λc0=>?_)
 ·have h0:t.ks.length=0:=oM;refine zd λf d _=>?_;have o:=m.ext d;simp(disch:=exact oS) only[push_cast,k f d,o.ldAgg (t:=za) zc,Q1];refine sleaf8_spec (n:=n) (st:=E) ac hs h0 (ay.ext (T.ext.trans d)) (a6 f d) λR r zs p B J G aq=>?_;simp only[k R (d.trans p),Q1,gm];have z4:=d.size;refine T.res (d.trans p) (O.ext (d.trans p) λ_ h _=>h) (qX B λb l=>by have:=J b l;omega) λw6 e6 A F=>hK w6 c3 E r zs e6 A F G (fin ?_);have:rs=[]:=Pn.1 oM;rw[this];exact aq
 have bc: ¬(t.op=20\/t.op=21\/t.op=24):=λh=>by
  have:M.arity t.op=0:=by rcases h with h|h|h<;>rw[h]<;>decide
  omega
 obtain⟨H,U,Q⟩:=W.vals;simp(disch:=exact oS) only[push_cast,m.ld0];refine zb (λc=>?_) (λcm=>?_)
 ·obtain⟨k1,b0,ba,aL,L4⟩:=q5 c;have cl:t.a<((rs.getD 0 []).length:Int):=aL;have ck:(rs.getD 0 []).length<=4:=L4;refine zd λf d _=>?_;have o:=m.ext d;have A0:∀w',Ext w3 w'->∀K:oK,y1 zJ kv (nI 0) w' K=K (.pointer (some (eaddr kv 1 0))) w':=λw' he K=>(U w' he 0 oM K).1;have B0:∀w',Ext w3 w'->∀K:oK,zt zg (.pointer (some (eaddr kv 1 0))) w' K=K (H.getD 0 undef) w':=λw' he K=>(U w' he 0 oM K).2;obtain⟨cv,bu,bt⟩:=cutEq (kl:= .i64) (kh:= .i64) (lo:=t.b.toNat) (hi:=(t.a+1).toNat) (Q 0 oM) oM oM;have ah:∀(w':World) (K:oK),xm zg (H.getD 0 undef) (some (nI t.b)) (some (nI (t.a+1))) none w' K=K cv w':=λw' K=>by
   have:=bu w' K;rwa[show((t.b.toNat:Nat):Int)=t.b by omega,show(((t.a+1).toNat:Nat):Int)=t.a+1 by omega] at this
  simp(disch:=exact oS) only[push_cast,k f d,A0 f d,B0 f d,o.ld1,o.ld2,zj,ah,Q1];refine spec_nil λv5 R B e5 J=>?_;have y:=d.trans e5;have V:=o.ext e5;simp(disch:=exact oS) only[push_cast,k R y,A0 R y,B0 R y,V.ld1,V.ld2,zj,ah,Q1,gm];refine B.app xp (Ints.ext bt y) (by simp;omega) (by simp;omega) λv6 w6 ab bg c4=>?_;have z4:=d.size;have z5:=e5.size;have ak:Ext f w6:=Ext.then e5 bg λb l=>J b l;simp(disch:=exact oS) only[push_cast,k w6 (d.trans ak),Q1,gm];refine T.res (d.trans ak) (O.ext (d.trans ak) λ_ h _=>h) (qX ab λb l=>(c4 b l).elim (λh=>by have:=J b h;omega) λh=>oM) λw7 e7 bw bk=>hK w7 c3 E v6 _ e7 bw bk (λx hx=>?_) (fin ?_)
  ·rw[Gq] at hx;exact get 0 oM x (GR (gS hx))
  ·rw[Gq];unfold M.nodeB;rw[q0 oM,q0 oM,q0 oM,q0 oM,q0 oM,q0 oM,q0 oM,K3 c,show(t.a-t.b+1).toNat=(t.a+1).toNat-t.b.toNat by omega];exact M.Bd.Out.ret _ _
 try simp(disch:=exact oS) only[push_cast,m.ld0]
 refine zb (λc=>?_) (λcg=>?_)
 ·simp(disch:=exact oS) only[push_cast,k w3 (Same.refl _ _),m.ldAgg (t:=za) zc];refine slogic8_spec ac hs oM (λh=>bc (.inr (.inr h))) hn O T.dl (a6 w3 (Same.refl _ _)) W bf hlen au λf bn af r zs d bv bj bh ca=>?_;simp only[push_cast];exact T.res d bv bj λR e5 z G=>hK R bn af r zs e5 z G bh (fin ca)
 have an:M.nodeB ds t rs=if t.op<=2 then M.unB t.op (rs.getD 0 []) else if 15<=t.op/\t.op<=17 then(M.cmpB t.op (rs.getD 0 []) (rs.getD 1 [])).map λv=>[v] else M.binB t.op (rs.getD 0 []) (rs.getD 1 []):=by
  unfold M.nodeB;rw[q0 oM,q0 oM,q0 oM,q0 oM,q0 oM,q0 oM,q0 oM,q0 oM]
 rw[an] at fin;rw[X];simp only[push_cast];refine zb (λc1=>?_) (λc1=>?_)
 ·have Z:t.op<=2:=Gn λh=>by
   by_cases aj:15<=t.op
   ·have:=(q4 aj oM).1;omega
   ·by_cases bm:t.op=14
    ·have:=(q3 bm).1;omega
    ·have:=(q2 oM oM).1;omega
  rw[K3 Z] at fin;obtain⟨k1,l1,l4⟩:=q1 oM Z;have ch:(rs.getD 0 []).length<=4:=l4;refine zd λf d _=>?_;have o:=m.ext d;have A0:∀K:oK,y1 zJ kv (nI 0) f K=K (.pointer (some (eaddr kv 1 0))) f:=λK=>(U f d 0 oM K).1;have B0:∀K:oK,zt zg (.pointer (some (eaddr kv 1 0))) f K=K (H.getD 0 undef) f:=λK=>(U f d 0 oM K).2;simp(disch:=exact oS) only[push_cast,k f d,A0,B0,o.ld0,Q1];have h4:=T.grow d;refine sun7_spec oM hn (O.ext d λ_ h _=>h) h4.dl (Ints.ext (Q 0 oM) d) oM (get 0 oM) λR a8 a7 r zs p z G a5 B=>?_;simp only[push_cast,Q1];exact h4.res p z G λw6 e6 A F=>hK w6 a8 a7 r zs e6 A F a5 (fin B)
 have bd:3<=t.op:=Gn λh=>by have:=(q1 oM oM).1;omega
 rw[q0 oM] at fin
 try simp(disch:=exact oS) only[push_cast,m.ld0]
 refine zb (λaj=>?_) (λaj=>?_)
 ·rw[K3 oM] at fin;obtain⟨k1,l0,l1,l4⟩:=q4 oM oM;have ce:(rs.getD 0 []).length=(rs.getD 1 []).length:=l0;have cf:1<=(rs.getD 0 []).length:=l1;have ch:(rs.getD 0 []).length<=4:=l4;refine zd λf d _=>?_;have o:=m.ext d;have A0:∀K:oK,y1 zJ kv (nI 0) f K=K (.pointer (some (eaddr kv 1 0))) f:=λK=>(U f d 0 oM K).1;have B0:∀K:oK,zt zg (.pointer (some (eaddr kv 1 0))) f K=K (H.getD 0 undef) f:=λK=>(U f d 0 oM K).2;have A1:∀K:oK,y1 zJ kv (nI 1) f K=K (.pointer (some (eaddr kv 1 1))) f:=λK=>(U f d 1 oM K).1;have B1:∀K:oK,zt zg (.pointer (some (eaddr kv 1 1))) f K=K (H.getD 1 undef) f:=λK=>(U f d 1 oM K).2;simp(disch:=exact oS) only[push_cast,k f d,A0,B0,A1,B1,o.ld0,Q1];have h4:=T.grow d;refine scmp7_spec oM oM hn (O.ext d λ_ h _=>h) h4.dl (Ints.ext (Q 0 oM) d) (Ints.ext (Q 1 oM) d) ce cf oM (get 0 oM) (get 1 oM) λR a8 a7 r p z cb B=>?_;simp only[push_cast,Q1];refine h4.put p z λw6 h6 bg F=>?_
  try simp only[push_cast,Q1,gm]
  obtain⟨c6,A,b7⟩:=h6.call;simp only[b7 w6 (Same.refl _ _)];refine spec_one λw7 rv b1 ap c7=>?_;exact h6.res b1 (A.ext b1 λ_ h _=>h) (qX ap c7) λw8 e8 bx cd=>hK w8 c6 a7 rv [r] e8 bx cd (SnL.one cb) (fin (M.Bd.Out.map _ B))
 rw[q0 oM] at fin;have c2:t.ks.length=2/\(t.op≠14->(rs.getD 0 []).length=(rs.getD 1 []).length)/\1<=(rs.getD 0 []).length/\(rs.getD 0 []).length<=8/\(rs.getD 1 []).length<=8:=by
  by_cases c:t.op=14
  ·obtain⟨a1,a2,a3,a4⟩:=q3 c;exact⟨a1,λh=>absurd c h,a2,oM,oM⟩
  ·obtain⟨a1,a2,a3,a4⟩:=q2 oM oM;exact⟨a1,λ_=>a2,a3,oM,oM⟩
 obtain⟨k1,l0,l1,l2,l3⟩:=c2;refine zd λf d _=>?_;have o:=m.ext d;have A0:∀K:oK,y1 zJ kv (nI 0) f K=K (.pointer (some (eaddr kv 1 0))) f:=λK=>(U f d 0 oM K).1;have B0:∀K:oK,zt zg (.pointer (some (eaddr kv 1 0))) f K=K (H.getD 0 undef) f:=λK=>(U f d 0 oM K).2;have A1:∀K:oK,y1 zJ kv (nI 1) f K=K (.pointer (some (eaddr kv 1 1))) f:=λK=>(U f d 1 oM K).1;have B1:∀K:oK,zt zg (.pointer (some (eaddr kv 1 1))) f K=K (H.getD 1 undef) f:=λK=>(U f d 1 oM K).2;simp(disch:=exact oS) only[push_cast,k f d,A0,B0,A1,B1,o.ld0,Q1];have h4:=T.grow d;refine sbin7_spec bd oM hn (O.ext d λ_ h _=>h) h4.dl (Ints.ext (Q 0 oM) d) (Ints.ext (Q 1 oM) d) l0 l1 l2 l3 (get 0 oM) (get 1 oM) λR a8 a7 r zs p z G a5 B=>?_;simp only[push_cast,Q1];exact h4.res p z G λw6 e6 A F=>hK w6 a8 a7 r zs e6 A F a5 (fin B)
end
section
variable {n:Nat} {st st':Option M.Gs} {a b c:Int} {ds:List M.Dcl} {t:M.Tm}
theorem bits_nat (a:M.declOk ds=true):M.bits ds=(((M.bits ds).toNat:Nat):Int)/\(M.bits ds).toNat<=8:=by
 have c:=(M.decl_iff.1 a).2.2;have b:=(dcl_small a (i:=ds.length) (gB _)).1;rw[M.bitT_all] at b;exact⟨oM,oM⟩
theorem out_lens {zs:List Int} (b:M.declOk ds=true) (hs:M.sortM ds t≠ -1) (c:M.Bd.Out n (M.termB ds t) st st' zs):zs.length=M.lenS (M.sortM ds t)/\zs.length<=4:=by
 have a:=M.term_len b t hs c.reach;have d:=M.sort_range b t;refine⟨a,?_⟩;rw[a];unfold M.lenS;omega
end
section
variable {w:World} {K:oK} {F F' D G:Nat->Prop}
@[push_cast] theorem bd_TZ:yh za [] w K=K (.agg ⟨JG⟩) w:=zR qj (us:=[]) rfl rfl
theorem tms_op {kv:Value} {ks:List M.Tm} (h:TmsR F w kv ks) {i:Nat} (hi:i<ks.length):zt zV (.pointer (some ((eaddr kv 5 i).add 0))) w K=K (nI (ks.getD i default).op) w:=by
 obtain⟨css,hs,c,a⟩:=h;obtain⟨b,e,_⟩:=(a i hi).inv;exact hs.ldField Wo oM (by rw[e];rfl)
theorem tms_kids {kv:Value} {ks:List M.Tm} (h:TmsR F w kv ks) {i:Nat} (hi:i<ks.length) (c:∀a,TmsR F w a (ks.getD i default).ks->K a w):zt zl (.pointer (some ((eaddr kv 5 i).add 4))) w K:=by
 obtain⟨css,hs,f,d⟩:=h;obtain⟨a,e,b⟩:=(d i hi).inv;rw[hs.ldField zf0 oM (by rw[e];rfl)];exact c a b
theorem TermSame_spec:∀(t:M.Tm) {w:World} {K:oK} {F G:Nat->Prop} {va vb:Value} {u:M.Tm},TermR F w va t->TermR G w vb u->(∀w',Ext w w'->K (.bool (decide (t=u))) w')->vcall Kk #[va,vb] w K:=by
 refine M.Tm.ind λt ih w K F G va vb u ha hb T=>?_;refine zf {} Tryz.func13 ?_;obtain⟨kva,rfl,p⟩:=ha;obtain⟨kvb,rfl,D⟩:=hb;refine zk λb1 w1 a0 N a4 J=>?_;refine zk λb2 w2 a1 s a5 k=>?_;have I:=J.ext s;have f:=N.trans s;have no:∀w',Ext w w'->t≠u->K (.bool false) w':=λw' h hn=>by
  have:=T w' h;rwa[gk hn] at this
 simp only[push_cast,I.ld0,k.ld0,I.ld1,k.ld1,I.ld2,k.ld2,I.ld3,k.ld3,I.ld4,k.ld4];refine zb (λV=>?_) (λe=>no _ f λh=>e (by rw[h]));refine zb (λW=>?_) (λe=>no _ f λh=>e (by rw[h]));refine zb (λX=>?_) (λe=>no _ f λh=>e (by rw[h]));refine zb (λY=>?_) (λe=>no _ f λh=>e (by rw[h]));refine zf {loops:=[(4,[17])]} Tryz.func37 ?_;have B:=p.ext f;have E:=D.ext f;have a8:=p.small;simp only[push_cast,B.len,E.len];refine zb (λe=>no _ f λh=>e (by rw[h])) (λel=>?_);have el:t.ks.length=u.ks.length:=oM
 refine vloop_up t.ks.length (λi x w'=>x=[nI i]/\Ext w w'/\∀j,j<i->t.ks.getD j default=u.ks.getD j default) ⟨rfl,f,λj U=>absurd U oM⟩ ?_;rintro i _ _ R C hi ⟨rfl,c,g⟩ hC;have l:=p.ext c;have L:=D.ext c;simp(disch:=exact oS) only[push_cast,l.len];refine zb (λa=>?_) (λa=>?_)
 ·simp(disch:=exact oS) only[push_cast,l.iaddr];refine l.load zc oM λx hx=>?_;obtain⟨cx,rfl,m⟩:=hx.cells;refine zi zp λb4 w4 a2 v a6 Z=>?_;refine stTerm Z rfl ((m.weaken (F':=λb=>b<R.heap.size) λb _ h=>h).ext v) λS O a9 h5=>?_;have o:Ext R S:=Ext.then v O λy H=>by subst H;omega
  have r:=L.ext o;simp(disch:=exact oS) only[push_cast,r.iaddr];refine r.load zc oM λy H=>?_;obtain⟨cy,rfl,n⟩:=H.cells;refine zi zp λb6 w6 a3 z a7 h6=>?_;refine stTerm h6 rfl ((n.weaken (F':=λb=>b<S.heap.size) λb _ h=>h).ext z) λw7 Q aa h7=>?_;have d:Ext S w7:=Ext.then z Q λy H=>by subst H;omega
  rw[(h5.ext d).ldAgg (t:=za) (by rw[zU m];exact zc),h7.ldAgg (t:=za) (by rw[zU n];exact zc)];simp only[push_cast,gK,Gq];have q:=c.trans (o.trans d);refine ih _ (M.getD_mem oM _) (m.ext (o.trans d)).term (n.ext d).term λw8 A=>?_;simp only[push_cast];refine zn (λb=>?_) (λb=>?_)
  ·rw[gV,decide_eq_false_iff_not] at b;exact no _ (q.trans A) λh=>b (by rw[h])
  ·rw[Gi,gd] at b;rw[inc64' oM];refine hC oM _ _ ⟨rfl,q.trans A,λj U=>?_⟩;by_cases e:j<i
   ·exact g j e
   ·have:j=i:=oM;subst this;exact b
 ·have:t=u:=M.tm_ext V W X Y (Gd el λj J k=>by
   have:=g j oM;rwa[X0,gl J,X0,gl k] at this)
  have:=T R c;rwa[gn ‹t=u›] at this
theorem falseTerm_spec (i:∀w' v,Ext w w'->TermR (λb=>w.heap.size<=b) w' v M.flsT->K v w'):vcall Ji #[] w K:=by
 refine zf {} Tryz.func214 ?_;refine zi zp λb1 w1 k d m g=>?_;simp only[push_cast];refine zW0 (XD (o:=24) (F:=λ_=>False)) λw2 a c n u=>?_;simp only[push_cast];have l:TmR (λb=>b≠b1/\w.heap.size<=b) w2 _ M.flsT:=(TmR.of (t:=M.flsT) u).weaken λz r _=>by
  rcases r with h|h
  ·exact h.elim
  ·exact⟨oM,oM⟩
 refine xE (g.ext c) rfl l (λx p=>p.1) λA f s e=>?_;exact i _ _ (Ext.then (d.trans c) f λy q=>by subst q;omega) (e.weaken λb j _=>j.2)
theorem constant_spec {s n:Int} (f:∀w' v,Ext w w'->TermR (λb=>w.heap.size<=b) w' v (M.constM s n)->K v w'):vcall Kf #[nI s,nI n] w K:=by
 refine zf {} Tryz.func179 ?_;refine zi zp λb1 w1 q e r l=>?_;unfold M.constM at f;simp only[push_cast];refine zb (λa=>?_) (λa=>?_)
 ·rw[K3 a] at f;refine xE l rfl (ZY 20 s n _:TmR (λ_=>False) w1 _ _) (λx k=>k.elim) λp d i c=>?_;exact f _ _ (Ext.then e d λy h=>by subst h;omega) (c.weaken λb j _=>j.elim)
 ·rw[q0 a] at f;refine zb (λb=>?_) (λb=>?_)
  ·rw[K3 b] at f;refine xE l rfl (ZY 24 0 0 _:TmR (λ_=>False) w1 _ _) (λx k=>k.elim) λp d i c=>?_;exact f _ _ (Ext.then e d λy h=>by subst h;omega) (c.weaken λb j _=>j.elim)
  ·rw[q0 b] at f;refine falseTerm_spec λw2 v g o=>?_;obtain⟨cs,rfl,m⟩:=o.cells;refine xE (l.ext g) rfl m (λx k=>oM) λp d i c=>?_;exact f _ _ (Ext.then (e.trans g) d λy h=>by subst h;omega) (c.weaken λb j _=>by have:=e.size;omega)
theorem y50 {t:M.Tm} (h:t.op=20):M.fixedM t=if t.ks=[]/\t.s=M.nada/\M.vok t.a t.b=true then some t.b else none:=by
 unfold M.fixedM;rw[q0 (λe=>by rw[e] at h;exact absurd h dC),q0 (λe=>by rw[e] at h;exact absurd h dC)];by_cases c:t.ks=[]/\t.s=M.nada/\M.vok t.a t.b=true
 ·rw[K3 c,K3 ⟨h,c⟩]
 ·rw[q0 c,q0 (λx=>c x.2)]
theorem nil_len {ks:List M.Tm}:((ks.length:Int)=0)↔ks=[]:=by
 rw[<-Pn];omega
theorem YT {v:Value} {t:M.Tm} (O:TermR F w v t) (R:∀w',Ext w w'->K (.tuple #[nI ((M.fixedM t).getD 0),.bool (M.fixedM t).isSome]) w'):vcall Jk #[v] w K:=by
 refine zf {cuts:=[(16388,[8])]} Tryz.func178 ?_;have A:=O;obtain⟨kv,rfl,H⟩:=O;refine zk λb1 w1 S q T m=>?_;have out:∀w' o,Ext w w'->M.fixedM t=o->K (.tuple #[nI (o.getD 0),.bool o.isSome]) w':=λw' o h e=>by rw[<-e];exact R w' h
 have U:(M.truT).s=M.nada/\(M.flsT).s=M.nada:=⟨rfl,rfl⟩;simp only[push_cast,m.ld3];refine zb (λa=>?_) (λa=>?_)
 ·refine out w1 none q ?_;have I:t.s≠M.nada:=a;unfold M.fixedM;rw[q0 (λe=>I (by rw[e];rfl)),q0 (λe=>I (by rw[e];rfl)),q0 (λe=>I e.2.2.1)]
 have hs:t.s=M.nada:=by
  by_cases h:t.s=M.nada
  ·exact h
  ·exact absurd h a
 refine zo (λu w'=> ∃b:Bool,u=[.bool b]/\Ext w1 w'/\(b=true↔t.op=20/\t.ks=[]/\M.vok t.a t.b=true)) (λC D=>?_) ?_
 ·simp only[push_cast,m.ld0];refine zb (λc=>?_) (λc=>?_)
  ·simp only[push_cast,m.ld4,H.len];refine zb (λd=>?_) (λd=>?_)
   ·try simp only[push_cast,m.ld1,m.ld2]
    refine VecOk_spec λw2 i=>?_;exact D _ _ ⟨_,rfl,i,⟨λh=>⟨c,nil_len.1 d,h⟩,λh=>h.2.2⟩⟩
   ·exact D _ _ ⟨false,rfl,Same.refl _ _,⟨λh=>(by cases h),λh=>absurd (nil_len.2 h.2.1) d⟩⟩
  ·exact D _ _ ⟨false,rfl,Same.refl _ _,⟨λh=>(by cases h),λh=>absurd h.1 c⟩⟩
 rintro u g w2 ⟨b,rfl,i,N⟩;have J:=m.ext i;have j:=q.trans i;simp only[push_cast];refine zn (λc=>?_) (λc=>?_)
 ·obtain⟨c1,c2,c3⟩:=N.1 c;simp only[push_cast,J.ld2];refine out w2 (some t.b) j ?_;rw[y50 c1,K3 ⟨c2,hs,c3⟩]
 have z: ¬(t.op=20/\t.ks=[]/\t.s=M.nada/\M.vok t.a t.b=true):=λh=>by
  have:=N.2 ⟨h.1,h.2.1,h.2.2.2⟩;rw[c] at this;cases this
 rw[J.ldAgg (t:=za) zc]
 try simp only[push_cast]
 refine TermSame_spec t (A.ext j) (XD (o:=24) (F:=λ_=>False)) λW r=>?_;have n:=j.trans r;refine zb (λd=>?_) (λd=>?_)
 ·exact out W (some 1) n (K3 d)
 have B: ¬t=M.truT:=d;refine zd λX y _=>?_;have k:=n.trans y;have L:=J.ext (r.trans y);simp only[push_cast,L.ld0,Q1];refine zb (λe=>?_) (λe=>?_)
 ·simp only[push_cast,L.ldAgg (t:=za) zc,Q1];refine falseTerm_spec λY fv l G=>?_;have V:=L.ext l;simp only[push_cast,V.ldAgg (t:=za) zc,Q1,gm];refine TermSame_spec t (A.ext (k.trans l)) G λQ E=>?_;have p:=k.trans (l.trans E);refine zb (λf=>?_) (λf=>?_)
  ·refine out Q (some 0) p ?_;unfold M.fixedM;rw[q0 B,K3 f]
  ·refine out Q none p ?_;unfold M.fixedM;rw[q0 B,q0 f,q0 z]
 ·refine out X none k ?_;unfold M.fixedM;rw[q0 B,q0 (λx=>e (by rw[x];rfl)),q0 z]
theorem jo {v:Value} {t:M.Tm} {n:Int} (i:TermR F w v t) (f:∀w',Ext w w'->K (.bool (M.isM t n)) w'):vcall qH0 #[v,nI n] w K:=by
 refine zf {} Tryz.func181 ?_;obtain⟨cs,rfl,a⟩:=i.cells;refine zk λb1 w1 g b h d=>?_;rw[d.ldAgg (t:=za) (by rw[zU a];exact zc)];refine YT (a.ext b).term λw2 c=>?_;have:=f w2 (b.trans c);unfold M.isM at this;simp only[push_cast];cases e:M.fixedM t with
 |none=>rw[e] at this;exact this
 |some m=>
  rw[e] at this;simp only[Gy] at this;exact this
theorem among_spec {v av:Value} {t:M.Tm} {xs:List Int} (z:TermR F w v t) (n:Ints G w av xs) (y:xs.length<=100) (m:∀w',Ext w w'->K (.bool (decide (t.op∈xs))) w'):vcall zO0 #[v,av] w K:=by
 refine zf {} Tryz.func183 ?_;obtain⟨kv,rfl,s⟩:=z;refine zk λb1 w1 r f x p=>?_;simp only[push_cast,p.ld0];refine zf {} Tryz.func215 ?_;refine zf {loops:=[(2,[8])]} Tryz.func251 ?_;have l:=n.ext f;simp only[push_cast,l.len];refine vloop_up xs.length (λi u w'=>u=[nI i]/\Ext w w'/\∀j,j<i->t.op≠xs.getD j 0) ⟨rfl,f,λj k=>absurd k oM⟩ ?_;rintro i _ _ o C hi ⟨rfl,c,d⟩ q;have g:=n.ext c;simp only[push_cast];refine zb (λa=>?_) (λa=>?_)
 ·simp(disch:=exact oS) only[push_cast,g.iaddr,g.load];refine zb (λb=>?_) (λb=>?_)
  ·have hm:t.op∈xs:=by rw[b];exact M.getD_mem oM _
   have:=m o c;rw[gn hm] at this
   try simp only[push_cast]
   rw[gn oM];exact this
  ·rw[inc64' oM];refine q oM _ _ ⟨rfl,c,λj k=>?_⟩;by_cases e:j<i
   ·exact d j e
   ·have:j=i:=oM;subst this;exact b
 ·have hm: ¬t.op∈xs:=λh=>by
   obtain⟨j,k,e⟩:=gx h;have:=d j oM;rw[X0,gl k] at this;exact this e.symm
  have:=m o c;rw[gk hm] at this;exact this
theorem chosen_spec {v:Value} {t:M.Tm} {b:Bool} (u:TermR F w v t) (k:∀w' v',Ext w w'->TermR F w' v' t->K (.tuple #[v',.bool b]) w'):vcall U5 #[.bool b,v] w K:=by
 refine zf {} Tryz.func182 ?_;obtain⟨cs,rfl,a⟩:=u.cells;refine zk λb1 w1 m c q i=>?_;refine zi zp λb2 w2 n d s j=>?_;rw[(i.ext d).ldAgg (t:=za) (by rw[zU a];exact zc)];have g:=c.trans d;have o:TmR (λb=>F b/\b<w.heap.size) w2 cs t:=(a.weaken (F':=λb=>F b/\b<w.heap.size) λb h p=>⟨h,p⟩).ext g;have A:=c.size;refine xE (K:=λr w=>K (.tuple #[r,.bool b]) w) j rfl o (λx C=>oM) λD f B e=>?_;exact k _ _ (Ext.then g f λy z=>by subst z;omega) (e.weaken λb l _=>l.1)
end
section
variable {w:World} {K:oK} {F F' D G:Nat->Prop}
theorem lv0 {b:Nat} {x:Value} {t0 t:TypeId} (h:Blk w b [x] t0) (a:oneB t=true):vlv t (oP b 0) w K=K x w:=Z20 (by rw[h.ld0 a];exact⟨rfl,rfl⟩)
def kn0 (ds:List M.Dcl):Int:=if M.declOk ds=true then 2^(M.bits ds).toNat else 0
theorem ya0 {ds:List M.Dcl}:∀{i:Nat},i<ds.length->M.bits (ds.take (i+1))=M.bits (ds.take i)+(ds.getD i (M.nada,0)).2:=λ{i} h=>by
 unfold M.bits;rw[Ps h,gE,PF,X0,gl h];simp
theorem bits_all {ds:List M.Dcl} (h:M.declOk ds=true) (i:Nat):0<=M.bits (ds.take i)/\M.bits (ds.take i)<=M.bits ds/\M.bits ds<=8:=by
 have hw:=λi (hi:i<ds.length)=>M.dcl_wide h hi;have c:=(M.decl_iff.1 h).2.2;have pos:∀d,d∈ds->0<=d.2:=λd a=>by
  obtain⟨j,b,rfl⟩:=gx a;have:=hw j b;rw[X0,gl b] at this;simp at this;omega
 refine⟨M.bits_nonneg λd a=>pos d (gS a),?_,c⟩;have e:M.bits ds=M.bits (ds.take i)+M.bits (ds.drop i):=by
  unfold M.bits;rw[<-PF,<-gE,pa]
 have:=M.bits_nonneg (ds:=ds.drop i) λd a=>pos d (GR a);omega
theorem pow8 {b:Int} (a:0<=b) (c:b<=8):1<=(2:Int)^b.toNat/\(2:Int)^b.toNat<=256:=by
 obtain⟨n,rfl⟩:∃n:Nat,b=n:=⟨b.toNat,oM⟩;have:n<=8:=oM
 have e:n=0\/n=1\/n=2\/n=3\/n=4\/n=5\/n=6\/n=7\/n=8:=oM
 rcases e with rfl|rfl|rfl|rfl|rfl|rfl|rfl|rfl|rfl<;>decide
theorem shl1 {c:Bool} {t:TypeId} {yk:IntKind} {y:Int} (a:0<=y) (b:y<=8):ql .shl t c (nI 1) (.int yk y) w K=K (nI (2^y.toNat)) w:=by
 rw[Wf a];have d:=pow8 a b;have e:min y.toNat IntKind.i64.bits=y.toNat:=GB (by show y.toNat<=64;omega);rw[e,Int.one_mul,zj oM oM]
theorem EnvMany_spec {v:Value} {ds:List M.Dcl} (g:DclsR F w v ds) (e:∀w',Ext w w'->K (nI (kn0 ds)) w'):vcall YR #[v] w K:=by
 refine zf {loops:=[(5,[3,11])]} Tryz.func48 ?_;refine DeclOk_spec g λw1 d=>?_;simp only[push_cast];unfold kn0 at e;have h:=g.ext d;refine zn (λa=>?_) (λa=>?_)
 ·rw[q0 (by simpa using a)] at e;exact e _ d
 have b:M.declOk ds=true:=by simpa using a
 rw[K3 b] at e;have q:=g.small;simp only[push_cast,h.len];refine vloop_up ds.length (λi u w'=>u=[nI (M.bits (ds.take i)),nI i]/\Ext w w') ⟨rfl,d⟩ ?_;rintro i _ _ w2 C hi ⟨rfl,c⟩ n;have f:=g.ext c;simp only[push_cast];refine zb (λa=>?_) (λa=>?_)
 ·simp(disch:=exact oS) only[push_cast,f.iaddr,f.load];refine zi x8 λb3 t o j p l=>?_;refine stDecl l λx k s m=>?_;simp only[push_cast,m.ld1];have b1:=bits_all b i;have b2:=bits_all b (i+1);rw[ya0 oM] at b2;rw[zj oM oM,inc64' oM];exact n oM _ _ ⟨by rw[ya0 oM],Ext.then (c.trans j) k λy r=>by subst r;have:=c.size;omega⟩
 ·have:i=ds.length:=oM;subst this;rw[gF];have b1:=bits_all b 0;have b2:=bits_all b ds.length;rw[gF] at b2;rw[shl1 b2.1 b2.2.2];exact e _ c
def jr0 (env:List Int) (i n:Nat):List Int:=env.take i++(env.getD i 0+1)::List.replicate n 0
theorem set_cut {env:List Int} {i m:Nat} {x:Int} (hi:i<env.length) (hm:m=m):(env.take (i+1)++List.replicate m 0).set i x=env.take i++x::List.replicate m 0:=by
 rw[List.set_append_left _ _ (by rw[gi];omega),Ps hi,G9 _ _ (by rw[gi];omega)];have:i-(env.take i).length=0:=by rw[gi];omega
 rw[this,Gj];rfl
theorem bump_zero {env:List Int} {i n:Nat} (hi:i<env.length) (a:i<n):(jr0 env i (n-i-1)).set i 0=env.take i++List.replicate (n-i) 0:=by
 unfold jr0;rw[G9 _ _ (by rw[gi];omega)];have:i-(env.take i).length=0:=by rw[gi];omega
 rw[this,show n-i=(n-i-1)+1 by omega,Pe];rfl
theorem yf0 {α:Type} {l r:List α} {i:Nat} {e:α} (h:l.length<=i):(l++r).getD i e=r.getD (i-l.length) e:=by
 rw[X0,gU h,<-X0]
theorem bump_ok {ds:List M.Dcl} {env:List Int} {i:Nat} (h:M.envOk ds env=true) (hi:i<ds.length) (k:env.getD i 0+1<2^((ds.getD i (M.nada,0)).2).toNat):M.envOk ds (M.bump env i)=true:=by
 obtain⟨c,m,d⟩:=M.env_ok h;have g:(M.bump env i).length=ds.length:=by unfold M.bump;rw[gg,gi,gG,gH];omega
 unfold M.envOk;rw[c,g];simp only[pz,decide_true,gY,gN];intro q a;have hw:=M.dcl_wide c a;obtain⟨_,_,n,_⟩:=M.vok_iff.1 (d q a);unfold M.bump;rcases Nat.lt_trichotomy q i with e|e|e
 ·rw[M.app_getD (by rw[gi];omega),M.take_getD e];exact d q a
 ·subst e;rw[yf0 (l:=env.take q) (by rw[gi];omega)];have:q-(env.take q).length=0:=by rw[gi];omega
  rw[this];exact M.vok_iff.2 ⟨hw.1,hw.2,by show 0<=env.getD q 0+1;omega,k⟩
 ·rw[yf0 (l:=env.take i) (by rw[gi];omega)];obtain⟨r,j⟩:∃r,q-(env.take i).length=r+1:=⟨q-(env.take i).length-1,by rw[gi];omega⟩;rw[j,G5];have f:(List.replicate (env.length-i-1) (0:Int)).getD r 0=0:=by
   rw[X0,Po];split<;>rfl
  rw[f];have:=pow8 (b:=(ds.getD q (M.nada,0)).2) oM oM;exact M.vok_iff.2 ⟨hw.1,hw.2,pw _,oM⟩
theorem environments_1_spec {yv:Value} {bd:Nat} {dv:Value} {t0:TypeId} {ds:List M.Dcl} {k:Int} {S:Nat->Prop} {R:Int->World->Prop} {Z:World->Prop} (r:M.declOk ds=true) (aj:0<=k) (hk:k<2^(M.bits ds).toNat)
  (E:Blk w bd [dv] t0) (U:DclsR F w dv ds) (ab: ¬S bd) (aa:∀b,F b->¬S b) (ac:∀b,S b->b<w.heap.size) (h0:R 0 w)
  (hR:∀j w' w'',R j w'->Same (λb=>w.heap.size<=b) w' w''->R j w'')
  (hy:∀(j:Int) (w':World) (v:Value) (env:List Int) (K':oK),0<=j->j<=k->R j w'->OwnI zg w' v env->(∀b,v.ownBlock=some b->w.heap.size<=b)->M.envOk ds env=true->M.rankE ds env=j->
   (j<k->∀w'',R (j+1) w''->Same S w' w''->K' (.bool true) w'')->(j=k->∀w'',Z w''->K' (.bool false) w'')->vcallv yv #[v] w' K')
  (hZ:∀w',Z w'->K (.tuple #[]) w'):vcall qd #[yv,oP bd 0] w K:=by
 refine zf {loops:=[(1,[]),(3,[4])]} Tryz.func81 ?_;have az:=U.small;have aw:=(M.decl_iff.1 r).1;rw[E.ld0 J3];simp only[push_cast,U.len];refine vmkS_own (z:= nI 0) xp rK xo rfl oM oM λv w1 hv o c=>?_;have a0:OwnI zg w1 v (List.replicate ds.length 0):=by unfold OwnI;rw[GO];exact hv
 have av:∀b,v.ownBlock=some b->b<w1.heap.size:=λb E=>a0.lt E;have b4:=o.size;have t:∀d,d∈ds->0<=d.2:=λd U=>by
  obtain⟨j,hj,rfl⟩:=gx U;have:=M.dcl_wide r hj;rw[X0,gl hj] at this;simp at this;omega
 have H:M.envOk ds (List.replicate ds.length 0)=true:=by
  unfold M.envOk;rw[r,gH];simp only[pz,decide_true,gY,gN];intro i hi;have:=M.dcl_wide r hi;have e:(List.replicate ds.length (0:Int)).getD i 0=0:=(by simp[X0,hi]);rw[e];refine M.vok_iff.2 ⟨this.1,this.2,pw _,?_⟩;have:=pow8 (b:=(ds.getD i (M.nada,0)).2) oM oM;omega
 let S':Nat->Prop:=λb=>S b\/v.ownBlock=some b
 refine j4 (λn u w'=> ∃(j:Int) (env:List Int),u=[]/\n=(k-j).toNat/\0<=j/\j<=k/\R j w'/\OwnI zg w' v env/\M.envOk ds env=true/\M.rankE ds env=j/\Same S' w1 w') (k-0).toNat
  ⟨0,_,rfl,rfl,pw _,aj,hR 0 w w1 h0 (o.mono λ_ _ h=>h.elim),a0,H,M.rank_zero _ _,Same.refl _ _⟩ ?_
 rintro _ _ _ w2 C ⟨j,env,rfl,rfl,ah,ai,a9,a1,g,l,ao⟩ hC;have T: ¬S' bd:=λh=>h.elim ab λh=>by have:=c _ h;have:=E.lt;omega
 have Q:∀b,F b->b<w.heap.size->¬S' b:=λb hF ak h=>h.elim (aa b hF) λh=>by have:=c _ h;omega
 have dcl:∀w',Same S' w1 w'->Blk w' bd [dv] t0/\DclsR (λb=>F b/\b<w.heap.size) w' dv ds:=λw' h=>
  ⟨(E.ext o).same h T,((U.weaken (F':=λb=>F b/\b<w.heap.size) λb h1 O=>⟨h1,O⟩).ext o).same h λb hF _=>Q b hF.1 hF.2⟩
 obtain⟨_,hlen,N⟩:=M.env_ok g;refine hy j w2 v env _ ah ai a9 a1 c g l (λak w3 a7 X=>?_) (λ_ w3 hz=>?_)
 ·simp only[push_cast,GX];have x:Same S' w1 w3:=ao.trans (X.mono λ_ _ h=> .inl h);have am:∀b,v.ownBlock=some b->¬S b:=λb E h=>by have:=ac b h;have:=c b E;omega
  have aq:=a1.same X am;obtain⟨ad,ag⟩:=dcl w3 x;rw[ad.ld0 J3];simp only[push_cast,ag.len];rw[show IntKind.i64.wrap ((ds.length:Int)-1)=(ds.length:Int)-1 from zj oM oM];refine j4 (λn u w'=> ∃cur:List Int,u=[nI ((n:Int)-1)]/\n<=ds.length/\cur=env.take n++List.replicate (ds.length-n) 0/\M.Tops ds env n/\OwnI zg w' v cur/\Same (λb=>v.ownBlock=some b) w3 w') ds.length
   ⟨env,rfl,gB _,by rw[GQ,<-hlen,gF];simp,λi h1 O=>absurd O oM,aq,Same.refl _ _⟩ ?_
  rintro n _ _ w4 C1 ⟨cur,rfl,hn,f,m,a4,J⟩ a6;have W:Same S' w1 w4:=x.trans (J.mono λ_ _ h=> .inr h);have a8:R (j+1) w4:=hR _ _ _ a7 (J.mono λb _ h=>c b h);have af:cur.length=ds.length:=by rw[f,gg,gi,gH];omega
  simp only[push_cast];refine zb (λa=>?_) (λa=>?_)
  ·obtain⟨i,rfl⟩:∃i,n=i+1:=⟨n-1,oM⟩;have I:i<ds.length:=oM;have ei:((i+1:Nat):Int)-1=i:=oM;have G:cur.getD i 0=env.getD i 0:=by
    rw[f,M.app_getD (by rw[gi];omega),M.take_getD oM]
   obtain⟨b0,b1,b2,b3⟩:=M.vok_iff.1 (N i I);have ay:=pow8 (b:=(ds.getD i (M.nada,0)).2) oM oM;rw[ei];have a5:=a4.ints;simp(disch:=exact oS) only[push_cast,a5.iaddr,a5.load,G];rw[zj oM oM];refine a4.st yL oM λw5 ar L b5=>?_;refine zd λw6 p _=>?_;have s:=ar.ext p;have A:Same S' w1 w6:=W.trans ((L.mono λ_ _ h=> .inr h).trans (Same.of_ext p));have Y:Same (λb=>v.ownBlock=some b) w3 w6:=J.trans (L.trans (Same.of_ext p));obtain⟨ae,V⟩:=dcl w6 A;have D:=s.ints;have ax:i<(cur.set i (env.getD i 0+1)).length:=by rw[GZ];omega
   simp(disch:=first|(simp only[push_cast])|(rw[GZ];omega)|omega) only[push_cast,D.iaddr,D.load,ae.ld0,V.iaddr,V.load1,Q1];rw[shl1 (y:=(ds.getD i (M.nada,0)).2) oM oM];rw[getD_set oM];simp only[push_cast,Q1,if_true];have B:cur.set i (env.getD i 0+1)=jr0 env i (ds.length-i-1):=by
    rw[f];exact set_cut oM oM
   refine zb (λa2=>?_) (λa2=>?_)
   ·refine zb (λa3=>oM) (λ_=>?_);have eb:jr0 env i (ds.length-i-1)=M.bump env i:=by unfold M.bump jr0;rw[hlen]
    rw[B,eb] at s;have an:=M.rank_bump (ds:=ds) (env:=env) (i:=i) hlen t I m;refine hC (k-(j+1)).toNat _ _ oM ⟨j+1,_,rfl,rfl,oM,oM,hR _ _ _ a8 ((L.trans (Same.of_ext p)).mono λb _ h=>c b h),s,bump_ok g I a2,by rw[an,l],A⟩
   ·refine s.st yL oM λw7 au ap b6=>?_;rw[show IntKind.i64.wrap ((i:Int)-1)=(i:Int)-1 from zj oM oM];refine a6 i _ _ oM ⟨_,rfl,oM,?_,λq h1 O=>?_,au,Y.trans ap⟩
    ·rw[B];exact bump_zero oM oM
    ·by_cases e:q=i
     ·subst e;omega
     ·exact m q oM O
  ·exfalso;have al:n=0:=oM;subst al;have:=M.rank_top hlen t m;omega
 ·simp only[push_cast,Pq];exact hZ _ hz
theorem _root_.Go.Vc.Same.trans' {a b c:Nat} {w0 w1 w2 d:World} (e:Same (· =a) w0 w1) (f:Same (· =b) w1 w2) (g:Same (· =c) w2 d):Same (λx=>x=a\/x=b\/x=c) w0 d:=
 (e.mono λ_ _ h=> .inl h).trans ((f.mono λ_ _ h=> .inr (.inl h)).trans (g.mono λ_ _ h=> .inr (.inr h)))
theorem jJ {S T:Nat->Prop} {w0 w1 w2:World} (a:Same S w0 w1) (c:Same T w1 w2) (h:∀b,b<w0.heap.size->T b->S b):Same S w0 w2:=
 ⟨c.os.trans a.os,c.tape.trans a.tape,c.output.trans a.output,gO a.size c.size,λb d f=>(c.block b (gL d a.size) λe=>f (h b d e)).trans (a.block b d f)⟩
theorem EnvAll_spec {dv:Value} {ds:List M.Dcl} {k:Int} (hd:DclsR F w dv ds) (A:M.declOk ds=true) (af:0<=k) (hk:k<2^(M.bits ds).toNat)
  (hK:∀w' v env,Ext w w'->OwnI zg w' v env->(∀b,v.ownBlock=some b->w.heap.size<=b)->M.envOk ds env=true->M.rankE ds env=k->K (.tuple #[v,.bool true]) w'):vcall XP #[dv,nI k] w K:=by
 apply UQ;unfold Zo;have ac:=bits_all A 0;have hp:=pow8 (b:=M.bits ds) oM ac.2.2;refine yd λb1 w1 ap a1 az U=>?_;replace U:Blk w1 b1 [nI k] zV:=U;refine xA JF λb2 w2 aq ad b0 V=>?_;replace V:Blk w2 b2 [.slice none 0 0] zg:=V;refine xA yj0 λb3 w3 ar a2 b4 h3=>?_;replace h3:Blk w3 b3 [.bool false] xB:=h3;refine zd λw4 L _=>?_;have Q:=(ad.trans a2).trans L;have W:=a1.trans Q;have q1:=U.ext Q;simp only[push_cast,q1.ld0,Q1];refine zb (λa=>oM) (λ_=>?_);refine EnvMany_spec (hd.ext W) λw5 t=>?_;have q5:=q1.ext t;have ag:kn0 ds=2^(M.bits ds).toNat:=by unfold kn0;rw[K3 A]
 simp only[push_cast,q5.ld0,Q1,gm];refine zb (λa=>oM) (λ_=>?_);refine zf {} Tryz.func49 ?_;obtain⟨da,dc,rfl,_⟩:=hd.shape;rw[V0] at*;refine yd λb6 w6 au u b5 h6=>?_;replace h6:Blk w6 b6 [.slice da ds.length dc] xa:=h6;simp only[push_cast];have ab:=W.trans (t.trans u);refine⟨qd,⟨[oP b6 0]⟩,rfl,λl D p RR hD hl x b7 aa aj ah B=>?_⟩;have X:=ab.trans x;have z1:=a1.size;have z4:=L.size;have z5:=t.size;have z6:=u.size;have E:Ext w3 p:=L.trans (t.trans (u.trans x));have p1:Blk p b1 [nI k] zV:=q5.ext (u.trans x);have p2:Blk p b2 [.slice none 0 0] zg:=(V.ext a2).ext E;have p3:Blk p b3 [.bool false] xB:=h3.ext E;have z37:=E.size;show vcall qd #[.func (.yield l) #[] #[],oP b6 0] p _
 let S:Nat->Prop:=λb=>b=l\/b=b1\/b=b2\/b=b3
 have J:∀{st pe} {T:Nat->Prop} {w' w'':World},RR st pe w'->Same T w' w''->p.heap.size<=w'.heap.size->¬T l->RR st pe w'':=λh Y hz hn=>aj _ _ _ _ h (Y.block l oM hn);have m:∀{T:Nat->Prop} {w' w'':World},w'.heap[D]?=some (.deferred (some []))->Same T w' w''->p.heap.size<=w'.heap.size->¬T D->w''.heap[D]?=some (.deferred (some [])):=λh Y hz hn=>(Y.block D oM hn).trans h;refine environments_1_spec (F:=λb=>F b/\b<w.heap.size) (S:=S) (ds:=ds) (k:=k)
  (R:=λj w'=>RR .ready none w'/\Blk w' b1 [nI (k-j)] zV/\Blk w' b2 [.slice none 0 0] zg/\Blk w' b3 [.bool false] xB/\w'.heap[D]?=some (.deferred (some []))/\Same S p w')
  (Z:=λw'=>RR .done (some .ret) w'/\w'.heap[D]?=some (.deferred (some []))/\Same S p w'/\∃v env,Blk w' b2 [v] zg/\Blk w' b3 [.bool true] xB/\OwnI zg w' v env/\(∀b,v.ownBlock=some b->p.heap.size<=b)/\M.envOk ds env=true/\M.rankE ds env=k)
  A af hk (h6.ext x) ((hd.weaken λb U V=>⟨U,V⟩).ext X) (λh=>by rcases h with h|h|h|h<;>omega) (λb q h=>by rcases h with h|h|h|h<;>omega) (λb h=>by rcases h with h|h|h|h<;>omega)
  ⟨ah,by rw[Int.sub_zero];exact p1,p2,p3,aa,Same.refl _ _⟩ ?_ ?_ ?_
 ·rintro j w8 w9 ⟨g1,g2,g3,g4,g5,g6⟩ hs;have z:=g6.size;exact⟨J g1 hs z oM,g2.same hs oM,g3.same hs oM,g4.same hs oM,m g5 hs z oM,jJ g6 hs λb q h=>oM⟩
 ·rintro j w8 v env K' ay ax ⟨g1,g2,g3,g4,g5,g6⟩ hv ak C ai Y hZ;have z78:=g6.size;refine B [v] w8 K' rfl g1 ⟨g1,λw9 c al a0=>?_⟩;have k1:=g2.same c oM;have k2:=g3.same c oM;have k3:=g4.same c oM;have k5:=m g5 c z78 oM;have k6:Same S p w9:=jJ g6 c λb _ h=> .inl h;simp only[push_cast,k1.ld0];refine zb (λa=>?_) (λa=>?_)
  ·have ae:=(hv.same c λb q e=>by have:=ak b q;omega).ints;have aw:=(M.env_ok C).2.1;have av:=(M.decl_iff.1 A).1;refine Clone_Lint ae oM λw10 v2 o a7 a3=>?_;have hc:v2.cells= #[v2]/\v2.oneCell'=true:=by
    obtain⟨a',c',e,_⟩:=a7.ints.shape;subst e;exact⟨rfl,rfl⟩
   have b8:=o.size;refine(k2.ext o).st (i:=0) hc.1 hc.2 qQ rfl λN r a9 H=>?_;replace H:Blk N b2 [v2] zg:=H;refine((k3.ext o).same r oM).st (i:=0) rfl rfl yR0 rfl λO s an I=>?_;replace I:Blk O b3 [.bool true] xB:=I;have n:Same (λb=>b=b2\/b=b3) w9 O:=(Same.of_ext o).trans ((r.mono λ_ _ h=> .inl h).trans (s.mono λ_ _ h=> .inr h));have k7:Same S p O:=jJ k6 n λb _ h=> .inr (.inr h);refine⟨J a0 n oM oM,λam g ao a5=>hZ oM am ⟨a5,m (m k5 n oM oM) g oM oM,jJ k7 g λb _ h=> .inl h,v2,env,(H.same s oM).same g oM,I.same g oM,?_,λb q=>by have:=a3 b q;omega,C,oM⟩⟩;exact a7.same (r.trans' s g) λb q e=>by have:=a3 b q;omega
  ·try simp only[push_cast,k1.ld0]
   rw[zj oM oM];refine k1.st (i:=0) rfl rfl yL rfl λw10 f a8 G=>?_;replace G:Blk w10 b1 [nI (k-(j+1))] zV:=by rw[show k-(j+1)=k-j-1 by omega];exact G
   refine⟨J a0 f oM oM,λN d a9 a4=>Y oM N ⟨a4,G.same d oM,(k2.same f oM).same d oM,(k3.same f oM).same d oM,m (m k5 f oM oM) d oM oM,?_⟩ ?_⟩
   ·exact jJ (jJ k6 f λb _ h=> .inr (.inl h)) d λb _ h=> .inl h
   ·exact(c.mono λb _ h=> .inl h).trans ((f.mono λb _ h=> .inr (.inl h)).trans (d.mono λb _ h=> .inl h))
 ·rintro w8 ⟨g1,g2,g3,v,env,g4,g5,g6,g7,g8,g9⟩;have z78:=g3.size;refine⟨.done,some .ret,dC,g1,λw9 c al=>?_⟩;refine⟨m g2 c z78 oM,λw10 a6 a8=>?_⟩;have hs:Same (λb=>b=l\/b=D) w8 w10:=(c.mono λ_ _ h=> .inl h).trans (a6.mono λ_ _ h=> .inr h);show vlv zg (oP b2 0) w10 _;rw[lv0 (g4.same hs oM) Za0,lv0 (g5.same hs oM) Z90];refine hK _ v env (Ext.then (Ext.then X g3 λy hy=>by rcases hy with h|h|h|h<;>omega) hs λy hy=>oM) (g6.same hs λb q h=>by have:=g7 b q;omega) (λb q=>by have:=g7 b q;omega) g8 g9
end
end Go.Proofs.YtjkkiaacmedfdaaGreatDoor
end
