import Derived.Test.YtfnpmncplaibiaaGreatDoorWqbP8
/- A part of the proof. -/
set_option linter.all false
set_option maxRecDepth 9999
set_option maxHeartbeats 2000000
noncomputable section
namespace Go.Proofs.YtfnpmncplaibiaaGreatDoor
open Go Go.Vc Go.Proofs
section
variable {w:World} {K:oK} {D F Fx Fy Y S O:oA} {n b4 b8:Nat} {v xv yv:Value} {cs cs':List Value} {st st':Option M.Gs} {a b c m x y r:Int} {xs ys:oI}
theorem spec_nil (f:∀v' w',OwnI zh w' v' []->Ext w w'->(∀b,v'.ownBlock=some b->w.heap.size<=b)->K v' w'):vbuildS zh 0 [] w K:=by
 refine yc xt yM λd j h c i a=>?_;exact f _ j (Blk.own1 (t:=zh) (cs:=[]) (by rw[qB];exact a) (Gf _) rfl rfl oM) c λb g=>by have e:d=b:=V1 g;omega
theorem spec_app {w0:World} {zs:oI} {x:Int} {ty:Nat} (he:Ext w0 w) (l:OwnI zh w v zs) (i:∀b,v.ownBlock=some b->w0.heap.size<=b) (p:zs.length<=1000000)
  (j:∀v' w',OwnI zh w' v' (zs++[x])->Ext w0 w'->(∀b,v'.ownBlock=some b->w0.heap.size<=b)->K v' w'):
  vbuildS zh 1 [(0,nI x)] w λt w1=>vbi .append [zh,zh] ty [v,t] w1 K:=by
 refine zB xt yM xJ rfl rfl λo q k a m c=>?_;refine(l.ext a).app1 xC c oM oM λv6 n f g e=>?_;have s:=he.size;exact j v6 n f (Ext.then (he.trans a) g λb d=>i b d) λb d=>(e b d).elim (i b) λh=>oM
theorem sturn7_spec (t:Ints Fx w xv xs) (v:xs.length<=100000) (n:SmL xs) (s:∀w' r,Ext w w'->OwnI zh w' r (M.negL xs)->(∀b,r.ownBlock=some b->w.heap.size<=b)->K r w'):vcall U2 #[xv] w K:=by
 refine ze {loops:=[(3,[3,4])]} Tryz.func156 ?_;refine spec_nil λv1 w1 m o k=>?_;refine vloop_up xs.length (λi u w'=> ∃r,u=[r,nI i]/\Ext w w'/\OwnI zh w' r (M.negL (xs.take i))/\∀b,r.ownBlock=some b->w.heap.size<=b) ⟨_,rfl,o,m,k⟩ ?_;rintro i _ g w2 C hi ⟨r,rfl,j,d,f⟩ q;have e:=Ints.ext t j;simp(disch:=exact oS) only[push_cast,e.len];refine zb (λa=>?_) (λa=>?_)
 .have c:i<xs.length:=oM;have hs:=n.get c;unfold Sm at hs;simp(disch:=exact oS) only[push_cast,e.iaddr,e.load,zk,Ga];refine spec_app j d f (by rw[M.negL_len,gh];omega) λv3 x h p l=>?_
  try simp(disch:=omega) only[push_cast,zk]
  refine q c _ _ ⟨v3,by simp,p,?_,l⟩;rw[M.take_add c 0];unfold M.negL at h⊢;rw[gE];exact h
 .have c:i=xs.length:=oM;subst c;rw[gA] at d;exact s w2 r j d f
theorem sfill7_spec {m:Nat} {x:Int} (s:m<=100000) (q:∀w' r,Ext w w'->OwnI zh w' r (List.replicate m x)->(∀b,r.ownBlock=some b->w.heap.size<=b)->K r w'):vcall U6 #[nI x,nI m] w K:=by
 refine ze {loops:=[(3,[5,6])]} Tryz.func161 ?_;refine spec_nil λv1 w1 j n f=>?_;refine vloop_up m (λi u w'=> ∃r,u=[r,nI i]/\Ext w w'/\OwnI zh w' r (List.replicate i x)/\∀b,r.ownBlock=some b->w.heap.size<=b) ⟨_,rfl,n,j,f⟩ ?_;rintro i _ g w2 C hi ⟨r,rfl,l,e,d⟩ p;refine oZ ?_;refine zb (λa=>?_) (λa=>?_)
 .have c:i<m:=oM;refine spec_app l e d (by rw[gI];omega) λv3 t k o h=>?_
  try simp(disch:=omega) only[push_cast,zk]
  refine p c _ _ ⟨v3,by simp,o,?_,h⟩;rw[List.replicate_succ'];exact k
 .have c:i=m:=oM;subst c;exact q w2 r l e d
theorem sless7_spec (X:n<=8) (hk:MkR n D w cs st) (hD:∀b,D b->b<w.heap.size) (hx:Ints Fx w xv xs) (hy:Ints Fy w yv ys) (hl:xs.length<=ys.length) (h8:xs.length<=1000) (T:SnL st xs) (U:SnL st ys)
  (hK:∀w' cs' st' r,Ext w w'->MkR n D w' cs' st'->Sn st' r->M.Bd.Out n (M.lessB xs ys (-1)) st st' r->K (.tuple #[.agg ⟨cs'⟩,nI r]) w'):
  vcall U4 #[.agg ⟨cs⟩,xv,yv] w K:=by
 refine ze {loops:=[(3,[8,9])]} Tryz.func163 ?_;refine Fm.start hk hD λb4 b8 w1 h1=>?_;have v:=Ints.under hx;have y:=Ints.under hy;refine vloop_up xs.length (λi u w'=> ∃e r,u=[nI r,nI i]/\Fm n D (λ_=>False) w b4 b8 w' e/\SnL e xs/\SnL e ys/\Sn e r/\
  ∀st2 q,M.Bd.Out n (M.lessB (xs.drop i) (ys.drop i) r) e st2 q->M.Bd.Out n (M.lessB xs ys (-1)) st st2 q) ⟨st,-1,rfl,h1,T,U,Sn.of dC dC,λ_ _ h=>h⟩ ?_
 rintro i _ g w3 C hi ⟨E,Y,rfl,H,j,c,t,f⟩ hC;have S:=Ints.ext0 v H.ext;simp(disch:=exact oS) only[push_cast,S.len];refine zb (λa2=>?_) (λa1=>?_)
 .have k:i<xs.length:=oM;refine zd λW I _=>?_;have o:=H.grow I;have x:=Ints.ext0 v o.ext;have A:=Ints.ext0 y o.ext;obtain⟨c4,l,p⟩:=o.call;simp(disch:=exact oS) only[push_cast,x.iaddr,x.load,A.iaddr,A.load,k5,p W (Same.refl _ _)];refine sxor7_spec X l o.dl (j.get k) (c.get oM) λw5 Z a8 d J O hd a=>?_;simp only[push_cast,k5];refine o.put J O λw6 h6 a4 a6=>?_
  try simp only[push_cast,k5,gi]
  refine zd λw7 L _=>?_;have F:=h6.grow L;have B:=Ints.ext0 y F.ext;obtain⟨c7,Q,s⟩:=F.call;simp(disch:=exact oS) only[push_cast,B.iaddr,B.load,k5,s w7 (Same.refl _ _)];refine sone7_spec X Q F.dl hd ((c.out a).get oM) (t.out a) λw8 a0 V q N R hq m=>?_;simp only[push_cast,k5];refine F.put N R λw9 h9 a5 a7=>?_
  try simp(disch:=omega) only[push_cast,zk,k5,gi]
  refine hC k _ _ ⟨V,q,by simp<;>exact⟨rfl,rfl⟩,h9,(j.out a).out m,(c.out a).out m,hq,λst2 z ho=>f st2 z ?_⟩;rw[yY k,yY (show i<ys.length by omega)];exact kM a (M.Bd.Out.bind m ho)
 .refine H.fin λW G e4 l a3=>?_;exact hK W G E Y e4 l t (f E Y (by rw[xI0 oM];exact M.Bd.Out.ret _ _))
theorem ssame7_spec (X:n<=8) (hk:MkR n D w cs st) (hD:∀b,D b->b<w.heap.size) (hx:Ints Fx w xv xs) (hy:Ints Fy w yv ys) (hl:xs.length<=ys.length) (h8:xs.length<=1000) (R:SnL st xs) (T:SnL st ys)
  (hK:∀w' cs' st' r,Ext w w'->MkR n D w' cs' st'->Sn st' r->M.Bd.Out n (M.sameB xs ys 1) st st' r->K (.tuple #[.agg ⟨cs'⟩,nI r]) w'):
  vcall U3 #[.agg ⟨cs⟩,xv,yv] w K:=by
 refine ze {loops:=[(3,[8,9])]} Tryz.func162 ?_;refine Fm.start hk hD λb4 b8 w1 h1=>?_;have v:=Ints.under hx;have S:=Ints.under hy;refine vloop_up xs.length (λi u w'=> ∃a r,u=[nI r,nI i]/\Fm n D (λ_=>False) w b4 b8 w' a/\SnL a xs/\SnL a ys/\Sn a r/\
  ∀st2 q,M.Bd.Out n (M.sameB (xs.drop i) (ys.drop i) r) a st2 q->M.Bd.Out n (M.sameB xs ys 1) st st2 q) ⟨st,1,rfl,h1,R,T,Sn.of dC dC,λ_ _ h=>h⟩ ?_
 rintro i _ g w3 C hi ⟨A,Y,rfl,E,f,j,t,e⟩ hC;have Q:=Ints.ext0 v E.ext;simp(disch:=exact oS) only[push_cast,Q.len];refine zb (λa2=>?_) (λa1=>?_)
 .have k:i<xs.length:=oM;refine zd λV H _=>?_;have o:=E.grow H;have x:=Ints.ext0 v o.ext;have y:=Ints.ext0 S o.ext;obtain⟨c4,l,p⟩:=o.call;simp(disch:=exact oS) only[push_cast,x.iaddr,x.load,y.iaddr,y.load,k5,p V (Same.refl _ _)];refine sxor7_spec X l o.dl (f.get k) (j.get oM) λw5 Z a8 d I L W c=>?_;simp only[push_cast,k5];refine o.put I L λw6 F a4 a6=>?_;obtain⟨c6,N,s⟩:=F.call;have G:=W.1;unfold Sm at G;simp(disch:=omega) only[push_cast,k5,gi,s w6 (Same.refl _ _),zk,Ga];refine sand7_spec X N F.dl (t.out c) W.neg λw8 a0 U q J O hq m=>?_;simp only[push_cast,k5];refine F.put J O λw9 h9 a5 a7=>?_
  try simp(disch:=omega) only[push_cast,zk,k5,gi]
  refine hC k _ _ ⟨U,q,by simp<;>exact⟨rfl,rfl⟩,h9,(f.out c).out m,(j.out c).out m,hq,λst2 z ho=>e st2 z ?_⟩;rw[yY k,yY (show i<ys.length by omega)];exact kM c (xI m ho)
 .refine E.fin λV B e4 l a3=>?_;exact hK V B A Y e4 l t (e A Y (by rw[xz0 oM];exact M.Bd.Out.ret _ _))
theorem sifs7_spec (hn:n<=8) (hk:MkR n D w cs st) (hD:∀b,D b->b<w.heap.size) (hx:Ints Fx w xv xs) (hy:Ints Fy w yv ys) (hl:xs.length<=ys.length) (h8:xs.length<=1000) (S:SnL st xs) (U:SnL st ys) (hc:Sn st c)
  (hK:∀w' cs' st' r zs,Ext w w'->MkR n D w' cs' st'->OwnI zh w' r zs->(∀b,r.ownBlock=some b->w.heap.size<=b)->SnL st' zs->M.Bd.Out n (M.eachB (M.muxB c) xs ys) st st' zs->K (.tuple #[.agg ⟨cs'⟩,r]) w'):
  vcall zT0 #[.agg ⟨cs⟩,nI c,xv,yv] w K:=by
 refine ze {loops:=[(3,[10,11])]} Tryz.func159 ?_;refine Fm.start hk hD λb4 b8 w1 h1=>?_;refine h1.nil λv2 w2 h2 J e2=>?_;have A:=Ints.under hx;have T:=Ints.under hy;refine vloop_up xs.length (λi u w'=> ∃a r zs,u=[r,nI i]/\Fm n D (O1 r) w b4 b8 w' a/\OwnI zh w' r zs/\zs.length=i/\SnL a zs/\SnL a xs/\SnL a ys/\Sn a c/\
  ∀st2 rs,M.Bd.Out n (M.eachB (M.muxB c) (xs.drop i) (ys.drop i)) a st2 rs->M.Bd.Out n (M.eachB (M.muxB c) xs ys) st st2 (zs++rs)) ⟨st,_,[],rfl,h2,J,rfl,SnL.nil,S,U,hc,λ_ _ h=>h⟩ ?_
 rintro i _ g w3 C hi ⟨G,Y,zs,rfl,o,z,V,F,j,k,t,f⟩ hC;have R:=Ints.ext0 A o.ext;simp(disch:=exact oS) only[push_cast,R.len];refine zb (λa1=>?_) (λa0=>?_)
 .have l:i<xs.length:=oM;refine zd λX v _=>?_;have p:=o.grow v;have B:=Ints.ext0 A p.ext;have E:=Ints.ext0 T p.ext;obtain⟨c4,m,y⟩:=p.call;simp(disch:=exact oS) only[push_cast,B.iaddr,B.load,E.iaddr,E.load,k5,y X (Same.refl _ _)];refine sone7_spec hn m p.dl t (j.get l) (k.get oM) λw5 Z W s x I hs d=>?_;simp only[push_cast,k5];refine p.put x I λw6 h6 Q a2=>?_
  try simp only[push_cast,k5,gi]
  have L:OwnI zh w6 Y zs:=((z.ext v).ext x).same Q λb q=>(o.off b q).2.2.1;refine h6.app L oM λr7 w7 h7 N e7=>?_;simp(disch:=omega) only[push_cast,zk];refine hC l _ _ ⟨W,r7,zs++[s],by simp,h7,N,by simp[V],SnL.app (F.out d) (SnL.one hs),j.out d,k.out d,t.out d,λst2 rs ho=>?_⟩;have:=f st2 (s::rs) ?_
  .simpa using this
  rw[Qt l (show i<ys.length by omega)];exact M.Bd.Out.bind d (M.Bd.Out.map _ ho)
 .have:=f G [] (by rw[YD oM];exact M.Bd.Out.ret _ _);rw[gK] at this;refine o.fin λX H e4 m O=>?_;exact hK X H G Y zs e4 m (z.same O λb q e=>(o.off b q).2.2.2 e) (λb q=>(o.off b q).2.1) F this
def plainB (op:Int):Int->Int->M.Bd Int:=if op=3 then λa b=> .and a b .ret else if op=4 then M.orB else λa b=> .xor a b .ret
theorem splain7_spec {op:Int} (hn:n<=8) (hk:MkR n D w cs st) (hD:∀b,D b->b<w.heap.size) (hx:Ints Fx w xv xs) (hy:Ints Fy w yv ys) (hl:xs.length<=ys.length) (h8:xs.length<=1000) (a4:SnL st xs) (a5:SnL st ys)
  (hK:∀w' cs' st' r zs,Ext w w'->MkR n D w' cs' st'->OwnI zh w' r zs->(∀b,r.ownBlock=some b->w.heap.size<=b)->SnL st' zs->M.Bd.Out n (M.eachB (plainB op) xs ys) st st' zs->K (.tuple #[.agg ⟨cs'⟩,r]) w'):
  vcall Vz #[.agg ⟨cs⟩,nI op,xv,yv] w K:=by
 refine ze {loops:=[(3,[10,11])]} Tryz.func167 ?_;refine Fm.start hk hD λb4 b8 w1 h1=>?_;refine h1.nil λv2 w2 h2 a1 e2=>?_;have H:=Ints.under hx;have N:=Ints.under hy;refine vloop_up xs.length (λi u w'=> ∃B r zs,u=[r,nI i]/\Fm n D (O1 r) w b4 b8 w' B/\OwnI zh w' r zs/\zs.length=i/\SnL B zs/\SnL B xs/\SnL B ys/\
  ∀st2 rs,M.Bd.Out n (M.eachB (plainB op) (xs.drop i) (ys.drop i)) B st2 rs->M.Bd.Out n (M.eachB (plainB op) xs ys) st st2 (zs++rs)) ⟨st,_,[],rfl,h2,a1,rfl,SnL.nil,a4,a5,λ_ _ h=>h⟩ ?_
 rintro i _ g w3 C hi ⟨Q,r3,zs,rfl,E,G,O,I,f,j,J⟩ hC;have a3:=Ints.ext0 H E.ext;simp(disch:=exact oS) only[push_cast,a3.len];refine zb (λa7=>?_) (λa6=>?_)
 .have t:i<xs.length:=oM;have L:∀d s,M.Bd.Out n (plainB op (xs.getD i 0) (ys.getD i 0)) Q d s->∀st2 rs,M.Bd.Out n (M.eachB (plainB op) (xs.drop (i+1)) (ys.drop (i+1))) d st2 rs->M.Bd.Out n (M.eachB (plainB op) xs ys) st st2 ((zs++[s])++rs):=λd s c st2 rs ho=>by
   have:=J st2 (s::rs) ?_
   .simpa using this
   rw[Qt t (show i<ys.length by omega)];exact M.Bd.Out.bind c (M.Bd.Out.map _ ho)
  try simp only[push_cast]
  refine zb (λc3=>?_) (λc3=>?_)
  .have W:plainB op=(λa b=> .and a b .ret):=by unfold plainB;rw[X0 c3]
   refine zd λR l _=>?_;have k:=E.grow l;have p:=Ints.ext0 H k.ext;have q:=Ints.ext0 N k.ext;obtain⟨S,v,o⟩:=k.call;simp(disch:=exact oS) only[push_cast,p.iaddr,p.load,q.iaddr,q.load,k5,o R (Same.refl _ _)];refine sand7_spec hn v k.dl (f.get t) (j.get oM) λw5 T d s m x hs c=>?_;simp only[push_cast,k5];refine k.put m x λZ U A X=>?_
   try simp only[push_cast,k5,gi]
   have y:OwnI zh Z r3 zs:=((G.ext l).ext m).same A λb F=>(E.off b F).2.2.1;refine U.app y oM λY w7 V z e7=>?_;simp(disch:=omega) only[push_cast,zk];exact hC t _ _ ⟨d,Y,zs++[s],by simp,V,z,by simp[O],SnL.app (I.out c) (SnL.one hs),f.out c,j.out c,L d s (by rw[W];exact c)⟩
  try simp only[push_cast]
  refine zb (λS=>?_) (λS=>?_)
  .have W:plainB op=M.orB:=by unfold plainB;rw[y3 c3,X0 S]
   refine zd λR l _=>?_;have k:=E.grow l;have p:=Ints.ext0 H k.ext;have q:=Ints.ext0 N k.ext;obtain⟨S,v,o⟩:=k.call;simp(disch:=exact oS) only[push_cast,p.iaddr,p.load,q.iaddr,q.load,k5,o R (Same.refl _ _)];refine sor7_spec hn v k.dl (f.get t) (j.get oM) λw5 T d s m x hs c=>?_;simp only[push_cast,k5];refine k.put m x λZ U A X=>?_
   try simp only[push_cast,k5,gi]
   have y:OwnI zh Z r3 zs:=((G.ext l).ext m).same A λb F=>(E.off b F).2.2.1;refine U.app y oM λY w7 V z e7=>?_;simp(disch:=omega) only[push_cast,zk];exact hC t _ _ ⟨d,Y,zs++[s],by simp,V,z,by simp[O],SnL.app (I.out c) (SnL.one hs),f.out c,j.out c,L d s (by rw[W];exact c)⟩
  have W:plainB op=(λa b=> .xor a b .ret):=by unfold plainB;rw[y3 c3,y3 S]
  refine zd λR l _=>?_;have k:=E.grow l;have p:=Ints.ext0 H k.ext;have q:=Ints.ext0 N k.ext;obtain⟨S,v,o⟩:=k.call;simp(disch:=exact oS) only[push_cast,p.iaddr,p.load,q.iaddr,q.load,k5,o R (Same.refl _ _)];refine sxor7_spec hn v k.dl (f.get t) (j.get oM) λw5 T d s m x hs c=>?_;simp only[push_cast,k5];refine k.put m x λZ U A X=>?_
  try simp only[push_cast,k5,gi]
  have y:OwnI zh Z r3 zs:=((G.ext l).ext m).same A λb F=>(E.off b F).2.2.1;refine U.app y oM λY w7 V z e7=>?_;simp(disch:=omega) only[push_cast,zk];exact hC t _ _ ⟨d,Y,zs++[s],by simp,V,z,by simp[O],SnL.app (I.out c) (SnL.one hs),f.out c,j.out c,L d s (by rw[W];exact c)⟩
 .have:=J Q [] (by rw[YD oM];exact M.Bd.Out.ret _ _);rw[gK] at this;refine E.fin λR a0 e4 v a2=>?_;exact hK R a0 Q r3 zs e4 v (G.same a2 λb F e=>(E.off b F).2.2.2 e) (λb F=>(E.off b F).2.1) I this
end
section
variable {w:World} {K:oK} {D F Fx Fy Y S O O':oA} {n b4 b8:Nat} {v v' nv xv yv sv:Value} {cs cs':List Value} {st st':Option M.Gs} {a b c m x y r:Int} {xs ys:oI}
abbrev Kp (b4 b8:Nat) (O:oA):oA:=λb=>b≠b4/\b≠b8/\¬O b
section
variable {w0 w':World}
theorem Ints.kp4 (h:Ints (Kp b4 b8 O) w xv xs) (hs:Same (· =b4) w w'):Ints (Kp b4 b8 O) w' xv xs:=Ints.same h hs λb a _ e=>a.1 e
theorem Ints.kpO (h:Ints (Kp b4 b8 O) w xv xs) (hs:Same S w w') (d:∀b,S b->O b) (hO:∀b,O' b->O b\/w.heap.size<=b):Ints (Kp b4 b8 O') w' xv xs:=by
 have c:Ints (λb=>Kp b4 b8 O b/\b<w.heap.size) w xv xs:=Ints.weaken h λb a f=>⟨a,f⟩;exact Ints.weaken (Ints.same c hs λb a _ e=>a.1.2.2 (d b e)) λb a _=>⟨a.1.1,a.1.2.1,λg=>(hO b g).elim a.1.2.2 λh=>by have:=a.2;omega⟩
theorem Fm.new {zs:oI} (h:Fm n D O w0 b4 b8 w st) (d:OwnI zh w' v zs) (c:∀b,v.ownBlock=some b->w.heap.size<=b):Ints (Kp b4 b8 O) w' v zs:=Ints.weaken d.ints λb a _=>by
 have e:=c b a;have f:=h.lt4;exact⟨oM,oM,λhO=>by have:=(h.off b hO).1;omega⟩
theorem Fm.app' {zs:oI} {x:Int} {ty:Nat} (h:Fm n D (O1 v) w0 b4 b8 w st) (l:OwnI zh w v zs) (r:zs.length<=1000000)
  (j:∀v' w',Fm n D (O1 v') w0 b4 b8 w' st->OwnI zh w' v' (zs++[x])->(∀xv xs,Ints (Kp b4 b8 (O1 v)) w xv xs->Ints (Kp b4 b8 (O1 v')) w' xv xs)->K v' w'):
  vbuildS zh 1 [(0,nI x)] w λt w1=>vbi .append [zh,zh] ty [v,t] w1 K:=by
 refine zB xt yM xJ rfl rfl λq s k c o g=>?_;refine(l.ext c).app1 xC g oM oM λv6 p e f d=>?_;have i:=(h.grow c).own (O':=O1 v6) f (λb a=>a) λb a=>⟨e.lt a,d b a⟩;exact j v6 p i e λxv xs m=>Ints.kpO (Ints.ext m c) f (λb a=>a) λb a=>d b a
theorem Fm.take {zs:oI} (h:Fm n D (λ_=>False) w0 b4 b8 w st) (he:Ext w w') (d:OwnI zh w' v zs) (c:∀b,v.ownBlock=some b->w.heap.size<=b):Fm n D (O1 v) w0 b4 b8 w' st:=
 h.own (S:=λ_=>False) he (λb a=>a) λb a=>⟨d.lt a,.inr (c b a)⟩
theorem Fm.drop (h:Fm n D O w0 b4 b8 w st):Fm n D (λ_=>False) w0 b4 b8 w st:=h.own (S:=λ_=>False) (Same.refl _ _) (λb a=>a.elim) λb a=>a.elim
end
theorem smul7_spec (hn:n<=8) (hk:MkR n D w cs st) (hD:∀b,D b->b<w.heap.size) (hx:Ints Fx w xv xs) (hy:Ints Fy w yv ys) (hl:xs.length=ys.length) (h8:xs.length<=900) (ap:SnL st xs) (ar:SnL st ys)
  (hK:∀w' cs' st' r zs,Ext w w'->MkR n D w' cs' st'->Ints (λb=>w.heap.size<=b) w' r zs->SnL st' zs->M.Bd.Out n (M.mulB xs ys 0 (M.offsL xs.length)) st st' zs->K (.tuple #[.agg ⟨cs'⟩,r]) w'):
  vcall zS0 #[.agg ⟨cs⟩,xv,yv] w K:=by
 refine ze {loops:=[(3,[8,9]),(7,[10,11])]} Tryz.func164 ?_;refine Fm.start hk hD λb4 b8 w1 S=>?_;have Q:=Ints.under hx;have a4:=Ints.under hy;have an:=Ints.ext0 Q S.ext;simp(disch:=exact oS) only[push_cast,an.len];refine sfill7_spec oM λw2 aa ae am ag=>?_;have lo:=S.lo;have s1:=S.ext.size;have a8:Ints (λb=>Kp b4 b8 (λ_=>False) b/\w.heap.size<=b) w2 aa (M.offsL xs.length):=Ints.weaken am.ints λb a _=>by
  have b0:=ag b a;have h2:=S.lt4;exact⟨⟨oM,oM,id⟩,oM⟩
 refine vloop_up ys.length (λi u w'=> ∃v sv s,u=[sv,nI i]/\Fm n D (λ_=>False) w b4 b8 w' v/\Ints (λb=>Kp b4 b8 (λ_=>False) b/\w.heap.size<=b) w' sv s/\s.length=xs.length/\SnL v s/\SnL v xs/\SnL v ys/\
  ∀st2 res,M.Bd.Out n (M.mulB xs (ys.drop i) i s) v st2 res->M.Bd.Out n (M.mulB xs ys 0 (M.offsL xs.length)) st st2 res) ⟨st,aa,_,rfl,S.grow ae,a8,M.offsL_len _,SnL.fill _,ap,ar,λ_ _ h=>h⟩ ?_
 rintro i _ g w3 C hi ⟨y,sv,s,rfl,h3,Z,b5,B,a3,a6,A⟩ hC;have aq:=Ints.ext0 a4 h3.ext;simp(disch:=exact oS) only[push_cast,aq.len];refine zb (λb3=>?_) (λb1=>?_)
 .have H:i<ys.length:=oM;refine sfill7_spec oM λw4 rv U X W=>?_;have h4:=h3.take U X W;have N:Ints (Kp b4 b8 (O1 rv)) w4 sv s:=Ints.kpO (O:=λ_=>False) (Ints.weaken Z λb a _=>a.1) U (λb a=>a.elim) λb a=> .inr (W b a);have az:(xs.take (xs.length-i)).length=xs.length-i:=by rw[gh];omega
  refine vloop_up (xs.length-i) (λj u w'=> ∃c rv zs,u=[rv,nI ((i+j:Nat):Int)]/\Fm n D (O1 rv) w b4 b8 w' c/\OwnI zh w' rv (M.offsL i++zs)/\zs.length=j/\Ints (Kp b4 b8 (O1 rv)) w' sv s/\SnL c zs/\SnL c s/\SnL c xs/\SnL c ys/\
   ∀st2 rs,M.Bd.Out n (M.rowB (ys.getD i 0) ((xs.take (xs.length-i)).drop j)) c st2 rs->M.Bd.Out n (M.rowB (ys.getD i 0) (xs.take (xs.length-i))) y st2 (zs++rs)) ⟨y,rv,[],rfl,h4,by rw[gK];exact X,rfl,N,SnL.nil,B,a3,a6,λ_ _ h=>h⟩ ?_
  rintro j _ g5 w5 C5 hj ⟨c,a9,zs,rfl,z,Y,av,a0,a7,E,q,t,o⟩ ad;have ao:=Ints.ext0 Q z.ext;simp(disch:=exact oS) only[push_cast,ao.len];refine zb (λay=>?_) (λax=>?_)
  .have V:j<xs.length-i:=oM;refine zd λw6 G _=>?_;have T:=z.grow G;have a2:=Ints.ext0 Q T.ext;have a5:=Ints.ext0 a4 T.ext;obtain⟨c6,I,m⟩:=T.call;have ei:((i:Int)+j)-i=(j:Int):=oM;simp(disch:=exact oS) only[push_cast,zk,ei,a2.iaddr,a2.load,a5.iaddr,a5.load,k5,m w6 (Same.refl _ _)];refine sand7_spec hn I T.dl (q.get oM) (t.get H) λw7 ac R d l J hd f=>?_;simp only[push_cast,k5];refine T.put l J λw8 F x au=>?_
   try simp only[push_cast,k5,gi]
   have ak:OwnI zh w8 a9 (M.offsL i++zs):=((Y.ext G).ext l).same x λb a=>(z.off b a).2.2.1;have a1:Ints (Kp b4 b8 (O1 a9)) w8 sv s:=Ints.kp4 (Ints.ext (Ints.ext a0 G) l) x;refine F.app' ak (by rw[Q1,M.offsL_len];omega) λaw w9 h9 al L=>?_
   try simp(disch:=omega) only[push_cast,zk]
   refine ad V _ _ ⟨R,aw,zs++[d],by simp<;>omega,h9,by rw[<-gZ];exact al,by simp[av],L _ _ a1,SnL.app (a7.out f) (SnL.one hd),E.out f,q.out f,t.out f,λst2 rs ho=>?_⟩;have:=o st2 (d::rs) ?_
   .simpa using this
   rw[jf0 oM,XX V];exact xI f (M.Bd.Out.map _ ho)
  .have b2:j=xs.length-i:=oM;have p:=o c [] (by rw[xA0 oM];exact M.Bd.Out.ret _ _);rw[gK] at p;obtain⟨c6,I,m⟩:=z.call;simp only[m w5 (Same.refl _ _)];refine sadd7_spec hn I z.dl a0 Y.ints (by rw[Q1,M.offsL_len];omega) oM E (SnL.app (SnL.fill i) a7) (Sn.of dC dC) λw7 ac R nv ns l J f ah aj k=>?_;simp only[push_cast,k5];refine z.put l J λw8 F x au=>?_
   try simp(disch:=omega) only[push_cast,zk]
   have ai:ns.length=xs.length:=by
    have:=M.sum_len k.reach;rw[Q1,M.offsL_len] at this;omega
   have l5:=z.lt4;have s5:=z.ext.size;refine hC H _ _ ⟨R,nv,ns,by simp,F.drop,Ints.same (Ints.weaken (F':=λb=>Kp b4 b8 (λ_=>False) b/\w.heap.size<=b) f.ints λb a _=>by have:=ah b a;exact⟨⟨oM,oM,id⟩,oM⟩) x (λb a _ e=>a.1.1 e),ai,aj,q.out k,t.out k,λst2 res ho=>A st2 res ?_⟩;rw[yY H];exact M.Bd.Out.bind p (M.Bd.Out.bind k ho)
 .refine h3.fin λw4 ab e4 af N=>?_;exact hK w4 ab y sv s e4 af (Ints.weaken (Ints.same Z N λb a _ e=>a.1.2.1 e) λb a _=>a.2) B (A y s (by rw[xG0 oM];exact M.Bd.Out.ret _ _))
theorem sfrom7_spec {op fill:Int} {j b:Nat} (hs:Ints Fx w sv xs) (f:j<xs.length) (h:xs.length<=1000) (g:b<=1000) (a:K (nI (M.fromL (decide (op=11)) fill xs b j)) w):
  vcall U5 #[nI op,sv,nI j,nI b,nI fill] w K:=by
 refine ze {} Tryz.func221 ?_;obtain⟨f1,f2,f3⟩:=from_at (up:=decide (op=11)) (fill:=fill) (s:=xs) (b:=b) f;simp(disch:=omega) only[push_cast,zk];refine zb (λc=>?_) (λc=>?_)
 .rw[gz c] at f1 f2 f3 a;simp only[if_true] at f1 f2 f3;rw[show(j:Int)-b=j+ -(b:Int) by omega]
  try simp(disch:=omega) only[push_cast,zk]
  refine zb (λd=>?_) (λd=>?_)
  .rw[f2 d] at a;exact a
  try simp(disch:=exact oS) only[push_cast,hs.len]
  refine zb (λe=>?_) (λe=>?_)
  .rw[f3 e] at a;exact a
  simp(disch:=exact oS) only[push_cast,hs.iaddr,hs.load];rw[f1 oM oM] at a;exact a
 .rw[gm c] at f1 f2 f3 a;simp only[Gd,if_false] at f1 f2 f3;refine zb (λd=>absurd d oM) (λd=>?_)
  try simp(disch:=exact oS) only[push_cast,hs.len]
  refine zb (λe=>?_) (λe=>?_)
  .rw[f3 e] at a;exact a
  simp(disch:=exact oS) only[push_cast,hs.iaddr,hs.load];rw[f1 oM oM] at a;exact a
theorem from_sn {up:Bool} {fill:Int} {s:oI} {b k:Nat} (a:Sn st fill) (hs:SnL st s) (c:k<s.length):Sn st (M.fromL up fill s b k):=by
 unfold M.fromL
 repeat' split
 all_goals first|exact a|exact hs.get oM
theorem sshift7_spec {op:Int} (hn:n<=8) (hk:MkR n D w cs st) (hD:∀b,D b->b<w.heap.size) (hx:Ints Fx w xv xs) (hy:Ints Fy w yv ys) (h1:1<=xs.length) (h8:xs.length<=1000) (b6:ys.length<=8) (a7:SnL st xs) (au:SnL st ys)
  (hK:∀w' cs' st' r zs,Ext w w'->MkR n D w' cs' st'->Ints (λb=>w.heap.size<=b) w' r zs->SnL st' zs->M.Bd.Out n (M.shiftB (decide (op=11)) (if op=13 then xs.getD (xs.length-1) 0 else-1) ys 0 xs) st st' zs->K (.tuple #[.agg ⟨cs'⟩,r]) w'):
  vcall Vy #[.agg ⟨cs⟩,nI op,xv,yv] w K:=by
 refine ze {loops:=[(6,[10,12]),(10,[13,14])],cuts:=[(16389,[11])]} Tryz.func166 ?_;refine Fm.start hk hD λb4 b8 w1 p=>?_;have a6:=Ints.under hx;have a8:=Ints.under hy;have lo:=p.lo;have s1:=p.ext.size;refine spec_nil λv2 w2 ao e2 X=>?_;refine ao.app xC (Ints.ext0 a6 (p.ext.trans e2)) (by simp;omega) (by simp;omega) λv3 w3 ap aq an=>?_;have l1:=p.lt4;have z2:=e2.size;have ae:Ext w1 w3:=Ext.then e2 aq λb f=>X b f;have Z:∀b,v3.ownBlock=some b->w1.heap.size<=b:=λb f=>(an b f).elim (X b) λh=>oM
 have h3:=p.grow ae;have ab:Ints (λb=>Kp b4 b8 (λ_=>False) b/\w.heap.size<=b) w3 v3 xs:=Ints.weaken ap.ints λb f _=>by
  have:=Z b f;exact⟨⟨oM,oM,id⟩,oM⟩
 have aj:Sn st (if op=13 then xs.getD (xs.length-1) 0 else-1):=by
  split
  .exact a7.get oM
  .exact Sn.of dC dC
 refine zp (λu w'=>u=[nI (if op=13 then xs.getD (xs.length-1) 0 else-1)]/\w'=w3) ?_ ?_
 .intro J hJ;have U:=Ints.ext0 a6 h3.ext;refine oZ ?_;refine zb (λc=>?_) (λc=>?_)
  .rw[X0 c] at hJ;simp(disch:=exact oS) only[push_cast,U.len,zk];rw[show((xs.length:Int)-1)=((xs.length-1:Nat):Int) by omega];rw[U.iaddr Qu oM oM,gu,U.load Jy oM];exact hJ _ _ ⟨rfl,rfl⟩
  .rw[y3 c] at hJ;exact hJ _ _ ⟨rfl,rfl⟩
 rintro _ _ w4 ⟨rfl,rfl⟩;generalize (if op=13 then xs.getD (xs.length-1) 0 else-1)=fill at*;refine vloop_up ys.length (λi u w'=> ∃z sv s,u=[sv,nI i]/\Fm n D (λ_=>False) w b4 b8 w' z/\Ints (λb=>Kp b4 b8 (λ_=>False) b/\w.heap.size<=b) w' sv s/\s.length=xs.length/\SnL z s/\SnL z ys/\Sn z fill/\
  ∀st2 res,M.Bd.Out n (M.shiftB (decide (op=11)) fill (ys.drop i) i s) z st2 res->M.Bd.Out n (M.shiftB (decide (op=11)) fill ys 0 xs) st st2 res) ⟨st,v3,_,rfl,h3,ab,rfl,a7,au,aj,λ_ _ h=>h⟩ ?_
 rintro i _ g w5 C hi ⟨E,sv,s,rfl,h5,a4,b5,H,a9,ai,F⟩ hC;have ar:=Ints.ext0 a8 h5.ext;simp(disch:=exact oS) only[push_cast,ar.len];refine zb (λb3=>?_) (λb1=>?_)
 .have Q:i<ys.length:=oM;have hp:=pow_le4 (i:=i) oM;obtain⟨B,hB⟩:∃B,2^i=B:=⟨_,rfl⟩;refine spec_nil λrv w6 a2 W Y=>?_;have h6:=h5.take W a2 Y;have T:Ints (Kp b4 b8 (O1 rv)) w6 sv s:=Ints.kpO (O:=λ_=>False) (Ints.weaken a4 λb f _=>f.1) W (λb f=>f.elim) λb f=> .inr (Y b f);refine vloop_up s.length (λj u w'=> ∃k rv zs,u=[rv,nI j]/\Fm n D (O1 rv) w b4 b8 w' k/\OwnI zh w' rv zs/\zs.length=j/\Ints (Kp b4 b8 (O1 rv)) w' sv s/\SnL k zs/\SnL k s/\SnL k ys/\Sn k fill/\
   ∀st2 rs,M.Bd.Out n (M.eachB (M.muxB (ys.getD i 0)) (((List.range s.length).map (M.fromL (decide (op=11)) fill s B)).drop j) (s.drop j)) k st2 rs->M.Bd.Out n (M.eachB (M.muxB (ys.getD i 0)) ((List.range s.length).map (M.fromL (decide (op=11)) fill s B)) s) E st2 (zs++rs)) ⟨E,rv,[],rfl,h6,a2,rfl,T,SnL.nil,H,a9,ai,λ_ _ h=>h⟩ ?_
  rintro j _ g7 w7 C7 hj ⟨k,V,zs,rfl,h7,a3,av,a5,aa,x,y,N,v⟩ ah;simp(disch:=exact oS) only[push_cast,a5.len];refine zb (λay=>?_) (λax=>?_)
  .have m:j<s.length:=oM;refine zd λw8 I _=>?_;have A:=h7.grow I;have l:=Ints.ext a5 I;have a:=Ints.ext0 a8 A.ext;obtain⟨c8,al,q⟩:=A.call;simp(disch:=exact oS) only[push_cast,l.iaddr,l.load,a.iaddr,a.load,k5,q w8 (Same.refl _ _)];refine l1Two_nat oM ?_;rw[hB];simp(disch:=exact oS) only[push_cast,l.iaddr,l.load,a.iaddr,a.load,k5,gi,q w8 (Same.refl _ _)];refine sfrom7_spec l m oM oM ?_;simp(disch:=exact oS) only[push_cast,l.iaddr,l.load,a.iaddr,a.load,k5,gi,q w8 (Same.refl _ _)];refine sone7_spec hn al A.dl (y.get Q) (from_sn N x m) (x.get m) λw9 b0 aw d L am hd t=>?_;simp only[push_cast,k5];refine A.put L am λw10 af G az=>?_
   try simp only[push_cast,k5,gi]
   have a0:OwnI zh w10 V zs:=((a3.ext I).ext L).same G λb f=>(h7.off b f).2.2.1;have S:Ints (Kp b4 b8 (O1 V)) w10 sv s:=Ints.kp4 (Ints.ext l L) G;refine af.app' a0 oM λac b7 ag a1 R=>?_
   try simp(disch:=omega) only[push_cast,zk]
   refine ah m _ _ ⟨aw,ac,zs++[d],by simp,ag,a1,by simp[av],R _ _ S,SnL.app (aa.out t) (SnL.one hd),x.out t,y.out t,N.out t,λst2 rs ho=>?_⟩;have:=v st2 (d::rs) ?_
   .simpa using this
   rw[Qt (by simpa using m) m,Ko m];exact M.Bd.Out.bind t (M.Bd.Out.map _ ho)
  .have b2:j=s.length:=oM;have o:=v k [] (by rw[YD (by simp;omega)];exact M.Bd.Out.ret _ _);rw[gK] at o
   try simp(disch:=omega) only[push_cast,zk]
   refine hC Q _ _ ⟨k,V,zs,by simp,h7.drop,Ints.weaken a3.ints (λb f _=>by have h9:=h7.off b f;exact⟨⟨h9.2.2.1,h9.2.2.2,id⟩,h9.2.1⟩),oM,aa,y,N,λst2 res ho=>F st2 res ?_⟩;rw[yY Q];rw[<-hB] at o;exact M.Bd.Out.bind o ho
 .refine h5.fin λw6 ad e6 ak T=>?_;exact hK w6 ad E sv s e6 ak (Ints.weaken (Ints.same a4 T λb f _ e=>f.1.2.1 e) λb f _=>f.2) H (F E s (by rw[zF0 oM];exact M.Bd.Out.ret _ _))
end
section
variable {w:World} {K:oK} {D F Fx Fy Y S O:oA} {n b4 b8:Nat} {v nv xv yv:Value} {cs cs':List Value} {st st':Option M.Gs} {a b c m x y r:Int} {xs ys:oI}
theorem SnL.set {xs:oI} (h:SnL st xs) {i:Nat} {x:Int} (b:Sn st x):SnL st (xs.set i x):=λy c=>by
 rcases pZ c with a|a
 .exact h y a
 .rw[a];exact b
theorem SnL.take (h:SnL st xs) (m:Nat):SnL st (xs.take m):=λx a=>h x (gU a)
theorem sdiv7_spec (hn:n<=8) (hk:MkR n D w cs st) (hD:∀b,D b->b<w.heap.size) (hx:Ints Fx w xv xs) (hy:Ints Fy w yv ys) (hl:xs.length=ys.length) (h8:xs.length<=900) (cq:SnL st xs) (ct:SnL st ys)
  (hK:∀w' cs' st' qv rv q r,Ext w w'->MkR n D w' cs' st'->Ints (λb=>w.heap.size<=b) w' qv q->Ints (λb=>w.heap.size<=b) w' rv r->SnL st' q->SnL st' r->M.Bd.Out n (M.divB xs (ys++[-1]) xs.length (M.offsL xs.length) (M.offsL xs.length)) st st' (q,r)->K (.tuple #[.agg ⟨cs'⟩,qv,rv]) w'):
  vcall zU0 #[.agg ⟨cs⟩,xv,yv] w K:=by
 refine ze {loops:=[(6,[10,13])]} Tryz.func165 ?_;refine Fm.start hk hD λb4 b8 w1 h1=>?_;have bj:=Ints.under hx;have cr:=Ints.under hy;have lo:=h1.lo;have s1:=h1.ext.size;have l1:=h1.lt4;have cp:=Ints.ext0 bj h1.ext;simp(disch:=exact oS) only[push_cast,cp.len];refine sfill7_spec oM λw2 bm a5 b7 az=>?_;refine sfill7_spec oM λw3 qv Q ab U=>?_;refine spec_nil λv4 w4 cc e4 ay=>?_;refine cc.app xC (Ints.ext0 cr (h1.ext.trans (a5.trans (Q.trans e4)))) (by simp;omega) (by simp;omega) λv5 w5 cd bb c9=>?_;have z2:=a5.size;have z3:=Q.size;have z4:=e4.size;have z5:=bb.size;have cm:∀b,v5.ownBlock=some b->w3.heap.size<=b:=λb a=>(c9 b a).elim (ay b) λh=>oM
 have bs:Ext w3 w5:=Ext.then e4 bb λb a=>ay b a;refine spec_app (w0:=w3) bs cd cm (by simp;omega) λwv w6 bi a2 b0=>?_;rw[Gk] at bi;simp(disch:=omega) only[push_cast,zk];have ce:=ab.ext a2;have h2:=h1.grow a5;have h3:=h2.take Q ab U;have h6:Fm n D (O1 qv) w b4 b8 w6 st:=h3.grow a2;have bz:Ints (λb=>Kp b4 b8 (O1 qv) b/\w.heap.size<=b) w6 bm (M.offsL xs.length):=Ints.weaken (b7.ext (Q.trans a2)).ints λb a _=>by
  have bw:=az b a;have c6:=b7.lt a;exact⟨⟨oM,oM,λhq=>by have:=U b hq;omega⟩,oM⟩
 have c3:Ints (Kp b4 b8 (O1 qv)) w6 wv (ys++[-1]):=Ints.weaken bi.ints λb a _=>by
  have bw:=b0 b a;exact⟨oM,oM,λhq=>by have:=ab.lt hq;omega⟩
 have dd:(ys++[(-1:Int)]).length=xs.length+1:=by rw[Q1,hl];rfl
 have co:SnL st (ys++[(-1:Int)]):=ct.app (SnL.one (Sn.of dC dC));generalize ys++[(-1:Int)]=wide at*;refine ji (λm u w'=> ∃B rv r q,u=[rv,nI ((m:Int)-1)]/\m<=xs.length/\Fm n D (O1 qv) w b4 b8 w' B/\Ints (λb=>Kp b4 b8 (O1 qv) b/\w.heap.size<=b) w' rv r/\r.length=xs.length/\SnL B r/\OwnI zh w' qv q/\q.length=xs.length/\SnL B q/\Ints (Kp b4 b8 (O1 qv)) w' wv wide/\SnL B wide/\SnL B xs/\
  ∀st2 res,M.Bd.Out n (M.divB xs wide m r q) B st2 res->M.Bd.Out n (M.divB xs wide xs.length (M.offsL xs.length) (M.offsL xs.length)) st st2 res) xs.length
  ⟨st,bm,_,_,rfl,gr _,h6,bz,M.offsL_len _,SnL.fill _,ce,M.offsL_len _,SnL.fill _,c3,co,cq,λ_ _ h=>h⟩ ?_
 rintro m _ g w7 C ⟨ad,rv,r,q,rfl,hm,h7,b9,cg,ba,b5,cf,b6,cn,z,Z,V⟩ hC;refine oZ ?_;refine zb (λdb=>?_) (λc6=>?_)
 .obtain⟨m,rfl⟩:∃j,m=j+1:=⟨m-1,oM⟩;have c8:m<xs.length:=oM;rw[show((m+1:Nat):Int)-1=(m:Int) by omega];have bk:=Ints.ext0 bj h7.ext;rw[bk.iaddr Qu oM oM,gu,bk.load Jy oM];refine zB xt yM xJ rfl rfl λa0 w8 da ao de bx=>?_;have ci:OwnI zh w8 (.slice (some ⟨a0,0,none⟩) 1 1) [xs.getD m 0]:=Blk.own1 (t:=zh) (cs:=[nI (xs.getD m 0)]) (by rw[qB];exact bx) (Gf _) rfl rfl oM;refine ci.app xC (Ints.ext b9 ao) (by simp;omega) (by simp;omega) λtv w9 cj ch ca=>?_;have ah:Ext w7 w9:=Ext.then ao ch λb a=>by have e:a0=b:=V1 a;omega
  have ck:∀b,tv.ownBlock=some b->w7.heap.size<=b:=λb a=>(ca b a).elim (λh=>by have e:a0=b:=V1 h;omega) λh=>oM;have h9:=h7.grow ah;have c0:Ints (Kp b4 b8 (O1 qv)) w9 tv (xs.getD m 0::r):=h7.new cj ck;have ac:SnL ad (xs.getD m 0::r):=(SnL.one (Z.get c8)).app ba;have bd:(xs.getD m 0::r).length=xs.length+1:=(by rw[gF,cg]);refine spec_nil λvz w10 d0 a1 cb=>?_;have E:=h9.grow a1;have R:=ah.trans a1;have S:Ints (Kp b4 b8 (O1 qv)) w10 tv (xs.getD m 0::r):=Ints.ext c0 a1;have X:Ints (Kp b4 b8 (O1 qv)) w10 wv wide:=Ints.ext cn R;have b1:=b5.ext R;generalize ht:xs.getD m 0::r=t at*;obtain⟨d6,ap,a6⟩:=E.call;simp only[a6 w10 (Same.refl _ _)];refine sless7_spec hn ap E.dl S X oM oM ac z λdg cx bn l v aq I d=>?_;simp only[push_cast,k5];refine E.put v aq λae ai L d1=>?_;have W:OwnI zh ae qv q:=(b1.ext v).same L λb a=>(E.off b a).2.2.1;have ak:Ints (Kp b4 b8 (O1 qv)) ae tv t:=Ints.kp4 (Ints.ext S v) L;have bg:Ints (Kp b4 b8 (O1 qv)) ae wv wide:=Ints.kp4 (Ints.ext X v) L;have c5:=I.1;unfold Sm at c5;simp(disch:=omega) only[push_cast,zk,Ga];rw[W.ints.iaddr Qu oM oM,gu];refine W.st yM oM λaf b2 N d2=>?_;have bt:Fm n D (O1 qv) w b4 b8 af bn:=ai.own N (λb a=>a) λb a=>⟨by have:=(ai.off b a).1;omega,.inl a⟩;have al:Ints (Kp b4 b8 (O1 qv)) af tv t:=Ints.same ak N λb a _ e=>a.2.2 e;have Y:Ints (Kp b4 b8 (O1 qv)) af wv wide:=Ints.same bg N λb a _ e=>a.2.2 e;refine zd λcw k _=>?_;have a3:=bt.grow k;obtain⟨d7,ar,J⟩:=a3.call;simp only[push_cast,k5,J cw (Same.refl _ _)];refine sturn7_spec (Ints.ext Y k) oM (z.sm) λag nv i ax a8=>?_;have a4:=a3.grow i;have aj:Ints (Kp b4 b8 (O1 qv)) ag nv (M.negL wide):=a3.new ax a8;have T:Ints (Kp b4 b8 (O1 qv)) ag tv t:=Ints.ext (Ints.ext al k) i;simp only[push_cast,k5,gi,J ag i];refine sadd7_spec hn (ar.ext i λ_ h _=>h) a4.dl T aj (by rw[M.negL_len];omega) oM (ac.out d) ((z.out d).neg) (Sn.of dC dC) λdh cy d5 uv us x au be a9 cl f=>?_;simp only[push_cast,k5];refine a4.put x au λbp bu y d3=>?_;have bf:us.length=xs.length+1:=by
   have:=M.sum_len f.reach;rw[M.negL_len] at this;omega
  have an:Ints (Kp b4 b8 (O1 qv)) bp uv us:=Ints.kp4 (a4.new be a9) y;have am:Ints (Kp b4 b8 (O1 qv)) bp tv t:=Ints.kp4 (Ints.ext T x) y
  try simp only[push_cast,k5,gi]
  refine zd λs o _=>?_;have A:=bu.grow o;obtain⟨d8,av,a7⟩:=A.call;have F:=Ints.ext am o;have G:=Ints.ext an o;have eT:xy zh tv none (some (nI xs.length)) none s=λK=>K (cutV tv xs.length) s:=by
   funext K
   by_cases c:xs.length<=t.length
   .exact Sl.cut F (Sl.base F (by simp;intro h;rw[h] at bd;simp at bd)) Qu (by simpa using c)
   .omega
  have eU:xy zh uv none (some (nI xs.length)) none s=λK=>K (cutV uv xs.length) s:=by
   funext K
   exact Sl.cut G (Sl.base G (by simp;intro h;rw[h] at bf;simp at bf)) Qu (by simpa using(show xs.length<=us.length by omega))
  have c1:Ints (Kp b4 b8 (O1 qv)) s (cutV tv xs.length) (t.take xs.length):=by
   have:=Sl.taken F (n:=xs.length) (by simpa using(show xs.length<=t.length by omega));unfold Ints Vals;rw[GG,GG];exact this
  have c2:Ints (Kp b4 b8 (O1 qv)) s (cutV uv xs.length) (us.take xs.length):=by
   have:=Sl.taken G (n:=xs.length) (by simpa using(show xs.length<=us.length by omega));unfold Ints Vals;rw[GG,GG];exact this
  simp only[push_cast,k5,a7 s (Same.refl _ _),eT,eU];refine sifs7_spec hn av A.dl c1 c2 (by rw[gh,gh];omega) (by rw[gh];omega) (((ac.out d).out f).take _) (cl.take _) (I.out f) λdi cz bo zv zs H aw bl aa cv p=>?_;simp only[push_cast,k5];refine A.put H aw λbq bv O d4=>?_
  try simp(disch:=omega) only[push_cast,k5,gi,zk]
  have cu:zs.length=xs.length:=by
   have:=M.each_len p.reach;rw[gh,gh] at this;omega
  have b3:OwnI zh bq qv (q.set m (-l)):=by
   have off:∀b,qv.ownBlock=some b->¬b=b4:=λb a=>(E.off b a).2.2.1;exact((((((b2.ext k).ext i).ext x).same y off).ext o).ext H).same O off
  have bh:Ints (Kp b4 b8 (O1 qv)) bq wv wide:=Ints.kp4 (Ints.ext (Ints.ext (Ints.kp4 (Ints.ext (Ints.ext (Ints.ext Y k) i) x) y) o) H) O;have df:=A.ext.size;refine hC m _ _ oM ⟨bo,zv,zs,q.set m (-l),by simp<;>exact⟨rfl,rfl⟩,oM,bv,Ints.same (Ints.weaken (F':=λb=>Kp b4 b8 (O1 qv) b/\w.heap.size<=b) bl.ints λb a _=>by
   have d9:=aa b a;have dc:=A.lt4;exact⟨⟨oM,oM,λhO=>by have:=(A.off b hO).1;omega⟩,oM⟩) O (λb a _ e=>a.1.1 e),cu,cv,b3,by rw[gP];exact cf,(((b6.out d).set I.neg).out f).out p,bh,((z.out d).out f).out p,((Z.out d).out f).out p,λst2 res ho=>V st2 res ?_⟩
  subst ht;exact xO0 d f p ho
 .have c7:m=0:=oM;subst c7;refine h7.fin λw8 br e8 c4 bc=>?_;exact hK w8 br ad qv rv q r e8 c4 (Ints.weaken (b5.same bc λb a e=>(h7.off b a).2.2.2 e).ints λb a _=>(h7.off b a).2.1) (Ints.weaken (Ints.same b9 bc λb a _ e=>a.1.2.1 e) λb a _=>a.2) b6 ba (V ad (q,r) (by unfold M.divB;exact M.Bd.Out.ret _ _))
end
section
variable {w:World} {K:oK} {D F Fx Fy Y S O:oA} {n b4 b8:Nat} {v v' nv xv yv:Value} {cs cs':List Value} {st st':Option M.Gs} {a b c m x y r:Int} {xs ys:oI}
abbrev New (w:World):oA:=λb=>w.heap.size<=b
theorem Fm.res {w0 c:World} {rv:Value} {zs:oI} (h:Fm n D O w0 b4 b8 w st) (he:Ext w c) (k:MkR n (YU0 D O b4 b8) c cs' st') (m:Ints (New w) c rv zs)
  (i:∀a,Ext w0 a->MkR n D a cs' st'->Ints (New w0) a rv zs->K (.tuple #[.agg ⟨cs'⟩,rv]) a):
  zG zC (oP b8 0) (.agg ⟨cs'⟩) c λ_ a=>vlv zC (oP b8 0) a λo p=>K (.tuple #[o,rv]) p:=by
 refine h.out he k λa g d f=>i a g d ?_;have l:=h.lt4;have s:=h.ext.size;exact Ints.weaken (Ints.same m f λb j _ e=>oM) λb j _=>oM
theorem jd {w0:World} {rv:Value} {zs:oI} (d:OwnI zh w rv zs) (c:∀b,rv.ownBlock=some b->w0.heap.size<=b):Ints (New w0) w rv zs:=Ints.weaken d.ints λb a _=>c b a
theorem sbin7_spec {op:Int} (h3:3<=op) (au:op<=14) (Q:n<=8) (hk:MkR n D w cs st) (hD:∀b,D b->b<w.heap.size) (hx:Ints Fx w xv xs) (hy:Ints Fy w yv ys) (hl:op≠14->xs.length=ys.length) (al:1<=xs.length) (h8:xs.length<=8) (aw:ys.length<=8) (s:SnL st xs) (j:SnL st ys)
  (y:∀w' cs' st' r zs,Ext w w'->MkR n D w' cs' st'->Ints (New w) w' r zs->SnL st' zs->M.Bd.Out n (M.binB op xs ys) st st' zs->K (.tuple #[.agg ⟨cs'⟩,r]) w'):
  vcall zW0 #[.agg ⟨cs⟩,nI op,xv,yv] w K:=by
 refine ze {cuts:=[(61457,[66])]} Tryz.func114 ?_;refine Fm.start hk hD λb4 b8 w1 m=>?_;have p:=Ints.ext (Ints.under hx) m.ext;have t:=Ints.ext (Ints.under hy) m.ext;unfold M.binB at y;obtain⟨c1,o,e⟩:=m.call;refine oZ ?_;refine zb (λc=>?_) (λc6=>?_)
 .subst c;simp only[y3 (show¬(6:Int)=14 by decide),y3 (show¬(6:Int)=3 by decide),y3 (show¬(6:Int)=4 by decide),y3 (show¬(6:Int)=5 by decide),if_true] at y;simp only[e w1 (Same.refl _ _)];refine sadd7_spec Q o m.dl p t oM oM s j (Sn.of dC dC) λw2 v st2 rv zs f g C Z U A=>?_;refine oZ ?_;exact m.res f g (jd C Z) λB e3 z k=>y B v st2 rv zs e3 z k U A
 try simp only[push_cast]
 refine zb (λc=>?_) (λc7=>?_)
 .subst c;simp only[y3 (show¬(7:Int)=14 by decide),y3 (show¬(7:Int)=3 by decide),y3 (show¬(7:Int)=4 by decide),y3 (show¬(7:Int)=5 by decide),y3 (show¬(7:Int)=6 by decide),if_true] at y;refine zd λw2 f _=>?_;simp only[e w2 f,k5];refine sturn7_spec (Ints.ext t f) oM j.sm λB nv a ab ap=>?_;simp only[e B (f.trans a),k5,gi];have Y:=(m.grow f).grow a;refine sadd7_spec Q (o.ext (f.trans a) λ_ h _=>h) Y.dl (Ints.ext p (f.trans a)) ab.ints (by grind [M.negL_len]) oM s j.neg (Sn.of dC dC) λX a6 an rv zs a8 a9 ah a1 V R=>?_;simp only[push_cast,k5];exact Y.res a8 a9 (jd ah a1) λE G i l=>y E a6 an rv zs G i l V R
 try simp only[push_cast]
 refine zb (λc=>?_) (λc8=>?_)
 .subst c;simp only[y3 (show¬(8:Int)=14 by decide),y3 (show¬(8:Int)=3 by decide),y3 (show¬(8:Int)=4 by decide),y3 (show¬(8:Int)=5 by decide),y3 (show¬(8:Int)=6 by decide),y3 (show¬(8:Int)=7 by decide),if_true] at y;simp only[e w1 (Same.refl _ _)];refine smul7_spec Q o m.dl p t (hl dC) oM s j λw2 v st2 rv zs f g C U A=>?_;refine oZ ?_;exact m.res f g C λB e3 z k=>y B v st2 rv zs e3 z k U A
 try simp only[push_cast]
 refine zb (λc=>?_) (λc9=>?_)
 .subst c;simp only[y3 (show¬(9:Int)=14 by decide),y3 (show¬(9:Int)=3 by decide),y3 (show¬(9:Int)=4 by decide),y3 (show¬(9:Int)=5 by decide),y3 (show¬(9:Int)=6 by decide),y3 (show¬(9:Int)=7 by decide),y3 (show¬(9:Int)=8 by decide),if_true] at y;simp only[e w1 (Same.refl _ _)];refine sdiv7_spec Q o m.dl p t (hl dC) oM s j λw2 v st2 qv rv q r f g a2 C a3 a4 A=>?_;refine oZ ?_;refine zi xA λa5 B a7 a k L=>?_;refine mk_put L rfl g.len g.one λX T V N=>?_;rw[KW N g.len];have x:Ext w2 X:=Ext.then a T λb O=>oM;exact m.res (f.trans x) (g.ext x λ_ h _=>h) (Ints.ext a2 x) λE G i l=>y E v st2 qv q G i l a3 (M.Bd.Out.map _ A)
 try simp only[push_cast]
 refine zb (λc=>?_) (λaq=>?_)
 .subst c;simp only[y3 (show¬(10:Int)=14 by decide),y3 (show¬(10:Int)=3 by decide),y3 (show¬(10:Int)=4 by decide),y3 (show¬(10:Int)=5 by decide),y3 (show¬(10:Int)=6 by decide),y3 (show¬(10:Int)=7 by decide),y3 (show¬(10:Int)=8 by decide),y3 (show¬(10:Int)=9 by decide),if_true] at y;simp only[e w1 (Same.refl _ _)];refine sdiv7_spec Q o m.dl p t (hl dC) oM s j λw2 v st2 qv rv q r f g a2 C a3 a4 A=>?_;refine oZ ?_;refine zi xA λa5 B a7 a k L=>?_;refine mk_put L rfl g.len g.one λX T V N=>?_;rw[KW N g.len];have x:Ext w2 X:=Ext.then a T λb O=>oM;exact m.res (f.trans x) (g.ext x λ_ h _=>h) (Ints.ext C x) λE G i l=>y E v st2 rv r G i l a4 (M.Bd.Out.map _ A)
 refine zp (λu w'=>u=[.bool (decide (op=11\/op=12\/op=13))]/\w'=w1) ?_ ?_
 .intro J hJ
  try simp only[push_cast]
  refine zb (λc=>?_) (λc=>?_)
  .grind
  try simp only[push_cast]
  refine zb (λd=>?_) (λd=>?_)
  .grind
  grind
 rintro _ _ w2 ⟨rfl,rfl⟩
 try simp only[push_cast]
 refine zb (λc=>?_) (λao=>?_)
 .simp only[e w2 (Same.refl _ _)];refine sshift7_spec Q o m.dl p t al oM oM s j λB H W rv zs a z S k ae=>?_;refine oZ ?_;refine m.res a z S λE G i l=>y E H W rv zs G i l k ?_
  grind
 try simp only[push_cast]
 refine zb (λc=>?_) (λar=>?_)
 .rw[X0 c] at y;refine zd λB a _=>?_;simp only[e B a,k5];refine spec_nil λv4 X R e4 ac=>?_;simp only[e X (a.trans e4),k5,gi];refine R.app xC (Ints.ext t (a.trans e4)) (by simp;omega) (by simp;omega) λv5 E af ai av=>?_;have z3:=a.size;have z4:=e4.size;have F:Ext B E:=Ext.then e4 ai λb O=>ac b O;simp only[e E (a.trans F),k5,gi];have ak:∀b,v5.ownBlock=some b->B.heap.size<=b:=(by grind);refine af.app xC (Ints.ext p (a.trans F)) (by simp;omega) (by simp;omega) λv6 w6 ag aj ad=>?_;have z5:=F.size;have I:Ext B w6:=Ext.then F aj λb O=>ak b O;simp only[e w6 (a.trans I),k5,gi];refine m.res (a.trans I) (o.ext (a.trans I) λ_ h _=>h) (jd ag λb O=>(ad b O).elim (λh=>by grind) λh=>oM) λw7 e7 aa am=>y w7 c1 st v6 _ e7 aa am (by rw[Gk];exact j.app s) (M.Bd.Out.ret _ _)
 simp only[e w2 (Same.refl _ _)];refine splain7_spec Q o m.dl p t oM oM s j λB H W rv zs a z S a0 k ae=>?_;refine oZ ?_;refine m.res a z (jd S a0) λE G i l=>y E H W rv zs G i l k ?_
 grind [plainB]
theorem sun7_spec {op:Int} (X:op=1\/op=2) (R:n<=8) (Q:MkR n D w cs st) (hD:∀b,D b->b<w.heap.size) (S:Ints Fx w xv xs) (V:xs.length<=8) (f:SnL st xs)
  (k:∀w' cs' st' r zs,Ext w w'->MkR n D w' cs' st'->Ints (New w) w' r zs->SnL st' zs->M.Bd.Out n (M.unB op xs) st st' zs->K (.tuple #[.agg ⟨cs'⟩,r]) w'):
  vcall x80 #[.agg ⟨cs⟩,nI op,xv] w K:=by
 refine ze {} Tryz.func112 ?_;refine Fm.start Q hD λb4 b8 w1 s=>?_;have p:=Ints.ext (Ints.under S) s.ext;unfold M.unB at k;obtain⟨c1,m,d⟩:=s.call;refine oZ ?_;refine zb (λc=>?_) (λc=>?_)
 .rw[X0 c] at k;refine zd λw2 a _=>?_;simp only[d w2 a,k5];refine sturn7_spec (Ints.ext p a) oM f.sm λF nv e y I=>?_;simp only[d F (a.trans e),k5,gi];have z2:=a.size;exact s.res (a.trans e) (m.ext (a.trans e) λ_ h _=>h) (jd y λb W=>by grind) λL N i j=>k L c1 st nv _ N i j f.neg (M.Bd.Out.ret _ _)
 .rw[y3 c] at k;refine zd λw2 a _=>?_;have q:=Ints.ext p a;simp(disch:=exact oS) only[push_cast,d w2 a,k5,q.len];refine sfill7_spec oM λF fv e v H=>?_;simp only[d F (a.trans e),k5,gi];refine sturn7_spec (Ints.ext q e) oM f.sm λT nv l z J=>?_;have g:=a.trans (e.trans l);simp only[d T g,k5,gi];have G:=s.grow g;refine sadd7_spec R (m.ext g λ_ h _=>h) G.dl (v.ext l).ints z.ints (by rw[M.negL_len,gI];omega) (by grind) (SnL.fill _) f.neg (Sn.of dC dC) λL t E rv zs u i B o j A=>?_;simp only[push_cast,k5];exact G.res u i (jd B o) λU O x C=>k U t E rv zs O x C j A
theorem swap_get (xs ys:oI) (h:xs.length=ys.length) (c:1<=xs.length):xs.take (xs.length-1)++[ys.getD (xs.length-1) 0]=M.swapT xs ys:=by
 unfold M.swapT;refine gM (by simp;omega) λi a b=>?_
 grind
theorem cut_app {w0:World} {vx:Value} {zs:oI} {x:Int} {c:Nat} {t0:TypeId} (f:Ext w0 w) (p:Ints Fx w vx zs) (s:zs.length<=1000) (h:Blk w c [nI x] t0) (j:w0.heap.size<=c) (m:OwnI zh w v []) (g:∀b,v.ownBlock=some b->w0.heap.size<=b/\b≠c)
  (r:∀w' v',Ext w0 w'->OwnI zh w' v' (zs++[x])->(∀b,v'.ownBlock=some b->w0.heap.size<=b)->K v' w'):
  vbi .append [zh,zh] zh [v,vx] w λt w1=>vbi .append [zh,zh] zh [t,.slice (some ⟨c,0,none⟩) 1 1] w1 K:=by
 have u:=f.size;refine m.app xC p (by simp;omega) (by simp;omega) λv2 w2 d a k=>?_;have s2:=a.size;refine OwnI.app1 d xC (h.same a λe=>(g _ e).2 rfl) (by simp;omega) (by simp;omega) λv3 y n o l=>?_;have q:Ext w0 w2:=Ext.then f a λb i=>(g b i).1
 grind [Ext.then]
theorem top_region {J:List Value->World->Prop} (hx:Ints Fx w xv xs) (hy:Ints Fy w yv ys) (hl:xs.length=ys.length) (h1:1<=xs.length) (h8:xs.length<=8) (hJ:∀w' r,Ext w w'->OwnI zh w' r (M.swapT xs ys)->(∀b,r.ownBlock=some b->w.heap.size<=b)->J [r] w'):
  ZK w λa=>
    xy zh xv none (some (nI ((xs.length-1:Nat):Int))) none a λt36 G=>G=a/\
    ya zh yv (nI ((xs.length-1:Nat):Int)) a λt40 H=>H=a/\
    zu zE t40 a λt41 I=>I=a/\
    (vbuildS zh 0 [] a λt33 c=>(zu zE t40 c λv x=>v=t41/\x=c)/\(ya zh yv (nI ((xs.length-1:Nat):Int)) c λv x=>v=t40/\x=c)/\(xy zh xv none (some (nI ((xs.length-1:Nat):Int))) none c λv x=>v=t36/\x=c)/\
     (vbi .append [zh,zh] zh [t33,t36] c λt37 d=>(zu zE t40 d λv x=>v=t41/\x=d)/\(ya zh yv (nI ((xs.length-1:Nat):Int)) d λv x=>v=t40/\x=d)/\
      (vbuildS zh 1 [(0,t41)] d λt42 L=>
       (vbi .append [zh,zh] zh [t37,t42] L λt43 N=>
        J [t43] N)/\
       True)/\
      True)/\
     (vbuildS zh 1 [(0,t41)] c λy j=>(xy zh xv none (some (nI ((xs.length-1:Nat):Int))) none j λv x=>v=t36/\x=j)/\
      (vbi .append [zh,zh] zh [t33,t36] j λt O=>
       (vbi .append [zh,zh] zh [t,y] O λA Q=>
        J [A] Q)/\
       True)/\
      True)/\
     True)/\
    (vbuildS zh 1 [(0,t41)] a λz k=>(xy zh xv none (some (nI ((xs.length-1:Nat):Int))) none k λv x=>v=t36/\x=k)/\
     (vbuildS zh 0 [] k λs l=>(xy zh xv none (some (nI ((xs.length-1:Nat):Int))) none l λv x=>v=t36/\x=l)/\
      (vbi .append [zh,zh] zh [s,t36] l λu R=>
       (vbi .append [zh,zh] zh [u,z] R λB S=>
        J [B] S)/\
       True)/\
      True)/\
     True)/\
    True:=by
 refine zd λw2 g _=>?_;have sl:∀(w':World) (K:oK),Ext w w'->xy zh xv none (some (nI ((xs.length-1:Nat):Int))) none w' K=K (cutV xv (xs.length-1)) w':=λw' K he=>by
  have o:=Ints.ext hx he;exact propext ⟨λh=>by rwa[Sl.cut o (Sl.base o (by simp;grind)) Qu (by simp)] at h,λh=>by rwa[Sl.cut o (Sl.base o (by simp;grind)) Qu (by simp)]⟩
 have ia:∀(w':World) (K:oK),ya zh yv (nI ((xs.length-1:Nat):Int)) w' K=K (oE (eaddr yv 1 (xs.length-1))) w':=λw' K=>by
  rw[hy.iaddr Qu oM oM,gu]
 have ld:∀(w':World) (K:oK),Ext w w'->zu zE (oE (eaddr yv 1 (xs.length-1))) w' K=K (nI (ys.getD (xs.length-1) 0)) w':=λw' K he=>(Ints.ext hy he).load Jy oM;have U:∀w',Ext w w'->Ints Fx w' (cutV xv (xs.length-1)) (xs.take (xs.length-1)):=λw' he=>by
  have:=Sl.taken (Ints.ext hx he) (n:=xs.length-1) (by simp)
  grind [Ints,Vals,List.map_take]
 have E:(xs.take (xs.length-1)).length<=1000:=by grind
 have s2:=g.size;simp only[sl _ _ g,ia,ld _ _ g,k5,Gh];refine⟨?_,?_⟩
 .refine spec_nil λv3 w3 i p F=>?_;have e:=g.trans p;simp only[sl _ _ e,ld _ _ e,k5,Gh,gi];refine⟨?_,?_⟩
  .refine i.app xC (U _ e) (by simp;omega) (by simp;omega) λv4 w4 X a2 V=>?_;have C:Ext w w4:=(by grind [Ext.then]);have s3:=p.size;simp only[ld _ _ C,k5,Gh,gi];refine spec_app (w0:=w) C X (λb D=>(V b D).elim (λh=>by grind) λh=>oM) (by simp;omega) λv5 w5 a1 e5 a0=>?_
   grind [swap_get]
  .refine zB xt yM xJ rfl rfl λb7 w7 T f Z q=>?_;have s3:=p.size;simp only[sl _ _ (e.trans f),k5,Gh,gi];refine cut_app (w0:=w) (e.trans f) (U _ (e.trans f)) E q oM (i.ext f) (λb D=>by have:=F b D;have:=i.lt D;omega) λw8 v8 e8 Y W=>?_
   grind [swap_get]
 .refine zB xt yM xJ rfl rfl λb7 w7 T f Z q=>?_;have m:=g.trans f;simp only[sl _ _ m,k5,Gh,gi];refine spec_nil λv3 w3 i p F=>?_;simp only[sl _ _ (m.trans p),k5,Gh,gi];refine cut_app (w0:=w) (m.trans p) (U _ (m.trans p)) E (q.ext p) oM i (λb D=>by grind) λw8 v8 e8 Y W=>?_
  grind [swap_get]
theorem swap_sn (a:SnL st xs) (b:SnL st ys) (d:xs.length=ys.length) (c:1<=xs.length):SnL st (M.swapT xs ys):=a.set (b.get oM)
theorem WS (xs ys:oI):(M.swapT xs ys).length=xs.length:=gP ..
theorem scmp7_spec {op:Int} (W:15<=op) (X:op<=17) (y:n<=8) (Y:MkR n D w cs st) (hD:∀b,D b->b<w.heap.size) (hx:Ints Fx w xv xs) (hy:Ints Fy w yv ys) (x:xs.length=ys.length) (z:1<=xs.length) (h8:xs.length<=8) (g:SnL st xs) (j:SnL st ys)
  (k:∀w' cs' st' r,Ext w w'->MkR n D w' cs' st'->Sn st' r->M.Bd.Out n (M.cmpB op xs ys) st st' r->K (.tuple #[.agg ⟨cs'⟩,nI r]) w'):
  vcall zV0 #[.agg ⟨cs⟩,nI op,xv,yv] w K:=by
 refine ze {cuts:=[(32776,[11]),(36873,[12])]} Tryz.func113 ?_;refine Fm.start Y hD λb4 b8 w1 f=>?_;have d:=Ints.ext (Ints.under hx) f.ext;have i:=Ints.ext (Ints.under hy) f.ext;unfold M.cmpB at k;obtain⟨c1,o,a⟩:=f.call;refine oZ ?_;refine zb (λc=>?_) (λT=>?_)
 .rw[X0 c] at k;simp only[a w1 (Same.refl _ _)];refine ssame7_spec y o f.dl d i oM oM g j λw2 l st2 r m p t s=>?_;refine oZ ?_;exact f.out m p λA v q R=>k A l st2 r v q t s
 rw[y3 T] at k
 try simp only[push_cast]
 refine zb (λc=>?_) (λU=>?_)
 .rw[X0 c] at k;simp only[a w1 (Same.refl _ _)];refine sless7_spec y o f.dl d i oM oM g j λw2 l st2 r m p t s=>?_;refine oZ ?_;exact f.out m p λA v q R=>k A l st2 r v q t s
 rw[y3 U] at k;rw[d.len ZP0];simp(disch:=omega) only[push_cast,zk];rw[show((xs.length:Int)-1)=((xs.length-1:Nat):Int) by omega];refine zp (λu w'=> ∃r,u=[r]/\Ext w1 w'/\OwnI zh w' r (M.swapT xs ys)) ?_ ?_
 .intro J E;exact top_region d i x z oM λw' r he N y=>E _ _ ⟨r,rfl,he,N⟩
 rintro _ _ w2 ⟨av,rfl,C,F⟩;refine zp (λu w'=> ∃r,u=[r]/\Ext w2 w'/\OwnI zh w' r (M.swapT ys xs)) ?_ ?_
 .intro J E;rw[x];exact top_region (Ints.ext i C) (Ints.ext d C) x.symm oM oM λw' r he N y=>E _ _ ⟨r,rfl,he,N⟩
 rintro _ _ A ⟨bv,rfl,v,G⟩;have e:=C.trans v
 try simp only[push_cast]
 simp only[a A e];refine sless7_spec y (o.ext e λ_ h _=>h) (f.grow e).dl (F.ext v).ints G.ints (by rw[WS,WS];omega) (by rw[WS];omega) (swap_sn g j x z) (swap_sn j g x.symm oM) λw4 B S r H I Q O=>?_;refine oZ ?_;exact(f.grow e).out H I λw5 V L Z=>k w5 B S r V L Q O
end
section
variable {w:World} {K:oK} {D F Fx:oA} {n:Nat} {v dv tv:Value} {cs:List Value} {st:Option M.Gs} {a b c m x y r:Int} {ds:List M.Dcl} {t:M.Tm}
theorem spec_one {x:Int} (f:∀w' r,Ext w w'->OwnI zh w' r [x]->(∀b,r.ownBlock=some b->w.heap.size<=b)->K r w'):vbuildS zh 1 [(0,nI x)] w K:=by
 refine zB xt yM xJ rfl rfl λd j h c i a=>?_;exact f j _ c (Blk.own1 (t:=zh) (cs:=[nI x]) (by rw[qB];exact a) (Gf _) rfl rfl oM) λb g=>by have e:d=b:=V1 g;omega
theorem sbits8_spec {k:Nat} (d:M.declOk ds=true) (o:k<=ds.length) (j:DclsR F w v (ds.take k)) (h:∀w',Ext w w'->K (nI (M.bitT ds k)) w'):vcall U1 #[v] w K:=by
 refine ze {loops:=[(3,[3,4])]} Tryz.func75 ?_;have hlen:(ds.take k).length=k:=by rw[gh];omega
 have n:=(M.decl_iff.1 d).1;refine vloop_up k (λi u w'=>u=[nI (M.bitT ds i),nI i]/\Ext w w') ⟨rfl,Same.refl _ _⟩ ?_;rintro i _ _ w2 C hi ⟨rfl,c⟩ g;have b:=j.ext c;simp(disch:=exact oS) only[push_cast,b.len];refine zb (λa=>?_) (λa=>?_)
 .have e:i<k:=oM;have m:=dcl_small d (i:=i) oM;have f:=dcl_small d (i:=i+1) oM;rw[M.bitT_succ oM] at f;have l:(ds.take k).getD i (M.nada,0)=ds.getD i (M.nada,0):=M.take_getD e;simp(disch:=exact oS) only[push_cast,b.iaddr,b.load1,l,zk];refine g e _ _ ⟨?_,c⟩;rw[M.bitT_succ oM];simp
 .have:i=k:=oM;subst this;exact h w2 c
theorem fix_val {nn:Int} {j:Nat}:2*((nn.toNat/2^j%2:Nat):Int)-1=if nn.toNat/2^j%2=1 then 1 else-1:=by
 have h:nn.toNat/2^j%2=0\/nn.toNat/2^j%2=1:=oM
 rcases h with h|h<;>rw[h]<;>rfl
theorem sfix8_spec {wd nn:Int} (x:M.vok wd nn=true) (t:∀w' r,Ext w w'->OwnI zh w' r (M.fixB wd nn)->(∀b,r.ownBlock=some b->w.heap.size<=b)->K r w'):vcall zN0 #[nI wd,nI nn] w K:=by
 refine ze {loops:=[(3,[5,6])]} Tryz.func154 ?_;obtain⟨v1,v2,v3,v4⟩:=M.vok_lt x;refine spec_nil λy w1 m p k=>?_;refine vloop_up wd.toNat (λi u w'=> ∃r,u=[r,nI i]/\Ext w w'/\OwnI zh w' r ((M.fixB wd nn).take i)/\∀b,r.ownBlock=some b->w.heap.size<=b) ⟨_,rfl,p,m,k⟩ ?_;rintro i _ g w2 C hi ⟨r,rfl,o,d,f⟩ s;refine oZ ?_;refine zb (λa=>?_) (λa=>?_)
 .have e:i<wd.toNat:=oM;rw[show nn=((nn.toNat:Nat):Int) by omega];refine l1Bit_spec oM oM ?_;have v:nn.toNat/2^i%2<2:=pS _ dC;have c:=fix_val (nn:=nn) (j:=i);generalize h:nn.toNat/2^i%2=bt at c v;simp(disch:=omega) only[push_cast,zk];rw[c];refine spec_app o d f (by rw[gh,M.fixB_len];omega) λv3 z n q l=>?_
  try simp(disch:=omega) only[push_cast,zk]
  refine s e _ _ ⟨v3,by simp,q,?_,l⟩;rw[M.take_add (by rw[M.fixB_len];omega) 0,fixB_at oM,h];exact n
 .have e:i=wd.toNat:=oM;rw[gD (by rw[M.fixB_len];omega)] at d;exact t w2 r o d f
theorem sname8_spec {k:Nat} (e:M.declOk ds=true) (l:k<ds.length) (p:DclsR F w v ds) (D:∀w' r,Ext w w'->OwnI zh w' r (M.nameB ds k)->(∀b,r.ownBlock=some b->w.heap.size<=b)->K r w'):vcall WZ #[v,nI k] w K:=by
 refine ze {loops:=[(4,[6,7])]} Tryz.func155 ?_;have J:=(M.decl_iff.1 e).1;rw[p.cut (by intro h;rw[h] at l;simp at l) Yr oM];refine sbits8_spec e oM (p.taken oM) λw1 y=>?_;have G:=dcl_small e (i:=k) oM;have H:=M.dcl_wide e l;simp(disch:=omega) only[push_cast,zk];refine spec_nil λv2 w2 t z q=>?_;have N:=y.size;refine vloop_up (ds.getD k (M.nada,0)).2.toNat (λi u w'=> ∃r,u=[r,nI i]/\Ext w w'/\OwnI zh w' r ((M.nameB ds k).take i)/\∀b,r.ownBlock=some b->w.heap.size<=b) ⟨_,rfl,y.trans z,t,λb E=>by have:=q b E;omega⟩ ?_;rintro i _ g I C hi ⟨r,rfl,n,f,m⟩ B;have d:=p.ext n;have j:∀c:i<(ds.getD k (M.nada,0)).2.toNat,(M.nameB ds k).getD i 0=2+M.bitT ds k+(ds.getD k (M.nada,0)).2-1-(i:Int):=λc=>by unfold M.nameB;rw[Ko c];rfl
 rw[d.iaddr Yr oM oM,gu];refine oZ ?_;rw[d.load1 Jy l];generalize o:(ds.getD k (M.nada,0)).2=wd at*;refine oZ ?_;refine zb (λa=>?_) (λa=>?_)
 .have c:i<wd.toNat:=oM;rw[d.iaddr Yr oM oM,gu];refine oZ ?_;rw[d.load1 Jy l,o];simp(disch:=omega) only[push_cast,zk];refine spec_app n f m (by rw[gh,M.nameB_len];omega) λv5 L x A s=>?_
  try simp(disch:=omega) only[push_cast,zk]
  refine B c _ _ ⟨v5,by simp,A,?_,s⟩;rw[M.take_add (by rw[M.nameB_len,o];omega) 0,j c];exact x
 .rw[gD (by rw[M.nameB_len,o];omega)] at f;exact D I r n f m
theorem sleaf8_spec (l:M.declOk ds=true) (hs:M.sortM ds t≠ -1) (G:t.ks.length=0) (q:DclsR F w dv ds) (C:TermR Fx w tv t)
  (i:∀w' r zs,Ext w w'->OwnI zh w' r zs->(∀b,r.ownBlock=some b->w.heap.size<=b)->SnL st zs->M.Bd.Out n (M.nodeB ds t []) st st zs->K r w'):vcall U0 #[dv,tv] w K:=by
 refine ze {} Tryz.func110 ?_;obtain⟨kv,rfl,y⟩:=C;obtain⟨u,I,A⟩:=M.right_op hs;have B:t.op=20\/t.op=21\/t.op=24:=Gy λh=>by have:=M.node_arity A h;omega
 refine zj λb1 w1 v a E g=>?_;simp(disch:=exact oS) only[push_cast,g.ld0];unfold M.nodeB at i;refine zb (λc=>?_) (λc=>?_)
 .rw[X0 c] at i;have D:=M.vec_ok hs c;simp(disch:=exact oS) only[push_cast,g.ld1,g.ld2];refine sfix8_spec D λw2 r d f e=>?_;exact i w2 r _ (a.trans d) f (λb o=>by have:=e b o;omega) (λx p=>by
   unfold M.fixB at p;obtain⟨j,_,rfl⟩:=gy.1 p;split<;>exact Sn.of dC dC) (M.Bd.Out.ret _ _)
 rw[y3 c] at i
 try simp only[push_cast]
 refine zb (λc2=>?_) (λc2=>?_)
 .rw[X0 c2] at i;have H:=M.name_found hs c2;have z:=M.findD_lt ds t.s;simp(disch:=exact oS) only[push_cast,g.ld3];refine l2Find_spec (q.ext a) ?_;rw[show M.findD ds t.s=(((M.findD ds t.s).toNat:Nat):Int) by omega];refine sname8_spec l oM (q.ext a) λw2 r d f e=>?_;refine i w2 r _ (a.trans d) f (λb o=>by have:=e b o;omega) (λx p=>?_) (M.Bd.Out.ret _ _);obtain⟨p1,p2,J⟩:=M.name_has (m:=9) l (k:=(M.findD ds t.s).toNat) oM (by have:=(M.decl_iff.1 l).2.2;omega) x p;exact Sn.of (by unfold Sm;omega) p1
 .rw[y3 c2,X0 oM] at i;refine spec_one λw2 r d f e=>?_;exact i w2 r _ (a.trans d) f (λb o=>by have:=e b o;omega) (SnL.one (Sn.of dC dC)) (M.Bd.Out.ret _ _)
end
section
variable {w:World} {K:oK} {D F Fx Y S O:oA} {n b4 b8:Nat} {v tv kv:Value} {cs cs' ts:List Value} {st st':Option M.Gs} {a b c m x y r:Int} {ds:List M.Dcl} {t:M.Tm} {rs:List (oI)}
theorem Fm.start2 (s:MkR n D w cs st) (hD:∀b,D b->b<w.heap.size) {K:Value->Value->oK} (m:∀b4 a b8 w',Fm n D (λ_=>False) w b4 b8 w' st->Blk w' a ts za->w.heap.size<=a/\a≠b4/\a≠b8->K (oP b4 0) (oP a 0) (oP b8 0) w'):
  yO0 zC (.agg ⟨cs⟩) w λt w1=>yO0 za (.agg ⟨ts⟩) w1 λt5 w2=>xS zC w2 λt8 k=>K t t5 t8 k:=by
 refine zj λb4 w1 p i u e=>?_;refine zj λa w2 q j v f=>?_;refine zi xA λb8 k r d x g=>?_;have c:=j.trans d;have l:=i.trans c;refine m b4 a b8 k ⟨l,⟨cs,e.ext c,s.ext l λb o y=>o.elim id λh=>?_⟩,⟨_,g,rfl⟩,oM,λb h=>h.elim,hD⟩ (f.ext d) oM;rcases h with h|h|h
 .omega
 .omega
 .exact h.elim
def KidsS (w:World) (kv:Value) (rs:List (oI)):Prop:= ∃(vs:List Value) (Fk:oA),Vals Fk w kv vs/\vs.length=rs.length/\∀i,i<rs.length->Ints (λ_=>True) w (vs.getD i undef) (rs.getD i [])
theorem KidsS.vals (h:KidsS w kv rs):∃vs:List Value,(∀(w':World),Ext w w'->∀i:Nat,i<rs.length->∀K:oK,ya zn kv (nI i) w' K=K (oE (eaddr kv 1 i)) w'/\zu zh (oE (eaddr kv 1 i)) w' K=K (vs.getD i undef) w')/\
  ∀i,i<rs.length->Ints (λ_=>True) w (vs.getD i undef) (rs.getD i []):=by
 obtain⟨vs,Fk,b,d,c⟩:=h;refine⟨vs,λw' he i hi K=>?_,c⟩;have a:=b.ext he;refine⟨?_,a.load X60 oM⟩;rw[a.iaddr Yw0 oM oM,gu]
theorem KidsS.ext {w':World} (h:KidsS w kv rs) (he:Ext w w'):KidsS w' kv rs:=by
 obtain⟨vs,Fk,a,b,c⟩:=h;exact⟨vs,Fk,a.ext he,b,λi hi=>Ints.ext (c i hi) he⟩
theorem len_one {l:oI} (h:l.length=1):l=[l.getD 0 0]:=by
 match l,h with
 |[x],_=>rfl
theorem slogic8_spec (a5:M.declOk ds=true) (hs:M.sortM ds t≠ -1) (a9:22<t.op) (a1:t.op≠24) (hn:n<=8) (hk:MkR n D w cs st) (hD:∀b,D b->b<w.heap.size) (ht:TermR Fx w tv t) (J:KidsS w kv rs) (ad:rs.length=t.ks.length) (hlen:∀i,i<t.ks.length->(rs.getD i []).length=M.lenS (M.sortM ds (M.kid t i))) (a6:∀r,r∈rs->SnL st r)
  (m:∀w' cs' st' r zs,Ext w w'->MkR n D w' cs' st'->Ints (New w) w' r zs->SnL st' zs->M.Bd.Out n (M.nodeB ds t rs) st st' zs->K (.tuple #[.agg ⟨cs'⟩,r]) w'):
  vcall Vx #[.agg ⟨cs⟩,tv,kv] w K:=by
 refine ze {} Tryz.func111 ?_;obtain⟨kw,rfl,ab⟩:=ht;obtain⟨aa,hp,ho⟩:=M.right_op hs;obtain⟨q1,q2,q3,q4,q5,q6,q7⟩:=M.node_right a5 hs (L:=λi=>(rs.getD i []).length) hlen;refine Fm.start2 hk hD λb4 b5 b8 w1 S a2 ac=>?_;obtain⟨c1,y,e⟩:=S.call;obtain⟨vs,g,f⟩:=(J.ext S.ext).vals;have get:∀i,i<rs.length->SnL st (rs.getD i []):=λi hi=>a6 _ (M.getD_mem hi []);simp(disch:=exact oS) only[push_cast,a2.ld0];unfold M.nodeB at m;rw[y3 oM,y3 oM,y3 a1] at m;refine zb (λc=>?_) (λF=>?_)
 .rw[X0 c] at m;obtain⟨q,j⟩:=q7 oM;rw[X0 c] at q;have H:=j 0 oM;refine zd λw2 a _=>?_;have B:∀K:oK,ya zn kv (nI 0) w2 K=K (oE (eaddr kv 1 0)) w2:=λK=>(g w2 a 0 oM K).1;have C:∀K:oK,zu zh (oE (eaddr kv 1 0)) w2 K=K (vs.getD 0 undef) w2:=λK=>(g w2 a 0 oM K).2;simp only[e w2 a,B,C,k5];refine sturn7_spec (Ints.ext (f 0 oM) a) oM (get 0 oM).sm λY r3 d l a4=>?_;simp only[e Y (a.trans d),k5,gi];have z2:=a.size;refine S.res (a.trans d) (y.ext (a.trans d) λ_ h _=>h) (jd l λb hb=>by have:=a4 b hb;omega) λR e4 k v=>m R c1 st r3 _ e4 k v (get 0 oM).neg ?_;rw[len_one H];exact M.Bd.Out.ret _ _
 rw[y3 F] at m
 try simp only[push_cast]
 refine zb (λc=>?_) (λZ=>?_)
 .rw[X0 c] at m;obtain⟨q,j⟩:=q7 oM;rw[y3 F] at q;have H:=j 0 oM;have a3:=j 1 oM;refine zd λw2 a _=>?_;have B:∀K:oK,ya zn kv (nI 0) w2 K=K (oE (eaddr kv 1 0)) w2:=λK=>(g w2 a 0 oM K).1;have C:∀K:oK,zu zh (oE (eaddr kv 1 0)) w2 K=K (vs.getD 0 undef) w2:=λK=>(g w2 a 0 oM K).2;have T:∀K:oK,ya zn kv (nI 1) w2 K=K (oE (eaddr kv 1 1)) w2:=λK=>(g w2 a 1 oM K).1;have U:∀K:oK,zu zh (oE (eaddr kv 1 1)) w2 K=K (vs.getD 1 undef) w2:=λK=>(g w2 a 1 oM K).2;have z:=Ints.ext (f 0 oM) a;have E:=Ints.ext (f 1 oM) a;simp(disch:=exact oS) only[e w2 a,B,C,T,U,z.iaddr,z.load,E.iaddr,E.load,push_cast,k5];have A:=S.grow a;refine sand7_spec hn (y.ext a λ_ h _=>h) A.dl ((get 0 oM).get oM) ((get 1 oM).get oM) λY G x r d p u l=>?_;simp only[push_cast,k5];refine A.put d p λR W a7 v=>?_
  try simp only[push_cast,k5,gi]
  obtain⟨c4,k,s⟩:=W.call;simp only[s R (Same.refl _ _)];refine spec_one λw5 rv o O N=>?_;refine W.res o (k.ext o λ_ h _=>h) (jd O N) λw6 e6 I Q=>m w6 c4 x rv [r] e6 I Q (SnL.one u) (xI l (M.Bd.Out.ret _ _))
 rw[y3 Z] at m
 try simp only[push_cast]
 refine zb (λc=>?_) (λa0=>?_)
 .rw[X0 c] at m;obtain⟨q,j⟩:=q7 oM;rw[y3 F] at q;have H:=j 0 oM;have a3:=j 1 oM;refine zd λw2 a _=>?_;have B:∀K:oK,ya zn kv (nI 0) w2 K=K (oE (eaddr kv 1 0)) w2:=λK=>(g w2 a 0 oM K).1;have C:∀K:oK,zu zh (oE (eaddr kv 1 0)) w2 K=K (vs.getD 0 undef) w2:=λK=>(g w2 a 0 oM K).2;have T:∀K:oK,ya zn kv (nI 1) w2 K=K (oE (eaddr kv 1 1)) w2:=λK=>(g w2 a 1 oM K).1;have U:∀K:oK,zu zh (oE (eaddr kv 1 1)) w2 K=K (vs.getD 1 undef) w2:=λK=>(g w2 a 1 oM K).2;have z:=Ints.ext (f 0 oM) a;have E:=Ints.ext (f 1 oM) a;simp(disch:=exact oS) only[e w2 a,B,C,T,U,z.iaddr,z.load,E.iaddr,E.load,push_cast,k5];have A:=S.grow a;refine sor7_spec hn (y.ext a λ_ h _=>h) A.dl ((get 0 oM).get oM) ((get 1 oM).get oM) λY G x r d p u l=>?_;simp only[push_cast,k5];refine A.put d p λR W a7 v=>?_
  try simp only[push_cast,k5,gi]
  obtain⟨c4,k,s⟩:=W.call;simp only[s R (Same.refl _ _)];refine spec_one λw5 rv o O N=>?_;refine W.res o (k.ext o λ_ h _=>h) (jd O N) λw6 e6 I Q=>m w6 c4 x rv [r] e6 I Q (SnL.one u) (M.Bd.Out.map _ l)
 have V:t.op=23:=oM
 rw[y3 a0,X0 V] at m;obtain⟨k1,l0,l1,l2,l3⟩:=q6 V;refine zd λw2 a _=>?_;have B:∀K:oK,ya zn kv (nI 0) w2 K=K (oE (eaddr kv 1 0)) w2:=λK=>(g w2 a 0 oM K).1;have C:∀K:oK,zu zh (oE (eaddr kv 1 0)) w2 K=K (vs.getD 0 undef) w2:=λK=>(g w2 a 0 oM K).2;have T:∀K:oK,ya zn kv (nI 1) w2 K=K (oE (eaddr kv 1 1)) w2:=λK=>(g w2 a 1 oM K).1;have U:∀K:oK,zu zh (oE (eaddr kv 1 1)) w2 K=K (vs.getD 1 undef) w2:=λK=>(g w2 a 1 oM K).2;have A2:∀K:oK,ya zn kv (nI 2) w2 K=K (oE (eaddr kv 1 2)) w2:=λK=>(g w2 a 2 oM K).1;have B2:∀K:oK,zu zh (oE (eaddr kv 1 2)) w2 K=K (vs.getD 2 undef) w2:=λK=>(g w2 a 2 oM K).2;have z:=Ints.ext (f 0 oM) a;have E:=Ints.ext (f 1 oM) a;have V2:=Ints.ext (f 2 oM) a;simp(disch:=exact oS) only[e w2 a,B,C,T,U,A2,B2,z.iaddr,z.load,push_cast,k5];have A:=S.grow a;refine sifs7_spec hn (y.ext a λ_ h _=>h) A.dl E V2 oM oM (get 1 oM) (get 2 oM) ((get 0 oM).get oM) λY G x r zs d p u X a8 l=>?_;simp only[push_cast,k5];exact A.res d p (jd u X) λR e4 k v=>m R G x r zs e4 k v a8 l
end
section
variable {w:World} {K:oK} {D F Y S O:oA} {n b4 b8:Nat} {v v' xv dv tv kv:Value} {cs cs':List Value} {st st':Option M.Gs} {a b c m x y r:Int} {xs:oI} {ds:List M.Dcl} {t:M.Tm} {rs:List (oI)}
theorem cutEq {lo hi:Nat} {kl kh:IntKind} (h:Ints F w v xs) (k:lo<=hi) (j:hi<=xs.length):∃v',(∀(w':World) (K:oK),xy zh v (some (.int kl lo)) (some (.int kh hi)) none w' K=K v' w')/\Ints F w v' ((xs.drop lo).take (hi-lo)):=by
 have d:elB zh 1=true:=Qu;obtain⟨hu,hs⟩:=Xe d;have hlen:((xs.drop lo).take (hi-lo)).length=hi-lo:=by rw[gh,pk];omega
 obtain⟨a,c,rfl,g,i,b⟩:=h.shape;rw[K3,K3] at g;refine⟨sliced a lo hi c 1,λw' K=>y9 ?_,?_⟩
 .rw[K3,K3,run_sliceAt_slice w' zh _ _ _ _ hu,run_slice_lh w' zh _ _ _ hu kl kh lo hi oM oM oM,Go.Vc.run_sizeOf hs];simp[Result.andThen]
 .have key:=Ints.cutLH (t:=zh) (kl:=kl) (kh:=kh) (w':=w) (K:=λv' w'=>v'=sliced a lo hi c 1->Ints F w v' ((xs.drop lo).take (hi-lo))) h d k j λv' f _=>f;rw[K3,K3] at key;have e:xy zh (.slice a xs.length c) (some (.int kl lo)) (some (.int kh hi)) none w (λv' w'=>v'=sliced a lo hi c 1->Ints F w v' ((xs.drop lo).take (hi-lo)))=(sliced a lo hi c 1=sliced a lo hi c 1->Ints F w (sliced a lo hi c 1) ((xs.drop lo).take (hi-lo))):=y9 (by
   rw[run_sliceAt_slice w zh _ _ _ _ hu,run_slice_lh w zh _ _ _ hu kl kh lo hi oM oM oM,Go.Vc.run_sizeOf hs];simp[Result.andThen];rfl)
  rw[e] at key;exact key rfl
theorem jc0 (ps:List (M.Bd (oI))) (p:M.Bd (oI)):M.seqB (ps++[p])=(M.seqB ps).bind λrs=>p.map λr=>rs++[r]:=by
 induction ps with
 |nil=>rfl
 |cons q ps a=>
  show(q.bind λr=>(M.seqB (ps++[p])).map (r:: ·))=((q.bind λr=>(M.seqB ps).map (r:: ·)).bind λrs=>p.map λr=>rs++[r]);rw[M.Bd.bind_assoc];congr 1
  funext r
  rw[a];unfold M.Bd.map;rw[M.Bd.bind_assoc,M.Bd.bind_assoc];congr 1
  funext rs
  rw[M.Bd.bind_assoc];rfl
theorem xF0 {ps:List (M.Bd (oI))} {p:M.Bd (oI)} {st a st2:Option M.Gs} {rs:List (oI)} {r:oI} (h:M.Bd.Out n (M.seqB ps) st a rs) (b:M.Bd.Out n p a st2 r):M.Bd.Out n (M.seqB (ps++[p])) st st2 (rs++[r]):=by
 rw[jc0];exact M.Bd.Out.bind h (M.Bd.Out.map _ b)
theorem ks_few (hs:M.sortM ds t≠ -1):t.ks.length<=3:=by
 obtain⟨a,c,b⟩:=M.right_op hs;have h:M.arity t.op<=3:=by
  unfold M.arity;repeat' split
  all_goals omega
 omega
theorem sdo8_spec (ac:M.declOk ds=true) (hn:n<=8):∀(t:M.Tm),M.sortM ds t≠ -1->∀{w:World} {K:oK} {D:oA} {cs:List Value} {st:Option M.Gs} {tv:Value} {Fd Ft:oA},MkR n D w cs st->(∀b,D b->b<w.heap.size)->DclsR Fd w dv ds->TermR Ft w tv t->
  (∀w' cs' st' r zs,Ext w w'->MkR n D w' cs' st'->Ints (New w) w' r zs->SnL st' zs->M.Bd.Out n (M.termB ds t) st st' zs->K (.tuple #[.agg ⟨cs'⟩,r]) w')->
  vcall x70 #[.agg ⟨cs⟩,dv,tv] w K:=by
 refine M.Tm.ind λt ih hs w K D cs st tv Fd Ft hk hD ay ht hK=>?_;obtain⟨kw,rfl,bz⟩:=ht;refine ze {loops:=[(3,[8,9])]} Tryz.func76 ?_;have ci:=ks_few hs;refine Fm.start2 hk hD λb4 b5 b8 w1 h1 aw c8=>?_;refine yc kf qq λb6 w2 cq az cx bp=>?_;have c9:OwnV zn w2 (.slice (some ⟨b6,0,none⟩) 0 0) []:=Blk.own1 (t:=zn) (cs:=[]) (by rw[K8];exact bp) (Gf _) rfl rfl oM;have h2:Fm n D (O1 (.slice (some ⟨b6,0,none⟩) 0 0)) w b4 b8 w2 st:=h1.own (S:=λ_=>False) az (λb l=>l) λb l=>by
  have e:b6=b:=V1 l;exact⟨oM,.inr oM⟩
 have ct:=aw.lt;have bs:TmsR (Low w) w kw t.ks:=bz.weaken λb _ hl=>hl;refine vloop_up t.ks.length (λi u w'=> ∃kv E vs rs,u=[kv,nI i]/\Fm n D (O1 kv) w b4 b8 w' E/\Blk w' b5 [nI t.op,nI t.a,nI t.b,.string t.s,kw] za/\(∀b,kv.ownBlock=some b->b≠b5)/\OwnV zn w' kv vs/\vs.length=i/\rs.length=i/\
  (∀j,j<i->Ints (Kp b4 b8 (O1 kv)) w' (vs.getD j undef) (rs.getD j []))/\(∀r,r∈rs->SnL E r)/\M.Bd.Out n (M.seqB ((t.ks.take i).map (M.termB ds))) st E rs)
  ⟨_,st,[],[],rfl,h2,aw.ext az,λb l=>by have e:b6=b:=V1 l;omega,c9,rfl,rfl,λj hj=>absurd hj oM,(λr hr=>by cases hr),M.Bd.Out.ret _ _⟩ ?_
 rintro i _ g w3 C hi ⟨kv,E,vs,rs,rfl,T,m,bb,ao,av,be,hint,au,ae⟩ hC;have al:TmsR (Low w) w3 kw t.ks:=bs.ext T.ext;simp(disch:=exact oS) only[push_cast,m.ld4,al.len];refine zb (λa=>?_) (λa=>?_)
 .have N:i<t.ks.length:=oM;refine spec_nil λvz f bj e4 cj=>?_;refine zd λR p _=>?_;have y:=e4.trans p;have h5:=T.grow y;have V:=m.ext y;have ax:=al.ext y;obtain⟨c5,z,b3⟩:=h5.call;simp(disch:=exact oS) only[push_cast,V.ld4,ax.iaddr,b3 R (Same.refl _ _),k5];refine ax.load zc N λx hx=>?_;simp only[push_cast,k5];have I:t.ks.getD i default∈t.ks:=M.getD_mem N _;refine ih _ I ((M.sort_parts hs).2.1 _ I) z h5.dl (ay.ext h5.ext) hx λw6 cn bl r zs a9 A F bi ab=>?_;simp only[push_cast,k5];refine h5.put a9 A λw7 h7 ad bk=>?_
  try simp only[push_cast,k5,gi]
  have l5:=h5.lt4;have ar:Ints (Kp b4 b8 (O1 kv)) w7 r zs:=Ints.same (Ints.weaken (F':=Kp b4 b8 (O1 kv)) F λb l _=>by
   have cp:R.heap.size<=b:=l;exact⟨oM,oM,λhO=>by have:=(h5.off b hO).1;omega⟩) ad λb l _ e=>l.1 e
  have ap:OwnV zn w7 kv vs:=((ao.ext y).ext a9).same ad λb l=>(T.off b l).2.2.1;have bq:=(V.ext a9).same ad (λe=>c8.2.1 e);have am:∀j,j<i->Ints (Kp b4 b8 (O1 kv)) w7 (vs.getD j undef) (rs.getD j []):=λj hj=>Ints.kp4 (Ints.ext (Ints.ext (hint j hj) y) a9) ad;refine zB kf qq Xg rfl (Sl.cells1 ar) λb9 w9 cr aa cy br=>?_;refine(ap.ext aa).app1 jC br (Sl.one ar) oM oM λv10 w10 ai a0 Y=>?_
  try simp(disch:=omega) only[push_cast,zk]
  have bo:Fm n D (O1 v10) w b4 b8 w10 bl:=(h7.grow aa).own a0 (λb l=>l) λb l=>⟨ai.lt l,Y b l⟩;have b2:∀{xv:Value} {xs:oI},Ints (Kp b4 b8 (O1 kv)) w7 xv xs->Ints (Kp b4 b8 (O1 v10)) w10 xv xs:=λh=>Ints.kpO (Ints.ext h aa) a0 (λb l=>l) λb l=>Y b l;have ag:=bq.ext aa;have cu:=ag.lt;refine hC N _ _ ⟨v10,bl,vs++[r],rs++[zs],by simp,bo,ag.same a0 (λe=>bb _ e rfl),λb l=>(Y b l).elim (bb b) λh=>oM,ai,by simp[av],by simp[be],λj hj=>?_,λq hq=>?_,?_⟩
  .by_cases c:j<i
   .rw[K5 oM,K5 oM];exact b2 (am j c)
   .have:j=i:=oM;subst this;rw[K6 av,K6 be];exact b2 ar
  .rcases gl.1 hq with h|h
   .exact(au q h).out ab
   .rw[gx.1 h];exact bi
  .rw[M.take_add N default,gE];exact xF0 ae ab
 have N:i=t.ks.length:=oM
 subst N;rw[gA] at ae;obtain⟨bf,cc⟩:=M.seq_reach ae.reach;have hlen:∀j,j<t.ks.length->(rs.getD j []).length=M.lenS (M.sortM ds (M.kid t j)):=λj hj=>by
  have I:t.ks.getD j default∈t.ks:=M.getD_mem hj _;have:=M.term_len ac _ ((M.sort_parts hs).2.1 _ I) (cc j hj);rw[this];rfl
 have W:KidsS w3 kv rs:=⟨vs,_,ao.vals,oM,λj hj=>Ints.weaken (hint j oM) λ_ _ _=>trivial⟩;have fin:∀{af:Option M.Gs} {zs:oI},M.Bd.Out n (M.nodeB ds t rs) E af zs->M.Bd.Out n (M.termB ds t) st af zs:=λh=>by
  rw[M.termB_eq];exact M.Bd.Out.bind ae h
 have a6:∀w',Ext w3 w'->TermR (Low w) w' (.agg ⟨[nI t.op,nI t.a,nI t.b,.string t.s,kw]⟩) t:=λw' he=>⟨kw,rfl,al.ext he⟩;obtain⟨c3,O,k⟩:=T.call;have X:∀(w':World) (K:oK),vbi .len [zn] zE [kv] w' K=K (nI t.ks.length) w':=λw' K=>by rw[ao.vals.len Yi0,av]
 rw[X];refine oZ ?_;obtain⟨co,hp,cw⟩:=M.right_op hs;obtain⟨q1,q2,q3,q4,q5,q6,q7⟩:=M.node_right ac hs (L:=λi=>(rs.getD i []).length) hlen;have get:∀i,i<rs.length->SnL E (rs.getD i []):=λi hi=>au _ (M.getD_mem hi []);refine zb (λc0=>?_) (λc0=>?_)
 .have h0:t.ks.length=0:=oM;refine zd λf d _=>?_;have o:=m.ext d;simp(disch:=exact oS) only[push_cast,k f d,o.ldAgg (t:=za) zc,k5];refine sleaf8_spec (n:=n) (st:=E) ac hs h0 (ay.ext (T.ext.trans d)) (a6 f d) λR r zs p B J G aq=>?_;simp only[k R (d.trans p),k5,gi];have z4:=d.size;refine T.res (d.trans p) (O.ext (d.trans p) λ_ h _=>h) (jd B λb l=>by have:=J b l;omega) λw6 e6 A F=>hK w6 c3 E r zs e6 A F G (fin ?_);have:rs=[]:=Ph.1 oM;rw[this];exact aq
 have bc: ¬(t.op=20\/t.op=21\/t.op=24):=λh=>by
  have:M.arity t.op=0:=by rcases h with h|h|h<;>rw[h]<;>decide
  omega
 obtain⟨H,U,Q⟩:=W.vals;simp(disch:=exact oS) only[push_cast,m.ld0];refine zb (λc=>?_) (λcm=>?_)
 .obtain⟨k1,b0,ba,aL,L4⟩:=q5 c;have cl:t.a<((rs.getD 0 []).length:Int):=aL;have ck:(rs.getD 0 []).length<=4:=L4;refine zd λf d _=>?_;have o:=m.ext d;have A0:∀w',Ext w3 w'->∀K:oK,ya zn kv (nI 0) w' K=K (oE (eaddr kv 1 0)) w':=λw' he K=>(U w' he 0 oM K).1;have B0:∀w',Ext w3 w'->∀K:oK,zu zh (oE (eaddr kv 1 0)) w' K=K (H.getD 0 undef) w':=λw' he K=>(U w' he 0 oM K).2;obtain⟨cv,bu,bt⟩:=cutEq (kl:= .i64) (kh:= .i64) (lo:=t.b.toNat) (hi:=(t.a+1).toNat) (Q 0 oM) oM oM;have ah:∀(w':World) (K:oK),xy zh (H.getD 0 undef) (some (nI t.b)) (some (nI (t.a+1))) none w' K=K cv w':=λw' K=>by
   have:=bu w' K;rwa[show((t.b.toNat:Nat):Int)=t.b by omega,show(((t.a+1).toNat:Nat):Int)=t.a+1 by omega] at this
  simp(disch:=exact oS) only[push_cast,k f d,A0 f d,B0 f d,o.ld1,o.ld2,zk,ah,k5];refine spec_nil λv5 R B e5 J=>?_;have y:=d.trans e5;have V:=o.ext e5;simp(disch:=exact oS) only[push_cast,k R y,A0 R y,B0 R y,V.ld1,V.ld2,zk,ah,k5,gi];refine B.app xC (Ints.ext bt y) (by simp;omega) (by simp;omega) λv6 w6 ab bg c4=>?_;have z4:=d.size;have z5:=e5.size;have ak:Ext f w6:=Ext.then e5 bg λb l=>J b l;simp(disch:=exact oS) only[push_cast,k w6 (d.trans ak),k5,gi];refine T.res (d.trans ak) (O.ext (d.trans ak) λ_ h _=>h) (jd ab λb l=>(c4 b l).elim (λh=>by have:=J b h;omega) λh=>oM) λw7 e7 bw bk=>hK w7 c3 E v6 _ e7 bw bk (λx hx=>?_) (fin ?_)
  .rw[Gk] at hx;exact get 0 oM x (GY (gU hx))
  .rw[Gk];unfold M.nodeB;rw[y3 oM,y3 oM,y3 oM,y3 oM,y3 oM,y3 oM,y3 oM,X0 c,show(t.a-t.b+1).toNat=(t.a+1).toNat-t.b.toNat by omega];exact M.Bd.Out.ret _ _
 try simp(disch:=exact oS) only[push_cast,m.ld0]
 refine zb (λc=>?_) (λcg=>?_)
 .simp(disch:=exact oS) only[push_cast,k w3 (Same.refl _ _),m.ldAgg (t:=za) zc];refine slogic8_spec ac hs oM (λh=>bc (.inr (.inr h))) hn O T.dl (a6 w3 (Same.refl _ _)) W bf hlen au λf bn af r zs d bv bj bh ca=>?_;refine oZ ?_;exact T.res d bv bj λR e5 z G=>hK R bn af r zs e5 z G bh (fin ca)
 have an:M.nodeB ds t rs=if t.op<=2 then M.unB t.op (rs.getD 0 []) else if 15<=t.op/\t.op<=17 then(M.cmpB t.op (rs.getD 0 []) (rs.getD 1 [])).map λv=>[v] else M.binB t.op (rs.getD 0 []) (rs.getD 1 []):=by
  unfold M.nodeB;rw[y3 oM,y3 oM,y3 oM,y3 oM,y3 oM,y3 oM,y3 oM,y3 oM]
 rw[an] at fin;rw[X];refine oZ ?_;refine zb (λc1=>?_) (λc1=>?_)
 .have Z:t.op<=2:=Gy λh=>by
   by_cases aj:15<=t.op
   .have:=(q4 aj oM).1;omega
   .by_cases bm:t.op=14
    .have:=(q3 bm).1;omega
    .have:=(q2 oM oM).1;omega
  rw[X0 Z] at fin;obtain⟨k1,l1,l4⟩:=q1 oM Z;have ch:(rs.getD 0 []).length<=4:=l4;refine zd λf d _=>?_;have o:=m.ext d;have A0:∀K:oK,ya zn kv (nI 0) f K=K (oE (eaddr kv 1 0)) f:=λK=>(U f d 0 oM K).1;have B0:∀K:oK,zu zh (oE (eaddr kv 1 0)) f K=K (H.getD 0 undef) f:=λK=>(U f d 0 oM K).2;simp(disch:=exact oS) only[push_cast,k f d,A0,B0,o.ld0,k5];have h4:=T.grow d;refine sun7_spec oM hn (O.ext d λ_ h _=>h) h4.dl (Ints.ext (Q 0 oM) d) oM (get 0 oM) λR a8 a7 r zs p z G a5 B=>?_;simp only[push_cast,k5];exact h4.res p z G λw6 e6 A F=>hK w6 a8 a7 r zs e6 A F a5 (fin B)
 have bd:3<=t.op:=Gy λh=>by have:=(q1 oM oM).1;omega
 rw[y3 oM] at fin
 try simp(disch:=exact oS) only[push_cast,m.ld0]
 refine zb (λaj=>?_) (λaj=>?_)
 .rw[X0 oM] at fin;obtain⟨k1,l0,l1,l4⟩:=q4 oM oM;have ce:(rs.getD 0 []).length=(rs.getD 1 []).length:=l0;have cf:1<=(rs.getD 0 []).length:=l1;have ch:(rs.getD 0 []).length<=4:=l4;refine zd λf d _=>?_;have o:=m.ext d;have A0:∀K:oK,ya zn kv (nI 0) f K=K (oE (eaddr kv 1 0)) f:=λK=>(U f d 0 oM K).1;have B0:∀K:oK,zu zh (oE (eaddr kv 1 0)) f K=K (H.getD 0 undef) f:=λK=>(U f d 0 oM K).2;have A1:∀K:oK,ya zn kv (nI 1) f K=K (oE (eaddr kv 1 1)) f:=λK=>(U f d 1 oM K).1;have B1:∀K:oK,zu zh (oE (eaddr kv 1 1)) f K=K (H.getD 1 undef) f:=λK=>(U f d 1 oM K).2;simp(disch:=exact oS) only[push_cast,k f d,A0,B0,A1,B1,o.ld0,k5];have h4:=T.grow d;refine scmp7_spec oM oM hn (O.ext d λ_ h _=>h) h4.dl (Ints.ext (Q 0 oM) d) (Ints.ext (Q 1 oM) d) ce cf oM (get 0 oM) (get 1 oM) λR a8 a7 r p z cb B=>?_;simp only[push_cast,k5];refine h4.put p z λw6 h6 bg F=>?_
  try simp only[push_cast,k5,gi]
  obtain⟨c6,A,b7⟩:=h6.call;simp only[b7 w6 (Same.refl _ _)];refine spec_one λw7 rv b1 ap c7=>?_;exact h6.res b1 (A.ext b1 λ_ h _=>h) (jd ap c7) λw8 e8 bx cd=>hK w8 c6 a7 rv [r] e8 bx cd (SnL.one cb) (fin (M.Bd.Out.map _ B))
 rw[y3 oM] at fin;have c2:t.ks.length=2/\(t.op≠14->(rs.getD 0 []).length=(rs.getD 1 []).length)/\1<=(rs.getD 0 []).length/\(rs.getD 0 []).length<=8/\(rs.getD 1 []).length<=8:=by
  by_cases c:t.op=14
  .obtain⟨a1,a2,a3,a4⟩:=q3 c;exact⟨a1,λh=>absurd c h,a2,oM,oM⟩
  .obtain⟨a1,a2,a3,a4⟩:=q2 oM oM;exact⟨a1,λ_=>a2,a3,oM,oM⟩
 obtain⟨k1,l0,l1,l2,l3⟩:=c2;refine zd λf d _=>?_;have o:=m.ext d;have A0:∀K:oK,ya zn kv (nI 0) f K=K (oE (eaddr kv 1 0)) f:=λK=>(U f d 0 oM K).1;have B0:∀K:oK,zu zh (oE (eaddr kv 1 0)) f K=K (H.getD 0 undef) f:=λK=>(U f d 0 oM K).2;have A1:∀K:oK,ya zn kv (nI 1) f K=K (oE (eaddr kv 1 1)) f:=λK=>(U f d 1 oM K).1;have B1:∀K:oK,zu zh (oE (eaddr kv 1 1)) f K=K (H.getD 1 undef) f:=λK=>(U f d 1 oM K).2;simp(disch:=exact oS) only[push_cast,k f d,A0,B0,A1,B1,o.ld0,k5];have h4:=T.grow d;refine sbin7_spec bd oM hn (O.ext d λ_ h _=>h) h4.dl (Ints.ext (Q 0 oM) d) (Ints.ext (Q 1 oM) d) l0 l1 l2 l3 (get 0 oM) (get 1 oM) λR a8 a7 r zs p z G a5 B=>?_;simp only[push_cast,k5];exact h4.res p z G λw6 e6 A F=>hK w6 a8 a7 r zs e6 A F a5 (fin B)
end
section
variable {n:Nat} {st st':Option M.Gs} {a b c:Int} {ds:List M.Dcl} {t:M.Tm}
theorem bits_nat (a:M.declOk ds=true):M.bits ds=(((M.bits ds).toNat:Nat):Int)/\(M.bits ds).toNat<=8:=by
 have c:=(M.decl_iff.1 a).2.2;have b:=(dcl_small a (i:=ds.length) (gr _)).1;rw[M.bitT_all] at b;exact⟨oM,oM⟩
theorem out_lens {zs:oI} (b:M.declOk ds=true) (hs:M.sortM ds t≠ -1) (c:M.Bd.Out n (M.termB ds t) st st' zs):zs.length=M.lenS (M.sortM ds t)/\zs.length<=4:=by
 have a:=M.term_len b t hs c.reach;have d:=M.sort_range b t;refine⟨a,?_⟩;rw[a];unfold M.lenS;omega
end
end Go.Proofs.YtfnpmncplaibiaaGreatDoor
namespace Go.M
open Go.Vc
section
mutual
def sameT:Tm->Tm->Bool
 | .mk o a b s ks,.mk o' a' b' s' ks'=>decide (o=o')&&decide (a=a')&&decide (b=b')&&decide (s=s')&&sameL ks ks'
def sameL:List Tm->List Tm->Bool
 |[],[]=>true
 |x::xs,y::ys=>sameT x y&&sameL xs ys
 |[],_::_=>false
 |_::_,[]=>false
end
theorem sameL_of {xs:List Tm} (a:∀k,k∈xs->∀y,sameT k y=true↔k=y):∀ys,sameL xs ys=true↔xs=ys:=by
 induction xs with
 |nil=>intro ys;cases ys<;>simp[sameL]
 |cons x xs ihx=>
  intro ys;cases ys with
  |nil=>simp[sameL]
  |cons y ys=>
   grind [sameL]
theorem sameT_iff:∀t u:Tm,sameT t u=true↔t=u:=by
 refine Tm.ind λt c u=>?_;cases t with
 |mk o a b s ks=>
  cases u with
  |mk o' e f g d=>
   rw[sameT,gg,sameL_of (xs:=ks) c]
   grind
instance:DecidableEq Tm:=λt u=>decidable_of_iff _ (sameT_iff t u)
theorem tm_ext {t u:Tm} (c:t.op=u.op) (d:t.a=u.a) (e:t.b=u.b) (f:t.s=u.s) (g:t.ks=u.ks):t=u:=by
 cases t;cases u
 grind [Tm.op,Tm.a,Tm.b,Tm.s,Tm.ks]
def truT:Tm:= .mk 24 0 0 nada []
def flsT:Tm:= .mk 25 0 0 nada [truT]
def fixedM (t:Tm):Option Int:=if t=truT then some 1 else if t=flsT then some 0 else if t.op=20/\t.ks=[]/\t.s=nada/\vok t.a t.b=true then some t.b else none
def isM (t:Tm) (n:Int):Bool:=decide (fixedM t=some n)
def constM (w n:Int):Tm:=if 0<w then .mk 20 w n nada [] else if n=1 then truT else flsT
def zeroE (ds:List Dcl):oI:=List.replicate ds.length 0
theorem zeroE_ok {ds:List Dcl} (h:declOk ds=true):envOk ds (zeroE ds)=true:=by
 unfold envOk zeroE;rw[h,gI];simp only[decide_true,pL,gQ,gJ];intro i hi;have hw:=dcl_wide h hi;simp_all[vok_iff,Int.pow_pos]
section
variable {ds:List Dcl} {env:oI} {t u:Tm} {w n:Int}
theorem WQ:sortM ds truT=0:=by rw[sort_leaf (formed_iff.2 ⟨rfl,rfl⟩) rfl];rfl
theorem xv0:evalM ds env truT=1:=by rw[eval_leaf (.inr (.inr rfl))];rfl
theorem UW (a:declOk ds=true):sortM ds flsT=0:=by
 rw[sort_one a (formed_iff.2 ⟨rfl,rfl⟩) rfl];show oneM _ (sortM ds truT)=0;rw[WQ];rfl
theorem Zf0 (he:envOk ds env=true):evalM ds env flsT=0:=by
 rw[(eval_no he (by rw[UW (env_ok he).1];decide) rfl).2.2];show(1:Int)-evalM ds env truT=0;rw[xv0];rfl
theorem vec_sort {t:Tm} (c:t.op=20) (d:t.ks=[]) (e:t.s=nada) (g:vok t.a t.b=true):sortM ds t=t.a:=by
 have f:plainM t=true:=by simp[plainM,c,e]
 rw[sort_leaf (formed_iff.2 ⟨by rw[c,d];rfl,f⟩) (by grind)];simp_all[sortK]
theorem fixed_cases (h:fixedM t=some n):(t=truT/\n=1)\/(t=flsT/\n=0)\/(t.op=20/\t.ks=[]/\t.s=nada/\vok t.a t.b=true/\n=t.b):=by
 grind [fixedM]
theorem fixed_good (he:envOk ds env=true) (h:fixedM t=some n):sortM ds t≠ -1/\evalM ds env t=n/\inS (sortM ds t) n:=by
 rcases fixed_cases h with⟨rfl,rfl⟩|⟨rfl,rfl⟩|⟨a,c,d,b,rfl⟩
 .rw[WQ,xv0];exact⟨dC,rfl,.inl ⟨rfl,.inr rfl⟩⟩
 .rw[UW (env_ok he).1,Zf0 he];exact⟨dC,rfl,.inl ⟨rfl,.inl rfl⟩⟩
 .rw[vec_sort a c d b,eval_leaf (.inl a),X0 a];have:=vok_lt b;exact⟨oM,rfl,.inr b⟩
theorem isM_iff:isM t n=true↔fixedM t=some n:=by unfold isM;grind
theorem const_fixed (h:inS w n):fixedM (constM w n)=some n:=by
 unfold constM;rcases h with⟨c,b⟩|h
 .rw[y3 oM];rcases b with e|e
  .rw[e,y3 dC];rfl
  .rw[e,X0 rfl];rfl
 .have hw:=vok_lt h;rw[X0 oM];have a: ¬Tm.mk 20 w n nada []=truT:=λe=>by
   have e:(20:Int)=24:=congrArg Tm.op e;omega
  have a2: ¬Tm.mk 20 w n nada []=flsT:=λe=>by
   have e:(20:Int)=25:=congrArg Tm.op e;omega
  unfold fixedM;rw[y3 a,y3 a2];exact X0 ⟨rfl,rfl,rfl,h⟩
theorem const_sort (c:declOk ds=true) (h:inS w n):sortM ds (constM w n)=w:=by
 unfold constM;rcases h with⟨a,b⟩|h
 .rw[y3 oM]
  grind [WQ,UW]
 .have hw:=vok_lt h;rw[X0 oM];exact vec_sort rfl rfl rfl h
theorem Zh (he:envOk ds env=true) (h:inS w n):evalM ds env (constM w n)=n:=(fixed_good he (const_fixed h)).2.1
def allFixed (t:Tm):Bool:=decide (t.ks≠[])&&t.ks.all λk=>(fixedM k).isSome
def ruleX (ds:List Dcl) (t:Tm):Option Tm:=if allFixed t=true then some (constM (sortM ds t) (evalM ds (zeroE ds) t)) else none
def ruleB (t:Tm):Option Tm:=
 if t.op=25/\(kid t 0).op=25 then some (kid (kid t 0) 0)
 else if t.op≠23 then none
 else if isM (kid t 0) 1=true then some (kid t 1)
 else if isM (kid t 0) 0=true then some (kid t 2)
 else if kid t 1=kid t 2 then some (kid t 1) else none
def neutral (o:Int):Int:=if o=26 then 1 else 0
def ruleT (t:Tm):Option Tm:=
 if t.op=26\/t.op=27 then
  if isM (kid t 0) (neutral t.op)=true\/kid t 0=kid t 1 then some (kid t 1)
  else if isM (kid t 1) (neutral t.op)=true then some (kid t 0)
  else if isM (kid t 0) (1-neutral t.op)=true\/isM (kid t 1) (1-neutral t.op)=true then some (constM 0 (1-neutral t.op)) else none
 else none
def ruleL (ds:List Dcl) (t:Tm):Option Tm:=
 if t.op=22 then(if t.b=0/\t.a=sortM ds (kid t 0)-1 then some (kid t 0) else none)
 else if(t.op=1\/t.op=2)/\(kid t 0).op=t.op then some (kid (kid t 0) 0) else none
def ruleW (ds:List Dcl) (t:Tm):Option Tm:=
 if t.ks.length=2/\kid t 0=kid t 1 then
  if t.op=3\/t.op=4 then some (kid t 0)
  else if t.op=5\/t.op=7 then some (constM (sortM ds t) 0)
  else if t.op=15 then some (constM 0 1)
  else if t.op=16\/t.op=17 then some (constM 0 0) else none
 else none
def ruleS (t:Tm):Option Tm:=
 if t.ks.length=2 then
  if isM (kid t 1) 0=true/\(t.op=4\/t.op=5\/t.op=6\/t.op=7\/t.op=11\/t.op=12\/t.op=13) then some (kid t 0)
  else if isM (kid t 1) 0=true/\(t.op=3\/t.op=8) then some (kid t 1)
  else if isM (kid t 1) 1=true/\t.op=8 then some (kid t 0) else none
 else none
def ruleF (t:Tm):Option Tm:=
 if t.ks.length=2 then
  if isM (kid t 0) 0=true/\(t.op=4\/t.op=5\/t.op=6) then some (kid t 1)
  else if isM (kid t 0) 0=true/\(t.op=3\/t.op=8) then some (kid t 0)
  else if isM (kid t 0) 1=true/\t.op=8 then some (kid t 1) else none
 else none
def ruleA (ds:List Dcl) (t:Tm):Option Tm:=ruleX ds t <|> ruleB t <|> ruleT t <|> ruleL ds t <|> ruleW ds t <|> ruleS t <|> ruleF t
def oneT (ds:List Dcl) (t:Tm):Tm:=(ruleA ds t).getD t
def foldT (ds:List Dcl):Tm->Tm:=Tm.fold λt us=>oneT ds (.mk t.op t.a t.b t.s us)
theorem Zd0 (ds:List Dcl) (t:Tm):foldT ds t=oneT ds (.mk t.op t.a t.b t.s (t.ks.map (foldT ds))):=Tm.fold_eq _ t
inductive Src (t:Tm):Tm->Prop
 |kid (i:Nat) (h:i<t.ks.length):Src t (kid t i)
 |deep (i j:Nat) (h:i<t.ks.length) (h':j<(M.kid t i).ks.length):Src t (M.kid (M.kid t i) j)
 |const (w n:Int) (h:t.ks≠[]) (h':inS w n):Src t (constM w n)
structure Step (ds:List Dcl) (t u:Tm):Prop where
 src:Src t u
 sort:sortM ds u=sortM ds t
 eval:∀env,envOk ds env=true->evalM ds env u=evalM ds env t
theorem QI {α:Type} {a b:Option α} {x:α} (h:(a <|> b)=some x):a=some x\/(a=none/\b=some x):=by
 simp_all
theorem ks_ne {i:Nat} (h:i<t.ks.length):t.ks≠[]:=by grind
theorem len_of (hs:sortM ds t≠ -1):arity t.op=t.ks.length:=(formed_iff.1 (sort_parts hs).1).1
theorem allFixed_eval (he:envOk ds env=true) (hs:sortM ds t≠ -1) (h:allFixed t=true):evalM ds (zeroE ds) t=evalM ds env t:=by
 have d:=zeroE_ok (env_ok he).1;unfold allFixed at h;simp only[gg,V0,gQ] at h;have a:t.ks.map (vecM ds (zeroE ds))=t.ks.map (vecM ds env):=Gq λk a=>by
  obtain⟨n,c⟩:=G6.1 (h.2 k a);simp_all[vecM_pair,fixed_good]
 have b:t.op≠21:=by grind [len_of,arity,List.eq_nil_of_length_eq_zero]
 rw[evalM_eq,evalM_eq,a];unfold valK;omega
theorem ruleX_step (a:declOk ds=true) (hs:sortM ds t≠ -1) (h:ruleX ds t=some u):Step ds t u:=by
 unfold ruleX at h;split at h
 .rename_i b;obtain rfl:=(V1 h).symm;have hi:=eval_in (zeroE_ok a) t hs;refine⟨.const _ _ (by grind [allFixed]) hi,const_sort a hi,λenv he=>?_⟩
  grind [Zh,allFixed_eval]
 .cases h
theorem ruleB_step (f:declOk ds=true) (hs:sortM ds t≠ -1) (h:ruleB t=some u):Step ds t u:=by
 have g:=(sort_parts hs).1;have k:=len_of hs;unfold ruleB at h;split at h
 .rename_i l;obtain rfl:=(V1 h).symm;have b:t.ks.length=1:=(by grind [arity]);have k0:=good_kid hs (i:=0) oM;have c:(kid t 0).ks.length=1:=(by grind [len_of]);have m:=good_kid k0 (i:=0) oM;refine⟨.deep 0 0 oM oM,?_,λenv he=>?_⟩
  .have j:=sort_one f g b;have s1:=sort_one f (sort_parts k0).1 c
   grind [oneM]
  grind [eval_no]
 .split at h
  .cases h
  .rename_i a;have a:t.op=23:=oM;have d:t.ks.length=3:=(by grind [arity]);have j:=sort_three (ds:=ds) g d;have e:=hs;rw[j] at e;have gs:sortM ds (kid t 1)=sortM ds (kid t 2):=by
    omega
   have st:sortM ds t=sortM ds (kid t 1):=by
    omega
   split at h
   .rename_i hi;obtain rfl:=(V1 h).symm;refine⟨.kid 1 oM,st.symm,λenv he=>?_⟩;simp_all[eval_if,fixed_good,isM_iff]
   .split at h
    .rename_i hi;obtain rfl:=(V1 h).symm;refine⟨.kid 2 oM,by rw[st,gs],λenv he=>?_⟩;simp_all[eval_if,fixed_good,isM_iff]
    .split at h
     .rename_i hi;obtain rfl:=(V1 h).symm;refine⟨.kid 1 oM,st.symm,λenv he=>?_⟩;simp_all[eval_if]
     .cases h
theorem ruleT_step (f:declOk ds=true) (hs:sortM ds t≠ -1) (h:ruleT t=some u):Step ds t u:=by
 have g:=(sort_parts hs).1;have m:=len_of hs;unfold ruleT at h;split at h
 .rename_i k;have c:t.ks.length=2:=(by grind [arity]);have l:=sort_two f g c;have b:=hs;rw[l] at b;obtain⟨g0,g1⟩:=(both_good b).1 k;have st:sortM ds t=0:=(by simp_all[bothM]);have j:neutral t.op=1/\t.op=26\/neutral t.op=0/\t.op=27:=by
   grind [neutral]
  have ev:∀env,envOk ds env=true->inS 0 (evalM ds env (kid t 0))/\inS 0 (evalM ds env (kid t 1))/\evalM ds env t=if t.op=26 then evalM ds env (kid t 0)*evalM ds env (kid t 1) else max (evalM ds env (kid t 0)) (evalM ds env (kid t 1)):=by grind [eval_two]
  split at h
  .rename_i hi;obtain rfl:=(V1 h).symm;refine⟨.kid 1 oM,by rw[st,g1],λenv he=>?_⟩;obtain⟨i0,i1,e⟩:=ev env he;rw[e];rcases hi with hi|hi
   .have:=(fixed_good he (isM_iff.1 hi)).2.1
    grind [inS_zero]
   grind [inS_zero]
  .split at h
   .rename_i hi;obtain rfl:=(V1 h).symm;refine⟨.kid 0 oM,by rw[st,g0],λenv he=>?_⟩;obtain⟨i0,i1,e⟩:=ev env he;rw[e,(fixed_good he (isM_iff.1 hi)).2.1]
    grind [inS_zero]
   .split at h
    .rename_i hi;obtain rfl:=(V1 h).symm;have a:inS 0 (1-neutral t.op):=by
      rcases j with⟨d,_⟩|⟨d,_⟩<;>rw[d]
      .exact .inl ⟨rfl,.inl rfl⟩
      .exact .inl ⟨rfl,.inr rfl⟩
     refine⟨.const _ _ (ks_ne (i:=0) oM) a,by rw[st,const_sort f a],λenv he=>?_⟩;obtain⟨i0,i1,e⟩:=ev env he;rw[e,Zh he a];rcases hi with hi|hi<;>rw[(fixed_good he (isM_iff.1 hi)).2.1]
     .grind [inS_zero]
     grind [inS_zero]
    .cases h
 .cases h
theorem cut_all {w a:Int} (h:vok w a=true):cutM a (w-1) 0=a:=by
 obtain⟨b,c,d,e⟩:=vok_iff.1 h;unfold cutM
 grind [four]
theorem un_un {o w a:Int} (h:vok w a=true):unM o w (unM o w a)=a:=by
 obtain⟨b,c,d,e⟩:=vok_iff.1 h;unfold unM
 grind [four]
theorem ruleL_step (f:declOk ds=true) (hs:sortM ds t≠ -1) (h:ruleL ds t=some u):Step ds t u:=by
 have m:=(sort_parts hs).1;have r:=len_of hs;unfold ruleL at h;split at h
 .rename_i b;split at h
  .rename_i q;obtain rfl:=(V1 h).symm;have a:t.ks.length=1:=(by grind [arity]);have k:=sort_one f m a;have c:=hs;rw[k] at c;have g:=one_good oM c;have g2:=oM;have g3:=g.2.2 b;refine⟨.kid 0 oM,?_,λenv he=>?_⟩
   .grind [oneM]
   .obtain⟨_,j,e⟩:=eval_cut he hs b;rw[e];unfold vecCut;simp_all[cut_all]
  .cases h
 .split at h
  .rename_i b;obtain rfl:=(V1 h).symm;have a:t.ks.length=1:=(by grind [arity]);have k0:=good_kid hs (i:=0) oM;have d:(kid t 0).op=1\/(kid t 0).op=2:=oM;have n:(kid t 0).ks.length=1:=(by grind [len_of]);have s:=good_kid k0 (i:=0) oM;have p:∀{t:Tm},sortM ds t≠ -1->(t.op=1\/t.op=2)->t.ks.length=1->sortM ds t=sortM ds (kid t 0):=λ{t} hs b a=>by
    have k:=sort_one f (sort_parts hs).1 a
    grind [oneM]
   refine⟨.deep 0 0 oM oM,?_,λenv he=>?_⟩
   .grind
   .obtain⟨_,j,e⟩:=eval_un he hs b.1;obtain⟨_,o,l⟩:=eval_un he k0 d;rw[e];unfold vecUn;rw[X0 ⟨j,b.1⟩];show _=unM t.op (sortM ds (kid t 0)) (evalM ds env (kid t 0));rw[l];unfold vecUn
    grind [un_un]
  .cases h
def binT (w n:Nat):Prop:=
 (binN 3 w n n=n/\binN 4 w n n=n/\binN 5 w n n=0/\binN 7 w n n=0)/\
 (binN 4 w n 0=n/\binN 5 w n 0=n/\binN 6 w n 0=n/\binN 7 w n 0=n/\binN 11 w n 0=n/\binN 12 w n 0=n/\binN 13 w n 0=n)/\
 (binN 3 w n 0=0/\binN 8 w n 0=0/\binN 8 w n 1=n)/\
 (binN 4 w 0 n=n/\binN 5 w 0 n=n/\binN 6 w 0 n=n/\binN 3 w 0 n=0/\binN 8 w 0 n=0/\binN 8 w 1 n=n)
instance (w n:Nat):Decidable (binT w n):=by unfold binT;infer_instance
theorem bin_tab {w n:Int} (h:vok w n=true):binT w.toNat n.toNat:=small1 (p:=binT) (by decide+kernel) h
theorem bin_parts (i:declOk ds=true) (hs:sortM ds t≠ -1) (h:t.ks.length=2) (d:3<=t.op) (c:t.op<=13):sortM ds (kid t 0)=sortM ds t/\sortM ds (kid t 1)=sortM ds t/\
  ∀env,envOk ds env=true->vok (sortM ds t) (evalM ds env (kid t 0))=true/\vok (sortM ds t) (evalM ds env (kid t 1))=true/\evalM ds env t=binN t.op.toNat (sortM ds t).toNat (evalM ds env (kid t 0)).toNat (evalM ds env (kid t 1)).toNat:=by
 have f:=sort_two i (sort_parts hs).1 h;have b:=hs;rw[f] at b;have g:=(both_good b).2 oM;have a:=g.2.2.2 oM;have st:sortM ds t=sortM ds (kid t 0):=by
  rw[f];unfold bothM;rw[y3 oM,y3 oM,y3 oM,y3 oM,y3 oM]
 refine⟨st.symm,by rw[st,a],λenv he=>?_⟩;obtain⟨_,v0,v1,e⟩:=eval_bin he hs d oM;refine⟨by rw[st];exact v0,by rw[st,a];exact v1,?_⟩;rw[e];unfold vecBin;rw[X0 (show vok _ _=true/\vok _ _=true from⟨v0,v1⟩),y3 (show¬t.op=14 by omega),X0 (show 3<=t.op/\t.op<=13/\_=_ from⟨d,c,a⟩),st];rfl
theorem nat_of {w n:Int} (h:vok w n=true):((n.toNat:Nat):Int)=n:=by have:=vok_lt h;omega
theorem ruleW_step (d:declOk ds=true) (hs:sortM ds t≠ -1) (h:ruleW ds t=some u):Step ds t u:=by
 have p:=(sort_parts hs).1;unfold ruleW at h;split at h
 .rename_i m;obtain⟨l,m⟩:=m;split at h
  .rename_i j;obtain rfl:=(V1 h).symm;obtain⟨k,s1,ev⟩:=bin_parts d hs l oM oM;refine⟨.kid 0 oM,k,λenv he=>?_⟩
   grind [binN,nat_of]
  .split at h
   .rename_i j;obtain rfl:=(V1 h).symm;obtain⟨k,s1,ev⟩:=bin_parts d hs l oM oM;have c:inS (sortM ds t) 0:=by
     have:=(ev _ (zeroE_ok d)).1;obtain⟨a,b,_,_⟩:=vok_iff.1 this;exact .inr (vok_iff.2 ⟨a,b,Py _,Int.pow_pos dC⟩)
    refine⟨.const _ _ (ks_ne (i:=0) oM) c,const_sort d c,λenv he=>?_⟩;obtain⟨v0,v1,e⟩:=ev env he;have tb:=(bin_tab v0).1
    grind [Zh]
   .have cmp:15<=t.op->t.op<=17->sortM ds t=0/\∀env,envOk ds env=true->evalM ds env t=b2i (decide (t.op=15)):=λn o=>by
     have k:=sort_two d p l;have f:=hs;rw[k] at f;have g:=(both_good f).2 oM;refine⟨?_,λenv he=>?_⟩
     .grind [bothM]
     simp_all[eval_cmp,vecCmp,cmpM]
    split at h
    .rename_i j;obtain rfl:=(V1 h).symm;obtain⟨st,ev⟩:=cmp oM oM;have c:inS 0 1:= .inl ⟨rfl,.inr rfl⟩;exact⟨.const _ _ (ks_ne (i:=0) oM) c,by rw[const_sort d c,st],λenv he=>by rw[Zh he c,ev env he,gz j];rfl⟩
    .split at h
     .rename_i n15 j;obtain rfl:=(V1 h).symm;obtain⟨st,ev⟩:=cmp oM oM;have c:inS 0 0:= .inl ⟨rfl,.inl rfl⟩;exact⟨.const _ _ (ks_ne (i:=0) oM) c,by rw[const_sort d c,st],λenv he=>by rw[Zh he c,ev env he,gm n15];rfl⟩
     .cases h
 .cases h
theorem ruleS_step (d:declOk ds=true) (hs:sortM ds t≠ -1) (h:ruleS t=some u):Step ds t u:=by
 unfold ruleS at h;split at h
 .rename_i c;split at h
  .rename_i a;obtain rfl:=(V1 h).symm;obtain⟨b,s1,ev⟩:=bin_parts d hs c oM oM;refine⟨.kid 0 oM,b,λenv he=>?_⟩;obtain⟨v0,v1,e⟩:=ev env he;have tb:=(bin_tab v0).2.1;rw[e,(fixed_good he (isM_iff.1 a.1)).2.1];rcases a.2 with o|o|o|o|o|o|o<;>rw[o]
   .grind [nat_of]
   .grind [nat_of]
   .grind [nat_of]
   .grind [nat_of]
   .grind [nat_of]
   .grind [nat_of]
   grind [nat_of]
  .split at h
   .rename_i a;obtain rfl:=(V1 h).symm;obtain⟨b,s1,ev⟩:=bin_parts d hs c oM oM;refine⟨.kid 1 oM,s1,λenv he=>?_⟩;obtain⟨v0,v1,e⟩:=ev env he;have tb:=(bin_tab v0).2.2.1;rw[e,(fixed_good he (isM_iff.1 a.1)).2.1]
    grind
   .split at h
    .rename_i a;obtain rfl:=(V1 h).symm;obtain⟨b,s1,ev⟩:=bin_parts d hs c oM oM;refine⟨.kid 0 oM,b,λenv he=>?_⟩;obtain⟨v0,v1,e⟩:=ev env he;have tb:=(bin_tab v0).2.2.1;rw[e,(fixed_good he (isM_iff.1 a.1)).2.1,a.2]
     grind [nat_of]
    .cases h
 .cases h
theorem ruleF_step (c:declOk ds=true) (hs:sortM ds t≠ -1) (h:ruleF t=some u):Step ds t u:=by
 unfold ruleF at h;split at h
 .rename_i b;split at h
  .rename_i a;obtain rfl:=(V1 h).symm;obtain⟨d,s1,ev⟩:=bin_parts c hs b oM oM;refine⟨.kid 1 oM,s1,λenv he=>?_⟩;obtain⟨v0,v1,e⟩:=ev env he;have tb:=(bin_tab v1).2.2.2;rw[e,(fixed_good he (isM_iff.1 a.1)).2.1]
   grind [nat_of]
  .split at h
   .rename_i a;obtain rfl:=(V1 h).symm;obtain⟨d,s1,ev⟩:=bin_parts c hs b oM oM;refine⟨.kid 0 oM,d,λenv he=>?_⟩;obtain⟨v0,v1,e⟩:=ev env he;have tb:=(bin_tab v1).2.2.2;rw[e,(fixed_good he (isM_iff.1 a.1)).2.1]
    grind
   .split at h
    .rename_i a;obtain rfl:=(V1 h).symm;obtain⟨d,s1,ev⟩:=bin_parts c hs b oM oM;refine⟨.kid 1 oM,s1,λenv he=>?_⟩;obtain⟨v0,v1,e⟩:=ev env he;have tb:=(bin_tab v1).2.2.2;rw[e,(fixed_good he (isM_iff.1 a.1)).2.1,a.2]
     grind [nat_of]
    .cases h
 .cases h
theorem je0 (a:declOk ds=true) (hs:sortM ds t≠ -1) (h:ruleA ds t=some u):Step ds t u:=by
 unfold ruleA at h;rcases QI h with h|⟨_,h⟩
 .exact ruleX_step a hs h
 rcases QI h with h|⟨_,h⟩
 .exact ruleB_step a hs h
 rcases QI h with h|⟨_,h⟩
 .exact ruleT_step a hs h
 rcases QI h with h|⟨_,h⟩
 .exact ruleL_step a hs h
 rcases QI h with h|⟨_,h⟩
 .exact ruleW_step a hs h
 rcases QI h with h|⟨_,h⟩
 .exact ruleS_step a hs h
 .exact ruleF_step a hs h
theorem one_cases (a:declOk ds=true) (hs:sortM ds t≠ -1):(ruleA ds t=none/\oneT ds t=t)\/Step ds t (oneT ds t):=by
 unfold oneT;cases h:ruleA ds t with
 |none=>grind
 |some u=>exact .inr (je0 a hs h)
end
end
section
section
variable {ds:List Dcl} {env:oI} {t u:Tm} {w n:Int}
theorem kid_size {i:Nat} (h:i<t.ks.length):sizeM (kid t i)+1<=sizeM t/\deepM (kid t i)+1<=deepM t:=by
 have a:=szT_all t;have b:=dpT_all t;have c:=szT_mono (ks:=t.ks) (i:=i+1) (j:=t.ks.length) oM oM;have d:=dpT_mono (ks:=t.ks) (i:=i+1) (j:=t.ks.length) oM oM
 grind [szT_succ,dpT_succ,kid]
theorem size_pos:1<=sizeM t/\1<=deepM t:=by rw[sizeM_eq,YE];omega
theorem const_size:sizeM (constM w n)<=2/\deepM (constM w n)<=2:=by
 have leaf:∀o a b s,sizeM (.mk o a b s [])=1/\deepM (.mk o a b s [])=1:=λo a b s=>by rw[sizeM_eq,YE];exact⟨rfl,rfl⟩
 have c:sizeM truT=1/\deepM truT=1:=leaf _ _ _ _;have d:sizeM flsT=2/\deepM flsT=2:=by
  rw[sizeM_eq,YE];show 1+(sizeM truT+0)=2/\1+max 0 (deepM truT)=2;omega
 grind [constM]
theorem src_size (h:Src t u):sizeM u<=sizeM t/\deepM u<=deepM t:=by
 cases h with
 |kid i h=>have:=kid_size h;omega
 |deep i j h a=>have:=kid_size h;have:=kid_size a;omega
 |const w n h a=>
  have b:0<t.ks.length:=(by grind);have:=kid_size (t:=t) (i:=0) b
  grind [size_pos,const_size]
theorem one_good' (a:declOk ds=true) (hs:sortM ds t≠ -1):sortM ds (oneT ds t)=sortM ds t/\(∀env,envOk ds env=true->evalM ds env (oneT ds t)=evalM ds env t)/\sizeM (oneT ds t)<=sizeM t/\deepM (oneT ds t)<=deepM t:=by
 rcases one_cases a hs with⟨_,e⟩|h
 .grind
 .exact⟨h.sort,h.eval,src_size h.src⟩
def remake (t:Tm) (us:List Tm):Tm:= .mk t.op t.a t.b t.s us
theorem x20 {us:List Tm} (b:us.length=t.ks.length) (h:us.map (sortM ds)=t.ks.map (sortM ds)):sortM ds (remake t us)=sortM ds t:=by
 rw[sortM_eq ds (remake t us),sortM_eq ds t];show sortF ds (remake t us) (us.map (sortM ds))=_;rw[h];have a:formed (remake t us)=formed t:=by
  show(decide (arity t.op=(us.length:Int))&&plainM t)=_;rw[b];rfl
 unfold sortF;rw[a];rfl
theorem x30 {us:List Tm} (a:us.length=t.ks.length) (h:us.map (vecM ds env)=t.ks.map (vecM ds env)):evalM ds env (remake t us)=evalM ds env t:=by
 rw[evalM_eq,evalM_eq];show valK ds env (remake t us) (us.map (vecM ds env))=_;rw[h];rfl
theorem sum_le {f g:Tm->Nat}:∀{ks:List Tm},(∀k,k∈ks->f k<=g k)->(ks.map f).sum<=(ks.map g).sum
 |[],_=>gr _
 |k::r,h=>by
  have b:=h k gk;have c:=sum_le (ks:=r) λx a=>h x (gp _ a)
  grind
theorem max_le {f g:Tm->Nat}:∀{ks:List Tm} {a b:Nat},a<=b->(∀k,k∈ks->f k<=g k)->(ks.map f).foldl max a<=(ks.map g).foldl max b
 |[],a,b,c,_=>c
 |k::r,a,b,c,h=>by
  have e:=h k gk;simp only[GF,List.foldl_cons];exact max_le (ks:=r) oM λx d=>h x (gp _ d)
structure Good (ds:List Dcl) (t u:Tm):Prop where
 sort:sortM ds u=sortM ds t
 eval:∀env,envOk ds env=true->evalM ds env u=evalM ds env t
 size:sizeM u<=sizeM t
 deep:deepM u<=deepM t
theorem remake_good {f:Tm->Tm} (h:∀k,k∈t.ks->Good ds k (f k)):Good ds t (remake t (t.ks.map f)):=by
 have d:(t.ks.map f).length=t.ks.length:=by grind
 refine⟨x20 d ?_,λenv he=>x30 d ?_,?_,?_⟩
 .rw[GV];exact Gq λk c=>(h k c).sort
 .rw[GV];exact Gq λk c=>by show vecM ds env (f k)=_;rw[vecM_pair,vecM_pair,(h k c).sort,(h k c).eval env he]
 .rw[sizeM_eq,sizeM_eq t];show 1+((t.ks.map f).map sizeM).sum<=_;rw[GV];have:=sum_le (f:=sizeM∘f) (g:=sizeM) (ks:=t.ks) λk c=>(h k c).size;omega
 .rw[YE,YE t];show 1+((t.ks.map f).map deepM).foldl max 0<=_;rw[GV];have:=max_le (f:=deepM∘f) (g:=deepM) (ks:=t.ks) (a:=0) (b:=0) (gr _) λk c=>(h k c).deep;omega
theorem foldT_rem (ds:List Dcl) (t:Tm):foldT ds t=oneT ds (remake t (t.ks.map (foldT ds))):=Zd0 ds t
theorem fold_good (c:declOk ds=true):∀t,sortM ds t≠ -1->Good ds t (foldT ds t):=by
 refine Tm.ind λt e hs=>?_;have d:=(sort_parts hs).2.1;have a:Good ds t (remake t (t.ks.map (foldT ds))):=by grind [remake_good]
 have b:=one_good' c (t:=remake t (t.ks.map (foldT ds))) (by rw[a.sort];exact hs);rw[foldT_rem];exact⟨b.1.trans a.sort,λenv he=>(b.2.1 env he).trans (a.eval env he),gY b.2.2.1 a.size,gY b.2.2.2 a.deep⟩
theorem kids_good (a:declOk ds=true) (hs:sortM ds t≠ -1):Good ds t (remake t (t.ks.map (foldT ds))):=remake_good λk b=>fold_good a k ((sort_parts hs).2.1 k b)
theorem leaf_none (h:t.ks=[]) (e:t.op=20\/t.op=21\/t.op=24):ruleA ds t=none:=by
 have a:t.ks.length=0:=by rw[h];rfl
 have x:ruleX ds t=none:=by
  unfold ruleX allFixed;rw[h];rfl
 have b:ruleB t=none:=by unfold ruleB;grind
 have c:ruleT t=none:=by unfold ruleT;grind
 have d:ruleL ds t=none:=by unfold ruleL;grind
 simp_all[ruleW,ruleS,ruleF,ruleA]
theorem Z60 (h:t.ks=[]) (a:t.op=20\/t.op=21\/t.op=24):oneT ds t=t:=by unfold oneT;rw[leaf_none h a];rfl
end
end
section
section
variable {ds:List Dcl} {env:oI} {d:Dcl}
theorem app_getD {α:Type} {l r:List α} {i:Nat} {e:α} (h:i<l.length):(l++r).getD i e=l.getD i e:=by
 grind
def rankE:List Dcl->oI->Int
 |d::ds,n::env=>n*2^(bits ds).toNat+rankE ds env
 |[],_=>0
 |_::_,[]=>0
end
end
end Go.M
end
