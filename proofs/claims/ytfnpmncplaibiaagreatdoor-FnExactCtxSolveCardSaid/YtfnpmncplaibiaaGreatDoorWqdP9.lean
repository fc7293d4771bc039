import Derived.Test.YtfnpmncplaibiaaGreatDoorWqdP8
/- A part of the proof. -/
set_option linter.all false
set_option maxRecDepth 9999
set_option maxHeartbeats 2000000
noncomputable section
namespace Go.Proofs.YtfnpmncplaibiaaGreatDoor
open Go Go.Vc Go.Proofs
section
variable {w:World} {K:oK} {D F Fx Fy Y S O:oA} {n b4 b8:Nat} {v v' nv xv yv:Value} {cs cs':List Value} {st st':Option M.Gs} {a b c m x y r:Int} {xs ys:oI}
abbrev New (w:World):oA:=λb=>w.heap.size<=b
theorem Fm.res {w0 c:World} {rv:Value} {zs:oI} (h:Fm n D O w0 b4 b8 w st) (he:Ext w c) (k:MkR n (Xf0 D O b4 b8) c cs' st') (m:Ints (New w) c rv zs)
  (i:∀a,Ext w0 a->MkR n D a cs' st'->Ints (New w0) a rv zs->K (.tuple #[.agg ⟨cs'⟩,rv]) a):
  zT zB (oP b8 0) (.agg ⟨cs'⟩) c λ_ a=>vlv zB (oP b8 0) a λo p=>K (.tuple #[o,rv]) p:=by
 refine h.out he k λa g d f=>i a g d ?_;have l:=h.lt4;have s:=h.ext.size;exact Ints.weaken (Ints.same m f λb j _ e=>oM) λb j _=>oM
theorem j5 {w0:World} {rv:Value} {zs:oI} (d:OwnI zh w rv zs) (c:∀b,rv.ownBlock=some b->w0.heap.size<=b):Ints (New w0) w rv zs:=Ints.weaken d.ints λb a _=>c b a
theorem sbin7_spec {op:Int} (h3:3<=op) (au:op<=14) (Q:n<=8) (hk:MkR n D w cs st) (hD:∀b,D b->b<w.heap.size) (hx:Ints Fx w xv xs) (hy:Ints Fy w yv ys) (hl:op≠14->xs.length=ys.length) (al:1<=xs.length) (h8:xs.length<=8) (aw:ys.length<=8) (s:SnL st xs) (j:SnL st ys)
  (y:∀w' cs' st' r zs,Ext w w'->MkR n D w' cs' st'->Ints (New w) w' r zs->SnL st' zs->M.Bd.Out n (M.binB op xs ys) st st' zs->K (.tuple #[.agg ⟨cs'⟩,r]) w'):
  vcall zG0 #[.agg ⟨cs⟩,nI op,xv,yv] w K:=by
 refine ze {cuts:=[(61457,[66])]} Tryz.func114 ?_;refine Fm.start hk hD λb4 b8 w1 m=>?_;have p:=Ints.ext (Ints.under hx) m.ext;have t:=Ints.ext (Ints.under hy) m.ext;unfold M.binB at y;obtain⟨c1,o,e⟩:=m.call;refine oZ ?_;refine zb (λc=>?_) (λc6=>?_)
 .subst c;simp only[y0 (show¬(6:Int)=14 by decide),y0 (show¬(6:Int)=3 by decide),y0 (show¬(6:Int)=4 by decide),y0 (show¬(6:Int)=5 by decide),if_true] at y;simp only[e w1 (Same.refl _ _)];refine sadd7_spec Q o m.dl p t oM oM s j (Sn.of dC dC) λw2 v st2 rv zs f g C Z U A=>?_;refine oZ ?_;exact m.res f g (j5 C Z) λB e3 z k=>y B v st2 rv zs e3 z k U A
 try simp only[push_cast]
 refine zb (λc=>?_) (λc7=>?_)
 .subst c;simp only[y0 (show¬(7:Int)=14 by decide),y0 (show¬(7:Int)=3 by decide),y0 (show¬(7:Int)=4 by decide),y0 (show¬(7:Int)=5 by decide),y0 (show¬(7:Int)=6 by decide),if_true] at y;refine zd λw2 f _=>?_;simp only[e w2 f,y1];refine sturn7_spec (Ints.ext t f) oM j.sm λB nv a ab ap=>?_;simp only[e B (f.trans a),y1,V1];have Y:=(m.grow f).grow a;refine sadd7_spec Q (o.ext (f.trans a) λ_ h _=>h) Y.dl (Ints.ext p (f.trans a)) ab.ints (by grind [M.negL_len]) oM s j.neg (Sn.of dC dC) λX a6 an rv zs a8 a9 ah a1 V R=>?_;simp only[push_cast,y1];exact Y.res a8 a9 (j5 ah a1) λE G i l=>y E a6 an rv zs G i l V R
 try simp only[push_cast]
 refine zb (λc=>?_) (λc8=>?_)
 .subst c;simp only[y0 (show¬(8:Int)=14 by decide),y0 (show¬(8:Int)=3 by decide),y0 (show¬(8:Int)=4 by decide),y0 (show¬(8:Int)=5 by decide),y0 (show¬(8:Int)=6 by decide),y0 (show¬(8:Int)=7 by decide),if_true] at y;simp only[e w1 (Same.refl _ _)];refine smul7_spec Q o m.dl p t (hl dC) oM s j λw2 v st2 rv zs f g C U A=>?_;refine oZ ?_;exact m.res f g C λB e3 z k=>y B v st2 rv zs e3 z k U A
 try simp only[push_cast]
 refine zb (λc=>?_) (λc9=>?_)
 .subst c;simp only[y0 (show¬(9:Int)=14 by decide),y0 (show¬(9:Int)=3 by decide),y0 (show¬(9:Int)=4 by decide),y0 (show¬(9:Int)=5 by decide),y0 (show¬(9:Int)=6 by decide),y0 (show¬(9:Int)=7 by decide),y0 (show¬(9:Int)=8 by decide),if_true] at y;simp only[e w1 (Same.refl _ _)];refine sdiv7_spec Q o m.dl p t (hl dC) oM s j λw2 v st2 qv rv q r f g a2 C a3 a4 A=>?_;refine oZ ?_;refine zi xx λa5 B a7 a k L=>?_;refine mk_put L rfl g.len g.one λX T V N=>?_;rw[Kk N g.len];have x:Ext w2 X:=Ext.then a T λb O=>oM;exact m.res (f.trans x) (g.ext x λ_ h _=>h) (Ints.ext a2 x) λE G i l=>y E v st2 qv q G i l a3 (M.Bd.Out.map _ A)
 try simp only[push_cast]
 refine zb (λc=>?_) (λaq=>?_)
 .subst c;simp only[y0 (show¬(10:Int)=14 by decide),y0 (show¬(10:Int)=3 by decide),y0 (show¬(10:Int)=4 by decide),y0 (show¬(10:Int)=5 by decide),y0 (show¬(10:Int)=6 by decide),y0 (show¬(10:Int)=7 by decide),y0 (show¬(10:Int)=8 by decide),y0 (show¬(10:Int)=9 by decide),if_true] at y;simp only[e w1 (Same.refl _ _)];refine sdiv7_spec Q o m.dl p t (hl dC) oM s j λw2 v st2 qv rv q r f g a2 C a3 a4 A=>?_;refine oZ ?_;refine zi xx λa5 B a7 a k L=>?_;refine mk_put L rfl g.len g.one λX T V N=>?_;rw[Kk N g.len];have x:Ext w2 X:=Ext.then a T λb O=>oM;exact m.res (f.trans x) (g.ext x λ_ h _=>h) (Ints.ext C x) λE G i l=>y E v st2 rv r G i l a4 (M.Bd.Out.map _ A)
 refine zo (λu w'=>u=[.bool (decide (op=11\/op=12\/op=13))]/\w'=w1) ?_ ?_
 .intro J hJ
  try simp only[push_cast]
  refine zb (λc=>?_) (λc=>?_)
  .grind
  try simp only[push_cast]
  refine zb (λd=>?_) (λd=>?_)
  .grind
  grind
 rintro _ _ w2 ⟨rfl,rfl⟩
 try simp only[push_cast]
 refine zb (λc=>?_) (λao=>?_)
 .simp only[e w2 (Same.refl _ _)];refine sshift7_spec Q o m.dl p t al oM oM s j λB H W rv zs a z S k ae=>?_;refine oZ ?_;refine m.res a z S λE G i l=>y E H W rv zs G i l k ?_
  grind
 try simp only[push_cast]
 refine zb (λc=>?_) (λar=>?_)
 .rw[y3 c] at y;refine zd λB a _=>?_;simp only[e B a,y1];refine spec_nil λv4 X R e4 ac=>?_;simp only[e X (a.trans e4),y1,V1];refine R.app xH (Ints.ext t (a.trans e4)) (by simp;omega) (by simp;omega) λv5 E af ai av=>?_;have z3:=a.size;have z4:=e4.size;have F:Ext B E:=Ext.then e4 ai λb O=>ac b O;simp only[e E (a.trans F),y1,V1];have ak:∀b,v5.ownBlock=some b->B.heap.size<=b:=(by grind);refine af.app xH (Ints.ext p (a.trans F)) (by simp;omega) (by simp;omega) λv6 w6 ag aj ad=>?_;have z5:=F.size;have I:Ext B w6:=Ext.then F aj λb O=>ak b O;simp only[e w6 (a.trans I),y1,V1];refine m.res (a.trans I) (o.ext (a.trans I) λ_ h _=>h) (j5 ag λb O=>(ad b O).elim (λh=>by grind) λh=>oM) λw7 e7 aa am=>y w7 c1 st v6 _ e7 aa am (by rw[Gg];exact j.app s) (M.Bd.Out.ret _ _)
 simp only[e w2 (Same.refl _ _)];refine splain7_spec Q o m.dl p t oM oM s j λB H W rv zs a z S a0 k ae=>?_;refine oZ ?_;refine m.res a z (j5 S a0) λE G i l=>y E H W rv zs G i l k ?_
 grind [plainB]
theorem sun7_spec {op:Int} (X:op=1\/op=2) (R:n<=8) (Q:MkR n D w cs st) (hD:∀b,D b->b<w.heap.size) (S:Ints Fx w xv xs) (V:xs.length<=8) (f:SnL st xs)
  (k:∀w' cs' st' r zs,Ext w w'->MkR n D w' cs' st'->Ints (New w) w' r zs->SnL st' zs->M.Bd.Out n (M.unB op xs) st st' zs->K (.tuple #[.agg ⟨cs'⟩,r]) w'):
  vcall yV0 #[.agg ⟨cs⟩,nI op,xv] w K:=by
 refine ze {} Tryz.func112 ?_;refine Fm.start Q hD λb4 b8 w1 s=>?_;have p:=Ints.ext (Ints.under S) s.ext;unfold M.unB at k;obtain⟨c1,m,d⟩:=s.call;refine oZ ?_;refine zb (λc=>?_) (λc=>?_)
 .rw[y3 c] at k;refine zd λw2 a _=>?_;simp only[d w2 a,y1];refine sturn7_spec (Ints.ext p a) oM f.sm λF nv e y I=>?_;simp only[d F (a.trans e),y1,V1];have z2:=a.size;exact s.res (a.trans e) (m.ext (a.trans e) λ_ h _=>h) (j5 y λb W=>by grind) λL N i j=>k L c1 st nv _ N i j f.neg (M.Bd.Out.ret _ _)
 .rw[y0 c] at k;refine zd λw2 a _=>?_;have q:=Ints.ext p a;simp(disch:=exact oS) only[push_cast,d w2 a,y1,q.len];refine sfill7_spec oM λF fv e v H=>?_;simp only[d F (a.trans e),y1,V1];refine sturn7_spec (Ints.ext q e) oM f.sm λT nv l z J=>?_;have g:=a.trans (e.trans l);simp only[d T g,y1,V1];have G:=s.grow g;refine sadd7_spec R (m.ext g λ_ h _=>h) G.dl (v.ext l).ints z.ints (by rw[M.negL_len,gD];omega) (by grind) (SnL.fill _) f.neg (Sn.of dC dC) λL t E rv zs u i B o j A=>?_;simp only[push_cast,y1];exact G.res u i (j5 B o) λU O x C=>k U t E rv zs O x C j A
theorem swap_get (xs ys:oI) (h:xs.length=ys.length) (c:1<=xs.length):xs.take (xs.length-1)++[ys.getD (xs.length-1) 0]=M.swapT xs ys:=by
 unfold M.swapT;refine gL (by simp;omega) λi a b=>?_
 grind
theorem cut_app {w0:World} {vx:Value} {zs:oI} {x:Int} {c:Nat} {t0:TypeId} (f:Ext w0 w) (p:Ints Fx w vx zs) (s:zs.length<=1000) (h:Blk w c [nI x] t0) (j:w0.heap.size<=c) (m:OwnI zh w v []) (g:∀b,v.ownBlock=some b->w0.heap.size<=b/\b≠c)
  (r:∀w' v',Ext w0 w'->OwnI zh w' v' (zs++[x])->(∀b,v'.ownBlock=some b->w0.heap.size<=b)->K v' w'):
  vbi .append [zh,zh] zh [v,vx] w λt w1=>vbi .append [zh,zh] zh [t,.slice (some ⟨c,0,none⟩) 1 1] w1 K:=by
 have u:=f.size;refine m.app xH p (by simp;omega) (by simp;omega) λv2 w2 d a k=>?_;have s2:=a.size;refine OwnI.app1 d xH (h.same a λe=>(g _ e).2 rfl) (by simp;omega) (by simp;omega) λv3 y n o l=>?_;have q:Ext w0 w2:=Ext.then f a λb i=>(g b i).1
 grind [Ext.then]
theorem top_region {J:List Value->World->Prop} (hx:Ints Fx w xv xs) (hy:Ints Fy w yv ys) (hl:xs.length=ys.length) (h1:1<=xs.length) (h8:xs.length<=8) (hJ:∀w' r,Ext w w'->OwnI zh w' r (M.swapT xs ys)->(∀b,r.ownBlock=some b->w.heap.size<=b)->J [r] w'):
  ZB w λa=>
    xf zh xv none (some (nI ((xs.length-1:Nat):Int))) none a λt36 G=>G=a/\
    y6 zh yv (nI ((xs.length-1:Nat):Int)) a λt40 H=>H=a/\
    zu zV t40 a λt41 I=>I=a/\
    (vbuildS zh 0 [] a λt33 c=>(zu zV t40 c λv x=>v=t41/\x=c)/\(y6 zh yv (nI ((xs.length-1:Nat):Int)) c λv x=>v=t40/\x=c)/\(xf zh xv none (some (nI ((xs.length-1:Nat):Int))) none c λv x=>v=t36/\x=c)/\
     (vbi .append [zh,zh] zh [t33,t36] c λt37 d=>(zu zV t40 d λv x=>v=t41/\x=d)/\(y6 zh yv (nI ((xs.length-1:Nat):Int)) d λv x=>v=t40/\x=d)/\
      (vbuildS zh 1 [(0,t41)] d λt42 L=>
       (vbi .append [zh,zh] zh [t37,t42] L λt43 N=>
        J [t43] N)/\
       True)/\
      True)/\
     (vbuildS zh 1 [(0,t41)] c λy j=>(xf zh xv none (some (nI ((xs.length-1:Nat):Int))) none j λv x=>v=t36/\x=j)/\
      (vbi .append [zh,zh] zh [t33,t36] j λt O=>
       (vbi .append [zh,zh] zh [t,y] O λA Q=>
        J [A] Q)/\
       True)/\
      True)/\
     True)/\
    (vbuildS zh 1 [(0,t41)] a λz k=>(xf zh xv none (some (nI ((xs.length-1:Nat):Int))) none k λv x=>v=t36/\x=k)/\
     (vbuildS zh 0 [] k λs l=>(xf zh xv none (some (nI ((xs.length-1:Nat):Int))) none l λv x=>v=t36/\x=l)/\
      (vbi .append [zh,zh] zh [s,t36] l λu R=>
       (vbi .append [zh,zh] zh [u,z] R λB S=>
        J [B] S)/\
       True)/\
      True)/\
     True)/\
    True:=by
 refine zd λw2 g _=>?_;have sl:∀(w':World) (K:oK),Ext w w'->xf zh xv none (some (nI ((xs.length-1:Nat):Int))) none w' K=K (cutV xv (xs.length-1)) w':=λw' K he=>by
  have o:=Ints.ext hx he;exact propext ⟨λh=>by rwa[Sl.cut o (Sl.base o (by simp;grind)) XV (by simp)] at h,λh=>by rwa[Sl.cut o (Sl.base o (by simp;grind)) XV (by simp)]⟩
 have ia:∀(w':World) (K:oK),y6 zh yv (nI ((xs.length-1:Nat):Int)) w' K=K (oE (eaddr yv 1 (xs.length-1))) w':=λw' K=>by
  rw[hy.iaddr XV oM oM,gl]
 have ld:∀(w':World) (K:oK),Ext w w'->zu zV (oE (eaddr yv 1 (xs.length-1))) w' K=K (nI (ys.getD (xs.length-1) 0)) w':=λw' K he=>(Ints.ext hy he).load WA oM;have U:∀w',Ext w w'->Ints Fx w' (cutV xv (xs.length-1)) (xs.take (xs.length-1)):=λw' he=>by
  have:=Sl.taken (Ints.ext hx he) (n:=xs.length-1) (by simp)
  grind [Ints,Vals,List.map_take]
 have E:(xs.take (xs.length-1)).length<=1000:=by grind
 have s2:=g.size;simp only[sl _ _ g,ia,ld _ _ g,y1,gQ];refine⟨?_,?_⟩
 .refine spec_nil λv3 w3 i p F=>?_;have e:=g.trans p;simp only[sl _ _ e,ld _ _ e,y1,gQ,V1];refine⟨?_,?_⟩
  .refine i.app xH (U _ e) (by simp;omega) (by simp;omega) λv4 w4 X a2 V=>?_;have C:Ext w w4:=(by grind [Ext.then]);have s3:=p.size;simp only[ld _ _ C,y1,gQ,V1];refine spec_app (w0:=w) C X (λb D=>(V b D).elim (λh=>by grind) λh=>oM) (by simp;omega) λv5 w5 a1 e5 a0=>?_
   grind [swap_get]
  .refine zC xu yW xK rfl rfl λb7 w7 T f Z q=>?_;have s3:=p.size;simp only[sl _ _ (e.trans f),y1,gQ,V1];refine cut_app (w0:=w) (e.trans f) (U _ (e.trans f)) E q oM (i.ext f) (λb D=>by have:=F b D;have:=i.lt D;omega) λw8 v8 e8 Y W=>?_
   grind [swap_get]
 .refine zC xu yW xK rfl rfl λb7 w7 T f Z q=>?_;have m:=g.trans f;simp only[sl _ _ m,y1,gQ,V1];refine spec_nil λv3 w3 i p F=>?_;simp only[sl _ _ (m.trans p),y1,gQ,V1];refine cut_app (w0:=w) (m.trans p) (U _ (m.trans p)) E (q.ext p) oM i (λb D=>by grind) λw8 v8 e8 Y W=>?_
  grind [swap_get]
theorem swap_sn (a:SnL st xs) (b:SnL st ys) (d:xs.length=ys.length) (c:1<=xs.length):SnL st (M.swapT xs ys):=a.set (b.get oM)
theorem Wv (xs ys:oI):(M.swapT xs ys).length=xs.length:=gK ..
theorem scmp7_spec {op:Int} (W:15<=op) (X:op<=17) (y:n<=8) (Y:MkR n D w cs st) (hD:∀b,D b->b<w.heap.size) (hx:Ints Fx w xv xs) (hy:Ints Fy w yv ys) (x:xs.length=ys.length) (z:1<=xs.length) (h8:xs.length<=8) (g:SnL st xs) (j:SnL st ys)
  (k:∀w' cs' st' r,Ext w w'->MkR n D w' cs' st'->Sn st' r->M.Bd.Out n (M.cmpB op xs ys) st st' r->K (.tuple #[.agg ⟨cs'⟩,nI r]) w'):
  vcall zF0 #[.agg ⟨cs⟩,nI op,xv,yv] w K:=by
 refine ze {cuts:=[(32776,[11]),(36873,[12])]} Tryz.func113 ?_;refine Fm.start Y hD λb4 b8 w1 f=>?_;have d:=Ints.ext (Ints.under hx) f.ext;have i:=Ints.ext (Ints.under hy) f.ext;unfold M.cmpB at k;obtain⟨c1,o,a⟩:=f.call;refine oZ ?_;refine zb (λc=>?_) (λT=>?_)
 .rw[y3 c] at k;simp only[a w1 (Same.refl _ _)];refine ssame7_spec y o f.dl d i oM oM g j λw2 l st2 r m p t s=>?_;refine oZ ?_;exact f.out m p λA v q R=>k A l st2 r v q t s
 rw[y0 T] at k
 try simp only[push_cast]
 refine zb (λc=>?_) (λU=>?_)
 .rw[y3 c] at k;simp only[a w1 (Same.refl _ _)];refine sless7_spec y o f.dl d i oM oM g j λw2 l st2 r m p t s=>?_;refine oZ ?_;exact f.out m p λA v q R=>k A l st2 r v q t s
 rw[y0 U] at k;rw[d.len Xr0];simp(disch:=omega) only[push_cast,zk];rw[show((xs.length:Int)-1)=((xs.length-1:Nat):Int) by omega];refine zo (λu w'=> ∃r,u=[r]/\Ext w1 w'/\OwnI zh w' r (M.swapT xs ys)) ?_ ?_
 .intro J E;exact top_region d i x z oM λw' r he N y=>E _ _ ⟨r,rfl,he,N⟩
 rintro _ _ w2 ⟨av,rfl,C,F⟩;refine zo (λu w'=> ∃r,u=[r]/\Ext w2 w'/\OwnI zh w' r (M.swapT ys xs)) ?_ ?_
 .intro J E;rw[x];exact top_region (Ints.ext i C) (Ints.ext d C) x.symm oM oM λw' r he N y=>E _ _ ⟨r,rfl,he,N⟩
 rintro _ _ A ⟨bv,rfl,v,G⟩;have e:=C.trans v
 try simp only[push_cast]
 simp only[a A e];refine sless7_spec y (o.ext e λ_ h _=>h) (f.grow e).dl (F.ext v).ints G.ints (by rw[Wv,Wv];omega) (by rw[Wv];omega) (swap_sn g j x z) (swap_sn j g x.symm oM) λw4 B S r H I Q O=>?_;refine oZ ?_;exact(f.grow e).out H I λw5 V L Z=>k w5 B S r V L Q O
end
section
variable {w:World} {K:oK} {D F Fx:oA} {n:Nat} {v dv tv:Value} {cs:List Value} {st:Option M.Gs} {a b c m x y r:Int} {ds:List M.Dcl} {t:M.Tm}
theorem spec_one {x:Int} (f:∀w' r,Ext w w'->OwnI zh w' r [x]->(∀b,r.ownBlock=some b->w.heap.size<=b)->K r w'):vbuildS zh 1 [(0,nI x)] w K:=by
 refine zC xu yW xK rfl rfl λd j h c i a=>?_;exact f j _ c (Blk.own1 (t:=zh) (cs:=[nI x]) (by rw[qQ];exact a) (gF _) rfl rfl oM) λb g=>by have e:d=b:=K3 g;omega
theorem sbits8_spec {k:Nat} (d:M.declOk ds=true) (o:k<=ds.length) (j:DclsR F w v (ds.take k)) (h:∀w',Ext w w'->K (nI (M.bitT ds k)) w'):vcall WE #[v] w K:=by
 refine ze {loops:=[(3,[3,4])]} Tryz.func75 ?_;have hlen:(ds.take k).length=k:=by rw[gh];omega
 have n:=(M.decl_iff.1 d).1;refine vloop_up k (λi u w'=>u=[nI (M.bitT ds i),nI i]/\Ext w w') ⟨rfl,Same.refl _ _⟩ ?_;rintro i _ _ w2 C hi ⟨rfl,c⟩ g;have b:=j.ext c;simp(disch:=exact oS) only[push_cast,b.len];refine zb (λa=>?_) (λa=>?_)
 .have e:i<k:=oM;have m:=dcl_small d (i:=i) oM;have f:=dcl_small d (i:=i+1) oM;rw[M.bitT_succ oM] at f;have l:(ds.take k).getD i (M.nada,0)=ds.getD i (M.nada,0):=M.take_getD e;simp(disch:=exact oS) only[push_cast,b.iaddr,b.load1,l,zk];refine g e _ _ ⟨?_,c⟩;rw[M.bitT_succ oM];simp
 .have:i=k:=oM;subst this;exact h w2 c
theorem fix_val {nn:Int} {j:Nat}:2*((nn.toNat/2^j%2:Nat):Int)-1=if nn.toNat/2^j%2=1 then 1 else-1:=by
 have h:nn.toNat/2^j%2=0\/nn.toNat/2^j%2=1:=oM
 rcases h with h|h<;>rw[h]<;>rfl
theorem sfix8_spec {wd nn:Int} (x:M.vok wd nn=true) (t:∀w' r,Ext w w'->OwnI zh w' r (M.fixB wd nn)->(∀b,r.ownBlock=some b->w.heap.size<=b)->K r w'):vcall zy0 #[nI wd,nI nn] w K:=by
 refine ze {loops:=[(3,[5,6])]} Tryz.func154 ?_;obtain⟨v1,v2,v3,v4⟩:=M.vok_lt x;refine spec_nil λy w1 m p k=>?_;refine vloop_up wd.toNat (λi u w'=> ∃r,u=[r,nI i]/\Ext w w'/\OwnI zh w' r ((M.fixB wd nn).take i)/\∀b,r.ownBlock=some b->w.heap.size<=b) ⟨_,rfl,p,m,k⟩ ?_;rintro i _ g w2 C hi ⟨r,rfl,o,d,f⟩ s;refine oZ ?_;refine zb (λa=>?_) (λa=>?_)
 .have e:i<wd.toNat:=oM;rw[show nn=((nn.toNat:Nat):Int) by omega];refine l1Bit_spec oM oM ?_;have v:nn.toNat/2^i%2<2:=p0 _ dC;have c:=fix_val (nn:=nn) (j:=i);generalize h:nn.toNat/2^i%2=bt at c v;simp(disch:=omega) only[push_cast,zk];rw[c];refine spec_app o d f (by rw[gh,M.fixB_len];omega) λv3 z n q l=>?_
  try simp(disch:=omega) only[push_cast,zk]
  refine s e _ _ ⟨v3,by simp,q,?_,l⟩;rw[M.take_add (by rw[M.fixB_len];omega) 0,fixB_at oM,h];exact n
 .have e:i=wd.toNat:=oM;rw[gC (by rw[M.fixB_len];omega)] at d;exact t w2 r o d f
theorem sname8_spec {k:Nat} (e:M.declOk ds=true) (l:k<ds.length) (p:DclsR F w v ds) (D:∀w' r,Ext w w'->OwnI zh w' r (M.nameB ds k)->(∀b,r.ownBlock=some b->w.heap.size<=b)->K r w'):vcall WC #[v,nI k] w K:=by
 refine ze {loops:=[(4,[6,7])]} Tryz.func155 ?_;have J:=(M.decl_iff.1 e).1;rw[p.cut (by intro h;rw[h] at l;simp at l) kH oM];refine sbits8_spec e oM (p.taken oM) λw1 y=>?_;have G:=dcl_small e (i:=k) oM;have H:=M.dcl_wide e l;simp(disch:=omega) only[push_cast,zk];refine spec_nil λv2 w2 t z q=>?_;have N:=y.size;refine vloop_up (ds.getD k (M.nada,0)).2.toNat (λi u w'=> ∃r,u=[r,nI i]/\Ext w w'/\OwnI zh w' r ((M.nameB ds k).take i)/\∀b,r.ownBlock=some b->w.heap.size<=b) ⟨_,rfl,y.trans z,t,λb E=>by have:=q b E;omega⟩ ?_;rintro i _ g I C hi ⟨r,rfl,n,f,m⟩ B;have d:=p.ext n;have j:∀c:i<(ds.getD k (M.nada,0)).2.toNat,(M.nameB ds k).getD i 0=2+M.bitT ds k+(ds.getD k (M.nada,0)).2-1-(i:Int):=λc=>by unfold M.nameB;rw[JG c];rfl
 rw[d.iaddr kH oM oM,gl];refine oZ ?_;rw[d.load1 WA l];generalize o:(ds.getD k (M.nada,0)).2=wd at*;refine oZ ?_;refine zb (λa=>?_) (λa=>?_)
 .have c:i<wd.toNat:=oM;rw[d.iaddr kH oM oM,gl];refine oZ ?_;rw[d.load1 WA l,o];simp(disch:=omega) only[push_cast,zk];refine spec_app n f m (by rw[gh,M.nameB_len];omega) λv5 L x A s=>?_
  try simp(disch:=omega) only[push_cast,zk]
  refine B c _ _ ⟨v5,by simp,A,?_,s⟩;rw[M.take_add (by rw[M.nameB_len,o];omega) 0,j c];exact x
 .rw[gC (by rw[M.nameB_len,o];omega)] at f;exact D I r n f m
theorem sleaf8_spec (l:M.declOk ds=true) (hs:M.sortM ds t≠ -1) (G:t.ks.length=0) (q:DclsR F w dv ds) (C:TermR Fx w tv t)
  (i:∀w' r zs,Ext w w'->OwnI zh w' r zs->(∀b,r.ownBlock=some b->w.heap.size<=b)->SnL st zs->M.Bd.Out n (M.nodeB ds t []) st st zs->K r w'):vcall WD #[dv,tv] w K:=by
 refine ze {} Tryz.func110 ?_;obtain⟨kv,rfl,y⟩:=C;obtain⟨u,I,A⟩:=M.right_op hs;have B:t.op=20\/t.op=21\/t.op=24:=GJ λh=>by have:=M.node_arity A h;omega
 refine zj λb1 w1 v a E g=>?_;simp(disch:=exact oS) only[push_cast,g.ld0];unfold M.nodeB at i;refine zb (λc=>?_) (λc=>?_)
 .rw[y3 c] at i;have D:=M.vec_ok hs c;simp(disch:=exact oS) only[push_cast,g.ld1,g.ld2];refine sfix8_spec D λw2 r d f e=>?_;exact i w2 r _ (a.trans d) f (λb o=>by have:=e b o;omega) (λx p=>by
   unfold M.fixB at p;obtain⟨j,_,rfl⟩:=gr.1 p;split<;>exact Sn.of dC dC) (M.Bd.Out.ret _ _)
 rw[y0 c] at i
 try simp only[push_cast]
 refine zb (λc2=>?_) (λc2=>?_)
 .rw[y3 c2] at i;have H:=M.name_found hs c2;have z:=M.findD_lt ds t.s;simp(disch:=exact oS) only[push_cast,g.ld3];refine l2Find_spec (q.ext a) ?_;rw[show M.findD ds t.s=(((M.findD ds t.s).toNat:Nat):Int) by omega];refine sname8_spec l oM (q.ext a) λw2 r d f e=>?_;refine i w2 r _ (a.trans d) f (λb o=>by have:=e b o;omega) (λx p=>?_) (M.Bd.Out.ret _ _);obtain⟨p1,p2,J⟩:=M.name_has (m:=9) l (k:=(M.findD ds t.s).toNat) oM (by have:=(M.decl_iff.1 l).2.2;omega) x p;exact Sn.of (by unfold Sm;omega) p1
 .rw[y0 c2,y3 oM] at i;refine spec_one λw2 r d f e=>?_;exact i w2 r _ (a.trans d) f (λb o=>by have:=e b o;omega) (SnL.one (Sn.of dC dC)) (M.Bd.Out.ret _ _)
end
section
variable {w:World} {K:oK} {D F Fx Y S O:oA} {n b4 b8:Nat} {v tv kv:Value} {cs cs' ts:List Value} {st st':Option M.Gs} {a b c m x y r:Int} {ds:List M.Dcl} {t:M.Tm} {rs:List (oI)}
theorem Fm.start2 (s:MkR n D w cs st) (hD:∀b,D b->b<w.heap.size) {K:Value->Value->oK} (m:∀b4 a b8 w',Fm n D (λ_=>False) w b4 b8 w' st->Blk w' a ts za->w.heap.size<=a/\a≠b4/\a≠b8->K (oP b4 0) (oP a 0) (oP b8 0) w'):
  yF0 zB (.agg ⟨cs⟩) w λt w1=>yF0 za (.agg ⟨ts⟩) w1 λt5 w2=>qt zB w2 λt8 k=>K t t5 t8 k:=by
 refine zj λb4 w1 p i u e=>?_;refine zj λa w2 q j v f=>?_;refine zi xx λb8 k r d x g=>?_;have c:=j.trans d;have l:=i.trans c;refine m b4 a b8 k ⟨l,⟨cs,e.ext c,s.ext l λb o y=>o.elim id λh=>?_⟩,⟨_,g,rfl⟩,oM,λb h=>h.elim,hD⟩ (f.ext d) oM;rcases h with h|h|h
 .omega
 .omega
 .exact h.elim
def KidsS (w:World) (kv:Value) (rs:List (oI)):Prop:= ∃(vs:List Value) (Fk:oA),Vals Fk w kv vs/\vs.length=rs.length/\∀i,i<rs.length->Ints (λ_=>True) w (vs.getD i undef) (rs.getD i [])
theorem KidsS.vals (h:KidsS w kv rs):∃vs:List Value,(∀(w':World),Ext w w'->∀i:Nat,i<rs.length->∀K:oK,y6 zI kv (nI i) w' K=K (oE (eaddr kv 1 i)) w'/\zu zh (oE (eaddr kv 1 i)) w' K=K (vs.getD i undef) w')/\
  ∀i,i<rs.length->Ints (λ_=>True) w (vs.getD i undef) (rs.getD i []):=by
 obtain⟨vs,Fk,b,d,c⟩:=h;refine⟨vs,λw' he i hi K=>?_,c⟩;have a:=b.ext he;refine⟨?_,a.load Xt0 oM⟩;rw[a.iaddr YQ0 oM oM,gl]
theorem KidsS.ext {w':World} (h:KidsS w kv rs) (he:Ext w w'):KidsS w' kv rs:=by
 obtain⟨vs,Fk,a,b,c⟩:=h;exact⟨vs,Fk,a.ext he,b,λi hi=>Ints.ext (c i hi) he⟩
theorem len_one {l:oI} (h:l.length=1):l=[l.getD 0 0]:=by
 match l,h with
 |[x],_=>rfl
theorem slogic8_spec (a5:M.declOk ds=true) (hs:M.sortM ds t≠ -1) (a9:22<t.op) (a1:t.op≠24) (hn:n<=8) (hk:MkR n D w cs st) (hD:∀b,D b->b<w.heap.size) (ht:TermR Fx w tv t) (J:KidsS w kv rs) (ad:rs.length=t.ks.length) (hlen:∀i,i<t.ks.length->(rs.getD i []).length=M.lenS (M.sortM ds (M.kid t i))) (a6:∀r,r∈rs->SnL st r)
  (m:∀w' cs' st' r zs,Ext w w'->MkR n D w' cs' st'->Ints (New w) w' r zs->SnL st' zs->M.Bd.Out n (M.nodeB ds t rs) st st' zs->K (.tuple #[.agg ⟨cs'⟩,r]) w'):
  vcall KY #[.agg ⟨cs⟩,tv,kv] w K:=by
 refine ze {} Tryz.func111 ?_;obtain⟨kw,rfl,ab⟩:=ht;obtain⟨aa,hp,ho⟩:=M.right_op hs;obtain⟨q1,q2,q3,q4,q5,q6,q7⟩:=M.node_right a5 hs (L:=λi=>(rs.getD i []).length) hlen;refine Fm.start2 hk hD λb4 b5 b8 w1 S a2 ac=>?_;obtain⟨c1,y,e⟩:=S.call;obtain⟨vs,g,f⟩:=(J.ext S.ext).vals;have get:∀i,i<rs.length->SnL st (rs.getD i []):=λi hi=>a6 _ (M.getD_mem hi []);simp(disch:=exact oS) only[push_cast,a2.ld0];unfold M.nodeB at m;rw[y0 oM,y0 oM,y0 a1] at m;refine zb (λc=>?_) (λF=>?_)
 .rw[y3 c] at m;obtain⟨q,j⟩:=q7 oM;rw[y3 c] at q;have H:=j 0 oM;refine zd λw2 a _=>?_;have B:∀K:oK,y6 zI kv (nI 0) w2 K=K (oE (eaddr kv 1 0)) w2:=λK=>(g w2 a 0 oM K).1;have C:∀K:oK,zu zh (oE (eaddr kv 1 0)) w2 K=K (vs.getD 0 undef) w2:=λK=>(g w2 a 0 oM K).2;simp only[e w2 a,B,C,y1];refine sturn7_spec (Ints.ext (f 0 oM) a) oM (get 0 oM).sm λY r3 d l a4=>?_;simp only[e Y (a.trans d),y1,V1];have z2:=a.size;refine S.res (a.trans d) (y.ext (a.trans d) λ_ h _=>h) (j5 l λb hb=>by have:=a4 b hb;omega) λR e4 k v=>m R c1 st r3 _ e4 k v (get 0 oM).neg ?_;rw[len_one H];exact M.Bd.Out.ret _ _
 rw[y0 F] at m
 try simp only[push_cast]
 refine zb (λc=>?_) (λZ=>?_)
 .rw[y3 c] at m;obtain⟨q,j⟩:=q7 oM;rw[y0 F] at q;have H:=j 0 oM;have a3:=j 1 oM;refine zd λw2 a _=>?_;have B:∀K:oK,y6 zI kv (nI 0) w2 K=K (oE (eaddr kv 1 0)) w2:=λK=>(g w2 a 0 oM K).1;have C:∀K:oK,zu zh (oE (eaddr kv 1 0)) w2 K=K (vs.getD 0 undef) w2:=λK=>(g w2 a 0 oM K).2;have T:∀K:oK,y6 zI kv (nI 1) w2 K=K (oE (eaddr kv 1 1)) w2:=λK=>(g w2 a 1 oM K).1;have U:∀K:oK,zu zh (oE (eaddr kv 1 1)) w2 K=K (vs.getD 1 undef) w2:=λK=>(g w2 a 1 oM K).2;have z:=Ints.ext (f 0 oM) a;have E:=Ints.ext (f 1 oM) a;simp(disch:=exact oS) only[e w2 a,B,C,T,U,z.iaddr,z.load,E.iaddr,E.load,push_cast,y1];have A:=S.grow a;refine sand7_spec hn (y.ext a λ_ h _=>h) A.dl ((get 0 oM).get oM) ((get 1 oM).get oM) λY G x r d p u l=>?_;simp only[push_cast,y1];refine A.put d p λR W a7 v=>?_
  try simp only[push_cast,y1,V1]
  obtain⟨c4,k,s⟩:=W.call;simp only[s R (Same.refl _ _)];refine spec_one λw5 rv o O N=>?_;refine W.res o (k.ext o λ_ h _=>h) (j5 O N) λw6 e6 I Q=>m w6 c4 x rv [r] e6 I Q (SnL.one u) (xI l (M.Bd.Out.ret _ _))
 rw[y0 Z] at m
 try simp only[push_cast]
 refine zb (λc=>?_) (λa0=>?_)
 .rw[y3 c] at m;obtain⟨q,j⟩:=q7 oM;rw[y0 F] at q;have H:=j 0 oM;have a3:=j 1 oM;refine zd λw2 a _=>?_;have B:∀K:oK,y6 zI kv (nI 0) w2 K=K (oE (eaddr kv 1 0)) w2:=λK=>(g w2 a 0 oM K).1;have C:∀K:oK,zu zh (oE (eaddr kv 1 0)) w2 K=K (vs.getD 0 undef) w2:=λK=>(g w2 a 0 oM K).2;have T:∀K:oK,y6 zI kv (nI 1) w2 K=K (oE (eaddr kv 1 1)) w2:=λK=>(g w2 a 1 oM K).1;have U:∀K:oK,zu zh (oE (eaddr kv 1 1)) w2 K=K (vs.getD 1 undef) w2:=λK=>(g w2 a 1 oM K).2;have z:=Ints.ext (f 0 oM) a;have E:=Ints.ext (f 1 oM) a;simp(disch:=exact oS) only[e w2 a,B,C,T,U,z.iaddr,z.load,E.iaddr,E.load,push_cast,y1];have A:=S.grow a;refine sor7_spec hn (y.ext a λ_ h _=>h) A.dl ((get 0 oM).get oM) ((get 1 oM).get oM) λY G x r d p u l=>?_;simp only[push_cast,y1];refine A.put d p λR W a7 v=>?_
  try simp only[push_cast,y1,V1]
  obtain⟨c4,k,s⟩:=W.call;simp only[s R (Same.refl _ _)];refine spec_one λw5 rv o O N=>?_;refine W.res o (k.ext o λ_ h _=>h) (j5 O N) λw6 e6 I Q=>m w6 c4 x rv [r] e6 I Q (SnL.one u) (M.Bd.Out.map _ l)
 have V:t.op=23:=oM
 rw[y0 a0,y3 V] at m;obtain⟨k1,l0,l1,l2,l3⟩:=q6 V;refine zd λw2 a _=>?_;have B:∀K:oK,y6 zI kv (nI 0) w2 K=K (oE (eaddr kv 1 0)) w2:=λK=>(g w2 a 0 oM K).1;have C:∀K:oK,zu zh (oE (eaddr kv 1 0)) w2 K=K (vs.getD 0 undef) w2:=λK=>(g w2 a 0 oM K).2;have T:∀K:oK,y6 zI kv (nI 1) w2 K=K (oE (eaddr kv 1 1)) w2:=λK=>(g w2 a 1 oM K).1;have U:∀K:oK,zu zh (oE (eaddr kv 1 1)) w2 K=K (vs.getD 1 undef) w2:=λK=>(g w2 a 1 oM K).2;have A2:∀K:oK,y6 zI kv (nI 2) w2 K=K (oE (eaddr kv 1 2)) w2:=λK=>(g w2 a 2 oM K).1;have B2:∀K:oK,zu zh (oE (eaddr kv 1 2)) w2 K=K (vs.getD 2 undef) w2:=λK=>(g w2 a 2 oM K).2;have z:=Ints.ext (f 0 oM) a;have E:=Ints.ext (f 1 oM) a;have V2:=Ints.ext (f 2 oM) a;simp(disch:=exact oS) only[e w2 a,B,C,T,U,A2,B2,z.iaddr,z.load,push_cast,y1];have A:=S.grow a;refine sifs7_spec hn (y.ext a λ_ h _=>h) A.dl E V2 oM oM (get 1 oM) (get 2 oM) ((get 0 oM).get oM) λY G x r zs d p u X a8 l=>?_;simp only[push_cast,y1];exact A.res d p (j5 u X) λR e4 k v=>m R G x r zs e4 k v a8 l
end
section
variable {w:World} {K:oK} {D F Y S O:oA} {n b4 b8:Nat} {v v' xv dv tv kv:Value} {cs cs':List Value} {st st':Option M.Gs} {a b c m x y r:Int} {xs:oI} {ds:List M.Dcl} {t:M.Tm} {rs:List (oI)}
theorem cutEq {lo hi:Nat} {kl kh:IntKind} (h:Ints F w v xs) (k:lo<=hi) (j:hi<=xs.length):∃v',(∀(w':World) (K:oK),xf zh v (some (.int kl lo)) (some (.int kh hi)) none w' K=K v' w')/\Ints F w v' ((xs.drop lo).take (hi-lo)):=by
 have d:elB zh 1=true:=XV;obtain⟨hu,hs⟩:=YM d;have hlen:((xs.drop lo).take (hi-lo)).length=hi-lo:=by rw[gh,GU];omega
 obtain⟨a,c,rfl,g,i,b⟩:=h.shape;rw[y4,y4] at g;refine⟨sliced a lo hi c 1,λw' K=>ya ?_,?_⟩
 .rw[y4,y4,run_sliceAt_slice w' zh _ _ _ _ hu,run_slice_lh w' zh _ _ _ hu kl kh lo hi oM oM oM,Go.Vc.run_sizeOf hs];simp[Result.andThen]
 .have key:=Ints.cutLH (t:=zh) (kl:=kl) (kh:=kh) (w':=w) (K:=λv' w'=>v'=sliced a lo hi c 1->Ints F w v' ((xs.drop lo).take (hi-lo))) h d k j λv' f _=>f;rw[y4,y4] at key;have e:xf zh (.slice a xs.length c) (some (.int kl lo)) (some (.int kh hi)) none w (λv' w'=>v'=sliced a lo hi c 1->Ints F w v' ((xs.drop lo).take (hi-lo)))=(sliced a lo hi c 1=sliced a lo hi c 1->Ints F w (sliced a lo hi c 1) ((xs.drop lo).take (hi-lo))):=ya (by
   rw[run_sliceAt_slice w zh _ _ _ _ hu,run_slice_lh w zh _ _ _ hu kl kh lo hi oM oM oM,Go.Vc.run_sizeOf hs];simp[Result.andThen];rfl)
  rw[e] at key;exact key rfl
theorem j50 (ps:List (M.Bd (oI))) (p:M.Bd (oI)):M.seqB (ps++[p])=(M.seqB ps).bind λrs=>p.map λr=>rs++[r]:=by
 induction ps with
 |nil=>rfl
 |cons q ps a=>
  show(q.bind λr=>(M.seqB (ps++[p])).map (r:: ·))=((q.bind λr=>(M.seqB ps).map (r:: ·)).bind λrs=>p.map λr=>rs++[r]);rw[M.Bd.bind_assoc];congr 1
  funext r
  rw[a];unfold M.Bd.map;rw[M.Bd.bind_assoc,M.Bd.bind_assoc];congr 1
  funext rs
  rw[M.Bd.bind_assoc];rfl
theorem xu0 {ps:List (M.Bd (oI))} {p:M.Bd (oI)} {st a st2:Option M.Gs} {rs:List (oI)} {r:oI} (h:M.Bd.Out n (M.seqB ps) st a rs) (b:M.Bd.Out n p a st2 r):M.Bd.Out n (M.seqB (ps++[p])) st st2 (rs++[r]):=by
 rw[j50];exact M.Bd.Out.bind h (M.Bd.Out.map _ b)
theorem ks_few (hs:M.sortM ds t≠ -1):t.ks.length<=3:=by
 obtain⟨a,c,b⟩:=M.right_op hs;have h:M.arity t.op<=3:=by
  unfold M.arity;repeat' split
  all_goals omega
 omega
theorem sdo8_spec (ac:M.declOk ds=true) (hn:n<=8):∀(t:M.Tm),M.sortM ds t≠ -1->∀{w:World} {K:oK} {D:oA} {cs:List Value} {st:Option M.Gs} {tv:Value} {Fd Ft:oA},MkR n D w cs st->(∀b,D b->b<w.heap.size)->DclsR Fd w dv ds->TermR Ft w tv t->
  (∀w' cs' st' r zs,Ext w w'->MkR n D w' cs' st'->Ints (New w) w' r zs->SnL st' zs->M.Bd.Out n (M.termB ds t) st st' zs->K (.tuple #[.agg ⟨cs'⟩,r]) w')->
  vcall yU0 #[.agg ⟨cs⟩,dv,tv] w K:=by
 refine M.Tm.ind λt ih hs w K D cs st tv Fd Ft hk hD ay ht hK=>?_;obtain⟨kw,rfl,bz⟩:=ht;refine ze {loops:=[(3,[8,9])]} Tryz.func76 ?_;have ci:=ks_few hs;refine Fm.start2 hk hD λb4 b5 b8 w1 h1 aw c8=>?_;refine yj Q9 jg λb6 w2 cq az cx bp=>?_;have c9:OwnV zI w2 (.slice (some ⟨b6,0,none⟩) 0 0) []:=Blk.own1 (t:=zI) (cs:=[]) (by rw[UY];exact bp) (gF _) rfl rfl oM;have h2:Fm n D (O1 (.slice (some ⟨b6,0,none⟩) 0 0)) w b4 b8 w2 st:=h1.own (S:=λ_=>False) az (λb l=>l) λb l=>by
  have e:b6=b:=K3 l;exact⟨oM,.inr oM⟩
 have ct:=aw.lt;have bs:TmsR (Low w) w kw t.ks:=bz.weaken λb _ hl=>hl;refine vloop_up t.ks.length (λi u w'=> ∃kv E vs rs,u=[kv,nI i]/\Fm n D (O1 kv) w b4 b8 w' E/\Blk w' b5 [nI t.op,nI t.a,nI t.b,.string t.s,kw] za/\(∀b,kv.ownBlock=some b->b≠b5)/\OwnV zI w' kv vs/\vs.length=i/\rs.length=i/\
  (∀j,j<i->Ints (Kp b4 b8 (O1 kv)) w' (vs.getD j undef) (rs.getD j []))/\(∀r,r∈rs->SnL E r)/\M.Bd.Out n (M.seqB ((t.ks.take i).map (M.termB ds))) st E rs)
  ⟨_,st,[],[],rfl,h2,aw.ext az,λb l=>by have e:b6=b:=K3 l;omega,c9,rfl,rfl,λj hj=>absurd hj oM,(λr hr=>by cases hr),M.Bd.Out.ret _ _⟩ ?_
 rintro i _ g w3 C hi ⟨kv,E,vs,rs,rfl,T,m,bb,ao,av,be,hint,au,ae⟩ hC;have al:TmsR (Low w) w3 kw t.ks:=bs.ext T.ext;simp(disch:=exact oS) only[push_cast,m.ld4,al.len];refine zb (λa=>?_) (λa=>?_)
 .have N:i<t.ks.length:=oM;refine spec_nil λvz f bj e4 cj=>?_;refine zd λR p _=>?_;have y:=e4.trans p;have h5:=T.grow y;have V:=m.ext y;have ax:=al.ext y;obtain⟨c5,z,b3⟩:=h5.call;simp(disch:=exact oS) only[push_cast,V.ld4,ax.iaddr,b3 R (Same.refl _ _),y1];refine ax.load zc N λx hx=>?_;simp only[push_cast,y1];have I:t.ks.getD i default∈t.ks:=M.getD_mem N _;refine ih _ I ((M.sort_parts hs).2.1 _ I) z h5.dl (ay.ext h5.ext) hx λw6 cn bl r zs a9 A F bi ab=>?_;simp only[push_cast,y1];refine h5.put a9 A λw7 h7 ad bk=>?_
  try simp only[push_cast,y1,V1]
  have l5:=h5.lt4;have ar:Ints (Kp b4 b8 (O1 kv)) w7 r zs:=Ints.same (Ints.weaken (F':=Kp b4 b8 (O1 kv)) F λb l _=>by
   have cp:R.heap.size<=b:=l;exact⟨oM,oM,λhO=>by have:=(h5.off b hO).1;omega⟩) ad λb l _ e=>l.1 e
  have ap:OwnV zI w7 kv vs:=((ao.ext y).ext a9).same ad λb l=>(T.off b l).2.2.1;have bq:=(V.ext a9).same ad (λe=>c8.2.1 e);have am:∀j,j<i->Ints (Kp b4 b8 (O1 kv)) w7 (vs.getD j undef) (rs.getD j []):=λj hj=>Ints.kp4 (Ints.ext (Ints.ext (hint j hj) y) a9) ad;refine zC Q9 jg Wp rfl (Sl.cells1 ar) λb9 w9 cr aa cy br=>?_;refine(ap.ext aa).app1 Y0 br (Sl.one ar) oM oM λv10 w10 ai a0 Y=>?_
  try simp(disch:=omega) only[push_cast,zk]
  have bo:Fm n D (O1 v10) w b4 b8 w10 bl:=(h7.grow aa).own a0 (λb l=>l) λb l=>⟨ai.lt l,Y b l⟩;have b2:∀{xv:Value} {xs:oI},Ints (Kp b4 b8 (O1 kv)) w7 xv xs->Ints (Kp b4 b8 (O1 v10)) w10 xv xs:=λh=>Ints.kpO (Ints.ext h aa) a0 (λb l=>l) λb l=>Y b l;have ag:=bq.ext aa;have cu:=ag.lt;refine hC N _ _ ⟨v10,bl,vs++[r],rs++[zs],by simp,bo,ag.same a0 (λe=>bb _ e rfl),λb l=>(Y b l).elim (bb b) λh=>oM,ai,by simp[av],by simp[be],λj hj=>?_,λq hq=>?_,?_⟩
  .by_cases c:j<i
   .rw[Js oM,Js oM];exact b2 (am j c)
   .have:j=i:=oM;subst this;rw[Jt av,Jt be];exact b2 ar
  .rcases gk.1 hq with h|h
   .exact(au q h).out ab
   .rw[gw.1 h];exact bi
  .rw[M.take_add N default,gz];exact xu0 ae ab
 have N:i=t.ks.length:=oM
 subst N;rw[gy] at ae;obtain⟨bf,cc⟩:=M.seq_reach ae.reach;have hlen:∀j,j<t.ks.length->(rs.getD j []).length=M.lenS (M.sortM ds (M.kid t j)):=λj hj=>by
  have I:t.ks.getD j default∈t.ks:=M.getD_mem hj _;have:=M.term_len ac _ ((M.sort_parts hs).2.1 _ I) (cc j hj);rw[this];rfl
 have W:KidsS w3 kv rs:=⟨vs,_,ao.vals,oM,λj hj=>Ints.weaken (hint j oM) λ_ _ _=>trivial⟩;have fin:∀{af:Option M.Gs} {zs:oI},M.Bd.Out n (M.nodeB ds t rs) E af zs->M.Bd.Out n (M.termB ds t) st af zs:=λh=>by
  rw[M.termB_eq];exact M.Bd.Out.bind ae h
 have a6:∀w',Ext w3 w'->TermR (Low w) w' (.agg ⟨[nI t.op,nI t.a,nI t.b,.string t.s,kw]⟩) t:=λw' he=>⟨kw,rfl,al.ext he⟩;obtain⟨c3,O,k⟩:=T.call;have X:∀(w':World) (K:oK),vbi .len [zI] zV [kv] w' K=K (nI t.ks.length) w':=λw' K=>by rw[ao.vals.len YB0,av]
 rw[X];refine oZ ?_;obtain⟨co,hp,cw⟩:=M.right_op hs;obtain⟨q1,q2,q3,q4,q5,q6,q7⟩:=M.node_right ac hs (L:=λi=>(rs.getD i []).length) hlen;have get:∀i,i<rs.length->SnL E (rs.getD i []):=λi hi=>au _ (M.getD_mem hi []);refine zb (λc0=>?_) (λc0=>?_)
 .have h0:t.ks.length=0:=oM;refine zd λf d _=>?_;have o:=m.ext d;simp(disch:=exact oS) only[push_cast,k f d,o.ldAgg (t:=za) zc,y1];refine sleaf8_spec (n:=n) (st:=E) ac hs h0 (ay.ext (T.ext.trans d)) (a6 f d) λR r zs p B J G aq=>?_;simp only[k R (d.trans p),y1,V1];have z4:=d.size;refine T.res (d.trans p) (O.ext (d.trans p) λ_ h _=>h) (j5 B λb l=>by have:=J b l;omega) λw6 e6 A F=>hK w6 c3 E r zs e6 A F G (fin ?_);have:rs=[]:=Pa.1 oM;rw[this];exact aq
 have bc: ¬(t.op=20\/t.op=21\/t.op=24):=λh=>by
  have:M.arity t.op=0:=by rcases h with h|h|h<;>rw[h]<;>decide
  omega
 obtain⟨H,U,Q⟩:=W.vals;simp(disch:=exact oS) only[push_cast,m.ld0];refine zb (λc=>?_) (λcm=>?_)
 .obtain⟨k1,b0,ba,aL,L4⟩:=q5 c;have cl:t.a<((rs.getD 0 []).length:Int):=aL;have ck:(rs.getD 0 []).length<=4:=L4;refine zd λf d _=>?_;have o:=m.ext d;have A0:∀w',Ext w3 w'->∀K:oK,y6 zI kv (nI 0) w' K=K (oE (eaddr kv 1 0)) w':=λw' he K=>(U w' he 0 oM K).1;have B0:∀w',Ext w3 w'->∀K:oK,zu zh (oE (eaddr kv 1 0)) w' K=K (H.getD 0 undef) w':=λw' he K=>(U w' he 0 oM K).2;obtain⟨cv,bu,bt⟩:=cutEq (kl:= .i64) (kh:= .i64) (lo:=t.b.toNat) (hi:=(t.a+1).toNat) (Q 0 oM) oM oM;have ah:∀(w':World) (K:oK),xf zh (H.getD 0 undef) (some (nI t.b)) (some (nI (t.a+1))) none w' K=K cv w':=λw' K=>by
   have:=bu w' K;rwa[show((t.b.toNat:Nat):Int)=t.b by omega,show(((t.a+1).toNat:Nat):Int)=t.a+1 by omega] at this
  simp(disch:=exact oS) only[push_cast,k f d,A0 f d,B0 f d,o.ld1,o.ld2,zk,ah,y1];refine spec_nil λv5 R B e5 J=>?_;have y:=d.trans e5;have V:=o.ext e5;simp(disch:=exact oS) only[push_cast,k R y,A0 R y,B0 R y,V.ld1,V.ld2,zk,ah,y1,V1];refine B.app xH (Ints.ext bt y) (by simp;omega) (by simp;omega) λv6 w6 ab bg c4=>?_;have z4:=d.size;have z5:=e5.size;have ak:Ext f w6:=Ext.then e5 bg λb l=>J b l;simp(disch:=exact oS) only[push_cast,k w6 (d.trans ak),y1,V1];refine T.res (d.trans ak) (O.ext (d.trans ak) λ_ h _=>h) (j5 ab λb l=>(c4 b l).elim (λh=>by have:=J b h;omega) λh=>oM) λw7 e7 bw bk=>hK w7 c3 E v6 _ e7 bw bk (λx hx=>?_) (fin ?_)
  .rw[Gg] at hx;exact get 0 oM x (G0 (Gc hx))
  .rw[Gg];unfold M.nodeB;rw[y0 oM,y0 oM,y0 oM,y0 oM,y0 oM,y0 oM,y0 oM,y3 c,show(t.a-t.b+1).toNat=(t.a+1).toNat-t.b.toNat by omega];exact M.Bd.Out.ret _ _
 try simp(disch:=exact oS) only[push_cast,m.ld0]
 refine zb (λc=>?_) (λcg=>?_)
 .simp(disch:=exact oS) only[push_cast,k w3 (Same.refl _ _),m.ldAgg (t:=za) zc];refine slogic8_spec ac hs oM (λh=>bc (.inr (.inr h))) hn O T.dl (a6 w3 (Same.refl _ _)) W bf hlen au λf bn af r zs d bv bj bh ca=>?_;refine oZ ?_;exact T.res d bv bj λR e5 z G=>hK R bn af r zs e5 z G bh (fin ca)
 have an:M.nodeB ds t rs=if t.op<=2 then M.unB t.op (rs.getD 0 []) else if 15<=t.op/\t.op<=17 then(M.cmpB t.op (rs.getD 0 []) (rs.getD 1 [])).map λv=>[v] else M.binB t.op (rs.getD 0 []) (rs.getD 1 []):=by
  unfold M.nodeB;rw[y0 oM,y0 oM,y0 oM,y0 oM,y0 oM,y0 oM,y0 oM,y0 oM]
 rw[an] at fin;rw[X];refine oZ ?_;refine zb (λc1=>?_) (λc1=>?_)
 .have Z:t.op<=2:=GJ λh=>by
   by_cases aj:15<=t.op
   .have:=(q4 aj oM).1;omega
   .by_cases bm:t.op=14
    .have:=(q3 bm).1;omega
    .have:=(q2 oM oM).1;omega
  rw[y3 Z] at fin;obtain⟨k1,l1,l4⟩:=q1 oM Z;have ch:(rs.getD 0 []).length<=4:=l4;refine zd λf d _=>?_;have o:=m.ext d;have A0:∀K:oK,y6 zI kv (nI 0) f K=K (oE (eaddr kv 1 0)) f:=λK=>(U f d 0 oM K).1;have B0:∀K:oK,zu zh (oE (eaddr kv 1 0)) f K=K (H.getD 0 undef) f:=λK=>(U f d 0 oM K).2;simp(disch:=exact oS) only[push_cast,k f d,A0,B0,o.ld0,y1];have h4:=T.grow d;refine sun7_spec oM hn (O.ext d λ_ h _=>h) h4.dl (Ints.ext (Q 0 oM) d) oM (get 0 oM) λR a8 a7 r zs p z G a5 B=>?_;simp only[push_cast,y1];exact h4.res p z G λw6 e6 A F=>hK w6 a8 a7 r zs e6 A F a5 (fin B)
 have bd:3<=t.op:=GJ λh=>by have:=(q1 oM oM).1;omega
 rw[y0 oM] at fin
 try simp(disch:=exact oS) only[push_cast,m.ld0]
 refine zb (λaj=>?_) (λaj=>?_)
 .rw[y3 oM] at fin;obtain⟨k1,l0,l1,l4⟩:=q4 oM oM;have ce:(rs.getD 0 []).length=(rs.getD 1 []).length:=l0;have cf:1<=(rs.getD 0 []).length:=l1;have ch:(rs.getD 0 []).length<=4:=l4;refine zd λf d _=>?_;have o:=m.ext d;have A0:∀K:oK,y6 zI kv (nI 0) f K=K (oE (eaddr kv 1 0)) f:=λK=>(U f d 0 oM K).1;have B0:∀K:oK,zu zh (oE (eaddr kv 1 0)) f K=K (H.getD 0 undef) f:=λK=>(U f d 0 oM K).2;have A1:∀K:oK,y6 zI kv (nI 1) f K=K (oE (eaddr kv 1 1)) f:=λK=>(U f d 1 oM K).1;have B1:∀K:oK,zu zh (oE (eaddr kv 1 1)) f K=K (H.getD 1 undef) f:=λK=>(U f d 1 oM K).2;simp(disch:=exact oS) only[push_cast,k f d,A0,B0,A1,B1,o.ld0,y1];have h4:=T.grow d;refine scmp7_spec oM oM hn (O.ext d λ_ h _=>h) h4.dl (Ints.ext (Q 0 oM) d) (Ints.ext (Q 1 oM) d) ce cf oM (get 0 oM) (get 1 oM) λR a8 a7 r p z cb B=>?_;simp only[push_cast,y1];refine h4.put p z λw6 h6 bg F=>?_
  try simp only[push_cast,y1,V1]
  obtain⟨c6,A,b7⟩:=h6.call;simp only[b7 w6 (Same.refl _ _)];refine spec_one λw7 rv b1 ap c7=>?_;exact h6.res b1 (A.ext b1 λ_ h _=>h) (j5 ap c7) λw8 e8 bx cd=>hK w8 c6 a7 rv [r] e8 bx cd (SnL.one cb) (fin (M.Bd.Out.map _ B))
 rw[y0 oM] at fin;have c2:t.ks.length=2/\(t.op≠14->(rs.getD 0 []).length=(rs.getD 1 []).length)/\1<=(rs.getD 0 []).length/\(rs.getD 0 []).length<=8/\(rs.getD 1 []).length<=8:=by
  by_cases c:t.op=14
  .obtain⟨a1,a2,a3,a4⟩:=q3 c;exact⟨a1,λh=>absurd c h,a2,oM,oM⟩
  .obtain⟨a1,a2,a3,a4⟩:=q2 oM oM;exact⟨a1,λ_=>a2,a3,oM,oM⟩
 obtain⟨k1,l0,l1,l2,l3⟩:=c2;refine zd λf d _=>?_;have o:=m.ext d;have A0:∀K:oK,y6 zI kv (nI 0) f K=K (oE (eaddr kv 1 0)) f:=λK=>(U f d 0 oM K).1;have B0:∀K:oK,zu zh (oE (eaddr kv 1 0)) f K=K (H.getD 0 undef) f:=λK=>(U f d 0 oM K).2;have A1:∀K:oK,y6 zI kv (nI 1) f K=K (oE (eaddr kv 1 1)) f:=λK=>(U f d 1 oM K).1;have B1:∀K:oK,zu zh (oE (eaddr kv 1 1)) f K=K (H.getD 1 undef) f:=λK=>(U f d 1 oM K).2;simp(disch:=exact oS) only[push_cast,k f d,A0,B0,A1,B1,o.ld0,y1];have h4:=T.grow d;refine sbin7_spec bd oM hn (O.ext d λ_ h _=>h) h4.dl (Ints.ext (Q 0 oM) d) (Ints.ext (Q 1 oM) d) l0 l1 l2 l3 (get 0 oM) (get 1 oM) λR a8 a7 r zs p z G a5 B=>?_;simp only[push_cast,y1];exact h4.res p z G λw6 e6 A F=>hK w6 a8 a7 r zs e6 A F a5 (fin B)
end
section
variable {n:Nat} {st st':Option M.Gs} {a b c:Int} {ds:List M.Dcl} {t:M.Tm}
theorem bits_nat (a:M.declOk ds=true):M.bits ds=(((M.bits ds).toNat:Nat):Int)/\(M.bits ds).toNat<=8:=by
 have c:=(M.decl_iff.1 a).2.2;have b:=(dcl_small a (i:=ds.length) (gp _)).1;rw[M.bitT_all] at b;exact⟨oM,oM⟩
theorem out_lens {zs:oI} (b:M.declOk ds=true) (hs:M.sortM ds t≠ -1) (c:M.Bd.Out n (M.termB ds t) st st' zs):zs.length=M.lenS (M.sortM ds t)/\zs.length<=4:=by
 have a:=M.term_len b t hs c.reach;have d:=M.sort_range b t;refine⟨a,?_⟩;rw[a];unfold M.lenS;omega
end
end Go.Proofs.YtfnpmncplaibiaaGreatDoor
namespace Go.M
open Go.Vc
section
mutual
def sameT:Tm->Tm->Bool
 | .mk o a b s ks,.mk o' a' b' s' ks'=>decide (o=o')&&decide (a=a')&&decide (b=b')&&decide (s=s')&&sameL ks ks'
def sameL:List Tm->List Tm->Bool
 |[],[]=>true
 |x::xs,y::ys=>sameT x y&&sameL xs ys
 |[],_::_=>false
 |_::_,[]=>false
end
theorem sameL_of {xs:List Tm} (a:∀k,k∈xs->∀y,sameT k y=true↔k=y):∀ys,sameL xs ys=true↔xs=ys:=by
 induction xs with
 |nil=>intro ys;cases ys<;>simp[sameL]
 |cons x xs ihx=>
  intro ys;cases ys with
  |nil=>simp[sameL]
  |cons y ys=>
   grind [sameL]
theorem sameT_iff:∀t u:Tm,sameT t u=true↔t=u:=by
 refine Tm.ind λt c u=>?_;cases t with
 |mk o a b s ks=>
  cases u with
  |mk o' e f g d=>
   rw[sameT,gd,sameL_of (xs:=ks) c]
   grind
instance:DecidableEq Tm:=λt u=>decidable_of_iff _ (sameT_iff t u)
theorem tm_ext {t u:Tm} (c:t.op=u.op) (d:t.a=u.a) (e:t.b=u.b) (f:t.s=u.s) (g:t.ks=u.ks):t=u:=by
 cases t;cases u
 grind [Tm.op,Tm.a,Tm.b,Tm.s,Tm.ks]
def truT:Tm:= .mk 24 0 0 nada []
def flsT:Tm:= .mk 25 0 0 nada [truT]
def fixedM (t:Tm):Option Int:=if t=truT then some 1 else if t=flsT then some 0 else if t.op=20/\t.ks=[]/\t.s=nada/\vok t.a t.b=true then some t.b else none
def isM (t:Tm) (n:Int):Bool:=decide (fixedM t=some n)
def constM (w n:Int):Tm:=if 0<w then .mk 20 w n nada [] else if n=1 then truT else flsT
def zeroE (ds:List Dcl):oI:=List.replicate ds.length 0
theorem zeroE_ok {ds:List Dcl} (h:declOk ds=true):envOk ds (zeroE ds)=true:=by
 unfold envOk zeroE;rw[h,gD];simp only[decide_true,pJ,Gb,gJ];intro i hi;have hw:=dcl_wide h hi;simp_all[vok_iff,Int.pow_pos]
section
variable {ds:List Dcl} {env:oI} {t u:Tm} {w n:Int}
theorem Wt:sortM ds truT=0:=by rw[sort_leaf (formed_iff.2 ⟨rfl,rfl⟩) rfl];rfl
theorem xm0:evalM ds env truT=1:=by rw[eval_leaf (.inr (.inr rfl))];rfl
theorem UB (a:declOk ds=true):sortM ds flsT=0:=by
 rw[sort_one a (formed_iff.2 ⟨rfl,rfl⟩) rfl];show oneM _ (sortM ds truT)=0;rw[Wt];rfl
theorem Zy0 (he:envOk ds env=true):evalM ds env flsT=0:=by
 rw[(eval_no he (by rw[UB (env_ok he).1];decide) rfl).2.2];show(1:Int)-evalM ds env truT=0;rw[xm0];rfl
theorem vec_sort {t:Tm} (c:t.op=20) (d:t.ks=[]) (e:t.s=nada) (g:vok t.a t.b=true):sortM ds t=t.a:=by
 have f:plainM t=true:=by simp[plainM,c,e]
 rw[sort_leaf (formed_iff.2 ⟨by rw[c,d];rfl,f⟩) (by grind)];simp_all[sortK]
theorem fixed_cases (h:fixedM t=some n):(t=truT/\n=1)\/(t=flsT/\n=0)\/(t.op=20/\t.ks=[]/\t.s=nada/\vok t.a t.b=true/\n=t.b):=by
 grind [fixedM]
theorem fixed_good (he:envOk ds env=true) (h:fixedM t=some n):sortM ds t≠ -1/\evalM ds env t=n/\inS (sortM ds t) n:=by
 rcases fixed_cases h with⟨rfl,rfl⟩|⟨rfl,rfl⟩|⟨a,c,d,b,rfl⟩
 .rw[Wt,xm0];exact⟨dC,rfl,.inl ⟨rfl,.inr rfl⟩⟩
 .rw[UB (env_ok he).1,Zy0 he];exact⟨dC,rfl,.inl ⟨rfl,.inl rfl⟩⟩
 .rw[vec_sort a c d b,eval_leaf (.inl a),y3 a];have:=vok_lt b;exact⟨oM,rfl,.inr b⟩
theorem isM_iff:isM t n=true↔fixedM t=some n:=by unfold isM;grind
theorem const_fixed (h:inS w n):fixedM (constM w n)=some n:=by
 unfold constM;rcases h with⟨c,b⟩|h
 .rw[y0 oM];rcases b with e|e
  .rw[e,y0 dC];rfl
  .rw[e,y3 rfl];rfl
 .have hw:=vok_lt h;rw[y3 oM];have a: ¬Tm.mk 20 w n nada []=truT:=λe=>by
   have e:(20:Int)=24:=congrArg Tm.op e;omega
  have a2: ¬Tm.mk 20 w n nada []=flsT:=λe=>by
   have e:(20:Int)=25:=congrArg Tm.op e;omega
  unfold fixedM;rw[y0 a,y0 a2];exact y3 ⟨rfl,rfl,rfl,h⟩
theorem const_sort (c:declOk ds=true) (h:inS w n):sortM ds (constM w n)=w:=by
 unfold constM;rcases h with⟨a,b⟩|h
 .rw[y0 oM]
  grind [Wt,UB]
 .have hw:=vok_lt h;rw[y3 oM];exact vec_sort rfl rfl rfl h
theorem Z1 (he:envOk ds env=true) (h:inS w n):evalM ds env (constM w n)=n:=(fixed_good he (const_fixed h)).2.1
def allFixed (t:Tm):Bool:=decide (t.ks≠[])&&t.ks.all λk=>(fixedM k).isSome
def ruleX (ds:List Dcl) (t:Tm):Option Tm:=if allFixed t=true then some (constM (sortM ds t) (evalM ds (zeroE ds) t)) else none
def ruleB (t:Tm):Option Tm:=
 if t.op=25/\(kid t 0).op=25 then some (kid (kid t 0) 0)
 else if t.op≠23 then none
 else if isM (kid t 0) 1=true then some (kid t 1)
 else if isM (kid t 0) 0=true then some (kid t 2)
 else if kid t 1=kid t 2 then some (kid t 1) else none
def neutral (o:Int):Int:=if o=26 then 1 else 0
def ruleT (t:Tm):Option Tm:=
 if t.op=26\/t.op=27 then
  if isM (kid t 0) (neutral t.op)=true\/kid t 0=kid t 1 then some (kid t 1)
  else if isM (kid t 1) (neutral t.op)=true then some (kid t 0)
  else if isM (kid t 0) (1-neutral t.op)=true\/isM (kid t 1) (1-neutral t.op)=true then some (constM 0 (1-neutral t.op)) else none
 else none
def ruleL (ds:List Dcl) (t:Tm):Option Tm:=
 if t.op=22 then(if t.b=0/\t.a=sortM ds (kid t 0)-1 then some (kid t 0) else none)
 else if(t.op=1\/t.op=2)/\(kid t 0).op=t.op then some (kid (kid t 0) 0) else none
def ruleW (ds:List Dcl) (t:Tm):Option Tm:=
 if t.ks.length=2/\kid t 0=kid t 1 then
  if t.op=3\/t.op=4 then some (kid t 0)
  else if t.op=5\/t.op=7 then some (constM (sortM ds t) 0)
  else if t.op=15 then some (constM 0 1)
  else if t.op=16\/t.op=17 then some (constM 0 0) else none
 else none
def ruleS (t:Tm):Option Tm:=
 if t.ks.length=2 then
  if isM (kid t 1) 0=true/\(t.op=4\/t.op=5\/t.op=6\/t.op=7\/t.op=11\/t.op=12\/t.op=13) then some (kid t 0)
  else if isM (kid t 1) 0=true/\(t.op=3\/t.op=8) then some (kid t 1)
  else if isM (kid t 1) 1=true/\t.op=8 then some (kid t 0) else none
 else none
def ruleF (t:Tm):Option Tm:=
 if t.ks.length=2 then
  if isM (kid t 0) 0=true/\(t.op=4\/t.op=5\/t.op=6) then some (kid t 1)
  else if isM (kid t 0) 0=true/\(t.op=3\/t.op=8) then some (kid t 0)
  else if isM (kid t 0) 1=true/\t.op=8 then some (kid t 1) else none
 else none
def ruleA (ds:List Dcl) (t:Tm):Option Tm:=ruleX ds t <|> ruleB t <|> ruleT t <|> ruleL ds t <|> ruleW ds t <|> ruleS t <|> ruleF t
def oneT (ds:List Dcl) (t:Tm):Tm:=(ruleA ds t).getD t
def foldT (ds:List Dcl):Tm->Tm:=Tm.fold λt us=>oneT ds (.mk t.op t.a t.b t.s us)
theorem Zw0 (ds:List Dcl) (t:Tm):foldT ds t=oneT ds (.mk t.op t.a t.b t.s (t.ks.map (foldT ds))):=Tm.fold_eq _ t
inductive Src (t:Tm):Tm->Prop
 |kid (i:Nat) (h:i<t.ks.length):Src t (kid t i)
 |deep (i j:Nat) (h:i<t.ks.length) (h':j<(M.kid t i).ks.length):Src t (M.kid (M.kid t i) j)
 |const (w n:Int) (h:t.ks≠[]) (h':inS w n):Src t (constM w n)
structure Step (ds:List Dcl) (t u:Tm):Prop where
 src:Src t u
 sort:sortM ds u=sortM ds t
 eval:∀env,envOk ds env=true->evalM ds env u=evalM ds env t
theorem Qa {α:Type} {a b:Option α} {x:α} (h:(a <|> b)=some x):a=some x\/(a=none/\b=some x):=by
 simp_all
theorem ks_ne {i:Nat} (h:i<t.ks.length):t.ks≠[]:=by grind
theorem len_of (hs:sortM ds t≠ -1):arity t.op=t.ks.length:=(formed_iff.1 (sort_parts hs).1).1
theorem allFixed_eval (he:envOk ds env=true) (hs:sortM ds t≠ -1) (h:allFixed t=true):evalM ds (zeroE ds) t=evalM ds env t:=by
 have d:=zeroE_ok (env_ok he).1;unfold allFixed at h;simp only[gd,X0,Gb] at h;have a:t.ks.map (vecM ds (zeroE ds))=t.ks.map (vecM ds env):=GC λk a=>by
  obtain⟨n,c⟩:=GV.1 (h.2 k a);simp_all[vecM_pair,fixed_good]
 have b:t.op≠21:=by grind [len_of,arity,List.eq_nil_of_length_eq_zero]
 rw[evalM_eq,evalM_eq,a];unfold valK;omega
theorem ruleX_step (a:declOk ds=true) (hs:sortM ds t≠ -1) (h:ruleX ds t=some u):Step ds t u:=by
 unfold ruleX at h;split at h
 .rename_i b;obtain rfl:=(K3 h).symm;have hi:=eval_in (zeroE_ok a) t hs;refine⟨.const _ _ (by grind [allFixed]) hi,const_sort a hi,λenv he=>?_⟩
  grind [Z1,allFixed_eval]
 .cases h
theorem ruleB_step (f:declOk ds=true) (hs:sortM ds t≠ -1) (h:ruleB t=some u):Step ds t u:=by
 have g:=(sort_parts hs).1;have k:=len_of hs;unfold ruleB at h;split at h
 .rename_i l;obtain rfl:=(K3 h).symm;have b:t.ks.length=1:=(by grind [arity]);have k0:=good_kid hs (i:=0) oM;have c:(kid t 0).ks.length=1:=(by grind [len_of]);have m:=good_kid k0 (i:=0) oM;refine⟨.deep 0 0 oM oM,?_,λenv he=>?_⟩
  .have j:=sort_one f g b;have s1:=sort_one f (sort_parts k0).1 c
   grind [oneM]
  grind [eval_no]
 .split at h
  .cases h
  .rename_i a;have a:t.op=23:=oM;have d:t.ks.length=3:=(by grind [arity]);have j:=sort_three (ds:=ds) g d;have e:=hs;rw[j] at e;have gs:sortM ds (kid t 1)=sortM ds (kid t 2):=by
    omega
   have st:sortM ds t=sortM ds (kid t 1):=by
    omega
   split at h
   .rename_i hi;obtain rfl:=(K3 h).symm;refine⟨.kid 1 oM,st.symm,λenv he=>?_⟩;simp_all[eval_if,fixed_good,isM_iff]
   .split at h
    .rename_i hi;obtain rfl:=(K3 h).symm;refine⟨.kid 2 oM,by rw[st,gs],λenv he=>?_⟩;simp_all[eval_if,fixed_good,isM_iff]
    .split at h
     .rename_i hi;obtain rfl:=(K3 h).symm;refine⟨.kid 1 oM,st.symm,λenv he=>?_⟩;simp_all[eval_if]
     .cases h
theorem ruleT_step (f:declOk ds=true) (hs:sortM ds t≠ -1) (h:ruleT t=some u):Step ds t u:=by
 have g:=(sort_parts hs).1;have m:=len_of hs;unfold ruleT at h;split at h
 .rename_i k;have c:t.ks.length=2:=(by grind [arity]);have l:=sort_two f g c;have b:=hs;rw[l] at b;obtain⟨g0,g1⟩:=(both_good b).1 k;have st:sortM ds t=0:=(by simp_all[bothM]);have j:neutral t.op=1/\t.op=26\/neutral t.op=0/\t.op=27:=by
   grind [neutral]
  have ev:∀env,envOk ds env=true->inS 0 (evalM ds env (kid t 0))/\inS 0 (evalM ds env (kid t 1))/\evalM ds env t=if t.op=26 then evalM ds env (kid t 0)*evalM ds env (kid t 1) else max (evalM ds env (kid t 0)) (evalM ds env (kid t 1)):=by grind [eval_two]
  split at h
  .rename_i hi;obtain rfl:=(K3 h).symm;refine⟨.kid 1 oM,by rw[st,g1],λenv he=>?_⟩;obtain⟨i0,i1,e⟩:=ev env he;rw[e];rcases hi with hi|hi
   .have:=(fixed_good he (isM_iff.1 hi)).2.1
    grind [inS_zero]
   grind [inS_zero]
  .split at h
   .rename_i hi;obtain rfl:=(K3 h).symm;refine⟨.kid 0 oM,by rw[st,g0],λenv he=>?_⟩;obtain⟨i0,i1,e⟩:=ev env he;rw[e,(fixed_good he (isM_iff.1 hi)).2.1]
    grind [inS_zero]
   .split at h
    .rename_i hi;obtain rfl:=(K3 h).symm;have a:inS 0 (1-neutral t.op):=by
      rcases j with⟨d,_⟩|⟨d,_⟩<;>rw[d]
      .exact .inl ⟨rfl,.inl rfl⟩
      .exact .inl ⟨rfl,.inr rfl⟩
     refine⟨.const _ _ (ks_ne (i:=0) oM) a,by rw[st,const_sort f a],λenv he=>?_⟩;obtain⟨i0,i1,e⟩:=ev env he;rw[e,Z1 he a];rcases hi with hi|hi<;>rw[(fixed_good he (isM_iff.1 hi)).2.1]
     .grind [inS_zero]
     grind [inS_zero]
    .cases h
 .cases h
theorem cut_all {w a:Int} (h:vok w a=true):cutM a (w-1) 0=a:=by
 obtain⟨b,c,d,e⟩:=vok_iff.1 h;unfold cutM
 grind [four]
theorem un_un {o w a:Int} (h:vok w a=true):unM o w (unM o w a)=a:=by
 obtain⟨b,c,d,e⟩:=vok_iff.1 h;unfold unM
 grind [four]
theorem ruleL_step (f:declOk ds=true) (hs:sortM ds t≠ -1) (h:ruleL ds t=some u):Step ds t u:=by
 have m:=(sort_parts hs).1;have r:=len_of hs;unfold ruleL at h;split at h
 .rename_i b;split at h
  .rename_i q;obtain rfl:=(K3 h).symm;have a:t.ks.length=1:=(by grind [arity]);have k:=sort_one f m a;have c:=hs;rw[k] at c;have g:=one_good oM c;have g2:=oM;have g3:=g.2.2 b;refine⟨.kid 0 oM,?_,λenv he=>?_⟩
   .grind [oneM]
   .obtain⟨_,j,e⟩:=eval_cut he hs b;rw[e];unfold vecCut;simp_all[cut_all]
  .cases h
 .split at h
  .rename_i b;obtain rfl:=(K3 h).symm;have a:t.ks.length=1:=(by grind [arity]);have k0:=good_kid hs (i:=0) oM;have d:(kid t 0).op=1\/(kid t 0).op=2:=oM;have n:(kid t 0).ks.length=1:=(by grind [len_of]);have s:=good_kid k0 (i:=0) oM;have p:∀{t:Tm},sortM ds t≠ -1->(t.op=1\/t.op=2)->t.ks.length=1->sortM ds t=sortM ds (kid t 0):=λ{t} hs b a=>by
    have k:=sort_one f (sort_parts hs).1 a
    grind [oneM]
   refine⟨.deep 0 0 oM oM,?_,λenv he=>?_⟩
   .grind
   .obtain⟨_,j,e⟩:=eval_un he hs b.1;obtain⟨_,o,l⟩:=eval_un he k0 d;rw[e];unfold vecUn;rw[y3 ⟨j,b.1⟩];show _=unM t.op (sortM ds (kid t 0)) (evalM ds env (kid t 0));rw[l];unfold vecUn
    grind [un_un]
  .cases h
def binT (w n:Nat):Prop:=
 (binN 3 w n n=n/\binN 4 w n n=n/\binN 5 w n n=0/\binN 7 w n n=0)/\
 (binN 4 w n 0=n/\binN 5 w n 0=n/\binN 6 w n 0=n/\binN 7 w n 0=n/\binN 11 w n 0=n/\binN 12 w n 0=n/\binN 13 w n 0=n)/\
 (binN 3 w n 0=0/\binN 8 w n 0=0/\binN 8 w n 1=n)/\
 (binN 4 w 0 n=n/\binN 5 w 0 n=n/\binN 6 w 0 n=n/\binN 3 w 0 n=0/\binN 8 w 0 n=0/\binN 8 w 1 n=n)
instance (w n:Nat):Decidable (binT w n):=by unfold binT;infer_instance
theorem bin_tab {w n:Int} (h:vok w n=true):binT w.toNat n.toNat:=small1 (p:=binT) (by decide+kernel) h
theorem bin_parts (i:declOk ds=true) (hs:sortM ds t≠ -1) (h:t.ks.length=2) (d:3<=t.op) (c:t.op<=13):sortM ds (kid t 0)=sortM ds t/\sortM ds (kid t 1)=sortM ds t/\
  ∀env,envOk ds env=true->vok (sortM ds t) (evalM ds env (kid t 0))=true/\vok (sortM ds t) (evalM ds env (kid t 1))=true/\evalM ds env t=binN t.op.toNat (sortM ds t).toNat (evalM ds env (kid t 0)).toNat (evalM ds env (kid t 1)).toNat:=by
 have f:=sort_two i (sort_parts hs).1 h;have b:=hs;rw[f] at b;have g:=(both_good b).2 oM;have a:=g.2.2.2 oM;have st:sortM ds t=sortM ds (kid t 0):=by
  rw[f];unfold bothM;rw[y0 oM,y0 oM,y0 oM,y0 oM,y0 oM]
 refine⟨st.symm,by rw[st,a],λenv he=>?_⟩;obtain⟨_,v0,v1,e⟩:=eval_bin he hs d oM;refine⟨by rw[st];exact v0,by rw[st,a];exact v1,?_⟩;rw[e];unfold vecBin;rw[y3 (show vok _ _=true/\vok _ _=true from⟨v0,v1⟩),y0 (show¬t.op=14 by omega),y3 (show 3<=t.op/\t.op<=13/\_=_ from⟨d,c,a⟩),st];rfl
theorem nat_of {w n:Int} (h:vok w n=true):((n.toNat:Nat):Int)=n:=by have:=vok_lt h;omega
theorem ruleW_step (d:declOk ds=true) (hs:sortM ds t≠ -1) (h:ruleW ds t=some u):Step ds t u:=by
 have p:=(sort_parts hs).1;unfold ruleW at h;split at h
 .rename_i m;obtain⟨l,m⟩:=m;split at h
  .rename_i j;obtain rfl:=(K3 h).symm;obtain⟨k,s1,ev⟩:=bin_parts d hs l oM oM;refine⟨.kid 0 oM,k,λenv he=>?_⟩
   grind [binN,nat_of]
  .split at h
   .rename_i j;obtain rfl:=(K3 h).symm;obtain⟨k,s1,ev⟩:=bin_parts d hs l oM oM;have c:inS (sortM ds t) 0:=by
     have:=(ev _ (zeroE_ok d)).1;obtain⟨a,b,_,_⟩:=vok_iff.1 this;exact .inr (vok_iff.2 ⟨a,b,Pq _,Int.pow_pos dC⟩)
    refine⟨.const _ _ (ks_ne (i:=0) oM) c,const_sort d c,λenv he=>?_⟩;obtain⟨v0,v1,e⟩:=ev env he;have tb:=(bin_tab v0).1
    grind [Z1]
   .have cmp:15<=t.op->t.op<=17->sortM ds t=0/\∀env,envOk ds env=true->evalM ds env t=b2i (decide (t.op=15)):=λn o=>by
     have k:=sort_two d p l;have f:=hs;rw[k] at f;have g:=(both_good f).2 oM;refine⟨?_,λenv he=>?_⟩
     .grind [bothM]
     simp_all[eval_cmp,vecCmp,cmpM]
    split at h
    .rename_i j;obtain rfl:=(K3 h).symm;obtain⟨st,ev⟩:=cmp oM oM;have c:inS 0 1:= .inl ⟨rfl,.inr rfl⟩;exact⟨.const _ _ (ks_ne (i:=0) oM) c,by rw[const_sort d c,st],λenv he=>by rw[Z1 he c,ev env he,gu j];rfl⟩
    .split at h
     .rename_i n15 j;obtain rfl:=(K3 h).symm;obtain⟨st,ev⟩:=cmp oM oM;have c:inS 0 0:= .inl ⟨rfl,.inl rfl⟩;exact⟨.const _ _ (ks_ne (i:=0) oM) c,by rw[const_sort d c,st],λenv he=>by rw[Z1 he c,ev env he,gj n15];rfl⟩
     .cases h
 .cases h
theorem ruleS_step (d:declOk ds=true) (hs:sortM ds t≠ -1) (h:ruleS t=some u):Step ds t u:=by
 unfold ruleS at h;split at h
 .rename_i c;split at h
  .rename_i a;obtain rfl:=(K3 h).symm;obtain⟨b,s1,ev⟩:=bin_parts d hs c oM oM;refine⟨.kid 0 oM,b,λenv he=>?_⟩;obtain⟨v0,v1,e⟩:=ev env he;have tb:=(bin_tab v0).2.1;rw[e,(fixed_good he (isM_iff.1 a.1)).2.1];rcases a.2 with o|o|o|o|o|o|o<;>rw[o]
   .grind [nat_of]
   .grind [nat_of]
   .grind [nat_of]
   .grind [nat_of]
   .grind [nat_of]
   .grind [nat_of]
   grind [nat_of]
  .split at h
   .rename_i a;obtain rfl:=(K3 h).symm;obtain⟨b,s1,ev⟩:=bin_parts d hs c oM oM;refine⟨.kid 1 oM,s1,λenv he=>?_⟩;obtain⟨v0,v1,e⟩:=ev env he;have tb:=(bin_tab v0).2.2.1;rw[e,(fixed_good he (isM_iff.1 a.1)).2.1]
    grind
   .split at h
    .rename_i a;obtain rfl:=(K3 h).symm;obtain⟨b,s1,ev⟩:=bin_parts d hs c oM oM;refine⟨.kid 0 oM,b,λenv he=>?_⟩;obtain⟨v0,v1,e⟩:=ev env he;have tb:=(bin_tab v0).2.2.1;rw[e,(fixed_good he (isM_iff.1 a.1)).2.1,a.2]
     grind [nat_of]
    .cases h
 .cases h
theorem ruleF_step (c:declOk ds=true) (hs:sortM ds t≠ -1) (h:ruleF t=some u):Step ds t u:=by
 unfold ruleF at h;split at h
 .rename_i b;split at h
  .rename_i a;obtain rfl:=(K3 h).symm;obtain⟨d,s1,ev⟩:=bin_parts c hs b oM oM;refine⟨.kid 1 oM,s1,λenv he=>?_⟩;obtain⟨v0,v1,e⟩:=ev env he;have tb:=(bin_tab v1).2.2.2;rw[e,(fixed_good he (isM_iff.1 a.1)).2.1]
   grind [nat_of]
  .split at h
   .rename_i a;obtain rfl:=(K3 h).symm;obtain⟨d,s1,ev⟩:=bin_parts c hs b oM oM;refine⟨.kid 0 oM,d,λenv he=>?_⟩;obtain⟨v0,v1,e⟩:=ev env he;have tb:=(bin_tab v1).2.2.2;rw[e,(fixed_good he (isM_iff.1 a.1)).2.1]
    grind
   .split at h
    .rename_i a;obtain rfl:=(K3 h).symm;obtain⟨d,s1,ev⟩:=bin_parts c hs b oM oM;refine⟨.kid 1 oM,s1,λenv he=>?_⟩;obtain⟨v0,v1,e⟩:=ev env he;have tb:=(bin_tab v1).2.2.2;rw[e,(fixed_good he (isM_iff.1 a.1)).2.1,a.2]
     grind [nat_of]
    .cases h
 .cases h
theorem j70 (a:declOk ds=true) (hs:sortM ds t≠ -1) (h:ruleA ds t=some u):Step ds t u:=by
 unfold ruleA at h;rcases Qa h with h|⟨_,h⟩
 .exact ruleX_step a hs h
 rcases Qa h with h|⟨_,h⟩
 .exact ruleB_step a hs h
 rcases Qa h with h|⟨_,h⟩
 .exact ruleT_step a hs h
 rcases Qa h with h|⟨_,h⟩
 .exact ruleL_step a hs h
 rcases Qa h with h|⟨_,h⟩
 .exact ruleW_step a hs h
 rcases Qa h with h|⟨_,h⟩
 .exact ruleS_step a hs h
 .exact ruleF_step a hs h
theorem one_cases (a:declOk ds=true) (hs:sortM ds t≠ -1):(ruleA ds t=none/\oneT ds t=t)\/Step ds t (oneT ds t):=by
 unfold oneT;cases h:ruleA ds t with
 |none=>grind
 |some u=>exact .inr (j70 a hs h)
end
end
section
section
variable {ds:List Dcl} {env:oI} {t u:Tm} {w n:Int}
theorem kid_size {i:Nat} (h:i<t.ks.length):sizeM (kid t i)+1<=sizeM t/\deepM (kid t i)+1<=deepM t:=by
 have a:=szT_all t;have b:=dpT_all t;have c:=szT_mono (ks:=t.ks) (i:=i+1) (j:=t.ks.length) oM oM;have d:=dpT_mono (ks:=t.ks) (i:=i+1) (j:=t.ks.length) oM oM
 grind [szT_succ,dpT_succ,kid]
theorem size_pos:1<=sizeM t/\1<=deepM t:=by rw[sizeM_eq,Yf];omega
theorem const_size:sizeM (constM w n)<=2/\deepM (constM w n)<=2:=by
 have leaf:∀o a b s,sizeM (.mk o a b s [])=1/\deepM (.mk o a b s [])=1:=λo a b s=>by rw[sizeM_eq,Yf];exact⟨rfl,rfl⟩
 have c:sizeM truT=1/\deepM truT=1:=leaf _ _ _ _;have d:sizeM flsT=2/\deepM flsT=2:=by
  rw[sizeM_eq,Yf];show 1+(sizeM truT+0)=2/\1+max 0 (deepM truT)=2;omega
 grind [constM]
theorem src_size (h:Src t u):sizeM u<=sizeM t/\deepM u<=deepM t:=by
 cases h with
 |kid i h=>have:=kid_size h;omega
 |deep i j h a=>have:=kid_size h;have:=kid_size a;omega
 |const w n h a=>
  have b:0<t.ks.length:=(by grind);have:=kid_size (t:=t) (i:=0) b
  grind [size_pos,const_size]
theorem one_good' (a:declOk ds=true) (hs:sortM ds t≠ -1):sortM ds (oneT ds t)=sortM ds t/\(∀env,envOk ds env=true->evalM ds env (oneT ds t)=evalM ds env t)/\sizeM (oneT ds t)<=sizeM t/\deepM (oneT ds t)<=deepM t:=by
 rcases one_cases a hs with⟨_,e⟩|h
 .grind
 .exact⟨h.sort,h.eval,src_size h.src⟩
def remake (t:Tm) (us:List Tm):Tm:= .mk t.op t.a t.b t.s us
theorem yP0 {us:List Tm} (b:us.length=t.ks.length) (h:us.map (sortM ds)=t.ks.map (sortM ds)):sortM ds (remake t us)=sortM ds t:=by
 rw[sortM_eq ds (remake t us),sortM_eq ds t];show sortF ds (remake t us) (us.map (sortM ds))=_;rw[h];have a:formed (remake t us)=formed t:=by
  show(decide (arity t.op=(us.length:Int))&&plainM t)=_;rw[b];rfl
 unfold sortF;rw[a];rfl
theorem yQ0 {us:List Tm} (a:us.length=t.ks.length) (h:us.map (vecM ds env)=t.ks.map (vecM ds env)):evalM ds env (remake t us)=evalM ds env t:=by
 rw[evalM_eq,evalM_eq];show valK ds env (remake t us) (us.map (vecM ds env))=_;rw[h];rfl
theorem sum_le {f g:Tm->Nat}:∀{ks:List Tm},(∀k,k∈ks->f k<=g k)->(ks.map f).sum<=(ks.map g).sum
 |[],_=>gp _
 |k::r,h=>by
  have b:=h k gi;have c:=sum_le (ks:=r) λx a=>h x (gm _ a)
  grind
theorem max_le {f g:Tm->Nat}:∀{ks:List Tm} {a b:Nat},a<=b->(∀k,k∈ks->f k<=g k)->(ks.map f).foldl max a<=(ks.map g).foldl max b
 |[],a,b,c,_=>c
 |k::r,a,b,c,h=>by
  have e:=h k gi;simp only[GA,List.foldl_cons];exact max_le (ks:=r) oM λx d=>h x (gm _ d)
structure Good (ds:List Dcl) (t u:Tm):Prop where
 sort:sortM ds u=sortM ds t
 eval:∀env,envOk ds env=true->evalM ds env u=evalM ds env t
 size:sizeM u<=sizeM t
 deep:deepM u<=deepM t
theorem remake_good {f:Tm->Tm} (h:∀k,k∈t.ks->Good ds k (f k)):Good ds t (remake t (t.ks.map f)):=by
 have d:(t.ks.map f).length=t.ks.length:=by grind
 refine⟨yP0 d ?_,λenv he=>yQ0 d ?_,?_,?_⟩
 .rw[G7];exact GC λk c=>(h k c).sort
 .rw[G7];exact GC λk c=>by show vecM ds env (f k)=_;rw[vecM_pair,vecM_pair,(h k c).sort,(h k c).eval env he]
 .rw[sizeM_eq,sizeM_eq t];show 1+((t.ks.map f).map sizeM).sum<=_;rw[G7];have:=sum_le (f:=sizeM∘f) (g:=sizeM) (ks:=t.ks) λk c=>(h k c).size;omega
 .rw[Yf,Yf t];show 1+((t.ks.map f).map deepM).foldl max 0<=_;rw[G7];have:=max_le (f:=deepM∘f) (g:=deepM) (ks:=t.ks) (a:=0) (b:=0) (gp _) λk c=>(h k c).deep;omega
theorem foldT_rem (ds:List Dcl) (t:Tm):foldT ds t=oneT ds (remake t (t.ks.map (foldT ds))):=Zw0 ds t
theorem fold_good (c:declOk ds=true):∀t,sortM ds t≠ -1->Good ds t (foldT ds t):=by
 refine Tm.ind λt e hs=>?_;have d:=(sort_parts hs).2.1;have a:Good ds t (remake t (t.ks.map (foldT ds))):=by grind [remake_good]
 have b:=one_good' c (t:=remake t (t.ks.map (foldT ds))) (by rw[a.sort];exact hs);rw[foldT_rem];exact⟨b.1.trans a.sort,λenv he=>(b.2.1 env he).trans (a.eval env he),gH b.2.2.1 a.size,gH b.2.2.2 a.deep⟩
theorem kids_good (a:declOk ds=true) (hs:sortM ds t≠ -1):Good ds t (remake t (t.ks.map (foldT ds))):=remake_good λk b=>fold_good a k ((sort_parts hs).2.1 k b)
theorem leaf_none (h:t.ks=[]) (e:t.op=20\/t.op=21\/t.op=24):ruleA ds t=none:=by
 have a:t.ks.length=0:=by rw[h];rfl
 have x:ruleX ds t=none:=by
  unfold ruleX allFixed;rw[h];rfl
 have b:ruleB t=none:=by unfold ruleB;grind
 have c:ruleT t=none:=by unfold ruleT;grind
 have d:ruleL ds t=none:=by unfold ruleL;grind
 simp_all[ruleW,ruleS,ruleF,ruleA]
theorem Zn0 (h:t.ks=[]) (a:t.op=20\/t.op=21\/t.op=24):oneT ds t=t:=by unfold oneT;rw[leaf_none h a];rfl
end
end
section
section
variable {ds:List Dcl} {t:Tm} {d:Dcl}
theorem app_getD {α:Type} {l r:List α} {i:Nat} {e:α} (h:i<l.length):(l++r).getD i e=l.getD i e:=by
 grind
theorem more_find (he:declOk (ds++[d])=true) {s:ByteArray} (h:0<=findD ds s):findD (ds++[d]) s=findD ds s:=by
 have a:=(findD_lt ds s).2
 grind [findD_get,findD_of,dcl_apart]
theorem more_sort (he:declOk (ds++[d])=true):∀t,sortM ds t≠ -1->sortM (ds++[d]) t=sortM ds t:=by
 refine Tm.ind λt g hs=>?_;have e:=(sort_parts hs).2.1;have hm:t.ks.map (sortM (ds++[d]))=t.ks.map (sortM ds):=by simp_all
 rw[sortM_eq,sortM_eq ds t,hm];unfold sortF;split
 .unfold sortK;by_cases a:t.op=20
  .omega
  rw[y0 a,y0 a];by_cases b:t.op=21
  .have c:=name_found hs b;have f:=(findD_lt ds t.s).2
   grind [more_find]
  omega
 .rfl
theorem bits_more:bits (ds++[d])=bits ds+d.2:=by
 grind [bits]
theorem decl_less (he:declOk (ds++[d])=true):declOk ds=true:=by
 have h:=decl_iff.1 he;refine decl_iff.2 ⟨by grind,λi hi=>?_,?_⟩
 .have:=h.2.1 i (by rw[q0];omega);unfold dclOk at this⊢;rw[app_getD hi,pC oM] at this;exact this
 .have a:=h.2.2;rw[bits_more] at a;have b:=dcl_wide he (i:=ds.length) (by grind)
  grind
end
end
end Go.M
namespace Go.Proofs.YtfnpmncplaibiaaGreatDoor
open Go Go.Vc Go.Proofs
section
variable {w:World} {K:oK} {F F' D G:oA}
@[push_cast] theorem bd_TZ:yr za [] w K=K (.agg ⟨zj0⟩) w:=zS j8 (us:=[]) rfl rfl
theorem tms_op {kv:Value} {ks:List M.Tm} (h:TmsR F w kv ks) {i:Nat} (hi:i<ks.length):zu zV (oE ((eaddr kv 5 i).add 0)) w K=K (nI (ks.getD i default).op) w:=by
 obtain⟨css,hs,c,a⟩:=h;obtain⟨b,e,_⟩:=(a i hi).inv;exact hs.ldField WA oM (by rw[e];rfl)
theorem tms_kids {kv:Value} {ks:List M.Tm} (h:TmsR F w kv ks) {i:Nat} (hi:i<ks.length) (c:∀a,TmsR F w a (ks.getD i default).ks->K a w):zu zl (oE ((eaddr kv 5 i).add 4)) w K:=by
 obtain⟨css,hs,f,d⟩:=h;obtain⟨a,e,b⟩:=(d i hi).inv;rw[hs.ldField qD oM (by rw[e];rfl)];exact c a b
theorem TermSame_spec:∀(t:M.Tm) {w:World} {K:oK} {F G:oA} {va vb:Value} {u:M.Tm},TermR F w va t->TermR G w vb u->(∀w',Ext w w'->K (.bool (decide (t=u))) w')->vcall Ke #[va,vb] w K:=by
 refine M.Tm.ind λt ih w K F G va vb u ha hb T=>?_;refine ze {} Tryz.func358 ?_;obtain⟨kva,rfl,p⟩:=ha;obtain⟨kvb,rfl,D⟩:=hb;refine zj λb1 w1 a0 N a4 J=>?_;refine zj λb2 w2 a1 s a5 k=>?_;have I:=J.ext s;have f:=N.trans s;have no:∀w',Ext w w'->t≠u->K (.bool false) w':=λw' h hn=>by
  have:=T w' h;rwa[gj hn] at this
 simp only[push_cast,I.ld0,k.ld0,I.ld1,k.ld1,I.ld2,k.ld2,I.ld3,k.ld3,I.ld4,k.ld4];refine zb (λV=>?_) (λe=>no _ f λh=>e (by rw[h]));refine zb (λW=>?_) (λe=>no _ f λh=>e (by rw[h]));refine zb (λX=>?_) (λe=>no _ f λh=>e (by rw[h]));refine zb (λY=>?_) (λe=>no _ f λh=>e (by rw[h]));refine ze {loops:=[(4,[17])]} Tryz.func364 ?_;have B:=p.ext f;have E:=D.ext f;have a8:=p.small;simp only[push_cast,B.len,E.len];refine zb (λe=>no _ f λh=>e (by rw[h])) (λel=>?_);have el:t.ks.length=u.ks.length:=oM
 refine vloop_up t.ks.length (λi x w'=>x=[nI i]/\Ext w w'/\∀j,j<i->t.ks.getD j default=u.ks.getD j default) ⟨rfl,f,λj U=>absurd U oM⟩ ?_;rintro i _ _ R C hi ⟨rfl,c,g⟩ hC;have l:=p.ext c;have L:=D.ext c;simp(disch:=exact oS) only[push_cast,l.len];refine zb (λa=>?_) (λa=>?_)
 .simp(disch:=exact oS) only[push_cast,l.iaddr];refine l.load zc oM λx hx=>?_;obtain⟨cx,rfl,m⟩:=hx.cells;refine zi zq λb4 w4 a2 v a6 Z=>?_;refine stTerm Z rfl ((m.weaken (F':=λb=>b<R.heap.size) λb _ h=>h).ext v) λS O a9 h5=>?_;have o:Ext R S:=Ext.then v O λy H=>by subst H;omega
  have r:=L.ext o;simp(disch:=exact oS) only[push_cast,r.iaddr];refine r.load zc oM λy H=>?_;obtain⟨cy,rfl,n⟩:=H.cells;refine zi zq λb6 w6 a3 z a7 h6=>?_;refine stTerm h6 rfl ((n.weaken (F':=λb=>b<S.heap.size) λb _ h=>h).ext z) λw7 Q aa h7=>?_;have d:Ext S w7:=Ext.then z Q λy H=>by subst H;omega
  rw[(h5.ext d).ldAgg (t:=za) (by rw[zU m];exact zc),h7.ldAgg (t:=za) (by rw[zU n];exact zc)];simp only[push_cast,gE,Gg];have q:=c.trans (o.trans d);refine ih _ (M.getD_mem oM _) (m.ext (o.trans d)).term (n.ext d).term λw8 A=>?_;refine oZ ?_;refine zn (λb=>?_) (λb=>?_)
  .rw[gV,decide_eq_false_iff_not] at b;exact no _ (q.trans A) λh=>b (by rw[h])
  .rw[gU,X0] at b;rw[inc64' oM];refine hC oM _ _ ⟨rfl,q.trans A,λj U=>?_⟩;by_cases e:j<i
   .exact g j e
   .have:j=i:=oM;subst this;exact b
 .have:t=u:=M.tm_ext V W X Y (gL el λj J k=>by
   have:=g j oM;rwa[y2,V0 J,y2,V0 k] at this)
  have:=T R c;rwa[gu ‹t=u›] at this
theorem falseTerm_spec (i:∀w' v,Ext w w'->TermR (λb=>w.heap.size<=b) w' v M.flsT->K v w'):vcall Jc #[] w K:=by
 refine ze {} Tryz.func363 ?_;refine zi zq λb1 w1 k d m g=>?_;refine oZ ?_;refine XB0 (Xy (o:=24) (F:=λ_=>False)) λw2 a c n u=>?_;refine oZ ?_;have l:TmR (λb=>b≠b1/\w.heap.size<=b) w2 _ M.flsT:=(TmR.of (t:=M.flsT) u).weaken λz r _=>by
  rcases r with h|h
  .exact h.elim
  .exact⟨oM,oM⟩
 refine qr (g.ext c) rfl l (λx p=>p.1) λA f s e=>?_;exact i _ _ (Ext.then (d.trans c) f λy q=>by subst q;omega) (e.weaken λb j _=>j.2)
theorem constant_spec {s n:Int} (f:∀w' v,Ext w w'->TermR (λb=>w.heap.size<=b) w' v (M.constM s n)->K v w'):vcall K9 #[nI s,nI n] w K:=by
 refine ze {} Tryz.func354 ?_;refine zi zq λb1 w1 q e r l=>?_;unfold M.constM at f;refine oZ ?_;refine zb (λa=>?_) (λa=>?_)
 .rw[y3 a] at f;refine qr l rfl (yb0 20 s n _:TmR (λ_=>False) w1 _ _) (λx k=>k.elim) λp d i c=>?_;exact f _ _ (Ext.then e d λy h=>by subst h;omega) (c.weaken λb j _=>j.elim)
 .rw[y0 a] at f;refine zb (λb=>?_) (λb=>?_)
  .rw[y3 b] at f;refine qr l rfl (yb0 24 0 0 _:TmR (λ_=>False) w1 _ _) (λx k=>k.elim) λp d i c=>?_;exact f _ _ (Ext.then e d λy h=>by subst h;omega) (c.weaken λb j _=>j.elim)
  .rw[y0 b] at f;refine falseTerm_spec λw2 v g o=>?_;obtain⟨cs,rfl,m⟩:=o.cells;refine qr (l.ext g) rfl m (λx k=>oM) λp d i c=>?_;exact f _ _ (Ext.then (e.trans g) d λy h=>by subst h;omega) (c.weaken λb j _=>by have:=e.size;omega)
theorem yl0 {t:M.Tm} (h:t.op=20):M.fixedM t=if t.ks=[]/\t.s=M.nada/\M.vok t.a t.b=true then some t.b else none:=by
 unfold M.fixedM;rw[y0 (λe=>by rw[e] at h;exact absurd h dC),y0 (λe=>by rw[e] at h;exact absurd h dC)];by_cases c:t.ks=[]/\t.s=M.nada/\M.vok t.a t.b=true
 .rw[y3 c,y3 ⟨h,c⟩]
 .rw[y0 c,y0 (λx=>c x.2)]
theorem nil_len {ks:List M.Tm}:((ks.length:Int)=0)↔ks=[]:=by
 rw[<-Pa];omega
theorem YN {v:Value} {t:M.Tm} (O:TermR F w v t) (R:∀w',Ext w w'->K (.tuple #[nI ((M.fixedM t).getD 0),.bool (M.fixedM t).isSome]) w'):vcall Je #[v] w K:=by
 refine ze {cuts:=[(16388,[8])]} Tryz.func353 ?_;have A:=O;obtain⟨kv,rfl,H⟩:=O;refine zj λb1 w1 S q T m=>?_;have out:∀w' o,Ext w w'->M.fixedM t=o->K (.tuple #[nI (o.getD 0),.bool o.isSome]) w':=λw' o h e=>by rw[<-e];exact R w' h
 have U:(M.truT).s=M.nada/\(M.flsT).s=M.nada:=⟨rfl,rfl⟩;simp only[push_cast,m.ld3];refine zb (λa=>?_) (λa=>?_)
 .refine out w1 none q ?_;have I:t.s≠M.nada:=a;unfold M.fixedM;rw[y0 (λe=>I (by rw[e];rfl)),y0 (λe=>I (by rw[e];rfl)),y0 (λe=>I e.2.2.1)]
 have hs:t.s=M.nada:=by
  by_cases h:t.s=M.nada
  .exact h
  .exact absurd h a
 refine zo (λu w'=> ∃b:Bool,u=[.bool b]/\Ext w1 w'/\(b=true↔t.op=20/\t.ks=[]/\M.vok t.a t.b=true)) (λC D=>?_) ?_
 .simp only[push_cast,m.ld0];refine zb (λc=>?_) (λc=>?_)
  .simp only[push_cast,m.ld4,H.len];refine zb (λd=>?_) (λd=>?_)
   .try simp only[push_cast,m.ld1,m.ld2]
    refine VecOk_spec λw2 i=>?_;exact D _ _ ⟨_,rfl,i,⟨λh=>⟨c,nil_len.1 d,h⟩,λh=>h.2.2⟩⟩
   .exact D _ _ ⟨false,rfl,Same.refl _ _,⟨λh=>(by cases h),λh=>absurd (nil_len.2 h.2.1) d⟩⟩
  .exact D _ _ ⟨false,rfl,Same.refl _ _,⟨λh=>(by cases h),λh=>absurd h.1 c⟩⟩
 rintro u g w2 ⟨b,rfl,i,N⟩;have J:=m.ext i;have j:=q.trans i;refine oZ ?_;refine zn (λc=>?_) (λc=>?_)
 .obtain⟨c1,c2,c3⟩:=N.1 c;simp only[push_cast,J.ld2];refine out w2 (some t.b) j ?_;rw[yl0 c1,y3 ⟨c2,hs,c3⟩]
 have z: ¬(t.op=20/\t.ks=[]/\t.s=M.nada/\M.vok t.a t.b=true):=λh=>by
  have:=N.2 ⟨h.1,h.2.1,h.2.2.2⟩;rw[c] at this;cases this
 rw[J.ldAgg (t:=za) zc]
 try simp only[push_cast]
 refine TermSame_spec t (A.ext j) (Xy (o:=24) (F:=λ_=>False)) λW r=>?_;have n:=j.trans r;refine zb (λd=>?_) (λd=>?_)
 .exact out W (some 1) n (y3 d)
 have B: ¬t=M.truT:=d;refine zd λX y _=>?_;have k:=n.trans y;have L:=J.ext (r.trans y);simp only[push_cast,L.ld0,y1];refine zb (λe=>?_) (λe=>?_)
 .simp only[push_cast,L.ldAgg (t:=za) zc,y1];refine falseTerm_spec λY fv l G=>?_;have V:=L.ext l;simp only[push_cast,V.ldAgg (t:=za) zc,y1,V1];refine TermSame_spec t (A.ext (k.trans l)) G λQ E=>?_;have p:=k.trans (l.trans E);refine zb (λf=>?_) (λf=>?_)
  .refine out Q (some 0) p ?_;unfold M.fixedM;rw[y0 B,y3 f]
  .refine out Q none p ?_;unfold M.fixedM;rw[y0 B,y0 f,y0 z]
 .refine out X none k ?_;unfold M.fixedM;rw[y0 B,y0 (λx=>e (by rw[x];rfl)),y0 z]
theorem jv {v:Value} {t:M.Tm} {n:Int} (i:TermR F w v t) (f:∀w',Ext w w'->K (.bool (M.isM t n)) w'):vcall jd0 #[v,nI n] w K:=by
 refine ze {} Tryz.func356 ?_;obtain⟨cs,rfl,a⟩:=i.cells;refine zj λb1 w1 g b h d=>?_;rw[d.ldAgg (t:=za) (by rw[zU a];exact zc)];refine YN (a.ext b).term λw2 c=>?_;have:=f w2 (b.trans c);unfold M.isM at this;simp only[push_cast];cases e:M.fixedM t with
 |none=>rw[e] at this;exact this
 |some m=>
  rw[e] at this;simp only[Gp] at this;exact this
theorem among_spec {v av:Value} {t:M.Tm} {xs:oI} (z:TermR F w v t) (n:Ints G w av xs) (y:xs.length<=100) (m:∀w',Ext w w'->K (.bool (decide (t.op∈xs))) w'):vcall y50 #[v,av] w K:=by
 refine ze {} Tryz.func359 ?_;obtain⟨kv,rfl,s⟩:=z;refine zj λb1 w1 r f x p=>?_;simp only[push_cast,p.ld0];refine ze {} Tryz.func365 ?_;refine ze {loops:=[(2,[8])]} Tryz.func375 ?_;have l:=n.ext f;simp only[push_cast,l.len];refine vloop_up xs.length (λi u w'=>u=[nI i]/\Ext w w'/\∀j,j<i->t.op≠xs.getD j 0) ⟨rfl,f,λj k=>absurd k oM⟩ ?_;rintro i _ _ o C hi ⟨rfl,c,d⟩ q;have g:=n.ext c;refine oZ ?_;refine zb (λa=>?_) (λa=>?_)
 .simp(disch:=exact oS) only[push_cast,g.iaddr,g.load];refine zb (λb=>?_) (λb=>?_)
  .have hm:t.op∈xs:=by rw[b];exact M.getD_mem oM _
   have:=m o c;rw[gu hm] at this
   try simp only[push_cast]
   rw[gu oM];exact this
  .rw[inc64' oM];refine q oM _ _ ⟨rfl,c,λj k=>?_⟩;by_cases e:j<i
   .exact d j e
   .have:j=i:=oM;subst this;exact b
 .have hm: ¬t.op∈xs:=λh=>by
   obtain⟨j,k,e⟩:=gn h;have:=d j oM;rw[y2,V0 k] at this;exact this e.symm
  have:=m o c;rw[gj hm] at this;exact this
theorem chosen_spec {v:Value} {t:M.Tm} {b:Bool} (u:TermR F w v t) (k:∀w' v',Ext w w'->TermR F w' v' t->K (.tuple #[v',.bool b]) w'):vcall Ui #[.bool b,v] w K:=by
 refine ze {} Tryz.func357 ?_;obtain⟨cs,rfl,a⟩:=u.cells;refine zj λb1 w1 m c q i=>?_;refine zi zq λb2 w2 n d s j=>?_;rw[(i.ext d).ldAgg (t:=za) (by rw[zU a];exact zc)];have g:=c.trans d;have o:TmR (λb=>F b/\b<w.heap.size) w2 cs t:=(a.weaken (F':=λb=>F b/\b<w.heap.size) λb h p=>⟨h,p⟩).ext g;have A:=c.size;refine qr (K:=λr w=>K (.tuple #[r,.bool b]) w) j rfl o (λx C=>oM) λD f B e=>?_;exact k _ _ (Ext.then g f λy z=>by subst z;omega) (e.weaken λb l _=>l.1)
end
end Go.Proofs.YtfnpmncplaibiaaGreatDoor
end
