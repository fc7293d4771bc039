import Derived.Test.YtfnpmncplaibiaaGreatDoorWqdP4
/- A part of the proof. -/
set_option linter.all false
set_option maxRecDepth 9999
set_option maxHeartbeats 2000000
noncomputable section
namespace Go.Proofs.YtfnpmncplaibiaaGreatDoor
open Go Go.Vc Go.Proofs
section
variable {w:World} {K:oK} {F F' X:oA} {n bc bb:Nat} {gs:M.Gs} {v:Value} {ar ab:Addr} {st:Option M.Gs}
theorem choose_spec {c:Int} {xv yv:Value} {xs ys:oI} (h:BdR n bb ar ab X F w st) (t:∃gs,st=some gs) (Q:Ints (Off X F) w xv xs) (R:Ints (Off X F) w yv ys) (hl:xs.length=ys.length) (I:xs.length<=1000) (A:SmL xs) (C:SmL ys) (O:Sm c)
  (J:∀w' F' st' r zs,BdR n bb ar ab X F' w' st'->Mv F w F' w'->Ints (Off X F') w' r zs->SmL zs->M.Bd.Out n (M.eachB (M.muxB c) xs ys) st st' zs->K r w'):
  vcall ZO #[oP bb 0,nI c,xv,yv] w K:=by
 refine ze {} Tryz.func200 ?_;obtain⟨gs,rfl⟩:=t;refine yp λb1 w1 L q S d=>?_;replace d:Blk w1 b1 [oP bb 0] yH:=d;refine yp λb2 w2 N f T e=>?_;replace e:Blk w2 b2 [nI c] yz:=e;have a:=d.ext f;have k:=q.trans f;have l:=h.ext k;have g:Ints (Off X F) w2 xv xs:=Q.ext k;have i:Ints (Off X F) w2 yv ys:=R.ext k;obtain⟨bc,G,hC⟩:=l.blk;simp only at G;simp(disch:=exact oS) only[push_cast,a.ld0,g.len,i.len,y5 xt l.err.bits.cell];rw[gj oM];refine KI ?_;simp(disch:=exact oS) only[push_cast,a.ld0,G.ld1,YV];refine each_spec (p:=M.muxB c) l g i oM I A C ?_ λH E j r zs m b v D u=>J H E j r zs m ?_ v.ints D u
 .intro H E j x y Z m b z B o;have W: ¬F b1:=λs=>by have:=h.lt _ (.inl s);omega
  have Y: ¬F b2:=λs=>by have:=h.lt _ (.inl s);omega
  have U:=a.same b.same W;have V:=e.same b.same Y;refine Zk ?_;unfold qU;simp(disch:=exact oS) only[push_cast,U.ld0,V.ld0];exact bmux_spec m O z B o
 .exact(Mv.refl.ext k).trans b
theorem XU {p:Int->Int->M.Bd Int} {xs ys:oI} {i:Nat} (a:i<xs.length) (b:i<ys.length):M.eachB p (xs.drop i) (ys.drop i)=(p (xs.getD i 0) (ys.getD i 0)).bind λs=>(M.eachB p (xs.drop (i+1)) (ys.drop (i+1))).map (s:: ·):=by
 rw[yY a,yY b];rfl
theorem Ints.low {v:Value} {xs:oI} (h:Ints (Off X F) w v xs):Ints (λb=> ¬F b/\b<w.heap.size) w v xs:=Ints.weaken h λ_ a c=>⟨a.1,c⟩
theorem Ints.lowMv {v:Value} {xs:oI} {B:Nat} {w':World} (h:Ints (λb=> ¬F b/\b<B) w v xs) (hm:Mv F w F' w'):Ints (λb=> ¬F' b/\b<B) w' v xs:=by
 have c:Ints (λb=>(¬F b/\b<B)/\b<w.heap.size) w v xs:=Ints.weaken h λ_ c d=>⟨c,d⟩;have d:=Ints.same c hm.same λb a _=>a.1.1;exact Ints.weaken d λb a _=>⟨hm.off a.1.1 a.2,a.1.2⟩
theorem from_at {up:Bool} {fill:Int} {s:oI} {b k:Nat} (d:k<s.length):(0<=(k:Int)+(if up then-(b:Int) else b)->(k:Int)+(if up then-(b:Int) else b)<s.length->M.fromL up fill s b k=s.getD ((k:Int)+(if up then-(b:Int) else b)).toNat 0)/\
  ((k:Int)+(if up then-(b:Int) else b)<0->M.fromL up fill s b k=fill)/\((s.length:Int)<=(k:Int)+(if up then-(b:Int) else b)->M.fromL up fill s b k=fill):=by
 unfold M.fromL;cases up
 .simp only[gZ,if_false];refine⟨λa c=>?_,λh=>oM,λh=>?_⟩
  .rw[y3 oM,show((k:Int)+b).toNat=k+b by omega]
  .rw[y0 oM]
 .simp only[if_true];refine⟨λa c=>?_,λh=>?_,λh=>oM⟩
  .rw[y0 oM,show((k:Int)+ -b).toNat=k-b by omega]
  .rw[y3 oM]
theorem fill_set {zs:oI} {m k:Nat} {s:Int} (a:zs.length=k) (b:k<m):(zs++List.replicate (m-k) 0).set k s=(zs++[s])++List.replicate (m-(k+1)) 0:=by
 rw[pK _ _ oM,a,pj,show m-k=(m-(k+1))+1 by omega,Pt,pb,Gf];rfl
theorem JG {m k:Nat} {f:Nat->Int} (a:k<m):((List.range m).map f).getD k 0=f k:=by
 rw[y2,GD,Pu a];rfl
theorem zt0 {up:Bool} {fill:Int} {i:Nat} {ys s:oI} {j:Nat} (h:ys.length<=j):M.shiftB up fill (ys.drop j) i s= .ret s:=by
 rw[gY h];rfl
theorem pow_le4 {i:Nat} (h:i<10):2^i<=512/\1<=2^i:=⟨Gi oM (show i<=9 by omega),Nat.one_le_two_pow⟩
theorem from_sm {up:Bool} {fill:Int} {s:oI} {b k:Nat} (a:Sm fill) (hs:SmL s) (c:k<s.length):Sm (M.fromL up fill s b k):=by
 unfold M.fromL
 repeat' split
 all_goals first|exact a|exact hs.get oM
theorem shift_spec {xv yv:Value} {xs ys:oI} {up:Bool} {fill:Int} (h:BdR n bb ar ab X F w st) (hx:Ints (Off X F) w xv xs) (hy:Ints (Off X F) w yv ys) (h8:xs.length<=1000) (ao:ys.length<=8) (V:SmL xs) (ag:SmL ys) (hf:Sm fill)
  (hK:∀w' F' st' r zs,BdR n bb ar ab X F' w' st'->Mv F w F' w'->Ints (Off X F') w' r zs->SmL zs->M.Bd.Out n (M.shiftB up fill ys 0 xs) st st' zs->K r w'):
  vcall Yn #[oP bb 0,xv,yv,.bool up,nI fill] w K:=by
 refine ze {loops:=[(3,[11,22]),(10,[37])],cuts:=[(28680,[14])]} Tryz.func257 ?_;simp(disch:=exact oS) only[push_cast,hy.len];refine vloop_up ys.length (λi u w'=> ∃H A sv ss,u=[sv,nI i]/\BdR n bb ar ab X H w' A/\Mv F w H w'/\Ints (Off X H) w' sv ss/\SmL ss/\ss.length=xs.length/\
  ∀st2 rs,M.Bd.Out n (M.shiftB up fill (ys.drop i) i ss) A st2 rs->M.Bd.Out n (M.shiftB up fill ys 0 xs) st st2 rs) ⟨F,st,xv,xs,rfl,h,Mv.refl,hx,V,rfl,λ_ _ h=>h⟩ ?_
 rintro i _ g w1 C hi ⟨H,A,sv,ss,rfl,h1,G,S,U,an,I⟩ hC;refine oZ ?_;refine zb (λak=>?_) (λaj=>hK w1 H A sv ss h1 G S U (I A ss (by rw[zt0 oM];exact M.Bd.Out.ret _ _)));have N:i<ys.length:=oM
 have a4:=Ints.mv hy G;obtain⟨al,am⟩:=pow_le4 (i:=i) oM;have a3:∀K:oK,qG .shl zV true (nI 1) (nI i) w1 K=K (nI (2^i:Nat)) w1:=λK=>by
  have:=vbin_shlI (w:=w1) (K:=K) (c:=true) (t:=zV) (yk:= .i64) (x:=1) (y:=i) oM (by rw[p5];omega);rw[p5] at this;exact this
 simp(disch:=exact oS) only[push_cast,a4.iaddr,a4.load];rw[a3];generalize Y:2^i=b at*;refine zo (λu w'=>w'=w1/\u=[nI (if up then-(b:Int) else b)]) ?_ ?_
 .intro J hJ;cases up
  .exact hJ _ _ ⟨rfl,rfl⟩
  .simp(disch:=omega) only[push_cast,zk,gO];exact hJ _ _ ⟨rfl,rfl⟩
 rintro _ _ w2 ⟨af,rfl⟩;rw[af];simp(disch:=exact oS) only[push_cast,S.len];refine vmkS_own (z:= nI 0) (bs:=8) yE yO yi rfl oM oM λnv w3 O L a1=>?_;have O:OwnI zf w3 nv (List.replicate ss.length 0):=by unfold OwnI;rw[GF];exact O
 have h3:=h1.ext L;have ae:Ints (λb=> ¬H b/\b<w1.heap.size) w3 sv ss:=(Ints.low S).ext L;have a9:Sm (ys.getD i 0):=ag.get N;have R:NewI X w1 H w3 nv (List.replicate ss.length 0):=NewI.of O a1 h1.lt;have ac:=G.ext L;have ap:=G.same.size;refine vloop_up ss.length (λk u w'=> ∃W B zs,u=[nI k]/\BdR n bb ar ab X W w' B/\Mv F w W w'/\Ints (λb=> ¬W b/\b<w1.heap.size) w' sv ss/\NewI X w1 W w' nv (zs++List.replicate (ss.length-k) 0)/\SmL zs/\zs.length=k/\
  ∀st2 rs,M.Bd.Out n (M.eachB (M.muxB (ys.getD i 0)) (((List.range ss.length).map (M.fromL up fill ss b)).drop k) (ss.drop k)) B st2 rs->M.Bd.Out n (M.eachB (M.muxB (ys.getD i 0)) ((List.range ss.length).map (M.fromL up fill ss b)) ss) A st2 (zs++rs))
  ⟨H,A,[],rfl,h3,ac,ae,by simpa using R,SmL.nil,rfl,λ_ _ h=>h⟩ ?_
 rintro k _ g4 w4 C4 hk ⟨W,B,zs,rfl,h4,Z,v,Q,a5,a6,D⟩ a7;refine oZ ?_;refine zb (λai=>?_) (λah=>?_)
 .have o:k<ss.length:=oM;have aa:Sm (M.fromL up fill ss b k):=from_sm hf U o;have a0:(zs++List.replicate (ss.length-k) (0:Int)).length=ss.length:=by rw[q0,gD];omega
  have go:∀(C5:oK),(∀l m a s,BdR n bb ar ab X m l a->Mv F w m l->Ints (λb=> ¬m b/\b<w1.heap.size) l sv ss->NewI X w1 m l nv (zs++List.replicate (ss.length-k) 0)->Sm s->M.Bd.Out n (M.muxB (ys.getD i 0) (M.fromL up fill ss b k) (ss.getD k 0)) B a s->C5 (nI s) l)->
    vcall qL #[oP bb 0,nI (ys.getD i 0),nI (M.fromL up fill ss b k),nI (ss.getD k 0)] w4 C5:=λC5 a8=>
   bmux_spec h4 a9 aa (U.get o) λl m a s E f q p=>a8 l m a s E (Z.trans f) (Ints.lowMv v f) (Q.mv f) q p
  have fin:∀l m a s,BdR n bb ar ab X m l a->Mv F w m l->Ints (λb=> ¬m b/\b<w1.heap.size) l sv ss->NewI X w1 m l nv (zs++List.replicate (ss.length-k) 0)->Sm s->M.Bd.Out n (M.muxB (ys.getD i 0) (M.fromL up fill ss b k) (ss.getD k 0)) B a s->
    y6 zf nv (nI k) l λt66 w6=>zT yz t66 (nI s) w6 λ_ w7=>C4 [nI ((k:Int)+1)] w7:=λl m a s E f q e j p=>by
   have ad:=e.own.ints;rw[ad.iaddr yK oM (by rw[a0];omega),gl];refine e.own.st y9 (by rw[a0];exact o) λw6 a2 T aq=>?_;rw[fill_set a6 o] at a2;refine a7 o _ _ ⟨m,a,zs++[s],by simp,E.upd h.err T λb Y=>⟨by have:=(e.off b Y).1;omega,(e.off b Y).2⟩,f.to T λb Y=> .inr (by have:=(e.off b Y).1;omega),Ints.same q T λx hx _ V=>by have:=(e.off x V).1;omega,⟨a2,e.off,e.out⟩,a5.app (SmL.one j),by simp[a6],λst2 rs ho=>?_⟩;have:=D st2 (s::rs) ?_
   .simpa using this
   rw[XU (by simpa using o) o,JG o];exact M.Bd.Out.bind p (M.Bd.Out.map _ ho)
  obtain⟨f1,f2,f3⟩:=from_at (up:=up) (fill:=fill) (s:=ss) (b:=b) o;have hd:(if up then-(b:Int) else b)= -(b:Int)\/(if up then-(b:Int) else b)=b:=(by cases up<;>simp);generalize (if up then-(b:Int) else b)=d at f1 f2 f3 hd;simp(disch:=omega) only[push_cast,zk];refine zb (λh0=>?_) (λh0=>?_)
  .refine zb (λhl=>?_) (λhl=>?_)
   .simp(disch:=exact oS) only[push_cast,v.iaddr,v.load];rw[<-f1 oM oM];exact go _ λl m a s E f q e j p=>fin l m a s E f q e j p
   .simp(disch:=exact oS) only[push_cast,v.iaddr,v.load];rw[<-f3 oM];exact go _ λl m a s E f q e j p=>fin l m a s E f q e j p
  .simp(disch:=exact oS) only[push_cast,v.iaddr,v.load];rw[<-f2 oM];exact go _ λl m a s E f q e j p=>fin l m a s E f q e j p
 .rw[show ss.length-k=0 by omega,pV,gE] at Q;have:=D B [] (by rw[Ye (by simp;omega)];exact M.Bd.Out.ret _ _);rw[gE] at this;simp(disch:=omega) only[push_cast,zk];refine hC N _ _ ⟨W,B,nv,zs,by simp<;>exact⟨rfl,rfl⟩,h4,Z,Q.ints,a5,oM,λst2 rs ho=>I st2 rs ?_⟩;rw[yY N];unfold M.shiftB;rw[Y];exact M.Bd.Out.bind this ho
end
section
variable {w:World} {K:oK} {F F' X Q:oA} {n bc bb:Nat} {v:Value} {ar ab:Addr} {st:Option M.Gs}
theorem Ints.mvQ {v:Value} {xs:oI} {w':World} (h:Ints (λb=> ¬F b/\Q b) w v xs) (hm:Mv F w F' w'):Ints (λb=> ¬F' b/\Q b) w' v xs:=by
 have c:Ints (λb=>(¬F b/\Q b)/\b<w.heap.size) w v xs:=Ints.weaken h λ_ c d=>⟨c,d⟩;have d:=Ints.same c hm.same λb a _=>a.1.1;exact Ints.weaken d λb a _=>⟨hm.off a.1.1 a.2,a.1.2⟩
theorem Ints.offQ {v:Value} {xs:oI} (h:Ints (λb=> ¬F b/\Q b/\¬X b) w v xs):Ints (Off X F) w v xs:=Ints.weaken h λ_ h _=>⟨h.1,h.2.2⟩
theorem SmL.set {xs:oI} (h:SmL xs) {i:Nat} {x:Int} (b:Sm x):SmL (xs.set i x):=λy c=>by
 rcases pT c with a|a
 .exact h y a
 .rw[a];exact b
theorem under_spec {xv yv:Value} {xs ys:oI} (h:BdR n bb ar ab X F w st) (g:Ints (Off X F) w xv xs) (hy:Ints (Off X F) w yv ys) (Y:xs.length=ys.length) (h1:1<=xs.length) (h8:xs.length<=1000) (u:SmL xs) (v:SmL ys)
  (V:∀w' F' st' r,BdR n bb ar ab X F' w' st'->Mv F w F' w'->Sm r->M.Bd.Out n (M.lessB (M.swapT xs ys) (M.swapT ys xs) (-1)) st st' r->K (nI r) w'):
  vcall Ym #[oP bb 0,xv,yv] w K:=by
 refine ze {} Tryz.func260 ?_;simp(disch:=exact oS) only[push_cast,g.len,zk];refine Clone_signal g oM λw1 av c j I=>?_;refine Clone_signal (hy.ext c) oM λw2 cv s B t=>?_;refine zd λw3 d _=>?_;have y:=c.trans (s.trans d);have k:=j.ext (s.trans d);have o:=B.ext d;have m:=k.ints;have q:=o.ints;have l:∀b,av.ownBlock=some b->cv.ownBlock≠some b:=λb a W=>by have:=j.lt a;have:=t b W;omega
 simp(disch:=exact oS) only[push_cast,m.iaddr,m.load,q.iaddr,q.load,y1];rw[show((xs.length:Int)-1).toNat=xs.length-1 by omega];refine k.st y9 oM λw4 z e a0=>?_;have p:=o.same e λb a g=>l b g a;have O:=p.ints;refine p.st y9 oM λx C f a1=>?_;have A:=z.same f λb a g=>l b a g;have hw:=y.size;have Z:=c.size;have hF:∀b,(av.ownBlock=some b\/cv.ownBlock=some b)->w.heap.size<=b/\¬F b:=λb a=>by
  have E:w.heap.size<=b:=a.elim (I b) λa=>by have:=t b a;omega
  exact⟨E,λD=>by have:=h.lt b (.inl D);omega⟩
 have R:BdR n bb ar ab X F x st:=((h.ext y).upd h.err e λb a=>hF b (.inl a)).upd h.err f λb a=>hF b (.inr a);have i:∀b,(av.ownBlock=some b\/cv.ownBlock=some b)->Off X F b:=λb a=>⟨(hF b a).2,λD=>by have:=(hF b a).1;have:=h.lt b (.inr D);omega⟩;have G:Mv F w F x:=((Mv.refl.ext y).to e λb a=> .inr (hF b (.inl a)).1).to f λb a=> .inr (hF b (.inr a)).1;have T:Ints (Off X F) x av (M.swapT xs ys):=Ints.weaken A.ints λb a _=>i b (.inl a);have U:Ints (Off X F) x cv (M.swapT ys xs):=by
  have:=Ints.weaken C.ints λb a _=>i b (.inr a);unfold M.swapT;rw[Y] at this;exact this
 refine bless_spec R T U (by unfold M.swapT;simp;omega) (by unfold M.swapT;simp;omega) ?_ ?_ λw6 Q N r S H L J=>V w6 Q N r S (G.trans H) L J
 .exact u.set (v.get oM)
 .exact v.set (u.get oM)
theorem Xv {xs:oI} {m k:Nat} (h:k<m):(xs.take m).getD k 0=xs.getD k 0:=M.take_getD h
theorem xB0 {xs wide r q:oI} {m:Nat} {l:Int} {u d:oI} {st a st2 b c:Option M.Gs} {res:oI×oI} (e:M.Bd.Out n (M.lessB (xs.getD m 0::r) wide (-1)) st a l) (f:M.Bd.Out n (M.sumB (xs.getD m 0::r) (M.negL wide) 1) a st2 u)
  (g:M.Bd.Out n (M.eachB (M.muxB l) ((xs.getD m 0::r).take xs.length) (u.take xs.length)) st2 b d) (h:M.Bd.Out n (M.divB xs wide m d (q.set m (-l))) b c res):M.Bd.Out n (M.divB xs wide (m+1) r q) st c res:=by
 unfold M.divB;exact M.Bd.Out.bind e (M.Bd.Out.bind f (M.Bd.Out.bind g h))
theorem divide_spec {xv yv:Value} {xs ys:oI} (h:BdR n bb ar ab X F w st) (hx:Ints (Off X F) w xv xs) (hy:Ints (Off X F) w yv ys) (hl:xs.length=ys.length) (h8:xs.length<=900) (cq:SmL xs) (cr:SmL ys)
  (hK:∀w' F' st' qv rv q r,BdR n bb ar ab X F' w' st'->Mv F w F' w'->Ints (Off X F') w' qv q->Ints (Off X F') w' rv r->SmL q->SmL r->M.Bd.Out n (M.divB xs (ys++[-1]) xs.length (M.offsL xs.length) (M.offsL xs.length)) st st' (q,r)->K (.tuple #[qv,rv]) w'):
  vcall ZN #[oP bb 0,xv,yv] w K:=by
 refine ze {loops:=[(5,[8,10]),(13,[59])]} Tryz.func256 ?_;simp(disch:=exact oS) only[push_cast,hx.len];refine offs_spec oM λw1 ao az bf b8=>?_;refine offs_spec oM λw2 qv a6 bc b6=>?_;have e2:=az.trans a6;refine Clone_signal (hy.ext e2) oM λw3 dc a7 cn af=>?_;refine zC yD y9 yi rfl rfl λb4 w4 d1 a8 an c2=>?_;refine(cn.ext a8).app1 yE c2 oM oM λwv w5 co bk c9=>?_;have z1:=az.size;have z2:=a6.size;have z3:=a7.size;have ak:∀b,wv.ownBlock=some b->w2.heap.size<=b:=λb a=>(c9 b a).elim (af b) λh=>oM
 have e4:=e2.trans (a7.trans a8);have aw:∀b,F b->b<w.heap.size:=λb a=>h.lt b (.inl a);have a5:∀b,w.heap.size<=b->¬X b:=λb a hx=>by have:=h.lt b (.inr hx);omega
 have e5:Ext w w5:=Ext.then e4 bk λb a=>by have:=af b a;omega
 have aq:Ext w2 w5:=Ext.then (a7.trans a8) bk λb a=>af b a;have h5:=h.ext e5;have c7:Mv F w F w5:=Mv.refl.ext e5;have cd:=bc.ext aq;have ci:=bf.ext (a6.trans aq);have cg:∀b,ao.ownBlock=some b->qv.ownBlock≠some b:=λb a O=>by have:=bf.lt a;have:=b6 b O;omega
 have ch:∀b,wv.ownBlock=some b->qv.ownBlock≠some b:=λb a O=>by have:=ak b a;have:=bc.lt O;omega
 have be:∀b,qv.ownBlock=some b->w.heap.size<=b:=λb a=>by have:=b6 b a;omega
 have hR:Ints (λb=> ¬F b/\qv.ownBlock≠some b/\¬X b) w5 ao (M.offsL xs.length):=Ints.weaken ci.ints λb a _=>⟨λhf=>by have:=aw b hf;have:=b8 b a;omega,cg b a,a5 b (b8 b a)⟩;have hW:Ints (λb=> ¬F b/\qv.ownBlock≠some b/\¬X b) w5 wv (ys++[-1]):=Ints.weaken co.ints λb a _=>⟨λhf=>by have:=aw b hf;have:=ak b a;omega,ch b a,a5 b (by have:=ak b a;omega)⟩;have hX:Ints (λb=> ¬F b/\qv.ownBlock≠some b/\¬X b) w5 xv xs:=by
  have h1:Ints (λb=>(¬F b/\¬X b)/\b<w.heap.size) w xv xs:=Ints.weaken hx λ_ h1 h2=>⟨h1,h2⟩;exact Ints.weaken (h1.ext e5) λb a _=>⟨a.1.1,λO=>(by have:=be b O;omega),a.1.2⟩
 have hQ:NewI X w F w5 qv (M.offsL xs.length):=NewI.of cd be h.lt;simp(disch:=exact oS) only[push_cast,zk];have cp:(ys++[(-1:Int)]).length=xs.length+1:=by rw[q0,hl];rfl
 have al:SmL (ys++[(-1:Int)]):=cr.app (SmL.one dC);generalize ys++[(-1:Int)]=wide at*;refine jJ (λm u w'=> ∃F1 br rv r q,u=[rv,nI ((m:Int)-1)]/\m<=xs.length/\BdR n bb ar ab X F1 w' br/\Mv F w F1 w'/\Ints (λb=> ¬F1 b/\qv.ownBlock≠some b/\¬X b) w' rv r/\r.length=xs.length/\SmL r/\NewI X w F1 w' qv q/\q.length=xs.length/\SmL q/\
  Ints (λb=> ¬F1 b/\qv.ownBlock≠some b/\¬X b) w' wv wide/\Ints (λb=> ¬F1 b/\qv.ownBlock≠some b/\¬X b) w' xv xs/\
  ∀st2 res,M.Bd.Out n (M.divB xs wide m r q) br st2 res->M.Bd.Out n (M.divB xs wide xs.length (M.offsL xs.length) (M.offsL xs.length)) st st2 res) xs.length
  ⟨F,st,ao,_,_,rfl,gp _,h5,c7,hR,M.offsL_len _,SmL.offs _,hQ,M.offsL_len _,SmL.offs _,hW,hX,λ_ _ h=>h⟩ ?_
 rintro m _ g w6 C ⟨F6,bu,rv,r,q,rfl,hm,h6,aa,bg,bh,bi,ag,cf,bd,bn,am,a0⟩ hC;refine oZ ?_;refine zb (λd3=>?_) (λd4=>?_)
 .obtain⟨m,rfl⟩:∃j,m=j+1:=⟨m-1,oM⟩;have c8:m<xs.length:=oM;rw[show((m+1:Nat):Int)-1=(m:Int) by omega];simp(disch:=exact oS) only[push_cast,am.iaddr,am.load];refine zC yD y9 yi rfl rfl λb7 w7 d2 b0 d7 c3=>?_;have ck:OwnI zf w7 (.slice (some ⟨b7,0,none⟩) 1 1) [xs.getD m 0]:=Blk.own1 (t:=zf) (cs:=[nI (xs.getD m 0)]) (by rw[yO];exact c3) (gF _) rfl rfl oM;refine ck.app yE (bg.ext b0) (by simp;omega) (by simp;omega) λtv w8 cl cj ca=>?_;have l6:=aa.same.size;have ai:∀b,tv.ownBlock=some b->w6.heap.size<=b:=λb a=>(ca b a).elim (λh=>by have e:b7=b:=K3 h;omega) λh=>oM;have e8:Ext w6 w8:=Ext.then b0 cj λb a=>by have e:b7=b:=K3 a;omega
  have c1:=h6.ext e8;have hT:Ints (λb=> ¬F6 b/\qv.ownBlock≠some b/\¬X b) w8 tv (xs.getD m 0::r):=Ints.weaken cl.ints λb a _=>⟨λhf=>by have:=h6.lt b (.inl hf);have:=ai b a;omega,λO=>(by have:=ag.own.lt O;have:=ai b a;omega),a5 b (by have:=ai b a;omega)⟩;have aj:SmL (xs.getD m 0::r):=(SmL.one (cq.get c8)).app bi;have W:Mv F6 w6 F6 w8:=Mv.refl.ext e8;refine bless_spec c1 (Ints.offQ hT) (Ints.offQ (Ints.ext bn e8)) (by simp;omega) (by simp;omega) aj al λw9 F9 cu l h9 H c5 cc=>?_;have y:=(ag.mv W).mv H;have ce:=y.own.ints;simp(disch:=exact oS) only[push_cast,zk,gO,ce.iaddr];refine y.own.st y9 oM λw10 ba J cz=>?_;have au:BdR n bb ar ab X F9 w10 cu:=h9.upd h.err J λb a=>y.off b a;have b1:Mv F w F9 w10:=(((aa.trans W)).trans H).to J λb a=> .inr (y.off b a).1;have keep:∀{v:Value} {zs:oI},Ints (λb=> ¬F9 b/\qv.ownBlock≠some b/\¬X b) w9 v zs->Ints (λb=> ¬F9 b/\qv.ownBlock≠some b/\¬X b) w10 v zs:=λhh=>Ints.same hh J λb a _ hx=>a.2.1 hx;have Q:=keep (Ints.mvQ hT H);have a3:=keep (Ints.mvQ (Ints.ext bn e8) H);have bo:=keep (Ints.mvQ (Ints.ext am e8) H);refine negated_spec a3 oM al λcv nv c b2 ad=>?_;have bw:=au.ext c;have hN:Ints (Off X F9) cv nv (M.negL wide):=(NewI.of b2 ad au.lt).ints;refine bsum_spec bw (Ints.offQ (Ints.ext Q c)) hN (by rw[M.negL_len];simp;omega) (by simp;omega) aj al.neg dC λA p a4 uv us av f bl cm Y=>?_;have d6:us.length=xs.length+1:=by
   have:=M.sum_len Y.reach;rw[M.negL_len,cp,gB,bh] at this;omega
  have d8:=f.same.size;have i:Mv F w p A:=(b1.ext c).trans f;have ax:=Ints.mvQ (Ints.ext Q c) f;have bm:=Ints.mvQ (Ints.ext a3 c) f;have bp:=Ints.mvQ (Ints.ext bo c) f;have a1:NewI X w p A qv (q.set m (-l)):=(NewI.mv (F':=F9) ⟨ba,y.off,y.out⟩ (Mv.refl.ext c)).mv f;have ay:=bl.ints;refine vmkS_own (z:= nI 0) (bs:=8) yE yO yi rfl oM oM λL bv o T ae=>?_;have o:OwnI zf bv L (List.replicate xs.length 0):=by unfold OwnI;rw[GF];exact o
  have bx:=av.ext T;have b3:NewI X A p bv L (List.replicate xs.length 0):=NewI.of o ae av.lt;have ac:=o.ints;have ah:(List.replicate xs.length (0:Int)).length=xs.length:=gD;have hlen:∀(w':World) (K:oK),vbi .len [zf] zV [L] w' K=K (nI xs.length) w':=λw' K=>(by rw[ac.len yX,ah]);simp only[hlen];have d5:(xs.getD m 0::r).length=xs.length+1:=(by rw[gB,bh]);generalize ht:xs.getD m 0::r=t at*;refine vloop_up xs.length (λk u w'=> ∃F4 N zs,u=[nI k]/\BdR n bb ar ab X F4 w' N/\Mv p A F4 w'/\NewI X A F4 w' L (zs++List.replicate (xs.length-k) 0)/\SmL zs/\zs.length=k/\
   ∀st2 rs,M.Bd.Out n (M.eachB (M.muxB l) ((t.take xs.length).drop k) ((us.take xs.length).drop k)) N st2 rs->M.Bd.Out n (M.eachB (M.muxB l) (t.take xs.length) (us.take xs.length)) a4 st2 (zs++rs))
   ⟨p,a4,[],rfl,bx,Mv.refl.ext T,by simpa using b3,SmL.nil,rfl,λ_ _ h=>h⟩ ?_
  rintro k _ g4 d9 C4 hk ⟨F4,N,zs,rfl,h4,G,x,an,bq,I⟩ c4;refine oZ ?_;refine zb (λcy=>?_) (λcx=>?_)
  .have D:k<xs.length:=oM;have b5:(zs++List.replicate (xs.length-k) (0:Int)).length=xs.length:=by rw[q0,gD];omega
   refine zd λda B _=>?_;have bz:=h4.ext B;have E:=G.ext B;have R:=Ints.mvQ ax E;have S:=Ints.mv ay E;simp(disch:=exact oS) only[push_cast,R.iaddr,R.load,S.iaddr,S.load,y1];refine bmux_spec bz c5 (aj.get oM) (cm.get oM) λcw ap bt s c0 V bj b9=>?_;have d:=(x.mv (Mv.refl.ext B)).mv V;have cb:=d.own.ints;rw[cb.iaddr yK oM (by rw[b5];omega),gl];simp only[y1];refine d.own.st y9 (by rw[b5];exact D) λdb Z a2 d0=>?_;rw[fill_set bq D] at Z
   try simp(disch:=omega) only[push_cast,zk]
   have a9:Mv p A ap cw:=E.trans V;have ct:=i.same.size;refine c4 D _ _ ⟨ap,bt,zs++[s],by simp,c0.upd h.err a2 λb a=>⟨by have:=(d.off b a).1;omega,(d.off b a).2⟩,a9.to a2 λb a=> .inr (d.off b a).1,⟨Z,d.off,d.out⟩,an.app (SmL.one bj),by simp[bq],λst2 rs ho=>?_⟩;have:=I st2 (s::rs) ?_
   .simpa using this
   rw[XU (by rw[gh];omega) (by rw[gh];omega),Xv D,Xv D];exact M.Bd.Out.bind b9 (M.Bd.Out.map _ ho)
  .rw[show xs.length-k=0 by omega,pV,gE] at x;have U:=I N [] (by rw[Ye (by rw[gh];omega)];exact M.Bd.Out.ret _ _);rw[gE] at U
   try simp(disch:=omega) only[push_cast,zk]
   have ct:=i.same.size;refine hC m _ _ oM ⟨F4,N,L,zs,q.set m (-l),by simp<;>exact⟨rfl,rfl⟩,oM,h4,i.trans G,Ints.weaken x.own.ints λb a _=>⟨(x.off b a).2,λO=>(by have:=(x.off b a).1;have:=a1.own.lt O;omega),x.out b a⟩,oM,an,a1.mv G,by rw[gK];exact cf,bd.set (by unfold Sm at*;omega),Ints.mvQ bm G,Ints.mvQ bp G,λst2 res ho=>a0 st2 res ?_⟩;subst ht;exact xB0 cc Y U ho
 .have c6:m=0:=oM;subst c6;exact hK w6 F6 bu qv rv q r h6 aa ag.ints (Ints.offQ bg) bd bi (a0 bu (q,r) (by unfold M.divB;exact M.Bd.Out.ret _ _))
end
section
variable {w:World} {K:oK} {F F' X Q:oA} {n bc bb:Nat} {v:Value} {ar ab:Addr} {st:Option M.Gs}
theorem xq0 {s:Int} {xs:oI} {j:Nat} (h:xs.length<=j):M.rowB s (xs.drop j)= .ret []:=by rw[gY h];rfl
theorem j80 {s:Int} {xs:oI} {j:Nat} (h:j<xs.length):M.rowB s (xs.drop j)= .and (xs.getD j 0) s λv=>(M.rowB s (xs.drop (j+1))).map (v:: ·):=by rw[yY h];rfl
theorem xv0 {xs ys s:oI} {i j:Nat} (h:ys.length<=j):M.mulB xs (ys.drop j) i s= .ret s:=by rw[gY h];rfl
def P2 (l t:Nat) (F:oA) (b:Nat):Prop:=F b\/b=l\/b=t
theorem Mv.p2 {w':World} {l t:Nat} (h:Mv F w F' w'):Mv (P2 l t F) w (P2 l t F') w':=
 ⟨h.same.mono λ_ _ h=> .inl h,λb a=>a.elim (λa=>(h.new b a).imp .inl id) λa=> .inl (.inr a)⟩
theorem Mv.sub {w' w'':World} {S:oA} (h:Mv F w F' w') (hs:Same S w' w'') (a:∀b,S b->F' b):Mv F w F' w'':=h.to hs λb c=> .inl (a b c)
theorem Ints.notD {xs:oI} {D:Nat} {ds:Option (List Deferred)} (h:Ints F w v xs) (q:w.heap[D]?=some (.deferred ds)):Ints (λb=>F b/\b≠D) w v xs:=by
 obtain⟨⟨a,c,r,p,hm,n⟩,k⟩:=h;refine⟨⟨a,c,r,p,hm,λg=>?_⟩,k⟩;obtain⟨b,o,m,l,i,d⟩:=n g;refine⟨b,o,m,⟨l,λe=>?_⟩,i,d⟩;subst e;have j:=GB.2 g;have hw:=k _ (M.getD_mem j []);have f:=d 0 j 0 _ (V0 oM);rw[yx] at f;simp[World.cell?,q] at f
theorem mul_spec {xv yv:Value} {xs ys:oI} (h:BdR n bb ar ab X F w st) (hx:Ints (Off X F) w xv xs) (hy:Ints (Off X F) w yv ys) (hl:xs.length=ys.length) (h8:xs.length<=900) (cw:SmL xs) (cx:SmL ys)
  (hK:∀w' F' st' r zs,BdR n bb ar ab X F' w' st'->Mv F w F' w'->Ints (Off X F') w' r zs->SmL zs->M.Bd.Out n (M.mulB xs ys 0 (M.offsL xs.length)) st st' zs->K r w'):
  vcall kE #[oP bb 0,xv,yv] w K:=by
 apply XY;unfold qT;have cm:=h.lt;refine yp λb3 w1 de aw dr aq=>?_;replace aq:Blk w1 b3 [oP bb 0] yH:=aq;have cu:Ints (Off X F) w1 xv xs:=hx.ext aw;simp(disch:=exact oS) only[push_cast,cu.len];refine offs_spec oM λw2 ba ax a9 co=>?_;refine qo qH λd w3 df a4 ds au=>?_;replace au:Blk w3 d [oN] zf:=au;refine Blk.st (i:=0) au (Sl.cells1 (a9.ext a4).ints) (Sl.one (a9.ext a4).ints) j9 rfl λw4 bu cy a1=>?_;replace a1:Blk w4 d [ba] zf:=a1;have z2:=ax.size;have e2:=aw.trans ax;have an:Ext w1 w4:=Ext.then (ax.trans a4) bu λb a=>oM
 have e4:=aw.trans an;have ag:=aq.ext an;have bv:=(a9.ext a4).same bu λb a hx=>by have:=a9.lt a;omega
 simp(disch:=exact oS) only[push_cast,ag.ld0];refine ze {} Tryz.func291 ?_;refine yp λbq w5 dg bh dt av=>?_;replace av:Blk w5 bq [oP bb 0] yH:=av;refine yp λbx w6 dh bi du ci=>?_;refine yp λby_ w7 di ay dv cj=>?_;have be:Blk w6 bx [xv] zf:=by have:=ci;rwa[Sl.cells1 hx] at this
 have bf:Blk w7 by_ [yv] zf:=by have:=cj;rwa[Sl.cells1 hy] at this
 refine oZ ?_;refine⟨jm,⟨[oP by_ 0,oP bx 0,oP bq 0]⟩,rfl,λl D L RR hD dk az dn cl b9 cr af=>?_⟩;have bd:=bi.trans (ay.trans az);have a0:=bh.trans bd;have e8:=e4.trans a0;have z4:=e4.size;have e0:=a0.size;have dx:=an.size;have pq:=av.ext bd;have px:=be.ext (ay.trans az);have py:=bf.ext az;have p3:=ag.ext a0;have p7:=a1.ext a0;have ch:=h.ext e8;have ae:∀b,w.heap.size<=b->¬F b:=λb a hf=>by have:=cm b (.inl hf);omega
 have sz:w1.heap.size=b3+1/\w3.heap.size=d+1/\w5.heap.size=bq+1/\w6.heap.size=bx+1/\w7.heap.size=by_+1/\D=w7.heap.size/\l=D+1:=⟨oM,oM,oM,oM,oM,hD,oM⟩;have dz:w4.heap.size=w3.heap.size:=cy;have dy:=a4.size;have z45:=bh.size;have e1:=bi.size;have z67:=ay.size;have cv:Ints (Off X (P2 l d F)) L xv xs:=by
  have v:Ints (λb=>(¬F b/\¬X b)/\b<w.heap.size) w xv xs:=Ints.weaken hx λ_ v T=>⟨v,T⟩;exact Ints.weaken (v.ext e8) λb a _=>⟨λo=>o.elim a.1.1 λo=>by have:=a.2;omega,a.1.2⟩
 have c1:Ints (Off X (P2 l d F)) L yv ys:=by
  have v:Ints (λb=>(¬F b/\¬X b)/\b<w.heap.size) w yv ys:=Ints.weaken hy λ_ v T=>⟨v,T⟩;exact Ints.weaken (v.ext e8) λb a _=>⟨λo=>o.elim a.1.1 λo=>by have:=a.2;omega,a.1.2⟩
 have ct:Ints (Off X (P2 l d F)) L ba (M.offsL xs.length):=Ints.weaken (bv.ext a0).ints λb a _=>by
  have v:=a9.lt a;have T:=co b a;refine⟨λo=>?_,λhx=>by have:=h.lt b (.inr hx);omega⟩;rcases o with o|o|o
  .exact ae b oM o
  .omega
  .omega
 have off:∀(m:oA),(∀b,m b->F b\/L.heap.size<=b)->∀b,w.heap.size<=b->b<L.heap.size->¬m b:=λm hN b v T hf=>(hN b hf).elim (ae b v) λh=>oM
 show vcall jm #[.func (.yield l) #[] #[],oP by_ 0,oP bx 0,oP bq 0] L _;refine ze {loops:=[(1,[11]),(5,[7,8])]} Tryz.func316 ?_;simp(disch:=exact oS) only[push_cast,py.ld0,c1.len];refine vloop_up ys.length (λi u w'=> ∃m J sv s,u=[nI i]/\RR .ready none w'/\BdR n bb ar ab X m w' J/\Mv (P2 l d F) L (P2 l d m) w'/\(∀b,m b->F b\/L.heap.size<=b)/\Blk w' d [sv] zf/\Ints (Off X (P2 l d m)) w' sv s/\s.length=xs.length/\SmL s/\
  ∀st2 res,M.Bd.Out n (M.mulB xs (ys.drop i) i s) J st2 res->M.Bd.Out n (M.mulB xs ys 0 (M.offsL xs.length)) st st2 res)
  ⟨F,st,ba,_,rfl,cr,ch,Mv.refl,λb a=> .inl a,p7,ct,M.offsL_len _,SmL.offs _,λ_ _ h=>h⟩ ?_
 rintro i _ g w9 C hi ⟨m,J,sv,s,rfl,br,h9,V,U,c8,bw,dp,bz,aj⟩ hC;refine oZ ?_;have z9:=V.same.size;have keep:∀{b:Nat} {cs:List Value} {t:TypeId},Blk L b cs t->w.heap.size<=b->b≠l->b≠d->Blk w9 b cs t:=λa v T h3=>a.same V.same λo=>o.elim (ae _ v) λo=>o.elim T h3;have q9:=keep pq oM oM oM;have x9:=keep px oM oM oM;have k9:=keep p3 oM oM oM;have d9:w9.heap[D]?=some (.deferred (some [])):=(V.same.block D oM λo=>o.elim (ae _ oM) λo=>oM).trans cl;refine zb (λdl=>?_) (λd6=>?_)
 .have b0:i<ys.length:=oM;have c0:=Ints.mv c1 V;simp(disch:=exact oS) only[push_cast,c0.iaddr,c0.load];refine offs_spec oM λw10 cc ah bo bn=>?_;have cf:=h9.ext ah;have bs:NewI X w9 m w10 cc (M.offsL i):=NewI.of bo bn h9.lt;have dq:(xs.take (xs.length-i)).length=xs.length-i:=by rw[gh];omega
  refine vloop_up (xs.length-i) (λj u w'=> ∃F2 st2 rv zs,u=[rv,nI ((i+j:Nat):Int)]/\BdR n bb ar ab X F2 w' st2/\Mv m w9 F2 w'/\NewI X w9 F2 w' rv (M.offsL i++zs)/\SmL zs/\zs.length=j/\
   ∀W rs,M.Bd.Out n (M.rowB (ys.getD i 0) ((xs.take (xs.length-i)).drop j)) st2 W rs->M.Bd.Out n (M.rowB (ys.getD i 0) (xs.take (xs.length-i))) J W (zs++rs))
   ⟨m,J,cc,[],rfl,cf,Mv.refl.ext ah,by rw[gE];exact bs,SmL.nil,rfl,λ_ _ h=>h⟩ ?_
  rintro j _ g2 x C2 hj ⟨F2,st2,rv,zs,rfl,ac,f,G,aa,c3,a6⟩ ck;have a5:Mv (P2 l d F) L (P2 l d F2) x:=V.trans f.p2;have O:∀b,F2 b->F b\/L.heap.size<=b:=λb a=>(f.new b a).elim (U b) λh=> .inr oM;have B:∀{b:Nat} {cs:List Value} {t:TypeId},Blk w9 b cs t->w.heap.size<=b->b<L.heap.size->Blk x b cs t:=λa v T=>a.same f.same (off m U _ v T);have d1:=B q9 oM oM;have ce:=B x9 oM oM;have cz:=B k9 oM oM;have c5:=B c8 oM oM;have d11:x.heap[D]?=some (.deferred (some [])):=(f.same.block D oM (off m U D oM oM)).trans d9;have c9:RR .ready none x:=b9 _ _ _ _ br (f.same.block l oM (off m U l oM oM));have dw:=f.same.size;have ak:=Ints.mv cv a5;simp(disch:=exact oS) only[push_cast,ce.ld0,ak.len];refine zb (λd8=>?_) (λd7=>?_)
  .have bj:j<xs.length-i:=oM;refine zd λN y _=>?_;have al:Ints (Off X (P2 l d F2)) N xv xs:=Ints.ext ak y;have d2:=d1.ext y;have d4:=ce.ext y;have ei:((i:Int)+j)-i=(j:Int):=oM;simp(disch:=exact oS) only[push_cast,d2.ld0,d4.ld0,zk,ei,al.iaddr,al.load,y1];refine qS (ac.ext y) (cw.get oM) (cx.get b0) λbc c A cd ao k bt Q=>?_;refine zC yD y9 yi rfl rfl λdd Y d5 a3 c2 E=>?_;have ai:Mv m w9 c Y:=((f.ext y).trans k).ext a3;have ad:=ao.ext a3;have R:NewI X w9 c Y rv (M.offsL i++zs):=((G.mv (Mv.refl.ext y)).mv k).mv (Mv.refl.ext a3);have dm:(M.offsL i++zs).length=i+j:=(by rw[q0,M.offsL_len,c3]);refine R.app1 E ai.same.size ad.lt oM λd3 Z a7 q=>?_;have ap:BdR n bb ar ab X c Z A:=ad.upd h.err q λb a=>⟨by have:=(R.off b a).1;omega,(R.off b a).2⟩;have bm:Mv m w9 c Z:=ai.to q λb a=> .inr (R.off b a).1
   try simp(disch:=omega) only[push_cast,zk]
   refine ck bj _ _ ⟨c,A,d3,zs++[cd],by simp<;>omega,ap,bm,by rw[<-Gf];exact a7,aa.app (SmL.one bt),by simp[c3],λW rs ho=>?_⟩;have:=a6 W (cd::rs) ?_
   .simpa using this
   rw[j80 oM,Xv bj];exact xI Q (M.Bd.Out.map _ ho)
  .have dj:j=xs.length-i:=oM;have a8:=a6 st2 [] (by rw[xq0 oM];exact M.Bd.Out.ret _ _);rw[gE] at a8;refine af [rv] x _ rfl c9 ⟨c9,λN p db bg=>?_⟩;have bk:∀b,(b=l)->w.heap.size<=b/\¬F2 b:=λb a=>⟨oM,off F2 O b oM oM⟩;have cg:BdR n bb ar ab X F2 N st2:=ac.upd h.err p bk;have d0:=cz.same p (show¬b3=l by omega);have am:=c5.same p (show¬d=l by omega);have I:=Ints.mv bw f.p2;have b6:Ints (Off X (P2 l d F2)) N sv s:=Ints.same I p λb a _ e=>a.1 (.inr (.inl e));have bp:NewI X w9 F2 N rv (M.offsL i++zs):=⟨G.own.same p λb a e=>by have:=(G.off b a).1;omega,G.off,G.out⟩;simp(disch:=exact oS) only[push_cast,d0.ld0,am.ld0];have b8:Ints (Off X F2) N sv s:=Ints.weaken b6 λb a _=>⟨λhf=>a.1 (.inl hf),a.2⟩;refine bsum_spec cg b8 bp.ints (by rw[q0,M.offsL_len];omega) oM bz ((SmL.offs i).app aa) dC λbc c A nv ns ao k z cq Q=>?_;have a2:∀b,c b->F b\/L.heap.size<=b:=λb a=>(k.new b a).elim (O b) λh=> .inr oM;have c6:=am.same k.same (off F2 O d oM oM);refine Blk.st (i:=0) c6 (Sl.cells1 z.own.ints) (Sl.one z.own.ints) j9 rfl λY S c2 E=>?_;replace E:Blk Y d [nv] zf:=E;have ca:RR .busy none bc:=b9 _ _ _ _ bg (k.same.block l oM (off F2 O l oM oM));have cb:RR .busy none Y:=b9 _ _ _ _ ca (S.block l (by have:=k.same.size;omega) oM);refine⟨cb,λZ q dc a7=>?_⟩;have ad:BdR n bb ar ab X c Y A:=ao.upd h.err S λb a=>⟨oM,off c a2 b oM oM⟩;have ap:BdR n bb ar ab X c Z A:=ad.upd h.err q λb a=>⟨oM,off c a2 b oM oM⟩;have z12:=p.size;have b1:Mv (P2 l d F) L (P2 l d F2) N:=a5.sub p λb a=> .inr (.inl a);have b2:Mv (P2 l d F) L (P2 l d c) Z:=(((b1.trans k.p2).sub S λb a=> .inr (.inr a))).sub q λb a=> .inr (.inl a);have c7:=E.same q (show¬d=l by omega);have b4:Ints (Off X (P2 l d c)) Z nv ns:=by
    have v:Ints (Off X (P2 l d c)) bc nv ns:=Ints.weaken z.own.ints λb a _=>⟨λo=>by
     have:=(z.off b a).1;rcases o with o|o|o
     .exact(z.off b a).2 o
     .omega
     .omega,z.out b a⟩
    exact Ints.same (Ints.same v S λb a _ e=>a.1 (.inr (.inr e))) q λb a _ e=>a.1 (.inr (.inl e))
   have cp:ns.length=xs.length:=by
    have:=M.sum_len Q.reach;rw[q0,M.offsL_len] at this;omega
   simp(disch:=omega) only[push_cast,Gh,zk];refine hC b0 _ _ ⟨c,A,nv,ns,by simp,a7,ap,b2,a2,c7,b4,cp,cq,λW res ho=>aj W res ?_⟩;rw[yY b0];exact M.Bd.Out.bind a8 (M.Bd.Out.bind Q ho)
 .refine⟨.ready,none,dC,br,λw10 H da=>?_⟩;show zu zf _ w10 _;have c4:=c8.same H (show¬d=l by omega);have d10:w10.heap[D]?=some (.deferred (some [])):=(H.block D oM oM).trans d9;simp(disch:=exact oS) only[push_cast,c4.ld0];refine⟨d10,λx I aa=>?_⟩;have bl:∀b,w.heap.size<=b->b<L.heap.size->w.heap.size<=b/\¬m b:=λb v T=>⟨v,off m U b v T⟩;have ac:BdR n bb ar ab X m x J:=(h9.upd h.err H λb a=>bl b oM oM).upd h.err I λb a=>bl b oM oM;have cn:Mv F w m x:=by
   refine⟨Same.thn (Same.thn (Same.thn (Same.of_ext e8) V.same λb a=>a.elim .inl λa=> .inr oM) H λb a=> .inr oM) I λb a=> .inr oM,λb a=>(U b a).imp id λh=>?_⟩;have:=e8.size;omega
  have b5:Ints (Off X m) x sv s:=by
   have v:Ints (Off X (P2 l d m)) w10 sv s:=Ints.same bw H λb a _ e=>a.1 (.inr (.inl e));have T:=Ints.notD v d10;exact Ints.weaken (Ints.same T I λb a _ e=>a.2 e) λb a _=>⟨λhf=>a.1.1 (.inl hf),a.1.2⟩
  exact hK x m J sv s ac cn b5 bz (aj J s (by rw[xv0 oM];exact M.Bd.Out.ret _ _))
end
section
variable {w:World} {K:oK} {F F' Fx Fy X Q:oA} {n bc bb:Nat} {gs:M.Gs} {v:Value} {ar ab:Addr} {st:Option M.Gs}
theorem qR0 {t ty:TypeId} {a:Option Addr} {l c:Nat} (b:isSl t=true):vbi .cap [t] ty [.slice a l c] w K=K (nI c) w:=by
 obtain⟨e,he⟩:=Ut b;exact ya (by simp[biSem,Builtin.cap_,xz he,goInt])
theorem Grow_nil {m:Nat} (hm:m<=1000) (d:∀w' r,Ext w w'->OwnI zf w' r []->(∀b,r.ownBlock=some b->w.heap.size<=b)->K r w'):vcall qp #[oN,nI m] w K:=by
 refine ze {cuts:=[(8195,[])]} Tryz.func287 ?_;refine zo (λu w'=>w'=w) ?_ ?_
 .intro J f;refine oZ ?_;refine zb (λh=>?_) (λh=>f _ _ rfl);omega
 rintro _ _ w' hw;rw[hw,qR0 yX,Wr yX];simp(disch:=omega) only[push_cast,zk,Int.sub_zero];refine zb (λh=>?_) (λh=>?_)
 .rw[qR0 yX];have c0:∀K:oK,xf zf (oN) none (some (nI (0:Nat))) none w K=K (oN) w:=λK=>OwnV.cut (t:=zf) (w:=w) OwnV.nil yK (n:=0) (by simp);rw[c0];refine vappend_make (bs:=8) yE yO yi rfl J0 oM oM oM λv' w1 e he g=>?_;rw[Wr yX,OwnV.cut e yK (n:=0) oM];have c:=OwnV.taken e (n:=0) oM;exact d w1 _ he (by rw[pt] at c;exact c) λb a=>g b (by rw[<-xP v' 0];exact a)
 .exact d w _ (Same.refl _ _) OwnI.nil λb a=>by cases a
theorem XQ {zss:List (oI)} {i:Nat} (hi:i<zss.length):(zss.take (i+1)).flatten=(zss.take i).flatten++zss.getD i []:=by
 rw[M.take_add hi [],Pr];simp
theorem flat_le {zss:List (oI)} (i:Nat):(zss.take i).flatten.length<=zss.flatten.length:=by
 have:zss.flatten=(zss.take i).flatten++(zss.drop i).flatten:=by rw[<-Pr,GR]
 rw[this,q0];omega
theorem Concat_spec {vs:List Value} {zss:List (oI)} (j:Vals Fx w v vs) (L:vs.length=zss.length) (hi:∀i,i<zss.length->Ints Fy w (vs.getD i undef) (zss.getD i [])) (A:zss.flatten.length<=1000) (E:zss.length<=1000)
  (F:∀w' r,Ext w w'->OwnI zf w' r zss.flatten->(∀b,r.ownBlock=some b->w.heap.size<=b)->K r w'):vcall qc #[v] w K:=by
 refine ze {loops:=[(3,[3,11]),(11,[6,27])]} Tryz.func251 ?_;simp(disch:=exact oS) only[push_cast,j.len];refine vloop_up zss.length (λi u w'=>u=[nI ((zss.take i).flatten.length:Nat),nI i]/\w'=w) ⟨rfl,rfl⟩ ?_;rintro i _ g w1 C p ⟨rfl,B⟩ k;rw[B];refine oZ ?_;refine zb (λq=>?_) (λn=>?_)
 .have a:i<zss.length:=oM;have D:=hi i a;have hle:=flat_le (zss:=zss) (i+1);rw[XQ a,q0] at hle;simp(disch:=exact oS) only[push_cast,j.iaddr,j.load,D.len,zk];refine zb (λJ=>oM) (λ_=>?_);exact k a _ _ ⟨by rw[XQ a,q0];simp,rfl⟩
 have o:i=zss.length:=oM
 subst o;rw[gy];refine Grow_nil A λw2 G m x s=>?_;refine vloop_up zss.length (λi u w'=> ∃r,u=[r,nI i]/\Ext w w'/\OwnI zf w' r (zss.take i).flatten/\∀b,r.ownBlock=some b->w.heap.size<=b) ⟨G,rfl,m,x,s⟩ ?_;rintro i _ g I C p ⟨r,rfl,c,e,d⟩ k;refine oZ ?_;refine zb (λq=>?_) (λn=>?_)
 .have a:i<zss.length:=oM;have D:=(hi i a).ext c;have f:=j.ext c;have hle:=flat_le (zss:=zss) (i+1);rw[XQ a,q0] at hle;simp(disch:=exact oS) only[push_cast,f.iaddr,f.load];refine e.app yE D oM oM λH M y z t=>?_;have:=c.size
  try simp(disch:=omega) only[push_cast,zk]
  exact k a _ _ ⟨H,by simp<;>exact⟨rfl,rfl⟩,Ext.then c z λb l=>d b l,by rw[XQ a];exact y,λb l=>(t b l).elim (d b) λh=>oM⟩
 .rw[show i=zss.length by omega,gy] at e;exact F I r c e d
theorem un_spec {op:Int} {xv:Value} {xs:oI} (h:BdR n bb ar ab X F w st) (B:op=1\/op=2) (s:Ints (Off X F) w xv xs) (D:xs.length<=900) (d:SmL xs)
  (e:∀w' F' st' r zs,BdR n bb ar ab X F' w' st'->Mv F w F' w'->Ints (Off X F') w' r zs->SmL zs->M.Bd.Out n (M.unB op xs) st st' zs->K r w'):
  vcall Qo #[oP bb 0,nI op,xv] w K:=by
 refine ze {} Tryz.func201 ?_;simp only[push_cast];unfold M.unB at e;refine zb (λc=>?_) (λc=>?_)
 .rw[y3 c] at e;refine negated_spec s oM d λw1 r a p j=>?_;exact e w1 F st r _ (h.ext a) (Mv.refl.ext a) (NewI.of p j h.lt).ints d.neg (M.Bd.Out.ret _ _)
 rw[y0 c] at e;simp(disch:=exact oS) only[push_cast,s.len];refine zb (λc2=>?_) (λc2=>oM);refine offs_spec oM λw1 ov a m l=>?_;refine negated_spec (s.ext a) oM d λw2 nv f k g=>?_;have v:=a.trans f;have E:=a.size;have hO:Ints (Off X F) w2 ov (M.offsL xs.length):=(NewI.of (m.ext f) l h.lt).ints;have z:Ints (Off X F) w2 nv (M.negL xs):=(NewI.of k (λb A=>by have:=g b A;omega) h.lt).ints;refine bsum_spec (h.ext v) hO z (by rw[M.offsL_len,M.negL_len];exact gp _) (by rw[M.offsL_len];omega) (SmL.offs _) d.neg dC λC x u r zs y i q t o=>?_;exact e C x u r zs y ((Mv.refl.ext v).trans i) q.ints t o
theorem bin_spec {op:Int} {xv yv:Value} {xs ys:oI} (h:BdR n bb ar ab X F w st) (U:∃gs,st=some gs) (u:3<=op) (a0:op<=14) (o:Ints (Off X F) w xv xs) (t:Ints (Off X F) w yv ys) (E:op≠14->xs.length=ys.length) (hc:op=14->xs.length+ys.length<=4) (D:1<=xs.length) (h8:xs.length<=8) (g:SmL xs) (j:SmL ys)
  (d:∀w' F' st' r zs,BdR n bb ar ab X F' w' st'->Mv F w F' w'->Ints (Off X F') w' r zs->SmL zs->M.Bd.Out n (M.binB op xs ys) st st' zs->K r w'):
  vcall kF #[oP bb 0,nI op,xv,yv] w K:=by
 refine ze {} Tryz.func202 ?_;obtain⟨gs,rfl⟩:=U;obtain⟨bc,Z,hC⟩:=h.blk;simp only at Z;unfold M.binB at d;simp only[push_cast,y5 xt h.err.bits.cell];refine zb (λc=>?_) (λc=>?_)
 .rw[y3 c] at d;have:=hc c;simp(disch:=exact oS) only[push_cast,o.len,t.len,zk,y5 xt h.err.bits.cell];rw[gj oM];refine KI ?_;refine vbuildS_row1 (xs:=[yv,xv]) ZE j9 qH (λx L=>by
   simp only[gg,gx,Ge] at L;rcases L with rfl|rfl
   .exact Sl.cells1 t
   .exact Sl.cells1 o) (by simp) λb1 w1 a1 s a2 O=>?_
  have hv:Vals (· =b1) w1 (.slice (some ⟨b1,0,none⟩) [yv,xv].length [yv,xv].length) [yv,xv]:=O.sl1 rfl (by simp);refine Concat_spec (zss:=[ys,xs]) hv rfl (Fy:=Off X F) (λi hi=>?_) (by simp;omega) (by simp) λw2 r Q T S=>?_
  .match i,hi with
   |0,_=>exact t.ext s
   |1,_=>exact o.ext s
  .have Y:=s.trans Q;have z1:=s.size;refine d w2 F (some gs) r (ys++xs) (h.ext Y) (Mv.refl.ext Y) (NewI.of (w:=w) (by simpa using T) (λb hb=>by have:=S b hb;omega) h.lt).ints (j.app g) (M.Bd.Out.ret _ _)
 rw[y0 c] at d;have E:=E c;simp(disch:=exact oS) only[push_cast,o.len,t.len,y5 xt h.err.bits.cell];rw[gj oM];refine KI ?_;simp(disch:=exact oS) only[push_cast,Z.ld1,YV];refine zb (λc=>?_) (λc=>?_)
 .rw[y3 c] at d;exact each_spec (p:=λa b=> .and a b .ret) h o t oM oM g j (λw1 V N x y W D _ B C A=>qS D B C A) λz v k r zs u e l m f=>d z v k r zs u e l.ints m f
 rw[y0 c] at d;refine zb (λc=>?_) (λc=>?_)
 .rw[y3 c] at d;exact each_spec (p:=M.orB) h o t oM oM g j (λw1 V N x y W D _ B C A=>bor_spec D B C A) λz v k r zs u e l m f=>d z v k r zs u e l.ints m f
 rw[y0 c] at d;refine zb (λc=>?_) (λc=>?_)
 .rw[y3 c] at d;exact each_spec (p:=λa b=> .xor a b .ret) h o t oM oM g j (λw1 V N x y W D _ B C A=>Y5 D B C A) λz v k r zs u e l m f=>d z v k r zs u e l.ints m f
 rw[y0 c] at d;refine zb (λc=>?_) (λc=>?_)
 .rw[y3 c] at d;exact bsum_spec h o t oM oM g j dC λz v k r zs u e l m f=>d z v k r zs u e l.ints m f
 rw[y0 c] at d;refine zb (λc=>?_) (λc=>?_)
 .rw[y3 c] at d;refine negated_spec t oM j λw1 nv s R G=>?_;exact bsum_spec (h.ext s) (o.ext s) (NewI.of R G h.lt).ints (by rw[M.negL_len];omega) oM g j.neg dC λz v k r zs u e l m f=>d z v k r zs u ((Mv.refl.ext s).trans e) l.ints m f
 rw[y0 c] at d;refine zb (λc=>?_) (λc=>?_)
 .rw[y3 c] at d;exact mul_spec h o t E oM g j d
 rw[y0 c] at d;refine zb (λc=>?_) (λc=>?_)
 .rw[y3 c] at d;refine divide_spec h o t E oM g j λz v k qv rv q r u e H l I J f=>?_;refine oZ ?_;exact d z v k qv q u e H I (M.Bd.Out.map _ f)
 rw[y0 c] at d;refine zb (λc=>?_) (λc=>?_)
 .rw[y3 c] at d;refine divide_spec h o t E oM g j λz v k qv rv q r u e H l I J f=>?_;refine oZ ?_;exact d z v k rv r u e l J (M.Bd.Out.map _ f)
 rw[y0 c] at d;refine zb (λc=>?_) (λc=>?_)
 .rw[y3 c] at d;exact shift_spec h o t oM oM g j dC d
 rw[y0 c] at d;refine zb (λc=>?_) (λc=>?_)
 .rw[y3 c] at d;exact shift_spec h o t oM oM g j dC d
 rw[y0 c] at d;refine zb (λc=>?_) (λc=>oM);simp(disch:=exact oS) only[push_cast,o.len,zk,o.iaddr,o.load];rw[show((xs.length:Int)-1).toNat=xs.length-1 by omega];exact shift_spec h o t oM oM g j (g.get oM) d
theorem compare_spec {op:Int} {xv yv:Value} {xs ys:oI} (h:BdR n bb ar ab X F w st) (g:∃gs,st=some gs) (m:15<=op) (k:op<=17) (e:Ints (Off X F) w xv xs) (f:Ints (Off X F) w yv ys) (l:xs.length=ys.length) (j:1<=xs.length) (o:xs.length<=8) (b:SmL xs) (d:SmL ys)
  (a:∀w' F' st' r,BdR n bb ar ab X F' w' st'->Mv F w F' w'->Sm r->M.Bd.Out n (M.cmpB op xs ys) st st' r->K (nI r) w'):
  vcall Zt #[oP bb 0,nI op,xv,yv] w K:=by
 refine ze {} Tryz.func203 ?_;obtain⟨gs,rfl⟩:=g;obtain⟨bc,i,p⟩:=h.blk;simp only at i;unfold M.cmpB at a;simp(disch:=exact oS) only[push_cast,e.len,f.len,y5 xt h.err.bits.cell];rw[gj oM];refine KI ?_;simp(disch:=exact oS) only[push_cast,i.ld1,YV];refine zb (λc=>?_) (λc=>?_)
 .rw[y3 c] at a;exact bsame_spec h e f oM oM b d a
 rw[y0 c] at a;refine zb (λc=>?_) (λc=>?_)
 .rw[y3 c] at a;exact bless_spec h e f oM oM b d a
 rw[y0 c] at a;refine zb (λc=>?_) (λc=>oM);exact under_spec h e f l j oM b d a
end
section
variable {w:World} {K:oK} {F:oA}
abbrev qd (wd n:Int):Value:= .agg ⟨[nI wd,nI n]⟩
theorem pow4 {k:Nat} (a:1<=k) (b:k<=4):2<=2^k/\2^k<=16:=by
 rcases(by omega:k=1\/k=2\/k=3\/k=4) with rfl|rfl|rfl|rfl<;>decide
@[push_cast] theorem bd_Vec (a b:Int):yr zg [(0,nI a),(1,nI b)] w K=K (qd a b) w:=zS QG (us:=[[nI a],[nI b]]) rfl rfl
@[push_cast] theorem bd_VecZ:yr zg [] w K=K (qd 0 0) w:=zS QG (us:=[]) rfl rfl
theorem stVec {b:Nat} {x y:Value} {t:TypeId} {p q:Int} (h:Blk w b [x,y] t) (c:∀w',Same (· =b) w w'->w'.heap.size=w.heap.size->Blk w' b [nI p,nI q] t->K undef w'):zT zg (oP b 0) (qd p q) w K:=
 h.stAgg rfl rK (by intro v a;simp only[gg,gx,Ge] at a;rcases a with rfl|rfl<;>rfl) c
theorem Wi (k:Nat):((2^k:Nat):Int)=2^k:=by simp
theorem VecOk_spec {wd n:Int} (l:∀w',Ext w w'->K (.bool (M.vok wd n)) w'):vcall y70 #[qd wd n] w K:=by
 refine ze {} Tryz.func206 ?_;refine zj λb1 w1 m g o i=>?_;refine zd λw2 d _=>?_;have h:=i.ext d;have j:=g.trans d;simp only[push_cast,h.ld0,h.ld1,y1];have a:=l w2 j;refine zb (λf=>?_) (λf=>?_)
 .refine zb (λa2=>?_) (λa2=>?_)
  .refine zb (λa3=>?_) (λa3=>?_)
   .obtain⟨k,rfl⟩:∃k:Nat,wd=k:=⟨wd.toNat,oM⟩;have p:=pow4 (k:=k) oM oM;have e:qG .shl zV true (nI 1) (nI (k:Int)) w2=λK=>K (nI (2^k:Nat)) w2:=by
     funext K
     have:=vbin_shlI (w:=w2) (K:=K) (c:=true) (t:=zV) (yk:= .i64) (x:=1) (y:=k) oM oM;rw[p5] at this;exact this
    rw[e];simp only[push_cast,y1];have b:M.vok (k:Int) n=decide (n<(2^k:Nat)):=by
     simp only[M.vok,gu f,gu a2,gu a3,pJ,gl,Wi]
    rw[b,Wi] at a;exact a
   .have b:M.vok wd n=false:=(by simp only[M.vok,gj a3,pQ,GM]);rw[b] at a;exact a
  .have b:M.vok wd n=false:=(by simp only[M.vok,gj a2,pQ,GM]);rw[b] at a;exact a
 .have b:M.vok wd n=false:=(by simp only[M.vok,gj f,GM]);rw[b] at a;exact a
theorem cut_spec {n k:Nat} (d:n<18446744073709551616) (a:1<=k) (b:k<=4) (c:K (.int .u64 (n%2^k:Nat)) w):vcall Vo #[.int .u64 n,nI k] w K:=by
 refine ze {} Tryz.func418 ?_;have e:=pow4 a b;rw[show(1:Int)=((1:Nat):Int) from rfl,vbin_shlU oM oM,p5,Y8,show((2^k:Nat):Int)-((1:Nat):Int)=((2^k-1:Nat):Int) by omega,wrapU oM,ZC d oM,Pj];exact c
theorem bit_spec {n k:Nat} (f:n<18446744073709551616) (c:k<64) (b:K (.bool (decide (n/2^k%2=1))) w):vcall Vp #[.int .u64 n,nI k] w K:=by
 refine ze {} Tryz.func197 ?_;have d:n/2^k<=n:=Gx _ _;rw[vbin_shrU c,show(1:Int)=((1:Nat):Int) from rfl,ZC oM oM,xl0];have e:n/2^k&&&1=n/2^k%2:=Nat.and_one_is_mod _;rw[e];have a:decide (((n/2^k%2:Nat):Int)=((1:Nat):Int))=decide (n/2^k%2=1):=by
  by_cases h:n/2^k%2=1
  .rw[h];simp
  .rw[gj h,gj];omega
 rw[a];exact b
theorem raw_spec {wd:Int} {n:Nat} (f:n<9223372036854775808) (c:∀w',Ext w w'->K (.int .u64 n) w'):vcall kS #[qd wd n] w K:=by
 refine ze {} Tryz.func239 ?_;refine zj λb1 w1 d a e b=>?_;simp only[push_cast,b.ld1];rw[jh zs0 x40,wrapU oM];exact c _ a
theorem ones_spec {k:Nat} {n:Int} (c:1<=k) (d:k<=4) (e:∀w',Ext w w'->K (.int .u64 (2^k-1:Nat)) w'):vcall Kc #[qd k n] w K:=by
 refine ze {} Tryz.func398 ?_;refine zj λb1 w1 f a g b=>?_;simp only[push_cast,b.ld0];have h:=pow4 c d;rw[show(1:Int)=((1:Nat):Int) from rfl,vbin_shlU oM oM,p5,Y8,show((2^k:Nat):Int)-((1:Nat):Int)=((2^k-1:Nat):Int) by omega,wrapU oM];exact e _ a
theorem vec_spec {k n:Nat} {x:Int} (q:n<18446744073709551616) (h:1<=k) (i:k<=4) (j:∀w',Ext w w'->K (qd k (n%2^k:Nat)) w'):vcall Vv #[qd k x,.int .u64 n] w K:=by
 refine ze {} Tryz.func417 ?_;have z:=pow4 h i;have hm:n%2^k<2^k:=p0 _ oM;refine zj λb1 w1 o c r e=>?_;refine zi zX λb2 w2 p b s f=>?_;refine zd λA a _=>?_;have l:=(e.ext b).ext a;have u:=f.ext a;simp only[push_cast,l.ld0,y1];refine cut_spec q h i ?_;obtain⟨m,d⟩:∃m,m=n%2^k:=⟨_,rfl⟩;rw[<-d] at hm j⊢;simp only[push_cast,l.ld0,y1,V1];rw[jh JC J0,wrapN oM];simp only[push_cast,y1];refine stVec u λB g _ v=>?_;rw[v.lv rK];exact j _ (Ext.then ((c.trans b).trans a) g λy t=>by subst t;omega)
theorem strF_low {k n:Nat} (c:1<=k) (d:k<=4) (e:n<2^k):n|||((18446744073709551615-(2^k-1))&&&4294967295)=n+(4294967296-2^k):=by
 have b:∀v:Fin 5,∀a:Fin 16,1<=v.1->a.1<2^v.1->a.1|||((18446744073709551615-(2^v.1-1))&&&4294967295)=a.1+(4294967296-2^v.1):=by decide+kernel
 have f:=pow4 c d;exact b ⟨k,oM⟩ ⟨n,oM⟩ c e
theorem top_bit {k n:Nat} (c:1<=k) (d:k<=4) (e:n<2^k):decide (n/2^(k-1)%2=1)=decide (¬n<2^(k-1)):=by
 have b:∀v:Fin 5,∀a:Fin 16,1<=v.1->a.1<2^v.1->decide (a.1/2^(v.1-1)%2=1)=decide (¬a.1<2^(v.1-1)):=by decide+kernel
 have f:=pow4 c d;exact b ⟨k,oM⟩ ⟨n,oM⟩ c e
def Yw0 (k n:Nat):Nat:=if n<2^(k-1) then n else n+(4294967296-2^k)
theorem stretched_spec {k n:Nat} (f:1<=k) (g:k<=4) (q:n<2^k) (p:∀w',Ext w w'->K (.int .u64 (Yw0 k n:Nat)) w'):vcall Yo #[qd k n] w K:=by
 refine ze {} Tryz.func434 ?_;have z:=pow4 f g;refine zj λb1 w1 u d v i=>?_;refine zd λA b _=>?_;have j:=i.ext b;simp only[push_cast,j.ld0,j.ldAgg (t:=zg) zr,y1];have o:IntKind.i64.wrap ((k:Int)-1)=((k-1:Nat):Int):=by rw[zk oM oM];omega
 rw[o];refine raw_spec oM λB c=>?_;have l:=j.ext c;simp only[push_cast,l.ld0,y1,o];refine bit_spec oM oM ?_;rw[top_bit f g q];refine zb (λm=>?_) (λm=>?_)
 .refine zd λC e _=>?_;have r:=l.ext e;simp only[push_cast,r.ldAgg (t:=zg) zr,y1];refine raw_spec oM λs a=>?_;have x:=r.ext a;simp only[push_cast,x.ldAgg (t:=zg) zr,y1];refine ones_spec f g λy h=>?_;rw[vun_xorU oM];refine⟨rfl,?_⟩;rw[show(4294967295:Int)=((4294967295:Nat):Int) from rfl,ZC oM oM];refine⟨rfl,?_⟩;have hle:(18446744073709551615-(2^k-1))&&&4294967295<=4294967295:=Nat.and_le_right;rw[xi0 oM oM];refine⟨rfl,?_⟩;have:=p y (((((d.trans b).trans c).trans e).trans a).trans h);unfold Yw0 at this;rw[y0 m] at this;rw[strF_low f g q];exact this
 .simp only[push_cast,l.ldAgg (t:=zg) zr,y1];refine raw_spec oM λs a=>?_;have:=p s (((d.trans b).trans c).trans a);unfold Yw0 at this;rw[y3 oM] at this;exact this
theorem pre2 {k a b:Nat} (D:a<16) (E:b<16) {X:Value->oK} (s:∀w',Ext w w'->X (.int .u64 a) (.int .u64 b) w'):
  yF0 zg (qd k a) w λt2 m=>
  yF0 zg (qd k b) m λt3 n=>
  ZB n λc=>
  zu zg t2 c λt5 o=>o=c/\
  zu zg t3 c λt7 p=>p=c/\
  vcall kS #[t5] c λt6 e=>(zu zg t3 e λv x=>v=t7/\x=e)/\
  vcall kS #[t7] e λt8 q=>X t6 t8 q:=by
 refine zj λb1 w1 u h z j=>?_;refine zj λb2 w2 y f A l=>?_;refine zd λF d _=>?_;have B:=(j.ext f).ext d;have r:=l.ext d;simp only[push_cast,B.ldAgg (t:=zg) zr,r.ldAgg (t:=zg) zr,y1];refine raw_spec oM λG g=>?_;have C:=r.ext g;simp only[push_cast,C.ldAgg (t:=zg) zr,y1,V1];refine raw_spec oM λH i=>?_;exact s _ ((((h.trans f).trans d).trans g).trans i)
theorem pow16 {k a:Nat} (b:k<=4) (c:a<2^k):a<16:=by
 have:2^k<=2^4:=Gi oM b;omega
def OpR (K:oK) (w:World) (op k a b:Nat):Prop:=∀w' (r:Nat),Ext w w'->r<18446744073709551616->r%2^k=M.binN op k a b->K (.int .u64 r) w'
theorem bin_ck {f:Nat->Nat->Nat->Nat} {op:Nat} (h:∀v:Fin 5,(List.range 16).all (λa=>(List.range 16).all λb=> !(decide (1<=v.1)&&decide (a<2^v.1)&&decide (b<2^v.1))||decide (f v.1 a b%2^v.1=M.binN op v.1 a b))=true) {k a b:Nat} (g:1<=k) (c:k<=4) (d:a<2^k) (e:b<2^k):f k a b%2^k=M.binN op k a b:=by
 have:=h ⟨k,oM⟩;simp only[Gb,gJ,Gv,gV,pg,decide_eq_false_iff_not,X0] at this;rcases this a (pow16 c d) b (pow16 c e) with(⟨h|h⟩|h)|h
 .exact absurd g h
 .exact absurd d h
 .exact absurd e h
 .exact h
theorem mul225 {a b:Nat} (c:a<16) (d:b<16):a*b<=225:=by
 have:=P0 (show a<=15 by omega) (show b<=15 by omega);omega
theorem shl_small {a b:Nat} (d:a<16) (e:b<16):a*2^b<=524288:=by
 have c:2^b<=2^15:=Gi oM oM;have:=P0 (show a<=15 by omega) c;omega
theorem strN_lt {k n:Nat} (a:1<=k) (b:k<=4) (c:n<2^k):Yw0 k n<4294967296:=by
 have:=pow4 a b;unfold Yw0;split<;>omega
theorem binaries_1_spec {k a b:Nat} (g:1<=k) (e:k<=4) (h:a<2^k) (i:b<2^k) (j:OpR K w 3 k a b):vcall xp #[qd k a,qd k b] w K:=by
 have c:=pow16 e h;have d:=pow16 e i;have l:=pow4 g e;refine ze {} Tryz.func423 ?_;refine pre2 c d λw1 he=>?_;rw[ZC oM oM];exact⟨rfl,j _ _ he (Py Nat.and_le_left oM) (bin_ck (f:=λk a b=>a&&&b) (by decide+kernel) g e h i)⟩
theorem binaries_2_spec {k a b:Nat} (g:1<=k) (e:k<=4) (h:a<2^k) (i:b<2^k) (j:OpR K w 4 k a b):vcall xo #[qd k a,qd k b] w K:=by
 have c:=pow16 e h;have d:=pow16 e i;have l:=pow4 g e;refine ze {} Tryz.func424 ?_;refine pre2 c d λw1 he=>?_;rw[xi0 oM oM];exact⟨rfl,j _ _ he (Nat.lt_trans (PI (n:=4) c d) dC) (bin_ck (f:=λk a b=>a|||b) (by decide+kernel) g e h i)⟩
theorem binaries_3_spec {k a b:Nat} (g:1<=k) (e:k<=4) (h:a<2^k) (i:b<2^k) (j:OpR K w 5 k a b):vcall xn #[qd k a,qd k b] w K:=by
 have c:=pow16 e h;have d:=pow16 e i;have l:=pow4 g e;refine ze {} Tryz.func425 ?_;refine pre2 c d λw1 he=>?_;rw[qS0 oM oM];exact⟨rfl,j _ _ he (Nat.lt_trans (Nat.xor_lt_two_pow (n:=4) c d) dC) (bin_ck (f:=λk a b=>a^^^b) (by decide+kernel) g e h i)⟩
theorem binaries_4_spec {k a b:Nat} (g:1<=k) (e:k<=4) (h:a<2^k) (i:b<2^k) (j:OpR K w 6 k a b):vcall xm #[qd k a,qd k b] w K:=by
 have c:=pow16 e h;have d:=pow16 e i;have l:=pow4 g e;refine ze {} Tryz.func426 ?_;refine pre2 c d λw1 he=>?_;rw[Xr,show(a:Int)+(b:Int)=((a+b:Nat):Int) by omega,wrapU oM];exact⟨rfl,j _ _ he oM (bin_ck (f:=λk a b=>a+b) (by decide+kernel) g e h i)⟩
theorem binaries_5_spec {k a b:Nat} (h:1<=k) (g:k<=4) (i:a<2^k) (j:b<2^k) (l:OpR K w 7 k a b):vcall xl #[qd k a,qd k b] w K:=by
 have c:=pow16 g i;have d:=pow16 g j;have m:=pow4 h g;refine ze {} Tryz.func427 ?_;refine pre2 c d λw1 he=>?_;have e:IntKind.u64.wrap ((a:Int)-(b:Int))=((if b<=a then a-b else 18446744073709551616+a-b:Nat):Int):=by
  simp only[IntKind.wrap,IntKind.bits,IntKind.signed,GM,gZ,if_false];split<;>omega
 rw[Y8,e];exact⟨rfl,l _ _ he (by split<;>omega) (bin_ck (f:=λk a b=>if b<=a then a-b else 18446744073709551616+a-b) (by decide+kernel) h g i j)⟩
theorem binaries_6_spec {k a b:Nat} (g:1<=k) (e:k<=4) (h:a<2^k) (i:b<2^k) (j:OpR K w 8 k a b):vcall xk #[qd k a,qd k b] w K:=by
 have c:=pow16 e h;have d:=pow16 e i;have l:=pow4 g e;refine ze {} Tryz.func428 ?_;refine pre2 c d λw1 he=>?_;have hm:=mul225 c d;rw[kX0,show(a:Int)*(b:Int)=((a*b:Nat):Int) by simp,wrapU oM];exact⟨rfl,j _ _ he oM (bin_ck (f:=λk a b=>a*b) (by decide+kernel) g e h i)⟩
theorem binaries_7_spec {k a b:Nat} (l:1<=k) (h:k<=4) (s:a<2^k) (u:b<2^k) (m:OpR K w 9 k a b):vcall xj #[qd k a,qd k b] w K:=by
 have n:=pow16 h s;have o:=pow16 h u;have E:=pow4 l h;refine ze {} Tryz.func429 ?_;refine zj λb1 w1 v e y j=>?_;refine zj λb2 w2 x d z g=>?_;have p:=j.ext d;simp only[push_cast,g.ld1];refine zb (λr=>?_) (λr=>?_)
 .simp only[push_cast,p.ldAgg (t:=zg) zr];refine ones_spec l h λC c=>m _ _ ((e.trans d).trans c) oM ?_;have:b=0:=oM;subst this;rw[Gn oM];simp[M.binN]
 .refine zd λC c _=>?_;have A:=p.ext c;have q:=g.ext c;simp only[push_cast,A.ldAgg (t:=zg) zr,q.ldAgg (t:=zg) zr,y1];refine raw_spec oM λF f=>?_;have B:=q.ext f;simp only[push_cast,B.ldAgg (t:=zg) zr,y1,V1];refine raw_spec oM λG i=>?_;have D:a/b<=a:=Gx _ _;rw[kz oM,show(a:Int).tdiv (b:Int)=((a/b:Nat):Int) from rfl,wrapU oM];refine⟨rfl,m _ _ ((((e.trans d).trans c).trans f).trans i) oM ?_⟩;rw[Gn oM];simp[M.binN,show b≠0 by omega]
theorem binaries_8_spec {k a b:Nat} (r:1<=k) (h:k<=4) (s:a<2^k) (u:b<2^k) (l:OpR K w 10 k a b):vcall xi #[qd k a,qd k b] w K:=by
 have m:=pow16 h s;have n:=pow16 h u;have E:=pow4 r h;refine ze {} Tryz.func430 ?_;refine zj λb1 w1 v e y j=>?_;refine zj λb2 w2 x d z g=>?_;have o:=j.ext d;simp only[push_cast,g.ld1];refine zb (λq=>?_) (λq=>?_)
 .simp only[push_cast,o.ldAgg (t:=zg) zr];refine raw_spec oM λC c=>l _ _ ((e.trans d).trans c) oM ?_;have:b=0:=oM;subst this;rw[Gn oM];simp[M.binN]
 .refine zd λC c _=>?_;have A:=o.ext c;have p:=g.ext c;simp only[push_cast,A.ldAgg (t:=zg) zr,p.ldAgg (t:=zg) zr,y1];refine raw_spec oM λF f=>?_;have B:=p.ext f;simp only[push_cast,B.ldAgg (t:=zg) zr,y1,V1];refine raw_spec oM λG i=>?_;have D:a%b<=a:=Nat.mod_le _ _;rw[Z3 oM,show(a:Int).tmod (b:Int)=((a%b:Nat):Int) from rfl];refine⟨rfl,l _ _ ((((e.trans d).trans c).trans f).trans i) oM ?_⟩;rw[Gn oM];simp[M.binN,show b≠0 by omega]
theorem binaries_9_spec {k a b:Nat} (g:1<=k) (e:k<=4) (h:a<2^k) (i:b<2^k) (j:OpR K w 11 k a b):vcall xh #[qd k a,qd k b] w K:=by
 have c:=pow16 e h;have d:=pow16 e i;have l:=pow4 g e;refine ze {} Tryz.func431 ?_;refine pre2 c d λw1 he=>?_;have hm:=shl_small c d;rw[vbin_shlU oM oM];exact⟨rfl,j _ _ he oM (bin_ck (f:=λk a b=>a*2^b) (by decide+kernel) g e h i)⟩
theorem binaries_10_spec {k a b:Nat} (g:1<=k) (e:k<=4) (h:a<2^k) (i:b<2^k) (j:OpR K w 12 k a b):vcall xd #[qd k a,qd k b] w K:=by
 have c:=pow16 e h;have d:=pow16 e i;have l:=pow4 g e;refine ze {} Tryz.func432 ?_;refine pre2 c d λw1 he=>?_;have hm:=Gx a (2^b);rw[vbin_shrU oM];exact⟨rfl,j _ _ he oM (bin_ck (f:=λk a b=>a/2^b) (by decide+kernel) g e h i)⟩
theorem binaries_11_spec {k a b:Nat} (h:1<=k) (d:k<=4) (i:a<2^k) (p:b<2^k) (s:OpR K w 13 k a b):vcall xc #[qd k a,qd k b] w K:=by
 have o:=pow16 d i;have q:=pow16 d p;have B:=pow4 h d;refine ze {} Tryz.func433 ?_;refine zj λb1 w1 u j x m=>?_;refine zj λb2 w2 v e y n=>?_;refine zd λC c _=>?_;have z:=(m.ext e).ext c;have r:=n.ext c;simp only[push_cast,z.ldAgg (t:=zg) zr,r.ldAgg (t:=zg) zr,y1];refine stretched_spec h d i λD g=>?_;have A:=r.ext g;simp only[push_cast,A.ldAgg (t:=zg) zr,y1,V1];refine raw_spec oM λE l=>?_;have hs:=strN_lt h d i;have hm:=Gx (Yw0 k a) (2^b);rw[vbin_shrU oM];exact⟨rfl,s _ _ ((((j.trans e).trans c).trans g).trans l) oM (bin_ck (f:=λk a b=>Yw0 k a/2^b) (by decide+kernel) h d i p)⟩
end
section
variable {w:World} {K:oK} {F:oA}
theorem VecSigned_spec {wd n:Int} (g:∀w',Ext w w'->K (nI (if M.vok wd n=true then M.sgn wd n else 0)) w'):vcall Jd #[qd wd n] w K:=by
 refine ze {} Tryz.func438 ?_;refine zj λb1 w1 v c x m=>?_;simp only[push_cast,m.ldAgg (t:=zg) zr];refine VecOk_spec λw2 b=>?_;have s:=m.ext b;refine oZ ?_;refine zn (λh=>?_) (λh=>?_)
 .have:=g w2 (c.trans b)
  grind
 .rw[gU] at h;rw[y3 h] at g;obtain⟨k,a,rfl,rfl,p,q,u⟩:=M.vok_nat h;have A:=pow4 p q;refine zd λE d _=>?_;have i:=s.ext d;have l:IntKind.i64.wrap ((k:Int)-1)=((k-1:Nat):Int):=(by grind [zk]);simp only[push_cast,i.ldAgg (t:=zg) zr,i.ld0,y1,l];refine raw_spec oM λy e=>?_;have j:=i.ext e;simp only[push_cast,j.ld0,y1,l,V1];refine bit_spec oM oM ?_;rw[top_bit p q u];have C:=(Wi k).symm;have D:(2:Int)^((k:Int).toNat-1)=((2^(k-1):Nat):Int):=(by simp);have B:2^(k-1)<2^k:=Nat.pow_lt_pow_right oM oM;refine zb (λr=>?_) (λr=>?_)
  .refine zd λz f _=>?_;have o:=j.ext f;simp only[push_cast,o.ld0,o.ld1,y1];rw[show(1:Int)=((1:Nat):Int) from rfl,vbin_shlI oM oM,p5];refine⟨rfl,?_⟩;rw[Y8,zk oM oM];refine⟨rfl,?_⟩;have:=g z ((((c.trans b).trans d).trans e).trans f)
   grind [M.sgn]
  .simp only[push_cast,j.ld1];have:=g y (((c.trans b).trans d).trans e)
   grind [M.sgn]
theorem VecUn_spec {op wd n:Int} (q:∀w',Ext w w'->K (.tuple #[qd (M.vecUn op wd n).1.1 (M.vecUn op wd n).1.2,.bool (M.vecUn op wd n).2]) w'):vcall y60 #[nI op,qd wd n] w K:=by
 refine ze {} Tryz.func416 ?_;refine zj λb1 w1 G r I E=>?_;refine zi zX λb2 w2 H m J g2=>?_;have B:=E.ext m;simp only[push_cast,B.ldAgg (t:=zg) zr];refine VecOk_spec λL g=>?_;have C:=B.ext g;have g3:=g2.ext g;have F:=(r.trans m).trans g;have f:∀j o,Ext L j->Same (· =b2) j o->Ext w o:=λj o h D=>Ext.then (F.trans h) D λy R=>oM
 simp only[push_cast];unfold M.vecUn at q;refine zn (λs=>?_) (λs=>?_)
 .refine stVec g3 λj u _ g4=>?_;rw[g4.lv rK]
  grind [Same.refl]
 .rw[gU] at s;obtain⟨k,a,rfl,rfl,v,x,O⟩:=M.vok_nat s;have Q:=pow4 v x;refine zb (λA=>?_) (λA=>?_)
  .subst A;refine zd λj b _=>?_;have l:=C.ext b;simp only[push_cast,l.ldAgg (t:=zg) zr,y1];refine raw_spec oM λo c=>?_;have p:=l.ext c;have g5:=(g3.ext b).ext c;simp only[push_cast,p.ldAgg (t:=zg) zr,y1,V1];rw[vun_xorU oM];refine⟨rfl,vec_spec oM v x λN d=>?_⟩;refine stVec (g5.ext d) λz i _ g7=>?_;rw[g7.lv rK];have:=q z (f _ _ ((b.trans c).trans d) i)
   grind [M.unM_not]
  refine zb (λa2=>?_) (λa2=>?_)
  .subst a2;refine zd λj b _=>?_;have l:=C.ext b;simp only[push_cast,l.ldAgg (t:=zg) zr,y1];refine raw_spec oM λo c=>?_;have p:=l.ext c;have g5:=(g3.ext b).ext c;have e:IntKind.u64.wrap (0-(a:Int))=((if a=0 then 0 else 18446744073709551616-a:Nat):Int):=by
    simp only[IntKind.wrap,IntKind.bits,IntKind.signed,GM,gZ,if_false]
    grind
   simp only[push_cast,p.ldAgg (t:=zg) zr,y1,V1];rw[e];refine vec_spec (by grind) v x λN d=>?_;refine stVec (g5.ext d) λz i _ g7=>?_;rw[g7.lv rK];have:=q z (f _ _ ((b.trans c).trans d) i)
   grind [M.unM_neg]
  .refine stVec g3 λj u _ g4=>?_;rw[g4.lv rK]
   grind [Same.refl]
theorem binaries_spec (i:∀w',Ext w w'->K (.agg ⟨[.nilFunc,.nilFunc,.nilFunc,.func (.func xp) #[] #[],.func (.func xo) #[] #[],.func (.func xn) #[] #[],.func (.func xm) #[] #[],.func (.func xl) #[] #[],.func (.func xk) #[] #[],.func (.func xj) #[] #[],.func (.func xi) #[] #[],.func (.func xh) #[] #[],.func (.func xd) #[] #[],.func (.func xc) #[] #[]]⟩) w'):vcall Kb #[] w K:=by
 refine ze {} Tryz.func422 ?_;have h:yg xe (.agg ⟨[.nilFunc,.nilFunc,.nilFunc,.nilFunc,.nilFunc,.nilFunc,.nilFunc,.nilFunc,.nilFunc,.nilFunc,.nilFunc,.nilFunc,.nilFunc,.nilFunc]⟩):=by unfold yg;kernel_rfl
 refine zi h λb1 w1 d e f b=>?_;refine⟨_,w1,run_build (P:=P) w1 _ _ ⟨[.nilFunc,.nilFunc,.nilFunc,.func (.func xp) #[] #[],.func (.func xo) #[] #[],.func (.func xn) #[] #[],.func (.func xm) #[] #[],.func (.func xl) #[] #[],.func (.func xk) #[] #[],.func (.func xj) #[] #[],.func (.func xi) #[] #[],.func (.func xh) #[] #[],.func (.func xd) #[] #[],.func (.func xc) #[] #[]]⟩ rK,?_⟩;refine b.stAgg rfl rK (by intro v a;simp only[gg,gx,Ge] at a;rcases a with rfl|rfl|rfl|rfl|rfl|rfl|rfl|rfl|rfl|rfl|rfl|rfl|rfl|rfl<;>rfl) λw2 g _ c=>?_;rw[c.lv rK]
 grind [Ext.then]
theorem bin_all {op k a b:Nat} (j:3<=op) (i:op<=13) (g:1<=k) (h:k<=4) (e:a<2^k) (f:b<2^k) {K:oK} {w w0:World} (hw:w0=w) (c:OpR K w op k a b) {N:oK}
  (d:∀x,vcallv x #[qd k a,qd k b] w K->N x w):
  qM0 xe (.agg ⟨[.nilFunc,.nilFunc,.nilFunc,.func (.func xp) #[] #[],.func (.func xo) #[] #[],.func (.func xn) #[] #[],.func (.func xm) #[] #[],.func (.func xl) #[] #[],.func (.func xk) #[] #[],.func (.func xj) #[] #[],.func (.func xi) #[] #[],.func (.func xh) #[] #[],.func (.func xd) #[] #[],.func (.func xc) #[] #[]]⟩) (nI op) w N:=by
 rcases(by omega:op=3\/op=4\/op=5\/op=6\/op=7\/op=8\/op=9\/op=10\/op=11\/op=12\/op=13) with rfl|rfl|rfl|rfl|rfl|rfl|rfl|rfl|rfl|rfl|rfl
 .exact⟨.func (.func xp) #[] #[],w,rK,d (.func (.func xp) #[] #[]) (binaries_1_spec g h e f c)⟩
 .exact⟨.func (.func xo) #[] #[],w,rK,d (.func (.func xo) #[] #[]) (binaries_2_spec g h e f c)⟩
 .exact⟨.func (.func xn) #[] #[],w,rK,d (.func (.func xn) #[] #[]) (binaries_3_spec g h e f c)⟩
 .exact⟨.func (.func xm) #[] #[],w,rK,d (.func (.func xm) #[] #[]) (binaries_4_spec g h e f c)⟩
 .exact⟨.func (.func xl) #[] #[],w,rK,d (.func (.func xl) #[] #[]) (binaries_5_spec g h e f c)⟩
 .exact⟨.func (.func xk) #[] #[],w,rK,d (.func (.func xk) #[] #[]) (binaries_6_spec g h e f c)⟩
 .exact⟨.func (.func xj) #[] #[],w,rK,d (.func (.func xj) #[] #[]) (binaries_7_spec g h e f c)⟩
 .exact⟨.func (.func xi) #[] #[],w,rK,d (.func (.func xi) #[] #[]) (binaries_8_spec g h e f c)⟩
 .exact⟨.func (.func xh) #[] #[],w,rK,d (.func (.func xh) #[] #[]) (binaries_9_spec g h e f c)⟩
 .exact⟨.func (.func xd) #[] #[],w,rK,d (.func (.func xd) #[] #[]) (binaries_10_spec g h e f c)⟩
 .exact⟨.func (.func xc) #[] #[],w,rK,d (.func (.func xc) #[] #[]) (binaries_11_spec g h e f c)⟩
theorem VecBin_spec {op wd n v m:Int} (G:∀w',Ext w w'->K (.tuple #[qd (M.vecBin op wd n v m).1.1 (M.vecBin op wd n v m).1.2,.bool (M.vecBin op wd n v m).2]) w'):vcall Um #[nI op,qd wd n,qd v m] w K:=by
 refine ze {cuts:=[(8195,[]),(36874,[])]} Tryz.func421 ?_;refine zj λb1 w1 a7 J ab h1=>?_;refine zj λb2 w2 a8 B ac g2=>?_;refine zi zX λb3 U a9 D ad r3=>?_;have hE:=(J.trans B).trans D;have ah:=J.size;have ai:=B.size;have h3:=(h1.ext B).ext D;have g3:=g2.ext D;have N:∀p s,Ext U p->Same (· =b3) p s->Ext w s:=λp s h h'=>Ext.then (hE.trans h) h' λy hy=>oM
 have d:(M.vecBin op wd n v m)=((0,0),false)->∀p,Ext U p->zT zg (oP b3 0) (qd 0 0) p λ_ s=>vlv zg (oP b3 0) s λr w6=>K (.tuple #[r,.bool false]) w6:=by
  intro e p c;refine stVec (r3.ext c) λs af _ T=>?_;rw[T.lv rK]
  grind
 refine zo (λu p=>u=[]/\Ext U p/\M.vok wd n=true/\M.vok v m=true) (λC hC=>?_) ?_
 .simp only[push_cast,h3.ldAgg (t:=zg) zr];refine VecOk_spec λp c=>?_;have g4:=g3.ext c;refine oZ ?_;refine zn (λhv=>d ?_ _ c) (λhv=>?_)
  .simp_all[M.vecBin]
  .simp only[push_cast,g4.ldAgg (t:=zg) zr];refine VecOk_spec λs i=>?_;refine oZ ?_;refine zn (λA=>d ?_ _ (c.trans i)) (λA=>?_)
   .simp_all[M.vecBin]
   .exact hC _ _ ⟨rfl,c.trans i,by grind,by grind⟩
 .rintro u g p ⟨rfl,c,O,A⟩;have X:=h3.ext c;have g4:=g3.ext c;have r4:=r3.ext c;obtain⟨k,a,rfl,rfl,k1,k4,Z⟩:=M.vok_nat O;obtain⟨l,b,rfl,rfl,l1,S,hb⟩:=M.vok_nat A;have H:=pow16 k4 Z;have a6:=pow16 S hb;unfold M.vecBin at G d;rw[y3 ⟨O,A⟩] at G d;refine oZ ?_;refine zb (λV=>?_) (λV=>?_)
  .rw[y3 V] at G d;refine zd λs i _=>?_;have Y:=X.ext i;have g5:=g4.ext i;have T:=r4.ext i;have hm:a*2^l<=524288:=shl_small H oM;have e1:IntKind.i64.wrap ((k:Int)+(l:Int))=((k+l:Nat):Int):=(by grind [zk]);have eS:∀(w:World) (K:oK),qG .shl zV false (nI (a:Int)) (nI (l:Int)) w K=K (nI (a*2^l:Nat)) w:=λw K=>vbin_shlI oM oM;have eO:∀(w:World) (K:oK),qG .or zV false (nI ((a*2^l:Nat):Int)) (nI (b:Int)) w K=K (nI (a*2^l|||b:Nat)) w:=λw K=>vbin_orI oM oM;have eC:=M.cat_or S k4 Z hb;obtain⟨q,hq⟩:∃q,q=a*2^l:=⟨_,rfl⟩;obtain⟨z,hz⟩:∃z,z=q|||b:=⟨_,rfl⟩;rw[<-hq] at eS eO eC;rw[<-hz] at eO eC;simp only[push_cast,Y.ld0,Y.ld1,g5.ld0,g5.ld1,y1,e1,eS,eO];refine zi zX λb4 w6 aa f ae p6=>?_;have F:=Y.ext f;have g6:=g5.ext f;have r6:=T.ext f;simp only[push_cast,F.ld0,F.ld1,g6.ld0,g6.ld1,y1,e1,eS,eO,V1];refine stVec p6 λw7 R _ p7=>?_;have I:b3≠b4:=by have:=T.lt;omega
   have r7:=r6.same R I;have j:Ext U w7:=Ext.then ((c.trans i).trans f) R λy hy=>by subst hy;have:=(c.trans i).size;omega
   simp only[push_cast,p7.ld0];refine zb (λa2=>d ?_ _ j) (λa2=>?_)
   .grind
   .simp only[push_cast,p7.ldAgg (t:=zg) zr];refine stVec r7 λw8 ag _ r8=>?_;rw[r8.lv rK]
    grind
  .rw[y0 V] at G d;refine zo (λu s=>u=[]/\s=p/\3<=op/\op<=13/\(k:Int)=l) (λC hC=>?_) ?_
   .refine zb (λa2=>d (by grind) _ c) (λa2=>?_);refine zb (λa3=>d (by grind) _ c) (λa3=>?_);simp only[push_cast,X.ld0,g4.ld0];refine zb (λa4=>d (by grind) _ c) (λa4=>?_)
    grind
   .rintro u g s ⟨rfl,rfl,c3,W,ckl⟩;have:l=k:=oM;subst this;refine zd λw6 f _=>?_;have F:=X.ext f;have g6:=g4.ext f;simp only[push_cast,F.ldAgg (t:=zg) zr,g6.ldAgg (t:=zg) zr,y1];refine binaries_spec λw7 j=>?_;have h7:=F.ext j;have g7:=g6.ext j;simp only[push_cast,h7.ldAgg (t:=zg) zr,g7.ldAgg (t:=zg) zr,y1,V1];obtain⟨o,rfl⟩:∃o:Nat,op=o:=⟨op.toNat,oM⟩;refine bin_all oM oM l1 S Z hb rfl ?_ λx hx=>⟨rfl,hx⟩;intro w8 r E hr a0;have h8:=h7.ext E;simp only[push_cast,h8.ldAgg (t:=zg) zr,y1,V1];refine vec_spec hr l1 S λw9 L=>?_;have r9:=(((r4.ext f).ext j).ext E).ext L;refine stVec r9 λw10 Q _ a5=>?_;rw[a5.lv rK];have:=G w10 (N _ _ ((((c.trans f).trans j).trans E).trans L) Q);rw[y3 ⟨c3,W,rfl⟩] at this;rw[a0];exact this
theorem eqVec {a b c d:Int} {t:Bool}:qG .eql zg t (qd a b) (qd c d) w K=K (.bool (decide (a=c/\b=d))) w:=by
 refine yq (run_eqGuard_agg w _ _ _ _ _ _ rK) ?_;have h:(P.fieldsOf zg).toList=[(P.fieldsOf zg).getD 0 default,(P.fieldsOf zg).getD 1 default]:=rK
 have e:((P.fieldsOf zg).getD 0 default).name≠ "_" :=by decide+kernel
 have f:((P.fieldsOf zg).getD 1 default).name≠ "_" :=by decide+kernel
 have i0:P.underlying ((P.fieldsOf zg).getD 0 default).type=some (.int .i64):=rK
 have i1:P.underlying ((P.fieldsOf zg).getD 1 default).type=some (.int .i64):=rK
 have g:∀x y:Value,(part ((P.fieldsOf zg).getD 0 default).type ⟨[x,y]⟩ ((P.fieldsOf zg).getD 0 default).offset).run P w= .ok x w:=λx y=>rK
 have p1:∀x y:Value,(part ((P.fieldsOf zg).getD 1 default).type ⟨[x,y]⟩ ((P.fieldsOf zg).getD 1 default).offset).run P w= .ok y w:=λx y=>rK
 have i:(Op.equalIn 10000 zg (qd a b) (qd c d)).run P w= .ok (decide (a=c/\b=d)) w:=by
  rw[run_equalIn_struct w 9999 zg _ _ rK rK,h];generalize (P.fieldsOf zg).getD 0 default=f0 at e i0 g⊢;generalize (P.fieldsOf zg).getD 1 default=f1 at f i1 p1⊢;simp only[Op.eqFields,y3 e,y3 f,Sem.run_bind,g,p1,Result.andThen_ok,run_equalIn_int w 9998 _ _ _ _ _ i0,run_equalIn_int w 9998 _ _ _ _ _ i1];by_cases j:a=c
  .by_cases k:b=d
   .simp_all[run_equalIn_int]
   simp_all[run_equalIn_int]
  simp_all
 rw[run_eql_struct,i];rfl
theorem VecCmp_spec {op wd n v m:Int} (i:∀w',Ext w w'->K (.tuple #[.bool (M.vecCmp op wd n v m).1,.bool (M.vecCmp op wd n v m).2]) w'):vcall Ul #[nI op,qd wd n,qd v m] w K:=by
 refine ze {cuts:=[(8195,[])]} Tryz.func437 ?_;refine zj λb1 w1 A s D y=>?_;refine zj λb2 w2 B j E g2=>?_;have o:=s.trans j;have p:=y.ext j;have f:(M.vecCmp op wd n v m)=(false,false)->∀d,Ext w2 d->K (.tuple #[.bool false,.bool false]) d:=by
  intro e d a;have:=i d (o.trans a)
  grind
 refine zo (λu d=>u=[]/\Ext w2 d/\M.vok wd n=true/\M.vok v m=true/\wd=v) (λC z=>?_) ?_
 .simp only[push_cast,p.ldAgg (t:=zg) zr];refine VecOk_spec λd a=>?_;have g4:=g2.ext a;refine oZ ?_;refine zn (λF=>f ?_ _ a) (λF=>?_)
  .simp_all[M.vecCmp]
  .simp only[push_cast,g4.ldAgg (t:=zg) zr];refine VecOk_spec λG b=>?_;have g5:=g4.ext b;have r:=(p.ext a).ext b;refine oZ ?_;refine zn (λc=>f ?_ _ (a.trans b)) (λc=>?_)
   .simp_all[M.vecCmp]
   .simp only[push_cast,r.ld0,g5.ld0];refine zb (λl=>f ?_ _ (a.trans b)) (λl=>?_)
    .simp_all[M.vecCmp]
    .exact z _ _ ⟨rfl,a.trans b,by grind,by grind,oM⟩
 .rintro u g d ⟨rfl,a,h,c,rfl⟩;have q:=p.ext a;have g4:=g2.ext a;unfold M.vecCmp at i f;refine oZ ?_;refine zb (λl=>?_) (λl=>?_)
  .subst l;simp only[push_cast,q.ldAgg (t:=zg) zr,g4.ldAgg (t:=zg) zr];rw[eqVec];have:=i d (o.trans a)
   grind [M.cmpM]
  refine zb (λa2=>?_) (λa2=>?_)
  .subst a2;simp only[push_cast,q.ld1,g4.ld1];have:=i d (o.trans a);rw[y3 ⟨h,c,rfl,oM,oM⟩] at this;exact this
  refine zb (λa3=>?_) (λa3=>?_)
  .subst a3;refine zd λG b _=>?_;have r:=q.ext b;have g5:=g4.ext b;simp only[push_cast,r.ldAgg (t:=zg) zr,g5.ldAgg (t:=zg) zr,y1];refine VecSigned_spec λI k=>?_;have g6:=g5.ext k;simp only[push_cast,g6.ldAgg (t:=zg) zr,y1,V1];refine VecSigned_spec λH x=>?_;simp only[push_cast,y3 h,y3 c,y1];have:=i H (((o.trans a).trans b).trans (k.trans x));rw[y3 ⟨h,c,rfl,oM,oM⟩] at this;exact this
  grind
theorem VecCut_spec {wd n hi lo:Int} (i:∀w',Ext w w'->K (.tuple #[qd (M.vecCut wd n hi lo).1.1 (M.vecCut wd n hi lo).1.2,.bool (M.vecCut wd n hi lo).2]) w'):vcall Uk #[qd wd n,nI hi,nI lo] w K:=by
 refine ze {cuts:=[(8195,[])]} Tryz.func446 ?_;refine zj λb1 w1 O j R J=>?_;refine zi zX λb3 B Q m S F=>?_;have L:=j.trans m;have W:=j.size;have v:=J.ext m;have p:∀c f,Ext B c->Same (· =b3) c f->Ext w f:=λc f h I=>Ext.then (L.trans h) I λy hy=>oM
 have d:(M.vecCut wd n hi lo)=((0,0),false)->∀c,Ext B c->zT zg (oP b3 0) (qd 0 0) c λ_ f=>vlv zg (oP b3 0) f λr D=>K (.tuple #[r,.bool false]) D:=by
  intro e c b;refine stVec (F.ext b) λf U _ Z=>?_;rw[Z.lv rK]
  grind
 unfold M.vecCut at i d;refine zo (λu c=>u=[]/\Ext B c/\M.vok wd n=true/\0<=lo/\lo<=hi/\hi<wd) (λC hC=>?_) ?_
 .simp only[push_cast,v.ldAgg (t:=zg) zr];refine VecOk_spec λc b=>?_;have x:=v.ext b;refine oZ ?_;refine zn (λs=>d ?_ _ b) (λs=>?_)
  .grind
  refine zb (λG=>d (y0 oM) _ b) (λG=>?_);refine zb (λa2=>d (y0 oM) _ b) (λa2=>?_);simp only[push_cast,x.ld0]
  grind [zb]
 .rintro u g c ⟨rfl,b,s,c1,c2,c3⟩;have x:=v.ext b;have Y:=F.ext b;obtain⟨k,a,rfl,rfl,k1,X,N⟩:=M.vok_nat s;obtain⟨l,rfl⟩:∃l:Nat,lo=l:=⟨lo.toNat,oM⟩;obtain⟨t,T⟩:∃t:Nat,hi-(l:Int)+1=t:=⟨(hi-l+1).toNat,oM⟩;have E:=pow16 X N;have H:IntKind.i64.wrap (IntKind.i64.wrap (hi-(l:Int))+1)=(t:Int):=(by grind [zk]);simp only[push_cast,x.ldAgg (t:=zg) zr,H];refine raw_spec oM λf o=>?_;have hd:=Gx a (2^l);rw[vbin_shrU oM];refine cut_spec oM oM oM ?_;have hm:=Nat.mod_le (a/2^l) (2^t);have q:M.cutM (a:Int) hi (l:Int)=((a/2^l%2^t:Nat):Int):=by
   unfold M.cutM
   grind
  rw[y3 ⟨s,c1,c2,c3⟩] at i;simp only[q,T] at i;obtain⟨z,V⟩:∃z,z=a/2^l%2^t:=⟨_,rfl⟩;rw[<-V] at hm i⊢;rw[jh JC J0,wrapN oM];refine oZ ?_;refine stVec (Y.ext o) λD A _ r6=>?_;rw[r6.lv rK];exact i D (p _ _ (b.trans o) A)
end
section
variable {w:World} {K:oK} {F G:oA}
@[push_cast] theorem tn0:(0:Int).toNat=0:=rfl
@[push_cast] theorem tn1:(1:Int).toNat=1:=rfl
@[push_cast] theorem tn2:(2:Int).toNat=2:=rfl
theorem kc0 {α:Type} (xs:List α) (d:α) (p:α->Bool):(List.range xs.length).any (λi=>p (xs.getD i d))=xs.any p:=by
 rw[PV,G8,G8];constructor
 .rintro⟨i,hi,a⟩;exact⟨_,M.getD_mem (gJ.1 hi) d,a⟩
 .rintro⟨x,b,a⟩;obtain⟨i,hi,rfl⟩:=gn b;exact⟨i,gJ.2 hi,by rw[y2,V0 hi];exact a⟩
abbrev DclV (d:M.Dcl):Value:= .agg ⟨[.string d.1,nI d.2]⟩
abbrev xC0:M.Dcl:=(M.nada,0)
theorem IndexFunc_Decl {v f:Value} {ds:List M.Dcl} {p:Nat->Bool} (e:DclsR F w v ds) (m:∀i,i<ds.length->FnB w f #[DclV (ds.getD i xC0)] (p i))
  (k:∀w',Ext w w'->K (nI (idxI ds.length p)) w'):vcall qi #[v,f] w K:=by
 refine ze {loops:=[(2,[8])]} Tryz.func183 ?_;simp(disch:=exact oS) only[push_cast,e.len];have hlen:=e.small;refine vloop_up ds.length (λi u w'=>u=[nI i]/\Ext w w'/\∀j,j<i->p j=false) ⟨rfl,Same.refl _ _,oM⟩ ?_;rintro i _ g w1 C hi ⟨rfl,he,d⟩ l;refine oZ ?_;refine zb (λq=>?_) (λn=>?_)
 .have b:=e.ext he;simp(disch:=exact oS) only[push_cast,b.iaddr,b.load];refine m i oM w1 _ he λw2 a=>zn (λc=>?_) (λc=>?_)
  .have:=k w2 (he.trans a);rwa[idxI_some oM c d] at this
  .rw[inc64' oM];exact l oM _ _ ⟨rfl,he.trans a,λj o=>by
    by_cases h:j=i
    .subst h;exact c
    .exact d j oM⟩
 .have:=k w1 he;rwa[Kr (λj o=>d j oM)] at this
theorem QN {v f:Value} {ds:List M.Dcl} {p:Nat->Bool} (c:DclsR F w v ds) (b:∀i,i<ds.length->FnB w f #[DclV (ds.getD i xC0)] (p i))
  (a:∀w',Ext w w'->K (.bool ((List.range ds.length).any p)) w'):vcall xV #[v,f] w K:=by
 refine ze {} Tryz.func122 ?_;refine IndexFunc_Decl c b λw' he=>?_;simp only[push_cast,Xf];exact a w' he
theorem YT {b:Bool} (a:K (nI (M.b2i b)) w):vcall Uh #[.bool b] w K:=by
 refine ze {} Tryz.func264 ?_;refine zn (λh=>?_) (λh=>?_)<;>subst h<;>exact a
theorem Z8 {b:Bool} {s:Int} (a:K (nI (if b=true then s else-1)) w):vcall Zc #[.bool b,nI s] w K:=by
 refine ze {} Tryz.func415 ?_;refine zn (λh=>?_) (λh=>?_)<;>subst h<;>exact a
theorem j4 {p:Prop} [Decidable p] {s:Int} (a:K (nI (if p then s else-1)) w):vcall Zc #[.bool (decide p),nI s] w K:=
 Z8 (by simpa using a)
theorem jU {s:Int} (a:K (nI (-1)) w):vcall Zc #[.bool false,nI s] w K:=Z8 a
theorem qO {s:ByteArray} {n:Int} (c:∀w',Ext w w'->K (nI n) w'):vcall ym #[.agg ⟨[.string s,nI n]⟩] w K:=by
 refine ze {} Tryz.func411 ?_;refine zj λb1 w1 d a e b=>?_;simp only[push_cast,b.ld1];exact c _ a
abbrev KV (s:ByteArray) (n:Int):Value:= .agg ⟨[.string s,nI n]⟩
theorem unKind_sort_spec {s:ByteArray} {n:Int} {dv tv kv:Value} {t:M.Tm} {xs:oI} (k:TermR F w tv t) (l:Ints G w kv xs) (p:xs.length=1)
  (e:∀w',Ext w w'->K (nI (if 0<xs.getD 0 0 then xs.getD 0 0 else-1)) w'):vcall kA #[KV s n,dv,tv,kv] w K:=by
 refine ze {} Tryz.func413 ?_;obtain⟨ksv,rfl,h⟩:=k;refine zj λb1 w1 f a i m=>?_;refine zj λb2 w2 g b j o=>?_;refine zd λq c _=>?_;have d:=l.ext ((a.trans b).trans c);simp(disch:=exact oS) only[push_cast,d.iaddr,d.load,y1];exact j4 (e _ ((a.trans b).trans c))
theorem binKind_sort_spec {s:ByteArray} {n:Int} {dv tv kv:Value} {t:M.Tm} {xs:oI} (m:TermR F w tv t) (o:Ints G w kv xs) (r:xs.length=2)
  (g:∀w',Ext w w'->K (nI (if 0<xs.getD 0 0/\xs.getD 0 0=xs.getD 1 0 then xs.getD 0 0 else-1)) w'):vcall kg #[KV s n,dv,tv,kv] w K:=by
 refine ze {} Tryz.func452 ?_;obtain⟨ksv,rfl,j⟩:=m;refine zj λb1 w1 h b k p=>?_;refine zj λb2 w2 i c l q=>?_;refine zd λu d _=>?_;have e:=o.ext ((b.trans c).trans d);have f:=g _ ((b.trans c).trans d);simp(disch:=exact oS) only[push_cast,e.iaddr,e.load,y1];refine zb (λa=>?_) (λa=>?_)
 .refine j4 ?_;simpa only[a,y1] using f
 .refine jU ?_;simpa only[a,false_and,if_false] using f
theorem cmpKind_sort_spec {s:ByteArray} {n:Int} {dv tv kv:Value} {t:M.Tm} {xs:oI} (m:TermR F w tv t) (o:Ints G w kv xs) (r:xs.length=2)
  (g:∀w',Ext w w'->K (nI (if 0<xs.getD 0 0/\xs.getD 0 0=xs.getD 1 0 then 0 else-1)) w'):vcall kc #[KV s n,dv,tv,kv] w K:=by
 refine ze {} Tryz.func435 ?_;obtain⟨ksv,rfl,j⟩:=m;refine zj λb1 w1 h b k p=>?_;refine zj λb2 w2 i c l q=>?_;refine zd λu d _=>?_;have e:=o.ext ((b.trans c).trans d);have f:=g _ ((b.trans c).trans d);simp(disch:=exact oS) only[push_cast,e.iaddr,e.load,y1];refine zb (λa=>?_) (λa=>?_)
 .refine j4 ?_;simpa only[a,y1] using f
 .refine jU ?_;simpa only[a,false_and,if_false] using f
theorem catKind_sort_spec {s:ByteArray} {n:Int} {dv tv kv:Value} {t:M.Tm} {xs:oI} (r:TermR F w tv t) (u:Ints G w kv xs) (y:xs.length=2) (h:∀i,-1<=xs.getD i 0/\xs.getD i 0<=4)
  (k:∀w',Ext w w'->K (nI (if 0<xs.getD 0 0/\0<xs.getD 1 0/\xs.getD 0 0+xs.getD 1 0<=4 then xs.getD 0 0+xs.getD 1 0 else-1)) w'):vcall ke #[KV s n,dv,tv,kv] w K:=by
 refine ze {} Tryz.func419 ?_;obtain⟨ksv,rfl,o⟩:=r;refine zj λb1 w1 l c p v=>?_;refine zj λb2 w2 m d q x=>?_;refine zd λB e _=>?_;have f:=u.ext ((c.trans d).trans e);have g:=k _ ((c.trans d).trans e);have z:=h 0;have A:=h 1;have j:IntKind.i64.wrap (xs.getD 0 0+xs.getD 1 0)=xs.getD 0 0+xs.getD 1 0:=zk oM oM;simp(disch:=exact oS) only[push_cast,f.iaddr,f.load,y1,j];refine zb (λa=>?_) (λa=>?_)
 .refine zb (λb=>?_) (λb=>?_)
  .refine j4 ?_;simpa only[a,b,y1] using g
  .refine jU ?_;simpa only[b,false_and,and_false,if_false] using g
 .refine jU ?_;simpa only[a,false_and,if_false] using g
theorem ifKind_sort_spec {s:ByteArray} {n:Int} {dv tv kv:Value} {t:M.Tm} {xs:oI} (m:TermR F w tv t) (o:Ints G w kv xs) (r:xs.length=3)
  (g:∀w',Ext w w'->K (nI (if xs.getD 0 0=0/\xs.getD 1 0=xs.getD 2 0 then xs.getD 1 0 else-1)) w'):vcall kB #[KV s n,dv,tv,kv] w K:=by
 refine ze {} Tryz.func447 ?_;obtain⟨ksv,rfl,j⟩:=m;refine zj λb1 w1 h b k p=>?_;refine zj λb2 w2 i c l q=>?_;refine zd λu d _=>?_;have e:=o.ext ((b.trans c).trans d);have f:=g _ ((b.trans c).trans d);simp(disch:=exact oS) only[push_cast,e.iaddr,e.load,y1];refine zb (λa=>?_) (λa=>?_)
 .refine j4 ?_;simpa only[a,y1] using f
 .refine jU ?_;simpa only[a,false_and,if_false] using f
theorem Q7 {s:ByteArray} {n:Int} {dv tv kv:Value} {t:M.Tm} (q:TermR F w tv t)
  (j:∀w',Ext w w'->K (nI (if M.vok t.a t.b=true then t.a else-1)) w'):vcall jX #[KV s n,dv,tv,kv] w K:=by
 refine ze {} Tryz.func439 ?_;obtain⟨ksv,rfl,m⟩:=q;refine zj λb1 w1 k f o r=>?_;refine zj λb2 w2 l g p h=>?_;refine zd λu c _=>?_;have e:=h.ext c;simp(disch:=exact oS) only[push_cast,e.ld1,e.ld2,y1];refine VecOk_spec λv d=>?_;have i:=e.ext d;simp(disch:=exact oS) only[push_cast,i.ld1,y1,V1];exact Z8 (j _ (((f.trans g).trans c).trans d))
theorem cutKind_sort_spec {s:ByteArray} {n:Int} {dv tv kv:Value} {t:M.Tm} {xs:oI} (y:TermR F w tv t) (z:Ints G w kv xs) (B:xs.length=1) (r:∀i,-1<=xs.getD i 0/\xs.getD i 0<=4)
  (m:∀w',Ext w w'->K (nI (if 0<=t.b/\t.b<=t.a/\t.a<xs.getD 0 0 then t.a-t.b+1 else-1)) w'):vcall k8 #[KV s n,dv,tv,kv] w K:=by
 refine ze {} Tryz.func444 ?_;obtain⟨ksv,rfl,q⟩:=y;refine zj λb1 w1 o e u A=>?_;refine zj λb2 w2 p f v l=>?_;refine zd λD d _=>?_;have g:=z.ext ((e.trans f).trans d);have j:=l.ext d;have h:=m _ ((e.trans f).trans d);have C:=r 0;simp(disch:=exact oS) only[push_cast,j.ld1,j.ld2,g.iaddr,g.load,y1];refine zb (λa=>?_) (λa=>?_)
 .refine zb (λb=>?_) (λb=>?_)
  .by_cases c:t.a<xs.getD 0 0
   .have k:IntKind.i64.wrap (IntKind.i64.wrap (t.a-t.b)+1)=t.a-t.b+1:=(by rw[zk (x:=t.a-t.b) oM oM,zk oM oM]);rw[k];refine j4 ?_;simpa only[a,b,c,y1] using h
   .refine j4 ?_;simpa only[c,and_false,if_false] using h
  .refine jU ?_;simpa only[b,false_and,and_false,if_false] using h
 .refine jU ?_;simpa only[a,false_and,if_false] using h
theorem XZ {s:ByteArray} {n:Int} {f dv tv kv:Value} {t:M.Tm} {xs:oI} (q:TermR F w tv t) (r:Ints G w kv xs)
  (c:∀w',Ext w w'->K (nI (if xs.any (λx=>decide (x≠0)) then-1 else 0)) w'):vcall jF #[.agg ⟨[.string s,nI n,f]⟩,dv,tv,kv] w K:=by
 refine ze {} Tryz.func449 ?_;obtain⟨ksv,rfl,l⟩:=q;refine zj λb1 w1 j a m u=>?_;refine zj λb2 w2 k b o v=>?_;have e:=r.ext (a.trans b);refine jq (p:=λi=>decide (xs.getD i 0≠0)) e (λi hi=>?_) λy d=>?_
 .rw[Kq (by simpa using hi)];intro w' K he c;refine oZ ?_;refine ze {} Tryz.func451 ?_;refine oZ ?_;have:=c _ (Same.refl _ _);simpa using this
 .have g:=c _ ((a.trans b).trans d);rw[y4,kc0 xs 0 (λx=>decide (x≠0))];refine oZ ?_;refine Z8 ?_;cases h:xs.any λx=>decide (x≠0)<;>rw[h] at g<;>exact g
theorem nameKind_sort_spec {s:ByteArray} {n:Int} {dv tv kv:Value} {t:M.Tm} {ds:List M.Dcl} (B:TermR F w tv t) (u:DclsR G w dv ds)
  (h:∀w',Ext w w'->K (nI (if M.findD ds t.s<0 then-1 else(ds.getD (M.findD ds t.s).toNat xC0).2)) w'):vcall jy #[KV s n,dv,tv,kv] w K:=by
 refine ze {} Tryz.func441 ?_;obtain⟨ksv,rfl,x⟩:=B;refine zj λb1 w1 o d y C=>?_;refine zj λb2 w2 q e z k=>?_;refine oZ ?_;have b:=u.ext (d.trans e);refine IndexFunc_Decl (p:=λi=>decide ((ds.getD i xC0).1=t.s)) b (λi hi=>?_) λD f=>?_
 .intro w' K he h;refine oZ ?_;refine ze {} Tryz.func443 ?_;refine zj λb3 E r g A l=>?_;have m:=(k.ext he).ext g;simp(disch:=exact oS) only[push_cast,l.ld0,m.ld3];exact h _ g
 .have v:=M.findD_lt ds t.s;have j:=h _ ((d.trans e).trans f);have c:=b.ext f;have efd:idxI ds.length (λi=>decide ((ds.getD i xC0).1=t.s))=M.findD ds t.s:=rfl;rw[efd];refine oZ ?_;refine zb (λa=>?_) (λa=>?_)
  .rwa[y3 a] at j
  .rw[y0 a] at j;simp(disch:=exact oS) only[push_cast,c.iaddr];simp(disch:=exact oS) only[push_cast,c.load1];exact j
end
section
variable {w:World} {K:oK} {F:oA}
theorem l1Max_spec {a b:Int} (c:K (nI (max a b)) w):vcall zX0 #[nI a,nI b] w K:=by
 refine ze {} Tryz.func146 ?_;refine oZ ?_;refine zb (λh=>?_) (λh=>?_)
 .rwa[show max a b=a by omega] at c
 .rwa[show max a b=b by omega] at c
theorem l1Min_spec {a b:Int} (c:K (nI (min a b)) w):vcall zW0 #[nI a,nI b] w K:=by
 refine ze {} Tryz.func134 ?_;refine oZ ?_;refine zb (λh=>?_) (λh=>?_)
 .rwa[show min a b=a by omega] at c
 .rwa[show min a b=b by omega] at c
theorem pow62 {k:Nat} (h:k<=62):2^k<=4611686018427387904:=gH (Gi oM h) dC
theorem l1Two_spec {n:Int} (h:n<=62) (l:K (nI ((2^n.toNat:Nat):Int)) w):vcall QV #[nI n] w K:=by
 refine ze {loops:=[(3,[3,4])]} Tryz.func120 ?_;refine vloop_up n.toNat (λi u w'=>u=[nI (2^i:Nat),nI i]/\w'=w) ⟨rfl,rfl⟩ ?_;rintro i _ _ w1 C hi ⟨rfl,rfl⟩ e;have m:=pow62 (k:=i) oM;have c:((2^i:Nat):Int)*2=((2^(i+1):Nat):Int):=by rw[Nat.pow_succ];omega
 have b:i<n.toNat->2^(i+1)<=4611686018427387904:=λh=>pow62 oM;obtain⟨q,g⟩:∃q,q=2^i:=⟨_,rfl⟩;obtain⟨j,d⟩:∃j,j=2^(i+1):=⟨_,rfl⟩;rw[<-g] at c m⊢;rw[<-d] at c e b;refine oZ ?_;refine zb (λa=>?_) (λa=>?_)
 .have f:=b oM;rw[c,zk oM oM,inc64' oM];exact e oM _ _ ⟨rfl,rfl⟩
 .have:i=n.toNat:=oM;subst this;rw[g];exact l
theorem l1Two_nat {n:Nat} (h:n<=62) (a:K (nI ((2^n:Nat):Int)) w):vcall QV #[nI (n:Int)] w K:=
 l1Two_spec oM (by rwa[gl])
theorem spec_VecOk_spec {wd n:Int} (j:∀w',Ext w w'->K (.bool (M.vok wd n)) w'):vcall y10 #[qd wd n] w K:=by
 refine ze {} Tryz.func119 ?_;refine zj λb1 w1 k f l h=>?_;refine zd λw2 c _=>?_;have e:=h.ext c;have i:=f.trans c;simp only[push_cast,e.ld0,e.ld1,y1];have a:=j w2 i;refine zb (λd=>?_) (λd=>?_)
 .refine zb (λa2=>?_) (λa2=>?_)
  .refine zb (λa3=>?_) (λa3=>?_)
   .refine l1Two_spec oM ?_;obtain⟨q,g⟩:∃q,q=2^wd.toNat:=⟨_,rfl⟩;have b:M.vok wd n=decide (n<(q:Nat)):=by
     simp only[M.vok,gu d,gu a2,gu a3,pJ];rw[g,Wi]
    rw[<-g];simp only[push_cast,e.ld1,y1,V1];rw[b] at a;exact a
   .have b:M.vok wd n=false:=(by simp only[M.vok,gj a3,pQ,GM]);rw[b] at a;exact a
  .have b:M.vok wd n=false:=(by simp only[M.vok,gj a2,pQ,GM]);rw[b] at a;exact a
 .have b:M.vok wd n=false:=(by simp only[M.vok,gj d,GM]);rw[b] at a;exact a
theorem l1Bit_spec {n k:Nat} (d:n<9223372036854775808) (b:k<=62) (a:K (nI ((n/2^k%2:Nat):Int)) w):vcall zY0 #[nI (n:Int),nI (k:Int)] w K:=by
 refine ze {} Tryz.func83 ?_;refine l1Two_nat b ?_;have e:0<2^k:=Nat.pow_pos oM;have c:n/2^k<=n:=Gx _ _;rw[kz oM,show(n:Int).tdiv ((2^k:Nat):Int)=((n/2^k:Nat):Int) from rfl,wrapN oM,Z3 oM,show((n/2^k:Nat):Int).tmod 2=((n/2^k%2:Nat):Int) from rfl];exact a
theorem l1Mod_spec {n:Int} {k:Nat} (h:1<=k) (j:k<=4) (q: -4611686018427387904<=n) (p:n<=4611686018427387904) (f:K (nI (n%(2^k:Nat))) w):vcall zV0 #[nI n,nI (k:Int)] w K:=by
 refine ze {} Tryz.func298 ?_;refine l1Two_nat oM ?_;have o:=pow4 h j;obtain⟨m,hm⟩:∃m,m=2^k:=⟨_,rfl⟩;rw[<-hm] at o f⊢;rw[Z3 oM];have g:m=2\/m=4\/m=8\/m=16:=by
  rcases(by omega:k=1\/k=2\/k=3\/k=4) with rfl|rfl|rfl|rfl<;>simp at hm<;>omega
 simp only[push_cast];by_cases l:0<=n
 .rw[pR l];have i:0<=n%(m:Int):=Int.emod_nonneg _ oM;refine zb (λa=>absurd a oM) (λa=>f)
 .obtain⟨b,rfl⟩:∃b:Nat,n= -(b:Int):=⟨(-n).toNat,oM⟩;rw[Int.neg_tmod,pR oM];have i:0<=(b:Int)%(m:Int):=Int.emod_nonneg _ oM;have h:(b:Int)%(m:Int)<m:=Int.emod_lt_of_pos _ oM;have e:(b:Int)%(m:Int)=0/\ -(b:Int)%(m:Int)=0\/0<(b:Int)%(m:Int)/\ -(b:Int)%(m:Int)= -((b:Int)%(m:Int))+m:=by
   rcases g with rfl|rfl|rfl|rfl<;>omega
  refine zb (λa=>?_) (λa=>?_)
  .rcases e with⟨d,c⟩|⟨d,c⟩
   .omega
   .rw[zk oM oM,<-c];exact f
  .rcases e with⟨d,c⟩|⟨d,c⟩
   .rw[d,show-(0:Int)=0 from rfl,<-c];exact f
   .omega
theorem l1Signed_spec {k a:Nat} (l:1<=k) (m:k<=4) (o:a<2^k) (i:∀w',Ext w w'->K (nI (M.sgn k a)) w'):vcall JP #[qd k a] w K:=by
 refine ze {} Tryz.func299 ?_;have s:=pow4 l m;refine zj λb1 w1 p d u f=>?_;have n:IntKind.i64.wrap ((k:Int)-1)=((k-1:Nat):Int):=by rw[zk oM oM];omega
 simp only[push_cast,f.ld0,f.ld1,n];refine l1Bit_spec oM oM ?_;have b:=top_bit l m o;have v:=(Wi k).symm;have j:(2:Int)^((k:Int).toNat-1)=((2^(k-1):Nat):Int):=by simp
 have h:a/2^(k-1)%2<2:=p0 _ oM;obtain⟨z,x⟩:∃z,z=a/2^(k-1)%2:=⟨_,rfl⟩;rw[<-x] at b h⊢;refine oZ ?_;refine zb (λc=>?_) (λc=>?_)
 .refine zd λw2 e _=>?_;have g:=f.ext e;simp only[push_cast,g.ld0,g.ld1,y1];refine l1Two_nat oM ?_;have r: ¬a<2^(k-1):=by
   have:decide (z=1)=true:=gu oM;rw[this] at b;exact of_decide_eq_true b.symm
  have:=i w2 (d.trans e);unfold M.sgn at this;rw[y0 (by rw[j];omega),gl,v] at this;obtain⟨q,t⟩:∃q,q=2^k:=⟨_,rfl⟩;rw[<-t] at s this⊢;have hw:IntKind.i64.wrap ((a:Int)-(q:Int))=(a:Int)-(q:Int):=zk oM oM;simp only[push_cast,g.ld1,y1,hw];exact this
 .have r:a<2^(k-1):=by
   have:decide (z=1)=false:=gj oM;rw[this] at b;have:=of_decide_eq_false b.symm;omega
  have:=i w1 d;unfold M.sgn at this;rw[y3 (by rw[j];omega)] at this;simp only[push_cast,f.ld1];exact this
def zN (op x y:Nat):Nat:=if op=4 then x+y-x*y else if op=5 then(x+y)%2 else x*y
theorem zN_ck {op a b i:Nat} (d:3<=op) (g:op<=5) (e:a<16) (f:b<16) (hi:i<4):M.binN op 4 a b/2^(i+1)*2+zN op (a/2^i%2) (b/2^i%2)=M.binN op 4 a b/2^i:=by
 have c:∀o:Fin 6,∀i:Fin 4,3<=o.1->(List.range 16).all (λa=>(List.range 16).all λb=>decide (M.binN o.1 4 a b/2^(i.1+1)*2+zN o.1 (a/2^i.1%2) (b/2^i.1%2)=M.binN o.1 4 a b/2^i.1))=true:=by decide+kernel
 have:=c ⟨op,oM⟩ ⟨i,hi⟩ d;simp only[Gb,gJ,X0] at this;exact this a e b f
theorem zN_16 {op a b:Nat} (d:3<=op) (g:op<=5) (e:a<16) (f:b<16):M.binN op 4 a b<16:=by
 have c:∀o:Fin 6,3<=o.1->(List.range 16).all (λa=>(List.range 16).all λb=>decide (M.binN o.1 4 a b<16))=true:=by decide+kernel
 have:=c ⟨op,oM⟩ d;simp only[Gb,gJ,X0] at this;exact this a e b f
theorem l1Bits_spec {op a b:Nat} (D:3<=op) (E:op<=5) (H:a<16) (I:b<16) (G:K (nI ((M.binN op 4 a b:Nat):Int)) w):vcall U1 #[nI (op:Int),nI (a:Int),nI (b:Int)] w K:=by
 refine ze {loops:=[(3,[7,8])]} Tryz.func325 ?_;have k:=zN_16 D E H I;refine vloop_up 4 (λj u w'=>u=[nI ((M.binN op 4 a b/2^(4-j):Nat):Int),nI (3-(j:Int))]/\w'=w) ⟨by rw[show M.binN op 4 a b/2^(4-0)=0 from Nat.div_eq_of_lt k];rfl,rfl⟩ ?_;rintro j _ _ w1 C hj ⟨rfl,rfl⟩ F;obtain⟨f,J⟩:∃f,f=M.binN op 4 a b:=⟨_,rfl⟩;have m:∀i,i<4->f/2^(i+1)*2+zN op (a/2^i%2) (b/2^i%2)=f/2^i:=λi hi=>by rw[J];exact zN_ck D E H I hi
 rw[<-J] at F G k⊢;by_cases U:j<=3
 .obtain⟨i,hi⟩:∃i,i+j=3:=⟨3-j,oM⟩;have Q:4-j=i+1:=oM;have R:3-(j:Int)=(i:Int):=oM;have S:4-(j+1)=i:=oM;have T:3-((j+1:Nat):Int)=(i:Int)-1:=oM;have g:=F oM;rw[S,T] at g;rw[Q,R];have d:=m i oM;obtain⟨p,n⟩:∃p,p=f/2^(i+1):=⟨_,rfl⟩;obtain⟨q,o⟩:∃q,q=f/2^i:=⟨_,rfl⟩;have W:q<=f:=by rw[o];exact Gx _ _
  have V:p<=f:=by rw[n];exact Gx _ _
  rw[<-n,<-o] at d;rw[<-o] at g;rw[<-n];have ei:IntKind.i64.wrap ((i:Int)-1)=(i:Int)-1:=zk oM oM;refine oZ ?_;refine zb (λc=>?_) (λc=>absurd oM c);refine l1Bit_spec oM oM ?_;refine l1Bit_spec oM oM ?_;have Y:a/2^i%2<2:=p0 _ oM;have Z:b/2^i%2<2:=p0 _ oM;obtain⟨x,r⟩:∃x,x=a/2^i%2:=⟨_,rfl⟩;obtain⟨y,v⟩:∃y,y=b/2^i%2:=⟨_,rfl⟩;rw[<-r] at Y d⊢;rw[<-v] at Z d⊢;have t:x*y<=1:=by
   have:=P0 (show x<=1 by omega) (show y<=1 by omega);omega
  obtain⟨z,l⟩:∃z,z=x*y:=⟨_,rfl⟩;have A:(x:Int)*(y:Int)=(z:Int):=by rw[l];simp
  have L:z<=x/\z<=y:=by
   rcases(by omega:x=0\/x=1) with h|h<;>rcases(by omega:y=0\/y=1) with B|B<;>subst h<;>subst B<;>simp at l<;>omega
  rw[<-l] at t;unfold zN at d;rw[<-l] at d;simp only[push_cast,A];refine zb (λN=>?_) (λN=>?_)
  .rw[y3 oM] at d;rw[zk (x:=z) oM oM,zk (x:=(x:Int)+y) oM oM,zk (x:=(x:Int)+y-z) oM oM,zk (x:=(p:Int)*2) oM oM,zk (x:=(p:Int)*2+((x:Int)+y-z)) oM oM,ei,show(p:Int)*2+((x:Int)+y-z)=(q:Int) by omega];exact g _ _ ⟨rfl,rfl⟩
  rw[y0 oM] at d;refine zb (λO=>?_) (λO=>?_)
  .rw[y3 oM] at d;rw[zk (x:=(x:Int)+y) oM oM,Z3 oM,show(x:Int)+(y:Int)=((x+y:Nat):Int) by omega,show((x+y:Nat):Int).tmod 2=(((x+y)%2:Nat):Int) from rfl];obtain⟨s,hs⟩:∃s,s=(x+y)%2:=⟨_,rfl⟩;have X:s<2:=oM;rw[<-hs] at d⊢;refine oZ ?_;rw[zk (x:=(p:Int)*2) oM oM,zk (x:=(p:Int)*2+s) oM oM,ei,show(p:Int)*2+(s:Int)=(q:Int) by omega];exact g _ _ ⟨rfl,rfl⟩
  .rw[y0 oM] at d;rw[zk (x:=z) oM oM,zk (x:=(p:Int)*2) oM oM,zk (x:=(p:Int)*2+z) oM oM,ei,show(p:Int)*2+(z:Int)=(q:Int) by omega];exact g _ _ ⟨rfl,rfl⟩
 .have:j=4:=oM;subst this;have e:f/2^(4-4)=f:=Nat.div_one _;rw[e];refine oZ ?_;exact G
end
end Go.Proofs.YtfnpmncplaibiaaGreatDoor
end
