import Derived.Test.YtfnpmncplaibiaaGreatDoorWqbP13
/- A part of the proof. -/
set_option linter.all false
set_option maxRecDepth 9999
set_option maxHeartbeats 2000000
noncomputable section
namespace Go.Proofs.YtfnpmncplaibiaaGreatDoor
open Go Go.Vc Go.Proofs Go.M
section
variable {w:World} {K:oK} {F Fr F':oA} {many:Nat} {c:Cnf} {s:Sat}
theorem inc64 {i:Nat} (h:i<9223372036854775807):IntKind.i64.wrap ((i:Int)+1)=((i+1:Nat):Int):=by rw[zk oM oM];omega
theorem l5Find_spec {vc vl v:Value} {put:oI} {ls:List (oI)} (hc:CnfR F w vc c) (hl:Lists F' w vl ls) (hx:Ints Fr w v (signs many put)) (hm:marksOk many put) (z:many<=700) (a4:c.list.length+ls.length<=1000000)
  (hb:∀cl,cl∈c.list++ls->∀l,l∈cl->l≠0/\l.natAbs<=many)
  (hK:∀w' k u x,Ext w w'->findM put (c.list++ls) 0 (-1) 0=(k,u,x)->K (.tuple #[nI k,nI (if 0<=k then-1 else u),nI (if 0<=k then 0 else x)]) w'):vcall Ud #[vc,vl,v] w K:=by
 refine ze {loops:=[(5,[9,10,12])],cuts:=[(36875,[13])]} Tryz.func173 ?_;obtain⟨lv,rfl,X⟩:=hc;obtain⟨cs,U,B,T⟩:=X;obtain⟨es,W,H,V⟩:=hl;refine yj λb w1 a1 E a5 hB=>?_;have A:Blk w1 b [nI c.many,lv] zq:=hB;have D:=B.ext E;simp only[push_cast,A.ld1,D.len];refine vloop_up (c.list.length+ls.length) (λi u w'=> ∃(y x:Int),u=[nI y,nI x,nI i]/\Ext w w'/\Blk w' b [nI c.many,lv] zq/\findM put ((c.list++ls).drop i) i y x=findM put (c.list++ls) 0 (-1) 0) ⟨-1,0,rfl,E,A,rfl⟩ ?_;rintro i _ _ w2 C hi ⟨y,x,rfl,s,S,g⟩ Q;have I:=H.ext s;simp only[push_cast,I.len];rw[U,W,zk oM oM];refine zb (λa=>?_) (λa=>?_)
 .have o:i<c.list.length+ls.length:=oM;refine yc xt yM λb3 w3 a2 G a6 a0=>?_;have p:=s.trans G;have f:=S.ext G;have q:=B.ext p;have r:=H.ext p;refine zp (λu w'=>w'=w3/\∃v4,u=[v4]/\Ints (λ_=>True) w3 v4 ((c.list++ls).getD i [])) ?_ ?_
  .intro J Z;refine zb (λa3=>?_) (λa3=>?_)
   .simp(disch:=exact oS) only[push_cast,f.ld1,q.iaddr,q.load];refine Z _ _ ⟨rfl,_,rfl,?_⟩;rw[getD_app_l oM];exact((T i oM).ext p).weaken λ_ _ _=>trivial
   .obtain⟨j,rfl⟩:∃j,i=c.list.length+j:=⟨i-c.list.length,oM⟩;rw[show((c.list.length+j:Nat):Int)-(c.list.length:Int)=(j:Int) from by omega,zk oM oM];simp(disch:=exact oS) only[push_cast,r.iaddr,r.load];refine Z _ _ ⟨rfl,_,rfl,?_⟩;rw[getD_app_r];exact((V j oM).ext p).weaken λ_ _ _=>trivial
  rintro _ _ _ ⟨rfl,v4,rfl,h4⟩;have L:i<(c.list++ls).length:=by rw[Q1];exact o
  have M:(c.list++ls).getD i []∈c.list++ls:=by rw[y4,gd L];exact pj _
  rw[Zg (d:=[]) L,findM_cons] at g;refine oZ ?_;refine l5Look_spec (hx.ext p) hm z h4 (hb _ M) λO n Y t=>?_;rw[t] at g;dsimp only at g;refine oZ ?_;rw[inc64 oM];have N: ¬(O=true)->((if O then(-1:Int) else(n:Int))=n/\(if O then(0:Int) else Y)=Y):=λh=>⟨y3 h,y3 h⟩;by_cases m:O=true
  .rw[X0 m] at g;refine zb (λe=>absurd e (by rw[X0 m];omega)) (λ_=>zb (λe=>absurd e (by rw[X0 m];omega)) (λ_=>?_));exact Q o _ _ ⟨y,x,rfl,p,f,g⟩
  rw[y3 m] at g;rw[(N m).1,(N m).2];refine zb (λe=>?_) (λe=>zb (λe1=>?_) (λe1=>?_))
  .rw[X0 oM] at g;have:=hK _ _ _ _ p g.symm;rwa[X0 oM,X0 oM] at this
  .rw[y3 oM,X0 oM] at g;refine zb (λR=>?_) (λR=>?_)
   .rw[X0 R] at g;exact Q o _ _ ⟨i,Y,rfl,p,f,g⟩
   .rw[y3 R] at g;exact Q o _ _ ⟨y,x,rfl,p,f,g⟩
  .rw[y3 oM,y3 oM] at g;exact Q o _ _ ⟨y,x,rfl,p,f,g⟩
 .rw[Gj (by rw[Q1];omega)] at g;have:=hK w2 _ _ _ s g.symm;rwa[y3 oM,y3 oM] at this
theorem l5At_spec {vc v:Value} {k:Nat} (A:CnfR F w vc c) (hs:SatR F' w v s) (G:k<c.list.length+s.learned.length) (C:c.list.length+s.learned.length<=1000000)
  (u:∀w' v',Ext w w'->Ints (λb=>F b\/F' b) w' v' (atM c s k)->K v' w'):vcall xb0 #[vc,v,nI k] w K:=by
 refine ze {} Tryz.func175 ?_;obtain⟨lv,rfl,cs,n,o,m⟩:=A;obtain⟨vp,vw,vl,rfl,-,-,es,B,r,q⟩:=hs;refine yj λb1 w1 y p D i=>?_;refine yj λb2 w2 z g E l=>?_;have t:Blk w2 b1 [nI c.many,lv] zq:=i.ext g;have x:Blk w2 b2 [vp,vw,vl,nI s.code] zw:=l;have f:=p.trans g;have d:=o.ext f;have e:=r.ext f;simp only[push_cast,t.ld1,d.len];refine zb (λa=>?_) (λa=>?_)
 .simp(disch:=exact oS) only[push_cast,d.iaddr,d.load];refine u w2 _ f ?_;rw[atM,getD_app_l oM];exact((m k oM).ext f).weaken λ_ h _=> .inl h
 .obtain⟨j,rfl⟩:∃j,k=c.list.length+j:=⟨k-c.list.length,oM⟩;simp(disch:=(simp only[push_cast])) only[x.ld2,t.ld1,d.len,zh0,zk0,yw,Gi,Yw];rw[n,show((c.list.length+j:Nat):Int)-(c.list.length:Int)=(j:Int) from by omega,zk oM oM];simp(disch:=exact oS) only[push_cast,e.iaddr,e.load];refine u w2 _ f ?_;rw[atM,getD_app_r];exact((q j oM).ext f).weaken λ_ h _=> .inr h
theorem l5Levels_spec {vc v:Value} (hc:CnfR F w vc c) (hs:SatR F' w v s) (L:c.many=many) (T:many<=700) (hm:marksOk many s.put) (hlen:s.put.length=s.why.length) (A:∀k,k<s.why.length->s.why.getD k 0= -1\/0<=s.why.getD k 0)
  (hK:∀w' v',Ext w w'->OwnI zh w' v' (levs many s.put (yq s.why))->(∀x,v'.ownBlock=some x->w.heap.size<=x)->K v' w'):vcall Kx #[vc,v] w K:=by
 refine ze {loops:=[(4,[6,7])],cuts:=[(28680,[6])]} Tryz.func230 ?_;obtain⟨lv,rfl,-⟩:=hc;obtain⟨vp,vw,vl,rfl,hp,hw,-⟩:=hs;have a4:=hm.len;refine yj λb1 w1 a0 N a7 H=>?_;refine yj λb2 w2 a1 p a8 I=>?_;have X:Blk w2 b1 [nI c.many,lv] zq:=H.ext p;have R:Blk w2 b2 [vp,vw,vl,nI s.code] zw:=I;have S:=N.trans p;simp only[push_cast,X.ld0];rw[L,zk oM oM,show((many:Int)+1)=((many+1:Nat):Int) from by omega];refine vmkS_own (bs:=8) xC qB xJ rfl oM oM λv1 w3 Y q m=>?_;have G:OwnI zh w3 v1 (levs many [] (yq s.why)):=by rw[Z50];unfold OwnI;rw[GO];exact Y
 have V:=S.size;refine vloop_up s.put.length (λi u w'=>u=[nI ((yq s.why).take i|>.count true:Nat),nI i]/\Ext w w'/\Blk w' b2 [vp,vw,vl,nI s.code] zw/\OwnI zh w' v1 (levs many (s.put.take i) (yq s.why))) ⟨rfl,S.trans q,R.ext q,by simpa using G⟩ ?_;rintro i _ _ W C hi ⟨rfl,g,f,E⟩ Z;have n:=hp.ext g;have z:=hw.ext g;have a5:=UL many (s.put.take i) (yq s.why);have a3:=jY s.why;simp only[push_cast,f.ld0,n.len];refine zb (λa=>?_) (λa=>?_)
 .have l:i<s.put.length:=oM;have h:=Ys (ds:=yq s.why) (i:=i) oM;have a2:((yq s.why).take i).count true<=700:=gY pY (by simp;omega);refine zp (λu w'=>w'=W/\u=[nI ((yq s.why).take (i+1)|>.count true:Nat)]) ?_ ?_
  .intro J U;simp(disch:=exact oS) only[push_cast,f.ld1,z.iaddr,z.load];have o:=K9 (why:=s.why) (k:=i) oM;have a6:=A i oM;refine zb (λb=>?_) (λb=>?_)
   .rw[inc64 oM];refine U _ _ ⟨rfl,?_⟩;rw[h,o,gz oM];rfl
   .refine U _ _ ⟨rfl,?_⟩;rw[h,o,gm oM];rfl
  rintro _ _ _ ⟨rfl,rfl⟩;simp(disch:=exact oS) only[push_cast,f.ld0,n.iaddr,n.load];have hb:=hm.2 _ (getD_meS l);have y:=M.take_snoc' (d:=0) l;have D:=distinct_take hm.1 (i+1);have j:placeOf (s.put.take i) (s.put.getD i 0).natAbs=0:=by
   refine placeOf_zero λx B e=>?_;rw[y] at D;unfold Distinct at D;rw[gE,Gu] at D;exact D.2.2 _ (Gc B) _ (by simp) e
  have t:=levs_snoc (many:=many) (ds:=yq s.why) j;rw[<-y,gh,GL oM,lvl_succ oM,<-h] at t;have Q:=E.ints;refine l4Abs_spec oM ?_;simp(disch:=exact oS) only[push_cast,Q.iaddr];refine E.st yM oM λw5 O r a9=>?_;rw[inc64 oM];refine Z l _ _ ⟨rfl,Ext.then g r λx B=>by have:=m x B;omega,f.same r λe=>by have:=m _ e;have:=R.lt;omega,by rw[t];exact O⟩
 .rw[gD oM] at E;exact hK W v1 g E λx B=>by have:=m x B;omega
theorem l5Top_spec {v v':Value} {put cl:oI} {ds:List Bool} (m:Ints F w v (levs many put ds)) (j:many<=700) (p:ds.length<=700) (d:Ints Fr w v' cl) (o:∀l,l∈cl->l.natAbs<=many/\placeOf put l.natAbs≠0)
  (s:K (.tuple #[nI (Z9 put ds cl:Nat),nI (Jn put ds cl).length]) w):vcall y20 #[v,v'] w K:=by
 refine ze {loops:=[(4,[6,7,8])]} Tryz.func231 ?_;have hlen:cl.length<=9223372036854775807:=by obtain⟨_,_,_,n,r,_⟩:=d.shape;simp at n;omega
 have q:=UL many put ds;refine vloop_up cl.length (λi u w'=>w'=w/\u=[nI (Z9 put ds (cl.take i):Nat),nI (Jn put ds (cl.take i)).length,nI i]) ⟨rfl,rfl⟩ ?_;rintro i _ _ _ C hi ⟨rfl,rfl⟩ f;simp only[push_cast,d.len];refine zb (λa=>?_) (λa=>?_)
 .have c:i<cl.length:=oM;simp(disch:=exact oS) only[push_cast,d.iaddr,d.load];obtain⟨g,h⟩:=o _ (getD_meS c);refine l4Abs_spec oM ?_;simp(disch:=exact oS) only[push_cast,m.iaddr,m.load];rw[levs_get g,levV_lit h];obtain⟨t1,t2⟩:=top_step (put:=put) (ds:=ds) c _ rfl;generalize lvM put ds (cl.getD i 0)=k at*;have t:(Jn put ds (cl.take i)).length<=i:=gY (List.length_filter_le _ _) (by simp;omega);refine zb (λb=>?_) (λb=>?_)
  .rw[X0 oM] at t1 t2;refine zb (λ_=>?_) (λe=>absurd trivial e);rw[inc64 oM];exact f c _ _ ⟨rfl,by rw[t1,t2];rfl⟩
  .rw[y3 oM] at t1 t2;refine zb (λe=>?_) (λe=>?_)
   .rw[X0 oM] at t2;rw[inc64 oM,inc64 oM];exact f c _ _ ⟨rfl,by rw[t1,t2]⟩
   .rw[y3 oM] at t2;rw[inc64 oM];exact f c _ _ ⟨rfl,by rw[t1,t2]⟩
 .rwa[gD oM]
theorem l5Has_spec {v:Value} {cl:oI} {m:Nat} (c:Ints Fr w v cl) (p:∀l,l∈cl->l.natAbs<=700) (g:(∃q,q∈cl/\q.natAbs=m)->K (.bool true) w) (j:(∀q,q∈cl->q.natAbs≠m)->K (.bool false) w):vcall y40 #[v,nI m] w K:=by
 refine ze {loops:=[(2,[5])]} Tryz.func301 ?_;have hlen:cl.length<=9223372036854775807:=by obtain⟨_,_,_,n,s,_⟩:=c.shape;simp at n;omega
 refine vloop_up cl.length (λi u w'=>w'=w/\u=[nI i]/\∀q,q∈cl.take i->q.natAbs≠m) ⟨rfl,rfl,by simp⟩ ?_;rintro i _ _ _ C hi ⟨rfl,rfl,k⟩ o;simp only[push_cast,c.len];refine zb (λa=>?_) (λa=>?_)
 .have f:i<cl.length:=oM;simp(disch:=exact oS) only[push_cast,c.iaddr,c.load];have e:cl.getD i 0∈cl:=getD_meS f;have r:=p _ e;refine l4Abs_spec oM ?_;refine oZ ?_;refine zb (λb=>g ⟨_,e,oM⟩) (λb=>?_);rw[inc64 oM];refine o f _ _ ⟨rfl,rfl,λq h=>?_⟩;rw[M.take_snoc' (d:=0) f,gl,gx] at h;rcases h with h|rfl
  .exact k q h
  .omega
 .rw[gD oM] at k;exact j k
theorem l5Last_spec {v v':Value} {cl:oI} (hs:SatR F w v s) (hm:marksOk many s.put) (t:many<=700) (m:Ints Fr w v' cl) (z:∀l,l∈cl->l.natAbs<=700)
  (x:∀w',Ext w w'->K (nI ((lastPl s.put cl:Int)-1)) w'):vcall Ub #[v,v'] w K:=by
 refine ze {loops:=[(2,[5])]} Tryz.func276 ?_;obtain⟨vp,vw,vl,rfl,G,-,-⟩:=hs;have E:=hm.len;refine yj λb2 w2 A b H g=>?_;have p:Blk w2 b2 [vp,vw,vl,nI s.code] zw:=g;have c:=G.ext b;simp only[push_cast,p.ld0,c.len];rw[zk oM oM];refine vloop_up s.put.length (λi u w'=>w'=w2/\u=[nI ((s.put.length:Int)-1-i)]/\∀j,s.put.length-i<=j->j<s.put.length->∀q,q∈cl->q.natAbs≠(s.put.getD j 0).natAbs) ⟨rfl,by simp,λj r d=>oM⟩ ?_;rintro i _ _ _ C hi ⟨rfl,rfl,n⟩ y;refine oZ ?_;refine zb (λa=>?_) (λa=>?_)
 .obtain⟨k,D⟩:∃k:Nat,(s.put.length:Int)-1-i=k:=⟨s.put.length-1-i,oM⟩;have f:k<s.put.length:=oM;rw[D];simp(disch:=exact oS) only[push_cast,p.ld0,c.iaddr,c.load];have B:=hm.2 _ (getD_meS f);refine l4Abs_spec oM ?_;refine l5Has_spec (m.ext b) z (λh=>?_) (λh=>?_)
  .refine oZ ?_;have o:=lastPl_eq hm f h λj r d=>n j oM d;have:=x _ b;rwa[o,show((k+1:Nat):Int)-1=(k:Int) from by omega] at this
  .refine oZ ?_;rw[zk oM oM];refine y oM _ _ ⟨rfl,by rw[show(s.put.length:Int)-1-((i+1:Nat):Int)=(k:Int)-1 from by omega],λj r d=>?_⟩;by_cases e:j=k
   .subst e;exact h
   .exact n j oM d
 .have o:=lastPl_none (put:=s.put) (cl:=cl) λj d=>n j oM d;have:=x _ b;rw[o] at this;exact this
end
section
variable {w:World} {K:oK} {F Fr F':oA} {many:Nat} {c:Cnf} {s:Sat}
theorem jB0 (arr:oI) (m n:Nat):(yu0 arr m n).length<=n:=by
 unfold yu0;refine gY (List.length_filterMap_le _ _) (by simp)
theorem l5Join_spec {va vb:Value} {a b:oI} {m:Nat} (ha:Ints F w va a) (hb:Ints F' w vb b) (a6:many<=700) (S:∀k,k∈a++b->k≠0/\k.natAbs<=many) (hc:∀k,k∈a++b->k.natAbs≠m-> -k∉a++b)
  (hK:∀w' v',Ext w w'->OwnI zh w' v' (Ql many a b m)->(∀x,v'.ownBlock=some x->w.heap.size<=x)->K v' w'):vcall Uc #[nI many,va,vb,nI m] w K:=by
 refine ze {loops:=[(4,[11]),(8,[12]),(12,[9,13])]} Tryz.func277 ?_;have ab:a.length<=9223372036854775807:=by obtain⟨_,_,_,L,h2,_⟩:=ha.shape;simp at L;omega
 have ac:b.length<=9223372036854775807:=by obtain⟨_,_,_,L,h2,_⟩:=hb.shape;simp at L;omega
 refine yc xt yM λJ w0 a8 T ad N=>?_;refine oZ ?_;rw[zk oM oM,show((many:Int)+1)=((many+1:Nat):Int) from by omega];refine vmkS_own (bs:=8) xC qB xJ rfl oM oM λv1 w1 L U W=>?_;have a0:OwnI zh w1 v1 (List.replicate (many+1) 0):=by unfold OwnI;rw[GO];exact L
 have E1:=T.trans U;have a7:=T.size;have hN:∀x,v1.ownBlock=some x->w.heap.size<=x:=λx s=>by have:=W x s;omega
 have a1:Blk w1 J [] zE:=N.ext U;have G:∀x,v1.ownBlock=some x->x≠J:=λx s e=>by have:=W x s;have:=N.lt;omega
 refine vloop_up a.length (λi u w'=>u=[nI i]/\Ext w w'/\Blk w' J [] zE/\∃arr,OwnI zh w' v1 arr/\ArrP many (a.take i) arr) ⟨rfl,E1,a1,_,a0,by simpa using arr_nil many⟩ ?_;rintro i _ _ w2 C hi ⟨rfl,h,o,arr,q,f⟩ O;have E:=ha.ext h;simp only[push_cast,E.len];refine zb (λc1=>?_) (λc1=>?_)
 .have l:i<a.length:=oM;refine zd λw3 c _=>?_;have A:=E.ext c;have g:=q.ext c;have r:=g.ints;have Q:=f.len;obtain⟨g1,g2⟩:=S _ (Ge _ (getD_meS l));simp(disch:=exact oS) only[push_cast,A.iaddr,A.load,k5];refine l4Abs_spec oM ?_;simp(disch:=exact oS) only[push_cast,A.iaddr,A.load,k5,gi,r.iaddr];refine g.st yM oM λw4 I z Y=>?_;rw[inc64 oM];refine O l _ _ ⟨rfl,Ext.then (h.trans c) z hN,(o.ext c).same z λe=>G _ e rfl,_,I,?_⟩;rw[M.take_snoc' (d:=0) l];exact arr_snoc f g1 g2
 clear O;rw[gD oM] at f;refine vloop_up b.length (λi u w'=>u=[nI i]/\Ext w w'/\Blk w' J [] zE/\∃arr,OwnI zh w' v1 arr/\ArrP many (a++b.take i) arr) ⟨rfl,h,o,arr,q,by simpa using f⟩ ?_;clear f q arr o E h w2;rintro j _ _ w2 C hj ⟨rfl,h,o,arr,q,f⟩ O;have R:=hb.ext h;simp only[push_cast,R.len];refine zb (λc2=>?_) (λc2=>?_)
 .have l:j<b.length:=oM;refine zd λw3 c _=>?_;have B:=R.ext c;have g:=q.ext c;have r:=g.ints;have Q:=f.len;obtain⟨g1,g2⟩:=S _ (Gv _ (getD_meS l));simp(disch:=exact oS) only[push_cast,B.iaddr,B.load,k5];refine l4Abs_spec oM ?_;simp(disch:=exact oS) only[push_cast,B.iaddr,B.load,k5,gi,r.iaddr];refine g.st yM oM λw4 I z Y=>?_;rw[inc64 oM];refine O l _ _ ⟨rfl,Ext.then (h.trans c) z hN,(o.ext c).same z λe=>G _ e rfl,_,I,?_⟩;rw[M.take_snoc' (d:=0) l,<-gZ];exact arr_snoc f g1 g2
 clear O;rw[gD oM] at f;have Q:=f.len;have a4:OwnI zh w2 (.slice (some ⟨J,0,none⟩) 0 0) []:=Blk.own1 (t:=zh) (cs:=[]) (by rw[qB];exact o) (Gf _) rfl rfl oM;refine vloop_up many (λn u w'=> ∃v,u=[v,nI (n+1:Nat)]/\Ext w w'/\OwnI zh w' v1 arr/\OwnI zh w' v (yu0 arr m n)/\(∀x,v.ownBlock=some x->w.heap.size<=x/\v1.ownBlock≠some x)) ⟨_,rfl,h,q,a4,λx s=>?_⟩ ?_
 .have e:J=x:=V1 s;subst e;exact⟨oM,λe=>G _ e rfl⟩
 rintro n _ _ w3 C3 hn ⟨v,rfl,c,g,y,p⟩ D;refine oZ ?_;have aa:=jB0 arr m n;refine zb (λc3=>?_) (λc3=>?_)
 .have hs:=joinA_succ arr m n;have V:IntKind.i64.wrap ((n:Int)+1+1)=((n+1+1:Nat):Int):=by rw[zk oM oM];omega
  have r:=g.ints;rw[V];refine zb (λc4=>?_) (λc4=>?_)
  .rw[y3 oM] at hs;have e1:((n:Int)+1)=((n+1:Nat):Int):=rfl;rw[e1];simp(disch:=exact oS) only[r.iaddr,gu,r.load,xs0];refine zb (λZ=>?_) (λZ=>?_)
   .rw[y3 Z] at hs;refine zB xt yM xJ rfl rfl λb4 w4 a9 H Y a2=>?_;refine(y.ext H).app1 xC a2 oM oM λv5 w5 a5 X a3=>?_;have ae:=c.size;refine D oM _ _ ⟨v5,rfl,Ext.then (c.trans H) X λx s=>(p x s).1,(g.ext H).same X λx s e=>(p x e).2 s,by rw[hs];exact a5,λx s=>?_⟩;rcases a3 x s with e|e
    .exact p x e
    .exact⟨oM,λe'=>by have:=g.lt e';omega⟩
   .rw[X0 (by simpa using Z),gK] at hs;exact D oM _ _ ⟨v,rfl,c,g,by rw[hs];exact y,p⟩
  .rw[X0 oM,gK] at hs;exact D oM _ _ ⟨v,rfl,c,g,by rw[hs];exact y,p⟩
 .have:n=many:=oM;subst this;rw[joinA_eq f hc] at y;exact hK w3 v c y λx s=>(p x s).1
theorem learnS_cons {cl:oI} (d:satOk many c s) (h:c.many=many) (hF:Fls s.put cl) (hs:Srt cl) (n:2<=(Jn s.put (yq s.why) cl).length):
  lastPl s.put cl-1<s.put.length/\lastPl s.put cl≠0/\0<=s.why.getD (lastPl s.put cl-1) 0/\s.why.getD (lastPl s.put cl-1) 0<c.list.length+s.learned.length/\
  (∀l,l∈cl++atM c s (s.why.getD (lastPl s.put cl-1) 0).toNat->l≠0/\l.natAbs<=many)/\(∀l,l∈cl++atM c s (s.why.getD (lastPl s.put cl-1) 0).toNat->l.natAbs≠(s.put.getD (lastPl s.put cl-1) 0).natAbs-> -l∉cl++atM c s (s.why.getD (lastPl s.put cl-1) 0).toNat):=by
 have v:=topOf_tops (put:=s.put) (ds:=yq s.why) (srt_nodup hs);have b:cl≠[]:=λe=>by subst e;simp[Jn] at n
 have w:=lastPl_pos hF b;obtain⟨k,o⟩:∃k,lastPl s.put cl=k+1:=⟨lastPl s.put cl-1,oM⟩;rw[o,GX];obtain⟨i,t,j,m,himp,-⟩:=last_reason d hF v n o;obtain⟨u,f⟩:=(impl_iff d.mks).1 himp;have g:(s.why.getD k 0).toNat<c.list.length+s.learned.length:=oM
 have off:∀l,l∈cl++atM c s (s.why.getD k 0).toNat->l.natAbs≠(s.put.getD k 0).natAbs-> -l∈s.put:=λl a b=>by
  rcases gl.1 a with a|a
  .exact hF l a
  .exact gU (f l a λe=>b (by rw[e]))
 refine⟨i,oM,j,m,λl a=>?_,λl a b r=>?_⟩
 .rcases gl.1 a with a|a
  .have:=d.mks.2 _ (hF l a);omega
  .exact d.lit h g a
 .have p:=off l a b;have q:=off (-l) r (by rwa[G0]);exact d.mks.neg p q
theorem l5Learn_spec {vc v vl v3:Value} {k:Nat} (hc:CnfR F w vc c) (hs:SatR F' w v s) (S:Ints Fr w vl (levs many s.put (yq s.why))) (hv:OwnI zh w v3 (atM c s k)) (e:satOk many c s) (o:c.many=many) (hk:k<c.list.length+s.learned.length) (a1:j3 s.put (atM c s k))
  (hK:∀w' v',Ext w w'->OwnI zh w' v' (learnM many c s s.put.length (atM c s k))->(∀x,v'.ownBlock=some x->v3.ownBlock=some x\/w.heap.size<=x)->K v' w'):vcall VA #[vc,v,vl,v3] w K:=by
 refine ze {loops:=[(2,[3,10])]} Tryz.func232 ?_;have a0:=hc;have M:=hs;obtain⟨lv,rfl,aa⟩:=hc;obtain⟨vp,vw,vls,rfl,hp,hw,j⟩:=hs;have d:many<=700/\c.list.length<=2500:=by
  have:=e.cnf;unfold cnfOk at this;simp only[gg,V0] at this;omega
 have a6:=e.few;have m:=e.mks;have ac:=m.len;have hlen:=e.len;have E:=Zi a1;have Z:=clauseOk_srt (e.atOk hk);have G:(yq s.why).length<=700:=by rw[jY];omega
 have bounds:∀{b:oI},Fls s.put b->∀x,x∈b->x.natAbs<=many/\placeOf s.put x.natAbs≠0:=λhF x A=>by
  have h1:=m.2 _ (hF x A);have D:=placeOf_ne_zero (hF x A);rw[G0] at D;exact⟨oM,D⟩
 generalize atM c s k=cl at*;refine yj λb1 w1 a7 a2 ad X=>?_;refine yj λb2 w2 a8 H ae Y=>?_;have A2:Blk w2 b1 [nI c.many,lv] zq:=X.ext H;have B2:Blk w2 b2 [vp,vw,vls,nI s.code] zw:=Y;have R:=a2.trans H;refine l5Top_spec (S.ext R) d.1 G (hv.ext R).ints (bounds E) ?_;refine oZ ?_;refine ji (λn u w'=> ∃b f v,n=lastPl s.put b/\u=[v,nI (Jn s.put (yq s.why) b).length]/\Ext w w'/\Blk w' b1 [nI c.many,lv] zq/\Blk w' b2 [vp,vw,vls,nI s.code] zw/\
   OwnI zh w' v b/\(∀x,v.ownBlock=some x->v3.ownBlock=some x\/w.heap.size<=x)/\Fls s.put b/\Srt b/\lastPl s.put b<=f/\learnM many c s f b=learnM many c s s.put.length cl) _
  ⟨cl,s.put.length,v3,rfl,rfl,R,A2,B2,hv.ext R,λx A=> .inl A,E,Z,lastPl_le,rfl⟩ ?_
 rintro _ _ _ w3 C ⟨b,f,v,rfl,rfl,V,A3,B3,t,a3,hF,hS,ab,r⟩ hC;refine oZ ?_;refine zb (λa=>?_) (λa=>?_)
 .have D:2<=(Jn s.put (yq s.why) b).length:=oM;obtain⟨g1,g2,g3,g4,g5,g6⟩:=learnS_cons e o hF hS D;obtain⟨k1,k2,k3,k4⟩:=learnS_ok e o hF hS D;obtain⟨f,rfl⟩:∃f',f=f'+1:=⟨f-1,oM⟩;rw[learnM,y3 oM] at r;rw[B3.ldAgg zR];refine l5Last_spec (M.ext V) m d.1 t.ints (λl S=>by have:=(bounds hF l S).1;omega) λw4 g=>?_;have E4:=V.trans g;refine zd λw5 h _=>?_;have B:=E4.trans h;have T:=(A3.ext g).ext h;have Q:=(B3.ext g).ext h;obtain⟨q,hq⟩:∃q,lastPl s.put b=q+1:=⟨lastPl s.put b-1,oM⟩;have j:qQ many c s b=Ql many b (atM c s (s.why.getD q 0).toNat) (s.put.getD q 0).natAbs:=by unfold qQ;rw[hq,GX]
  rw[hq,GX] at g1 g3 g4 g5 g6;rw[hq,show((q+1:Nat):Int)-1=(q:Int) from by omega];have J:=hp.ext B;have O:=hw.ext B;simp(disch:=exact oS) only[push_cast,T.ldAgg zF,Q.ldAgg zR,T.ld0,Q.ld0,Q.ld1,k5,J.iaddr,J.load,O.iaddr,O.load];obtain⟨y,hy⟩:∃y:Nat,s.why.getD q 0=y:=⟨(s.why.getD q 0).toNat,oM⟩;rw[hy] at g4 g5 g6 j⊢;rw[gu] at g5 g6 j;refine l5At_spec (a0.ext B) (M.ext B) oM oM λw6 v6 i a5=>?_;have W:=B.trans i;have U:=T.ext i;have B6:=Q.ext i;have L:=hp.ext W;simp(disch:=exact oS) only[push_cast,U.ld0,B6.ld0,k5,gi,L.iaddr,L.load];have a9:=m.2 _ (getD_meS g1);refine l4Abs_spec oM ?_;simp(disch:=exact oS) only[push_cast,U.ld0,k5,gi];rw[o];have N:=(((t.ext g).ext h).ext i);refine l5Join_spec N.ints a5 d.1 g5 g6 λw7 v7 p z a4=>?_;have E7:=W.trans p;rw[<-j] at z;refine l5Top_spec (S.ext E7) d.1 G z.ints (bounds k1) ?_;refine oZ ?_;refine hC (lastPl s.put (qQ many c s b)) _ _ k3 ⟨_,f,v7,rfl,rfl,E7,U.ext p,B6.ext p,z,λx A=> .inr ?_,k1,k2,oM,r⟩;have:=a4 x A;have:=W.size;omega
 .have I:learnM many c s s.put.length cl=b:=by
   rw[<-r];cases f with
   |zero=>rfl
   |succ f=>rw[learnM,X0 oM]
  rw[I] at hK;exact hK w3 v V t a3
theorem l4Max_spec {a b:Nat} (c:K (nI (max a b:Nat)) w):vcall y50 #[nI a,nI b] w K:=by
 refine ze {} Tryz.func278 ?_;refine oZ ?_;refine zb (λh=>?_) (λh=>?_)
 .rwa[show max a b=a from by omega] at c
 .rwa[show max a b=b from by omega] at c
theorem l5Below_spec {v v':Value} {put cl:oI} {ds:List Bool} (o:Ints F w v (levs many put ds)) (m:many<=700) (e:Ints Fr w v' cl) (s:∀l,l∈cl->l.natAbs<=many/\placeOf put l.natAbs≠0)
  (q:K (nI (ZH put ds cl:Nat)) w):vcall VC #[v,v',nI (Z9 put ds cl:Nat)] w K:=by
 refine ze {loops:=[(3,[7,8])]} Tryz.func234 ?_;have hlen:cl.length<=9223372036854775807:=by obtain⟨_,_,_,p,x,_⟩:=e.shape;simp at p;omega
 have t:=UL many put ds;generalize r:Z9 put ds cl=T;refine vloop_up cl.length (λi u w'=>w'=w/\u=[nI (maxL (((cl.take i).filter λk=>decide (lvM put ds k<T)).map (lvM put ds)):Nat),nI i]) ⟨rfl,rfl⟩ ?_;rintro i _ _ _ C hi ⟨rfl,rfl⟩ n;simp only[push_cast,e.len];refine zb (λa=>?_) (λa=>?_)
 .have f:i<cl.length:=oM;simp(disch:=exact oS) only[push_cast,e.iaddr,e.load];obtain⟨g,h⟩:=s _ (getD_meS f);refine l4Abs_spec oM ?_;simp(disch:=exact oS) only[push_cast,o.iaddr,o.load];rw[levs_get g,levV_lit h];have c:(cl.take (i+1)).filter (λk=>decide (lvM put ds k<T))=(cl.take i).filter (λk=>decide (lvM put ds k<T))++(if lvM put ds (cl.getD i 0)<T then[cl.getD i 0] else[]):=by
   rw[M.take_snoc' (d:=0) f,PL,PX,List.filter_nil];simp only[V0]
  have j:∀A:oI,maxL ((A++[cl.getD i 0]).map (lvM put ds))=max (maxL (A.map (lvM put ds))) (lvM put ds (cl.getD i 0)):=λA=>by
   rw[gE];exact maxL_snoc _ _ _ rfl
  refine zb (λb=>?_) (λb=>?_)
  .refine l4Max_spec ?_;rw[inc64 oM];rw[X0 oM] at c;refine n f _ _ ⟨rfl,?_⟩;rw[c,j]
  .rw[inc64 oM];rw[y3 oM,gK] at c;exact n f _ _ ⟨rfl,by rw[c]⟩
 .rw[gD oM,<-r];exact q
end
section
variable {w:World} {K:oK} {F F':oA} {many:Nat} {c:Cnf} {s:Sat}
def SpR (Z:oA) (w:World) (v:Value) (s:Sat):Prop:=
 ∃vp vw vl,v= .agg #[vp,vw,vl,nI s.code]/\OwnI zh w vp s.put/\OwnI zh w vw s.why/\(∀b,vp.ownBlock=some b->Z b/\vw.ownBlock≠some b)/\(∀b,vw.ownBlock=some b->Z b)/\
  Lists (λb=>Z b/\vp.ownBlock≠some b/\vw.ownBlock≠some b) w vl s.learned
section
variable {Z Z':oA} {v:Value} {w':World}
theorem SpR.ext (h:SpR Z w v s) (he:Ext w w'):SpR Z w' v s:=by
 obtain⟨vp,vw,vl,e,a,b,c,d,f⟩:=h;exact⟨vp,vw,vl,e,a.ext he,b.ext he,c,d,f.ext he⟩
theorem SpR.same {S:oA} (h:SpR Z w v s) (hw:Same S w w') (c:∀b,Z b->b<w.heap.size->¬S b):SpR Z w' v s:=by
 obtain⟨vp,vw,vl,e,d,f,g,i,j⟩:=h;exact⟨vp,vw,vl,e,d.same hw λb a=>c b (g b a).1 (d.lt a),f.same hw λb a=>c b (i b a) (f.lt a),g,i,j.same hw λb a=>c b a.1⟩
theorem SpR.weaken (h:SpR Z w v s) (c:∀b,Z b->b<w.heap.size->Z' b):SpR Z' w v s:=by
 obtain⟨vp,vw,vl,e,d,f,g,i,j⟩:=h;exact⟨vp,vw,vl,e,d,f,λb a=>⟨c b (g b a).1 (d.lt a),(g b a).2⟩,λb a=>c b (i b a) (f.lt a),j.weaken λb a k=>⟨c b a.1 k,a.2⟩⟩
theorem SpR.below (h:SpR Z w v s):SpR (λb=>Z b/\b<w.heap.size) w v s:=h.weaken λ_ a c=>⟨a,c⟩
theorem SpR.sat (h:SpR Z w v s):SatR Z w v s:=by
 obtain⟨vp,vw,vl,e,c,d,f,g,i⟩:=h;exact⟨vp,vw,vl,e,c.ints.weaken λb a _=>(f b a).1,d.ints.weaken λb a _=>g b a,i.weaken λb a _=>a.1⟩
theorem SpR.empty:SpR Z w (.agg #[oN,oN,oN,nI 0]) emptyS:=
 ⟨_,_,_,rfl,OwnI.nil,OwnI.nil,λb a=>(by cases a),λb a=>(by cases a),k80⟩
end
theorem copy_ints {v:Value} {xs:oI} {b:Nat} {t:TypeId} (f:Blk w b [] zE) (a:Ints F w v xs) (c:xs.length*8<=140737488355328)
  (g:∀v' w',OwnI zh w' v' xs->Same (· =b) w w'->(∀x,v'.ownBlock=some x->x=b\/w.heap.size<=x)->K v' w'):vbi .append [zh,zh] t [.slice (some ⟨b,0,none⟩) 0 0,v] w K:=by
 have d:OwnI zh w (.slice (some ⟨b,0,none⟩) 0 0) []:=Blk.own1 (t:=zh) (cs:=[]) (by rw[qB];exact f) (Gf _) rfl rfl oM;refine d.app (ys:=xs) xC a (by simp only[pK];omega) (by simpa using c) λv' w2 i hs h=>g v' w2 i (hs.mono λx _ a=>?_) λx a=>?_
 .exact(V1 a).symm
 .exact(h x a).imp (λe=>(V1 e).symm) id
theorem l5Back_spec {vp vw vl:Value} {L:Nat} (hp:OwnI zh w vp s.put) (hw:OwnI zh w vw s.why) (ac:vl.oneCell'=true) (hlen:s.put.length=s.why.length) (ag:s.put.length<=700) (hL:L<=700) (Y:∀k,k<s.why.length->s.why.getD k 0= -1\/0<=s.why.getD k 0)
  (hK:∀w' F y,Ext w w'->OwnI zh w' F (s.put.take (backN (yq s.why) L s.put.length))->OwnI zh w' y (s.why.take (backN (yq s.why) L s.put.length))->(∀b,F.ownBlock=some b->w.heap.size<=b/\y.ownBlock≠some b)->(∀b,y.ownBlock=some b->w.heap.size<=b)->K (.agg #[F,y,vl,nI s.code]) w'):
  vcall Ue #[.agg #[vp,vw,vl,nI s.code],nI L] w K:=by
 refine ze {loops:=[(3,[5,6])],cuts:=[(16392,[5])]} Tryz.func233 ?_;refine yj λb2 w2 ak a8 av a2=>?_;refine xz j4 λb4 A al O aw a3=>?_;have B4:Blk A b2 [vp,vw,vl,nI s.code] zw:=a2.ext O;have R4:Blk A b4 [oN,oN,oN,nI 0] zw:=a3;have E4:=a8.trans O;have R:=hp.ext E4;have ad:=hw.ext E4;have aa:=R.ints;have Z:=ad.ints;have aq:=jY s.why;refine zp (λu w'=>w'=A/\u=[nI (backN (yq s.why) L s.put.length:Nat)]) ?_ ?_
 .intro J hJ;have done:∀n,n<=s.put.length->(∀i,i<n->(lvl (yq s.why) i:Int)<=L)->(n=s.put.length\/(L:Int)<(lvl (yq s.why) n:Int))->J [nI (n:Nat)] A:=λn h1 h2 h3=>hJ _ _ ⟨rfl,by rw[backN_eq h1 h2 h3]⟩;refine vloop_up s.put.length (λn u w'=>w'=A/\u=[nI n,nI (((yq s.why).take n).count true:Nat)]/\∀i,i<n->(lvl (yq s.why) i:Int)<=L) ⟨rfl,rfl,oM⟩ ?_;rintro n _ _ A C hn ⟨rfl,rfl,f⟩ hC;simp only[push_cast,B4.ld0,aa.len];refine zb (λa=>?_) (λa=>done n hn f (.inl oM));have a9:n<s.put.length:=oM;have a7:=Ys (ds:=yq s.why) (i:=n) oM;have B:=lvl_succ (ds:=yq s.why) (i:=n) oM;have ap:((yq s.why).take n).count true<=700:=gY pY (by simp;omega);have N:=K9 (why:=s.why) (k:=n) oM;have au:=Y n oM;simp(disch:=exact oS) only[push_cast,B4.ld1,Z.iaddr,Z.load];have j:∀k:Nat,k=lvl (yq s.why) n->¬(L:Int)<k->(n<s.put.length->∀(u':List Value) (w'':World),(w''=A/\u'=[nI (n+1:Nat),nI (((yq s.why).take (n+1)).count true:Nat)]/\∀i,i<n+1->(lvl (yq s.why) i:Int)<=L)->C u' w'')->C [nI (n+1:Nat),nI k] A:=λk Q ar h=>by
   refine h a9 _ _ ⟨rfl,by rw[a7,<-B,Q],λi hi=>?_⟩;by_cases e:i=n
   .subst e;omega
   .exact f i oM
  refine zb (λb=>?_) (λb=>?_)
  .have Q:((yq s.why).take n).count true+1=lvl (yq s.why) n:=by rw[B,N,gz oM];rfl
   rw[inc64 oM];refine zb (λb2=>done n hn f (.inr oM)) (λb2=>?_);rw[inc64 oM];exact j _ Q b2 hC
  .have Q:((yq s.why).take n).count true=lvl (yq s.why) n:=by rw[B,N,gm oM];rfl
   refine zb (λb2=>done n hn f (.inr oM)) (λb2=>?_);rw[inc64 oM];exact j _ Q b2 hC
 rintro _ _ _ ⟨rfl,rfl⟩;have ao:=backN_le (yq s.why) L s.put.length;generalize backN (yq s.why) L s.put.length=n at*;have aj:=E4.size;refine yc xt yM λb5 w5 am o ax a4=>?_;have B5:=B4.ext o;have S:=R.ext o;simp(disch:=exact oS) only[push_cast,B5.ld0,S.cut];have ab:=S.taken (n:=n) oM;refine copy_ints a4 ab.ints (by simp;omega) λv6 w6 t D p=>?_;have B6:=B5.same D oM;refine B6.st t.ints.cells1 t.ints.one qq rfl λw7 T az a5=>?_;have B7:Blk w7 b2 [v6,vw,vl,nI s.code] zw:=a5;have ay:=D.size;have E:=t.same T λx c e=>by rcases p x c with d|d<;>omega
 have z:Same (λx=>x=b5\/x=b2) w5 w7:=(D.mono λx _ e=> .inl e).trans (T.mono λx _ e=> .inr e);have M:Ext w w7:=Ext.then (E4.trans o) z λx c=>oM
 refine yc xt yM λb8 w8 an g b0 a6=>?_;have B8:=B7.ext g;have X:=hw.ext (M.trans g);simp(disch:=exact oS) only[push_cast,B8.ld1,X.cut];have ae:=X.taken (n:=n) oM;refine copy_ints a6 ae.ints (by simp;omega) λv9 w9 v r q=>?_;have B9:=B8.same r oM;have V:=(E.ext g).same r λx c e=>by have:=E.lt c;omega
 refine B9.st v.ints.cells1 v.ints.one qq rfl λw10 l ah G=>?_;have a0:Blk w10 b2 [v6,v9,vl,nI s.code] zw:=G;have b1:=r.size;have U:=V.same l λx c e=>by rcases p x c with d|d<;>omega
 have W:=v.same l λx c e=>by rcases q x c with d|d<;>omega
 have hS:Same (λx=>x=b8\/x=b2) w8 w10:=(r.mono λx _ e=> .inl e).trans (l.mono λx _ e=> .inr e);have I:Ext w w10:=Ext.then (M.trans g) hS λx c=>oM
 have a1:Blk w10 b4 [oN,oN,oN,nI 0] zw:=((((R4.ext o).same z oM).ext g).same hS oM);rw[a0.ldAgg zR];refine a1.stAgg (cs':=[v6,v9,vl,nI s.code]) rfl zR (λx c=>?_) λaf m ai H=>?_
 .simp only[gj,gC,Gn] at c;rcases c with rfl|rfl|rfl|rfl
  .exact t.ints.one
  .exact v.ints.one
  .exact ac
  .rfl
 rw[H.lv zR];refine hK af v6 v9 (Ext.then I m λx c=>oM) (U.same m λx c e=>?_) (W.same m λx c e=>?_) (λx c=>⟨?_,λe=>?_⟩) (λx c=>?_)
 .rcases p x c with d|d<;>omega
 .rcases q x c with d|d<;>omega
 .rcases p x c with d|d<;>omega
 .have:=E.lt c;rcases q x e with d|d<;>omega
 .rcases q x c with d|d<;>omega
theorem J0 {vl:Value} {xss:List (oI)} (h:Lists F w vl xss):vl.oneCell'=true:=by
 obtain⟨vs,_,a,_⟩:=h;exact a.one
theorem l5Clash_spec {vc v v2:Value} {Z:oA} {k:Nat} (hc:CnfR F w vc c) (hs:SpR Z w v s) (d:Ints F' w v2 (atM c s k)) (A:satOk many c s) (Y:c.many=many) (hk:k<c.list.length+s.learned.length) (ac:j3 s.put (atM c s k))
  (hK:∀w' v',Ext w w'->SpR (λb=>Z b\/w.heap.size<=b) w' v' (jw many c s (atM c s k))->K v' w'):vcall VB #[vc,v,v2] w K:=by
 refine ze {} Tryz.func174 ?_;have ax:=hc;have bc:=hs.sat;obtain⟨lv,rfl,cx⟩:=hc;obtain⟨vp,vw,vl,rfl,hp,hw,ay,bz,af⟩:=hs;have D:many<=700/\c.list.length<=2500:=by
  have:=A.cnf;unfold cnfOk at this;simp only[gg,V0] at this;omega
 have ch:=A.few;have ag:=A.mks;have cz:=ag.len;have hlen:=A.len;have az:(yq s.why).length<=700:=by rw[jY];omega
 have a8:∀k,k<s.why.length->s.why.getD k 0= -1\/0<=s.why.getD k 0:=λk hk=>(A.why k hk).imp id λh=>h.1;have bounds:∀{an:oI},Fls s.put an->∀x,x∈an->x.natAbs<=many/\placeOf s.put x.natAbs≠0:=λhF x d=>by
  have h1:=ag.2 _ (hF x d);have h2:=placeOf_ne_zero (hF x d);rw[G0] at h2;exact⟨oM,h2⟩
 have cc:=clauseOk_len (m:=many) (by have:=A.atOk hk;rwa[Y] at this);obtain⟨z1,z2,z3,z4⟩:=UM A Y hk ac;refine yj λb3 w1 ct c0 d0 br=>?_;refine yj λb4 w2 cu b0 d1 bs=>?_;refine xz j4 λb6 w3 cv ad d2 bt=>?_;have A3:Blk w3 b3 [nI c.many,lv] zq:=(br.ext b0).ext ad;have B3:Blk w3 b4 [vp,vw,vl,nI s.code] zw:=bs.ext ad;have R3:Blk w3 b6 [oN,oN,oN,nI 0] zw:=bt;have E3:=c0.trans (b0.trans ad);rw[A3.ldAgg zF,B3.ldAgg zR];refine l5Levels_spec (ax.ext E3) (bc.ext E3) Y D.1 ag hlen a8 λw4 vlev O z ah=>?_;have E4:=E3.trans O;refine l5Top_spec z.ints D.1 az (d.ext E4) (bounds (Zi ac)) ?_;have A4:=A3.ext O;have B4:=B3.ext O;have R4:=R3.ext O;have d3:=O.size;have ones:∀{U V bf:Value} {cd:Int},U.oneCell'=true->V.oneCell'=true->bf.oneCell'=true->∀x,x∈[U,V,bf,nI cd]->x.oneCell'=true:=λh1 h2 h3 x d=>by
  simp only[gj,gC,Gn] at d;rcases d with rfl|rfl|rfl|rfl
  .exact h1
  .exact h2
  .exact h3
  .rfl
 have code:∀(cd:Int),jw many c s (atM c s k)={s with code:=cd}->zG zE (oP b4 3) (nI cd) w4 λ_ bi=>zu zw (oP b4 0) bi λt22 bj=>zG zw (oP b6 0) t22 bj λ_ bk=>vlv zw (oP b6 0) bk λr6 bl=>K r6 bl:=λcd X=>by
  refine B4.st rfl rfl yM rfl λw5 bd c9 bu=>?_;have B5:Blk w5 b4 [vp,vw,vl,nI cd] zw:=bu;rw[B5.ldAgg zR];refine(R4.same bd oM).stAgg (cs':=[vp,vw,vl,nI cd]) rfl zR (ones hp.ints.one hw.ints.one (J0 af)) λw6 c4 d4 bv=>?_;rw[bv.lv zR];have W:Ext w w6:=Ext.then E4 ((bd.mono λx _ e=>(.inl e:x=b4\/x=b6)).trans (c4.mono λx _ e=> .inr e)) λx d=>oM;refine hK w6 _ W ?_;rw[X];exact⟨vp,vw,vl,rfl,hp.ext W,hw.ext W,λb hb=>⟨.inl (ay b hb).1,(ay b hb).2⟩,λb hb=> .inl (bz b hb),(af.ext W).weaken λb hb _=>⟨.inl hb.1,hb.2⟩⟩
 refine oZ ?_;refine zb (λa=>?_) (λa=>?_)
 .exact code 2 (by unfold jw;rw[X0 oM])
 obtain⟨es,c1,b5,b1⟩:=af;have b8:=b5.ext E4;simp only[push_cast,B4.ld2,b8.len];refine zb (λa2=>?_) (λa2=>?_)
 .exact code 3 (by unfold jw;rw[y3 oM,X0 oM])
 clear code;have X:jw many c s (atM c s k)={s with put:=s.put.take (backN (yq s.why) (ZH s.put (yq s.why) (learnM many c s s.put.length (atM c s k))) s.put.length),why:=s.why.take (backN (yq s.why) (ZH s.put (yq s.why) (learnM many c s s.put.length (atM c s k))) s.put.length),learned:=s.learned++[learnM many c s s.put.length (atM c s k)]}:=by
  unfold jw;rw[y3 oM,y3 oM]
 rw[X] at hK;clear X;refine zd λw5 J _=>?_;have A5:=A4.ext J;have B5:=B4.ext J;simp only[push_cast,A5.ldAgg zF,B5.ldAgg zR,k5];refine yc xt yM λb7 w7 cw L d5 bw=>?_;have E7:=E4.trans (J.trans L);have A7:=A5.ext L;have B7:=B5.ext L;simp only[push_cast,A7.ldAgg zF,B7.ldAgg zR,k5,gi];have c9:=J.size;have cq:=L.size;refine copy_ints bw (d.ext E7) oM λv8 w8 c5 M c2=>?_;have A8:=A7.same M oM;have B8:=B7.same M oM;have ab:Ext w w8:=Ext.then E7 M λx d=>by have:=E4.size;omega
 simp only[push_cast,A8.ldAgg zF,B8.ldAgg zR,k5,gi];have d6:=M.size;have R:=((z.ext J).ext L).same M λx d e=>by have:=z.lt d;omega
 refine l5Learn_spec (ax.ext ab) (bc.ext ab) R.ints c5 A Y hk ac λw9 v9 Q ai c3=>?_;have E9:=ab.trans Q;have d7:=Q.size;have S:∀x,v9.ownBlock=some x->w4.heap.size<=x:=λx d=>by
  rcases c3 x d with e|e
  .rcases c2 x e with e|e<;>omega
  .omega
 generalize cy:learnM many c s s.put.length (atM c s k)=lc at*;refine yc kf qq λa9 w10 ce n ci ao=>?_;have ak:=(B8.ext Q).ext n;have am:=E9.trans n;have ae:=b5.ext am;simp only[push_cast,ak.ld2];have bq:OwnV zn w10 (.slice (some ⟨a9,0,none⟩) 0 0) []:=Blk.own1 (t:=zn) (cs:=[]) (by rw[K8];exact ao) (Gf _) rfl rfl oM;have b2:∀u,u∈es->u.oneCell'=true:=λu hu=>by
  obtain⟨i,hi,rfl⟩:=gq hu;have:=(b1 i oM).one;simpa[y4,hi] using this
 refine bq.app (us:=es) jC ae b2 (by simp;omega) (by simp;omega) λv11 bg a6 a5 ba=>?_;have f:∀x,v11.ownBlock=some x->w9.heap.size<=x:=λx d=>by
  rcases ba x d with e|e
  .have e:a9=x:=V1 e;omega
  .omega
 have r:Same (· =a9) w10 bg:=a5.mono λx _ e=>(V1 e).symm;have bm:=ak.same r oM;have c6:=n.size;have cj:=a5.size;have T:=(ai.ext n).same r λx d e=>by have:=ai.lt d;omega
 have au:Ext w bg:=Ext.then am r λx d=>by have:=E9.size;omega
 refine zB kf qq Xg rfl T.ints.cells1 λcr d8 cf g ck ap=>?_;rw[Gk] at a6;refine OwnV.app1 (a6.ext g) jC ap T.ints.one oM oM λa1 ca C o bb=>?_;have E:∀x,a1.ownBlock=some x->w9.heap.size<=x:=λx d=>by
  rcases bb x d with e|e
  .exact f x e
  .have:=g.size;omega
 have c7:=g.size;have cl:=o.size;have bn:=(bm.ext g).same o λe=>by have:=f _ e;have:=B8.lt;omega
 have av:Ext w ca:=Ext.then (au.trans g) o λx d=>by have:=f x d;have:=E9.size;omega
 have be:=(T.ext g).same o λx d e=>by have:=f x e;have:=ai.lt d;omega
 refine bn.st C.vals.cells1 C.vals.one jy rfl λaj p cm aq=>?_;have bo:Blk aj b4 [vp,vw,a1,nI s.code] zw:=aq;have aw:Ext w aj:=Ext.then av p λx d=>oM
 have G:=C.same p λx d e=>by have:=E x d;have:=B8.lt;omega
 have H:=be.same p λx d e=>by have:=S x d;have:=B4.lt;omega
 have a0:OwnI zh aj vlev (levs many s.put (yq s.why)):=((((R.ext Q).ext n).same r λx d e=>by have:=z.lt d;omega).ext g|>.same o λx d e=>by have:=f x e;have:=z.lt d;omega).same p λx d e=>by have:=ah x d;have:=B3.lt;omega
 refine zd λd9 j _=>?_;have al:=bo.ext j;simp only[push_cast,al.ldAgg zR,k5];have l:=aw.trans j;have c8:=p.size;have cn:=j.size;rw[<-z3];refine l5Below_spec (a0.ext j).ints D.1 (H.ext j).ints (bounds z1) ?_;simp only[push_cast,al.ldAgg zR,k5,gi];have bx:ZH s.put (yq s.why) lc<=700:=by
  unfold ZH;rcases jl (xs:=(lc.filter λk=>decide (lvM s.put (yq s.why) k<Z9 s.put (yq s.why) lc)).map (lvM s.put (yq s.why))) with e|e
  .omega
  .obtain⟨q,_,e⟩:=gy.1 e;rw[<-e];exact gY (lvl_le _ _) az
 refine l5Back_spec (s:={s with code:=s.code}) (hp.ext l) (hw.ext l) C.vals.one hlen oM bx a8 λcb U V y a4 a7 I N=>?_;have bp:Blk cb b6 [oN,oN,oN,nI 0] zw:=by
  have h6:=R3.lt;exact(((((((((R4.ext J).ext L).same M oM).ext Q).ext n).same r oM).ext g).same o λe=>by have:=f _ e;omega).same p oM|>.ext j).ext y
 refine bp.stAgg (cs':=[U,V,a1,nI s.code]) rfl zR (ones a4.ints.one a7.ints.one C.vals.one) λbh B cp ar=>?_;rw[ar.lv zR];have a3:Ext w bh:=Ext.then (l.trans y) B λx d=>oM
 have cg:=R3.lt;have co:=y.size;refine hK bh _ a3 ⟨U,V,a1,rfl,a4.same B λx d e=>by have:=(I x d).1;omega,a7.same B λx d e=>by have:=N x d;omega,λx d=>⟨.inr (by have:=(I x d).1;have:=l.size;omega),(I x d).2⟩,λx d=> .inr (by have:=N x d;have:=l.size;omega),es++[v9],by simp[c1],?_,λi hi=>?_⟩
 .have aa:=((G.ext j).ext y).same B λx d e=>by have:=E x d;omega
  refine aa.vals.weaken λx d _=>⟨.inr (by have:=E x d;have:=E9.size;omega),λe=>?_,λe=>?_⟩
  .have:=(I x e).1;have:=G.lt d;omega
  .have:=N x e;have:=G.lt d;omega
 .simp only[Q1,gG] at hi;by_cases b9:i<s.learned.length
  .rw[getD_app_l oM,getD_app_l b9];refine(((b1 i b9).weaken (F':=λx=>(Z x/\vp.ownBlock≠some x/\vw.ownBlock≠some x)/\x<w.heap.size) λx h1 h2=>⟨h1,h2⟩).ext a3).weaken λx d _=>⟨.inl d.1.1,λe=>?_,λe=>?_⟩
   .have:=(I x e).1;have:=l.size;omega
   .have:=N x e;have:=l.size;omega
  .have e1:i=s.learned.length:=oM;have e2:i=es.length:=oM;have g1:(es++[v9]).getD i undef=v9:=by rw[e2];simp
   have g2:(s.learned++[lc]).getD i []=lc:=by rw[e1];simp
   rw[g1,g2];have aa:=((H.ext j).ext y).same B λx d e=>by have:=S x d;omega
   refine aa.ints.weaken λx d _=>⟨.inr (by have:=S x d;have:=E4.size;omega),λe=>?_,λe=>?_⟩
   .have:=(I x e).1;have:=H.lt d;omega
   .have:=N x e;have:=H.lt d;omega
end
section
variable {w:World} {K:oK} {F F':oA} {many:Nat} {c:Cnf} {s:Sat}
theorem l5Do_spec {vc v:Value} {Z:oA} (hc:CnfR F w vc c) (hs:SpR Z w v s) (B:satOk many c s) (a3:c.many=many)
  (hK:∀w' v',Same Z w w'->SpR (λb=>Z b\/w.heap.size<=b) w' v' (goM many c s)->K v' w'):vcall xa0 #[vc,v] w K:=by
 refine ze {loops:=[(13,[9])]} Tryz.func117 ?_;have S:=hc;have bj:=hs.sat;have bk:=hs;obtain⟨lv,rfl,ad⟩:=hc;obtain⟨vp,vw,vl,rfl,hp,hw,p,a4,J⟩:=hs;have L:many<=700/\c.list.length<=2500:=by
  have:=B.cnf;unfold cnfOk at this;simp only[gg,V0] at this;omega
 have bu:=B.few;have M:=B.mks;have c9:=M.len;have hlen:=B.len;have ac:∀cl,cl∈c.list++s.learned->∀l,l∈cl->l≠0/\l.natAbs<=many:=λcl ad l hl=>satOk.bnd B a3 ad hl;refine yj λb2 w1 c2 bf cb ba=>?_;refine yj λb3 w2 c3 ae cc bb=>?_;refine xz j4 λb4 w3 c4 a5 ce bc=>?_;have A3:Blk w3 b2 [nI c.many,lv] zq:=(ba.ext ae).ext a5;have B3:Blk w3 b3 [vp,vw,vl,nI s.code] zw:=bb.ext a5;have R3:Blk w3 b4 [oN,oN,oN,nI 0] zw:=bc;have E3:=bf.trans (ae.trans a5);rw[A3.ldAgg zF];simp only[push_cast,B3.ld0];refine l5Vals_spec (S.ext E3) a3 L.1 (hp.ext E3).ints M λw4 v4 G ak c7=>?_;have E4:=E3.trans G;have A4:=A3.ext G;have B4:=B3.ext G;simp only[push_cast,A4.ldAgg zF,B4.ld2];refine l5Find_spec (S.ext E4) (J.ext E4) ak.ints M L.1 oM ac λw5 k u x H hf=>?_;have E5:=E4.trans H;have A5:=A4.ext H;have X:=B4.ext H;have R5:=(R3.ext G).ext H;have bm:=ak.ext H;have l3:=X.lt;have l4:=R5.lt;have cg:=E5.size;have cf:=G.size;refine oZ ?_;have ones:∀{q E ao:Value} {cd:Int},q.oneCell'=true->E.oneCell'=true->ao.oneCell'=true->∀x,x∈[q,E,ao,nI cd]->x.oneCell'=true:=λh1 h2 h3 x a=>by
  simp only[gj,gC,Gn] at a;rcases a with rfl|rfl|rfl|rfl
  .exact h1
  .exact h2
  .exact h3
  .rfl
 have n:goM many c s=(if 0<=k then jw many c s (atM c s k.toNat) else if 0<=u then{s with put:=s.put++[x],why:=s.why++[u]}
  else if s.put.length=many then{s with code:=1} else{s with put:=s.put++[-(ZP many s.put:Int)],why:=s.why++[-1]}):=by
  unfold goM;rw[hf]
 have push:∀(W:World) (l y:Int),Ext w W->Blk W b3 [vp,vw,vl,nI s.code] zw->Blk W b4 [oN,oN,oN,nI 0] zw->w5.heap.size<=W.heap.size->goM many c s={s with put:=s.put++[l],why:=s.why++[y]}->
   vbuildS zh 1 [(0,nI l)] W λt39 aq=>vbi .append [zh,zh] zh [vp,t39] aq λt40 ar=>zG zh (oP b3 0) t40 ar λ_ au=>zu zh (oP b3 1) au λt43 av=>
   vbuildS zh 1 [(0,nI y)] av λt45 aw=>vbi .append [zh,zh] zh [t43,t45] aw λt46 ax=>zG zh (oP b3 1) t46 ax λ_ ay=>zu zw (oP b3 0) ay λt48 az=>
   zG zw (oP b4 0) t48 az λ_ b0=>vlv zw (oP b4 0) b0 λan b1=>K an b1:=by
  intro W l y E6 B6 R6 bq ag;have ci:=E6.size;refine zB xt yM xJ rfl rfl λb7 w7 c5 j br a1=>?_;have r:=E6.trans j;refine(hp.ext r).app1 xC a1 oM oM λq w8 U V A=>?_;have nb:∀x,vp.ownBlock=some x->x<w.heap.size:=λx a=>hp.lt a;have nw:∀x,vw.ownBlock=some x->x<w.heap.size:=λx a=>hw.lt a;have B8:=(B6.ext j).same V λe=>by have:=nb _ e;omega
  refine B8.st U.ints.cells1 U.ints.one qq rfl λw9 D bs a2=>?_;have B9:Blk w9 b3 [q,vw,vl,nI s.code] zw:=a2;have bh:=U.same D λx a e=>by rcases A x a with d|d;(have:=nb _ d;omega);omega
  have bo:=((hw.ext r).same V λx a e=>(p x e).2 a).same D λx a e=>by have:=nw _ a;omega
  simp only[push_cast,B9.ld1];have ch:=V.size;refine zB xt yM xJ rfl rfl λc1 w10 bt t bw a8=>?_;refine(bo.ext t).app1 xC a8 oM oM λE cj Q z g=>?_;have b5:=(B9.ext t).same z λe=>by have:=nw _ e;omega
  have ah:=(bh.ext t).same z λx a e=>by
   rcases A x a with d|d
   .exact(p x d).2 e
   .have:=nw _ e;omega
  refine b5.st Q.ints.cells1 Q.ints.one qq rfl λap N bz a9=>?_;have b8:Blk ap b3 [q,E,vl,nI s.code] zw:=a9;have hS:Same (λx=>vp.ownBlock=some x\/vw.ownBlock=some x\/x=b3) w7 ap:=(V.mono λx _ e=> .inl e).trans ((D.mono λx _ e=> .inr (.inr e)).trans ((Same.of_ext t).trans ((z.mono λx _ e=> .inr (.inl e)).trans (N.mono λx _ e=> .inr (.inr e)))));have b9:=(R6.ext j).same hS (by rintro(e|e|e);exact absurd (nb _ e) oM;exact absurd (nw _ e) oM;omega);have Y:=ah.same N λx a e=>by rcases A x a with d|d;(have:=nb _ d;omega);omega
  have bx:=z.size;have a0:=Q.same N λx a e=>by rcases g x a with d|d;(have:=nw _ d;omega);omega
  rw[b8.ldAgg zR];refine b9.stAgg (cs':=[q,E,vl,nI s.code]) rfl zR (ones Y.ints.one a0.ints.one (J0 J)) λa7 O c0 aa=>?_;rw[aa.lv zR];have o:Same (λx=>vp.ownBlock=some x\/vw.ownBlock=some x\/x=b3\/x=b4) w7 a7:=(hS.mono λx _ e=>e.imp id λe=>e.imp id .inl).trans (O.mono λx _ e=> .inr (.inr (.inr e)));have ab:Same (λb=>vp.ownBlock=some b\/vw.ownBlock=some b) w a7:=by
   refine⟨o.os.trans r.os,o.tape.trans r.tape,o.output.trans r.output,gY r.size o.size,λb f hn=>?_⟩;rw[o.block b (by have:=r.size;omega) (by rintro(e|e|e|e);exact hn (.inl e);exact hn (.inr e);omega;omega),r.block b f id]
  have bp:=hS.size;refine hK a7 _ (ab.mono λb _ e=>e.elim (λe=>(p b e).1) (a4 b)) ?_;rw[ag];refine⟨q,E,vl,rfl,Y.same O λx a e=>by rcases A x a with d|d;(have:=nb _ d;omega);omega,a0.same O λx a e=>by rcases g x a with d|d;(have:=nw _ d;omega);omega,λx a=>?_,λx a=>?_,?_⟩
  .rcases A x a with e|e
   .refine⟨.inl (p x e).1,λe2=>?_⟩;rcases g x e2 with e3|e3
    .exact(p x e).2 e3
    .have:=nb _ e;omega
   .refine⟨.inr oM,λe2=>?_⟩;rcases g x e2 with e3|e3
    .have:=nw _ e3;omega
    .have:=U.lt a;omega
  .rcases g x a with e|e
   .exact .inl (a4 x e)
   .exact .inr oM
  .refine(((J.weaken (F':=λb=>(Z b/\vp.ownBlock≠some b/\vw.ownBlock≠some b)/\b<w.heap.size) λb h1 h2=>⟨h1,h2⟩).same ab λb f _ e=>e.elim f.1.2.1 f.1.2.2).weaken λx a _=>⟨.inl a.1.1,λe=>?_,λe=>?_⟩)
   .rcases A x e with d|d
    .exact a.1.2.1 d
    .have:=a.2;omega
   .rcases g x e with d|d
    .exact a.1.2.2 d
    .have:=a.2;omega
 rcases find_cases s.put (c.list++s.learned) with⟨i,u',x',hi,e,be⟩|⟨hn,⟨i,x',hi,e,hu,-⟩|⟨e,-⟩⟩
 .rw[hf,Gw,Gw] at e;obtain⟨rfl,rfl,rfl⟩:=e;rw[Q1] at hi;rw[X0 oM,gu] at n;refine zb (λ_=>?_) (λb=>absurd oM b);refine zd λW I _=>?_;have E6:=E5.trans I;have A6:=A5.ext I;have B6:=X.ext I;simp only[push_cast,A6.ldAgg zF,B6.ldAgg zR,k5];refine l5At_spec (S.ext E6) (bj.ext E6) hi oM λw7 v7 j bn=>?_;have r:=E6.trans j;have A7:=A6.ext j;have B7:=B6.ext j;simp only[push_cast,A7.ldAgg zF,B7.ldAgg zR,k5,gi];refine l5Clash_spec (S.ext r) (bk.below.ext r) bn B a3 hi be λw8 v8 af a6=>?_;have R8:=((R5.ext I).ext j).ext af;have E8:=r.trans af;rw[<-n] at a6;obtain⟨p8,y8,l8,rfl,h8⟩:=a6.sat.fields;refine R8.stAgg (cs':=[p8,y8,l8,nI (goM many c s).code]) rfl zR h8 λw9 D bs a2=>?_;rw[a2.lv zR];refine hK w9 _ (Same.of_ext (Ext.then E8 D λx a=>oM)) ((a6.same D λb f _ e=>?_).weaken λb f _=>?_)
  .have:=r.size;have:=R5.lt;have:=I.size;have:=j.size;rcases f with f|f
   .have:=f.2;omega
   .omega
  .rcases f with f|f
   .exact .inl f.1
   .exact .inr (by have:=r.size;omega)
 .rw[hf,Gw,Gw] at e;obtain⟨rfl,rfl,rfl⟩:=e;rw[y3 oM,X0 oM] at n;refine zb (λb=>absurd b oM) (λ_=>zb (λ_=>?_) (λb=>absurd oM b));simp only[push_cast,X.ld0];exact push w5 _ _ E5 X R5 (gr _) n
 .rw[hf,Gw,Gw] at e;obtain⟨rfl,rfl,rfl⟩:=e;rw[y3 oM,y3 oM] at n;refine zb (λb=>absurd b oM) (λ_=>zb (λb=>absurd b oM) (λ_=>?_));have bi:=(hp.ext E5).ints;simp only[push_cast,X.ld0,A5.ld0,bi.len];refine zb (λb=>?_) (λb=>?_)
  .rw[X0 oM] at n;refine X.st rfl rfl yM rfl λW ai bq bd=>?_;have B6:Blk W b3 [vp,vw,vl,nI 1] zw:=bd;rw[B6.ldAgg zR];refine(R5.same ai oM).stAgg (cs':=[vp,vw,vl,nI 1]) rfl zR (ones hp.ints.one hw.ints.one (J0 J)) λw7 bl br a1=>?_;rw[a1.lv zR];have R:Ext w w7:=Ext.then E5 ((ai.mono λx _ e=>(.inl e:x=b3\/x=b4)).trans (bl.mono λx _ e=> .inr e)) λx a=>oM;refine hK w7 _ (Same.of_ext R) ?_;rw[n];exact⟨vp,vw,vl,rfl,hp.ext R,hw.ext R,λb f=>⟨.inl (p b f).1,(p b f).2⟩,λb f=> .inl (a4 b f),(J.ext R).weaken λb f _=>⟨.inl f.1,f.2⟩⟩
  .rw[y3 oM] at n;obtain⟨f1,f2,f3,f4⟩:=free_spec M oM;have al:=bm.ints;have ca:=signs_len many s.put;refine vloop_up (ZP many s.put-1) (λi u w'=>u=[nI (i+1:Nat)]/\w'=w5) ⟨rfl,rfl⟩ ?_;rintro i _ _ w5 C hi ⟨rfl,rfl⟩ hC;have aj:=sgn_pos M (m:=((i+1:Nat):Int)) oM;rw[pJ] at aj;simp(disch:=exact oS) only[sl0,al.iaddr,gu,al.load];rw[signs_get oM,aj];have am:ZM0 s.put ((i+1:Nat):Int)=0↔placeOf s.put (i+1)=0:=by
    unfold ZM0;rw[pJ];by_cases hm:((i+1:Nat):Int)∈s.put
    .rw[X0 hm];have:=placeOf_ne_zero hm;rw[pJ] at this;exact⟨λh=>oM,λh=>absurd h this⟩
    .rw[y3 hm];by_cases T:placeOf s.put (i+1)=0
     .rw[X0 T];simp[T]
     .rw[y3 T];simp[T]
   simp only[xs0];refine zb (λb6=>?_) (λb6=>?_)
   .have bg:i<ZP many s.put-1:=by
     refine GK λc6=>b6 (am.2 ?_);have:i+1=ZP many s.put:=oM;rw[this];exact f3
    simp only[XS];rw[inc64 oM];exact hC bg _ _ ⟨rfl,rfl⟩
   .have bv:i+1=ZP many s.put:=by
     refine GK λc8=>f4 (i+1) oM oM (am.1 (by simpa using b6))
    have e1:IntKind.i64.wrap (0-((i+1:Nat):Int))= -(ZP many s.put:Int):=by rw[zk oM oM];omega
    simp(disch:=(simp only[push_cast])) only[zj0,zi0,yw,Gi,X.ld0,Y80,e1];exact push w5 _ _ E5 X R5 (gr _) n
theorem l5Run_spec {vc:Value} {n:Nat} (hc:CnfR F w vc c) (Z:cnfOk c=true) (D:c.many=many) (hn:n<=4000)
  (hK:∀w' v',Ext w w'->SpR (λb=>w.heap.size<=b) w' v' (runM many c n emptyS)->K v' w'):vcall y30 #[vc,nI n] w K:=by
 refine ze {loops:=[(3,[6])]} Tryz.func79 ?_;have Y:=hc.below;obtain⟨lv,rfl,a4⟩:=hc;refine yj λb2 w1 a1 h a5 T=>?_;refine xz j4 λb4 w2 a2 E a6 U=>?_;refine QF qz0 (us:=[]) rfl rfl ?_;refine xz j4 λM w3 a3 o a7 V=>?_;have B3:Blk w3 M [oN,oN,oN,nI 0] zw:=V;have A3:Blk w3 b2 [nI c.many,lv] zq:=(T.ext E).ext o;have R3:Blk w3 b4 [oN,oN,oN,nI 0] zw:=U.ext o;refine B3.stAgg (cs':=[oN,oN,oN,nI 0]) rfl zR (λx z=>by simp only[gj,gC,Gn] at z;rcases z with rfl|rfl|rfl|rfl<;>rfl) λH q a8 B=>?_;have E4:Ext w H:=Ext.then (h.trans (E.trans o)) q λx z=>by have:=h.size;omega
 have A4:=A3.same q oM;have R:=R3.same q oM;have aa:=E4.size;have fin:∀(f:World) (p y l:Value),Ext w f->H.heap.size<=f.heap.size->Blk f b4 [oN,oN,oN,nI 0] zw->Blk f M [p,y,l,nI (runM many c n emptyS).code] zw->SpR (λb=>H.heap.size<=b) f (.agg #[p,y,l,nI (runM many c n emptyS).code]) (runM many c n emptyS)->
   zu zw (oP M 0) f λt21 I=>zG zw (oP b4 0) t21 I λ_ J=>vlv zw (oP b4 0) J λr4 L=>K r4 L:=by
  intro f p y l v t A k m;rw[k.ldAgg zR];obtain⟨O,Q,N,e,S⟩:=m.sat.fields;obtain⟨rfl,rfl,rfl⟩:p=O/\y=Q/\l=N:=(by simpa using e);refine A.stAgg (cs':=[p,y,l,nI (runM many c n emptyS).code]) rfl zR S λw6 d a0 W=>?_;rw[W.lv zR];exact hK w6 _ (Ext.then v d λx z=>by have:=h.size;omega) ((m.same d λb g _ e=>by have:=R.lt;omega).weaken λb g _=>oM)
 refine vloop_up n (λi u w'=> ∃p y l,u=[nI i]/\Ext w w'/\H.heap.size<=w'.heap.size/\Blk w' b2 [nI c.many,lv] zq/\Blk w' b4 [oN,oN,oN,nI 0] zw/\Blk w' M [p,y,l,nI (runM many c i emptyS).code] zw/\SpR (λb=>H.heap.size<=b) w' (.agg #[p,y,l,nI (runM many c i emptyS).code]) (runM many c i emptyS))
  ⟨_,_,_,rfl,E4,gr _,A4,R,B,SpR.empty⟩ ?_
 rintro i _ _ f C hi ⟨p,y,l,rfl,v,t,A5,A,k,m⟩ hC;refine oZ ?_;refine zb (λa=>?_) (λa=>?_)
 .simp only[push_cast,k.ld3];refine zb (λb=>?_) (λb=>?_)
  .rw[A5.ldAgg zF,k.ldAgg zR];have G:=run_ok (n:=i) D (empty_ok (many:=many) Z);refine l5Do_spec (Y.ext v) m G D λw6 v6 d s=>?_;have r:goM many c (runM many c i emptyS)=runM many c (i+1) emptyS:=by rw[run_succ];unfold stepM;rw[X0 b]
   rw[r] at s;have l2:=A4.lt;have l4:=R.lt;have l5:=B.lt;have a0:=d.size;have A6:=A5.same d oM;have R6:=A.same d oM;have B6:=k.same d oM;obtain⟨O,Q,N,rfl,S⟩:=s.sat.fields;refine B6.stAgg (cs':=[O,Q,N,nI (runM many c (i+1) emptyS).code]) rfl zR S λw7 j a9 X=>?_;rw[inc64 oM];have E6:Ext w w6:=Ext.then v d λx z=>oM;refine hC oM _ _ ⟨O,Q,N,rfl,Ext.then E6 j λx z=>by have:=h.size;omega,oM,A6.same j oM,R6.same j oM,X,(s.same j λb g _ e=>?_).weaken λb g _=>?_⟩
   .rcases g with g|g<;>omega
   .rcases g with g|g<;>omega
  .have e:runM many c n emptyS=runM many c i emptyS:=by
    rw[show n=i+(n-i) from by omega,run_add,run_stop b]
   rw[<-e] at k m;exact fin f p y l v t A k m
 .have:n=i:=oM;subst this;exact fin f p y l v t A k m
end
end Go.Proofs.YtfnpmncplaibiaaGreatDoor
namespace Go.Proofs.YtfnpmncplaibiaaGreatDoor
open Go Go.Vc Go.Proofs
section
variable {w:World} {K:oK} {F F' D G:oA} {dv tv iv lv:Value} {ds:List M.Dcl} {ts:List M.Tm} {ins:List Bool} {c:M.Cnf}
theorem l9Folds_spec (E:DclsR F w dv ds) (J:TmsR G w tv ts) (s:M.declOk ds=true) (m:∀t,t∈ts->M.sortM ds t≠ -1) (hs:ts.length<=2000000)
  (B:∀w' lv,Ext w w'->TmsR (λ_=>True) w' lv (ts.map (M.foldT ds))->K lv w'):vcall Vv #[dv,tv] w K:=by
 refine ze {loops:=[(3,[5,6])]} Tryz.func42 ?_;refine vbuildS_row (xs:=[]) (us:=[]) (k:=5) qC j8 zr rfl (by simp) dC λb1 w1 D p L o=>?_;have z:LstH (λ_=>False) w1 (.slice (some ⟨b1,0,none⟩) 0 0) []:=⟨[],Blk.ownk (css:=[]) (by rw[jX];exact o) (by simp) rfl dC,rfl,λi hi=>absurd hi (pA _)⟩;refine vloop_up ts.length (λi u w'=> ∃lv H,u=[lv,nI i]/\Ext w w'/\LstH H w' lv ((ts.take i).map (M.foldT ds))/\∀x,lv.ownBlock=some x->w.heap.size<=x/\¬H x)
  ⟨_,_,rfl,p,z,λx c=>⟨by have e:b1=x:=V1 c;omega,id⟩⟩ ?_
 rintro i _ _ w2 C hi ⟨lv,H,rfl,d,g,hO⟩ A;have l:=(J.weaken (F':=λx=>G x/\x<w.heap.size) λx a b=>⟨a,b⟩).ext d;simp only[push_cast,l.len];refine zb (λa=>?_) (λa=>?_)
 .have f:i<ts.length:=oM;simp(disch:=exact oS) only[push_cast,l.iaddr];refine l.load zc f λx c=>?_;refine l3Fold_spec _ (E.ext d) s c (m _ (M.getD_mem f _)) λN rv j I=>?_;have z2:=d.size;have z3:=j.size;have llt:∀x,lv.ownBlock=some x->x<w2.heap.size:=λx c=>g.lt c;refine LstH.push (g.ext j) (λx c=>⟨(hO x c).2,λe=>?_⟩) I (by rw[K3,gh];omega) λO y v r n=>?_
  .have:=llt x c;have:=(hO x c).1;rcases e with e|e<;>omega
  try simp only[push_cast]
  rw[inc64' oM];rw[show(ts.take i).map (M.foldT ds)++[M.foldT ds (ts.getD i default)]=(ts.take (i+1)).map (M.foldT ds) by rw[<-Kh f,gE];rfl] at n;refine A f _ _ ⟨y,_,rfl,Ext.then (d.trans j) v λx c=>(hO x c).1,n,λx c=>?_⟩;rcases r x c with e|e
  .refine⟨(hO x e).1,λh=>?_⟩;have:=llt x e;have:=(hO x e).1;rcases h.1 with h|h
   .exact(hO x e).2 h
   .rcases h with h|h<;>omega
  .exact⟨oM,λh=>by have:=h.2;omega⟩
 .have q:i=ts.length:=oM;subst q;rw[gA] at g;exact B w2 lv d (g.tms.weaken λ_ _ _=>trivial)
theorem spec_BlastEnv_spec (T:JX ds) (H:DclsR F w dv ds) (hi:Bools F' w iv ins) (d:M.declOk ds=true) (hl:ins.length=M.nIn ds)
  (Y:∀w' r,Ext w w'->OwnI zh w' r (M.envB ds ins)->(∀b,r.ownBlock=some b->w.heap.size<=b)->K r w'):vcall KD #[dv,iv] w K:=by
 refine ze {loops:=[(6,[5,6,7]),(10,[6,8,9])],cuts:=[(12292,[])]} Tryz.func81 ?_;obtain⟨a2,a3⟩:=M.nIn_eq d;refine spec_nil λv1 w1 R g A=>?_;refine zp (λu w'=>u=[]/\Ext w1 w') (λC E=>?_) ?_
 .refine spec_DeclOk_spec (H.ext g) T λw2 f=>?_;rw[d];simp only[push_cast,Gp,((hi.ext g).ext f).len];refine sbits8_spec (k:=ds.length) d (gr _) (by rw[gA];exact(H.ext g).ext f) λW J=>?_;rw[M.bitT_all];refine oZ ?_;refine zb (λh=>absurd oM h) (λ_=>E _ _ ⟨rfl,f.trans J⟩)
 rintro _ _ w2 ⟨rfl,f⟩;have h4:=(M.decl_iff.1 d).1;have I:=M.dpos d;have L:=M.envB_len ds ins;refine vloop_up ds.length (λi u w'=> ∃r,u=[r,nI (Jx ds i),nI i]/\Ext w w'/\OwnI zh w' r ((M.envB ds ins).take i)/\∀b,r.ownBlock=some b->w.heap.size<=b) ⟨v1,rfl,g.trans f,R.ext f,A⟩ ?_;rintro i _ _ W C a0 ⟨r,rfl,s,p,o⟩ E;have n:=H.ext s;have y:=hi.ext s;simp only[push_cast,n.len];refine zb (λa=>?_) (λa=>?_)
 .have l:i<ds.length:=oM;have U:=M.dcl_wide d l;have q:=off_succ d l;have X:=off_le d (i:=i+1) oM;have het:=envB_take (ins:=ins) I l;obtain⟨wd,m⟩:∃wd:Nat,(ds.getD i (M.nada,0)).2=wd:=⟨_,(Int.toNat_of_nonneg oM).symm⟩;rw[m] at U q het;rw[gu] at q het;generalize v:(ins.drop (Jx ds i)).take wd=bs at het;have t:bs.length=wd:=by rw[<-v,gh,pk,hl];omega
  refine vloop_up wd (λj u w'=>u=[nI (Jx ds i+j:Nat),nI (M.msbN (bs.take j)),nI j]/\w'=W) ⟨rfl,rfl⟩ ?_;rintro j _ _ _ C1 hj ⟨rfl,rfl⟩ G;have a1:=M.msb_lt (bs.take j);have a4:2^(bs.take j).length<=2^4:=gN oM (by rw[gh];omega);simp(disch:=exact oS) only[push_cast,n.iaddr,gu,n.load1,m];refine zb (λc=>?_) (λc=>?_)
  .have z:j<wd:=oM;have hg:ins.getD (Jx ds i+j) false=bs.getD j false:=by
    rw[<-v,M.take_getD z,y4,y4,Pd]
   simp(disch:=exact oS) only[push_cast,y.iaddr,gu,y.load,zk];refine XF ?_;have Z:0<=M.b2i (bs.getD j false)/\M.b2i (bs.getD j false)<=1:=by unfold M.b2i;split<;>omega
   have D:=msb_snoc (bs.take j) (bs.getD j false);rw[<-M.take_add (by omega:j<bs.length) false] at D;rw[show((Jx ds i:Int)+(j:Int)).toNat=Jx ds i+j by omega,hg];simp(disch:=exact oS) only[push_cast,zk];refine G z _ _ ⟨?_,rfl⟩;rw[D,Int.mul_comm 2];simp[Int.add_assoc]
  .have O:j=wd:=oM;subst O;rw[<-t,gA,t];refine push_int p (by rw[gh];omega) λw6 r6 S B Q=>?_;rw[<-het,<-M.take_add oM 0] at B;have z3:=s.size;rw[inc64' oM];refine E l _ _ ⟨r6,by rw[q,Int.natCast_add (Jx ds i)],Ext.then s S λx V=>o x V,B,λx V=>?_⟩;rcases Q x V with e|e
   .exact o x e
   .omega
 .have N:i=ds.length:=oM;subst N;rw[<-L,gA] at p;exact Y W r s p o
theorem Y70 {put:oI} {i n:Nat} (h:i<n):decide (M.sgnV put (2+i)=1)=(M.insV (M.wayM put) n).getD i false:=by
 rw[M.insV_get h];unfold M.sgnV M.wayM;rw[Nat.add_comm 2 i];by_cases c:((i+2:Nat):Int)∈put
 .rw[X0 c,gz c];rfl
 .rw[y3 c,gm c];split<;>rfl
theorem l9Search_spec (aa:JX ds) (hd:DclsR F w dv ds) (I:M.declOk ds=true) (hc:CnfR G w (.agg #[nI c.many,lv]) c) (f:M.cnfOk c=true) (hn:1+M.nIn ds<=c.many.toNat)
  (hK:∀w' ev,Ext w w'->OwnI zh w' ev (M.searchM 4000 ds c).1->(∀x,ev.ownBlock=some x->w.heap.size<=x)->K (.tuple #[ev,nI (M.searchM 4000 ds c).2]) w'):
  vcall Kw #[dv,.agg #[nI c.many,lv]] w K:=by
 refine ze {loops:=[(7,[8,9])]} Tryz.func43 ?_;obtain⟨ah,ai⟩:=M.nIn_eq I;obtain⟨many,hm⟩:∃many:Nat,c.many=many:=⟨c.many.toNat,oM⟩;have a4:c.many.toNat=many:=oM
 have B:many<=700:=by
  have:=f;unfold M.cnfOk at this;simp only[gg,V0] at this;omega
 refine yj λb1 w1 ac z al a0=>?_;have A1:Blk w1 b1 [nI c.many,lv] zq:=a0;rw[A1.ldAgg zF];refine l5Run_spec (many:=many) (n:=4000) (hc.ext z) f hm (gr _) λw2 v2 A v=>?_;have z1:=z.size;have z2:=A.size;have T:=(M.run_ok (n:=4000) hm (M.empty_ok (many:=many) f)).mks;refine xz j4 λb4 w3 ad a5 am a1=>?_;have d:M.searchM 4000 ds c=if(M.runM many c 4000 M.emptyS).code=1 then(M.envB ds (M.insV (M.wayM (M.runM many c 4000 M.emptyS).put) (M.nIn ds)),1) else if(M.runM many c 4000 M.emptyS).code=2 then([],2) else([],3):=by rw[<-a4];rfl
 generalize M.searchM 4000 ds c=sr at d hK;generalize M.runM many c 4000 M.emptyS=s at v d T;obtain⟨p,y,l,rfl,h8⟩:=v.sat.fields;obtain⟨p',y',l',e',hp,_,aj,_,_⟩:=v;obtain⟨rfl,rfl,rfl⟩:p=p'/\y=y'/\l=l':=by simpa using e'
 have R3:Blk w3 b4 [oN,oN,oN,nI 0] zw:=a1;refine R3.stAgg (cs':=[p,y,l,nI s.code]) rfl zR h8 λw4 a9 an Q=>?_;have q:Ext w2 w4:=Ext.then a5 a9 λx J=>oM
 have N:=(z.trans A).trans q;have A4:=A1.ext (A.trans q);simp only[push_cast,Q.ld3];refine zb (λa=>?_) (λa=>?_)
 .rw[X0 a] at d;subst d;rw[A4.ldAgg zF];simp only[push_cast,Q.ld0];refine l5Vals_spec (hc.ext N) hm B (hp.ext q).ints T λL v5 g ab o=>?_;have Z:=N.trans g;have z5:=Z.size;refine yc yW0 xn0 λb6 w6 ae a6 ao a3=>?_;have a8:OwnB xx w6 (.slice (some ⟨b6,0,none⟩) 0 0) []:=Blk.own1 (t:=xx) (cs:=[]) (by rw[K7];exact a3) (Gf _) rfl rfl oM;refine vloop_up (M.nIn ds) (λi u w'=> ∃r,u=[r,nI i]/\Ext L w'/\OwnB xx w' r ((M.insV (M.wayM s.put) (M.nIn ds)).take i)/\∀b,r.ownBlock=some b->L.heap.size<=b) ⟨_,rfl,a6,a8,λb R=>by have e:b6=b:=V1 R;omega⟩ ?_;rintro i _ _ w7 C hi ⟨r,rfl,e7,E,V⟩ hC;refine sbits8_spec (k:=ds.length) I (gr _) (by rw[gA];exact hd.ext (Z.trans e7)) λw8 m=>?_;rw[M.bitT_all];refine oZ ?_;have O:=e7.trans m;have hlen:=M.insV_len (M.wayM s.put) (M.nIn ds);refine zb (λa=>?_) (λa=>?_)
  .have S:i<M.nIn ds:=oM;have Y:=(ab.ext O).ints;have ak:=M.signs_len many s.put;simp(disch:=exact oS) only[push_cast,zk,Y.iaddr,Y.load];rw[show((2:Int)+(i:Int)).toNat=2+i by omega,M.signs_get oM,Y70 S];refine one_bool λw9 b9 af j H=>?_;refine OwnV.app (us:=[.bool ((M.insV (M.wayM s.put) (M.nIn ds)).getD i false)]) ((E.ext m).ext j) UO H.bools (by simp[Value.oneCell']) (by simp only[K3,gG,gh];omega) (by simp only[K3,gG,gh];omega) λv10 w10 W X U=>?_;have z8:=m.size;have z9:=j.size;have z7:=e7.size;refine hC S _ _ ⟨v10,rfl,Ext.then (O.trans j) X λb R=>V b R,?_,λb R=>?_⟩
   .rw[M.take_add oM false];unfold OwnB;rw[gE];exact W
   .rcases U b R with h|h
    .exact V b h
    .omega
  .have ag:i=M.nIn ds:=oM;rw[gD oM] at E;refine spec_BlastEnv_spec aa (hd.ext (Z.trans O)) (E.ext m).bools I hlen λw9 r9 j H a7=>?_;have z8:=O.size;exact hK w9 r9 (Z.trans (O.trans j)) H λx J=>by have:=a7 x J;omega
 .rw[y3 a] at d;have z4:=N.size;refine zb (λa2=>?_) (λa2=>?_)
  .rw[X0 a2] at d;subst d;exact spec_nil λv5 L D g o=>hK L v5 (N.trans g) D λx J=>by have:=o x J;omega
  .rw[y3 a2] at d;subst d;exact spec_nil λv5 L D g o=>hK L v5 (N.trans g) D λx J=>by have:=o x J;omega
end
section
variable {ds:List M.Dcl} {ts:List M.Tm} {t:M.Tm}
theorem Vp (h:all8 ds ts=true):M.declOk ds=true/\M.sorted0 ds ts/\ts.length<=8:=
 ⟨(all8_iff.1 h).2.1,λt a=>(Jo ((all8_iff.1 h).2.2 t a)).1,(all8_iff.1 h).1⟩
end
section
variable {ds:List M.Dcl} {ts:List M.Tm} {e:oI} {nots W:List (oI)} {f:Nat}
def waysG (ds:List M.Dcl) (ts:List M.Tm):Nat->List (oI)->List (oI)×Int
 |0,l=>(l,1)
 |f+1,l=>if(yE ds ts l).2=1 then waysG ds ts f (l++[(yE ds ts l).1]) else(l,(yE ds ts l).2)
def qa (ds:List M.Dcl) (ts:List M.Tm) (most:Int):List (oI)×Int:=if all8 ds ts=true/\0<=most/\most<=20 then waysG ds ts most.toNat [] else([],4)
def WaysP (ds:List M.Dcl) (ts:List M.Tm) (W:List (oI)):Prop:=∀i,i<W.length->(yE ds ts (W.take i)).2=1/\(yE ds ts (W.take i)).1=W.getD i []
theorem WaysP.next (h:WaysP ds ts W) (a:(yE ds ts W).2=1):WaysP ds ts (W++[(yE ds ts W).1]):=by
 intro i hi;rw[Q1,gG] at hi;by_cases c:i<W.length
 .rw[GJ oM,y4,Gb c,<-y4];exact h i c
 .have:i=W.length:=oM;subst this;rw[GJ (gr _),gA,y4,GA (gr _),GW];exact⟨a,rfl⟩
theorem waysG_says:∀(f:Nat) (l:List (oI)),WaysP ds ts l->WaysP ds ts (waysG ds ts f l).1/\(((waysG ds ts f l).2=1/\(waysG ds ts f l).1.length=l.length+f)\/((waysG ds ts f l).2=(yE ds ts (waysG ds ts f l).1).2/\(waysG ds ts f l).2≠1/\(waysG ds ts f l).1.length<l.length+f))
 |0,l,h=>⟨h,.inl ⟨rfl,rfl⟩⟩
 |f+1,l,h=>by
  unfold waysG;split
  .next c=>
   obtain⟨a,b⟩:=waysG_says f _ (h.next c);rw[Q1,gG,show l.length+1+f=l.length+(f+1) by omega] at b;exact⟨a,b⟩
  .next c=>exact⟨h,.inr ⟨rfl,c,by show l.length<_;omega⟩⟩
theorem ZL0 (a:all8 ds ts=true):yE ds ts nots=M.solveM 4000 ds ts nots:=X0 a
theorem nots_le (a:all8 ds ts=true) (b:nots.length<=80):ts.length+nots.length<=90:=by have:=(all8_iff.1 a).1;omega
theorem ways_env (c:all8 ds ts=true) (h:WaysP ds ts W) (f:W.length<=80):∀i:Nat,i<=W.length->∀e,e∈W.take i->M.envOk ds e=true
 |0,_,e,he=>by simp at he
 |i+1,hi,e,he=>by
  rw[M.take_add (by omega:i<W.length) []] at he;have d:=ways_env c h f i oM;rcases gl.1 he with he|he
  .exact d e he
  .obtain⟨a,b⟩:=h i oM;obtain⟨p,q,r⟩:=Vp c;rw[ZL0 c] at a b;rw[gx.1 he,<-b];exact(M.solve_yes p q d (nots_le c (by rw[gh];omega)) a).1.1
end
section
variable {ds:List M.Dcl} {ts:List M.Tm}
instance (ds:List M.Dcl) (e:oI) (ts:List M.Tm):Decidable (M.allT ds e ts):=by unfold M.allT;infer_instance
end
section
variable {ds:List M.Dcl} {ts:List M.Tm} {e:oI} {i:Nat}
theorem waysR_says {most:Int} (e:all8 ds ts=true) (c:0<=most) (d:most<=20):WaysP ds ts (qa ds ts most).1/\(((qa ds ts most).2=1/\((qa ds ts most).1.length:Int)=most)\/
  ((qa ds ts most).2=(yE ds ts (qa ds ts most).1).2/\(qa ds ts most).2≠1/\((qa ds ts most).1.length:Int)<most)):=by
 unfold qa;rw[X0 ⟨e,c,d⟩];obtain⟨a,b⟩:=waysG_says (ds:=ds) (ts:=ts) most.toNat [] (λi hi=>absurd hi (pA _));refine⟨a,?_⟩;rcases b with⟨b1,b2⟩|⟨b1,b2,b3⟩
 .exact .inl ⟨b1,by rw[b2];simp;omega⟩
 .exact .inr ⟨b1,b2,by simp at b3;omega⟩
theorem j9 {most:Int} (h: ¬(all8 ds ts=true/\0<=most/\most<=20)):qa ds ts most=([],4):=y3 h
end
section
variable {w w':World} {K:oK} {F F' D G H S:oA} {N n b k:Nat} {v lv tv dv iv ev bv:Value} {ls:List Value} {xs ys env:oI} {xss W:List (oI)} {ts:List M.Tm} {ds:List M.Dcl} {c:M.Cnf} {most:Int} {ab:Addr}
theorem Ke {f:Nat}:waysG ds ts (f+1) W=if(yE ds ts W).2=1 then waysG ds ts f (W++[(yE ds ts W).1]) else(W,(yE ds ts W).2):=rfl
theorem Kd (a:all8 ds ts=true) (c:∀e,e∈W->M.envOk ds e=true) (d:W.length<=80) (b:(yE ds ts W).2=1):∀e,e∈W++[(yE ds ts W).1]->M.envOk ds e=true:=λe he=>by
 rcases gl.1 he with he|he
 .exact c e he
 .obtain⟨p,q,r⟩:=Vp a;rw[gx.1 he];rw[ZL0 a] at b⊢;exact(M.solve_yes p q c (nots_le a d) b).1.1
def xT0 (lv:Value) (ls:List Value) (n b:Nat):Prop:=lv.ownBlock=some b\/Xs0 ls n b
theorem CnfO.sameQ (h:CnfO N w lv ls c) (hw:Same S w w') (b:∀x,xT0 lv ls c.list.length x->x<w.heap.size->¬S x):CnfO N w' lv ls c:=
 ⟨h.lst.same hw λx a=>b x (.inl a) (h.lst.lt a),h.len,h.dl,(h.rows.owned.same hw λx a d=>b x (.inr a.2) d).weaken λx a _ _=>a.1⟩
theorem CnfO.inQ (h:CnfO N w lv ls c) {x:Nat} (a:xT0 lv ls c.list.length x):N<=x/\x<w.heap.size:=by
 rcases a with a|a
 .exact⟨h.dl x a,h.lst.lt a⟩
 .exact h.rows.in a
theorem owns_snoc {x:Nat} (b:ls.length=n) (h:Xs0 (ls++[v]) (n+1) x):Xs0 ls n x\/v.ownBlock=some x:=by
 obtain⟨i,hi,a⟩:=h;by_cases e:i<n
 .rw[M.app_getD oM] at a;exact .inl ⟨i,e,a⟩
 .have e:i=n:=oM;rw[Vo oM,b,e,GW] at a;exact .inr a
theorem CnfO.lists (h:CnfO N w lv ls c):Lists (λx=>N<=x) w lv c.list:=by
 obtain⟨a,e,b⟩:=h.cnf;have:lv=a:=by simpa using e
 rw[this];exact b
theorem CnfO.nil (a:N<=w.heap.size) {m:Int}:CnfO N w (oN) [] ⟨m,[]⟩:=⟨OwnV.nil,rfl,λx b=>(by cases b),RowsR.nil a⟩
theorem Yl {vs:List Value} (h:Vals F w v vs):v.cells= #[v]/\v.oneCell'=true:=by
 obtain⟨a,c',e,_⟩:=h.shape;subst e;exact⟨rfl,rfl⟩
theorem lists_copy {ty n:Nat} {v0:Value} (m:OwnV zn w v0 []) (a:∀x,v0.ownBlock=some x->n<=x) (h:Lists F w lv xss) (hF:∀x,F x->x<n) (hw:n<=w.heap.size) (q:xss.length<=100000)
  (o:∀w' v' ls,Same (λx=>n<=x) w w'->OwnV zn w' v' ls->ls.length=xss.length->(∀i,i<xss.length->Ints F w' (ls.getD i undef) (xss.getD i []))->(∀x,v'.ownBlock=some x->n<=x)->K v' w'):
  vbi .append [zn,zn] ty [v0,lv] w K:=by
 obtain⟨es,f,g,b⟩:=h;refine OwnV.app m jC g (λu hu=>?_) (by simp;omega) (by simp;omega) λv2 w2 l c k=>?_
 .obtain⟨j,p,rfl⟩:=gq hu;have:=(b j oM).one;rwa[y4,gd p] at this
 .refine o w2 v2 es (c.mono λx _ d=>a x d) (by rwa[Gk] at l) f (λi hi=>(b i hi).same c λx d _ e=>?_) λx d=>?_
  .have:=a x e;have:=hF x d;omega
  .rcases k x d with e|e
   .exact a x e
   .omega
theorem lists_more {ty:Nat} (h:OwnV zn w v ls) (n:ls.length=xss.length) (hi:∀i,i<xss.length->Ints F w (ls.getD i undef) (xss.getD i [])) (j:Ints F w bv ys) (hF:∀x,v.ownBlock=some x->¬F x) (hs:xss.length<=100000)
  (p:∀w' v',Same (λx=>v.ownBlock=some x) w w'->Lists (λx=>F x\/v'.ownBlock=some x) w' v' (xss++[ys])->(∀x,v'.ownBlock=some x->v.ownBlock=some x\/w.heap.size<=x)->K v' w'):
  vbuildS zn 1 [(0,bv)] w λs w1=>vbi .append [zn,zn] ty [v,s] w1 K:=by
 refine zB kf qq Xg rfl j.cells1 λb3 u r b t g=>?_;have z3:=b.size;refine OwnV.app1 (h.ext b) jC g j.one oM oM λv4 o m f l=>?_;refine p o v4 ((Same.of_ext b).trans f) ⟨ls++[bv],by simp[n],m.vals.weaken λx d _=> .inr d,λi k=>?_⟩ λx d=>(l x d).imp id λh=>oM
 have mv:∀{a:Value} {zs:oI},Ints F w a zs->Ints (λx=>F x\/v4.ownBlock=some x) o a zs:=λq=>((q.ext b).same f λx d _ e=>hF x e d).weaken λx d _=> .inl d;rw[Q1,gG] at k;by_cases c:i<xss.length
 .rw[M.app_getD oM,M.app_getD c];exact mv (hi i c)
 .have e:i=xss.length:=oM;rw[Vo oM,Vo oM,n,e,GW];exact mv j
theorem spec_BlastIns_spec (Y:JX ds) (hd:DclsR F w dv ds) (he:Ints F' w ev env) (L:M.envOk ds env=true)
  (hK:∀w' r,Ext w w'->OwnB xx w' r (M.insM ds env)->(∀b,r.ownBlock=some b->w.heap.size<=b)->K r w'):vcall KC #[dv,ev] w K:=by
 refine ze {loops:=[(5,[5,6]),(8,[5,7])]} Tryz.func45 ?_;obtain⟨f,hlen,G⟩:=M.env_ok L;refine yc yW0 xn0 λb1 w1 a3 v aa N=>?_;have U:OwnB xx w1 (.slice (some ⟨b1,0,none⟩) 0 0) []:=Blk.own1 (t:=xx) (cs:=[]) (by rw[K7];exact N) (Gf _) rfl rfl oM;refine spec_EnvOk_spec (hd.ext v) Y (he.ext v) λab o=>?_;rw[L];have e1:=v.trans o;simp only[push_cast,Gp];have h4:=(M.decl_iff.1 f).1;refine vloop_up ds.length (λi u w'=> ∃r,u=[r,nI i]/\Ext w w'/\OwnB xx w' r (M.insM (ds.take i) (env.take i))/\∀b,r.ownBlock=some b->w.heap.size<=b) ⟨_,rfl,e1,U.ext o,λb D=>by have e:b1=b:=V1 D;omega⟩ ?_;rintro i _ _ w2 C hi ⟨r,rfl,B,m,J⟩ hC;have s:=hd.ext B;simp only[push_cast,s.len];refine zb (λa=>?_) (λa=>?_)
 .have g:i<ds.length:=oM;have a8:=M.dcl_wide f g;obtain⟨n1,n2,n3,n4⟩:=M.vok_iff.1 (G i g);have a6:=M.bits_le f g;have a5:=(M.decl_iff.1 f).2.2;have H:(M.insM (ds.take i) (env.take i)).length<=8:=by
   have:=M.insM_len (ds:=ds.take i) (env:=env.take i) (by rw[gh,gh];omega) λd Q=>M.dpos f d (gU Q);omega
  have a2:(2:Int)^((ds.getD i (M.nada,0)).2).toNat<=16:=by
   have h1:(2:Nat)^((ds.getD i (M.nada,0)).2).toNat<=2^4:=gN oM oM;have h2:(((2:Nat)^((ds.getD i (M.nada,0)).2).toNat:Nat):Int)<=16:=oM;simpa using h2
  simp(disch:=exact oS) only[push_cast,s.iaddr,s.load1];have n:=insM_take hlen g;generalize hp:M.insM (ds.take i) (env.take i)=ps at m H n;obtain⟨k,hk⟩:=PY n3;have p:env.getD i 0=(k:Int):=hk;rw[p] at n n4;rw[gu] at n;have a1:=he.ext B;generalize a9:(ds.getD i (M.nada,0)).2=wd at*
  try simp(disch:=exact oS) only[push_cast,zk]
  have a0:(M.bitsN wd.toNat k).reverse.length=wd.toNat:=(by rw[pE,M.bitsN_len]);have z2:=B.size;refine vloop_up wd.toNat (λj u w'=> ∃r,u=[r,nI (wd-1-j)]/\Ext w w'/\OwnB xx w' r (ps++(M.bitsN wd.toNat k).reverse.take j)/\∀b,r.ownBlock=some b->w.heap.size<=b) ⟨r,by simp,B,by simpa using m,J⟩ ?_;rintro j _ _ w5 C1 hj ⟨r2,rfl,l,A,z⟩ O;refine oZ ?_;refine zb (λc=>?_) (λc=>?_)
  .have I:j<wd.toNat:=oM;have E:=he.ext l;simp(disch:=exact oS) only[push_cast,E.iaddr,E.load,p];rw[show(wd-1-(j:Int))=((wd.toNat-1-j:Nat):Int) by omega];refine l1Bit_spec oM oM ?_;have Z:(M.bitsN wd.toNat k).reverse.take (j+1)=(M.bitsN wd.toNat k).reverse.take j++[decide (k/2^(wd.toNat-1-j)%2=1)]:=by
    rw[M.take_add oM false];congr 2;rw[y4,pN (by rw[M.bitsN_len];exact I),M.bitsN_len,<-y4,M.bitsN_get oM]
   generalize k/2^(wd.toNat-1-j)%2=q at Z⊢;refine oZ ?_;rw[show decide ((q:Int)=1)=decide (q=1) from decide_eq_decide.2 oM];generalize decide (q=1)=x at Z⊢;have a7:(ps++(M.bitsN wd.toNat k).reverse.take j).length<=100:=by rw[Q1,gh];omega
   refine one_bool λw6 b6 a4 y V=>?_;refine OwnV.app (us:=[.bool x]) (A.ext y) UO V.bools (by simp[Value.oneCell']) (by simp only[K3,gG];omega) (by simp only[K3,gG];omega) λv7 w7 W X T=>?_;have z45:=l.size;have z6:=y.size;simp(disch:=omega) only[push_cast,zk];refine O I _ _ ⟨v7,by rw[show((wd.toNat:Int)-(0+1)-(j:Int)-1)=wd-1-((j+1:Nat):Int) by omega],Ext.then (l.trans y) X λb D=>z b D,?_,λb D=>?_⟩
   .rw[Z,<-gZ];unfold OwnB;rw[gE];exact W
   .rcases T b D with h|h
    .exact z b h
    .omega
  .have S:j=wd.toNat:=oM;subst S;rw[gD oM,<-n] at A
   try simp(disch:=omega) only[push_cast,zk]
   exact hC g _ _ ⟨r2,rfl,l,A,z⟩
 .have R:i=ds.length:=oM;subst R;rw[gA,<-hlen,gA] at m;exact hK w2 r B m J
theorem l9Block_spec (hi:Bools F w iv (M.insM ds xs)) (O:(M.insM ds xs).length<=100) (G:∀w' r,Ext w w'->OwnI zh w' r (M.exC ds xs)->(∀x,r.ownBlock=some x->w.heap.size<=x)->K r w'):vcall Vw #[iv] w K:=by
 refine ze {loops:=[(3,[3,4])]} Tryz.func44 ?_;have J:(M.exC ds xs).length=(M.insM ds xs).length:=by unfold M.exC;rw[M.exK_len]
 have A:∀{j:Nat},j<(M.insM ds xs).length->_:=λ{j} h=>xL0 (ds:=ds) (xs:=xs) (i:=j) h;generalize M.insM ds xs=bs at*;refine spec_nil λv1 w1 t o p=>?_;refine vloop_up bs.length (λj u w'=> ∃r,u=[r,nI j]/\Ext w w'/\OwnI zh w' r ((M.exC ds xs).take j)/\∀x,r.ownBlock=some x->w.heap.size<=x) ⟨_,rfl,o,t,p⟩ ?_;rintro j _ _ C D N ⟨r,rfl,k,c,b⟩ l;have z5:=k.size;have a:=hi.ext k;simp only[push_cast,a.len];refine zb (λE=>?_) (λE=>?_)
 .have d:j<bs.length:=oM;have I:=A d;simp(disch:=exact oS) only[push_cast,a.iaddr,a.load,gu];have next:∀{x:Int},x=(if bs.getD j false then-(2+(j:Int)) else 2+j)->vbuildS zh 1 [(0,nI x)] C λs w1=>vbi .append [zh,zh] zh [r,s] w1 λt35 g=>D [t35,nI ((j:Int)+1)] g:=λ{x} z=>by
   refine push_int c (by rw[gh];omega) λQ L v f q=>?_;rw[z,I] at f;rw[show(j:Int)+1=((j+1:Nat):Int) by omega];refine l d _ _ ⟨L,rfl,Ext.then k v λy B=>b y B,f,λy B=>?_⟩;rcases q y B with e|e
   .exact b y e
   .omega
  refine zm (λn=>?_) (λm=>?_)
  .simp(disch:=omega) only[push_cast,zk];exact next (by rw[X0 n];omega)
  .simp(disch:=omega) only[push_cast,zk];exact next (by rw[y3 (by rw[m];decide)])
 .have H:j=bs.length:=oM;rw[gD oM] at c;exact G C r k c b
theorem spec_SolveWays_spec (hsz : JX ds) (hd : DclsR F w dv ds) (ht : TmsR G w tv ts)
    (hK : ∀ w' v ls, Ext w w' -> CnfO w.heap.size w' v ls ⟨0, (qa ds ts most).1⟩ -> K (.tuple #[v, .int .i64 (qa ds ts most).2]) w') : vcall JA #[dv, tv, .int .i64 most] w K := by
  apply Xu0; unfold Xt0
  refine yc kf qq λb1 w1 hb1 he1 hz1 hB1 => ?_
  have z1 := he1.size
  have own0 : ∀ {wk : World} {b : Nat}, Blk wk b [] zh -> OwnV zn wk (.slice (some ⟨b, 0, none⟩) 0 0) [] := λ{wk b} hB => Blk.own1 (t := zn) (cs := []) (by rw [K8]; exact hB) (Gf _) rfl rfl (by omega)
  have hO1 : CnfO w.heap.size w1 (.slice (some ⟨b1, 0, none⟩) 0 0) [] ⟨0, []⟩ := ⟨own0 hB1, rfl, λx hx => by have e : b1 = x := V1 hx; omega, RowsR.nil (by omega)⟩
  have out0 : ∀ {wk : World} {k : Int}, Ext w1 wk -> qa ds ts most = ([], k) -> K (.tuple #[.slice (some ⟨b1, 0, none⟩) 0 0, .int .i64 k]) wk := λ{wk k} he h => by
    have := hK _ _ [] (he1.trans he) (by rw [h]; exact hO1.ext he)
    rwa [h] at this
  refine zp (λu w' => u = [] /\ Ext w1 w' /\ all8 ds ts = true /\ 0 <= most /\ most <= 20) (λJ hJ => ?_) ?_
  · refine l8All_spec hsz (hd.ext he1) (ht.ext he1) λw2 he2 => ?_
    simp only [push_cast]
    refine zm (λa => out0 he2 (j9 λh => by rw [h.1] at a; cases a)) (λa => ?_)
    refine zb (λb => out0 he2 (j9 λh => by omega)) (λb => ?_)
    refine zb (λc => out0 he2 (j9 λh => by omega)) (λc => ?_)
    exact hJ _ _ ⟨rfl, he2, by simpa using a, by omega, by omega⟩
  rintro _ _ w2 ⟨rfl, he2, h8, h0, h20⟩
  have e2 := he1.trans he2
  obtain ⟨a1, a2, a3⟩ := all8_iff.1 h8
  have hw0 : qa ds ts most = waysG ds ts most.toNat [] := X0 ⟨h8, h0, h20⟩
  refine l9Folds_spec (hd.ext e2) (ht.ext e2) a2 (λt ht => by rw [(Jo (a3 t ht)).1]; decide) (by omega) λw3 lv he3 hl3 => ?_
  have e3 := e2.trans he3
  refine l8Cnf_spec (Qz h8) (hd.ext e3) hl3 λw4 cv ls he4 hO4 => ?_
  have e4 := e3.trans he4
  simp only [push_cast]
  refine cnf_new hO4 λw5 b5 hb5 he5 hB5 hO5 => ?_
  have e5 := e4.trans he5
  have e15 : Ext w1 w5 := ((he2.trans he3).trans he4).trans he5
  have z13 := (he2.trans he3).size
  have z34 := he4.size
  have z5 := he5.size
  have run : ∀ {W : List (oI)}, (cnfE ds (ts.map (M.foldT ds))).2 = 0 -> (∀ e, e ∈ W -> M.envOk ds e = true) -> W.length <= 80 -> _ := λ{W} h0 hW hl => solveR_run (nots := W) h8 h0 hW hl
  have room : (cnfE ds (ts.map (M.foldT ds))).2 ≠ 0 -> yE ds ts [] = ([], 3) := λh => Kj (nots := []) h8 h
  generalize cnfE ds (ts.map (M.foldT ds)) = E at *
  refine zp (λu w' => u = [] /\ w' = w5 /\ (E.2 = 0 \/ most = 0)) (λJ hJ => ?_) ?_
  · refine zm (λa => ?_) (λa => hJ _ _ ⟨rfl, rfl, .inl (by simpa using a)⟩)
    refine zb (λb => ?_) (λb => hJ _ _ ⟨rfl, rfl, .inr (by omega)⟩)
    refine out0 e15 ?_
    obtain ⟨q, hq⟩ : ∃ q, most.toNat = q + 1 := ⟨most.toNat - 1, by omega⟩
    rw [hw0, hq, Ke, room (by simpa using a), y3 (by decide)]
  rintro _ _ w5 ⟨rfl, rfl, hE0⟩
  obtain ⟨m, rfl⟩ : ∃ m : Nat, most = m := ⟨most.toNat, by omega⟩
  rw [gu] at hw0
  refine vloop_up m (λi u w' => ∃ ov ols W clv, u = [ov] /\ Ext w w' /\ CnfO w.heap.size w' ov ols ⟨0, W⟩ /\ W.length = i /\ (∀ e, e ∈ W -> M.envOk ds e = true) /\ waysG ds ts (m - i) W = qa ds ts (m : Int) /\ Blk w' b5 [.int .i64 E.1.many, clv] zq /\ (∀ x, xT0 ov ols W.length x -> x ≠ b5) /\ Lists (λx => ov.ownBlock ≠ some x /\ x ≠ b5) w' clv (qY E.1 ds W).list)
    ⟨_, [], [], _, rfl, e5, hO1.ext e15, rfl, λe he => (by cases he), by rw [hw0]; rfl, hB5, λx hx e => ?_, ?_⟩ ?_
  · rcases hx with hx | ⟨j, hj, _⟩
    · have e : b1 = x := V1 hx; omega
    · exact absurd hj (pA _)
  · rw [show (qY E.1 ds []).list = E.1.list by unfold qY; simp]
    exact (hO4.lists.weaken (F' := λx => w3.heap.size <= x /\ x < w4.heap.size) λx hx hl => ⟨hx, hl⟩).ext he5 |>.weaken λx hx _ => ⟨λe => by have e : b1 = x := V1 e; omega, by omega⟩
  rintro i _ _ w6 C hi ⟨ov, ols, W, clv, rfl, e6, hO6, hWi, hWok, hg6, hB6, hb6, hL6⟩ hC
  have hlen := hO6.lst.vals
  simp (disch := (simp only [push_cast]; done)) only [push_cast, hlen.len, hO6.len]
  have z6 := e6.size
  refine zb (λa => ?_) (λa => ?_)
  · have him : i < m := by have : W.length < m := by exact_mod_cast a
                           omega
    obtain ⟨q1, q2, q3⟩ := run (W := W) (hE0.resolve_right (by omega)) hWok (by omega)
    rw [hB6.ldAgg zF]
    refine l9Search_spec (c := qY E.1 ds W) hsz (hd.ext e6) a2 ⟨clv, rfl, hL6⟩ q2 q3 λw7 ev he7 hev hnv => ?_
    rw [<- q1] at hev ⊢
    have e7 := e6.trans he7
    have z7 := he7.size
    simp only [push_cast]
    obtain ⟨q, hq⟩ : ∃ q, m - i = q + 1 := ⟨m - i - 1, by omega⟩
    rw [hq, Ke] at hg6
    have hO7 := hO6.ext he7
    refine zb (λc => ?_) (λc => ?_)
    · rw [y3 c] at hg6
      have := hK w7 ov ols e7 (by rw [<- hg6]; exact hO7)
      rwa [<- hg6] at this
    · have c1 : (yE ds ts W).2 = 1 := PT.1 c
      rw [X0 c1] at hg6
      have hok2 := Kd h8 hWok (by omega) c1
      have henv := hok2 _ (Gv _ (gx.2 rfl))
      refine hO7.push hev (λx hx => ?_) (by rw [hO6.len]; show W.length <= _; omega) λw8 ov8 hs8 hO8 hn8 => ?_
      · have := hnv x hx
        exact ⟨by omega, λe => by have := hO6.lst.lt e; omega, λj hj e => by have := (hO6.rows.own j hj).lt e; omega⟩
      have z8 := hs8.size
      have e8 : Ext w w8 := Ext.then e7 hs8 λy hy => hO6.dl y hy
      have hev8 := hev.same hs8 λx hx e => by have := hnv x hx; have := hO6.lst.lt e; omega
      have hB8 := (hB6.ext he7).same hs8 λe => hb6 _ (.inl e) rfl
      have hL8 := ((hL6.weaken (F' := λx => (ov.ownBlock ≠ some x /\ x ≠ b5) /\ x < w7.heap.size) λx hx hl => ⟨hx, by omega⟩).ext he7).same hs8 λx hx _ e => hx.1.1 e
      have lt8 : ∀ x, ov8.ownBlock = some x -> x < w8.heap.size := λx hx => hO8.lst.lt hx
      refine yc kf qq λb9 w9 hb9 he9 hz9 hB9 => ?_
      have z9 := he9.size
      have hB9' := hB8.ext he9
      show zu zn (.pointer (some ⟨b5, 1, none⟩)) w9 _
      rw [hB9'.ld1 Zp]
      have hle : (qY E.1 ds W).list.length <= 100000 := by
        have := q2
        unfold M.cnfOk at this
        simp only [gg, V0] at this
        omega
      refine lists_copy (n := w8.heap.size) (own0 hB9) (λx hx => by have e : b9 = x := V1 hx; omega) (hL8.ext he9) (λx hx => by omega) (by omega) hle λw10 v10 ls10 hs10 ho10 hl10 hi10 hn10 => ?_
      have z10 := hs10.size
      have e810 : Ext w8 w10 := Ext.then he9 hs10 λy hy => hy
      have e10 := e8.trans e810
      refine spec_BlastIns_spec hsz (hd.ext e10) (hev8.ext e810).ints henv λw11 iv he11 hiv hni => ?_
      have hin := M.insM_n henv
      obtain ⟨hn1, hn88⟩ := M.nIn_eq a2
      refine l9Block_spec hiv.bools (by omega) λw12 bv he12 hbv hnb => ?_
      have e12 := he11.trans he12
      have z12 := e12.size
      have z11 := he11.size
      refine lists_more (F := λx => ((ov.ownBlock ≠ some x /\ x ≠ b5) /\ x < w7.heap.size) \/ w11.heap.size <= x) (xss := (qY E.1 ds W).list) (ys := M.exC ds (yE ds ts W).1) (ho10.ext e12) hl10 (λj hj => ((hi10 j hj).ext e12).weaken λx hx _ => .inl hx) (hbv.ints.weaken λx hx _ => .inr (hnb x hx)) (λx hx h => ?_) hle λw13 v13 hs13 hL13 hn13 => ?_
      · have h1 := hn10 x hx
        have h2 := ho10.lt hx
        rcases h with h | h <;> omega
      have z13 := hs13.size
      have hB13 := ((hB8.ext e810).ext e12).same hs13 λe => by have := hn10 _ e; have := hB8.lt; omega
      obtain ⟨c3, c4⟩ : v13.cells = #[v13] /\ v13.oneCell' = true := by
        obtain ⟨_, _, hvl, _⟩ := hL13
        exact Yl hvl
      show zG zn (.pointer (some ⟨b5, 1, none⟩)) v13 w13 _
      refine hB13.st (i := 1) c3 c4 jy rfl λw14 hw14 hz14 hB14 => ?_
      replace hB14 : Blk w14 b5 [.int .i64 E.1.many, v13] zq := hB14
      have hb5lt := hB8.lt
      have s813 : Same (λx => w8.heap.size <= x) w8 w13 := (Same.of_ext (e810.trans e12)).trans (hs13.mono λx _ hx => hn10 x hx)
      have q8 : ∀ x, xT0 ov8 (ols ++ [ev]) (W.length + 1) x -> x ≠ b5 := λx hx e => by
        have h5 := hB6.lt
        rcases hx with hx | hx
        · rcases hn8 x hx with h | h
          · exact hb6 x (.inl h) e
          · omega
        · rcases owns_snoc hO6.len hx with h | h
          · exact hb6 x (.inr h) e
          · have := hnv x h; omega
      have hO13 := hO8.same (S := λx => w8.heap.size <= x) s813 λx _ hlt e => by omega
      have hO14 := hO13.sameQ hw14 λx hx _ e => q8 x (by rw [Q1] at hx; exact hx) e
      have hL14 := hL13.same hw14 λx hx _ e => by
        have h5 := hB6.lt
        rcases hx with (hx | hx) | hx
        · exact hx.1.2 e
        · omega
        · have := hn13 x hx
          rcases this with h | h
          · have := hn10 x h; omega
          · omega
      refine hC him _ _ ⟨ov8, ols ++ [ev], W ++ [(yE ds ts W).1], v13, rfl, Ext.then (Ext.then e8 s813 λy hy => by omega) hw14 λy hy => by subst hy; have := e5.size; omega, hO14, by rw [Q1, hWi]; rfl, hok2, ?_, hB14, λx hx => q8 x (by rw [Q1] at hx; exact hx), ?_⟩
      · rw [show m - (i + 1) = q by omega]; exact hg6
      · rw [show (qY E.1 ds (W ++ [(yE ds ts W).1])).list = (qY E.1 ds W).list ++ [M.exC ds (yE ds ts W).1] by unfold qY; simp]
        refine hL14.weaken λx hx _ => ?_
        have h5 := hB6.lt
        have hov : ∀ y, ov8.ownBlock = some y -> ov.ownBlock = some y \/ w7.heap.size <= y /\ y < w8.heap.size := λy hy => (hn8 y hy).imp id λh => ⟨h, lt8 y hy⟩
        rcases hx with (hx | hx) | hx
        · refine ⟨λe => ?_, hx.1.2⟩
          rcases hov x e with h | h
          · exact hx.1.1 h
          · omega
        · exact ⟨λe => by have := lt8 x e; omega, by omega⟩
        · have h8 : w8.heap.size <= x := by
            rcases hn13 x hx with h | h
            · exact hn10 x h
            · omega
          exact ⟨λe => by have := lt8 x e; omega, by omega⟩
  · have : i = m := by have : ¬ W.length < m := by exact_mod_cast a
                       omega
    subst this
    rw [GW] at hg6
    have := hK w6 ov ols e6 (by rw [<- hg6]; exact hO6)
    rw [<- hg6] at this
    exact this
end
section
variable {w w':World} {K:oK} {F D G H S:oA} {N n b k:Nat} {v lv tv dv ev bv fv:Value} {ls fls:List Value} {xs:oI} {W:List (oI)} {ts:List M.Tm} {ds:List M.Dcl} {c:M.Cnf} {most:Int} {at_ an am ar ab:Addr}
theorem solutions_1_spec {w0:World} {yv:Value} {bd bt m:Nat} {R:List (oI)->(oA)->World->Prop} {Z:World->Prop} {Q0:oA} (hd:DclsR F w0 dv ds) (ht:TmsR G w0 tv ts) (Y:ts.length<=2000000) (er:Er w0 at_ an am ar ab) (h8:all8 ds ts=true)
  (U:0<m) (hm:m<=80) (h0:R [] Q0 w)
  (E:∀W Q w',R W Q w'->Ext w0 w'/\Blk w' bd [dv] yC/\Blk w' bt [tv] zl/\∀x,Q x->x<w'.heap.size)
  (hR:∀W Q w' w'' (T:oA),R W Q w'->Same T w' w''->(∀x,T x->x<w'.heap.size->¬Q x/\w0.heap.size<=x)->R W Q w'')
  (hy:∀W Q w' v B,W.length<m->(∀e,e∈W->M.envOk ds e=true)->R W Q w'->OwnI zh w' v (yE ds ts W).1->(∀x,v.ownBlock=some x->¬Q x/\w0.heap.size<=x)->
   (W.length+1<m->(yE ds ts W).2=1->∀q w'',R (W++[(yE ds ts W).1]) q w''->Same Q w' w''->(∀x,q x->Q x\/w'.heap.size<=x)->B (.bool true) w'')->(∀w'',Z w''->B (.bool false) w'')->
   vcallv yv #[v,nI (yE ds ts W).2] w' B)
  (hZ:∀w',Z w'->K (.tuple #[]) w'):vcall qL #[yv,oP bd 0,oP bt 0] w K:=by
 refine ze {loops:=[(1,[4])]} Tryz.func93 ?_;refine ji (λn u w'=> ∃(W:List (oI)) (Q:oA) (fv:Value) (fls:List Value),u=[fv]/\n=m-W.length/\W.length<m/\(∀e,e∈W->M.envOk ds e=true)/\R W Q w'/\CnfO w0.heap.size w' fv fls ⟨0,W⟩/\∀x,xT0 fv fls W.length x->¬Q x) _
  ⟨[],Q0,_,[],rfl,rfl,U,λe he=>(by cases he),h0,CnfO.nil (E _ _ _ h0).1.size,λx a=>by
   rcases a with a|⟨i,hi,_⟩
   .cases a
   .exact absurd hi (pA _)⟩ ?_
 rintro _ _ _ w2 C ⟨W,Q,fv,fls,rfl,rfl,O,N,t,f,j⟩ hC;obtain⟨A,b1,b2,k⟩:=E _ _ _ t;rw[b1.ld0 zM0,b2.ld0 ZZ];refine solvedN_spec (nots:=W) (hd.ext A) (ht.ext A) f.lists Y oM N (er.ext A) λw3 ev l o d=>?_;refine oZ ?_;have z2:=A.size;have z3:=l.size;have J:=hR _ _ _ _ _ t l λx a=>a.elim;have r:=f.ext l;refine hy W Q w3 ev _ O N J o (λx a=>⟨λe=>by have:=k x e;have:=d x a;omega,by have:=d x a;omega⟩) (λS h1 q w4 y p I=>?_) λw4 hz=>?_
 .simp only[push_cast,Gp];refine zb (λc=>absurd h1 c) (λ_=>?_);have z4:=p.size;have s:=r.sameQ p λx a _=>j x a;have z:=o.same p λx a e=>by have:=k x e;have:=d x a;omega
  have g:∀x,xT0 fv fls W.length x->x<w2.heap.size:=λx a=>(f.inQ a).2;refine s.push z (λx a=>?_) (by rw[s.len];show W.length<=_;omega) λw5 D X H V=>?_
  .have:=d x a;exact⟨oM,λe=>by have:=g x (.inl e);omega,λi hi e=>by have:=g x (.inr ⟨i,hi,e⟩);omega⟩
  have b:∀x,x<w3.heap.size->¬Q x->¬q x:=λx a hn h=>by
   rcases I x h with e|e
   .exact hn e
   .omega
  have L:=hR _ _ _ _ _ y X λx a _=>by
   have h:=g x (.inl a);exact⟨b x oM (j x (.inl a)),f.dl x a⟩
  refine hC (m-(W.length+1)) _ _ oM ⟨_,q,D,fls++[ev],rfl,by rw[Q1];rfl,by rw[Q1];exact S,Kd h8 N oM h1,L,H,λx a=>?_⟩;rw[Q1,gG] at a;have old:xT0 fv fls W.length x->¬q x:=λh=>b x (by have:=g x h;omega) (j x h);rcases a with a|a
  .rcases V x a with e|e
   .exact old (.inl e)
   .exact λh=>by have:=(E _ _ _ y).2.2.2 x h;omega
  .rcases owns_snoc r.len a with e|e
   .exact old (.inr e)
   .exact b x (by have:=o.lt e;omega) λh=>by have:=k x h;have:=d x e;omega
 .simp only[push_cast,Pj];exact hZ _ hz
theorem CnfO.app {b3 ty:Nat} {e:TypeId} (h:CnfO N w lv ls c) (n:OwnI zh w v xs) (l:∀x,v.ownBlock=some x->N<=x/\lv.ownBlock≠some x/\∀i,i<c.list.length->(ls.getD i undef).ownBlock≠some x) (y:ls.length<=100000) (r:Blk w b3 [v] e)
  (s:∀w' f,Same (λx=>lv.ownBlock=some x) w w'->CnfO N w' f (ls++[v]) ⟨c.many,c.list++[xs]⟩->(∀x,f.ownBlock=some x->lv.ownBlock=some x\/w.heap.size<=x)->K f w'):vbi .append [zn,zn] ty [lv,.slice (some ⟨b3,0,none⟩) 1 1] w K:=by
 have o:=h.rows.nle;refine OwnV.app1 h.lst jC r n.ints.one oM oM λv4 u m d b=>?_;refine s u v4 d (?_:CnfO _ _ _ _ _) b;refine⟨m,by rw[Q1,Q1,h.len];rfl,λx a=>?_,?_⟩
 .rcases b x a with e|e
  .exact h.dl x e
  .omega
 .have k:RowsR N (λx=>lv.ownBlock≠some x/\x<w.heap.size) w ls c.list:=h.rows.weaken λx p _ q=>⟨p,q⟩;refine RowsR.snoc ((k.same d λx a _ e=>a.1 e).weaken λx a _ _ e=>?_) h.len (n.same d λx a e=>(l x a).2.1 e) (λx a=>⟨λe=>?_,(l x a).1⟩) λj x t a e=>(l x e).2.2 j t a
  .rcases b x e with g|g
   .exact a.1 g
   .have:=a.2;omega
  .rcases b x e with g|g
   .exact(l x a).2.1 g
   .have:=n.lt a;omega
theorem qS0:waysG ds ts 0 W=(W,1):=rfl
theorem cnfE_bad:(cnfE ds ts).2=2↔ ¬all8 ds ts=true:=by
 constructor
 .intro h a;rcases Vj a with e|e<;>omega
 .intro h;unfold cnfE;rw[y3 h]
theorem SolveWays_spec (hd:DclsR F w dv ds) (ht:TmsR G w tv ts) (cl:ts.length<=2000000) (er:Er w at_ an am ar ab)
  (hK:∀w' v ls,Ext w w'->CnfO w.heap.size w' v ls ⟨0,(qa ds ts most).1⟩->K (.tuple #[v,nI (qa ds ts most).2]) w'):vcall ZF #[dv,tv,nI most] w K:=by
 apply JV;unfold jF;refine yj λb5 w1 cv c0 d2 h5=>?_;replace h5:Blk w1 b5 [nI most] zE:=h5;refine xz WL λs w2 cw c6 d3 h6=>?_;replace h6:Blk w2 s [oN] zn:=h6;refine xz xJ λu w3 cx bm d5 h7=>?_;replace h7:Blk w3 u [nI 0] zE:=h7;have bs:=c6.trans bm;have e3:=c0.trans bs;refine blastCnf_spec (hd.ext e3) (ht.ext e3) (er.ext e3).errs (er.ext e3).terms λw4 lv ls ci cg=>?_;refine oZ ?_;refine cnf_new cg λw5 b8 cy cj _ _=>?_;have a7:=ci.trans cj;have e5:=e3.trans a7;have z1:=c0.size;have z2:=c6.size;have z3:=bm.size;have z5:=a7.size;have p5:=h5.ext (bs.trans a7);have p6:=h6.ext (bm.trans a7);have p7:=h7.ext a7;have aq:=er.ext e5;have ret:∀{wk:World} {v x6 x7:Value} {k:Int} {ls:List Value},Ext w wk->Blk wk s [x6] zn->Blk wk u [x7] zE->CnfO w.heap.size wk v ls ⟨0,(qa ds ts most).1⟩->(∀x,xT0 v ls (qa ds ts most).1.length x->x≠s/\x≠u)->k=(qa ds ts most).2->
   zG zn (oP s 0) v wk λ_ X=>zG zE (oP u 0) (nI k) X λ_ n=>vlv zn (oP s 0) n λr6 bo=>vlv zE (oP u 0) bo λr7 bp=>K (.tuple #[r6,r7]) bp:=λ{wk v x6 x7 k ls} he q6 q7 hO ax hk=>by
  obtain⟨c1,c2⟩:=Yl hO.lst.vals;refine q6.st (i:=0) c1 c2 jy rfl λX al cb bi=>?_;refine(q7.same al oM).st (i:=0) rfl rfl yM rfl λn ao cc bj=>?_;replace bi:Blk X s [v] zn:=bi;replace bj:Blk n u [nI k] zE:=bj;rw[lv0 (bi.same ao oM) Zp,lv0 bj Jy,hk];refine hK n v ls (Ext.then (Ext.then he al λy E=>by subst E;omega) ao λy E=>by subst E;omega) ?_;exact(hO.sameQ al λx b _=>(ax x b).1).sameQ ao λx b _=>(ax x b).2
 have a4:∀{wk:World} {k:Int},Ext w wk->Blk wk s [oN] zn->Blk wk u [nI 0] zE->qa ds ts most=([],k)->
   zG zn (oP s 0) (oN) wk λ_ X=>zG zE (oP u 0) (nI k) X λ_ n=>vlv zn (oP s 0) n λr6 bo=>vlv zE (oP u 0) bo λr7 bp=>K (.tuple #[r6,r7]) bp:=λ{wk k} he q6 q7 h=>by
  refine ret he q6 q7 (ls:=[]) (by rw[h];exact CnfO.nil he.size) (λx b=>?_) (by rw[h]);rw[h] at b;rcases b with b|⟨i,hi,_⟩
  .cases b
  .exact absurd hi (pA _)
 simp only[push_cast,p5.ld0];refine zb (λa=>a4 e5 p6 p7 (j9 λh=>oM)) (λa=>?_);refine zb (λa2=>a4 e5 p6 p7 (j9 λh=>oM)) (λa2=>?_);rw[zZ xg aq.terms.cell];have step:∀{A B:World->Prop},(¬all8 ds ts=true->A w5)->(all8 ds ts=true->B w5)->vcall xG #[errV ar at_ (cnfE ds ts).2,erv at_] w5 λt28 bf=>vif t28 (A bf) (B bf):=λ{A B} hA hB=>by
  by_cases h8:all8 ds ts=true
  .rcases Vj h8 with e|e
   .rw[e];exact qg0 (zm (λh=>by cases h) λ_=>hB h8)
   .rw[e];exact V4 aq.d4 aq.rr aq.rt (zm (λh=>by cases h) λ_=>hB h8)
  .rw[cnfE_bad.2 h8];exact WH (zm (λ_=>hA h8) λh=>by cases h)
 refine step (λh8=>a4 e5 p6 p7 (j9 λh=>h8 h.1)) λh8=>?_;have ca:qa ds ts most=waysG ds ts most.toNat []:=X0 ⟨h8,oM,oM⟩;refine xz WL λo w9 cp I d6 bh=>?_;replace bh:Blk w9 o [oN] zn:=bh;have e9:=e5.trans I;have z9:=I.size;simp only[push_cast,(p5.ext I).ld0];refine zb (λa3=>a4 e9 (p6.ext I) (p7.ext I) (by rw[ca,a3];rfl)) (λa3=>?_);have ck:0<most.toNat:=oM
 have d1:(most.toNat:Int)=most:=oM
 generalize hm:most.toNat=m at*;refine ze {} Tryz.func50 ?_;refine yj λbd w10 cz b2 cr au=>?_;refine yj λbt X d0 ae cb aw=>?_;replace au:Blk w10 bd [dv] yC:=by rw[DclsR.cellsV hd] at au;exact au
 replace aw:Blk X bt [tv] zl:=by rw[TmsR.cellsV ht] at aw;exact aw
 refine oZ ?_;refine⟨qL,⟨[oP bd 0,oP bt 0]⟩,rfl,λl D n RR hD hl a0 cc bw az c7 ay=>?_⟩;have bu:=b2.trans ae;have H:=bu.trans a0;have br:=e9.trans H;have d8:=b2.size;have d9:=ae.size;have z12:=a0.size;have q5:=(p5.ext I).ext H;have q6:=(p6.ext I).ext H;have q7:=(p7.ext I).ext H;have co:=bh.ext H;have qd:=(au.ext ae).ext a0;have qt:=aw.ext a0;show vcall qL #[.func (.yield l) #[] #[],oP bd 0,oP bt 0] n _
 let P0:oA:=λx=>x=l\/x=D\/x=bd\/x=bt\/x=b5\/x=s\/x=u\/x=o
 have bk:∀x,P0 x->w.heap.size<=x/\x<n.heap.size:=λx b=>by rcases b with h|h|h|h|h|h|h|h<;>omega
 refine solutions_1_spec (w0:=w) (m:=m) (ds:=ds) (ts:=ts) (Q0:=λx=>P0 x\/xT0 (oN) [] 0 x)
  (R:=λW Q w'=>RR .ready none w'/\Ext w w'/\n.heap.size<=w'.heap.size/\Blk w' bd [dv] yC/\Blk w' bt [tv] zl/\Blk w' b5 [nI most] zE/\Blk w' s [oN] zn/\Blk w' u [nI 0] zE/\w'.heap[D]?=some (.deferred (some []))/\
   ∃ov ols,Blk w' o [ov] zn/\CnfO w.heap.size w' ov ols ⟨0,W⟩/\(∀x,xT0 ov ols W.length x->n.heap.size<=x)/\waysG ds ts (m-W.length) W=qa ds ts most/\Q=λx=>P0 x\/xT0 ov ols W.length x)
  (Z:=λw'=>w'.heap[D]?=some (.deferred (some []))/\Ext w w'/\n.heap.size<=w'.heap.size/\∃v ls,CnfO w.heap.size w' v ls ⟨0,(qa ds ts most).1⟩/\(∀x,xT0 v ls (qa ds ts most).1.length x->n.heap.size<=x)/\
   ((RR .done (some .ret) w'/\Blk w' s [v] zn/\Blk w' u [nI (qa ds ts most).2] zE)\/(RR .done (some (.exit 0)) w'/\Blk w' o [v] zn/\Blk w' s [oN] zn/\Blk w' u [nI 0] zE/\(qa ds ts most).2=1)))
  hd ht cl er h8 ck oM ?_ ?_ ?_ ?_ ?_
 .refine⟨c7,br,gr _,qd,qt,q5,q6,q7,bw,_,[],co,CnfO.nil br.size,λx b=>?_,by rw[ca];rfl,rfl⟩;rcases b with b|⟨i,hi,_⟩
  .cases b
  .exact absurd hi (pA _)
 .rintro W Q w' ⟨_,g2,g3,g4,g5,_,_,_,_,ov,ols,_,gO,_,_,rfl⟩;refine⟨g2,g4,g5,λx b=>?_⟩;rcases b with b|b
  .have:=(bk x b).2;omega
  .exact(gO.inQ b).2
 .rintro W Q w' w'' T ⟨g1,g2,g3,g4,g5,g6,g7,g8,g9,ov,ols,gb,gO,gn,gw,rfl⟩ hT bl;have z:=hT.size;have av:∀{x},P0 x->¬T x:=λ{x} b h=>(bl x h (by have:=(bk x b).2;omega)).1 (.inl b);refine⟨az _ _ _ _ g1 (hT.block l oM (av (.inl rfl))),Ext.then g2 (hT.mono (S':=λx=>w.heap.size<=x) λx bn b=>(bl x b bn).2) λy E=>E,oM,g4.same hT (av (.inr (.inr (.inl rfl)))),g5.same hT (av (.inr (.inr (.inr (.inl rfl))))),g6.same hT (av (.inr (.inr (.inr (.inr (.inl rfl)))))),
   g7.same hT (av (.inr (.inr (.inr (.inr (.inr (.inl rfl))))))),g8.same hT (av (.inr (.inr (.inr (.inr (.inr (.inr (.inl rfl)))))))),(hT.block D oM (av (.inr (.inl rfl)))).trans g9,ov,ols,gb.same hT (av (.inr (.inr (.inr (.inr (.inr (.inr (.inr rfl)))))))),gO.sameQ hT λx b bn h=>(bl x h bn).1 (.inr b),gn,gw,rfl⟩
 .rintro W Q w' v K' cu bz ⟨g1,g2,g3,g4,g5,g6,g7,g8,g9,ov,ols,gb,gO,gn,gw,rfl⟩ hv cm hT hZ;have gsz:=g2.size;refine ay [v,nI (yE ds ts W).2] w' K' rfl g1 ⟨g1,λp d ba ad=>?_⟩;have inl:∀{x},x≠l->¬(x=l):=λh=>h;have k2:Ext w p:=Ext.then g2 d λy E=>by subst E;omega
  have k6:=g6.same d oM;have k7:=g7.same d oM;have k8:=g8.same d oM;have k9:p.heap[D]?=some (.deferred (some [])):=(d.block D oM oM).trans g9;have kb:=gb.same d oM;have kO:=gO.sameQ d λx b _ e=>by have:=gn x b;omega
  have kv:=hv.same d λx b e=>(cm x b).1 (.inl (.inl e));have vlt:∀x,v.ownBlock=some x->x<p.heap.size:=λx b=>kv.lt b;obtain⟨q,hq⟩:∃q,m-W.length=q+1:=⟨m-W.length-1,oM⟩;rw[hq,Ke] at gw;refine oZ ?_;refine zb (λc=>?_) (λc=>?_)
  .rw[y3 c] at gw;have a9:(qa ds ts most).1=W:=(by rw[<-gw]);have bg:(qa ds ts most).2=(yE ds ts W).2:=(by rw[<-gw]);rw[kb.ld0 Zp];obtain⟨c1,c2⟩:=Yl kO.lst.vals;refine k7.st (i:=0) c1 c2 jy rfl λS J bb U=>?_;refine(k8.same J oM).st (i:=0) rfl rfl yM rfl λa6 L cd V=>?_;replace U:Blk S s [ov] zn:=U;replace V:Blk a6 u [nI (yE ds ts W).2] zE:=V;have aj:Same (λx=>x=s\/x=u) p a6:=(J.mono λ_ _ h=> .inl h).trans (L.mono λ_ _ h=> .inr h);refine⟨az _ _ _ _ ad (aj.block l oM oM),λY r bc c8=>hZ Y ?_⟩;have a5:Same (λx=>x=s\/x=u\/x=l) p Y:=(aj.mono λ_ _ h=>oM).trans (r.mono λ_ _ h=>oM);refine⟨(a5.block D oM oM).trans k9,Ext.then k2 a5 λy E=>oM,oM,ov,ols,by rw[a9];exact kO.sameQ a5 λx b _ e=>by have:=gn x b;omega,by rw[a9];exact gn,.inl ⟨c8,(U.same L oM).same r oM,by rw[bg];exact V.same r oM⟩⟩
  .have c1:(yE ds ts W).2=1:=PT.1 c;rw[X0 c1] at gw;refine zd λS a1 _=>?_;have be:=kb.ext a1;rw[be.ld0 Zp];refine⟨rfl,?_⟩;have z21:=a1.size;have vfew:(yE ds ts W).1.length<=100:=by
    have h1:=Kd h8 bz oM c1 _ (Gv _ (gx.2 rfl));have:=(M.env_ok h1).2.1;have:=(M.decl_iff.1 (M.env_ok h1).1).1;omega
   refine Clone_Lint (kv.ext a1).ints oM λa6 ap af b4 ah=>?_;rw[(be.ext af).ld0 Zp];refine⟨⟨rfl,rfl⟩,?_⟩;refine zB kf qq Xg rfl b4.ints.cells1 λct Y cq ag bc bv=>?_;have z22:=af.size;have da:=ag.size;have C:=(a1.trans af).trans ag;rw[(kb.ext C).ld0 Zp];refine⟨⟨rfl,rfl⟩,?_⟩;have cf:=kO.ext C;refine cf.app (b4.ext ag) (λx b=>?_) (by rw[kO.len];show W.length<=_;omega) bv λd7 O ak b1 b3=>?_
   .have:=ah x b;exact⟨oM,λe=>by have:=kO.lst.lt e;omega,λi hi e=>by have:=(kO.rows.own i hi).lt e;omega⟩
   obtain⟨c3,c4⟩:=Yl b1.lst.vals;have ovn:∀x,ov.ownBlock=some x->n.heap.size<=x:=λx b=>gn x (.inl b);refine((kb.ext C).same ak λe=>by have:=ovn _ e;omega).st (i:=0) c3 c4 jy rfl λbq b9 cs aa=>?_;replace aa:Blk bq o [O] zn:=aa;have f:Same (λx=>x=o\/ov.ownBlock=some x) p bq:=(Same.of_ext C).trans ((ak.mono λ_ _ h=> .inr h).trans (b9.mono λ_ _ h=> .inl h));have z25:=f.size;have z24:=ak.size;have N:∀x,xT0 O (ols++[ap]) (W.length+1) x->n.heap.size<=x:=λx b=>by
    rcases b with b|b
    .rcases b3 x b with e|e
     .exact ovn x e
     .omega
    .rcases owns_snoc kO.len b with e|e
     .exact gn x (.inr e)
     .have:=ah x e;omega
   have ac:=b1.sameQ b9 λx b _ e=>by
    have:=N x (by rw[Q1] at b;exact b);omega
   simp only[push_cast,aa.ld0,ac.lst.vals.len,(k6.same f (λe=>e.elim oM λe=>by have:=ovn _ e;omega)).ld0];have ch:(ols++[ap]).length=W.length+1:=by rw[Q1,kO.len];rfl
   rw[ch];have hav:∀{x},P0 x->x≠o->¬(x=o\/ov.ownBlock=some x):=λ{x} b ax h=>h.elim ax λe=>by have:=ovn x e;have:=(bk x b).2;omega
   have a8:Ext w bq:=Ext.then k2 f λy E=>by
    rcases E with rfl|E
    .omega
    .have:=ovn y E;omega
   refine zb (λc5=>?_) (λc5=>?_)
   .have q0:q=0:=oM;rw[q0,qS0] at gw;have a9:(qa ds ts most).1=W++[(yE ds ts W).1]:=(by rw[<-gw]);have bg:(qa ds ts most).2=1:=(by rw[<-gw]);refine⟨az _ _ _ _ ad (f.block l oM (hav (.inl rfl) oM)),λb0 g ce ai=>hZ b0 ?_⟩;refine⟨(g.block D oM oM).trans ((f.block D oM (hav (.inr (.inl rfl)) oM)).trans k9),Ext.then a8 g λy E=>by subst E;omega,oM,O,ols++[ap],by rw[a9];exact ac.sameQ g λx b _ e=>by have:=N x (by rw[Q1] at b;exact b);omega,
     λx b=>N x (by rw[a9,Q1] at b;exact b),.inr ⟨ai,aa.same g oM,(k7.same f (hav (.inr (.inr (.inr (.inr (.inr (.inl rfl)))))) oM)).same g oM,(k8.same f (hav (.inr (.inr (.inr (.inr (.inr (.inr (.inl rfl))))))) oM)).same g oM,bg⟩⟩
   .refine⟨az _ _ _ _ ad (f.block l oM (hav (.inl rfl) oM)),λb0 g ce ai=>hT oM c1 (λx=>P0 x\/xT0 O (ols++[ap]) (W.length+1) x) b0 ?_ ?_ λx b=>?_⟩
    .have j:Same (λx=>(x=o\/ov.ownBlock=some x)\/x=l) p b0:=(f.mono λ_ _ h=> .inl h).trans (g.mono λ_ _ h=> .inr h);have t:∀{x},P0 x->x≠o->x≠l->¬((x=o\/ov.ownBlock=some x)\/x=l):=λ{x} b h1 h2 h=>h.elim (hav b h1) h2;refine⟨ai,Ext.then a8 g λy E=>by subst E;omega,oM,(g4.same d oM).same j (t (.inr (.inr (.inl rfl))) oM oM),(g5.same d oM).same j (t (.inr (.inr (.inr (.inl rfl)))) oM oM),k6.same j (t (.inr (.inr (.inr (.inr (.inl rfl))))) oM oM),
      k7.same j (t (.inr (.inr (.inr (.inr (.inr (.inl rfl)))))) oM oM),k8.same j (t (.inr (.inr (.inr (.inr (.inr (.inr (.inl rfl))))))) oM oM),(j.block D oM (t (.inr (.inl rfl)) oM oM)).trans k9,O,ols++[ap],aa.same g oM,?_,?_,?_,?_⟩
     .exact ac.sameQ g λx b _ e=>by have:=N x (by rw[Q1] at b;exact b);omega
     .intro x b;rw[Q1] at b;exact N x b
     .rw[Q1,show m-(W.length+[(yE ds ts W).1].length)=q by simp;omega];exact gw
     .rw[Q1];rfl
    .refine(d.mono λx _ b=> .inl (.inl b)).trans ((f.mono λx _ b=>?_).trans (g.mono λx _ b=> .inl (.inl b)));rcases b with b|b
     .exact .inl (.inr (.inr (.inr (.inr (.inr (.inr (.inr b)))))))
     .exact .inr (.inl b)
    .rcases b with b|b
     .exact .inl (.inl b)
     .rcases b with b|b
      .rcases b3 x b with e|e
       .exact .inl (.inr (.inl e))
       .exact .inr oM
      .rcases owns_snoc kO.len b with e|e
       .exact .inl (.inr (.inr e))
       .exact .inr (by have:=ah x e;omega)
 .rintro w' ⟨g1,g2,g3,v,ls,gO,gn,hh⟩;rcases hh with⟨hr,g6,g7⟩|⟨hr,g10,g6,g7,gc⟩
  .refine⟨.done,some .ret,dC,hr,λp d ba=>?_⟩;refine⟨(d.block D oM oM).trans g1,λS c9 bb=>?_⟩;have hs:Same (λx=>x=l\/x=D) w' S:=(d.mono λ_ _ h=> .inl h).trans (c9.mono λ_ _ h=> .inr h);show vlv zn (oP s 0) S _;rw[lv0 (g6.same hs oM) Zp,lv0 (g7.same hs oM) Jy];exact hK S v ls (Ext.then g2 hs λy E=>oM) (gO.sameQ hs λx b _ e=>by have:=gn x b;omega)
  .refine⟨.done,some (.exit 0),dC,hr,λp d ba=>?_⟩;refine⟨rfl,?_⟩;have bx:p.heap[D]?=some (.deferred (some [])):=(d.block D oM oM).trans g1;have cn:=g10.same d oM;have j6:=g6.same d oM;have j7:=g7.same d oM;have jO:=gO.sameQ d λx b _ e=>by have:=gn x b;omega
   show zu zn (oP o 0) p _;rw[cn.ld0 Zp];obtain⟨c1,c2⟩:=Yl jO.lst.vals;refine j6.st (i:=0) c1 c2 jy rfl λS J bb U=>?_;refine(j7.same J oM).st (i:=0) rfl rfl yM rfl λa6 L cd V=>?_;replace U:Blk S s [v] zn:=U;replace V:Blk a6 u [nI 1] zE:=V;have aj:Same (λx=>x=s\/x=u) p a6:=(J.mono λ_ _ h=> .inl h).trans (L.mono λ_ _ h=> .inr h);refine⟨(aj.block D oM oM).trans bx,λY r bc=>?_⟩;show vlv zn (oP s 0) Y _;rw[lv0 ((U.same L oM).same r oM) Zp,lv0 (V.same r oM) Jy,<-gc];have a5:Same (λx=>x=l\/x=s\/x=u\/x=D) w' Y:=((d.mono λ_ _ h=> .inl h).trans (aj.mono λ_ _ h=>oM)).trans (r.mono λ_ _ h=>oM);exact hK Y v ls (Ext.then g2 a5 λy E=>oM) (gO.sameQ a5 λx b _ e=>by have:=gn x b;omega)
end
end Go.Proofs.YtfnpmncplaibiaaGreatDoor
end
