import Derived.Test.YtfjlkobhagjdaaaGreatDoorWzdP14
/- A part of the proof. -/
set_option linter.all false
set_option maxRecDepth 9999
set_option maxHeartbeats 2000000
noncomputable section
namespace Go.Proofs.YtfjlkobhagjdaaaGreatDoor
open Go Go.Vc Go.Proofs Go.M
section
variable {w:World} {K:oK} {F Fr F':oA} {many:Nat} {c:Cnf} {s:Sat}
theorem inc64 {i:Nat} (h:i<9223372036854775807):IntKind.i64.wrap ((i:Int)+1)=((i+1:Nat):Int):=by rw[zj oM oM];omega
theorem l5Find_spec {vc vl v:Value} {put:oI} {ls:List (oI)} (hc:CnfR F w vc c) (hl:Lists F' w vl ls) (hx:Ints Fr w v (signs many put)) (hm:marksOk many put) (z:many<=700) (a4:c.list.length+ls.length<=1000000)
  (hb:∀cl,cl∈c.list++ls->∀l,l∈cl->l≠0/\l.natAbs<=many)
  (hK:∀w' k u x,Ext w w'->findM put (c.list++ls) 0 (-1) 0=(k,u,x)->K (.tuple #[nI k,nI (if 0<=k then-1 else u),nI (if 0<=k then 0 else x)]) w'):vcall WY #[vc,vl,v] w K:=by
 refine ze {loops:=[(5,[9,10,12])],cuts:=[(36875,[13])]} Tryz.func164 ?_;obtain⟨lv,rfl,X⟩:=hc;obtain⟨cs,U,B,T⟩:=X;obtain⟨es,W,H,V⟩:=hl;refine ye λb w1 a1 E a5 hB=>?_;have A:Blk w1 b [nI c.many,lv] zq:=hB;have D:=B.ext E;simp only[push_cast,A.ld1,D.len];refine vloop_up (c.list.length+ls.length) (λi u w'=> ∃(y x:Int),u=[nI y,nI x,nI i]/\Ext w w'/\Blk w' b [nI c.many,lv] zq/\findM put ((c.list++ls).drop i) i y x=findM put (c.list++ls) 0 (-1) 0) ⟨-1,0,rfl,E,A,rfl⟩ ?_;rintro i _ _ w2 C hi ⟨y,x,rfl,s,S,g⟩ Q;have I:=H.ext s;simp only[push_cast,I.len];rw[U,W,zj oM oM];refine zb (λa=>?_) (λa=>?_)
 .have o:i<c.list.length+ls.length:=oM;refine y6 x6 yG λb3 w3 a2 G a6 a0=>?_;have p:=s.trans G;have f:=S.ext G;have q:=B.ext p;have r:=H.ext p;refine zo (λu w'=>w'=w3/\∃v4,u=[v4]/\Ints (λ_=>True) w3 v4 ((c.list++ls).getD i [])) ?_ ?_
  .intro J Z;refine zb (λa3=>?_) (λa3=>?_)
   .simp(disch:=exact oS) only[push_cast,f.ld1,q.iaddr,q.load];refine Z _ _ ⟨rfl,_,rfl,?_⟩;rw[getD_app_l oM];exact((T i oM).ext p).weaken λ_ _ _=>trivial
   .obtain⟨j,rfl⟩:∃j,i=c.list.length+j:=⟨i-c.list.length,oM⟩;rw[show((c.list.length+j:Nat):Int)-(c.list.length:Int)=(j:Int) from by omega,zj oM oM];simp(disch:=exact oS) only[push_cast,r.iaddr,r.load];refine Z _ _ ⟨rfl,_,rfl,?_⟩;rw[getD_app_r];exact((V j oM).ext p).weaken λ_ _ _=>trivial
  rintro _ _ _ ⟨rfl,v4,rfl,h4⟩;have L:i<(c.list++ls).length:=by rw[gd];exact o
  have M:(c.list++ls).getD i []∈c.list++ls:=by rw[q0,gj L];exact GY _
  rw[Z5 (d:=[]) L,findM_cons] at g;refine oZ ?_;refine l5Look_spec (hx.ext p) hm z h4 (hb _ M) λO n Y t=>?_;rw[t] at g;dsimp only at g;refine oZ ?_;rw[inc64 oM];have N: ¬(O=true)->((if O then(-1:Int) else(n:Int))=n/\(if O then(0:Int) else Y)=Y):=λh=>⟨X0 h,X0 h⟩;by_cases m:O=true
  .rw[K3 m] at g;refine zb (λe=>absurd e (by rw[K3 m];omega)) (λ_=>zb (λe=>absurd e (by rw[K3 m];omega)) (λ_=>?_));exact Q o _ _ ⟨y,x,rfl,p,f,g⟩
  rw[X0 m] at g;rw[(N m).1,(N m).2];refine zb (λe=>?_) (λe=>zb (λe1=>?_) (λe1=>?_))
  .rw[K3 oM] at g;have:=hK _ _ _ _ p g.symm;rwa[K3 oM,K3 oM] at this
  .rw[X0 oM,K3 oM] at g;refine zb (λR=>?_) (λR=>?_)
   .rw[K3 R] at g;exact Q o _ _ ⟨i,Y,rfl,p,f,g⟩
   .rw[X0 R] at g;exact Q o _ _ ⟨y,x,rfl,p,f,g⟩
  .rw[X0 oM,X0 oM] at g;exact Q o _ _ ⟨y,x,rfl,p,f,g⟩
 .rw[Gm (by rw[gd];omega)] at g;have:=hK w2 _ _ _ s g.symm;rwa[X0 oM,X0 oM] at this
theorem l5At_spec {vc v:Value} {k:Nat} (A:CnfR F w vc c) (hs:SatR F' w v s) (G:k<c.list.length+s.learned.length) (C:c.list.length+s.learned.length<=1000000)
  (u:∀w' v',Ext w w'->Ints (λb=>F b\/F' b) w' v' (atM c s k)->K v' w'):vcall x60 #[vc,v,nI k] w K:=by
 refine ze {} Tryz.func166 ?_;obtain⟨lv,rfl,cs,n,o,m⟩:=A;obtain⟨vp,vw,vl,rfl,-,-,es,B,r,q⟩:=hs;refine ye λb1 w1 y p D i=>?_;refine ye λb2 w2 z g E l=>?_;have t:Blk w2 b1 [nI c.many,lv] zq:=i.ext g;have x:Blk w2 b2 [vp,vw,vl,nI s.code] zu:=l;have f:=p.trans g;have d:=o.ext f;have e:=r.ext f;simp only[push_cast,t.ld1,d.len];refine zb (λa=>?_) (λa=>?_)
 .simp(disch:=exact oS) only[push_cast,d.iaddr,d.load];refine u w2 _ f ?_;rw[atM,getD_app_l oM];exact((m k oM).ext f).weaken λ_ h _=> .inl h
 .obtain⟨j,rfl⟩:∃j,k=c.list.length+j:=⟨k-c.list.length,oM⟩;simp(disch:=(simp only[push_cast])) only[x.ld2,t.ld1,d.len,UZ,z40,ym,Ge,Z8];rw[n,show((c.list.length+j:Nat):Int)-(c.list.length:Int)=(j:Int) from by omega,zj oM oM];simp(disch:=exact oS) only[push_cast,e.iaddr,e.load];refine u w2 _ f ?_;rw[atM,getD_app_r];exact((q j oM).ext f).weaken λ_ h _=> .inr h
theorem l5Levels_spec {vc v:Value} (hc:CnfR F w vc c) (hs:SatR F' w v s) (L:c.many=many) (T:many<=700) (hm:marksOk many s.put) (hlen:s.put.length=s.why.length) (A:∀k,k<s.why.length->s.why.getD k 0= -1\/0<=s.why.getD k 0)
  (hK:∀w' v',Ext w w'->OwnI zf w' v' (levs many s.put (yn s.why))->(∀x,v'.ownBlock=some x->w.heap.size<=x)->K v' w'):vcall Kj #[vc,v] w K:=by
 refine ze {loops:=[(4,[6,7])],cuts:=[(28680,[6])]} Tryz.func195 ?_;obtain⟨lv,rfl,-⟩:=hc;obtain⟨vp,vw,vl,rfl,hp,hw,-⟩:=hs;have a4:=hm.len;refine ye λb1 w1 a0 N a7 H=>?_;refine ye λb2 w2 a1 p a8 I=>?_;have X:Blk w2 b1 [nI c.many,lv] zq:=H.ext p;have R:Blk w2 b2 [vp,vw,vl,nI s.code] zu:=I;have S:=N.trans p;simp only[push_cast,X.ld0];rw[L,zj oM oM,show((many:Int)+1)=((many+1:Nat):Int) from by omega];refine vmkS_own (bs:=8) xt qu xn rfl oM oM λv1 w3 Y q m=>?_;have G:OwnI zf w3 v1 (levs many [] (yn s.why)):=by rw[Z30];unfold OwnI;rw[GP];exact Y
 have V:=S.size;refine vloop_up s.put.length (λi u w'=>u=[nI ((yn s.why).take i|>.count true:Nat),nI i]/\Ext w w'/\Blk w' b2 [vp,vw,vl,nI s.code] zu/\OwnI zf w' v1 (levs many (s.put.take i) (yn s.why))) ⟨rfl,S.trans q,R.ext q,by simpa using G⟩ ?_;rintro i _ _ W C hi ⟨rfl,g,f,E⟩ Z;have n:=hp.ext g;have z:=hw.ext g;have a5:=Uw many (s.put.take i) (yn s.why);have a3:=jL s.why;simp only[push_cast,f.ld0,n.len];refine zb (λa=>?_) (λa=>?_)
 .have l:i<s.put.length:=oM;have h:=Yf (ds:=yn s.why) (i:=i) oM;have a2:((yn s.why).take i).count true<=700:=gO Pd (by simp;omega);refine zo (λu w'=>w'=W/\u=[nI ((yn s.why).take (i+1)|>.count true:Nat)]) ?_ ?_
  .intro J U;simp(disch:=exact oS) only[push_cast,f.ld1,z.iaddr,z.load];have o:=JR (why:=s.why) (k:=i) oM;have a6:=A i oM;refine zb (λb=>?_) (λb=>?_)
   .rw[inc64 oM];refine U _ _ ⟨rfl,?_⟩;rw[h,o,gl oM];rfl
   .refine U _ _ ⟨rfl,?_⟩;rw[h,o,gk oM];rfl
  rintro _ _ _ ⟨rfl,rfl⟩;simp(disch:=exact oS) only[push_cast,f.ld0,n.iaddr,n.load];have hb:=hm.2 _ (getD_meS l);have y:=M.take_snoc' (d:=0) l;have D:=distinct_take hm.1 (i+1);have j:placeOf (s.put.take i) (s.put.getD i 0).natAbs=0:=by
   refine placeOf_zero λx B e=>?_;rw[y] at D;unfold Distinct at D;rw[gD,GB] at D;exact D.2.2 _ (Gk B) _ (by simp) e
  have t:=levs_snoc (many:=many) (ds:=yn s.why) j;rw[<-y,gi,Gy oM,lvl_succ oM,<-h] at t;have Q:=E.ints;refine l4Abs_spec oM ?_;simp(disch:=exact oS) only[push_cast,Q.iaddr];refine E.st yG oM λw5 O r a9=>?_;rw[inc64 oM];refine Z l _ _ ⟨rfl,Ext.then g r λx B=>by have:=m x B;omega,f.same r λe=>by have:=m _ e;have:=R.lt;omega,by rw[t];exact O⟩
 .rw[gF oM] at E;exact hK W v1 g E λx B=>by have:=m x B;omega
theorem l5Top_spec {v v':Value} {put cl:oI} {ds:List Bool} (m:Ints F w v (levs many put ds)) (j:many<=700) (p:ds.length<=700) (d:Ints Fr w v' cl) (o:∀l,l∈cl->l.natAbs<=many/\placeOf put l.natAbs≠0)
  (s:K (.tuple #[nI (kW put ds cl:Nat),nI (Jg put ds cl).length]) w):vcall zV0 #[v,v'] w K:=by
 refine ze {loops:=[(4,[6,7,8])]} Tryz.func196 ?_;have hlen:cl.length<=9223372036854775807:=by obtain⟨_,_,_,n,r,_⟩:=d.shape;simp at n;omega
 have q:=Uw many put ds;refine vloop_up cl.length (λi u w'=>w'=w/\u=[nI (kW put ds (cl.take i):Nat),nI (Jg put ds (cl.take i)).length,nI i]) ⟨rfl,rfl⟩ ?_;rintro i _ _ _ C hi ⟨rfl,rfl⟩ f;simp only[push_cast,d.len];refine zb (λa=>?_) (λa=>?_)
 .have c:i<cl.length:=oM;simp(disch:=exact oS) only[push_cast,d.iaddr,d.load];obtain⟨g,h⟩:=o _ (getD_meS c);refine l4Abs_spec oM ?_;simp(disch:=exact oS) only[push_cast,m.iaddr,m.load];rw[levs_get g,levV_lit h];obtain⟨t1,t2⟩:=top_step (put:=put) (ds:=ds) c _ rfl;generalize lvM put ds (cl.getD i 0)=k at*;have t:(Jg put ds (cl.take i)).length<=i:=gO (List.length_filter_le _ _) (by simp;omega);refine zb (λb=>?_) (λb=>?_)
  .rw[K3 oM] at t1 t2;refine zb (λ_=>?_) (λe=>absurd trivial e);rw[inc64 oM];exact f c _ _ ⟨rfl,by rw[t1,t2];rfl⟩
  .rw[X0 oM] at t1 t2;refine zb (λe=>?_) (λe=>?_)
   .rw[K3 oM] at t2;rw[inc64 oM,inc64 oM];exact f c _ _ ⟨rfl,by rw[t1,t2]⟩
   .rw[X0 oM] at t2;rw[inc64 oM];exact f c _ _ ⟨rfl,by rw[t1,t2]⟩
 .rwa[gF oM]
theorem l5Has_spec {v:Value} {cl:oI} {m:Nat} (c:Ints Fr w v cl) (p:∀l,l∈cl->l.natAbs<=700) (g:(∃q,q∈cl/\q.natAbs=m)->K (.bool true) w) (j:(∀q,q∈cl->q.natAbs≠m)->K (.bool false) w):vcall zX0 #[v,nI m] w K:=by
 refine ze {loops:=[(2,[5])]} Tryz.func255 ?_;have hlen:cl.length<=9223372036854775807:=by obtain⟨_,_,_,n,s,_⟩:=c.shape;simp at n;omega
 refine vloop_up cl.length (λi u w'=>w'=w/\u=[nI i]/\∀q,q∈cl.take i->q.natAbs≠m) ⟨rfl,rfl,by simp⟩ ?_;rintro i _ _ _ C hi ⟨rfl,rfl,k⟩ o;simp only[push_cast,c.len];refine zb (λa=>?_) (λa=>?_)
 .have f:i<cl.length:=oM;simp(disch:=exact oS) only[push_cast,c.iaddr,c.load];have e:cl.getD i 0∈cl:=getD_meS f;have r:=p _ e;refine l4Abs_spec oM ?_;refine oZ ?_;refine zb (λb=>g ⟨_,e,oM⟩) (λb=>?_);rw[inc64 oM];refine o f _ _ ⟨rfl,rfl,λq h=>?_⟩;rw[M.take_snoc' (d:=0) f,gr,gB] at h;rcases h with h|rfl
  .exact k q h
  .omega
 .rw[gF oM] at k;exact j k
theorem l5Last_spec {v v':Value} {cl:oI} (hs:SatR F w v s) (hm:marksOk many s.put) (t:many<=700) (m:Ints Fr w v' cl) (z:∀l,l∈cl->l.natAbs<=700)
  (x:∀w',Ext w w'->K (nI ((lastPl s.put cl:Int)-1)) w'):vcall WW #[v,v'] w K:=by
 refine ze {loops:=[(2,[5])]} Tryz.func226 ?_;obtain⟨vp,vw,vl,rfl,G,-,-⟩:=hs;have E:=hm.len;refine ye λb2 w2 A b H g=>?_;have p:Blk w2 b2 [vp,vw,vl,nI s.code] zu:=g;have c:=G.ext b;simp only[push_cast,p.ld0,c.len];rw[zj oM oM];refine vloop_up s.put.length (λi u w'=>w'=w2/\u=[nI ((s.put.length:Int)-1-i)]/\∀j,s.put.length-i<=j->j<s.put.length->∀q,q∈cl->q.natAbs≠(s.put.getD j 0).natAbs) ⟨rfl,by simp,λj r d=>oM⟩ ?_;rintro i _ _ _ C hi ⟨rfl,rfl,n⟩ y;refine oZ ?_;refine zb (λa=>?_) (λa=>?_)
 .obtain⟨k,D⟩:∃k:Nat,(s.put.length:Int)-1-i=k:=⟨s.put.length-1-i,oM⟩;have f:k<s.put.length:=oM;rw[D];simp(disch:=exact oS) only[push_cast,p.ld0,c.iaddr,c.load];have B:=hm.2 _ (getD_meS f);refine l4Abs_spec oM ?_;refine l5Has_spec (m.ext b) z (λh=>?_) (λh=>?_)
  .refine oZ ?_;have o:=lastPl_eq hm f h λj r d=>n j oM d;have:=x _ b;rwa[o,show((k+1:Nat):Int)-1=(k:Int) from by omega] at this
  .refine oZ ?_;rw[zj oM oM];refine y oM _ _ ⟨rfl,by rw[show(s.put.length:Int)-1-((i+1:Nat):Int)=(k:Int)-1 from by omega],λj r d=>?_⟩;by_cases e:j=k
   .subst e;exact h
   .exact n j oM d
 .have o:=lastPl_none (put:=s.put) (cl:=cl) λj d=>n j oM d;have:=x _ b;rw[o] at this;exact this
end
section
variable {w:World} {K:oK} {F Fr F':oA} {many:Nat} {c:Cnf} {s:Sat}
theorem jy0 (arr:oI) (m n:Nat):(yp0 arr m n).length<=n:=by
 unfold yp0;refine gO (List.length_filterMap_le _ _) (by simp)
theorem l5Join_spec {va vb:Value} {a b:oI} {m:Nat} (ha:Ints F w va a) (hb:Ints F' w vb b) (a6:many<=700) (S:∀k,k∈a++b->k≠0/\k.natAbs<=many) (hc:∀k,k∈a++b->k.natAbs≠m-> -k∉a++b)
  (hK:∀w' v',Ext w w'->OwnI zf w' v' (Q8 many a b m)->(∀x,v'.ownBlock=some x->w.heap.size<=x)->K v' w'):vcall WX #[nI many,va,vb,nI m] w K:=by
 refine ze {loops:=[(4,[11]),(8,[12]),(12,[9,13])]} Tryz.func227 ?_;have ab:a.length<=9223372036854775807:=by obtain⟨_,_,_,L,h2,_⟩:=ha.shape;simp at L;omega
 have ac:b.length<=9223372036854775807:=by obtain⟨_,_,_,L,h2,_⟩:=hb.shape;simp at L;omega
 refine y6 x6 yG λJ w0 a8 T ad N=>?_;refine oZ ?_;rw[zj oM oM,show((many:Int)+1)=((many+1:Nat):Int) from by omega];refine vmkS_own (bs:=8) xt qu xn rfl oM oM λv1 w1 L U W=>?_;have a0:OwnI zf w1 v1 (List.replicate (many+1) 0):=by unfold OwnI;rw[GP];exact L
 have E1:=T.trans U;have a7:=T.size;have hN:∀x,v1.ownBlock=some x->w.heap.size<=x:=λx s=>by have:=W x s;omega
 have a1:Blk w1 J [] zV:=N.ext U;have G:∀x,v1.ownBlock=some x->x≠J:=λx s e=>by have:=W x s;have:=N.lt;omega
 refine vloop_up a.length (λi u w'=>u=[nI i]/\Ext w w'/\Blk w' J [] zV/\∃arr,OwnI zf w' v1 arr/\ArrP many (a.take i) arr) ⟨rfl,E1,a1,_,a0,by simpa using arr_nil many⟩ ?_;rintro i _ _ w2 C hi ⟨rfl,h,o,arr,q,f⟩ O;have E:=ha.ext h;simp only[push_cast,E.len];refine zb (λc1=>?_) (λc1=>?_)
 .have l:i<a.length:=oM;refine zd λw3 c _=>?_;have A:=E.ext c;have g:=q.ext c;have r:=g.ints;have Q:=f.len;obtain⟨g1,g2⟩:=S _ (Gh _ (getD_meS l));simp(disch:=exact oS) only[push_cast,A.iaddr,A.load,Q1];refine l4Abs_spec oM ?_;simp(disch:=exact oS) only[push_cast,A.iaddr,A.load,Q1,gn,r.iaddr];refine g.st yG oM λw4 I z Y=>?_;rw[inc64 oM];refine O l _ _ ⟨rfl,Ext.then (h.trans c) z hN,(o.ext c).same z λe=>G _ e rfl,_,I,?_⟩;rw[M.take_snoc' (d:=0) l];exact arr_snoc f g1 g2
 clear O;rw[gF oM] at f;refine vloop_up b.length (λi u w'=>u=[nI i]/\Ext w w'/\Blk w' J [] zV/\∃arr,OwnI zf w' v1 arr/\ArrP many (a++b.take i) arr) ⟨rfl,h,o,arr,q,by simpa using f⟩ ?_;clear f q arr o E h w2;rintro j _ _ w2 C hj ⟨rfl,h,o,arr,q,f⟩ O;have R:=hb.ext h;simp only[push_cast,R.len];refine zb (λc2=>?_) (λc2=>?_)
 .have l:j<b.length:=oM;refine zd λw3 c _=>?_;have B:=R.ext c;have g:=q.ext c;have r:=g.ints;have Q:=f.len;obtain⟨g1,g2⟩:=S _ (GM _ (getD_meS l));simp(disch:=exact oS) only[push_cast,B.iaddr,B.load,Q1];refine l4Abs_spec oM ?_;simp(disch:=exact oS) only[push_cast,B.iaddr,B.load,Q1,gn,r.iaddr];refine g.st yG oM λw4 I z Y=>?_;rw[inc64 oM];refine O l _ _ ⟨rfl,Ext.then (h.trans c) z hN,(o.ext c).same z λe=>G _ e rfl,_,I,?_⟩;rw[M.take_snoc' (d:=0) l,<-gY];exact arr_snoc f g1 g2
 clear O;rw[gF oM] at f;have Q:=f.len;have a4:OwnI zf w2 (.slice (some ⟨J,0,none⟩) 0 0) []:=Blk.own1 (t:=zf) (cs:=[]) (by rw[qu];exact o) (gS _) rfl rfl oM;refine vloop_up many (λn u w'=> ∃v,u=[v,nI (n+1:Nat)]/\Ext w w'/\OwnI zf w' v1 arr/\OwnI zf w' v (yp0 arr m n)/\(∀x,v.ownBlock=some x->w.heap.size<=x/\v1.ownBlock≠some x)) ⟨_,rfl,h,q,a4,λx s=>?_⟩ ?_
 .have e:J=x:=gh s;subst e;exact⟨oM,λe=>G _ e rfl⟩
 rintro n _ _ w3 C3 hn ⟨v,rfl,c,g,y,p⟩ D;refine oZ ?_;have aa:=jy0 arr m n;refine zb (λc3=>?_) (λc3=>?_)
 .have hs:=joinA_succ arr m n;have V:IntKind.i64.wrap ((n:Int)+1+1)=((n+1+1:Nat):Int):=by rw[zj oM oM];omega
  have r:=g.ints;rw[V];refine zb (λc4=>?_) (λc4=>?_)
  .rw[X0 oM] at hs;have e1:((n:Int)+1)=((n+1:Nat):Int):=rfl;rw[e1];simp(disch:=exact oS) only[r.iaddr,gu,r.load,xo0];refine zb (λZ=>?_) (λZ=>?_)
   .rw[X0 Z] at hs;refine zC x6 yG xn rfl rfl λb4 w4 a9 H Y a2=>?_;refine(y.ext H).app1 xt a2 oM oM λv5 w5 a5 X a3=>?_;have ae:=c.size;refine D oM _ _ ⟨v5,rfl,Ext.then (c.trans H) X λx s=>(p x s).1,(g.ext H).same X λx s e=>(p x e).2 s,by rw[hs];exact a5,λx s=>?_⟩;rcases a3 x s with e|e
    .exact p x e
    .exact⟨oM,λe'=>by have:=g.lt e';omega⟩
   .rw[K3 (by simpa using Z),gI] at hs;exact D oM _ _ ⟨v,rfl,c,g,by rw[hs];exact y,p⟩
  .rw[K3 oM,gI] at hs;exact D oM _ _ ⟨v,rfl,c,g,by rw[hs];exact y,p⟩
 .have:n=many:=oM;subst this;rw[joinA_eq f hc] at y;exact hK w3 v c y λx s=>(p x s).1
theorem learnS_cons {cl:oI} (d:satOk many c s) (h:c.many=many) (hF:Fls s.put cl) (hs:Srt cl) (n:2<=(Jg s.put (yn s.why) cl).length):
  lastPl s.put cl-1<s.put.length/\lastPl s.put cl≠0/\0<=s.why.getD (lastPl s.put cl-1) 0/\s.why.getD (lastPl s.put cl-1) 0<c.list.length+s.learned.length/\
  (∀l,l∈cl++atM c s (s.why.getD (lastPl s.put cl-1) 0).toNat->l≠0/\l.natAbs<=many)/\(∀l,l∈cl++atM c s (s.why.getD (lastPl s.put cl-1) 0).toNat->l.natAbs≠(s.put.getD (lastPl s.put cl-1) 0).natAbs-> -l∉cl++atM c s (s.why.getD (lastPl s.put cl-1) 0).toNat):=by
 have v:=topOf_tops (put:=s.put) (ds:=yn s.why) (srt_nodup hs);have b:cl≠[]:=λe=>by subst e;simp[Jg] at n
 have w:=lastPl_pos hF b;obtain⟨k,o⟩:∃k,lastPl s.put cl=k+1:=⟨lastPl s.put cl-1,oM⟩;rw[o,G6];obtain⟨i,t,j,m,himp,-⟩:=last_reason d hF v n o;obtain⟨u,f⟩:=(impl_iff d.mks).1 himp;have g:(s.why.getD k 0).toNat<c.list.length+s.learned.length:=oM
 have off:∀l,l∈cl++atM c s (s.why.getD k 0).toNat->l.natAbs≠(s.put.getD k 0).natAbs-> -l∈s.put:=λl a b=>by
  rcases gr.1 a with a|a
  .exact hF l a
  .exact gU (f l a λe=>b (by rw[e]))
 refine⟨i,oM,j,m,λl a=>?_,λl a b r=>?_⟩
 .rcases gr.1 a with a|a
  .have:=d.mks.2 _ (hF l a);omega
  .exact d.lit h g a
 .have p:=off l a b;have q:=off (-l) r (by rwa[G9]);exact d.mks.neg p q
theorem l5Learn_spec {vc v vl v3:Value} {k:Nat} (hc:CnfR F w vc c) (hs:SatR F' w v s) (S:Ints Fr w vl (levs many s.put (yn s.why))) (hv:OwnI zf w v3 (atM c s k)) (e:satOk many c s) (o:c.many=many) (hk:k<c.list.length+s.learned.length) (a1:qU s.put (atM c s k))
  (hK:∀w' v',Ext w w'->OwnI zf w' v' (learnM many c s s.put.length (atM c s k))->(∀x,v'.ownBlock=some x->v3.ownBlock=some x\/w.heap.size<=x)->K v' w'):vcall Vo #[vc,v,vl,v3] w K:=by
 refine ze {loops:=[(2,[3,10])]} Tryz.func197 ?_;have a0:=hc;have M:=hs;obtain⟨lv,rfl,aa⟩:=hc;obtain⟨vp,vw,vls,rfl,hp,hw,j⟩:=hs;have d:many<=700/\c.list.length<=2500:=by
  have:=e.cnf;unfold cnfOk at this;simp only[gp,gg] at this;omega
 have a6:=e.few;have m:=e.mks;have ac:=m.len;have hlen:=e.len;have E:=Z7 a1;have Z:=clauseOk_srt (e.atOk hk);have G:(yn s.why).length<=700:=by rw[jL];omega
 have bounds:∀{b:oI},Fls s.put b->∀x,x∈b->x.natAbs<=many/\placeOf s.put x.natAbs≠0:=λhF x A=>by
  have h1:=m.2 _ (hF x A);have D:=placeOf_ne_zero (hF x A);rw[G9] at D;exact⟨oM,D⟩
 generalize atM c s k=cl at*;refine ye λb1 w1 a7 a2 ad X=>?_;refine ye λb2 w2 a8 H ae Y=>?_;have A2:Blk w2 b1 [nI c.many,lv] zq:=X.ext H;have B2:Blk w2 b2 [vp,vw,vls,nI s.code] zu:=Y;have R:=a2.trans H;refine l5Top_spec (S.ext R) d.1 G (hv.ext R).ints (bounds E) ?_;refine oZ ?_;refine qA (λn u w'=> ∃b f v,n=lastPl s.put b/\u=[v,nI (Jg s.put (yn s.why) b).length]/\Ext w w'/\Blk w' b1 [nI c.many,lv] zq/\Blk w' b2 [vp,vw,vls,nI s.code] zu/\
   OwnI zf w' v b/\(∀x,v.ownBlock=some x->v3.ownBlock=some x\/w.heap.size<=x)/\Fls s.put b/\Srt b/\lastPl s.put b<=f/\learnM many c s f b=learnM many c s s.put.length cl) _
  ⟨cl,s.put.length,v3,rfl,rfl,R,A2,B2,hv.ext R,λx A=> .inl A,E,Z,lastPl_le,rfl⟩ ?_
 rintro _ _ _ w3 C ⟨b,f,v,rfl,rfl,V,A3,B3,t,a3,hF,hS,ab,r⟩ hC;refine oZ ?_;refine zb (λa=>?_) (λa=>?_)
 .have D:2<=(Jg s.put (yn s.why) b).length:=oM;obtain⟨g1,g2,g3,g4,g5,g6⟩:=learnS_cons e o hF hS D;obtain⟨k1,k2,k3,k4⟩:=learnS_ok e o hF hS D;obtain⟨f,rfl⟩:∃f',f=f'+1:=⟨f-1,oM⟩;rw[learnM,X0 oM] at r;rw[B3.ldAgg zQ];refine l5Last_spec (M.ext V) m d.1 t.ints (λl S=>by have:=(bounds hF l S).1;omega) λw4 g=>?_;have E4:=V.trans g;refine zd λw5 h _=>?_;have B:=E4.trans h;have T:=(A3.ext g).ext h;have Q:=(B3.ext g).ext h;obtain⟨q,hq⟩:∃q,lastPl s.put b=q+1:=⟨lastPl s.put b-1,oM⟩;have j:qJ many c s b=Q8 many b (atM c s (s.why.getD q 0).toNat) (s.put.getD q 0).natAbs:=by unfold qJ;rw[hq,G6]
  rw[hq,G6] at g1 g3 g4 g5 g6;rw[hq,show((q+1:Nat):Int)-1=(q:Int) from by omega];have J:=hp.ext B;have O:=hw.ext B;simp(disch:=exact oS) only[push_cast,T.ldAgg zD,Q.ldAgg zQ,T.ld0,Q.ld0,Q.ld1,Q1,J.iaddr,J.load,O.iaddr,O.load];obtain⟨y,hy⟩:∃y:Nat,s.why.getD q 0=y:=⟨(s.why.getD q 0).toNat,oM⟩;rw[hy] at g4 g5 g6 j⊢;rw[gu] at g5 g6 j;refine l5At_spec (a0.ext B) (M.ext B) oM oM λw6 v6 i a5=>?_;have W:=B.trans i;have U:=T.ext i;have B6:=Q.ext i;have L:=hp.ext W;simp(disch:=exact oS) only[push_cast,U.ld0,B6.ld0,Q1,gn,L.iaddr,L.load];have a9:=m.2 _ (getD_meS g1);refine l4Abs_spec oM ?_;simp(disch:=exact oS) only[push_cast,U.ld0,Q1,gn];rw[o];have N:=(((t.ext g).ext h).ext i);refine l5Join_spec N.ints a5 d.1 g5 g6 λw7 v7 p z a4=>?_;have E7:=W.trans p;rw[<-j] at z;refine l5Top_spec (S.ext E7) d.1 G z.ints (bounds k1) ?_;refine oZ ?_;refine hC (lastPl s.put (qJ many c s b)) _ _ k3 ⟨_,f,v7,rfl,rfl,E7,U.ext p,B6.ext p,z,λx A=> .inr ?_,k1,k2,oM,r⟩;have:=a4 x A;have:=W.size;omega
 .have I:learnM many c s s.put.length cl=b:=by
   rw[<-r];cases f with
   |zero=>rfl
   |succ f=>rw[learnM,K3 oM]
  rw[I] at hK;exact hK w3 v V t a3
theorem l4Max_spec {a b:Nat} (c:K (nI (max a b:Nat)) w):vcall zY0 #[nI a,nI b] w K:=by
 refine ze {} Tryz.func228 ?_;refine oZ ?_;refine zb (λh=>?_) (λh=>?_)
 .rwa[show max a b=a from by omega] at c
 .rwa[show max a b=b from by omega] at c
theorem l5Below_spec {v v':Value} {put cl:oI} {ds:List Bool} (o:Ints F w v (levs many put ds)) (m:many<=700) (e:Ints Fr w v' cl) (s:∀l,l∈cl->l.natAbs<=many/\placeOf put l.natAbs≠0)
  (q:K (nI (Zx put ds cl:Nat)) w):vcall Vq #[v,v',nI (kW put ds cl:Nat)] w K:=by
 refine ze {loops:=[(3,[7,8])]} Tryz.func199 ?_;have hlen:cl.length<=9223372036854775807:=by obtain⟨_,_,_,p,x,_⟩:=e.shape;simp at p;omega
 have t:=Uw many put ds;generalize r:kW put ds cl=T;refine vloop_up cl.length (λi u w'=>w'=w/\u=[nI (maxL (((cl.take i).filter λk=>decide (lvM put ds k<T)).map (lvM put ds)):Nat),nI i]) ⟨rfl,rfl⟩ ?_;rintro i _ _ _ C hi ⟨rfl,rfl⟩ n;simp only[push_cast,e.len];refine zb (λa=>?_) (λa=>?_)
 .have f:i<cl.length:=oM;simp(disch:=exact oS) only[push_cast,e.iaddr,e.load];obtain⟨g,h⟩:=s _ (getD_meS f);refine l4Abs_spec oM ?_;simp(disch:=exact oS) only[push_cast,o.iaddr,o.load];rw[levs_get g,levV_lit h];have c:(cl.take (i+1)).filter (λk=>decide (lvM put ds k<T))=(cl.take i).filter (λk=>decide (lvM put ds k<T))++(if lvM put ds (cl.getD i 0)<T then[cl.getD i 0] else[]):=by
   rw[M.take_snoc' (d:=0) f,pU,PH,List.filter_nil];simp only[gg]
  have j:∀A:oI,maxL ((A++[cl.getD i 0]).map (lvM put ds))=max (maxL (A.map (lvM put ds))) (lvM put ds (cl.getD i 0)):=λA=>by
   rw[gD];exact maxL_snoc _ _ _ rfl
  refine zb (λb=>?_) (λb=>?_)
  .refine l4Max_spec ?_;rw[inc64 oM];rw[K3 oM] at c;refine n f _ _ ⟨rfl,?_⟩;rw[c,j]
  .rw[inc64 oM];rw[X0 oM,gI] at c;exact n f _ _ ⟨rfl,by rw[c]⟩
 .rw[gF oM,<-r];exact q
end
section
variable {w:World} {K:oK} {F F':oA} {many:Nat} {c:Cnf} {s:Sat}
def SpR (Z:oA) (w:World) (v:Value) (s:Sat):Prop:=
 ∃vp vw vl,v= .agg #[vp,vw,vl,nI s.code]/\OwnI zf w vp s.put/\OwnI zf w vw s.why/\(∀b,vp.ownBlock=some b->Z b/\vw.ownBlock≠some b)/\(∀b,vw.ownBlock=some b->Z b)/\
  Lists (λb=>Z b/\vp.ownBlock≠some b/\vw.ownBlock≠some b) w vl s.learned
section
variable {Z Z':oA} {v:Value} {w':World}
theorem SpR.ext (h:SpR Z w v s) (he:Ext w w'):SpR Z w' v s:=by
 obtain⟨vp,vw,vl,e,a,b,c,d,f⟩:=h;exact⟨vp,vw,vl,e,a.ext he,b.ext he,c,d,f.ext he⟩
theorem SpR.same {S:oA} (h:SpR Z w v s) (hw:Same S w w') (c:∀b,Z b->b<w.heap.size->¬S b):SpR Z w' v s:=by
 obtain⟨vp,vw,vl,e,d,f,g,i,j⟩:=h;exact⟨vp,vw,vl,e,d.same hw λb a=>c b (g b a).1 (d.lt a),f.same hw λb a=>c b (i b a) (f.lt a),g,i,j.same hw λb a=>c b a.1⟩
theorem SpR.weaken (h:SpR Z w v s) (c:∀b,Z b->b<w.heap.size->Z' b):SpR Z' w v s:=by
 obtain⟨vp,vw,vl,e,d,f,g,i,j⟩:=h;exact⟨vp,vw,vl,e,d,f,λb a=>⟨c b (g b a).1 (d.lt a),(g b a).2⟩,λb a=>c b (i b a) (f.lt a),j.weaken λb a k=>⟨c b a.1 k,a.2⟩⟩
theorem SpR.below (h:SpR Z w v s):SpR (λb=>Z b/\b<w.heap.size) w v s:=h.weaken λ_ a c=>⟨a,c⟩
theorem SpR.sat (h:SpR Z w v s):SatR Z w v s:=by
 obtain⟨vp,vw,vl,e,c,d,f,g,i⟩:=h;exact⟨vp,vw,vl,e,c.ints.weaken λb a _=>(f b a).1,d.ints.weaken λb a _=>g b a,i.weaken λb a _=>a.1⟩
theorem SpR.empty:SpR Z w (.agg #[oN,oN,oN,nI 0]) emptyS:=
 ⟨_,_,_,rfl,OwnI.nil,OwnI.nil,λb a=>(by cases a),λb a=>(by cases a),kb0⟩
end
theorem copy_ints {v:Value} {xs:oI} {b:Nat} {t:TypeId} (f:Blk w b [] zV) (a:Ints F w v xs) (c:xs.length*8<=140737488355328)
  (g:∀v' w',OwnI zf w' v' xs->Same (· =b) w w'->(∀x,v'.ownBlock=some x->x=b\/w.heap.size<=x)->K v' w'):vbi .append [zf,zf] t [.slice (some ⟨b,0,none⟩) 0 0,v] w K:=by
 have d:OwnI zf w (.slice (some ⟨b,0,none⟩) 0 0) []:=Blk.own1 (t:=zf) (cs:=[]) (by rw[qu];exact f) (gS _) rfl rfl oM;refine d.app (ys:=xs) xt a (by simp only[pN];omega) (by simpa using c) λv' w2 i hs h=>g v' w2 i (hs.mono λx _ a=>?_) λx a=>?_
 .exact(gh a).symm
 .exact(h x a).imp (λe=>(gh e).symm) id
theorem l5Back_spec {vp vw vl:Value} {L:Nat} (hp:OwnI zf w vp s.put) (hw:OwnI zf w vw s.why) (ac:vl.oneCell'=true) (hlen:s.put.length=s.why.length) (ag:s.put.length<=700) (hL:L<=700) (Y:∀k,k<s.why.length->s.why.getD k 0= -1\/0<=s.why.getD k 0)
  (hK:∀w' F y,Ext w w'->OwnI zf w' F (s.put.take (backN (yn s.why) L s.put.length))->OwnI zf w' y (s.why.take (backN (yn s.why) L s.put.length))->(∀b,F.ownBlock=some b->w.heap.size<=b/\y.ownBlock≠some b)->(∀b,y.ownBlock=some b->w.heap.size<=b)->K (.agg #[F,y,vl,nI s.code]) w'):
  vcall WZ #[.agg #[vp,vw,vl,nI s.code],nI L] w K:=by
 refine ze {loops:=[(3,[5,6])],cuts:=[(16392,[5])]} Tryz.func198 ?_;refine ye λb2 w2 ak a8 av a2=>?_;refine xw qV λb4 A al O aw a3=>?_;have B4:Blk A b2 [vp,vw,vl,nI s.code] zu:=a2.ext O;have R4:Blk A b4 [oN,oN,oN,nI 0] zu:=a3;have E4:=a8.trans O;have R:=hp.ext E4;have ad:=hw.ext E4;have aa:=R.ints;have Z:=ad.ints;have aq:=jL s.why;refine zo (λu w'=>w'=A/\u=[nI (backN (yn s.why) L s.put.length:Nat)]) ?_ ?_
 .intro J hJ;have done:∀n,n<=s.put.length->(∀i,i<n->(lvl (yn s.why) i:Int)<=L)->(n=s.put.length\/(L:Int)<(lvl (yn s.why) n:Int))->J [nI (n:Nat)] A:=λn h1 h2 h3=>hJ _ _ ⟨rfl,by rw[backN_eq h1 h2 h3]⟩;refine vloop_up s.put.length (λn u w'=>w'=A/\u=[nI n,nI (((yn s.why).take n).count true:Nat)]/\∀i,i<n->(lvl (yn s.why) i:Int)<=L) ⟨rfl,rfl,oM⟩ ?_;rintro n _ _ A C hn ⟨rfl,rfl,f⟩ hC;simp only[push_cast,B4.ld0,aa.len];refine zb (λa=>?_) (λa=>done n hn f (.inl oM));have a9:n<s.put.length:=oM;have a7:=Yf (ds:=yn s.why) (i:=n) oM;have B:=lvl_succ (ds:=yn s.why) (i:=n) oM;have ap:((yn s.why).take n).count true<=700:=gO Pd (by simp;omega);have N:=JR (why:=s.why) (k:=n) oM;have au:=Y n oM;simp(disch:=exact oS) only[push_cast,B4.ld1,Z.iaddr,Z.load];have j:∀k:Nat,k=lvl (yn s.why) n->¬(L:Int)<k->(n<s.put.length->∀(u':List Value) (w'':World),(w''=A/\u'=[nI (n+1:Nat),nI (((yn s.why).take (n+1)).count true:Nat)]/\∀i,i<n+1->(lvl (yn s.why) i:Int)<=L)->C u' w'')->C [nI (n+1:Nat),nI k] A:=λk Q ar h=>by
   refine h a9 _ _ ⟨rfl,by rw[a7,<-B,Q],λi hi=>?_⟩;by_cases e:i=n
   .subst e;omega
   .exact f i oM
  refine zb (λb=>?_) (λb=>?_)
  .have Q:((yn s.why).take n).count true+1=lvl (yn s.why) n:=by rw[B,N,gl oM];rfl
   rw[inc64 oM];refine zb (λb2=>done n hn f (.inr oM)) (λb2=>?_);rw[inc64 oM];exact j _ Q b2 hC
  .have Q:((yn s.why).take n).count true=lvl (yn s.why) n:=by rw[B,N,gk oM];rfl
   refine zb (λb2=>done n hn f (.inr oM)) (λb2=>?_);rw[inc64 oM];exact j _ Q b2 hC
 rintro _ _ _ ⟨rfl,rfl⟩;have ao:=backN_le (yn s.why) L s.put.length;generalize backN (yn s.why) L s.put.length=n at*;have aj:=E4.size;refine y6 x6 yG λb5 w5 am o ax a4=>?_;have B5:=B4.ext o;have S:=R.ext o;simp(disch:=exact oS) only[push_cast,B5.ld0,S.cut];have ab:=S.taken (n:=n) oM;refine copy_ints a4 ab.ints (by simp;omega) λv6 w6 t D p=>?_;have B6:=B5.same D oM;refine B6.st t.ints.cells1 t.ints.one qR rfl λw7 T az a5=>?_;have B7:Blk w7 b2 [v6,vw,vl,nI s.code] zu:=a5;have ay:=D.size;have E:=t.same T λx c e=>by rcases p x c with d|d<;>omega
 have z:Same (λx=>x=b5\/x=b2) w5 w7:=(D.mono λx _ e=> .inl e).trans (T.mono λx _ e=> .inr e);have M:Ext w w7:=Ext.then (E4.trans o) z λx c=>oM
 refine y6 x6 yG λb8 w8 an g b0 a6=>?_;have B8:=B7.ext g;have X:=hw.ext (M.trans g);simp(disch:=exact oS) only[push_cast,B8.ld1,X.cut];have ae:=X.taken (n:=n) oM;refine copy_ints a6 ae.ints (by simp;omega) λv9 w9 v r q=>?_;have B9:=B8.same r oM;have V:=(E.ext g).same r λx c e=>by have:=E.lt c;omega
 refine B9.st v.ints.cells1 v.ints.one qR rfl λw10 l ah G=>?_;have a0:Blk w10 b2 [v6,v9,vl,nI s.code] zu:=G;have b1:=r.size;have U:=V.same l λx c e=>by rcases p x c with d|d<;>omega
 have W:=v.same l λx c e=>by rcases q x c with d|d<;>omega
 have hS:Same (λx=>x=b8\/x=b2) w8 w10:=(r.mono λx _ e=> .inl e).trans (l.mono λx _ e=> .inr e);have I:Ext w w10:=Ext.then (M.trans g) hS λx c=>oM
 have a1:Blk w10 b4 [oN,oN,oN,nI 0] zu:=((((R4.ext o).same z oM).ext g).same hS oM);rw[a0.ldAgg zQ];refine a1.stAgg (cs':=[v6,v9,vl,nI s.code]) rfl zQ (λx c=>?_) λaf m ai H=>?_
 .simp only[gm,gC,Gi] at c;rcases c with rfl|rfl|rfl|rfl
  .exact t.ints.one
  .exact v.ints.one
  .exact ac
  .rfl
 rw[H.lv zQ];refine hK af v6 v9 (Ext.then I m λx c=>oM) (U.same m λx c e=>?_) (W.same m λx c e=>?_) (λx c=>⟨?_,λe=>?_⟩) (λx c=>?_)
 .rcases p x c with d|d<;>omega
 .rcases q x c with d|d<;>omega
 .rcases p x c with d|d<;>omega
 .have:=E.lt c;rcases q x e with d|d<;>omega
 .rcases q x c with d|d<;>omega
theorem QS {vl:Value} {xss:List (oI)} (h:Lists F w vl xss):vl.oneCell'=true:=by
 obtain⟨vs,_,a,_⟩:=h;exact a.one
theorem l5Clash_spec {vc v v2:Value} {Z:oA} {k:Nat} (hc:CnfR F w vc c) (hs:SpR Z w v s) (d:Ints F' w v2 (atM c s k)) (A:satOk many c s) (Y:c.many=many) (hk:k<c.list.length+s.learned.length) (ac:qU s.put (atM c s k))
  (hK:∀w' v',Ext w w'->SpR (λb=>Z b\/w.heap.size<=b) w' v' (jm many c s (atM c s k))->K v' w'):vcall Vp #[vc,v,v2] w K:=by
 refine ze {} Tryz.func165 ?_;have ax:=hc;have bc:=hs.sat;obtain⟨lv,rfl,cx⟩:=hc;obtain⟨vp,vw,vl,rfl,hp,hw,ay,bz,af⟩:=hs;have D:many<=700/\c.list.length<=2500:=by
  have:=A.cnf;unfold cnfOk at this;simp only[gp,gg] at this;omega
 have ch:=A.few;have ag:=A.mks;have cz:=ag.len;have hlen:=A.len;have az:(yn s.why).length<=700:=by rw[jL];omega
 have a8:∀k,k<s.why.length->s.why.getD k 0= -1\/0<=s.why.getD k 0:=λk hk=>(A.why k hk).imp id λh=>h.1;have bounds:∀{an:oI},Fls s.put an->∀x,x∈an->x.natAbs<=many/\placeOf s.put x.natAbs≠0:=λhF x d=>by
  have h1:=ag.2 _ (hF x d);have h2:=placeOf_ne_zero (hF x d);rw[G9] at h2;exact⟨oM,h2⟩
 have cc:=clauseOk_len (m:=many) (by have:=A.atOk hk;rwa[Y] at this);obtain⟨z1,z2,z3,z4⟩:=Ux A Y hk ac;refine ye λb3 w1 ct c0 d0 br=>?_;refine ye λb4 w2 cu b0 d1 bs=>?_;refine xw qV λb6 w3 cv ad d2 bt=>?_;have A3:Blk w3 b3 [nI c.many,lv] zq:=(br.ext b0).ext ad;have B3:Blk w3 b4 [vp,vw,vl,nI s.code] zu:=bs.ext ad;have R3:Blk w3 b6 [oN,oN,oN,nI 0] zu:=bt;have E3:=c0.trans (b0.trans ad);rw[A3.ldAgg zD,B3.ldAgg zQ];refine l5Levels_spec (ax.ext E3) (bc.ext E3) Y D.1 ag hlen a8 λw4 vlev O z ah=>?_;have E4:=E3.trans O;refine l5Top_spec z.ints D.1 az (d.ext E4) (bounds (Z7 ac)) ?_;have A4:=A3.ext O;have B4:=B3.ext O;have R4:=R3.ext O;have d3:=O.size;have ones:∀{U V bf:Value} {cd:Int},U.oneCell'=true->V.oneCell'=true->bf.oneCell'=true->∀x,x∈[U,V,bf,nI cd]->x.oneCell'=true:=λh1 h2 h3 x d=>by
  simp only[gm,gC,Gi] at d;rcases d with rfl|rfl|rfl|rfl
  .exact h1
  .exact h2
  .exact h3
  .rfl
 have code:∀(cd:Int),jm many c s (atM c s k)={s with code:=cd}->zI zV (oP b4 3) (nI cd) w4 λ_ bi=>zt zu (oP b4 0) bi λt22 bj=>zI zu (oP b6 0) t22 bj λ_ bk=>vlv zu (oP b6 0) bk λr6 bl=>K r6 bl:=λcd X=>by
  refine B4.st rfl rfl yG rfl λw5 bd c9 bu=>?_;have B5:Blk w5 b4 [vp,vw,vl,nI cd] zu:=bu;rw[B5.ldAgg zQ];refine(R4.same bd oM).stAgg (cs':=[vp,vw,vl,nI cd]) rfl zQ (ones hp.ints.one hw.ints.one (QS af)) λw6 c4 d4 bv=>?_;rw[bv.lv zQ];have W:Ext w w6:=Ext.then E4 ((bd.mono λx _ e=>(.inl e:x=b4\/x=b6)).trans (c4.mono λx _ e=> .inr e)) λx d=>oM;refine hK w6 _ W ?_;rw[X];exact⟨vp,vw,vl,rfl,hp.ext W,hw.ext W,λb hb=>⟨.inl (ay b hb).1,(ay b hb).2⟩,λb hb=> .inl (bz b hb),(af.ext W).weaken λb hb _=>⟨.inl hb.1,hb.2⟩⟩
 refine oZ ?_;refine zb (λa=>?_) (λa=>?_)
 .exact code 2 (by unfold jm;rw[K3 oM])
 obtain⟨es,c1,b5,b1⟩:=af;have b8:=b5.ext E4;simp only[push_cast,B4.ld2,b8.len];refine zb (λa2=>?_) (λa2=>?_)
 .exact code 3 (by unfold jm;rw[X0 oM,K3 oM])
 clear code;have X:jm many c s (atM c s k)={s with put:=s.put.take (backN (yn s.why) (Zx s.put (yn s.why) (learnM many c s s.put.length (atM c s k))) s.put.length),why:=s.why.take (backN (yn s.why) (Zx s.put (yn s.why) (learnM many c s s.put.length (atM c s k))) s.put.length),learned:=s.learned++[learnM many c s s.put.length (atM c s k)]}:=by
  unfold jm;rw[X0 oM,X0 oM]
 rw[X] at hK;clear X;refine zd λw5 J _=>?_;have A5:=A4.ext J;have B5:=B4.ext J;simp only[push_cast,A5.ldAgg zD,B5.ldAgg zQ,Q1];refine y6 x6 yG λb7 w7 cw L d5 bw=>?_;have E7:=E4.trans (J.trans L);have A7:=A5.ext L;have B7:=B5.ext L;simp only[push_cast,A7.ldAgg zD,B7.ldAgg zQ,Q1,gn];have c9:=J.size;have cq:=L.size;refine copy_ints bw (d.ext E7) oM λv8 w8 c5 M c2=>?_;have A8:=A7.same M oM;have B8:=B7.same M oM;have ab:Ext w w8:=Ext.then E7 M λx d=>by have:=E4.size;omega
 simp only[push_cast,A8.ldAgg zD,B8.ldAgg zQ,Q1,gn];have d6:=M.size;have R:=((z.ext J).ext L).same M λx d e=>by have:=z.lt d;omega
 refine l5Learn_spec (ax.ext ab) (bc.ext ab) R.ints c5 A Y hk ac λw9 v9 Q ai c3=>?_;have E9:=ab.trans Q;have d7:=Q.size;have S:∀x,v9.ownBlock=some x->w4.heap.size<=x:=λx d=>by
  rcases c3 x d with e|e
  .rcases c2 x e with e|e<;>omega
  .omega
 generalize cy:learnM many c s s.put.length (atM c s k)=lc at*;refine y6 Qy qR λa9 w10 ce n ci ao=>?_;have ak:=(B8.ext Q).ext n;have am:=E9.trans n;have ae:=b5.ext am;simp only[push_cast,ak.ld2];have bq:OwnV zJ w10 (.slice (some ⟨a9,0,none⟩) 0 0) []:=Blk.own1 (t:=zJ) (cs:=[]) (by rw[z90];exact ao) (gS _) rfl rfl oM;have b2:∀u,u∈es->u.oneCell'=true:=λu hu=>by
  obtain⟨i,hi,rfl⟩:=gx hu;have:=(b1 i oM).one;simpa[q0,hi] using this
 refine bq.app (us:=es) Y6 ae b2 (by simp;omega) (by simp;omega) λv11 bg a6 a5 ba=>?_;have f:∀x,v11.ownBlock=some x->w9.heap.size<=x:=λx d=>by
  rcases ba x d with e|e
  .have e:a9=x:=gh e;omega
  .omega
 have r:Same (· =a9) w10 bg:=a5.mono λx _ e=>(gh e).symm;have bm:=ak.same r oM;have c6:=n.size;have cj:=a5.size;have T:=(ai.ext n).same r λx d e=>by have:=ai.lt d;omega
 have au:Ext w bg:=Ext.then am r λx d=>by have:=E9.size;omega
 refine zC Qy qR JV rfl T.ints.cells1 λcr d8 cf g ck ap=>?_;rw[Gp] at a6;refine OwnV.app1 (a6.ext g) Y6 ap T.ints.one oM oM λa1 ca C o bb=>?_;have E:∀x,a1.ownBlock=some x->w9.heap.size<=x:=λx d=>by
  rcases bb x d with e|e
  .exact f x e
  .have:=g.size;omega
 have c7:=g.size;have cl:=o.size;have bn:=(bm.ext g).same o λe=>by have:=f _ e;have:=B8.lt;omega
 have av:Ext w ca:=Ext.then (au.trans g) o λx d=>by have:=f x d;have:=E9.size;omega
 have be:=(T.ext g).same o λx d e=>by have:=f x e;have:=ai.lt d;omega
 refine bn.st C.vals.cells1 C.vals.one Qv rfl λaj p cm aq=>?_;have bo:Blk aj b4 [vp,vw,a1,nI s.code] zu:=aq;have aw:Ext w aj:=Ext.then av p λx d=>oM
 have G:=C.same p λx d e=>by have:=E x d;have:=B8.lt;omega
 have H:=be.same p λx d e=>by have:=S x d;have:=B4.lt;omega
 have a0:OwnI zf aj vlev (levs many s.put (yn s.why)):=((((R.ext Q).ext n).same r λx d e=>by have:=z.lt d;omega).ext g|>.same o λx d e=>by have:=f x e;have:=z.lt d;omega).same p λx d e=>by have:=ah x d;have:=B3.lt;omega
 refine zd λd9 j _=>?_;have al:=bo.ext j;simp only[push_cast,al.ldAgg zQ,Q1];have l:=aw.trans j;have c8:=p.size;have cn:=j.size;rw[<-z3];refine l5Below_spec (a0.ext j).ints D.1 (H.ext j).ints (bounds z1) ?_;simp only[push_cast,al.ldAgg zQ,Q1,gn];have bx:Zx s.put (yn s.why) lc<=700:=by
  unfold Zx;rcases ja (xs:=(lc.filter λk=>decide (lvM s.put (yn s.why) k<kW s.put (yn s.why) lc)).map (lvM s.put (yn s.why))) with e|e
  .omega
  .obtain⟨q,_,e⟩:=gz.1 e;rw[<-e];exact gO (lvl_le _ _) az
 refine l5Back_spec (s:={s with code:=s.code}) (hp.ext l) (hw.ext l) C.vals.one hlen oM bx a8 λcb U V y a4 a7 I N=>?_;have bp:Blk cb b6 [oN,oN,oN,nI 0] zu:=by
  have h6:=R3.lt;exact(((((((((R4.ext J).ext L).same M oM).ext Q).ext n).same r oM).ext g).same o λe=>by have:=f _ e;omega).same p oM|>.ext j).ext y
 refine bp.stAgg (cs':=[U,V,a1,nI s.code]) rfl zQ (ones a4.ints.one a7.ints.one C.vals.one) λbh B cp ar=>?_;rw[ar.lv zQ];have a3:Ext w bh:=Ext.then (l.trans y) B λx d=>oM
 have cg:=R3.lt;have co:=y.size;refine hK bh _ a3 ⟨U,V,a1,rfl,a4.same B λx d e=>by have:=(I x d).1;omega,a7.same B λx d e=>by have:=N x d;omega,λx d=>⟨.inr (by have:=(I x d).1;have:=l.size;omega),(I x d).2⟩,λx d=> .inr (by have:=N x d;have:=l.size;omega),es++[v9],by simp[c1],?_,λi hi=>?_⟩
 .have aa:=((G.ext j).ext y).same B λx d e=>by have:=E x d;omega
  refine aa.vals.weaken λx d _=>⟨.inr (by have:=E x d;have:=E9.size;omega),λe=>?_,λe=>?_⟩
  .have:=(I x e).1;have:=G.lt d;omega
  .have:=N x e;have:=G.lt d;omega
 .simp only[gd,Ga] at hi;by_cases b9:i<s.learned.length
  .rw[getD_app_l oM,getD_app_l b9];refine(((b1 i b9).weaken (F':=λx=>(Z x/\vp.ownBlock≠some x/\vw.ownBlock≠some x)/\x<w.heap.size) λx h1 h2=>⟨h1,h2⟩).ext a3).weaken λx d _=>⟨.inl d.1.1,λe=>?_,λe=>?_⟩
   .have:=(I x e).1;have:=l.size;omega
   .have:=N x e;have:=l.size;omega
  .have e1:i=s.learned.length:=oM;have e2:i=es.length:=oM;have g1:(es++[v9]).getD i undef=v9:=by rw[e2];simp
   have g2:(s.learned++[lc]).getD i []=lc:=by rw[e1];simp
   rw[g1,g2];have aa:=((H.ext j).ext y).same B λx d e=>by have:=S x d;omega
   refine aa.ints.weaken λx d _=>⟨.inr (by have:=S x d;have:=E4.size;omega),λe=>?_,λe=>?_⟩
   .have:=(I x e).1;have:=H.lt d;omega
   .have:=N x e;have:=H.lt d;omega
end
section
variable {w:World} {K:oK} {F F':oA} {many:Nat} {c:Cnf} {s:Sat}
theorem l5Do_spec {vc v:Value} {Z:oA} (hc:CnfR F w vc c) (hs:SpR Z w v s) (B:satOk many c s) (a3:c.many=many)
  (hK:∀w' v',Same Z w w'->SpR (λb=>Z b\/w.heap.size<=b) w' v' (goM many c s)->K v' w'):vcall x50 #[vc,v] w K:=by
 refine ze {loops:=[(13,[9])]} Tryz.func132 ?_;have S:=hc;have bj:=hs.sat;have bk:=hs;obtain⟨lv,rfl,ad⟩:=hc;obtain⟨vp,vw,vl,rfl,hp,hw,p,a4,J⟩:=hs;have L:many<=700/\c.list.length<=2500:=by
  have:=B.cnf;unfold cnfOk at this;simp only[gp,gg] at this;omega
 have bu:=B.few;have M:=B.mks;have c9:=M.len;have hlen:=B.len;have ac:∀cl,cl∈c.list++s.learned->∀l,l∈cl->l≠0/\l.natAbs<=many:=λcl ad l hl=>satOk.bnd B a3 ad hl;refine ye λb2 w1 c2 bf cb ba=>?_;refine ye λb3 w2 c3 ae cc bb=>?_;refine xw qV λb4 w3 c4 a5 ce bc=>?_;have A3:Blk w3 b2 [nI c.many,lv] zq:=(ba.ext ae).ext a5;have B3:Blk w3 b3 [vp,vw,vl,nI s.code] zu:=bb.ext a5;have R3:Blk w3 b4 [oN,oN,oN,nI 0] zu:=bc;have E3:=bf.trans (ae.trans a5);rw[A3.ldAgg zD];simp only[push_cast,B3.ld0];refine l5Vals_spec (S.ext E3) a3 L.1 (hp.ext E3).ints M λw4 v4 G ak c7=>?_;have E4:=E3.trans G;have A4:=A3.ext G;have B4:=B3.ext G;simp only[push_cast,A4.ldAgg zD,B4.ld2];refine l5Find_spec (S.ext E4) (J.ext E4) ak.ints M L.1 oM ac λw5 k u x H hf=>?_;have E5:=E4.trans H;have A5:=A4.ext H;have X:=B4.ext H;have R5:=(R3.ext G).ext H;have bm:=ak.ext H;have l3:=X.lt;have l4:=R5.lt;have cg:=E5.size;have cf:=G.size;refine oZ ?_;have ones:∀{q E ao:Value} {cd:Int},q.oneCell'=true->E.oneCell'=true->ao.oneCell'=true->∀x,x∈[q,E,ao,nI cd]->x.oneCell'=true:=λh1 h2 h3 x a=>by
  simp only[gm,gC,Gi] at a;rcases a with rfl|rfl|rfl|rfl
  .exact h1
  .exact h2
  .exact h3
  .rfl
 have n:goM many c s=(if 0<=k then jm many c s (atM c s k.toNat) else if 0<=u then{s with put:=s.put++[x],why:=s.why++[u]}
  else if s.put.length=many then{s with code:=1} else{s with put:=s.put++[-(ZE many s.put:Int)],why:=s.why++[-1]}):=by
  unfold goM;rw[hf]
 have push:∀(W:World) (l y:Int),Ext w W->Blk W b3 [vp,vw,vl,nI s.code] zu->Blk W b4 [oN,oN,oN,nI 0] zu->w5.heap.size<=W.heap.size->goM many c s={s with put:=s.put++[l],why:=s.why++[y]}->
   vbuildS zf 1 [(0,nI l)] W λt39 aq=>vbi .append [zf,zf] zf [vp,t39] aq λt40 ar=>zI zf (oP b3 0) t40 ar λ_ au=>zt zf (oP b3 1) au λt43 av=>
   vbuildS zf 1 [(0,nI y)] av λt45 aw=>vbi .append [zf,zf] zf [t43,t45] aw λt46 ax=>zI zf (oP b3 1) t46 ax λ_ ay=>zt zu (oP b3 0) ay λt48 az=>
   zI zu (oP b4 0) t48 az λ_ b0=>vlv zu (oP b4 0) b0 λan b1=>K an b1:=by
  intro W l y E6 B6 R6 bq ag;have ci:=E6.size;refine zC x6 yG xn rfl rfl λb7 w7 c5 j br a1=>?_;have r:=E6.trans j;refine(hp.ext r).app1 xt a1 oM oM λq w8 U V A=>?_;have nb:∀x,vp.ownBlock=some x->x<w.heap.size:=λx a=>hp.lt a;have nw:∀x,vw.ownBlock=some x->x<w.heap.size:=λx a=>hw.lt a;have B8:=(B6.ext j).same V λe=>by have:=nb _ e;omega
  refine B8.st U.ints.cells1 U.ints.one qR rfl λw9 D bs a2=>?_;have B9:Blk w9 b3 [q,vw,vl,nI s.code] zu:=a2;have bh:=U.same D λx a e=>by rcases A x a with d|d;(have:=nb _ d;omega);omega
  have bo:=((hw.ext r).same V λx a e=>(p x e).2 a).same D λx a e=>by have:=nw _ a;omega
  simp only[push_cast,B9.ld1];have ch:=V.size;refine zC x6 yG xn rfl rfl λc1 w10 bt t bw a8=>?_;refine(bo.ext t).app1 xt a8 oM oM λE cj Q z g=>?_;have b5:=(B9.ext t).same z λe=>by have:=nw _ e;omega
  have ah:=(bh.ext t).same z λx a e=>by
   rcases A x a with d|d
   .exact(p x d).2 e
   .have:=nw _ e;omega
  refine b5.st Q.ints.cells1 Q.ints.one qR rfl λap N bz a9=>?_;have b8:Blk ap b3 [q,E,vl,nI s.code] zu:=a9;have hS:Same (λx=>vp.ownBlock=some x\/vw.ownBlock=some x\/x=b3) w7 ap:=(V.mono λx _ e=> .inl e).trans ((D.mono λx _ e=> .inr (.inr e)).trans ((Same.of_ext t).trans ((z.mono λx _ e=> .inr (.inl e)).trans (N.mono λx _ e=> .inr (.inr e)))));have b9:=(R6.ext j).same hS (by rintro(e|e|e);exact absurd (nb _ e) oM;exact absurd (nw _ e) oM;omega);have Y:=ah.same N λx a e=>by rcases A x a with d|d;(have:=nb _ d;omega);omega
  have bx:=z.size;have a0:=Q.same N λx a e=>by rcases g x a with d|d;(have:=nw _ d;omega);omega
  rw[b8.ldAgg zQ];refine b9.stAgg (cs':=[q,E,vl,nI s.code]) rfl zQ (ones Y.ints.one a0.ints.one (QS J)) λa7 O c0 aa=>?_;rw[aa.lv zQ];have o:Same (λx=>vp.ownBlock=some x\/vw.ownBlock=some x\/x=b3\/x=b4) w7 a7:=(hS.mono λx _ e=>e.imp id λe=>e.imp id .inl).trans (O.mono λx _ e=> .inr (.inr (.inr e)));have ab:Same (λb=>vp.ownBlock=some b\/vw.ownBlock=some b) w a7:=by
   refine⟨o.os.trans r.os,o.tape.trans r.tape,o.output.trans r.output,gO r.size o.size,λb f hn=>?_⟩;rw[o.block b (by have:=r.size;omega) (by rintro(e|e|e|e);exact hn (.inl e);exact hn (.inr e);omega;omega),r.block b f id]
  have bp:=hS.size;refine hK a7 _ (ab.mono λb _ e=>e.elim (λe=>(p b e).1) (a4 b)) ?_;rw[ag];refine⟨q,E,vl,rfl,Y.same O λx a e=>by rcases A x a with d|d;(have:=nb _ d;omega);omega,a0.same O λx a e=>by rcases g x a with d|d;(have:=nw _ d;omega);omega,λx a=>?_,λx a=>?_,?_⟩
  .rcases A x a with e|e
   .refine⟨.inl (p x e).1,λe2=>?_⟩;rcases g x e2 with e3|e3
    .exact(p x e).2 e3
    .have:=nb _ e;omega
   .refine⟨.inr oM,λe2=>?_⟩;rcases g x e2 with e3|e3
    .have:=nw _ e3;omega
    .have:=U.lt a;omega
  .rcases g x a with e|e
   .exact .inl (a4 x e)
   .exact .inr oM
  .refine(((J.weaken (F':=λb=>(Z b/\vp.ownBlock≠some b/\vw.ownBlock≠some b)/\b<w.heap.size) λb h1 h2=>⟨h1,h2⟩).same ab λb f _ e=>e.elim f.1.2.1 f.1.2.2).weaken λx a _=>⟨.inl a.1.1,λe=>?_,λe=>?_⟩)
   .rcases A x e with d|d
    .exact a.1.2.1 d
    .have:=a.2;omega
   .rcases g x e with d|d
    .exact a.1.2.2 d
    .have:=a.2;omega
 rcases find_cases s.put (c.list++s.learned) with⟨i,u',x',hi,e,be⟩|⟨hn,⟨i,x',hi,e,hu,-⟩|⟨e,-⟩⟩
 .rw[hf,GC,GC] at e;obtain⟨rfl,rfl,rfl⟩:=e;rw[gd] at hi;rw[K3 oM,gu] at n;refine zb (λ_=>?_) (λb=>absurd oM b);refine zd λW I _=>?_;have E6:=E5.trans I;have A6:=A5.ext I;have B6:=X.ext I;simp only[push_cast,A6.ldAgg zD,B6.ldAgg zQ,Q1];refine l5At_spec (S.ext E6) (bj.ext E6) hi oM λw7 v7 j bn=>?_;have r:=E6.trans j;have A7:=A6.ext j;have B7:=B6.ext j;simp only[push_cast,A7.ldAgg zD,B7.ldAgg zQ,Q1,gn];refine l5Clash_spec (S.ext r) (bk.below.ext r) bn B a3 hi be λw8 v8 af a6=>?_;have R8:=((R5.ext I).ext j).ext af;have E8:=r.trans af;rw[<-n] at a6;obtain⟨p8,y8,l8,rfl,h8⟩:=a6.sat.fields;refine R8.stAgg (cs':=[p8,y8,l8,nI (goM many c s).code]) rfl zQ h8 λw9 D bs a2=>?_;rw[a2.lv zQ];refine hK w9 _ (Same.of_ext (Ext.then E8 D λx a=>oM)) ((a6.same D λb f _ e=>?_).weaken λb f _=>?_)
  .have:=r.size;have:=R5.lt;have:=I.size;have:=j.size;rcases f with f|f
   .have:=f.2;omega
   .omega
  .rcases f with f|f
   .exact .inl f.1
   .exact .inr (by have:=r.size;omega)
 .rw[hf,GC,GC] at e;obtain⟨rfl,rfl,rfl⟩:=e;rw[X0 oM,K3 oM] at n;refine zb (λb=>absurd b oM) (λ_=>zb (λ_=>?_) (λb=>absurd oM b));simp only[push_cast,X.ld0];exact push w5 _ _ E5 X R5 (gy _) n
 .rw[hf,GC,GC] at e;obtain⟨rfl,rfl,rfl⟩:=e;rw[X0 oM,X0 oM] at n;refine zb (λb=>absurd b oM) (λ_=>zb (λb=>absurd b oM) (λ_=>?_));have bi:=(hp.ext E5).ints;simp only[push_cast,X.ld0,A5.ld0,bi.len];refine zb (λb=>?_) (λb=>?_)
  .rw[K3 oM] at n;refine X.st rfl rfl yG rfl λW ai bq bd=>?_;have B6:Blk W b3 [vp,vw,vl,nI 1] zu:=bd;rw[B6.ldAgg zQ];refine(R5.same ai oM).stAgg (cs':=[vp,vw,vl,nI 1]) rfl zQ (ones hp.ints.one hw.ints.one (QS J)) λw7 bl br a1=>?_;rw[a1.lv zQ];have R:Ext w w7:=Ext.then E5 ((ai.mono λx _ e=>(.inl e:x=b3\/x=b4)).trans (bl.mono λx _ e=> .inr e)) λx a=>oM;refine hK w7 _ (Same.of_ext R) ?_;rw[n];exact⟨vp,vw,vl,rfl,hp.ext R,hw.ext R,λb f=>⟨.inl (p b f).1,(p b f).2⟩,λb f=> .inl (a4 b f),(J.ext R).weaken λb f _=>⟨.inl f.1,f.2⟩⟩
  .rw[X0 oM] at n;obtain⟨f1,f2,f3,f4⟩:=free_spec M oM;have al:=bm.ints;have ca:=signs_len many s.put;refine vloop_up (ZE many s.put-1) (λi u w'=>u=[nI (i+1:Nat)]/\w'=w5) ⟨rfl,rfl⟩ ?_;rintro i _ _ w5 C hi ⟨rfl,rfl⟩ hC;have aj:=sgn_pos M (m:=((i+1:Nat):Int)) oM;rw[pV] at aj;simp(disch:=exact oS) only[sl0,al.iaddr,gu,al.load];rw[signs_get oM,aj];have am:ZG0 s.put ((i+1:Nat):Int)=0↔placeOf s.put (i+1)=0:=by
    unfold ZG0;rw[pV];by_cases hm:((i+1:Nat):Int)∈s.put
    .rw[K3 hm];have:=placeOf_ne_zero hm;rw[pV] at this;exact⟨λh=>oM,λh=>absurd h this⟩
    .rw[X0 hm];by_cases T:placeOf s.put (i+1)=0
     .rw[K3 T];simp[T]
     .rw[X0 T];simp[T]
   simp only[xo0];refine zb (λb6=>?_) (λb6=>?_)
   .have bg:i<ZE many s.put-1:=by
     refine GO λc6=>b6 (am.2 ?_);have:i+1=ZE many s.put:=oM;rw[this];exact f3
    simp only[XE];rw[inc64 oM];exact hC bg _ _ ⟨rfl,rfl⟩
   .have bv:i+1=ZE many s.put:=by
     refine GO λc8=>f4 (i+1) oM oM (am.1 (by simpa using b6))
    have e1:IntKind.i64.wrap (0-((i+1:Nat):Int))= -(ZE many s.put:Int):=by rw[zj oM oM];omega
    simp(disch:=(simp only[push_cast])) only[z30,z00,ym,Ge,X.ld0,ZV0,e1];exact push w5 _ _ E5 X R5 (gy _) n
theorem l5Run_spec {vc:Value} {n:Nat} (hc:CnfR F w vc c) (Z:cnfOk c=true) (D:c.many=many) (hn:n<=4000)
  (hK:∀w' v',Ext w w'->SpR (λb=>w.heap.size<=b) w' v' (runM many c n emptyS)->K v' w'):vcall zW0 #[vc,nI n] w K:=by
 refine ze {loops:=[(3,[6])]} Tryz.func107 ?_;have Y:=hc.below;obtain⟨lv,rfl,a4⟩:=hc;refine ye λb2 w1 a1 h a5 T=>?_;refine xw qV λb4 w2 a2 E a6 U=>?_;refine Yi qu0 (us:=[]) rfl rfl ?_;refine xw qV λM w3 a3 o a7 V=>?_;have B3:Blk w3 M [oN,oN,oN,nI 0] zu:=V;have A3:Blk w3 b2 [nI c.many,lv] zq:=(T.ext E).ext o;have R3:Blk w3 b4 [oN,oN,oN,nI 0] zu:=U.ext o;refine B3.stAgg (cs':=[oN,oN,oN,nI 0]) rfl zQ (λx z=>by simp only[gm,gC,Gi] at z;rcases z with rfl|rfl|rfl|rfl<;>rfl) λH q a8 B=>?_;have E4:Ext w H:=Ext.then (h.trans (E.trans o)) q λx z=>by have:=h.size;omega
 have A4:=A3.same q oM;have R:=R3.same q oM;have aa:=E4.size;have fin:∀(f:World) (p y l:Value),Ext w f->H.heap.size<=f.heap.size->Blk f b4 [oN,oN,oN,nI 0] zu->Blk f M [p,y,l,nI (runM many c n emptyS).code] zu->SpR (λb=>H.heap.size<=b) f (.agg #[p,y,l,nI (runM many c n emptyS).code]) (runM many c n emptyS)->
   zt zu (oP M 0) f λt21 I=>zI zu (oP b4 0) t21 I λ_ J=>vlv zu (oP b4 0) J λr4 L=>K r4 L:=by
  intro f p y l v t A k m;rw[k.ldAgg zQ];obtain⟨O,Q,N,e,S⟩:=m.sat.fields;obtain⟨rfl,rfl,rfl⟩:p=O/\y=Q/\l=N:=(by simpa using e);refine A.stAgg (cs':=[p,y,l,nI (runM many c n emptyS).code]) rfl zQ S λw6 d a0 W=>?_;rw[W.lv zQ];exact hK w6 _ (Ext.then v d λx z=>by have:=h.size;omega) ((m.same d λb g _ e=>by have:=R.lt;omega).weaken λb g _=>oM)
 refine vloop_up n (λi u w'=> ∃p y l,u=[nI i]/\Ext w w'/\H.heap.size<=w'.heap.size/\Blk w' b2 [nI c.many,lv] zq/\Blk w' b4 [oN,oN,oN,nI 0] zu/\Blk w' M [p,y,l,nI (runM many c i emptyS).code] zu/\SpR (λb=>H.heap.size<=b) w' (.agg #[p,y,l,nI (runM many c i emptyS).code]) (runM many c i emptyS))
  ⟨_,_,_,rfl,E4,gy _,A4,R,B,SpR.empty⟩ ?_
 rintro i _ _ f C hi ⟨p,y,l,rfl,v,t,A5,A,k,m⟩ hC;refine oZ ?_;refine zb (λa=>?_) (λa=>?_)
 .simp only[push_cast,k.ld3];refine zb (λb=>?_) (λb=>?_)
  .rw[A5.ldAgg zD,k.ldAgg zQ];have G:=run_ok (n:=i) D (empty_ok (many:=many) Z);refine l5Do_spec (Y.ext v) m G D λw6 v6 d s=>?_;have r:goM many c (runM many c i emptyS)=runM many c (i+1) emptyS:=by rw[run_succ];unfold stepM;rw[K3 b]
   rw[r] at s;have l2:=A4.lt;have l4:=R.lt;have l5:=B.lt;have a0:=d.size;have A6:=A5.same d oM;have R6:=A.same d oM;have B6:=k.same d oM;obtain⟨O,Q,N,rfl,S⟩:=s.sat.fields;refine B6.stAgg (cs':=[O,Q,N,nI (runM many c (i+1) emptyS).code]) rfl zQ S λw7 j a9 X=>?_;rw[inc64 oM];have E6:Ext w w6:=Ext.then v d λx z=>oM;refine hC oM _ _ ⟨O,Q,N,rfl,Ext.then E6 j λx z=>by have:=h.size;omega,oM,A6.same j oM,R6.same j oM,X,(s.same j λb g _ e=>?_).weaken λb g _=>?_⟩
   .rcases g with g|g<;>omega
   .rcases g with g|g<;>omega
  .have e:runM many c n emptyS=runM many c i emptyS:=by
    rw[show n=i+(n-i) from by omega,run_add,run_stop b]
   rw[<-e] at k m;exact fin f p y l v t A k m
 .have:n=i:=oM;subst this;exact fin f p y l v t A k m
end
end Go.Proofs.YtfjlkobhagjdaaaGreatDoor
namespace Go.Proofs.YtfjlkobhagjdaaaGreatDoor
open Go Go.Vc Go.Proofs
section
variable {w:World} {K:oK} {F F' D G:oA} {dv tv iv lv:Value} {ds:List M.Dcl} {ts:List M.Tm} {ins:List Bool} {c:M.Cnf}
theorem l9Folds_spec (E:DclsR F w dv ds) (J:TmsR G w tv ts) (s:M.declOk ds=true) (m:∀t,t∈ts->M.sortM ds t≠ -1) (hs:ts.length<=2000000)
  (B:∀w' lv,Ext w w'->TmsR (λ_=>True) w' lv (ts.map (M.foldT ds))->K lv w'):vcall Vj #[dv,tv] w K:=by
 refine ze {loops:=[(3,[5,6])]} Tryz.func84 ?_;refine vbuildS_row (xs:=[]) (us:=[]) (k:=5) yW xq zp rfl (by simp) dC λb1 w1 D p L o=>?_;have z:LstH (λ_=>False) w1 (.slice (some ⟨b1,0,none⟩) 0 0) []:=⟨[],Blk.ownk (css:=[]) (by rw[qm];exact o) (by simp) rfl dC,rfl,λi hi=>absurd hi (PQ _)⟩;refine vloop_up ts.length (λi u w'=> ∃lv H,u=[lv,nI i]/\Ext w w'/\LstH H w' lv ((ts.take i).map (M.foldT ds))/\∀x,lv.ownBlock=some x->w.heap.size<=x/\¬H x)
  ⟨_,_,rfl,p,z,λx c=>⟨by have e:b1=x:=gh c;omega,id⟩⟩ ?_
 rintro i _ _ w2 C hi ⟨lv,H,rfl,d,g,hO⟩ A;have l:=(J.weaken (F':=λx=>G x/\x<w.heap.size) λx a b=>⟨a,b⟩).ext d;simp only[push_cast,l.len];refine zb (λa=>?_) (λa=>?_)
 .have f:i<ts.length:=oM;simp(disch:=exact oS) only[push_cast,l.iaddr];refine l.load zc f λx c=>?_;refine l3Fold_spec _ (E.ext d) s c (m _ (M.getD_mem f _)) λN rv j I=>?_;have z2:=d.size;have z3:=j.size;have llt:∀x,lv.ownBlock=some x->x<w2.heap.size:=λx c=>g.lt c;refine LstH.push (g.ext j) (λx c=>⟨(hO x c).2,λe=>?_⟩) I (by rw[V0,gi];omega) λO y v r n=>?_
  .have:=llt x c;have:=(hO x c).1;rcases e with e|e<;>omega
  try simp only[push_cast]
  rw[inc64' oM];rw[show(ts.take i).map (M.foldT ds)++[M.foldT ds (ts.getD i default)]=(ts.take (i+1)).map (M.foldT ds) by rw[<-XI f,gD];rfl] at n;refine A f _ _ ⟨y,_,rfl,Ext.then (d.trans j) v λx c=>(hO x c).1,n,λx c=>?_⟩;rcases r x c with e|e
  .refine⟨(hO x e).1,λh=>?_⟩;have:=llt x e;have:=(hO x e).1;rcases h.1 with h|h
   .exact(hO x e).2 h
   .rcases h with h|h<;>omega
  .exact⟨oM,λh=>by have:=h.2;omega⟩
 .have q:i=ts.length:=oM;subst q;rw[gG] at g;exact B w2 lv d (g.tms.weaken λ_ _ _=>trivial)
theorem spec_BlastEnv_spec (T:zl0 ds) (H:DclsR F w dv ds) (hi:Bools F' w iv ins) (d:M.declOk ds=true) (hl:ins.length=M.nIn ds)
  (Y:∀w' r,Ext w w'->OwnI zf w' r (M.envB ds ins)->(∀b,r.ownBlock=some b->w.heap.size<=b)->K r w'):vcall Kq #[dv,iv] w K:=by
 refine ze {loops:=[(6,[5,6,7]),(10,[6,8,9])],cuts:=[(12292,[])]} Tryz.func109 ?_;obtain⟨a2,a3⟩:=M.nIn_eq d;refine spec_nil λv1 w1 R g A=>?_;refine zo (λu w'=>u=[]/\Ext w1 w') (λC E=>?_) ?_
 .refine spec_DeclOk_spec (H.ext g) T λw2 f=>?_;rw[d];simp only[push_cast,GW,((hi.ext g).ext f).len];refine sbits8_spec (k:=ds.length) d (gy _) (by rw[gG];exact(H.ext g).ext f) λW J=>?_;rw[M.bitT_all];refine oZ ?_;refine zb (λh=>absurd oM h) (λ_=>E _ _ ⟨rfl,f.trans J⟩)
 rintro _ _ w2 ⟨rfl,f⟩;have h4:=(M.decl_iff.1 d).1;have I:=M.dpos d;have L:=M.envB_len ds ins;refine vloop_up ds.length (λi u w'=> ∃r,u=[r,nI (Jq ds i),nI i]/\Ext w w'/\OwnI zf w' r ((M.envB ds ins).take i)/\∀b,r.ownBlock=some b->w.heap.size<=b) ⟨v1,rfl,g.trans f,R.ext f,A⟩ ?_;rintro i _ _ W C a0 ⟨r,rfl,s,p,o⟩ E;have n:=H.ext s;have y:=hi.ext s;simp only[push_cast,n.len];refine zb (λa=>?_) (λa=>?_)
 .have l:i<ds.length:=oM;have U:=M.dcl_wide d l;have q:=off_succ d l;have X:=off_le d (i:=i+1) oM;have het:=envB_take (ins:=ins) I l;obtain⟨wd,m⟩:∃wd:Nat,(ds.getD i (M.nada,0)).2=wd:=⟨_,(PS oM).symm⟩;rw[m] at U q het;rw[gu] at q het;generalize v:(ins.drop (Jq ds i)).take wd=bs at het;have t:bs.length=wd:=by rw[<-v,gi,GS,hl];omega
  refine vloop_up wd (λj u w'=>u=[nI (Jq ds i+j:Nat),nI (M.msbN (bs.take j)),nI j]/\w'=W) ⟨rfl,rfl⟩ ?_;rintro j _ _ _ C1 hj ⟨rfl,rfl⟩ G;have a1:=M.msb_lt (bs.take j);have a4:2^(bs.take j).length<=2^4:=gZ oM (by rw[gi];omega);simp(disch:=exact oS) only[push_cast,n.iaddr,gu,n.load1,m];refine zb (λc=>?_) (λc=>?_)
  .have z:j<wd:=oM;have hg:ins.getD (Jq ds i+j) false=bs.getD j false:=by
    rw[<-v,M.take_getD z,q0,q0,G5]
   simp(disch:=exact oS) only[push_cast,y.iaddr,gu,y.load,zj];refine Xu ?_;have Z:0<=M.b2i (bs.getD j false)/\M.b2i (bs.getD j false)<=1:=by unfold M.b2i;split<;>omega
   have D:=msb_snoc (bs.take j) (bs.getD j false);rw[<-M.take_add (by omega:j<bs.length) false] at D;rw[show((Jq ds i:Int)+(j:Int)).toNat=Jq ds i+j by omega,hg];simp(disch:=exact oS) only[push_cast,zj];refine G z _ _ ⟨?_,rfl⟩;rw[D,Int.mul_comm 2];simp[Int.add_assoc]
  .have O:j=wd:=oM;subst O;rw[<-t,gG,t];refine push_int p (by rw[gi];omega) λw6 r6 S B Q=>?_;rw[<-het,<-M.take_add oM 0] at B;have z3:=s.size;rw[inc64' oM];refine E l _ _ ⟨r6,by rw[q,Int.natCast_add (Jq ds i)],Ext.then s S λx V=>o x V,B,λx V=>?_⟩;rcases Q x V with e|e
   .exact o x e
   .omega
 .have N:i=ds.length:=oM;subst N;rw[<-L,gG] at p;exact Y W r s p o
theorem ZU0 {put:oI} {i n:Nat} (h:i<n):decide (M.sgnV put (2+i)=1)=(M.insV (M.wayM put) n).getD i false:=by
 rw[M.insV_get h];unfold M.sgnV M.wayM;rw[Nat.add_comm 2 i];by_cases c:((i+2:Nat):Int)∈put
 .rw[K3 c,gl c];rfl
 .rw[X0 c,gk c];split<;>rfl
theorem l9Search_spec (aa:zl0 ds) (hd:DclsR F w dv ds) (I:M.declOk ds=true) (hc:CnfR G w (.agg #[nI c.many,lv]) c) (f:M.cnfOk c=true) (hn:1+M.nIn ds<=c.many.toNat)
  (hK:∀w' ev,Ext w w'->OwnI zf w' ev (M.searchM 4000 ds c).1->(∀x,ev.ownBlock=some x->w.heap.size<=x)->K (.tuple #[ev,nI (M.searchM 4000 ds c).2]) w'):
  vcall Ki #[dv,.agg #[nI c.many,lv]] w K:=by
 refine ze {loops:=[(7,[8,9])]} Tryz.func85 ?_;obtain⟨ah,ai⟩:=M.nIn_eq I;obtain⟨many,hm⟩:∃many:Nat,c.many=many:=⟨c.many.toNat,oM⟩;have a4:c.many.toNat=many:=oM
 have B:many<=700:=by
  have:=f;unfold M.cnfOk at this;simp only[gp,gg] at this;omega
 refine ye λb1 w1 ac z al a0=>?_;have A1:Blk w1 b1 [nI c.many,lv] zq:=a0;rw[A1.ldAgg zD];refine l5Run_spec (many:=many) (n:=4000) (hc.ext z) f hm (gy _) λw2 v2 A v=>?_;have z1:=z.size;have z2:=A.size;have T:=(M.run_ok (n:=4000) hm (M.empty_ok (many:=many) f)).mks;refine xw qV λb4 w3 ad a5 am a1=>?_;have d:M.searchM 4000 ds c=if(M.runM many c 4000 M.emptyS).code=1 then(M.envB ds (M.insV (M.wayM (M.runM many c 4000 M.emptyS).put) (M.nIn ds)),1) else if(M.runM many c 4000 M.emptyS).code=2 then([],2) else([],3):=by rw[<-a4];rfl
 generalize M.searchM 4000 ds c=sr at d hK;generalize M.runM many c 4000 M.emptyS=s at v d T;obtain⟨p,y,l,rfl,h8⟩:=v.sat.fields;obtain⟨p',y',l',e',hp,_,aj,_,_⟩:=v;obtain⟨rfl,rfl,rfl⟩:p=p'/\y=y'/\l=l':=by simpa using e'
 have R3:Blk w3 b4 [oN,oN,oN,nI 0] zu:=a1;refine R3.stAgg (cs':=[p,y,l,nI s.code]) rfl zQ h8 λw4 a9 an Q=>?_;have q:Ext w2 w4:=Ext.then a5 a9 λx J=>oM
 have N:=(z.trans A).trans q;have A4:=A1.ext (A.trans q);simp only[push_cast,Q.ld3];refine zb (λa=>?_) (λa=>?_)
 .rw[K3 a] at d;subst d;rw[A4.ldAgg zD];simp only[push_cast,Q.ld0];refine l5Vals_spec (hc.ext N) hm B (hp.ext q).ints T λL v5 g ab o=>?_;have Z:=N.trans g;have z5:=Z.size;refine y6 qY0 xk0 λb6 w6 ae a6 ao a3=>?_;have a8:OwnB qw w6 (.slice (some ⟨b6,0,none⟩) 0 0) []:=Blk.own1 (t:=qw) (cs:=[]) (by rw[z80];exact a3) (gS _) rfl rfl oM;refine vloop_up (M.nIn ds) (λi u w'=> ∃r,u=[r,nI i]/\Ext L w'/\OwnB qw w' r ((M.insV (M.wayM s.put) (M.nIn ds)).take i)/\∀b,r.ownBlock=some b->L.heap.size<=b) ⟨_,rfl,a6,a8,λb R=>by have e:b6=b:=gh R;omega⟩ ?_;rintro i _ _ w7 C hi ⟨r,rfl,e7,E,V⟩ hC;refine sbits8_spec (k:=ds.length) I (gy _) (by rw[gG];exact hd.ext (Z.trans e7)) λw8 m=>?_;rw[M.bitT_all];refine oZ ?_;have O:=e7.trans m;have hlen:=M.insV_len (M.wayM s.put) (M.nIn ds);refine zb (λa=>?_) (λa=>?_)
  .have S:i<M.nIn ds:=oM;have Y:=(ab.ext O).ints;have ak:=M.signs_len many s.put;simp(disch:=exact oS) only[push_cast,zj,Y.iaddr,Y.load];rw[show((2:Int)+(i:Int)).toNat=2+i by omega,M.signs_get oM,ZU0 S];refine one_bool λw9 b9 af j H=>?_;refine OwnV.app (us:=[.bool ((M.insV (M.wayM s.put) (M.nIn ds)).getD i false)]) ((E.ext m).ext j) ju0 H.bools (by simp[Value.oneCell']) (by simp only[V0,Ga,gi];omega) (by simp only[V0,Ga,gi];omega) λv10 w10 W X U=>?_;have z8:=m.size;have z9:=j.size;have z7:=e7.size;refine hC S _ _ ⟨v10,rfl,Ext.then (O.trans j) X λb R=>V b R,?_,λb R=>?_⟩
   .rw[M.take_add oM false];unfold OwnB;rw[gD];exact W
   .rcases U b R with h|h
    .exact V b h
    .omega
  .have ag:i=M.nIn ds:=oM;rw[gF oM] at E;refine spec_BlastEnv_spec aa (hd.ext (Z.trans O)) (E.ext m).bools I hlen λw9 r9 j H a7=>?_;have z8:=O.size;exact hK w9 r9 (Z.trans (O.trans j)) H λx J=>by have:=a7 x J;omega
 .rw[X0 a] at d;have z4:=N.size;refine zb (λa2=>?_) (λa2=>?_)
  .rw[K3 a2] at d;subst d;exact spec_nil λv5 L D g o=>hK L v5 (N.trans g) D λx J=>by have:=o x J;omega
  .rw[X0 a2] at d;subst d;exact spec_nil λv5 L D g o=>hK L v5 (N.trans g) D λx J=>by have:=o x J;omega
theorem l9Solve_spec (u:zl0 ds) (c:Jb ds ts=true) (j:DclsR F w dv ds) (v:TmsR G w tv ts)
  (f:∀w' ev,Ext w w'->OwnI zf w' ev (yI ds ts []).1->(∀x,ev.ownBlock=some x->w.heap.size<=x)->K (.tuple #[ev,nI (yI ds ts []).2]) w'):vcall Vi #[dv,tv] w K:=by
 refine ze {} Tryz.func55 ?_;obtain⟨L,a2,a3⟩:=all8_iff.1 c;refine l9Folds_spec j v a2 (λt v=>by rw[(XL (a3 t v)).1];decide) oM λw1 lv a o=>?_;refine l8Cnf_spec (Qo c) (j.ext a) o λw2 cv ls k g=>?_;have B:=a.trans k;refine oZ ?_;refine cnf_new g λN b4 D l d i=>?_;have b:=B.trans l;have z4:=b.size;refine zm (λh=>?_) (λh=>?_)
 .have E:=K5 (nots:=[]) c (by simpa using h);refine spec_nil λv5 I r m p=>?_;have:=f I v5 (b.trans m);rw[E] at this;exact this r λx y=>by have:=p x y;omega
 .have C:(cnfE ds (ts.map (M.foldT ds))).2=0:=(by simpa using h);obtain⟨z,A,H⟩:=solveR_run (nots:=[]) c C (λe he=>by cases he) (by simp);rw[xH0] at z A;rw[d.ldAgg zD];refine l9Search_spec u (j.ext b) a2 i.cnf A H λJ ev n s q=>?_;refine oZ ?_;rw[z] at f;exact f J ev (b.trans n) s λx y=>by have:=q x y;omega
theorem spec_Solve_spec (b:zl0 ds) (l:DclsR F w dv ds) (m:TmsR G w tv ts)
  (k:∀w' ev,Ext w w'->OwnI zf w' ev (yI ds ts []).1->(∀x,ev.ownBlock=some x->w.heap.size<=x)->K (.tuple #[ev,nI (yI ds ts []).2]) w'):vcall yb0 #[dv,tv] w K:=by
 refine ze {} Tryz.func34 ?_;refine l8All_spec b l m λw1 a=>?_;refine oZ ?_;have q:=a.size;refine zm (λh=>?_) (λh=>?_)
 .have n:=QA (ds:=ds) (ts:=ts) (nots:=[]) (by simpa using h);refine spec_nil λv5 o g c e=>?_;have:=k o v5 (a.trans c);rw[n] at this;exact this g λx j=>by have:=e x j;omega
 .refine l9Solve_spec b (by simpa using h) (l.ext a) (m.ext a) λp ev d i f=>?_;refine oZ ?_;exact k p ev (a.trans d) i λx j=>by have:=f x j;omega
theorem Ys {at_ an am ar ab:Addr} (e:DclsR F w dv ds) (f:TmsR G w tv ts) (hs:ts.length<=2000000) (er:Er w at_ an am ar ab)
  (d:∀w' ev,Ext w w'->OwnI zf w' ev (yI ds ts []).1->(∀x,ev.ownBlock=some x->w.heap.size<=x)->K (.tuple #[ev,nI (yI ds ts []).2]) w'):vcall yh0 #[dv,tv] w K:=by
 refine ze {} Tryz.func29 ?_;refine solved_spec e f hs er λg ev a c b=>?_;refine oZ ?_;exact d g ev a c b
end
section
variable {ds:List M.Dcl} {ts:List M.Tm} {t:M.Tm} {e:oI}
theorem xh0 (h:Jb ds ts=true):M.declOk ds=true/\M.sorted0 ds ts/\ts.length<=8:=
 ⟨(all8_iff.1 h).2.1,λt a=>(XL ((all8_iff.1 h).2.2 t a)).1,(all8_iff.1 h).1⟩
theorem Yc0:∀e:oI,e∈([]:List (oI))->M.envOk ds e=true:=λe he=>by cases he
theorem few_nots (h:ts.length<=8):ts.length+([]:List (oI)).length<=90:=by simp;omega
theorem j30 (h:Jb ds ts=true):yI ds ts []=M.solveM 4000 ds ts []:=K3 h
theorem Zb (h:(yI ds ts []).2≠4):Jb ds ts=true:=Gj λc=>h (by rw[QA c])
theorem sol_iff:M.Sol ds ts [] e↔M.envOk ds e=true/\M.allT ds e ts:=by simp[M.Sol]
theorem solveR_no (h:(yI ds ts []).2=2):Jb ds ts=true/\∀e,M.envOk ds e=true->¬M.allT ds e ts:=by
 have d:=Zb (ds:=ds) (ts:=ts) oM;obtain⟨a,b,c⟩:=xh0 d;rw[j30 d] at h;exact⟨d,λe f g=>(M.solve_no a b Yc0 (few_nots c) h).2 e (sol_iff.2 ⟨f,g⟩)⟩
end
section
variable {ds:List M.Dcl} {ts:List M.Tm} {u:M.Tm} {e:oI} {f n m k:Nat}
def xR (ts:List M.Tm) (l:List Nat):List M.Tm:=l.map λi=>ts.getD i default
def coreA (ds:List M.Dcl) (ts:List M.Tm):Nat->List Nat
 |0=>[]
 |k+1=>if(yI ds (xR ts (coreA ds ts k++List.range' (k+1) (ts.length-(k+1)))) []).2=2 then coreA ds ts k else coreA ds ts k++[k]
def Qi (ds:List M.Dcl) (ts:List M.Tm):oI×Int:=if(yI ds ts []).2=2 then((coreA ds ts ts.length).map Int.ofNat,2) else([],(yI ds ts []).2)
theorem coreA_lt:∀{k x:Nat},x∈coreA ds ts k->x<k
 |0,x,h=>by cases h
 |k+1,x,h=>by
  unfold coreA at h;split at h
  .have:=coreA_lt h;omega
  .rcases gr.1 h with h|h
   .have:=coreA_lt h;omega
   .have:=gB.1 h;omega
theorem core_all8 {l:List Nat} (h:Jb ds ts=true) (d:∀x,x∈l->x<ts.length) (e:l.length<=ts.length):Jb ds (xR ts l)=true:=by
 obtain⟨a,b,c⟩:=all8_iff.1 h;refine all8_iff.2 ⟨by unfold xR;rw[V0];omega,b,λu hu=>?_⟩;obtain⟨i,hi,rfl⟩:=gz.1 hu;exact c _ (M.getD_mem (d i hi) default)
theorem coreA_len (ds:List M.Dcl) (ts:List M.Tm):∀k:Nat,(coreA ds ts k).length<=k
 |0=>gy _
 |k+1=>by
  have:=coreA_len ds ts k;unfold coreA;split
  .omega
  .rw[gd];simp;omega
theorem kT0:xR ts (List.range' 0 ts.length)=ts:=by
 unfold xR;refine gW (by simp) λi b a=>?_;simp[q0,gj a]
theorem range_cons (a:k<n):List.range' k (n-k)=k::List.range' (k+1) (n-(k+1)):=by
 rw[show n-k=(n-(k+1))+1 by omega,List.range'_succ]
theorem core_no (h:(yI ds ts []).2=2):∀k:Nat,k<=ts.length->(yI ds (xR ts (coreA ds ts k++List.range' k (ts.length-k))) []).2=2
 |0,_=>by
  show(yI ds (xR ts (List.range' 0 (ts.length-0))) []).2=2;rw[Nat.sub_zero,kT0];exact h
 |k+1,b=>by
  have a:=core_no h k oM;unfold coreA;split
  .next c=>exact c
  .rw[range_cons oM,List.append_cons] at a;exact a
theorem core_less {k:Nat} (b:k<ts.length):(coreA ds ts k++List.range' k (ts.length-k)).filter (λx=>decide (x≠k))=coreA ds ts k++List.range' (k+1) (ts.length-(k+1)):=by
 rw[range_cons b,pU,PH];rw[Pj.2 λx a=>by have:=coreA_lt a;exact gl oM];rw[X0 (by simp),Pj.2 λx a=>by rw[pZ] at a;exact gl oM]
theorem Yr:coreA ds ts (k+1)=if(yI ds (xR ts (coreA ds ts k++List.range' (k+1) (ts.length-(k+1)))) []).2=2 then coreA ds ts k else coreA ds ts k++[k]:=rfl
theorem core_ext (k:Nat):∀m:Nat,∃s,coreA ds ts (k+m)=coreA ds ts k++s/\∀x,x∈s->k<=x
 |0=>⟨[],by simp,λx h=>by cases h⟩
 |m+1=>by
  obtain⟨s,b,c⟩:=core_ext k m;rw[<-PJ,Yr];split
  .exact⟨s,b,c⟩
  .refine⟨s++[k+m],by rw[b,gY],λx a=>?_⟩;rcases gr.1 a with a|a
   .exact c x a
   .have:=gB.1 a;omega
theorem core_kept {k:Nat} (f:k<ts.length):((coreA ds ts k).length<(coreA ds ts ts.length).length/\(coreA ds ts ts.length).getD (coreA ds ts k).length 0=k)↔ ¬(yI ds (xR ts (coreA ds ts k++List.range' (k+1) (ts.length-(k+1)))) []).2=2:=by
 obtain⟨s,e,d⟩:=core_ext (ds:=ds) (ts:=ts) (k+1) (ts.length-(k+1));rw[show k+1+(ts.length-(k+1))=ts.length by omega,Yr] at e;rw[e];split
 .next c=>
  refine⟨λ⟨a,b⟩=>?_,λh=>absurd c h⟩;rw[gd] at a;rw[q0,gP (gy _),GK] at b
  match s,a,d,b with
  |[],a,_,_=>simp at a
  |x::s,_,d,b=>
   have:=d x gq;simp at b;omega
 .next c=>
  refine⟨λ_=>c,λ_=>⟨by simp,?_⟩⟩;rw[gY,q0,gP (gy _),GK];rfl
end
section
variable {w:World} {K:oK} {D F G H:oA} {dv tv uv v ev:Value} {ds:List M.Dcl} {ts:List M.Tm} {t:M.Tm} {env:oI} {xs:List Nat}
theorem kJ0 (he:M.envOk ds env=true) (h:M.tsort ds t=0):M.tok ds t env=true/\M.teval ds t env=M.evalM ds env t:=by
 obtain⟨a,b,_⟩:=XL h;have:=YP0 he (by rw[a];decide) b;exact⟨this,by unfold M.teval;rw[K3 this]⟩
instance (ds:List M.Dcl) (e:oI) (ts:List M.Tm):Decidable (M.allT ds e ts):=by unfold M.allT;infer_instance
theorem kY0:Ints F w (oN) []:=(OwnI.ints (xs:=[]) (show OwnI zf w (oN) [] from Own.nil 0 1 zf w)).weaken λ_ h=>by cases h
theorem jb0 (h:M.envOk ds env=true):M.rankE ds env<QQ ds:=by
 have c:=(M.env_ok h).1;obtain⟨a,b⟩:=M.nIn_eq c;have:=M.msb_lt (M.insM ds env);rw[M.rank_env h];unfold QQ;rw[K3 c,<-a,gu];rw[M.insM_n h] at this
 exact_mod_cast this
theorem slice_end {o:Option Addr} {n c k a:Nat} {ty:TypeId} {kd:IntKind} (e:elB ty k=true) (f:a<=n) (g:n<=c):
  yH ty (.slice o n c) (some (.int kd a)) none none w K=yH ty (.slice o n c) (some (.int kd a)) (some (nI n)) none w K:=by
 obtain⟨hu,hs⟩:=Zv e;have b:yH ty (.slice o n c) (some (.int kd a)) none none w K=K (sliced o a n c k) w:=y1 (by
  rw[run_sliceAt_slice w ty _ _ _ _ hu,run_slice_l w ty _ _ _ hu kd a oM (by simp;omega),Go.Vc.run_sizeOf hs];simp[Result.andThen])
 have d:yH ty (.slice o n c) (some (.int kd a)) (some (nI n)) none w K=K (sliced o a n c k) w:=y1 (by
  rw[run_sliceAt_slice w ty _ _ _ _ hu,run_slice_lh w ty _ _ _ hu kd .i64 a n oM oM oM,Go.Vc.run_sizeOf hs];simp[Result.andThen])
 rw[b,d]
theorem kK0 (h:TmsR F w tv ts) {ty:TypeId} (f:elB ty 5=true) {a:Nat} (e:a<=ts.length):
  ∃v1,(∀(d:IntKind) (w':World) (K:oK),yH ty tv (some (.int d a)) none none w' K=K v1 w')/\TmsR F w v1 (ts.drop a):=by
 obtain⟨v1,g,i⟩:=h.mid f e (gy _);refine⟨v1,λd w' K=>?_,by rwa[gF (by simp)] at i⟩;obtain⟨css,b,j,_⟩:=h;obtain⟨o,c,rfl,k,_⟩:=b.shape;rw[j] at*;rw[slice_end f e oM];exact g d .i64 w' K
theorem push_old {n ty:Nat} {us:List M.Tm} (h:LstH (λx=>x<n) w v us) (b:∀x,v.ownBlock=some x->n<=x) (i:TermR (λx=>x<n) w uv t) (j:n<=w.heap.size) (d:us.length<=2000000)
  (g:∀w' v',Same (λx=>n<=x) w w'->LstH (λx=>x<n) w' v' (us++[t])->(∀x,v'.ownBlock=some x->n<=x)->K v' w'):
  vbuildS zk 1 [(0,uv)] w λs w1=>vbi .append [zk,zk] ty [v,s] w1 K:=
 LstH.push h (λx a=>⟨λe=>by have:=b x a;omega,λe=>by have:=b x a;omega⟩) i d λw' v' hw c f=>g w' v' (hw.mono λx _ a=>b x a) (f.weaken λx a _=>a.1.elim id id) λx a=>by
  rcases c x a with e|e
  .exact b x e
  .omega
theorem wpTrueB_spec (o:DclsR F w dv ds) (p:TmsR G w tv ts) (he:Ints H w ev env) (hs:ts.length<=1000) (r:∀t,t∈ts->M.tsort ds t=0) (g:M.envOk ds env=true)
  (j:∀w',Ext w w'->K (.bool (decide (M.allT ds env ts))) w'):vcall Ui #[dv,tv,ev] w K:=by
 refine ze {loops:=[(2,[7])]} Tryz.func49 ?_;refine vloop_up ts.length (λi u w'=>u=[nI i]/\Ext w w'/\M.allT ds env (ts.take i)) ⟨rfl,Same.refl _ _,by simp[M.allT]⟩ ?_;rintro i _ _ w1 C hi ⟨rfl,b,k⟩ n;have e:=p.ext b;simp only[push_cast,e.len];refine zb (λa=>?_) (λa=>?_)
 .have d:i<ts.length:=oM;simp(disch:=exact oS) only[push_cast,e.iaddr,gu];refine e.load zc d λx q=>?_;refine zj0 (o.ext b) q (he.ext b) λw2 f=>?_;have hm:=M.getD_mem d default;obtain⟨l,m⟩:=kJ0 g (r _ hm);rw[l,m];simp only[push_cast,GW];refine zb (λh=>?_) (λh=>?_)
  .have:=j w2 (b.trans f);rwa[gk (λc:M.allT ds env ts=>h (c _ hm))] at this
  .rw[inc64' oM];refine n d _ _ ⟨rfl,b.trans f,?_⟩;rw[<-XI d];exact M.allT_app.2 ⟨k,M.allT_one.2 (Gj h)⟩
 .have:=j w1 b;rwa[gl (by rwa[gF oM] at k)] at this
def Xc0 (ds:List M.Dcl) (ts:List M.Tm) (k:Int) (env:oI) (j:Int):Prop:=
 (k<=j/\M.envOk ds env=true/\M.rankE ds env=j/\M.allT ds env ts/\∀e,M.envOk ds e=true->M.allT ds e ts->k<=M.rankE ds e->j<=M.rankE ds e)\/
 (j= -1/\env=[]/\∀e,M.envOk ds e=true->M.allT ds e ts->M.rankE ds e<k)
theorem wpFirst_spec {k:Int} (r:DclsR F w dv ds) (E:TmsR G w tv ts) (hs:ts.length<=1000) (H:∀t,t∈ts->M.tsort ds t=0) (p:M.declOk ds=true) (J:0<=k)
  (A:∀w' ev env j,Ext w w'->Ints (λ_=>True) w' ev env->Xc0 ds ts k env j->K (.tuple #[ev,nI j]) w'):vcall Vz #[dv,tv,nI k] w K:=by
 refine ze {loops:=[(3,[9])]} Tryz.func19 ?_;refine EnvMany_spec r λw1 s=>?_;have hm:=manyE_le ds;have y:QQ ds=2^(M.bits ds).toNat:=by unfold QQ;rw[K3 p]
 refine qA (λn u w'=> ∃j:Int,u=[nI j]/\k<=j/\n=(QQ ds-j).toNat/\Ext w w'/\∀e,M.envOk ds e=true->M.allT ds e ts->k<=M.rankE ds e->j<=M.rankE ds e) _
  ⟨k,rfl,pr _,rfl,s,λe _ _ h=>h⟩ ?_
 rintro n _ _ w2 C ⟨j,rfl,x,rfl,g,z⟩ D;refine oZ ?_;refine zb (λa=>?_) (λa=>?_)
 .refine EnvAll_spec (r.ext g) p oM oM λL ev env v o _ b B=>?_;refine oZ ?_;have f:=g.trans v;refine wpTrueB_spec (r.ext f) (E.ext f) o.ints hs H b λI m=>?_;have l:=f.trans m;refine zb (λc=>?_) (λc=>?_)
  .exact A I ev env j l ((o.ints.ext m).weaken λ_ _ _=>trivial) (.inl ⟨x,b,B,c,λe d i q=>z e d i q⟩)
  .rw[zj oM oM];refine D (QQ ds-(j+1)).toNat _ _ oM ⟨j+1,rfl,oM,rfl,l,λe d i q=>?_⟩
   .have:=z e d i q;have:M.rankE ds e≠j:=λh=>c (by rw[M.rank_inj b d (by rw[B,h])];exact i);omega
 .refine A w2 _ [] (-1) g kY0 (.inr ⟨rfl,rfl,λe d i=>?_⟩);have:=jb0 d;have:=z e d i;omega
end
end Go.Proofs.YtfjlkobhagjdaaaGreatDoor
namespace Go.Vc
open Go
section
section
variable {w:World} {v:Value} {K:oK} {t ty:TypeId}
theorem qJ0 {z:Value} (h:z.cells= #[z]) (n:Nat):(Builtin.zeroCells z.cells n).toList=List.replicate n z:=by
 unfold Builtin.zeroCells;rw[h];refine gW (by simp) λi a b=>?_;simp[z0m]
theorem OwnV.clear {vs:List Value} {z:Value} (h:OwnV t w v vs) (N:elB t 1=true) (R:yg (P.elem t) z) (F:z.cells= #[z]) (E:z.oneCell'=true) {kd:IntKind} {i:Nat} (hi:i<=vs.length)
  (r:∀w',OwnV t w' (cutV v i) (vs.take i)->Same (λb=>v.ownBlock=some b) w w'->w'.heap.size=w.heap.size->K (.tuple #[]) w'):
  yH t v (some (.int kd i)) none none w λs w1=>vbi .clear [t] ty [s] w1 K:=by
 obtain⟨hu,hs⟩:=Zv N;have H:∀{o:Option Addr} {n c:Nat} (p:oK),i<=n->n<=c->yH t (.slice o n c) (some (.int kd i)) none none w p=p (sliced o i n c 1) w:=λ{o n c} p S T=>y1 (by
  rw[run_sliceAt_slice w t _ _ _ _ hu,run_slice_l w t _ _ _ hu kd i oM (by simp;omega),Go.Vc.run_sizeOf hs];simp[Result.andThen])
 have O:=λw' (h:OwnV t w' v vs)=>OwnV.taken h hi;rcases h.row.2 with⟨rfl,M⟩|⟨g,cap,cur,rfl,A,I,f,B,C,a⟩
 .rw[V0] at M;rw[H _ oM oM];refine⟨_,w,?_,r w (OwnV.taken h hi) (Same.refl _ _) rfl⟩;simp[biSem,Builtin.clear_,run_underlying hu,sliced]
 .rw[V0] at f;have hlen:(vs.map λx=>[x]).length=vs.length:=V0 _;rw[hlen];rw[H _ hi f];by_cases c:i=vs.length
  .subst c;refine⟨_,w,?_,r w ?_ (Same.refl _ _) rfl⟩
   .by_cases q:cap=vs.length<;>simp[biSem,Builtin.clear_,run_underlying hu,sliced,q]
   .have:=OwnV.taken h (gy _);rwa[hlen] at this
  .obtain⟨m,hm⟩:∃m,vs.length-i=m+1:=⟨vs.length-i-1,oM⟩;have J:cur.size=cap:=(by simpa using C);have l:=run_storeCells_at (P:=P) g i (Yo t) (List.replicate (m+1) z) 0 cur w I (by simp;omega) (λu hu=>by rw[pk hu];exact E);have D:sliced (some ⟨g,0,none⟩) i vs.length cap 1= .slice (some ⟨g,i,none⟩) (m+1) (cap-i):=by
    unfold sliced;rw[hm];simp only[z0i];rw[X0 oM];simp[ym]
   rw[D];refine⟨_,_,?_,r (w.setRow g (cur.toList.take (i+0)++List.replicate (m+1) z++cur.toList.drop (i+0+(List.replicate (m+1) z).length)).toArray) ?_ ⟨rfl,rfl,rfl,by simp[World.setRow],λk _ L=>setRow_other w g k _ λe=>L (by rw[e];rfl)⟩ (by simp[World.setRow])⟩
   .have G:=qJ0 F (m+1);simp[biSem,Builtin.clear_,run_underlying hu,Zd R,G,l,Result.andThen]
   .have j:OwnV t (w.setRow g (cur.toList.take (i+0)++List.replicate (m+1) z++cur.toList.drop (i+0+(List.replicate (m+1) z).length)).toArray) (.slice (some ⟨g,0,none⟩) vs.length cap) (vs.take i++List.replicate (m+1) z):=by
     have d:(vs.take i++List.replicate (m+1) z).length=vs.length:=by simp;omega
     rw[flat1] at a;rw[V0] at a;refine⟨⟨by rw[flat1,V0,pB],.inr ⟨g,cap,_,by rw[V0,d],A,setRow_heap w g cur _ _ _ I,by rw[V0,d];exact f,B,?_,?_⟩⟩,λy Q=>by obtain⟨u,_,rfl⟩:=gz.1 Q;rfl⟩
     .simp;omega
     .rw[flat1,V0,d];simp only[pB] at a⊢;rw[<-a];simp[G7];rw[Gy oM,Gy hi,<-gY];exact List.take_left' (by simp;omega)
    have:=OwnV.taken j (n:=i) (by simp;omega);rw[G1 (by simp;omega),G7,Nat.min_self] at this;exact this
end
end
end Go.Vc
namespace Go.Proofs.YtfjlkobhagjdaaaGreatDoor
open Go Go.Vc Go.Proofs
section
variable {w w':World} {K:oK} {F F' D G H:oA} {n b k:Nat} {v lv tv f:Value} {xs:oI} {l:List Nat} {ts:List M.Tm} {ds:List M.Dcl}
theorem Xw {p:Int->Bool} {i:Nat} (h:i<xs.length):(xs.take (i+1)).filter p=(xs.take i).filter p++if p (xs.getD i 0) then[xs.getD i 0] else[]:=by
 rw[M.take_add h 0,pU];congr 1;cases a:p (xs.getD i 0)
 .rw[List.filter_cons_of_neg (by rw[a];decide),X0 dC];rfl
 .rw[List.filter_cons_of_pos a,K3 rfl];rfl
theorem ints_but {k:Nat}:((l.map Int.ofNat).filter λx=>decide (x≠(k:Int)))=(l.filter λx=>decide (x≠k)).map Int.ofNat:=by
 rw[List.filter_map];congr 1;refine List.filter_congr λx _=>?_;simp only[Function.comp,Int.ofNat_eq_natCast,decide_eq_decide];omega
theorem zB0 {i:Nat} (h:i<l.length):xR ts (l.take (i+1))=xR ts (l.take i)++[ts.getD (l.getD i 0) default]:=by
 unfold xR;rw[M.take_add h 0,gD];rfl
theorem l9But_spec {k:Int} (B:Ints F w lv xs) (hs:xs.length<=100000) (A:∀w' r,Ext w w'->OwnI zf w' r (xs.filter λx=>decide (x≠k))->(∀x,r.ownBlock=some x->w.heap.size<=x)->K r w'):vcall zF0 #[lv,nI k] w K:=by
 refine ze {loops:=[(3,[5,6])]} Tryz.func54 ?_;refine spec_nil λv1 w1 s m o=>?_;refine vloop_up xs.length (λi u w'=> ∃r,u=[r,nI i]/\Ext w w'/\OwnI zf w' r ((xs.take i).filter λx=>decide (x≠k))/\∀x,r.ownBlock=some x->w.heap.size<=x) ⟨v1,rfl,m,by simpa using s,o⟩ ?_;rintro i _ _ E C hi ⟨r,rfl,j,f,d⟩ z;have h:=B.ext j;simp only[push_cast,h.len];refine zb (λa=>?_) (λa=>?_)
 .have g:i<xs.length:=oM;have z3:=j.size;have b:=Xw (p:=λx=>decide (x≠k)) g;simp(disch:=exact oS) only[push_cast,h.iaddr,gu,h.load];refine zb (λc=>?_) (λc=>?_)
  .rw[K3 (gl c)] at b;refine push_int f (by have:=List.length_filter_le (λx=>decide (x≠k)) (xs.take i);rw[gi] at this;omega) λG D t l q=>?_
   try simp only[push_cast]
   rw[inc64' oM];rw[<-b] at l;refine z g _ _ ⟨D,rfl,Ext.then j t λy v=>d y v,l,λy v=>?_⟩;rcases q y v with e|e
   .exact d y e
   .omega
  .rw[X0 (by simpa using c),gI] at b;rw[inc64' oM];exact z g _ _ ⟨r,rfl,j,by rw[b];exact f,d⟩
 .have n:i=xs.length:=oM;subst n;rw[gG] at f;exact A E r j f d
theorem l9Pick_spec (D:TmsR G w tv ts) (j:Ints F w lv (l.map Int.ofNat)) (B:∀x,x∈l->x<ts.length) (hs:l.length<=100000) (L:ts.length<=2000000) (v:∀w' r,Ext w w'->TmsR (λ_=>True) w' r (xR ts l)->K r w'):vcall WH #[tv,lv] w K:=by
 refine ze {loops:=[(3,[5,6])]} Tryz.func56 ?_;refine y6 yW xq λb1 I z m E k=>?_;have s:LstH (λx=>x<w.heap.size) I (.slice (some ⟨b1,0,none⟩) 0 0) []:=⟨[],Blk.ownk (css:=[]) (by rw[qm];exact k) (by simp) rfl dC,rfl,λi hi=>absurd hi (PQ _)⟩;have p:=D.weaken (F':=λx=>x<w.heap.size) λx _ h=>h;refine vloop_up l.length (λi u w'=> ∃r,u=[r,nI i]/\Ext w w'/\LstH (λx=>x<w.heap.size) w' r (xR ts (l.take i))/\∀x,r.ownBlock=some x->w.heap.size<=x)
  ⟨_,rfl,m,s,λx j=>by have e:b1=x:=gh j;omega⟩ ?_
 rintro i _ _ J C hi ⟨r,rfl,b,d,hO⟩ t;have g:=p.ext b;have f:=j.ext b;have Q:=b.size;simp only[push_cast,f.len,V0];refine zb (λa=>?_) (λa=>?_)
 .have c:i<l.length:=oM;have hm:=B _ (M.getD_mem c 0);have A:(l.map Int.ofNat).getD i 0=((l.getD i 0:Nat):Int):=by
   rw[q0,Gq,q0,gj c];rfl
  simp(disch:=first|(simp only[push_cast])|(simp only[V0];omega)|omega) only[push_cast,f.iaddr,gu,f.load,A,g.iaddr];refine g.load zc hm λx j=>?_;refine push_old d hO (j.weaken λy N _=>oM) oM (by unfold xR;rw[V0,gi];omega) λO H q n o=>?_
  try simp only[push_cast]
  rw[inc64' oM];refine t c _ _ ⟨H,rfl,Ext.then b q λ_ h=>h,?_,o⟩;rw[zB0 c];exact n
 .rw[gF oM] at d;exact v J r b (d.tms.weaken λ_ _ _=>trivial)
def VL (ds:List M.Dcl) (ts:List M.Tm) (i:Nat):List Nat:=coreA ds ts i++List.range' i (ts.length-i)
def Zn (ds:List M.Dcl) (ts:List M.Tm) (i:Nat):List Nat:=coreA ds ts i++List.range' (i+1) (ts.length-(i+1))
theorem yo0 {i:Nat} (hi:i<ts.length):(VL ds ts i).filter (λx=>decide (x≠i))=Zn ds ts i:=core_less hi
theorem xE0:VL ds ts ts.length=coreA ds ts ts.length:=by unfold VL;simp
theorem yn0 {i:Nat} (hi:i<ts.length):VL ds ts (i+1)=if(yI ds (xR ts (Zn ds ts i)) []).2=2 then Zn ds ts i else VL ds ts i:=by
 unfold VL Zn;rw[Yr];split
 .rfl
 .rw[range_cons hi,gY];rfl
theorem less_lt {i x:Nat} (hi:i<ts.length) (h:x∈Zn ds ts i):x<ts.length:=by
 rcases gr.1 h with h|h
 .have:=coreA_lt h;omega
 .rw[pZ] at h;omega
theorem kept_len {i:Nat} (hi:i<=ts.length):(VL ds ts i).length<=ts.length:=by
 have:=coreA_len ds ts i;unfold VL;rw[gd,Pn];omega
theorem less_len {i:Nat} (hi:i<ts.length):(Zn ds ts i).length<=ts.length:=by
 have:=coreA_len ds ts i;unfold Zn;rw[gd,Pn];omega
theorem Wh {i:Nat}:(List.range' 0 i).map Int.ofNat++[(i:Int)]=(List.range' 0 (i+1)).map Int.ofNat:=by
 rw[List.range'_1_concat,gD];simp
end
section
variable {w w':World} {K:oK} {F F' D G H S:oA} {n b k:Nat} {v lv tv dv f:Value} {xs:oI} {l:List Nat} {ts:List M.Tm} {ds:List M.Dcl} {ar ab at_ an am:Addr}
theorem spec_SolveCore_spec (Z:zl0 ds) (Y:DclsR F w dv ds) (J:TmsR G w tv ts)
  (X:∀w' ev,Ext w w'->OwnI zf w' ev (Qi ds ts).1->(∀x,ev.ownBlock=some x->w.heap.size<=x)->K (.tuple #[ev,nI (Qi ds ts).2]) w'):vcall Js #[dv,tv] w K:=by
 refine ze {loops:=[(6,[8,9]),(10,[8,10])]} Tryz.func21 ?_;refine spec_Solve_spec Z Y J λw1 ev g _ _=>?_;have z1:=g.size;refine oZ ?_;refine zb (λc=>?_) (λc=>?_)
 .refine spec_nil λv2 w2 o h m=>?_;have:=X w2 v2 (g.trans h);unfold Qi at this;rw[X0 c] at this;exact this o λx f=>by have:=m x f;omega
 .have c2:(yI ds ts []).2=2:=GU.1 c;have W:=Zb (ds:=ds) (ts:=ts) oM;have a2:=(all8_iff.1 W).1;refine spec_nil λv2 w2 o h m=>?_;have e2:=g.trans h;refine vloop_up ts.length (λi u w'=> ∃r,u=[r,nI i]/\Ext w w'/\OwnI zf w' r ((List.range' 0 i).map Int.ofNat)/\∀x,r.ownBlock=some x->w.heap.size<=x) ⟨v2,rfl,e2,o,λx f=>by have:=m x f;omega⟩ ?_;rintro i _ _ w3 C hi ⟨r,rfl,D,A,n⟩ H;have S:=J.ext D;have z3:=D.size;simp only[push_cast,S.len];refine zb (λa=>?_) (λa=>?_)
  .have b:i<ts.length:=oM;refine push_int A (by rw[V0,Pn];omega) λw6 r6 R B O=>?_
   try simp only[push_cast]
   rw[inc64' oM];rw[Wh] at B;refine H b _ _ ⟨r6,rfl,Ext.then D R λy U=>n y U,B,λy U=>?_⟩;rcases O y U with e|e
   .exact n y e
   .omega
  .have l:i=ts.length:=oM;subst l;refine vloop_up ts.length (λi u w'=> ∃r,u=[r,nI i]/\Ext w w'/\OwnI zf w' r ((VL ds ts i).map Int.ofNat)/\∀x,r.ownBlock=some x->w.heap.size<=x) ⟨r,rfl,D,A,n⟩ ?_;rintro i _ _ w4 C hi ⟨r4,rfl,E,d,z⟩ H;have T:=J.ext E;have z4:=E.size;simp only[push_cast,T.len];refine zb (λa=>?_) (λa=>?_)
   .have b:i<ts.length:=oM;have a1:=kept_len (ds:=ds) (ts:=ts) (i:=i) oM;refine l9But_spec (k:=i) d.ints (by rw[V0];omega) λw5 r5 t p N=>?_;rw[ints_but,yo0 b] at p;have V:=E.trans t;have M:=less_len (ds:=ds) (ts:=ts) b;refine l9Pick_spec (J.ext V) p.ints (λx f=>less_lt b f) oM oM λw6 r6 v Q=>?_;have L:=V.trans v;refine l9Solve_spec Z (core_all8 W (λx f=>less_lt b f) M) (Y.ext L) Q λw7 a0 j _ _=>?_;have s:=v.trans j;refine oZ ?_;have I:=yn0 (ds:=ds) (ts:=ts) b;refine zb (λq=>?_) (λq=>?_)
    .rw[K3 q] at I;rw[inc64' oM];refine H b _ _ ⟨r5,rfl,L.trans j,by rw[I];exact p.ext s,λx f=>by have:=N x f;omega⟩
    .rw[X0 q] at I;rw[inc64' oM];exact H b _ _ ⟨r4,rfl,L.trans j,by rw[I];exact d.ext (t.trans s),z⟩
   .have l:i=ts.length:=oM;subst l;rw[xE0] at d;have:=X w4 r4 E;unfold Qi at this;rw[K3 c2] at this;exact this d z
theorem qd0 {n:Nat} {p:Nat->Bool}:(idxI n p= -1/\∀j,j<n->p j=false)\/ ∃i,idxI n p=((i:Nat):Int)/\i<n/\p i=true/\∀j,j<i->p j=false:=by
 unfold idxI;cases h:(List.range n).find? p with
 |none=>
  rw[pS] at h;exact .inl ⟨rfl,λj a=>by have:=h j (gK.2 a);simpa using this⟩
 |some i=>
  rw[List.find?_range_eq_some] at h;obtain⟨b,c,d⟩:=h;exact .inr ⟨i,rfl,gK.1 c,b,λj a=>by have:=d j a;simpa using this⟩
theorem DeleteFunc_Lint {p:Int->Bool} (h:OwnI zf w v xs) (hs:xs.length<=100000) (U:∀w',Same (λx=>v.ownBlock=some x) w w'->∀y,FnB w' f #[nI y] (p y))
  (T:∀w' v',OwnI zf w' v' (xs.filter λx=> !p x)->Same (λx=>v.ownBlock=some x) w w'->v'.ownBlock=v.ownBlock->K v' w'):vcall jI #[v,f] w K:=by
 refine ze {loops:=[(5,[5,6])]} Tryz.func57 ?_;have Y:∀i,i<(xs.map λx=>nI x).length->(xs.map λx=>nI x).getD i undef= nI (xs.getD i 0):=λi hi=>by
  rw[V0] at hi;rw[q0,Gq,gj hi,q0,gj hi];rfl
 refine IndexFunc_Lint_int (vs:=xs.map λx=> nI x) (p:=λi=>p (xs.getD i 0)) h.ints (λi hi=>by rw[Y i hi];exact U w (Same.refl _ _) _) λw1 B=>?_;rw[V0];have E:Same (λx=>v.ownBlock=some x) w w1:=Same.of_ext B;have X:=h.ext B;rcases qd0 (n:=xs.length) (p:=λi=>p (xs.getD i 0)) with⟨e,H⟩|⟨i0,e,G,L,H⟩
 .rw[e];refine oZ ?_;refine zb (λ_=>?_) (λc=>absurd trivial c);refine T w1 v ?_ E rfl;rwa[Pj.2 λx Q=>by
   obtain⟨j,D,rfl⟩:=gx Q;have:=H j D;simp only[q0,gj D,Gr] at this;rw[this];rfl]
 .rw[e];refine oZ ?_;refine zb (λc=>oM) (λ_=>?_);rw[inc64' oM];refine vloop_up (xs.length-(i0+1)) (λm u w'=> ∃(i:Nat) (ys:oI),u=[nI i,nI ((i0+1+m:Nat):Int)]/\Same (λx=>v.ownBlock=some x) w w'/\OwnI zf w' v ys/\ys.length=xs.length/\i<i0+1+m/\
   ys.take i=(xs.take (i0+1+m)).filter (λx=> !p x)/\ys.drop (i0+1+m)=xs.drop (i0+1+m)) ⟨i0,xs,rfl,E,X,rfl,oM,?_,rfl⟩ ?_
  .rw[G3,Xw G,X0 (by rw[L];decide),gI];exact(Pj.2 λx Q=>by
    obtain⟨j,D,rfl⟩:=gx Q;rw[gi] at D;have:=H j oM;simp only[q0,gj (show j<xs.length by omega),Gr] at this;rw[Pw,this];rfl).symm
  rintro m _ _ V C hm ⟨i,ys,rfl,k,b,F,a0,l,A⟩ S;generalize D:i0+1+m=j at*;have s:=b.ints;simp only[push_cast,s.len];refine zb (λa=>?_) (λa=>?_)
  .have t:j<xs.length:=oM;have hy:ys.getD j 0=xs.getD j 0:=by
    have R:(ys.drop j)[0]?=(xs.drop j)[0]?:=(by rw[A]);rw[G5,G5] at R;rw[q0,q0];simpa using congrArg (λo=>Option.getD o 0) R
   have g:=Xw (p:=λx=> !p x) t;simp(disch:=exact oS) only[push_cast,s.iaddr,gu,s.load,hy];refine U V k _ V _ (Same.refl _ _) λW d=>?_;refine oZ ?_;have Z:=(b.ext d).ints;have r:ys.drop (j+1)=xs.drop (j+1):=by
    rw[<-Ps,<-Ps,A]
   refine zm (λq=>?_) (λq=>?_)
   .rw[K3 q] at g;refine OwnI.st (b.ext d) yG (i:=i) oM λw5 J O a2=>?_;rw[inc64' oM,inc64' oM];refine S oM _ _ ⟨i+1,ys.set i (xs.getD j 0),by rw[show i0+1+(m+1)=j+1 by omega],k.trans ((Same.of_ext d).trans O),J,by rw[GQ];exact F,oM,?_,?_⟩
    .rw[show i0+1+(m+1)=j+1 by omega,g,<-l,M.take_add (by rw[GQ];omega) 0,List.take_set_of_le (gy _),getD_set oM,K3 rfl]
    .rw[show i0+1+(m+1)=j+1 by omega,List.drop_set_of_lt oM,r]
   .rw[X0 (by rw[q];decide),gI] at g;rw[inc64' oM];exact S oM _ _ ⟨i,ys,by rw[show i0+1+(m+1)=j+1 by omega],k.trans (Same.of_ext d),b.ext d,F,oM,by rw[show i0+1+(m+1)=j+1 by omega,g];exact l,by rw[show i0+1+(m+1)=j+1 by omega];exact r⟩
  .have t:j=xs.length:=oM;refine OwnV.clear (vs:=ys.map λx=> nI x) b Yc (z:= nI 0) (by unfold yg;kernel_rfl) rfl rfl (i:=i) (by rw[V0];omega) λW I N a1=>?_;rw[OwnI.cut b Yc (n:=i) oM];refine T W (cutV v i) ?_ (k.trans N) (xD v i);rw[t,gG] at l;rw[<-l];unfold OwnI;rw[GD];exact I
theorem JK {x k:Int} {e:TypeId} (c:Blk w b [nI k] e) (a:K (.bool (decide (x=k))) w):vcall Q0 #[nI x,oP b 0] w K:=by
 refine ze {} Tryz.func59 ?_;simp only[push_cast,c.ld0];exact a
theorem YR0 {k:Int}:(λx:Int=> !decide (x=k))=λx=>decide (x≠k):=funext λx=>(decide_not).symm
theorem SolveCore_spec (hd:DclsR F w dv ds) (Z:TmsR G w tv ts) (hs:ts.length<=2000000) (er:Er w at_ an am ar ab)
  (hK:∀w' ev,Ext w w'->OwnI zf w' ev (Qi ds ts).1->(∀x,ev.ownBlock=some x->w.heap.size<=x)->K (.tuple #[ev,nI (Qi ds ts).2]) w'):vcall Jz #[dv,tv] w K:=by
 refine ze {loops:=[(6,[8,28]),(11,[8,38]),(16,[12,47])]} Tryz.func22 ?_;refine Ys hd Z hs er λw1 ev j _ _=>?_;have z1:=j.size;refine oZ ?_;refine zb (λc=>?_) (λc=>?_)
 .have:=hK w1 (oN) j;unfold Qi at this;rw[X0 c] at this;exact this OwnI.nil λx d=>by cases d
 .have c2:(yI ds ts []).2=2:=GU.1 c;have h8:=Zb (ds:=ds) (ts:=ts) oM;have ak:=(all8_iff.1 h8).1;have ad:=Z.weaken (F':=λx=>x<w.heap.size) λx _ h=>h;simp only[push_cast,(Z.ext j).len];refine vloop_up ts.length (λi u w'=> ∃r,u=[r,nI i]/\Ext w w'/\OwnI zf w' r ((List.range' 0 i).map Int.ofNat)/\∀x,r.ownBlock=some x->w.heap.size<=x) ⟨_,rfl,j,OwnI.nil,λx d=>by cases d⟩ ?_;rintro i _ _ w3 C hi ⟨r,rfl,V,R,B⟩ X;have ae:=Z.ext V;have z3:=V.size;refine oZ ?_;refine zb (λa=>?_) (λa=>?_)
  .have b:i<ts.length:=oM;refine push_int R (by rw[V0,Pn];omega) λw6 r6 ac S a8=>?_
   try simp only[push_cast]
   rw[inc64' oM];rw[Wh] at S;refine X b _ _ ⟨r6,rfl,Ext.then V ac λy s=>B y s,S,λy s=>?_⟩;rcases a8 y s with e|e
   .exact B y e
   .omega
  .have z:i=ts.length:=oM;subst z
   try simp only[push_cast,ae.len]
   refine vloop_up ts.length (λi u w'=> ∃r,u=[r,nI i]/\Ext w w'/\OwnI zf w' r ((VL ds ts i).map Int.ofNat)/\∀x,r.ownBlock=some x->w.heap.size<=x) ⟨r,rfl,V,R,B⟩ ?_;rintro i _ _ w4 C hi ⟨r4,rfl,e4,g,Q⟩ X;have z4:=e4.size;refine oZ ?_;refine zb (λa=>?_) (λa=>?_)
   .have b:i<ts.length:=oM;have aj:=kept_len (ds:=ds) (ts:=ts) (i:=i) oM;have al:=less_len (ds:=ds) (ts:=ts) b;refine xw xn λb5 w5 ai I ao a0=>?_;refine Blk.st (i:=0) a0 rfl rfl yG rfl λw6 af ap a1=>?_;have z5:=I.size;have W:Ext w4 w6:=Ext.then I af λy s=>by subst s;omega
    refine Clone_Lint (g.ext W).ints (by rw[V0];omega) λw7 r7 k aa l=>?_;have e7:=e4.trans (W.trans k);have a2:=a1.ext k
    try simp only[push_cast]
    refine DeleteFunc_Lint (p:=λx=>decide (x=(i:Int))) aa (by rw[V0];omega) (λE o y w9 K9 a7 a5=>?_) λE r8 D o a6=>?_
    .have a3:=(a2.same o λe=>by have:=l _ e;omega).ext a7
     try simp only[push_cast]
     exact JK a3 (a5 _ (Same.refl _ _))
    have z6:=W.size;have z7:=k.size;have e8:Ext w E:=Ext.then e7 o λy s=>by have:=l y s;omega
    rw[YR0,ints_but,yo0 b] at D;have a9:∀x,r8.ownBlock=some x->w.heap.size<=x:=λx d=>by rw[a6] at d;have:=l x d;omega
    have J:=D.ints;simp only[push_cast,J.len,V0];refine vloop_up (Zn ds ts i).length (λq u w'=> ∃lv,u=[lv,nI q]/\Ext E w'/\LstH (λx=>x<E.heap.size) w' lv (xR ts ((Zn ds ts i).take q))/\∀x,lv.ownBlock=some x->E.heap.size<=x)
     ⟨_,rfl,Same.refl _ _,LstH.nil,λx d=>by cases d⟩ ?_
    rintro q _ _ w9 C2 hq ⟨lv,rfl,v,A,hO⟩ a4;have T:=(ad.ext e8).ext v;have L:=J.ext v;have z8:=e8.size;have z9:=v.size;refine oZ ?_;refine zb (λa=>?_) (λa=>?_)
    .have m:q<(Zn ds ts i).length:=oM;have hm:=less_lt b (M.getD_mem m 0);have hg:((Zn ds ts i).map Int.ofNat).getD q 0=(((Zn ds ts i).getD q 0:Nat):Int):=by
      rw[q0,Gq,q0,gj m];rfl
     simp(disch:=first|(simp only[push_cast])|(simp only[V0];omega)|omega) only[push_cast,L.iaddr,gu,L.load,hg,T.iaddr];refine T.load zc hm λx d=>?_;refine push_old (n:=E.heap.size) A hO (d.weaken λy s _=>oM) oM (by unfold xR;rw[V0,gi];omega) λw10 ag U N O=>?_
     try simp only[push_cast]
     rw[inc64' oM];refine a4 m _ _ ⟨ag,rfl,Ext.then v U λ_ h=>h,?_,O⟩;rw[zB0 m];exact N
    .rw[gF oM] at A;have t:=e8.trans v;refine Ys (hd.ext t) A.tms (by unfold xR;rw[V0];omega) (er.ext t) λw10 ah f _ _=>?_;have H:=t.trans f;refine oZ ?_;have Y:=yn0 (ds:=ds) (ts:=ts) b;refine zb (λq=>?_) (λq=>?_)
     .rw[K3 q] at Y;rw[inc64' oM];exact X b _ _ ⟨r8,rfl,H,by rw[Y];exact D.ext (v.trans f),a9⟩
     .rw[X0 q] at Y;rw[inc64' oM];exact X b _ _ ⟨r4,rfl,H,by rw[Y];exact((((g.ext W).ext k).same o λx d e=>by have:=g.lt d;have:=l x e;omega).ext (v.trans f)),Q⟩
   .have z:i=ts.length:=oM;subst z;rw[xE0] at g;have:=hK w4 r4 e4;unfold Qi at this;rw[K3 c2] at this;exact this g Q
end
section
set_option maxRecDepth 4000
variable {w w1 wk wl:World} {K:oK} {D F G H H2:oA} {b p n:Nat} {dv uv v lv lv0:Value} {ds:List M.Dcl} {ts ts0:List M.Tm} {t:M.Tm} {xs:List Nat}
structure ClS (w w1:World) (b:Nat) (v dv lv0:Value) (xs:List Nat) (F:oA) (ds:List M.Dcl) (wk:World) (p:Nat) (lv:Value) (ts:List M.Tm) (H:oA):Prop where
 same:Same (· =b) w wk
 lo:b<w.heap.size
 size:w.heap.size<=w1.heap.size/\w1.heap.size<=wk.heap.size
 fix:∀x,F x->x<w.heap.size
 rd:RdR F wk b v xs p
 dec:DclsR (λx=>w.heap.size<=x/\x<w1.heap.size/\lv0.ownBlock≠some x) wk dv ds
 lst:LstH H wk lv ts
 hH:∀x,H x->w.heap.size<=x/\x<wk.heap.size
 own:∀x,lv.ownBlock=some x->w.heap.size<=x/\¬H x/\(lv0.ownBlock=some x\/w1.heap.size<=x)
theorem ClS.ext (h:ClS w w1 b v dv lv0 xs F ds wk p lv ts H) (he:Ext wk wl):ClS w w1 b v dv lv0 xs F ds wl p lv ts H:=by
 have z:=he.size;have z2:=h.size;exact⟨h.same.trans (Same.of_ext he),h.lo,⟨z2.1,oM⟩,h.fix,h.rd.ext he,h.dec.ext he,h.lst.ext he,λx a=>by have:=h.hH x a;omega,h.own⟩
theorem ClS.pick {c:Nat} (h:ClS w w1 b v dv lv0 xs F ds wk p lv ts H) (hs:Same (· =b) wk wl) (d:RdR F wl b v xs c):ClS w w1 b v dv lv0 xs F ds wl c lv ts H:=by
 have z:=hs.size;have z2:=h.size;have lb:=h.lo;exact⟨h.same.trans hs,h.lo,⟨z2.1,oM⟩,h.fix,d,h.dec.same hs λx a _ e=>oM,h.lst.same hs (λx a e=>by have:=(h.own x a).1;omega) λx a _ e=>by have:=(h.hH x a).1;omega,λx a=>by have:=h.hH x a;omega,h.own⟩
theorem ClS.push {K:oK} {ty:Nat} (h:ClS w w1 b v dv lv0 xs F ds wk p lv ts H) (j:TermR H2 wk uv t) (d:∀x,H2 x->w.heap.size<=x/\x<wk.heap.size/\lv.ownBlock≠some x) (k:ts.length<=1000)
  (i:∀wl c,Same (λx=>lv.ownBlock=some x) wk wl->(∀x,c.ownBlock=some x->lv.ownBlock=some x\/wk.heap.size<=x)->ClS w w1 b v dv lv0 xs F ds wl p c (ts++[t]) (λx=>(H x\/H2 x)/\x<wk.heap.size)->K c wl):
  vbuildS zk 1 [(0,uv)] wk λs w1=>vbi .append [zk,zk] ty [lv,s] w1 K:=by
 have lb:=h.lo;have z2:=h.size;refine LstH.push h.lst (λx a=>⟨(h.own x a).2.1,λe=>(d x e).2.2 a⟩) j oM λwl c hs g f=>?_;have z:=hs.size;refine i wl c hs g ⟨same_news h.same (hs.mono λx _ a=>(h.own x a).1),h.lo,⟨z2.1,oM⟩,h.fix,h.rd.same hs (λe=>by have:=(h.own _ e).1;omega) (λx a _ e=>by have:=h.fix x a;have:=(h.own _ e).1;omega),
  h.dec.same hs (λx a _ e=>?_),f,λx a=>?_,λx a=>?_⟩
 .rcases(h.own x e).2.2 with q|q
  .exact a.2.2 q
  .omega
 .rcases a.1 with q|q
  .have:=h.hH x q;omega
  .have:=d x q;omega
 .rcases g x a with q|q
  .refine⟨(h.own x q).1,λe=>?_,(h.own x q).2.2⟩;rcases e.1 with e|e
   .exact(h.own x q).2.1 e
   .exact(d x e).2.2 q
  .exact⟨oM,λe=>by have:=e.2;omega,.inr oM⟩
theorem l9Clash_spec (h:RdR F w b v xs p) (hF:∀x,F x->x<w.heap.size) (hp:p+4000000<1099511627776)
  (hK:∀w' dv lv ds ts,Same (· =b) w w'->DclsR (λx=>w.heap.size<=x) w' dv ds->Dsn 9 ds->TmsR (λx=>w.heap.size<=x) w' lv ts->ts.length<=9->K (.tuple #[dv,lv]) w'):vcall Vk #[oP b 0] w K:=by
 refine ze {loops:=[(5,[5,6])],cuts:=[(12292,[]),(24583,[]),(40972,[5])]} Tryz.func61 ?_;have lb:=h.blk.lt;refine l8List_own h hF oM λw1 p1 dv lv0 ds ts0 n af av br hn b0 N b5 hlen=>?_;refine oZ ?_;have z1:=af.size;obtain⟨a0,b7,b4,ae,b1⟩:=b5;have Y:ClS w w1 b v dv lv0 xs F ds w1 p1 lv0 ts0 (Gl n w1 lv0):=
  ⟨af,lb,⟨z1,gy _⟩,hF,av,b0.weaken λx d hl=>⟨d.1,hl,d.2⟩,⟨a0,b7,b4,b1⟩,λx d=>⟨gO hn d.1,d.2.1⟩,λx d=>⟨gO hn (ae x d),λe=>e.2.2 d,.inl d⟩⟩
 have out:∀{wk:World} {p:Nat} {lv:Value} {ts:List M.Tm} {H:oA},ClS w w1 b v dv lv0 xs F ds wk p lv ts H->ts.length<=9->K (.tuple #[dv,lv]) wk:=λ{wk p lv ts H} st hl=>
  hK wk dv lv ds ts st.same (st.dec.weaken λx d _=>d.1) N (st.lst.tms.weaken λx d _=>d.elim (λq=>(st.hH x q).1) λq=>(st.own x q).1) hl
 refine zo (λu w'=>u=[]/\Ext w1 w'/\M.declOk ds=true/\0<ds.length/\0<ts0.length) (λC hC=>?_) ?_
 .refine spec_DeclOk_spec Y.dec (dsn_sized N) λw2 L=>?_;have st2:=Y.ext L;refine oZ ?_;refine zm (λa=>out st2 hlen) (λa=>?_);have R:M.declOk ds=true:=(by simpa using a);simp only[push_cast,st2.dec.len,st2.lst.tms.len];refine zb (λ_=>out st2 hlen) (λc=>?_);exact zb (λ_=>out st2 hlen) (λc2=>hC _ _ ⟨rfl,L,R,oM,oM⟩)
 rintro _ _ w2 ⟨rfl,L,R,bo,bc⟩;have st2:=Y.ext L;refine pick_spec st2.rd oM oM λw3 k ba bt aw b2 _=>?_;have bd:=st2.pick ba aw;have bp:(k:Int)<3:=b2 oM;refine vloop_up k (λj u w'=> ∃lv ts p' H,u=[lv,nI ((k-j:Nat):Int)]/\ClS w w1 b v dv lv0 xs F ds w' p' lv ts H/\p'<=p+3000010+100*j/\0<ts.length/\ts.length<=9) ⟨lv0,ts0,_,_,rfl,bd,oM,bc,hlen⟩ ?_;rintro j _ _ w4 C hj ⟨lv,ts,p4,H,rfl,st,bs,h0,h9⟩ hC;refine zo (λu w'=>u=[]/\w'=w4/\j<k/\ts.length<7) (λJ hJ=>?_) ?_
 .simp only[push_cast,st.lst.tms.len];refine zb (λa=>?_) (λ_=>out st h9);exact zb (λa2=>hJ _ _ ⟨rfl,rfl,oM,oM⟩) (λ_=>out st h9)
 rintro _ _ w4 ⟨rfl,rfl,a7,h7⟩;simp only[push_cast,st.lst.tms.len];refine pick_spec st.rd oM oM λw5 q bb bu ax hq _=>?_;have f:=st.pick bb ax;have b9:q<ts.length:=by have:=hq oM;omega
 obtain⟨css,ho,bn,az⟩:=f.lst;simp(disch:=exact oS) only[push_cast,ho.sl.iaddr,gu];rw[ho.sl.ldAgg (t:=za) zc (i:=q) oM];refine Uz (az q b9).term λw6 a6 a5 bv b3=>?_;refine oZ ?_;have ac:=TmR.of (t:= .mk 25 0 0 M.nada [ts.getD q default]) b3;refine zi zp λb8 w7 bm V bw h8=>?_;have z6:=a5.size;refine stTerm h8 rfl (ac.ext V) λw8 ah bx au=>?_;have a1:Ext w5 w8:=Ext.then (a5.trans V) ah λx d=>by subst d;omega
 have ao:=f.ext a1;have z58:=a1.size;have ad:=((ac.ext V).same ah λx d _ e=>by
  rcases d with d|d
  .have:=f.hH x d;omega
  .omega)
 have z5:=f.size;have X:∀x,lv.ownBlock=some x->x<w5.heap.size:=λx d=>f.lst.lt d;refine zo (λu w'=> ∃E I p' H',u=[E]/\ClS w w1 b v dv lv0 xs F ds w' p' E I H'/\p'<=p4+10/\0<I.length/\I.length<=ts.length+1/\
   Blk w' b8 [nI 25,nI 0,nI 0,.string ⟨#[]⟩,.slice a6 1 1] za/\TmR (λx=>H x\/x=w5.heap.size) w' [nI 25,nI 0,nI 0,.string ⟨#[]⟩,.slice a6 1 1] (.mk 25 0 0 M.nada [ts.getD q default])/\
   (∀x,E.ownBlock=some x->¬(H x\/x=w5.heap.size))/\w8.heap.size<=w'.heap.size) (λJ hJ=>?_) ?_
 .refine pick_spec ao.rd oM oM λw9 k9 W bz ay _ _=>?_;have y:=ao.pick W ay;have lo:=y.lo;have a3:=au.same W oM;have T:=ad.same W λx d _ e=>by
   rcases d with d|d
   .have:=f.hH x d;omega
   .omega
  have ownN:∀x,lv.ownBlock=some x->¬(H x\/x=w5.heap.size):=λx d e=>by
   rcases e with e|e
   .exact(f.own x d).2.1 e
   .have:=X x d;omega
  refine oZ ?_;refine zb (λ_=>?_) (λ_=>hJ _ _ ⟨lv,ts,_,H,rfl,y,oM,h0,oM,a3,T,ownN,oM⟩);simp only[push_cast,y.dec.len];refine pick_spec y.rd (by have:=y.dec.small;have:=N.1;omega) oM λw10 r B ai a4 a8 _=>?_;have l:=y.pick B a4;have s:=a3.same B oM;have m:=T.same B λx d _ e=>by
   rcases d with d|d
   .have:=f.hH x d;omega
   .omega
  have bq:r<ds.length:=by have:=a8 oM;omega
  simp(disch:=exact oS) only[push_cast,l.dec.iaddr,gu,l.dec.load0];refine zi zp λbl ap bf g bh ar=>?_;have b6:TmR (λ_=>False) ap [nI 21,nI 0,nI 0,.string (ds.getD r (M.nada,0)).1,oN] (.mk 21 0 0 (ds.getD r (M.nada,0)).1 []):=Q5 21 0 0 _;refine stTerm ar rfl b6 λZ ag bi Q=>?_;have o:Ext w10 Z:=Ext.then g ag λx d=>by subst d;omega
  have G:=l.ext o;rw[Q.ldAgg (t:=za) zc,Q.ldAgg (t:=za) zc];have S:TmR (λ_=>False) Z [nI 21,nI 0,nI 0,.string (ds.getD r (M.nada,0)).1,oN] (.mk 21 0 0 (ds.getD r (M.nada,0)).1 []):=Q5 21 0 0 _;refine kids2 S.term S.term λc0 bk A bj a9=>?_;refine oZ ?_;have am:=G.ext A;have aa:=TmR.of (t:= .mk 16 0 0 M.nada [.mk 21 0 0 (ds.getD r (M.nada,0)).1 [],.mk 21 0 0 (ds.getD r (M.nada,0)).1 []]) a9;have z12:=o.size;have c4:=A.size;refine am.push aa.term (λx d=>?_) oM λc1 ak D ab an=>?_
  .rcases d with d|d
   .exact d.elim
   .exact⟨oM,oM,λe=>by have:=X x e;omega⟩
  have c5:=D.size;have z:=o.trans A;refine hJ _ _ ⟨ak,_,_,_,rfl,an,oM,by simp,by simp,(s.ext z).same D (λe=>by have:=X _ e;omega),(m.ext z).same D (λx d _ e=>ownN x e d),λx d e=>?_,oM⟩;rcases ab x d with q|q
  .exact ownN x q e
  .rcases e with e|e
   .have:=f.hH x e;omega
   .omega
 rintro _ _ w10 ⟨E,I,al,H',rfl,l,bg,aq,be,s,m,O,ai⟩;have hg:aggB za [nI 25,nI 0,nI 0,.string ⟨#[]⟩,.slice a6 1 1].length=true:=zc;rw[s.ldAgg (t:=za) hg];refine spec_TermSort_spec (dsn_sized N) l.dec m.term λap g=>?_;have U:=l.ext g;have c3:=g.size;refine oZ ?_;have stepw:IntKind.i64.wrap ((k:Int)-j-1)=((k-(j+1):Nat):Int):=by rw[zj oM oM];omega
 refine zb (λ_=>?_) (λ_=>?_)
 .rw[(s.ext g).ldAgg (t:=za) hg];refine U.push (m.ext g).term (λx d=>⟨?_,?_,λe=>O x e d⟩) oM λZ aj _ _ G=>?_
  .rcases d with d|d
   .exact(f.hH x d).1
   .omega
  .rcases d with d|d
   .have:=(f.hH x d).2;omega
   .omega
  try simp only[push_cast]
  rw[stepw];exact hC a7 _ _ ⟨aj,_,al,_,rfl,G,oM,by simp,by simp;omega⟩
 .rw[stepw];exact hC a7 _ _ ⟨E,I,al,H',rfl,U,oM,aq,oM⟩
theorem DrawSolveCore_spec (c:Bytes F w v xs) (hF:∀b,F b->b<w.heap.size)
  (m:∀w' dv lv ds ts,Ext w w'->DclsR (λx=>w.heap.size<=x) w' dv ds->Dsn 9 ds->TmsR (λx=>w.heap.size<=x) w' lv ts->ts.length<=9->K (.tuple #[dv,lv]) w'):vcall Yv #[v] w K:=by
 refine ze {} Tryz.func28 ?_;refine l12Open_spec c hF λw2 b v' ys d a o=>?_;have q:=d.size;have lb:=a.blk.lt;refine l9Clash_spec (F:=λx=>F x/\x<w2.heap.size) ⟨a.blk,⟨a.bytes.1.weaken λx c p=>⟨c,p⟩,a.bytes.2⟩,λh=>a.apart h.1,a.few⟩ (λx c=>c.2) oM λk dv lv ds ts i e g j f=>?_;refine oZ ?_;have n:Ext w k:=by
  have l:Same (λx=>w.heap.size<=x) w k:=(Same.of_ext d).trans (i.mono λx _ c=>by subst c;omega);exact l.mono λx c r=>oM
 exact m k dv lv ds ts n (e.weaken λx c _=>oM) g (j.weaken λx c _=>oM) f
end
end Go.Proofs.YtfjlkobhagjdaaaGreatDoor
end
