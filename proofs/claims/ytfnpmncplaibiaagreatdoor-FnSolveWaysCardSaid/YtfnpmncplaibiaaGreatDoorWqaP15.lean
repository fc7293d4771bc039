import Derived.Test.YtfnpmncplaibiaaGreatDoorWqaP14
/- A part of the proof. -/
set_option linter.all false
set_option maxRecDepth 9999
set_option maxHeartbeats 2000000
noncomputable section
namespace Go.Proofs.YtfnpmncplaibiaaGreatDoor
open Go Go.Vc Go.Proofs Go.M
section
variable {w:World} {K:oK} {F Fr F':oA} {many:Nat} {c:Cnf} {s:Sat}
theorem inc64 {i:Nat} (h:i<9223372036854775807):IntKind.i64.wrap ((i:Int)+1)=((i+1:Nat):Int):=by rw[zi oM oM];omega
theorem l5Find_spec {vc vl v:Value} {put:oI} {ls:List (oI)} (hc:CnfR F w vc c) (hl:Lists F' w vl ls) (hx:Ints Fr w v (signs many put)) (hm:marksOk many put) (z:many<=700) (a4:c.list.length+ls.length<=1000000)
  (hb:∀cl,cl∈c.list++ls->∀l,l∈cl->l≠0/\l.natAbs<=many)
  (hK:∀w' k u x,Ext w w'->findM put (c.list++ls) 0 (-1) 0=(k,u,x)->K (.tuple #[nI k,nI (if 0<=k then-1 else u),nI (if 0<=k then 0 else x)]) w'):vcall Uc #[vc,vl,v] w K:=by
 refine zf {loops:=[(5,[9,10,12])],cuts:=[(36875,[13])]} Tryz.func173 ?_;obtain⟨lv,rfl,X⟩:=hc;obtain⟨cs,U,B,T⟩:=X;obtain⟨es,W,H,V⟩:=hl;refine y4 λb w1 a1 E a5 hB=>?_;have A:Blk w1 b [nI c.many,lv] zq:=hB;have D:=B.ext E;simp only[push_cast,A.ld1,D.len];refine vloop_up (c.list.length+ls.length) (λi u w'=> ∃(y x:Int),u=[nI y,nI x,nI i]/\Ext w w'/\Blk w' b [nI c.many,lv] zq/\findM put ((c.list++ls).drop i) i y x=findM put (c.list++ls) 0 (-1) 0) ⟨-1,0,rfl,E,A,rfl⟩ ?_;rintro i _ _ w2 C hi ⟨y,x,rfl,s,S,g⟩ Q;have I:=H.ext s;simp only[push_cast,I.len];rw[U,W,zi oM oM];refine zb (λa=>?_) (λa=>?_)
 .have o:i<c.list.length+ls.length:=oM;refine y7 x8 yG λb3 w3 a2 G a6 a0=>?_;have p:=s.trans G;have f:=S.ext G;have q:=B.ext p;have r:=H.ext p;refine zp (λu w'=>w'=w3/\∃v4,u=[v4]/\Ints (λ_=>True) w3 v4 ((c.list++ls).getD i [])) ?_ ?_
  .intro J Z;refine zb (λa3=>?_) (λa3=>?_)
   .simp(disch:=exact oS) only[push_cast,f.ld1,q.iaddr,q.load];refine Z _ _ ⟨rfl,_,rfl,?_⟩;rw[getD_app_l oM];exact((T i oM).ext p).weaken λ_ _ _=>trivial
   .obtain⟨j,rfl⟩:∃j,i=c.list.length+j:=⟨i-c.list.length,oM⟩;rw[show((c.list.length+j:Nat):Int)-(c.list.length:Int)=(j:Int) from by omega,zi oM oM];simp(disch:=exact oS) only[push_cast,r.iaddr,r.load];refine Z _ _ ⟨rfl,_,rfl,?_⟩;rw[getD_app_r];exact((V j oM).ext p).weaken λ_ _ _=>trivial
  rintro _ _ _ ⟨rfl,v4,rfl,h4⟩;have L:i<(c.list++ls).length:=by rw[V1];exact o
  have M:(c.list++ls).getD i []∈c.list++ls:=by rw[X0,gj L];exact GZ _
  rw[Zi (d:=[]) L,findM_cons] at g;refine oZ ?_;refine l5Look_spec (hx.ext p) hm z h4 (hb _ M) λO n Y t=>?_;rw[t] at g;dsimp only at g;refine oZ ?_;rw[inc64 oM];have N: ¬(O=true)->((if O then(-1:Int) else(n:Int))=n/\(if O then(0:Int) else Y)=Y):=λh=>⟨Q1 h,Q1 h⟩;by_cases m:O=true
  .rw[V0 m] at g;refine zb (λe=>absurd e (by rw[V0 m];omega)) (λ_=>zb (λe=>absurd e (by rw[V0 m];omega)) (λ_=>?_));exact Q o _ _ ⟨y,x,rfl,p,f,g⟩
  rw[Q1 m] at g;rw[(N m).1,(N m).2];refine zb (λe=>?_) (λe=>zb (λe1=>?_) (λe1=>?_))
  .rw[V0 oM] at g;have:=hK _ _ _ _ p g.symm;rwa[V0 oM,V0 oM] at this
  .rw[Q1 oM,V0 oM] at g;refine zb (λR=>?_) (λR=>?_)
   .rw[V0 R] at g;exact Q o _ _ ⟨i,Y,rfl,p,f,g⟩
   .rw[Q1 R] at g;exact Q o _ _ ⟨y,x,rfl,p,f,g⟩
  .rw[Q1 oM,Q1 oM] at g;exact Q o _ _ ⟨y,x,rfl,p,f,g⟩
 .rw[Gp (by rw[V1];omega)] at g;have:=hK w2 _ _ _ s g.symm;rwa[Q1 oM,Q1 oM] at this
theorem l5At_spec {vc v:Value} {k:Nat} (A:CnfR F w vc c) (hs:SatR F' w v s) (G:k<c.list.length+s.learned.length) (C:c.list.length+s.learned.length<=1000000)
  (u:∀w' v',Ext w w'->Ints (λb=>F b\/F' b) w' v' (atM c s k)->K v' w'):vcall xd0 #[vc,v,nI k] w K:=by
 refine zf {} Tryz.func175 ?_;obtain⟨lv,rfl,cs,n,o,m⟩:=A;obtain⟨vp,vw,vl,rfl,-,-,es,B,r,q⟩:=hs;refine y4 λb1 w1 y p D i=>?_;refine y4 λb2 w2 z g E l=>?_;have t:Blk w2 b1 [nI c.many,lv] zq:=i.ext g;have x:Blk w2 b2 [vp,vw,vl,nI s.code] zw:=l;have f:=p.trans g;have d:=o.ext f;have e:=r.ext f;simp only[push_cast,t.ld1,d.len];refine zb (λa=>?_) (λa=>?_)
 .simp(disch:=exact oS) only[push_cast,d.iaddr,d.load];refine u w2 _ f ?_;rw[atM,getD_app_l oM];exact((m k oM).ext f).weaken λ_ h _=> .inl h
 .obtain⟨j,rfl⟩:∃j,k=c.list.length+j:=⟨k-c.list.length,oM⟩;simp(disch:=(simp only[push_cast])) only[x.ld2,t.ld1,d.len,zh0,zk0,ym,Gg,Zm];rw[n,show((c.list.length+j:Nat):Int)-(c.list.length:Int)=(j:Int) from by omega,zi oM oM];simp(disch:=exact oS) only[push_cast,e.iaddr,e.load];refine u w2 _ f ?_;rw[atM,getD_app_r];exact((q j oM).ext f).weaken λ_ h _=> .inr h
theorem l5Levels_spec {vc v:Value} (hc:CnfR F w vc c) (hs:SatR F' w v s) (L:c.many=many) (T:many<=700) (hm:marksOk many s.put) (hlen:s.put.length=s.why.length) (A:∀k,k<s.why.length->s.why.getD k 0= -1\/0<=s.why.getD k 0)
  (hK:∀w' v',Ext w w'->OwnI ze w' v' (levs many s.put (yn s.why))->(∀x,v'.ownBlock=some x->w.heap.size<=x)->K v' w'):vcall Kx #[vc,v] w K:=by
 refine zf {loops:=[(4,[6,7])],cuts:=[(28680,[6])]} Tryz.func230 ?_;obtain⟨lv,rfl,-⟩:=hc;obtain⟨vp,vw,vl,rfl,hp,hw,-⟩:=hs;have a4:=hm.len;refine y4 λb1 w1 a0 N a7 H=>?_;refine y4 λb2 w2 a1 p a8 I=>?_;have X:Blk w2 b1 [nI c.many,lv] zq:=H.ext p;have R:Blk w2 b2 [vp,vw,vl,nI s.code] zw:=I;have S:=N.trans p;simp only[push_cast,X.ld0];rw[L,zi oM oM,show((many:Int)+1)=((many+1:Nat):Int) from by omega];refine vmkS_own (bs:=8) xx qD xp rfl oM oM λv1 w3 Y q m=>?_;have G:OwnI ze w3 v1 (levs many [] (yn s.why)):=by rw[kU0];unfold OwnI;rw[GU];exact Y
 have V:=S.size;refine vloop_up s.put.length (λi u w'=>u=[nI ((yn s.why).take i|>.count true:Nat),nI i]/\Ext w w'/\Blk w' b2 [vp,vw,vl,nI s.code] zw/\OwnI ze w' v1 (levs many (s.put.take i) (yn s.why))) ⟨rfl,S.trans q,R.ext q,by simpa using G⟩ ?_;rintro i _ _ W C hi ⟨rfl,g,f,E⟩ Z;have n:=hp.ext g;have z:=hw.ext g;have a5:=UK many (s.put.take i) (yn s.why);have a3:=jX s.why;simp only[push_cast,f.ld0,n.len];refine zb (λa=>?_) (λa=>?_)
 .have l:i<s.put.length:=oM;have h:=Yt (ds:=yn s.why) (i:=i) oM;have a2:((yn s.why).take i).count true<=700:=gU Pf (by simp;omega);refine zp (λu w'=>w'=W/\u=[nI ((yn s.why).take (i+1)|>.count true:Nat)]) ?_ ?_
  .intro J U;simp(disch:=exact oS) only[push_cast,f.ld1,z.iaddr,z.load];have o:=K7 (why:=s.why) (k:=i) oM;have a6:=A i oM;refine zb (λb=>?_) (λb=>?_)
   .rw[inc64 oM];refine U _ _ ⟨rfl,?_⟩;rw[h,o,gC oM];rfl
   .refine U _ _ ⟨rfl,?_⟩;rw[h,o,gr oM];rfl
  rintro _ _ _ ⟨rfl,rfl⟩;simp(disch:=exact oS) only[push_cast,f.ld0,n.iaddr,n.load];have hb:=hm.2 _ (getD_meS l);have y:=M.take_snoc' (d:=0) l;have D:=distinct_take hm.1 (i+1);have j:placeOf (s.put.take i) (s.put.getD i 0).natAbs=0:=by
   refine placeOf_zero λx B e=>?_;rw[y] at D;unfold Distinct at D;rw[gG,GB] at D;exact D.2.2 _ (Gm B) _ (by simp) e
  have t:=levs_snoc (many:=many) (ds:=yn s.why) j;rw[<-y,gi,GG oM,lvl_succ oM,<-h] at t;have Q:=E.ints;refine l4Abs_spec oM ?_;simp(disch:=exact oS) only[push_cast,Q.iaddr];refine E.st yG oM λw5 O r a9=>?_;rw[inc64 oM];refine Z l _ _ ⟨rfl,Ext.then g r λx B=>by have:=m x B;omega,f.same r λe=>by have:=m _ e;have:=R.lt;omega,by rw[t];exact O⟩
 .rw[gI oM] at E;exact hK W v1 g E λx B=>by have:=m x B;omega
theorem l5Top_spec {v v':Value} {put cl:oI} {ds:List Bool} (m:Ints F w v (levs many put ds)) (j:many<=700) (p:ds.length<=700) (d:Ints Fr w v' cl) (o:∀l,l∈cl->l.natAbs<=many/\placeOf put l.natAbs≠0)
  (s:K (.tuple #[nI (Za put ds cl:Nat),nI (Jo put ds cl).length]) w):vcall y50 #[v,v'] w K:=by
 refine zf {loops:=[(4,[6,7,8])]} Tryz.func231 ?_;have hlen:cl.length<=9223372036854775807:=by obtain⟨_,_,_,n,r,_⟩:=d.shape;simp at n;omega
 have q:=UK many put ds;refine vloop_up cl.length (λi u w'=>w'=w/\u=[nI (Za put ds (cl.take i):Nat),nI (Jo put ds (cl.take i)).length,nI i]) ⟨rfl,rfl⟩ ?_;rintro i _ _ _ C hi ⟨rfl,rfl⟩ f;simp only[push_cast,d.len];refine zb (λa=>?_) (λa=>?_)
 .have c:i<cl.length:=oM;simp(disch:=exact oS) only[push_cast,d.iaddr,d.load];obtain⟨g,h⟩:=o _ (getD_meS c);refine l4Abs_spec oM ?_;simp(disch:=exact oS) only[push_cast,m.iaddr,m.load];rw[levs_get g,levV_lit h];obtain⟨t1,t2⟩:=top_step (put:=put) (ds:=ds) c _ rfl;generalize lvM put ds (cl.getD i 0)=k at*;have t:(Jo put ds (cl.take i)).length<=i:=gU (List.length_filter_le _ _) (by simp;omega);refine zb (λb=>?_) (λb=>?_)
  .rw[V0 oM] at t1 t2;refine zb (λ_=>?_) (λe=>absurd trivial e);rw[inc64 oM];exact f c _ _ ⟨rfl,by rw[t1,t2];rfl⟩
  .rw[Q1 oM] at t1 t2;refine zb (λe=>?_) (λe=>?_)
   .rw[V0 oM] at t2;rw[inc64 oM,inc64 oM];exact f c _ _ ⟨rfl,by rw[t1,t2]⟩
   .rw[Q1 oM] at t2;rw[inc64 oM];exact f c _ _ ⟨rfl,by rw[t1,t2]⟩
 .rwa[gI oM]
theorem l5Has_spec {v:Value} {cl:oI} {m:Nat} (c:Ints Fr w v cl) (p:∀l,l∈cl->l.natAbs<=700) (g:(∃q,q∈cl/\q.natAbs=m)->K (.bool true) w) (j:(∀q,q∈cl->q.natAbs≠m)->K (.bool false) w):vcall y70 #[v,nI m] w K:=by
 refine zf {loops:=[(2,[5])]} Tryz.func301 ?_;have hlen:cl.length<=9223372036854775807:=by obtain⟨_,_,_,n,s,_⟩:=c.shape;simp at n;omega
 refine vloop_up cl.length (λi u w'=>w'=w/\u=[nI i]/\∀q,q∈cl.take i->q.natAbs≠m) ⟨rfl,rfl,by simp⟩ ?_;rintro i _ _ _ C hi ⟨rfl,rfl,k⟩ o;simp only[push_cast,c.len];refine zb (λa=>?_) (λa=>?_)
 .have f:i<cl.length:=oM;simp(disch:=exact oS) only[push_cast,c.iaddr,c.load];have e:cl.getD i 0∈cl:=getD_meS f;have r:=p _ e;refine l4Abs_spec oM ?_;refine oZ ?_;refine zb (λb=>g ⟨_,e,oM⟩) (λb=>?_);rw[inc64 oM];refine o f _ _ ⟨rfl,rfl,λq h=>?_⟩;rw[M.take_snoc' (d:=0) f,gq,gD] at h;rcases h with h|rfl
  .exact k q h
  .omega
 .rw[gI oM] at k;exact j k
theorem l5Last_spec {v v':Value} {cl:oI} (hs:SatR F w v s) (hm:marksOk many s.put) (t:many<=700) (m:Ints Fr w v' cl) (z:∀l,l∈cl->l.natAbs<=700)
  (x:∀w',Ext w w'->K (nI ((lastPl s.put cl:Int)-1)) w'):vcall Ua #[v,v'] w K:=by
 refine zf {loops:=[(2,[5])]} Tryz.func276 ?_;obtain⟨vp,vw,vl,rfl,G,-,-⟩:=hs;have E:=hm.len;refine y4 λb2 w2 A b H g=>?_;have p:Blk w2 b2 [vp,vw,vl,nI s.code] zw:=g;have c:=G.ext b;simp only[push_cast,p.ld0,c.len];rw[zi oM oM];refine vloop_up s.put.length (λi u w'=>w'=w2/\u=[nI ((s.put.length:Int)-1-i)]/\∀j,s.put.length-i<=j->j<s.put.length->∀q,q∈cl->q.natAbs≠(s.put.getD j 0).natAbs) ⟨rfl,by simp,λj r d=>oM⟩ ?_;rintro i _ _ _ C hi ⟨rfl,rfl,n⟩ y;refine oZ ?_;refine zb (λa=>?_) (λa=>?_)
 .obtain⟨k,D⟩:∃k:Nat,(s.put.length:Int)-1-i=k:=⟨s.put.length-1-i,oM⟩;have f:k<s.put.length:=oM;rw[D];simp(disch:=exact oS) only[push_cast,p.ld0,c.iaddr,c.load];have B:=hm.2 _ (getD_meS f);refine l4Abs_spec oM ?_;refine l5Has_spec (m.ext b) z (λh=>?_) (λh=>?_)
  .refine oZ ?_;have o:=lastPl_eq hm f h λj r d=>n j oM d;have:=x _ b;rwa[o,show((k+1:Nat):Int)-1=(k:Int) from by omega] at this
  .refine oZ ?_;rw[zi oM oM];refine y oM _ _ ⟨rfl,by rw[show(s.put.length:Int)-1-((i+1:Nat):Int)=(k:Int)-1 from by omega],λj r d=>?_⟩;by_cases e:j=k
   .subst e;exact h
   .exact n j oM d
 .have o:=lastPl_none (put:=s.put) (cl:=cl) λj d=>n j oM d;have:=x _ b;rw[o] at this;exact this
end
section
variable {w:World} {K:oK} {F Fr F':oA} {many:Nat} {c:Cnf} {s:Sat}
theorem jv0 (arr:oI) (m n:Nat):(yw0 arr m n).length<=n:=by
 unfold yw0;refine gU (List.length_filterMap_le _ _) (by simp)
theorem l5Join_spec {va vb:Value} {a b:oI} {m:Nat} (ha:Ints F w va a) (hb:Ints F' w vb b) (a6:many<=700) (S:∀k,k∈a++b->k≠0/\k.natAbs<=many) (hc:∀k,k∈a++b->k.natAbs≠m-> -k∉a++b)
  (hK:∀w' v',Ext w w'->OwnI ze w' v' (Qo many a b m)->(∀x,v'.ownBlock=some x->w.heap.size<=x)->K v' w'):vcall Ub #[nI many,va,vb,nI m] w K:=by
 refine zf {loops:=[(4,[11]),(8,[12]),(12,[9,13])]} Tryz.func277 ?_;have ab:a.length<=9223372036854775807:=by obtain⟨_,_,_,L,h2,_⟩:=ha.shape;simp at L;omega
 have ac:b.length<=9223372036854775807:=by obtain⟨_,_,_,L,h2,_⟩:=hb.shape;simp at L;omega
 refine y7 x8 yG λJ w0 a8 T ad N=>?_;refine oZ ?_;rw[zi oM oM,show((many:Int)+1)=((many+1:Nat):Int) from by omega];refine vmkS_own (bs:=8) xx qD xp rfl oM oM λv1 w1 L U W=>?_;have a0:OwnI ze w1 v1 (List.replicate (many+1) 0):=by unfold OwnI;rw[GU];exact L
 have E1:=T.trans U;have a7:=T.size;have hN:∀x,v1.ownBlock=some x->w.heap.size<=x:=λx s=>by have:=W x s;omega
 have a1:Blk w1 J [] zE:=N.ext U;have G:∀x,v1.ownBlock=some x->x≠J:=λx s e=>by have:=W x s;have:=N.lt;omega
 refine vloop_up a.length (λi u w'=>u=[nI i]/\Ext w w'/\Blk w' J [] zE/\∃arr,OwnI ze w' v1 arr/\ArrP many (a.take i) arr) ⟨rfl,E1,a1,_,a0,by simpa using arr_nil many⟩ ?_;rintro i _ _ w2 C hi ⟨rfl,h,o,arr,q,f⟩ O;have E:=ha.ext h;simp only[push_cast,E.len];refine zb (λc1=>?_) (λc1=>?_)
 .have l:i<a.length:=oM;refine zd λw3 c _=>?_;have A:=E.ext c;have g:=q.ext c;have r:=g.ints;have Q:=f.len;obtain⟨g1,g2⟩:=S _ (Gk _ (getD_meS l));simp(disch:=exact oS) only[push_cast,A.iaddr,A.load,K3];refine l4Abs_spec oM ?_;simp(disch:=exact oS) only[push_cast,A.iaddr,A.load,K3,gm,r.iaddr];refine g.st yG oM λw4 I z Y=>?_;rw[inc64 oM];refine O l _ _ ⟨rfl,Ext.then (h.trans c) z hN,(o.ext c).same z λe=>G _ e rfl,_,I,?_⟩;rw[M.take_snoc' (d:=0) l];exact arr_snoc f g1 g2
 clear O;rw[gI oM] at f;refine vloop_up b.length (λi u w'=>u=[nI i]/\Ext w w'/\Blk w' J [] zE/\∃arr,OwnI ze w' v1 arr/\ArrP many (a++b.take i) arr) ⟨rfl,h,o,arr,q,by simpa using f⟩ ?_;clear f q arr o E h w2;rintro j _ _ w2 C hj ⟨rfl,h,o,arr,q,f⟩ O;have R:=hb.ext h;simp only[push_cast,R.len];refine zb (λc2=>?_) (λc2=>?_)
 .have l:j<b.length:=oM;refine zd λw3 c _=>?_;have B:=R.ext c;have g:=q.ext c;have r:=g.ints;have Q:=f.len;obtain⟨g1,g2⟩:=S _ (GC _ (getD_meS l));simp(disch:=exact oS) only[push_cast,B.iaddr,B.load,K3];refine l4Abs_spec oM ?_;simp(disch:=exact oS) only[push_cast,B.iaddr,B.load,K3,gm,r.iaddr];refine g.st yG oM λw4 I z Y=>?_;rw[inc64 oM];refine O l _ _ ⟨rfl,Ext.then (h.trans c) z hN,(o.ext c).same z λe=>G _ e rfl,_,I,?_⟩;rw[M.take_snoc' (d:=0) l,<-Gd];exact arr_snoc f g1 g2
 clear O;rw[gI oM] at f;have Q:=f.len;have a4:OwnI ze w2 (.slice (some ⟨J,0,none⟩) 0 0) []:=Blk.own1 (t:=ze) (cs:=[]) (by rw[qD];exact o) (gW _) rfl rfl oM;refine vloop_up many (λn u w'=> ∃v,u=[v,nI (n+1:Nat)]/\Ext w w'/\OwnI ze w' v1 arr/\OwnI ze w' v (yw0 arr m n)/\(∀x,v.ownBlock=some x->w.heap.size<=x/\v1.ownBlock≠some x)) ⟨_,rfl,h,q,a4,λx s=>?_⟩ ?_
 .have e:J=x:=gg s;subst e;exact⟨oM,λe=>G _ e rfl⟩
 rintro n _ _ w3 C3 hn ⟨v,rfl,c,g,y,p⟩ D;refine oZ ?_;have aa:=jv0 arr m n;refine zb (λc3=>?_) (λc3=>?_)
 .have hs:=joinA_succ arr m n;have V:IntKind.i64.wrap ((n:Int)+1+1)=((n+1+1:Nat):Int):=by rw[zi oM oM];omega
  have r:=g.ints;rw[V];refine zb (λc4=>?_) (λc4=>?_)
  .rw[Q1 oM] at hs;have e1:((n:Int)+1)=((n+1:Nat):Int):=rfl;rw[e1];simp(disch:=exact oS) only[r.iaddr,gu,r.load,xr0];refine zb (λZ=>?_) (λZ=>?_)
   .rw[Q1 Z] at hs;refine zC x8 yG xp rfl rfl λb4 w4 a9 H Y a2=>?_;refine(y.ext H).app1 xx a2 oM oM λv5 w5 a5 X a3=>?_;have ae:=c.size;refine D oM _ _ ⟨v5,rfl,Ext.then (c.trans H) X λx s=>(p x s).1,(g.ext H).same X λx s e=>(p x e).2 s,by rw[hs];exact a5,λx s=>?_⟩;rcases a3 x s with e|e
    .exact p x e
    .exact⟨oM,λe'=>by have:=g.lt e';omega⟩
   .rw[V0 (by simpa using Z),gS] at hs;exact D oM _ _ ⟨v,rfl,c,g,by rw[hs];exact y,p⟩
  .rw[V0 oM,gS] at hs;exact D oM _ _ ⟨v,rfl,c,g,by rw[hs];exact y,p⟩
 .have:n=many:=oM;subst this;rw[joinA_eq f hc] at y;exact hK w3 v c y λx s=>(p x s).1
theorem learnS_cons {cl:oI} (d:satOk many c s) (h:c.many=many) (hF:Fls s.put cl) (hs:Srt cl) (n:2<=(Jo s.put (yn s.why) cl).length):
  lastPl s.put cl-1<s.put.length/\lastPl s.put cl≠0/\0<=s.why.getD (lastPl s.put cl-1) 0/\s.why.getD (lastPl s.put cl-1) 0<c.list.length+s.learned.length/\
  (∀l,l∈cl++atM c s (s.why.getD (lastPl s.put cl-1) 0).toNat->l≠0/\l.natAbs<=many)/\(∀l,l∈cl++atM c s (s.why.getD (lastPl s.put cl-1) 0).toNat->l.natAbs≠(s.put.getD (lastPl s.put cl-1) 0).natAbs-> -l∉cl++atM c s (s.why.getD (lastPl s.put cl-1) 0).toNat):=by
 have v:=topOf_tops (put:=s.put) (ds:=yn s.why) (srt_nodup hs);have b:cl≠[]:=λe=>by subst e;simp[Jo] at n
 have w:=lastPl_pos hF b;obtain⟨k,o⟩:∃k,lastPl s.put cl=k+1:=⟨lastPl s.put cl-1,oM⟩;rw[o,G5];obtain⟨i,t,j,m,himp,-⟩:=last_reason d hF v n o;obtain⟨u,f⟩:=(impl_iff d.mks).1 himp;have g:(s.why.getD k 0).toNat<c.list.length+s.learned.length:=oM
 have off:∀l,l∈cl++atM c s (s.why.getD k 0).toNat->l.natAbs≠(s.put.getD k 0).natAbs-> -l∈s.put:=λl a b=>by
  rcases gq.1 a with a|a
  .exact hF l a
  .exact gV (f l a λe=>b (by rw[e]))
 refine⟨i,oM,j,m,λl a=>?_,λl a b r=>?_⟩
 .rcases gq.1 a with a|a
  .have:=d.mks.2 _ (hF l a);omega
  .exact d.lit h g a
 .have p:=off l a b;have q:=off (-l) r (by rwa[G8]);exact d.mks.neg p q
theorem l5Learn_spec {vc v vl v3:Value} {k:Nat} (hc:CnfR F w vc c) (hs:SatR F' w v s) (S:Ints Fr w vl (levs many s.put (yn s.why))) (hv:OwnI ze w v3 (atM c s k)) (e:satOk many c s) (o:c.many=many) (hk:k<c.list.length+s.learned.length) (a1:qY s.put (atM c s k))
  (hK:∀w' v',Ext w w'->OwnI ze w' v' (learnM many c s s.put.length (atM c s k))->(∀x,v'.ownBlock=some x->v3.ownBlock=some x\/w.heap.size<=x)->K v' w'):vcall VE #[vc,v,vl,v3] w K:=by
 refine zf {loops:=[(2,[3,10])]} Tryz.func232 ?_;have a0:=hc;have M:=hs;obtain⟨lv,rfl,aa⟩:=hc;obtain⟨vp,vw,vls,rfl,hp,hw,j⟩:=hs;have d:many<=700/\c.list.length<=2500:=by
  have:=e.cnf;unfold cnfOk at this;simp only[gl,gh] at this;omega
 have a6:=e.few;have m:=e.mks;have ac:=m.len;have hlen:=e.len;have E:=Zk a1;have Z:=clauseOk_srt (e.atOk hk);have G:(yn s.why).length<=700:=by rw[jX];omega
 have bounds:∀{b:oI},Fls s.put b->∀x,x∈b->x.natAbs<=many/\placeOf s.put x.natAbs≠0:=λhF x A=>by
  have h1:=m.2 _ (hF x A);have D:=placeOf_ne_zero (hF x A);rw[G8] at D;exact⟨oM,D⟩
 generalize atM c s k=cl at*;refine y4 λb1 w1 a7 a2 ad X=>?_;refine y4 λb2 w2 a8 H ae Y=>?_;have A2:Blk w2 b1 [nI c.many,lv] zq:=X.ext H;have B2:Blk w2 b2 [vp,vw,vls,nI s.code] zw:=Y;have R:=a2.trans H;refine l5Top_spec (S.ext R) d.1 G (hv.ext R).ints (bounds E) ?_;refine oZ ?_;refine qA (λn u w'=> ∃b f v,n=lastPl s.put b/\u=[v,nI (Jo s.put (yn s.why) b).length]/\Ext w w'/\Blk w' b1 [nI c.many,lv] zq/\Blk w' b2 [vp,vw,vls,nI s.code] zw/\
   OwnI ze w' v b/\(∀x,v.ownBlock=some x->v3.ownBlock=some x\/w.heap.size<=x)/\Fls s.put b/\Srt b/\lastPl s.put b<=f/\learnM many c s f b=learnM many c s s.put.length cl) _
  ⟨cl,s.put.length,v3,rfl,rfl,R,A2,B2,hv.ext R,λx A=> .inl A,E,Z,lastPl_le,rfl⟩ ?_
 rintro _ _ _ w3 C ⟨b,f,v,rfl,rfl,V,A3,B3,t,a3,hF,hS,ab,r⟩ hC;refine oZ ?_;refine zb (λa=>?_) (λa=>?_)
 .have D:2<=(Jo s.put (yn s.why) b).length:=oM;obtain⟨g1,g2,g3,g4,g5,g6⟩:=learnS_cons e o hF hS D;obtain⟨k1,k2,k3,k4⟩:=learnS_ok e o hF hS D;obtain⟨f,rfl⟩:∃f',f=f'+1:=⟨f-1,oM⟩;rw[learnM,Q1 oM] at r;rw[B3.ldAgg zR];refine l5Last_spec (M.ext V) m d.1 t.ints (λl S=>by have:=(bounds hF l S).1;omega) λw4 g=>?_;have E4:=V.trans g;refine zd λw5 h _=>?_;have B:=E4.trans h;have T:=(A3.ext g).ext h;have Q:=(B3.ext g).ext h;obtain⟨q,hq⟩:∃q,lastPl s.put b=q+1:=⟨lastPl s.put b-1,oM⟩;have j:qN many c s b=Qo many b (atM c s (s.why.getD q 0).toNat) (s.put.getD q 0).natAbs:=by unfold qN;rw[hq,G5]
  rw[hq,G5] at g1 g3 g4 g5 g6;rw[hq,show((q+1:Nat):Int)-1=(q:Int) from by omega];have J:=hp.ext B;have O:=hw.ext B;simp(disch:=exact oS) only[push_cast,T.ldAgg zG,Q.ldAgg zR,T.ld0,Q.ld0,Q.ld1,K3,J.iaddr,J.load,O.iaddr,O.load];obtain⟨y,hy⟩:∃y:Nat,s.why.getD q 0=y:=⟨(s.why.getD q 0).toNat,oM⟩;rw[hy] at g4 g5 g6 j⊢;rw[gu] at g5 g6 j;refine l5At_spec (a0.ext B) (M.ext B) oM oM λw6 v6 i a5=>?_;have W:=B.trans i;have U:=T.ext i;have B6:=Q.ext i;have L:=hp.ext W;simp(disch:=exact oS) only[push_cast,U.ld0,B6.ld0,K3,gm,L.iaddr,L.load];have a9:=m.2 _ (getD_meS g1);refine l4Abs_spec oM ?_;simp(disch:=exact oS) only[push_cast,U.ld0,K3,gm];rw[o];have N:=(((t.ext g).ext h).ext i);refine l5Join_spec N.ints a5 d.1 g5 g6 λw7 v7 p z a4=>?_;have E7:=W.trans p;rw[<-j] at z;refine l5Top_spec (S.ext E7) d.1 G z.ints (bounds k1) ?_;refine oZ ?_;refine hC (lastPl s.put (qN many c s b)) _ _ k3 ⟨_,f,v7,rfl,rfl,E7,U.ext p,B6.ext p,z,λx A=> .inr ?_,k1,k2,oM,r⟩;have:=a4 x A;have:=W.size;omega
 .have I:learnM many c s s.put.length cl=b:=by
   rw[<-r];cases f with
   |zero=>rfl
   |succ f=>rw[learnM,V0 oM]
  rw[I] at hK;exact hK w3 v V t a3
theorem l4Max_spec {a b:Nat} (c:K (nI (max a b:Nat)) w):vcall y80 #[nI a,nI b] w K:=by
 refine zf {} Tryz.func278 ?_;refine oZ ?_;refine zb (λh=>?_) (λh=>?_)
 .rwa[show max a b=a from by omega] at c
 .rwa[show max a b=b from by omega] at c
theorem l5Below_spec {v v':Value} {put cl:oI} {ds:List Bool} (o:Ints F w v (levs many put ds)) (m:many<=700) (e:Ints Fr w v' cl) (s:∀l,l∈cl->l.natAbs<=many/\placeOf put l.natAbs≠0)
  (q:K (nI (ZJ put ds cl:Nat)) w):vcall VG #[v,v',nI (Za put ds cl:Nat)] w K:=by
 refine zf {loops:=[(3,[7,8])]} Tryz.func234 ?_;have hlen:cl.length<=9223372036854775807:=by obtain⟨_,_,_,p,x,_⟩:=e.shape;simp at p;omega
 have t:=UK many put ds;generalize r:Za put ds cl=T;refine vloop_up cl.length (λi u w'=>w'=w/\u=[nI (maxL (((cl.take i).filter λk=>decide (lvM put ds k<T)).map (lvM put ds)):Nat),nI i]) ⟨rfl,rfl⟩ ?_;rintro i _ _ _ C hi ⟨rfl,rfl⟩ n;simp only[push_cast,e.len];refine zb (λa=>?_) (λa=>?_)
 .have f:i<cl.length:=oM;simp(disch:=exact oS) only[push_cast,e.iaddr,e.load];obtain⟨g,h⟩:=s _ (getD_meS f);refine l4Abs_spec oM ?_;simp(disch:=exact oS) only[push_cast,o.iaddr,o.load];rw[levs_get g,levV_lit h];have c:(cl.take (i+1)).filter (λk=>decide (lvM put ds k<T))=(cl.take i).filter (λk=>decide (lvM put ds k<T))++(if lvM put ds (cl.getD i 0)<T then[cl.getD i 0] else[]):=by
   rw[M.take_snoc' (d:=0) f,PW,z0c,List.filter_nil];simp only[gh]
  have j:∀A:oI,maxL ((A++[cl.getD i 0]).map (lvM put ds))=max (maxL (A.map (lvM put ds))) (lvM put ds (cl.getD i 0)):=λA=>by
   rw[gG];exact maxL_snoc _ _ _ rfl
  refine zb (λb=>?_) (λb=>?_)
  .refine l4Max_spec ?_;rw[inc64 oM];rw[V0 oM] at c;refine n f _ _ ⟨rfl,?_⟩;rw[c,j]
  .rw[inc64 oM];rw[Q1 oM,gS] at c;exact n f _ _ ⟨rfl,by rw[c]⟩
 .rw[gI oM,<-r];exact q
end
section
variable {w:World} {K:oK} {F F':oA} {many:Nat} {c:Cnf} {s:Sat}
def SpR (Z:oA) (w:World) (v:Value) (s:Sat):Prop:=
 ∃vp vw vl,v= .agg #[vp,vw,vl,nI s.code]/\OwnI ze w vp s.put/\OwnI ze w vw s.why/\(∀b,vp.ownBlock=some b->Z b/\vw.ownBlock≠some b)/\(∀b,vw.ownBlock=some b->Z b)/\
  Lists (λb=>Z b/\vp.ownBlock≠some b/\vw.ownBlock≠some b) w vl s.learned
section
variable {Z Z':oA} {v:Value} {w':World}
theorem SpR.ext (h:SpR Z w v s) (he:Ext w w'):SpR Z w' v s:=by
 obtain⟨vp,vw,vl,e,a,b,c,d,f⟩:=h;exact⟨vp,vw,vl,e,a.ext he,b.ext he,c,d,f.ext he⟩
theorem SpR.same {S:oA} (h:SpR Z w v s) (hw:Same S w w') (c:∀b,Z b->b<w.heap.size->¬S b):SpR Z w' v s:=by
 obtain⟨vp,vw,vl,e,d,f,g,i,j⟩:=h;exact⟨vp,vw,vl,e,d.same hw λb a=>c b (g b a).1 (d.lt a),f.same hw λb a=>c b (i b a) (f.lt a),g,i,j.same hw λb a=>c b a.1⟩
theorem SpR.weaken (h:SpR Z w v s) (c:∀b,Z b->b<w.heap.size->Z' b):SpR Z' w v s:=by
 obtain⟨vp,vw,vl,e,d,f,g,i,j⟩:=h;exact⟨vp,vw,vl,e,d,f,λb a=>⟨c b (g b a).1 (d.lt a),(g b a).2⟩,λb a=>c b (i b a) (f.lt a),j.weaken λb a k=>⟨c b a.1 k,a.2⟩⟩
theorem SpR.below (h:SpR Z w v s):SpR (λb=>Z b/\b<w.heap.size) w v s:=h.weaken λ_ a c=>⟨a,c⟩
theorem SpR.sat (h:SpR Z w v s):SatR Z w v s:=by
 obtain⟨vp,vw,vl,e,c,d,f,g,i⟩:=h;exact⟨vp,vw,vl,e,c.ints.weaken λb a _=>(f b a).1,d.ints.weaken λb a _=>g b a,i.weaken λb a _=>a.1⟩
theorem SpR.empty:SpR Z w (.agg #[oN,oN,oN,nI 0]) emptyS:=
 ⟨_,_,_,rfl,OwnI.nil,OwnI.nil,λb a=>(by cases a),λb a=>(by cases a),k40⟩
end
theorem copy_ints {v:Value} {xs:oI} {b:Nat} {t:TypeId} (f:Blk w b [] zE) (a:Ints F w v xs) (c:xs.length*8<=140737488355328)
  (g:∀v' w',OwnI ze w' v' xs->Same (· =b) w w'->(∀x,v'.ownBlock=some x->x=b\/w.heap.size<=x)->K v' w'):vbi .append [ze,ze] t [.slice (some ⟨b,0,none⟩) 0 0,v] w K:=by
 have d:OwnI ze w (.slice (some ⟨b,0,none⟩) 0 0) []:=Blk.own1 (t:=ze) (cs:=[]) (by rw[qD];exact f) (gW _) rfl rfl oM;refine d.app (ys:=xs) xx a (by simp only[pW];omega) (by simpa using c) λv' w2 i hs h=>g v' w2 i (hs.mono λx _ a=>?_) λx a=>?_
 .exact(gg a).symm
 .exact(h x a).imp (λe=>(gg e).symm) id
theorem l5Back_spec {vp vw vl:Value} {L:Nat} (hp:OwnI ze w vp s.put) (hw:OwnI ze w vw s.why) (ac:vl.oneCell'=true) (hlen:s.put.length=s.why.length) (ag:s.put.length<=700) (hL:L<=700) (Y:∀k,k<s.why.length->s.why.getD k 0= -1\/0<=s.why.getD k 0)
  (hK:∀w' F y,Ext w w'->OwnI ze w' F (s.put.take (backN (yn s.why) L s.put.length))->OwnI ze w' y (s.why.take (backN (yn s.why) L s.put.length))->(∀b,F.ownBlock=some b->w.heap.size<=b/\y.ownBlock≠some b)->(∀b,y.ownBlock=some b->w.heap.size<=b)->K (.agg #[F,y,vl,nI s.code]) w'):
  vcall Ud #[.agg #[vp,vw,vl,nI s.code],nI L] w K:=by
 refine zf {loops:=[(3,[5,6])],cuts:=[(16392,[5])]} Tryz.func233 ?_;refine y4 λb2 w2 ak a8 av a2=>?_;refine yZ qZ λb4 A al O aw a3=>?_;have B4:Blk A b2 [vp,vw,vl,nI s.code] zw:=a2.ext O;have R4:Blk A b4 [oN,oN,oN,nI 0] zw:=a3;have E4:=a8.trans O;have R:=hp.ext E4;have ad:=hw.ext E4;have aa:=R.ints;have Z:=ad.ints;have aq:=jX s.why;refine zp (λu w'=>w'=A/\u=[nI (backN (yn s.why) L s.put.length:Nat)]) ?_ ?_
 .intro J hJ;have done:∀n,n<=s.put.length->(∀i,i<n->(lvl (yn s.why) i:Int)<=L)->(n=s.put.length\/(L:Int)<(lvl (yn s.why) n:Int))->J [nI (n:Nat)] A:=λn h1 h2 h3=>hJ _ _ ⟨rfl,by rw[backN_eq h1 h2 h3]⟩;refine vloop_up s.put.length (λn u w'=>w'=A/\u=[nI n,nI (((yn s.why).take n).count true:Nat)]/\∀i,i<n->(lvl (yn s.why) i:Int)<=L) ⟨rfl,rfl,oM⟩ ?_;rintro n _ _ A C hn ⟨rfl,rfl,f⟩ hC;simp only[push_cast,B4.ld0,aa.len];refine zb (λa=>?_) (λa=>done n hn f (.inl oM));have a9:n<s.put.length:=oM;have a7:=Yt (ds:=yn s.why) (i:=n) oM;have B:=lvl_succ (ds:=yn s.why) (i:=n) oM;have ap:((yn s.why).take n).count true<=700:=gU Pf (by simp;omega);have N:=K7 (why:=s.why) (k:=n) oM;have au:=Y n oM;simp(disch:=exact oS) only[push_cast,B4.ld1,Z.iaddr,Z.load];have j:∀k:Nat,k=lvl (yn s.why) n->¬(L:Int)<k->(n<s.put.length->∀(u':List Value) (w'':World),(w''=A/\u'=[nI (n+1:Nat),nI (((yn s.why).take (n+1)).count true:Nat)]/\∀i,i<n+1->(lvl (yn s.why) i:Int)<=L)->C u' w'')->C [nI (n+1:Nat),nI k] A:=λk Q ar h=>by
   refine h a9 _ _ ⟨rfl,by rw[a7,<-B,Q],λi hi=>?_⟩;by_cases e:i=n
   .subst e;omega
   .exact f i oM
  refine zb (λb=>?_) (λb=>?_)
  .have Q:((yn s.why).take n).count true+1=lvl (yn s.why) n:=by rw[B,N,gC oM];rfl
   rw[inc64 oM];refine zb (λb2=>done n hn f (.inr oM)) (λb2=>?_);rw[inc64 oM];exact j _ Q b2 hC
  .have Q:((yn s.why).take n).count true=lvl (yn s.why) n:=by rw[B,N,gr oM];rfl
   refine zb (λb2=>done n hn f (.inr oM)) (λb2=>?_);rw[inc64 oM];exact j _ Q b2 hC
 rintro _ _ _ ⟨rfl,rfl⟩;have ao:=backN_le (yn s.why) L s.put.length;generalize backN (yn s.why) L s.put.length=n at*;have aj:=E4.size;refine y7 x8 yG λb5 w5 am o ax a4=>?_;have B5:=B4.ext o;have S:=R.ext o;simp(disch:=exact oS) only[push_cast,B5.ld0,S.cut];have ab:=S.taken (n:=n) oM;refine copy_ints a4 ab.ints (by simp;omega) λv6 w6 t D p=>?_;have B6:=B5.same D oM;refine B6.st t.ints.cells1 t.ints.one qe rfl λw7 T az a5=>?_;have B7:Blk w7 b2 [v6,vw,vl,nI s.code] zw:=a5;have ay:=D.size;have E:=t.same T λx c e=>by rcases p x c with d|d<;>omega
 have z:Same (λx=>x=b5\/x=b2) w5 w7:=(D.mono λx _ e=> .inl e).trans (T.mono λx _ e=> .inr e);have M:Ext w w7:=Ext.then (E4.trans o) z λx c=>oM
 refine y7 x8 yG λb8 w8 an g b0 a6=>?_;have B8:=B7.ext g;have X:=hw.ext (M.trans g);simp(disch:=exact oS) only[push_cast,B8.ld1,X.cut];have ae:=X.taken (n:=n) oM;refine copy_ints a6 ae.ints (by simp;omega) λv9 w9 v r q=>?_;have B9:=B8.same r oM;have V:=(E.ext g).same r λx c e=>by have:=E.lt c;omega
 refine B9.st v.ints.cells1 v.ints.one qe rfl λw10 l ah G=>?_;have a0:Blk w10 b2 [v6,v9,vl,nI s.code] zw:=G;have b1:=r.size;have U:=V.same l λx c e=>by rcases p x c with d|d<;>omega
 have W:=v.same l λx c e=>by rcases q x c with d|d<;>omega
 have hS:Same (λx=>x=b8\/x=b2) w8 w10:=(r.mono λx _ e=> .inl e).trans (l.mono λx _ e=> .inr e);have I:Ext w w10:=Ext.then (M.trans g) hS λx c=>oM
 have a1:Blk w10 b4 [oN,oN,oN,nI 0] zw:=((((R4.ext o).same z oM).ext g).same hS oM);rw[a0.ldAgg zR];refine a1.stAgg (cs':=[v6,v9,vl,nI s.code]) rfl zR (λx c=>?_) λaf m ai H=>?_
 .simp only[gk,gE,Gn] at c;rcases c with rfl|rfl|rfl|rfl
  .exact t.ints.one
  .exact v.ints.one
  .exact ac
  .rfl
 rw[H.lv zR];refine hK af v6 v9 (Ext.then I m λx c=>oM) (U.same m λx c e=>?_) (W.same m λx c e=>?_) (λx c=>⟨?_,λe=>?_⟩) (λx c=>?_)
 .rcases p x c with d|d<;>omega
 .rcases q x c with d|d<;>omega
 .rcases p x c with d|d<;>omega
 .have:=E.lt c;rcases q x e with d|d<;>omega
 .rcases q x c with d|d<;>omega
theorem J3 {vl:Value} {xss:List (oI)} (h:Lists F w vl xss):vl.oneCell'=true:=by
 obtain⟨vs,_,a,_⟩:=h;exact a.one
theorem l5Clash_spec {vc v v2:Value} {Z:oA} {k:Nat} (hc:CnfR F w vc c) (hs:SpR Z w v s) (d:Ints F' w v2 (atM c s k)) (A:satOk many c s) (Y:c.many=many) (hk:k<c.list.length+s.learned.length) (ac:qY s.put (atM c s k))
  (hK:∀w' v',Ext w w'->SpR (λb=>Z b\/w.heap.size<=b) w' v' (jv many c s (atM c s k))->K v' w'):vcall VF #[vc,v,v2] w K:=by
 refine zf {} Tryz.func174 ?_;have ax:=hc;have bc:=hs.sat;obtain⟨lv,rfl,cx⟩:=hc;obtain⟨vp,vw,vl,rfl,hp,hw,ay,bz,af⟩:=hs;have D:many<=700/\c.list.length<=2500:=by
  have:=A.cnf;unfold cnfOk at this;simp only[gl,gh] at this;omega
 have ch:=A.few;have ag:=A.mks;have cz:=ag.len;have hlen:=A.len;have az:(yn s.why).length<=700:=by rw[jX];omega
 have a8:∀k,k<s.why.length->s.why.getD k 0= -1\/0<=s.why.getD k 0:=λk hk=>(A.why k hk).imp id λh=>h.1;have bounds:∀{an:oI},Fls s.put an->∀x,x∈an->x.natAbs<=many/\placeOf s.put x.natAbs≠0:=λhF x d=>by
  have h1:=ag.2 _ (hF x d);have h2:=placeOf_ne_zero (hF x d);rw[G8] at h2;exact⟨oM,h2⟩
 have cc:=clauseOk_len (m:=many) (by have:=A.atOk hk;rwa[Y] at this);obtain⟨z1,z2,z3,z4⟩:=UL A Y hk ac;refine y4 λb3 w1 ct c0 d0 br=>?_;refine y4 λb4 w2 cu b0 d1 bs=>?_;refine yZ qZ λb6 w3 cv ad d2 bt=>?_;have A3:Blk w3 b3 [nI c.many,lv] zq:=(br.ext b0).ext ad;have B3:Blk w3 b4 [vp,vw,vl,nI s.code] zw:=bs.ext ad;have R3:Blk w3 b6 [oN,oN,oN,nI 0] zw:=bt;have E3:=c0.trans (b0.trans ad);rw[A3.ldAgg zG,B3.ldAgg zR];refine l5Levels_spec (ax.ext E3) (bc.ext E3) Y D.1 ag hlen a8 λw4 vlev O z ah=>?_;have E4:=E3.trans O;refine l5Top_spec z.ints D.1 az (d.ext E4) (bounds (Zk ac)) ?_;have A4:=A3.ext O;have B4:=B3.ext O;have R4:=R3.ext O;have d3:=O.size;have ones:∀{U V bf:Value} {cd:Int},U.oneCell'=true->V.oneCell'=true->bf.oneCell'=true->∀x,x∈[U,V,bf,nI cd]->x.oneCell'=true:=λh1 h2 h3 x d=>by
  simp only[gk,gE,Gn] at d;rcases d with rfl|rfl|rfl|rfl
  .exact h1
  .exact h2
  .exact h3
  .rfl
 have code:∀(cd:Int),jv many c s (atM c s k)={s with code:=cd}->zy zE (oP b4 3) (nI cd) w4 λ_ bi=>zu zw (oP b4 0) bi λt22 bj=>zy zw (oP b6 0) t22 bj λ_ bk=>vlv zw (oP b6 0) bk λr6 bl=>K r6 bl:=λcd X=>by
  refine B4.st rfl rfl yG rfl λw5 bd c9 bu=>?_;have B5:Blk w5 b4 [vp,vw,vl,nI cd] zw:=bu;rw[B5.ldAgg zR];refine(R4.same bd oM).stAgg (cs':=[vp,vw,vl,nI cd]) rfl zR (ones hp.ints.one hw.ints.one (J3 af)) λw6 c4 d4 bv=>?_;rw[bv.lv zR];have W:Ext w w6:=Ext.then E4 ((bd.mono λx _ e=>(.inl e:x=b4\/x=b6)).trans (c4.mono λx _ e=> .inr e)) λx d=>oM;refine hK w6 _ W ?_;rw[X];exact⟨vp,vw,vl,rfl,hp.ext W,hw.ext W,λb hb=>⟨.inl (ay b hb).1,(ay b hb).2⟩,λb hb=> .inl (bz b hb),(af.ext W).weaken λb hb _=>⟨.inl hb.1,hb.2⟩⟩
 refine oZ ?_;refine zb (λa=>?_) (λa=>?_)
 .exact code 2 (by unfold jv;rw[V0 oM])
 obtain⟨es,c1,b5,b1⟩:=af;have b8:=b5.ext E4;simp only[push_cast,B4.ld2,b8.len];refine zb (λa2=>?_) (λa2=>?_)
 .exact code 3 (by unfold jv;rw[Q1 oM,V0 oM])
 clear code;have X:jv many c s (atM c s k)={s with put:=s.put.take (backN (yn s.why) (ZJ s.put (yn s.why) (learnM many c s s.put.length (atM c s k))) s.put.length),why:=s.why.take (backN (yn s.why) (ZJ s.put (yn s.why) (learnM many c s s.put.length (atM c s k))) s.put.length),learned:=s.learned++[learnM many c s s.put.length (atM c s k)]}:=by
  unfold jv;rw[Q1 oM,Q1 oM]
 rw[X] at hK;clear X;refine zd λw5 J _=>?_;have A5:=A4.ext J;have B5:=B4.ext J;simp only[push_cast,A5.ldAgg zG,B5.ldAgg zR,K3];refine y7 x8 yG λb7 w7 cw L d5 bw=>?_;have E7:=E4.trans (J.trans L);have A7:=A5.ext L;have B7:=B5.ext L;simp only[push_cast,A7.ldAgg zG,B7.ldAgg zR,K3,gm];have c9:=J.size;have cq:=L.size;refine copy_ints bw (d.ext E7) oM λv8 w8 c5 M c2=>?_;have A8:=A7.same M oM;have B8:=B7.same M oM;have ab:Ext w w8:=Ext.then E7 M λx d=>by have:=E4.size;omega
 simp only[push_cast,A8.ldAgg zG,B8.ldAgg zR,K3,gm];have d6:=M.size;have R:=((z.ext J).ext L).same M λx d e=>by have:=z.lt d;omega
 refine l5Learn_spec (ax.ext ab) (bc.ext ab) R.ints c5 A Y hk ac λw9 v9 Q ai c3=>?_;have E9:=ab.trans Q;have d7:=Q.size;have S:∀x,v9.ownBlock=some x->w4.heap.size<=x:=λx d=>by
  rcases c3 x d with e|e
  .rcases c2 x e with e|e<;>omega
  .omega
 generalize cy:learnM many c s s.put.length (atM c s k)=lc at*;refine y7 kg qe λa9 w10 ce n ci ao=>?_;have ak:=(B8.ext Q).ext n;have am:=E9.trans n;have ae:=b5.ext am;simp only[push_cast,ak.ld2];have bq:OwnV zn w10 (.slice (some ⟨a9,0,none⟩) 0 0) []:=Blk.own1 (t:=zn) (cs:=[]) (by rw[K6];exact ao) (gW _) rfl rfl oM;have b2:∀u,u∈es->u.oneCell'=true:=λu hu=>by
  obtain⟨i,hi,rfl⟩:=gy hu;have:=(b1 i oM).one;simpa[X0,hi] using this
 refine bq.app (us:=es) jB ae b2 (by simp;omega) (by simp;omega) λv11 bg a6 a5 ba=>?_;have f:∀x,v11.ownBlock=some x->w9.heap.size<=x:=λx d=>by
  rcases ba x d with e|e
  .have e:a9=x:=gg e;omega
  .omega
 have r:Same (· =a9) w10 bg:=a5.mono λx _ e=>(gg e).symm;have bm:=ak.same r oM;have c6:=n.size;have cj:=a5.size;have T:=(ai.ext n).same r λx d e=>by have:=ai.lt d;omega
 have au:Ext w bg:=Ext.then am r λx d=>by have:=E9.size;omega
 refine zC kg qe ZS rfl T.ints.cells1 λcr d8 cf g ck ap=>?_;rw[Gr] at a6;refine OwnV.app1 (a6.ext g) jB ap T.ints.one oM oM λa1 ca C o bb=>?_;have E:∀x,a1.ownBlock=some x->w9.heap.size<=x:=λx d=>by
  rcases bb x d with e|e
  .exact f x e
  .have:=g.size;omega
 have c7:=g.size;have cl:=o.size;have bn:=(bm.ext g).same o λe=>by have:=f _ e;have:=B8.lt;omega
 have av:Ext w ca:=Ext.then (au.trans g) o λx d=>by have:=f x d;have:=E9.size;omega
 have be:=(T.ext g).same o λx d e=>by have:=f x e;have:=ai.lt d;omega
 refine bn.st C.vals.cells1 C.vals.one jx rfl λaj p cm aq=>?_;have bo:Blk aj b4 [vp,vw,a1,nI s.code] zw:=aq;have aw:Ext w aj:=Ext.then av p λx d=>oM
 have G:=C.same p λx d e=>by have:=E x d;have:=B8.lt;omega
 have H:=be.same p λx d e=>by have:=S x d;have:=B4.lt;omega
 have a0:OwnI ze aj vlev (levs many s.put (yn s.why)):=((((R.ext Q).ext n).same r λx d e=>by have:=z.lt d;omega).ext g|>.same o λx d e=>by have:=f x e;have:=z.lt d;omega).same p λx d e=>by have:=ah x d;have:=B3.lt;omega
 refine zd λd9 j _=>?_;have al:=bo.ext j;simp only[push_cast,al.ldAgg zR,K3];have l:=aw.trans j;have c8:=p.size;have cn:=j.size;rw[<-z3];refine l5Below_spec (a0.ext j).ints D.1 (H.ext j).ints (bounds z1) ?_;simp only[push_cast,al.ldAgg zR,K3,gm];have bx:ZJ s.put (yn s.why) lc<=700:=by
  unfold ZJ;rcases jj (xs:=(lc.filter λk=>decide (lvM s.put (yn s.why) k<Za s.put (yn s.why) lc)).map (lvM s.put (yn s.why))) with e|e
  .omega
  .obtain⟨q,_,e⟩:=gB.1 e;rw[<-e];exact gU (lvl_le _ _) az
 refine l5Back_spec (s:={s with code:=s.code}) (hp.ext l) (hw.ext l) C.vals.one hlen oM bx a8 λcb U V y a4 a7 I N=>?_;have bp:Blk cb b6 [oN,oN,oN,nI 0] zw:=by
  have h6:=R3.lt;exact(((((((((R4.ext J).ext L).same M oM).ext Q).ext n).same r oM).ext g).same o λe=>by have:=f _ e;omega).same p oM|>.ext j).ext y
 refine bp.stAgg (cs':=[U,V,a1,nI s.code]) rfl zR (ones a4.ints.one a7.ints.one C.vals.one) λbh B cp ar=>?_;rw[ar.lv zR];have a3:Ext w bh:=Ext.then (l.trans y) B λx d=>oM
 have cg:=R3.lt;have co:=y.size;refine hK bh _ a3 ⟨U,V,a1,rfl,a4.same B λx d e=>by have:=(I x d).1;omega,a7.same B λx d e=>by have:=N x d;omega,λx d=>⟨.inr (by have:=(I x d).1;have:=l.size;omega),(I x d).2⟩,λx d=> .inr (by have:=N x d;have:=l.size;omega),es++[v9],by simp[c1],?_,λi hi=>?_⟩
 .have aa:=((G.ext j).ext y).same B λx d e=>by have:=E x d;omega
  refine aa.vals.weaken λx d _=>⟨.inr (by have:=E x d;have:=E9.size;omega),λe=>?_,λe=>?_⟩
  .have:=(I x e).1;have:=G.lt d;omega
  .have:=N x e;have:=G.lt d;omega
 .simp only[V1,gL] at hi;by_cases b9:i<s.learned.length
  .rw[getD_app_l oM,getD_app_l b9];refine(((b1 i b9).weaken (F':=λx=>(Z x/\vp.ownBlock≠some x/\vw.ownBlock≠some x)/\x<w.heap.size) λx h1 h2=>⟨h1,h2⟩).ext a3).weaken λx d _=>⟨.inl d.1.1,λe=>?_,λe=>?_⟩
   .have:=(I x e).1;have:=l.size;omega
   .have:=N x e;have:=l.size;omega
  .have e1:i=s.learned.length:=oM;have e2:i=es.length:=oM;have g1:(es++[v9]).getD i undef=v9:=by rw[e2];simp
   have g2:(s.learned++[lc]).getD i []=lc:=by rw[e1];simp
   rw[g1,g2];have aa:=((H.ext j).ext y).same B λx d e=>by have:=S x d;omega
   refine aa.ints.weaken λx d _=>⟨.inr (by have:=S x d;have:=E4.size;omega),λe=>?_,λe=>?_⟩
   .have:=(I x e).1;have:=H.lt d;omega
   .have:=N x e;have:=H.lt d;omega
end
section
variable {w:World} {K:oK} {F F':oA} {many:Nat} {c:Cnf} {s:Sat}
theorem l5Do_spec {vc v:Value} {Z:oA} (hc:CnfR F w vc c) (hs:SpR Z w v s) (B:satOk many c s) (a3:c.many=many)
  (hK:∀w' v',Same Z w w'->SpR (λb=>Z b\/w.heap.size<=b) w' v' (goM many c s)->K v' w'):vcall xc0 #[vc,v] w K:=by
 refine zf {loops:=[(13,[9])]} Tryz.func117 ?_;have S:=hc;have bj:=hs.sat;have bk:=hs;obtain⟨lv,rfl,ad⟩:=hc;obtain⟨vp,vw,vl,rfl,hp,hw,p,a4,J⟩:=hs;have L:many<=700/\c.list.length<=2500:=by
  have:=B.cnf;unfold cnfOk at this;simp only[gl,gh] at this;omega
 have bu:=B.few;have M:=B.mks;have c9:=M.len;have hlen:=B.len;have ac:∀cl,cl∈c.list++s.learned->∀l,l∈cl->l≠0/\l.natAbs<=many:=λcl ad l hl=>satOk.bnd B a3 ad hl;refine y4 λb2 w1 c2 bf cb ba=>?_;refine y4 λb3 w2 c3 ae cc bb=>?_;refine yZ qZ λb4 w3 c4 a5 ce bc=>?_;have A3:Blk w3 b2 [nI c.many,lv] zq:=(ba.ext ae).ext a5;have B3:Blk w3 b3 [vp,vw,vl,nI s.code] zw:=bb.ext a5;have R3:Blk w3 b4 [oN,oN,oN,nI 0] zw:=bc;have E3:=bf.trans (ae.trans a5);rw[A3.ldAgg zG];simp only[push_cast,B3.ld0];refine l5Vals_spec (S.ext E3) a3 L.1 (hp.ext E3).ints M λw4 v4 G ak c7=>?_;have E4:=E3.trans G;have A4:=A3.ext G;have B4:=B3.ext G;simp only[push_cast,A4.ldAgg zG,B4.ld2];refine l5Find_spec (S.ext E4) (J.ext E4) ak.ints M L.1 oM ac λw5 k u x H hf=>?_;have E5:=E4.trans H;have A5:=A4.ext H;have X:=B4.ext H;have R5:=(R3.ext G).ext H;have bm:=ak.ext H;have l3:=X.lt;have l4:=R5.lt;have cg:=E5.size;have cf:=G.size;refine oZ ?_;have ones:∀{q E ao:Value} {cd:Int},q.oneCell'=true->E.oneCell'=true->ao.oneCell'=true->∀x,x∈[q,E,ao,nI cd]->x.oneCell'=true:=λh1 h2 h3 x a=>by
  simp only[gk,gE,Gn] at a;rcases a with rfl|rfl|rfl|rfl
  .exact h1
  .exact h2
  .exact h3
  .rfl
 have n:goM many c s=(if 0<=k then jv many c s (atM c s k.toNat) else if 0<=u then{s with put:=s.put++[x],why:=s.why++[u]}
  else if s.put.length=many then{s with code:=1} else{s with put:=s.put++[-(ZQ many s.put:Int)],why:=s.why++[-1]}):=by
  unfold goM;rw[hf]
 have push:∀(W:World) (l y:Int),Ext w W->Blk W b3 [vp,vw,vl,nI s.code] zw->Blk W b4 [oN,oN,oN,nI 0] zw->w5.heap.size<=W.heap.size->goM many c s={s with put:=s.put++[l],why:=s.why++[y]}->
   vbuildS ze 1 [(0,nI l)] W λt39 aq=>vbi .append [ze,ze] ze [vp,t39] aq λt40 ar=>zy ze (oP b3 0) t40 ar λ_ au=>zu ze (oP b3 1) au λt43 av=>
   vbuildS ze 1 [(0,nI y)] av λt45 aw=>vbi .append [ze,ze] ze [t43,t45] aw λt46 ax=>zy ze (oP b3 1) t46 ax λ_ ay=>zu zw (oP b3 0) ay λt48 az=>
   zy zw (oP b4 0) t48 az λ_ b0=>vlv zw (oP b4 0) b0 λan b1=>K an b1:=by
  intro W l y E6 B6 R6 bq ag;have ci:=E6.size;refine zC x8 yG xp rfl rfl λb7 w7 c5 j br a1=>?_;have r:=E6.trans j;refine(hp.ext r).app1 xx a1 oM oM λq w8 U V A=>?_;have nb:∀x,vp.ownBlock=some x->x<w.heap.size:=λx a=>hp.lt a;have nw:∀x,vw.ownBlock=some x->x<w.heap.size:=λx a=>hw.lt a;have B8:=(B6.ext j).same V λe=>by have:=nb _ e;omega
  refine B8.st U.ints.cells1 U.ints.one qe rfl λw9 D bs a2=>?_;have B9:Blk w9 b3 [q,vw,vl,nI s.code] zw:=a2;have bh:=U.same D λx a e=>by rcases A x a with d|d;(have:=nb _ d;omega);omega
  have bo:=((hw.ext r).same V λx a e=>(p x e).2 a).same D λx a e=>by have:=nw _ a;omega
  simp only[push_cast,B9.ld1];have ch:=V.size;refine zC x8 yG xp rfl rfl λc1 w10 bt t bw a8=>?_;refine(bo.ext t).app1 xx a8 oM oM λE cj Q z g=>?_;have b5:=(B9.ext t).same z λe=>by have:=nw _ e;omega
  have ah:=(bh.ext t).same z λx a e=>by
   rcases A x a with d|d
   .exact(p x d).2 e
   .have:=nw _ e;omega
  refine b5.st Q.ints.cells1 Q.ints.one qe rfl λap N bz a9=>?_;have b8:Blk ap b3 [q,E,vl,nI s.code] zw:=a9;have hS:Same (λx=>vp.ownBlock=some x\/vw.ownBlock=some x\/x=b3) w7 ap:=(V.mono λx _ e=> .inl e).trans ((D.mono λx _ e=> .inr (.inr e)).trans ((Same.of_ext t).trans ((z.mono λx _ e=> .inr (.inl e)).trans (N.mono λx _ e=> .inr (.inr e)))));have b9:=(R6.ext j).same hS (by rintro(e|e|e);exact absurd (nb _ e) oM;exact absurd (nw _ e) oM;omega);have Y:=ah.same N λx a e=>by rcases A x a with d|d;(have:=nb _ d;omega);omega
  have bx:=z.size;have a0:=Q.same N λx a e=>by rcases g x a with d|d;(have:=nw _ d;omega);omega
  rw[b8.ldAgg zR];refine b9.stAgg (cs':=[q,E,vl,nI s.code]) rfl zR (ones Y.ints.one a0.ints.one (J3 J)) λa7 O c0 aa=>?_;rw[aa.lv zR];have o:Same (λx=>vp.ownBlock=some x\/vw.ownBlock=some x\/x=b3\/x=b4) w7 a7:=(hS.mono λx _ e=>e.imp id λe=>e.imp id .inl).trans (O.mono λx _ e=> .inr (.inr (.inr e)));have ab:Same (λb=>vp.ownBlock=some b\/vw.ownBlock=some b) w a7:=by
   refine⟨o.os.trans r.os,o.tape.trans r.tape,o.output.trans r.output,gU r.size o.size,λb f hn=>?_⟩;rw[o.block b (by have:=r.size;omega) (by rintro(e|e|e|e);exact hn (.inl e);exact hn (.inr e);omega;omega),r.block b f id]
  have bp:=hS.size;refine hK a7 _ (ab.mono λb _ e=>e.elim (λe=>(p b e).1) (a4 b)) ?_;rw[ag];refine⟨q,E,vl,rfl,Y.same O λx a e=>by rcases A x a with d|d;(have:=nb _ d;omega);omega,a0.same O λx a e=>by rcases g x a with d|d;(have:=nw _ d;omega);omega,λx a=>?_,λx a=>?_,?_⟩
  .rcases A x a with e|e
   .refine⟨.inl (p x e).1,λe2=>?_⟩;rcases g x e2 with e3|e3
    .exact(p x e).2 e3
    .have:=nb _ e;omega
   .refine⟨.inr oM,λe2=>?_⟩;rcases g x e2 with e3|e3
    .have:=nw _ e3;omega
    .have:=U.lt a;omega
  .rcases g x a with e|e
   .exact .inl (a4 x e)
   .exact .inr oM
  .refine(((J.weaken (F':=λb=>(Z b/\vp.ownBlock≠some b/\vw.ownBlock≠some b)/\b<w.heap.size) λb h1 h2=>⟨h1,h2⟩).same ab λb f _ e=>e.elim f.1.2.1 f.1.2.2).weaken λx a _=>⟨.inl a.1.1,λe=>?_,λe=>?_⟩)
   .rcases A x e with d|d
    .exact a.1.2.1 d
    .have:=a.2;omega
   .rcases g x e with d|d
    .exact a.1.2.2 d
    .have:=a.2;omega
 rcases find_cases s.put (c.list++s.learned) with⟨i,u',x',hi,e,be⟩|⟨hn,⟨i,x',hi,e,hu,-⟩|⟨e,-⟩⟩
 .rw[hf,GD,GD] at e;obtain⟨rfl,rfl,rfl⟩:=e;rw[V1] at hi;rw[V0 oM,gu] at n;refine zb (λ_=>?_) (λb=>absurd oM b);refine zd λW I _=>?_;have E6:=E5.trans I;have A6:=A5.ext I;have B6:=X.ext I;simp only[push_cast,A6.ldAgg zG,B6.ldAgg zR,K3];refine l5At_spec (S.ext E6) (bj.ext E6) hi oM λw7 v7 j bn=>?_;have r:=E6.trans j;have A7:=A6.ext j;have B7:=B6.ext j;simp only[push_cast,A7.ldAgg zG,B7.ldAgg zR,K3,gm];refine l5Clash_spec (S.ext r) (bk.below.ext r) bn B a3 hi be λw8 v8 af a6=>?_;have R8:=((R5.ext I).ext j).ext af;have E8:=r.trans af;rw[<-n] at a6;obtain⟨p8,y8,l8,rfl,h8⟩:=a6.sat.fields;refine R8.stAgg (cs':=[p8,y8,l8,nI (goM many c s).code]) rfl zR h8 λw9 D bs a2=>?_;rw[a2.lv zR];refine hK w9 _ (Same.of_ext (Ext.then E8 D λx a=>oM)) ((a6.same D λb f _ e=>?_).weaken λb f _=>?_)
  .have:=r.size;have:=R5.lt;have:=I.size;have:=j.size;rcases f with f|f
   .have:=f.2;omega
   .omega
  .rcases f with f|f
   .exact .inl f.1
   .exact .inr (by have:=r.size;omega)
 .rw[hf,GD,GD] at e;obtain⟨rfl,rfl,rfl⟩:=e;rw[Q1 oM,V0 oM] at n;refine zb (λb=>absurd b oM) (λ_=>zb (λ_=>?_) (λb=>absurd oM b));simp only[push_cast,X.ld0];exact push w5 _ _ E5 X R5 (gz _) n
 .rw[hf,GD,GD] at e;obtain⟨rfl,rfl,rfl⟩:=e;rw[Q1 oM,Q1 oM] at n;refine zb (λb=>absurd b oM) (λ_=>zb (λb=>absurd b oM) (λ_=>?_));have bi:=(hp.ext E5).ints;simp only[push_cast,X.ld0,A5.ld0,bi.len];refine zb (λb=>?_) (λb=>?_)
  .rw[V0 oM] at n;refine X.st rfl rfl yG rfl λW ai bq bd=>?_;have B6:Blk W b3 [vp,vw,vl,nI 1] zw:=bd;rw[B6.ldAgg zR];refine(R5.same ai oM).stAgg (cs':=[vp,vw,vl,nI 1]) rfl zR (ones hp.ints.one hw.ints.one (J3 J)) λw7 bl br a1=>?_;rw[a1.lv zR];have R:Ext w w7:=Ext.then E5 ((ai.mono λx _ e=>(.inl e:x=b3\/x=b4)).trans (bl.mono λx _ e=> .inr e)) λx a=>oM;refine hK w7 _ (Same.of_ext R) ?_;rw[n];exact⟨vp,vw,vl,rfl,hp.ext R,hw.ext R,λb f=>⟨.inl (p b f).1,(p b f).2⟩,λb f=> .inl (a4 b f),(J.ext R).weaken λb f _=>⟨.inl f.1,f.2⟩⟩
  .rw[Q1 oM] at n;obtain⟨f1,f2,f3,f4⟩:=free_spec M oM;have al:=bm.ints;have ca:=signs_len many s.put;refine vloop_up (ZQ many s.put-1) (λi u w'=>u=[nI (i+1:Nat)]/\w'=w5) ⟨rfl,rfl⟩ ?_;rintro i _ _ w5 C hi ⟨rfl,rfl⟩ hC;have aj:=sgn_pos M (m:=((i+1:Nat):Int)) oM;rw[pV] at aj;simp(disch:=exact oS) only[sl0,al.iaddr,gu,al.load];rw[signs_get oM,aj];have am:Zy0 s.put ((i+1:Nat):Int)=0↔placeOf s.put (i+1)=0:=by
    unfold Zy0;rw[pV];by_cases hm:((i+1:Nat):Int)∈s.put
    .rw[V0 hm];have:=placeOf_ne_zero hm;rw[pV] at this;exact⟨λh=>oM,λh=>absurd h this⟩
    .rw[Q1 hm];by_cases T:placeOf s.put (i+1)=0
     .rw[V0 T];simp[T]
     .rw[Q1 T];simp[T]
   simp only[xr0];refine zb (λb6=>?_) (λb6=>?_)
   .have bg:i<ZQ many s.put-1:=by
     refine GS λc6=>b6 (am.2 ?_);have:i+1=ZQ many s.put:=oM;rw[this];exact f3
    simp only[XT];rw[inc64 oM];exact hC bg _ _ ⟨rfl,rfl⟩
   .have bv:i+1=ZQ many s.put:=by
     refine GS λc8=>f4 (i+1) oM oM (am.1 (by simpa using b6))
    have e1:IntKind.i64.wrap (0-((i+1:Nat):Int))= -(ZQ many s.put:Int):=by rw[zi oM oM];omega
    simp(disch:=(simp only[push_cast])) only[zj0,zi0,ym,Gg,X.ld0,ZO0,e1];exact push w5 _ _ E5 X R5 (gz _) n
theorem l5Run_spec {vc:Value} {n:Nat} (hc:CnfR F w vc c) (Z:cnfOk c=true) (D:c.many=many) (hn:n<=4000)
  (hK:∀w' v',Ext w w'->SpR (λb=>w.heap.size<=b) w' v' (runM many c n emptyS)->K v' w'):vcall y60 #[vc,nI n] w K:=by
 refine zf {loops:=[(3,[6])]} Tryz.func79 ?_;have Y:=hc.below;obtain⟨lv,rfl,a4⟩:=hc;refine y4 λb2 w1 a1 h a5 T=>?_;refine yZ qZ λb4 w2 a2 E a6 U=>?_;refine Yx qy0 (us:=[]) rfl rfl ?_;refine yZ qZ λM w3 a3 o a7 V=>?_;have B3:Blk w3 M [oN,oN,oN,nI 0] zw:=V;have A3:Blk w3 b2 [nI c.many,lv] zq:=(T.ext E).ext o;have R3:Blk w3 b4 [oN,oN,oN,nI 0] zw:=U.ext o;refine B3.stAgg (cs':=[oN,oN,oN,nI 0]) rfl zR (λx z=>by simp only[gk,gE,Gn] at z;rcases z with rfl|rfl|rfl|rfl<;>rfl) λH q a8 B=>?_;have E4:Ext w H:=Ext.then (h.trans (E.trans o)) q λx z=>by have:=h.size;omega
 have A4:=A3.same q oM;have R:=R3.same q oM;have aa:=E4.size;have fin:∀(f:World) (p y l:Value),Ext w f->H.heap.size<=f.heap.size->Blk f b4 [oN,oN,oN,nI 0] zw->Blk f M [p,y,l,nI (runM many c n emptyS).code] zw->SpR (λb=>H.heap.size<=b) f (.agg #[p,y,l,nI (runM many c n emptyS).code]) (runM many c n emptyS)->
   zu zw (oP M 0) f λt21 I=>zy zw (oP b4 0) t21 I λ_ J=>vlv zw (oP b4 0) J λr4 L=>K r4 L:=by
  intro f p y l v t A k m;rw[k.ldAgg zR];obtain⟨O,Q,N,e,S⟩:=m.sat.fields;obtain⟨rfl,rfl,rfl⟩:p=O/\y=Q/\l=N:=(by simpa using e);refine A.stAgg (cs':=[p,y,l,nI (runM many c n emptyS).code]) rfl zR S λw6 d a0 W=>?_;rw[W.lv zR];exact hK w6 _ (Ext.then v d λx z=>by have:=h.size;omega) ((m.same d λb g _ e=>by have:=R.lt;omega).weaken λb g _=>oM)
 refine vloop_up n (λi u w'=> ∃p y l,u=[nI i]/\Ext w w'/\H.heap.size<=w'.heap.size/\Blk w' b2 [nI c.many,lv] zq/\Blk w' b4 [oN,oN,oN,nI 0] zw/\Blk w' M [p,y,l,nI (runM many c i emptyS).code] zw/\SpR (λb=>H.heap.size<=b) w' (.agg #[p,y,l,nI (runM many c i emptyS).code]) (runM many c i emptyS))
  ⟨_,_,_,rfl,E4,gz _,A4,R,B,SpR.empty⟩ ?_
 rintro i _ _ f C hi ⟨p,y,l,rfl,v,t,A5,A,k,m⟩ hC;refine oZ ?_;refine zb (λa=>?_) (λa=>?_)
 .simp only[push_cast,k.ld3];refine zb (λb=>?_) (λb=>?_)
  .rw[A5.ldAgg zG,k.ldAgg zR];have G:=run_ok (n:=i) D (empty_ok (many:=many) Z);refine l5Do_spec (Y.ext v) m G D λw6 v6 d s=>?_;have r:goM many c (runM many c i emptyS)=runM many c (i+1) emptyS:=by rw[run_succ];unfold stepM;rw[V0 b]
   rw[r] at s;have l2:=A4.lt;have l4:=R.lt;have l5:=B.lt;have a0:=d.size;have A6:=A5.same d oM;have R6:=A.same d oM;have B6:=k.same d oM;obtain⟨O,Q,N,rfl,S⟩:=s.sat.fields;refine B6.stAgg (cs':=[O,Q,N,nI (runM many c (i+1) emptyS).code]) rfl zR S λw7 j a9 X=>?_;rw[inc64 oM];have E6:Ext w w6:=Ext.then v d λx z=>oM;refine hC oM _ _ ⟨O,Q,N,rfl,Ext.then E6 j λx z=>by have:=h.size;omega,oM,A6.same j oM,R6.same j oM,X,(s.same j λb g _ e=>?_).weaken λb g _=>?_⟩
   .rcases g with g|g<;>omega
   .rcases g with g|g<;>omega
  .have e:runM many c n emptyS=runM many c i emptyS:=by
    rw[show n=i+(n-i) from by omega,run_add,run_stop b]
   rw[<-e] at k m;exact fin f p y l v t A k m
 .have:n=i:=oM;subst this;exact fin f p y l v t A k m
end
end Go.Proofs.YtfnpmncplaibiaaGreatDoor
namespace Go.Proofs.YtfnpmncplaibiaaGreatDoor
open Go Go.Vc Go.Proofs
section
variable {w:World} {K:oK} {F F' D G:oA} {dv tv iv lv:Value} {ds:List M.Dcl} {ts:List M.Tm} {ins:List Bool} {c:M.Cnf}
theorem l9Folds_spec (E:DclsR F w dv ds) (J:TmsR G w tv ts) (s:M.declOk ds=true) (m:∀t,t∈ts->M.sortM ds t≠ -1) (hs:ts.length<=2000000)
  (B:∀w' lv,Ext w w'->TmsR (λ_=>True) w' lv (ts.map (M.foldT ds))->K lv w'):vcall Vy #[dv,tv] w K:=by
 refine zf {loops:=[(3,[5,6])]} Tryz.func42 ?_;refine vbuildS_row (xs:=[]) (us:=[]) (k:=5) xJ qc zr rfl (by simp) dC λb1 w1 D p L o=>?_;have z:LstH (λ_=>False) w1 (.slice (some ⟨b1,0,none⟩) 0 0) []:=⟨[],Blk.ownk (css:=[]) (by rw[jW];exact o) (by simp) rfl dC,rfl,λi hi=>absurd hi (pK _)⟩;refine vloop_up ts.length (λi u w'=> ∃lv H,u=[lv,nI i]/\Ext w w'/\LstH H w' lv ((ts.take i).map (M.foldT ds))/\∀x,lv.ownBlock=some x->w.heap.size<=x/\¬H x)
  ⟨_,_,rfl,p,z,λx c=>⟨by have e:b1=x:=gg c;omega,id⟩⟩ ?_
 rintro i _ _ w2 C hi ⟨lv,H,rfl,d,g,hO⟩ A;have l:=(J.weaken (F':=λx=>G x/\x<w.heap.size) λx a b=>⟨a,b⟩).ext d;simp only[push_cast,l.len];refine zb (λa=>?_) (λa=>?_)
 .have f:i<ts.length:=oM;simp(disch:=exact oS) only[push_cast,l.iaddr];refine l.load zc f λx c=>?_;refine l3Fold_spec _ (E.ext d) s c (m _ (M.getD_mem f _)) λN rv j I=>?_;have z2:=d.size;have z3:=j.size;have llt:∀x,lv.ownBlock=some x->x<w2.heap.size:=λx c=>g.lt c;refine LstH.push (g.ext j) (λx c=>⟨(hO x c).2,λe=>?_⟩) I (by rw[gd,gi];omega) λO y v r n=>?_
  .have:=llt x c;have:=(hO x c).1;rcases e with e|e<;>omega
  try simp only[push_cast]
  rw[inc64' oM];rw[show(ts.take i).map (M.foldT ds)++[M.foldT ds (ts.getD i default)]=(ts.take (i+1)).map (M.foldT ds) by rw[<-XX f,gG];rfl] at n;refine A f _ _ ⟨y,_,rfl,Ext.then (d.trans j) v λx c=>(hO x c).1,n,λx c=>?_⟩;rcases r x c with e|e
  .refine⟨(hO x e).1,λh=>?_⟩;have:=llt x e;have:=(hO x e).1;rcases h.1 with h|h
   .exact(hO x e).2 h
   .rcases h with h|h<;>omega
  .exact⟨oM,λh=>by have:=h.2;omega⟩
 .have q:i=ts.length:=oM;subst q;rw[gF] at g;exact B w2 lv d (g.tms.weaken λ_ _ _=>trivial)
theorem spec_BlastEnv_spec (T:yP0 ds) (H:DclsR F w dv ds) (hi:Bools F' w iv ins) (d:M.declOk ds=true) (hl:ins.length=M.nIn ds)
  (Y:∀w' r,Ext w w'->OwnI ze w' r (M.envB ds ins)->(∀b,r.ownBlock=some b->w.heap.size<=b)->K r w'):vcall KD #[dv,iv] w K:=by
 refine zf {loops:=[(6,[5,6,7]),(10,[6,8,9])],cuts:=[(12292,[])]} Tryz.func81 ?_;obtain⟨a2,a3⟩:=M.nIn_eq d;refine spec_nil λv1 w1 R g A=>?_;refine zp (λu w'=>u=[]/\Ext w1 w') (λC E=>?_) ?_
 .refine spec_DeclOk_spec (H.ext g) T λw2 f=>?_;rw[d];simp only[push_cast,GI,((hi.ext g).ext f).len];refine sbits8_spec (k:=ds.length) d (gz _) (by rw[gF];exact(H.ext g).ext f) λW J=>?_;rw[M.bitT_all];refine oZ ?_;refine zb (λh=>absurd oM h) (λ_=>E _ _ ⟨rfl,f.trans J⟩)
 rintro _ _ w2 ⟨rfl,f⟩;have h4:=(M.decl_iff.1 d).1;have I:=M.dpos d;have L:=M.envB_len ds ins;refine vloop_up ds.length (λi u w'=> ∃r,u=[r,nI (Jy ds i),nI i]/\Ext w w'/\OwnI ze w' r ((M.envB ds ins).take i)/\∀b,r.ownBlock=some b->w.heap.size<=b) ⟨v1,rfl,g.trans f,R.ext f,A⟩ ?_;rintro i _ _ W C a0 ⟨r,rfl,s,p,o⟩ E;have n:=H.ext s;have y:=hi.ext s;simp only[push_cast,n.len];refine zb (λa=>?_) (λa=>?_)
 .have l:i<ds.length:=oM;have U:=M.dcl_wide d l;have q:=off_succ d l;have X:=off_le d (i:=i+1) oM;have het:=envB_take (ins:=ins) I l;obtain⟨wd,m⟩:∃wd:Nat,(ds.getD i (M.nada,0)).2=wd:=⟨_,(PJ oM).symm⟩;rw[m] at U q het;rw[gu] at q het;generalize v:(ins.drop (Jy ds i)).take wd=bs at het;have t:bs.length=wd:=by rw[<-v,gi,pB,hl];omega
  refine vloop_up wd (λj u w'=>u=[nI (Jy ds i+j:Nat),nI (M.msbN (bs.take j)),nI j]/\w'=W) ⟨rfl,rfl⟩ ?_;rintro j _ _ _ C1 hj ⟨rfl,rfl⟩ G;have a1:=M.msb_lt (bs.take j);have a4:2^(bs.take j).length<=2^4:=gY oM (by rw[gi];omega);simp(disch:=exact oS) only[push_cast,n.iaddr,gu,n.load1,m];refine zb (λc=>?_) (λc=>?_)
  .have z:j<wd:=oM;have hg:ins.getD (Jy ds i+j) false=bs.getD j false:=by
    rw[<-v,M.take_getD z,X0,X0,Pn]
   simp(disch:=exact oS) only[push_cast,y.iaddr,gu,y.load,zi];refine XJ ?_;have Z:0<=M.b2i (bs.getD j false)/\M.b2i (bs.getD j false)<=1:=by unfold M.b2i;split<;>omega
   have D:=msb_snoc (bs.take j) (bs.getD j false);rw[<-M.take_add (by omega:j<bs.length) false] at D;rw[show((Jy ds i:Int)+(j:Int)).toNat=Jy ds i+j by omega,hg];simp(disch:=exact oS) only[push_cast,zi];refine G z _ _ ⟨?_,rfl⟩;rw[D,Int.mul_comm 2];simp[Int.add_assoc]
  .have O:j=wd:=oM;subst O;rw[<-t,gF,t];refine push_int p (by rw[gi];omega) λw6 r6 S B Q=>?_;rw[<-het,<-M.take_add oM 0] at B;have z3:=s.size;rw[inc64' oM];refine E l _ _ ⟨r6,by rw[q,Int.natCast_add (Jy ds i)],Ext.then s S λx V=>o x V,B,λx V=>?_⟩;rcases Q x V with e|e
   .exact o x e
   .omega
 .have N:i=ds.length:=oM;subst N;rw[<-L,gF] at p;exact Y W r s p o
theorem ZN0 {put:oI} {i n:Nat} (h:i<n):decide (M.sgnV put (2+i)=1)=(M.insV (M.wayM put) n).getD i false:=by
 rw[M.insV_get h];unfold M.sgnV M.wayM;rw[Nat.add_comm 2 i];by_cases c:((i+2:Nat):Int)∈put
 .rw[V0 c,gC c];rfl
 .rw[Q1 c,gr c];split<;>rfl
theorem l9Search_spec (aa:yP0 ds) (hd:DclsR F w dv ds) (I:M.declOk ds=true) (hc:CnfR G w (.agg #[nI c.many,lv]) c) (f:M.cnfOk c=true) (hn:1+M.nIn ds<=c.many.toNat)
  (hK:∀w' ev,Ext w w'->OwnI ze w' ev (M.searchM 4000 ds c).1->(∀x,ev.ownBlock=some x->w.heap.size<=x)->K (.tuple #[ev,nI (M.searchM 4000 ds c).2]) w'):
  vcall Kw #[dv,.agg #[nI c.many,lv]] w K:=by
 refine zf {loops:=[(7,[8,9])]} Tryz.func43 ?_;obtain⟨ah,ai⟩:=M.nIn_eq I;obtain⟨many,hm⟩:∃many:Nat,c.many=many:=⟨c.many.toNat,oM⟩;have a4:c.many.toNat=many:=oM
 have B:many<=700:=by
  have:=f;unfold M.cnfOk at this;simp only[gl,gh] at this;omega
 refine y4 λb1 w1 ac z al a0=>?_;have A1:Blk w1 b1 [nI c.many,lv] zq:=a0;rw[A1.ldAgg zG];refine l5Run_spec (many:=many) (n:=4000) (hc.ext z) f hm (gz _) λw2 v2 A v=>?_;have z1:=z.size;have z2:=A.size;have T:=(M.run_ok (n:=4000) hm (M.empty_ok (many:=many) f)).mks;refine yZ qZ λb4 w3 ad a5 am a1=>?_;have d:M.searchM 4000 ds c=if(M.runM many c 4000 M.emptyS).code=1 then(M.envB ds (M.insV (M.wayM (M.runM many c 4000 M.emptyS).put) (M.nIn ds)),1) else if(M.runM many c 4000 M.emptyS).code=2 then([],2) else([],3):=by rw[<-a4];rfl
 generalize M.searchM 4000 ds c=sr at d hK;generalize M.runM many c 4000 M.emptyS=s at v d T;obtain⟨p,y,l,rfl,h8⟩:=v.sat.fields;obtain⟨p',y',l',e',hp,_,aj,_,_⟩:=v;obtain⟨rfl,rfl,rfl⟩:p=p'/\y=y'/\l=l':=by simpa using e'
 have R3:Blk w3 b4 [oN,oN,oN,nI 0] zw:=a1;refine R3.stAgg (cs':=[p,y,l,nI s.code]) rfl zR h8 λw4 a9 an Q=>?_;have q:Ext w2 w4:=Ext.then a5 a9 λx J=>oM
 have N:=(z.trans A).trans q;have A4:=A1.ext (A.trans q);simp only[push_cast,Q.ld3];refine zb (λa=>?_) (λa=>?_)
 .rw[V0 a] at d;subst d;rw[A4.ldAgg zG];simp only[push_cast,Q.ld0];refine l5Vals_spec (hc.ext N) hm B (hp.ext q).ints T λL v5 g ab o=>?_;have Z:=N.trans g;have z5:=Z.size;refine y7 yX0 zB0 λb6 w6 ae a6 ao a3=>?_;have a8:OwnB xw w6 (.slice (some ⟨b6,0,none⟩) 0 0) []:=Blk.own1 (t:=xw) (cs:=[]) (by rw[K5];exact a3) (gW _) rfl rfl oM;refine vloop_up (M.nIn ds) (λi u w'=> ∃r,u=[r,nI i]/\Ext L w'/\OwnB xw w' r ((M.insV (M.wayM s.put) (M.nIn ds)).take i)/\∀b,r.ownBlock=some b->L.heap.size<=b) ⟨_,rfl,a6,a8,λb R=>by have e:b6=b:=gg R;omega⟩ ?_;rintro i _ _ w7 C hi ⟨r,rfl,e7,E,V⟩ hC;refine sbits8_spec (k:=ds.length) I (gz _) (by rw[gF];exact hd.ext (Z.trans e7)) λw8 m=>?_;rw[M.bitT_all];refine oZ ?_;have O:=e7.trans m;have hlen:=M.insV_len (M.wayM s.put) (M.nIn ds);refine zb (λa=>?_) (λa=>?_)
  .have S:i<M.nIn ds:=oM;have Y:=(ab.ext O).ints;have ak:=M.signs_len many s.put;simp(disch:=exact oS) only[push_cast,zi,Y.iaddr,Y.load];rw[show((2:Int)+(i:Int)).toNat=2+i by omega,M.signs_get oM,ZN0 S];refine one_bool λw9 b9 af j H=>?_;refine OwnV.app (us:=[.bool ((M.insV (M.wayM s.put) (M.nIn ds)).getD i false)]) ((E.ext m).ext j) UN H.bools (by simp[Value.oneCell']) (by simp only[gd,gL,gi];omega) (by simp only[gd,gL,gi];omega) λv10 w10 W X U=>?_;have z8:=m.size;have z9:=j.size;have z7:=e7.size;refine hC S _ _ ⟨v10,rfl,Ext.then (O.trans j) X λb R=>V b R,?_,λb R=>?_⟩
   .rw[M.take_add oM false];unfold OwnB;rw[gG];exact W
   .rcases U b R with h|h
    .exact V b h
    .omega
  .have ag:i=M.nIn ds:=oM;rw[gI oM] at E;refine spec_BlastEnv_spec aa (hd.ext (Z.trans O)) (E.ext m).bools I hlen λw9 r9 j H a7=>?_;have z8:=O.size;exact hK w9 r9 (Z.trans (O.trans j)) H λx J=>by have:=a7 x J;omega
 .rw[Q1 a] at d;have z4:=N.size;refine zb (λa2=>?_) (λa2=>?_)
  .rw[V0 a2] at d;subst d;exact spec_nil λv5 L D g o=>hK L v5 (N.trans g) D λx J=>by have:=o x J;omega
  .rw[Q1 a2] at d;subst d;exact spec_nil λv5 L D g o=>hK L v5 (N.trans g) D λx J=>by have:=o x J;omega
end
section
variable {ds:List M.Dcl} {ts:List M.Tm} {t:M.Tm}
theorem jd (h:all8 ds ts=true):M.declOk ds=true/\M.sorted0 ds ts/\ts.length<=8:=
 ⟨(all8_iff.1 h).2.1,λt a=>(Q2 ((all8_iff.1 h).2.2 t a)).1,(all8_iff.1 h).1⟩
end
section
variable {ds:List M.Dcl} {ts:List M.Tm} {e:oI} {nots W:List (oI)} {f n m k:Nat}
def waysG (ds:List M.Dcl) (ts:List M.Tm):Nat->List (oI)->List (oI)×Int
 |0,l=>(l,1)
 |f+1,l=>if(yu ds ts l).2=1 then waysG ds ts f (l++[(yu ds ts l).1]) else(l,(yu ds ts l).2)
def xG (ds:List M.Dcl) (ts:List M.Tm) (most:Int):List (oI)×Int:=if all8 ds ts=true/\0<=most/\most<=20 then waysG ds ts most.toNat [] else([],4)
def WaysP (ds:List M.Dcl) (ts:List M.Tm) (W:List (oI)):Prop:=∀i,i<W.length->(yu ds ts (W.take i)).2=1/\(yu ds ts (W.take i)).1=W.getD i []
theorem WaysP.next (h:WaysP ds ts W) (a:(yu ds ts W).2=1):WaysP ds ts (W++[(yu ds ts W).1]):=by
 intro i hi;rw[V1,gL] at hi;by_cases c:i<W.length
 .rw[GR oM,X0,gK c,<-X0];exact h i c
 .have:i=W.length:=oM;subst this;rw[GR (gz _),gF,X0,gX (gz _),GH];exact⟨a,rfl⟩
theorem waysG_says:∀(f:Nat) (l:List (oI)),WaysP ds ts l->WaysP ds ts (waysG ds ts f l).1/\(((waysG ds ts f l).2=1/\(waysG ds ts f l).1.length=l.length+f)\/((waysG ds ts f l).2=(yu ds ts (waysG ds ts f l).1).2/\(waysG ds ts f l).2≠1/\(waysG ds ts f l).1.length<l.length+f))
 |0,l,h=>⟨h,.inl ⟨rfl,rfl⟩⟩
 |f+1,l,h=>by
  unfold waysG;split
  .next c=>
   obtain⟨a,b⟩:=waysG_says f _ (h.next c);rw[V1,gL,show l.length+1+f=l.length+(f+1) by omega] at b;exact⟨a,b⟩
  .next c=>exact⟨h,.inr ⟨rfl,c,by show l.length<_;omega⟩⟩
theorem Wu (a:all8 ds ts=true):yu ds ts nots=M.solveM 4000 ds ts nots:=V0 a
theorem nots_le (a:all8 ds ts=true) (b:nots.length<=80):ts.length+nots.length<=90:=by have:=(all8_iff.1 a).1;omega
theorem ways_env (c:all8 ds ts=true) (h:WaysP ds ts W) (f:W.length<=80):∀i:Nat,i<=W.length->∀e,e∈W.take i->M.envOk ds e=true
 |0,_,e,he=>by simp at he
 |i+1,hi,e,he=>by
  rw[M.take_add (by omega:i<W.length) []] at he;have d:=ways_env c h f i oM;rcases gq.1 he with he|he
  .exact d e he
  .obtain⟨a,b⟩:=h i oM;obtain⟨p,q,r⟩:=jd c;rw[Wu c] at a b;rw[gD.1 he,<-b];exact(M.solve_yes p q d (nots_le c (by rw[gi];omega)) a).1.1
def WU (ds:List M.Dcl) (W:List (oI)):Nat->Int
 |0=>0
 |i+1=>M.rankE ds (W.getD i [])+1
theorem ways_all (f:all8 ds ts=true) (h:WaysP ds ts W) (j:W.length<=80):∀i:Nat,i<=W.length->∀e,M.envOk ds e=true->M.allT ds e ts->(e∈W.take i↔M.rankE ds e<WU ds W i)
 |0,_,e,he,_=>by
  have:0<=M.rankE ds e:=by rw[M.rank_env he];omega
  simp[WU,this]
 |i+1,hi,e,he,k=>by
  have l:=ways_all f h j i oM;have g:=ways_env f h j i oM;obtain⟨a,b⟩:=h i oM;obtain⟨p,q,r⟩:=jd f;rw[Wu f] at a b;obtain⟨⟨s1,s2,s3⟩,m⟩:=M.solve_yes p q g (nots_le f (by rw[gi];omega)) a;rw[b] at s1 s2 s3 m;have n:WU ds W i<=M.rankE ds (W.getD i []):=Int.not_lt.1 λc=>s3 ((l _ s1 s2).2 c);rw[M.take_add (by omega:i<W.length) [],gq,gD];show _↔_<M.rankE ds (W.getD i [])+1;constructor
  .rintro(c|c)
   .have:=(l e he k).1 c;omega
   .rw[c];omega
  .intro c;by_cases d:e∈W.take i
   .exact .inl d
   .have:=m e ⟨he,k,d⟩;exact .inr (M.rank_inj he s1 oM)
end
section
variable {w:World} {K:oK} {D F G H:oA} {dv tv v ev:Value} {ds:List M.Dcl} {ts:List M.Tm} {t:M.Tm} {env:oI} {xs:List Nat}
theorem kD0 (he:M.envOk ds env=true) (h:M.tsort ds t=0):M.tok ds t env=true/\M.teval ds t env=M.evalM ds env t:=by
 obtain⟨a,b,_⟩:=Q2 h;have:=YH0 he (by rw[a];decide) b;exact⟨this,by unfold M.teval;rw[V0 this]⟩
instance (ds:List M.Dcl) (e:oI) (ts:List M.Tm):Decidable (M.allT ds e ts):=by unfold M.allT;infer_instance
theorem kP0:Ints F w (oN) []:=(OwnI.ints (xs:=[]) (show OwnI ze w (oN) [] from Own.nil 0 1 ze w)).weaken λ_ h=>by cases h
theorem zN0 (h:M.envOk ds env=true):M.rankE ds env<QZ ds:=by
 have c:=(M.env_ok h).1;obtain⟨a,b⟩:=M.nIn_eq c;have:=M.msb_lt (M.insM ds env);rw[M.rank_env h];unfold QZ;rw[V0 c,<-a,gu];rw[M.insM_n h] at this
 exact_mod_cast this
theorem wpTrueB_spec (o:DclsR F w dv ds) (p:TmsR G w tv ts) (he:Ints H w ev env) (hs:ts.length<=1000) (r:∀t,t∈ts->M.tsort ds t=0) (g:M.envOk ds env=true)
  (j:∀w',Ext w w'->K (.bool (decide (M.allT ds env ts))) w'):vcall Uw #[dv,tv,ev] w K:=by
 refine zf {loops:=[(2,[7])]} Tryz.func61 ?_;refine vloop_up ts.length (λi u w'=>u=[nI i]/\Ext w w'/\M.allT ds env (ts.take i)) ⟨rfl,Same.refl _ _,by simp[M.allT]⟩ ?_;rintro i _ _ w1 C hi ⟨rfl,b,k⟩ n;have e:=p.ext b;simp only[push_cast,e.len];refine zb (λa=>?_) (λa=>?_)
 .have d:i<ts.length:=oM;simp(disch:=exact oS) only[push_cast,e.iaddr,gu];refine e.load zc d λx q=>?_;refine zv0 (o.ext b) q (he.ext b) λw2 f=>?_;have hm:=M.getD_mem d default;obtain⟨l,m⟩:=kD0 g (r _ hm);rw[l,m];simp only[push_cast,GI];refine zb (λh=>?_) (λh=>?_)
  .have:=j w2 (b.trans f);rwa[gr (λc:M.allT ds env ts=>h (c _ hm))] at this
  .rw[inc64' oM];refine n d _ _ ⟨rfl,b.trans f,?_⟩;rw[<-XX d];exact M.allT_app.2 ⟨k,M.allT_one.2 (Gw h)⟩
 .have:=j w1 b;rwa[gC (by rwa[gI oM] at k)] at this
def k50 (ds:List M.Dcl) (ts:List M.Tm) (k:Int) (env:oI) (j:Int):Prop:=
 (k<=j/\M.envOk ds env=true/\M.rankE ds env=j/\M.allT ds env ts/\∀e,M.envOk ds e=true->M.allT ds e ts->k<=M.rankE ds e->j<=M.rankE ds e)\/
 (j= -1/\env=[]/\∀e,M.envOk ds e=true->M.allT ds e ts->M.rankE ds e<k)
theorem wpFirst_spec {k:Int} (r:DclsR F w dv ds) (E:TmsR G w tv ts) (hs:ts.length<=1000) (H:∀t,t∈ts->M.tsort ds t=0) (p:M.declOk ds=true) (J:0<=k)
  (A:∀w' ev env j,Ext w w'->Ints (λ_=>True) w' ev env->k50 ds ts k env j->K (.tuple #[ev,nI j]) w'):vcall VQ #[dv,tv,nI k] w K:=by
 refine zf {loops:=[(3,[9])]} Tryz.func21 ?_;refine EnvMany_spec r λw1 s=>?_;have hm:=manyE_le ds;have y:QZ ds=2^(M.bits ds).toNat:=by unfold QZ;rw[V0 p]
 refine qA (λn u w'=> ∃j:Int,u=[nI j]/\k<=j/\n=(QZ ds-j).toNat/\Ext w w'/\∀e,M.envOk ds e=true->M.allT ds e ts->k<=M.rankE ds e->j<=M.rankE ds e) _
  ⟨k,rfl,pn _,rfl,s,λe _ _ h=>h⟩ ?_
 rintro n _ _ w2 C ⟨j,rfl,x,rfl,g,z⟩ D;refine oZ ?_;refine zb (λa=>?_) (λa=>?_)
 .refine EnvAll_spec (r.ext g) p oM oM λL ev env v o _ b B=>?_;refine oZ ?_;have f:=g.trans v;refine wpTrueB_spec (r.ext f) (E.ext f) o.ints hs H b λI m=>?_;have l:=f.trans m;refine zb (λc=>?_) (λc=>?_)
  .exact A I ev env j l ((o.ints.ext m).weaken λ_ _ _=>trivial) (.inl ⟨x,b,B,c,λe d i q=>z e d i q⟩)
  .rw[zi oM oM];refine D (QZ ds-(j+1)).toNat _ _ oM ⟨j+1,rfl,oM,rfl,l,λe d i q=>?_⟩
   .have:=z e d i q;have:M.rankE ds e≠j:=λh=>c (by rw[M.rank_inj b d (by rw[B,h])];exact i);omega
 .refine A w2 _ [] (-1) g kP0 (.inr ⟨rfl,rfl,λe d i=>?_⟩);have:=zN0 d;have:=z e d i;omega
end
section
variable {ds:List M.Dcl} {env:oI}
theorem rank_nat (h:M.envOk ds env=true):0<=M.rankE ds env:=by rw[M.rank_env h];omega
end
section
variable {ds:List M.Dcl} {ts:List M.Tm} {env e:oI} {W:List (oI)} {i:Nat} {j k:Int}
theorem ways_one (c:all8 ds ts=true) (h:WaysP ds ts W) (l:W.length<=80) (hi:i<W.length):
  M.envOk ds (W.getD i [])=true/\M.allT ds (W.getD i []) ts/\W.getD i []∉W.take i/\∀e,M.envOk ds e=true->M.allT ds e ts->e∉W.take i->M.rankE ds (W.getD i [])<=M.rankE ds e:=by
 obtain⟨a,b⟩:=h i hi;obtain⟨p,q,r⟩:=jd c;have d:=ways_env c h l i oM;rw[Wu c] at a b;obtain⟨⟨s1,s2,s3⟩,f⟩:=M.solve_yes p q d (nots_le c (by rw[gi];omega)) a;rw[b] at s1 s2 s3 f;exact⟨s1,s2,s3,λe g j k=>f e ⟨g,j,k⟩⟩
theorem rankN_nat (a:all8 ds ts=true) (h:WaysP ds ts W) (b:W.length<=80):∀i:Nat,i<=W.length->0<=WU ds W i
 |0,_=>pn _
 |i+1,hi=>by
  have:=rank_nat (ways_one a h b (i:=i) oM).1;show 0<=M.rankE ds (W.getD i [])+1;omega
theorem ways_first (b:all8 ds ts=true) (h:WaysP ds ts W) (e:W.length<=80) (hi:i<W.length) (g:k50 ds ts (WU ds W i) env j):env=W.getD i []/\0<=j/\j+1=WU ds W (i+1):=by
 obtain⟨s1,s2,s3,l⟩:=ways_one b h e hi;have a:=ways_all b h e i oM;have d:WU ds W i<=M.rankE ds (W.getD i []):=Int.not_lt.1 λc=>s3 ((a _ s1 s2).2 c);have m:=rankN_nat b h e i oM;show _/\_/\j+1=M.rankE ds (W.getD i [])+1;rcases g with⟨b1,b2,b3,b4,f⟩|⟨_,_,b3⟩
 .have k:env∉W.take i:=λc=>by have:=(a _ b2 b4).1 c;omega
  have n:=l env b2 b4 k;have o:=f _ s1 s2 d;refine⟨M.rank_inj b2 s1 oM,oM,oM⟩
 .have:=b3 _ s1 s2;omega
theorem ways_none (b:all8 ds ts=true) (h:WaysP ds ts W) (e:W.length<=80) (f:(yu ds ts W).2=2) (g:k50 ds ts (WU ds W W.length) env j):j= -1:=by
 have a:=ways_all b h e W.length (gz _);have d:=ways_env b h e W.length (gz _);rw[gF] at a d;obtain⟨p,q,r⟩:=jd b;rw[Wu b] at f;rcases g with⟨b1,b2,b3,b4,i⟩|⟨b1,_,_⟩
 .refine absurd ⟨b2,b4,λc=>?_⟩ ((M.solve_no p q d (nots_le b e) f).2 env);have:=(a _ b2 b4).1 c;omega
 .exact b1
theorem waysR_says {most:Int} (e:all8 ds ts=true) (c:0<=most) (d:most<=20):WaysP ds ts (xG ds ts most).1/\(((xG ds ts most).2=1/\((xG ds ts most).1.length:Int)=most)\/
  ((xG ds ts most).2=(yu ds ts (xG ds ts most).1).2/\(xG ds ts most).2≠1/\((xG ds ts most).1.length:Int)<most)):=by
 unfold xG;rw[V0 ⟨e,c,d⟩];obtain⟨a,b⟩:=waysG_says (ds:=ds) (ts:=ts) most.toNat [] (λi hi=>absurd hi (pK _));refine⟨a,?_⟩;rcases b with⟨b1,b2⟩|⟨b1,b2,b3⟩
 .exact .inl ⟨b1,by rw[b2];simp;omega⟩
 .exact .inr ⟨b1,b2,by simp at b3;omega⟩
theorem j3 {most:Int} (h: ¬(all8 ds ts=true/\0<=most/\most<=20)):xG ds ts most=([],4):=Q1 h
end
section
variable {w w' w1 w2:World} {K:oK} {F F' D G H S:oA} {N n b k p:Nat} {v lv tv dv nv ev x5 f:Value} {xs:oI} {ls:List Value} {t:M.Tm} {ts:List M.Tm} {ds:List M.Dcl} {c:M.Cnf} {nots:List (oI)} {ar ab at_ an am:Addr}
theorem CnfO.push {K:oK} (h:CnfO N w lv ls c) (n:OwnI ze w v xs) (m:∀x,v.ownBlock=some x->N<=x/\lv.ownBlock≠some x/\∀i,i<c.list.length->(ls.getD i undef).ownBlock≠some x) (C:ls.length<=100000)
  (u:∀w' g,Same (λx=>lv.ownBlock=some x) w w'->CnfO N w' g (ls++[v]) ⟨c.many,c.list++[xs]⟩->(∀x,g.ownBlock=some x->lv.ownBlock=some x\/w.heap.size<=x)->K g w'):vbuildS zn 1 [(0,v)] w λs w1=>vbi .append [zn,zn] zn [lv,s] w1 K:=by
 refine zC kg qe ZS rfl n.ints.cells1 λb3 D y b A o=>?_;have z3:=b.size;have q:=h.rows.nle;refine OwnV.app1 (h.lst.ext b) jB o n.ints.one oM oM λv4 B p f d=>?_;refine u B v4 ((Same.of_ext b).trans f) (?_:CnfO _ _ _ _ _) λx a=>(d x a).imp id λh=>oM
 refine⟨p,by rw[V1,V1,h.len];rfl,λx a=>?_,?_⟩
 .rcases d x a with e|e
  .exact h.dl x e
  .omega
 .have l:RowsR N (λx=>lv.ownBlock≠some x/\x<w.heap.size) w ls c.list:=h.rows.weaken λx r _ t=>⟨r,t⟩;refine RowsR.snoc (((l.ext b).same f λx a _ e=>a.1 e).weaken λx a _ _ e=>?_) h.len ((n.ext b).same f λx a e=>(m x a).2.1 e) (λx a=>⟨λe=>?_,(m x a).1⟩) λj x z a e=>(m x e).2.2 j z a
  .rcases d x e with k|k
   .exact a.1 k
   .have:=a.2;omega
  .rcases d x e with k|k
   .exact(m x a).2.1 k
   .have:=n.lt a;omega
theorem xJ0 {i:Nat} (hi:i<(M.insM ds xs).length):(M.exC ds xs).take i++[if(M.insM ds xs).getD i false then-(2+(i:Int)) else 2+i]=(M.exC ds xs).take (i+1):=by
 rw[M.take_add (by unfold M.exC;rw[M.exK_len];exact hi) 0];unfold M.exC;rw[M.exK_get hi]
theorem jobExcl_spec (V:Blk w b [dv,tv,nv,nI c.many,lv,x5] zW) (hO:CnfO N w lv ls c) (af:b<N) (hd:DclsR F w dv ds) (aa:Lists F w nv nots) (hF:∀x,F x->x<b) (ab:∀e,e∈nots->M.envOk ds e=true) (hl:c.list.length+nots.length<=100000)
  (hK:∀w' k ls',Same (λx=>x=b\/N<=x) w w'->Blk w' b [dv,tv,nv,nI c.many,k,x5] zW->CnfO N w' k ls' (qV c ds nots)->K .nilIface w'):vcall qJ #[oP b 0] w K:=by
 refine zf {loops:=[(2,[13]),(6,[5,24])]} Tryz.func152 ?_;have lb:=V.lt;have ac:=hO.rows.nle;obtain⟨cs,ag,H,a3⟩:=aa;simp only[push_cast,V.ld2,H.len];refine vloop_up nots.length (λi u w'=> ∃k ls',u=[nI i]/\Same (λx=>x=b\/N<=x) w w'/\Blk w' b [dv,tv,nv,nI c.many,k,x5] zW/\CnfO N w' k ls' (qV c ds (nots.take i)))
  ⟨lv,ls,rfl,Same.refl _ _,V,by rw[show qV c ds (nots.take 0)=c from Zk0];exact hO⟩ ?_
 rintro i _ _ w3 C hi ⟨S,D,rfl,g,t,d⟩ hC;refine oZ ?_;have z3:=g.size;refine zb (λa=>?_) (λa=>?_)
 .have m:i<nots.length:=oM;have o:=H.same g λx f _ e=>by have:=hF x f;omega
  have a4:=hd.same g λx f _ e=>by have:=hF x f;omega
  have a5:=(a3 i m).same g λx f _ e=>by have:=hF x f;omega
  have h:=ab _ (M.getD_mem m []);simp(disch:=exact oS) only[push_cast,o.iaddr,o.load,gu];simp only[push_cast,t.ld0];refine BlastIns_spec a4 a5 h λw4 iv l a7 ad=>?_;have z4:=l.size;have I:=a7.bools;have hlen:=M.insM_n h;obtain⟨ai,aj⟩:=M.nIn_eq (M.env_ok h).1;simp only[push_cast,I.len];generalize z:M.insM ds (nots.getD i [])=bs at*;refine vloop_up bs.length (λj u w'=> ∃r,u=[r,nI j]/\Ext w4 w'/\OwnI ze w' r ((M.exC ds (nots.getD i [])).take j)/\∀x,r.ownBlock=some x->w4.heap.size<=x)
   ⟨_,rfl,Same.refl _ _,OwnI.nil,λx f=>by cases f⟩ ?_
  rintro j _ _ w5 C1 hj ⟨r,rfl,E,B,A⟩ Y;have z5:=E.size;refine oZ ?_;refine zb (λa1=>?_) (λa1=>?_)
  .have J:j<bs.length:=oM;have p:=I.ext E;have R:=xJ0 (ds:=ds) (xs:=nots.getD i []) (i:=j) (by rw[z];exact J);rw[z] at R;simp(disch:=exact oS) only[push_cast,p.iaddr,p.load,gu];have next:∀{x:Int},x=(if bs.getD j false then-(2+(j:Int)) else 2+j)->vbuildS ze 1 [(0,nI x)] w5 λs w1=>vbi .append [ze,ze] ze [r,s] w1 λt35 U=>C1 [t35,nI ((j:Int)+1)] U:=λ{x} f=>by
    refine push_int B (by rw[gi];omega) λw6 r6 n O a9=>?_;rw[f,R] at O;rw[show(j:Int)+1=((j+1:Nat):Int) by omega];refine Y J _ _ ⟨r6,rfl,Ext.then E n λy hy=>A y hy,O,λy hy=>?_⟩;rcases a9 y hy with e|e
    .exact A y e
    .omega
   refine zm (λa2=>?_) (λa0=>?_)
   .simp(disch:=omega) only[push_cast,zi];exact next (by rw[V0 a2];exact(by omega:(0:Int)-((j:Int)+2)= -(2+(j:Int))))
   .simp(disch:=omega) only[push_cast,zi];exact next (by rw[Q1 (by rw[a0];decide)];exact Int.add_comm _ _)
  .have ah:j=bs.length:=oM;have ak:(M.exC ds (nots.getD i [])).length=bs.length:=by unfold M.exC;rw[M.exK_len,z]
   rw[gI oM] at B;have G:=(t.ext l).ext E;have Z:=(d.ext l).ext E;show zu zn (oP b 4) w5 _;simp(disch:=(simp only[push_cast])) only[G.ld4];have a8:D.length<=100000:=by
    rw[d.len];unfold qV;rw[V1,gd,gi];omega
   have ae:=d.rows.nle;refine Z.push B (λx f=>?_) a8 λw6 T n v _=>?_
   .have:=A x f;exact⟨oM,λe=>by have:=d.lst.lt e;omega,λq hq e=>by have:=(d.rows.own q hq).lt e;omega⟩
   have L:∀x,S.ownBlock=some x->N<=x:=d.dl;have W:=G.same n λe=>by have:=L _ e;omega
   show zy zn (oP b 4) T w6 _;refine W.st (i:=4) v.lst.vals.cells1 v.lst.vals.one jx rfl λw7 Q al X=>?_;rw[inc64' oM];refine hC m _ _ ⟨T,D++[r],rfl,?_,X,?_⟩
   .exact g.trans (((Same.of_ext (l.trans E)).trans (n.mono λx _ f=> .inr (L x f))).trans (Q.mono λx _ f=> .inl f))
   .have e:qV c ds (nots.take (i+1))=⟨(qV c ds (nots.take i)).many,(qV c ds (nots.take i)).list++[M.exC ds (nots.getD i [])]⟩:=by
     unfold qV;rw[M.take_add m [],gG,<-Gd];rfl
    rw[e];exact v.same Q λx f _ e=>oM
 .have a6:i=nots.length:=oM;subst a6;rw[gF] at d;exact hK w3 S D g t d
def JobN (w0:World) (b N:Nat) (dv tv nv:Value) (ds:List M.Dcl) (ts:List M.Tm) (nots:List (oI)) (w:World):oA
 |0=>Blk w b [dv,tv,nv,nI 0,.slice none 0 0,.slice none 0 0] zW
 |1=>(∀t,t∈ts->M.tsort ds t=0)/\∃tv',Blk w b [dv,tv',nv,nI 0,.slice none 0 0,.slice none 0 0] zW/\TmsR (λx=>w0.heap.size<=x/\x≠b) w tv' (ts.map (J6 ds))
 |2=>all8 ds ts=true/\(cnfE ds (ts.map (M.foldT ds))).2=0/\∃tv' lv ls,Blk w b [dv,tv',nv,nI (cnfE ds (ts.map (M.foldT ds))).1.many,lv,.slice none 0 0] zW/\CnfO N w lv ls (cnfE ds (ts.map (M.foldT ds))).1
 |4=>(yu ds ts nots).2=1/\∃tv' y z ev,Blk w b [dv,tv',nv,y,z,ev] zW/\OwnI ze w ev (yu ds ts nots).1/\∀x,ev.ownBlock=some x->w0.heap.size<=x
 |_=>all8 ds ts=true/\(cnfE ds (ts.map (M.foldT ds))).2=0/\∃tv' lv ls,Blk w b [dv,tv',nv,nI (cnfE ds (ts.map (M.foldT ds))).1.many,lv,.slice none 0 0] zW/\CnfO N w lv ls (qV (cnfE ds (ts.map (M.foldT ds))).1 ds nots)
theorem X30 (d:DclsR F w' dv ds) (f:TmsR G w' tv ts) (e:Lists H w' nv nots):yi zW [(0,dv),(1,tv),(2,nv)] w K=K (.agg ⟨[dv,tv,nv,nI 0,oN,oN]⟩) w:=by
 obtain⟨a,c,rfl,_⟩:=d.shape;obtain⟨_,h,_⟩:=f;obtain⟨g,c',rfl,_⟩:=h.shape;obtain⟨_,_,b,_⟩:=e;obtain⟨a2,c2,rfl,_⟩:=b.shape;exact X10
theorem solvedN_spec (hd:DclsR F w dv ds) (T:TmsR G w tv ts) (o:Lists H w nv nots) (hs:ts.length<=2000000) (U:nots.length<=80) (Q:∀e,e∈nots->M.envOk ds e=true) (er:Er w at_ an am ar ab)
  (hK:∀w' ev,Ext w w'->OwnI ze w' ev (yu ds ts nots).1->(∀x,ev.ownBlock=some x->w.heap.size<=x)->K (.tuple #[ev,nI (yu ds ts nots).2]) w'):vcall UA #[dv,tv,nv] w K:=by
 refine zf {loops:=[(3,[19])]} Tryz.func71 ?_;rw[X30 hd T o];refine zk λb w1 hb W aa a1=>?_;refine stages_spec λw2 b2 a9 N J=>?_;have z1:=W.size;have z2:=N.size;have ac:b2<w2.heap.size:=by
  obtain⟨_,_,e,_,_,hc⟩:=J.shape;obtain⟨q1,q2,q3,q4,q5,_⟩:=hc (by simp[xx0]);omega
 have e2:=W.trans N;have a2:=a1.ext N;have out:∀{w':World} {k:Int},Ext w w'->yu ds ts nots=([],k)->K (.tuple #[oN,nI k]) w':=λ{w' k} he h=>by
  have:=hK w' (oN) he;rw[h] at this;exact this OwnI.nil λx s=>(by cases s)
 simp only[push_cast,J.len];rw[show xx0.length=4 from rfl];refine vloop_up 4 (λi u w'=>u=[nI i]/\Ext w w'/\Same (λx=>x=b\/b2<x) w2 w'/\JobN w b (b2+1) dv tv nv ds ts nots w' i) ⟨rfl,e2,Same.refl _ _,a2⟩ ?_;rintro i _ _ B C hi ⟨rfl,j,R,S⟩ hC;have q:=er.ext j;have A:=(hd.weaken (F':=λx=>x<w.heap.size) λx _ h=>h).ext j;have a4:=(T.weaken (F':=λx=>x<w.heap.size) λx _ h=>h).ext j;have V:=J.same R λx s _ e=>oM
 have z3:=R.size;refine oZ ?_;refine zb (λa=>?_) (λa=>?_)
 .have Y:i<4:=oM;rw[V.iaddr Zh oM (by show(i:Int)<4;omega),gu,V.load Z3 (by exact Y)];have next:∀{f:World},Same (λx=>x=b\/b2<x) B f->JobN w b (b2+1) dv tv nv ds ts nots f (i+1)->C [nI (IntKind.i64.wrap ((i:Int)+1))] f:=λ{f} d h4=>by
   rw[inc64' oM];exact hC Y _ _ ⟨rfl,Ext.then j d λy hy=>oM,R.trans d,h4⟩
  have nextb:∀{f:World},Same (· =b) B f->JobN w b (b2+1) dv tv nv ds ts nots f (i+1)->C [nI (IntKind.i64.wrap ((i:Int)+1))] f:=λ{f} d h4=>next (d.mono λx _ s=> .inl s) h4
  have I:∀{f:World},Same (· =b) B f->Ext w f:=λ{f} d=>Ext.then j d λy hy=>oM;have two:∀{f:World},Ext w f->¬all8 ds ts=true->K (.tuple #[oN,nI 4]) f:=λhe h=>out he (q00 h);rcases(by omega:i=0\/i=1\/i=2\/i=3) with rfl|rfl|rfl|rfl
  .show vcall ku #[oP b 0] B _;refine jobFold_spec (show Blk B b [dv,tv,nv,nI 0,oN,oN] zW from S) A a4 (λx s=>oM) hs q.terms (λt T h f l=>?_) λn f a8 d g a5=>?_
   .have D:=j.trans l;exact switch_spec (er.ext D) 2 (λh=>by cases h) (λh=>by cases h) (λ_=>two D λm=>h ((all8_iff.1 m).2.2 t T)) (λh=>by cases h) (λh=>oM)
   .have z3:=j.size;exact switch_spec (er.ext (I d)) 0 (λ_=>nextb d ⟨n,a8,g,a5.weaken λx s _=>⟨oM,by have:=S.lt;omega⟩⟩) (λh=>by cases h) (λh=>by cases h) (λh=>by cases h) (λh=>oM)
  .obtain⟨n,p,r,a0⟩:=S;show vcall jy #[oP b 0] B _;refine jobBlast_spec r A a0 q.errs q.terms λf lv ls d g v=>?_;have D:=I d;by_cases m:all8 ds ts=true
   .have Z:ts.map (J6 ds)=ts.map (M.foldT ds):=Gz λt T=>(WD (all8_iff.1 m).2.1 (n t T)).2;rw[Z] at g v⊢;rcases Vm (QA m) with E|E
    .rw[E];exact switch_spec (er.ext D) 0 (λ_=>nextb d ⟨m,E,p,lv,ls,g,v.down oM⟩) (λh=>by cases h) (λh=>by cases h) (λh=>by cases h) (λh=>oM)
    .rw[E];exact switch_spec (er.ext D) 1 (λh=>by cases h) (λ_=>out D (Kj m (by rw[E];decide))) (λh=>by cases h) (λh=>by cases h) (λh=>oM)
   .have E:(cnfE ds (ts.map (J6 ds))).2=2:=by
     unfold cnfE;rw[Q1 λh=>m (all8_iff.2 ⟨by have:=(all8_iff.1 h).1;rwa[gd] at this,(all8_iff.1 h).2.1,n⟩)]
    rw[E];exact switch_spec (er.ext D) 2 (λh=>by cases h) (λh=>by cases h) (λ_=>two D m) (λh=>by cases h) (λh=>oM)
  .obtain⟨m,h0,p,lv,ls,r,L⟩:=S;show vcall qJ #[oP b 0] B _;have X:(cnfE ds (ts.map (M.foldT ds))).1.list.length+nots.length<=100000:=by
    have q2:=(solveR_run (nots:=nots) m h0 Q U).2.1;unfold M.cnfOk at q2;simp only[gl,gh] at q2;have q3:(qV (cnfE ds (ts.map (M.foldT ds))).1 ds nots).list.length=(cnfE ds (ts.map (M.foldT ds))).1.list.length+nots.length:=by unfold qV;rw[V1,gd]
    omega
   refine jobExcl_spec (F:=λx=>x<w.heap.size) r L oM A ((o.weaken (F':=λx=>x<w.heap.size) λx _ h=>h).ext j) (λx s=>oM) Q X λf a7 a6 d g v=>?_;exact switch_spec (er.ext (Ext.then j d λy hy=>oM)) 0 (λ_=>next (d.mono λx _ s=>oM) ⟨m,h0,p,a7,a6,g,v⟩) (λh=>by cases h) (λh=>by cases h) (λh=>by cases h) (λh=>oM)
  .obtain⟨m,h0,p,lv,ls,r,L⟩:=S;show vcall ja #[oP b 0] B _;obtain⟨q1,q2,q3⟩:=solveR_run (nots:=nots) m h0 Q U;refine jobSearch_spec (c:=qV (cnfE ds (ts.map (M.foldT ds))).1 ds nots) r A (λx s=>oM) (all8_iff.1 m).2.1 L.cnf q2 q3 q.no q.much (λh1 f ev d g O o=>?_) (λh2 f l=>?_) λh3 f l=>?_
   .exact switch_spec (er.ext (I d)) 0 (λ_=>nextb d ⟨by rw[q1];exact h1,p,_,lv,ev,g,by rw[q1];exact O,λx s=>by have:=o x s;have:=j.size;omega⟩) (λh=>by cases h) (λh=>by cases h) (λh=>by cases h) (λh=>oM)
   .exact switch_spec (er.ext (j.trans l)) 3 (λh=>by cases h) (λh=>by cases h) (λh=>by cases h) (λ_=>out (j.trans l) (by rw[q1];exact h2)) (λh=>oM)
   .exact switch_spec (er.ext (j.trans l)) 4 (λh=>by cases h) (λh=>by cases h) (λh=>by cases h) (λh=>by cases h) (λ_=>out (j.trans l) (by rw[q1];exact h3))
 .have a3:i=4:=oM;subst a3;obtain⟨h1,p,y,z,ev,hB,O,o⟩:=S;have:=hK B ev j O o;rw[h1] at this;simp only[push_cast,hB.ld5];exact this
end
section
variable {w w':World} {K:oK} {F F' D G H S:oA} {N n b k:Nat} {v lv tv dv iv ev bv:Value} {ls:List Value} {xs ys env:oI} {xss W:List (oI)} {ts:List M.Tm} {ds:List M.Dcl} {c:M.Cnf} {most:Int} {an am ar ab:Addr}
theorem Ke {f:Nat}:waysG ds ts (f+1) W=if(yu ds ts W).2=1 then waysG ds ts f (W++[(yu ds ts W).1]) else(W,(yu ds ts W).2):=rfl
theorem Kd (a:all8 ds ts=true) (c:∀e,e∈W->M.envOk ds e=true) (d:W.length<=80) (b:(yu ds ts W).2=1):∀e,e∈W++[(yu ds ts W).1]->M.envOk ds e=true:=λe he=>by
 rcases gq.1 he with he|he
 .exact c e he
 .obtain⟨p,q,r⟩:=jd a;rw[gD.1 he];rw[Wu a] at b⊢;exact(M.solve_yes p q c (nots_le a d) b).1.1
def xR0 (lv:Value) (ls:List Value) (n b:Nat):Prop:=lv.ownBlock=some b\/X40 ls n b
theorem CnfO.sameQ (h:CnfO N w lv ls c) (hw:Same S w w') (b:∀x,xR0 lv ls c.list.length x->x<w.heap.size->¬S x):CnfO N w' lv ls c:=
 ⟨h.lst.same hw λx a=>b x (.inl a) (h.lst.lt a),h.len,h.dl,(h.rows.owned.same hw λx a d=>b x (.inr a.2) d).weaken λx a _ _=>a.1⟩
theorem CnfO.inQ (h:CnfO N w lv ls c) {x:Nat} (a:xR0 lv ls c.list.length x):N<=x/\x<w.heap.size:=by
 rcases a with a|a
 .exact⟨h.dl x a,h.lst.lt a⟩
 .exact h.rows.in a
theorem owns_snoc {x:Nat} (b:ls.length=n) (h:X40 (ls++[v]) (n+1) x):X40 ls n x\/v.ownBlock=some x:=by
 obtain⟨i,hi,a⟩:=h;by_cases e:i<n
 .rw[M.app_getD oM] at a;exact .inl ⟨i,e,a⟩
 .have e:i=n:=oM;rw[Vs oM,b,e,GH] at a;exact .inr a
theorem CnfO.lists (h:CnfO N w lv ls c):Lists (λx=>N<=x) w lv c.list:=by
 obtain⟨a,e,b⟩:=h.cnf;have:lv=a:=by simpa using e
 rw[this];exact b
theorem CnfO.nil (a:N<=w.heap.size) {m:Int}:CnfO N w (oN) [] ⟨m,[]⟩:=⟨OwnV.nil,rfl,λx b=>(by cases b),RowsR.nil a⟩
theorem Yk {vs:List Value} (h:Vals F w v vs):v.cells= #[v]/\v.oneCell'=true:=by
 obtain⟨a,c',e,_⟩:=h.shape;subst e;exact⟨rfl,rfl⟩
theorem lists_copy {ty n:Nat} {v0:Value} (m:OwnV zn w v0 []) (a:∀x,v0.ownBlock=some x->n<=x) (h:Lists F w lv xss) (hF:∀x,F x->x<n) (hw:n<=w.heap.size) (q:xss.length<=100000)
  (o:∀w' v' ls,Same (λx=>n<=x) w w'->OwnV zn w' v' ls->ls.length=xss.length->(∀i,i<xss.length->Ints F w' (ls.getD i undef) (xss.getD i []))->(∀x,v'.ownBlock=some x->n<=x)->K v' w'):
  vbi .append [zn,zn] ty [v0,lv] w K:=by
 obtain⟨es,f,g,b⟩:=h;refine OwnV.app m jB g (λu hu=>?_) (by simp;omega) (by simp;omega) λv2 w2 l c k=>?_
 .obtain⟨j,p,rfl⟩:=gy hu;have:=(b j oM).one;rwa[X0,gj p] at this
 .refine o w2 v2 es (c.mono λx _ d=>a x d) (by rwa[Gr] at l) f (λi hi=>(b i hi).same c λx d _ e=>?_) λx d=>?_
  .have:=a x e;have:=hF x d;omega
  .rcases k x d with e|e
   .exact a x e
   .omega
theorem lists_more {ty:Nat} (h:OwnV zn w v ls) (n:ls.length=xss.length) (hi:∀i,i<xss.length->Ints F w (ls.getD i undef) (xss.getD i [])) (j:Ints F w bv ys) (hF:∀x,v.ownBlock=some x->¬F x) (hs:xss.length<=100000)
  (p:∀w' v',Same (λx=>v.ownBlock=some x) w w'->Lists (λx=>F x\/v'.ownBlock=some x) w' v' (xss++[ys])->(∀x,v'.ownBlock=some x->v.ownBlock=some x\/w.heap.size<=x)->K v' w'):
  vbuildS zn 1 [(0,bv)] w λs w1=>vbi .append [zn,zn] ty [v,s] w1 K:=by
 refine zC kg qe ZS rfl j.cells1 λb3 u r b t g=>?_;have z3:=b.size;refine OwnV.app1 (h.ext b) jB g j.one oM oM λv4 o m f l=>?_;refine p o v4 ((Same.of_ext b).trans f) ⟨ls++[bv],by simp[n],m.vals.weaken λx d _=> .inr d,λi k=>?_⟩ λx d=>(l x d).imp id λh=>oM
 have mv:∀{a:Value} {zs:oI},Ints F w a zs->Ints (λx=>F x\/v4.ownBlock=some x) o a zs:=λq=>((q.ext b).same f λx d _ e=>hF x e d).weaken λx d _=> .inl d;rw[V1,gL] at k;by_cases c:i<xss.length
 .rw[M.app_getD oM,M.app_getD c];exact mv (hi i c)
 .have e:i=xss.length:=oM;rw[Vs oM,Vs oM,n,e,GH];exact mv j
theorem spec_BlastIns_spec (Y:yP0 ds) (hd:DclsR F w dv ds) (he:Ints F' w ev env) (L:M.envOk ds env=true)
  (hK:∀w' r,Ext w w'->OwnB xw w' r (M.insM ds env)->(∀b,r.ownBlock=some b->w.heap.size<=b)->K r w'):vcall KC #[dv,ev] w K:=by
 refine zf {loops:=[(5,[5,6]),(8,[5,7])]} Tryz.func45 ?_;obtain⟨f,hlen,G⟩:=M.env_ok L;refine y7 yX0 zB0 λb1 w1 a3 v aa N=>?_;have U:OwnB xw w1 (.slice (some ⟨b1,0,none⟩) 0 0) []:=Blk.own1 (t:=xw) (cs:=[]) (by rw[K5];exact N) (gW _) rfl rfl oM;refine spec_EnvOk_spec (hd.ext v) Y (he.ext v) λab o=>?_;rw[L];have e1:=v.trans o;simp only[push_cast,GI];have h4:=(M.decl_iff.1 f).1;refine vloop_up ds.length (λi u w'=> ∃r,u=[r,nI i]/\Ext w w'/\OwnB xw w' r (M.insM (ds.take i) (env.take i))/\∀b,r.ownBlock=some b->w.heap.size<=b) ⟨_,rfl,e1,U.ext o,λb D=>by have e:b1=b:=gg D;omega⟩ ?_;rintro i _ _ w2 C hi ⟨r,rfl,B,m,J⟩ hC;have s:=hd.ext B;simp only[push_cast,s.len];refine zb (λa=>?_) (λa=>?_)
 .have g:i<ds.length:=oM;have a8:=M.dcl_wide f g;obtain⟨n1,n2,n3,n4⟩:=M.vok_iff.1 (G i g);have a6:=M.bits_le f g;have a5:=(M.decl_iff.1 f).2.2;have H:(M.insM (ds.take i) (env.take i)).length<=8:=by
   have:=M.insM_len (ds:=ds.take i) (env:=env.take i) (by rw[gi,gi];omega) λd Q=>M.dpos f d (gV Q);omega
  have a2:(2:Int)^((ds.getD i (M.nada,0)).2).toNat<=16:=by
   have h1:(2:Nat)^((ds.getD i (M.nada,0)).2).toNat<=2^4:=gY oM oM;have h2:(((2:Nat)^((ds.getD i (M.nada,0)).2).toNat:Nat):Int)<=16:=oM;simpa using h2
  simp(disch:=exact oS) only[push_cast,s.iaddr,s.load1];have n:=insM_take hlen g;generalize hp:M.insM (ds.take i) (env.take i)=ps at m H n;obtain⟨k,hk⟩:=z0d n3;have p:env.getD i 0=(k:Int):=hk;rw[p] at n n4;rw[gu] at n;have a1:=he.ext B;generalize a9:(ds.getD i (M.nada,0)).2=wd at*
  try simp(disch:=exact oS) only[push_cast,zi]
  have a0:(M.bitsN wd.toNat k).reverse.length=wd.toNat:=(by rw[pP,M.bitsN_len]);have z2:=B.size;refine vloop_up wd.toNat (λj u w'=> ∃r,u=[r,nI (wd-1-j)]/\Ext w w'/\OwnB xw w' r (ps++(M.bitsN wd.toNat k).reverse.take j)/\∀b,r.ownBlock=some b->w.heap.size<=b) ⟨r,by simp,B,by simpa using m,J⟩ ?_;rintro j _ _ w5 C1 hj ⟨r2,rfl,l,A,z⟩ O;refine oZ ?_;refine zb (λc=>?_) (λc=>?_)
  .have I:j<wd.toNat:=oM;have E:=he.ext l;simp(disch:=exact oS) only[push_cast,E.iaddr,E.load,p];rw[show(wd-1-(j:Int))=((wd.toNat-1-j:Nat):Int) by omega];refine l1Bit_spec oM oM ?_;have Z:(M.bitsN wd.toNat k).reverse.take (j+1)=(M.bitsN wd.toNat k).reverse.take j++[decide (k/2^(wd.toNat-1-j)%2=1)]:=by
    rw[M.take_add oM false];congr 2;rw[X0,pX (by rw[M.bitsN_len];exact I),M.bitsN_len,<-X0,M.bitsN_get oM]
   generalize k/2^(wd.toNat-1-j)%2=q at Z⊢;refine oZ ?_;rw[show decide ((q:Int)=1)=decide (q=1) from decide_eq_decide.2 oM];generalize decide (q=1)=x at Z⊢;have a7:(ps++(M.bitsN wd.toNat k).reverse.take j).length<=100:=by rw[V1,gi];omega
   refine one_bool λw6 b6 a4 y V=>?_;refine OwnV.app (us:=[.bool x]) (A.ext y) UN V.bools (by simp[Value.oneCell']) (by simp only[gd,gL];omega) (by simp only[gd,gL];omega) λv7 w7 W X T=>?_;have z45:=l.size;have z6:=y.size;simp(disch:=omega) only[push_cast,zi];refine O I _ _ ⟨v7,by rw[show((wd.toNat:Int)-(0+1)-(j:Int)-1)=wd-1-((j+1:Nat):Int) by omega],Ext.then (l.trans y) X λb D=>z b D,?_,λb D=>?_⟩
   .rw[Z,<-Gd];unfold OwnB;rw[gG];exact W
   .rcases T b D with h|h
    .exact z b h
    .omega
  .have S:j=wd.toNat:=oM;subst S;rw[gI oM,<-n] at A
   try simp(disch:=omega) only[push_cast,zi]
   exact hC g _ _ ⟨r2,rfl,l,A,z⟩
 .have R:i=ds.length:=oM;subst R;rw[gF,<-hlen,gF] at m;exact hK w2 r B m J
theorem l9Block_spec (hi:Bools F w iv (M.insM ds xs)) (O:(M.insM ds xs).length<=100) (G:∀w' r,Ext w w'->OwnI ze w' r (M.exC ds xs)->(∀x,r.ownBlock=some x->w.heap.size<=x)->K r w'):vcall Vz #[iv] w K:=by
 refine zf {loops:=[(3,[3,4])]} Tryz.func44 ?_;have J:(M.exC ds xs).length=(M.insM ds xs).length:=by unfold M.exC;rw[M.exK_len]
 have A:∀{j:Nat},j<(M.insM ds xs).length->_:=λ{j} h=>xJ0 (ds:=ds) (xs:=xs) (i:=j) h;generalize M.insM ds xs=bs at*;refine spec_nil λv1 w1 t o p=>?_;refine vloop_up bs.length (λj u w'=> ∃r,u=[r,nI j]/\Ext w w'/\OwnI ze w' r ((M.exC ds xs).take j)/\∀x,r.ownBlock=some x->w.heap.size<=x) ⟨_,rfl,o,t,p⟩ ?_;rintro j _ _ C D N ⟨r,rfl,k,c,b⟩ l;have z5:=k.size;have a:=hi.ext k;simp only[push_cast,a.len];refine zb (λE=>?_) (λE=>?_)
 .have d:j<bs.length:=oM;have I:=A d;simp(disch:=exact oS) only[push_cast,a.iaddr,a.load,gu];have next:∀{x:Int},x=(if bs.getD j false then-(2+(j:Int)) else 2+j)->vbuildS ze 1 [(0,nI x)] C λs w1=>vbi .append [ze,ze] ze [r,s] w1 λt35 g=>D [t35,nI ((j:Int)+1)] g:=λ{x} z=>by
   refine push_int c (by rw[gi];omega) λQ L v f q=>?_;rw[z,I] at f;rw[show(j:Int)+1=((j+1:Nat):Int) by omega];refine l d _ _ ⟨L,rfl,Ext.then k v λy B=>b y B,f,λy B=>?_⟩;rcases q y B with e|e
   .exact b y e
   .omega
  refine zm (λn=>?_) (λm=>?_)
  .simp(disch:=omega) only[push_cast,zi];exact next (by rw[V0 n];omega)
  .simp(disch:=omega) only[push_cast,zi];exact next (by rw[Q1 (by rw[m];decide)])
 .have H:j=bs.length:=oM;rw[gI oM] at c;exact G C r k c b
theorem spec_SolveWays_spec (ag:yP0 ds) (hd:DclsR F w dv ds) (ht:TmsR G w tv ts)
  (hK:∀w' v ls,Ext w w'->CnfO w.heap.size w' v ls ⟨0,(xG ds ts most).1⟩->K (.tuple #[v,nI (xG ds ts most).2]) w'):vcall JB #[dv,tv,nI most] w K:=by
 refine zf {loops:=[(7,[8])],cuts:=[(12292,[]),(24583,[])]} Tryz.func9 ?_;refine y7 kg qe λb1 w1 bt D c5 b6=>?_;have z1:=D.size;have a9:∀{wk:World} {b:Nat},Blk wk b [] ze->OwnV zn wk (.slice (some ⟨b,0,none⟩) 0 0) []:=λ{wk b} hB=>Blk.own1 (t:=zn) (cs:=[]) (by rw[K6];exact hB) (gW _) rfl rfl oM;have ao:CnfO w.heap.size w1 (.slice (some ⟨b1,0,none⟩) 0 0) [] ⟨0,[]⟩:=⟨a9 b6,rfl,λx d=>by have e:b1=x:=gg d;omega,RowsR.nil oM⟩;have r:∀{wk:World} {k:Int},Ext w1 wk->xG ds ts most=([],k)->K (.tuple #[.slice (some ⟨b1,0,none⟩) 0 0,nI k]) wk:=λ{wk k} he h=>by
  have:=hK _ _ [] (D.trans he) (by rw[h];exact ao.ext he);rwa[h] at this
 refine zp (λu w'=>u=[]/\Ext w1 w'/\all8 ds ts=true/\0<=most/\most<=20) (λJ hJ=>?_) ?_
 .refine l8All_spec ag (hd.ext D) (ht.ext D) λw2 l=>?_;refine oZ ?_;refine zm (λa=>r l (j3 λh=>by rw[h.1] at a;cases a)) (λa=>?_);refine zb (λb=>r l (j3 λh=>oM)) (λb=>?_);refine zb (λc=>r l (j3 λh=>oM)) (λc=>?_);exact hJ _ _ ⟨rfl,l,by simpa using a,oM,oM⟩
 rintro _ _ w2 ⟨rfl,l,h8,h0,b4⟩;have e2:=D.trans l;obtain⟨a1,a2,a3⟩:=all8_iff.1 h8;have ah:xG ds ts most=waysG ds ts most.toNat []:=V0 ⟨h8,h0,b4⟩;refine l9Folds_spec (hd.ext e2) (ht.ext e2) a2 (λt ht=>by rw[(Q2 (a3 t ht)).1];decide) oM λw3 lv ac bi=>?_;have e3:=e2.trans ac;refine l8Cnf_spec (QA h8) (hd.ext e3) bi λw4 cv ls ad ar=>?_;have e4:=e3.trans ad;refine oZ ?_;refine cnf_new ar λw5 O bu R b7 bs=>?_;have e5:=e4.trans R;have aj:Ext w1 w5:=((l.trans ac).trans ad).trans R;have bo:=(l.trans ac).size;have ca:=ad.size;have z5:=R.size;have run:∀{W:List (oI)},(cnfE ds (ts.map (M.foldT ds))).2=0->(∀e,e∈W->M.envOk ds e=true)->W.length<=80->_:=λ{W} h0 hW hl=>solveR_run (nots:=W) h8 h0 hW hl;have room:(cnfE ds (ts.map (M.foldT ds))).2≠0->yu ds ts []=([],3):=λh=>Kj (nots:=[]) h8 h;generalize cnfE ds (ts.map (M.foldT ds))=E at*;refine zp (λu w'=>u=[]/\w'=w5/\(E.2=0\/most=0)) (λJ hJ=>?_) ?_
 .refine zm (λa=>?_) (λa=>hJ _ _ ⟨rfl,rfl,.inl (by simpa using a)⟩);refine zb (λb=>?_) (λb=>hJ _ _ ⟨rfl,rfl,.inr oM⟩);refine r aj ?_;obtain⟨q,hq⟩:∃q,most.toNat=q+1:=⟨most.toNat-1,oM⟩;rw[ah,hq,Ke,room (by simpa using a),Q1 dC]
 rintro _ _ w5 ⟨rfl,rfl,ba⟩;obtain⟨m,rfl⟩:∃m:Nat,most=m:=⟨most.toNat,oM⟩;rw[gu] at ah;refine vloop_up m (λi u w'=> ∃ov ols W clv,u=[ov]/\Ext w w'/\CnfO w.heap.size w' ov ols ⟨0,W⟩/\W.length=i/\(∀e,e∈W->M.envOk ds e=true)/\waysG ds ts (m-i) W=xG ds ts (m:Int)/\Blk w' O [nI E.1.many,clv] zq/\(∀x,xR0 ov ols W.length x->x≠O)/\Lists (λx=>ov.ownBlock≠some x/\x≠O) w' clv (qV E.1 ds W).list)
  ⟨_,[],[],_,rfl,e5,ao.ext aj,rfl,λe he=>(by cases he),by rw[ah];rfl,b7,λx d e=>?_,?_⟩ ?_
 .rcases d with d|⟨j,hj,_⟩
  .have e:b1=x:=gg d;omega
  .exact absurd hj (pK _)
 .rw[show(qV E.1 ds []).list=E.1.list by unfold qV;simp];exact(ar.lists.weaken (F':=λx=>w3.heap.size<=x/\x<w4.heap.size) λx d hl=>⟨d,hl⟩).ext R|>.weaken λx d _=>⟨λe=>by have e:b1=x:=gg e;omega,oM⟩
 rintro i _ _ w6 C hi ⟨ov,ols,W,clv,rfl,e6,f,bc,Z,g,B,ab,an⟩ hC;have hlen:=f.lst.vals;simp only[push_cast,hlen.len,f.len];have z6:=e6.size;refine zb (λa=>?_) (λa=>?_)
 .have bd:W.length<m:=(by exact_mod_cast a);have bg:i<m:=oM;obtain⟨q1,q2,q3⟩:=run (W:=W) (ba.resolve_right oM) Z oM;rw[B.ldAgg zG];refine l9Search_spec (c:=qV E.1 ds W) ag (hd.ext e6) a2 ⟨clv,rfl,an⟩ q2 q3 λw7 ev H ae af=>?_;rw[<-q1] at ae⊢;have e7:=e6.trans H;have z7:=H.size;refine oZ ?_;obtain⟨q,hq⟩:∃q,m-i=q+1:=⟨m-i-1,oM⟩;rw[hq,Ke] at g;have au:=f.ext H;refine zb (λc=>?_) (λc=>?_)
  .rw[Q1 c] at g;have:=hK w7 ov ols e7 (by rw[<-g];exact au);rwa[<-g] at this
  .have c1:(yu ds ts W).2=1:=P8.1 c;rw[V0 c1] at g;have a7:=Kd h8 Z oM c1;have a4:=a7 _ (GC _ (gD.2 rfl));refine au.push ae (λx d=>?_) (by rw[f.len];show W.length<=_;omega) λX V L av b0=>?_
   .have:=af x d;exact⟨oM,λe=>by have:=f.lst.lt e;omega,λj hj e=>by have:=(f.rows.own j hj).lt e;omega⟩
   have z8:=L.size;have e8:Ext w X:=Ext.then e7 L λy U=>f.dl y U;have ax:=ae.same L λx d e=>by have:=af x d;have:=f.lst.lt e;omega
   have Q:=(B.ext H).same L λe=>ab _ (.inl e) rfl;have bb:=((an.weaken (F':=λx=>(ov.ownBlock≠some x/\x≠O)/\x<w7.heap.size) λx d hl=>⟨d,oM⟩).ext H).same L λx d _ e=>d.1.1 e;have ai:∀x,V.ownBlock=some x->x<X.heap.size:=λx d=>av.lst.lt d;refine y7 kg qe λb9 w9 bw T c6 b8=>?_;have z9:=T.size;have al:=Q.ext T;show zu zn (oP O 1) w9 _;rw[al.ld1 Zr];have hle:(qV E.1 ds W).list.length<=100000:=by
    have:=q2;unfold M.cnfOk at this;simp only[gl,gh] at this;omega
   refine lists_copy (n:=X.heap.size) (a9 b8) (λx d=>by have e:b9=x:=gg d;omega) (bb.ext T) (λx d=>oM) oM hle λw10 v10 br a8 a6 az ay o=>?_;have c8:=a8.size;have p:Ext X w10:=Ext.then T a8 λy U=>U;have b3:=e8.trans p;refine spec_BlastIns_spec ag (hd.ext b3) (ax.ext p).ints a4 λbm iv a0 bh c2=>?_;have bx:=M.insM_n a4;obtain⟨c0,bp⟩:=M.nIn_eq a2;refine l9Block_spec bh.bools oM λc7 bv aw bf bj=>?_;have z:=a0.trans aw;have z12:=z.size;have c9:=a0.size;refine lists_more (F:=λx=>((ov.ownBlock≠some x/\x≠O)/\x<w7.heap.size)\/bm.heap.size<=x) (xss:=(qV E.1 ds W).list) (ys:=M.exC ds (yu ds ts W).1) (a6.ext z) az (λj hj=>((ay j hj).ext z).weaken λx d _=> .inl d) (bf.ints.weaken λx d _=> .inr (bj x d)) (λx d h=>?_) hle λb2 s I Y a5=>?_
   .have h1:=o x d;have h2:=a6.lt d;rcases h with h|h<;>omega
   have bo:=I.size;have ak:=((Q.ext p).ext z).same I λe=>by have:=o _ e;have:=Q.lt;omega
   obtain⟨c3,c4⟩:s.cells= #[s]/\s.oneCell'=true:=by
    obtain⟨_,_,bl,_⟩:=Y;exact Yk bl
   show zy zn (oP O 1) s b2 _;refine ak.st (i:=1) c3 c4 jx rfl λbn N bq A=>?_;replace A:Blk bn O [nI E.1.many,s] zq:=A;have be:=Q.lt;have aa:Same (λx=>X.heap.size<=x) X b2:=(Same.of_ext (p.trans z)).trans (I.mono λx _ d=>o x d);have q8:∀x,xR0 V (ols++[ev]) (W.length+1) x->x≠O:=λx d e=>by
    have h5:=B.lt;rcases d with d|d
    .rcases b0 x d with h|h
     .exact ab x (.inl h) e
     .omega
    .rcases owns_snoc f.len d with h|h
     .exact ab x (.inr h) e
     .have:=af x h;omega
   have ap:=av.same (S:=λx=>X.heap.size<=x) aa λx _ bz e=>oM;have aq:=ap.sameQ N λx d _ e=>q8 x (by rw[V1] at d;exact d) e;have am:=Y.same N λx d _ e=>by
    have h5:=B.lt;rcases d with(d|d)|d
    .exact d.1.2 e
    .omega
    .have:=a5 x d;rcases this with h|h
     .have:=o x h;omega
     .omega
   refine hC bg _ _ ⟨V,ols++[ev],W++[(yu ds ts W).1],s,rfl,Ext.then (Ext.then e8 aa λy U=>oM) N λy U=>by subst U;have:=e5.size;omega,aq,by rw[V1,bc];rfl,a7,?_,A,λx d=>q8 x (by rw[V1] at d;exact d),?_⟩
   .rw[show m-(i+1)=q by omega];exact g
   .rw[show(qV E.1 ds (W++[(yu ds ts W).1])).list=(qV E.1 ds W).list++[M.exC ds (yu ds ts W).1] by unfold qV;simp];refine am.weaken λx d _=>?_;have h5:=B.lt;have bk:∀y,V.ownBlock=some y->ov.ownBlock=some y\/w7.heap.size<=y/\y<X.heap.size:=λy U=>(b0 y U).imp id λh=>⟨h,ai y U⟩;rcases d with(d|d)|d
    .refine⟨λe=>?_,d.1.2⟩;rcases bk x e with h|h
     .exact d.1.1 h
     .omega
    .exact⟨λe=>by have:=ai x e;omega,oM⟩
    .have h8:X.heap.size<=x:=by
      rcases a5 x d with h|h
      .exact o x h
      .omega
     exact⟨λe=>by have:=ai x e;omega,oM⟩
 .have bd: ¬W.length<m:=(by exact_mod_cast a);have:i=m:=oM;subst this;rw[GH] at g;have:=hK w6 ov ols e6 (by rw[<-g];exact f);rw[<-g] at this;exact this
end
end Go.Proofs.YtfnpmncplaibiaaGreatDoor
end
