import Derived.Test.YtjkkiaacmedfdaaGreatDoorWyaP14
import Derived.OpenVars
import Derived.MakeChecks
import Derived.Stop.LaidErr
import Derived.Stop.LaidTwo
/- A part of the proof. -/
set_option linter.all false
set_option maxRecDepth 9999
set_option maxHeartbeats 2000000
noncomputable section
namespace Go.Proofs.YtjkkiaacmedfdaaGreatDoor
open Go Go.Vc Go.Proofs Go.M
section
variable {w:World} {K:oK} {F Fr F':Nat->Prop} {many:Nat} {c:Cnf} {s:Sat}
theorem inc64 {i:Nat} (h:i<9223372036854775807):IntKind.i64.wrap ((i:Int)+1)=((i+1:Nat):Int):=by rw[zl oM oM];omega
theorem l5Find_spec {vc vl v:Value} {put:List Int} {ls:List (List Int)} (hc:CnfR F w vc c) (hl:Lists F' w vl ls) (hx:Ints Fr w v (signs many put)) (hm:marksOk many put) (z:many<=700) (a4:c.list.length+ls.length<=1000000)
  (hb:∀cl,cl∈c.list++ls->∀l,l∈cl->l≠0/\l.natAbs<=many)
  (hK:∀w' k u x,Ext w w'->findM put (c.list++ls) 0 (-1) 0=(k,u,x)->K (.tuple #[nI k,nI (if 0<=k then-1 else u),nI (if 0<=k then 0 else x)]) w'):vcall WR #[vc,vl,v] w K:=by
 refine zf {loops:=[(5,[9,10,12])],cuts:=[(36875,[13])]} Tryz.func174 ?_;obtain⟨lv,rfl,X⟩:=hc;obtain⟨cs,U,B,T⟩:=X;obtain⟨es,W,H,V⟩:=hl;refine yg λb w1 a1 E a5 hB=>?_;have A:Blk w1 b [nI c.many,lv] zr:=hB;have D:=B.ext E;simp only[push_cast,A.ld1,D.len];refine vloop_up (c.list.length+ls.length) (λi u w'=> ∃(y x:Int),u=[nI y,nI x,nI i]/\Ext w w'/\Blk w' b [nI c.many,lv] zr/\findM put ((c.list++ls).drop i) i y x=findM put (c.list++ls) 0 (-1) 0) ⟨-1,0,rfl,E,A,rfl⟩ ?_;rintro i _ _ w2 C hi ⟨y,x,rfl,s,S,g⟩ Q;have I:=H.ext s;simp only[push_cast,I.len];rw[U,W,zl oM oM];refine zb (λa=>?_) (λa=>?_)
 .have o:i<c.list.length+ls.length:=oM;refine y9 x6 yO λb3 w3 a2 G a6 a0=>?_;have p:=s.trans G;have f:=S.ext G;have q:=B.ext p;have r:=H.ext p;refine zq (λu w'=>w'=w3/\∃v4,u=[v4]/\Ints (λ_=>True) w3 v4 ((c.list++ls).getD i [])) ?_ ?_
  .intro J Z;refine zb (λa3=>?_) (λa3=>?_)
   .simp(disch:=exact oS) only[push_cast,f.ld1,q.iaddr,q.load];refine Z _ _ ⟨rfl,_,rfl,?_⟩;rw[getD_app_l oM];exact((T i oM).ext p).weaken λ_ _ _=>trivial
   .obtain⟨j,rfl⟩:∃j,i=c.list.length+j:=⟨i-c.list.length,oM⟩;rw[show((c.list.length+j:Nat):Int)-(c.list.length:Int)=(j:Int) from by omega,zl oM oM];simp(disch:=exact oS) only[push_cast,r.iaddr,r.load];refine Z _ _ ⟨rfl,_,rfl,?_⟩;rw[getD_app_r];exact((V j oM).ext p).weaken λ_ _ _=>trivial
  rintro _ _ _ ⟨rfl,v4,rfl,h4⟩;have L:i<(c.list++ls).length:=by rw[gg];exact o
  have M:(c.list++ls).getD i []∈c.list++ls:=by rw[X0,gk L];exact GV _
  rw[Z5 (d:=[]) L,findM_cons] at g;refine oZ ?_;refine l5Look_spec (hx.ext p) hm z h4 (hb _ M) λO n Y t=>?_;rw[t] at g;dsimp only at g;refine oZ ?_;rw[inc64 oM];have N: ¬(O=true)->((if O then(-1:Int) else(n:Int))=n/\(if O then(0:Int) else Y)=Y):=λh=>⟨q0 h,q0 h⟩;by_cases m:O=true
  .rw[K3 m] at g;refine zb (λe=>absurd e (by rw[K3 m];omega)) (λ_=>zb (λe=>absurd e (by rw[K3 m];omega)) (λ_=>?_));exact Q o _ _ ⟨y,x,rfl,p,f,g⟩
  rw[q0 m] at g;rw[(N m).1,(N m).2];refine zb (λe=>?_) (λe=>zb (λe1=>?_) (λe1=>?_))
  .rw[K3 oM] at g;have:=hK _ _ _ _ p g.symm;rwa[K3 oM,K3 oM] at this
  .rw[q0 oM,K3 oM] at g;refine zb (λR=>?_) (λR=>?_)
   .rw[K3 R] at g;exact Q o _ _ ⟨i,Y,rfl,p,f,g⟩
   .rw[q0 R] at g;exact Q o _ _ ⟨y,x,rfl,p,f,g⟩
  .rw[q0 oM,q0 oM] at g;exact Q o _ _ ⟨y,x,rfl,p,f,g⟩
 .rw[Gm (by rw[gg];omega)] at g;have:=hK w2 _ _ _ s g.symm;rwa[q0 oM,q0 oM] at this
theorem l5At_spec {vc v:Value} {k:Nat} (A:CnfR F w vc c) (hs:SatR F' w v s) (G:k<c.list.length+s.learned.length) (C:c.list.length+s.learned.length<=1000000)
  (u:∀w' v',Ext w w'->Ints (λb=>F b\/F' b) w' v' (atM c s k)->K v' w'):vcall yV0 #[vc,v,nI k] w K:=by
 refine zf {} Tryz.func176 ?_;obtain⟨lv,rfl,cs,n,o,m⟩:=A;obtain⟨vp,vw,vl,rfl,-,-,es,B,r,q⟩:=hs;refine yg λb1 w1 y p D i=>?_;refine yg λb2 w2 z g E l=>?_;have t:Blk w2 b1 [nI c.many,lv] zr:=i.ext g;have x:Blk w2 b2 [vp,vw,vl,nI s.code] zw:=l;have f:=p.trans g;have d:=o.ext f;have e:=r.ext f;simp only[push_cast,t.ld1,d.len];refine zb (λa=>?_) (λa=>?_)
 .simp(disch:=exact oS) only[push_cast,d.iaddr,d.load];refine u w2 _ f ?_;rw[atM,getD_app_l oM];exact((m k oM).ext f).weaken λ_ h _=> .inl h
 .obtain⟨j,rfl⟩:∃j,k=c.list.length+j:=⟨k-c.list.length,oM⟩;simp(disch:=(simp only[push_cast])) only[x.ld2,t.ld1,d.len,UR,UU,yp,Gd,Z9];rw[n,show((c.list.length+j:Nat):Int)-(c.list.length:Int)=(j:Int) from by omega,zl oM oM];simp(disch:=exact oS) only[push_cast,e.iaddr,e.load];refine u w2 _ f ?_;rw[atM,getD_app_r];exact((q j oM).ext f).weaken λ_ h _=> .inr h
theorem l5Levels_spec {vc v:Value} (hc:CnfR F w vc c) (hs:SatR F' w v s) (L:c.many=many) (T:many<=700) (hm:marksOk many s.put) (hlen:s.put.length=s.why.length) (A:∀k,k<s.why.length->s.why.getD k 0= -1\/0<=s.why.getD k 0)
  (hK:∀w' v',Ext w w'->OwnI zh w' v' (levs many s.put (yq s.why))->(∀x,v'.ownBlock=some x->w.heap.size<=x)->K v' w'):vcall Kg #[vc,v] w K:=by
 refine zf {loops:=[(4,[6,7])],cuts:=[(28680,[6])]} Tryz.func209 ?_;obtain⟨lv,rfl,-⟩:=hc;obtain⟨vp,vw,vl,rfl,hp,hw,-⟩:=hs;have a4:=hm.len;refine yg λb1 w1 a0 N a7 H=>?_;refine yg λb2 w2 a1 p a8 I=>?_;have X:Blk w2 b1 [nI c.many,lv] zr:=H.ext p;have R:Blk w2 b2 [vp,vw,vl,nI s.code] zw:=I;have S:=N.trans p;simp only[push_cast,X.ld0];rw[L,zl oM oM,show((many:Int)+1)=((many+1:Nat):Int) from by omega];refine vmkS_own (bs:=8) xu qy xt rfl oM oM λv1 w3 Y q m=>?_;have G:OwnI zh w3 v1 (levs many [] (yq s.why)):=by rw[kL0];unfold OwnI;rw[GO];exact Y
 have V:=S.size;refine vloop_up s.put.length (λi u w'=>u=[nI ((yq s.why).take i|>.count true:Nat),nI i]/\Ext w w'/\Blk w' b2 [vp,vw,vl,nI s.code] zw/\OwnI zh w' v1 (levs many (s.put.take i) (yq s.why))) ⟨rfl,S.trans q,R.ext q,by simpa using G⟩ ?_;rintro i _ _ W C hi ⟨rfl,g,f,E⟩ Z;have n:=hp.ext g;have z:=hw.ext g;have a5:=Uo many (s.put.take i) (yq s.why);have a3:=jL s.why;simp only[push_cast,f.ld0,n.len];refine zb (λa=>?_) (λa=>?_)
 .have l:i<s.put.length:=oM;have h:=Ye (ds:=yq s.why) (i:=i) oM;have a2:((yq s.why).take i).count true<=700:=gO Pb (by simp;omega);refine zq (λu w'=>w'=W/\u=[nI ((yq s.why).take (i+1)|>.count true:Nat)]) ?_ ?_
  .intro J U;simp(disch:=exact oS) only[push_cast,f.ld1,z.iaddr,z.load];have o:=JO (why:=s.why) (k:=i) oM;have a6:=A i oM;refine zb (λb=>?_) (λb=>?_)
   .rw[inc64 oM];refine U _ _ ⟨rfl,?_⟩;rw[h,o,gm oM];rfl
   .refine U _ _ ⟨rfl,?_⟩;rw[h,o,gj oM];rfl
  rintro _ _ _ ⟨rfl,rfl⟩;simp(disch:=exact oS) only[push_cast,f.ld0,n.iaddr,n.load];have hb:=hm.2 _ (getD_meS l);have y:=M.take_snoc' (d:=0) l;have D:=distinct_take hm.1 (i+1);have j:placeOf (s.put.take i) (s.put.getD i 0).natAbs=0:=by
   refine placeOf_zero λx B e=>?_;rw[y] at D;unfold Distinct at D;rw[gD,Gy] at D;exact D.2.2 _ (Gj B) _ (by simp) e
  have t:=levs_snoc (many:=many) (ds:=yq s.why) j;rw[<-y,gi,GB oM,lvl_succ oM,<-h] at t;have Q:=E.ints;refine l4Abs_spec oM ?_;simp(disch:=exact oS) only[push_cast,Q.iaddr];refine E.st yO oM λw5 O r a9=>?_;rw[inc64 oM];refine Z l _ _ ⟨rfl,Ext.then g r λx B=>by have:=m x B;omega,f.same r λe=>by have:=m _ e;have:=R.lt;omega,by rw[t];exact O⟩
 .rw[gH oM] at E;exact hK W v1 g E λx B=>by have:=m x B;omega
theorem l5Top_spec {v v':Value} {put cl:List Int} {ds:List Bool} (m:Ints F w v (levs many put ds)) (j:many<=700) (p:ds.length<=700) (d:Ints Fr w v' cl) (o:∀l,l∈cl->l.natAbs<=many/\placeOf put l.natAbs≠0)
  (s:K (.tuple #[nI (kW put ds cl:Nat),nI (Jh put ds cl).length]) w):vcall zL0 #[v,v'] w K:=by
 refine zf {loops:=[(4,[6,7,8])]} Tryz.func210 ?_;have hlen:cl.length<=9223372036854775807:=by obtain⟨_,_,_,n,r,_⟩:=d.shape;simp at n;omega
 have q:=Uo many put ds;refine vloop_up cl.length (λi u w'=>w'=w/\u=[nI (kW put ds (cl.take i):Nat),nI (Jh put ds (cl.take i)).length,nI i]) ⟨rfl,rfl⟩ ?_;rintro i _ _ _ C hi ⟨rfl,rfl⟩ f;simp only[push_cast,d.len];refine zb (λa=>?_) (λa=>?_)
 .have c:i<cl.length:=oM;simp(disch:=exact oS) only[push_cast,d.iaddr,d.load];obtain⟨g,h⟩:=o _ (getD_meS c);refine l4Abs_spec oM ?_;simp(disch:=exact oS) only[push_cast,m.iaddr,m.load];rw[levs_get g,levV_lit h];obtain⟨t1,t2⟩:=top_step (put:=put) (ds:=ds) c _ rfl;generalize lvM put ds (cl.getD i 0)=k at*;have t:(Jh put ds (cl.take i)).length<=i:=gO (List.length_filter_le _ _) (by simp;omega);refine zb (λb=>?_) (λb=>?_)
  .rw[K3 oM] at t1 t2;refine zb (λ_=>?_) (λe=>absurd trivial e);rw[inc64 oM];exact f c _ _ ⟨rfl,by rw[t1,t2];rfl⟩
  .rw[q0 oM] at t1 t2;refine zb (λe=>?_) (λe=>?_)
   .rw[K3 oM] at t2;rw[inc64 oM,inc64 oM];exact f c _ _ ⟨rfl,by rw[t1,t2]⟩
   .rw[q0 oM] at t2;rw[inc64 oM];exact f c _ _ ⟨rfl,by rw[t1,t2]⟩
 .rwa[gH oM]
theorem l5Has_spec {v:Value} {cl:List Int} {m:Nat} (c:Ints Fr w v cl) (p:∀l,l∈cl->l.natAbs<=700) (g:(∃q,q∈cl/\q.natAbs=m)->K (.bool true) w) (j:(∀q,q∈cl->q.natAbs≠m)->K (.bool false) w):vcall zN0 #[v,nI m] w K:=by
 refine zf {loops:=[(2,[5])]} Tryz.func286 ?_;have hlen:cl.length<=9223372036854775807:=by obtain⟨_,_,_,n,s,_⟩:=c.shape;simp at n;omega
 refine vloop_up cl.length (λi u w'=>w'=w/\u=[nI i]/\∀q,q∈cl.take i->q.natAbs≠m) ⟨rfl,rfl,by simp⟩ ?_;rintro i _ _ _ C hi ⟨rfl,rfl,k⟩ o;simp only[push_cast,c.len];refine zb (λa=>?_) (λa=>?_)
 .have f:i<cl.length:=oM;simp(disch:=exact oS) only[push_cast,c.iaddr,c.load];have e:cl.getD i 0∈cl:=getD_meS f;have r:=p _ e;refine l4Abs_spec oM ?_;refine oZ ?_;refine zb (λb=>g ⟨_,e,oM⟩) (λb=>?_);rw[inc64 oM];refine o f _ _ ⟨rfl,rfl,λq h=>?_⟩;rw[M.take_snoc' (d:=0) f,gr,gB] at h;rcases h with h|rfl
  .exact k q h
  .omega
 .rw[gH oM] at k;exact j k
theorem l5Last_spec {v v':Value} {cl:List Int} (hs:SatR F w v s) (hm:marksOk many s.put) (t:many<=700) (m:Ints Fr w v' cl) (z:∀l,l∈cl->l.natAbs<=700)
  (x:∀w',Ext w w'->K (nI ((lastPl s.put cl:Int)-1)) w'):vcall WP #[v,v'] w K:=by
 refine zf {loops:=[(2,[5])]} Tryz.func248 ?_;obtain⟨vp,vw,vl,rfl,G,-,-⟩:=hs;have E:=hm.len;refine yg λb2 w2 A b H g=>?_;have p:Blk w2 b2 [vp,vw,vl,nI s.code] zw:=g;have c:=G.ext b;simp only[push_cast,p.ld0,c.len];rw[zl oM oM];refine vloop_up s.put.length (λi u w'=>w'=w2/\u=[nI ((s.put.length:Int)-1-i)]/\∀j,s.put.length-i<=j->j<s.put.length->∀q,q∈cl->q.natAbs≠(s.put.getD j 0).natAbs) ⟨rfl,by simp,λj r d=>oM⟩ ?_;rintro i _ _ _ C hi ⟨rfl,rfl,n⟩ y;refine oZ ?_;refine zb (λa=>?_) (λa=>?_)
 .obtain⟨k,D⟩:∃k:Nat,(s.put.length:Int)-1-i=k:=⟨s.put.length-1-i,oM⟩;have f:k<s.put.length:=oM;rw[D];simp(disch:=exact oS) only[push_cast,p.ld0,c.iaddr,c.load];have B:=hm.2 _ (getD_meS f);refine l4Abs_spec oM ?_;refine l5Has_spec (m.ext b) z (λh=>?_) (λh=>?_)
  .refine oZ ?_;have o:=lastPl_eq hm f h λj r d=>n j oM d;have:=x _ b;rwa[o,show((k+1:Nat):Int)-1=(k:Int) from by omega] at this
  .refine oZ ?_;rw[zl oM oM];refine y oM _ _ ⟨rfl,by rw[show(s.put.length:Int)-1-((i+1:Nat):Int)=(k:Int)-1 from by omega],λj r d=>?_⟩;by_cases e:j=k
   .subst e;exact h
   .exact n j oM d
 .have o:=lastPl_none (put:=s.put) (cl:=cl) λj d=>n j oM d;have:=x _ b;rw[o] at this;exact this
end
section
variable {w:World} {K:oK} {F Fr F':Nat->Prop} {many:Nat} {c:Cnf} {s:Sat}
theorem ji0 (arr:List Int) (m n:Nat):(yd0 arr m n).length<=n:=by
 unfold yd0;refine gO (List.length_filterMap_le _ _) (by simp)
theorem l5Join_spec {va vb:Value} {a b:List Int} {m:Nat} (ha:Ints F w va a) (hb:Ints F' w vb b) (a6:many<=700) (S:∀k,k∈a++b->k≠0/\k.natAbs<=many) (hc:∀k,k∈a++b->k.natAbs≠m-> -k∉a++b)
  (hK:∀w' v',Ext w w'->OwnI zh w' v' (Q8 many a b m)->(∀x,v'.ownBlock=some x->w.heap.size<=x)->K v' w'):vcall WQ #[nI many,va,vb,nI m] w K:=by
 refine zf {loops:=[(4,[11]),(8,[12]),(12,[9,13])]} Tryz.func249 ?_;have ab:a.length<=9223372036854775807:=by obtain⟨_,_,_,L,h2,_⟩:=ha.shape;simp at L;omega
 have ac:b.length<=9223372036854775807:=by obtain⟨_,_,_,L,h2,_⟩:=hb.shape;simp at L;omega
 refine y9 x6 yO λJ w0 a8 T ad N=>?_;refine oZ ?_;rw[zl oM oM,show((many:Int)+1)=((many+1:Nat):Int) from by omega];refine vmkS_own (bs:=8) xu qy xt rfl oM oM λv1 w1 L U W=>?_;have a0:OwnI zh w1 v1 (List.replicate (many+1) 0):=by unfold OwnI;rw[GO];exact L
 have E1:=T.trans U;have a7:=T.size;have hN:∀x,v1.ownBlock=some x->w.heap.size<=x:=λx s=>by have:=W x s;omega
 have a1:Blk w1 J [] zW:=N.ext U;have G:∀x,v1.ownBlock=some x->x≠J:=λx s e=>by have:=W x s;have:=N.lt;omega
 refine vloop_up a.length (λi u w'=>u=[nI i]/\Ext w w'/\Blk w' J [] zW/\∃arr,OwnI zh w' v1 arr/\ArrP many (a.take i) arr) ⟨rfl,E1,a1,_,a0,by simpa using arr_nil many⟩ ?_;rintro i _ _ w2 C hi ⟨rfl,h,o,arr,q,f⟩ O;have E:=ha.ext h;simp only[push_cast,E.len];refine zb (λc1=>?_) (λc1=>?_)
 .have l:i<a.length:=oM;refine zd λw3 c _=>?_;have A:=E.ext c;have g:=q.ext c;have r:=g.ints;have Q:=f.len;obtain⟨g1,g2⟩:=S _ (Gh _ (getD_meS l));simp(disch:=exact oS) only[push_cast,A.iaddr,A.load,Q1];refine l4Abs_spec oM ?_;simp(disch:=exact oS) only[push_cast,A.iaddr,A.load,Q1,gn,r.iaddr];refine g.st yO oM λw4 I z Y=>?_;rw[inc64 oM];refine O l _ _ ⟨rfl,Ext.then (h.trans c) z hN,(o.ext c).same z λe=>G _ e rfl,_,I,?_⟩;rw[M.take_snoc' (d:=0) l];exact arr_snoc f g1 g2
 clear O;rw[gH oM] at f;refine vloop_up b.length (λi u w'=>u=[nI i]/\Ext w w'/\Blk w' J [] zW/\∃arr,OwnI zh w' v1 arr/\ArrP many (a++b.take i) arr) ⟨rfl,h,o,arr,q,by simpa using f⟩ ?_;clear f q arr o E h w2;rintro j _ _ w2 C hj ⟨rfl,h,o,arr,q,f⟩ O;have R:=hb.ext h;simp only[push_cast,R.len];refine zb (λc2=>?_) (λc2=>?_)
 .have l:j<b.length:=oM;refine zd λw3 c _=>?_;have B:=R.ext c;have g:=q.ext c;have r:=g.ints;have Q:=f.len;obtain⟨g1,g2⟩:=S _ (GL _ (getD_meS l));simp(disch:=exact oS) only[push_cast,B.iaddr,B.load,Q1];refine l4Abs_spec oM ?_;simp(disch:=exact oS) only[push_cast,B.iaddr,B.load,Q1,gn,r.iaddr];refine g.st yO oM λw4 I z Y=>?_;rw[inc64 oM];refine O l _ _ ⟨rfl,Ext.then (h.trans c) z hN,(o.ext c).same z λe=>G _ e rfl,_,I,?_⟩;rw[M.take_snoc' (d:=0) l,<-Gk];exact arr_snoc f g1 g2
 clear O;rw[gH oM] at f;have Q:=f.len;have a4:OwnI zh w2 (.slice (some ⟨J,0,none⟩) 0 0) []:=Blk.own1 (t:=zh) (cs:=[]) (by rw[qy];exact o) (gQ _) rfl rfl oM;refine vloop_up many (λn u w'=> ∃v,u=[v,nI (n+1:Nat)]/\Ext w w'/\OwnI zh w' v1 arr/\OwnI zh w' v (yd0 arr m n)/\(∀x,v.ownBlock=some x->w.heap.size<=x/\v1.ownBlock≠some x)) ⟨_,rfl,h,q,a4,λx s=>?_⟩ ?_
 .have e:J=x:=gh s;subst e;exact⟨oM,λe=>G _ e rfl⟩
 rintro n _ _ w3 C3 hn ⟨v,rfl,c,g,y,p⟩ D;refine oZ ?_;have aa:=ji0 arr m n;refine zb (λc3=>?_) (λc3=>?_)
 .have hs:=joinA_succ arr m n;have V:IntKind.i64.wrap ((n:Int)+1+1)=((n+1+1:Nat):Int):=by rw[zl oM oM];omega
  have r:=g.ints;rw[V];refine zb (λc4=>?_) (λc4=>?_)
  .rw[q0 oM] at hs;have e1:((n:Int)+1)=((n+1:Nat):Int):=rfl;rw[e1];simp(disch:=exact oS) only[r.iaddr,gu,r.load,xe0];refine zb (λZ=>?_) (λZ=>?_)
   .rw[q0 Z] at hs;refine zE x6 yO xt rfl rfl λb4 w4 a9 H Y a2=>?_;refine(y.ext H).app1 xu a2 oM oM λv5 w5 a5 X a3=>?_;have ae:=c.size;refine D oM _ _ ⟨v5,rfl,Ext.then (c.trans H) X λx s=>(p x s).1,(g.ext H).same X λx s e=>(p x e).2 s,by rw[hs];exact a5,λx s=>?_⟩;rcases a3 x s with e|e
    .exact p x e
    .exact⟨oM,λe'=>by have:=g.lt e';omega⟩
   .rw[K3 (by simpa using Z),gM] at hs;exact D oM _ _ ⟨v,rfl,c,g,by rw[hs];exact y,p⟩
  .rw[K3 oM,gM] at hs;exact D oM _ _ ⟨v,rfl,c,g,by rw[hs];exact y,p⟩
 .have:n=many:=oM;subst this;rw[joinA_eq f hc] at y;exact hK w3 v c y λx s=>(p x s).1
theorem learnS_cons {cl:List Int} (d:satOk many c s) (h:c.many=many) (hF:Fls s.put cl) (hs:Srt cl) (n:2<=(Jh s.put (yq s.why) cl).length):
  lastPl s.put cl-1<s.put.length/\lastPl s.put cl≠0/\0<=s.why.getD (lastPl s.put cl-1) 0/\s.why.getD (lastPl s.put cl-1) 0<c.list.length+s.learned.length/\
  (∀l,l∈cl++atM c s (s.why.getD (lastPl s.put cl-1) 0).toNat->l≠0/\l.natAbs<=many)/\(∀l,l∈cl++atM c s (s.why.getD (lastPl s.put cl-1) 0).toNat->l.natAbs≠(s.put.getD (lastPl s.put cl-1) 0).natAbs-> -l∉cl++atM c s (s.why.getD (lastPl s.put cl-1) 0).toNat):=by
 have v:=topOf_tops (put:=s.put) (ds:=yq s.why) (srt_nodup hs);have b:cl≠[]:=λe=>by subst e;simp[Jh] at n
 have w:=lastPl_pos hF b;obtain⟨k,o⟩:∃k,lastPl s.put cl=k+1:=⟨lastPl s.put cl-1,oM⟩;rw[o,G1];obtain⟨i,t,j,m,himp,-⟩:=last_reason d hF v n o;obtain⟨u,f⟩:=(impl_iff d.mks).1 himp;have g:(s.why.getD k 0).toNat<c.list.length+s.learned.length:=oM
 have off:∀l,l∈cl++atM c s (s.why.getD k 0).toNat->l.natAbs≠(s.put.getD k 0).natAbs-> -l∈s.put:=λl a b=>by
  rcases gr.1 a with a|a
  .exact hF l a
  .exact gU (f l a λe=>b (by rw[e]))
 refine⟨i,oM,j,m,λl a=>?_,λl a b r=>?_⟩
 .rcases gr.1 a with a|a
  .have:=d.mks.2 _ (hF l a);omega
  .exact d.lit h g a
 .have p:=off l a b;have q:=off (-l) r (by rwa[G4]);exact d.mks.neg p q
theorem l5Learn_spec {vc v vl v3:Value} {k:Nat} (hc:CnfR F w vc c) (hs:SatR F' w v s) (S:Ints Fr w vl (levs many s.put (yq s.why))) (hv:OwnI zh w v3 (atM c s k)) (e:satOk many c s) (o:c.many=many) (hk:k<c.list.length+s.learned.length) (a1:qV s.put (atM c s k))
  (hK:∀w' v',Ext w w'->OwnI zh w' v' (learnM many c s s.put.length (atM c s k))->(∀x,v'.ownBlock=some x->v3.ownBlock=some x\/w.heap.size<=x)->K v' w'):vcall Vj #[vc,v,vl,v3] w K:=by
 refine zf {loops:=[(2,[3,10])]} Tryz.func211 ?_;have a0:=hc;have M:=hs;obtain⟨lv,rfl,aa⟩:=hc;obtain⟨vp,vw,vls,rfl,hp,hw,j⟩:=hs;have d:many<=700/\c.list.length<=2500:=by
  have:=e.cnf;unfold cnfOk at this;simp only[gp,gd] at this;omega
 have a6:=e.few;have m:=e.mks;have ac:=m.len;have hlen:=e.len;have E:=Z7 a1;have Z:=clauseOk_srt (e.atOk hk);have G:(yq s.why).length<=700:=by rw[jL];omega
 have bounds:∀{b:List Int},Fls s.put b->∀x,x∈b->x.natAbs<=many/\placeOf s.put x.natAbs≠0:=λhF x A=>by
  have h1:=m.2 _ (hF x A);have D:=placeOf_ne_zero (hF x A);rw[G4] at D;exact⟨oM,D⟩
 generalize atM c s k=cl at*;refine yg λb1 w1 a7 a2 ad X=>?_;refine yg λb2 w2 a8 H ae Y=>?_;have A2:Blk w2 b1 [nI c.many,lv] zr:=X.ext H;have B2:Blk w2 b2 [vp,vw,vls,nI s.code] zw:=Y;have R:=a2.trans H;refine l5Top_spec (S.ext R) d.1 G (hv.ext R).ints (bounds E) ?_;refine oZ ?_;refine qt (λn u w'=> ∃b f v,n=lastPl s.put b/\u=[v,nI (Jh s.put (yq s.why) b).length]/\Ext w w'/\Blk w' b1 [nI c.many,lv] zr/\Blk w' b2 [vp,vw,vls,nI s.code] zw/\
   OwnI zh w' v b/\(∀x,v.ownBlock=some x->v3.ownBlock=some x\/w.heap.size<=x)/\Fls s.put b/\Srt b/\lastPl s.put b<=f/\learnM many c s f b=learnM many c s s.put.length cl) _
  ⟨cl,s.put.length,v3,rfl,rfl,R,A2,B2,hv.ext R,λx A=> .inl A,E,Z,lastPl_le,rfl⟩ ?_
 rintro _ _ _ w3 C ⟨b,f,v,rfl,rfl,V,A3,B3,t,a3,hF,hS,ab,r⟩ hC;refine oZ ?_;refine zb (λa=>?_) (λa=>?_)
 .have D:2<=(Jh s.put (yq s.why) b).length:=oM;obtain⟨g1,g2,g3,g4,g5,g6⟩:=learnS_cons e o hF hS D;obtain⟨k1,k2,k3,k4⟩:=learnS_ok e o hF hS D;obtain⟨f,rfl⟩:∃f',f=f'+1:=⟨f-1,oM⟩;rw[learnM,q0 oM] at r;rw[B3.ldAgg zS];refine l5Last_spec (M.ext V) m d.1 t.ints (λl S=>by have:=(bounds hF l S).1;omega) λw4 g=>?_;have E4:=V.trans g;refine zd λw5 h _=>?_;have B:=E4.trans h;have T:=(A3.ext g).ext h;have Q:=(B3.ext g).ext h;obtain⟨q,hq⟩:∃q,lastPl s.put b=q+1:=⟨lastPl s.put b-1,oM⟩;have j:qK many c s b=Q8 many b (atM c s (s.why.getD q 0).toNat) (s.put.getD q 0).natAbs:=by unfold qK;rw[hq,G1]
  rw[hq,G1] at g1 g3 g4 g5 g6;rw[hq,show((q+1:Nat):Int)-1=(q:Int) from by omega];have J:=hp.ext B;have O:=hw.ext B;simp(disch:=exact oS) only[push_cast,T.ldAgg zF,Q.ldAgg zS,T.ld0,Q.ld0,Q.ld1,Q1,J.iaddr,J.load,O.iaddr,O.load];obtain⟨y,hy⟩:∃y:Nat,s.why.getD q 0=y:=⟨(s.why.getD q 0).toNat,oM⟩;rw[hy] at g4 g5 g6 j⊢;rw[gu] at g5 g6 j;refine l5At_spec (a0.ext B) (M.ext B) oM oM λw6 v6 i a5=>?_;have W:=B.trans i;have U:=T.ext i;have B6:=Q.ext i;have L:=hp.ext W;simp(disch:=exact oS) only[push_cast,U.ld0,B6.ld0,Q1,gn,L.iaddr,L.load];have a9:=m.2 _ (getD_meS g1);refine l4Abs_spec oM ?_;simp(disch:=exact oS) only[push_cast,U.ld0,Q1,gn];rw[o];have N:=(((t.ext g).ext h).ext i);refine l5Join_spec N.ints a5 d.1 g5 g6 λw7 v7 p z a4=>?_;have E7:=W.trans p;rw[<-j] at z;refine l5Top_spec (S.ext E7) d.1 G z.ints (bounds k1) ?_;refine oZ ?_;refine hC (lastPl s.put (qK many c s b)) _ _ k3 ⟨_,f,v7,rfl,rfl,E7,U.ext p,B6.ext p,z,λx A=> .inr ?_,k1,k2,oM,r⟩;have:=a4 x A;have:=W.size;omega
 .have I:learnM many c s s.put.length cl=b:=by
   rw[<-r];cases f with
   |zero=>rfl
   |succ f=>rw[learnM,K3 oM]
  rw[I] at hK;exact hK w3 v V t a3
theorem l4Max_spec {a b:Nat} (c:K (nI (max a b:Nat)) w):vcall zO0 #[nI a,nI b] w K:=by
 refine zf {} Tryz.func250 ?_;refine oZ ?_;refine zb (λh=>?_) (λh=>?_)
 .rwa[show max a b=a from by omega] at c
 .rwa[show max a b=b from by omega] at c
theorem l5Below_spec {v v':Value} {put cl:List Int} {ds:List Bool} (o:Ints F w v (levs many put ds)) (m:many<=700) (e:Ints Fr w v' cl) (s:∀l,l∈cl->l.natAbs<=many/\placeOf put l.natAbs≠0)
  (q:K (nI (Zv put ds cl:Nat)) w):vcall Vl #[v,v',nI (kW put ds cl:Nat)] w K:=by
 refine zf {loops:=[(3,[7,8])]} Tryz.func213 ?_;have hlen:cl.length<=9223372036854775807:=by obtain⟨_,_,_,p,x,_⟩:=e.shape;simp at p;omega
 have t:=Uo many put ds;generalize r:kW put ds cl=T;refine vloop_up cl.length (λi u w'=>w'=w/\u=[nI (maxL (((cl.take i).filter λk=>decide (lvM put ds k<T)).map (lvM put ds)):Nat),nI i]) ⟨rfl,rfl⟩ ?_;rintro i _ _ _ C hi ⟨rfl,rfl⟩ n;simp only[push_cast,e.len];refine zb (λa=>?_) (λa=>?_)
 .have f:i<cl.length:=oM;simp(disch:=exact oS) only[push_cast,e.iaddr,e.load];obtain⟨g,h⟩:=s _ (getD_meS f);refine l4Abs_spec oM ?_;simp(disch:=exact oS) only[push_cast,o.iaddr,o.load];rw[levs_get g,levV_lit h];have c:(cl.take (i+1)).filter (λk=>decide (lvM put ds k<T))=(cl.take i).filter (λk=>decide (lvM put ds k<T))++(if lvM put ds (cl.getD i 0)<T then[cl.getD i 0] else[]):=by
   rw[M.take_snoc' (d:=0) f,PW,z0a,List.filter_nil];simp only[gd]
  have j:∀A:List Int,maxL ((A++[cl.getD i 0]).map (lvM put ds))=max (maxL (A.map (lvM put ds))) (lvM put ds (cl.getD i 0)):=λA=>by
   rw[gD];exact maxL_snoc _ _ _ rfl
  refine zb (λb=>?_) (λb=>?_)
  .refine l4Max_spec ?_;rw[inc64 oM];rw[K3 oM] at c;refine n f _ _ ⟨rfl,?_⟩;rw[c,j]
  .rw[inc64 oM];rw[q0 oM,gM] at c;exact n f _ _ ⟨rfl,by rw[c]⟩
 .rw[gH oM,<-r];exact q
end
section
variable {w:World} {K:oK} {F F':Nat->Prop} {many:Nat} {c:Cnf} {s:Sat}
def SpR (Z:Nat->Prop) (w:World) (v:Value) (s:Sat):Prop:=
 ∃vp vw vl,v= .agg #[vp,vw,vl,nI s.code]/\OwnI zh w vp s.put/\OwnI zh w vw s.why/\(∀b,vp.ownBlock=some b->Z b/\vw.ownBlock≠some b)/\(∀b,vw.ownBlock=some b->Z b)/\
  Lists (λb=>Z b/\vp.ownBlock≠some b/\vw.ownBlock≠some b) w vl s.learned
section
variable {Z Z':Nat->Prop} {v:Value} {w':World}
theorem SpR.ext (h:SpR Z w v s) (he:Ext w w'):SpR Z w' v s:=by
 obtain⟨vp,vw,vl,e,a,b,c,d,f⟩:=h;exact⟨vp,vw,vl,e,a.ext he,b.ext he,c,d,f.ext he⟩
theorem SpR.same {S:Nat->Prop} (h:SpR Z w v s) (hw:Same S w w') (c:∀b,Z b->b<w.heap.size->¬S b):SpR Z w' v s:=by
 obtain⟨vp,vw,vl,e,d,f,g,i,j⟩:=h;exact⟨vp,vw,vl,e,d.same hw λb a=>c b (g b a).1 (d.lt a),f.same hw λb a=>c b (i b a) (f.lt a),g,i,j.same hw λb a=>c b a.1⟩
theorem SpR.weaken (h:SpR Z w v s) (c:∀b,Z b->b<w.heap.size->Z' b):SpR Z' w v s:=by
 obtain⟨vp,vw,vl,e,d,f,g,i,j⟩:=h;exact⟨vp,vw,vl,e,d,f,λb a=>⟨c b (g b a).1 (d.lt a),(g b a).2⟩,λb a=>c b (i b a) (f.lt a),j.weaken λb a k=>⟨c b a.1 k,a.2⟩⟩
theorem SpR.below (h:SpR Z w v s):SpR (λb=>Z b/\b<w.heap.size) w v s:=h.weaken λ_ a c=>⟨a,c⟩
theorem SpR.sat (h:SpR Z w v s):SatR Z w v s:=by
 obtain⟨vp,vw,vl,e,c,d,f,g,i⟩:=h;exact⟨vp,vw,vl,e,c.ints.weaken λb a _=>(f b a).1,d.ints.weaken λb a _=>g b a,i.weaken λb a _=>a.1⟩
theorem SpR.empty:SpR Z w (.agg #[.slice none 0 0,.slice none 0 0,.slice none 0 0,nI 0]) emptyS:=
 ⟨_,_,_,rfl,OwnI.nil,OwnI.nil,λb a=>(by cases a),λb a=>(by cases a),jV0⟩
end
theorem copy_ints {v:Value} {xs:List Int} {b:Nat} {t:TypeId} (f:Blk w b [] zW) (a:Ints F w v xs) (c:xs.length*8<=140737488355328)
  (g:∀v' w',OwnI zh w' v' xs->Same (· =b) w w'->(∀x,v'.ownBlock=some x->x=b\/w.heap.size<=x)->K v' w'):vbi .append [zh,zh] t [.slice (some ⟨b,0,none⟩) 0 0,v] w K:=by
 have d:OwnI zh w (.slice (some ⟨b,0,none⟩) 0 0) []:=Blk.own1 (t:=zh) (cs:=[]) (by rw[qy];exact f) (gQ _) rfl rfl oM;refine d.app (ys:=xs) xu a (by simp only[pK];omega) (by simpa using c) λv' w2 i hs h=>g v' w2 i (hs.mono λx _ a=>?_) λx a=>?_
 .exact(gh a).symm
 .exact(h x a).imp (λe=>(gh e).symm) id
theorem l5Back_spec {vp vw vl:Value} {L:Nat} (hp:OwnI zh w vp s.put) (hw:OwnI zh w vw s.why) (ac:vl.oneCell'=true) (hlen:s.put.length=s.why.length) (ag:s.put.length<=700) (hL:L<=700) (Y:∀k,k<s.why.length->s.why.getD k 0= -1\/0<=s.why.getD k 0)
  (hK:∀w' F y,Ext w w'->OwnI zh w' F (s.put.take (backN (yq s.why) L s.put.length))->OwnI zh w' y (s.why.take (backN (yq s.why) L s.put.length))->(∀b,F.ownBlock=some b->w.heap.size<=b/\y.ownBlock≠some b)->(∀b,y.ownBlock=some b->w.heap.size<=b)->K (.agg #[F,y,vl,nI s.code]) w'):
  vcall WS #[.agg #[vp,vw,vl,nI s.code],nI L] w K:=by
 refine zf {loops:=[(3,[5,6])],cuts:=[(16392,[5])]} Tryz.func212 ?_;refine yg λb2 w2 ak a8 av a2=>?_;refine xE qW λb4 A al O aw a3=>?_;have B4:Blk A b2 [vp,vw,vl,nI s.code] zw:=a2.ext O;have R4:Blk A b4 [.slice none 0 0,.slice none 0 0,.slice none 0 0,nI 0] zw:=a3;have E4:=a8.trans O;have R:=hp.ext E4;have ad:=hw.ext E4;have aa:=R.ints;have Z:=ad.ints;have aq:=jL s.why;refine zq (λu w'=>w'=A/\u=[nI (backN (yq s.why) L s.put.length:Nat)]) ?_ ?_
 .intro J hJ;have done:∀n,n<=s.put.length->(∀i,i<n->(lvl (yq s.why) i:Int)<=L)->(n=s.put.length\/(L:Int)<(lvl (yq s.why) n:Int))->J [nI (n:Nat)] A:=λn h1 h2 h3=>hJ _ _ ⟨rfl,by rw[backN_eq h1 h2 h3]⟩;refine vloop_up s.put.length (λn u w'=>w'=A/\u=[nI n,nI (((yq s.why).take n).count true:Nat)]/\∀i,i<n->(lvl (yq s.why) i:Int)<=L) ⟨rfl,rfl,oM⟩ ?_;rintro n _ _ A C hn ⟨rfl,rfl,f⟩ hC;simp only[push_cast,B4.ld0,aa.len];refine zb (λa=>?_) (λa=>done n hn f (.inl oM));have a9:n<s.put.length:=oM;have a7:=Ye (ds:=yq s.why) (i:=n) oM;have B:=lvl_succ (ds:=yq s.why) (i:=n) oM;have ap:((yq s.why).take n).count true<=700:=gO Pb (by simp;omega);have N:=JO (why:=s.why) (k:=n) oM;have au:=Y n oM;simp(disch:=exact oS) only[push_cast,B4.ld1,Z.iaddr,Z.load];have j:∀k:Nat,k=lvl (yq s.why) n->¬(L:Int)<k->(n<s.put.length->∀(u':List Value) (w'':World),(w''=A/\u'=[nI (n+1:Nat),nI (((yq s.why).take (n+1)).count true:Nat)]/\∀i,i<n+1->(lvl (yq s.why) i:Int)<=L)->C u' w'')->C [nI (n+1:Nat),nI k] A:=λk Q ar h=>by
   refine h a9 _ _ ⟨rfl,by rw[a7,<-B,Q],λi hi=>?_⟩;by_cases e:i=n
   .subst e;omega
   .exact f i oM
  refine zb (λb=>?_) (λb=>?_)
  .have Q:((yq s.why).take n).count true+1=lvl (yq s.why) n:=by rw[B,N,gm oM];rfl
   rw[inc64 oM];refine zb (λb2=>done n hn f (.inr oM)) (λb2=>?_);rw[inc64 oM];exact j _ Q b2 hC
  .have Q:((yq s.why).take n).count true=lvl (yq s.why) n:=by rw[B,N,gj oM];rfl
   refine zb (λb2=>done n hn f (.inr oM)) (λb2=>?_);rw[inc64 oM];exact j _ Q b2 hC
 rintro _ _ _ ⟨rfl,rfl⟩;have ao:=backN_le (yq s.why) L s.put.length;generalize backN (yq s.why) L s.put.length=n at*;have aj:=E4.size;refine y9 x6 yO λb5 w5 am o ax a4=>?_;have B5:=B4.ext o;have S:=R.ext o;simp(disch:=exact oS) only[push_cast,B5.ld0,S.cut];have ab:=S.taken (n:=n) oM;refine copy_ints a4 ab.ints (by simp;omega) λv6 w6 t D p=>?_;have B6:=B5.same D oM;refine B6.st t.ints.cells1 t.ints.one qS rfl λw7 T az a5=>?_;have B7:Blk w7 b2 [v6,vw,vl,nI s.code] zw:=a5;have ay:=D.size;have E:=t.same T λx c e=>by rcases p x c with d|d<;>omega
 have z:Same (λx=>x=b5\/x=b2) w5 w7:=(D.mono λx _ e=> .inl e).trans (T.mono λx _ e=> .inr e);have M:Ext w w7:=Ext.then (E4.trans o) z λx c=>oM
 refine y9 x6 yO λb8 w8 an g b0 a6=>?_;have B8:=B7.ext g;have X:=hw.ext (M.trans g);simp(disch:=exact oS) only[push_cast,B8.ld1,X.cut];have ae:=X.taken (n:=n) oM;refine copy_ints a6 ae.ints (by simp;omega) λv9 w9 v r q=>?_;have B9:=B8.same r oM;have V:=(E.ext g).same r λx c e=>by have:=E.lt c;omega
 refine B9.st v.ints.cells1 v.ints.one qS rfl λw10 l ah G=>?_;have a0:Blk w10 b2 [v6,v9,vl,nI s.code] zw:=G;have b1:=r.size;have U:=V.same l λx c e=>by rcases p x c with d|d<;>omega
 have W:=v.same l λx c e=>by rcases q x c with d|d<;>omega
 have hS:Same (λx=>x=b8\/x=b2) w8 w10:=(r.mono λx _ e=> .inl e).trans (l.mono λx _ e=> .inr e);have I:Ext w w10:=Ext.then (M.trans g) hS λx c=>oM
 have a1:Blk w10 b4 [.slice none 0 0,.slice none 0 0,.slice none 0 0,nI 0] zw:=((((R4.ext o).same z oM).ext g).same hS oM);rw[a0.ldAgg zS];refine a1.stAgg (cs':=[v6,v9,vl,nI s.code]) rfl zS (λx c=>?_) λaf m ai H=>?_
 .simp only[gl,gC,Gi] at c;rcases c with rfl|rfl|rfl|rfl
  .exact t.ints.one
  .exact v.ints.one
  .exact ac
  .rfl
 rw[H.lv zS];refine hK af v6 v9 (Ext.then I m λx c=>oM) (U.same m λx c e=>?_) (W.same m λx c e=>?_) (λx c=>⟨?_,λe=>?_⟩) (λx c=>?_)
 .rcases p x c with d|d<;>omega
 .rcases q x c with d|d<;>omega
 .rcases p x c with d|d<;>omega
 .have:=E.lt c;rcases q x e with d|d<;>omega
 .rcases q x c with d|d<;>omega
theorem QT {vl:Value} {xss:List (List Int)} (h:Lists F w vl xss):vl.oneCell'=true:=by
 obtain⟨vs,_,a,_⟩:=h;exact a.one
theorem l5Clash_spec {vc v v2:Value} {Z:Nat->Prop} {k:Nat} (hc:CnfR F w vc c) (hs:SpR Z w v s) (d:Ints F' w v2 (atM c s k)) (A:satOk many c s) (Y:c.many=many) (hk:k<c.list.length+s.learned.length) (ac:qV s.put (atM c s k))
  (hK:∀w' v',Ext w w'->SpR (λb=>Z b\/w.heap.size<=b) w' v' (jn many c s (atM c s k))->K v' w'):vcall Vk #[vc,v,v2] w K:=by
 refine zf {} Tryz.func175 ?_;have ax:=hc;have bc:=hs.sat;obtain⟨lv,rfl,cx⟩:=hc;obtain⟨vp,vw,vl,rfl,hp,hw,ay,bz,af⟩:=hs;have D:many<=700/\c.list.length<=2500:=by
  have:=A.cnf;unfold cnfOk at this;simp only[gp,gd] at this;omega
 have ch:=A.few;have ag:=A.mks;have cz:=ag.len;have hlen:=A.len;have az:(yq s.why).length<=700:=by rw[jL];omega
 have a8:∀k,k<s.why.length->s.why.getD k 0= -1\/0<=s.why.getD k 0:=λk hk=>(A.why k hk).imp id λh=>h.1;have bounds:∀{an:List Int},Fls s.put an->∀x,x∈an->x.natAbs<=many/\placeOf s.put x.natAbs≠0:=λhF x d=>by
  have h1:=ag.2 _ (hF x d);have h2:=placeOf_ne_zero (hF x d);rw[G4] at h2;exact⟨oM,h2⟩
 have cc:=clauseOk_len (m:=many) (by have:=A.atOk hk;rwa[Y] at this);obtain⟨z1,z2,z3,z4⟩:=Up A Y hk ac;refine yg λb3 w1 ct c0 d0 br=>?_;refine yg λb4 w2 cu b0 d1 bs=>?_;refine xE qW λb6 w3 cv ad d2 bt=>?_;have A3:Blk w3 b3 [nI c.many,lv] zr:=(br.ext b0).ext ad;have B3:Blk w3 b4 [vp,vw,vl,nI s.code] zw:=bs.ext ad;have R3:Blk w3 b6 [.slice none 0 0,.slice none 0 0,.slice none 0 0,nI 0] zw:=bt;have E3:=c0.trans (b0.trans ad);rw[A3.ldAgg zF,B3.ldAgg zS];refine l5Levels_spec (ax.ext E3) (bc.ext E3) Y D.1 ag hlen a8 λw4 vlev O z ah=>?_;have E4:=E3.trans O;refine l5Top_spec z.ints D.1 az (d.ext E4) (bounds (Z7 ac)) ?_;have A4:=A3.ext O;have B4:=B3.ext O;have R4:=R3.ext O;have d3:=O.size;have ones:∀{U V bf:Value} {cd:Int},U.oneCell'=true->V.oneCell'=true->bf.oneCell'=true->∀x,x∈[U,V,bf,nI cd]->x.oneCell'=true:=λh1 h2 h3 x d=>by
  simp only[gl,gC,Gi] at d;rcases d with rfl|rfl|rfl|rfl
  .exact h1
  .exact h2
  .exact h3
  .rfl
 have code:∀(cd:Int),jn many c s (atM c s k)={s with code:=cd}->zG zW (oP b4 3) (nI cd) w4 λ_ bi=>zu zw (oP b4 0) bi λt22 bj=>zG zw (oP b6 0) t22 bj λ_ bk=>vlv zw (oP b6 0) bk λr6 bl=>K r6 bl:=λcd X=>by
  refine B4.st rfl rfl yO rfl λw5 bd c9 bu=>?_;have B5:Blk w5 b4 [vp,vw,vl,nI cd] zw:=bu;rw[B5.ldAgg zS];refine(R4.same bd oM).stAgg (cs':=[vp,vw,vl,nI cd]) rfl zS (ones hp.ints.one hw.ints.one (QT af)) λw6 c4 d4 bv=>?_;rw[bv.lv zS];have W:Ext w w6:=Ext.then E4 ((bd.mono λx _ e=>(.inl e:x=b4\/x=b6)).trans (c4.mono λx _ e=> .inr e)) λx d=>oM;refine hK w6 _ W ?_;rw[X];exact⟨vp,vw,vl,rfl,hp.ext W,hw.ext W,λb hb=>⟨.inl (ay b hb).1,(ay b hb).2⟩,λb hb=> .inl (bz b hb),(af.ext W).weaken λb hb _=>⟨.inl hb.1,hb.2⟩⟩
 refine oZ ?_;refine zb (λa=>?_) (λa=>?_)
 .exact code 2 (by unfold jn;rw[K3 oM])
 obtain⟨es,c1,b5,b1⟩:=af;have b8:=b5.ext E4;simp only[push_cast,B4.ld2,b8.len];refine zb (λa2=>?_) (λa2=>?_)
 .exact code 3 (by unfold jn;rw[q0 oM,K3 oM])
 clear code;have X:jn many c s (atM c s k)={s with put:=s.put.take (backN (yq s.why) (Zv s.put (yq s.why) (learnM many c s s.put.length (atM c s k))) s.put.length),why:=s.why.take (backN (yq s.why) (Zv s.put (yq s.why) (learnM many c s s.put.length (atM c s k))) s.put.length),learned:=s.learned++[learnM many c s s.put.length (atM c s k)]}:=by
  unfold jn;rw[q0 oM,q0 oM]
 rw[X] at hK;clear X;refine zd λw5 J _=>?_;have A5:=A4.ext J;have B5:=B4.ext J;simp only[push_cast,A5.ldAgg zF,B5.ldAgg zS,Q1];refine y9 x6 yO λb7 w7 cw L d5 bw=>?_;have E7:=E4.trans (J.trans L);have A7:=A5.ext L;have B7:=B5.ext L;simp only[push_cast,A7.ldAgg zF,B7.ldAgg zS,Q1,gn];have c9:=J.size;have cq:=L.size;refine copy_ints bw (d.ext E7) oM λv8 w8 c5 M c2=>?_;have A8:=A7.same M oM;have B8:=B7.same M oM;have ab:Ext w w8:=Ext.then E7 M λx d=>by have:=E4.size;omega
 simp only[push_cast,A8.ldAgg zF,B8.ldAgg zS,Q1,gn];have d6:=M.size;have R:=((z.ext J).ext L).same M λx d e=>by have:=z.lt d;omega
 refine l5Learn_spec (ax.ext ab) (bc.ext ab) R.ints c5 A Y hk ac λw9 v9 Q ai c3=>?_;have E9:=ab.trans Q;have d7:=Q.size;have S:∀x,v9.ownBlock=some x->w4.heap.size<=x:=λx d=>by
  rcases c3 x d with e|e
  .rcases c2 x e with e|e<;>omega
  .omega
 generalize cy:learnM many c s s.put.length (atM c s k)=lc at*;refine y9 Qy qS λa9 w10 ce n ci ao=>?_;have ak:=(B8.ext Q).ext n;have am:=E9.trans n;have ae:=b5.ext am;simp only[push_cast,ak.ld2];have bq:OwnV zL w10 (.slice (some ⟨a9,0,none⟩) 0 0) []:=Blk.own1 (t:=zL) (cs:=[]) (by rw[UX];exact ao) (gQ _) rfl rfl oM;have b2:∀u,u∈es->u.oneCell'=true:=λu hu=>by
  obtain⟨i,hi,rfl⟩:=gx hu;have:=(b1 i oM).one;simpa[X0,hi] using this
 refine bq.app (us:=es) Y6 ae b2 (by simp;omega) (by simp;omega) λv11 bg a6 a5 ba=>?_;have f:∀x,v11.ownBlock=some x->w9.heap.size<=x:=λx d=>by
  rcases ba x d with e|e
  .have e:a9=x:=gh e;omega
  .omega
 have r:Same (· =a9) w10 bg:=a5.mono λx _ e=>(gh e).symm;have bm:=ak.same r oM;have c6:=n.size;have cj:=a5.size;have T:=(ai.ext n).same r λx d e=>by have:=ai.lt d;omega
 have au:Ext w bg:=Ext.then am r λx d=>by have:=E9.size;omega
 refine zE Qy qS JS rfl T.ints.cells1 λcr d8 cf g ck ap=>?_;rw[Gp] at a6;refine OwnV.app1 (a6.ext g) Y6 ap T.ints.one oM oM λa1 ca C o bb=>?_;have E:∀x,a1.ownBlock=some x->w9.heap.size<=x:=λx d=>by
  rcases bb x d with e|e
  .exact f x e
  .have:=g.size;omega
 have c7:=g.size;have cl:=o.size;have bn:=(bm.ext g).same o λe=>by have:=f _ e;have:=B8.lt;omega
 have av:Ext w ca:=Ext.then (au.trans g) o λx d=>by have:=f x d;have:=E9.size;omega
 have be:=(T.ext g).same o λx d e=>by have:=f x e;have:=ai.lt d;omega
 refine bn.st C.vals.cells1 C.vals.one Qw rfl λaj p cm aq=>?_;have bo:Blk aj b4 [vp,vw,a1,nI s.code] zw:=aq;have aw:Ext w aj:=Ext.then av p λx d=>oM
 have G:=C.same p λx d e=>by have:=E x d;have:=B8.lt;omega
 have H:=be.same p λx d e=>by have:=S x d;have:=B4.lt;omega
 have a0:OwnI zh aj vlev (levs many s.put (yq s.why)):=((((R.ext Q).ext n).same r λx d e=>by have:=z.lt d;omega).ext g|>.same o λx d e=>by have:=f x e;have:=z.lt d;omega).same p λx d e=>by have:=ah x d;have:=B3.lt;omega
 refine zd λd9 j _=>?_;have al:=bo.ext j;simp only[push_cast,al.ldAgg zS,Q1];have l:=aw.trans j;have c8:=p.size;have cn:=j.size;rw[<-z3];refine l5Below_spec (a0.ext j).ints D.1 (H.ext j).ints (bounds z1) ?_;simp only[push_cast,al.ldAgg zS,Q1,gn];have bx:Zv s.put (yq s.why) lc<=700:=by
  unfold Zv;rcases jc (xs:=(lc.filter λk=>decide (lvM s.put (yq s.why) k<kW s.put (yq s.why) lc)).map (lvM s.put (yq s.why))) with e|e
  .omega
  .obtain⟨q,_,e⟩:=gy.1 e;rw[<-e];exact gO (lvl_le _ _) az
 refine l5Back_spec (s:={s with code:=s.code}) (hp.ext l) (hw.ext l) C.vals.one hlen oM bx a8 λcb U V y a4 a7 I N=>?_;have bp:Blk cb b6 [.slice none 0 0,.slice none 0 0,.slice none 0 0,nI 0] zw:=by
  have h6:=R3.lt;exact(((((((((R4.ext J).ext L).same M oM).ext Q).ext n).same r oM).ext g).same o λe=>by have:=f _ e;omega).same p oM|>.ext j).ext y
 refine bp.stAgg (cs':=[U,V,a1,nI s.code]) rfl zS (ones a4.ints.one a7.ints.one C.vals.one) λbh B cp ar=>?_;rw[ar.lv zS];have a3:Ext w bh:=Ext.then (l.trans y) B λx d=>oM
 have cg:=R3.lt;have co:=y.size;refine hK bh _ a3 ⟨U,V,a1,rfl,a4.same B λx d e=>by have:=(I x d).1;omega,a7.same B λx d e=>by have:=N x d;omega,λx d=>⟨.inr (by have:=(I x d).1;have:=l.size;omega),(I x d).2⟩,λx d=> .inr (by have:=N x d;have:=l.size;omega),es++[v9],by simp[c1],?_,λi hi=>?_⟩
 .have aa:=((G.ext j).ext y).same B λx d e=>by have:=E x d;omega
  refine aa.vals.weaken λx d _=>⟨.inr (by have:=E x d;have:=E9.size;omega),λe=>?_,λe=>?_⟩
  .have:=(I x e).1;have:=G.lt d;omega
  .have:=N x e;have:=G.lt d;omega
 .simp only[gg,gZ] at hi;by_cases b9:i<s.learned.length
  .rw[getD_app_l oM,getD_app_l b9];refine(((b1 i b9).weaken (F':=λx=>(Z x/\vp.ownBlock≠some x/\vw.ownBlock≠some x)/\x<w.heap.size) λx h1 h2=>⟨h1,h2⟩).ext a3).weaken λx d _=>⟨.inl d.1.1,λe=>?_,λe=>?_⟩
   .have:=(I x e).1;have:=l.size;omega
   .have:=N x e;have:=l.size;omega
  .have e1:i=s.learned.length:=oM;have e2:i=es.length:=oM;have g1:(es++[v9]).getD i undef=v9:=by rw[e2];simp
   have g2:(s.learned++[lc]).getD i []=lc:=by rw[e1];simp
   rw[g1,g2];have aa:=((H.ext j).ext y).same B λx d e=>by have:=S x d;omega
   refine aa.ints.weaken λx d _=>⟨.inr (by have:=S x d;have:=E4.size;omega),λe=>?_,λe=>?_⟩
   .have:=(I x e).1;have:=H.lt d;omega
   .have:=N x e;have:=H.lt d;omega
end
section
variable {w:World} {K:oK} {F F':Nat->Prop} {many:Nat} {c:Cnf} {s:Sat}
theorem l5Do_spec {vc v:Value} {Z:Nat->Prop} (hc:CnfR F w vc c) (hs:SpR Z w v s) (B:satOk many c s) (a3:c.many=many)
  (hK:∀w' v',Same Z w w'->SpR (λb=>Z b\/w.heap.size<=b) w' v' (goM many c s)->K v' w'):vcall yU0 #[vc,v] w K:=by
 refine zf {loops:=[(13,[9])]} Tryz.func131 ?_;have S:=hc;have bj:=hs.sat;have bk:=hs;obtain⟨lv,rfl,ad⟩:=hc;obtain⟨vp,vw,vl,rfl,hp,hw,p,a4,J⟩:=hs;have L:many<=700/\c.list.length<=2500:=by
  have:=B.cnf;unfold cnfOk at this;simp only[gp,gd] at this;omega
 have bu:=B.few;have M:=B.mks;have c9:=M.len;have hlen:=B.len;have ac:∀cl,cl∈c.list++s.learned->∀l,l∈cl->l≠0/\l.natAbs<=many:=λcl ad l hl=>satOk.bnd B a3 ad hl;refine yg λb2 w1 c2 bf cb ba=>?_;refine yg λb3 w2 c3 ae cc bb=>?_;refine xE qW λb4 w3 c4 a5 ce bc=>?_;have A3:Blk w3 b2 [nI c.many,lv] zr:=(ba.ext ae).ext a5;have B3:Blk w3 b3 [vp,vw,vl,nI s.code] zw:=bb.ext a5;have R3:Blk w3 b4 [.slice none 0 0,.slice none 0 0,.slice none 0 0,nI 0] zw:=bc;have E3:=bf.trans (ae.trans a5);rw[A3.ldAgg zF];simp only[push_cast,B3.ld0];refine l5Vals_spec (S.ext E3) a3 L.1 (hp.ext E3).ints M λw4 v4 G ak c7=>?_;have E4:=E3.trans G;have A4:=A3.ext G;have B4:=B3.ext G;simp only[push_cast,A4.ldAgg zF,B4.ld2];refine l5Find_spec (S.ext E4) (J.ext E4) ak.ints M L.1 oM ac λw5 k u x H hf=>?_;have E5:=E4.trans H;have A5:=A4.ext H;have X:=B4.ext H;have R5:=(R3.ext G).ext H;have bm:=ak.ext H;have l3:=X.lt;have l4:=R5.lt;have cg:=E5.size;have cf:=G.size;refine oZ ?_;have ones:∀{q E ao:Value} {cd:Int},q.oneCell'=true->E.oneCell'=true->ao.oneCell'=true->∀x,x∈[q,E,ao,nI cd]->x.oneCell'=true:=λh1 h2 h3 x a=>by
  simp only[gl,gC,Gi] at a;rcases a with rfl|rfl|rfl|rfl
  .exact h1
  .exact h2
  .exact h3
  .rfl
 have n:goM many c s=(if 0<=k then jn many c s (atM c s k.toNat) else if 0<=u then{s with put:=s.put++[x],why:=s.why++[u]}
  else if s.put.length=many then{s with code:=1} else{s with put:=s.put++[-(ZB many s.put:Int)],why:=s.why++[-1]}):=by
  unfold goM;rw[hf]
 have push:∀(W:World) (l y:Int),Ext w W->Blk W b3 [vp,vw,vl,nI s.code] zw->Blk W b4 [.slice none 0 0,.slice none 0 0,.slice none 0 0,nI 0] zw->w5.heap.size<=W.heap.size->goM many c s={s with put:=s.put++[l],why:=s.why++[y]}->
   vbuildS zh 1 [(0,nI l)] W λt39 aq=>vbi .append [zh,zh] zh [vp,t39] aq λt40 ar=>zG zh (oP b3 0) t40 ar λ_ au=>zu zh (oP b3 1) au λt43 av=>
   vbuildS zh 1 [(0,nI y)] av λt45 aw=>vbi .append [zh,zh] zh [t43,t45] aw λt46 ax=>zG zh (oP b3 1) t46 ax λ_ ay=>zu zw (oP b3 0) ay λt48 az=>
   zG zw (oP b4 0) t48 az λ_ b0=>vlv zw (oP b4 0) b0 λan b1=>K an b1:=by
  intro W l y E6 B6 R6 bq ag;have ci:=E6.size;refine zE x6 yO xt rfl rfl λb7 w7 c5 j br a1=>?_;have r:=E6.trans j;refine(hp.ext r).app1 xu a1 oM oM λq w8 U V A=>?_;have nb:∀x,vp.ownBlock=some x->x<w.heap.size:=λx a=>hp.lt a;have nw:∀x,vw.ownBlock=some x->x<w.heap.size:=λx a=>hw.lt a;have B8:=(B6.ext j).same V λe=>by have:=nb _ e;omega
  refine B8.st U.ints.cells1 U.ints.one qS rfl λw9 D bs a2=>?_;have B9:Blk w9 b3 [q,vw,vl,nI s.code] zw:=a2;have bh:=U.same D λx a e=>by rcases A x a with d|d;(have:=nb _ d;omega);omega
  have bo:=((hw.ext r).same V λx a e=>(p x e).2 a).same D λx a e=>by have:=nw _ a;omega
  simp only[push_cast,B9.ld1];have ch:=V.size;refine zE x6 yO xt rfl rfl λc1 w10 bt t bw a8=>?_;refine(bo.ext t).app1 xu a8 oM oM λE cj Q z g=>?_;have b5:=(B9.ext t).same z λe=>by have:=nw _ e;omega
  have ah:=(bh.ext t).same z λx a e=>by
   rcases A x a with d|d
   .exact(p x d).2 e
   .have:=nw _ e;omega
  refine b5.st Q.ints.cells1 Q.ints.one qS rfl λap N bz a9=>?_;have b8:Blk ap b3 [q,E,vl,nI s.code] zw:=a9;have hS:Same (λx=>vp.ownBlock=some x\/vw.ownBlock=some x\/x=b3) w7 ap:=(V.mono λx _ e=> .inl e).trans ((D.mono λx _ e=> .inr (.inr e)).trans ((Same.of_ext t).trans ((z.mono λx _ e=> .inr (.inl e)).trans (N.mono λx _ e=> .inr (.inr e)))));have b9:=(R6.ext j).same hS (by rintro(e|e|e);exact absurd (nb _ e) oM;exact absurd (nw _ e) oM;omega);have Y:=ah.same N λx a e=>by rcases A x a with d|d;(have:=nb _ d;omega);omega
  have bx:=z.size;have a0:=Q.same N λx a e=>by rcases g x a with d|d;(have:=nw _ d;omega);omega
  rw[b8.ldAgg zS];refine b9.stAgg (cs':=[q,E,vl,nI s.code]) rfl zS (ones Y.ints.one a0.ints.one (QT J)) λa7 O c0 aa=>?_;rw[aa.lv zS];have o:Same (λx=>vp.ownBlock=some x\/vw.ownBlock=some x\/x=b3\/x=b4) w7 a7:=(hS.mono λx _ e=>e.imp id λe=>e.imp id .inl).trans (O.mono λx _ e=> .inr (.inr (.inr e)));have ab:Same (λb=>vp.ownBlock=some b\/vw.ownBlock=some b) w a7:=by
   refine⟨o.os.trans r.os,o.tape.trans r.tape,o.output.trans r.output,gO r.size o.size,λb f hn=>?_⟩;rw[o.block b (by have:=r.size;omega) (by rintro(e|e|e|e);exact hn (.inl e);exact hn (.inr e);omega;omega),r.block b f id]
  have bp:=hS.size;refine hK a7 _ (ab.mono λb _ e=>e.elim (λe=>(p b e).1) (a4 b)) ?_;rw[ag];refine⟨q,E,vl,rfl,Y.same O λx a e=>by rcases A x a with d|d;(have:=nb _ d;omega);omega,a0.same O λx a e=>by rcases g x a with d|d;(have:=nw _ d;omega);omega,λx a=>?_,λx a=>?_,?_⟩
  .rcases A x a with e|e
   .refine⟨.inl (p x e).1,λe2=>?_⟩;rcases g x e2 with e3|e3
    .exact(p x e).2 e3
    .have:=nb _ e;omega
   .refine⟨.inr oM,λe2=>?_⟩;rcases g x e2 with e3|e3
    .have:=nw _ e3;omega
    .have:=U.lt a;omega
  .rcases g x a with e|e
   .exact .inl (a4 x e)
   .exact .inr oM
  .refine(((J.weaken (F':=λb=>(Z b/\vp.ownBlock≠some b/\vw.ownBlock≠some b)/\b<w.heap.size) λb h1 h2=>⟨h1,h2⟩).same ab λb f _ e=>e.elim f.1.2.1 f.1.2.2).weaken λx a _=>⟨.inl a.1.1,λe=>?_,λe=>?_⟩)
   .rcases A x e with d|d
    .exact a.1.2.1 d
    .have:=a.2;omega
   .rcases g x e with d|d
    .exact a.1.2.2 d
    .have:=a.2;omega
 rcases find_cases s.put (c.list++s.learned) with⟨i,u',x',hi,e,be⟩|⟨hn,⟨i,x',hi,e,hu,-⟩|⟨e,-⟩⟩
 .rw[hf,GA,GA] at e;obtain⟨rfl,rfl,rfl⟩:=e;rw[gg] at hi;rw[K3 oM,gu] at n;refine zb (λ_=>?_) (λb=>absurd oM b);refine zd λW I _=>?_;have E6:=E5.trans I;have A6:=A5.ext I;have B6:=X.ext I;simp only[push_cast,A6.ldAgg zF,B6.ldAgg zS,Q1];refine l5At_spec (S.ext E6) (bj.ext E6) hi oM λw7 v7 j bn=>?_;have r:=E6.trans j;have A7:=A6.ext j;have B7:=B6.ext j;simp only[push_cast,A7.ldAgg zF,B7.ldAgg zS,Q1,gn];refine l5Clash_spec (S.ext r) (bk.below.ext r) bn B a3 hi be λw8 v8 af a6=>?_;have R8:=((R5.ext I).ext j).ext af;have E8:=r.trans af;rw[<-n] at a6;obtain⟨p8,y8,l8,rfl,h8⟩:=a6.sat.fields;refine R8.stAgg (cs':=[p8,y8,l8,nI (goM many c s).code]) rfl zS h8 λw9 D bs a2=>?_;rw[a2.lv zS];refine hK w9 _ (Same.of_ext (Ext.then E8 D λx a=>oM)) ((a6.same D λb f _ e=>?_).weaken λb f _=>?_)
  .have:=r.size;have:=R5.lt;have:=I.size;have:=j.size;rcases f with f|f
   .have:=f.2;omega
   .omega
  .rcases f with f|f
   .exact .inl f.1
   .exact .inr (by have:=r.size;omega)
 .rw[hf,GA,GA] at e;obtain⟨rfl,rfl,rfl⟩:=e;rw[q0 oM,K3 oM] at n;refine zb (λb=>absurd b oM) (λ_=>zb (λ_=>?_) (λb=>absurd oM b));simp only[push_cast,X.ld0];exact push w5 _ _ E5 X R5 (gz _) n
 .rw[hf,GA,GA] at e;obtain⟨rfl,rfl,rfl⟩:=e;rw[q0 oM,q0 oM] at n;refine zb (λb=>absurd b oM) (λ_=>zb (λb=>absurd b oM) (λ_=>?_));have bi:=(hp.ext E5).ints;simp only[push_cast,X.ld0,A5.ld0,bi.len];refine zb (λb=>?_) (λb=>?_)
  .rw[K3 oM] at n;refine X.st rfl rfl yO rfl λW ai bq bd=>?_;have B6:Blk W b3 [vp,vw,vl,nI 1] zw:=bd;rw[B6.ldAgg zS];refine(R5.same ai oM).stAgg (cs':=[vp,vw,vl,nI 1]) rfl zS (ones hp.ints.one hw.ints.one (QT J)) λw7 bl br a1=>?_;rw[a1.lv zS];have R:Ext w w7:=Ext.then E5 ((ai.mono λx _ e=>(.inl e:x=b3\/x=b4)).trans (bl.mono λx _ e=> .inr e)) λx a=>oM;refine hK w7 _ (Same.of_ext R) ?_;rw[n];exact⟨vp,vw,vl,rfl,hp.ext R,hw.ext R,λb f=>⟨.inl (p b f).1,(p b f).2⟩,λb f=> .inl (a4 b f),(J.ext R).weaken λb f _=>⟨.inl f.1,f.2⟩⟩
  .rw[q0 oM] at n;obtain⟨f1,f2,f3,f4⟩:=free_spec M oM;have al:=bm.ints;have ca:=signs_len many s.put;refine vloop_up (ZB many s.put-1) (λi u w'=>u=[nI (i+1:Nat)]/\w'=w5) ⟨rfl,rfl⟩ ?_;rintro i _ _ w5 C hi ⟨rfl,rfl⟩ hC;have aj:=sgn_pos M (m:=((i+1:Nat):Int)) oM;rw[pT] at aj;simp(disch:=exact oS) only[sl0,al.iaddr,gu,al.load];rw[signs_get oM,aj];have am:Zo0 s.put ((i+1:Nat):Int)=0↔placeOf s.put (i+1)=0:=by
    unfold Zo0;rw[pT];by_cases hm:((i+1:Nat):Int)∈s.put
    .rw[K3 hm];have:=placeOf_ne_zero hm;rw[pT] at this;exact⟨λh=>oM,λh=>absurd h this⟩
    .rw[q0 hm];by_cases T:placeOf s.put (i+1)=0
     .rw[K3 T];simp[T]
     .rw[q0 T];simp[T]
   simp only[xe0];refine zb (λb6=>?_) (λb6=>?_)
   .have bg:i<ZB many s.put-1:=by
     refine GN λc6=>b6 (am.2 ?_);have:i+1=ZB many s.put:=oM;rw[this];exact f3
    simp only[XH];rw[inc64 oM];exact hC bg _ _ ⟨rfl,rfl⟩
   .have bv:i+1=ZB many s.put:=by
     refine GN λc8=>f4 (i+1) oM oM (am.1 (by simpa using b6))
    have e1:IntKind.i64.wrap (0-((i+1:Nat):Int))= -(ZB many s.put:Int):=by rw[zl oM oM];omega
    simp(disch:=(simp only[push_cast])) only[UT,US,yp,Gd,X.ld0,ZE0,e1];exact push w5 _ _ E5 X R5 (gz _) n
theorem l5Run_spec {vc:Value} {n:Nat} (hc:CnfR F w vc c) (Z:cnfOk c=true) (D:c.many=many) (hn:n<=4000)
  (hK:∀w' v',Ext w w'->SpR (λb=>w.heap.size<=b) w' v' (runM many c n emptyS)->K v' w'):vcall zM0 #[vc,nI n] w K:=by
 refine zf {loops:=[(3,[6])]} Tryz.func98 ?_;have Y:=hc.below;obtain⟨lv,rfl,a4⟩:=hc;refine yg λb2 w1 a1 h a5 T=>?_;refine xE qW λb4 w2 a2 E a6 U=>?_;refine Yh qi0 (us:=[]) rfl rfl ?_;refine xE qW λM w3 a3 o a7 V=>?_;have B3:Blk w3 M [.slice none 0 0,.slice none 0 0,.slice none 0 0,nI 0] zw:=V;have A3:Blk w3 b2 [nI c.many,lv] zr:=(T.ext E).ext o;have R3:Blk w3 b4 [.slice none 0 0,.slice none 0 0,.slice none 0 0,nI 0] zw:=U.ext o;refine B3.stAgg (cs':=[.slice none 0 0,.slice none 0 0,.slice none 0 0,nI 0]) rfl zS (λx z=>by simp only[gl,gC,Gi] at z;rcases z with rfl|rfl|rfl|rfl<;>rfl) λH q a8 B=>?_;have E4:Ext w H:=Ext.then (h.trans (E.trans o)) q λx z=>by have:=h.size;omega
 have A4:=A3.same q oM;have R:=R3.same q oM;have aa:=E4.size;have fin:∀(f:World) (p y l:Value),Ext w f->H.heap.size<=f.heap.size->Blk f b4 [.slice none 0 0,.slice none 0 0,.slice none 0 0,nI 0] zw->Blk f M [p,y,l,nI (runM many c n emptyS).code] zw->SpR (λb=>H.heap.size<=b) f (.agg #[p,y,l,nI (runM many c n emptyS).code]) (runM many c n emptyS)->
   zu zw (oP M 0) f λt21 I=>zG zw (oP b4 0) t21 I λ_ J=>vlv zw (oP b4 0) J λr4 L=>K r4 L:=by
  intro f p y l v t A k m;rw[k.ldAgg zS];obtain⟨O,Q,N,e,S⟩:=m.sat.fields;obtain⟨rfl,rfl,rfl⟩:p=O/\y=Q/\l=N:=(by simpa using e);refine A.stAgg (cs':=[p,y,l,nI (runM many c n emptyS).code]) rfl zS S λw6 d a0 W=>?_;rw[W.lv zS];exact hK w6 _ (Ext.then v d λx z=>by have:=h.size;omega) ((m.same d λb g _ e=>by have:=R.lt;omega).weaken λb g _=>oM)
 refine vloop_up n (λi u w'=> ∃p y l,u=[nI i]/\Ext w w'/\H.heap.size<=w'.heap.size/\Blk w' b2 [nI c.many,lv] zr/\Blk w' b4 [.slice none 0 0,.slice none 0 0,.slice none 0 0,nI 0] zw/\Blk w' M [p,y,l,nI (runM many c i emptyS).code] zw/\SpR (λb=>H.heap.size<=b) w' (.agg #[p,y,l,nI (runM many c i emptyS).code]) (runM many c i emptyS))
  ⟨_,_,_,rfl,E4,gz _,A4,R,B,SpR.empty⟩ ?_
 rintro i _ _ f C hi ⟨p,y,l,rfl,v,t,A5,A,k,m⟩ hC;refine oZ ?_;refine zb (λa=>?_) (λa=>?_)
 .simp only[push_cast,k.ld3];refine zb (λb=>?_) (λb=>?_)
  .rw[A5.ldAgg zF,k.ldAgg zS];have G:=run_ok (n:=i) D (empty_ok (many:=many) Z);refine l5Do_spec (Y.ext v) m G D λw6 v6 d s=>?_;have r:goM many c (runM many c i emptyS)=runM many c (i+1) emptyS:=by rw[run_succ];unfold stepM;rw[K3 b]
   rw[r] at s;have l2:=A4.lt;have l4:=R.lt;have l5:=B.lt;have a0:=d.size;have A6:=A5.same d oM;have R6:=A.same d oM;have B6:=k.same d oM;obtain⟨O,Q,N,rfl,S⟩:=s.sat.fields;refine B6.stAgg (cs':=[O,Q,N,nI (runM many c (i+1) emptyS).code]) rfl zS S λw7 j a9 X=>?_;rw[inc64 oM];have E6:Ext w w6:=Ext.then v d λx z=>oM;refine hC oM _ _ ⟨O,Q,N,rfl,Ext.then E6 j λx z=>by have:=h.size;omega,oM,A6.same j oM,R6.same j oM,X,(s.same j λb g _ e=>?_).weaken λb g _=>?_⟩
   .rcases g with g|g<;>omega
   .rcases g with g|g<;>omega
  .have e:runM many c n emptyS=runM many c i emptyS:=by
    rw[show n=i+(n-i) from by omega,run_add,run_stop b]
   rw[<-e] at k m;exact fin f p y l v t A k m
 .have:n=i:=oM;subst this;exact fin f p y l v t A k m
end
end Go.Proofs.YtjkkiaacmedfdaaGreatDoor
namespace Go.Proofs.YtjkkiaacmedfdaaGreatDoor
open Go Go.Vc Go.Proofs
section
variable {w:World} {K:oK} {F F' D G:Nat->Prop} {dv tv iv lv:Value} {ds:List M.Dcl} {ts:List M.Tm} {ins:List Bool} {c:M.Cnf}
theorem l9Folds_spec (E:DclsR F w dv ds) (J:TmsR G w tv ts) (s:M.declOk ds=true) (m:∀t,t∈ts->M.sortM ds t≠ -1) (hs:ts.length<=2000000)
  (B:∀w' lv,Ext w w'->TmsR (λ_=>True) w' lv (ts.map (M.foldT ds))->K lv w'):vcall Vf #[dv,tv] w K:=by
 refine zf {loops:=[(3,[5,6])]} Tryz.func61 ?_;refine vbuildS_row (xs:=[]) (us:=[]) (k:=5) y5 yh zn rfl (by simp) dC λb1 w1 D p L o=>?_;have z:LstH (λ_=>False) w1 (.slice (some ⟨b1,0,none⟩) 0 0) []:=⟨[],Blk.ownk (css:=[]) (by rw[qn];exact o) (by simp) rfl dC,rfl,λi hi=>absurd hi (PH _)⟩;refine vloop_up ts.length (λi u w'=> ∃lv H,u=[lv,nI i]/\Ext w w'/\LstH H w' lv ((ts.take i).map (M.foldT ds))/\∀x,lv.ownBlock=some x->w.heap.size<=x/\¬H x)
  ⟨_,_,rfl,p,z,λx c=>⟨by have e:b1=x:=gh c;omega,id⟩⟩ ?_
 rintro i _ _ w2 C hi ⟨lv,H,rfl,d,g,hO⟩ A;have l:=(J.weaken (F':=λx=>G x/\x<w.heap.size) λx a b=>⟨a,b⟩).ext d;simp only[push_cast,l.len];refine zb (λa=>?_) (λa=>?_)
 .have f:i<ts.length:=oM;simp(disch:=exact oS) only[push_cast,l.iaddr];refine l.load zc f λx c=>?_;refine l3Fold_spec _ (E.ext d) s c (m _ (M.getD_mem f _)) λw3 rv j I=>?_;have z2:=d.size;have z3:=j.size;have llt:∀x,lv.ownBlock=some x->x<w2.heap.size:=λx c=>g.lt c;refine LstH.push (g.ext j) (λx c=>⟨(hO x c).2,λe=>?_⟩) I (by rw[V0,gi];omega) λN y v r n=>?_
  .have:=llt x c;have:=(hO x c).1;rcases e with e|e<;>omega
  try simp only[push_cast]
  rw[inc64' oM];rw[show(ts.take i).map (M.foldT ds)++[M.foldT ds (ts.getD i default)]=(ts.take (i+1)).map (M.foldT ds) by rw[<-XL f,gD];rfl] at n;refine A f _ _ ⟨y,_,rfl,Ext.then (d.trans j) v λx c=>(hO x c).1,n,λx c=>?_⟩;rcases r x c with e|e
  .refine⟨(hO x e).1,λh=>?_⟩;have:=llt x e;have:=(hO x e).1;rcases h.1 with h|h
   .exact(hO x e).2 h
   .rcases h with h|h<;>omega
  .exact⟨oM,λh=>by have:=h.2;omega⟩
 .have q:i=ts.length:=oM;subst q;rw[gF] at g;exact B w2 lv d (g.tms.weaken λ_ _ _=>trivial)
theorem spec_BlastEnv_spec (T:zd0 ds) (H:DclsR F w dv ds) (hi:Bools F' w iv ins) (d:M.declOk ds=true) (hl:ins.length=M.nIn ds)
  (X:∀w' r,Ext w w'->OwnI zh w' r (M.envB ds ins)->(∀b,r.ownBlock=some b->w.heap.size<=b)->K r w'):vcall Kl #[dv,iv] w K:=by
 refine zf {loops:=[(6,[5,6,7]),(10,[6,8,9])],cuts:=[(12292,[])]} Tryz.func100 ?_;obtain⟨a2,a3⟩:=M.nIn_eq d;refine spec_nil λv1 w1 R g A=>?_;refine zq (λu w'=>u=[]/\Ext w1 w') (λC E=>?_) ?_
 .refine spec_DeclOk_spec (H.ext g) T λw2 f=>?_;rw[d];simp only[push_cast,GQ,((hi.ext g).ext f).len];refine sbits8_spec (k:=ds.length) d (gz _) (by rw[gF];exact(H.ext g).ext f) λw3 J=>?_;rw[M.bitT_all];refine oZ ?_;refine zb (λh=>absurd oM h) (λ_=>E _ _ ⟨rfl,f.trans J⟩)
 rintro _ _ w2 ⟨rfl,f⟩;have h4:=(M.decl_iff.1 d).1;have I:=M.dpos d;have L:=M.envB_len ds ins;refine vloop_up ds.length (λi u w'=> ∃r,u=[r,nI (Jq ds i),nI i]/\Ext w w'/\OwnI zh w' r ((M.envB ds ins).take i)/\∀b,r.ownBlock=some b->w.heap.size<=b) ⟨v1,rfl,g.trans f,R.ext f,A⟩ ?_;rintro i _ _ w3 C a0 ⟨r,rfl,s,p,o⟩ E;have n:=H.ext s;have y:=hi.ext s;simp only[push_cast,n.len];refine zb (λa=>?_) (λa=>?_)
 .have l:i<ds.length:=oM;have U:=M.dcl_wide d l;have q:=off_succ d l;have W:=off_le d (i:=i+1) oM;have het:=envB_take (ins:=ins) I l;obtain⟨wd,m⟩:∃wd:Nat,(ds.getD i (M.nada,0)).2=wd:=⟨_,(PJ oM).symm⟩;rw[m] at U q het;rw[gu] at q het;generalize v:(ins.drop (Jq ds i)).take wd=bs at het;have t:bs.length=wd:=by rw[<-v,gi,pc,hl];omega
  refine vloop_up wd (λj u w'=>u=[nI (Jq ds i+j:Nat),nI (M.msbN (bs.take j)),nI j]/\w'=w3) ⟨rfl,rfl⟩ ?_;rintro j _ _ _ C1 hj ⟨rfl,rfl⟩ G;have a1:=M.msb_lt (bs.take j);have a4:2^(bs.take j).length<=2^4:=gY oM (by rw[gi];omega);simp(disch:=exact oS) only[push_cast,n.iaddr,gu,n.load1,m];refine zb (λc=>?_) (λc=>?_)
  .have z:j<wd:=oM;have Z:ins.getD (Jq ds i+j) false=bs.getD j false:=by
    rw[<-v,M.take_getD z,X0,X0,Pl]
   simp(disch:=exact oS) only[push_cast,y.iaddr,gu,y.load,zl];refine Xw ?_;have Y:0<=M.b2i (bs.getD j false)/\M.b2i (bs.getD j false)<=1:=by unfold M.b2i;split<;>omega
   have D:=msb_snoc (bs.take j) (bs.getD j false);rw[<-M.take_add (by omega:j<bs.length) false] at D;rw[show((Jq ds i:Int)+(j:Int)).toNat=Jq ds i+j by omega,Z];simp(disch:=exact oS) only[push_cast,zl];refine G z _ _ ⟨?_,rfl⟩;rw[D,Int.mul_comm 2];simp[Int.add_assoc]
  .have O:j=wd:=oM;subst O;rw[<-t,gF,t];refine push_int p (by rw[gi];omega) λw6 r6 S B Q=>?_;rw[<-het,<-M.take_add oM 0] at B;have z3:=s.size;rw[inc64' oM];refine E l _ _ ⟨r6,by rw[q,Int.natCast_add (Jq ds i)],Ext.then s S λx V=>o x V,B,λx V=>?_⟩;rcases Q x V with e|e
   .exact o x e
   .omega
 .have N:i=ds.length:=oM;subst N;rw[<-L,gF] at p;exact X w3 r s p o
theorem ZD0 {put:List Int} {i n:Nat} (h:i<n):decide (M.sgnV put (2+i)=1)=(M.insV (M.wayM put) n).getD i false:=by
 rw[M.insV_get h];unfold M.sgnV M.wayM;rw[Nat.add_comm 2 i];by_cases c:((i+2:Nat):Int)∈put
 .rw[K3 c,gm c];rfl
 .rw[q0 c,gj c];split<;>rfl
theorem l9Search_spec (aa:zd0 ds) (hd:DclsR F w dv ds) (I:M.declOk ds=true) (hc:CnfR G w (.agg #[nI c.many,lv]) c) (f:M.cnfOk c=true) (hn:1+M.nIn ds<=c.many.toNat)
  (hK:∀w' ev,Ext w w'->OwnI zh w' ev (M.searchM 4000 ds c).1->(∀x,ev.ownBlock=some x->w.heap.size<=x)->K (.tuple #[ev,nI (M.searchM 4000 ds c).2]) w'):
  vcall Kf #[dv,.agg #[nI c.many,lv]] w K:=by
 refine zf {loops:=[(7,[8,9])]} Tryz.func62 ?_;obtain⟨ah,ai⟩:=M.nIn_eq I;obtain⟨many,hm⟩:∃many:Nat,c.many=many:=⟨c.many.toNat,oM⟩;have a4:c.many.toNat=many:=oM
 have B:many<=700:=by
  have:=f;unfold M.cnfOk at this;simp only[gp,gd] at this;omega
 refine yg λb1 w1 ac z al a0=>?_;have A1:Blk w1 b1 [nI c.many,lv] zr:=a0;rw[A1.ldAgg zF];refine l5Run_spec (many:=many) (n:=4000) (hc.ext z) f hm (gz _) λw2 v2 A v=>?_;have z1:=z.size;have z2:=A.size;have T:=(M.run_ok (n:=4000) hm (M.empty_ok (many:=many) f)).mks;refine xE qW λb4 w3 ad a5 am a1=>?_;have d:M.searchM 4000 ds c=if(M.runM many c 4000 M.emptyS).code=1 then(M.envB ds (M.insV (M.wayM (M.runM many c 4000 M.emptyS).put) (M.nIn ds)),1) else if(M.runM many c 4000 M.emptyS).code=2 then([],2) else([],3):=by rw[<-a4];rfl
 generalize M.searchM 4000 ds c=sr at d hK;generalize M.runM many c 4000 M.emptyS=s at v d T;obtain⟨p,y,l,rfl,h8⟩:=v.sat.fields;obtain⟨p',y',l',e',hp,_,aj,_,_⟩:=v;obtain⟨rfl,rfl,rfl⟩:p=p'/\y=y'/\l=l':=by simpa using e'
 have R3:Blk w3 b4 [.slice none 0 0,.slice none 0 0,.slice none 0 0,nI 0] zw:=a1;refine R3.stAgg (cs':=[p,y,l,nI s.code]) rfl zS h8 λw4 a9 an Q=>?_;have q:Ext w2 w4:=Ext.then a5 a9 λx J=>oM
 have N:=(z.trans A).trans q;have A4:=A1.ext (A.trans q);simp only[push_cast,Q.ld3];refine zb (λa=>?_) (λa=>?_)
 .rw[K3 a] at d;subst d;rw[A4.ldAgg zF];simp only[push_cast,Q.ld0];refine l5Vals_spec (hc.ext N) hm B (hp.ext q).ints T λL v5 g ab o=>?_;have Z:=N.trans g;have z5:=Z.size;refine y9 qM0 xa0 λb6 w6 ae a6 ao a3=>?_;have a8:OwnB qz w6 (.slice (some ⟨b6,0,none⟩) 0 0) []:=Blk.own1 (t:=qz) (cs:=[]) (by rw[UW];exact a3) (gQ _) rfl rfl oM;refine vloop_up (M.nIn ds) (λi u w'=> ∃r,u=[r,nI i]/\Ext L w'/\OwnB qz w' r ((M.insV (M.wayM s.put) (M.nIn ds)).take i)/\∀b,r.ownBlock=some b->L.heap.size<=b) ⟨_,rfl,a6,a8,λb R=>by have e:b6=b:=gh R;omega⟩ ?_;rintro i _ _ w7 C hi ⟨r,rfl,e7,E,V⟩ hC;refine sbits8_spec (k:=ds.length) I (gz _) (by rw[gF];exact hd.ext (Z.trans e7)) λw8 m=>?_;rw[M.bitT_all];refine oZ ?_;have O:=e7.trans m;have hlen:=M.insV_len (M.wayM s.put) (M.nIn ds);refine zb (λa=>?_) (λa=>?_)
  .have S:i<M.nIn ds:=oM;have Y:=(ab.ext O).ints;have ak:=M.signs_len many s.put;simp(disch:=exact oS) only[push_cast,zl,Y.iaddr,Y.load];rw[show((2:Int)+(i:Int)).toNat=2+i by omega,M.signs_get oM,ZD0 S];refine one_bool λw9 b9 af j H=>?_;refine OwnV.app (us:=[.bool ((M.insV (M.wayM s.put) (M.nIn ds)).getD i false)]) ((E.ext m).ext j) je0 H.bools (by simp[Value.oneCell']) (by simp only[V0,gZ,gi];omega) (by simp only[V0,gZ,gi];omega) λv10 w10 W X U=>?_;have z8:=m.size;have z9:=j.size;have z7:=e7.size;refine hC S _ _ ⟨v10,rfl,Ext.then (O.trans j) X λb R=>V b R,?_,λb R=>?_⟩
   .rw[M.take_add oM false];unfold OwnB;rw[gD];exact W
   .rcases U b R with h|h
    .exact V b h
    .omega
  .have ag:i=M.nIn ds:=oM;rw[gH oM] at E;refine spec_BlastEnv_spec aa (hd.ext (Z.trans O)) (E.ext m).bools I hlen λw9 r9 j H a7=>?_;have z8:=O.size;exact hK w9 r9 (Z.trans (O.trans j)) H λx J=>by have:=a7 x J;omega
 .rw[q0 a] at d;have z4:=N.size;refine zb (λa2=>?_) (λa2=>?_)
  .rw[K3 a2] at d;subst d;exact spec_nil λv5 L D g o=>hK L v5 (N.trans g) D λx J=>by have:=o x J;omega
  .rw[q0 a2] at d;subst d;exact spec_nil λv5 L D g o=>hK L v5 (N.trans g) D λx J=>by have:=o x J;omega
theorem l9Solve_spec (u:zd0 ds) (c:Qp ds ts=true) (j:DclsR F w dv ds) (v:TmsR G w tv ts)
  (f:∀w' ev,Ext w w'->OwnI zh w' ev (xC ds ts []).1->(∀x,ev.ownBlock=some x->w.heap.size<=x)->K (.tuple #[ev,nI (xC ds ts []).2]) w'):vcall Ve #[dv,tv] w K:=by
 refine zf {} Tryz.func31 ?_;obtain⟨L,a2,a3⟩:=all8_iff.1 c;refine l9Folds_spec j v a2 (λt v=>by rw[(ZJ (a3 t v)).1];decide) oM λw1 lv a o=>?_;refine l8Cnf_spec (Qo c) (j.ext a) o λw2 cv ls k g=>?_;have B:=a.trans k;refine oZ ?_;refine cnf_new g λN b4 D l d i=>?_;have b:=B.trans l;have z4:=b.size;refine zo (λh=>?_) (λh=>?_)
 .have E:=JZ (nots:=[]) c (by simpa using h);refine spec_nil λv5 I r m p=>?_;have:=f I v5 (b.trans m);rw[E] at this;exact this r λx y=>by have:=p x y;omega
 .have C:(cnfE ds (ts.map (M.foldT ds))).2=0:=(by simpa using h);obtain⟨z,A,H⟩:=solveR_run (nots:=[]) c C (λe he=>by cases he) (by simp);rw[xw0] at z A;rw[d.ldAgg zF];refine l9Search_spec u (j.ext b) a2 i.cnf A H λJ ev n s q=>?_;refine oZ ?_;rw[z] at f;exact f J ev (b.trans n) s λx y=>by have:=q x y;omega
theorem spec_Solve_spec (b:zd0 ds) (l:DclsR F w dv ds) (m:TmsR G w tv ts)
  (k:∀w' ev,Ext w w'->OwnI zh w' ev (xC ds ts []).1->(∀x,ev.ownBlock=some x->w.heap.size<=x)->K (.tuple #[ev,nI (xC ds ts []).2]) w'):vcall y10 #[dv,tv] w K:=by
 refine zf {} Tryz.func9 ?_;refine l8All_spec b l m λw1 a=>?_;refine oZ ?_;have q:=a.size;refine zo (λh=>?_) (λh=>?_)
 .have n:=QA (ds:=ds) (ts:=ts) (nots:=[]) (by simpa using h);refine spec_nil λv5 o g c e=>?_;have:=k o v5 (a.trans c);rw[n] at this;exact this g λx j=>by have:=e x j;omega
 .refine l9Solve_spec b (by simpa using h) (l.ext a) (m.ext a) λp ev d i f=>?_;refine oZ ?_;exact k p ev (a.trans d) i λx j=>by have:=f x j;omega
theorem qj0 {at_ an am ar ab:Addr} (e:DclsR F w dv ds) (f:TmsR G w tv ts) (hs:ts.length<=2000000) (er:Er w at_ an am ar ab)
  (d:∀w' ev,Ext w w'->OwnI zh w' ev (xC ds ts []).1->(∀x,ev.ownBlock=some x->w.heap.size<=x)->K (.tuple #[ev,nI (xC ds ts []).2]) w'):vcall y70 #[dv,tv] w K:=by
 refine zf {} Tryz.func8 ?_;refine solved_spec e f hs er λg ev a c b=>?_;refine oZ ?_;exact d g ev a c b
end
section
variable {ds:List M.Dcl} {ts:List M.Tm} {t:M.Tm} {e:List Int}
theorem XA (h:Qp ds ts=true):M.declOk ds=true/\M.sorted0 ds ts/\ts.length<=8:=
 ⟨(all8_iff.1 h).2.1,λt a=>(ZJ ((all8_iff.1 h).2.2 t a)).1,(all8_iff.1 h).1⟩
theorem yQ0:∀e:List Int,e∈([]:List (List Int))->M.envOk ds e=true:=λe he=>by cases he
theorem few_nots (h:ts.length<=8):ts.length+([]:List (List Int)).length<=90:=by simp;omega
theorem K2 (h:Qp ds ts=true):xC ds ts []=M.solveM 4000 ds ts []:=K3 h
theorem yG0 (h:Qp ds ts=true):(xC ds ts []).2=1\/(xC ds ts []).2=2\/(xC ds ts []).2=3:=by
 obtain⟨a,b,c⟩:=XA h;rw[K2 h];exact M.solve_code a b yQ0 (few_nots c)
theorem Zc (h:(xC ds ts []).2≠4):Qp ds ts=true:=gS λc=>h (by rw[QA c])
theorem sol_iff:M.Sol ds ts [] e↔M.envOk ds e=true/\M.allT ds e ts:=by simp[M.Sol]
theorem solveR_yes (h:(xC ds ts []).2=1):Qp ds ts=true/\M.envOk ds (xC ds ts []).1=true/\M.allT ds (xC ds ts []).1 ts/\∀e,M.envOk ds e=true->M.allT ds e ts->M.rankE ds (xC ds ts []).1<=M.rankE ds e:=by
 have d:=Zc (ds:=ds) (ts:=ts) oM;obtain⟨a,b,c⟩:=XA d;rw[K2 d] at*;obtain⟨⟨p1,p2,_⟩,i⟩:=M.solve_yes a b yQ0 (few_nots c) h;exact⟨d,p1,p2,λe f g=>i e (sol_iff.2 ⟨f,g⟩)⟩
theorem solveR_no (h:(xC ds ts []).2=2):Qp ds ts=true/\∀e,M.envOk ds e=true->¬M.allT ds e ts:=by
 have d:=Zc (ds:=ds) (ts:=ts) oM;obtain⟨a,b,c⟩:=XA d;rw[K2 d] at h;exact⟨d,λe f g=>(M.solve_no a b yQ0 (few_nots c) h).2 e (sol_iff.2 ⟨f,g⟩)⟩
theorem jS0 (he:M.envOk ds e=true) (h:M.sortM ds (M.noT t)=0):M.evalM ds e (M.noT t)=1↔M.evalM ds e t≠1:=by
 obtain⟨_,a,c⟩:=M.eval_no he (t:=M.noT t) (by rw[h];decide) rfl;have a:M.inS 0 (M.evalM ds e t):=a;have c:M.evalM ds e (M.noT t)=1-M.evalM ds e t:=c;rw[c];rcases M.inS_zero a with x|x<;>rw[x]<;>decide
end
section
variable {w:World} {K:oK} {D F G H:Nat->Prop} {dv tv v ev:Value} {ds:List M.Dcl} {ts:List M.Tm} {t:M.Tm} {env:List Int} {xs:List Nat}
theorem ks0 (he:M.envOk ds env=true) (h:M.tsort ds t=0):M.tok ds t env=true/\M.teval ds t env=M.evalM ds env t:=by
 obtain⟨a,b,_⟩:=ZJ h;have:=Yy0 he (by rw[a];decide) b;exact⟨this,by unfold M.teval;rw[K3 this]⟩
instance (ds:List M.Dcl) (e:List Int) (ts:List M.Tm):Decidable (M.allT ds e ts):=by unfold M.allT;infer_instance
theorem kG0:Ints F w (.slice none 0 0) []:=(OwnI.ints (xs:=[]) (show OwnI zh w (.slice none 0 0) [] from Own.nil 0 1 zh w)).weaken λ_ h=>by cases h
theorem zs0 (h:M.envOk ds env=true):M.rankE ds env<Xv ds:=by
 have c:=(M.env_ok h).1;obtain⟨a,b⟩:=M.nIn_eq c;have:=M.msb_lt (M.insM ds env);rw[M.rank_env h];unfold Xv;rw[K3 c,<-a,gu];rw[M.insM_n h] at this
 exact_mod_cast this
theorem wpTrueB_spec (o:DclsR F w dv ds) (p:TmsR G w tv ts) (he:Ints H w ev env) (hs:ts.length<=1000) (r:∀t,t∈ts->M.tsort ds t=0) (g:M.envOk ds env=true)
  (j:∀w',Ext w w'->K (.bool (decide (M.allT ds env ts))) w'):vcall XQ #[dv,tv,ev] w K:=by
 refine zf {loops:=[(2,[7])]} Tryz.func22 ?_;refine vloop_up ts.length (λi u w'=>u=[nI i]/\Ext w w'/\M.allT ds env (ts.take i)) ⟨rfl,Same.refl _ _,by simp[M.allT]⟩ ?_;rintro i _ _ w1 C hi ⟨rfl,b,k⟩ n;have e:=p.ext b;simp only[push_cast,e.len];refine zb (λa=>?_) (λa=>?_)
 .have d:i<ts.length:=oM;simp(disch:=exact oS) only[push_cast,e.iaddr,gu];refine e.load zc d λx q=>?_;refine zb0 (o.ext b) q (he.ext b) λw2 f=>?_;have hm:=M.getD_mem d default;obtain⟨l,m⟩:=ks0 g (r _ hm);rw[l,m];simp only[push_cast,GQ];refine zb (λh=>?_) (λh=>?_)
  .have:=j w2 (b.trans f);rwa[gj (λc:M.allT ds env ts=>h (c _ hm))] at this
  .rw[inc64' oM];refine n d _ _ ⟨rfl,b.trans f,?_⟩;rw[<-XL d];exact M.allT_app.2 ⟨k,M.allT_one.2 (gS h)⟩
 .have:=j w1 b;rwa[gm (by rwa[gH oM] at k)] at this
def YU0 (ds:List M.Dcl) (ts:List M.Tm) (k:Int) (env:List Int) (j:Int):Prop:=
 (k<=j/\M.envOk ds env=true/\M.rankE ds env=j/\M.allT ds env ts/\∀e,M.envOk ds e=true->M.allT ds e ts->k<=M.rankE ds e->j<=M.rankE ds e)\/
 (j= -1/\env=[]/\∀e,M.envOk ds e=true->M.allT ds e ts->M.rankE ds e<k)
theorem wpFirst_spec {k:Int} (r:DclsR F w dv ds) (E:TmsR G w tv ts) (hs:ts.length<=1000) (H:∀t,t∈ts->M.tsort ds t=0) (p:M.declOk ds=true) (J:0<=k)
  (A:∀w' ev env j,Ext w w'->Ints (λ_=>True) w' ev env->YU0 ds ts k env j->K (.tuple #[ev,nI j]) w'):vcall Vu #[dv,tv,nI k] w K:=by
 refine zf {loops:=[(3,[9])]} Tryz.func23 ?_;refine EnvMany_spec r λw1 s=>?_;have hm:=manyE_le ds;have y:Xv ds=2^(M.bits ds).toNat:=by unfold Xv;rw[K3 p]
 refine qt (λn u w'=> ∃j:Int,u=[nI j]/\k<=j/\n=(Xv ds-j).toNat/\Ext w w'/\∀e,M.envOk ds e=true->M.allT ds e ts->k<=M.rankE ds e->j<=M.rankE ds e) _
  ⟨k,rfl,ph _,rfl,s,λe _ _ h=>h⟩ ?_
 rintro n _ _ w2 C ⟨j,rfl,x,rfl,g,z⟩ D;refine oZ ?_;refine zb (λa=>?_) (λa=>?_)
 .refine EnvAll_spec (r.ext g) p oM oM λw3 ev env v o _ b B=>?_;refine oZ ?_;have f:=g.trans v;refine wpTrueB_spec (r.ext f) (E.ext f) o.ints hs H b λI m=>?_;have l:=f.trans m;refine zb (λc=>?_) (λc=>?_)
  .exact A I ev env j l ((o.ints.ext m).weaken λ_ _ _=>trivial) (.inl ⟨x,b,B,c,λe d i q=>z e d i q⟩)
  .rw[zl oM oM];refine D (Xv ds-(j+1)).toNat _ _ oM ⟨j+1,rfl,oM,rfl,l,λe d i q=>?_⟩
   .have:=z e d i q;have:M.rankE ds e≠j:=λh=>c (by rw[M.rank_inj b d (by rw[B,h])];exact i);omega
 .refine A w2 _ [] (-1) g kG0 (.inr ⟨rfl,rfl,λe d i=>?_⟩);have:=zs0 d;have:=z e d i;omega
end
section
variable {w:World} {K:oK} {D F F' G H:Nat->Prop} {dv uv v:Value} {ds:List M.Dcl} {ts:List M.Tm} {t:M.Tm} {xs:List Nat} {an am ar ab:Addr}
theorem dsn_dok {n:Nat} (h:Dsn n ds) (a:M.declOk ds=true):Dok ds:=
 ⟨by have:=(M.decl_iff.1 a).1;omega,λi hi=>⟨(M.dcl_wide a hi).1,(M.dcl_wide a hi).2,h.2 i hi⟩⟩
structure Stay (w:World) (b b4 n m:Nat) (dv lv:Value) (ds:List M.Dcl) (ts:List M.Tm) (cs:List Value) (wk:World):Prop where
 same:Same (λx=>w.heap.size<=x) w wk
 blk:Blk wk b4 cs za
 size:m<=wk.heap.size
 dec:DclsR (λx=>n<=x/\x<m) wk dv ds
 ter:TmsR (λx=>n<=x/\x<m) wk lv ts
theorem Stay.step {b b4 n m:Nat} {lv:Value} {cs:List Value} {wk wl:World} {S:Nat->Prop} (h:Stay w b b4 n m dv lv ds ts cs wk) (hw:Same S wk wl) (d:w.heap.size<=b4) (f:b4<b) (g:b<n) (i:n<=m) (a:∀x,S x->x=b\/m<=x):Stay w b b4 n m dv lv ds ts cs wl:=
 ⟨h.same.trans (hw.mono λx _ c=>by rcases a x c with e|e<;>omega),h.blk.same hw λe=>by rcases a _ e with e|e<;>omega,gO h.size hw.size,
  h.dec.same hw λx c _ e=>by rcases a x e with e|e<;>omega,h.ter.same hw λx c _ e=>by rcases a x e with e|e<;>omega⟩
theorem DrawSolveProve_spec (d:Bytes F w v xs) (hF:∀b,F b->b<w.heap.size)
  (hK:∀w' dv lv uv ds ts t,Ext w w'->DclsR (λx=>w.heap.size<=x) w' dv ds->Dsn 9 ds->TmsR (λx=>w.heap.size<=x) w' lv ts->ts.length<=9->TermR (λx=>w.heap.size<=x) w' uv t->K (.tuple #[dv,lv,uv]) w'):vcall ZM #[v] w K:=by
 refine zf {} Tryz.func7 ?_;refine zj zn λb4 w1 bo aa bw h4=>?_;refine l12Open_spec (d.ext aa) (λb hb=>by have:=hF b hb;omega) λw2 b v' ys X y bn=>?_;have bx:=X.size;have lb:=y.blk.lt;refine l8List_spec (F:=λx=>F x/\x<w2.heap.size) ⟨y.blk,⟨y.bytes.1.weaken λx d I=>⟨d,I⟩,y.bytes.2⟩,λh=>y.apart h.1,y.few⟩ (λx d=>d.2) oM λw3 p3 dv lv ds ts a0 av bt b2 Z b5 b3=>?_;refine oZ ?_;have bz:=a0.size;have ak:Stay w b b4 w2.heap.size w3.heap.size dv lv ds ts XC w3:=
  ⟨(Same.of_ext (aa.trans X)).trans (a0.mono λx _ d=>by subst d;omega),(h4.ext X).same a0 oM,gz _,b2.weaken λx d I=>⟨d,I⟩,b5.weaken λx d I=>⟨d,I⟩⟩
 have fin:∀{O:World} {o:List Value} {t9:M.Tm},Stay w b b4 w2.heap.size w3.heap.size dv lv ds ts o O->TmR (λx=>w.heap.size<=x) O o t9->vlv za (oP b4 0) O λr w10=>K (.tuple #[dv,lv,r]) w10:=λ{O o t9} st hc=>by
  rw[st.blk.lv (by rw[zC hc];exact zc)];exact hK O dv lv _ ds ts t9 (st.same.mono λx d h=>oM) (st.dec.weaken λx d _=>oM) Z (st.ter.weaken λx d _=>oM) b3 hc.term
 have put:∀{wk:World} {o:List Value} {t9:M.Tm} {Q:Nat->Prop},Stay w b b4 w2.heap.size w3.heap.size dv lv ds ts XC wk->TmR Q wk o t9->(∀x,Q x->w.heap.size<=x/\x≠b4)->zG za (oP b4 0) (.agg ⟨o⟩) wk λ_ O=>vlv za (oP b4 0) O λr w10=>K (.tuple #[dv,lv,r]) w10:=λ{wk o t9 Q} st hc hQ=>by
  refine stTerm st.blk rfl hc λO L bb V=>?_;exact fin ⟨st.same.trans (L.mono λx _ d=>by subst d;omega),V,by have:=st.size;omega,st.dec.same L λx d _ e=>oM,st.ter.same L λx d _ e=>oM⟩ ((hc.same L λx d _ e=>(hQ x d).2 e).weaken λx d _=>(hQ x d).1)
 have F3:∀{wk:World},w3.heap.size<=wk.heap.size->∀x,(F x/\x<w2.heap.size)->x<wk.heap.size:=λh x d=>oM
 refine spec_DeclOk_spec ak.dec (dsn_sized Z) λw4 Y=>?_;have a1:=ak.step Y oM oM lb oM λ_ h=>h.elim;have c1:=Y.size;refine oZ ?_;refine zo (λa=>?_) (λa=>?_)
 .exact put a1 (QV (w:=w4) (G:=λ_=>False) 24 0 0 ⟨#[]⟩) λx d=>d.elim
 have a9:M.declOk ds=true:=by simpa using a
 have hk:=dsn_dok Z a9;have aw:=av.ext Y;have nb:∀x,(w2.heap.size<=x/\x<w3.heap.size)->x≠b:=λx d=>oM
 refine l8Some_spec aw (F3 oM) a1.dec nb (λx d=>oM) hk oM oM oM λw5 p5 c7 t5 af ax bu b6 br=>?_;have bc:=a1.step af oM oM lb oM λx h=> .inl h;have c2:=af.size;obtain⟨ar,rfl,z⟩:=b6.cells;replace z:=z.weaken (F':=λx=>w4.heap.size<=x/\x<w5.heap.size) λx d I=>⟨d,I⟩;refine zj zn λb8 w6 bp ab c3 h8=>?_;refine stTerm h8 rfl (z.ext ab) λw7 ba c4 au=>?_;have T:Ext w5 w7:=Ext.then ab ba λx d=>by subst d;omega
 have al:=bc.step T oM oM lb oM λ_ h=>h.elim;have ay:=ax.ext T;have b0:=z.ext T;refine l8Some_spec ay (F3 oM) al.dec nb (λx d=>oM) hk oM oM oM λw8 p8 c9 t8 J az bv b7 bs=>?_;have bd:=al.step J oM oM lb oM λx h=> .inl h;have c5:=J.size;have a3:=au.same J oM;have b1:=b0.same J λx d _ e=>oM
 obtain⟨S,rfl,B⟩:=b7.cells;replace B:=B.weaken (F':=λx=>w7.heap.size<=x/\x<w8.heap.size) λx d I=>⟨d,I⟩;refine zj zn λb9 O bq ac bb h9=>?_;refine stTerm h9 rfl (B.ext ac) λw10 ah bi V=>?_;have j:Ext w8 w10:=Ext.then ac ah λx d=>by subst d;omega
 have aj:=bd.step j oM oM lb oM λ_ h=>h.elim;have U:=a3.ext j;have a5:=b1.ext j;have a8:=B.ext j;have cc:=j.size;refine pick_spec (az.ext j) oM oM λca k m bj a4 _ _=>?_;have g:=aj.step m oM oM lb oM λx h=> .inl h;have l:=U.same m oM;have A:=V.same m oM;have q:=a5.same m λx d _ e=>oM
 have R:=a8.same m λx d _ e=>oM
 have g5:aggB za ar.length=true:=by rw[zC z];exact zc
 have g8:aggB za S.length=true:=by rw[zC B];exact zc
 refine oZ ?_;refine zb (λ_=>?_) (λ_=>?_)
 .refine zd λN f _=>?_;have u:=g.step f oM oM lb oM λ_ h=>h.elim;have p:=l.ext f;have z12:=f.size;simp only[p.ldAgg (t:=za) g5,Q1];refine Ur (q.ext f).term λcb a C bl ad=>?_;simp only[(p.ext C).ldAgg (t:=za) g5,push_cast,Q1,gn];refine kids2 (G:=λx=>(w4.heap.size<=x/\x<w5.heap.size)\/x=N.heap.size) (((q.ext f).ext C).weaken λx d _=> .inl d).term (TmR.of (t:= .mk 25 0 0 M.nada [t5]) ad).term λbe a2 D ai E=>?_;simp only[push_cast,Q1];exact put (u.step (C.trans D) oM oM lb oM λ_ h=>h.elim) (TmR.of (t:= .mk 27 0 0 M.nada [t5,.mk 25 0 0 M.nada [t5]]) E) λx d=>by rcases d with(d|d)|d<;>omega
 have two:∀{wk:World} {cs':List Value} {t':M.Tm},Stay w b b4 w2.heap.size w3.heap.size dv lv ds ts XC wk->Blk wk b9 S za->Blk wk b8 cs' za->TmR (λx=>w7.heap.size<=x/\x<w8.heap.size) wk S t8->
   TmR (λx=>w2.heap.size<=x/\x<w5.heap.size) wk cs' t'->Z8 wk λn=>zu za (oP b9 0) n λt51 am=>am=n/\
   zu za (oP b8 0) n λt52 an=>an=n/\
   vbuildS ze 2 [(0,t51),(1,t52)] n λt53 H=>
   yj za [(0,(nI 27)),(4,t53)] H λt54 ao=>ao=H/\
   zG za (oP b4 0) t54 H λ_ ap=>
   vlv za (oP b4 0) ap λr aq=>K (.tuple #[dv,lv,r]) aq:=λ{wk cs' t'} st h9 h8 c8 c'=>by
  refine zd λN f _=>?_;have u:=st.step f oM oM lb oM λ_ h=>h.elim;have zk:=u.size;have g':aggB za cs'.length=true:=by rw[zC c'];exact zc
  simp only[(h9.ext f).ldAgg (t:=za) g8,(h8.ext f).ldAgg (t:=za) g',Q1];refine kids2 (G:=λx=>w2.heap.size<=x/\x<w8.heap.size) ((c8.weaken λx d _=>oM).ext f).term ((c'.weaken λx d _=>oM).ext f).term λbe a2 D ai E=>?_;simp only[push_cast,Q1];exact put (u.step D oM oM lb oM λ_ h=>h.elim) (TmR.of (t:= .mk 27 0 0 M.nada [t8,t']) E) λx d=>by rcases d with d|d<;>omega
 have W:=q.weaken (F':=λx=>w2.heap.size<=x/\x<w5.heap.size) λx d _=>oM
 refine zb (λ_=>?_) (λ_=>?_)
 .simp only[push_cast,g.ter.len];refine zb (λc=>?_) (λ_=>two g A l R W);have c0:0<ts.length:=oM;simp(disch:=exact oS) only[push_cast,g.ter.iaddr];refine g.ter.load (i:=0) zc c0 λx d=>?_;obtain⟨csx,rfl,a7⟩:=d.cells;refine stTerm l (zC z) a7 λN s bk p=>?_;exact two (g.step s oM oM lb oM λx h=> .inr (by subst h;omega)) (A.same s oM) p (R.same s λx d _ e=>oM) ((a7.weaken λx d _=>oM).same s λx d _ e=>oM)
 .simp only[l.ldAgg (t:=za) g5];refine l2Bent_spec a4 (F3 oM) q.term (λx d=>oM) (λx d=>oM) oM oM λN c6 bm t12 ae bg bh ag _=>?_;obtain⟨bf,rfl,a6⟩:=ag.cells;exact put (g.step ae oM oM lb oM λx h=> .inl h) a6 λx d=>by rcases d with d|d<;>omega
end
section
variable {w:World} {K:oK} {D F F' G:Nat->Prop} {dv tv uv:Value} {ds:List M.Dcl} {ts:List M.Tm} {t:M.Tm} {at_ an am ar ab:Addr}
theorem Clone_Term (d:TmsR F w tv ts) (v:ts.length<=2000000) (n:∀w' v',Ext w w'->LstH (λx=>F x/\x<w.heap.size) w' v' ts->(∀x,v'.ownBlock=some x->w.heap.size<=x)->K v' w'):
  vcall qw #[tv] w K:=by
 refine zf {} Tryz.func63 ?_;obtain⟨css,j,k,hi⟩:=d;obtain⟨a,c,rfl,A,u,g⟩:=j.shape;rw[Yi ZI];refine zo (λp=>?_) (λp=>?_)
 .cases a with
  |some a=>cases p
  |none=>
   have m:css=[]:=gS λh=>by
    obtain⟨b,o,r,_⟩:=g h;cases r
   subst m;have:ts=[]:=pP.1 k.symm;subst this;exact n w _ (Same.refl _ _) LstH.nil λx d=>by cases d
 .refine y9 y5 yh λb w1 z he B t=>?_;have q:LstH (λ_=>False) w1 (.slice (some ⟨b,0,none⟩) 0 0) []:=⟨[],Blk.ownk (css:=[]) (by rw[qn];exact t) (by simp) rfl dC,rfl,λi hi=>absurd hi (PH _)⟩;have f:∀x,(Value.slice (some ⟨b,0,none⟩) 0 0).ownBlock=some x->w.heap.size<=x:=λx d=>by have e:b=x:=gh d;omega
  refine LstH.app (H2:=λx=>F x/\x<w.heap.size) (us:=ts) q (λx d=>⟨id,λe=>by have:=f x d;omega⟩) (j.ext he) k (λi h=>((hi i h).weaken λx d k=>⟨d,k⟩).ext he) (by simp;omega) λw2 v' hw l s=>?_;have y:=he.size;refine n w2 v' (Ext.then he hw f) (s.weaken λx d _=>(d.1.resolve_left id)) λx d=>?_;rcases l x d with h|h
  .exact f x h
  .omega
theorem push_blk {n b:Nat} {cs:List Value} {e:TypeId} (h:LstH (λx=>F x/\x<n) w tv ts) (d:∀x,tv.ownBlock=some x->n<=x) (j:Blk w b cs e) (g:TmR (λx=>G x/\x<n) w cs t) (hs:ts.length<=2000000)
  (k:∀w' r,Same (λx=>n<=x) w w'->TmsR (λ_=>True) w' r (ts++[t])->K r w'):vbi .append [ze,ze] ze [tv,.slice (some ⟨b,0,none⟩) 1 1] w K:=by
 refine LstH.app (H2:=λx=>G x/\x<n) (us:=[t]) h (λx a=>⟨λe=>by have:=d x a;omega,λe=>by have:=d x a;omega⟩) (j.sl1k (zC g)) rfl (λi hi=>?_) (by simp;omega) λl v5 f _ c=>k l v5 (f.mono λx _ a=>d x a) (c.tms.weaken λ_ _ _=>trivial);have:i=0:=by simpa using hi
 subst this;exact g
theorem with_spec (I:TmsR F w tv ts) (hu:TermR G w uv t) (hs:ts.length<=2000000) (z:∀w' r,Ext w w'->TmsR (λ_=>True) w' r (ts++[t])->K r w'):vcall yY0 #[tv,uv] w K:=by
 refine zf {} Tryz.func32 ?_;obtain⟨cs,rfl,g⟩:=hu.cells;have l:=zC g;refine zm λb w1 N p J m=>?_;refine zd λw2 i _=>?_;have e:=p.trans i;have ld:∀{w':World} (_:Ext w2 w') (K:oK),zu za (oP b 0) w' K=K (.agg ⟨cs⟩) w':=λh K=>(m.ext (i.trans h)).ldAgg (by rw[l];exact zc);have Q:=e.size;have j:=I.ext e;have f:∀{w':World},Ext w2 w'->TmR (λx=>G x/\x<w2.heap.size) w' cs t:=λh=>((g.weaken (F':=λx=>G x/\x<w2.heap.size) λx k O=>⟨k,oM⟩).ext e).ext h;rw[ld (Same.refl _ _)];refine⟨rfl,?_,?_,trivial⟩
 .refine Clone_Term j hs λw3 v3 a C q=>?_;have v:=a.size;rw[ld a];refine⟨⟨rfl,rfl⟩,?_,trivial⟩;refine xb y5 yh zn rfl l dC λb4 M H c L o=>?_;refine⟨?_,trivial⟩;have B:=c.size;exact push_blk (C.ext c) q o (f ((a.trans c))) hs λy r d u=>z y r (Ext.then (e.trans (a.trans c)) d λx k=>oM) u
 .refine xb y5 yh zn rfl l dC λb3 w3 E a v n=>?_;refine⟨?_,trivial⟩;have A:=a.size;refine Clone_Term (j.ext a) hs λM v4 c D s=>?_;refine⟨?_,trivial⟩;exact push_blk D s (n.ext c) ((f (a.trans c)).weaken λx k _=>⟨k.1,oM⟩) hs λy r d u=>z y r (Ext.then (e.trans (a.trans c)) d λx k=>oM) u
theorem app3 {w2:World} {b:Nat} {cs:List Value} {R:oK} (N:Blk w2 b cs za) (U:TmsR F w2 tv ts) (B:TmR G w2 cs t) (hs:ts.length<=2000000)
  (hR:∀w' r,Ext w2 w'->TmsR (λ_=>True) w' r (ts++[t])->R r w'):
  zu za (oP b 0) w2 λt8 X=>X=w2/\
  (vbuildS ze 0 [] w2 λt5 o=>(zu za (oP b 0) o λv x=>v=t8/\x=o)/\
   (vbi .append [ze,ze] ze [t5,tv] o λt7 y=>(zu za (oP b 0) y λv x=>v=t8/\x=y)/\
    (vbuildS ze 1 [(0,t8)] y λt9 Y=>
     (vbi .append [ze,ze] ze [t7,t9] Y λt10 Z=>R t10 Z)/\True)/\True)/\
   (vbuildS ze 1 [(0,t8)] o λt9 a0=>
    (vbi .append [ze,ze] ze [t5,tv] a0 λt7 a1=>
     (vbi .append [ze,ze] ze [t7,t9] a1 λt10 D=>R t10 D)/\True)/\True)/\True)/\
  (vbuildS ze 1 [(0,t8)] w2 λt9 E=>
   (vbuildS ze 0 [] E λt5 H=>
    (vbi .append [ze,ze] ze [t5,tv] H λt7 I=>
     (vbi .append [ze,ze] ze [t7,t9] I λt10 J=>R t10 J)/\True)/\True)/\True)/\True:=by
 have z:=zC B;have ld:∀{w':World} (_:Ext w2 w') (K:oK),zu za (oP b 0) w' K=K (.agg ⟨cs⟩) w':=λh K=>(N.ext h).ldAgg (by rw[z];exact zc);have s:∀{w':World} {S:Nat->Prop},Same S w2 w'->(∀x,S x->w2.heap.size<=x)->TmR (λx=>G x/\x<w2.heap.size) w' cs t:=λh hS=>(B.weaken (F':=λx=>G x/\x<w2.heap.size) λx c C=>⟨c,C⟩).same h λx c _ e=>by have:=hS x e;omega
 have fin:∀{w' w'':World} {r:Value},Ext w2 w'->Same (λx=>w2.heap.size<=x) w' w''->TmsR (λ_=>True) w'' r (ts++[t])->R r w'':=λh h2 u=>hR _ _ (Ext.then h h2 λx c=>c) u;have cp:∀{w3 n:World} {b3:Nat} {K:oK},Ext w2 w3->b3=w3.heap.size->Ext w3 n->Blk n b3 [] za->(∀w' v,Ext w3 w'->Same (λx=>x=b3) n w'->LstH (λx=>F x/\x<w2.heap.size) w' v ts->(∀x,v.ownBlock=some x->w3.heap.size<=x)->K v w')->
   vbi .append [ze,ze] ze [.slice (some ⟨b3,0,none⟩) 0 0,tv] n K:=λ{w3 n b3 K} e3 l M N hk=>by
  have h0:LstH (λ_=>False) n (.slice (some ⟨b3,0,none⟩) 0 0) []:=⟨[],Blk.ownk (css:=[]) (by rw[qn];exact N) (by simp) rfl dC,rfl,λi hi=>absurd hi (PH _)⟩;have m:∀x,(Value.slice (some ⟨b3,0,none⟩) 0 0).ownBlock=some x->x=b3:=λx c=>(gh c).symm;have z3:=e3.size;have z4:=M.size;obtain⟨css,T,C,hi⟩:=(U.weaken (F':=λx=>F x/\x<w2.heap.size) λx c C=>⟨c,C⟩).ext (e3.trans M);refine LstH.app (H2:=λx=>F x/\x<w2.heap.size) (us:=ts) h0 (λx c=>⟨id,λe=>by have:=m x c;omega⟩) T C hi (by simp;omega) λL v5 hw g z=>?_;refine hk L v5 (Ext.then M hw λx c=>by have:=m x c;omega) (hw.mono λx _ c=>m x c) (z.weaken λx c _=>c.1.resolve_left id) λx c=>?_;rcases g x c with h|h
  .have:=m x h;omega
  .omega
 rw[ld (Same.refl _ _)];refine⟨rfl,?_,?_,trivial⟩
 .refine y9 y5 yh λb3 w3 l d V k=>?_;rw[ld d];refine⟨⟨rfl,rfl⟩,?_,?_,trivial⟩
  .refine cp (Same.refl _ _) l d k λn v4 a _ h4 Q=>?_;rw[ld a];refine⟨⟨rfl,rfl⟩,?_,trivial⟩;refine xb y5 yh zn rfl z dC λb5 L a2 f a3 O=>?_;refine⟨?_,trivial⟩;exact push_blk (h4.ext f) Q O (s (a.trans f) λ_ h=>h.elim) hs λw6 r j u=>fin (a.trans f) j u
  .refine xb y5 yh zn rfl z dC λb4 n A a W q=>?_;refine⟨?_,trivial⟩;have z3:=d.size;have z4:=a.size;refine cp (w3:=w2) (Same.refl _ _) l (d.trans a) (k.ext a) λL v5 f w p g=>?_;refine⟨?_,trivial⟩;exact push_blk p g (q.same w (λe=>oM)) (s f λ_ h=>h.elim) hs λw6 r j u=>fin f j u
 .refine xb y5 yh zn rfl z dC λb3 w3 l d V k=>?_;refine⟨?_,trivial⟩;refine y9 y5 yh λb4 n A a W q=>?_;refine⟨?_,trivial⟩;have z3:=d.size;refine cp d A a q λL v5 f w p g=>?_;refine⟨?_,trivial⟩;exact push_blk p (λx c=>by have:=g x c;omega) ((k.ext a).same w (λe=>oM)) (s (d.trans f) λ_ h=>h.elim) hs λw6 r j u=>fin (d.trans f) j u
theorem x10 (i:TmsR F w tv ts) (hu:TermR G w uv t) (hs:ts.length<=2000000) (g:∀w' r,Ext w w'->TmsR (λ_=>True) w' r (ts++[t])->K r w'):vcall WA #[tv,uv] w K:=by
 refine zf {} Tryz.func45 ?_;obtain⟨cs,rfl,e⟩:=hu.cells;refine zm λb w1 k f j c=>?_;refine zd λw2 a _=>?_;have d:=f.trans a;exact app3 (c.ext a) (i.ext d) (e.ext d) hs λw' r he h=>g w' r (d.trans he) h
theorem no_term {b:Nat} {cs:List Value} {e:TypeId} (c:Blk w b cs e) (a:TmR G w cs t):TermR (λ_=>True) w (.agg ⟨[nI 25,nI 0,nI 0,.string ⟨#[]⟩,.slice (some ⟨b,0,none⟩) 1 1]⟩) (.mk 25 0 0 M.nada [t]):=
 ⟨_,rfl,[cs],(c.sl1k (zC a)).weaken λ_ _ _=>trivial,rfl,λi hi=>by
  have:i=0:=by have:i<1:=hi;omega
  subst this;exact a.weaken λ_ _ _=>trivial⟩
def jU (ds:List M.Dcl) (ts:List M.Tm) (t:M.Tm):List Int×Int:=xC ds (ts++[.mk 25 0 0 M.nada [t]]) []
theorem SolveProve_spec (p:DclsR F w dv ds) (s:TmsR F' w tv ts) (hu:TermR G w uv t) (hs:ts.length<=1048576) (er:Er w at_ an am ar ab)
  (n:∀w' ev,Ext w w'->OwnI zh w' ev (jU ds ts t).1->(∀x,ev.ownBlock=some x->w.heap.size<=x)->K (.tuple #[ev,nI (jU ds ts t).2]) w'):vcall QQ #[dv,tv,uv] w K:=by
 refine zf {} Tryz.func10 ?_;obtain⟨cs,rfl,d⟩:=hu.cells;have m:=zC d;refine zm λb w1 A g v e=>?_;rw[e.ldAgg (by rw[m];exact zc)];refine xb y5 yh zn rfl m dC λb2 w2 o h y f=>?_;have c:=g.trans h;refine oZ ?_;refine with_spec (s.ext c) (no_term f (d.ext c)) oM λw3 r i q=>?_;have a:=c.trans i;refine qj0 (p.ext a) q (by simp;omega) (er.ext a) λz ev j l k=>?_;refine oZ ?_;exact n z ev (a.trans j) l λx u=>by have:=k x u;have:=a.size;omega
theorem spec_SolveProve_spec (v:zd0 ds) (p:DclsR F w dv ds) (s:TmsR F' w tv ts) (hu:TermR G w uv t) (hs:ts.length<=1048576)
  (n:∀w' ev,Ext w w'->OwnI zh w' ev (jU ds ts t).1->(∀x,ev.ownBlock=some x->w.heap.size<=x)->K (.tuple #[ev,nI (jU ds ts t).2]) w'):vcall QF #[dv,tv,uv] w K:=by
 refine zf {} Tryz.func17 ?_;obtain⟨cs,rfl,d⟩:=hu.cells;have m:=zC d;refine zm λb w1 B g y e=>?_;rw[e.ldAgg (by rw[m];exact zc)];refine xb y5 yh zn rfl m dC λb2 w2 o h z f=>?_;have a:=g.trans h;refine oZ ?_;refine x10 (s.ext a) (no_term f (d.ext a)) oM λw3 r i q=>?_;have c:=a.trans i;refine spec_Solve_spec v (p.ext c) q λA ev j l k=>?_;refine oZ ?_;exact n A ev (c.trans j) l λx u=>by have:=k x u;have:=c.size;omega
end
section
variable {ds:List M.Dcl} {ts:List M.Tm} {t:M.Tm} {e:List Int} {a b:List Int}
theorem no_kid (b:M.declOk ds=true) (h:M.tsort ds (M.noT t)=0):M.tsort ds t=0:=by
 obtain⟨a,d,_⟩:=ZJ h;have f:=(M.sort_parts (ds:=ds) (t:=M.noT t) (by rw[a];decide)).1;have hs:=M.sort_one b f (t:=M.noT t) rfl;have c:M.sortM ds t=0:=by
  have e:M.oneM (M.noT t) (M.sortM ds t)=0:=by rw[<-a];exact hs.symm
  exact(M.one_good (t:=M.noT t) (.inr (.inr (.inr rfl))) (by rw[e];decide)).1 rfl
 obtain⟨f1,f2⟩:=M.fits_iff.1 d;have k:M.sizeM t+1<=M.sizeM (M.noT t)/\M.deepM t+1<=M.deepM (M.noT t):=M.kid_size (t:=M.noT t) (i:=0) Nat.one_pos;rw[JW b (M.fits_iff.2 ⟨oM,oM⟩),c]
theorem all8_app (h:Qp ds (ts++[t])=true):Qp ds ts=true/\M.tsort ds t=0:=by
 obtain⟨a,b,c⟩:=all8_iff.1 h;exact⟨all8_iff.2 ⟨by simp at a;omega,b,λu hu=>c u (gr.2 (.inl hu))⟩,c t (gr.2 (.inr (gB.2 rfl)))⟩
theorem Yn (h:(jU ds ts t).2≠4):M.declOk ds=true/\Qp ds ts=true/\M.tsort ds t=0/\M.sortM ds (M.noT t)=0:=by
 have c:Qp ds (ts++[M.noT t])=true:=Zc h;obtain⟨a,b⟩:=all8_app c;exact⟨(all8_iff.1 c).2.1,a,no_kid (all8_iff.1 c).2.1 b,(ZJ b).1⟩
theorem prove_yes (h:(jU ds ts t).2=1):M.envOk ds (jU ds ts t).1=true/\M.allT ds (jU ds ts t).1 ts/\¬M.allT ds (jU ds ts t).1 [t]:=by
 obtain⟨_,a,b,_⟩:=solveR_yes (ts:=ts++[M.noT t]) h;obtain⟨p,q⟩:=M.allT_app.1 b;have hs:=(Yn (ds:=ds) (ts:=ts) (t:=t) oM).2.2.2;exact⟨a,p,λc=>(jS0 a hs).1 (M.allT_one.1 q) (M.allT_one.1 c)⟩
theorem prove_no (h:(jU ds ts t).2=2) (he:M.envOk ds e=true) (a:M.allT ds e ts):M.allT ds e [t]:=by
 obtain⟨_,b⟩:=solveR_no (ts:=ts++[M.noT t]) h;have hs:=(Yn (ds:=ds) (ts:=ts) (t:=t) oM).2.2.2;exact M.allT_one.2 (gS λc=>b e he (M.allT_app.2 ⟨a,M.allT_one.2 ((jS0 he hs).2 c)⟩))
end
section
variable {w:World} {K:oK} {D F F' G H:Nat->Prop} {dv tv uv v ev:Value} {ds:List M.Dcl} {ts:List M.Tm} {t:M.Tm} {env e:List Int} {xs:List Nat} {at_ an am ar ab:Addr}
theorem wpTrue_one {b:Nat} {cs:List Value} {c:TypeId} (k:DclsR F w dv ds) (o:Blk w b cs c) (f:TmR G w cs t) (he:Ints H w ev env) (m:M.tsort ds t=0) (d:M.envOk ds env=true)
  (h:∀w',Ext w w'->K (.bool (decide (M.allT ds env [t]))) w'):vbuildS ze 1 [(0,.agg ⟨cs⟩)] w λs w1=>vcall XQ #[dv,s,ev] w1 K:=by
 refine xb y5 yh zn rfl (zC f) dC λb2 w2 j a n e=>?_;have l:TmsR (λ_=>True) w2 (.slice (some ⟨b2,0,none⟩) 1 1) [t]:=⟨[cs],(e.sl1k (zC f)).weaken λ_ _ _=>trivial,rfl,λi hi=>by
  have:i=0:=by have:i<1:=hi;omega
  subst this;exact(f.ext a).weaken λ_ _ _=>trivial⟩
 exact wpTrueB_spec (k.ext a) l (he.ext a) (by simp) (λu hu=>by rw[gB.1 hu];exact m) d λw3 g=>h w3 (a.trans g)
theorem FnSolveProve_spec (Q:Bytes F w v xs) (er:Er w at_ an am ar ab) (G:∀w',Ext w w'->K (.bool true) w'):vcall Xd #[v] w K:=by
 refine zf {loops:=[(13,[10])],cuts:=[(28680,[])]} Tryz.func6 ?_;simp only[push_cast,Q.len];refine zb (λ_=>G w (Same.refl _ _)) (λ_=>?_);refine DrawSolveProve_spec Q.below (λb hb=>hb) λw1 dv tv uv ds ts t r D V O a3 hu=>?_;refine oZ ?_;obtain⟨cs,rfl,d⟩:=hu.cells;have N:aggB za cs.length=true:=by rw[zC d];exact zc
 replace d:=d.weaken (F':=λx=>x<w1.heap.size) λx _ hl=>hl;refine zj zn λb5 w2 a2 H a4 h5=>?_;refine stTerm h5 rfl (d.ext H) λw3 W a5 m=>?_;have i:Ext w1 w3:=Ext.then H W λx Q=>by subst Q;omega
 rw[m.ldAgg N];refine SolveProve_spec (D.ext i) (O.ext i) (d.ext i).term oM (er.ext (r.trans i)) λw4 ev B I _=>?_;refine oZ ?_;have q:=i.trans B;rw[(m.ext B).ldAgg N];refine spec_SolveProve_spec (dsn_sized V) (D.ext q) (O.ext q) (d.ext q).term oM λw5 a0 s J _=>?_;refine oZ ?_;have R:=q.trans s;refine zq (λu w'=>u=[]/\Ext w5 w') (λC S=>?_) ?_
 .refine zb (λc=>absurd rfl c) (λ_=>?_);refine wpInts_spec (I.ints.ext s) J.ints λw6 o=>?_;simp only[push_cast,decide_true,GQ];exact S _ _ ⟨rfl,o⟩
 rintro _ _ w6 ⟨rfl,o⟩;have l:=R.trans o;have A:=B.trans (s.trans o);have T:=r.trans l;have y:=I.ints.ext (s.trans o);have lst:(jU ds ts t).2≠1->(jU ds ts t).2≠2->∀{wk:World},Ext w wk->vif (.bool (decide ((jU ds ts t).2=3))) (K (.bool true) wk) (K (.bool (decide ((jU ds ts t).2=4))) wk):=λa b {wk} hE=>by
  refine zb (λ_=>G wk hE) (λc=>?_);have:(jU ds ts t).2=4:=gS λh=>by
   rcases yG0 (Zc (ds:=ds) (ts:=ts++[M.noT t]) h) with e|e|e
   .exact a e
   .exact b e
   .exact c e
  rw[gm this];exact G wk hE
 refine zb (λc1=>?_) (λc1=>?_)
 .obtain⟨p1,p2,p3⟩:=prove_yes c1;obtain⟨q1,X,Y,_⟩:=Yn (ds:=ds) (ts:=ts) (t:=t) oM;refine wpTrueB_spec (D.ext l) (O.ext l) y oM (all8_iff.1 X).2.2 p1 λw7 f=>?_;refine zb (λ_=>?_) (λc=>absurd p2 c);have g:=l.trans f;rw[((m.ext A).ext f).ldAgg N];refine wpTrue_one (D.ext g) ((m.ext A).ext f) (d.ext g) (y.ext f) Y p1 λZ p=>?_;rw[gj p3];simp only[push_cast,Pa];exact G Z (r.trans (g.trans p))
 refine zb (λc2=>?_) (λc2=>?_)
 .obtain⟨q1,X,Y,_⟩:=Yn (ds:=ds) (ts:=ts) (t:=t) oM;have hz:=(all8_iff.1 X).2.2;refine qt (λn u w'=> ∃k:Int,u=[nI k]/\0<=k/\n=(Xv ds-k).toNat/\Ext w6 w') _ ⟨0,rfl,ph _,rfl,Same.refl _ _⟩ ?_;rintro n _ _ w7 C ⟨k,rfl,hk,rfl,f⟩ S;have g:=l.trans f;refine oZ ?_;refine zb (λ_=>?_) (λc=>absurd hk c);refine wpFirst_spec (D.ext g) (O.ext g) oM hz q1 hk λZ a1 env j p L hf=>?_;refine oZ ?_;have z:=g.trans p;refine zb (λ_=>G Z (r.trans z)) (λc=>?_);rcases hf with⟨b1,b2,b3,b4,b5⟩|⟨b1,_,_⟩
  .have E:=(m.ext A).ext (f.trans p);rw[E.ldAgg N];refine wpTrue_one (D.ext z) E (d.ext z) L Y b2 λw9 U=>?_;rw[gm (prove_no c2 b2 b4)];simp only[push_cast,GQ];have:=zs0 b2;have:=(manyE_le ds).2;rw[zl oM oM];exact S (Xv ds-(j+1)).toNat _ _ oM ⟨j+1,rfl,oM,rfl,f.trans (p.trans U)⟩
  .omega
 .exact lst c1 c2 T
end
end Go.Proofs.YtjkkiaacmedfdaaGreatDoor
section
namespace Go.Proofs.YtjkkiaacmedfdaaGreatDoor
open Go Go.Vc Go.Proofs
open Go.RowKit
theorem laid_at {l:List (String×DataW Unit)} {W:World} (h:laidMet P l W):∀k,laidMet P (l.drop k) W
 |0=>h
 |k+1=>by
  have a:=laid_at h k;rw[<-List.tail_drop];cases b:l.drop k with
  |nil=>rw[b] at a;exact a
  |cons x r=>rw[b] at a;exact a.tail
theorem zq0: "*" ++ "errors.errorString" = "*errors.errorString" :=dC
theorem kw0 (u:TypeId) (h:P.typeName? 3 u=some "*errors.errorString"):u=yQ:=
 typeName_ptr_named (nm:= "errors.errorString") (by rw[zq0];kernel_rfl) rK dC u (by rw[zq0];exact h)
def ifaceB (t:TypeId):Bool:=match P.underlying t with
 |some (.interface _)=>true
 |_=>false
theorem kR0 {t:TypeId} (h:ifaceB t=true):∃ms,P.underlying t=some (.interface ms):=by
 unfold ifaceB at h;split at h
 .exact⟨_,by assumption⟩
 .cases h
theorem xM0:∃ms,P.underlying xw=some (.interface ms):=kR0 rK
def fieldB (t u:TypeId):Bool:=match P.underlying t with
 |some (.struct fs)=>match fs.toList with
  |[f]=>decide (f.type=u)&&decide (f.offset=0)
  |_=>false
 |_=>false
theorem kX0 {t u:TypeId} (h:fieldB t u=true):∃f,P.underlying t=some (.struct #[f])/\f.type=u/\f.offset=0:=by
 unfold fieldB at h;split at h
 .rename_i fs a;split at h
  .rename_i f b;simp only[gp,gd] at h;refine⟨f,?_,h⟩;rw[a];congr 2;exact GU.1 (by simpa using b)
  .cases h
 .cases h
theorem kx0:P.underlying yQ=some (.pointer 416):=rK
theorem yH0:∃f,P.underlying 416=some (.struct #[f])/\f.type=xc/\f.offset=0:=kX0 rK
theorem yI0:P.underlying xc=some .string:=rK
theorem Yh0:P.cellsOf 416=1/\P.cellsOf xc=1:=⟨rK,rK⟩
theorem vars_len {H:Type} {enc:TypeId×Value->H} {w:World} {sp:Nat->Bool}:∀{ns:List String} {gs:List (DataW H)} {ps:List MemPlace},DataW.TrodVars enc P w sp ns gs ps->gs.length=ns.length
 |[],[],_,_=>rfl
 |[],_::_,_,h=>h.elim
 |_::_,[],_,h=>h.elim
 |_::_,_::_,_,⟨_,_,_,_,_,_,_,_,_,_,hs,_⟩=>by rw[gG,gG,vars_len hs]
theorem vlist5 {α:Type} {l:List α} (h:l.length=5):∃a b c d e,l=[a,b,c,d,e]:=by
 match l,h with
 |[a,b,c,d,e],_=>exact⟨a,b,c,d,e,rfl⟩
end Go.Proofs.YtjkkiaacmedfdaaGreatDoor
end
section
namespace Go.Proofs.YtjkkiaacmedfdaaGreatDoor
open Go Go.Vc Go.Proofs
open Go.RowKit
theorem Q6 {x y:String×DataW Unit} {r:List (String×DataW Unit)} {w:World} (h:laidMet P (x::y::r) w):laidMet P (x::r) w:=by
 obtain⟨ps,u,j,c⟩:=h;obtain⟨n,d⟩:=x;obtain⟨m,e⟩:=y;obtain⟨g,t,cs,fuel,p,q,o,a2,a3,a4,s,rfl⟩:=u;obtain⟨g2,t2,f,i,p2,l,_,_,_,_,k,rfl⟩:=s;have a:=pN (pU (MemPlace.row ⟨g,0,none⟩ cs.size++p)) (List.sublist_append_right (MemPlace.row ⟨g2,0,none⟩ f.size++p2) l);exact⟨_,⟨g,t,cs,fuel,p,l,o,a2,a3,a4,k,rfl⟩,List.Nodup.sublist a j,λb off hm=>c b off (a.subset hm)⟩
theorem jH {W:World} {g:Nat} {a c:Addr} (h:Sent W g a) (b:Sent W g c):a=c:=by
 unfold Sent at h b;rw[h] at b
 injection b with b
 injection b with _ b
 injection b with b
 exact gh b
theorem Zd {j k:String} {t0 t1:List UInt8} {r:List (String×DataW Unit)} {W:World} {g0 g1:Nat} (h:laidMet P ((j,.iface "*errors.errorString" (.ptr (.agg [.lit (.string t0)])))::(k,.iface "*errors.errorString" (.ptr (.agg [.lit (.string t1)])))::r) W)
  (c:P.globalNamed j=some g0) (g:(P.globals[g0]?).map (·.type)=some xw) (d:P.globalNamed k=some g1) (i:(P.globals[g1]?).map (·.type)=some xw):∃a b,Sent W g0 a/\Sent W g1 b/\a≠b/\RowA W a/\RowA W b:=by
 obtain⟨ms,hi⟩:=xM0;obtain⟨f,m,n,o⟩:=yH0;obtain⟨a0,l,u,s1,c0,c1,s,t,v0,v1,_,_,_,_,_,_,e,p,q⟩:=laid_sentinels2 h c g d i hi kw0 kx0 m n o yI0 Yh0.1 Yh0.2;exact⟨a0,l,by unfold Sent;simpa using World.var?_cell c v0 0,by unfold Sent;simpa using World.var?_cell d v1 0,e,⟨c0,s,p⟩,⟨c1,t,q⟩⟩
theorem er_of {nr nb nt nn nm:String} {tr tb tt tn tm:List UInt8} {r l:List (String×DataW Unit)} {W:World} (h:laidMet P l W) (k:Nat)
  (B:l.drop k=(nr,.iface "*errors.errorString" (.ptr (.agg [.lit (.string tr)])))::(nb,.iface "*errors.errorString" (.ptr (.agg [.lit (.string tb)])))::(nt,.iface "*errors.errorString" (.ptr (.agg [.lit (.string tt)])))::(nn,.iface "*errors.errorString" (.ptr (.agg [.lit (.string tn)])))::(nm,.iface "*errors.errorString" (.ptr (.agg [.lit (.string tm)])))::r)
  (er:P.globalNamed nr=some xQ) (eb:P.globalNamed nb=some jd) (et:P.globalNamed nt=some yJ) (en:P.globalNamed nn=some jm) (em:P.globalNamed nm=some qs)
  (fr:(P.globals[xQ]?).map (·.type)=some xw) (fb:(P.globals[jd]?).map (·.type)=some xw) (ft:(P.globals[yJ]?).map (·.type)=some xw) (fn:(P.globals[jm]?).map (·.type)=some xw) (fm:(P.globals[qs]?).map (·.type)=some xw):
  ∃at_ an am ar ab,Er W at_ an am ar ab:=by
 have a:=laid_at h k;rw[B] at a;obtain⟨ar,ab,sr,sb,_,rr,_⟩:=Zd a er fr eb fb;have b:=Q6 a;obtain⟨w,at_,j,st,C,_,rt⟩:=Zd b er fr et ft;have q:=Q6 b;obtain⟨x,an,m,sn,D,_,rn⟩:=Zd q er fr en fn;obtain⟨y,am,n,sm,E,_,rm⟩:=Zd (Q6 q) er fr em fm;have c:=b.tail;obtain⟨z,u,o,g,F,_⟩:=Zd c et ft en fn;obtain⟨A,s,p,d,G,_⟩:=Zd (Q6 c) et ft em fm;obtain⟨v,t,i,f,n6,_⟩:=Zd c.tail en fn em fm;obtain rfl:=jH j sr;obtain rfl:=jH m sr;obtain rfl:=jH n sr;obtain rfl:=jH o st;obtain rfl:=jH p st;obtain rfl:=jH g sn;obtain rfl:=jH i sn;obtain rfl:=jH d sm;obtain rfl:=jH f sm;exact⟨_,_,_,_,ab,st,sn,sm,⟨sr,sb,id,id⟩,rt,rn,rm,rr,λe=>F e.symm,λe=>G e.symm,λe=>n6 e.symm,C,D,E⟩
end Go.Proofs.YtjkkiaacmedfdaaGreatDoor
end
end
