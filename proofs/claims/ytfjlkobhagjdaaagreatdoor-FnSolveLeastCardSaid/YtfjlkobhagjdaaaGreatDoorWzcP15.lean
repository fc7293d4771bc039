import Derived.Test.YtfjlkobhagjdaaaGreatDoorWzcP14
import Derived.OpenVars
import Derived.MakeChecks
import Derived.Stop.LaidErr
import Derived.Stop.LaidTwo
/- A part of the proof. -/
set_option linter.all false
set_option maxRecDepth 9999
set_option maxHeartbeats 2000000
noncomputable section
namespace Go.Proofs.YtfjlkobhagjdaaaGreatDoor
open Go Go.Vc Go.Proofs Go.M
section
variable {w:World} {K:oK} {F Fr F':oA} {many:Nat} {c:Cnf} {s:Sat}
theorem inc64 {i:Nat} (h:i<9223372036854775807):IntKind.i64.wrap ((i:Int)+1)=((i+1:Nat):Int):=by rw[zl oM oM];omega
theorem l5Find_spec {vc vl v:Value} {put:oI} {ls:List (oI)} (hc:CnfR F w vc c) (hl:Lists F' w vl ls) (hx:Ints Fr w v (signs many put)) (hm:marksOk many put) (z:many<=700) (a4:c.list.length+ls.length<=1000000)
  (hb:∀cl,cl∈c.list++ls->∀l,l∈cl->l≠0/\l.natAbs<=many)
  (hK:∀w' k u x,Ext w w'->findM put (c.list++ls) 0 (-1) 0=(k,u,x)->K (.tuple #[nI k,nI (if 0<=k then-1 else u),nI (if 0<=k then 0 else x)]) w'):vcall WV #[vc,vl,v] w K:=by
 refine zf {loops:=[(5,[9,10,12])],cuts:=[(36875,[13])]} Tryz.func164 ?_;obtain⟨lv,rfl,X⟩:=hc;obtain⟨cs,U,B,T⟩:=X;obtain⟨es,W,H,V⟩:=hl;refine yf λb w1 a1 E a5 hB=>?_;have A:Blk w1 b [nI c.many,lv] zr:=hB;have D:=B.ext E;simp only[push_cast,A.ld1,D.len];refine vloop_up (c.list.length+ls.length) (λi u w'=> ∃(y x:Int),u=[nI y,nI x,nI i]/\Ext w w'/\Blk w' b [nI c.many,lv] zr/\findM put ((c.list++ls).drop i) i y x=findM put (c.list++ls) 0 (-1) 0) ⟨-1,0,rfl,E,A,rfl⟩ ?_;rintro i _ _ w2 C hi ⟨y,x,rfl,s,S,g⟩ Q;have I:=H.ext s;simp only[push_cast,I.len];rw[U,W,zl oM oM];refine zb (λa=>?_) (λa=>?_)
 .have o:i<c.list.length+ls.length:=oM;refine y7 x7 yO λb3 w3 a2 G a6 a0=>?_;have p:=s.trans G;have f:=S.ext G;have q:=B.ext p;have r:=H.ext p;refine zq (λu w'=>w'=w3/\∃v4,u=[v4]/\Ints (λ_=>True) w3 v4 ((c.list++ls).getD i [])) ?_ ?_
  .intro J Z;refine zb (λa3=>?_) (λa3=>?_)
   .simp(disch:=exact oS) only[push_cast,f.ld1,q.iaddr,q.load];refine Z _ _ ⟨rfl,_,rfl,?_⟩;rw[getD_app_l oM];exact((T i oM).ext p).weaken λ_ _ _=>trivial
   .obtain⟨j,rfl⟩:∃j,i=c.list.length+j:=⟨i-c.list.length,oM⟩;rw[show((c.list.length+j:Nat):Int)-(c.list.length:Int)=(j:Int) from by omega,zl oM oM];simp(disch:=exact oS) only[push_cast,r.iaddr,r.load];refine Z _ _ ⟨rfl,_,rfl,?_⟩;rw[getD_app_r];exact((V j oM).ext p).weaken λ_ _ _=>trivial
  rintro _ _ _ ⟨rfl,v4,rfl,h4⟩;have L:i<(c.list++ls).length:=by rw[gg];exact o
  have M:(c.list++ls).getD i []∈c.list++ls:=by rw[X0,gl L];exact GU _
  rw[Z6 (d:=[]) L,findM_cons] at g;refine oZ ?_;refine l5Look_spec (hx.ext p) hm z h4 (hb _ M) λO n Y t=>?_;rw[t] at g;dsimp only at g;refine oZ ?_;rw[inc64 oM];have N: ¬(O=true)->((if O then(-1:Int) else(n:Int))=n/\(if O then(0:Int) else Y)=Y):=λh=>⟨q0 h,q0 h⟩;by_cases m:O=true
  .rw[K3 m] at g;refine zb (λe=>absurd e (by rw[K3 m];omega)) (λ_=>zb (λe=>absurd e (by rw[K3 m];omega)) (λ_=>?_));exact Q o _ _ ⟨y,x,rfl,p,f,g⟩
  rw[q0 m] at g;rw[(N m).1,(N m).2];refine zb (λe=>?_) (λe=>zb (λe1=>?_) (λe1=>?_))
  .rw[K3 oM] at g;have:=hK _ _ _ _ p g.symm;rwa[K3 oM,K3 oM] at this
  .rw[q0 oM,K3 oM] at g;refine zb (λR=>?_) (λR=>?_)
   .rw[K3 R] at g;exact Q o _ _ ⟨i,Y,rfl,p,f,g⟩
   .rw[q0 R] at g;exact Q o _ _ ⟨y,x,rfl,p,f,g⟩
  .rw[q0 oM,q0 oM] at g;exact Q o _ _ ⟨y,x,rfl,p,f,g⟩
 .rw[Gm (by rw[gg];omega)] at g;have:=hK w2 _ _ _ s g.symm;rwa[q0 oM,q0 oM] at this
theorem l5At_spec {vc v:Value} {k:Nat} (A:CnfR F w vc c) (hs:SatR F' w v s) (G:k<c.list.length+s.learned.length) (C:c.list.length+s.learned.length<=1000000)
  (u:∀w' v',Ext w w'->Ints (λb=>F b\/F' b) w' v' (atM c s k)->K v' w'):vcall yZ0 #[vc,v,nI k] w K:=by
 refine zf {} Tryz.func166 ?_;obtain⟨lv,rfl,cs,n,o,m⟩:=A;obtain⟨vp,vw,vl,rfl,-,-,es,B,r,q⟩:=hs;refine yf λb1 w1 y p D i=>?_;refine yf λb2 w2 z g E l=>?_;have t:Blk w2 b1 [nI c.many,lv] zr:=i.ext g;have x:Blk w2 b2 [vp,vw,vl,nI s.code] zw:=l;have f:=p.trans g;have d:=o.ext f;have e:=r.ext f;simp only[push_cast,t.ld1,d.len];refine zb (λa=>?_) (λa=>?_)
 .simp(disch:=exact oS) only[push_cast,d.iaddr,d.load];refine u w2 _ f ?_;rw[atM,getD_app_l oM];exact((m k oM).ext f).weaken λ_ h _=> .inl h
 .obtain⟨j,rfl⟩:∃j,k=c.list.length+j:=⟨k-c.list.length,oM⟩;simp(disch:=(simp only[push_cast])) only[x.ld2,t.ld1,d.len,UT,UW,yo,Gd,Z9];rw[n,show((c.list.length+j:Nat):Int)-(c.list.length:Int)=(j:Int) from by omega,zl oM oM];simp(disch:=exact oS) only[push_cast,e.iaddr,e.load];refine u w2 _ f ?_;rw[atM,getD_app_r];exact((q j oM).ext f).weaken λ_ h _=> .inr h
theorem l5Levels_spec {vc v:Value} (hc:CnfR F w vc c) (hs:SatR F' w v s) (L:c.many=many) (T:many<=700) (hm:marksOk many s.put) (hlen:s.put.length=s.why.length) (A:∀k,k<s.why.length->s.why.getD k 0= -1\/0<=s.why.getD k 0)
  (hK:∀w' v',Ext w w'->OwnI zh w' v' (levs many s.put (yp s.why))->(∀x,v'.ownBlock=some x->w.heap.size<=x)->K v' w'):vcall Ki #[vc,v] w K:=by
 refine zf {loops:=[(4,[6,7])],cuts:=[(28680,[6])]} Tryz.func195 ?_;obtain⟨lv,rfl,-⟩:=hc;obtain⟨vp,vw,vl,rfl,hp,hw,-⟩:=hs;have a4:=hm.len;refine yf λb1 w1 a0 N a7 H=>?_;refine yf λb2 w2 a1 p a8 I=>?_;have X:Blk w2 b1 [nI c.many,lv] zr:=H.ext p;have R:Blk w2 b2 [vp,vw,vl,nI s.code] zw:=I;have S:=N.trans p;simp only[push_cast,X.ld0];rw[L,zl oM oM,show((many:Int)+1)=((many+1:Nat):Int) from by omega];refine vmkS_own (bs:=8) xw qz xt rfl oM oM λv1 w3 Y q m=>?_;have G:OwnI zh w3 v1 (levs many [] (yp s.why)):=by rw[kR0];unfold OwnI;rw[GO];exact Y
 have V:=S.size;refine vloop_up s.put.length (λi u w'=>u=[nI ((yp s.why).take i|>.count true:Nat),nI i]/\Ext w w'/\Blk w' b2 [vp,vw,vl,nI s.code] zw/\OwnI zh w' v1 (levs many (s.put.take i) (yp s.why))) ⟨rfl,S.trans q,R.ext q,by simpa using G⟩ ?_;rintro i _ _ W C hi ⟨rfl,g,f,E⟩ Z;have n:=hp.ext g;have z:=hw.ext g;have a5:=Ur many (s.put.take i) (yp s.why);have a3:=jN s.why;simp only[push_cast,f.ld0,n.len];refine zb (λa=>?_) (λa=>?_)
 .have l:i<s.put.length:=oM;have h:=Ye (ds:=yp s.why) (i:=i) oM;have a2:((yp s.why).take i).count true<=700:=gO Pa (by simp;omega);refine zq (λu w'=>w'=W/\u=[nI ((yp s.why).take (i+1)|>.count true:Nat)]) ?_ ?_
  .intro J U;simp(disch:=exact oS) only[push_cast,f.ld1,z.iaddr,z.load];have o:=JQ (why:=s.why) (k:=i) oM;have a6:=A i oM;refine zb (λb=>?_) (λb=>?_)
   .rw[inc64 oM];refine U _ _ ⟨rfl,?_⟩;rw[h,o,gm oM];rfl
   .refine U _ _ ⟨rfl,?_⟩;rw[h,o,gj oM];rfl
  rintro _ _ _ ⟨rfl,rfl⟩;simp(disch:=exact oS) only[push_cast,f.ld0,n.iaddr,n.load];have hb:=hm.2 _ (getD_meS l);have y:=M.take_snoc' (d:=0) l;have D:=distinct_take hm.1 (i+1);have j:placeOf (s.put.take i) (s.put.getD i 0).natAbs=0:=by
   refine placeOf_zero λx B e=>?_;rw[y] at D;unfold Distinct at D;rw[gD,Gy] at D;exact D.2.2 _ (Gj B) _ (by simp) e
  have t:=levs_snoc (many:=many) (ds:=yp s.why) j;rw[<-y,gi,GB oM,lvl_succ oM,<-h] at t;have Q:=E.ints;refine l4Abs_spec oM ?_;simp(disch:=exact oS) only[push_cast,Q.iaddr];refine E.st yO oM λw5 O r a9=>?_;rw[inc64 oM];refine Z l _ _ ⟨rfl,Ext.then g r λx B=>by have:=m x B;omega,f.same r λe=>by have:=m _ e;have:=R.lt;omega,by rw[t];exact O⟩
 .rw[gH oM] at E;exact hK W v1 g E λx B=>by have:=m x B;omega
theorem l5Top_spec {v v':Value} {put cl:oI} {ds:List Bool} (m:Ints F w v (levs many put ds)) (j:many<=700) (p:ds.length<=700) (d:Ints Fr w v' cl) (o:∀l,l∈cl->l.natAbs<=many/\placeOf put l.natAbs≠0)
  (s:K (.tuple #[nI (kX put ds cl:Nat),nI (Jj put ds cl).length]) w):vcall zN0 #[v,v'] w K:=by
 refine zf {loops:=[(4,[6,7,8])]} Tryz.func196 ?_;have hlen:cl.length<=9223372036854775807:=by obtain⟨_,_,_,n,r,_⟩:=d.shape;simp at n;omega
 have q:=Ur many put ds;refine vloop_up cl.length (λi u w'=>w'=w/\u=[nI (kX put ds (cl.take i):Nat),nI (Jj put ds (cl.take i)).length,nI i]) ⟨rfl,rfl⟩ ?_;rintro i _ _ _ C hi ⟨rfl,rfl⟩ f;simp only[push_cast,d.len];refine zb (λa=>?_) (λa=>?_)
 .have c:i<cl.length:=oM;simp(disch:=exact oS) only[push_cast,d.iaddr,d.load];obtain⟨g,h⟩:=o _ (getD_meS c);refine l4Abs_spec oM ?_;simp(disch:=exact oS) only[push_cast,m.iaddr,m.load];rw[levs_get g,levV_lit h];obtain⟨t1,t2⟩:=top_step (put:=put) (ds:=ds) c _ rfl;generalize lvM put ds (cl.getD i 0)=k at*;have t:(Jj put ds (cl.take i)).length<=i:=gO (List.length_filter_le _ _) (by simp;omega);refine zb (λb=>?_) (λb=>?_)
  .rw[K3 oM] at t1 t2;refine zb (λ_=>?_) (λe=>absurd trivial e);rw[inc64 oM];exact f c _ _ ⟨rfl,by rw[t1,t2];rfl⟩
  .rw[q0 oM] at t1 t2;refine zb (λe=>?_) (λe=>?_)
   .rw[K3 oM] at t2;rw[inc64 oM,inc64 oM];exact f c _ _ ⟨rfl,by rw[t1,t2]⟩
   .rw[q0 oM] at t2;rw[inc64 oM];exact f c _ _ ⟨rfl,by rw[t1,t2]⟩
 .rwa[gH oM]
theorem l5Has_spec {v:Value} {cl:oI} {m:Nat} (c:Ints Fr w v cl) (p:∀l,l∈cl->l.natAbs<=700) (g:(∃q,q∈cl/\q.natAbs=m)->K (.bool true) w) (j:(∀q,q∈cl->q.natAbs≠m)->K (.bool false) w):vcall zP0 #[v,nI m] w K:=by
 refine zf {loops:=[(2,[5])]} Tryz.func255 ?_;have hlen:cl.length<=9223372036854775807:=by obtain⟨_,_,_,n,s,_⟩:=c.shape;simp at n;omega
 refine vloop_up cl.length (λi u w'=>w'=w/\u=[nI i]/\∀q,q∈cl.take i->q.natAbs≠m) ⟨rfl,rfl,by simp⟩ ?_;rintro i _ _ _ C hi ⟨rfl,rfl,k⟩ o;simp only[push_cast,c.len];refine zb (λa=>?_) (λa=>?_)
 .have f:i<cl.length:=oM;simp(disch:=exact oS) only[push_cast,c.iaddr,c.load];have e:cl.getD i 0∈cl:=getD_meS f;have r:=p _ e;refine l4Abs_spec oM ?_;refine oZ ?_;refine zb (λb=>g ⟨_,e,oM⟩) (λb=>?_);rw[inc64 oM];refine o f _ _ ⟨rfl,rfl,λq h=>?_⟩;rw[M.take_snoc' (d:=0) f,gr,gC] at h;rcases h with h|rfl
  .exact k q h
  .omega
 .rw[gH oM] at k;exact j k
theorem l5Last_spec {v v':Value} {cl:oI} (hs:SatR F w v s) (hm:marksOk many s.put) (t:many<=700) (m:Ints Fr w v' cl) (z:∀l,l∈cl->l.natAbs<=700)
  (x:∀w',Ext w w'->K (nI ((lastPl s.put cl:Int)-1)) w'):vcall WT #[v,v'] w K:=by
 refine zf {loops:=[(2,[5])]} Tryz.func226 ?_;obtain⟨vp,vw,vl,rfl,G,-,-⟩:=hs;have E:=hm.len;refine yf λb2 w2 A b H g=>?_;have p:Blk w2 b2 [vp,vw,vl,nI s.code] zw:=g;have c:=G.ext b;simp only[push_cast,p.ld0,c.len];rw[zl oM oM];refine vloop_up s.put.length (λi u w'=>w'=w2/\u=[nI ((s.put.length:Int)-1-i)]/\∀j,s.put.length-i<=j->j<s.put.length->∀q,q∈cl->q.natAbs≠(s.put.getD j 0).natAbs) ⟨rfl,by simp,λj r d=>oM⟩ ?_;rintro i _ _ _ C hi ⟨rfl,rfl,n⟩ y;refine oZ ?_;refine zb (λa=>?_) (λa=>?_)
 .obtain⟨k,D⟩:∃k:Nat,(s.put.length:Int)-1-i=k:=⟨s.put.length-1-i,oM⟩;have f:k<s.put.length:=oM;rw[D];simp(disch:=exact oS) only[push_cast,p.ld0,c.iaddr,c.load];have B:=hm.2 _ (getD_meS f);refine l4Abs_spec oM ?_;refine l5Has_spec (m.ext b) z (λh=>?_) (λh=>?_)
  .refine oZ ?_;have o:=lastPl_eq hm f h λj r d=>n j oM d;have:=x _ b;rwa[o,show((k+1:Nat):Int)-1=(k:Int) from by omega] at this
  .refine oZ ?_;rw[zl oM oM];refine y oM _ _ ⟨rfl,by rw[show(s.put.length:Int)-1-((i+1:Nat):Int)=(k:Int)-1 from by omega],λj r d=>?_⟩;by_cases e:j=k
   .subst e;exact h
   .exact n j oM d
 .have o:=lastPl_none (put:=s.put) (cl:=cl) λj d=>n j oM d;have:=x _ b;rw[o] at this;exact this
end
section
variable {w:World} {K:oK} {F Fr F':oA} {many:Nat} {c:Cnf} {s:Sat}
theorem jo0 (arr:oI) (m n:Nat):(yg0 arr m n).length<=n:=by
 unfold yg0;refine gO (List.length_filterMap_le _ _) (by simp)
theorem l5Join_spec {va vb:Value} {a b:oI} {m:Nat} (ha:Ints F w va a) (hb:Ints F' w vb b) (a6:many<=700) (S:∀k,k∈a++b->k≠0/\k.natAbs<=many) (hc:∀k,k∈a++b->k.natAbs≠m-> -k∉a++b)
  (hK:∀w' v',Ext w w'->OwnI zh w' v' (Qd many a b m)->(∀x,v'.ownBlock=some x->w.heap.size<=x)->K v' w'):vcall WU #[nI many,va,vb,nI m] w K:=by
 refine zf {loops:=[(4,[11]),(8,[12]),(12,[9,13])]} Tryz.func227 ?_;have ab:a.length<=9223372036854775807:=by obtain⟨_,_,_,L,h2,_⟩:=ha.shape;simp at L;omega
 have ac:b.length<=9223372036854775807:=by obtain⟨_,_,_,L,h2,_⟩:=hb.shape;simp at L;omega
 refine y7 x7 yO λJ w0 a8 T ad N=>?_;refine oZ ?_;rw[zl oM oM,show((many:Int)+1)=((many+1:Nat):Int) from by omega];refine vmkS_own (bs:=8) xw qz xt rfl oM oM λv1 w1 L U W=>?_;have a0:OwnI zh w1 v1 (List.replicate (many+1) 0):=by unfold OwnI;rw[GO];exact L
 have E1:=T.trans U;have a7:=T.size;have hN:∀x,v1.ownBlock=some x->w.heap.size<=x:=λx s=>by have:=W x s;omega
 have a1:Blk w1 J [] zW:=N.ext U;have G:∀x,v1.ownBlock=some x->x≠J:=λx s e=>by have:=W x s;have:=N.lt;omega
 refine vloop_up a.length (λi u w'=>u=[nI i]/\Ext w w'/\Blk w' J [] zW/\∃arr,OwnI zh w' v1 arr/\ArrP many (a.take i) arr) ⟨rfl,E1,a1,_,a0,by simpa using arr_nil many⟩ ?_;rintro i _ _ w2 C hi ⟨rfl,h,o,arr,q,f⟩ O;have E:=ha.ext h;simp only[push_cast,E.len];refine zb (λc1=>?_) (λc1=>?_)
 .have l:i<a.length:=oM;refine zd λw3 c _=>?_;have A:=E.ext c;have g:=q.ext c;have r:=g.ints;have Q:=f.len;obtain⟨g1,g2⟩:=S _ (Gg _ (getD_meS l));simp(disch:=exact oS) only[push_cast,A.iaddr,A.load,Q1];refine l4Abs_spec oM ?_;simp(disch:=exact oS) only[push_cast,A.iaddr,A.load,Q1,gn,r.iaddr];refine g.st yO oM λw4 I z Y=>?_;rw[inc64 oM];refine O l _ _ ⟨rfl,Ext.then (h.trans c) z hN,(o.ext c).same z λe=>G _ e rfl,_,I,?_⟩;rw[M.take_snoc' (d:=0) l];exact arr_snoc f g1 g2
 clear O;rw[gH oM] at f;refine vloop_up b.length (λi u w'=>u=[nI i]/\Ext w w'/\Blk w' J [] zW/\∃arr,OwnI zh w' v1 arr/\ArrP many (a++b.take i) arr) ⟨rfl,h,o,arr,q,by simpa using f⟩ ?_;clear f q arr o E h w2;rintro j _ _ w2 C hj ⟨rfl,h,o,arr,q,f⟩ O;have R:=hb.ext h;simp only[push_cast,R.len];refine zb (λc2=>?_) (λc2=>?_)
 .have l:j<b.length:=oM;refine zd λw3 c _=>?_;have B:=R.ext c;have g:=q.ext c;have r:=g.ints;have Q:=f.len;obtain⟨g1,g2⟩:=S _ (GL _ (getD_meS l));simp(disch:=exact oS) only[push_cast,B.iaddr,B.load,Q1];refine l4Abs_spec oM ?_;simp(disch:=exact oS) only[push_cast,B.iaddr,B.load,Q1,gn,r.iaddr];refine g.st yO oM λw4 I z Y=>?_;rw[inc64 oM];refine O l _ _ ⟨rfl,Ext.then (h.trans c) z hN,(o.ext c).same z λe=>G _ e rfl,_,I,?_⟩;rw[M.take_snoc' (d:=0) l,<-Gk];exact arr_snoc f g1 g2
 clear O;rw[gH oM] at f;have Q:=f.len;have a4:OwnI zh w2 (.slice (some ⟨J,0,none⟩) 0 0) []:=Blk.own1 (t:=zh) (cs:=[]) (by rw[qz];exact o) (gQ _) rfl rfl oM;refine vloop_up many (λn u w'=> ∃v,u=[v,nI (n+1:Nat)]/\Ext w w'/\OwnI zh w' v1 arr/\OwnI zh w' v (yg0 arr m n)/\(∀x,v.ownBlock=some x->w.heap.size<=x/\v1.ownBlock≠some x)) ⟨_,rfl,h,q,a4,λx s=>?_⟩ ?_
 .have e:J=x:=gh s;subst e;exact⟨oM,λe=>G _ e rfl⟩
 rintro n _ _ w3 C3 hn ⟨v,rfl,c,g,y,p⟩ D;refine oZ ?_;have aa:=jo0 arr m n;refine zb (λc3=>?_) (λc3=>?_)
 .have hs:=joinA_succ arr m n;have V:IntKind.i64.wrap ((n:Int)+1+1)=((n+1+1:Nat):Int):=by rw[zl oM oM];omega
  have r:=g.ints;rw[V];refine zb (λc4=>?_) (λc4=>?_)
  .rw[q0 oM] at hs;have e1:((n:Int)+1)=((n+1:Nat):Int):=rfl;rw[e1];simp(disch:=exact oS) only[r.iaddr,gu,r.load,xi0];refine zb (λZ=>?_) (λZ=>?_)
   .rw[q0 Z] at hs;refine zD x7 yO xt rfl rfl λb4 w4 a9 H Y a2=>?_;refine(y.ext H).app1 xw a2 oM oM λv5 w5 a5 X a3=>?_;have ae:=c.size;refine D oM _ _ ⟨v5,rfl,Ext.then (c.trans H) X λx s=>(p x s).1,(g.ext H).same X λx s e=>(p x e).2 s,by rw[hs];exact a5,λx s=>?_⟩;rcases a3 x s with e|e
    .exact p x e
    .exact⟨oM,λe'=>by have:=g.lt e';omega⟩
   .rw[K3 (by simpa using Z),gM] at hs;exact D oM _ _ ⟨v,rfl,c,g,by rw[hs];exact y,p⟩
  .rw[K3 oM,gM] at hs;exact D oM _ _ ⟨v,rfl,c,g,by rw[hs];exact y,p⟩
 .have:n=many:=oM;subst this;rw[joinA_eq f hc] at y;exact hK w3 v c y λx s=>(p x s).1
theorem learnS_cons {cl:oI} (d:satOk many c s) (h:c.many=many) (hF:Fls s.put cl) (hs:Srt cl) (n:2<=(Jj s.put (yp s.why) cl).length):
  lastPl s.put cl-1<s.put.length/\lastPl s.put cl≠0/\0<=s.why.getD (lastPl s.put cl-1) 0/\s.why.getD (lastPl s.put cl-1) 0<c.list.length+s.learned.length/\
  (∀l,l∈cl++atM c s (s.why.getD (lastPl s.put cl-1) 0).toNat->l≠0/\l.natAbs<=many)/\(∀l,l∈cl++atM c s (s.why.getD (lastPl s.put cl-1) 0).toNat->l.natAbs≠(s.put.getD (lastPl s.put cl-1) 0).natAbs-> -l∉cl++atM c s (s.why.getD (lastPl s.put cl-1) 0).toNat):=by
 have v:=topOf_tops (put:=s.put) (ds:=yp s.why) (srt_nodup hs);have b:cl≠[]:=λe=>by subst e;simp[Jj] at n
 have w:=lastPl_pos hF b;obtain⟨k,o⟩:∃k,lastPl s.put cl=k+1:=⟨lastPl s.put cl-1,oM⟩;rw[o,G2];obtain⟨i,t,j,m,himp,-⟩:=last_reason d hF v n o;obtain⟨u,f⟩:=(impl_iff d.mks).1 himp;have g:(s.why.getD k 0).toNat<c.list.length+s.learned.length:=oM
 have off:∀l,l∈cl++atM c s (s.why.getD k 0).toNat->l.natAbs≠(s.put.getD k 0).natAbs-> -l∈s.put:=λl a b=>by
  rcases gr.1 a with a|a
  .exact hF l a
  .exact gV (f l a λe=>b (by rw[e]))
 refine⟨i,oM,j,m,λl a=>?_,λl a b r=>?_⟩
 .rcases gr.1 a with a|a
  .have:=d.mks.2 _ (hF l a);omega
  .exact d.lit h g a
 .have p:=off l a b;have q:=off (-l) r (by rwa[G5]);exact d.mks.neg p q
theorem l5Learn_spec {vc v vl v3:Value} {k:Nat} (hc:CnfR F w vc c) (hs:SatR F' w v s) (S:Ints Fr w vl (levs many s.put (yp s.why))) (hv:OwnI zh w v3 (atM c s k)) (e:satOk many c s) (o:c.many=many) (hk:k<c.list.length+s.learned.length) (a1:qX s.put (atM c s k))
  (hK:∀w' v',Ext w w'->OwnI zh w' v' (learnM many c s s.put.length (atM c s k))->(∀x,v'.ownBlock=some x->v3.ownBlock=some x\/w.heap.size<=x)->K v' w'):vcall Vn #[vc,v,vl,v3] w K:=by
 refine zf {loops:=[(2,[3,10])]} Tryz.func197 ?_;have a0:=hc;have M:=hs;obtain⟨lv,rfl,aa⟩:=hc;obtain⟨vp,vw,vls,rfl,hp,hw,j⟩:=hs;have d:many<=700/\c.list.length<=2500:=by
  have:=e.cnf;unfold cnfOk at this;simp only[gp,gd] at this;omega
 have a6:=e.few;have m:=e.mks;have ac:=m.len;have hlen:=e.len;have E:=Z8 a1;have Z:=clauseOk_srt (e.atOk hk);have G:(yp s.why).length<=700:=by rw[jN];omega
 have bounds:∀{b:oI},Fls s.put b->∀x,x∈b->x.natAbs<=many/\placeOf s.put x.natAbs≠0:=λhF x A=>by
  have h1:=m.2 _ (hF x A);have D:=placeOf_ne_zero (hF x A);rw[G5] at D;exact⟨oM,D⟩
 generalize atM c s k=cl at*;refine yf λb1 w1 a7 a2 ad X=>?_;refine yf λb2 w2 a8 H ae Y=>?_;have A2:Blk w2 b1 [nI c.many,lv] zr:=X.ext H;have B2:Blk w2 b2 [vp,vw,vls,nI s.code] zw:=Y;have R:=a2.trans H;refine l5Top_spec (S.ext R) d.1 G (hv.ext R).ints (bounds E) ?_;refine oZ ?_;refine qu (λn u w'=> ∃b f v,n=lastPl s.put b/\u=[v,nI (Jj s.put (yp s.why) b).length]/\Ext w w'/\Blk w' b1 [nI c.many,lv] zr/\Blk w' b2 [vp,vw,vls,nI s.code] zw/\
   OwnI zh w' v b/\(∀x,v.ownBlock=some x->v3.ownBlock=some x\/w.heap.size<=x)/\Fls s.put b/\Srt b/\lastPl s.put b<=f/\learnM many c s f b=learnM many c s s.put.length cl) _
  ⟨cl,s.put.length,v3,rfl,rfl,R,A2,B2,hv.ext R,λx A=> .inl A,E,Z,lastPl_le,rfl⟩ ?_
 rintro _ _ _ w3 C ⟨b,f,v,rfl,rfl,V,A3,B3,t,a3,hF,hS,ab,r⟩ hC;refine oZ ?_;refine zb (λa=>?_) (λa=>?_)
 .have D:2<=(Jj s.put (yp s.why) b).length:=oM;obtain⟨g1,g2,g3,g4,g5,g6⟩:=learnS_cons e o hF hS D;obtain⟨k1,k2,k3,k4⟩:=learnS_ok e o hF hS D;obtain⟨f,rfl⟩:∃f',f=f'+1:=⟨f-1,oM⟩;rw[learnM,q0 oM] at r;rw[B3.ldAgg zS];refine l5Last_spec (M.ext V) m d.1 t.ints (λl S=>by have:=(bounds hF l S).1;omega) λw4 g=>?_;have E4:=V.trans g;refine zd λw5 h _=>?_;have B:=E4.trans h;have T:=(A3.ext g).ext h;have Q:=(B3.ext g).ext h;obtain⟨q,hq⟩:∃q,lastPl s.put b=q+1:=⟨lastPl s.put b-1,oM⟩;have j:qM many c s b=Qd many b (atM c s (s.why.getD q 0).toNat) (s.put.getD q 0).natAbs:=by unfold qM;rw[hq,G2]
  rw[hq,G2] at g1 g3 g4 g5 g6;rw[hq,show((q+1:Nat):Int)-1=(q:Int) from by omega];have J:=hp.ext B;have O:=hw.ext B;simp(disch:=exact oS) only[push_cast,T.ldAgg zE,Q.ldAgg zS,T.ld0,Q.ld0,Q.ld1,Q1,J.iaddr,J.load,O.iaddr,O.load];obtain⟨y,hy⟩:∃y:Nat,s.why.getD q 0=y:=⟨(s.why.getD q 0).toNat,oM⟩;rw[hy] at g4 g5 g6 j⊢;rw[gu] at g5 g6 j;refine l5At_spec (a0.ext B) (M.ext B) oM oM λw6 v6 i a5=>?_;have W:=B.trans i;have U:=T.ext i;have B6:=Q.ext i;have L:=hp.ext W;simp(disch:=exact oS) only[push_cast,U.ld0,B6.ld0,Q1,gn,L.iaddr,L.load];have a9:=m.2 _ (getD_meS g1);refine l4Abs_spec oM ?_;simp(disch:=exact oS) only[push_cast,U.ld0,Q1,gn];rw[o];have N:=(((t.ext g).ext h).ext i);refine l5Join_spec N.ints a5 d.1 g5 g6 λw7 v7 p z a4=>?_;have E7:=W.trans p;rw[<-j] at z;refine l5Top_spec (S.ext E7) d.1 G z.ints (bounds k1) ?_;refine oZ ?_;refine hC (lastPl s.put (qM many c s b)) _ _ k3 ⟨_,f,v7,rfl,rfl,E7,U.ext p,B6.ext p,z,λx A=> .inr ?_,k1,k2,oM,r⟩;have:=a4 x A;have:=W.size;omega
 .have I:learnM many c s s.put.length cl=b:=by
   rw[<-r];cases f with
   |zero=>rfl
   |succ f=>rw[learnM,K3 oM]
  rw[I] at hK;exact hK w3 v V t a3
theorem l4Max_spec {a b:Nat} (c:K (nI (max a b:Nat)) w):vcall zQ0 #[nI a,nI b] w K:=by
 refine zf {} Tryz.func228 ?_;refine oZ ?_;refine zb (λh=>?_) (λh=>?_)
 .rwa[show max a b=a from by omega] at c
 .rwa[show max a b=b from by omega] at c
theorem l5Below_spec {v v':Value} {put cl:oI} {ds:List Bool} (o:Ints F w v (levs many put ds)) (m:many<=700) (e:Ints Fr w v' cl) (s:∀l,l∈cl->l.natAbs<=many/\placeOf put l.natAbs≠0)
  (q:K (nI (Zu put ds cl:Nat)) w):vcall Vp #[v,v',nI (kX put ds cl:Nat)] w K:=by
 refine zf {loops:=[(3,[7,8])]} Tryz.func199 ?_;have hlen:cl.length<=9223372036854775807:=by obtain⟨_,_,_,p,x,_⟩:=e.shape;simp at p;omega
 have t:=Ur many put ds;generalize r:kX put ds cl=T;refine vloop_up cl.length (λi u w'=>w'=w/\u=[nI (maxL (((cl.take i).filter λk=>decide (lvM put ds k<T)).map (lvM put ds)):Nat),nI i]) ⟨rfl,rfl⟩ ?_;rintro i _ _ _ C hi ⟨rfl,rfl⟩ n;simp only[push_cast,e.len];refine zb (λa=>?_) (λa=>?_)
 .have f:i<cl.length:=oM;simp(disch:=exact oS) only[push_cast,e.iaddr,e.load];obtain⟨g,h⟩:=s _ (getD_meS f);refine l4Abs_spec oM ?_;simp(disch:=exact oS) only[push_cast,o.iaddr,o.load];rw[levs_get g,levV_lit h];have c:(cl.take (i+1)).filter (λk=>decide (lvM put ds k<T))=(cl.take i).filter (λk=>decide (lvM put ds k<T))++(if lvM put ds (cl.getD i 0)<T then[cl.getD i 0] else[]):=by
   rw[M.take_snoc' (d:=0) f,PX,z0b,List.filter_nil];simp only[gd]
  have j:∀A:oI,maxL ((A++[cl.getD i 0]).map (lvM put ds))=max (maxL (A.map (lvM put ds))) (lvM put ds (cl.getD i 0)):=λA=>by
   rw[gD];exact maxL_snoc _ _ _ rfl
  refine zb (λb=>?_) (λb=>?_)
  .refine l4Max_spec ?_;rw[inc64 oM];rw[K3 oM] at c;refine n f _ _ ⟨rfl,?_⟩;rw[c,j]
  .rw[inc64 oM];rw[q0 oM,gM] at c;exact n f _ _ ⟨rfl,by rw[c]⟩
 .rw[gH oM,<-r];exact q
end
section
variable {w:World} {K:oK} {F F':oA} {many:Nat} {c:Cnf} {s:Sat}
def SpR (Z:oA) (w:World) (v:Value) (s:Sat):Prop:=
 ∃vp vw vl,v= .agg #[vp,vw,vl,nI s.code]/\OwnI zh w vp s.put/\OwnI zh w vw s.why/\(∀b,vp.ownBlock=some b->Z b/\vw.ownBlock≠some b)/\(∀b,vw.ownBlock=some b->Z b)/\
  Lists (λb=>Z b/\vp.ownBlock≠some b/\vw.ownBlock≠some b) w vl s.learned
section
variable {Z Z':oA} {v:Value} {w':World}
theorem SpR.ext (h:SpR Z w v s) (he:Ext w w'):SpR Z w' v s:=by
 obtain⟨vp,vw,vl,e,a,b,c,d,f⟩:=h;exact⟨vp,vw,vl,e,a.ext he,b.ext he,c,d,f.ext he⟩
theorem SpR.same {S:oA} (h:SpR Z w v s) (hw:Same S w w') (c:∀b,Z b->b<w.heap.size->¬S b):SpR Z w' v s:=by
 obtain⟨vp,vw,vl,e,d,f,g,i,j⟩:=h;exact⟨vp,vw,vl,e,d.same hw λb a=>c b (g b a).1 (d.lt a),f.same hw λb a=>c b (i b a) (f.lt a),g,i,j.same hw λb a=>c b a.1⟩
theorem SpR.weaken (h:SpR Z w v s) (c:∀b,Z b->b<w.heap.size->Z' b):SpR Z' w v s:=by
 obtain⟨vp,vw,vl,e,d,f,g,i,j⟩:=h;exact⟨vp,vw,vl,e,d,f,λb a=>⟨c b (g b a).1 (d.lt a),(g b a).2⟩,λb a=>c b (i b a) (f.lt a),j.weaken λb a k=>⟨c b a.1 k,a.2⟩⟩
theorem SpR.below (h:SpR Z w v s):SpR (λb=>Z b/\b<w.heap.size) w v s:=h.weaken λ_ a c=>⟨a,c⟩
theorem SpR.sat (h:SpR Z w v s):SatR Z w v s:=by
 obtain⟨vp,vw,vl,e,c,d,f,g,i⟩:=h;exact⟨vp,vw,vl,e,c.ints.weaken λb a _=>(f b a).1,d.ints.weaken λb a _=>g b a,i.weaken λb a _=>a.1⟩
theorem SpR.empty:SpR Z w (.agg #[oN,oN,oN,nI 0]) emptyS:=
 ⟨_,_,_,rfl,OwnI.nil,OwnI.nil,λb a=>(by cases a),λb a=>(by cases a),k00⟩
end
theorem copy_ints {v:Value} {xs:oI} {b:Nat} {t:TypeId} (f:Blk w b [] zW) (a:Ints F w v xs) (c:xs.length*8<=140737488355328)
  (g:∀v' w',OwnI zh w' v' xs->Same (· =b) w w'->(∀x,v'.ownBlock=some x->x=b\/w.heap.size<=x)->K v' w'):vbi .append [zh,zh] t [.slice (some ⟨b,0,none⟩) 0 0,v] w K:=by
 have d:OwnI zh w (.slice (some ⟨b,0,none⟩) 0 0) []:=Blk.own1 (t:=zh) (cs:=[]) (by rw[qz];exact f) (gQ _) rfl rfl oM;refine d.app (ys:=xs) xw a (by simp only[pK];omega) (by simpa using c) λv' w2 i hs h=>g v' w2 i (hs.mono λx _ a=>?_) λx a=>?_
 .exact(gh a).symm
 .exact(h x a).imp (λe=>(gh e).symm) id
theorem l5Back_spec {vp vw vl:Value} {L:Nat} (hp:OwnI zh w vp s.put) (hw:OwnI zh w vw s.why) (ac:vl.oneCell'=true) (hlen:s.put.length=s.why.length) (ag:s.put.length<=700) (hL:L<=700) (Y:∀k,k<s.why.length->s.why.getD k 0= -1\/0<=s.why.getD k 0)
  (hK:∀w' F y,Ext w w'->OwnI zh w' F (s.put.take (backN (yp s.why) L s.put.length))->OwnI zh w' y (s.why.take (backN (yp s.why) L s.put.length))->(∀b,F.ownBlock=some b->w.heap.size<=b/\y.ownBlock≠some b)->(∀b,y.ownBlock=some b->w.heap.size<=b)->K (.agg #[F,y,vl,nI s.code]) w'):
  vcall WW #[.agg #[vp,vw,vl,nI s.code],nI L] w K:=by
 refine zf {loops:=[(3,[5,6])],cuts:=[(16392,[5])]} Tryz.func198 ?_;refine yf λb2 w2 ak a8 av a2=>?_;refine xG qY λb4 A al O aw a3=>?_;have B4:Blk A b2 [vp,vw,vl,nI s.code] zw:=a2.ext O;have R4:Blk A b4 [oN,oN,oN,nI 0] zw:=a3;have E4:=a8.trans O;have R:=hp.ext E4;have ad:=hw.ext E4;have aa:=R.ints;have Z:=ad.ints;have aq:=jN s.why;refine zq (λu w'=>w'=A/\u=[nI (backN (yp s.why) L s.put.length:Nat)]) ?_ ?_
 .intro J hJ;have done:∀n,n<=s.put.length->(∀i,i<n->(lvl (yp s.why) i:Int)<=L)->(n=s.put.length\/(L:Int)<(lvl (yp s.why) n:Int))->J [nI (n:Nat)] A:=λn h1 h2 h3=>hJ _ _ ⟨rfl,by rw[backN_eq h1 h2 h3]⟩;refine vloop_up s.put.length (λn u w'=>w'=A/\u=[nI n,nI (((yp s.why).take n).count true:Nat)]/\∀i,i<n->(lvl (yp s.why) i:Int)<=L) ⟨rfl,rfl,oM⟩ ?_;rintro n _ _ A C hn ⟨rfl,rfl,f⟩ hC;simp only[push_cast,B4.ld0,aa.len];refine zb (λa=>?_) (λa=>done n hn f (.inl oM));have a9:n<s.put.length:=oM;have a7:=Ye (ds:=yp s.why) (i:=n) oM;have B:=lvl_succ (ds:=yp s.why) (i:=n) oM;have ap:((yp s.why).take n).count true<=700:=gO Pa (by simp;omega);have N:=JQ (why:=s.why) (k:=n) oM;have au:=Y n oM;simp(disch:=exact oS) only[push_cast,B4.ld1,Z.iaddr,Z.load];have j:∀k:Nat,k=lvl (yp s.why) n->¬(L:Int)<k->(n<s.put.length->∀(u':List Value) (w'':World),(w''=A/\u'=[nI (n+1:Nat),nI (((yp s.why).take (n+1)).count true:Nat)]/\∀i,i<n+1->(lvl (yp s.why) i:Int)<=L)->C u' w'')->C [nI (n+1:Nat),nI k] A:=λk Q ar h=>by
   refine h a9 _ _ ⟨rfl,by rw[a7,<-B,Q],λi hi=>?_⟩;by_cases e:i=n
   .subst e;omega
   .exact f i oM
  refine zb (λb=>?_) (λb=>?_)
  .have Q:((yp s.why).take n).count true+1=lvl (yp s.why) n:=by rw[B,N,gm oM];rfl
   rw[inc64 oM];refine zb (λb2=>done n hn f (.inr oM)) (λb2=>?_);rw[inc64 oM];exact j _ Q b2 hC
  .have Q:((yp s.why).take n).count true=lvl (yp s.why) n:=by rw[B,N,gj oM];rfl
   refine zb (λb2=>done n hn f (.inr oM)) (λb2=>?_);rw[inc64 oM];exact j _ Q b2 hC
 rintro _ _ _ ⟨rfl,rfl⟩;have ao:=backN_le (yp s.why) L s.put.length;generalize backN (yp s.why) L s.put.length=n at*;have aj:=E4.size;refine y7 x7 yO λb5 w5 am o ax a4=>?_;have B5:=B4.ext o;have S:=R.ext o;simp(disch:=exact oS) only[push_cast,B5.ld0,S.cut];have ab:=S.taken (n:=n) oM;refine copy_ints a4 ab.ints (by simp;omega) λv6 w6 t D p=>?_;have B6:=B5.same D oM;refine B6.st t.ints.cells1 t.ints.one qU rfl λw7 T az a5=>?_;have B7:Blk w7 b2 [v6,vw,vl,nI s.code] zw:=a5;have ay:=D.size;have E:=t.same T λx c e=>by rcases p x c with d|d<;>omega
 have z:Same (λx=>x=b5\/x=b2) w5 w7:=(D.mono λx _ e=> .inl e).trans (T.mono λx _ e=> .inr e);have M:Ext w w7:=Ext.then (E4.trans o) z λx c=>oM
 refine y7 x7 yO λb8 w8 an g b0 a6=>?_;have B8:=B7.ext g;have X:=hw.ext (M.trans g);simp(disch:=exact oS) only[push_cast,B8.ld1,X.cut];have ae:=X.taken (n:=n) oM;refine copy_ints a6 ae.ints (by simp;omega) λv9 w9 v r q=>?_;have B9:=B8.same r oM;have V:=(E.ext g).same r λx c e=>by have:=E.lt c;omega
 refine B9.st v.ints.cells1 v.ints.one qU rfl λw10 l ah G=>?_;have a0:Blk w10 b2 [v6,v9,vl,nI s.code] zw:=G;have b1:=r.size;have U:=V.same l λx c e=>by rcases p x c with d|d<;>omega
 have W:=v.same l λx c e=>by rcases q x c with d|d<;>omega
 have hS:Same (λx=>x=b8\/x=b2) w8 w10:=(r.mono λx _ e=> .inl e).trans (l.mono λx _ e=> .inr e);have I:Ext w w10:=Ext.then (M.trans g) hS λx c=>oM
 have a1:Blk w10 b4 [oN,oN,oN,nI 0] zw:=((((R4.ext o).same z oM).ext g).same hS oM);rw[a0.ldAgg zS];refine a1.stAgg (cs':=[v6,v9,vl,nI s.code]) rfl zS (λx c=>?_) λaf m ai H=>?_
 .simp only[gk,gB,Gh] at c;rcases c with rfl|rfl|rfl|rfl
  .exact t.ints.one
  .exact v.ints.one
  .exact ac
  .rfl
 rw[H.lv zS];refine hK af v6 v9 (Ext.then I m λx c=>oM) (U.same m λx c e=>?_) (W.same m λx c e=>?_) (λx c=>⟨?_,λe=>?_⟩) (λx c=>?_)
 .rcases p x c with d|d<;>omega
 .rcases q x c with d|d<;>omega
 .rcases p x c with d|d<;>omega
 .have:=E.lt c;rcases q x e with d|d<;>omega
 .rcases q x c with d|d<;>omega
theorem QW {vl:Value} {xss:List (oI)} (h:Lists F w vl xss):vl.oneCell'=true:=by
 obtain⟨vs,_,a,_⟩:=h;exact a.one
theorem l5Clash_spec {vc v v2:Value} {Z:oA} {k:Nat} (hc:CnfR F w vc c) (hs:SpR Z w v s) (d:Ints F' w v2 (atM c s k)) (A:satOk many c s) (Y:c.many=many) (hk:k<c.list.length+s.learned.length) (ac:qX s.put (atM c s k))
  (hK:∀w' v',Ext w w'->SpR (λb=>Z b\/w.heap.size<=b) w' v' (jp many c s (atM c s k))->K v' w'):vcall Vo #[vc,v,v2] w K:=by
 refine zf {} Tryz.func165 ?_;have ax:=hc;have bc:=hs.sat;obtain⟨lv,rfl,cx⟩:=hc;obtain⟨vp,vw,vl,rfl,hp,hw,ay,bz,af⟩:=hs;have D:many<=700/\c.list.length<=2500:=by
  have:=A.cnf;unfold cnfOk at this;simp only[gp,gd] at this;omega
 have ch:=A.few;have ag:=A.mks;have cz:=ag.len;have hlen:=A.len;have az:(yp s.why).length<=700:=by rw[jN];omega
 have a8:∀k,k<s.why.length->s.why.getD k 0= -1\/0<=s.why.getD k 0:=λk hk=>(A.why k hk).imp id λh=>h.1;have bounds:∀{an:oI},Fls s.put an->∀x,x∈an->x.natAbs<=many/\placeOf s.put x.natAbs≠0:=λhF x d=>by
  have h1:=ag.2 _ (hF x d);have h2:=placeOf_ne_zero (hF x d);rw[G5] at h2;exact⟨oM,h2⟩
 have cc:=clauseOk_len (m:=many) (by have:=A.atOk hk;rwa[Y] at this);obtain⟨z1,z2,z3,z4⟩:=Us A Y hk ac;refine yf λb3 w1 ct c0 d0 br=>?_;refine yf λb4 w2 cu b0 d1 bs=>?_;refine xG qY λb6 w3 cv ad d2 bt=>?_;have A3:Blk w3 b3 [nI c.many,lv] zr:=(br.ext b0).ext ad;have B3:Blk w3 b4 [vp,vw,vl,nI s.code] zw:=bs.ext ad;have R3:Blk w3 b6 [oN,oN,oN,nI 0] zw:=bt;have E3:=c0.trans (b0.trans ad);rw[A3.ldAgg zE,B3.ldAgg zS];refine l5Levels_spec (ax.ext E3) (bc.ext E3) Y D.1 ag hlen a8 λw4 vlev O z ah=>?_;have E4:=E3.trans O;refine l5Top_spec z.ints D.1 az (d.ext E4) (bounds (Z8 ac)) ?_;have A4:=A3.ext O;have B4:=B3.ext O;have R4:=R3.ext O;have d3:=O.size;have ones:∀{U V bf:Value} {cd:Int},U.oneCell'=true->V.oneCell'=true->bf.oneCell'=true->∀x,x∈[U,V,bf,nI cd]->x.oneCell'=true:=λh1 h2 h3 x d=>by
  simp only[gk,gB,Gh] at d;rcases d with rfl|rfl|rfl|rfl
  .exact h1
  .exact h2
  .exact h3
  .rfl
 have code:∀(cd:Int),jp many c s (atM c s k)={s with code:=cd}->zF zW (oP b4 3) (nI cd) w4 λ_ bi=>zu zw (oP b4 0) bi λt22 bj=>zF zw (oP b6 0) t22 bj λ_ bk=>vlv zw (oP b6 0) bk λr6 bl=>K r6 bl:=λcd X=>by
  refine B4.st rfl rfl yO rfl λw5 bd c9 bu=>?_;have B5:Blk w5 b4 [vp,vw,vl,nI cd] zw:=bu;rw[B5.ldAgg zS];refine(R4.same bd oM).stAgg (cs':=[vp,vw,vl,nI cd]) rfl zS (ones hp.ints.one hw.ints.one (QW af)) λw6 c4 d4 bv=>?_;rw[bv.lv zS];have W:Ext w w6:=Ext.then E4 ((bd.mono λx _ e=>(.inl e:x=b4\/x=b6)).trans (c4.mono λx _ e=> .inr e)) λx d=>oM;refine hK w6 _ W ?_;rw[X];exact⟨vp,vw,vl,rfl,hp.ext W,hw.ext W,λb hb=>⟨.inl (ay b hb).1,(ay b hb).2⟩,λb hb=> .inl (bz b hb),(af.ext W).weaken λb hb _=>⟨.inl hb.1,hb.2⟩⟩
 refine oZ ?_;refine zb (λa=>?_) (λa=>?_)
 .exact code 2 (by unfold jp;rw[K3 oM])
 obtain⟨es,c1,b5,b1⟩:=af;have b8:=b5.ext E4;simp only[push_cast,B4.ld2,b8.len];refine zb (λa2=>?_) (λa2=>?_)
 .exact code 3 (by unfold jp;rw[q0 oM,K3 oM])
 clear code;have X:jp many c s (atM c s k)={s with put:=s.put.take (backN (yp s.why) (Zu s.put (yp s.why) (learnM many c s s.put.length (atM c s k))) s.put.length),why:=s.why.take (backN (yp s.why) (Zu s.put (yp s.why) (learnM many c s s.put.length (atM c s k))) s.put.length),learned:=s.learned++[learnM many c s s.put.length (atM c s k)]}:=by
  unfold jp;rw[q0 oM,q0 oM]
 rw[X] at hK;clear X;refine zd λw5 J _=>?_;have A5:=A4.ext J;have B5:=B4.ext J;simp only[push_cast,A5.ldAgg zE,B5.ldAgg zS,Q1];refine y7 x7 yO λb7 w7 cw L d5 bw=>?_;have E7:=E4.trans (J.trans L);have A7:=A5.ext L;have B7:=B5.ext L;simp only[push_cast,A7.ldAgg zE,B7.ldAgg zS,Q1,gn];have c9:=J.size;have cq:=L.size;refine copy_ints bw (d.ext E7) oM λv8 w8 c5 M c2=>?_;have A8:=A7.same M oM;have B8:=B7.same M oM;have ab:Ext w w8:=Ext.then E7 M λx d=>by have:=E4.size;omega
 simp only[push_cast,A8.ldAgg zE,B8.ldAgg zS,Q1,gn];have d6:=M.size;have R:=((z.ext J).ext L).same M λx d e=>by have:=z.lt d;omega
 refine l5Learn_spec (ax.ext ab) (bc.ext ab) R.ints c5 A Y hk ac λw9 v9 Q ai c3=>?_;have E9:=ab.trans Q;have d7:=Q.size;have S:∀x,v9.ownBlock=some x->w4.heap.size<=x:=λx d=>by
  rcases c3 x d with e|e
  .rcases c2 x e with e|e<;>omega
  .omega
 generalize cy:learnM many c s s.put.length (atM c s k)=lc at*;refine y7 QC qU λa9 w10 ce n ci ao=>?_;have ak:=(B8.ext Q).ext n;have am:=E9.trans n;have ae:=b5.ext am;simp only[push_cast,ak.ld2];have bq:OwnV zL w10 (.slice (some ⟨a9,0,none⟩) 0 0) []:=Blk.own1 (t:=zL) (cs:=[]) (by rw[UZ];exact ao) (gQ _) rfl rfl oM;have b2:∀u,u∈es->u.oneCell'=true:=λu hu=>by
  obtain⟨i,hi,rfl⟩:=gx hu;have:=(b1 i oM).one;simpa[X0,hi] using this
 refine bq.app (us:=es) Y6 ae b2 (by simp;omega) (by simp;omega) λv11 bg a6 a5 ba=>?_;have f:∀x,v11.ownBlock=some x->w9.heap.size<=x:=λx d=>by
  rcases ba x d with e|e
  .have e:a9=x:=gh e;omega
  .omega
 have r:Same (· =a9) w10 bg:=a5.mono λx _ e=>(gh e).symm;have bm:=ak.same r oM;have c6:=n.size;have cj:=a5.size;have T:=(ai.ext n).same r λx d e=>by have:=ai.lt d;omega
 have au:Ext w bg:=Ext.then am r λx d=>by have:=E9.size;omega
 refine zD QC qU JU rfl T.ints.cells1 λcr d8 cf g ck ap=>?_;rw[Gp] at a6;refine OwnV.app1 (a6.ext g) Y6 ap T.ints.one oM oM λa1 ca C o bb=>?_;have E:∀x,a1.ownBlock=some x->w9.heap.size<=x:=λx d=>by
  rcases bb x d with e|e
  .exact f x e
  .have:=g.size;omega
 have c7:=g.size;have cl:=o.size;have bn:=(bm.ext g).same o λe=>by have:=f _ e;have:=B8.lt;omega
 have av:Ext w ca:=Ext.then (au.trans g) o λx d=>by have:=f x d;have:=E9.size;omega
 have be:=(T.ext g).same o λx d e=>by have:=f x e;have:=ai.lt d;omega
 refine bn.st C.vals.cells1 C.vals.one QA rfl λaj p cm aq=>?_;have bo:Blk aj b4 [vp,vw,a1,nI s.code] zw:=aq;have aw:Ext w aj:=Ext.then av p λx d=>oM
 have G:=C.same p λx d e=>by have:=E x d;have:=B8.lt;omega
 have H:=be.same p λx d e=>by have:=S x d;have:=B4.lt;omega
 have a0:OwnI zh aj vlev (levs many s.put (yp s.why)):=((((R.ext Q).ext n).same r λx d e=>by have:=z.lt d;omega).ext g|>.same o λx d e=>by have:=f x e;have:=z.lt d;omega).same p λx d e=>by have:=ah x d;have:=B3.lt;omega
 refine zd λd9 j _=>?_;have al:=bo.ext j;simp only[push_cast,al.ldAgg zS,Q1];have l:=aw.trans j;have c8:=p.size;have cn:=j.size;rw[<-z3];refine l5Below_spec (a0.ext j).ints D.1 (H.ext j).ints (bounds z1) ?_;simp only[push_cast,al.ldAgg zS,Q1,gn];have bx:Zu s.put (yp s.why) lc<=700:=by
  unfold Zu;rcases je (xs:=(lc.filter λk=>decide (lvM s.put (yp s.why) k<kX s.put (yp s.why) lc)).map (lvM s.put (yp s.why))) with e|e
  .omega
  .obtain⟨q,_,e⟩:=gy.1 e;rw[<-e];exact gO (lvl_le _ _) az
 refine l5Back_spec (s:={s with code:=s.code}) (hp.ext l) (hw.ext l) C.vals.one hlen oM bx a8 λcb U V y a4 a7 I N=>?_;have bp:Blk cb b6 [oN,oN,oN,nI 0] zw:=by
  have h6:=R3.lt;exact(((((((((R4.ext J).ext L).same M oM).ext Q).ext n).same r oM).ext g).same o λe=>by have:=f _ e;omega).same p oM|>.ext j).ext y
 refine bp.stAgg (cs':=[U,V,a1,nI s.code]) rfl zS (ones a4.ints.one a7.ints.one C.vals.one) λbh B cp ar=>?_;rw[ar.lv zS];have a3:Ext w bh:=Ext.then (l.trans y) B λx d=>oM
 have cg:=R3.lt;have co:=y.size;refine hK bh _ a3 ⟨U,V,a1,rfl,a4.same B λx d e=>by have:=(I x d).1;omega,a7.same B λx d e=>by have:=N x d;omega,λx d=>⟨.inr (by have:=(I x d).1;have:=l.size;omega),(I x d).2⟩,λx d=> .inr (by have:=N x d;have:=l.size;omega),es++[v9],by simp[c1],?_,λi hi=>?_⟩
 .have aa:=((G.ext j).ext y).same B λx d e=>by have:=E x d;omega
  refine aa.vals.weaken λx d _=>⟨.inr (by have:=E x d;have:=E9.size;omega),λe=>?_,λe=>?_⟩
  .have:=(I x e).1;have:=G.lt d;omega
  .have:=N x e;have:=G.lt d;omega
 .simp only[gg,gZ] at hi;by_cases b9:i<s.learned.length
  .rw[getD_app_l oM,getD_app_l b9];refine(((b1 i b9).weaken (F':=λx=>(Z x/\vp.ownBlock≠some x/\vw.ownBlock≠some x)/\x<w.heap.size) λx h1 h2=>⟨h1,h2⟩).ext a3).weaken λx d _=>⟨.inl d.1.1,λe=>?_,λe=>?_⟩
   .have:=(I x e).1;have:=l.size;omega
   .have:=N x e;have:=l.size;omega
  .have e1:i=s.learned.length:=oM;have e2:i=es.length:=oM;have g1:(es++[v9]).getD i undef=v9:=by rw[e2];simp
   have g2:(s.learned++[lc]).getD i []=lc:=by rw[e1];simp
   rw[g1,g2];have aa:=((H.ext j).ext y).same B λx d e=>by have:=S x d;omega
   refine aa.ints.weaken λx d _=>⟨.inr (by have:=S x d;have:=E4.size;omega),λe=>?_,λe=>?_⟩
   .have:=(I x e).1;have:=H.lt d;omega
   .have:=N x e;have:=H.lt d;omega
end
section
variable {w:World} {K:oK} {F F':oA} {many:Nat} {c:Cnf} {s:Sat}
theorem l5Do_spec {vc v:Value} {Z:oA} (hc:CnfR F w vc c) (hs:SpR Z w v s) (B:satOk many c s) (a3:c.many=many)
  (hK:∀w' v',Same Z w w'->SpR (λb=>Z b\/w.heap.size<=b) w' v' (goM many c s)->K v' w'):vcall yY0 #[vc,v] w K:=by
 refine zf {loops:=[(13,[9])]} Tryz.func132 ?_;have S:=hc;have bj:=hs.sat;have bk:=hs;obtain⟨lv,rfl,ad⟩:=hc;obtain⟨vp,vw,vl,rfl,hp,hw,p,a4,J⟩:=hs;have L:many<=700/\c.list.length<=2500:=by
  have:=B.cnf;unfold cnfOk at this;simp only[gp,gd] at this;omega
 have bu:=B.few;have M:=B.mks;have c9:=M.len;have hlen:=B.len;have ac:∀cl,cl∈c.list++s.learned->∀l,l∈cl->l≠0/\l.natAbs<=many:=λcl ad l hl=>satOk.bnd B a3 ad hl;refine yf λb2 w1 c2 bf cb ba=>?_;refine yf λb3 w2 c3 ae cc bb=>?_;refine xG qY λb4 w3 c4 a5 ce bc=>?_;have A3:Blk w3 b2 [nI c.many,lv] zr:=(ba.ext ae).ext a5;have B3:Blk w3 b3 [vp,vw,vl,nI s.code] zw:=bb.ext a5;have R3:Blk w3 b4 [oN,oN,oN,nI 0] zw:=bc;have E3:=bf.trans (ae.trans a5);rw[A3.ldAgg zE];simp only[push_cast,B3.ld0];refine l5Vals_spec (S.ext E3) a3 L.1 (hp.ext E3).ints M λw4 v4 G ak c7=>?_;have E4:=E3.trans G;have A4:=A3.ext G;have B4:=B3.ext G;simp only[push_cast,A4.ldAgg zE,B4.ld2];refine l5Find_spec (S.ext E4) (J.ext E4) ak.ints M L.1 oM ac λw5 k u x H hf=>?_;have E5:=E4.trans H;have A5:=A4.ext H;have X:=B4.ext H;have R5:=(R3.ext G).ext H;have bm:=ak.ext H;have l3:=X.lt;have l4:=R5.lt;have cg:=E5.size;have cf:=G.size;refine oZ ?_;have ones:∀{q E ao:Value} {cd:Int},q.oneCell'=true->E.oneCell'=true->ao.oneCell'=true->∀x,x∈[q,E,ao,nI cd]->x.oneCell'=true:=λh1 h2 h3 x a=>by
  simp only[gk,gB,Gh] at a;rcases a with rfl|rfl|rfl|rfl
  .exact h1
  .exact h2
  .exact h3
  .rfl
 have n:goM many c s=(if 0<=k then jp many c s (atM c s k.toNat) else if 0<=u then{s with put:=s.put++[x],why:=s.why++[u]}
  else if s.put.length=many then{s with code:=1} else{s with put:=s.put++[-(ZB many s.put:Int)],why:=s.why++[-1]}):=by
  unfold goM;rw[hf]
 have push:∀(W:World) (l y:Int),Ext w W->Blk W b3 [vp,vw,vl,nI s.code] zw->Blk W b4 [oN,oN,oN,nI 0] zw->w5.heap.size<=W.heap.size->goM many c s={s with put:=s.put++[l],why:=s.why++[y]}->
   vbuildS zh 1 [(0,nI l)] W λt39 aq=>vbi .append [zh,zh] zh [vp,t39] aq λt40 ar=>zF zh (oP b3 0) t40 ar λ_ au=>zu zh (oP b3 1) au λt43 av=>
   vbuildS zh 1 [(0,nI y)] av λt45 aw=>vbi .append [zh,zh] zh [t43,t45] aw λt46 ax=>zF zh (oP b3 1) t46 ax λ_ ay=>zu zw (oP b3 0) ay λt48 az=>
   zF zw (oP b4 0) t48 az λ_ b0=>vlv zw (oP b4 0) b0 λan b1=>K an b1:=by
  intro W l y E6 B6 R6 bq ag;have ci:=E6.size;refine zD x7 yO xt rfl rfl λb7 w7 c5 j br a1=>?_;have r:=E6.trans j;refine(hp.ext r).app1 xw a1 oM oM λq w8 U V A=>?_;have nb:∀x,vp.ownBlock=some x->x<w.heap.size:=λx a=>hp.lt a;have nw:∀x,vw.ownBlock=some x->x<w.heap.size:=λx a=>hw.lt a;have B8:=(B6.ext j).same V λe=>by have:=nb _ e;omega
  refine B8.st U.ints.cells1 U.ints.one qU rfl λw9 D bs a2=>?_;have B9:Blk w9 b3 [q,vw,vl,nI s.code] zw:=a2;have bh:=U.same D λx a e=>by rcases A x a with d|d;(have:=nb _ d;omega);omega
  have bo:=((hw.ext r).same V λx a e=>(p x e).2 a).same D λx a e=>by have:=nw _ a;omega
  simp only[push_cast,B9.ld1];have ch:=V.size;refine zD x7 yO xt rfl rfl λc1 w10 bt t bw a8=>?_;refine(bo.ext t).app1 xw a8 oM oM λE cj Q z g=>?_;have b5:=(B9.ext t).same z λe=>by have:=nw _ e;omega
  have ah:=(bh.ext t).same z λx a e=>by
   rcases A x a with d|d
   .exact(p x d).2 e
   .have:=nw _ e;omega
  refine b5.st Q.ints.cells1 Q.ints.one qU rfl λap N bz a9=>?_;have b8:Blk ap b3 [q,E,vl,nI s.code] zw:=a9;have hS:Same (λx=>vp.ownBlock=some x\/vw.ownBlock=some x\/x=b3) w7 ap:=(V.mono λx _ e=> .inl e).trans ((D.mono λx _ e=> .inr (.inr e)).trans ((Same.of_ext t).trans ((z.mono λx _ e=> .inr (.inl e)).trans (N.mono λx _ e=> .inr (.inr e)))));have b9:=(R6.ext j).same hS (by rintro(e|e|e);exact absurd (nb _ e) oM;exact absurd (nw _ e) oM;omega);have Y:=ah.same N λx a e=>by rcases A x a with d|d;(have:=nb _ d;omega);omega
  have bx:=z.size;have a0:=Q.same N λx a e=>by rcases g x a with d|d;(have:=nw _ d;omega);omega
  rw[b8.ldAgg zS];refine b9.stAgg (cs':=[q,E,vl,nI s.code]) rfl zS (ones Y.ints.one a0.ints.one (QW J)) λa7 O c0 aa=>?_;rw[aa.lv zS];have o:Same (λx=>vp.ownBlock=some x\/vw.ownBlock=some x\/x=b3\/x=b4) w7 a7:=(hS.mono λx _ e=>e.imp id λe=>e.imp id .inl).trans (O.mono λx _ e=> .inr (.inr (.inr e)));have ab:Same (λb=>vp.ownBlock=some b\/vw.ownBlock=some b) w a7:=by
   refine⟨o.os.trans r.os,o.tape.trans r.tape,o.output.trans r.output,gO r.size o.size,λb f hn=>?_⟩;rw[o.block b (by have:=r.size;omega) (by rintro(e|e|e|e);exact hn (.inl e);exact hn (.inr e);omega;omega),r.block b f id]
  have bp:=hS.size;refine hK a7 _ (ab.mono λb _ e=>e.elim (λe=>(p b e).1) (a4 b)) ?_;rw[ag];refine⟨q,E,vl,rfl,Y.same O λx a e=>by rcases A x a with d|d;(have:=nb _ d;omega);omega,a0.same O λx a e=>by rcases g x a with d|d;(have:=nw _ d;omega);omega,λx a=>?_,λx a=>?_,?_⟩
  .rcases A x a with e|e
   .refine⟨.inl (p x e).1,λe2=>?_⟩;rcases g x e2 with e3|e3
    .exact(p x e).2 e3
    .have:=nb _ e;omega
   .refine⟨.inr oM,λe2=>?_⟩;rcases g x e2 with e3|e3
    .have:=nw _ e3;omega
    .have:=U.lt a;omega
  .rcases g x a with e|e
   .exact .inl (a4 x e)
   .exact .inr oM
  .refine(((J.weaken (F':=λb=>(Z b/\vp.ownBlock≠some b/\vw.ownBlock≠some b)/\b<w.heap.size) λb h1 h2=>⟨h1,h2⟩).same ab λb f _ e=>e.elim f.1.2.1 f.1.2.2).weaken λx a _=>⟨.inl a.1.1,λe=>?_,λe=>?_⟩)
   .rcases A x e with d|d
    .exact a.1.2.1 d
    .have:=a.2;omega
   .rcases g x e with d|d
    .exact a.1.2.2 d
    .have:=a.2;omega
 rcases find_cases s.put (c.list++s.learned) with⟨i,u',x',hi,e,be⟩|⟨hn,⟨i,x',hi,e,hu,-⟩|⟨e,-⟩⟩
 .rw[hf,GA,GA] at e;obtain⟨rfl,rfl,rfl⟩:=e;rw[gg] at hi;rw[K3 oM,gu] at n;refine zb (λ_=>?_) (λb=>absurd oM b);refine zd λW I _=>?_;have E6:=E5.trans I;have A6:=A5.ext I;have B6:=X.ext I;simp only[push_cast,A6.ldAgg zE,B6.ldAgg zS,Q1];refine l5At_spec (S.ext E6) (bj.ext E6) hi oM λw7 v7 j bn=>?_;have r:=E6.trans j;have A7:=A6.ext j;have B7:=B6.ext j;simp only[push_cast,A7.ldAgg zE,B7.ldAgg zS,Q1,gn];refine l5Clash_spec (S.ext r) (bk.below.ext r) bn B a3 hi be λw8 v8 af a6=>?_;have R8:=((R5.ext I).ext j).ext af;have E8:=r.trans af;rw[<-n] at a6;obtain⟨p8,y8,l8,rfl,h8⟩:=a6.sat.fields;refine R8.stAgg (cs':=[p8,y8,l8,nI (goM many c s).code]) rfl zS h8 λw9 D bs a2=>?_;rw[a2.lv zS];refine hK w9 _ (Same.of_ext (Ext.then E8 D λx a=>oM)) ((a6.same D λb f _ e=>?_).weaken λb f _=>?_)
  .have:=r.size;have:=R5.lt;have:=I.size;have:=j.size;rcases f with f|f
   .have:=f.2;omega
   .omega
  .rcases f with f|f
   .exact .inl f.1
   .exact .inr (by have:=r.size;omega)
 .rw[hf,GA,GA] at e;obtain⟨rfl,rfl,rfl⟩:=e;rw[q0 oM,K3 oM] at n;refine zb (λb=>absurd b oM) (λ_=>zb (λ_=>?_) (λb=>absurd oM b));simp only[push_cast,X.ld0];exact push w5 _ _ E5 X R5 (gz _) n
 .rw[hf,GA,GA] at e;obtain⟨rfl,rfl,rfl⟩:=e;rw[q0 oM,q0 oM] at n;refine zb (λb=>absurd b oM) (λ_=>zb (λb=>absurd b oM) (λ_=>?_));have bi:=(hp.ext E5).ints;simp only[push_cast,X.ld0,A5.ld0,bi.len];refine zb (λb=>?_) (λb=>?_)
  .rw[K3 oM] at n;refine X.st rfl rfl yO rfl λW ai bq bd=>?_;have B6:Blk W b3 [vp,vw,vl,nI 1] zw:=bd;rw[B6.ldAgg zS];refine(R5.same ai oM).stAgg (cs':=[vp,vw,vl,nI 1]) rfl zS (ones hp.ints.one hw.ints.one (QW J)) λw7 bl br a1=>?_;rw[a1.lv zS];have R:Ext w w7:=Ext.then E5 ((ai.mono λx _ e=>(.inl e:x=b3\/x=b4)).trans (bl.mono λx _ e=> .inr e)) λx a=>oM;refine hK w7 _ (Same.of_ext R) ?_;rw[n];exact⟨vp,vw,vl,rfl,hp.ext R,hw.ext R,λb f=>⟨.inl (p b f).1,(p b f).2⟩,λb f=> .inl (a4 b f),(J.ext R).weaken λb f _=>⟨.inl f.1,f.2⟩⟩
  .rw[q0 oM] at n;obtain⟨f1,f2,f3,f4⟩:=free_spec M oM;have al:=bm.ints;have ca:=signs_len many s.put;refine vloop_up (ZB many s.put-1) (λi u w'=>u=[nI (i+1:Nat)]/\w'=w5) ⟨rfl,rfl⟩ ?_;rintro i _ _ w5 C hi ⟨rfl,rfl⟩ hC;have aj:=sgn_pos M (m:=((i+1:Nat):Int)) oM;rw[pT] at aj;simp(disch:=exact oS) only[sl0,al.iaddr,gu,al.load];rw[signs_get oM,aj];have am:Zv0 s.put ((i+1:Nat):Int)=0↔placeOf s.put (i+1)=0:=by
    unfold Zv0;rw[pT];by_cases hm:((i+1:Nat):Int)∈s.put
    .rw[K3 hm];have:=placeOf_ne_zero hm;rw[pT] at this;exact⟨λh=>oM,λh=>absurd h this⟩
    .rw[q0 hm];by_cases T:placeOf s.put (i+1)=0
     .rw[K3 T];simp[T]
     .rw[q0 T];simp[T]
   simp only[xi0];refine zb (λb6=>?_) (λb6=>?_)
   .have bg:i<ZB many s.put-1:=by
     refine GN λc6=>b6 (am.2 ?_);have:i+1=ZB many s.put:=oM;rw[this];exact f3
    simp only[XI];rw[inc64 oM];exact hC bg _ _ ⟨rfl,rfl⟩
   .have bv:i+1=ZB many s.put:=by
     refine GN λc8=>f4 (i+1) oM oM (am.1 (by simpa using b6))
    have e1:IntKind.i64.wrap (0-((i+1:Nat):Int))= -(ZB many s.put:Int):=by rw[zl oM oM];omega
    simp(disch:=(simp only[push_cast])) only[UV,UU,yo,Gd,X.ld0,ZL0,e1];exact push w5 _ _ E5 X R5 (gz _) n
theorem l5Run_spec {vc:Value} {n:Nat} (hc:CnfR F w vc c) (Z:cnfOk c=true) (D:c.many=many) (hn:n<=4000)
  (hK:∀w' v',Ext w w'->SpR (λb=>w.heap.size<=b) w' v' (runM many c n emptyS)->K v' w'):vcall zO0 #[vc,nI n] w K:=by
 refine zf {loops:=[(3,[6])]} Tryz.func107 ?_;have Y:=hc.below;obtain⟨lv,rfl,a4⟩:=hc;refine yf λb2 w1 a1 h a5 T=>?_;refine xG qY λb4 w2 a2 E a6 U=>?_;refine Yh qn0 (us:=[]) rfl rfl ?_;refine xG qY λM w3 a3 o a7 V=>?_;have B3:Blk w3 M [oN,oN,oN,nI 0] zw:=V;have A3:Blk w3 b2 [nI c.many,lv] zr:=(T.ext E).ext o;have R3:Blk w3 b4 [oN,oN,oN,nI 0] zw:=U.ext o;refine B3.stAgg (cs':=[oN,oN,oN,nI 0]) rfl zS (λx z=>by simp only[gk,gB,Gh] at z;rcases z with rfl|rfl|rfl|rfl<;>rfl) λH q a8 B=>?_;have E4:Ext w H:=Ext.then (h.trans (E.trans o)) q λx z=>by have:=h.size;omega
 have A4:=A3.same q oM;have R:=R3.same q oM;have aa:=E4.size;have fin:∀(f:World) (p y l:Value),Ext w f->H.heap.size<=f.heap.size->Blk f b4 [oN,oN,oN,nI 0] zw->Blk f M [p,y,l,nI (runM many c n emptyS).code] zw->SpR (λb=>H.heap.size<=b) f (.agg #[p,y,l,nI (runM many c n emptyS).code]) (runM many c n emptyS)->
   zu zw (oP M 0) f λt21 I=>zF zw (oP b4 0) t21 I λ_ J=>vlv zw (oP b4 0) J λr4 L=>K r4 L:=by
  intro f p y l v t A k m;rw[k.ldAgg zS];obtain⟨O,Q,N,e,S⟩:=m.sat.fields;obtain⟨rfl,rfl,rfl⟩:p=O/\y=Q/\l=N:=(by simpa using e);refine A.stAgg (cs':=[p,y,l,nI (runM many c n emptyS).code]) rfl zS S λw6 d a0 W=>?_;rw[W.lv zS];exact hK w6 _ (Ext.then v d λx z=>by have:=h.size;omega) ((m.same d λb g _ e=>by have:=R.lt;omega).weaken λb g _=>oM)
 refine vloop_up n (λi u w'=> ∃p y l,u=[nI i]/\Ext w w'/\H.heap.size<=w'.heap.size/\Blk w' b2 [nI c.many,lv] zr/\Blk w' b4 [oN,oN,oN,nI 0] zw/\Blk w' M [p,y,l,nI (runM many c i emptyS).code] zw/\SpR (λb=>H.heap.size<=b) w' (.agg #[p,y,l,nI (runM many c i emptyS).code]) (runM many c i emptyS))
  ⟨_,_,_,rfl,E4,gz _,A4,R,B,SpR.empty⟩ ?_
 rintro i _ _ f C hi ⟨p,y,l,rfl,v,t,A5,A,k,m⟩ hC;refine oZ ?_;refine zb (λa=>?_) (λa=>?_)
 .simp only[push_cast,k.ld3];refine zb (λb=>?_) (λb=>?_)
  .rw[A5.ldAgg zE,k.ldAgg zS];have G:=run_ok (n:=i) D (empty_ok (many:=many) Z);refine l5Do_spec (Y.ext v) m G D λw6 v6 d s=>?_;have r:goM many c (runM many c i emptyS)=runM many c (i+1) emptyS:=by rw[run_succ];unfold stepM;rw[K3 b]
   rw[r] at s;have l2:=A4.lt;have l4:=R.lt;have l5:=B.lt;have a0:=d.size;have A6:=A5.same d oM;have R6:=A.same d oM;have B6:=k.same d oM;obtain⟨O,Q,N,rfl,S⟩:=s.sat.fields;refine B6.stAgg (cs':=[O,Q,N,nI (runM many c (i+1) emptyS).code]) rfl zS S λw7 j a9 X=>?_;rw[inc64 oM];have E6:Ext w w6:=Ext.then v d λx z=>oM;refine hC oM _ _ ⟨O,Q,N,rfl,Ext.then E6 j λx z=>by have:=h.size;omega,oM,A6.same j oM,R6.same j oM,X,(s.same j λb g _ e=>?_).weaken λb g _=>?_⟩
   .rcases g with g|g<;>omega
   .rcases g with g|g<;>omega
  .have e:runM many c n emptyS=runM many c i emptyS:=by
    rw[show n=i+(n-i) from by omega,run_add,run_stop b]
   rw[<-e] at k m;exact fin f p y l v t A k m
 .have:n=i:=oM;subst this;exact fin f p y l v t A k m
end
end Go.Proofs.YtfjlkobhagjdaaaGreatDoor
namespace Go.Proofs.YtfjlkobhagjdaaaGreatDoor
open Go Go.Vc Go.Proofs
section
variable {w:World} {K:oK} {F F' D G:oA} {dv tv iv lv:Value} {ds:List M.Dcl} {ts:List M.Tm} {ins:List Bool} {c:M.Cnf}
theorem l9Folds_spec (E:DclsR F w dv ds) (J:TmsR G w tv ts) (s:M.declOk ds=true) (m:∀t,t∈ts->M.sortM ds t≠ -1) (hs:ts.length<=2000000)
  (B:∀w' lv,Ext w w'->TmsR (λ_=>True) w' lv (ts.map (M.foldT ds))->K lv w'):vcall Vj #[dv,tv] w K:=by
 refine zf {loops:=[(3,[5,6])]} Tryz.func84 ?_;refine vbuildS_row (xs:=[]) (us:=[]) (k:=5) yl yx zo rfl (by simp) dC λb1 w1 D p L o=>?_;have z:LstH (λ_=>False) w1 (.slice (some ⟨b1,0,none⟩) 0 0) []:=⟨[],Blk.ownk (css:=[]) (by rw[qo];exact o) (by simp) rfl dC,rfl,λi hi=>absurd hi (PI _)⟩;refine vloop_up ts.length (λi u w'=> ∃lv H,u=[lv,nI i]/\Ext w w'/\LstH H w' lv ((ts.take i).map (M.foldT ds))/\∀x,lv.ownBlock=some x->w.heap.size<=x/\¬H x)
  ⟨_,_,rfl,p,z,λx c=>⟨by have e:b1=x:=gh c;omega,id⟩⟩ ?_
 rintro i _ _ w2 C hi ⟨lv,H,rfl,d,g,hO⟩ A;have l:=(J.weaken (F':=λx=>G x/\x<w.heap.size) λx a b=>⟨a,b⟩).ext d;simp only[push_cast,l.len];refine zb (λa=>?_) (λa=>?_)
 .have f:i<ts.length:=oM;simp(disch:=exact oS) only[push_cast,l.iaddr];refine l.load zc f λx c=>?_;refine l3Fold_spec _ (E.ext d) s c (m _ (M.getD_mem f _)) λw3 rv j I=>?_;have z2:=d.size;have z3:=j.size;have llt:∀x,lv.ownBlock=some x->x<w2.heap.size:=λx c=>g.lt c;refine LstH.push (g.ext j) (λx c=>⟨(hO x c).2,λe=>?_⟩) I (by rw[V0,gi];omega) λN y v r n=>?_
  .have:=llt x c;have:=(hO x c).1;rcases e with e|e<;>omega
  try simp only[push_cast]
  rw[inc64' oM];rw[show(ts.take i).map (M.foldT ds)++[M.foldT ds (ts.getD i default)]=(ts.take (i+1)).map (M.foldT ds) by rw[<-XM f,gD];rfl] at n;refine A f _ _ ⟨y,_,rfl,Ext.then (d.trans j) v λx c=>(hO x c).1,n,λx c=>?_⟩;rcases r x c with e|e
  .refine⟨(hO x e).1,λh=>?_⟩;have:=llt x e;have:=(hO x e).1;rcases h.1 with h|h
   .exact(hO x e).2 h
   .rcases h with h|h<;>omega
  .exact⟨oM,λh=>by have:=h.2;omega⟩
 .have q:i=ts.length:=oM;subst q;rw[gF] at g;exact B w2 lv d (g.tms.weaken λ_ _ _=>trivial)
theorem spec_BlastEnv_spec (T:ze0 ds) (H:DclsR F w dv ds) (hi:Bools F' w iv ins) (d:M.declOk ds=true) (hl:ins.length=M.nIn ds)
  (X:∀w' r,Ext w w'->OwnI zh w' r (M.envB ds ins)->(∀b,r.ownBlock=some b->w.heap.size<=b)->K r w'):vcall Ko #[dv,iv] w K:=by
 refine zf {loops:=[(6,[5,6,7]),(10,[6,8,9])],cuts:=[(12292,[])]} Tryz.func109 ?_;obtain⟨a2,a3⟩:=M.nIn_eq d;refine spec_nil λv1 w1 R g A=>?_;refine zq (λu w'=>u=[]/\Ext w1 w') (λC E=>?_) ?_
 .refine spec_DeclOk_spec (H.ext g) T λw2 f=>?_;rw[d];simp only[push_cast,GZ,((hi.ext g).ext f).len];refine sbits8_spec (k:=ds.length) d (gz _) (by rw[gF];exact(H.ext g).ext f) λw3 J=>?_;rw[M.bitT_all];refine oZ ?_;refine zb (λh=>absurd oM h) (λ_=>E _ _ ⟨rfl,f.trans J⟩)
 rintro _ _ w2 ⟨rfl,f⟩;have h4:=(M.decl_iff.1 d).1;have I:=M.dpos d;have L:=M.envB_len ds ins;refine vloop_up ds.length (λi u w'=> ∃r,u=[r,nI (Js ds i),nI i]/\Ext w w'/\OwnI zh w' r ((M.envB ds ins).take i)/\∀b,r.ownBlock=some b->w.heap.size<=b) ⟨v1,rfl,g.trans f,R.ext f,A⟩ ?_;rintro i _ _ w3 C a0 ⟨r,rfl,s,p,o⟩ E;have n:=H.ext s;have y:=hi.ext s;simp only[push_cast,n.len];refine zb (λa=>?_) (λa=>?_)
 .have l:i<ds.length:=oM;have U:=M.dcl_wide d l;have q:=off_succ d l;have W:=off_le d (i:=i+1) oM;have het:=envB_take (ins:=ins) I l;obtain⟨wd,m⟩:∃wd:Nat,(ds.getD i (M.nada,0)).2=wd:=⟨_,(PK oM).symm⟩;rw[m] at U q het;rw[gu] at q het;generalize v:(ins.drop (Js ds i)).take wd=bs at het;have t:bs.length=wd:=by rw[<-v,gi,pd,hl];omega
  refine vloop_up wd (λj u w'=>u=[nI (Js ds i+j:Nat),nI (M.msbN (bs.take j)),nI j]/\w'=w3) ⟨rfl,rfl⟩ ?_;rintro j _ _ _ C1 hj ⟨rfl,rfl⟩ G;have a1:=M.msb_lt (bs.take j);have a4:2^(bs.take j).length<=2^4:=gS oM (by rw[gi];omega);simp(disch:=exact oS) only[push_cast,n.iaddr,gu,n.load1,m];refine zb (λc=>?_) (λc=>?_)
  .have z:j<wd:=oM;have Z:ins.getD (Js ds i+j) false=bs.getD j false:=by
    rw[<-v,M.take_getD z,X0,X0,Pl]
   simp(disch:=exact oS) only[push_cast,y.iaddr,gu,y.load,zl];refine Xx ?_;have Y:0<=M.b2i (bs.getD j false)/\M.b2i (bs.getD j false)<=1:=by unfold M.b2i;split<;>omega
   have D:=msb_snoc (bs.take j) (bs.getD j false);rw[<-M.take_add (by omega:j<bs.length) false] at D;rw[show((Js ds i:Int)+(j:Int)).toNat=Js ds i+j by omega,Z];simp(disch:=exact oS) only[push_cast,zl];refine G z _ _ ⟨?_,rfl⟩;rw[D,Int.mul_comm 2];simp[Int.add_assoc]
  .have O:j=wd:=oM;subst O;rw[<-t,gF,t];refine push_int p (by rw[gi];omega) λw6 r6 S B Q=>?_;rw[<-het,<-M.take_add oM 0] at B;have z3:=s.size;rw[inc64' oM];refine E l _ _ ⟨r6,by rw[q,Int.natCast_add (Js ds i)],Ext.then s S λx V=>o x V,B,λx V=>?_⟩;rcases Q x V with e|e
   .exact o x e
   .omega
 .have N:i=ds.length:=oM;subst N;rw[<-L,gF] at p;exact X w3 r s p o
theorem ZK0 {put:oI} {i n:Nat} (h:i<n):decide (M.sgnV put (2+i)=1)=(M.insV (M.wayM put) n).getD i false:=by
 rw[M.insV_get h];unfold M.sgnV M.wayM;rw[Nat.add_comm 2 i];by_cases c:((i+2:Nat):Int)∈put
 .rw[K3 c,gm c];rfl
 .rw[q0 c,gj c];split<;>rfl
theorem l9Search_spec (aa:ze0 ds) (hd:DclsR F w dv ds) (I:M.declOk ds=true) (hc:CnfR G w (.agg #[nI c.many,lv]) c) (f:M.cnfOk c=true) (hn:1+M.nIn ds<=c.many.toNat)
  (hK:∀w' ev,Ext w w'->OwnI zh w' ev (M.searchM 4000 ds c).1->(∀x,ev.ownBlock=some x->w.heap.size<=x)->K (.tuple #[ev,nI (M.searchM 4000 ds c).2]) w'):
  vcall Kh #[dv,.agg #[nI c.many,lv]] w K:=by
 refine zf {loops:=[(7,[8,9])]} Tryz.func85 ?_;obtain⟨ah,ai⟩:=M.nIn_eq I;obtain⟨many,hm⟩:∃many:Nat,c.many=many:=⟨c.many.toNat,oM⟩;have a4:c.many.toNat=many:=oM
 have B:many<=700:=by
  have:=f;unfold M.cnfOk at this;simp only[gp,gd] at this;omega
 refine yf λb1 w1 ac z al a0=>?_;have A1:Blk w1 b1 [nI c.many,lv] zr:=a0;rw[A1.ldAgg zE];refine l5Run_spec (many:=many) (n:=4000) (hc.ext z) f hm (gz _) λw2 v2 A v=>?_;have z1:=z.size;have z2:=A.size;have T:=(M.run_ok (n:=4000) hm (M.empty_ok (many:=many) f)).mks;refine xG qY λb4 w3 ad a5 am a1=>?_;have d:M.searchM 4000 ds c=if(M.runM many c 4000 M.emptyS).code=1 then(M.envB ds (M.insV (M.wayM (M.runM many c 4000 M.emptyS).put) (M.nIn ds)),1) else if(M.runM many c 4000 M.emptyS).code=2 then([],2) else([],3):=by rw[<-a4];rfl
 generalize M.searchM 4000 ds c=sr at d hK;generalize M.runM many c 4000 M.emptyS=s at v d T;obtain⟨p,y,l,rfl,h8⟩:=v.sat.fields;obtain⟨p',y',l',e',hp,_,aj,_,_⟩:=v;obtain⟨rfl,rfl,rfl⟩:p=p'/\y=y'/\l=l':=by simpa using e'
 have R3:Blk w3 b4 [oN,oN,oN,nI 0] zw:=a1;refine R3.stAgg (cs':=[p,y,l,nI s.code]) rfl zS h8 λw4 a9 an Q=>?_;have q:Ext w2 w4:=Ext.then a5 a9 λx J=>oM
 have N:=(z.trans A).trans q;have A4:=A1.ext (A.trans q);simp only[push_cast,Q.ld3];refine zb (λa=>?_) (λa=>?_)
 .rw[K3 a] at d;subst d;rw[A4.ldAgg zE];simp only[push_cast,Q.ld0];refine l5Vals_spec (hc.ext N) hm B (hp.ext q).ints T λL v5 g ab o=>?_;have Z:=N.trans g;have z5:=Z.size;refine y7 qR0 xe0 λb6 w6 ae a6 ao a3=>?_;have a8:OwnB qA w6 (.slice (some ⟨b6,0,none⟩) 0 0) []:=Blk.own1 (t:=qA) (cs:=[]) (by rw[UY];exact a3) (gQ _) rfl rfl oM;refine vloop_up (M.nIn ds) (λi u w'=> ∃r,u=[r,nI i]/\Ext L w'/\OwnB qA w' r ((M.insV (M.wayM s.put) (M.nIn ds)).take i)/\∀b,r.ownBlock=some b->L.heap.size<=b) ⟨_,rfl,a6,a8,λb R=>by have e:b6=b:=gh R;omega⟩ ?_;rintro i _ _ w7 C hi ⟨r,rfl,e7,E,V⟩ hC;refine sbits8_spec (k:=ds.length) I (gz _) (by rw[gF];exact hd.ext (Z.trans e7)) λw8 m=>?_;rw[M.bitT_all];refine oZ ?_;have O:=e7.trans m;have hlen:=M.insV_len (M.wayM s.put) (M.nIn ds);refine zb (λa=>?_) (λa=>?_)
  .have S:i<M.nIn ds:=oM;have Y:=(ab.ext O).ints;have ak:=M.signs_len many s.put;simp(disch:=exact oS) only[push_cast,zl,Y.iaddr,Y.load];rw[show((2:Int)+(i:Int)).toNat=2+i by omega,M.signs_get oM,ZK0 S];refine one_bool λw9 b9 af j H=>?_;refine OwnV.app (us:=[.bool ((M.insV (M.wayM s.put) (M.nIn ds)).getD i false)]) ((E.ext m).ext j) jk0 H.bools (by simp[Value.oneCell']) (by simp only[V0,gZ,gi];omega) (by simp only[V0,gZ,gi];omega) λv10 w10 W X U=>?_;have z8:=m.size;have z9:=j.size;have z7:=e7.size;refine hC S _ _ ⟨v10,rfl,Ext.then (O.trans j) X λb R=>V b R,?_,λb R=>?_⟩
   .rw[M.take_add oM false];unfold OwnB;rw[gD];exact W
   .rcases U b R with h|h
    .exact V b h
    .omega
  .have ag:i=M.nIn ds:=oM;rw[gH oM] at E;refine spec_BlastEnv_spec aa (hd.ext (Z.trans O)) (E.ext m).bools I hlen λw9 r9 j H a7=>?_;have z8:=O.size;exact hK w9 r9 (Z.trans (O.trans j)) H λx J=>by have:=a7 x J;omega
 .rw[q0 a] at d;have z4:=N.size;refine zb (λa2=>?_) (λa2=>?_)
  .rw[K3 a2] at d;subst d;exact spec_nil λv5 L D g o=>hK L v5 (N.trans g) D λx J=>by have:=o x J;omega
  .rw[q0 a2] at d;subst d;exact spec_nil λv5 L D g o=>hK L v5 (N.trans g) D λx J=>by have:=o x J;omega
theorem l9Solve_spec (u:ze0 ds) (c:YV ds ts=true) (j:DclsR F w dv ds) (v:TmsR G w tv ts)
  (f:∀w' ev,Ext w w'->OwnI zh w' ev (xu ds ts []).1->(∀x,ev.ownBlock=some x->w.heap.size<=x)->K (.tuple #[ev,nI (xu ds ts []).2]) w'):vcall Vi #[dv,tv] w K:=by
 refine zf {} Tryz.func55 ?_;obtain⟨L,a2,a3⟩:=all8_iff.1 c;refine l9Folds_spec j v a2 (λt v=>by rw[(YW (a3 t v)).1];decide) oM λw1 lv a o=>?_;refine l8Cnf_spec (Qs c) (j.ext a) o λw2 cv ls k g=>?_;have B:=a.trans k;refine oZ ?_;refine cnf_new g λN b4 D l d i=>?_;have b:=B.trans l;have z4:=b.size;refine zn (λh=>?_) (λh=>?_)
 .have E:=K2 (nots:=[]) c (by simpa using h);refine spec_nil λv5 I r m p=>?_;have:=f I v5 (b.trans m);rw[E] at this;exact this r λx y=>by have:=p x y;omega
 .have C:(cnfE ds (ts.map (M.foldT ds))).2=0:=(by simpa using h);obtain⟨z,A,H⟩:=solveR_run (nots:=[]) c C (λe he=>by cases he) (by simp);rw[xB0] at z A;rw[d.ldAgg zE];refine l9Search_spec u (j.ext b) a2 i.cnf A H λJ ev n s q=>?_;refine oZ ?_;rw[z] at f;exact f J ev (b.trans n) s λx y=>by have:=q x y;omega
theorem spec_Solve_spec (b:ze0 ds) (l:DclsR F w dv ds) (m:TmsR G w tv ts)
  (k:∀w' ev,Ext w w'->OwnI zh w' ev (xu ds ts []).1->(∀x,ev.ownBlock=some x->w.heap.size<=x)->K (.tuple #[ev,nI (xu ds ts []).2]) w'):vcall y30 #[dv,tv] w K:=by
 refine zf {} Tryz.func34 ?_;refine l8All_spec b l m λw1 a=>?_;refine oZ ?_;have q:=a.size;refine zn (λh=>?_) (λh=>?_)
 .have n:=Yk (ds:=ds) (ts:=ts) (nots:=[]) (by simpa using h);refine spec_nil λv5 o g c e=>?_;have:=k o v5 (a.trans c);rw[n] at this;exact this g λx j=>by have:=e x j;omega
 .refine l9Solve_spec b (by simpa using h) (l.ext a) (m.ext a) λp ev d i f=>?_;refine oZ ?_;exact k p ev (a.trans d) i λx j=>by have:=f x j;omega
theorem qo0 {at_ an am ar ab:Addr} (e:DclsR F w dv ds) (f:TmsR G w tv ts) (hs:ts.length<=2000000) (er:Er w at_ an am ar ab)
  (d:∀w' ev,Ext w w'->OwnI zh w' ev (xu ds ts []).1->(∀x,ev.ownBlock=some x->w.heap.size<=x)->K (.tuple #[ev,nI (xu ds ts []).2]) w'):vcall y90 #[dv,tv] w K:=by
 refine zf {} Tryz.func29 ?_;refine solved_spec e f hs er λg ev a c b=>?_;refine oZ ?_;exact d g ev a c b
end
section
variable {ds:List M.Dcl} {ts:List M.Tm} {t:M.Tm} {e:oI}
theorem XB (h:YV ds ts=true):M.declOk ds=true/\M.sorted0 ds ts/\ts.length<=8:=
 ⟨(all8_iff.1 h).2.1,λt a=>(YW ((all8_iff.1 h).2.2 t a)).1,(all8_iff.1 h).1⟩
theorem yU0:∀e:oI,e∈([]:List (oI))->M.envOk ds e=true:=λe he=>by cases he
theorem few_nots (h:ts.length<=8):ts.length+([]:List (oI)).length<=90:=by simp;omega
theorem K4 (h:YV ds ts=true):xu ds ts []=M.solveM 4000 ds ts []:=K3 h
theorem yK0 (h:YV ds ts=true):(xu ds ts []).2=1\/(xu ds ts []).2=2\/(xu ds ts []).2=3:=by
 obtain⟨a,b,c⟩:=XB h;rw[K4 h];exact M.solve_code a b yU0 (few_nots c)
theorem K5 (h:(xu ds ts []).2≠4):YV ds ts=true:=gU λc=>h (by rw[Yk c])
theorem sol_iff:M.Sol ds ts [] e↔M.envOk ds e=true/\M.allT ds e ts:=by simp[M.Sol]
theorem solveR_yes (h:(xu ds ts []).2=1):YV ds ts=true/\M.envOk ds (xu ds ts []).1=true/\M.allT ds (xu ds ts []).1 ts/\∀e,M.envOk ds e=true->M.allT ds e ts->M.rankE ds (xu ds ts []).1<=M.rankE ds e:=by
 have d:=K5 (ds:=ds) (ts:=ts) oM;obtain⟨a,b,c⟩:=XB d;rw[K4 d] at*;obtain⟨⟨p1,p2,_⟩,i⟩:=M.solve_yes a b yU0 (few_nots c) h;exact⟨d,p1,p2,λe f g=>i e (sol_iff.2 ⟨f,g⟩)⟩
theorem solveR_no (h:(xu ds ts []).2=2):YV ds ts=true/\∀e,M.envOk ds e=true->¬M.allT ds e ts:=by
 have d:=K5 (ds:=ds) (ts:=ts) oM;obtain⟨a,b,c⟩:=XB d;rw[K4 d] at h;exact⟨d,λe f g=>(M.solve_no a b yU0 (few_nots c) h).2 e (sol_iff.2 ⟨f,g⟩)⟩
end
section
variable {ds:List M.Dcl} {ts:List M.Tm} {t u:M.Tm} {env e:oI} {w:Int} {f n:Nat}
def isT (t:M.Tm) (w:Int) (n:Nat):M.Tm:= .mk 15 0 0 M.nada [t,.mk 20 w n M.nada []]
def qB (ds:List M.Dcl) (ts:List M.Tm) (t:M.Tm) (w:Int) (n:Nat):Int:=(xu ds (ts++[isT t w n]) []).2
def leastG (ds:List M.Dcl) (ts:List M.Tm) (t:M.Tm) (w:Int):Nat->Nat->Int×Int
 |0,_=>(0,2)
 |f+1,n=>if qB ds ts t w n=1 then(n,1) else if qB ds ts t w n=2 then leastG ds ts t w f (n+1) else(0,qB ds ts t w n)
def yQ (ds:List M.Dcl) (ts:List M.Tm) (t:M.Tm):Int×Int:=if M.tsort ds t<1 then(0,4) else leastG ds ts t (M.tsort ds t) (2^(M.tsort ds t).toNat) 0
theorem ZD0 (he:M.envOk ds env=true) (h:M.sortM ds (isT t w n)≠ -1):M.evalM ds env (isT t w n)=1↔M.evalM ds env t=n:=by
 obtain⟨e,v0,v1,b⟩:=M.eval_cmp he h (GX _) (show(15:Int)<=17 by decide);have hs:=M.sort_two (M.env_ok he).1 (M.sort_parts h).1 e;have a:=h;rw[hs] at a;have c:=((M.both_good a).2 (show¬((15:Int)=26\/(15:Int)=27) by decide)).2.2.2 (show(15:Int)≠14 by decide);have k0:M.kid (isT t w n) 0=t:=rfl;have d:M.kid (isT t w n) 1= .mk 20 w n M.nada []:=rfl;have f:M.evalM ds env (.mk 20 w n M.nada [])=n:=M.eval_leaf (.inl rfl);rw[k0] at v0;rw[d] at v1;rw[k0,d] at b c;rw[b];have op:(isT t w n).op=15:=rfl;rw[op,f] at*;unfold M.vecCmp;rw[K3 ⟨v0,v1,c,dC,dC⟩];unfold M.cmpM M.b2i;simp
theorem least_parts (h:YV ds (ts++[isT t w n])=true):YV ds ts=true/\M.sortM ds (isT t w n)=0:=by
 obtain⟨a,b,c⟩:=all8_iff.1 h;exact⟨all8_iff.2 ⟨by simp at a;omega,b,λu hu=>c u (gr.2 (.inl hu))⟩,(YW (c _ (by simp))).1⟩
theorem jj0 (h:qB ds ts t w n=1):YV ds ts=true/\∃e,M.envOk ds e=true/\M.allT ds e ts/\M.evalM ds e t=n:=by
 obtain⟨c,a,b,_⟩:=solveR_yes h;obtain⟨p,q⟩:=least_parts c;obtain⟨x,y⟩:=M.allT_app.1 b;exact⟨p,_,a,x,(ZD0 a (by rw[q];decide)).1 (M.allT_one.1 y)⟩
theorem KJ (h:qB ds ts t w n=2):YV ds ts=true/\∀e,M.envOk ds e=true->M.allT ds e ts->M.evalM ds e t≠n:=by
 obtain⟨b,a⟩:=solveR_no h;obtain⟨p,q⟩:=least_parts b;exact⟨p,λe he d c=>a e he (M.allT_app.2 ⟨d,M.allT_one.2 ((ZD0 he (by rw[q];decide)).2 c)⟩)⟩
theorem Wj:qB ds ts t w n=1\/qB ds ts t w n=2\/qB ds ts t w n=3\/qB ds ts t w n=4:=by
 by_cases h:YV ds (ts++[isT t w n])=true
 .rcases yK0 h with e|e|e
  .exact .inl e
  .exact .inr (.inl e)
  .exact .inr (.inr (.inl e))
 .exact .inr (.inr (.inr (by unfold qB;rw[Yk h])))
theorem leastG_says:∀(f n:Nat),(∀j,j<n->qB ds ts t w j=2)->
  ((leastG ds ts t w f n).2=1/\∃k:Nat,(leastG ds ts t w f n).1=k/\qB ds ts t w k=1/\∀j,j<k->qB ds ts t w j=2)\/
  (leastG ds ts t w f n=(0,2)/\∀j,j<n+f->qB ds ts t w j=2)\/leastG ds ts t w f n=(0,3)\/leastG ds ts t w f n=(0,4)
 |0,n,h=> .inr (.inl ⟨rfl,h⟩)
 |f+1,n,h=>by
  unfold leastG;rcases Wj (ds:=ds) (ts:=ts) (t:=t) (w:=w) (n:=n) with e|e|e|e
  .rw[K3 e];exact .inl ⟨rfl,n,rfl,e,h⟩
  .rw[q0 oM,K3 e];have:=leastG_says f (n+1) λj a=>if c:j<n then h j c else by rw[show j=n by omega];exact e
   rwa[show n+1+f=n+(f+1) by omega] at this
  .rw[q0 oM,q0 oM,e];exact .inr (.inr (.inl rfl))
  .rw[q0 oM,q0 oM,e];exact .inr (.inr (.inr rfl))
theorem leastR_says:((yQ ds ts t).2=1/\YV ds ts=true/\(∃e,M.envOk ds e=true/\M.allT ds e ts/\M.evalM ds e t=(yQ ds ts t).1)/\∀e,M.envOk ds e=true->M.allT ds e ts->(yQ ds ts t).1<=M.evalM ds e t)\/
  (yQ ds ts t=(0,2)/\YV ds ts=true/\∀e,M.envOk ds e=true->¬M.allT ds e ts)\/yQ ds ts t=(0,3)\/yQ ds ts t=(0,4):=by
 unfold yQ;split
 .exact .inr (.inr (.inr rfl))
 .next hw=>
  have g:∀e,M.envOk ds e=true->0<=M.evalM ds e t/\M.evalM ds e t<2^(M.tsort ds t).toNat:=λe he=>by
   have v:=(M.env_ok he).1;have i:M.sortM ds t=M.tsort ds t:=by
    unfold M.tsort at hw⊢;split
    .rfl
    .next c=>rw[q0 c] at hw;omega
   have:=M.vok_iff.1 (M.inS_pos (M.eval_in he t oM) oM);rw[i] at this;omega
  rcases leastG_says (ds:=ds) (ts:=ts) (t:=t) (w:=M.tsort ds t) (2^(M.tsort ds t).toNat) 0 (λj m=>absurd m oM) with⟨a,k,b,c,d⟩|⟨a,b⟩|a|a
  .obtain⟨p,e,o,q,r⟩:=jj0 c;refine .inl ⟨a,p,⟨e,o,q,by rw[r,b]⟩,λe f h=>?_⟩;rw[b];refine gU λn=>?_;have l:=(g e f).1;exact(KJ (d (M.evalM ds e t).toNat oM)).2 e f h oM
  .have x:0<2^(M.tsort ds t).toNat:=z0i _;refine .inr (.inl ⟨a,(KJ (b 0 oM)).1,λe f h=>?_⟩);obtain⟨l,u⟩:=g e f;have s:((2^(M.tsort ds t).toNat:Nat):Int)=2^(M.tsort ds t).toNat:=(by simp);exact(KJ (b (M.evalM ds e t).toNat oM)).2 e f h oM
  .exact .inr (.inr (.inl a))
  .exact .inr (.inr (.inr a))
end
section
variable {w:World} {K:oK} {D F G H:oA} {dv tv v ev:Value} {ds:List M.Dcl} {ts:List M.Tm} {t:M.Tm} {env:oI} {xs:List Nat}
theorem kz0 (he:M.envOk ds env=true) (h:M.tsort ds t=0):M.tok ds t env=true/\M.teval ds t env=M.evalM ds env t:=by
 obtain⟨a,b,_⟩:=YW h;have:=Zu0 he (by rw[a];decide) b;exact⟨this,by unfold M.teval;rw[K3 this]⟩
instance (ds:List M.Dcl) (e:oI) (ts:List M.Tm):Decidable (M.allT ds e ts):=by unfold M.allT;infer_instance
theorem kM0:Ints F w (oN) []:=(OwnI.ints (xs:=[]) (show OwnI zh w (oN) [] from Own.nil 0 1 zh w)).weaken λ_ h=>by cases h
theorem zu0 (h:M.envOk ds env=true):M.rankE ds env<Y4 ds:=by
 have c:=(M.env_ok h).1;obtain⟨a,b⟩:=M.nIn_eq c;have:=M.msb_lt (M.insM ds env);rw[M.rank_env h];unfold Y4;rw[K3 c,<-a,gu];rw[M.insM_n h] at this
 exact_mod_cast this
theorem wpTrueB_spec (o:DclsR F w dv ds) (p:TmsR G w tv ts) (he:Ints H w ev env) (hs:ts.length<=1000) (r:∀t,t∈ts->M.tsort ds t=0) (g:M.envOk ds env=true)
  (j:∀w',Ext w w'->K (.bool (decide (M.allT ds env ts))) w'):vcall Ue #[dv,tv,ev] w K:=by
 refine zf {loops:=[(2,[7])]} Tryz.func49 ?_;refine vloop_up ts.length (λi u w'=>u=[nI i]/\Ext w w'/\M.allT ds env (ts.take i)) ⟨rfl,Same.refl _ _,by simp[M.allT]⟩ ?_;rintro i _ _ w1 C hi ⟨rfl,b,k⟩ n;have e:=p.ext b;simp only[push_cast,e.len];refine zb (λa=>?_) (λa=>?_)
 .have d:i<ts.length:=oM;simp(disch:=exact oS) only[push_cast,e.iaddr,gu];refine e.load zc d λx q=>?_;refine Qt (o.ext b) q (he.ext b) λw2 f=>?_;have hm:=M.getD_mem d default;obtain⟨l,m⟩:=kz0 g (r _ hm);rw[l,m];simp only[push_cast,GZ];refine zb (λh=>?_) (λh=>?_)
  .have:=j w2 (b.trans f);rwa[gj (λc:M.allT ds env ts=>h (c _ hm))] at this
  .rw[inc64' oM];refine n d _ _ ⟨rfl,b.trans f,?_⟩;rw[<-XM d];exact M.allT_app.2 ⟨k,M.allT_one.2 (gU h)⟩
 .have:=j w1 b;rwa[gm (by rwa[gH oM] at k)] at this
def X00 (ds:List M.Dcl) (ts:List M.Tm) (k:Int) (env:oI) (j:Int):Prop:=
 (k<=j/\M.envOk ds env=true/\M.rankE ds env=j/\M.allT ds env ts/\∀e,M.envOk ds e=true->M.allT ds e ts->k<=M.rankE ds e->j<=M.rankE ds e)\/
 (j= -1/\env=[]/\∀e,M.envOk ds e=true->M.allT ds e ts->M.rankE ds e<k)
theorem wpFirst_spec {k:Int} (r:DclsR F w dv ds) (E:TmsR G w tv ts) (hs:ts.length<=1000) (H:∀t,t∈ts->M.tsort ds t=0) (p:M.declOk ds=true) (J:0<=k)
  (A:∀w' ev env j,Ext w w'->Ints (λ_=>True) w' ev env->X00 ds ts k env j->K (.tuple #[ev,nI j]) w'):vcall Vy #[dv,tv,nI k] w K:=by
 refine zf {loops:=[(3,[9])]} Tryz.func19 ?_;refine EnvMany_spec r λw1 s=>?_;have hm:=manyE_le ds;have y:Y4 ds=2^(M.bits ds).toNat:=by unfold Y4;rw[K3 p]
 refine qu (λn u w'=> ∃j:Int,u=[nI j]/\k<=j/\n=(Y4 ds-j).toNat/\Ext w w'/\∀e,M.envOk ds e=true->M.allT ds e ts->k<=M.rankE ds e->j<=M.rankE ds e) _
  ⟨k,rfl,GX _,rfl,s,λe _ _ h=>h⟩ ?_
 rintro n _ _ w2 C ⟨j,rfl,x,rfl,g,z⟩ D;refine oZ ?_;refine zb (λa=>?_) (λa=>?_)
 .refine EnvAll_spec (r.ext g) p oM oM λw3 ev env v o _ b B=>?_;refine oZ ?_;have f:=g.trans v;refine wpTrueB_spec (r.ext f) (E.ext f) o.ints hs H b λI m=>?_;have l:=f.trans m;refine zb (λc=>?_) (λc=>?_)
  .exact A I ev env j l ((o.ints.ext m).weaken λ_ _ _=>trivial) (.inl ⟨x,b,B,c,λe d i q=>z e d i q⟩)
  .rw[zl oM oM];refine D (Y4 ds-(j+1)).toNat _ _ oM ⟨j+1,rfl,oM,rfl,l,λe d i q=>?_⟩
   .have:=z e d i q;have:M.rankE ds e≠j:=λh=>c (by rw[M.rank_inj b d (by rw[B,h])];exact i);omega
 .refine A w2 _ [] (-1) g kM0 (.inr ⟨rfl,rfl,λe d i=>?_⟩);have:=zu0 d;have:=z e d i;omega
end
section
variable {ds:List M.Dcl} {env:oI}
theorem rank_nat (h:M.envOk ds env=true):0<=M.rankE ds env:=by rw[M.rank_env h];omega
end
section
variable {ds:List M.Dcl} {ts:List M.Tm} {t:M.Tm} {env e:oI} {k j b:Int}
def k20 (ds:List M.Dcl) (ts:List M.Tm) (t:M.Tm) (k b:Int):Prop:=
 (b= -1/\∀e,M.envOk ds e=true->M.allT ds e ts->¬M.rankE ds e<k)\/
 ((∃e,M.envOk ds e=true/\M.allT ds e ts/\M.evalM ds e t=b)/\∀e,M.envOk ds e=true->M.allT ds e ts->M.rankE ds e<k->b<=M.evalM ds e t)
theorem best_zero:k20 ds ts t 0 (-1):= .inl ⟨rfl,λe he _=>by have:=rank_nat he;omega⟩
theorem best_step (n:k20 ds ts t k b) (m:∀e,M.envOk ds e=true->0<=M.evalM ds e t) (r:k<=j) (he:M.envOk ds env=true) (s:M.rankE ds env=j) (h:M.allT ds env ts)
  (p:∀e,M.envOk ds e=true->M.allT ds e ts->k<=M.rankE ds e->j<=M.rankE ds e):k20 ds ts t (j+1) (if b<0\/M.evalM ds env t<b then M.evalM ds env t else b):=by
 have only:∀e,M.envOk ds e=true->M.allT ds e ts->M.rankE ds e<j+1->M.rankE ds e<k\/e=env:=λe a f g=>by
  by_cases c:M.rankE ds e<k
  .exact .inl c
  .have:=p e a f oM;exact .inr (M.rank_inj a he oM)
 refine .inr ?_;rcases n with⟨rfl,q⟩|⟨⟨l,g1,g2,g3⟩,i⟩
 .rw[K3 (.inl dC)];refine⟨⟨env,he,h,rfl⟩,λe a f g=>?_⟩;rcases only e a f g with c|rfl
  .exact absurd c (q e a f)
  .exact GX _
 .have o:0<=b:=by rw[<-g3];exact m _ g1
  split
  .next c=>
   refine⟨⟨env,he,h,rfl⟩,λe a f g=>?_⟩;rcases only e a f g with d|rfl
   .have:=i e a f d;omega
   .exact GX _
  .next c=>
   refine⟨⟨l,g1,g2,g3⟩,λe a f g=>?_⟩;rcases only e a f g with d|rfl
   .exact i e a f d
   .omega
theorem best_end (c:k20 ds ts t k b) (j:∀e,M.envOk ds e=true->M.allT ds e ts->M.rankE ds e<k) (d:(yQ ds ts t).2=1\/(yQ ds ts t).2=2):
  ((yQ ds ts t).2=2/\b<0/\(yQ ds ts t).1=0)\/((yQ ds ts t).2=1/\b=(yQ ds ts t).1):=by
 rcases leastR_says (ds:=ds) (ts:=ts) (t:=t) with⟨a,_,⟨e,f,g,p⟩,m⟩|⟨a,_,q⟩|a|a
 .refine .inr ⟨a,?_⟩;rcases c with⟨_,c⟩|⟨⟨i,g1,g2,g3⟩,l⟩
  .exact absurd (j e f g) (c e f g)
  .have n:=l e f g (j e f g);have o:=m i g1 g2;omega
 .refine .inl ⟨by rw[a],?_,by rw[a]⟩;rcases c with⟨rfl,_⟩|⟨⟨i,g1,g2,_⟩,_⟩
  .decide
  .exact absurd g2 (q i g1)
 .rw[a] at d;rcases d with h|h<;>cases h
 .rw[a] at d;rcases d with h|h<;>cases h
theorem least_right (b:(yQ ds ts t).2=1\/(yQ ds ts t).2=2):YV ds ts=true/\1<=M.tsort ds t:=by
 refine⟨?_,?_⟩
 .rcases leastR_says (ds:=ds) (ts:=ts) (t:=t) with⟨_,h,_⟩|⟨_,h,_⟩|a|a
  .exact h
  .exact h
  .rw[a] at b;rcases b with h|h<;>cases h
  .rw[a] at b;rcases b with h|h<;>cases h
 .refine gU λc=>?_;unfold yQ at b;rw[K3 oM] at b;rcases b with h|h<;>cases h
theorem tok_one (he:M.envOk ds env=true) (h:1<=M.tsort ds t):M.tok ds t env=true/\M.teval ds t env=M.evalM ds env t/\0<=M.evalM ds env t:=by
 have a:M.fits t=true/\M.sortM ds t=M.tsort ds t:=by
  unfold M.tsort at h⊢;split
  .next c=>exact⟨c.1,rfl⟩
  .next c=>rw[q0 c] at h;omega
 have:=Zu0 he oM a.1;exact⟨this,by unfold M.teval;rw[K3 this],(M.vok_iff.1 (M.inS_pos (M.eval_in he t oM) oM)).2.2.1⟩
end
section
variable {w:World} {K:oK} {D F F' G:oA} {tv uv:Value} {ts:List M.Tm} {t:M.Tm}
theorem Clone_Term (d:TmsR F w tv ts) (v:ts.length<=2000000) (n:∀w' v',Ext w w'->LstH (λx=>F x/\x<w.heap.size) w' v' ts->(∀x,v'.ownBlock=some x->w.heap.size<=x)->K v' w'):
  vcall qx #[tv] w K:=by
 refine zf {} Tryz.func69 ?_;obtain⟨css,j,k,hi⟩:=d;obtain⟨a,c,rfl,A,u,g⟩:=j.shape;rw[Yi ZI];refine zn (λp=>?_) (λp=>?_)
 .cases a with
  |some a=>cases p
  |none=>
   have m:css=[]:=gU λh=>by
    obtain⟨b,o,r,_⟩:=g h;cases r
   subst m;have:ts=[]:=pP.1 k.symm;subst this;exact n w _ (Same.refl _ _) LstH.nil λx d=>by cases d
 .refine y7 yl yx λb w1 z he B t=>?_;have q:LstH (λ_=>False) w1 (.slice (some ⟨b,0,none⟩) 0 0) []:=⟨[],Blk.ownk (css:=[]) (by rw[qo];exact t) (by simp) rfl dC,rfl,λi hi=>absurd hi (PI _)⟩;have f:∀x,(Value.slice (some ⟨b,0,none⟩) 0 0).ownBlock=some x->w.heap.size<=x:=λx d=>by have e:b=x:=gh d;omega
  refine LstH.app (H2:=λx=>F x/\x<w.heap.size) (us:=ts) q (λx d=>⟨id,λe=>by have:=f x d;omega⟩) (j.ext he) k (λi h=>((hi i h).weaken λx d k=>⟨d,k⟩).ext he) (by simp;omega) λw2 v' hw l s=>?_;have y:=he.size;refine n w2 v' (Ext.then he hw f) (s.weaken λx d _=>(d.1.resolve_left id)) λx d=>?_;rcases l x d with h|h
  .exact f x h
  .omega
theorem push_blk {n b:Nat} {cs:List Value} {e:TypeId} (h:LstH (λx=>F x/\x<n) w tv ts) (d:∀x,tv.ownBlock=some x->n<=x) (j:Blk w b cs e) (g:TmR (λx=>G x/\x<n) w cs t) (hs:ts.length<=2000000)
  (k:∀w' r,Same (λx=>n<=x) w w'->TmsR (λ_=>True) w' r (ts++[t])->K r w'):vbi .append [ze,ze] ze [tv,.slice (some ⟨b,0,none⟩) 1 1] w K:=by
 refine LstH.app (H2:=λx=>G x/\x<n) (us:=[t]) h (λx a=>⟨λe=>by have:=d x a;omega,λe=>by have:=d x a;omega⟩) (j.sl1k (zG g)) rfl (λi hi=>?_) (by simp;omega) λl v5 f _ c=>k l v5 (f.mono λx _ a=>d x a) (c.tms.weaken λ_ _ _=>trivial);have:i=0:=by simpa using hi
 subst this;exact g
theorem with_spec (I:TmsR F w tv ts) (hu:TermR G w uv t) (hs:ts.length<=2000000) (z:∀w' r,Ext w w'->TmsR (λ_=>True) w' r (ts++[t])->K r w'):vcall x20 #[tv,uv] w K:=by
 refine zf {} Tryz.func38 ?_;obtain⟨cs,rfl,g⟩:=hu.cells;have l:=zG g;refine zm λb w1 N p J m=>?_;refine zd λw2 i _=>?_;have e:=p.trans i;have ld:∀{w':World} (_:Ext w2 w') (K:oK),zu za (oP b 0) w' K=K (.agg ⟨cs⟩) w':=λh K=>(m.ext (i.trans h)).ldAgg (by rw[l];exact zc);have Q:=e.size;have j:=I.ext e;have f:∀{w':World},Ext w2 w'->TmR (λx=>G x/\x<w2.heap.size) w' cs t:=λh=>((g.weaken (F':=λx=>G x/\x<w2.heap.size) λx k O=>⟨k,oM⟩).ext e).ext h;rw[ld (Same.refl _ _)];refine⟨rfl,?_,?_,trivial⟩
 .refine Clone_Term j hs λw3 v3 a C q=>?_;have v:=a.size;rw[ld a];refine⟨⟨rfl,rfl⟩,?_,trivial⟩;refine xE yl yx zo rfl l dC λb4 M H c L o=>?_;refine⟨?_,trivial⟩;have B:=c.size;exact push_blk (C.ext c) q o (f ((a.trans c))) hs λy r d u=>z y r (Ext.then (e.trans (a.trans c)) d λx k=>oM) u
 .refine xE yl yx zo rfl l dC λb3 w3 E a v n=>?_;refine⟨?_,trivial⟩;have A:=a.size;refine Clone_Term (j.ext a) hs λM v4 c D s=>?_;refine⟨?_,trivial⟩;exact push_blk D s (n.ext c) ((f (a.trans c)).weaken λx k _=>⟨k.1,oM⟩) hs λy r d u=>z y r (Ext.then (e.trans (a.trans c)) d λx k=>oM) u
theorem app3 {w2:World} {b:Nat} {cs:List Value} {R:oK} (N:Blk w2 b cs za) (U:TmsR F w2 tv ts) (B:TmR G w2 cs t) (hs:ts.length<=2000000)
  (hR:∀w' r,Ext w2 w'->TmsR (λ_=>True) w' r (ts++[t])->R r w'):
  zu za (oP b 0) w2 λt8 X=>X=w2/\
  (vbuildS ze 0 [] w2 λt5 o=>(zu za (oP b 0) o λv x=>v=t8/\x=o)/\
   (vbi .append [ze,ze] ze [t5,tv] o λt7 y=>(zu za (oP b 0) y λv x=>v=t8/\x=y)/\
    (vbuildS ze 1 [(0,t8)] y λt9 Y=>
     (vbi .append [ze,ze] ze [t7,t9] Y λt10 Z=>R t10 Z)/\True)/\True)/\
   (vbuildS ze 1 [(0,t8)] o λt9 a0=>
    (vbi .append [ze,ze] ze [t5,tv] a0 λt7 a1=>
     (vbi .append [ze,ze] ze [t7,t9] a1 λt10 D=>R t10 D)/\True)/\True)/\True)/\
  (vbuildS ze 1 [(0,t8)] w2 λt9 E=>
   (vbuildS ze 0 [] E λt5 H=>
    (vbi .append [ze,ze] ze [t5,tv] H λt7 I=>
     (vbi .append [ze,ze] ze [t7,t9] I λt10 J=>R t10 J)/\True)/\True)/\True)/\True:=by
 have z:=zG B;have ld:∀{w':World} (_:Ext w2 w') (K:oK),zu za (oP b 0) w' K=K (.agg ⟨cs⟩) w':=λh K=>(N.ext h).ldAgg (by rw[z];exact zc);have s:∀{w':World} {S:oA},Same S w2 w'->(∀x,S x->w2.heap.size<=x)->TmR (λx=>G x/\x<w2.heap.size) w' cs t:=λh hS=>(B.weaken (F':=λx=>G x/\x<w2.heap.size) λx c C=>⟨c,C⟩).same h λx c _ e=>by have:=hS x e;omega
 have fin:∀{w' w'':World} {r:Value},Ext w2 w'->Same (λx=>w2.heap.size<=x) w' w''->TmsR (λ_=>True) w'' r (ts++[t])->R r w'':=λh h2 u=>hR _ _ (Ext.then h h2 λx c=>c) u;have cp:∀{w3 n:World} {b3:Nat} {K:oK},Ext w2 w3->b3=w3.heap.size->Ext w3 n->Blk n b3 [] za->(∀w' v,Ext w3 w'->Same (λx=>x=b3) n w'->LstH (λx=>F x/\x<w2.heap.size) w' v ts->(∀x,v.ownBlock=some x->w3.heap.size<=x)->K v w')->
   vbi .append [ze,ze] ze [.slice (some ⟨b3,0,none⟩) 0 0,tv] n K:=λ{w3 n b3 K} e3 l M N hk=>by
  have h0:LstH (λ_=>False) n (.slice (some ⟨b3,0,none⟩) 0 0) []:=⟨[],Blk.ownk (css:=[]) (by rw[qo];exact N) (by simp) rfl dC,rfl,λi hi=>absurd hi (PI _)⟩;have m:∀x,(Value.slice (some ⟨b3,0,none⟩) 0 0).ownBlock=some x->x=b3:=λx c=>(gh c).symm;have z3:=e3.size;have z4:=M.size;obtain⟨css,T,C,hi⟩:=(U.weaken (F':=λx=>F x/\x<w2.heap.size) λx c C=>⟨c,C⟩).ext (e3.trans M);refine LstH.app (H2:=λx=>F x/\x<w2.heap.size) (us:=ts) h0 (λx c=>⟨id,λe=>by have:=m x c;omega⟩) T C hi (by simp;omega) λL v5 hw g z=>?_;refine hk L v5 (Ext.then M hw λx c=>by have:=m x c;omega) (hw.mono λx _ c=>m x c) (z.weaken λx c _=>c.1.resolve_left id) λx c=>?_;rcases g x c with h|h
  .have:=m x h;omega
  .omega
 rw[ld (Same.refl _ _)];refine⟨rfl,?_,?_,trivial⟩
 .refine y7 yl yx λb3 w3 l d V k=>?_;rw[ld d];refine⟨⟨rfl,rfl⟩,?_,?_,trivial⟩
  .refine cp (Same.refl _ _) l d k λn v4 a _ h4 Q=>?_;rw[ld a];refine⟨⟨rfl,rfl⟩,?_,trivial⟩;refine xE yl yx zo rfl z dC λb5 L a2 f a3 O=>?_;refine⟨?_,trivial⟩;exact push_blk (h4.ext f) Q O (s (a.trans f) λ_ h=>h.elim) hs λw6 r j u=>fin (a.trans f) j u
  .refine xE yl yx zo rfl z dC λb4 n A a W q=>?_;refine⟨?_,trivial⟩;have z3:=d.size;have z4:=a.size;refine cp (w3:=w2) (Same.refl _ _) l (d.trans a) (k.ext a) λL v5 f w p g=>?_;refine⟨?_,trivial⟩;exact push_blk p g (q.same w (λe=>oM)) (s f λ_ h=>h.elim) hs λw6 r j u=>fin f j u
 .refine xE yl yx zo rfl z dC λb3 w3 l d V k=>?_;refine⟨?_,trivial⟩;refine y7 yl yx λb4 n A a W q=>?_;refine⟨?_,trivial⟩;have z3:=d.size;refine cp d A a q λL v5 f w p g=>?_;refine⟨?_,trivial⟩;exact push_blk p (λx c=>by have:=g x c;omega) ((k.ext a).same w (λe=>oM)) (s (d.trans f) λ_ h=>h.elim) hs λw6 r j u=>fin (d.trans f) j u
theorem x50 (i:TmsR F w tv ts) (hu:TermR G w uv t) (hs:ts.length<=2000000) (g:∀w' r,Ext w w'->TmsR (λ_=>True) w' r (ts++[t])->K r w'):vcall WG #[tv,uv] w K:=by
 refine zf {} Tryz.func35 ?_;obtain⟨cs,rfl,e⟩:=hu.cells;refine zm λb w1 k f j c=>?_;refine zd λw2 a _=>?_;have d:=f.trans a;exact app3 (c.ext a) (i.ext d) (e.ext d) hs λw' r he h=>g w' r (d.trans he) h
end
section
variable {w w':World} {K:oK} {F F' D G H S:oA} {n b k:Nat} {v tv dv uv f:Value} {ts:List M.Tm} {t:M.Tm} {ds:List M.Dcl} {ar ab at_ an am:Addr}
theorem KK {f n:Nat} {w:Int}:leastG ds ts t w (f+1) n=if qB ds ts t w n=1 then((n:Int),1) else if qB ds ts t w n=2 then leastG ds ts t w f (n+1) else(0,qB ds ts t w n):=rfl
theorem xn0:M.tsort ds t<=4:=by
 unfold M.tsort;split
 .next h=>exact(M.sort_range h.2 t).2
 .decide
theorem WF {w:Int} {n:Nat} {W:World}:TmR (λ_=>False) W [nI 20,nI w,nI n,.string ⟨#[]⟩,oN] (.mk 20 w n M.nada []):=Q9 20 w n ⟨#[]⟩
theorem one_shl {n:Nat} (h:n<=4) {K:oK} {W:World}:qp .shl zW true (nI 1) (nI (n:Int)) W K=K (nI ((2^n:Nat):Int)) W:=by
 have:n=0\/n=1\/n=2\/n=3\/n=4:=oM
 rcases this with rfl|rfl|rfl|rfl|rfl<;>exact y5 rfl
theorem spec_SolveLeast_spec (hz:ze0 ds) (hd:DclsR F w dv ds) (ht:TmsR F' w tv ts) (hu:TermR G w uv t) (hs:ts.length<=1048576)
  (r:∀w',Ext w w'->K (.tuple #[nI (yQ ds ts t).1,nI (yQ ds ts t).2]) w'):vcall QI #[dv,tv,uv] w K:=by
 refine zf {loops:=[(5,[9])]} Tryz.func10 ?_;obtain⟨cs,rfl,g⟩:=hu.cells;have h5:=zG g;have hg:aggB za cs.length=true:=by rw[h5];exact zc
 refine zm λb w1 hb j a2 l=>?_;rw[l.ldAgg hg];refine spec_TermSort_spec hz (hd.ext j) (g.ext j).term λw2 s=>?_;have W:=j.trans s;refine oZ ?_;refine zb (λc=>?_) (λc=>?_)
 .have:=r w2 W;unfold yQ at this;rwa[K3 c] at this
 have hle:=xn0 (ds:=ds) (t:=t);obtain⟨m,hm⟩:∃m:Nat,M.tsort ds t=m:=⟨(M.tsort ds t).toNat,oM⟩;have O:m<=4:=oM
 have hR:yQ ds ts t=leastG ds ts t m (2^m) 0:=by unfold yQ;rw[q0 c,hm,gu]
 have Q:2^m<=2^4:=gS oM O;obtain⟨N,hN⟩:∃N:Nat,2^m=N:=⟨_,rfl⟩;rw[hN] at hR Q;rw[hm];refine vloop_up N (λi u w'=>u=[nI i]/\Ext w w'/\Blk w' b cs za/\leastG ds ts t m (N-i) i=yQ ds ts t) ⟨rfl,W,l.ext s,by rw[hR];rfl⟩ ?_;rintro i _ _ w3 C hi ⟨rfl,X,o,d⟩ hC;refine l1Two_spec oM ?_;rw[gu,hN];refine oZ ?_;refine zb (λa=>?_) (λa=>?_)
 .have J:i<N:=oM;refine zj zo λb4 w4 a1 H a3 D=>?_;refine stTerm D rfl (WF (w:=(m:Int)) (n:=i)) λw5 S a4 E=>?_;have f:Ext w3 w5:=Ext.then H S λy hy=>by subst hy;omega
  have Y:=X.trans f;have p:=o.ext f;rw[p.ldAgg hg,E.ldAgg zc];refine kids2 (G:=λ_=>True) ((g.ext Y).weaken λ_ _ _=>trivial).term ((WF (w:=(m:Int)) (n:=i)).weaken λ_ h _=>h.elim).term λw6 a6 v a5 L=>?_;have Z:=Y.trans v;refine oZ ?_;refine x50 (ht.ext Z) (TmR.of (t:=isT t m i) L).term oM λw7 r7 x R=>?_;have e7:=Z.trans x;refine spec_Solve_spec hz (hd.ext e7) R λV a0 z _ _=>?_;have A:=e7.trans z;have B:=f.trans (v.trans (x.trans z));refine oZ ?_;obtain⟨q,hq⟩:∃q,N-i=q+1:=⟨N-i-1,oM⟩;rw[hq,KK] at d;have hc:(xu ds (ts++[isT t m i]) []).2=qB ds ts t m i:=rfl;rw[hc];refine zb (λk=>?_) (λk=>?_)
  .rw[K3 k] at d;have:=r V A;rw[<-d] at this;rw[k];exact this
  refine zb (λT=>?_) (λT=>?_)
  .rw[q0 k,q0 oM,T] at d;have:=r V A;rw[<-d] at this;rw[T];exact this
  refine zb (λU=>?_) (λU=>?_)
  .rw[q0 k,q0 oM,U] at d;have:=r V A;rw[<-d] at this;rw[U];exact this
  have q2:qB ds ts t m i=2:=by
   rcases Wj (ds:=ds) (ts:=ts) (t:=t) (w:=(m:Int)) (n:=i) with e|e|e|e<;>omega
  rw[q0 k,K3 q2] at d;rw[inc64' oM];exact hC J _ _ ⟨rfl,A,o.ext B,by rw[show N-(i+1)=q by omega];exact d⟩
 .have I:N-i=0:=oM;rw[I] at d;have:=r w3 X;rw[<-d] at this;exact this
theorem SolveLeast_spec (Y:DclsR F w dv ds) (ht:TmsR F' w tv ts) (hu:TermR G w uv t) (hs:ts.length<=1048576) (er:Er w at_ an am ar ab)
  (z:∀w',Ext w w'->K (.tuple #[nI (yQ ds ts t).1,nI (yQ ds ts t).2]) w'):vcall QT #[dv,tv,uv] w K:=by
 refine zf {loops:=[(5,[20])]} Tryz.func14 ?_;obtain⟨cs,rfl,f⟩:=hu.cells;have h5:=zG f;have Z:aggB za cs.length=true:=by rw[h5];exact zc
 refine zm λb w1 hb g a2 j=>?_;rw[j.ldAgg Z];refine TermSort_spec (Y.ext g) (f.ext g).term λw2 l=>?_;have U:=g.trans l;refine oZ ?_;refine zb (λc=>?_) (λc=>?_)
 .have:=z w2 U;unfold yQ at this;rwa[K3 c] at this
 have hle:=xn0 (ds:=ds) (t:=t);obtain⟨m,hm⟩:∃m:Nat,M.tsort ds t=m:=⟨(M.tsort ds t).toNat,oM⟩;have x:m<=4:=oM
 have X:yQ ds ts t=leastG ds ts t m (2^m) 0:=by unfold yQ;rw[q0 c,hm,gu]
 have Q:2^m<=2^4:=gS oM x;obtain⟨N,W⟩:∃N:Nat,2^m=N:=⟨_,rfl⟩;rw[W] at X Q;rw[hm,one_shl x,W];refine vloop_up N (λi u w'=>u=[nI i]/\Ext w w'/\Blk w' b cs za/\leastG ds ts t m (N-i) i=yQ ds ts t) ⟨rfl,U,j.ext l,by rw[X];rfl⟩ ?_;rintro i _ _ w3 C hi ⟨rfl,B,k,d⟩ hC;refine oZ ?_;refine zb (λa=>?_) (λa=>?_)
 .have O:i<N:=oM;rw[k.ldAgg Z];refine kids2 (G:=λ_=>True) ((f.ext B).weaken λ_ _ _=>trivial).term ((WF (w:=(m:Int)) (n:=i)).weaken λ_ h _=>h.elim).term λw6 a6 p a5 v=>?_;have e6:=B.trans p;refine oZ ?_;refine zj zo λb4 w4 a1 o a3 I=>?_;refine stTerm I rfl ((TmR.of (t:=isT t m i) v).ext o) λw5 S a4 J=>?_;have e:Ext w6 w5:=Ext.then o S λy hy=>by subst hy;omega
  have V:=e6.trans e;rw[J.ldAgg zc];refine with_spec (ht.ext V) ((TmR.of (t:=isT t m i) v).ext e).term oM λw7 r7 r R=>?_;have E:=V.trans r;refine qo0 (Y.ext E) R (by simp;omega) (er.ext E) λw8 a0 s _ _=>?_;have H:=E.trans s;have D:=p.trans (e.trans (r.trans s));refine oZ ?_;obtain⟨q,hq⟩:∃q,N-i=q+1:=⟨N-i-1,oM⟩;rw[hq,KK] at d;have hc:(xu ds (ts++[isT t m i]) []).2=qB ds ts t m i:=rfl;rw[hc];refine zb (λA=>?_) (λA=>?_)
  .rw[K3 A] at d;have:=z w8 H;rw[<-d] at this;exact this
  refine zb (λT=>?_) (λT=>?_)
  .rw[q0 A,K3 T] at d;rw[inc64' oM];exact hC O _ _ ⟨rfl,H,k.ext D,by rw[show N-(i+1)=q by omega];exact d⟩
  .rw[q0 A,q0 T] at d;have:=z w8 H;rw[<-d] at this;exact this
 .have L:N-i=0:=oM;rw[L] at d;have:=z w3 B;rw[<-d] at this;exact this
end
section
variable {w:World} {dv:Value} {ds:List M.Dcl} {ts:List M.Tm}
theorem dsn_dok {n:Nat} (h:Dsn n ds) (a:M.declOk ds=true):Dok ds:=
 ⟨by have:=(M.decl_iff.1 a).1;omega,λi hi=>⟨(M.dcl_wide a hi).1,(M.dcl_wide a hi).2,h.2 i hi⟩⟩
structure Stay (w:World) (b b4 n m:Nat) (dv lv:Value) (ds:List M.Dcl) (ts:List M.Tm) (cs:List Value) (wk:World):Prop where
 same:Same (λx=>w.heap.size<=x) w wk
 blk:Blk wk b4 cs za
 size:m<=wk.heap.size
 dec:DclsR (λx=>n<=x/\x<m) wk dv ds
 ter:TmsR (λx=>n<=x/\x<m) wk lv ts
theorem Stay.step {b b4 n m:Nat} {lv:Value} {cs:List Value} {wk wl:World} {S:oA} (h:Stay w b b4 n m dv lv ds ts cs wk) (hw:Same S wk wl) (d:w.heap.size<=b4) (f:b4<b) (g:b<n) (i:n<=m) (a:∀x,S x->x=b\/m<=x):Stay w b b4 n m dv lv ds ts cs wl:=
 ⟨h.same.trans (hw.mono λx _ c=>by rcases a x c with e|e<;>omega),h.blk.same hw λe=>by rcases a _ e with e|e<;>omega,gO h.size hw.size,
  h.dec.same hw λx c _ e=>by rcases a x e with e|e<;>omega,h.ter.same hw λx c _ e=>by rcases a x e with e|e<;>omega⟩
end
section
variable {w:World} {K:oK} {D F F' G H:oA} {dv tv uv v:Value} {ds:List M.Dcl} {ts:List M.Tm} {t:M.Tm} {xs:List Nat} {an am ar ab:Addr}
theorem tms_first (h:TmsR F w tv ts) {ty:TypeId} (r:elB ty 5=true) {n:Nat} (u:n<=ts.length) (t:0<ts.length) {kd:IntKind}:
  (∀(w':World) (K:oK),xc ty tv none (some (.int kd n)) none w' K=K (cutV tv n) w')/\TmsR F w (cutV tv n) (ts.take n):=by
 obtain⟨css,d,j,hi⟩:=h;refine⟨λw' K=>Sl.cut d ?_ r oM,css.take n,d.taken oM,by rw[gi,gi,j],λi g=>?_⟩
 .rintro a l c e;obtain⟨s,c',k,_,_,p⟩:=d.shape;obtain⟨b,o,f,_⟩:=p (λq=>by rw[q] at j;simp at j;omega);rw[k,f] at e
  injection e with e
  injection e with e
  exact⟨b,o,e.symm⟩
 .rw[gi] at g;have m:(css.take n).getD i []=css.getD i []:=(by rw[X0,Ph oM,<-X0]);have f:(ts.take n).getD i default=ts.getD i default:=(by rw[X0,Ph oM,<-X0]);rw[m,f];exact hi i oM
theorem DrawSolveLeast_spec (c:Bytes F w v xs) (hF:∀b,F b->b<w.heap.size)
  (hK:∀w' dv lv uv ds ts t,Ext w w'->DclsR (λx=>w.heap.size<=x) w' dv ds->Dsn 9 ds->TmsR (λx=>w.heap.size<=x) w' lv ts->ts.length<=9->TermR (λx=>w.heap.size<=x) w' uv t->K (.tuple #[dv,lv,uv]) w'):vcall ZL #[v] w K:=by
 refine zf {} Tryz.func18 ?_;refine zj zo λb4 w1 aj I ap h4=>?_;refine l12Open_spec (c.ext I) (λb hb=>by have:=hF b hb;omega) λw2 b v' ys s g ai=>?_;have aq:=s.size;have lb:=g.blk.lt;refine l8List_spec (F:=λx=>F x/\x<w2.heap.size) ⟨g.blk,⟨g.bytes.1.weaken λx c i=>⟨c,i⟩,g.bytes.2⟩,λh=>g.apart h.1,g.few⟩ (λx c=>c.2) oM λw3 p3 dv lv ds ts B a0 am a4 A a9 z=>?_;refine oZ ?_;have ar:=B.size;have N:Stay w b b4 w2.heap.size w3.heap.size dv lv ds ts XD w3:=
  ⟨(Same.of_ext (I.trans s)).trans (B.mono λx _ c=>by subst c;omega),(h4.ext s).same B oM,gz _,a4.weaken λx c i=>⟨c,i⟩,a9.weaken λx c i=>⟨c,i⟩⟩
 have put:∀{d:Value} {ts':List M.Tm} {wk:World} {j:List Value} {t9:M.Tm} {Q:oA},Stay w b b4 w2.heap.size w3.heap.size dv d ds ts' XD wk->ts'.length<=9->TmR Q wk j t9->(∀x,Q x->w.heap.size<=x/\x≠b4)->zF za (oP b4 0) (.agg ⟨j⟩) wk λ_ X=>vlv za (oP b4 0) X λr w10=>K (.tuple #[dv,d,r]) w10:=λ{d ts' wk j t9 Q} st i hc hQ=>by
  refine stTerm st.blk rfl hc λX l ax Z=>?_;have E:TmR (λx=>w.heap.size<=x) X j t9:=(hc.same l λx c _ e=>(hQ x c).2 e).weaken λx c _=>(hQ x c).1;rw[Z.lv (by rw[zG E];exact zc)];exact hK X dv d _ ds ts' t9 ((st.same.trans (l.mono λx _ c=>by subst c;omega)).mono λx c h=>oM) ((st.dec.same l λx c _ e=>oM).weaken λx c _=>oM) A ((st.ter.same l λx c _ e=>oM).weaken λx c _=>oM) i E.term
 have F3:∀{wk:World},w3.heap.size<=wk.heap.size->∀x,(F x/\x<w2.heap.size)->x<wk.heap.size:=λh x c=>oM
 refine spec_DeclOk_spec N.dec (dsn_sized A) λw4 u=>?_;have o:=N.step u oM oM lb oM λ_ h=>h.elim;have au:=u.size;refine oZ ?_;refine zn (λa=>?_) (λa=>?_)
 .exact put o z (Q9 (w:=w4) (G:=λ_=>False) 24 0 0 ⟨#[]⟩) λx c=>c.elim
 have H:M.declOk ds=true:=by simpa using a
 have hk:=dsn_dok A H;have C:=a0.ext u;have nb:∀x,(w2.heap.size<=x/\x<w3.heap.size)->x≠b:=λx c=>oM
 have tail:∀{d:Value} {ts':List M.Tm} {wk:World} {p:Nat},Stay w b b4 w2.heap.size w3.heap.size dv d ds ts' XD wk->RdR (λx=>F x/\x<w2.heap.size) wk b v' ys p->p<=4000000->ts'.length<=9->
   vbuildS zh 7 [(0,(nI 1)),(1,(nI 2)),(2,(nI 3)),(3,(nI 4)),(4,(nI 2)),(5,(nI 3)),(6,(nI 0))] wk λt37 R=>
    vcall xy #[oP b 0,t37] R λt38 S=>
    vcall XR #[oP b 0,dv,t38] S λt39 T=>
    vcall XT #[oP b 0,t39] T λt40 U=>
    zF za (oP b4 0) t40 U λ_ V=>
    vlv za (oP b4 0) V λr W=>K (.tuple #[dv,d,r]) W:=λ{d ts' wk p} st hR hp i=>by
  have zk:=st.size;refine ints_lit (ns:=[1,2,3,4,2,3,0]) dC λb5 w5 ak y a5=>?_;have f:=st.step y oM oM lb oM λ_ h=>h.elim;have ac:=y.size;refine num_spec (hR.ext y) a5 (by simp) dC oM (λx c e=>by subst c;omega) λw6 m a7 av a1 hm=>?_;have O:=f.step a7 oM oM lb oM λx h=> .inl h;have J:0<=m/\m<=4:=by
   simp only[gk,gB,Gh] at hm;omega
  refine l8Some_spec a1 (F3 oM) O.dec nb (λx c=>oM) hk J.1 J.2 oM λw7 p7 ay t7 L a2 an aa al=>?_;have ad:=O.step L oM oM lb oM λx h=> .inl h;have aw:=L.size;obtain⟨af,rfl,q⟩:=aa.cells;replace q:=q.weaken (F':=λx=>w6.heap.size<=x/\x<w7.heap.size) λx c i=>⟨c,i⟩;refine l2Bent_spec a2 (F3 oM) q.term (λx c=>oM) (λx c=>oM) oM oM λw8 p8 az t8 a8 ah ao ab _=>?_;have ae:=ad.step a8 oM oM lb oM λx h=> .inl h;obtain⟨ag,rfl,a3⟩:=ab.cells;exact put ae i a3 λx c=>by rcases c with c|c<;>omega
 simp only[push_cast,o.ter.len];refine zb (λc3=>?_) (λ_=>tail o C oM z);refine pick_spec C oM oM λw5 k a6 ac D _ _=>?_;have f:=o.step a6 oM oM lb oM λx h=> .inl h;refine oZ ?_;refine zb (λ_=>?_) (λ_=>tail f D oM z);obtain⟨e1,e2⟩:=tms_first f.ter yq0 (n:=3) (kd:= .i64) oM oM;have Y:∀(w':World) (K:oK),xc ze lv none (some (nI 3)) none w' K=K (cutV lv 3) w':=e1;rw[Y];exact tail (ts':=ts.take 3) ⟨f.same,f.blk,f.size,f.dec,e2⟩ D oM (by rw[gi];omega)
end
section
variable {w:World} {K:oK} {D F F' G H:oA} {dv tv uv v ev:Value} {ds:List M.Dcl} {ts:List M.Tm} {t:M.Tm} {env:oI} {xs:List Nat} {at_ an am ar ab:Addr}
theorem FnSolveLeast_spec (M:Bytes F w v xs) (er:Er w at_ an am ar ab) (E:∀w',Ext w w'->K (.bool true) w'):vcall Xf #[v] w K:=by
 refine zf {loops:=[(12,[10,11])],cuts:=[(28680,[]),(36874,[])]} Tryz.func4 ?_;simp only[push_cast,M.len];refine zb (λ_=>E w (Same.refl _ _)) (λ_=>?_);refine DrawSolveLeast_spec M.below (λb J=>J) λw1 dv tv uv ds ts t r L V W a2 hu=>?_;obtain⟨cs,rfl,g⟩:=hu.cells;replace g:=g.weaken (F':=λx=>x<w1.heap.size) λx _ hl=>hl;have U:aggB za cs.length=true:=by rw[zG g];exact zc
 refine oZ ?_;refine zj zo λY w2 a0 G a3 h5=>?_;refine stTerm h5 rfl (g.ext G) λw3 X a4 p=>?_;have i:Ext w1 w3:=Ext.then G X λx M=>by subst M;omega
 rw[p.ldAgg (t:=za) U];refine SolveLeast_spec (L.ext i) (W.ext i) (g.ext i).term oM (er.ext (r.trans i)) λw4 s=>?_;have l:=i.trans s;refine oZ ?_;rw[(p.ext s).ldAgg (t:=za) U];refine spec_SolveLeast_spec (dsn_sized V) (L.ext l) (W.ext l) (g.ext l).term oM λz H=>?_;have A:=l.trans H;have B:=r.trans A;have R:=(p.ext s).ext H;refine oZ ?_;refine zq (λu w'=>u=[]/\w'=z) (λC q=>?_) ?_
 .refine zb (λh=>absurd rfl h) (λ_=>?_);refine zb (λh=>absurd rfl h) (λ_=>?_);exact q _ _ ⟨rfl,rfl⟩
 rintro _ _ z ⟨rfl,rfl⟩;refine zq (λu w'=>u=[]/\w'=z/\((yQ ds ts t).2=1\/(yQ ds ts t).2=2)) (λC q=>?_) ?_
 .have Q:(yQ ds ts t).2=1\/(yQ ds ts t).2=2\/(yQ ds ts t).1=0/\((yQ ds ts t).2=3\/(yQ ds ts t).2=4):=by
   rcases leastR_says (ds:=ds) (ts:=ts) (t:=t) with⟨a,_⟩|⟨a,_⟩|a|a
   .exact .inl a
   .rw[a];exact .inr (.inl rfl)
   .rw[a];exact .inr (.inr ⟨rfl,.inl rfl⟩)
   .rw[a];exact .inr (.inr ⟨rfl,.inr rfl⟩)
  refine zb (λc=>?_) (λc=>?_)
  .rw[gm (by omega:(yQ ds ts t).1=0)];exact E _ B
  .refine zb (λd=>?_) (λd=>q _ _ ⟨rfl,rfl,oM⟩);rw[gm (by omega:(yQ ds ts t).1=0)];exact E _ B
 rintro _ _ z ⟨rfl,rfl,Z⟩;obtain⟨h8,I⟩:=least_right Z;obtain⟨q1,q2,q3⟩:=all8_iff.1 h8;have hm:=manyE_le ds;refine qu (λn u w'=> ∃k b:Int,u=[nI b,nI k]/\0<=k/\n=(Y4 ds-k).toNat/\Ext z w'/\k20 ds ts t k b) _ ⟨0,-1,rfl,GX _,rfl,Same.refl _ _,best_zero⟩ ?_;rintro n _ _ w6 C ⟨k,b,rfl,Q,rfl,N,J⟩ q;have m:=A.trans N;refine oZ ?_;refine zb (λa=>?_) (λa=>absurd Q a);refine wpFirst_spec (L.ext m) (W.ext m) oM q3 q2 Q λw7 ev env j y T hf=>?_;have o:=m.trans y;have D:=r.trans o;simp only[push_cast];rcases hf with⟨b1,b2,b3,b4,Y⟩|⟨b1,b2,b3⟩
 .refine zb (λc=>oM) (λ_=>?_);rw[(R.ext (N.trans y)).ldAgg (t:=za) U];refine Qt (L.ext o) (g.ext o).term T λw8 S=>?_;obtain⟨t1,t2,t3⟩:=tok_one b2 I;rw[t2];refine oZ ?_;have f:=best_step J (λe he=>(tok_one he I).2.2) b1 b2 b3 b4 Y;have a1:=zu0 b2;have O:Ext z w8:=N.trans (y.trans S);refine zb (λc=>?_) (λc=>?_)
  .rw[K3 (.inl c)] at f;rw[zl oM oM];exact q (Y4 ds-(j+1)).toNat _ _ oM ⟨j+1,_,rfl,oM,rfl,O,f⟩
  .refine zb (λd=>?_) (λd=>?_)
   .rw[K3 (.inr d)] at f;rw[zl oM oM];exact q (Y4 ds-(j+1)).toNat _ _ oM ⟨j+1,_,rfl,oM,rfl,O,f⟩
   .rw[q0 oM] at f;rw[zl oM oM];exact q (Y4 ds-(j+1)).toNat _ _ oM ⟨j+1,_,rfl,oM,rfl,O,f⟩
 .subst b1;refine zb (λ_=>?_) (λc=>absurd dC c);rcases best_end J b3 Z with⟨c1,c2,c3⟩|⟨c1,c2⟩
  .refine zb (λ_=>?_) (λc=>absurd c1 c);refine zb (λ_=>?_) (λc=>absurd c2 c);exact zb (λ_=>E _ D) (λc=>absurd c3 c)
  .refine zb (λc=>oM) (λ_=>?_);refine zb (λ_=>?_) (λc=>absurd c1 c);rw[gm c2];exact E _ D
end
end Go.Proofs.YtfjlkobhagjdaaaGreatDoor
section
namespace Go.Proofs.YtfjlkobhagjdaaaGreatDoor
open Go Go.Vc Go.Proofs
open Go.RowKit
theorem laid_at {l:List (String×DataW Unit)} {W:World} (h:laidMet P l W):∀k,laidMet P (l.drop k) W
 |0=>h
 |k+1=>by
  have a:=laid_at h k;rw[<-List.tail_drop];cases b:l.drop k with
  |nil=>rw[b] at a;exact a
  |cons x r=>rw[b] at a;exact a.tail
theorem zs0: "*" ++ "errors.errorString" = "*errors.errorString" :=dC
theorem kC0 (u:TypeId) (h:P.typeName? 3 u=some "*errors.errorString"):u=yR:=
 typeName_ptr_named (nm:= "errors.errorString") (by rw[zs0];kernel_rfl) rK dC u (by rw[zs0];exact h)
def ifaceB (t:TypeId):Bool:=match P.underlying t with
 |some (.interface _)=>true
 |_=>false
theorem kX0 {t:TypeId} (h:ifaceB t=true):∃ms,P.underlying t=some (.interface ms):=by
 unfold ifaceB at h;split at h
 .exact⟨_,by assumption⟩
 .cases h
theorem xR0:∃ms,P.underlying xx=some (.interface ms):=kX0 rK
def fieldB (t u:TypeId):Bool:=match P.underlying t with
 |some (.struct fs)=>match fs.toList with
  |[f]=>decide (f.type=u)&&decide (f.offset=0)
  |_=>false
 |_=>false
theorem Z30 {t u:TypeId} (h:fieldB t u=true):∃f,P.underlying t=some (.struct #[f])/\f.type=u/\f.offset=0:=by
 unfold fieldB at h;split at h
 .rename_i fs a;split at h
  .rename_i f b;simp only[gp,gd] at h;refine⟨f,?_,h⟩;rw[a];congr 2;exact GS.1 (by simpa using b)
  .cases h
 .cases h
theorem kD0:P.underlying yR=some (.pointer 435):=rK
theorem yL0:∃f,P.underlying 435=some (.struct #[f])/\f.type=xd/\f.offset=0:=Z30 rK
theorem yM0:P.underlying xd=some .string:=rK
theorem Yo0:P.cellsOf 435=1/\P.cellsOf xd=1:=⟨rK,rK⟩
theorem vars_len {H:Type} {enc:TypeId×Value->H} {w:World} {sp:Nat->Bool}:∀{ns:List String} {gs:List (DataW H)} {ps:List MemPlace},DataW.TrodVars enc P w sp ns gs ps->gs.length=ns.length
 |[],[],_,_=>rfl
 |[],_::_,_,h=>h.elim
 |_::_,[],_,h=>h.elim
 |_::_,_::_,_,⟨_,_,_,_,_,_,_,_,_,_,hs,_⟩=>by rw[gG,gG,vars_len hs]
theorem vlist5 {α:Type} {l:List α} (h:l.length=5):∃a b c d e,l=[a,b,c,d,e]:=by
 match l,h with
 |[a,b,c,d,e],_=>exact⟨a,b,c,d,e,rfl⟩
end Go.Proofs.YtfjlkobhagjdaaaGreatDoor
end
section
namespace Go.Proofs.YtfjlkobhagjdaaaGreatDoor
open Go Go.Vc Go.Proofs
open Go.RowKit
theorem Qa {x y:String×DataW Unit} {r:List (String×DataW Unit)} {w:World} (h:laidMet P (x::y::r) w):laidMet P (x::r) w:=by
 obtain⟨ps,u,j,c⟩:=h;obtain⟨n,d⟩:=x;obtain⟨m,e⟩:=y;obtain⟨g,t,cs,fuel,p,q,o,a2,a3,a4,s,rfl⟩:=u;obtain⟨g2,t2,f,i,p2,l,_,_,_,_,k,rfl⟩:=s;have a:=pN (pU (MemPlace.row ⟨g,0,none⟩ cs.size++p)) (List.sublist_append_right (MemPlace.row ⟨g2,0,none⟩ f.size++p2) l);exact⟨_,⟨g,t,cs,fuel,p,l,o,a2,a3,a4,k,rfl⟩,List.Nodup.sublist a j,λb off hm=>c b off (a.subset hm)⟩
theorem jJ {W:World} {g:Nat} {a c:Addr} (h:Sent W g a) (b:Sent W g c):a=c:=by
 unfold Sent at h b;rw[h] at b
 injection b with b
 injection b with _ b
 injection b with b
 exact gh b
theorem Zc {j k:String} {t0 t1:List UInt8} {r:List (String×DataW Unit)} {W:World} {g0 g1:Nat} (h:laidMet P ((j,.iface "*errors.errorString" (.ptr (.agg [.lit (.string t0)])))::(k,.iface "*errors.errorString" (.ptr (.agg [.lit (.string t1)])))::r) W)
  (c:P.globalNamed j=some g0) (g:(P.globals[g0]?).map (·.type)=some xx) (d:P.globalNamed k=some g1) (i:(P.globals[g1]?).map (·.type)=some xx):∃a b,Sent W g0 a/\Sent W g1 b/\a≠b/\RowA W a/\RowA W b:=by
 obtain⟨ms,hi⟩:=xR0;obtain⟨f,m,n,o⟩:=yL0;obtain⟨a0,l,u,s1,c0,c1,s,t,v0,v1,_,_,_,_,_,_,e,p,q⟩:=laid_sentinels2 h c g d i hi kC0 kD0 m n o yM0 Yo0.1 Yo0.2;exact⟨a0,l,by unfold Sent;simpa using World.var?_cell c v0 0,by unfold Sent;simpa using World.var?_cell d v1 0,e,⟨c0,s,p⟩,⟨c1,t,q⟩⟩
theorem er_of {nr nb nt nn nm:String} {tr tb tt tn tm:List UInt8} {r l:List (String×DataW Unit)} {W:World} (h:laidMet P l W) (k:Nat)
  (B:l.drop k=(nr,.iface "*errors.errorString" (.ptr (.agg [.lit (.string tr)])))::(nb,.iface "*errors.errorString" (.ptr (.agg [.lit (.string tb)])))::(nt,.iface "*errors.errorString" (.ptr (.agg [.lit (.string tt)])))::(nn,.iface "*errors.errorString" (.ptr (.agg [.lit (.string tn)])))::(nm,.iface "*errors.errorString" (.ptr (.agg [.lit (.string tm)])))::r)
  (er:P.globalNamed nr=some xR) (eb:P.globalNamed nb=some jf) (et:P.globalNamed nt=some yJ) (en:P.globalNamed nn=some jo) (em:P.globalNamed nm=some qt)
  (fr:(P.globals[xR]?).map (·.type)=some xx) (fb:(P.globals[jf]?).map (·.type)=some xx) (ft:(P.globals[yJ]?).map (·.type)=some xx) (fn:(P.globals[jo]?).map (·.type)=some xx) (fm:(P.globals[qt]?).map (·.type)=some xx):
  ∃at_ an am ar ab,Er W at_ an am ar ab:=by
 have a:=laid_at h k;rw[B] at a;obtain⟨ar,ab,sr,sb,_,rr,_⟩:=Zc a er fr eb fb;have b:=Qa a;obtain⟨w,at_,j,st,C,_,rt⟩:=Zc b er fr et ft;have q:=Qa b;obtain⟨x,an,m,sn,D,_,rn⟩:=Zc q er fr en fn;obtain⟨y,am,n,sm,E,_,rm⟩:=Zc (Qa q) er fr em fm;have c:=b.tail;obtain⟨z,u,o,g,F,_⟩:=Zc c et ft en fn;obtain⟨A,s,p,d,G,_⟩:=Zc (Qa c) et ft em fm;obtain⟨v,t,i,f,n6,_⟩:=Zc c.tail en fn em fm;obtain rfl:=jJ j sr;obtain rfl:=jJ m sr;obtain rfl:=jJ n sr;obtain rfl:=jJ o st;obtain rfl:=jJ p st;obtain rfl:=jJ g sn;obtain rfl:=jJ i sn;obtain rfl:=jJ d sm;obtain rfl:=jJ f sm;exact⟨_,_,_,_,ab,st,sn,sm,⟨sr,sb,id,id⟩,rt,rn,rm,rr,λe=>F e.symm,λe=>G e.symm,λe=>n6 e.symm,C,D,E⟩
end Go.Proofs.YtfjlkobhagjdaaaGreatDoor
end
end
