import Derived.Test.YtfjlkobhagjdaaaGreatDoorWzaP13
import Derived.Deep.Slices
import Derived.OpenVars
import Derived.MakeChecks
import Derived.Stop.LaidErr
import Derived.Stop.LaidTwo
/- A part of the proof. -/
set_option linter.all false
set_option maxRecDepth 9999
set_option maxHeartbeats 2000000
noncomputable section
namespace Go.Proofs.YtfjlkobhagjdaaaGreatDoor
open Go Go.Vc Go.Proofs Go.M
section
variable {w:World} {K:oK} {F Fr F':Nat->Prop} {many:Nat} {c:Cnf} {s:Sat}
theorem inc64 {i:Nat} (h:i<9223372036854775807):IntKind.i64.wrap ((i:Int)+1)=((i+1:Nat):Int):=by rw[zl oM oM];omega
theorem l5Find_spec {vc vl v:Value} {put:List Int} {ls:List (List Int)} (hc:CnfR F w vc c) (hl:Lists F' w vl ls) (hx:Ints Fr w v (signs many put)) (hm:marksOk many put) (z:many<=700) (a4:c.list.length+ls.length<=1000000)
  (hb:∀cl,cl∈c.list++ls->∀l,l∈cl->l≠0/\l.natAbs<=many)
  (hK:∀w' k u x,Ext w w'->findM put (c.list++ls) 0 (-1) 0=(k,u,x)->K (.tuple #[nI k,nI (if 0<=k then-1 else u),nI (if 0<=k then 0 else x)]) w'):vcall Wy #[vc,vl,v] w K:=by
 refine zf {loops:=[(5,[9,10,12])],cuts:=[(36875,[13])]} Tryz.func164 ?_;obtain⟨lv,rfl,X⟩:=hc;obtain⟨cs,U,B,T⟩:=X;obtain⟨es,W,H,V⟩:=hl;refine yp λb w1 a1 E a5 hB=>?_;have A:Blk w1 b [nI c.many,lv] zq:=hB;have D:=B.ext E;simp only[push_cast,A.ld1,D.len];refine vloop_up (c.list.length+ls.length) (λi u w'=> ∃(y x:Int),u=[nI y,nI x,nI i]/\Ext w w'/\Blk w' b [nI c.many,lv] zq/\findM put ((c.list++ls).drop i) i y x=findM put (c.list++ls) 0 (-1) 0) ⟨-1,0,rfl,E,A,rfl⟩ ?_;rintro i _ _ w2 C hi ⟨y,x,rfl,s,S,g⟩ Q;have I:=H.ext s;simp only[push_cast,I.len];rw[U,W,zl oM oM];refine zb (λa=>?_) (λa=>?_)
 .have o:i<c.list.length+ls.length:=oM;refine yg xt xd λb3 w3 a2 G a6 a0=>?_;have p:=s.trans G;have f:=S.ext G;have q:=B.ext p;have r:=H.ext p;refine zp (λu w'=>w'=w3/\∃v4,u=[v4]/\Ints (λ_=>True) w3 v4 ((c.list++ls).getD i [])) ?_ ?_
  .intro J Z;refine zb (λa3=>?_) (λa3=>?_)
   .simp(disch:=exact oS) only[push_cast,f.ld1,q.iaddr,q.load];refine Z _ _ ⟨rfl,_,rfl,?_⟩;rw[getD_app_l oM];exact((T i oM).ext p).weaken λ_ _ _=>trivial
   .obtain⟨j,rfl⟩:∃j,i=c.list.length+j:=⟨i-c.list.length,oM⟩;rw[show((c.list.length+j:Nat):Int)-(c.list.length:Int)=(j:Int) from by omega,zl oM oM];simp(disch:=exact oS) only[push_cast,r.iaddr,r.load];refine Z _ _ ⟨rfl,_,rfl,?_⟩;rw[getD_app_r];exact((V j oM).ext p).weaken λ_ _ _=>trivial
  rintro _ _ _ ⟨rfl,v4,rfl,h4⟩;have L:i<(c.list++ls).length:=by rw[V0];exact o
  have M:(c.list++ls).getD i []∈c.list++ls:=by rw[k5,gd L];exact pw _
  rw[Z0 (d:=[]) L,findM_cons] at g;refine oZ ?_;refine l5Look_spec (hx.ext p) hm z h4 (hb _ M) λO n Y t=>?_;rw[t] at g;dsimp only at g;refine oZ ?_;rw[inc64 oM];have N: ¬(O=true)->((if O then(-1:Int) else(n:Int))=n/\(if O then(0:Int) else Y)=Y):=λh=>⟨y3 h,y3 h⟩;by_cases m:O=true
  .rw[k6 m] at g;refine zb (λe=>absurd e (by rw[k6 m];omega)) (λ_=>zb (λe=>absurd e (by rw[k6 m];omega)) (λ_=>?_));exact Q o _ _ ⟨y,x,rfl,p,f,g⟩
  rw[y3 m] at g;rw[(N m).1,(N m).2];refine zb (λe=>?_) (λe=>zb (λe1=>?_) (λe1=>?_))
  .rw[k6 oM] at g;have:=hK _ _ _ _ p g.symm;rwa[k6 oM,k6 oM] at this
  .rw[y3 oM,k6 oM] at g;refine zb (λR=>?_) (λR=>?_)
   .rw[k6 R] at g;exact Q o _ _ ⟨i,Y,rfl,p,f,g⟩
   .rw[y3 R] at g;exact Q o _ _ ⟨y,x,rfl,p,f,g⟩
  .rw[y3 oM,y3 oM] at g;exact Q o _ _ ⟨y,x,rfl,p,f,g⟩
 .rw[Ge (by rw[V0];omega)] at g;have:=hK w2 _ _ _ s g.symm;rwa[y3 oM,y3 oM] at this
theorem l5At_spec {vc v:Value} {k:Nat} (A:CnfR F w vc c) (hs:SatR F' w v s) (G:k<c.list.length+s.learned.length) (C:c.list.length+s.learned.length<=1000000)
  (u:∀w' v',Ext w w'->Ints (λb=>F b\/F' b) w' v' (atM c s k)->K v' w'):vcall yx0 #[vc,v,nI k] w K:=by
 refine zf {} Tryz.func166 ?_;obtain⟨lv,rfl,cs,n,o,m⟩:=A;obtain⟨vp,vw,vl,rfl,-,-,es,B,r,q⟩:=hs;refine yp λb1 w1 y p D i=>?_;refine yp λb2 w2 z g E l=>?_;have t:Blk w2 b1 [nI c.many,lv] zq:=i.ext g;have x:Blk w2 b2 [vp,vw,vl,nI s.code] zu:=l;have f:=p.trans g;have d:=o.ext f;have e:=r.ext f;simp only[push_cast,t.ld1,d.len];refine zb (λa=>?_) (λa=>?_)
 .simp(disch:=exact oS) only[push_cast,d.iaddr,d.load];refine u w2 _ f ?_;rw[atM,getD_app_l oM];exact((m k oM).ext f).weaken λ_ h _=> .inl h
 .obtain⟨j,rfl⟩:∃j,k=c.list.length+j:=⟨k-c.list.length,oM⟩;simp(disch:=(simp only[push_cast])) only[x.ld2,t.ld1,d.len,Uy,UB,yB,Gd,Y6];rw[n,show((c.list.length+j:Nat):Int)-(c.list.length:Int)=(j:Int) from by omega,zl oM oM];simp(disch:=exact oS) only[push_cast,e.iaddr,e.load];refine u w2 _ f ?_;rw[atM,getD_app_r];exact((q j oM).ext f).weaken λ_ h _=> .inr h
theorem l5Levels_spec {vc v:Value} (hc:CnfR F w vc c) (hs:SatR F' w v s) (L:c.many=many) (T:many<=700) (hm:marksOk many s.put) (hlen:s.put.length=s.why.length) (A:∀k,k<s.why.length->s.why.getD k 0= -1\/0<=s.why.getD k 0)
  (hK:∀w' v',Ext w w'->OwnI zi w' v' (levs many s.put (yr s.why))->(∀x,v'.ownBlock=some x->w.heap.size<=x)->K v' w'):vcall JQ #[vc,v] w K:=by
 refine zf {loops:=[(4,[6,7])],cuts:=[(28680,[6])]} Tryz.func195 ?_;obtain⟨lv,rfl,-⟩:=hc;obtain⟨vp,vw,vl,rfl,hp,hw,-⟩:=hs;have a4:=hm.len;refine yp λb1 w1 a0 N a7 H=>?_;refine yp λb2 w2 a1 p a8 I=>?_;have X:Blk w2 b1 [nI c.many,lv] zq:=H.ext p;have R:Blk w2 b2 [vp,vw,vl,nI s.code] zu:=I;have S:=N.trans p;simp only[push_cast,X.ld0];rw[L,zl oM oM,show((many:Int)+1)=((many+1:Nat):Int) from by omega];refine vmkS_own (bs:=8) xC qK xF rfl oM oM λv1 w3 Y q m=>?_;have G:OwnI zi w3 v1 (levs many [] (yr s.why)):=by rw[kx0];unfold OwnI;rw[GJ];exact Y
 have V:=S.size;refine vloop_up s.put.length (λi u w'=>u=[nI ((yr s.why).take i|>.count true:Nat),nI i]/\Ext w w'/\Blk w' b2 [vp,vw,vl,nI s.code] zu/\OwnI zi w' v1 (levs many (s.put.take i) (yr s.why))) ⟨rfl,S.trans q,R.ext q,by simpa using G⟩ ?_;rintro i _ _ W C hi ⟨rfl,g,f,E⟩ Z;have n:=hp.ext g;have z:=hw.ext g;have a5:=U6 many (s.put.take i) (yr s.why);have a3:=jH s.why;simp only[push_cast,f.ld0,n.len];refine zb (λa=>?_) (λa=>?_)
 .have l:i<s.put.length:=oM;have h:=Y3 (ds:=yr s.why) (i:=i) oM;have a2:((yr s.why).take i).count true<=700:=gS pQ (by simp;omega);refine zp (λu w'=>w'=W/\u=[nI ((yr s.why).take (i+1)|>.count true:Nat)]) ?_ ?_
  .intro J U;simp(disch:=exact oS) only[push_cast,f.ld1,z.iaddr,z.load];have o:=Ju (why:=s.why) (k:=i) oM;have a6:=A i oM;refine zb (λb=>?_) (λb=>?_)
   .rw[inc64 oM];refine U _ _ ⟨rfl,?_⟩;rw[h,o,gk oM];rfl
   .refine U _ _ ⟨rfl,?_⟩;rw[h,o,gg oM];rfl
  rintro _ _ _ ⟨rfl,rfl⟩;simp(disch:=exact oS) only[push_cast,f.ld0,n.iaddr,n.load];have hb:=hm.2 _ (getD_meS l);have y:=M.take_snoc' (d:=0) l;have D:=distinct_take hm.1 (i+1);have j:placeOf (s.put.take i) (s.put.getD i 0).natAbs=0:=by
   refine placeOf_zero λx B e=>?_;rw[y] at D;unfold Distinct at D;rw[gA,Gn] at D;exact D.2.2 _ (gU B) _ (by simp) e
  have t:=levs_snoc (many:=many) (ds:=yr s.why) j;rw[<-y,gl,GH oM,lvl_succ oM,<-h] at t;have Q:=E.ints;refine l4Abs_spec oM ?_;simp(disch:=exact oS) only[push_cast,Q.iaddr];refine E.st xd oM λw5 O r a9=>?_;rw[inc64 oM];refine Z l _ _ ⟨rfl,Ext.then g r λx B=>by have:=m x B;omega,f.same r λe=>by have:=m _ e;have:=R.lt;omega,by rw[t];exact O⟩
 .rw[gD oM] at E;exact hK W v1 g E λx B=>by have:=m x B;omega
theorem l5Top_spec {v v':Value} {put cl:List Int} {ds:List Bool} (m:Ints F w v (levs many put ds)) (j:many<=700) (p:ds.length<=700) (d:Ints Fr w v' cl) (o:∀l,l∈cl->l.natAbs<=many/\placeOf put l.natAbs≠0)
  (s:K (.tuple #[nI (kQ put ds cl:Nat),nI (QT put ds cl).length]) w):vcall zp0 #[v,v'] w K:=by
 refine zf {loops:=[(4,[6,7,8])]} Tryz.func196 ?_;have hlen:cl.length<=9223372036854775807:=by obtain⟨_,_,_,n,r,_⟩:=d.shape;simp at n;omega
 have q:=U6 many put ds;refine vloop_up cl.length (λi u w'=>w'=w/\u=[nI (kQ put ds (cl.take i):Nat),nI (QT put ds (cl.take i)).length,nI i]) ⟨rfl,rfl⟩ ?_;rintro i _ _ _ C hi ⟨rfl,rfl⟩ f;simp only[push_cast,d.len];refine zb (λa=>?_) (λa=>?_)
 .have c:i<cl.length:=oM;simp(disch:=exact oS) only[push_cast,d.iaddr,d.load];obtain⟨g,h⟩:=o _ (getD_meS c);refine l4Abs_spec oM ?_;simp(disch:=exact oS) only[push_cast,m.iaddr,m.load];rw[levs_get g,levV_lit h];obtain⟨t1,t2⟩:=top_step (put:=put) (ds:=ds) c _ rfl;generalize lvM put ds (cl.getD i 0)=k at*;have t:(QT put ds (cl.take i)).length<=i:=gS (List.length_filter_le _ _) (by simp;omega);refine zb (λb=>?_) (λb=>?_)
  .rw[k6 oM] at t1 t2;refine zb (λ_=>?_) (λe=>absurd trivial e);rw[inc64 oM];exact f c _ _ ⟨rfl,by rw[t1,t2];rfl⟩
  .rw[y3 oM] at t1 t2;refine zb (λe=>?_) (λe=>?_)
   .rw[k6 oM] at t2;rw[inc64 oM,inc64 oM];exact f c _ _ ⟨rfl,by rw[t1,t2]⟩
   .rw[y3 oM] at t2;rw[inc64 oM];exact f c _ _ ⟨rfl,by rw[t1,t2]⟩
 .rwa[gD oM]
theorem l5Has_spec {v:Value} {cl:List Int} {m:Nat} (c:Ints Fr w v cl) (p:∀l,l∈cl->l.natAbs<=700) (g:(∃q,q∈cl/\q.natAbs=m)->K (.bool true) w) (j:(∀q,q∈cl->q.natAbs≠m)->K (.bool false) w):vcall zr0 #[v,nI m] w K:=by
 refine zf {loops:=[(2,[5])]} Tryz.func255 ?_;have hlen:cl.length<=9223372036854775807:=by obtain⟨_,_,_,n,s,_⟩:=c.shape;simp at n;omega
 refine vloop_up cl.length (λi u w'=>w'=w/\u=[nI i]/\∀q,q∈cl.take i->q.natAbs≠m) ⟨rfl,rfl,by simp⟩ ?_;rintro i _ _ _ C hi ⟨rfl,rfl,k⟩ o;simp only[push_cast,c.len];refine zb (λa=>?_) (λa=>?_)
 .have f:i<cl.length:=oM;simp(disch:=exact oS) only[push_cast,c.iaddr,c.load];have e:cl.getD i 0∈cl:=getD_meS f;have r:=p _ e;refine l4Abs_spec oM ?_;refine oZ ?_;refine zb (λb=>g ⟨_,e,oM⟩) (λb=>?_);rw[inc64 oM];refine o f _ _ ⟨rfl,rfl,λq h=>?_⟩;rw[M.take_snoc' (d:=0) f,gn,gx] at h;rcases h with h|rfl
  .exact k q h
  .omega
 .rw[gD oM] at k;exact j k
theorem l5Last_spec {v v':Value} {cl:List Int} (hs:SatR F w v s) (hm:marksOk many s.put) (t:many<=700) (m:Ints Fr w v' cl) (z:∀l,l∈cl->l.natAbs<=700)
  (x:∀w',Ext w w'->K (nI ((lastPl s.put cl:Int)-1)) w'):vcall Ww #[v,v'] w K:=by
 refine zf {loops:=[(2,[5])]} Tryz.func226 ?_;obtain⟨vp,vw,vl,rfl,G,-,-⟩:=hs;have E:=hm.len;refine yp λb2 w2 A b H g=>?_;have p:Blk w2 b2 [vp,vw,vl,nI s.code] zu:=g;have c:=G.ext b;simp only[push_cast,p.ld0,c.len];rw[zl oM oM];refine vloop_up s.put.length (λi u w'=>w'=w2/\u=[nI ((s.put.length:Int)-1-i)]/\∀j,s.put.length-i<=j->j<s.put.length->∀q,q∈cl->q.natAbs≠(s.put.getD j 0).natAbs) ⟨rfl,by simp,λj r d=>oM⟩ ?_;rintro i _ _ _ C hi ⟨rfl,rfl,n⟩ y;refine oZ ?_;refine zb (λa=>?_) (λa=>?_)
 .obtain⟨k,D⟩:∃k:Nat,(s.put.length:Int)-1-i=k:=⟨s.put.length-1-i,oM⟩;have f:k<s.put.length:=oM;rw[D];simp(disch:=exact oS) only[push_cast,p.ld0,c.iaddr,c.load];have B:=hm.2 _ (getD_meS f);refine l4Abs_spec oM ?_;refine l5Has_spec (m.ext b) z (λh=>?_) (λh=>?_)
  .refine oZ ?_;have o:=lastPl_eq hm f h λj r d=>n j oM d;have:=x _ b;rwa[o,show((k+1:Nat):Int)-1=(k:Int) from by omega] at this
  .refine oZ ?_;rw[zl oM oM];refine y oM _ _ ⟨rfl,by rw[show(s.put.length:Int)-1-((i+1:Nat):Int)=(k:Int)-1 from by omega],λj r d=>?_⟩;by_cases e:j=k
   .subst e;exact h
   .exact n j oM d
 .have o:=lastPl_none (put:=s.put) (cl:=cl) λj d=>n j oM d;have:=x _ b;rw[o] at this;exact this
end
section
variable {w:World} {K:oK} {F Fr F':Nat->Prop} {many:Nat} {c:Cnf} {s:Sat}
theorem qY0 (arr:List Int) (m n:Nat):(zR0 arr m n).length<=n:=by
 unfold zR0;refine gS (List.length_filterMap_le _ _) (by simp)
theorem l5Join_spec {va vb:Value} {a b:List Int} {m:Nat} (ha:Ints F w va a) (hb:Ints F' w vb b) (a6:many<=700) (S:∀k,k∈a++b->k≠0/\k.natAbs<=many) (hc:∀k,k∈a++b->k.natAbs≠m-> -k∉a++b)
  (hK:∀w' v',Ext w w'->OwnI zi w' v' (XO many a b m)->(∀x,v'.ownBlock=some x->w.heap.size<=x)->K v' w'):vcall Wx #[nI many,va,vb,nI m] w K:=by
 refine zf {loops:=[(4,[11]),(8,[12]),(12,[9,13])]} Tryz.func227 ?_;have ab:a.length<=9223372036854775807:=by obtain⟨_,_,_,L,h2,_⟩:=ha.shape;simp at L;omega
 have ac:b.length<=9223372036854775807:=by obtain⟨_,_,_,L,h2,_⟩:=hb.shape;simp at L;omega
 refine yg xt xd λJ w0 a8 T ad N=>?_;refine oZ ?_;rw[zl oM oM,show((many:Int)+1)=((many+1:Nat):Int) from by omega];refine vmkS_own (bs:=8) xC qK xF rfl oM oM λv1 w1 L U W=>?_;have a0:OwnI zi w1 v1 (List.replicate (many+1) 0):=by unfold OwnI;rw[GJ];exact L
 have E1:=T.trans U;have a7:=T.size;have hN:∀x,v1.ownBlock=some x->w.heap.size<=x:=λx s=>by have:=W x s;omega
 have a1:Blk w1 J [] zU:=N.ext U;have G:∀x,v1.ownBlock=some x->x≠J:=λx s e=>by have:=W x s;have:=N.lt;omega
 refine vloop_up a.length (λi u w'=>u=[nI i]/\Ext w w'/\Blk w' J [] zU/\∃arr,OwnI zi w' v1 arr/\ArrP many (a.take i) arr) ⟨rfl,E1,a1,_,a0,by simpa using arr_nil many⟩ ?_;rintro i _ _ w2 C hi ⟨rfl,h,o,arr,q,f⟩ O;have E:=ha.ext h;simp only[push_cast,E.len];refine zb (λc1=>?_) (λc1=>?_)
 .have l:i<a.length:=oM;refine zd λw3 c _=>?_;have A:=E.ext c;have g:=q.ext c;have r:=g.ints;have Q:=f.len;obtain⟨g1,g2⟩:=S _ (gW _ (getD_meS l));simp(disch:=exact oS) only[push_cast,A.iaddr,A.load,y4];refine l4Abs_spec oM ?_;simp(disch:=exact oS) only[push_cast,A.iaddr,A.load,y4,gh,r.iaddr];refine g.st xd oM λw4 I z Y=>?_;rw[inc64 oM];refine O l _ _ ⟨rfl,Ext.then (h.trans c) z hN,(o.ext c).same z λe=>G _ e rfl,_,I,?_⟩;rw[M.take_snoc' (d:=0) l];exact arr_snoc f g1 g2
 clear O;rw[gD oM] at f;refine vloop_up b.length (λi u w'=>u=[nI i]/\Ext w w'/\Blk w' J [] zU/\∃arr,OwnI zi w' v1 arr/\ArrP many (a++b.take i) arr) ⟨rfl,h,o,arr,q,by simpa using f⟩ ?_;clear f q arr o E h w2;rintro j _ _ w2 C hj ⟨rfl,h,o,arr,q,f⟩ O;have R:=hb.ext h;simp only[push_cast,R.len];refine zb (λc2=>?_) (λc2=>?_)
 .have l:j<b.length:=oM;refine zd λw3 c _=>?_;have B:=R.ext c;have g:=q.ext c;have r:=g.ints;have Q:=f.len;obtain⟨g1,g2⟩:=S _ (GA _ (getD_meS l));simp(disch:=exact oS) only[push_cast,B.iaddr,B.load,y4];refine l4Abs_spec oM ?_;simp(disch:=exact oS) only[push_cast,B.iaddr,B.load,y4,gh,r.iaddr];refine g.st xd oM λw4 I z Y=>?_;rw[inc64 oM];refine O l _ _ ⟨rfl,Ext.then (h.trans c) z hN,(o.ext c).same z λe=>G _ e rfl,_,I,?_⟩;rw[M.take_snoc' (d:=0) l,<-Gf];exact arr_snoc f g1 g2
 clear O;rw[gD oM] at f;have Q:=f.len;have a4:OwnI zi w2 (.slice (some ⟨J,0,none⟩) 0 0) []:=Blk.own1 (t:=zi) (cs:=[]) (by rw[qK];exact o) (Gc _) rfl rfl oM;refine vloop_up many (λn u w'=> ∃v,u=[v,nI (n+1:Nat)]/\Ext w w'/\OwnI zi w' v1 arr/\OwnI zi w' v (zR0 arr m n)/\(∀x,v.ownBlock=some x->w.heap.size<=x/\v1.ownBlock≠some x)) ⟨_,rfl,h,q,a4,λx s=>?_⟩ ?_
 .have e:J=x:=K3 s;subst e;exact⟨oM,λe=>G _ e rfl⟩
 rintro n _ _ w3 C3 hn ⟨v,rfl,c,g,y,p⟩ D;refine oZ ?_;have aa:=qY0 arr m n;refine zb (λc3=>?_) (λc3=>?_)
 .have hs:=joinA_succ arr m n;have V:IntKind.i64.wrap ((n:Int)+1+1)=((n+1+1:Nat):Int):=by rw[zl oM oM];omega
  have r:=g.ints;rw[V];refine zb (λc4=>?_) (λc4=>?_)
  .rw[y3 oM] at hs;have e1:((n:Int)+1)=((n+1:Nat):Int):=rfl;rw[e1];simp(disch:=exact oS) only[r.iaddr,gq,r.load,yR0];refine zb (λZ=>?_) (λZ=>?_)
   .rw[y3 Z] at hs;refine zC xt xd xF rfl rfl λb4 w4 a9 H Y a2=>?_;refine(y.ext H).app1 xC a2 oM oM λv5 w5 a5 X a3=>?_;have ae:=c.size;refine D oM _ _ ⟨v5,rfl,Ext.then (c.trans H) X λx s=>(p x s).1,(g.ext H).same X λx s e=>(p x e).2 s,by rw[hs];exact a5,λx s=>?_⟩;rcases a3 x s with e|e
    .exact p x e
    .exact⟨oM,λe'=>by have:=g.lt e';omega⟩
   .rw[k6 (by simpa using Z),gG] at hs;exact D oM _ _ ⟨v,rfl,c,g,by rw[hs];exact y,p⟩
  .rw[k6 oM,gG] at hs;exact D oM _ _ ⟨v,rfl,c,g,by rw[hs];exact y,p⟩
 .have:n=many:=oM;subst this;rw[joinA_eq f hc] at y;exact hK w3 v c y λx s=>(p x s).1
theorem learnS_cons {cl:List Int} (d:satOk many c s) (h:c.many=many) (hF:Fls s.put cl) (hs:Srt cl) (n:2<=(QT s.put (yr s.why) cl).length):
  lastPl s.put cl-1<s.put.length/\lastPl s.put cl≠0/\0<=s.why.getD (lastPl s.put cl-1) 0/\s.why.getD (lastPl s.put cl-1) 0<c.list.length+s.learned.length/\
  (∀l,l∈cl++atM c s (s.why.getD (lastPl s.put cl-1) 0).toNat->l≠0/\l.natAbs<=many)/\(∀l,l∈cl++atM c s (s.why.getD (lastPl s.put cl-1) 0).toNat->l.natAbs≠(s.put.getD (lastPl s.put cl-1) 0).natAbs-> -l∉cl++atM c s (s.why.getD (lastPl s.put cl-1) 0).toNat):=by
 have v:=topOf_tops (put:=s.put) (ds:=yr s.why) (srt_nodup hs);have b:cl≠[]:=λe=>by subst e;simp[QT] at n
 have w:=lastPl_pos hF b;obtain⟨k,o⟩:∃k,lastPl s.put cl=k+1:=⟨lastPl s.put cl-1,oM⟩;rw[o,GO];obtain⟨i,t,j,m,himp,-⟩:=last_reason d hF v n o;obtain⟨u,f⟩:=(impl_iff d.mks).1 himp;have g:(s.why.getD k 0).toNat<c.list.length+s.learned.length:=oM
 have off:∀l,l∈cl++atM c s (s.why.getD k 0).toNat->l.natAbs≠(s.put.getD k 0).natAbs-> -l∈s.put:=λl a b=>by
  rcases gn.1 a with a|a
  .exact hF l a
  .exact gX (f l a λe=>b (by rw[e]))
 refine⟨i,oM,j,m,λl a=>?_,λl a b r=>?_⟩
 .rcases gn.1 a with a|a
  .have:=d.mks.2 _ (hF l a);omega
  .exact d.lit h g a
 .have p:=off l a b;have q:=off (-l) r (by rwa[GS]);exact d.mks.neg p q
theorem l5Learn_spec {vc v vl v3:Value} {k:Nat} (hc:CnfR F w vc c) (hs:SatR F' w v s) (S:Ints Fr w vl (levs many s.put (yr s.why))) (hv:OwnI zi w v3 (atM c s k)) (e:satOk many c s) (o:c.many=many) (hk:k<c.list.length+s.learned.length) (a1:qT s.put (atM c s k))
  (hK:∀w' v',Ext w w'->OwnI zi w' v' (learnM many c s s.put.length (atM c s k))->(∀x,v'.ownBlock=some x->v3.ownBlock=some x\/w.heap.size<=x)->K v' w'):vcall KO #[vc,v,vl,v3] w K:=by
 refine zf {loops:=[(2,[3,10])]} Tryz.func197 ?_;have a0:=hc;have M:=hs;obtain⟨lv,rfl,aa⟩:=hc;obtain⟨vp,vw,vls,rfl,hp,hw,j⟩:=hs;have d:many<=700/\c.list.length<=2500:=by
  have:=e.cnf;unfold cnfOk at this;simp only[gj,X0] at this;omega
 have a6:=e.few;have m:=e.mks;have ac:=m.len;have hlen:=e.len;have E:=Z2 a1;have Z:=clauseOk_srt (e.atOk hk);have G:(yr s.why).length<=700:=by rw[jH];omega
 have bounds:∀{b:List Int},Fls s.put b->∀x,x∈b->x.natAbs<=many/\placeOf s.put x.natAbs≠0:=λhF x A=>by
  have h1:=m.2 _ (hF x A);have D:=placeOf_ne_zero (hF x A);rw[GS] at D;exact⟨oM,D⟩
 generalize atM c s k=cl at*;refine yp λb1 w1 a7 a2 ad X=>?_;refine yp λb2 w2 a8 H ae Y=>?_;have A2:Blk w2 b1 [nI c.many,lv] zq:=X.ext H;have B2:Blk w2 b2 [vp,vw,vls,nI s.code] zu:=Y;have R:=a2.trans H;refine l5Top_spec (S.ext R) d.1 G (hv.ext R).ints (bounds E) ?_;refine oZ ?_;refine ko (λn u w'=> ∃b f v,n=lastPl s.put b/\u=[v,nI (QT s.put (yr s.why) b).length]/\Ext w w'/\Blk w' b1 [nI c.many,lv] zq/\Blk w' b2 [vp,vw,vls,nI s.code] zu/\
   OwnI zi w' v b/\(∀x,v.ownBlock=some x->v3.ownBlock=some x\/w.heap.size<=x)/\Fls s.put b/\Srt b/\lastPl s.put b<=f/\learnM many c s f b=learnM many c s s.put.length cl) _
  ⟨cl,s.put.length,v3,rfl,rfl,R,A2,B2,hv.ext R,λx A=> .inl A,E,Z,lastPl_le,rfl⟩ ?_
 rintro _ _ _ w3 C ⟨b,f,v,rfl,rfl,V,A3,B3,t,a3,hF,hS,ab,r⟩ hC;refine oZ ?_;refine zb (λa=>?_) (λa=>?_)
 .have D:2<=(QT s.put (yr s.why) b).length:=oM;obtain⟨g1,g2,g3,g4,g5,g6⟩:=learnS_cons e o hF hS D;obtain⟨k1,k2,k3,k4⟩:=learnS_ok e o hF hS D;obtain⟨f,rfl⟩:∃f',f=f'+1:=⟨f-1,oM⟩;rw[learnM,y3 oM] at r;rw[B3.ldAgg zP];refine l5Last_spec (M.ext V) m d.1 t.ints (λl S=>by have:=(bounds hF l S).1;omega) λw4 g=>?_;have E4:=V.trans g;refine zd λw5 h _=>?_;have B:=E4.trans h;have T:=(A3.ext g).ext h;have Q:=(B3.ext g).ext h;obtain⟨q,hq⟩:∃q,lastPl s.put b=q+1:=⟨lastPl s.put b-1,oM⟩;have j:qH many c s b=XO many b (atM c s (s.why.getD q 0).toNat) (s.put.getD q 0).natAbs:=by unfold qH;rw[hq,GO]
  rw[hq,GO] at g1 g3 g4 g5 g6;rw[hq,show((q+1:Nat):Int)-1=(q:Int) from by omega];have J:=hp.ext B;have O:=hw.ext B;simp(disch:=exact oS) only[push_cast,T.ldAgg zD,Q.ldAgg zP,T.ld0,Q.ld0,Q.ld1,y4,J.iaddr,J.load,O.iaddr,O.load];obtain⟨y,hy⟩:∃y:Nat,s.why.getD q 0=y:=⟨(s.why.getD q 0).toNat,oM⟩;rw[hy] at g4 g5 g6 j⊢;rw[gq] at g5 g6 j;refine l5At_spec (a0.ext B) (M.ext B) oM oM λw6 v6 i a5=>?_;have W:=B.trans i;have U:=T.ext i;have B6:=Q.ext i;have L:=hp.ext W;simp(disch:=exact oS) only[push_cast,U.ld0,B6.ld0,y4,gh,L.iaddr,L.load];have a9:=m.2 _ (getD_meS g1);refine l4Abs_spec oM ?_;simp(disch:=exact oS) only[push_cast,U.ld0,y4,gh];rw[o];have N:=(((t.ext g).ext h).ext i);refine l5Join_spec N.ints a5 d.1 g5 g6 λw7 v7 p z a4=>?_;have E7:=W.trans p;rw[<-j] at z;refine l5Top_spec (S.ext E7) d.1 G z.ints (bounds k1) ?_;refine oZ ?_;refine hC (lastPl s.put (qH many c s b)) _ _ k3 ⟨_,f,v7,rfl,rfl,E7,U.ext p,B6.ext p,z,λx A=> .inr ?_,k1,k2,oM,r⟩;have:=a4 x A;have:=W.size;omega
 .have I:learnM many c s s.put.length cl=b:=by
   rw[<-r];cases f with
   |zero=>rfl
   |succ f=>rw[learnM,k6 oM]
  rw[I] at hK;exact hK w3 v V t a3
theorem l4Max_spec {a b:Nat} (c:K (nI (max a b:Nat)) w):vcall zs0 #[nI a,nI b] w K:=by
 refine zf {} Tryz.func228 ?_;refine oZ ?_;refine zb (λh=>?_) (λh=>?_)
 .rwa[show max a b=a from by omega] at c
 .rwa[show max a b=b from by omega] at c
theorem l5Below_spec {v v':Value} {put cl:List Int} {ds:List Bool} (o:Ints F w v (levs many put ds)) (m:many<=700) (e:Ints Fr w v' cl) (s:∀l,l∈cl->l.natAbs<=many/\placeOf put l.natAbs≠0)
  (q:K (nI (Zn put ds cl:Nat)) w):vcall KQ #[v,v',nI (kQ put ds cl:Nat)] w K:=by
 refine zf {loops:=[(3,[7,8])]} Tryz.func199 ?_;have hlen:cl.length<=9223372036854775807:=by obtain⟨_,_,_,p,x,_⟩:=e.shape;simp at p;omega
 have t:=U6 many put ds;generalize r:kQ put ds cl=T;refine vloop_up cl.length (λi u w'=>w'=w/\u=[nI (maxL (((cl.take i).filter λk=>decide (lvM put ds k<T)).map (lvM put ds)):Nat),nI i]) ⟨rfl,rfl⟩ ?_;rintro i _ _ _ C hi ⟨rfl,rfl⟩ n;simp only[push_cast,e.len];refine zb (λa=>?_) (λa=>?_)
 .have f:i<cl.length:=oM;simp(disch:=exact oS) only[push_cast,e.iaddr,e.load];obtain⟨g,h⟩:=s _ (getD_meS f);refine l4Abs_spec oM ?_;simp(disch:=exact oS) only[push_cast,o.iaddr,o.load];rw[levs_get g,levV_lit h];have c:(cl.take (i+1)).filter (λk=>decide (lvM put ds k<T))=(cl.take i).filter (λk=>decide (lvM put ds k<T))++(if lvM put ds (cl.getD i 0)<T then[cl.getD i 0] else[]):=by
   rw[M.take_snoc' (d:=0) f,PJ,PT,List.filter_nil];simp only[X0]
  have j:∀A:List Int,maxL ((A++[cl.getD i 0]).map (lvM put ds))=max (maxL (A.map (lvM put ds))) (lvM put ds (cl.getD i 0)):=λA=>by
   rw[gA];exact maxL_snoc _ _ _ rfl
  refine zb (λb=>?_) (λb=>?_)
  .refine l4Max_spec ?_;rw[inc64 oM];rw[k6 oM] at c;refine n f _ _ ⟨rfl,?_⟩;rw[c,j]
  .rw[inc64 oM];rw[y3 oM,gG] at c;exact n f _ _ ⟨rfl,by rw[c]⟩
 .rw[gD oM,<-r];exact q
end
section
variable {w:World} {K:oK} {F F':Nat->Prop} {many:Nat} {c:Cnf} {s:Sat}
def SpR (Z:Nat->Prop) (w:World) (v:Value) (s:Sat):Prop:=
 ∃vp vw vl,v= .agg #[vp,vw,vl,nI s.code]/\OwnI zi w vp s.put/\OwnI zi w vw s.why/\(∀b,vp.ownBlock=some b->Z b/\vw.ownBlock≠some b)/\(∀b,vw.ownBlock=some b->Z b)/\
  Lists (λb=>Z b/\vp.ownBlock≠some b/\vw.ownBlock≠some b) w vl s.learned
section
variable {Z Z':Nat->Prop} {v:Value} {w':World}
theorem SpR.ext (h:SpR Z w v s) (he:Ext w w'):SpR Z w' v s:=by
 obtain⟨vp,vw,vl,e,a,b,c,d,f⟩:=h;exact⟨vp,vw,vl,e,a.ext he,b.ext he,c,d,f.ext he⟩
theorem SpR.same {S:Nat->Prop} (h:SpR Z w v s) (hw:Same S w w') (c:∀b,Z b->b<w.heap.size->¬S b):SpR Z w' v s:=by
 obtain⟨vp,vw,vl,e,d,f,g,i,j⟩:=h;exact⟨vp,vw,vl,e,d.same hw λb a=>c b (g b a).1 (d.lt a),f.same hw λb a=>c b (i b a) (f.lt a),g,i,j.same hw λb a=>c b a.1⟩
theorem SpR.weaken (h:SpR Z w v s) (c:∀b,Z b->b<w.heap.size->Z' b):SpR Z' w v s:=by
 obtain⟨vp,vw,vl,e,d,f,g,i,j⟩:=h;exact⟨vp,vw,vl,e,d,f,λb a=>⟨c b (g b a).1 (d.lt a),(g b a).2⟩,λb a=>c b (i b a) (f.lt a),j.weaken λb a k=>⟨c b a.1 k,a.2⟩⟩
theorem SpR.below (h:SpR Z w v s):SpR (λb=>Z b/\b<w.heap.size) w v s:=h.weaken λ_ a c=>⟨a,c⟩
theorem SpR.sat (h:SpR Z w v s):SatR Z w v s:=by
 obtain⟨vp,vw,vl,e,c,d,f,g,i⟩:=h;exact⟨vp,vw,vl,e,c.ints.weaken λb a _=>(f b a).1,d.ints.weaken λb a _=>g b a,i.weaken λb a _=>a.1⟩
theorem SpR.empty:SpR Z w (.agg #[.slice none 0 0,.slice none 0 0,.slice none 0 0,nI 0]) emptyS:=
 ⟨_,_,_,rfl,OwnI.nil,OwnI.nil,λb a=>(by cases a),λb a=>(by cases a),jy0⟩
end
theorem copy_ints {v:Value} {xs:List Int} {b:Nat} {t:TypeId} (f:Blk w b [] zU) (a:Ints F w v xs) (c:xs.length*8<=140737488355328)
  (g:∀v' w',OwnI zi w' v' xs->Same (· =b) w w'->(∀x,v'.ownBlock=some x->x=b\/w.heap.size<=x)->K v' w'):vbi .append [zi,zi] t [.slice (some ⟨b,0,none⟩) 0 0,v] w K:=by
 have d:OwnI zi w (.slice (some ⟨b,0,none⟩) 0 0) []:=Blk.own1 (t:=zi) (cs:=[]) (by rw[qK];exact f) (Gc _) rfl rfl oM;refine d.app (ys:=xs) xC a (by simp only[pH];omega) (by simpa using c) λv' w2 i hs h=>g v' w2 i (hs.mono λx _ a=>?_) λx a=>?_
 .exact(K3 a).symm
 .exact(h x a).imp (λe=>(K3 e).symm) id
theorem l5Back_spec {vp vw vl:Value} {L:Nat} (hp:OwnI zi w vp s.put) (hw:OwnI zi w vw s.why) (ac:vl.oneCell'=true) (hlen:s.put.length=s.why.length) (ag:s.put.length<=700) (hL:L<=700) (Y:∀k,k<s.why.length->s.why.getD k 0= -1\/0<=s.why.getD k 0)
  (hK:∀w' F y,Ext w w'->OwnI zi w' F (s.put.take (backN (yr s.why) L s.put.length))->OwnI zi w' y (s.why.take (backN (yr s.why) L s.put.length))->(∀b,F.ownBlock=some b->w.heap.size<=b/\y.ownBlock≠some b)->(∀b,y.ownBlock=some b->w.heap.size<=b)->K (.agg #[F,y,vl,nI s.code]) w'):
  vcall Wz #[.agg #[vp,vw,vl,nI s.code],nI L] w K:=by
 refine zf {loops:=[(3,[5,6])],cuts:=[(16392,[5])]} Tryz.func198 ?_;refine yp λb2 w2 ak a8 av a2=>?_;refine ql qU λb4 A al O aw a3=>?_;have B4:Blk A b2 [vp,vw,vl,nI s.code] zu:=a2.ext O;have R4:Blk A b4 [.slice none 0 0,.slice none 0 0,.slice none 0 0,nI 0] zu:=a3;have E4:=a8.trans O;have R:=hp.ext E4;have ad:=hw.ext E4;have aa:=R.ints;have Z:=ad.ints;have aq:=jH s.why;refine zp (λu w'=>w'=A/\u=[nI (backN (yr s.why) L s.put.length:Nat)]) ?_ ?_
 .intro J hJ;have done:∀n,n<=s.put.length->(∀i,i<n->(lvl (yr s.why) i:Int)<=L)->(n=s.put.length\/(L:Int)<(lvl (yr s.why) n:Int))->J [nI (n:Nat)] A:=λn h1 h2 h3=>hJ _ _ ⟨rfl,by rw[backN_eq h1 h2 h3]⟩;refine vloop_up s.put.length (λn u w'=>w'=A/\u=[nI n,nI (((yr s.why).take n).count true:Nat)]/\∀i,i<n->(lvl (yr s.why) i:Int)<=L) ⟨rfl,rfl,oM⟩ ?_;rintro n _ _ A C hn ⟨rfl,rfl,f⟩ hC;simp only[push_cast,B4.ld0,aa.len];refine zb (λa=>?_) (λa=>done n hn f (.inl oM));have a9:n<s.put.length:=oM;have a7:=Y3 (ds:=yr s.why) (i:=n) oM;have B:=lvl_succ (ds:=yr s.why) (i:=n) oM;have ap:((yr s.why).take n).count true<=700:=gS pQ (by simp;omega);have N:=Ju (why:=s.why) (k:=n) oM;have au:=Y n oM;simp(disch:=exact oS) only[push_cast,B4.ld1,Z.iaddr,Z.load];have j:∀k:Nat,k=lvl (yr s.why) n->¬(L:Int)<k->(n<s.put.length->∀(u':List Value) (w'':World),(w''=A/\u'=[nI (n+1:Nat),nI (((yr s.why).take (n+1)).count true:Nat)]/\∀i,i<n+1->(lvl (yr s.why) i:Int)<=L)->C u' w'')->C [nI (n+1:Nat),nI k] A:=λk Q ar h=>by
   refine h a9 _ _ ⟨rfl,by rw[a7,<-B,Q],λi hi=>?_⟩;by_cases e:i=n
   .subst e;omega
   .exact f i oM
  refine zb (λb=>?_) (λb=>?_)
  .have Q:((yr s.why).take n).count true+1=lvl (yr s.why) n:=by rw[B,N,gk oM];rfl
   rw[inc64 oM];refine zb (λb2=>done n hn f (.inr oM)) (λb2=>?_);rw[inc64 oM];exact j _ Q b2 hC
  .have Q:((yr s.why).take n).count true=lvl (yr s.why) n:=by rw[B,N,gg oM];rfl
   refine zb (λb2=>done n hn f (.inr oM)) (λb2=>?_);rw[inc64 oM];exact j _ Q b2 hC
 rintro _ _ _ ⟨rfl,rfl⟩;have ao:=backN_le (yr s.why) L s.put.length;generalize backN (yr s.why) L s.put.length=n at*;have aj:=E4.size;refine yg xt xd λb5 w5 am o ax a4=>?_;have B5:=B4.ext o;have S:=R.ext o;simp(disch:=exact oS) only[push_cast,B5.ld0,S.cut];have ab:=S.taken (n:=n) oM;refine copy_ints a4 ab.ints (by simp;omega) λv6 w6 t D p=>?_;have B6:=B5.same D oM;refine B6.st t.ints.cells1 t.ints.one ja rfl λw7 T az a5=>?_;have B7:Blk w7 b2 [v6,vw,vl,nI s.code] zu:=a5;have ay:=D.size;have E:=t.same T λx c e=>by rcases p x c with d|d<;>omega
 have z:Same (λx=>x=b5\/x=b2) w5 w7:=(D.mono λx _ e=> .inl e).trans (T.mono λx _ e=> .inr e);have M:Ext w w7:=Ext.then (E4.trans o) z λx c=>oM
 refine yg xt xd λb8 w8 an g b0 a6=>?_;have B8:=B7.ext g;have X:=hw.ext (M.trans g);simp(disch:=exact oS) only[push_cast,B8.ld1,X.cut];have ae:=X.taken (n:=n) oM;refine copy_ints a6 ae.ints (by simp;omega) λv9 w9 v r q=>?_;have B9:=B8.same r oM;have V:=(E.ext g).same r λx c e=>by have:=E.lt c;omega
 refine B9.st v.ints.cells1 v.ints.one ja rfl λw10 l ah G=>?_;have a0:Blk w10 b2 [v6,v9,vl,nI s.code] zu:=G;have b1:=r.size;have U:=V.same l λx c e=>by rcases p x c with d|d<;>omega
 have W:=v.same l λx c e=>by rcases q x c with d|d<;>omega
 have hS:Same (λx=>x=b8\/x=b2) w8 w10:=(r.mono λx _ e=> .inl e).trans (l.mono λx _ e=> .inr e);have I:Ext w w10:=Ext.then (M.trans g) hS λx c=>oM
 have a1:Blk w10 b4 [.slice none 0 0,.slice none 0 0,.slice none 0 0,nI 0] zu:=((((R4.ext o).same z oM).ext g).same hS oM);rw[a0.ldAgg zP];refine a1.stAgg (cs':=[v6,v9,vl,nI s.code]) rfl zP (λx c=>?_) λaf m ai H=>?_
 .simp only[gi,gz,Gh] at c;rcases c with rfl|rfl|rfl|rfl
  .exact t.ints.one
  .exact v.ints.one
  .exact ac
  .rfl
 rw[H.lv zP];refine hK af v6 v9 (Ext.then I m λx c=>oM) (U.same m λx c e=>?_) (W.same m λx c e=>?_) (λx c=>⟨?_,λe=>?_⟩) (λx c=>?_)
 .rcases p x c with d|d<;>omega
 .rcases q x c with d|d<;>omega
 .rcases p x c with d|d<;>omega
 .have:=E.lt c;rcases q x e with d|d<;>omega
 .rcases q x c with d|d<;>omega
theorem Qw {vl:Value} {xss:List (List Int)} (h:Lists F w vl xss):vl.oneCell'=true:=by
 obtain⟨vs,_,a,_⟩:=h;exact a.one
theorem l5Clash_spec {vc v v2:Value} {Z:Nat->Prop} {k:Nat} (hc:CnfR F w vc c) (hs:SpR Z w v s) (d:Ints F' w v2 (atM c s k)) (A:satOk many c s) (Y:c.many=many) (hk:k<c.list.length+s.learned.length) (ac:qT s.put (atM c s k))
  (hK:∀w' v',Ext w w'->SpR (λb=>Z b\/w.heap.size<=b) w' v' (jk many c s (atM c s k))->K v' w'):vcall KP #[vc,v,v2] w K:=by
 refine zf {} Tryz.func165 ?_;have ax:=hc;have bc:=hs.sat;obtain⟨lv,rfl,cx⟩:=hc;obtain⟨vp,vw,vl,rfl,hp,hw,ay,bz,af⟩:=hs;have D:many<=700/\c.list.length<=2500:=by
  have:=A.cnf;unfold cnfOk at this;simp only[gj,X0] at this;omega
 have ch:=A.few;have ag:=A.mks;have cz:=ag.len;have hlen:=A.len;have az:(yr s.why).length<=700:=by rw[jH];omega
 have a8:∀k,k<s.why.length->s.why.getD k 0= -1\/0<=s.why.getD k 0:=λk hk=>(A.why k hk).imp id λh=>h.1;have bounds:∀{an:List Int},Fls s.put an->∀x,x∈an->x.natAbs<=many/\placeOf s.put x.natAbs≠0:=λhF x d=>by
  have h1:=ag.2 _ (hF x d);have h2:=placeOf_ne_zero (hF x d);rw[GS] at h2;exact⟨oM,h2⟩
 have cc:=clauseOk_len (m:=many) (by have:=A.atOk hk;rwa[Y] at this);obtain⟨z1,z2,z3,z4⟩:=U7 A Y hk ac;refine yp λb3 w1 ct c0 d0 br=>?_;refine yp λb4 w2 cu b0 d1 bs=>?_;refine ql qU λb6 w3 cv ad d2 bt=>?_;have A3:Blk w3 b3 [nI c.many,lv] zq:=(br.ext b0).ext ad;have B3:Blk w3 b4 [vp,vw,vl,nI s.code] zu:=bs.ext ad;have R3:Blk w3 b6 [.slice none 0 0,.slice none 0 0,.slice none 0 0,nI 0] zu:=bt;have E3:=c0.trans (b0.trans ad);rw[A3.ldAgg zD,B3.ldAgg zP];refine l5Levels_spec (ax.ext E3) (bc.ext E3) Y D.1 ag hlen a8 λw4 vlev O z ah=>?_;have E4:=E3.trans O;refine l5Top_spec z.ints D.1 az (d.ext E4) (bounds (Z2 ac)) ?_;have A4:=A3.ext O;have B4:=B3.ext O;have R4:=R3.ext O;have d3:=O.size;have ones:∀{U V bf:Value} {cd:Int},U.oneCell'=true->V.oneCell'=true->bf.oneCell'=true->∀x,x∈[U,V,bf,nI cd]->x.oneCell'=true:=λh1 h2 h3 x d=>by
  simp only[gi,gz,Gh] at d;rcases d with rfl|rfl|rfl|rfl
  .exact h1
  .exact h2
  .exact h3
  .rfl
 have code:∀(cd:Int),jk many c s (atM c s k)={s with code:=cd}->zW zU (oP b4 3) (nI cd) w4 λ_ bi=>zt zu (oP b4 0) bi λt22 bj=>zW zu (oP b6 0) t22 bj λ_ bk=>vlv zu (oP b6 0) bk λr6 bl=>K r6 bl:=λcd X=>by
  refine B4.st rfl rfl xd rfl λw5 bd c9 bu=>?_;have B5:Blk w5 b4 [vp,vw,vl,nI cd] zu:=bu;rw[B5.ldAgg zP];refine(R4.same bd oM).stAgg (cs':=[vp,vw,vl,nI cd]) rfl zP (ones hp.ints.one hw.ints.one (Qw af)) λw6 c4 d4 bv=>?_;rw[bv.lv zP];have W:Ext w w6:=Ext.then E4 ((bd.mono λx _ e=>(.inl e:x=b4\/x=b6)).trans (c4.mono λx _ e=> .inr e)) λx d=>oM;refine hK w6 _ W ?_;rw[X];exact⟨vp,vw,vl,rfl,hp.ext W,hw.ext W,λb hb=>⟨.inl (ay b hb).1,(ay b hb).2⟩,λb hb=> .inl (bz b hb),(af.ext W).weaken λb hb _=>⟨.inl hb.1,hb.2⟩⟩
 refine oZ ?_;refine zb (λa=>?_) (λa=>?_)
 .exact code 2 (by unfold jk;rw[k6 oM])
 obtain⟨es,c1,b5,b1⟩:=af;have b8:=b5.ext E4;simp only[push_cast,B4.ld2,b8.len];refine zb (λa2=>?_) (λa2=>?_)
 .exact code 3 (by unfold jk;rw[y3 oM,k6 oM])
 clear code;have X:jk many c s (atM c s k)={s with put:=s.put.take (backN (yr s.why) (Zn s.put (yr s.why) (learnM many c s s.put.length (atM c s k))) s.put.length),why:=s.why.take (backN (yr s.why) (Zn s.put (yr s.why) (learnM many c s s.put.length (atM c s k))) s.put.length),learned:=s.learned++[learnM many c s s.put.length (atM c s k)]}:=by
  unfold jk;rw[y3 oM,y3 oM]
 rw[X] at hK;clear X;refine zd λw5 J _=>?_;have A5:=A4.ext J;have B5:=B4.ext J;simp only[push_cast,A5.ldAgg zD,B5.ldAgg zP,y4];refine yg xt xd λb7 w7 cw L d5 bw=>?_;have E7:=E4.trans (J.trans L);have A7:=A5.ext L;have B7:=B5.ext L;simp only[push_cast,A7.ldAgg zD,B7.ldAgg zP,y4,gh];have c9:=J.size;have cq:=L.size;refine copy_ints bw (d.ext E7) oM λv8 w8 c5 M c2=>?_;have A8:=A7.same M oM;have B8:=B7.same M oM;have ab:Ext w w8:=Ext.then E7 M λx d=>by have:=E4.size;omega
 simp only[push_cast,A8.ldAgg zD,B8.ldAgg zP,y4,gh];have d6:=M.size;have R:=((z.ext J).ext L).same M λx d e=>by have:=z.lt d;omega
 refine l5Learn_spec (ax.ext ab) (bc.ext ab) R.ints c5 A Y hk ac λw9 v9 Q ai c3=>?_;have E9:=ab.trans Q;have d7:=Q.size;have S:∀x,v9.ownBlock=some x->w4.heap.size<=x:=λx d=>by
  rcases c3 x d with e|e
  .rcases c2 x e with e|e<;>omega
  .omega
 generalize cy:learnM many c s s.put.length (atM c s k)=lc at*;refine yg Qd ja λa9 w10 ce n ci ao=>?_;have ak:=(B8.ext Q).ext n;have am:=E9.trans n;have ae:=b5.ext am;simp only[push_cast,ak.ld2];have bq:OwnV zI w10 (.slice (some ⟨a9,0,none⟩) 0 0) []:=Blk.own1 (t:=zI) (cs:=[]) (by rw[UF];exact ao) (Gc _) rfl rfl oM;have b2:∀u,u∈es->u.oneCell'=true:=λu hu=>by
  obtain⟨i,hi,rfl⟩:=gr hu;have:=(b1 i oM).one;simpa[k5,hi] using this
 refine bq.app (us:=es) ZW ae b2 (by simp;omega) (by simp;omega) λv11 bg a6 a5 ba=>?_;have f:∀x,v11.ownBlock=some x->w9.heap.size<=x:=λx d=>by
  rcases ba x d with e|e
  .have e:a9=x:=K3 e;omega
  .omega
 have r:Same (· =a9) w10 bg:=a5.mono λx _ e=>(K3 e).symm;have bm:=ak.same r oM;have c6:=n.size;have cj:=a5.size;have T:=(ai.ext n).same r λx d e=>by have:=ai.lt d;omega
 have au:Ext w bg:=Ext.then am r λx d=>by have:=E9.size;omega
 refine zC Qd ja W4 rfl T.ints.cells1 λcr d8 cf g ck ap=>?_;rw[Gi] at a6;refine OwnV.app1 (a6.ext g) ZW ap T.ints.one oM oM λa1 ca C o bb=>?_;have E:∀x,a1.ownBlock=some x->w9.heap.size<=x:=λx d=>by
  rcases bb x d with e|e
  .exact f x e
  .have:=g.size;omega
 have c7:=g.size;have cl:=o.size;have bn:=(bm.ext g).same o λe=>by have:=f _ e;have:=B8.lt;omega
 have av:Ext w ca:=Ext.then (au.trans g) o λx d=>by have:=f x d;have:=E9.size;omega
 have be:=(T.ext g).same o λx d e=>by have:=f x e;have:=ai.lt d;omega
 refine bn.st C.vals.cells1 C.vals.one Q8 rfl λaj p cm aq=>?_;have bo:Blk aj b4 [vp,vw,a1,nI s.code] zu:=aq;have aw:Ext w aj:=Ext.then av p λx d=>oM
 have G:=C.same p λx d e=>by have:=E x d;have:=B8.lt;omega
 have H:=be.same p λx d e=>by have:=S x d;have:=B4.lt;omega
 have a0:OwnI zi aj vlev (levs many s.put (yr s.why)):=((((R.ext Q).ext n).same r λx d e=>by have:=z.lt d;omega).ext g|>.same o λx d e=>by have:=f x e;have:=z.lt d;omega).same p λx d e=>by have:=ah x d;have:=B3.lt;omega
 refine zd λd9 j _=>?_;have al:=bo.ext j;simp only[push_cast,al.ldAgg zP,y4];have l:=aw.trans j;have c8:=p.size;have cn:=j.size;rw[<-z3];refine l5Below_spec (a0.ext j).ints D.1 (H.ext j).ints (bounds z1) ?_;simp only[push_cast,al.ldAgg zP,y4,gh];have bx:Zn s.put (yr s.why) lc<=700:=by
  unfold Zn;rcases j7 (xs:=(lc.filter λk=>decide (lvM s.put (yr s.why) k<kQ s.put (yr s.why) lc)).map (lvM s.put (yr s.why))) with e|e
  .omega
  .obtain⟨q,_,e⟩:=gw.1 e;rw[<-e];exact gS (lvl_le _ _) az
 refine l5Back_spec (s:={s with code:=s.code}) (hp.ext l) (hw.ext l) C.vals.one hlen oM bx a8 λcb U V y a4 a7 I N=>?_;have bp:Blk cb b6 [.slice none 0 0,.slice none 0 0,.slice none 0 0,nI 0] zu:=by
  have h6:=R3.lt;exact(((((((((R4.ext J).ext L).same M oM).ext Q).ext n).same r oM).ext g).same o λe=>by have:=f _ e;omega).same p oM|>.ext j).ext y
 refine bp.stAgg (cs':=[U,V,a1,nI s.code]) rfl zP (ones a4.ints.one a7.ints.one C.vals.one) λbh B cp ar=>?_;rw[ar.lv zP];have a3:Ext w bh:=Ext.then (l.trans y) B λx d=>oM
 have cg:=R3.lt;have co:=y.size;refine hK bh _ a3 ⟨U,V,a1,rfl,a4.same B λx d e=>by have:=(I x d).1;omega,a7.same B λx d e=>by have:=N x d;omega,λx d=>⟨.inr (by have:=(I x d).1;have:=l.size;omega),(I x d).2⟩,λx d=> .inr (by have:=N x d;have:=l.size;omega),es++[v9],by simp[c1],?_,λi hi=>?_⟩
 .have aa:=((G.ext j).ext y).same B λx d e=>by have:=E x d;omega
  refine aa.vals.weaken λx d _=>⟨.inr (by have:=E x d;have:=E9.size;omega),λe=>?_,λe=>?_⟩
  .have:=(I x e).1;have:=G.lt d;omega
  .have:=N x e;have:=G.lt d;omega
 .simp only[V0,gL] at hi;by_cases b9:i<s.learned.length
  .rw[getD_app_l oM,getD_app_l b9];refine(((b1 i b9).weaken (F':=λx=>(Z x/\vp.ownBlock≠some x/\vw.ownBlock≠some x)/\x<w.heap.size) λx h1 h2=>⟨h1,h2⟩).ext a3).weaken λx d _=>⟨.inl d.1.1,λe=>?_,λe=>?_⟩
   .have:=(I x e).1;have:=l.size;omega
   .have:=N x e;have:=l.size;omega
  .have e1:i=s.learned.length:=oM;have e2:i=es.length:=oM;have g1:(es++[v9]).getD i undef=v9:=by rw[e2];simp
   have g2:(s.learned++[lc]).getD i []=lc:=by rw[e1];simp
   rw[g1,g2];have aa:=((H.ext j).ext y).same B λx d e=>by have:=S x d;omega
   refine aa.ints.weaken λx d _=>⟨.inr (by have:=S x d;have:=E4.size;omega),λe=>?_,λe=>?_⟩
   .have:=(I x e).1;have:=H.lt d;omega
   .have:=N x e;have:=H.lt d;omega
end
section
variable {w:World} {K:oK} {F F':Nat->Prop} {many:Nat} {c:Cnf} {s:Sat}
theorem l5Do_spec {vc v:Value} {Z:Nat->Prop} (hc:CnfR F w vc c) (hs:SpR Z w v s) (B:satOk many c s) (a3:c.many=many)
  (hK:∀w' v',Same Z w w'->SpR (λb=>Z b\/w.heap.size<=b) w' v' (goM many c s)->K v' w'):vcall yw0 #[vc,v] w K:=by
 refine zf {loops:=[(13,[9])]} Tryz.func132 ?_;have S:=hc;have bj:=hs.sat;have bk:=hs;obtain⟨lv,rfl,ad⟩:=hc;obtain⟨vp,vw,vl,rfl,hp,hw,p,a4,J⟩:=hs;have L:many<=700/\c.list.length<=2500:=by
  have:=B.cnf;unfold cnfOk at this;simp only[gj,X0] at this;omega
 have bu:=B.few;have M:=B.mks;have c9:=M.len;have hlen:=B.len;have ac:∀cl,cl∈c.list++s.learned->∀l,l∈cl->l≠0/\l.natAbs<=many:=λcl ad l hl=>satOk.bnd B a3 ad hl;refine yp λb2 w1 c2 bf cb ba=>?_;refine yp λb3 w2 c3 ae cc bb=>?_;refine ql qU λb4 w3 c4 a5 ce bc=>?_;have A3:Blk w3 b2 [nI c.many,lv] zq:=(ba.ext ae).ext a5;have B3:Blk w3 b3 [vp,vw,vl,nI s.code] zu:=bb.ext a5;have R3:Blk w3 b4 [.slice none 0 0,.slice none 0 0,.slice none 0 0,nI 0] zu:=bc;have E3:=bf.trans (ae.trans a5);rw[A3.ldAgg zD];simp only[push_cast,B3.ld0];refine l5Vals_spec (S.ext E3) a3 L.1 (hp.ext E3).ints M λw4 v4 G ak c7=>?_;have E4:=E3.trans G;have A4:=A3.ext G;have B4:=B3.ext G;simp only[push_cast,A4.ldAgg zD,B4.ld2];refine l5Find_spec (S.ext E4) (J.ext E4) ak.ints M L.1 oM ac λw5 k u x H hf=>?_;have E5:=E4.trans H;have A5:=A4.ext H;have X:=B4.ext H;have R5:=(R3.ext G).ext H;have bm:=ak.ext H;have l3:=X.lt;have l4:=R5.lt;have cg:=E5.size;have cf:=G.size;refine oZ ?_;have ones:∀{q E ao:Value} {cd:Int},q.oneCell'=true->E.oneCell'=true->ao.oneCell'=true->∀x,x∈[q,E,ao,nI cd]->x.oneCell'=true:=λh1 h2 h3 x a=>by
  simp only[gi,gz,Gh] at a;rcases a with rfl|rfl|rfl|rfl
  .exact h1
  .exact h2
  .exact h3
  .rfl
 have n:goM many c s=(if 0<=k then jk many c s (atM c s k.toNat) else if 0<=u then{s with put:=s.put++[x],why:=s.why++[u]}
  else if s.put.length=many then{s with code:=1} else{s with put:=s.put++[-(Zt many s.put:Int)],why:=s.why++[-1]}):=by
  unfold goM;rw[hf]
 have push:∀(W:World) (l y:Int),Ext w W->Blk W b3 [vp,vw,vl,nI s.code] zu->Blk W b4 [.slice none 0 0,.slice none 0 0,.slice none 0 0,nI 0] zu->w5.heap.size<=W.heap.size->goM many c s={s with put:=s.put++[l],why:=s.why++[y]}->
   vbuildS zi 1 [(0,nI l)] W λt39 aq=>vbi .append [zi,zi] zi [vp,t39] aq λt40 ar=>zW zi (oP b3 0) t40 ar λ_ au=>zt zi (oP b3 1) au λt43 av=>
   vbuildS zi 1 [(0,nI y)] av λt45 aw=>vbi .append [zi,zi] zi [t43,t45] aw λt46 ax=>zW zi (oP b3 1) t46 ax λ_ ay=>zt zu (oP b3 0) ay λt48 az=>
   zW zu (oP b4 0) t48 az λ_ b0=>vlv zu (oP b4 0) b0 λan b1=>K an b1:=by
  intro W l y E6 B6 R6 bq ag;have ci:=E6.size;refine zC xt xd xF rfl rfl λb7 w7 c5 j br a1=>?_;have r:=E6.trans j;refine(hp.ext r).app1 xC a1 oM oM λq w8 U V A=>?_;have nb:∀x,vp.ownBlock=some x->x<w.heap.size:=λx a=>hp.lt a;have nw:∀x,vw.ownBlock=some x->x<w.heap.size:=λx a=>hw.lt a;have B8:=(B6.ext j).same V λe=>by have:=nb _ e;omega
  refine B8.st U.ints.cells1 U.ints.one ja rfl λw9 D bs a2=>?_;have B9:Blk w9 b3 [q,vw,vl,nI s.code] zu:=a2;have bh:=U.same D λx a e=>by rcases A x a with d|d;(have:=nb _ d;omega);omega
  have bo:=((hw.ext r).same V λx a e=>(p x e).2 a).same D λx a e=>by have:=nw _ a;omega
  simp only[push_cast,B9.ld1];have ch:=V.size;refine zC xt xd xF rfl rfl λc1 w10 bt t bw a8=>?_;refine(bo.ext t).app1 xC a8 oM oM λE cj Q z g=>?_;have b5:=(B9.ext t).same z λe=>by have:=nw _ e;omega
  have ah:=(bh.ext t).same z λx a e=>by
   rcases A x a with d|d
   .exact(p x d).2 e
   .have:=nw _ e;omega
  refine b5.st Q.ints.cells1 Q.ints.one ja rfl λap N bz a9=>?_;have b8:Blk ap b3 [q,E,vl,nI s.code] zu:=a9;have hS:Same (λx=>vp.ownBlock=some x\/vw.ownBlock=some x\/x=b3) w7 ap:=(V.mono λx _ e=> .inl e).trans ((D.mono λx _ e=> .inr (.inr e)).trans ((Same.of_ext t).trans ((z.mono λx _ e=> .inr (.inl e)).trans (N.mono λx _ e=> .inr (.inr e)))));have b9:=(R6.ext j).same hS (by rintro(e|e|e);exact absurd (nb _ e) oM;exact absurd (nw _ e) oM;omega);have Y:=ah.same N λx a e=>by rcases A x a with d|d;(have:=nb _ d;omega);omega
  have bx:=z.size;have a0:=Q.same N λx a e=>by rcases g x a with d|d;(have:=nw _ d;omega);omega
  rw[b8.ldAgg zP];refine b9.stAgg (cs':=[q,E,vl,nI s.code]) rfl zP (ones Y.ints.one a0.ints.one (Qw J)) λa7 O c0 aa=>?_;rw[aa.lv zP];have o:Same (λx=>vp.ownBlock=some x\/vw.ownBlock=some x\/x=b3\/x=b4) w7 a7:=(hS.mono λx _ e=>e.imp id λe=>e.imp id .inl).trans (O.mono λx _ e=> .inr (.inr (.inr e)));have ab:Same (λb=>vp.ownBlock=some b\/vw.ownBlock=some b) w a7:=by
   refine⟨o.os.trans r.os,o.tape.trans r.tape,o.output.trans r.output,gS r.size o.size,λb f hn=>?_⟩;rw[o.block b (by have:=r.size;omega) (by rintro(e|e|e|e);exact hn (.inl e);exact hn (.inr e);omega;omega),r.block b f id]
  have bp:=hS.size;refine hK a7 _ (ab.mono λb _ e=>e.elim (λe=>(p b e).1) (a4 b)) ?_;rw[ag];refine⟨q,E,vl,rfl,Y.same O λx a e=>by rcases A x a with d|d;(have:=nb _ d;omega);omega,a0.same O λx a e=>by rcases g x a with d|d;(have:=nw _ d;omega);omega,λx a=>?_,λx a=>?_,?_⟩
  .rcases A x a with e|e
   .refine⟨.inl (p x e).1,λe2=>?_⟩;rcases g x e2 with e3|e3
    .exact(p x e).2 e3
    .have:=nb _ e;omega
   .refine⟨.inr oM,λe2=>?_⟩;rcases g x e2 with e3|e3
    .have:=nw _ e3;omega
    .have:=U.lt a;omega
  .rcases g x a with e|e
   .exact .inl (a4 x e)
   .exact .inr oM
  .refine(((J.weaken (F':=λb=>(Z b/\vp.ownBlock≠some b/\vw.ownBlock≠some b)/\b<w.heap.size) λb h1 h2=>⟨h1,h2⟩).same ab λb f _ e=>e.elim f.1.2.1 f.1.2.2).weaken λx a _=>⟨.inl a.1.1,λe=>?_,λe=>?_⟩)
   .rcases A x e with d|d
    .exact a.1.2.1 d
    .have:=a.2;omega
   .rcases g x e with d|d
    .exact a.1.2.2 d
    .have:=a.2;omega
 rcases find_cases s.put (c.list++s.learned) with⟨i,u',x',hi,e,be⟩|⟨hn,⟨i,x',hi,e,hu,-⟩|⟨e,-⟩⟩
 .rw[hf,Gp,Gp] at e;obtain⟨rfl,rfl,rfl⟩:=e;rw[V0] at hi;rw[k6 oM,gq] at n;refine zb (λ_=>?_) (λb=>absurd oM b);refine zd λW I _=>?_;have E6:=E5.trans I;have A6:=A5.ext I;have B6:=X.ext I;simp only[push_cast,A6.ldAgg zD,B6.ldAgg zP,y4];refine l5At_spec (S.ext E6) (bj.ext E6) hi oM λw7 v7 j bn=>?_;have r:=E6.trans j;have A7:=A6.ext j;have B7:=B6.ext j;simp only[push_cast,A7.ldAgg zD,B7.ldAgg zP,y4,gh];refine l5Clash_spec (S.ext r) (bk.below.ext r) bn B a3 hi be λw8 v8 af a6=>?_;have R8:=((R5.ext I).ext j).ext af;have E8:=r.trans af;rw[<-n] at a6;obtain⟨p8,y8,l8,rfl,h8⟩:=a6.sat.fields;refine R8.stAgg (cs':=[p8,y8,l8,nI (goM many c s).code]) rfl zP h8 λw9 D bs a2=>?_;rw[a2.lv zP];refine hK w9 _ (Same.of_ext (Ext.then E8 D λx a=>oM)) ((a6.same D λb f _ e=>?_).weaken λb f _=>?_)
  .have:=r.size;have:=R5.lt;have:=I.size;have:=j.size;rcases f with f|f
   .have:=f.2;omega
   .omega
  .rcases f with f|f
   .exact .inl f.1
   .exact .inr (by have:=r.size;omega)
 .rw[hf,Gp,Gp] at e;obtain⟨rfl,rfl,rfl⟩:=e;rw[y3 oM,k6 oM] at n;refine zb (λb=>absurd b oM) (λ_=>zb (λ_=>?_) (λb=>absurd oM b));simp only[push_cast,X.ld0];exact push w5 _ _ E5 X R5 (gu _) n
 .rw[hf,Gp,Gp] at e;obtain⟨rfl,rfl,rfl⟩:=e;rw[y3 oM,y3 oM] at n;refine zb (λb=>absurd b oM) (λ_=>zb (λb=>absurd b oM) (λ_=>?_));have bi:=(hp.ext E5).ints;simp only[push_cast,X.ld0,A5.ld0,bi.len];refine zb (λb=>?_) (λb=>?_)
  .rw[k6 oM] at n;refine X.st rfl rfl xd rfl λW ai bq bd=>?_;have B6:Blk W b3 [vp,vw,vl,nI 1] zu:=bd;rw[B6.ldAgg zP];refine(R5.same ai oM).stAgg (cs':=[vp,vw,vl,nI 1]) rfl zP (ones hp.ints.one hw.ints.one (Qw J)) λw7 bl br a1=>?_;rw[a1.lv zP];have R:Ext w w7:=Ext.then E5 ((ai.mono λx _ e=>(.inl e:x=b3\/x=b4)).trans (bl.mono λx _ e=> .inr e)) λx a=>oM;refine hK w7 _ (Same.of_ext R) ?_;rw[n];exact⟨vp,vw,vl,rfl,hp.ext R,hw.ext R,λb f=>⟨.inl (p b f).1,(p b f).2⟩,λb f=> .inl (a4 b f),(J.ext R).weaken λb f _=>⟨.inl f.1,f.2⟩⟩
  .rw[y3 oM] at n;obtain⟨f1,f2,f3,f4⟩:=free_spec M oM;have al:=bm.ints;have ca:=signs_len many s.put;refine vloop_up (Zt many s.put-1) (λi u w'=>u=[nI (i+1:Nat)]/\w'=w5) ⟨rfl,rfl⟩ ?_;rintro i _ _ w5 C hi ⟨rfl,rfl⟩ hC;have aj:=sgn_pos M (m:=((i+1:Nat):Int)) oM;rw[pG] at aj;simp(disch:=exact oS) only[sl0,al.iaddr,gq,al.load];rw[signs_get oM,aj];have am:Z70 s.put ((i+1:Nat):Int)=0↔placeOf s.put (i+1)=0:=by
    unfold Z70;rw[pG];by_cases hm:((i+1:Nat):Int)∈s.put
    .rw[k6 hm];have:=placeOf_ne_zero hm;rw[pG] at this;exact⟨λh=>oM,λh=>absurd h this⟩
    .rw[y3 hm];by_cases T:placeOf s.put (i+1)=0
     .rw[k6 T];simp[T]
     .rw[y3 T];simp[T]
   simp only[yR0];refine zb (λb6=>?_) (λb6=>?_)
   .have bg:i<Zt many s.put-1:=by
     refine GL λc6=>b6 (am.2 ?_);have:i+1=Zt many s.put:=oM;rw[this];exact f3
    simp only[Jn];rw[inc64 oM];exact hC bg _ _ ⟨rfl,rfl⟩
   .have bv:i+1=Zt many s.put:=by
     refine GL λc8=>f4 (i+1) oM oM (am.1 (by simpa using b6))
    have e1:IntKind.i64.wrap (0-((i+1:Nat):Int))= -(Zt many s.put:Int):=by rw[zl oM oM];omega
    simp(disch:=(simp only[push_cast])) only[UA,Uz,yB,Gd,X.ld0,Zs0,e1];exact push w5 _ _ E5 X R5 (gu _) n
theorem l5Run_spec {vc:Value} {n:Nat} (hc:CnfR F w vc c) (Z:cnfOk c=true) (D:c.many=many) (hn:n<=4000)
  (hK:∀w' v',Ext w w'->SpR (λb=>w.heap.size<=b) w' v' (runM many c n emptyS)->K v' w'):vcall zq0 #[vc,nI n] w K:=by
 refine zf {loops:=[(3,[6])]} Tryz.func107 ?_;have Y:=hc.below;obtain⟨lv,rfl,a4⟩:=hc;refine yp λb2 w1 a1 h a5 T=>?_;refine ql qU λb4 w2 a2 E a6 U=>?_;refine Qa xU0 (us:=[]) rfl rfl ?_;refine ql qU λM w3 a3 o a7 V=>?_;have B3:Blk w3 M [.slice none 0 0,.slice none 0 0,.slice none 0 0,nI 0] zu:=V;have A3:Blk w3 b2 [nI c.many,lv] zq:=(T.ext E).ext o;have R3:Blk w3 b4 [.slice none 0 0,.slice none 0 0,.slice none 0 0,nI 0] zu:=U.ext o;refine B3.stAgg (cs':=[.slice none 0 0,.slice none 0 0,.slice none 0 0,nI 0]) rfl zP (λx z=>by simp only[gi,gz,Gh] at z;rcases z with rfl|rfl|rfl|rfl<;>rfl) λH q a8 B=>?_;have E4:Ext w H:=Ext.then (h.trans (E.trans o)) q λx z=>by have:=h.size;omega
 have A4:=A3.same q oM;have R:=R3.same q oM;have aa:=E4.size;have fin:∀(f:World) (p y l:Value),Ext w f->H.heap.size<=f.heap.size->Blk f b4 [.slice none 0 0,.slice none 0 0,.slice none 0 0,nI 0] zu->Blk f M [p,y,l,nI (runM many c n emptyS).code] zu->SpR (λb=>H.heap.size<=b) f (.agg #[p,y,l,nI (runM many c n emptyS).code]) (runM many c n emptyS)->
   zt zu (oP M 0) f λt21 I=>zW zu (oP b4 0) t21 I λ_ J=>vlv zu (oP b4 0) J λr4 L=>K r4 L:=by
  intro f p y l v t A k m;rw[k.ldAgg zP];obtain⟨O,Q,N,e,S⟩:=m.sat.fields;obtain⟨rfl,rfl,rfl⟩:p=O/\y=Q/\l=N:=(by simpa using e);refine A.stAgg (cs':=[p,y,l,nI (runM many c n emptyS).code]) rfl zP S λw6 d a0 W=>?_;rw[W.lv zP];exact hK w6 _ (Ext.then v d λx z=>by have:=h.size;omega) ((m.same d λb g _ e=>by have:=R.lt;omega).weaken λb g _=>oM)
 refine vloop_up n (λi u w'=> ∃p y l,u=[nI i]/\Ext w w'/\H.heap.size<=w'.heap.size/\Blk w' b2 [nI c.many,lv] zq/\Blk w' b4 [.slice none 0 0,.slice none 0 0,.slice none 0 0,nI 0] zu/\Blk w' M [p,y,l,nI (runM many c i emptyS).code] zu/\SpR (λb=>H.heap.size<=b) w' (.agg #[p,y,l,nI (runM many c i emptyS).code]) (runM many c i emptyS))
  ⟨_,_,_,rfl,E4,gu _,A4,R,B,SpR.empty⟩ ?_
 rintro i _ _ f C hi ⟨p,y,l,rfl,v,t,A5,A,k,m⟩ hC;refine oZ ?_;refine zb (λa=>?_) (λa=>?_)
 .simp only[push_cast,k.ld3];refine zb (λb=>?_) (λb=>?_)
  .rw[A5.ldAgg zD,k.ldAgg zP];have G:=run_ok (n:=i) D (empty_ok (many:=many) Z);refine l5Do_spec (Y.ext v) m G D λw6 v6 d s=>?_;have r:goM many c (runM many c i emptyS)=runM many c (i+1) emptyS:=by rw[run_succ];unfold stepM;rw[k6 b]
   rw[r] at s;have l2:=A4.lt;have l4:=R.lt;have l5:=B.lt;have a0:=d.size;have A6:=A5.same d oM;have R6:=A.same d oM;have B6:=k.same d oM;obtain⟨O,Q,N,rfl,S⟩:=s.sat.fields;refine B6.stAgg (cs':=[O,Q,N,nI (runM many c (i+1) emptyS).code]) rfl zP S λw7 j a9 X=>?_;rw[inc64 oM];have E6:Ext w w6:=Ext.then v d λx z=>oM;refine hC oM _ _ ⟨O,Q,N,rfl,Ext.then E6 j λx z=>by have:=h.size;omega,oM,A6.same j oM,R6.same j oM,X,(s.same j λb g _ e=>?_).weaken λb g _=>?_⟩
   .rcases g with g|g<;>omega
   .rcases g with g|g<;>omega
  .have e:runM many c n emptyS=runM many c i emptyS:=by
    rw[show n=i+(n-i) from by omega,run_add,run_stop b]
   rw[<-e] at k m;exact fin f p y l v t A k m
 .have:n=i:=oM;subst this;exact fin f p y l v t A k m
end
end Go.Proofs.YtfjlkobhagjdaaaGreatDoor
namespace Go.Proofs.YtfjlkobhagjdaaaGreatDoor
open Go Go.Vc Go.Proofs
section
variable {w:World} {K:oK} {F F' D G:Nat->Prop} {dv tv iv lv:Value} {ds:List M.Dcl} {ts:List M.Tm} {ins:List Bool} {c:M.Cnf}
theorem l9Folds_spec (E:DclsR F w dv ds) (J:TmsR G w tv ts) (s:M.declOk ds=true) (m:∀t,t∈ts->M.sortM ds t≠ -1) (hs:ts.length<=2000000)
  (B:∀w' lv,Ext w w'->TmsR (λ_=>True) w' lv (ts.map (M.foldT ds))->K lv w'):vcall KK #[dv,tv] w K:=by
 refine zf {loops:=[(3,[5,6])]} Tryz.func84 ?_;refine vbuildS_row (xs:=[]) (us:=[]) (k:=5) yA yN zo rfl (by simp) dC λb1 w1 D p L o=>?_;have z:LstH (λ_=>False) w1 (.slice (some ⟨b1,0,none⟩) 0 0) []:=⟨[],Blk.ownk (css:=[]) (by rw[qL];exact o) (by simp) rfl dC,rfl,λi hi=>absurd hi (Pv _)⟩;refine vloop_up ts.length (λi u w'=> ∃lv H,u=[lv,nI i]/\Ext w w'/\LstH H w' lv ((ts.take i).map (M.foldT ds))/\∀x,lv.ownBlock=some x->w.heap.size<=x/\¬H x)
  ⟨_,_,rfl,p,z,λx c=>⟨by have e:b1=x:=K3 c;omega,id⟩⟩ ?_
 rintro i _ _ w2 C hi ⟨lv,H,rfl,d,g,hO⟩ A;have l:=(J.weaken (F':=λx=>G x/\x<w.heap.size) λx a b=>⟨a,b⟩).ext d;simp only[push_cast,l.len];refine zb (λa=>?_) (λa=>?_)
 .have f:i<ts.length:=oM;simp(disch:=exact oS) only[push_cast,l.iaddr];refine l.load zc f λx c=>?_;refine l3Fold_spec _ (E.ext d) s c (m _ (M.getD_mem f _)) λw3 rv j I=>?_;have z2:=d.size;have z3:=j.size;have llt:∀x,lv.ownBlock=some x->x<w2.heap.size:=λx c=>g.lt c;refine LstH.push (g.ext j) (λx c=>⟨(hO x c).2,λe=>?_⟩) I (by rw[Q1,gl];omega) λN y v r n=>?_
  .have:=llt x c;have:=(hO x c).1;rcases e with e|e<;>omega
  try simp only[push_cast]
  rw[inc64' oM];rw[show(ts.take i).map (M.foldT ds)++[M.foldT ds (ts.getD i default)]=(ts.take (i+1)).map (M.foldT ds) by rw[<-JB f,gA];rfl] at n;refine A f _ _ ⟨y,_,rfl,Ext.then (d.trans j) v λx c=>(hO x c).1,n,λx c=>?_⟩;rcases r x c with e|e
  .refine⟨(hO x e).1,λh=>?_⟩;have:=llt x e;have:=(hO x e).1;rcases h.1 with h|h
   .exact(hO x e).2 h
   .rcases h with h|h<;>omega
  .exact⟨oM,λh=>by have:=h.2;omega⟩
 .have q:i=ts.length:=oM;subst q;rw[gC] at g;exact B w2 lv d (g.tms.weaken λ_ _ _=>trivial)
theorem spec_BlastEnv_spec (T:Jm ds) (H:DclsR F w dv ds) (hi:Bools F' w iv ins) (d:M.declOk ds=true) (hl:ins.length=M.nIn ds)
  (X:∀w' r,Ext w w'->OwnI zi w' r (M.envB ds ins)->(∀b,r.ownBlock=some b->w.heap.size<=b)->K r w'):vcall JV #[dv,iv] w K:=by
 refine zf {loops:=[(6,[5,6,7]),(10,[6,8,9])],cuts:=[(12292,[])]} Tryz.func109 ?_;obtain⟨a2,a3⟩:=M.nIn_eq d;refine spec_nil λv1 w1 R g A=>?_;refine zp (λu w'=>u=[]/\Ext w1 w') (λC E=>?_) ?_
 .refine spec_DeclOk_spec (H.ext g) T λw2 f=>?_;rw[d];simp only[push_cast,Gz,((hi.ext g).ext f).len];refine sbits8_spec (k:=ds.length) d (gu _) (by rw[gC];exact(H.ext g).ext f) λw3 J=>?_;rw[M.bitT_all];refine oZ ?_;refine zb (λh=>absurd oM h) (λ_=>E _ _ ⟨rfl,f.trans J⟩)
 rintro _ _ w2 ⟨rfl,f⟩;have h4:=(M.decl_iff.1 d).1;have I:=M.dpos d;have L:=M.envB_len ds ins;refine vloop_up ds.length (λi u w'=> ∃r,u=[r,nI (J5 ds i),nI i]/\Ext w w'/\OwnI zi w' r ((M.envB ds ins).take i)/\∀b,r.ownBlock=some b->w.heap.size<=b) ⟨v1,rfl,g.trans f,R.ext f,A⟩ ?_;rintro i _ _ w3 C a0 ⟨r,rfl,s,p,o⟩ E;have n:=H.ext s;have y:=hi.ext s;simp only[push_cast,n.len];refine zb (λa=>?_) (λa=>?_)
 .have l:i<ds.length:=oM;have U:=M.dcl_wide d l;have q:=off_succ d l;have W:=off_le d (i:=i+1) oM;have het:=envB_take (ins:=ins) I l;obtain⟨wd,m⟩:∃wd:Nat,(ds.getD i (M.nada,0)).2=wd:=⟨_,(Int.toNat_of_nonneg oM).symm⟩;rw[m] at U q het;rw[gq] at q het;generalize v:(ins.drop (J5 ds i)).take wd=bs at het;have t:bs.length=wd:=by rw[<-v,gl,GY,hl];omega
  refine vloop_up wd (λj u w'=>u=[nI (J5 ds i+j:Nat),nI (M.msbN (bs.take j)),nI j]/\w'=w3) ⟨rfl,rfl⟩ ?_;rintro j _ _ _ C1 hj ⟨rfl,rfl⟩ G;have a1:=M.msb_lt (bs.take j);have a4:2^(bs.take j).length<=2^4:=gJ oM (by rw[gl];omega);simp(disch:=exact oS) only[push_cast,n.iaddr,gq,n.load1,m];refine zb (λc=>?_) (λc=>?_)
  .have z:j<wd:=oM;have Z:ins.getD (J5 ds i+j) false=bs.getD j false:=by
    rw[<-v,M.take_getD z,k5,k5,pZ]
   simp(disch:=exact oS) only[push_cast,y.iaddr,gq,y.load,zl];refine Xe ?_;have Y:0<=M.b2i (bs.getD j false)/\M.b2i (bs.getD j false)<=1:=by unfold M.b2i;split<;>omega
   have D:=msb_snoc (bs.take j) (bs.getD j false);rw[<-M.take_add (by omega:j<bs.length) false] at D;rw[show((J5 ds i:Int)+(j:Int)).toNat=J5 ds i+j by omega,Z];simp(disch:=exact oS) only[push_cast,zl];refine G z _ _ ⟨?_,rfl⟩;rw[D,Int.mul_comm 2];simp[Int.add_assoc]
  .have O:j=wd:=oM;subst O;rw[<-t,gC,t];refine push_int p (by rw[gl];omega) λw6 r6 S B Q=>?_;rw[<-het,<-M.take_add oM 0] at B;have z3:=s.size;rw[inc64' oM];refine E l _ _ ⟨r6,by rw[q,Int.natCast_add (J5 ds i)],Ext.then s S λx V=>o x V,B,λx V=>?_⟩;rcases Q x V with e|e
   .exact o x e
   .omega
 .have N:i=ds.length:=oM;subst N;rw[<-L,gC] at p;exact X w3 r s p o
theorem Zr0 {put:List Int} {i n:Nat} (h:i<n):decide (M.sgnV put (2+i)=1)=(M.insV (M.wayM put) n).getD i false:=by
 rw[M.insV_get h];unfold M.sgnV M.wayM;rw[Nat.add_comm 2 i];by_cases c:((i+2:Nat):Int)∈put
 .rw[k6 c,gk c];rfl
 .rw[y3 c,gg c];split<;>rfl
theorem l9Search_spec (aa:Jm ds) (hd:DclsR F w dv ds) (I:M.declOk ds=true) (hc:CnfR G w (.agg #[nI c.many,lv]) c) (f:M.cnfOk c=true) (hn:1+M.nIn ds<=c.many.toNat)
  (hK:∀w' ev,Ext w w'->OwnI zi w' ev (M.searchM 4000 ds c).1->(∀x,ev.ownBlock=some x->w.heap.size<=x)->K (.tuple #[ev,nI (M.searchM 4000 ds c).2]) w'):
  vcall JP #[dv,.agg #[nI c.many,lv]] w K:=by
 refine zf {loops:=[(7,[8,9])]} Tryz.func85 ?_;obtain⟨ah,ai⟩:=M.nIn_eq I;obtain⟨many,hm⟩:∃many:Nat,c.many=many:=⟨c.many.toNat,oM⟩;have a4:c.many.toNat=many:=oM
 have B:many<=700:=by
  have:=f;unfold M.cnfOk at this;simp only[gj,X0] at this;omega
 refine yp λb1 w1 ac z al a0=>?_;have A1:Blk w1 b1 [nI c.many,lv] zq:=a0;rw[A1.ldAgg zD];refine l5Run_spec (many:=many) (n:=4000) (hc.ext z) f hm (gu _) λw2 v2 A v=>?_;have z1:=z.size;have z2:=A.size;have T:=(M.run_ok (n:=4000) hm (M.empty_ok (many:=many) f)).mks;refine ql qU λb4 w3 ad a5 am a1=>?_;have d:M.searchM 4000 ds c=if(M.runM many c 4000 M.emptyS).code=1 then(M.envB ds (M.insV (M.wayM (M.runM many c 4000 M.emptyS).put) (M.nIn ds)),1) else if(M.runM many c 4000 M.emptyS).code=2 then([],2) else([],3):=by rw[<-a4];rfl
 generalize M.searchM 4000 ds c=sr at d hK;generalize M.runM many c 4000 M.emptyS=s at v d T;obtain⟨p,y,l,rfl,h8⟩:=v.sat.fields;obtain⟨p',y',l',e',hp,_,aj,_,_⟩:=v;obtain⟨rfl,rfl,rfl⟩:p=p'/\y=y'/\l=l':=by simpa using e'
 have R3:Blk w3 b4 [.slice none 0 0,.slice none 0 0,.slice none 0 0,nI 0] zu:=a1;refine R3.stAgg (cs':=[p,y,l,nI s.code]) rfl zP h8 λw4 a9 an Q=>?_;have q:Ext w2 w4:=Ext.then a5 a9 λx J=>oM
 have N:=(z.trans A).trans q;have A4:=A1.ext (A.trans q);simp only[push_cast,Q.ld3];refine zb (λa=>?_) (λa=>?_)
 .rw[k6 a] at d;subst d;rw[A4.ldAgg zD];simp only[push_cast,Q.ld0];refine l5Vals_spec (hc.ext N) hm B (hp.ext q).ints T λL v5 g ab o=>?_;have Z:=N.trans g;have z5:=Z.size;refine yg qr0 qb0 λb6 w6 ae a6 ao a3=>?_;have a8:OwnB qx w6 (.slice (some ⟨b6,0,none⟩) 0 0) []:=Blk.own1 (t:=qx) (cs:=[]) (by rw[UE];exact a3) (Gc _) rfl rfl oM;refine vloop_up (M.nIn ds) (λi u w'=> ∃r,u=[r,nI i]/\Ext L w'/\OwnB qx w' r ((M.insV (M.wayM s.put) (M.nIn ds)).take i)/\∀b,r.ownBlock=some b->L.heap.size<=b) ⟨_,rfl,a6,a8,λb R=>by have e:b6=b:=K3 R;omega⟩ ?_;rintro i _ _ w7 C hi ⟨r,rfl,e7,E,V⟩ hC;refine sbits8_spec (k:=ds.length) I (gu _) (by rw[gC];exact hd.ext (Z.trans e7)) λw8 m=>?_;rw[M.bitT_all];refine oZ ?_;have O:=e7.trans m;have hlen:=M.insV_len (M.wayM s.put) (M.nIn ds);refine zb (λa=>?_) (λa=>?_)
  .have S:i<M.nIn ds:=oM;have Y:=(ab.ext O).ints;have ak:=M.signs_len many s.put;simp(disch:=exact oS) only[push_cast,zl,Y.iaddr,Y.load];rw[show((2:Int)+(i:Int)).toNat=2+i by omega,M.signs_get oM,Zr0 S];refine one_bool λw9 b9 af j H=>?_;refine OwnV.app (us:=[.bool ((M.insV (M.wayM s.put) (M.nIn ds)).getD i false)]) ((E.ext m).ext j) qU0 H.bools (by simp[Value.oneCell']) (by simp only[Q1,gL,gl];omega) (by simp only[Q1,gL,gl];omega) λv10 w10 W X U=>?_;have z8:=m.size;have z9:=j.size;have z7:=e7.size;refine hC S _ _ ⟨v10,rfl,Ext.then (O.trans j) X λb R=>V b R,?_,λb R=>?_⟩
   .rw[M.take_add oM false];unfold OwnB;rw[gA];exact W
   .rcases U b R with h|h
    .exact V b h
    .omega
  .have ag:i=M.nIn ds:=oM;rw[gD oM] at E;refine spec_BlastEnv_spec aa (hd.ext (Z.trans O)) (E.ext m).bools I hlen λw9 r9 j H a7=>?_;have z8:=O.size;exact hK w9 r9 (Z.trans (O.trans j)) H λx J=>by have:=a7 x J;omega
 .rw[y3 a] at d;have z4:=N.size;refine zb (λa2=>?_) (λa2=>?_)
  .rw[k6 a2] at d;subst d;exact spec_nil λv5 L D g o=>hK L v5 (N.trans g) D λx J=>by have:=o x J;omega
  .rw[y3 a2] at d;subst d;exact spec_nil λv5 L D g o=>hK L v5 (N.trans g) D λx J=>by have:=o x J;omega
theorem l9Solve_spec (u:Jm ds) (c:KC ds ts=true) (j:DclsR F w dv ds) (v:TmsR G w tv ts)
  (f:∀w' ev,Ext w w'->OwnI zi w' ev (xV ds ts []).1->(∀x,ev.ownBlock=some x->w.heap.size<=x)->K (.tuple #[ev,nI (xV ds ts []).2]) w'):vcall KJ #[dv,tv] w K:=by
 refine zf {} Tryz.func55 ?_;obtain⟨L,a2,a3⟩:=all8_iff.1 c;refine l9Folds_spec j v a2 (λt v=>by rw[(QU (a3 t v)).1];decide) oM λw1 lv a o=>?_;refine l8Cnf_spec (Q3 c) (j.ext a) o λw2 cv ls k g=>?_;have B:=a.trans k;refine oZ ?_;refine cnf_new g λN b4 D l d i=>?_;have b:=B.trans l;have z4:=b.size;refine zn (λh=>?_) (λh=>?_)
 .have E:=JD (nots:=[]) c (by simpa using h);refine spec_nil λv5 I r m p=>?_;have:=f I v5 (b.trans m);rw[E] at this;exact this r λx y=>by have:=p x y;omega
 .have C:(cnfE ds (ts.map (M.foldT ds))).2=0:=(by simpa using h);obtain⟨z,A,H⟩:=solveR_run (nots:=[]) c C (λe he=>by cases he) (by simp);rw[x80] at z A;rw[d.ldAgg zD];refine l9Search_spec u (j.ext b) a2 i.cnf A H λJ ev n s q=>?_;refine oZ ?_;rw[z] at f;exact f J ev (b.trans n) s λx y=>by have:=q x y;omega
theorem spec_Solve_spec (b:Jm ds) (l:DclsR F w dv ds) (m:TmsR G w tv ts)
  (k:∀w' ev,Ext w w'->OwnI zi w' ev (xV ds ts []).1->(∀x,ev.ownBlock=some x->w.heap.size<=x)->K (.tuple #[ev,nI (xV ds ts []).2]) w'):vcall zF0 #[dv,tv] w K:=by
 refine zf {} Tryz.func34 ?_;refine l8All_spec b l m λw1 a=>?_;refine oZ ?_;have q:=a.size;refine zn (λh=>?_) (λh=>?_)
 .have n:=Qf (ds:=ds) (ts:=ts) (nots:=[]) (by simpa using h);refine spec_nil λv5 o g c e=>?_;have:=k o v5 (a.trans c);rw[n] at this;exact this g λx j=>by have:=e x j;omega
 .refine l9Solve_spec b (by simpa using h) (l.ext a) (m.ext a) λp ev d i f=>?_;refine oZ ?_;exact k p ev (a.trans d) i λx j=>by have:=f x j;omega
theorem xV0 {at_ an am ar ab:Addr} (e:DclsR F w dv ds) (f:TmsR G w tv ts) (hs:ts.length<=2000000) (er:Er w at_ an am ar ab)
  (d:∀w' ev,Ext w w'->OwnI zi w' ev (xV ds ts []).1->(∀x,ev.ownBlock=some x->w.heap.size<=x)->K (.tuple #[ev,nI (xV ds ts []).2]) w'):vcall zL0 #[dv,tv] w K:=by
 refine zf {} Tryz.func29 ?_;refine solved_spec e f hs er λg ev a c b=>?_;refine oZ ?_;exact d g ev a c b
end
section
variable {ds:List M.Dcl} {ts:List M.Tm} {t:M.Tm} {e:List Int}
theorem yL0 (h:KC ds ts=true):M.declOk ds=true/\M.sorted0 ds ts/\ts.length<=8:=
 ⟨(all8_iff.1 h).2.1,λt a=>(QU ((all8_iff.1 h).2.2 t a)).1,(all8_iff.1 h).1⟩
theorem ZJ0:∀e:List Int,e∈([]:List (List Int))->M.envOk ds e=true:=λe he=>by cases he
theorem few_nots (h:ts.length<=8):ts.length+([]:List (List Int)).length<=90:=by simp;omega
theorem qw0 (h:KC ds ts=true):xV ds ts []=M.solveM 4000 ds ts []:=k6 h
theorem yj0 (h:KC ds ts=true):(xV ds ts []).2=1\/(xV ds ts []).2=2\/(xV ds ts []).2=3:=by
 obtain⟨a,b,c⟩:=yL0 h;rw[qw0 h];exact M.solve_code a b ZJ0 (few_nots c)
end
section
variable {ds:List M.Dcl} {ts:List M.Tm} {t:M.Tm} {e:List Int} {w:Int} {f n:Nat}
def isT (t:M.Tm) (w:Int) (n:Nat):M.Tm:= .mk 15 0 0 M.nada [t,.mk 20 w n M.nada []]
def kC (ds:List M.Dcl) (ts:List M.Tm) (t:M.Tm) (w:Int) (n:Nat):Int:=(xV ds (ts++[isT t w n]) []).2
def leastG (ds:List M.Dcl) (ts:List M.Tm) (t:M.Tm) (w:Int):Nat->Nat->Int×Int
 |0,_=>(0,2)
 |f+1,n=>if kC ds ts t w n=1 then(n,1) else if kC ds ts t w n=2 then leastG ds ts t w f (n+1) else(0,kC ds ts t w n)
def Zl (ds:List M.Dcl) (ts:List M.Tm) (t:M.Tm):Int×Int:=if M.tsort ds t<1 then(0,4) else leastG ds ts t (M.tsort ds t) (2^(M.tsort ds t).toNat) 0
theorem xC0:kC ds ts t w n=1\/kC ds ts t w n=2\/kC ds ts t w n=3\/kC ds ts t w n=4:=by
 by_cases h:KC ds (ts++[isT t w n])=true
 .rcases yj0 h with e|e|e
  .exact .inl e
  .exact .inr (.inl e)
  .exact .inr (.inr (.inl e))
 .exact .inr (.inr (.inr (by unfold kC;rw[Qf h])))
end
section
variable {w:World} {K:oK} {D F F' G:Nat->Prop} {tv uv:Value} {ts:List M.Tm} {t:M.Tm}
theorem Clone_Term (d:TmsR F w tv ts) (v:ts.length<=2000000) (n:∀w' v',Ext w w'->LstH (λx=>F x/\x<w.heap.size) w' v' ts->(∀x,v'.ownBlock=some x->w.heap.size<=x)->K v' w'):
  vcall qu #[tv] w K:=by
 refine zf {} Tryz.func69 ?_;obtain⟨css,j,k,hi⟩:=d;obtain⟨a,c,rfl,A,u,g⟩:=j.shape;rw[Qc z30];refine zn (λp=>?_) (λp=>?_)
 .cases a with
  |some a=>cases p
  |none=>
   have m:css=[]:=Gg λh=>by
    obtain⟨b,o,r,_⟩:=g h;cases r
   subst m;have:ts=[]:=pB.1 k.symm;subst this;exact n w _ (Same.refl _ _) LstH.nil λx d=>by cases d
 .refine yg yA yN λb w1 z he B t=>?_;have q:LstH (λ_=>False) w1 (.slice (some ⟨b,0,none⟩) 0 0) []:=⟨[],Blk.ownk (css:=[]) (by rw[qL];exact t) (by simp) rfl dC,rfl,λi hi=>absurd hi (Pv _)⟩;have f:∀x,(Value.slice (some ⟨b,0,none⟩) 0 0).ownBlock=some x->w.heap.size<=x:=λx d=>by have e:b=x:=K3 d;omega
  refine LstH.app (H2:=λx=>F x/\x<w.heap.size) (us:=ts) q (λx d=>⟨id,λe=>by have:=f x d;omega⟩) (j.ext he) k (λi h=>((hi i h).weaken λx d k=>⟨d,k⟩).ext he) (by simp;omega) λw2 v' hw l s=>?_;have y:=he.size;refine n w2 v' (Ext.then he hw f) (s.weaken λx d _=>(d.1.resolve_left id)) λx d=>?_;rcases l x d with h|h
  .exact f x h
  .omega
theorem push_blk {n b:Nat} {cs:List Value} {e:TypeId} (h:LstH (λx=>F x/\x<n) w tv ts) (d:∀x,tv.ownBlock=some x->n<=x) (j:Blk w b cs e) (g:TmR (λx=>G x/\x<n) w cs t) (hs:ts.length<=2000000)
  (k:∀w' r,Same (λx=>n<=x) w w'->TmsR (λ_=>True) w' r (ts++[t])->K r w'):vbi .append [zg,zg] zg [tv,.slice (some ⟨b,0,none⟩) 1 1] w K:=by
 refine LstH.app (H2:=λx=>G x/\x<n) (us:=[t]) h (λx a=>⟨λe=>by have:=d x a;omega,λe=>by have:=d x a;omega⟩) (j.sl1k (zS g)) rfl (λi hi=>?_) (by simp;omega) λl v5 f _ c=>k l v5 (f.mono λx _ a=>d x a) (c.tms.weaken λ_ _ _=>trivial);have:i=0:=by simpa using hi
 subst this;exact g
theorem with_spec (I:TmsR F w tv ts) (hu:TermR G w uv t) (hs:ts.length<=2000000) (z:∀w' r,Ext w w'->TmsR (λ_=>True) w' r (ts++[t])->K r w'):vcall yA0 #[tv,uv] w K:=by
 refine zf {} Tryz.func38 ?_;obtain⟨cs,rfl,g⟩:=hu.cells;have l:=zS g;refine zk λb w1 N p J m=>?_;refine zd λw2 i _=>?_;have e:=p.trans i;have ld:∀{w':World} (_:Ext w2 w') (K:oK),zt za (oP b 0) w' K=K (.agg ⟨cs⟩) w':=λh K=>(m.ext (i.trans h)).ldAgg (by rw[l];exact zc);have Q:=e.size;have j:=I.ext e;have f:∀{w':World},Ext w2 w'->TmR (λx=>G x/\x<w2.heap.size) w' cs t:=λh=>((g.weaken (F':=λx=>G x/\x<w2.heap.size) λx k O=>⟨k,oM⟩).ext e).ext h;rw[ld (Same.refl _ _)];refine⟨rfl,?_,?_,trivial⟩
 .refine Clone_Term j hs λw3 v3 a C q=>?_;have v:=a.size;rw[ld a];refine⟨⟨rfl,rfl⟩,?_,trivial⟩;refine xG yA yN zo rfl l dC λb4 M H c L o=>?_;refine⟨?_,trivial⟩;have B:=c.size;exact push_blk (C.ext c) q o (f ((a.trans c))) hs λy r d u=>z y r (Ext.then (e.trans (a.trans c)) d λx k=>oM) u
 .refine xG yA yN zo rfl l dC λb3 w3 E a v n=>?_;refine⟨?_,trivial⟩;have A:=a.size;refine Clone_Term (j.ext a) hs λM v4 c D s=>?_;refine⟨?_,trivial⟩;exact push_blk D s (n.ext c) ((f (a.trans c)).weaken λx k _=>⟨k.1,oM⟩) hs λy r d u=>z y r (Ext.then (e.trans (a.trans c)) d λx k=>oM) u
theorem app3 {w2:World} {b:Nat} {cs:List Value} {R:oK} (N:Blk w2 b cs za) (U:TmsR F w2 tv ts) (B:TmR G w2 cs t) (hs:ts.length<=2000000)
  (hR:∀w' r,Ext w2 w'->TmsR (λ_=>True) w' r (ts++[t])->R r w'):
  zt za (oP b 0) w2 λt8 X=>X=w2/\
  (vbuildS zg 0 [] w2 λt5 o=>(zt za (oP b 0) o λv x=>v=t8/\x=o)/\
   (vbi .append [zg,zg] zg [t5,tv] o λt7 y=>(zt za (oP b 0) y λv x=>v=t8/\x=y)/\
    (vbuildS zg 1 [(0,t8)] y λt9 Y=>
     (vbi .append [zg,zg] zg [t7,t9] Y λt10 Z=>R t10 Z)/\True)/\True)/\
   (vbuildS zg 1 [(0,t8)] o λt9 a0=>
    (vbi .append [zg,zg] zg [t5,tv] a0 λt7 a1=>
     (vbi .append [zg,zg] zg [t7,t9] a1 λt10 D=>R t10 D)/\True)/\True)/\True)/\
  (vbuildS zg 1 [(0,t8)] w2 λt9 E=>
   (vbuildS zg 0 [] E λt5 H=>
    (vbi .append [zg,zg] zg [t5,tv] H λt7 I=>
     (vbi .append [zg,zg] zg [t7,t9] I λt10 J=>R t10 J)/\True)/\True)/\True)/\True:=by
 have z:=zS B;have ld:∀{w':World} (_:Ext w2 w') (K:oK),zt za (oP b 0) w' K=K (.agg ⟨cs⟩) w':=λh K=>(N.ext h).ldAgg (by rw[z];exact zc);have s:∀{w':World} {S:Nat->Prop},Same S w2 w'->(∀x,S x->w2.heap.size<=x)->TmR (λx=>G x/\x<w2.heap.size) w' cs t:=λh hS=>(B.weaken (F':=λx=>G x/\x<w2.heap.size) λx c C=>⟨c,C⟩).same h λx c _ e=>by have:=hS x e;omega
 have fin:∀{w' w'':World} {r:Value},Ext w2 w'->Same (λx=>w2.heap.size<=x) w' w''->TmsR (λ_=>True) w'' r (ts++[t])->R r w'':=λh h2 u=>hR _ _ (Ext.then h h2 λx c=>c) u;have cp:∀{w3 n:World} {b3:Nat} {K:oK},Ext w2 w3->b3=w3.heap.size->Ext w3 n->Blk n b3 [] za->(∀w' v,Ext w3 w'->Same (λx=>x=b3) n w'->LstH (λx=>F x/\x<w2.heap.size) w' v ts->(∀x,v.ownBlock=some x->w3.heap.size<=x)->K v w')->
   vbi .append [zg,zg] zg [.slice (some ⟨b3,0,none⟩) 0 0,tv] n K:=λ{w3 n b3 K} e3 l M N hk=>by
  have h0:LstH (λ_=>False) n (.slice (some ⟨b3,0,none⟩) 0 0) []:=⟨[],Blk.ownk (css:=[]) (by rw[qL];exact N) (by simp) rfl dC,rfl,λi hi=>absurd hi (Pv _)⟩;have m:∀x,(Value.slice (some ⟨b3,0,none⟩) 0 0).ownBlock=some x->x=b3:=λx c=>(K3 c).symm;have z3:=e3.size;have z4:=M.size;obtain⟨css,T,C,hi⟩:=(U.weaken (F':=λx=>F x/\x<w2.heap.size) λx c C=>⟨c,C⟩).ext (e3.trans M);refine LstH.app (H2:=λx=>F x/\x<w2.heap.size) (us:=ts) h0 (λx c=>⟨id,λe=>by have:=m x c;omega⟩) T C hi (by simp;omega) λL v5 hw g z=>?_;refine hk L v5 (Ext.then M hw λx c=>by have:=m x c;omega) (hw.mono λx _ c=>m x c) (z.weaken λx c _=>c.1.resolve_left id) λx c=>?_;rcases g x c with h|h
  .have:=m x h;omega
  .omega
 rw[ld (Same.refl _ _)];refine⟨rfl,?_,?_,trivial⟩
 .refine yg yA yN λb3 w3 l d V k=>?_;rw[ld d];refine⟨⟨rfl,rfl⟩,?_,?_,trivial⟩
  .refine cp (Same.refl _ _) l d k λn v4 a _ h4 Q=>?_;rw[ld a];refine⟨⟨rfl,rfl⟩,?_,trivial⟩;refine xG yA yN zo rfl z dC λb5 L a2 f a3 O=>?_;refine⟨?_,trivial⟩;exact push_blk (h4.ext f) Q O (s (a.trans f) λ_ h=>h.elim) hs λw6 r j u=>fin (a.trans f) j u
  .refine xG yA yN zo rfl z dC λb4 n A a W q=>?_;refine⟨?_,trivial⟩;have z3:=d.size;have z4:=a.size;refine cp (w3:=w2) (Same.refl _ _) l (d.trans a) (k.ext a) λL v5 f w p g=>?_;refine⟨?_,trivial⟩;exact push_blk p g (q.same w (λe=>oM)) (s f λ_ h=>h.elim) hs λw6 r j u=>fin f j u
 .refine xG yA yN zo rfl z dC λb3 w3 l d V k=>?_;refine⟨?_,trivial⟩;refine yg yA yN λb4 n A a W q=>?_;refine⟨?_,trivial⟩;have z3:=d.size;refine cp d A a q λL v5 f w p g=>?_;refine⟨?_,trivial⟩;exact push_blk p (λx c=>by have:=g x c;omega) ((k.ext a).same w (λe=>oM)) (s (d.trans f) λ_ h=>h.elim) hs λw6 r j u=>fin (d.trans f) j u
theorem yD0 (i:TmsR F w tv ts) (hu:TermR G w uv t) (hs:ts.length<=2000000) (g:∀w' r,Ext w w'->TmsR (λ_=>True) w' r (ts++[t])->K r w'):vcall Wj #[tv,uv] w K:=by
 refine zf {} Tryz.func35 ?_;obtain⟨cs,rfl,e⟩:=hu.cells;refine zk λb w1 k f j c=>?_;refine zd λw2 a _=>?_;have d:=f.trans a;exact app3 (c.ext a) (i.ext d) (e.ext d) hs λw' r he h=>g w' r (d.trans he) h
end
section
variable {w w':World} {K:oK} {F F' D G H S:Nat->Prop} {n b k:Nat} {v tv dv uv f:Value} {ts:List M.Tm} {t:M.Tm} {ds:List M.Dcl} {ar ab at_ an am:Addr}
theorem Kg {f n:Nat} {w:Int}:leastG ds ts t w (f+1) n=if kC ds ts t w n=1 then((n:Int),1) else if kC ds ts t w n=2 then leastG ds ts t w f (n+1) else(0,kC ds ts t w n):=rfl
theorem yU0:M.tsort ds t<=4:=by
 unfold M.tsort;split
 .next h=>exact(M.sort_range h.2 t).2
 .decide
theorem Wi {w:Int} {n:Nat} {W:World}:TmR (λ_=>False) W [nI 20,nI w,nI n,.string ⟨#[]⟩,.slice none 0 0] (.mk 20 w n M.nada []):=U9 20 w n ⟨#[]⟩
theorem one_shl {n:Nat} (h:n<=4) {K:oK} {W:World}:qA .shl zU true (nI 1) (nI (n:Int)) W K=K (nI ((2^n:Nat):Int)) W:=by
 have:n=0\/n=1\/n=2\/n=3\/n=4:=oM
 rcases this with rfl|rfl|rfl|rfl|rfl<;>exact y9 rfl
theorem spec_SolveLeast_spec (hz:Jm ds) (hd:DclsR F w dv ds) (ht:TmsR F' w tv ts) (hu:TermR G w uv t) (hs:ts.length<=1048576)
  (r:∀w',Ext w w'->K (.tuple #[nI (Zl ds ts t).1,nI (Zl ds ts t).2]) w'):vcall Qk #[dv,tv,uv] w K:=by
 refine zf {loops:=[(5,[9])]} Tryz.func10 ?_;obtain⟨cs,rfl,g⟩:=hu.cells;have h5:=zS g;have hg:aggB za cs.length=true:=by rw[h5];exact zc
 refine zk λb w1 hb j a2 l=>?_;rw[l.ldAgg hg];refine spec_TermSort_spec hz (hd.ext j) (g.ext j).term λw2 s=>?_;have W:=j.trans s;refine oZ ?_;refine zb (λc=>?_) (λc=>?_)
 .have:=r w2 W;unfold Zl at this;rwa[k6 c] at this
 have hle:=yU0 (ds:=ds) (t:=t);obtain⟨m,hm⟩:∃m:Nat,M.tsort ds t=m:=⟨(M.tsort ds t).toNat,oM⟩;have O:m<=4:=oM
 have hR:Zl ds ts t=leastG ds ts t m (2^m) 0:=by unfold Zl;rw[y3 c,hm,gq]
 have Q:2^m<=2^4:=gJ oM O;obtain⟨N,hN⟩:∃N:Nat,2^m=N:=⟨_,rfl⟩;rw[hN] at hR Q;rw[hm];refine vloop_up N (λi u w'=>u=[nI i]/\Ext w w'/\Blk w' b cs za/\leastG ds ts t m (N-i) i=Zl ds ts t) ⟨rfl,W,l.ext s,by rw[hR];rfl⟩ ?_;rintro i _ _ w3 C hi ⟨rfl,X,o,d⟩ hC;refine l1Two_spec oM ?_;rw[gq,hN];refine oZ ?_;refine zb (λa=>?_) (λa=>?_)
 .have J:i<N:=oM;refine zj zo λb4 w4 a1 H a3 D=>?_;refine stTerm D rfl (Wi (w:=(m:Int)) (n:=i)) λw5 S a4 E=>?_;have f:Ext w3 w5:=Ext.then H S λy hy=>by subst hy;omega
  have Y:=X.trans f;have p:=o.ext f;rw[p.ldAgg hg,E.ldAgg zc];refine kids2 (G:=λ_=>True) ((g.ext Y).weaken λ_ _ _=>trivial).term ((Wi (w:=(m:Int)) (n:=i)).weaken λ_ h _=>h.elim).term λw6 a6 v a5 L=>?_;have Z:=Y.trans v;refine oZ ?_;refine yD0 (ht.ext Z) (TmR.of (t:=isT t m i) L).term oM λw7 r7 x R=>?_;have e7:=Z.trans x;refine spec_Solve_spec hz (hd.ext e7) R λV a0 z _ _=>?_;have A:=e7.trans z;have B:=f.trans (v.trans (x.trans z));refine oZ ?_;obtain⟨q,hq⟩:∃q,N-i=q+1:=⟨N-i-1,oM⟩;rw[hq,Kg] at d;have hc:(xV ds (ts++[isT t m i]) []).2=kC ds ts t m i:=rfl;rw[hc];refine zb (λk=>?_) (λk=>?_)
  .rw[k6 k] at d;have:=r V A;rw[<-d] at this;rw[k];exact this
  refine zb (λT=>?_) (λT=>?_)
  .rw[y3 k,y3 oM,T] at d;have:=r V A;rw[<-d] at this;rw[T];exact this
  refine zb (λU=>?_) (λU=>?_)
  .rw[y3 k,y3 oM,U] at d;have:=r V A;rw[<-d] at this;rw[U];exact this
  have q2:kC ds ts t m i=2:=by
   rcases xC0 (ds:=ds) (ts:=ts) (t:=t) (w:=(m:Int)) (n:=i) with e|e|e|e<;>omega
  rw[y3 k,k6 q2] at d;rw[inc64' oM];exact hC J _ _ ⟨rfl,A,o.ext B,by rw[show N-(i+1)=q by omega];exact d⟩
 .have I:N-i=0:=oM;rw[I] at d;have:=r w3 X;rw[<-d] at this;exact this
theorem SolveLeast_spec (Y:DclsR F w dv ds) (ht:TmsR F' w tv ts) (hu:TermR G w uv t) (hs:ts.length<=1048576) (er:Er w at_ an am ar ab)
  (z:∀w',Ext w w'->K (.tuple #[nI (Zl ds ts t).1,nI (Zl ds ts t).2]) w'):vcall Qt #[dv,tv,uv] w K:=by
 refine zf {loops:=[(5,[20])]} Tryz.func14 ?_;obtain⟨cs,rfl,f⟩:=hu.cells;have h5:=zS f;have Z:aggB za cs.length=true:=by rw[h5];exact zc
 refine zk λb w1 hb g a2 j=>?_;rw[j.ldAgg Z];refine TermSort_spec (Y.ext g) (f.ext g).term λw2 l=>?_;have U:=g.trans l;refine oZ ?_;refine zb (λc=>?_) (λc=>?_)
 .have:=z w2 U;unfold Zl at this;rwa[k6 c] at this
 have hle:=yU0 (ds:=ds) (t:=t);obtain⟨m,hm⟩:∃m:Nat,M.tsort ds t=m:=⟨(M.tsort ds t).toNat,oM⟩;have x:m<=4:=oM
 have X:Zl ds ts t=leastG ds ts t m (2^m) 0:=by unfold Zl;rw[y3 c,hm,gq]
 have Q:2^m<=2^4:=gJ oM x;obtain⟨N,W⟩:∃N:Nat,2^m=N:=⟨_,rfl⟩;rw[W] at X Q;rw[hm,one_shl x,W];refine vloop_up N (λi u w'=>u=[nI i]/\Ext w w'/\Blk w' b cs za/\leastG ds ts t m (N-i) i=Zl ds ts t) ⟨rfl,U,j.ext l,by rw[X];rfl⟩ ?_;rintro i _ _ w3 C hi ⟨rfl,B,k,d⟩ hC;refine oZ ?_;refine zb (λa=>?_) (λa=>?_)
 .have O:i<N:=oM;rw[k.ldAgg Z];refine kids2 (G:=λ_=>True) ((f.ext B).weaken λ_ _ _=>trivial).term ((Wi (w:=(m:Int)) (n:=i)).weaken λ_ h _=>h.elim).term λw6 a6 p a5 v=>?_;have e6:=B.trans p;refine oZ ?_;refine zj zo λb4 w4 a1 o a3 I=>?_;refine stTerm I rfl ((TmR.of (t:=isT t m i) v).ext o) λw5 S a4 J=>?_;have e:Ext w6 w5:=Ext.then o S λy hy=>by subst hy;omega
  have V:=e6.trans e;rw[J.ldAgg zc];refine with_spec (ht.ext V) ((TmR.of (t:=isT t m i) v).ext e).term oM λw7 r7 r R=>?_;have E:=V.trans r;refine xV0 (Y.ext E) R (by simp;omega) (er.ext E) λw8 a0 s _ _=>?_;have H:=E.trans s;have D:=p.trans (e.trans (r.trans s));refine oZ ?_;obtain⟨q,hq⟩:∃q,N-i=q+1:=⟨N-i-1,oM⟩;rw[hq,Kg] at d;have hc:(xV ds (ts++[isT t m i]) []).2=kC ds ts t m i:=rfl;rw[hc];refine zb (λA=>?_) (λA=>?_)
  .rw[k6 A] at d;have:=z w8 H;rw[<-d] at this;exact this
  refine zb (λT=>?_) (λT=>?_)
  .rw[y3 A,k6 T] at d;rw[inc64' oM];exact hC O _ _ ⟨rfl,H,k.ext D,by rw[show N-(i+1)=q by omega];exact d⟩
  .rw[y3 A,y3 T] at d;have:=z w8 H;rw[<-d] at this;exact this
 .have L:N-i=0:=oM;rw[L] at d;have:=z w3 B;rw[<-d] at this;exact this
end
end Go.Proofs.YtfjlkobhagjdaaaGreatDoor
section
namespace Go.Proofs.YtfjlkobhagjdaaaGreatDoor
open Go Go.Vc Go.Proofs
open Go.ChangeShapes Go.WideShapes Go.ChangeAt Go.RowKit
variable {w:World} {K:oK} {F D G:Nat->Prop}
theorem list2 {α:Type} {l:List α} (h:l.length=2):∃a b,l=[a,b]:=by
 match l,h with
 |[a,b],_=>exact⟨a,b,rfl⟩
theorem list5 {α:Type} {l:List α} (h:l.length=5):∃a b c d e,l=[a,b,c,d,e]:=by
 match l,h with
 |[a,b,c,d,e],_=>exact⟨a,b,c,d,e,rfl⟩
theorem sl_of {w:World} {x:Addr} {k len cap:Nat} {css:List (List Value)} (n:0<k) (o:len<=cap) (hm:cap<=maxLen) (p:css.length=len) (hw:∀c,c∈css->c.length=k)
  (a:∀i,i<len->∀j,j<k->w.cell? (x.add (i*k+j))=(css.getD i [])[j]?):Sl (λ_=>True) w k (.slice (some x) len cap) css:=by
 subst p;refine⟨⟨some x,cap,rfl,o,by unfold maxLen at hm;exact hm,λf=>?_⟩,hw⟩;have hlen:0<css.length:=GC.2 f;obtain⟨b,off,spot⟩:=x;have q:(css.getD 0 []).length=k:=hw _ (M.getD_mem hlen _);have d:=a 0 hlen 0 n;rw[gd (by omega:0<(css.getD 0 []).length)] at d;have e:spot=none:=by simpa[Addr.add] using World.cell?_spot d
 subst e;rw[yB] at d;refine⟨b,off,rfl,trivial,World.block_lt_of_cell? w _ d,λi hi j v l=>?_⟩;have g:(css.getD i []).length=k:=hw _ (M.getD_mem hi _);have m:j<k:=by rw[<-g];exact(Gq.1 l).1
 have h:=a i hi j m;rw[yB] at h;rw[yB,<-l,<-h,Pp]
section
variable {H:Type} {enc:TypeId×Value->H} {W:World} {cs:List Value} {x:DataW H×List MemPlace} {held:Bool} {fuel:Nat}
theorem Xs:P.underlying yH=some .string:=rK
theorem Yp0:P.underlying xK=some (.struct #[⟨"Name",yH,0,false,"","",0⟩,⟨"Wide",zU,1,false,"","",16⟩]):=rK
theorem Z80:P.underlying yi=some (.struct #[⟨"Op",zU,0,false,"","",0⟩,⟨"A",zU,1,false,"","",8⟩,⟨"B",zU,2,false,"","",16⟩,⟨"Name",yH,3,false,"","",24⟩,⟨"Kids",x8,4,false,"","",40⟩]):=rK
theorem Zn0:P.cellsOf zU=1:=rK
theorem y40:P.cellsOf yH=1:=rK
theorem c1_Ls:P.cellsOf x8=1:=rK
theorem jn0:P.cellsOf xK=2:=rK
theorem yJ0:P.cellsOf yi=5:=rK
def Yh:M.Tm->Bool:=M.Tm.fold λt xs=>decide (t.s.size<=9223372036854775807)&&xs.all id
theorem kg0 (t:M.Tm):Yh t=(decide (t.s.size<=9223372036854775807)&&(t.ks.map Yh).all id):=M.Tm.fold_eq _ t
theorem Yo0 {t:M.Tm}:Yh t=true↔t.s.size<=9223372036854775807/\∀k,k∈t.ks->Yh k=true:=by
 rw[kg0,gj,X0,gN];refine PZ λ_=>⟨λh k a=>h _ (gU a),λh y b=>?_⟩;obtain⟨k,a,rfl⟩:=gw.1 b;exact h k a
theorem ZT0 (h:DataW.trod enc P W 0 (λ_=>true) held fuel xK cs=some x):∃d:M.Dcl,cs=[.string d.1,nI d.2]/\d.1.size<=9223372036854775807:=by
 obtain⟨xs,n,_,_,g,hlen,f⟩:=DataW.trod_struct Yp0 h;rw[jn0] at g;obtain⟨c0,c1,rfl⟩:=list2 g;obtain⟨i,j,rfl⟩:=list2 (α:=DataW H×List MemPlace) hlen
 .have c:=f 0 ⟨"Name",yH,0,false,"","",0⟩ rfl;have e:=f 1 ⟨"Wide",zU,1,false,"","",16⟩ rfl;simp only[Zn0,y40,P7,PB,Pa,List.drop_succ_cons,p0,p4] at c e;obtain⟨s,a,_,hs⟩:=DataW.trod_string Xs c;obtain⟨n,b,_,_⟩:=DataW.trod_int J3 e;simp only[gY,gZ] at a b;subst a b;exact⟨(s,n),rfl,by simpa[maxLen] using hs⟩
theorem each_in {α:Type} [Inhabited α] {e k:Nat} {R:List Value->α->Prop} {a:Addr} {len cap n:Nat} {elems:List (DataW H×List MemPlace)} (ce:P.cellsOf e=k) (p:0<k) (r:len<=cap) (hm:cap<=maxLen) (t:elems.length=len)
  (f:∀i,i<len->(W.cells? 0 (a.add (i*P.cellsOf e)) (P.cellsOf e)).bind (DataW.trod enc P W 0 (λ_=>true) held n e)=elems[i]?)
  (b:∀cs x,DataW.trod enc P W 0 (λ_=>true) held n e cs=some x->∃y,R cs y):
  ∃(css:List (List Value)) (ys:List α),Sl (λ_=>True) W k (.slice (some a) len cap) css/\css.length=len/\ys.length=len/\∀i,i<len->R (css.getD i []) (ys.getD i default):=by
 have each:∀i,i<len->∃q:List Value×α,W.cells? 0 (a.add (i*k)) k=some q.1/\R q.1 q.2:=λi hi=>by
  have h:=f i hi;rw[gd oM,ce] at h;obtain⟨cs',l,m⟩:=Option.bind_eq_some_iff.1 h;obtain⟨y,s⟩:=b _ _ m;exact⟨(cs',y),l,s⟩
 obtain⟨q,g⟩:=Go.Deep.choose_lt each;refine⟨(List.range len).map λi=>(q i).1,(List.range len).map λi=>(q i).2,?_,by simp,by simp,λi hi=>?_⟩
 .refine sl_of p r hm (by simp) (λc d=>?_) λi hi j o=>?_
  .obtain⟨i,hi,rfl⟩:=gw.1 d;exact(World.cells?_some (g i (gI.1 hi)).1).2.1
  .have d:=(World.cells?_some (g i hi).1).2.2 j o;rw[Go.Deep.add_add] at d;rw[d];simp[k5,hi]
 .have:=(g i hi).2;simpa[k5,hi] using this
theorem decls_in (h:DataW.trod enc P W 0 (λ_=>true) held fuel qk cs=some x):∃v ds,cs=[v]/\DclsR (λ_=>True) W v ds/\Jm ds:=by
 rcases DataW.trod_slice QS h with⟨rfl,_⟩|⟨a,len,cap,elems,rest,n,_,rfl,_,_,f,hm,g,b,_,_⟩
 .exact⟨_,[],rfl,⟨⟨none,0,rfl,by simp,by simp,λh=>absurd rfl h⟩,by simp⟩,λi hi=>absurd hi (by simp)⟩
 .obtain⟨css,ys,hs,k,l,c⟩:=each_in (α:=M.Dcl) (R:=λcs d=>cs=[.string d.1,nI d.2]/\d.1.size<=9223372036854775807) jn0 dC f hm g b λcs x j=>ZT0 j;refine⟨_,ys,rfl,?_,λi hi=>?_⟩
  .have e:css=ys.map λd=>[Value.string d.1,nI d.2]:=by
    refine gM (by simp;omega) λi g1 g2=>?_;have:=(c i oM).1;rw[k5,gd g1,k5,gd oM] at this;simpa using this
   rw[e] at hs;exact hs
  .have:=(c i oM).2;rw[k5,gd hi] at this⊢;simpa using this
theorem term_in:∀(fuel:Nat) {cs:List Value} {x:DataW H×List MemPlace},DataW.trod enc P W 0 (λ_=>true) held fuel yi cs=some x->∃t:M.Tm,TmR (λ_=>True) W cs t/\Yh t=true:=by
 intro fuel;induction fuel using Nat.strongRecOn with
 |_ fuel I=>
 intro cs x h;obtain⟨xs,n,D,_,e,hlen,c⟩:=DataW.trod_struct Z80 h;rw[yJ0] at e;obtain⟨c0,c1,c2,c3,J,rfl⟩:=list5 e;clear e;obtain⟨K,L,N,O,Q,rfl⟩:=list5 (α:=DataW H×List MemPlace) hlen
 .have y:=c 0 ⟨"Op",zU,0,false,"","",0⟩ rfl;have z:=c 1 ⟨"A",zU,1,false,"","",8⟩ rfl;have A:=c 2 ⟨"B",zU,2,false,"","",16⟩ rfl;have B:=c 3 ⟨"Name",yH,3,false,"","",24⟩ rfl;have C:=c 4 ⟨"Kids",x8,4,false,"","",40⟩ rfl;simp only[Zn0,y40,c1_Ls,P7,PB,Pa,List.drop_succ_cons,p0,p4] at y z A B C;obtain⟨o,r,_,_⟩:=DataW.trod_int J3 y;obtain⟨p,u,_,_⟩:=DataW.trod_int J3 z;obtain⟨q,v,_,_⟩:=DataW.trod_int J3 A;obtain⟨s,w,_,hs⟩:=DataW.trod_string Xs B;simp only[gY,gZ] at r u v w;subst r u v w;have f:s.size<=9223372036854775807:=(by simpa[maxLen] using hs);rcases DataW.trod_slice ZA C with⟨b,_⟩|⟨a,len,cap,elems,rest,m,E,b,_,_,e,hm,F,g,_,_⟩
  .simp only[gY,gZ] at b;subst b;exact⟨.mk o p q s [],U9 o p q s,Yo0.2 ⟨f,λk j=>by cases j⟩⟩
  .simp only[gY,gZ] at b;subst b;obtain⟨css,ys,l,g1,g2,g3⟩:=each_in (α:=M.Tm) (R:=λcs t=>TmR (λ_=>True) W cs t/\Yh t=true) yJ0 dC e hm F g λcs x G=>I m oM G;refine⟨.mk o p q s ys,TmR.of (t:= .mk o p q s ys) ⟨css,l,by show css.length=ys.length;omega,λi hi=>?_⟩,Yo0.2 ⟨f,λk j=>?_⟩⟩
   .have d:i<ys.length:=hi;exact(g3 i oM).1
   .obtain⟨i,hi,rfl⟩:=gr j;have d:i<ys.length:=hi;have:=(g3 i oM).2;rwa[k5,gd d] at this
end
end Go.Proofs.YtfjlkobhagjdaaaGreatDoor
end
namespace Go.Proofs.YtfjlkobhagjdaaaGreatDoor
open Go Go.Vc Go.Proofs
section
variable {w:World} {K:oK} {F F' D G:Nat->Prop}
theorem szDecl_spec {s:ByteArray} {n left:Int} (g:0<=left) (h:left<=1048576) (hs:s.size<=9223372036854775807) (c:∀w' r,Ext w w'->(r= -1\/0<=r/\r<=left/\(s.size:Int)<=left)->K (nI r) w'):vcall WS #[.agg ⟨[.string s,nI n]⟩,nI left] w K:=by
 refine zf {} Tryz.func31 ?_;refine zk λb1 w1 d b e f=>?_;simp(disch:=first|(simp only[push_cast])|exact Xs) only[push_cast,f.ld0,Xp];rw[show IntKind.i64.wrap (left-(s.size:Int))=left-s.size from zl oM oM];refine zb (λa=>?_) (λa=>?_)
 .exact c _ _ b (.inl rfl)
 .exact c _ _ b (.inr oM)
theorem szDeclS_spec {v:Value} {ds:List M.Dcl} {left:Int} (o:0<=left) (p:left<=1048576) (l:Jm ds) (g:DclsR F w v ds) (f:∀w' r,Ext w w'->(r= -1\/0<=r/\r<=left/\(ds.length:Int)<=left)->K (nI r) w'):vcall V4 #[v,nI left] w K:=by
 refine zf {loops:=[(5,[1,5])]} Tryz.func7 ?_;have k:=g.small;simp only[push_cast,g.len];rw[show IntKind.i64.wrap (left-(ds.length:Int))=left-ds.length from zl oM oM];refine zb (λa=>f _ _ (Same.refl _ _) (.inl rfl)) (λa=>?_);refine vloop_up ds.length (λi u w'=> ∃r:Int,u=[nI r,nI i]/\Ext w w'/\0<=r/\r<=left) ⟨_,rfl,Same.refl _ _,oM,oM⟩ ?_;rintro i _ _ w1 C hi ⟨r,rfl,he,m,q⟩ h;have b:=g.ext he;simp(disch:=exact oS) only[push_cast,b.len];refine zb (λc=>?_) (λc=>?_)
 .simp(disch:=exact oS) only[push_cast,b.iaddr,b.load];refine szDecl_spec m oM (l i oM) λw2 n e j=>?_;refine oZ ?_;refine zb (λd=>f _ _ (he.trans e) (.inl rfl)) (λd=>?_);rw[inc64' oM];exact h oM _ _ ⟨n,rfl,he.trans e,oM,oM⟩
 .exact f _ _ he (.inr oM)
abbrev SzT (t:M.Tm):Prop:=∀{w:World} {K:oK} {F:Nat->Prop} {v:Value} {left:Int},TermR F w v t->Yh t=true->0<=left->left<=1048576->(∀w' r,Ext w w'->(r= -1\/0<=r/\r+M.sizeM t<=left+1/\j60 t=true)->K (nI r) w')->vcall WR #[v,nI left] w K
theorem szTermS_of {ks:List M.Tm} (B:∀k,k∈ks->SzT k) {v:Value} {left:Int} (l:TmsR F w v ks) (hs:∀k,k∈ks->Yh k=true) (E:0<=left) (G:left<=1048576)
  (n:∀w' r,Ext w w'->(r= -1\/0<=r/\r+M.szT ks ks.length<=left/\(ks.length:Int)<=left/\∀k,k∈ks->j60 k=true)->K (nI r) w'):vcall V3 #[v,nI left] w K:=by
 refine zf {loops:=[(5,[1,5])]} Tryz.func8 ?_;have y:=l.small;simp only[push_cast,l.len];rw[show IntKind.i64.wrap (left-(ks.length:Int))=left-ks.length from zl oM oM];refine zb (λa=>n _ _ (Same.refl _ _) (.inl rfl)) (λa=>?_);refine vloop_up ks.length (λi u w'=> ∃r:Int,u=[nI r,nI i]/\Ext w w'/\0<=r/\r+M.szT ks i<=left-ks.length+i/\∀j,j<i->j60 (ks.getD j default)=true) ⟨_,rfl,Same.refl _ _,oM,by show _+((0:Nat):Int)<=_;omega,λj m=>absurd m oM⟩ ?_;rintro i _ _ w1 C hi ⟨r,rfl,he,s,H,q⟩ t;have f:=l.ext he;simp(disch:=exact oS) only[push_cast,f.len];refine zb (λc=>?_) (λc=>?_)
 .have b:ks.getD i default∈ks:=M.getD_mem oM _;simp(disch:=exact oS) only[push_cast,f.iaddr];refine f.load Xg oM λx A=>?_;refine B _ b A (hs _ b) s oM λw2 D g p=>?_;refine oZ ?_;refine zb (λd=>n _ _ (he.trans g) (.inl rfl)) (λd=>?_);rw[inc64' oM];rcases p with h|⟨g0,g1,g2⟩
  .omega
  have z:=M.szT_succ (ks:=ks) (i:=i) oM;refine t oM _ _ ⟨D,rfl,he.trans g,g0,oM,λj m=>?_⟩;by_cases e:j<i
  .exact q j e
  .have:j=i:=oM;subst this;exact g2
 .have o:i=ks.length:=oM;subst o;refine n _ _ he (.inr ⟨s,oM,oM,λk l=>?_⟩);obtain⟨j,m,rfl⟩:=gr l;have:=q j oM;rwa[k5,gd m] at this
theorem szTerm_spec:∀t:M.Tm,SzT t:=by
 refine M.Tm.ind λt n=>?_;intro w K F v left m hs o p e;refine zf {} Tryz.func9 ?_;obtain⟨kv,rfl,f⟩:=m;obtain⟨s1,s2⟩:=Yo0.1 hs;refine zk λb1 w1 i b k g=>?_;simp(disch:=first|(simp only[push_cast])|exact Xs) only[push_cast,g.ld3,g.ld4,Xp];rw[show IntKind.i64.wrap (left-(t.s.size:Int))=left-t.s.size from zl oM oM];refine zb (λa=>e _ _ b (.inl rfl)) (λa=>?_);refine szTermS_of n (f.ext b) s2 oM oM λw2 r c j=>?_;refine oZ ?_;refine zb (λd=>e _ _ (b.trans c) (.inl rfl)) (λd=>?_);rcases j with h|⟨g0,g1,g2,g3⟩
 .omega
 have l:=M.szT_all t;exact e _ _ (b.trans c) (.inr ⟨g0,oM,fitB_iff.2 ⟨oM,g3⟩⟩)
theorem toDecl_spec {s:ByteArray} {n:Int} (x:∀w',Ext w w'->K (.agg ⟨[.string s,nI n]⟩) w'):vcall WQ #[.agg ⟨[.string s,nI n]⟩] w K:=by
 refine zf {} Tryz.func36 ?_;refine zk λb1 w1 z h C p=>?_;refine zj xZ λb2 w2 A d D q=>?_;refine zj xZ λb3 w3 B a E r=>?_;have m:=(p.ext d).ext a;simp only[push_cast,m.ld0];refine r.st (i:=0) rfl rfl W5 rfl λJ e F u=>?_;have I:=m.same e oM;simp only[push_cast,I.ld1];refine u.st (i:=1) rfl rfl xd rfl λo j G g=>?_;replace g:Blk o b3 [.string s,nI n] xq:=g;rw[g.ldAgg (t:=xq) Xh];have c:Same (λb=>b=b3) w3 o:=e.trans j;have f:=(q.ext a).same c oM;refine stDecl f λL k H v=>?_;rw[v.lv (t:=xq) Xh];refine x _ (Ext.then (Ext.then ((h.trans d).trans a) c λy l=>by subst l;omega) k λy l=>by subst l;omega)
theorem toDeclS_own {v:Value} {ds:List M.Dcl} (s:DclsR F w v ds) (B:ds.length<=1048576) (z:∀w' v',Ext w w'->Own 0 2 xA w' v' (ds.map λd=>[Value.string d.1,nI d.2])->(∀b,v'.ownBlock=some b->w.heap.size<=b)->K v' w'):vcall YL #[v] w K:=by
 refine zf {loops:=[(3,[4])]} Tryz.func11 ?_;simp only[push_cast,s.len];refine vmkS_agg (cs:=[.string ⟨#[]⟩,nI 0]) zP0 dC (by rw[UD];exact xZ) oM oM λv1 w1 o n h=>?_;refine vloop_up ds.length (λi u w'=>u=[nI i]/\Ext w w'/\∃css,css.length=ds.length/\Own 0 2 xA w' v1 css/\∀j,j<i->css.getD j []=[.string (ds.getD j xc0).1,nI (ds.getD j xc0).2]) ⟨rfl,n,_,by simp,o,oM⟩ ?_;rintro i _ _ w2 C hi ⟨rfl,f,css,A,k,t⟩ y;have c:=s.ext f;simp only[push_cast,c.len];refine zb (λa=>?_) (λa=>?_)
 .simp(disch:=exact oS) only[push_cast,c.iaddr,c.load];refine toDecl_spec λw3 g=>?_;have l:=k.ext g;have q:=l.sl;simp(disch:=exact oS) only[push_cast,q.iaddr];refine own_stEl l dC rfl (by intro v x;simp only[gi,gz,Gh] at x;rcases x with rfl|rfl<;>rfl) Xh oM λG p r D=>?_;rw[inc64' oM];refine y oM _ _ ⟨rfl,Ext.then (f.trans g) r λb m=>h b m,_,by rw[pI];exact A,p,λj E=>?_⟩;rw[getD_set oM];by_cases e:i=j
  .subst e;rw[k6 rfl]
  .rw[y3 e];exact t j oM
 .have e:css=ds.map λd=>[Value.string d.1,nI d.2]:=by
   refine gM (by simp;omega) λj g1 g2=>?_;have:=t j oM;rw[k5,gd g1,k5,gd oM] at this;simpa using this
  subst e;exact z w2 v1 f k λb m=>h b m
theorem ZC {v:Value} {ds:List M.Dcl} (e:DclsR F w v ds) (a:ds.length<=1048576) (c:∀w' v',Ext w w'->DclsR (λb=>w.heap.size<=b) w' v' ds->K v' w'):vcall YL #[v] w K:=
 toDeclS_own e a λw' v' he f d=>c w' v' he (f.sl.weaken λb h _=>d b h)
abbrev CpT (t:M.Tm):Prop:=∀{w:World} {K:oK} {F:Nat->Prop} {v:Value},TermR F w v t->j60 t=true->(∀w' v',Ext w w'->TermR (λb=>w.heap.size<=b) w' v' t->K v' w')->vcall WP #[v] w K
theorem toTermS_of {ks:List M.Tm} (R:∀k,k∈ks->CpT k) {v:Value} (A:TmsR F w v ks) (J:ks.length<=1048576) (H:∀k,k∈ks->j60 k=true)
  (G:∀w' v',Ext w w'->TmsR (λb=>w.heap.size<=b) w' v' ks->K v' w'):vcall KZ #[v] w K:=by
 refine zf {loops:=[(3,[4])]} Tryz.func12 ?_;simp only[push_cast,A.len];refine vmkS_agg (cs:=UT) ji dC (by rw[qL];exact zo) oM oM λv1 w1 t o p=>?_;have N:=o.size;refine vloop_up ks.length (λi u w'=>u=[nI i]/\Ext w w'/\∃css,css.length=ks.length/\Own 0 5 zg w' v1 css/\∀j,j<i->TmR (λb=>w.heap.size<=b/\v1.ownBlock≠some b) w' (css.getD j []) (ks.getD j default)) ⟨rfl,o,_,by simp,t,oM⟩ ?_;rintro i _ _ w2 C hi ⟨rfl,d,css,B,m,D⟩ E;have l:=A.ext d;have O:=d.size;simp only[push_cast,l.len];refine zb (λa=>?_) (λa=>?_)
 .have f:ks.getD i default∈ks:=M.getD_mem oM _;simp(disch:=exact oS) only[push_cast,l.iaddr];refine l.load Xg oM λx L=>?_;refine R _ f L (H _ f) λw3 v3 h s=>?_;obtain⟨c3,rfl,g⟩:=s.cells;have q:=m.ext h;have z:=q.sl;simp(disch:=exact oS) only[push_cast,z.iaddr];have r:∀b,v1.ownBlock=some b->b<w2.heap.size:=λb c=>(m.lt c).2;refine own_stEl q dC (zS g) (tmR_one g) zc oM λS y n Q=>?_;rw[inc64' oM];refine E oM _ _ ⟨rfl,Ext.then (d.trans h) n λb c=>p b c,_,by rw[pI];exact B,y,λj I=>?_⟩;rw[getD_set oM];by_cases e:i=j
  .subst e;rw[k6 rfl];refine(g.weaken (F':=λb=>w.heap.size<=b/\v1.ownBlock≠some b) λb c _=>⟨oM,λe=>by have:=r b e;omega⟩).same n λb c _ e=>c.2 e
  .rw[y3 e];exact((D j oM).ext h).same n λb c _ e=>c.2 e
 .exact G w2 v1 d ⟨css,m.sl.weaken λb c _=>p b c,B,λj I=>(D j oM).weaken λb c _=>c.1⟩
theorem toTerm_spec:∀t:M.Tm,CpT t:=by
 refine M.Tm.ind λt ih=>?_;intro w K F v ht hf hK;refine zf {} Tryz.func13 ?_;obtain⟨kv,rfl,H⟩:=ht;obtain⟨f1,f2⟩:=fitB_iff.1 hf;refine zk λb1 w1 a0 E a3 S=>?_;refine zj zo λb2 w2 a1 m a4 T=>?_;refine zj zo λb3 w3 a2 h a5 U=>?_;have N:=(S.ext m).ext h;simp only[push_cast,N.ld0];refine U.st (i:=0) rfl rfl xd rfl λw4 r a6 V=>?_;have O:=N.same r oM;simp only[push_cast,O.ld1];refine V.st (i:=1) rfl rfl xd rfl λw5 u a7 W=>?_;have P:=O.same u oM;simp only[push_cast,P.ld2];refine W.st (i:=2) rfl rfl xd rfl λw6 z a8 X=>?_;have Q:=P.same z oM;simp only[push_cast,Q.ld3];refine X.st (i:=3) rfl rfl W5 rfl λI A a9 Y=>?_;have q7:=Q.same A oM;simp only[push_cast,q7.ld4];have g:Same (λb=>b=b3) w3 I:=r.trans (u.trans (z.trans A));have l:=(E.trans m).trans h;have j:Ext w I:=Ext.then l g λy B=>by subst B;omega
 refine toTermS_of ih (H.ext j) f1 f2 λw8 d f n=>?_;have Z:=Y.ext f;have o:d.cells= #[d]/\d.oneCell'=true:=by
  obtain⟨css,hs,_⟩:=n;obtain⟨a,c,rfl,_⟩:=hs.shape;exact⟨rfl,rfl⟩
 have aa:=f.size;have L:=g.size
 try simp only[push_cast]
 refine Z.st (i:=4) o.1 o.2 qa rfl λR k ab D=>?_;replace D:Blk R b3 [nI t.op,nI t.a,nI t.b,.string t.s,d] za:=D;rw[D.ldAgg (t:=za) zc];have G:TmsR (λb=>I.heap.size<=b) R d t.ks:=n.same k λb hb _ e=>oM
 have C:=(((T.ext h).same g oM).ext f).same k oM;refine qd C rfl (TmR.of (t:=t) G) (λx hx=>oM) λw10 q J p=>?_;exact hK _ _ (Ext.then (Ext.then (j.trans f) k λy B=>by subst B;omega) q λy B=>by subst B;omega) (p.weaken λb hb _=>by have:=j.size;omega)
theorem yG0 {s:ByteArray} {n:Int} (f:∀w',Ext w w'->K (.bool true) w'):vcall WU #[.agg ⟨[.string s,nI n]⟩,.agg ⟨[.string s,nI n]⟩] w K:=by
 refine zf {} Tryz.func39 ?_;refine zk λb1 w1 g d j e=>?_;refine zk λb2 w2 i a k b=>?_;have c:=e.ext a;simp only[push_cast,c.ld0,b.ld0,c.ld1,b.ld1];refine zb (λh=>absurd rfl h) (λ_=>?_)
 try simp only[push_cast,c.ld0,b.ld0,c.ld1,b.ld1]
 refine zb (λh=>absurd rfl h) (λ_=>?_);exact f _ (d.trans a)
theorem eqDeclS_same {va vb:Value} {ds:List M.Dcl} (e:DclsR F w va ds) (j:DclsR F' w vb ds) (m:∀w',Ext w w'->K (.bool true) w'):vcall V6 #[va,vb] w K:=by
 refine zf {loops:=[(4,[5])]} Tryz.func15 ?_;have n:=e.small;simp only[push_cast,e.len,j.len];refine zb (λh=>absurd rfl h) (λh=>?_);refine vloop_up ds.length (λi u w'=>u=[nI i]/\Ext w w') ⟨rfl,Same.refl _ _⟩ ?_;rintro i _ _ w1 C hi ⟨rfl,he⟩ l;have b:=e.ext he;have f:=j.ext he;simp only[push_cast,b.len];refine zb (λk=>?_) (λk=>?_)
 .refine zd λw2 a _=>?_;have c:=b.ext a;have d:=f.ext a;simp(disch:=exact oS) only[push_cast,c.iaddr,c.load,d.iaddr,d.load,y4];refine yG0 λw3 g=>?_;simp only[push_cast,Gz,y4];rw[inc64' oM];exact l oM _ _ ⟨rfl,he.trans (a.trans g)⟩
 .exact m w1 he
abbrev EqT (t:M.Tm):Prop:=∀{w:World} {K:oK} {F G:Nat->Prop} {va vb:Value},TermR F w va t->TermR G w vb t->(∀w',Ext w w'->K (.bool true) w')->vcall WT #[va,vb] w K
theorem eqTermS_of {ks:List M.Tm} (o:∀k,k∈ks->EqT k) {va vb:Value} (d:TmsR F w va ks) (g:TmsR F' w vb ks) (m:∀w',Ext w w'->K (.bool true) w'):vcall V5 #[va,vb] w K:=by
 refine zf {loops:=[(4,[5])]} Tryz.func16 ?_;have n:=d.small;simp only[push_cast,d.len,g.len];refine zb (λh=>absurd rfl h) (λh=>?_);refine vloop_up ks.length (λi u w'=>u=[nI i]/\Ext w w') ⟨rfl,Same.refl _ _⟩ ?_;rintro i _ _ w1 C hi ⟨rfl,he⟩ l;have b:=d.ext he;have e:=g.ext he;simp only[push_cast,b.len];refine zb (λj=>?_) (λj=>?_)
 .refine zd λw2 a _=>?_;obtain⟨cssa,sa,la,ka⟩:=b.ext a;obtain⟨cssb,sb,lb,kb⟩:=e.ext a;have c:ks.getD i default∈ks:=M.getD_mem oM _;have ga:aggB za 5=true:=zc;simp(disch:=exact oS) only[push_cast,sa.iaddr,sa.ldAgg,sb.iaddr,sb.ldAgg,y4];refine o _ c (ka i oM).term (kb i oM).term λw3 f=>?_;simp only[push_cast,Gz,y4];rw[inc64' oM];exact l oM _ _ ⟨rfl,he.trans (a.trans f)⟩
 .exact m w1 he
theorem Kw:∀t:M.Tm,EqT t:=by
 refine M.Tm.ind λt r=>?_;intro w K F G va vb l m k;refine zf {} Tryz.func17 ?_;obtain⟨kva,rfl,g⟩:=l;obtain⟨kvb,rfl,i⟩:=m;refine zk λb1 w1 n e p j=>?_;refine zk λb2 w2 o b q a=>?_;have c:=j.ext b;simp only[push_cast,c.ld0,a.ld0,c.ld1,a.ld1,c.ld2,a.ld2,c.ld3,a.ld3,c.ld4,a.ld4];refine zb (λh=>absurd rfl h) (λ_=>?_);refine zb (λh=>absurd rfl h) (λ_=>?_);refine zb (λh=>absurd rfl h) (λ_=>?_);refine zb (λh=>absurd rfl h) (λ_=>?_);have d:=e.trans b;refine eqTermS_of r (g.ext d) (i.ext d) λw3 f=>?_;simp only[push_cast,Gz];exact k _ (d.trans f)
end
end Go.Proofs.YtfjlkobhagjdaaaGreatDoor
section
namespace Go.Proofs.YtfjlkobhagjdaaaGreatDoor
open Go Go.Vc Go.Proofs
open Go.ChangeShapes Go.WideShapes Go.ChangeAt Go.RowKit
section
variable {H:Type} {enc:TypeId×Value->H} {W:World} {cs:List Value} {x:DataW H×List MemPlace} {held:Bool} {fuel:Nat}
theorem terms_in (h:DataW.trod enc P W 0 (λ_=>true) held fuel x8 cs=some x):∃v ks,cs=[v]/\TmsR (λ_=>True) W v ks/\∀k,k∈ks->Yh k=true:=by
 rcases DataW.trod_slice ZA h with⟨rfl,_⟩|⟨a,len,cap,elems,rest,n,_,rfl,_,_,e,hm,f,b,_,_⟩
 .exact⟨_,[],rfl,TmsR.nil,λk c=>by cases c⟩
 .obtain⟨css,ys,hs,j,l,d⟩:=each_in (α:=M.Tm) (R:=λcs t=>TmR (λ_=>True) W cs t/\Yh t=true) yJ0 dC e hm f b λcs x g=>term_in _ g;refine⟨_,ys,rfl,⟨css,hs,oM,λi hi=>(d i oM).1⟩,λk c=>?_⟩;obtain⟨i,hi,rfl⟩:=gr c;have:=(d i oM).2;rwa[k5,gd hi] at this
end
end Go.Proofs.YtfjlkobhagjdaaaGreatDoor
end
namespace Go.Proofs.YtfjlkobhagjdaaaGreatDoor
open Go Go.Vc Go.Proofs
section
set_option maxRecDepth 4000
variable {w:World} {K:oK} {D F F' G:Nat->Prop} {dv tv uv:Value} {ds:List M.Dcl} {ts:List M.Tm} {t:M.Tm} {at_ an am ar ab:Addr}
theorem FnExactSolveLeast_spec (hd:DclsR F w dv ds) (hz:Jm ds) (ht:TmsR F' w tv ts) (hs:∀k,k∈ts->Yh k=true) (hu:TermR G w uv t) (aw:Yh t=true) (er:Er w at_ an am ar ab) (hK:∀w',Ext w w'->K (.bool true) w'):vcall kX #[dv,tv,uv] w K:=by
 refine zf {cuts:=[(69650,[])]} Tryz.func3 ?_;obtain⟨cs,rfl,ap⟩:=hu.cells;have h5:=zS ap;have hg:aggB yi cs.length=true:=by rw[h5];exact Xg
 refine zk λb0 w0 bf O bi ak=>?_;have ld0:∀{w':World} (_:Ext w0 w') (K:oK),zt yi (oP b0 0) w' K=K (.agg ⟨cs⟩) w':=λh K=>(ak.ext h).ldAgg hg;refine szDeclS_spec dC dC hz (hd.ext O) λw1 r j hr=>?_;have Q:=O.trans j;refine oZ ?_;refine zb (λ_=>hK _ Q) (λc=>?_);rcases hr with h|⟨r0,r1,r2⟩
 .omega
 refine szTermS_of (λk _=>szTerm_spec k) (ht.ext Q) hs r0 r1 λwa r' Y av=>?_;have M:=Q.trans Y;refine oZ ?_;refine zb (λ_=>hK _ M) (λc'=>?_);rcases av with h|⟨b2,bl,bm,q⟩
 .omega
 rw[ld0 (j.trans Y)];refine szTerm_spec t (hu.ext M) aw b2 oM λw2 bk af ag=>?_;have a2:=M.trans af;refine oZ ?_;refine zb (λ_=>hK _ a2) (λbd=>?_);rcases ag with h|⟨b7,b8,d⟩
 .omega
 have aa:=j.trans (Y.trans af);have N:ds.length<=1048576:=oM
 have a0:ts.length<=1048576:=oM
 refine zd λbs E _=>?_;have a:=aa.trans E;have B:=a2.trans E;rw[ld0 a];refine⟨rfl,?_⟩;refine ZC (hd.ext B) N λw3 be s aq=>?_;have J:=B.trans s;rw[ld0 (a.trans s)];refine⟨⟨rfl,rfl⟩,?_⟩;refine toTermS_of (λk _=>toTerm_spec k) (ht.ext J) a0 q λbt bn o ax=>?_;rw[ld0 (a.trans (s.trans o))];refine⟨⟨rfl,rfl⟩,?_⟩;refine toTerm_spec t (hu.ext (J.trans o)) d λw4 bo H ay=>?_;have V:=o.trans H;have ao:=J.trans V;have ac:=a.trans (s.trans V);refine spec_SolveLeast_spec hz (aq.ext V) (ax.ext H) ay oM λw6 ad=>?_;have a3:=ao.trans ad;simp only[push_cast,y4];refine ZC (hd.ext a3) N λw7 x0 ae aj=>?_;have a4:=a3.trans ae;refine toTermS_of (λk _=>toTerm_spec k) (ht.ext a4) a0 q λw8 x1 v a7=>?_;have L:=a4.trans v;have D:=ac.trans (ad.trans (ae.trans v));rw[ld0 D];refine toTerm_spec t (hu.ext L) d λw9 v9 au az=>?_;obtain⟨c9,rfl,x⟩:=az.cells;have Z:aggB za c9.length=true:=by rw[zS x];exact zc
 refine zj zo λbx wx bg hex bh al=>?_;refine stTerm al rfl (x.ext hex) λwy b1 bj I=>?_;have p:Ext w9 wy:=Ext.then hex b1 λy hy=>by subst hy;omega
 have b:=au.trans p;have a5:=L.trans b;rw[I.ldAgg Z];refine SolveLeast_spec (aj.ext (v.trans b)) (a7.ext b) ((x.ext p).term) oM (er.ext a5) λw10 a8=>?_;have i:=b.trans a8;have z:=L.trans i;refine oZ ?_;refine zp (λu w'=>u=[]/\w'=w10) (λC hC=>?_) ?_
 .refine zb (λh=>absurd rfl h) (λ_=>?_);refine zb (λh=>absurd rfl h) (λ_=>?_);exact hC _ _ ⟨rfl,rfl⟩
 rintro _ _ _ ⟨rfl,rfl⟩;refine ZC (hd.ext z) N λb3 b5 e a9=>?_;have a1:=z.trans e;have W:Ext w7 b3:=v.trans (i.trans e);refine eqDeclS_same (ds:=ds) (aj.ext W) a9 λbq m=>?_;simp only[push_cast,Gz];have A:=a1.trans m;refine toTermS_of (λk _=>toTerm_spec k) (ht.ext A) a0 q λb4 b9 n ah=>?_;have b6:=A.trans n;have X:Ext w8 b4:=i.trans (e.trans (m.trans n));refine eqTermS_of (λk _=>Kw k) (a7.ext X) ah λba R=>?_;simp only[push_cast,Gz];have a6:=a8.trans (e.trans (m.trans (n.trans R)));refine zd λbb S _=>?_;have f:=a6.trans S;have l:=D.trans (b.trans f);simp only[I.ext f|>.ldAgg (t:=za) Z,ld0 l,y4];refine toTerm_spec t (hu.ext (O.trans l)) d λbc bp T ai=>?_;have g:=f.trans T;simp only[I.ext g|>.ldAgg (t:=za) Z,y4,gh];refine Kw t ((x.ext p).ext g).term ai λbr U=>?_;simp only[push_cast,Gz,y4];exact hK _ (a5.trans (g.trans U))
end
end Go.Proofs.YtfjlkobhagjdaaaGreatDoor
section
namespace Go.Proofs.YtfjlkobhagjdaaaGreatDoor
open Go Go.Vc Go.Proofs
open Go.RowKit
theorem laid_at {l:List (String×DataW Unit)} {W:World} (h:laidMet P l W):∀k,laidMet P (l.drop k) W
 |0=>h
 |k+1=>by
  have a:=laid_at h k;rw[<-List.tail_drop];cases b:l.drop k with
  |nil=>rw[b] at a;exact a
  |cons x r=>rw[b] at a;exact a.tail
theorem z00: "*" ++ "errors.errorString" = "*errors.errorString" :=dC
theorem ki0 (u:TypeId) (h:P.typeName? 3 u=some "*errors.errorString"):u=yU:=
 typeName_ptr_named (nm:= "errors.errorString") (by rw[z00];kernel_rfl) rK dC u (by rw[z00];exact h)
def ifaceB (t:TypeId):Bool:=match P.underlying t with
 |some (.interface _)=>true
 |_=>false
theorem kC0 {t:TypeId} (h:ifaceB t=true):∃ms,P.underlying t=some (.interface ms):=by
 unfold ifaceB at h;split at h
 .exact⟨_,by assumption⟩
 .cases h
theorem xo0:∃ms,P.underlying xu=some (.interface ms):=kC0 rK
def fieldB (t u:TypeId):Bool:=match P.underlying t with
 |some (.struct fs)=>match fs.toList with
  |[f]=>decide (f.type=u)&&decide (f.offset=0)
  |_=>false
 |_=>false
theorem kI0 {t u:TypeId} (h:fieldB t u=true):∃f,P.underlying t=some (.struct #[f])/\f.type=u/\f.offset=0:=by
 unfold fieldB at h;split at h
 .rename_i fs a;split at h
  .rename_i f b;simp only[gj,X0] at h;refine⟨f,?_,h⟩;rw[a];congr 2;exact GK.1 (by simpa using b)
  .cases h
 .cases h
theorem kj0:P.underlying yU=some (.pointer 435):=rK
theorem yk0:∃f,P.underlying 435=some (.struct #[f])/\f.type=yH/\f.offset=0:=kI0 rK
theorem yl0:P.underlying yH=some .string:=rK
theorem Y60:P.cellsOf 435=1/\P.cellsOf yH=1:=⟨rK,rK⟩
theorem vars_len {H:Type} {enc:TypeId×Value->H} {w:World} {sp:Nat->Bool}:∀{ns:List String} {gs:List (DataW H)} {ps:List MemPlace},DataW.TrodVars enc P w sp ns gs ps->gs.length=ns.length
 |[],[],_,_=>rfl
 |[],_::_,_,h=>h.elim
 |_::_,[],_,h=>h.elim
 |_::_,_::_,_,⟨_,_,_,_,_,_,_,_,_,_,hs,_⟩=>by rw[gB,gB,vars_len hs]
theorem vlist5 {α:Type} {l:List α} (h:l.length=5):∃a b c d e,l=[a,b,c,d,e]:=by
 match l,h with
 |[a,b,c,d,e],_=>exact⟨a,b,c,d,e,rfl⟩
end Go.Proofs.YtfjlkobhagjdaaaGreatDoor
end
end
