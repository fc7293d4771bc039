import Derived.Test.YtiglcianecnchaaGreatDoorWxcP14
import Derived.OpenVars
import Derived.MakeChecks
import Derived.Stop.LaidErr
import Derived.Stop.LaidTwo
/- A part of the proof. -/
set_option linter.all false
set_option maxRecDepth 9999
set_option maxHeartbeats 2000000
noncomputable section
namespace Go.Proofs.YtiglcianecnchaaGreatDoor
open Go Go.Vc Go.Proofs Go.M
section
variable {w:World} {K:oK} {F Fr F':Nat->Prop} {many:Nat} {c:Cnf} {s:Sat}
theorem inc64 {i:Nat} (h:i<9223372036854775807):IntKind.i64.wrap ((i:Int)+1)=((i+1:Nat):Int):=by rw[zj oM oM];omega
theorem l5Find_spec {vc vl v:Value} {put:List Int} {ls:List (List Int)} (hc:CnfR F w vc c) (hl:Lists F' w vl ls) (hx:Ints Fr w v (signs many put)) (hm:marksOk many put) (z:many<=700) (a4:c.list.length+ls.length<=1000000)
  (hb:∀cl,cl∈c.list++ls->∀l,l∈cl->l≠0/\l.natAbs<=many)
  (hK:∀w' k u x,Ext w w'->findM put (c.list++ls) 0 (-1) 0=(k,u,x)->K (.tuple #[nI k,nI (if 0<=k then-1 else u),nI (if 0<=k then 0 else x)]) w'):vcall Ws #[vc,vl,v] w K:=by
 refine zf {loops:=[(5,[9,10,12])],cuts:=[(36875,[13])]} Tryz.func140 ?_;obtain⟨lv,rfl,X⟩:=hc;obtain⟨cs,U,B,T⟩:=X;obtain⟨es,W,H,V⟩:=hl;refine ye λb w1 a1 E a5 hB=>?_;have A:Blk w1 b [nI c.many,lv] zq:=hB;have D:=B.ext E;simp only[push_cast,A.ld1,D.len];refine vloop_up (c.list.length+ls.length) (λi u w'=> ∃(y x:Int),u=[nI y,nI x,nI i]/\Ext w w'/\Blk w' b [nI c.many,lv] zq/\findM put ((c.list++ls).drop i) i y x=findM put (c.list++ls) 0 (-1) 0) ⟨-1,0,rfl,E,A,rfl⟩ ?_;rintro i _ _ w2 C hi ⟨y,x,rfl,s,S,g⟩ Q;have I:=H.ext s;simp only[push_cast,I.len];rw[U,W,zj oM oM];refine zb (λa=>?_) (λa=>?_)
 ·have o:i<c.list.length+ls.length:=oM;refine ym x6 yT λb3 w3 a2 G a6 a0=>?_;have p:=s.trans G;have f:=S.ext G;have q:=B.ext p;have r:=H.ext p;refine zo (λu w'=>w'=w3/\∃v4,u=[v4]/\Ints (λ_=>True) w3 v4 ((c.list++ls).getD i [])) ?_ ?_
  ·intro J Z;refine zb (λa3=>?_) (λa3=>?_)
   ·simp(disch:=first|omega|simp only[push_cast]) only[push_cast,f.ld1,q.iaddr,q.load];refine Z _ _ ⟨rfl,_,rfl,?_⟩;rw[getD_app_l oM];exact((T i oM).ext p).weaken λ_ _ _=>trivial
   ·obtain⟨j,rfl⟩:∃j,i=c.list.length+j:=⟨i-c.list.length,oM⟩;rw[show((c.list.length+j:Nat):Int)-(c.list.length:Int)=(j:Int) from by omega,zj oM oM];simp(disch:=first|omega|simp only[push_cast]) only[push_cast,r.iaddr,r.load];refine Z _ _ ⟨rfl,_,rfl,?_⟩;rw[getD_app_r];exact((V j oM).ext p).weaken λ_ _ _=>trivial
  rintro _ _ _ ⟨rfl,v4,rfl,h4⟩;have L:i<(c.list++ls).length:=by rw[Q1];exact o
  have M:(c.list++ls).getD i []∈c.list++ls:=by rw[k6,gg L];exact GH _
  rw[kX (d:=[]) L,findM_cons] at g;simp only[push_cast];refine l5Look_spec (hx.ext p) hm z h4 (hb _ M) λO n Y t=>?_;rw[t] at g;dsimp only at g;simp only[push_cast];rw[inc64 oM];have N: ¬(O=true)->((if O then(-1:Int) else(n:Int))=n/\(if O then(0:Int) else Y)=Y):=λh=>⟨if_neg h,if_neg h⟩;by_cases m:O=true
  ·rw[if_pos m] at g;refine zb (λe=>absurd e (by rw[if_pos m];omega)) (λ_=>zb (λe=>absurd e (by rw[if_pos m];omega)) (λ_=>?_));exact Q o _ _ ⟨y,x,rfl,p,f,g⟩
  rw[if_neg m] at g;rw[(N m).1,(N m).2];refine zb (λe=>?_) (λe=>zb (λe1=>?_) (λe1=>?_))
  ·rw[if_pos oM] at g;have:=hK _ _ _ _ p g.symm;rwa[if_pos oM,if_pos oM] at this
  ·rw[if_neg oM,if_pos oM] at g;refine zb (λR=>?_) (λR=>?_)
   ·rw[if_pos R] at g;exact Q o _ _ ⟨i,Y,rfl,p,f,g⟩
   ·rw[if_neg R] at g;exact Q o _ _ ⟨y,x,rfl,p,f,g⟩
  ·rw[if_neg oM,if_neg oM] at g;exact Q o _ _ ⟨y,x,rfl,p,f,g⟩
 ·rw[Gb (by rw[Q1];omega)] at g;have:=hK w2 _ _ _ s g.symm;rwa[if_neg oM,if_neg oM] at this
theorem l5At_spec {vc v:Value} {k:Nat} (A:CnfR F w vc c) (hs:SatR F' w v s) (G:k<c.list.length+s.learned.length) (C:c.list.length+s.learned.length<=1000000)
  (u:∀w' v',Ext w w'->Ints (λb=>F b\/F' b) w' v' (atM c s k)->K v' w'):vcall yn0 #[vc,v,nI k] w K:=by
 refine zf {} Tryz.func142 ?_;obtain⟨lv,rfl,cs,n,o,m⟩:=A;obtain⟨vp,vw,vl,rfl,-,-,es,B,r,q⟩:=hs;refine ye λb1 w1 y p D i=>?_;refine ye λb2 w2 z g E l=>?_;have t:Blk w2 b1 [nI c.many,lv] zq:=i.ext g;have x:Blk w2 b2 [vp,vw,vl,nI s.code] zu:=l;have f:=p.trans g;have d:=o.ext f;have e:=r.ext f;simp only[push_cast,t.ld1,d.len];refine zb (λa=>?_) (λa=>?_)
 ·simp(disch:=first|omega|simp only[push_cast]) only[push_cast,d.iaddr,d.load];refine u w2 _ f ?_;rw[atM,getD_app_l oM];exact((m k oM).ext f).weaken λ_ h _=> .inl h
 ·obtain⟨j,rfl⟩:∃j,k=c.list.length+j:=⟨k-c.list.length,oM⟩;simp(disch:=(simp only[push_cast])) only[x.ld2,t.ld1,d.len,Up,Us,yl,gS,Z0];rw[n,show((c.list.length+j:Nat):Int)-(c.list.length:Int)=(j:Int) from by omega,zj oM oM];simp(disch:=first|omega|simp only[push_cast]) only[push_cast,e.iaddr,e.load];refine u w2 _ f ?_;rw[atM,getD_app_r];exact((q j oM).ext f).weaken λ_ h _=> .inr h
theorem l5Levels_spec {vc v:Value} (hc:CnfR F w vc c) (hs:SatR F' w v s) (L:c.many=many) (T:many<=700) (hm:marksOk many s.put) (hlen:s.put.length=s.why.length) (A:∀k,k<s.why.length->s.why.getD k 0= -1\/0<=s.why.getD k 0)
  (hK:∀w' v',Ext w w'->OwnI zh w' v' (levs many s.put (yn s.why))->(∀x,v'.ownBlock=some x->w.heap.size<=x)->K v' w'):vcall JP #[vc,v] w K:=by
 refine zf {loops:=[(4,[6,7])],cuts:=[(28680,[6])]} Tryz.func174 ?_;obtain⟨lv,rfl,-⟩:=hc;obtain⟨vp,vw,vl,rfl,hp,hw,-⟩:=hs;have a4:=hm.len;refine ye λb1 w1 a0 N a7 H=>?_;refine ye λb2 w2 a1 p a8 I=>?_;have X:Blk w2 b1 [nI c.many,lv] zq:=H.ext p;have R:Blk w2 b2 [vp,vw,vl,nI s.code] zu:=I;have S:=N.trans p;simp only[push_cast,X.ld0];rw[L,zj oM oM,show((many:Int)+1)=((many+1:Nat):Int) from by omega];refine vmkS_own (bs:=8) xy qF xo rfl oM oM λv1 w3 Y q m=>?_;have G:OwnI zh w3 v1 (levs many [] (yn s.why)):=by rw[ke0];unfold OwnI;rw[GF];exact Y
 have V:=S.size;refine vloop_up s.put.length (λi u w'=>u=[nI ((yn s.why).take i|>.count true:Nat),nI i]/\Ext w w'/\Blk w' b2 [vp,vw,vl,nI s.code] zu/\OwnI zh w' v1 (levs many (s.put.take i) (yn s.why))) ⟨rfl,S.trans q,R.ext q,by simpa using G⟩ ?_;rintro i _ _ W C hi ⟨rfl,g,f,E⟩ Z;have n:=hp.ext g;have z:=hw.ext g;have a5:=WY many (s.put.take i) (yn s.why);have a3:=jE s.why;simp only[push_cast,f.ld0,n.len];refine zb (λa=>?_) (λa=>?_)
 ·have l:i<s.put.length:=oM;have h:=Y2 (ds:=yn s.why) (i:=i) oM;have a2:((yn s.why).take i).count true<=700:=gH pQ (by simp;omega);refine zo (λu w'=>w'=W/\u=[nI ((yn s.why).take (i+1)|>.count true:Nat)]) ?_ ?_
  ·intro J U;simp(disch:=first|omega|simp only[push_cast]) only[push_cast,f.ld1,z.iaddr,z.load];have o:=Jp (why:=s.why) (k:=i) oM;have a6:=A i oM;refine zb (λb=>?_) (λb=>?_)
   ·rw[inc64 oM];refine U _ _ ⟨rfl,?_⟩;rw[h,o,decide_eq_true oM];rfl
   ·refine U _ _ ⟨rfl,?_⟩;rw[h,o,decide_eq_false oM];rfl
  rintro _ _ _ ⟨rfl,rfl⟩;simp(disch:=first|omega|simp only[push_cast]) only[push_cast,f.ld0,n.iaddr,n.load];have hb:=hm.2 _ (getD_meS l);have y:=M.take_snoc' (d:=0) l;have D:=distinct_take hm.1 (i+1);have j:placeOf (s.put.take i) (s.put.getD i 0).natAbs=0:=by
   refine placeOf_zero λx B e=>?_;rw[y] at D;unfold Distinct at D;rw[gw,Gm] at D;exact D.2.2 _ (gZ B) _ (by simp) e
  have t:=levs_snoc (many:=many) (ds:=yn s.why) j;rw[<-y,gd,Gx oM,lvl_succ oM,<-h] at t;have Q:=E.ints;refine l4Abs_spec oM ?_;simp(disch:=first|omega|simp only[push_cast]) only[push_cast,Q.iaddr];refine E.st yT oM λw5 O r a9=>?_;rw[inc64 oM];refine Z l _ _ ⟨rfl,Ext.then g r λx B=>by have:=m x B;omega,f.same r λe=>by have:=m _ e;have:=R.lt;omega,by rw[t];exact O⟩
 ·rw[gy oM] at E;exact hK W v1 g E λx B=>by have:=m x B;omega
theorem l5Top_spec {v v':Value} {put cl:List Int} {ds:List Bool} (m:Ints F w v (levs many put ds)) (j:many<=700) (p:ds.length<=700) (d:Ints Fr w v' cl) (o:∀l,l∈cl->l.natAbs<=many/\placeOf put l.natAbs≠0)
  (s:K (.tuple #[nI (kO put ds cl:Nat),nI (QN put ds cl).length]) w):vcall zf0 #[v,v'] w K:=by
 refine zf {loops:=[(4,[6,7,8])]} Tryz.func175 ?_;have hlen:cl.length<=9223372036854775807:=by obtain⟨_,_,_,n,r,_⟩:=d.shape;simp at n;omega
 have q:=WY many put ds;refine vloop_up cl.length (λi u w'=>w'=w/\u=[nI (kO put ds (cl.take i):Nat),nI (QN put ds (cl.take i)).length,nI i]) ⟨rfl,rfl⟩ ?_;rintro i _ _ _ C hi ⟨rfl,rfl⟩ f;simp only[push_cast,d.len];refine zb (λa=>?_) (λa=>?_)
 ·have c:i<cl.length:=oM;simp(disch:=first|omega|simp only[push_cast]) only[push_cast,d.iaddr,d.load];obtain⟨g,h⟩:=o _ (getD_meS c);refine l4Abs_spec oM ?_;simp(disch:=first|omega|simp only[push_cast]) only[push_cast,m.iaddr,m.load];rw[levs_get g,levV_lit h];obtain⟨t1,t2⟩:=top_step (put:=put) (ds:=ds) c _ rfl;generalize lvM put ds (cl.getD i 0)=k at*;have t:(QN put ds (cl.take i)).length<=i:=gH (List.length_filter_le _ _) (by simp;omega);refine zb (λb=>?_) (λb=>?_)
  ·rw[if_pos oM] at t1 t2;refine zb (λ_=>?_) (λe=>absurd trivial e);rw[inc64 oM];exact f c _ _ ⟨rfl,by rw[t1,t2];rfl⟩
  ·rw[if_neg oM] at t1 t2;refine zb (λe=>?_) (λe=>?_)
   ·rw[if_pos oM] at t2;rw[inc64 oM,inc64 oM];exact f c _ _ ⟨rfl,by rw[t1,t2]⟩
   ·rw[if_neg oM] at t2;rw[inc64 oM];exact f c _ _ ⟨rfl,by rw[t1,t2]⟩
 ·rwa[gy oM]
theorem l5Has_spec {v:Value} {cl:List Int} {m:Nat} (c:Ints Fr w v cl) (p:∀l,l∈cl->l.natAbs<=700) (g:(∃q,q∈cl/\q.natAbs=m)->K (.bool true) w) (j:(∀q,q∈cl->q.natAbs≠m)->K (.bool false) w):vcall zh0 #[v,nI m] w K:=by
 refine zf {loops:=[(2,[5])]} Tryz.func262 ?_;have hlen:cl.length<=9223372036854775807:=by obtain⟨_,_,_,n,s,_⟩:=c.shape;simp at n;omega
 refine vloop_up cl.length (λi u w'=>w'=w/\u=[nI i]/\∀q,q∈cl.take i->q.natAbs≠m) ⟨rfl,rfl,by simp⟩ ?_;rintro i _ _ _ C hi ⟨rfl,rfl,k⟩ o;simp only[push_cast,c.len];refine zb (λa=>?_) (λa=>?_)
 ·have f:i<cl.length:=oM;simp(disch:=first|omega|simp only[push_cast]) only[push_cast,c.iaddr,c.load];have e:cl.getD i 0∈cl:=getD_meS f;have r:=p _ e;refine l4Abs_spec oM ?_;simp only[push_cast];refine zb (λb=>g ⟨_,e,oM⟩) (λb=>?_);rw[inc64 oM];refine o f _ _ ⟨rfl,rfl,λq h=>?_⟩;rw[M.take_snoc' (d:=0) f,gj,gr] at h;rcases h with h|rfl
  ·exact k q h
  ·omega
 ·rw[gy oM] at k;exact j k
theorem l5Last_spec {v v':Value} {cl:List Int} (hs:SatR F w v s) (hm:marksOk many s.put) (t:many<=700) (m:Ints Fr w v' cl) (z:∀l,l∈cl->l.natAbs<=700)
  (x:∀w',Ext w w'->K (nI ((lastPl s.put cl:Int)-1)) w'):vcall Wq #[v,v'] w K:=by
 refine zf {loops:=[(2,[5])]} Tryz.func214 ?_;obtain⟨vp,vw,vl,rfl,G,-,-⟩:=hs;have E:=hm.len;refine ye λb2 w2 A b H g=>?_;have p:Blk w2 b2 [vp,vw,vl,nI s.code] zu:=g;have c:=G.ext b;simp only[push_cast,p.ld0,c.len];rw[zj oM oM];refine vloop_up s.put.length (λi u w'=>w'=w2/\u=[nI ((s.put.length:Int)-1-i)]/\∀j,s.put.length-i<=j->j<s.put.length->∀q,q∈cl->q.natAbs≠(s.put.getD j 0).natAbs) ⟨rfl,by simp,λj r d=>oM⟩ ?_;rintro i _ _ _ C hi ⟨rfl,rfl,n⟩ y;simp only[push_cast];refine zb (λa=>?_) (λa=>?_)
 ·obtain⟨k,D⟩:∃k:Nat,(s.put.length:Int)-1-i=k:=⟨s.put.length-1-i,oM⟩;have f:k<s.put.length:=oM;rw[D];simp(disch:=first|omega|simp only[push_cast]) only[push_cast,p.ld0,c.iaddr,c.load];have B:=hm.2 _ (getD_meS f);refine l4Abs_spec oM ?_;refine l5Has_spec (m.ext b) z (λh=>?_) (λh=>?_)
  ·simp only[push_cast];have o:=lastPl_eq hm f h λj r d=>n j oM d;have:=x _ b;rwa[o,show((k+1:Nat):Int)-1=(k:Int) from by omega] at this
  ·simp only[push_cast];rw[zj oM oM];refine y oM _ _ ⟨rfl,by rw[show(s.put.length:Int)-1-((i+1:Nat):Int)=(k:Int)-1 from by omega],λj r d=>?_⟩;by_cases e:j=k
   ·subst e;exact h
   ·exact n j oM d
 ·have o:=lastPl_none (put:=s.put) (cl:=cl) λj d=>n j oM d;have:=x _ b;rw[o] at this;exact this
end
section
variable {w:World} {K:oK} {F Fr F':Nat->Prop} {many:Nat} {c:Cnf} {s:Sat}
theorem qO0 (arr:List Int) (m n:Nat):(zH0 arr m n).length<=n:=by
 unfold zH0;refine gH (List.length_filterMap_le _ _) (by simp)
theorem l5Join_spec {va vb:Value} {a b:List Int} {m:Nat} (ha:Ints F w va a) (hb:Ints F' w vb b) (a6:many<=700) (S:∀k,k∈a++b->k≠0/\k.natAbs<=many) (hc:∀k,k∈a++b->k.natAbs≠m-> -k∉a++b)
  (hK:∀w' v',Ext w w'->OwnI zh w' v' (XM many a b m)->(∀x,v'.ownBlock=some x->w.heap.size<=x)->K v' w'):vcall Wr #[nI many,va,vb,nI m] w K:=by
 refine zf {ord:=[oz 6 [0,1,2,3,4,6,7,8,9,5,10,11] [(0,[1,2,3,4,6,7,8,9,5]),(1,[2,6,7,8,9]),(2,[6,7,8,9]),(3,[6,7,8,9]),(4,[6,7,8,9]),(6,[7,5]),(7,[5]),(8,[5]),(9,[5])],oz 10 [0,1,2,3,4,6,7,8,9,5,10,11] [(0,[1,2,3,4,6,7,8,9,5]),(1,[2,6,7,8,9]),(2,[6,7,8,9]),(3,[6,7,8,9]),(4,[6,7,8,9]),(6,[7,5]),(7,[5]),(8,[5]),(9,[5])]],loops:=[(4,[11]),(8,[12]),(12,[9,13])]} Tryz.func215 ?_;have ab:a.length<=9223372036854775807:=by obtain⟨_,_,_,L,h2,_⟩:=ha.shape;simp at L;omega
 have ac:b.length<=9223372036854775807:=by obtain⟨_,_,_,L,h2,_⟩:=hb.shape;simp at L;omega
 refine ym x6 yT λJ w0 a8 T ad N=>?_;simp only[push_cast];rw[zj oM oM,show((many:Int)+1)=((many+1:Nat):Int) from by omega];refine vmkS_own (bs:=8) xy qF xo rfl oM oM λv1 w1 L U W=>?_;have a0:OwnI zh w1 v1 (List.replicate (many+1) 0):=by unfold OwnI;rw[GF];exact L
 have E1:=T.trans U;have a7:=T.size;have hN:∀x,v1.ownBlock=some x->w.heap.size<=x:=λx s=>by have:=W x s;omega
 have a1:Blk w1 J [] y0:=N.ext U;have G:∀x,v1.ownBlock=some x->x≠J:=λx s e=>by have:=W x s;have:=N.lt;omega
 refine vloop_up a.length (λi u w'=>u=[nI i]/\Ext w w'/\Blk w' J [] y0/\∃arr,OwnI zh w' v1 arr/\ArrP many (a.take i) arr) ⟨rfl,E1,a1,_,a0,by simpa using arr_nil many⟩ ?_;rintro i _ _ w2 C hi ⟨rfl,h,o,arr,q,f⟩ O;have E:=ha.ext h;simp only[push_cast,E.len];refine zb (λc1=>?_) (λc1=>?_)
 ·have l:i<a.length:=oM;refine zd λw3 c _=>?_;have A:=E.ext c;have g:=q.ext c;have r:=g.ints;have Q:=f.len;obtain⟨g1,g2⟩:=S _ (gY _ (getD_meS l));simp(disch:=first|omega|simp only[push_cast]) only[push_cast,A.iaddr,A.load,true_and];refine l4Abs_spec oM ?_;simp(disch:=first|omega|simp only[push_cast]) only[push_cast,A.iaddr,A.load,true_and,and_self,r.iaddr];refine g.st yT oM λw4 I z Y=>?_;rw[inc64 oM];refine O l _ _ ⟨rfl,Ext.then (h.trans c) z hN,(o.ext c).same z λe=>G _ e rfl,_,I,?_⟩;rw[M.take_snoc' (d:=0) l];exact arr_snoc f g1 g2
 clear O;rw[gy oM] at f;refine vloop_up b.length (λi u w'=>u=[nI i]/\Ext w w'/\Blk w' J [] y0/\∃arr,OwnI zh w' v1 arr/\ArrP many (a++b.take i) arr) ⟨rfl,h,o,arr,q,by simpa using f⟩ ?_;clear f q arr o E h w2;rintro j _ _ w2 C hj ⟨rfl,h,o,arr,q,f⟩ O;have R:=hb.ext h;simp only[push_cast,R.len];refine zb (λc2=>?_) (λc2=>?_)
 ·have l:j<b.length:=oM;refine zd λw3 c _=>?_;have B:=R.ext c;have g:=q.ext c;have r:=g.ints;have Q:=f.len;obtain⟨g1,g2⟩:=S _ (GB _ (getD_meS l));simp(disch:=first|omega|simp only[push_cast]) only[push_cast,B.iaddr,B.load,true_and];refine l4Abs_spec oM ?_;simp(disch:=first|omega|simp only[push_cast]) only[push_cast,B.iaddr,B.load,true_and,and_self,r.iaddr];refine g.st yT oM λw4 I z Y=>?_;rw[inc64 oM];refine O l _ _ ⟨rfl,Ext.then (h.trans c) z hN,(o.ext c).same z λe=>G _ e rfl,_,I,?_⟩;rw[M.take_snoc' (d:=0) l,<-Gc];exact arr_snoc f g1 g2
 clear O;rw[gy oM] at f;have Q:=f.len;have a4:OwnI zh w2 (.slice (some ⟨J,0,none⟩) 0 0) []:=Blk.own1 (t:=zh) (cs:=[]) (by rw[qF];exact o) (gJ _) rfl rfl oM;refine vloop_up many (λn u w'=> ∃v,u=[v,nI (n+1:Nat)]/\Ext w w'/\OwnI zh w' v1 arr/\OwnI zh w' v (zH0 arr m n)/\(∀x,v.ownBlock=some x->w.heap.size<=x/\v1.ownBlock≠some x)) ⟨_,rfl,h,q,a4,λx s=>?_⟩ ?_
 ·have e:J=x:=K3 s;subst e;exact⟨oM,λe=>G _ e rfl⟩
 rintro n _ _ w3 C3 hn ⟨v,rfl,c,g,y,p⟩ D;simp only[push_cast];have aa:=qO0 arr m n;refine zb (λc3=>?_) (λc3=>?_)
 ·have hs:=joinA_succ arr m n;have V:IntKind.i64.wrap ((n:Int)+1+1)=((n+1+1:Nat):Int):=by rw[zj oM oM];omega
  have r:=g.ints;rw[V];refine zb (λc4=>?_) (λc4=>?_)
  ·rw[if_neg oM] at hs;have e1:((n:Int)+1)=((n+1:Nat):Int):=rfl;rw[e1];simp(disch:=first|omega|simp only[push_cast]) only[r.iaddr,gk,r.load,yF0];refine zb (λZ=>?_) (λZ=>?_)
   ·rw[if_neg Z] at hs;refine zC x6 yT xo rfl rfl λb4 w4 a9 H Y a2=>?_;refine(y.ext H).app1 xy a2 oM oM λv5 w5 a5 X a3=>?_;have ae:=c.size;refine D oM _ _ ⟨v5,rfl,Ext.then (c.trans H) X λx s=>(p x s).1,(g.ext H).same X λx s e=>(p x e).2 s,by rw[hs];exact a5,λx s=>?_⟩;rcases a3 x s with e|e
    ·exact p x e
    ·exact⟨oM,λe'=>by have:=g.lt e';omega⟩
   ·rw[if_pos (by simpa using Z),gC] at hs;exact D oM _ _ ⟨v,rfl,c,g,by rw[hs];exact y,p⟩
  ·rw[if_pos oM,gC] at hs;exact D oM _ _ ⟨v,rfl,c,g,by rw[hs];exact y,p⟩
 ·have:n=many:=oM;subst this;rw[joinA_eq f hc] at y;exact hK w3 v c y λx s=>(p x s).1
theorem learnS_cons {cl:List Int} (d:satOk many c s) (h:c.many=many) (hF:Fls s.put cl) (hs:Srt cl) (n:2<=(QN s.put (yn s.why) cl).length):
  lastPl s.put cl-1<s.put.length/\lastPl s.put cl≠0/\0<=s.why.getD (lastPl s.put cl-1) 0/\s.why.getD (lastPl s.put cl-1) 0<c.list.length+s.learned.length/\
  (∀l,l∈cl++atM c s (s.why.getD (lastPl s.put cl-1) 0).toNat->l≠0/\l.natAbs<=many)/\(∀l,l∈cl++atM c s (s.why.getD (lastPl s.put cl-1) 0).toNat->l.natAbs≠(s.put.getD (lastPl s.put cl-1) 0).natAbs-> -l∉cl++atM c s (s.why.getD (lastPl s.put cl-1) 0).toNat):=by
 have v:=topOf_tops (put:=s.put) (ds:=yn s.why) (srt_nodup hs);have b:cl≠[]:=λe=>by subst e;simp[QN] at n
 have w:=lastPl_pos hF b;obtain⟨k,o⟩:∃k,lastPl s.put cl=k+1:=⟨lastPl s.put cl-1,oM⟩;rw[o,GN];obtain⟨i,t,j,m,himp,-⟩:=last_reason d hF v n o;obtain⟨u,f⟩:=(impl_iff d.mks).1 himp;have g:(s.why.getD k 0).toNat<c.list.length+s.learned.length:=oM
 have off:∀l,l∈cl++atM c s (s.why.getD k 0).toNat->l.natAbs≠(s.put.getD k 0).natAbs-> -l∈s.put:=λl a b=>by
  rcases gj.1 a with a|a
  ·exact hF l a
  ·exact gM (f l a λe=>b (by rw[e]))
 refine⟨i,oM,j,m,λl a=>?_,λl a b r=>?_⟩
 ·rcases gj.1 a with a|a
  ·have:=d.mks.2 _ (hF l a);omega
  ·exact d.lit h g a
 ·have p:=off l a b;have q:=off (-l) r (by rwa[GV]);exact d.mks.neg p q
theorem l5Learn_spec {vc v vl v3:Value} {k:Nat} (hc:CnfR F w vc c) (hs:SatR F' w v s) (S:Ints Fr w vl (levs many s.put (yn s.why))) (hv:OwnI zh w v3 (atM c s k)) (e:satOk many c s) (o:c.many=many) (hk:k<c.list.length+s.learned.length) (a1:qO s.put (atM c s k))
  (hK:∀w' v',Ext w w'->OwnI zh w' v' (learnM many c s s.put.length (atM c s k))->(∀x,v'.ownBlock=some x->v3.ownBlock=some x\/w.heap.size<=x)->K v' w'):vcall KO #[vc,v,vl,v3] w K:=by
 refine zf {ord:=[(4,[0,1,2,3,4,5,6,7,8,9,11,12,13,14,15,10,16,17,18],[(0,[1,17,18]),(1,[17,18]),(2,[17,18]),(3,[10,16,17,18]),(4,[10,16,17,18]),(5,[6,8,9,10,16,17,18]),(6,[8,9,10,16,17,18]),(7,[8,9,10,16,17,18]),(8,[9,10,16,17,18]),(9,[10,16,17,18]),(11,[12,14,15,16,17,18]),(12,[14,15,16,17,18]),(13,[14,15,16,17,18]),(14,[15,16,17,18]),(15,[16,17,18]),(10,[16,17,18]),(16,[17,18]),(17,[18])])],loops:=[(2,[3,10])]} Tryz.func176 ?_;have a0:=hc;have M:=hs;obtain⟨lv,rfl,aa⟩:=hc;obtain⟨vp,vw,vls,rfl,hp,hw,j⟩:=hs;have d:many<=700/\c.list.length<=2500:=by
  have:=e.cnf;unfold cnfOk at this;simp only[gh,decide_eq_true_eq] at this;omega
 have a6:=e.few;have m:=e.mks;have ac:=m.len;have hlen:=e.len;have E:=kZ a1;have Z:=clauseOk_srt (e.atOk hk);have G:(yn s.why).length<=700:=by rw[jE];omega
 have bounds:∀{b:List Int},Fls s.put b->∀x,x∈b->x.natAbs<=many/\placeOf s.put x.natAbs≠0:=λhF x A=>by
  have h1:=m.2 _ (hF x A);have D:=placeOf_ne_zero (hF x A);rw[GV] at D;exact⟨oM,D⟩
 generalize atM c s k=cl at*;refine ye λb1 w1 a7 a2 ad X=>?_;refine ye λb2 w2 a8 H ae Y=>?_;have A2:Blk w2 b1 [nI c.many,lv] zq:=X.ext H;have B2:Blk w2 b2 [vp,vw,vls,nI s.code] zu:=Y;have R:=a2.trans H;refine l5Top_spec (S.ext R) d.1 G (hv.ext R).ints (bounds E) ?_;simp only[push_cast];refine kj (λn u w'=> ∃b f v,n=lastPl s.put b/\u=[v,nI (QN s.put (yn s.why) b).length]/\Ext w w'/\Blk w' b1 [nI c.many,lv] zq/\Blk w' b2 [vp,vw,vls,nI s.code] zu/\
   OwnI zh w' v b/\(∀x,v.ownBlock=some x->v3.ownBlock=some x\/w.heap.size<=x)/\Fls s.put b/\Srt b/\lastPl s.put b<=f/\learnM many c s f b=learnM many c s s.put.length cl) _
  ⟨cl,s.put.length,v3,rfl,rfl,R,A2,B2,hv.ext R,λx A=> .inl A,E,Z,lastPl_le,rfl⟩ ?_
 rintro _ _ _ w3 C ⟨b,f,v,rfl,rfl,V,A3,B3,t,a3,hF,hS,ab,r⟩ hC;simp only[push_cast];refine zb (λa=>?_) (λa=>?_)
 ·have D:2<=(QN s.put (yn s.why) b).length:=oM;obtain⟨g1,g2,g3,g4,g5,g6⟩:=learnS_cons e o hF hS D;obtain⟨k1,k2,k3,k4⟩:=learnS_ok e o hF hS D;obtain⟨f,rfl⟩:∃f',f=f'+1:=⟨f-1,oM⟩;rw[learnM,if_neg oM] at r;rw[B3.ldAgg zP];refine l5Last_spec (M.ext V) m d.1 t.ints (λl S=>by have:=(bounds hF l S).1;omega) λw4 g=>?_;have E4:=V.trans g;refine zd λw5 h _=>?_;have B:=E4.trans h;have T:=(A3.ext g).ext h;have Q:=(B3.ext g).ext h;obtain⟨q,hq⟩:∃q,lastPl s.put b=q+1:=⟨lastPl s.put b-1,oM⟩;have j:qC many c s b=XM many b (atM c s (s.why.getD q 0).toNat) (s.put.getD q 0).natAbs:=by unfold qC;rw[hq,GN]
  rw[hq,GN] at g1 g3 g4 g5 g6;rw[hq,show((q+1:Nat):Int)-1=(q:Int) from by omega];have J:=hp.ext B;have O:=hw.ext B;simp(disch:=first|omega|simp only[push_cast]) only[push_cast,T.ldAgg zD,Q.ldAgg zP,T.ld0,Q.ld0,Q.ld1,true_and,J.iaddr,J.load,O.iaddr,O.load];obtain⟨y,hy⟩:∃y:Nat,s.why.getD q 0=y:=⟨(s.why.getD q 0).toNat,oM⟩;rw[hy] at g4 g5 g6 j⊢;rw[gk] at g5 g6 j;refine l5At_spec (a0.ext B) (M.ext B) oM oM λw6 v6 i a5=>?_;have W:=B.trans i;have U:=T.ext i;have B6:=Q.ext i;have L:=hp.ext W;simp(disch:=first|omega|simp only[push_cast]) only[push_cast,U.ld0,B6.ld0,true_and,and_self,L.iaddr,L.load];have a9:=m.2 _ (getD_meS g1);refine l4Abs_spec oM ?_;simp(disch:=first|omega|simp only[push_cast]) only[push_cast,U.ld0,true_and,and_self];rw[o];have N:=(((t.ext g).ext h).ext i);refine l5Join_spec N.ints a5 d.1 g5 g6 λw7 v7 p z a4=>?_;have E7:=W.trans p;rw[<-j] at z;refine l5Top_spec (S.ext E7) d.1 G z.ints (bounds k1) ?_;simp only[push_cast];refine hC (lastPl s.put (qC many c s b)) _ _ k3 ⟨_,f,v7,rfl,rfl,E7,U.ext p,B6.ext p,z,λx A=> .inr ?_,k1,k2,oM,r⟩;have:=a4 x A;have:=W.size;omega
 ·have I:learnM many c s s.put.length cl=b:=by
   rw[<-r];cases f with
   |zero=>rfl
   |succ f=>rw[learnM,if_pos oM]
  rw[I] at hK;exact hK w3 v V t a3
theorem l4Max_spec {a b:Nat} (c:K (nI (max a b:Nat)) w):vcall zi0 #[nI a,nI b] w K:=by
 refine zf {} Tryz.func216 ?_;simp only[push_cast];refine zb (λh=>?_) (λh=>?_)
 ·rwa[show max a b=a from by omega] at c
 ·rwa[show max a b=b from by omega] at c
theorem l5Below_spec {v v':Value} {put cl:List Int} {ds:List Bool} (o:Ints F w v (levs many put ds)) (m:many<=700) (e:Ints Fr w v' cl) (s:∀l,l∈cl->l.natAbs<=many/\placeOf put l.natAbs≠0)
  (q:K (nI (Zk put ds cl:Nat)) w):vcall KQ #[v,v',nI (kO put ds cl:Nat)] w K:=by
 refine zf {loops:=[(3,[7,8])]} Tryz.func178 ?_;have hlen:cl.length<=9223372036854775807:=by obtain⟨_,_,_,p,x,_⟩:=e.shape;simp at p;omega
 have t:=WY many put ds;generalize r:kO put ds cl=T;refine vloop_up cl.length (λi u w'=>w'=w/\u=[nI (maxL (((cl.take i).filter λk=>decide (lvM put ds k<T)).map (lvM put ds)):Nat),nI i]) ⟨rfl,rfl⟩ ?_;rintro i _ _ _ C hi ⟨rfl,rfl⟩ n;simp only[push_cast,e.len];refine zb (λa=>?_) (λa=>?_)
 ·have f:i<cl.length:=oM;simp(disch:=first|omega|simp only[push_cast]) only[push_cast,e.iaddr,e.load];obtain⟨g,h⟩:=s _ (getD_meS f);refine l4Abs_spec oM ?_;simp(disch:=first|omega|simp only[push_cast]) only[push_cast,o.iaddr,o.load];rw[levs_get g,levV_lit h];have c:(cl.take (i+1)).filter (λk=>decide (lvM put ds k<T))=(cl.take i).filter (λk=>decide (lvM put ds k<T))++(if lvM put ds (cl.getD i 0)<T then[cl.getD i 0] else[]):=by
   rw[M.take_snoc' (d:=0) f,PG,PV,List.filter_nil];simp only[decide_eq_true_eq]
  have j:∀A:List Int,maxL ((A++[cl.getD i 0]).map (lvM put ds))=max (maxL (A.map (lvM put ds))) (lvM put ds (cl.getD i 0)):=λA=>by
   rw[gw];exact maxL_snoc _ _ _ rfl
  refine zb (λb=>?_) (λb=>?_)
  ·refine l4Max_spec ?_;rw[inc64 oM];rw[if_pos oM] at c;refine n f _ _ ⟨rfl,?_⟩;rw[c,j]
  ·rw[inc64 oM];rw[if_neg oM,gC] at c;exact n f _ _ ⟨rfl,by rw[c]⟩
 ·rw[gy oM,<-r];exact q
end
section
variable {w:World} {K:oK} {F F':Nat->Prop} {many:Nat} {c:Cnf} {s:Sat}
def SpR (Z:Nat->Prop) (w:World) (v:Value) (s:Sat):Prop:=
 ∃vp vw vl,v= .agg #[vp,vw,vl,nI s.code]/\OwnI zh w vp s.put/\OwnI zh w vw s.why/\(∀b,vp.ownBlock=some b->Z b/\vw.ownBlock≠some b)/\(∀b,vw.ownBlock=some b->Z b)/\
  Lists (λb=>Z b/\vp.ownBlock≠some b/\vw.ownBlock≠some b) w vl s.learned
section
variable {Z Z':Nat->Prop} {v:Value} {w':World}
theorem SpR.ext (h:SpR Z w v s) (he:Ext w w'):SpR Z w' v s:=by
 obtain⟨vp,vw,vl,e,a,b,c,d,f⟩:=h;exact⟨vp,vw,vl,e,a.ext he,b.ext he,c,d,f.ext he⟩
theorem SpR.same {S:Nat->Prop} (h:SpR Z w v s) (hw:Same S w w') (c:∀b,Z b->b<w.heap.size->¬S b):SpR Z w' v s:=by
 obtain⟨vp,vw,vl,e,d,f,g,i,j⟩:=h;exact⟨vp,vw,vl,e,d.same hw λb a=>c b (g b a).1 (d.lt a),f.same hw λb a=>c b (i b a) (f.lt a),g,i,j.same hw λb a=>c b a.1⟩
theorem SpR.weaken (h:SpR Z w v s) (c:∀b,Z b->b<w.heap.size->Z' b):SpR Z' w v s:=by
 obtain⟨vp,vw,vl,e,d,f,g,i,j⟩:=h;exact⟨vp,vw,vl,e,d,f,λb a=>⟨c b (g b a).1 (d.lt a),(g b a).2⟩,λb a=>c b (i b a) (f.lt a),j.weaken λb a k=>⟨c b a.1 k,a.2⟩⟩
theorem SpR.below (h:SpR Z w v s):SpR (λb=>Z b/\b<w.heap.size) w v s:=h.weaken λ_ a c=>⟨a,c⟩
theorem SpR.sat (h:SpR Z w v s):SatR Z w v s:=by
 obtain⟨vp,vw,vl,e,c,d,f,g,i⟩:=h;exact⟨vp,vw,vl,e,c.ints.weaken λb a _=>(f b a).1,d.ints.weaken λb a _=>g b a,i.weaken λb a _=>a.1⟩
theorem SpR.empty:SpR Z w (.agg #[.slice none 0 0,.slice none 0 0,.slice none 0 0,nI 0]) emptyS:=
 ⟨_,_,_,rfl,OwnI.nil,OwnI.nil,λb a=>(by cases a),λb a=>(by cases a),jq0⟩
end
theorem copy_ints {v:Value} {xs:List Int} {b:Nat} {t:TypeId} (f:Blk w b [] y0) (a:Ints F w v xs) (c:xs.length*8<=140737488355328)
  (g:∀v' w',OwnI zh w' v' xs->Same (· =b) w w'->(∀x,v'.ownBlock=some x->x=b\/w.heap.size<=x)->K v' w'):vbi .append [zh,zh] t [.slice (some ⟨b,0,none⟩) 0 0,v] w K:=by
 have d:OwnI zh w (.slice (some ⟨b,0,none⟩) 0 0) []:=Blk.own1 (t:=zh) (cs:=[]) (by rw[qF];exact f) (gJ _) rfl rfl oM;refine d.app (ys:=xs) xy a (by simp only[pH];omega) (by simpa using c) λv' w2 i hs h=>g v' w2 i (hs.mono λx _ a=>?_) λx a=>?_
 ·exact(K3 a).symm
 ·exact(h x a).imp (λe=>(K3 e).symm) id
theorem l5Back_spec {vp vw vl:Value} {L:Nat} (hp:OwnI zh w vp s.put) (hw:OwnI zh w vw s.why) (ac:vl.oneCell'=true) (hlen:s.put.length=s.why.length) (ag:s.put.length<=700) (hL:L<=700) (Y:∀k,k<s.why.length->s.why.getD k 0= -1\/0<=s.why.getD k 0)
  (hK:∀w' F y,Ext w w'->OwnI zh w' F (s.put.take (backN (yn s.why) L s.put.length))->OwnI zh w' y (s.why.take (backN (yn s.why) L s.put.length))->(∀b,F.ownBlock=some b->w.heap.size<=b/\y.ownBlock≠some b)->(∀b,y.ownBlock=some b->w.heap.size<=b)->K (.agg #[F,y,vl,nI s.code]) w'):
  vcall Wt #[.agg #[vp,vw,vl,nI s.code],nI L] w K:=by
 refine zf {loops:=[(3,[5,6])],cuts:=[(16392,[5])]} Tryz.func177 ?_;refine ye λb2 w2 ak a8 av a2=>?_;refine qg qP λb4 A al O aw a3=>?_;have B4:Blk A b2 [vp,vw,vl,nI s.code] zu:=a2.ext O;have R4:Blk A b4 [.slice none 0 0,.slice none 0 0,.slice none 0 0,nI 0] zu:=a3;have E4:=a8.trans O;have R:=hp.ext E4;have ad:=hw.ext E4;have aa:=R.ints;have Z:=ad.ints;have aq:=jE s.why;refine zo (λu w'=>w'=A/\u=[nI (backN (yn s.why) L s.put.length:Nat)]) ?_ ?_
 ·intro J hJ;have done:∀n,n<=s.put.length->(∀i,i<n->(lvl (yn s.why) i:Int)<=L)->(n=s.put.length\/(L:Int)<(lvl (yn s.why) n:Int))->J [nI (n:Nat)] A:=λn h1 h2 h3=>hJ _ _ ⟨rfl,by rw[backN_eq h1 h2 h3]⟩;refine vloop_up s.put.length (λn u w'=>w'=A/\u=[nI n,nI (((yn s.why).take n).count true:Nat)]/\∀i,i<n->(lvl (yn s.why) i:Int)<=L) ⟨rfl,rfl,oM⟩ ?_;rintro n _ _ A C hn ⟨rfl,rfl,f⟩ hC;simp only[push_cast,B4.ld0,aa.len];refine zb (λa=>?_) (λa=>done n hn f (.inl oM));have a9:n<s.put.length:=oM;have a7:=Y2 (ds:=yn s.why) (i:=n) oM;have B:=lvl_succ (ds:=yn s.why) (i:=n) oM;have ap:((yn s.why).take n).count true<=700:=gH pQ (by simp;omega);have N:=Jp (why:=s.why) (k:=n) oM;have au:=Y n oM;simp(disch:=first|omega|simp only[push_cast]) only[push_cast,B4.ld1,Z.iaddr,Z.load];have j:∀k:Nat,k=lvl (yn s.why) n->¬(L:Int)<k->(n<s.put.length->∀(u':List Value) (w'':World),(w''=A/\u'=[nI (n+1:Nat),nI (((yn s.why).take (n+1)).count true:Nat)]/\∀i,i<n+1->(lvl (yn s.why) i:Int)<=L)->C u' w'')->C [nI (n+1:Nat),nI k] A:=λk Q ar h=>by
   refine h a9 _ _ ⟨rfl,by rw[a7,<-B,Q],λi hi=>?_⟩;by_cases e:i=n
   ·subst e;omega
   ·exact f i oM
  refine zb (λb=>?_) (λb=>?_)
  ·have Q:((yn s.why).take n).count true+1=lvl (yn s.why) n:=by rw[B,N,decide_eq_true oM];rfl
   rw[inc64 oM];refine zb (λb2=>done n hn f (.inr oM)) (λb2=>?_);rw[inc64 oM];exact j _ Q b2 hC
  ·have Q:((yn s.why).take n).count true=lvl (yn s.why) n:=by rw[B,N,decide_eq_false oM];rfl
   refine zb (λb2=>done n hn f (.inr oM)) (λb2=>?_);rw[inc64 oM];exact j _ Q b2 hC
 rintro _ _ _ ⟨rfl,rfl⟩;have ao:=backN_le (yn s.why) L s.put.length;generalize backN (yn s.why) L s.put.length=n at*;have aj:=E4.size;refine ym x6 yT λb5 w5 am o ax a4=>?_;have B5:=B4.ext o;have S:=R.ext o;simp(disch:=first|omega|simp only[push_cast]) only[push_cast,B5.ld0,S.cut];have ab:=S.taken (n:=n) oM;refine copy_ints a4 ab.ints (by simp;omega) λv6 w6 t D p=>?_;have B6:=B5.same D oM;refine B6.st t.ints.cells1 t.ints.one j6 rfl λw7 T az a5=>?_;have B7:Blk w7 b2 [v6,vw,vl,nI s.code] zu:=a5;have ay:=D.size;have E:=t.same T λx c e=>by rcases p x c with d|d<;>omega
 have z:Same (λx=>x=b5\/x=b2) w5 w7:=(D.mono λx _ e=> .inl e).trans (T.mono λx _ e=> .inr e);have M:Ext w w7:=Ext.then (E4.trans o) z λx c=>oM
 refine ym x6 yT λb8 w8 an g b0 a6=>?_;have B8:=B7.ext g;have X:=hw.ext (M.trans g);simp(disch:=first|omega|simp only[push_cast]) only[push_cast,B8.ld1,X.cut];have ae:=X.taken (n:=n) oM;refine copy_ints a6 ae.ints (by simp;omega) λv9 w9 v r q=>?_;have B9:=B8.same r oM;have V:=(E.ext g).same r λx c e=>by have:=E.lt c;omega
 refine B9.st v.ints.cells1 v.ints.one j6 rfl λw10 l ah G=>?_;have a0:Blk w10 b2 [v6,v9,vl,nI s.code] zu:=G;have b1:=r.size;have U:=V.same l λx c e=>by rcases p x c with d|d<;>omega
 have W:=v.same l λx c e=>by rcases q x c with d|d<;>omega
 have hS:Same (λx=>x=b8\/x=b2) w8 w10:=(r.mono λx _ e=> .inl e).trans (l.mono λx _ e=> .inr e);have I:Ext w w10:=Ext.then (M.trans g) hS λx c=>oM
 have a1:Blk w10 b4 [.slice none 0 0,.slice none 0 0,.slice none 0 0,nI 0] zu:=((((R4.ext o).same z oM).ext g).same hS oM);rw[a0.ldAgg zP];refine a1.stAgg (cs':=[v6,v9,vl,nI s.code]) rfl zP (λx c=>?_) λaf m ai H=>?_
 ·simp only[V0,gq,or_false] at c;rcases c with rfl|rfl|rfl|rfl
  ·exact t.ints.one
  ·exact v.ints.one
  ·exact ac
  ·rfl
 rw[H.lv zP];refine hK af v6 v9 (Ext.then I m λx c=>oM) (U.same m λx c e=>?_) (W.same m λx c e=>?_) (λx c=>⟨?_,λe=>?_⟩) (λx c=>?_)
 ·rcases p x c with d|d<;>omega
 ·rcases q x c with d|d<;>omega
 ·rcases p x c with d|d<;>omega
 ·have:=E.lt c;rcases q x e with d|d<;>omega
 ·rcases q x c with d|d<;>omega
theorem Qs {vl:Value} {xss:List (List Int)} (h:Lists F w vl xss):vl.oneCell'=true:=by
 obtain⟨vs,_,a,_⟩:=h;exact a.one
theorem l5Clash_spec {vc v v2:Value} {Z:Nat->Prop} {k:Nat} (hc:CnfR F w vc c) (hs:SpR Z w v s) (d:Ints F' w v2 (atM c s k)) (A:satOk many c s) (Y:c.many=many) (hk:k<c.list.length+s.learned.length) (ac:qO s.put (atM c s k))
  (hK:∀w' v',Ext w w'->SpR (λb=>Z b\/w.heap.size<=b) w' v' (jg many c s (atM c s k))->K v' w'):vcall KP #[vc,v,v2] w K:=by
 refine zf {ord:=[oz 9 [0,1,2,4,3,5,6,7] [(0,[1,2,4,3,5]),(1,[2,4,3,5]),(2,[4,3,5]),(4,[3])],oz 11 (oR 7) [(0,[1,2,3,4]),(1,[2,3]),(2,[3])]]} Tryz.func141 ?_;have ax:=hc;have bc:=hs.sat;obtain⟨lv,rfl,cx⟩:=hc;obtain⟨vp,vw,vl,rfl,hp,hw,ay,bz,af⟩:=hs;have D:many<=700/\c.list.length<=2500:=by
  have:=A.cnf;unfold cnfOk at this;simp only[gh,decide_eq_true_eq] at this;omega
 have ch:=A.few;have ag:=A.mks;have cz:=ag.len;have hlen:=A.len;have az:(yn s.why).length<=700:=by rw[jE];omega
 have a8:∀k,k<s.why.length->s.why.getD k 0= -1\/0<=s.why.getD k 0:=λk hk=>(A.why k hk).imp id λh=>h.1;have bounds:∀{an:List Int},Fls s.put an->∀x,x∈an->x.natAbs<=many/\placeOf s.put x.natAbs≠0:=λhF x d=>by
  have h1:=ag.2 _ (hF x d);have h2:=placeOf_ne_zero (hF x d);rw[GV] at h2;exact⟨oM,h2⟩
 have cc:=clauseOk_len (m:=many) (by have:=A.atOk hk;rwa[Y] at this);obtain⟨z1,z2,z3,z4⟩:=WZ A Y hk ac;refine ye λb3 w1 ct c0 d0 br=>?_;refine ye λb4 w2 cu b0 d1 bs=>?_;refine qg qP λb6 w3 cv ad d2 bt=>?_;have A3:Blk w3 b3 [nI c.many,lv] zq:=(br.ext b0).ext ad;have B3:Blk w3 b4 [vp,vw,vl,nI s.code] zu:=bs.ext ad;have R3:Blk w3 b6 [.slice none 0 0,.slice none 0 0,.slice none 0 0,nI 0] zu:=bt;have E3:=c0.trans (b0.trans ad);rw[A3.ldAgg zD,B3.ldAgg zP];refine l5Levels_spec (ax.ext E3) (bc.ext E3) Y D.1 ag hlen a8 λw4 vlev O z ah=>?_;have E4:=E3.trans O;refine l5Top_spec z.ints D.1 az (d.ext E4) (bounds (kZ ac)) ?_;have A4:=A3.ext O;have B4:=B3.ext O;have R4:=R3.ext O;have d3:=O.size;have ones:∀{U V bf:Value} {cd:Int},U.oneCell'=true->V.oneCell'=true->bf.oneCell'=true->∀x,x∈[U,V,bf,nI cd]->x.oneCell'=true:=λh1 h2 h3 x d=>by
  simp only[V0,gq,or_false] at d;rcases d with rfl|rfl|rfl|rfl
  ·exact h1
  ·exact h2
  ·exact h3
  ·rfl
 have code:∀(cd:Int),jg many c s (atM c s k)={s with code:=cd}->zT y0 (oP b4 3) (nI cd) w4 λ_ bi=>zt zu (oP b4 0) bi λt22 bj=>zT zu (oP b6 0) t22 bj λ_ bk=>vlv zu (oP b6 0) bk λr6 bl=>K r6 bl:=λcd X=>by
  refine B4.st rfl rfl yT rfl λw5 bd c9 bu=>?_;have B5:Blk w5 b4 [vp,vw,vl,nI cd] zu:=bu;rw[B5.ldAgg zP];refine(R4.same bd oM).stAgg (cs':=[vp,vw,vl,nI cd]) rfl zP (ones hp.ints.one hw.ints.one (Qs af)) λw6 c4 d4 bv=>?_;rw[bv.lv zP];have W:Ext w w6:=Ext.then E4 ((bd.mono λx _ e=>(.inl e:x=b4\/x=b6)).trans (c4.mono λx _ e=> .inr e)) λx d=>oM;refine hK w6 _ W ?_;rw[X];exact⟨vp,vw,vl,rfl,hp.ext W,hw.ext W,λb hb=>⟨.inl (ay b hb).1,(ay b hb).2⟩,λb hb=> .inl (bz b hb),(af.ext W).weaken λb hb _=>⟨.inl hb.1,hb.2⟩⟩
 simp only[push_cast];refine zb (λa=>?_) (λa=>?_)
 ·exact code 2 (by unfold jg;rw[if_pos oM])
 obtain⟨es,c1,b5,b1⟩:=af;have b8:=b5.ext E4;simp only[push_cast,B4.ld2,b8.len];refine zb (λa2=>?_) (λa2=>?_)
 ·exact code 3 (by unfold jg;rw[if_neg oM,if_pos oM])
 clear code;have X:jg many c s (atM c s k)={s with put:=s.put.take (backN (yn s.why) (Zk s.put (yn s.why) (learnM many c s s.put.length (atM c s k))) s.put.length),why:=s.why.take (backN (yn s.why) (Zk s.put (yn s.why) (learnM many c s s.put.length (atM c s k))) s.put.length),learned:=s.learned++[learnM many c s s.put.length (atM c s k)]}:=by
  unfold jg;rw[if_neg oM,if_neg oM]
 rw[X] at hK;clear X;refine zd λw5 J _=>?_;have A5:=A4.ext J;have B5:=B4.ext J;simp only[push_cast,A5.ldAgg zD,B5.ldAgg zP,true_and];refine ym x6 yT λb7 w7 cw L d5 bw=>?_;have E7:=E4.trans (J.trans L);have A7:=A5.ext L;have B7:=B5.ext L;simp only[push_cast,A7.ldAgg zD,B7.ldAgg zP,true_and,and_self];have c9:=J.size;have cq:=L.size;refine copy_ints bw (d.ext E7) oM λv8 w8 c5 M c2=>?_;have A8:=A7.same M oM;have B8:=B7.same M oM;have ab:Ext w w8:=Ext.then E7 M λx d=>by have:=E4.size;omega
 simp only[push_cast,A8.ldAgg zD,B8.ldAgg zP,true_and,and_self];have d6:=M.size;have R:=((z.ext J).ext L).same M λx d e=>by have:=z.lt d;omega
 refine l5Learn_spec (ax.ext ab) (bc.ext ab) R.ints c5 A Y hk ac λw9 v9 Q ai c3=>?_;have E9:=ab.trans Q;have d7:=Q.size;have S:∀x,v9.ownBlock=some x->w4.heap.size<=x:=λx d=>by
  rcases c3 x d with e|e
  ·rcases c2 x e with e|e<;>omega
  ·omega
 generalize cy:learnM many c s s.put.length (atM c s k)=lc at*;refine ym Qa j6 λa9 w10 ce n ci ao=>?_;have ak:=(B8.ext Q).ext n;have am:=E9.trans n;have ae:=b5.ext am;simp only[push_cast,ak.ld2];have bq:OwnV zI w10 (.slice (some ⟨a9,0,none⟩) 0 0) []:=Blk.own1 (t:=zI) (cs:=[]) (by rw[Uv];exact ao) (gJ _) rfl rfl oM;have b2:∀u,u∈es->u.oneCell'=true:=λu hu=>by
  obtain⟨i,hi,rfl⟩:=gm hu;have:=(b1 i oM).one;simpa[k6,hi] using this
 refine bq.app (us:=es) ZT ae b2 (by simp;omega) (by simp;omega) λv11 bg a6 a5 ba=>?_;have f:∀x,v11.ownBlock=some x->w9.heap.size<=x:=λx d=>by
  rcases ba x d with e|e
  ·have e:a9=x:=K3 e;omega
  ·omega
 have r:Same (· =a9) w10 bg:=a5.mono λx _ e=>(K3 e).symm;have bm:=ak.same r oM;have c6:=n.size;have cj:=a5.size;have T:=(ai.ext n).same r λx d e=>by have:=ai.lt d;omega
 have au:Ext w bg:=Ext.then am r λx d=>by have:=E9.size;omega
 refine zC Qa j6 VX rfl T.ints.cells1 λcr d8 cf g ck ap=>?_;rw[Ge] at a6;refine OwnV.app1 (a6.ext g) ZT ap T.ints.one oM oM λa1 ca C o bb=>?_;have E:∀x,a1.ownBlock=some x->w9.heap.size<=x:=λx d=>by
  rcases bb x d with e|e
  ·exact f x e
  ·have:=g.size;omega
 have c7:=g.size;have cl:=o.size;have bn:=(bm.ext g).same o λe=>by have:=f _ e;have:=B8.lt;omega
 have av:Ext w ca:=Ext.then (au.trans g) o λx d=>by have:=f x d;have:=E9.size;omega
 have be:=(T.ext g).same o λx d e=>by have:=f x e;have:=ai.lt d;omega
 refine bn.st C.vals.cells1 C.vals.one Q8 rfl λaj p cm aq=>?_;have bo:Blk aj b4 [vp,vw,a1,nI s.code] zu:=aq;have aw:Ext w aj:=Ext.then av p λx d=>oM
 have G:=C.same p λx d e=>by have:=E x d;have:=B8.lt;omega
 have H:=be.same p λx d e=>by have:=S x d;have:=B4.lt;omega
 have a0:OwnI zh aj vlev (levs many s.put (yn s.why)):=((((R.ext Q).ext n).same r λx d e=>by have:=z.lt d;omega).ext g|>.same o λx d e=>by have:=f x e;have:=z.lt d;omega).same p λx d e=>by have:=ah x d;have:=B3.lt;omega
 refine zd λd9 j _=>?_;have al:=bo.ext j;simp only[push_cast,al.ldAgg zP,true_and];have l:=aw.trans j;have c8:=p.size;have cn:=j.size;rw[<-z3];refine l5Below_spec (a0.ext j).ints D.1 (H.ext j).ints (bounds z1) ?_;simp only[push_cast,al.ldAgg zP,true_and,and_self];have bx:Zk s.put (yn s.why) lc<=700:=by
  unfold Zk;rcases j3 (xs:=(lc.filter λk=>decide (lvM s.put (yn s.why) k<kO s.put (yn s.why) lc)).map (lvM s.put (yn s.why))) with e|e
  ·omega
  ·obtain⟨q,_,e⟩:=gn.1 e;rw[<-e];exact gH (lvl_le _ _) az
 refine l5Back_spec (s:={s with code:=s.code}) (hp.ext l) (hw.ext l) C.vals.one hlen oM bx a8 λcb U V y a4 a7 I N=>?_;have bp:Blk cb b6 [.slice none 0 0,.slice none 0 0,.slice none 0 0,nI 0] zu:=by
  have h6:=R3.lt;exact(((((((((R4.ext J).ext L).same M oM).ext Q).ext n).same r oM).ext g).same o λe=>by have:=f _ e;omega).same p oM|>.ext j).ext y
 refine bp.stAgg (cs':=[U,V,a1,nI s.code]) rfl zP (ones a4.ints.one a7.ints.one C.vals.one) λbh B cp ar=>?_;rw[ar.lv zP];have a3:Ext w bh:=Ext.then (l.trans y) B λx d=>oM
 have cg:=R3.lt;have co:=y.size;refine hK bh _ a3 ⟨U,V,a1,rfl,a4.same B λx d e=>by have:=(I x d).1;omega,a7.same B λx d e=>by have:=N x d;omega,λx d=>⟨.inr (by have:=(I x d).1;have:=l.size;omega),(I x d).2⟩,λx d=> .inr (by have:=N x d;have:=l.size;omega),es++[v9],by simp[c1],?_,λi hi=>?_⟩
 ·have aa:=((G.ext j).ext y).same B λx d e=>by have:=E x d;omega
  refine aa.vals.weaken λx d _=>⟨.inr (by have:=E x d;have:=E9.size;omega),λe=>?_,λe=>?_⟩
  ·have:=(I x e).1;have:=G.lt d;omega
  ·have:=N x e;have:=G.lt d;omega
 ·simp only[Q1,gN] at hi;by_cases b9:i<s.learned.length
  ·rw[getD_app_l oM,getD_app_l b9];refine(((b1 i b9).weaken (F':=λx=>(Z x/\vp.ownBlock≠some x/\vw.ownBlock≠some x)/\x<w.heap.size) λx h1 h2=>⟨h1,h2⟩).ext a3).weaken λx d _=>⟨.inl d.1.1,λe=>?_,λe=>?_⟩
   ·have:=(I x e).1;have:=l.size;omega
   ·have:=N x e;have:=l.size;omega
  ·have e1:i=s.learned.length:=oM;have e2:i=es.length:=oM;have g1:(es++[v9]).getD i undef=v9:=by rw[e2];simp
   have g2:(s.learned++[lc]).getD i []=lc:=by rw[e1];simp
   rw[g1,g2];have aa:=((H.ext j).ext y).same B λx d e=>by have:=S x d;omega
   refine aa.ints.weaken λx d _=>⟨.inr (by have:=S x d;have:=E4.size;omega),λe=>?_,λe=>?_⟩
   ·have:=(I x e).1;have:=H.lt d;omega
   ·have:=N x e;have:=H.lt d;omega
end
section
variable {w:World} {K:oK} {F F':Nat->Prop} {many:Nat} {c:Cnf} {s:Sat}
theorem l5Do_spec {vc v:Value} {Z:Nat->Prop} (hc:CnfR F w vc c) (hs:SpR Z w v s) (B:satOk many c s) (a3:c.many=many)
  (hK:∀w' v',Same Z w w'->SpR (λb=>Z b\/w.heap.size<=b) w' v' (goM many c s)->K v' w'):vcall ym0 #[vc,v] w K:=by
 refine zf {ord:=[oz 4 (oR 8) [(0,[1,2,3,4,5]),(1,[2,3,4,5]),(2,[3,4]),(3,[4])]],loops:=[(13,[9])]} Tryz.func91 ?_;have S:=hc;have bj:=hs.sat;have bk:=hs;obtain⟨lv,rfl,ad⟩:=hc;obtain⟨vp,vw,vl,rfl,hp,hw,p,a4,J⟩:=hs;have L:many<=700/\c.list.length<=2500:=by
  have:=B.cnf;unfold cnfOk at this;simp only[gh,decide_eq_true_eq] at this;omega
 have bu:=B.few;have M:=B.mks;have c9:=M.len;have hlen:=B.len;have ac:∀cl,cl∈c.list++s.learned->∀l,l∈cl->l≠0/\l.natAbs<=many:=λcl ad l hl=>satOk.bnd B a3 ad hl;refine ye λb2 w1 c2 bf cb ba=>?_;refine ye λb3 w2 c3 ae cc bb=>?_;refine qg qP λb4 w3 c4 a5 ce bc=>?_;have A3:Blk w3 b2 [nI c.many,lv] zq:=(ba.ext ae).ext a5;have B3:Blk w3 b3 [vp,vw,vl,nI s.code] zu:=bb.ext a5;have R3:Blk w3 b4 [.slice none 0 0,.slice none 0 0,.slice none 0 0,nI 0] zu:=bc;have E3:=bf.trans (ae.trans a5);rw[A3.ldAgg zD];simp only[push_cast,B3.ld0];refine l5Vals_spec (S.ext E3) a3 L.1 (hp.ext E3).ints M λw4 v4 G ak c7=>?_;have E4:=E3.trans G;have A4:=A3.ext G;have B4:=B3.ext G;simp only[push_cast,A4.ldAgg zD,B4.ld2];refine l5Find_spec (S.ext E4) (J.ext E4) ak.ints M L.1 oM ac λw5 k u x H hf=>?_;have E5:=E4.trans H;have A5:=A4.ext H;have X:=B4.ext H;have R5:=(R3.ext G).ext H;have bm:=ak.ext H;have l3:=X.lt;have l4:=R5.lt;have cg:=E5.size;have cf:=G.size;simp only[push_cast];have ones:∀{q E ao:Value} {cd:Int},q.oneCell'=true->E.oneCell'=true->ao.oneCell'=true->∀x,x∈[q,E,ao,nI cd]->x.oneCell'=true:=λh1 h2 h3 x a=>by
  simp only[V0,gq,or_false] at a;rcases a with rfl|rfl|rfl|rfl
  ·exact h1
  ·exact h2
  ·exact h3
  ·rfl
 have n:goM many c s=(if 0<=k then jg many c s (atM c s k.toNat) else if 0<=u then{s with put:=s.put++[x],why:=s.why++[u]}
  else if s.put.length=many then{s with code:=1} else{s with put:=s.put++[-(Zq many s.put:Int)],why:=s.why++[-1]}):=by
  unfold goM;rw[hf]
 have push:∀(W:World) (l y:Int),Ext w W->Blk W b3 [vp,vw,vl,nI s.code] zu->Blk W b4 [.slice none 0 0,.slice none 0 0,.slice none 0 0,nI 0] zu->w5.heap.size<=W.heap.size->goM many c s={s with put:=s.put++[l],why:=s.why++[y]}->
   vbuildS zh 1 [(0,nI l)] W λt39 aq=>vbi .append [zh,zh] zh [vp,t39] aq λt40 ar=>zT zh (oP b3 0) t40 ar λ_ au=>zt zh (oP b3 1) au λt43 av=>
   vbuildS zh 1 [(0,nI y)] av λt45 aw=>vbi .append [zh,zh] zh [t43,t45] aw λt46 ax=>zT zh (oP b3 1) t46 ax λ_ ay=>zt zu (oP b3 0) ay λt48 az=>
   zT zu (oP b4 0) t48 az λ_ b0=>vlv zu (oP b4 0) b0 λan b1=>K an b1:=by
  intro W l y E6 B6 R6 bq ag;have ci:=E6.size;refine zC x6 yT xo rfl rfl λb7 w7 c5 j br a1=>?_;have r:=E6.trans j;refine(hp.ext r).app1 xy a1 oM oM λq w8 U V A=>?_;have nb:∀x,vp.ownBlock=some x->x<w.heap.size:=λx a=>hp.lt a;have nw:∀x,vw.ownBlock=some x->x<w.heap.size:=λx a=>hw.lt a;have B8:=(B6.ext j).same V λe=>by have:=nb _ e;omega
  refine B8.st U.ints.cells1 U.ints.one j6 rfl λw9 D bs a2=>?_;have B9:Blk w9 b3 [q,vw,vl,nI s.code] zu:=a2;have bh:=U.same D λx a e=>by rcases A x a with d|d;(have:=nb _ d;omega);omega
  have bo:=((hw.ext r).same V λx a e=>(p x e).2 a).same D λx a e=>by have:=nw _ a;omega
  simp only[push_cast,B9.ld1];have ch:=V.size;refine zC x6 yT xo rfl rfl λc1 w10 bt t bw a8=>?_;refine(bo.ext t).app1 xy a8 oM oM λE cj Q z g=>?_;have b5:=(B9.ext t).same z λe=>by have:=nw _ e;omega
  have ah:=(bh.ext t).same z λx a e=>by
   rcases A x a with d|d
   ·exact(p x d).2 e
   ·have:=nw _ e;omega
  refine b5.st Q.ints.cells1 Q.ints.one j6 rfl λap N bz a9=>?_;have b8:Blk ap b3 [q,E,vl,nI s.code] zu:=a9;have hS:Same (λx=>vp.ownBlock=some x\/vw.ownBlock=some x\/x=b3) w7 ap:=(V.mono λx _ e=> .inl e).trans ((D.mono λx _ e=> .inr (.inr e)).trans ((Same.of_ext t).trans ((z.mono λx _ e=> .inr (.inl e)).trans (N.mono λx _ e=> .inr (.inr e)))));have b9:=(R6.ext j).same hS (by rintro(e|e|e);exact absurd (nb _ e) oM;exact absurd (nw _ e) oM;omega);have Y:=ah.same N λx a e=>by rcases A x a with d|d;(have:=nb _ d;omega);omega
  have bx:=z.size;have a0:=Q.same N λx a e=>by rcases g x a with d|d;(have:=nw _ d;omega);omega
  rw[b8.ldAgg zP];refine b9.stAgg (cs':=[q,E,vl,nI s.code]) rfl zP (ones Y.ints.one a0.ints.one (Qs J)) λa7 O c0 aa=>?_;rw[aa.lv zP];have o:Same (λx=>vp.ownBlock=some x\/vw.ownBlock=some x\/x=b3\/x=b4) w7 a7:=(hS.mono λx _ e=>e.imp id λe=>e.imp id .inl).trans (O.mono λx _ e=> .inr (.inr (.inr e)));have ab:Same (λb=>vp.ownBlock=some b\/vw.ownBlock=some b) w a7:=by
   refine⟨o.os.trans r.os,o.tape.trans r.tape,o.output.trans r.output,gH r.size o.size,λb f hn=>?_⟩;rw[o.block b (by have:=r.size;omega) (by rintro(e|e|e|e);exact hn (.inl e);exact hn (.inr e);omega;omega),r.block b f id]
  have bp:=hS.size;refine hK a7 _ (ab.mono λb _ e=>e.elim (λe=>(p b e).1) (a4 b)) ?_;rw[ag];refine⟨q,E,vl,rfl,Y.same O λx a e=>by rcases A x a with d|d;(have:=nb _ d;omega);omega,a0.same O λx a e=>by rcases g x a with d|d;(have:=nw _ d;omega);omega,λx a=>?_,λx a=>?_,?_⟩
  ·rcases A x a with e|e
   ·refine⟨.inl (p x e).1,λe2=>?_⟩;rcases g x e2 with e3|e3
    ·exact(p x e).2 e3
    ·have:=nb _ e;omega
   ·refine⟨.inr oM,λe2=>?_⟩;rcases g x e2 with e3|e3
    ·have:=nw _ e3;omega
    ·have:=U.lt a;omega
  ·rcases g x a with e|e
   ·exact .inl (a4 x e)
   ·exact .inr oM
  ·refine(((J.weaken (F':=λb=>(Z b/\vp.ownBlock≠some b/\vw.ownBlock≠some b)/\b<w.heap.size) λb h1 h2=>⟨h1,h2⟩).same ab λb f _ e=>e.elim f.1.2.1 f.1.2.2).weaken λx a _=>⟨.inl a.1.1,λe=>?_,λe=>?_⟩)
   ·rcases A x e with d|d
    ·exact a.1.2.1 d
    ·have:=a.2;omega
   ·rcases g x e with d|d
    ·exact a.1.2.2 d
    ·have:=a.2;omega
 rcases find_cases s.put (c.list++s.learned) with⟨i,u',x',hi,e,be⟩|⟨hn,⟨i,x',hi,e,hu,-⟩|⟨e,-⟩⟩
 ·rw[hf,Gp,Gp] at e;obtain⟨rfl,rfl,rfl⟩:=e;rw[Q1] at hi;rw[if_pos oM,gk] at n;refine zb (λ_=>?_) (λb=>absurd oM b);refine zd λW I _=>?_;have E6:=E5.trans I;have A6:=A5.ext I;have B6:=X.ext I;simp only[push_cast,A6.ldAgg zD,B6.ldAgg zP,true_and];refine l5At_spec (S.ext E6) (bj.ext E6) hi oM λw7 v7 j bn=>?_;have r:=E6.trans j;have A7:=A6.ext j;have B7:=B6.ext j;simp only[push_cast,A7.ldAgg zD,B7.ldAgg zP,true_and,and_self];refine l5Clash_spec (S.ext r) (bk.below.ext r) bn B a3 hi be λw8 v8 af a6=>?_;have R8:=((R5.ext I).ext j).ext af;have E8:=r.trans af;rw[<-n] at a6;obtain⟨p8,y8,l8,rfl,h8⟩:=a6.sat.fields;refine R8.stAgg (cs':=[p8,y8,l8,nI (goM many c s).code]) rfl zP h8 λw9 D bs a2=>?_;rw[a2.lv zP];refine hK w9 _ (Same.of_ext (Ext.then E8 D λx a=>oM)) ((a6.same D λb f _ e=>?_).weaken λb f _=>?_)
  ·have:=r.size;have:=R5.lt;have:=I.size;have:=j.size;rcases f with f|f
   ·have:=f.2;omega
   ·omega
  ·rcases f with f|f
   ·exact .inl f.1
   ·exact .inr (by have:=r.size;omega)
 ·rw[hf,Gp,Gp] at e;obtain⟨rfl,rfl,rfl⟩:=e;rw[if_neg oM,if_pos oM] at n;refine zb (λb=>absurd b oM) (λ_=>zb (λ_=>?_) (λb=>absurd oM b));simp only[push_cast,X.ld0];exact push w5 _ _ E5 X R5 (gp _) n
 ·rw[hf,Gp,Gp] at e;obtain⟨rfl,rfl,rfl⟩:=e;rw[if_neg oM,if_neg oM] at n;refine zb (λb=>absurd b oM) (λ_=>zb (λb=>absurd b oM) (λ_=>?_));have bi:=(hp.ext E5).ints;simp only[push_cast,X.ld0,A5.ld0,bi.len];refine zb (λb=>?_) (λb=>?_)
  ·rw[if_pos oM] at n;refine X.st rfl rfl yT rfl λW ai bq bd=>?_;have B6:Blk W b3 [vp,vw,vl,nI 1] zu:=bd;rw[B6.ldAgg zP];refine(R5.same ai oM).stAgg (cs':=[vp,vw,vl,nI 1]) rfl zP (ones hp.ints.one hw.ints.one (Qs J)) λw7 bl br a1=>?_;rw[a1.lv zP];have R:Ext w w7:=Ext.then E5 ((ai.mono λx _ e=>(.inl e:x=b3\/x=b4)).trans (bl.mono λx _ e=> .inr e)) λx a=>oM;refine hK w7 _ (Same.of_ext R) ?_;rw[n];exact⟨vp,vw,vl,rfl,hp.ext R,hw.ext R,λb f=>⟨.inl (p b f).1,(p b f).2⟩,λb f=> .inl (a4 b f),(J.ext R).weaken λb f _=>⟨.inl f.1,f.2⟩⟩
  ·rw[if_neg oM] at n;obtain⟨f1,f2,f3,f4⟩:=free_spec M oM;have al:=bm.ints;have ca:=signs_len many s.put;refine vloop_up (Zq many s.put-1) (λi u w'=>u=[nI (i+1:Nat)]/\w'=w5) ⟨rfl,rfl⟩ ?_;rintro i _ _ w5 C hi ⟨rfl,rfl⟩ hC;have aj:=sgn_pos M (m:=((i+1:Nat):Int)) oM;rw[pG] at aj;simp(disch:=first|omega|simp only[push_cast]) only[sl0,al.iaddr,gk,al.load];rw[signs_get oM,aj];have am:kR0 s.put ((i+1:Nat):Int)=0↔placeOf s.put (i+1)=0:=by
    unfold kR0;rw[pG];by_cases hm:((i+1:Nat):Int)∈s.put
    ·rw[if_pos hm];have:=placeOf_ne_zero hm;rw[pG] at this;exact⟨λh=>oM,λh=>absurd h this⟩
    ·rw[if_neg hm];by_cases T:placeOf s.put (i+1)=0
     ·rw[if_pos T];simp[T]
     ·rw[if_neg T];simp[T]
   simp only[yF0];refine zb (λb6=>?_) (λb6=>?_)
   ·have bg:i<Zq many s.put-1:=by
     refine GJ λc6=>b6 (am.2 ?_);have:i+1=Zq many s.put:=oM;rw[this];exact f3
    simp only[Xn];rw[inc64 oM];exact hC bg _ _ ⟨rfl,rfl⟩
   ·have bv:i+1=Zq many s.put:=by
     refine GJ λc8=>f4 (i+1) oM oM (am.1 (by simpa using b6))
    have e1:IntKind.i64.wrap (0-((i+1:Nat):Int))= -(Zq many s.put:Int):=by rw[zj oM oM];omega
    simp(disch:=(simp only[push_cast])) only[Ur,Uq,yl,gS,X.ld0,Z40,e1];exact push w5 _ _ E5 X R5 (gp _) n
theorem l5Run_spec {vc:Value} {n:Nat} (hc:CnfR F w vc c) (Z:cnfOk c=true) (D:c.many=many) (hn:n<=4000)
  (hK:∀w' v',Ext w w'->SpR (λb=>w.heap.size<=b) w' v' (runM many c n emptyS)->K v' w'):vcall zg0 #[vc,nI n] w K:=by
 refine zf {loops:=[(3,[6])]} Tryz.func58 ?_;have Y:=hc.below;obtain⟨lv,rfl,a4⟩:=hc;refine ye λb2 w1 a1 h a5 T=>?_;refine qg qP λb4 w2 a2 E a6 U=>?_;refine Y6 xJ0 (us:=[]) rfl rfl ?_;refine qg qP λM w3 a3 o a7 V=>?_;have B3:Blk w3 M [.slice none 0 0,.slice none 0 0,.slice none 0 0,nI 0] zu:=V;have A3:Blk w3 b2 [nI c.many,lv] zq:=(T.ext E).ext o;have R3:Blk w3 b4 [.slice none 0 0,.slice none 0 0,.slice none 0 0,nI 0] zu:=U.ext o;refine B3.stAgg (cs':=[.slice none 0 0,.slice none 0 0,.slice none 0 0,nI 0]) rfl zP (λx z=>by simp only[V0,gq,or_false] at z;rcases z with rfl|rfl|rfl|rfl<;>rfl) λH q a8 B=>?_;have E4:Ext w H:=Ext.then (h.trans (E.trans o)) q λx z=>by have:=h.size;omega
 have A4:=A3.same q oM;have R:=R3.same q oM;have aa:=E4.size;have fin:∀(f:World) (p y l:Value),Ext w f->H.heap.size<=f.heap.size->Blk f b4 [.slice none 0 0,.slice none 0 0,.slice none 0 0,nI 0] zu->Blk f M [p,y,l,nI (runM many c n emptyS).code] zu->SpR (λb=>H.heap.size<=b) f (.agg #[p,y,l,nI (runM many c n emptyS).code]) (runM many c n emptyS)->
   zt zu (oP M 0) f λt21 I=>zT zu (oP b4 0) t21 I λ_ J=>vlv zu (oP b4 0) J λr4 L=>K r4 L:=by
  intro f p y l v t A k m;rw[k.ldAgg zP];obtain⟨O,Q,N,e,S⟩:=m.sat.fields;obtain⟨rfl,rfl,rfl⟩:p=O/\y=Q/\l=N:=(by simpa using e);refine A.stAgg (cs':=[p,y,l,nI (runM many c n emptyS).code]) rfl zP S λw6 d a0 W=>?_;rw[W.lv zP];exact hK w6 _ (Ext.then v d λx z=>by have:=h.size;omega) ((m.same d λb g _ e=>by have:=R.lt;omega).weaken λb g _=>oM)
 refine vloop_up n (λi u w'=> ∃p y l,u=[nI i]/\Ext w w'/\H.heap.size<=w'.heap.size/\Blk w' b2 [nI c.many,lv] zq/\Blk w' b4 [.slice none 0 0,.slice none 0 0,.slice none 0 0,nI 0] zu/\Blk w' M [p,y,l,nI (runM many c i emptyS).code] zu/\SpR (λb=>H.heap.size<=b) w' (.agg #[p,y,l,nI (runM many c i emptyS).code]) (runM many c i emptyS))
  ⟨_,_,_,rfl,E4,gp _,A4,R,B,SpR.empty⟩ ?_
 rintro i _ _ f C hi ⟨p,y,l,rfl,v,t,A5,A,k,m⟩ hC;simp only[push_cast];refine zb (λa=>?_) (λa=>?_)
 ·simp only[push_cast,k.ld3];refine zb (λb=>?_) (λb=>?_)
  ·rw[A5.ldAgg zD,k.ldAgg zP];have G:=run_ok (n:=i) D (empty_ok (many:=many) Z);refine l5Do_spec (Y.ext v) m G D λw6 v6 d s=>?_;have r:goM many c (runM many c i emptyS)=runM many c (i+1) emptyS:=by rw[run_succ];unfold stepM;rw[if_pos b]
   rw[r] at s;have l2:=A4.lt;have l4:=R.lt;have l5:=B.lt;have a0:=d.size;have A6:=A5.same d oM;have R6:=A.same d oM;have B6:=k.same d oM;obtain⟨O,Q,N,rfl,S⟩:=s.sat.fields;refine B6.stAgg (cs':=[O,Q,N,nI (runM many c (i+1) emptyS).code]) rfl zP S λw7 j a9 X=>?_;rw[inc64 oM];have E6:Ext w w6:=Ext.then v d λx z=>oM;refine hC oM _ _ ⟨O,Q,N,rfl,Ext.then E6 j λx z=>by have:=h.size;omega,oM,A6.same j oM,R6.same j oM,X,(s.same j λb g _ e=>?_).weaken λb g _=>?_⟩
   ·rcases g with g|g<;>omega
   ·rcases g with g|g<;>omega
  ·have e:runM many c n emptyS=runM many c i emptyS:=by
    rw[show n=i+(n-i) from by omega,run_add,run_stop b]
   rw[<-e] at k m;exact fin f p y l v t A k m
 ·have:n=i:=oM;subst this;exact fin f p y l v t A k m
end
end Go.Proofs.YtiglcianecnchaaGreatDoor
namespace Go.Proofs.YtiglcianecnchaaGreatDoor
open Go Go.Vc Go.Proofs
section
variable {w:World} {K:oK} {F F' D G:Nat->Prop} {dv tv iv lv:Value} {ds:List M.Dcl} {ts:List M.Tm} {ins:List Bool} {c:M.Cnf}
theorem l9Folds_spec (E:DclsR F w dv ds) (J:TmsR G w tv ts) (s:M.declOk ds=true) (m:∀t,t∈ts->M.sortM ds t≠ -1) (hs:ts.length<=2000000)
  (B:∀w' lv,Ext w w'->TmsR (λ_=>True) w' lv (ts.map (M.foldT ds))->K lv w'):vcall KK #[dv,tv] w K:=by
 refine zf {loops:=[(3,[5,6])]} Tryz.func34 ?_;refine vbuildS_row (xs:=[]) (us:=[]) (k:=5) xq xB zp rfl (by simp) dC λb1 w1 D p L o=>?_;have z:LstH (λ_=>False) w1 (.slice (some ⟨b1,0,none⟩) 0 0) []:=⟨[],Blk.ownk (css:=[]) (by rw[qG];exact o) (by simp) rfl dC,rfl,λi hi=>absurd hi (Nat.not_lt_zero _)⟩;refine vloop_up ts.length (λi u w'=> ∃lv H,u=[lv,nI i]/\Ext w w'/\LstH H w' lv ((ts.take i).map (M.foldT ds))/\∀x,lv.ownBlock=some x->w.heap.size<=x/\¬H x)
  ⟨_,_,rfl,p,z,λx c=>⟨by have e:b1=x:=K3 c;omega,id⟩⟩ ?_
 rintro i _ _ w2 C hi ⟨lv,H,rfl,d,g,hO⟩ A;have l:=(J.weaken (F':=λx=>G x/\x<w.heap.size) λx a b=>⟨a,b⟩).ext d;simp only[push_cast,l.len];refine zb (λa=>?_) (λa=>?_)
 ·have f:i<ts.length:=oM;simp(disch:=first|omega|simp only[push_cast]) only[push_cast,l.iaddr];refine l.load zc f λx c=>?_;refine l3Fold_spec _ (E.ext d) s c (m _ (M.getD_mem f _)) λN rv j I=>?_;have z2:=d.size;have z3:=j.size;have llt:∀x,lv.ownBlock=some x->x<w2.heap.size:=λx c=>g.lt c;refine LstH.push (g.ext j) (λx c=>⟨(hO x c).2,λe=>?_⟩) I (by rw[X0,gd];omega) λO y v r n=>?_
  ·have:=llt x c;have:=(hO x c).1;rcases e with e|e<;>omega
  try simp only[push_cast]
  rw[inc64' oM];rw[show(ts.take i).map (M.foldT ds)++[M.foldT ds (ts.getD i default)]=(ts.take (i+1)).map (M.foldT ds) by rw[<-Jz f,gw];rfl] at n;refine A f _ _ ⟨y,_,rfl,Ext.then (d.trans j) v λx c=>(hO x c).1,n,λx c=>?_⟩;rcases r x c with e|e
  ·refine⟨(hO x e).1,λh=>?_⟩;have:=llt x e;have:=(hO x e).1;rcases h.1 with h|h
   ·exact(hO x e).2 h
   ·rcases h with h|h<;>omega
  ·exact⟨oM,λh=>by have:=h.2;omega⟩
 ·have q:i=ts.length:=oM;subst q;rw[gz] at g;exact B w2 lv d (g.tms.weaken λ_ _ _=>trivial)
theorem spec_BlastEnv_spec (T:y00 ds) (H:DclsR F w dv ds) (hi:Bools F' w iv ins) (d:M.declOk ds=true) (hl:ins.length=M.nIn ds)
  (Y:∀w' r,Ext w w'->OwnI zh w' r (M.envB ds ins)->(∀b,r.ownBlock=some b->w.heap.size<=b)->K r w'):vcall JU #[dv,iv] w K:=by
 refine zf {loops:=[(6,[5,6,7]),(10,[6,8,9])],cuts:=[(12292,[])]} Tryz.func60 ?_;obtain⟨a2,a3⟩:=M.nIn_eq d;refine spec_nil λv1 w1 R g A=>?_;refine zo (λu w'=>u=[]/\Ext w1 w') (λC E=>?_) ?_
 ·refine spec_DeclOk_spec (H.ext g) T λw2 f=>?_;rw[d];simp only[push_cast,GQ,((hi.ext g).ext f).len];refine sbits8_spec (k:=ds.length) d (gp _) (by rw[gz];exact(H.ext g).ext f) λW J=>?_;rw[M.bitT_all];simp only[push_cast];refine zb (λh=>absurd oM h) (λ_=>E _ _ ⟨rfl,f.trans J⟩)
 rintro _ _ w2 ⟨rfl,f⟩;have h4:=(M.decl_iff.1 d).1;have I:=M.dpos d;have L:=M.envB_len ds ins;refine vloop_up ds.length (λi u w'=> ∃r,u=[r,nI (QX ds i),nI i]/\Ext w w'/\OwnI zh w' r ((M.envB ds ins).take i)/\∀b,r.ownBlock=some b->w.heap.size<=b) ⟨v1,rfl,g.trans f,R.ext f,A⟩ ?_;rintro i _ _ W C a0 ⟨r,rfl,s,p,o⟩ E;have n:=H.ext s;have y:=hi.ext s;simp only[push_cast,n.len];refine zb (λa=>?_) (λa=>?_)
 ·have l:i<ds.length:=oM;have U:=M.dcl_wide d l;have q:=off_succ d l;have X:=off_le d (i:=i+1) oM;have het:=envB_take (ins:=ins) I l;obtain⟨wd,m⟩:∃wd:Nat,(ds.getD i (M.nada,0)).2=wd:=⟨_,(Ps oM).symm⟩;rw[m] at U q het;rw[gk] at q het;generalize v:(ins.drop (QX ds i)).take wd=bs at het;have t:bs.length=wd:=by rw[<-v,gd,GP,hl];omega
  refine vloop_up wd (λj u w'=>u=[nI (QX ds i+j:Nat),nI (M.msbN (bs.take j)),nI j]/\w'=W) ⟨rfl,rfl⟩ ?_;rintro j _ _ _ C1 hj ⟨rfl,rfl⟩ G;have a1:=M.msb_lt (bs.take j);have a4:2^(bs.take j).length<=2^4:=gL oM (by rw[gd];omega);simp(disch:=first|omega|simp only[push_cast]) only[push_cast,n.iaddr,gk,n.load1,m];refine zb (λc=>?_) (λc=>?_)
  ·have z:j<wd:=oM;have hg:ins.getD (QX ds i+j) false=bs.getD j false:=by
    rw[<-v,M.take_getD z,k6,k6,pj]
   simp(disch:=first|omega|simp only[push_cast]) only[push_cast,y.iaddr,gk,y.load,zj];refine Xe ?_;have Z:0<=M.b2i (bs.getD j false)/\M.b2i (bs.getD j false)<=1:=by unfold M.b2i;split<;>omega
   have D:=msb_snoc (bs.take j) (bs.getD j false);rw[<-M.take_add (by omega:j<bs.length) false] at D;rw[show((QX ds i:Int)+(j:Int)).toNat=QX ds i+j by omega,hg];simp(disch:=first|omega|simp only[push_cast]) only[push_cast,zj];refine G z _ _ ⟨?_,rfl⟩;rw[D,Int.mul_comm 2];simp[Int.add_assoc]
  ·have O:j=wd:=oM;subst O;rw[<-t,gz,t];refine push_int p (by rw[gd];omega) λw6 r6 S B Q=>?_;rw[<-het,<-M.take_add oM 0] at B;have z3:=s.size;rw[inc64' oM];refine E l _ _ ⟨r6,by rw[q,Int.natCast_add (QX ds i)],Ext.then s S λx V=>o x V,B,λx V=>?_⟩;rcases Q x V with e|e
   ·exact o x e
   ·omega
 ·have N:i=ds.length:=oM;subst N;rw[<-L,gz] at p;exact Y W r s p o
theorem Z30 {put:List Int} {i n:Nat} (h:i<n):decide (M.sgnV put (2+i)=1)=(M.insV (M.wayM put) n).getD i false:=by
 rw[M.insV_get h];unfold M.sgnV M.wayM;rw[Nat.add_comm 2 i];by_cases c:((i+2:Nat):Int)∈put
 ·rw[if_pos c,decide_eq_true c];rfl
 ·rw[if_neg c,decide_eq_false c];split<;>rfl
theorem l9Search_spec (aa:y00 ds) (hd:DclsR F w dv ds) (I:M.declOk ds=true) (hc:CnfR G w (.agg #[nI c.many,lv]) c) (f:M.cnfOk c=true) (hn:1+M.nIn ds<=c.many.toNat)
  (hK:∀w' ev,Ext w w'->OwnI zh w' ev (M.searchM 4000 ds c).1->(∀x,ev.ownBlock=some x->w.heap.size<=x)->K (.tuple #[ev,nI (M.searchM 4000 ds c).2]) w'):
  vcall JO #[dv,.agg #[nI c.many,lv]] w K:=by
 refine zf {loops:=[(7,[8,9])]} Tryz.func35 ?_;obtain⟨ah,ai⟩:=M.nIn_eq I;obtain⟨many,hm⟩:∃many:Nat,c.many=many:=⟨c.many.toNat,oM⟩;have a4:c.many.toNat=many:=oM
 have B:many<=700:=by
  have:=f;unfold M.cnfOk at this;simp only[gh,decide_eq_true_eq] at this;omega
 refine ye λb1 w1 ac z al a0=>?_;have A1:Blk w1 b1 [nI c.many,lv] zq:=a0;rw[A1.ldAgg zD];refine l5Run_spec (many:=many) (n:=4000) (hc.ext z) f hm (gp _) λw2 v2 A v=>?_;have z1:=z.size;have z2:=A.size;have T:=(M.run_ok (n:=4000) hm (M.empty_ok (many:=many) f)).mks;refine qg qP λb4 w3 ad a5 am a1=>?_;have d:M.searchM 4000 ds c=if(M.runM many c 4000 M.emptyS).code=1 then(M.envB ds (M.insV (M.wayM (M.runM many c 4000 M.emptyS).put) (M.nIn ds)),1) else if(M.runM many c 4000 M.emptyS).code=2 then([],2) else([],3):=by rw[<-a4];rfl
 generalize M.searchM 4000 ds c=sr at d hK;generalize M.runM many c 4000 M.emptyS=s at v d T;obtain⟨p,y,l,rfl,h8⟩:=v.sat.fields;obtain⟨p',y',l',e',hp,_,aj,_,_⟩:=v;obtain⟨rfl,rfl,rfl⟩:p=p'/\y=y'/\l=l':=by simpa using e'
 have R3:Blk w3 b4 [.slice none 0 0,.slice none 0 0,.slice none 0 0,nI 0] zu:=a1;refine R3.stAgg (cs':=[p,y,l,nI s.code]) rfl zP h8 λw4 a9 an Q=>?_;have q:Ext w2 w4:=Ext.then a5 a9 λx J=>oM
 have N:=(z.trans A).trans q;have A4:=A1.ext (A.trans q);simp only[push_cast,Q.ld3];refine zb (λa=>?_) (λa=>?_)
 ·rw[if_pos a] at d;subst d;rw[A4.ldAgg zD];simp only[push_cast,Q.ld0];refine l5Vals_spec (hc.ext N) hm B (hp.ext q).ints T λL v5 g ab o=>?_;have Z:=N.trans g;have z5:=Z.size;refine ym qg0 xZ0 λb6 w6 ae a6 ao a3=>?_;have a8:OwnB qq w6 (.slice (some ⟨b6,0,none⟩) 0 0) []:=Blk.own1 (t:=qq) (cs:=[]) (by rw[Uu];exact a3) (gJ _) rfl rfl oM;refine vloop_up (M.nIn ds) (λi u w'=> ∃r,u=[r,nI i]/\Ext L w'/\OwnB qq w' r ((M.insV (M.wayM s.put) (M.nIn ds)).take i)/\∀b,r.ownBlock=some b->L.heap.size<=b) ⟨_,rfl,a6,a8,λb R=>by have e:b6=b:=K3 R;omega⟩ ?_;rintro i _ _ w7 C hi ⟨r,rfl,e7,E,V⟩ hC;refine sbits8_spec (k:=ds.length) I (gp _) (by rw[gz];exact hd.ext (Z.trans e7)) λw8 m=>?_;rw[M.bitT_all];simp only[push_cast];have O:=e7.trans m;have hlen:=M.insV_len (M.wayM s.put) (M.nIn ds);refine zb (λa=>?_) (λa=>?_)
  ·have S:i<M.nIn ds:=oM;have Y:=(ab.ext O).ints;have ak:=M.signs_len many s.put;simp(disch:=first|omega|simp only[push_cast]) only[push_cast,zj,Y.iaddr,Y.load];rw[show((2:Int)+(i:Int)).toNat=2+i by omega,M.signs_get oM,Z30 S];refine one_bool λw9 b9 af j H=>?_;refine OwnV.app (us:=[.bool ((M.insV (M.wayM s.put) (M.nIn ds)).getD i false)]) ((E.ext m).ext j) qK0 H.bools (by simp[Value.oneCell']) (by simp only[X0,gN,gd];omega) (by simp only[X0,gN,gd];omega) λv10 w10 W X U=>?_;have z8:=m.size;have z9:=j.size;have z7:=e7.size;refine hC S _ _ ⟨v10,rfl,Ext.then (O.trans j) X λb R=>V b R,?_,λb R=>?_⟩
   ·rw[M.take_add oM false];unfold OwnB;rw[gw];exact W
   ·rcases U b R with h|h
    ·exact V b h
    ·omega
  ·have ag:i=M.nIn ds:=oM;rw[gy oM] at E;refine spec_BlastEnv_spec aa (hd.ext (Z.trans O)) (E.ext m).bools I hlen λw9 r9 j H a7=>?_;have z8:=O.size;exact hK w9 r9 (Z.trans (O.trans j)) H λx J=>by have:=a7 x J;omega
 ·rw[if_neg a] at d;have z4:=N.size;refine zb (λa2=>?_) (λa2=>?_)
  ·rw[if_pos a2] at d;subst d;exact spec_nil λv5 L D g o=>hK L v5 (N.trans g) D λx J=>by have:=o x J;omega
  ·rw[if_neg a2] at d;subst d;exact spec_nil λv5 L D g o=>hK L v5 (N.trans g) D λx J=>by have:=o x J;omega
theorem l9Solve_spec (u:y00 ds) (c:Js ds ts=true) (j:DclsR F w dv ds) (v:TmsR G w tv ts)
  (f:∀w' ev,Ext w w'->OwnI zh w' ev (xH ds ts []).1->(∀x,ev.ownBlock=some x->w.heap.size<=x)->K (.tuple #[ev,nI (xH ds ts []).2]) w'):vcall KJ #[dv,tv] w K:=by
 refine zf {} Tryz.func18 ?_;obtain⟨L,a2,a3⟩:=all8_iff.1 c;refine l9Folds_spec j v a2 (λt v=>by rw[(Xt (a3 t v)).1];decide) oM λw1 lv a o=>?_;refine l8Cnf_spec (Q2 c) (j.ext a) o λw2 cv ls k g=>?_;have B:=a.trans k;simp only[push_cast];refine cnf_new g λN b4 D l d i=>?_;have b:=B.trans l;have z4:=b.size;refine zn (λh=>?_) (λh=>?_)
 ·have E:=JB (nots:=[]) c (by simpa using h);refine spec_nil λv5 I r m p=>?_;have:=f I v5 (b.trans m);rw[E] at this;exact this r λx y=>by have:=p x y;omega
 ·have C:(cnfE ds (ts.map (M.foldT ds))).2=0:=(by simpa using h);obtain⟨z,A,H⟩:=solveR_run (nots:=[]) c C (λe he=>by cases he) (by simp);rw[yX0] at z A;rw[d.ldAgg zD];refine l9Search_spec u (j.ext b) a2 i.cnf A H λJ ev n s q=>?_;simp only[push_cast];rw[z] at f;exact f J ev (b.trans n) s λx y=>by have:=q x y;omega
theorem spec_Solve_spec (b:y00 ds) (l:DclsR F w dv ds) (m:TmsR G w tv ts)
  (k:∀w' ev,Ext w w'->OwnI zh w' ev (xH ds ts []).1->(∀x,ev.ownBlock=some x->w.heap.size<=x)->K (.tuple #[ev,nI (xH ds ts []).2]) w'):vcall zv0 #[dv,tv] w K:=by
 refine zf {} Tryz.func9 ?_;refine l8All_spec b l m λw1 a=>?_;simp only[push_cast];have q:=a.size;refine zn (λh=>?_) (λh=>?_)
 ·have n:=Qd (ds:=ds) (ts:=ts) (nots:=[]) (by simpa using h);refine spec_nil λv5 o g c e=>?_;have:=k o v5 (a.trans c);rw[n] at this;exact this g λx j=>by have:=e x j;omega
 ·refine l9Solve_spec b (by simpa using h) (l.ext a) (m.ext a) λp ev d i f=>?_;simp only[push_cast];exact k p ev (a.trans d) i λx j=>by have:=f x j;omega
theorem VV {at_ an am ar ab:Addr} (e:DclsR F w dv ds) (f:TmsR G w tv ts) (hs:ts.length<=2000000) (er:Er w at_ an am ar ab)
  (d:∀w' ev,Ext w w'->OwnI zh w' ev (xH ds ts []).1->(∀x,ev.ownBlock=some x->w.heap.size<=x)->K (.tuple #[ev,nI (xH ds ts []).2]) w'):vcall zB0 #[dv,tv] w K:=by
 refine zf {} Tryz.func8 ?_;refine solved_spec e f hs er λg ev a c b=>?_;simp only[push_cast];exact d g ev a c b
end
section
variable {ds:List M.Dcl} {ts us:List M.Tm} {t u:M.Tm} {e:List Int}
theorem KD (h:Js ds ts=true):M.declOk ds=true/\M.sorted0 ds ts/\ts.length<=8:=
 ⟨(all8_iff.1 h).2.1,λt a=>(Xt ((all8_iff.1 h).2.2 t a)).1,(all8_iff.1 h).1⟩
theorem Zl0:∀e:List Int,e∈([]:List (List Int))->M.envOk ds e=true:=λe he=>by cases he
theorem few_nots (h:ts.length<=8):ts.length+([]:List (List Int)).length<=90:=by simp;omega
theorem UP (h:Js ds ts=true):xH ds ts []=M.solveM 4000 ds ts []:=if_pos h
theorem JC (h:(xH ds ts []).2≠4):Js ds ts=true:=Gd λc=>h (by rw[Qd c])
theorem ql0:M.Sol ds ts [] e↔M.envOk ds e=true/\M.allT ds e ts:=by simp[M.Sol]
theorem y90 (h:Js ds ts=true) (d:Js ds us=true) (j:∀e,M.envOk ds e=true->(M.allT ds e ts↔M.allT ds e us)) (g:(xH ds ts []).2≠3) (i:(xH ds us []).2≠3):xH ds us []=xH ds ts []:=by
 obtain⟨a,b,c⟩:=KD h;obtain⟨_,f,c'⟩:=KD d;rw[UP h] at*;rw[UP d] at*;exact(M.solve_same a b f Zl0 (few_nots c) (few_nots c') (λe=>by rw[ql0,ql0];exact and_congr_right λhe=>j e he) g i).symm
theorem jn0 (he:M.envOk ds e=true) (h:M.sortM ds (M.bothT t u)=0):M.allT ds e (M.bothT t u::ts)↔M.allT ds e (t::u::ts):=by
 rw[M.allT_cons,M.allT_cons,M.allT_cons];obtain⟨_,a,b,c⟩:=M.eval_two he (t:=M.bothT t u) (by rw[h];decide) (.inl rfl);have a:M.inS 0 (M.evalM ds e t):=a;have b:M.inS 0 (M.evalM ds e u):=b;have c:M.evalM ds e (M.bothT t u)=M.evalM ds e t*M.evalM ds e u:=c;rw[c,<-and_assoc];refine and_congr_left λ_=>?_;rcases M.inS_zero a with x|x<;>rcases M.inS_zero b with y|y<;>rw[x,y]<;>decide
end
section
variable {w:World} {K:oK} {F:Nat->Prop} {dv v:Value} {ds:List M.Dcl} {ts:List M.Tm} {t:M.Tm} {xs:List Nat}
theorem DrawSolve_spec (c:Bytes F w v xs) (hF:∀b,F b->b<w.heap.size)
  (m:∀w' dv lv ds ts,Ext w w'->DclsR (λx=>w.heap.size<=x) w' dv ds->Dsn 9 ds->TmsR (λx=>w.heap.size<=x) w' lv ts->ts.length<=9->K (.tuple #[dv,lv]) w'):vcall QZ #[v] w K:=by
 refine zf {} Tryz.func7 ?_;refine l12Open_spec c hF λw2 b v' ys d a p=>?_;have s:=d.size;have lb:=a.blk.lt;refine l8List_spec (F:=λx=>F x/\x<w2.heap.size) ⟨a.blk,⟨a.bytes.1.weaken λx c q=>⟨c,q⟩,a.bytes.2⟩,λh=>a.apart h.1,a.few⟩ (λx c=>c.2) oM λk u dv lv ds ts i n r e g j f=>?_;simp only[push_cast];have o:Ext w k:=by
  have l:Same (λx=>w.heap.size<=x) w k:=(Same.of_ext d).trans (i.mono λx _ c=>by subst c;omega);exact l.mono λx c t=>oM
 exact m k dv lv ds ts o (e.weaken λx c _=>oM) g (j.weaken λx c _=>oM) f
end
section
variable {w:World} {K:oK} {D F F' G H:Nat->Prop} {dv tv v ev:Value} {ds:List M.Dcl} {ts:List M.Tm} {t:M.Tm} {xs:List Nat} {at_ an am ar ab:Addr}
instance (ds:List M.Dcl) (e:List Int) (ts:List M.Tm):Decidable (M.allT ds e ts):=by unfold M.allT;infer_instance
theorem slice_end {o:Option Addr} {n c k a:Nat} {ty:TypeId} {kd:IntKind} (e:elB ty k=true) (f:a<=n) (g:n<=c):
  yL ty (.slice o n c) (some (.int kd a)) none none w K=yL ty (.slice o n c) (some (.int kd a)) (some (nI n)) none w K:=by
 obtain⟨hu,hs⟩:=ZY e;have b:yL ty (.slice o n c) (some (.int kd a)) none none w K=K (sliced o a n c k) w:=y2 (by
  rw[run_sliceAt_slice w ty _ _ _ _ hu,run_slice_l w ty _ _ _ hu kd a oM (by simp;omega),Go.Vc.run_sizeOf hs];simp[Result.andThen])
 have d:yL ty (.slice o n c) (some (.int kd a)) (some (nI n)) none w K=K (sliced o a n c k) w:=y2 (by
  rw[run_sliceAt_slice w ty _ _ _ _ hu,run_slice_lh w ty _ _ _ hu kd .i64 a n oM oM oM,Go.Vc.run_sizeOf hs];simp[Result.andThen])
 rw[b,d]
theorem jX0 (h:TmsR F w tv ts) {ty:TypeId} (f:elB ty 5=true) {a:Nat} (e:a<=ts.length):
  ∃v1,(∀(d:IntKind) (w':World) (K:oK),yL ty tv (some (.int d a)) none none w' K=K v1 w')/\TmsR F w v1 (ts.drop a):=by
 obtain⟨v1,g,i⟩:=h.mid f e (gp _);refine⟨v1,λd w' K=>?_,by rwa[gy (by simp)] at i⟩;obtain⟨css,b,j,_⟩:=h;obtain⟨o,c,rfl,k,_⟩:=b.shape;rw[j] at*;rw[slice_end f e oM];exact g d .i64 w' K
theorem FnSolveBoth_spec (j:Bytes F w v xs) (er:Er w at_ an am ar ab) (z:∀w',Ext w w'->K (.bool true) w'):vcall Xw #[v] w K:=by
 refine zf {ord:=[oz 8 [0,1,2,3,4,5,9,10,6,7,8,11,12] [(0,[3,4,5,9,10]),(1,[3,4,5,9,10]),(2,[3,4,5,9,10]),(3,[9,10]),(4,[9,10]),(5,[9,10]),(9,[6,7,8]),(10,[6,7,8])]],cuts:=[(28680,[])]} Tryz.func3 ?_;simp only[push_cast,j.len];refine zb (λ_=>z w (Same.refl _ _)) (λ_=>?_);refine DrawSolve_spec j.below (λb hb=>hb) λw1 dv tv ds ts k Y a3 T Q=>?_;simp only[push_cast];refine VV Y T oM (er.ext k) λw2 ev A B _=>?_;simp only[push_cast];refine spec_Solve_spec (dsn_sized a3) (Y.ext A) (T.ext A) λw3 a7 l o _=>?_;simp only[push_cast];have q:=A.trans l;have e3:=k.trans q;refine zo (λu w'=>u=[]/\Ext w3 w'/\2<=ts.length) (λC hC=>?_) ?_
 ·refine zb (λc=>absurd rfl c) (λ_=>?_);refine wpInts_spec (B.ints.ext l) o.ints λw4 d=>?_;simp only[push_cast,decide_true,GQ,(T.ext (q.trans d)).len];refine zb (λc=>?_) (λc=>?_)
  ·refine wpInts_spec (B.ints.ext (l.trans d)) (o.ints.ext d) λw5 m=>?_;simp only[decide_true];exact z w5 (e3.trans (d.trans m))
  ·exact hC _ _ ⟨rfl,d,oM⟩
 rintro _ _ w4 ⟨rfl,d,h2⟩;obtain⟨t,u,rest,rfl⟩:∃t u rest,ts=t::u::rest:=by
  match ts,h2 with
  |t::u::rest,_=>exact⟨t,u,rest,rfl⟩
 have U:=q.trans d;refine zd λw5 m _=>?_;have r:=U.trans m;have n:=(T.weaken (F':=λx=>x<w1.heap.size) λx _ hl=>hl).ext r;obtain⟨v1,a5,a4⟩:=jX0 n ZZ (a:=2) (by simp);have g:∀(w':World) (K:oK),yL zl tv (some (nI 2)) none none w' K=K v1 w':=λw' K=>a5 .i64 w' K;have q0:=λ(w':World) (K:oK)=>TmsR.iaddr (w':=w') (K:=K) n ZZ (kd:= .i64) (i:=0) oM (by simp;omega);have q1:=λ(w':World) (K:oK)=>TmsR.iaddr (w':=w') (K:=K) n ZZ (kd:= .i64) (i:=1) oM (by simp;omega);obtain⟨css,N,E,D⟩:=n;rw[q0];refine⟨rfl,?_⟩;rw[show(0:Int).toNat=0 from rfl,N.ldAgg zc (i:=0) (by rw[E];simp)];refine⟨rfl,?_⟩;rw[q1];refine⟨rfl,?_⟩;rw[show(1:Int).toNat=1 from rfl,N.ldAgg zc (i:=1) (by rw[E];simp)];refine⟨rfl,?_⟩;rw[g];refine⟨rfl,?_⟩;refine kids2 (D 0 (by simp)).term (D 1 (by simp)).term λw6 a H ac a0=>?_;rw[g];refine⟨⟨rfl,rfl⟩,?_⟩;simp only[push_cast];refine⟨trivial,?_⟩;refine qn xq xB zp rfl rfl dC λS w7 a9 I ad X=>?_;rw[g];refine⟨⟨rfl,rfl⟩,?_⟩;have y:=H.trans I;have V:=r.trans y;have ae:=r.size;have L:LstH (λx=>x<w6.heap.size) w7 (.slice (some ⟨S,0,none⟩) 1 1) [M.bothT t u]:=
  ⟨[[nI 26,nI 0,nI 0,.string ⟨#[]⟩,.slice a 2 2]],Blk.ownk (by rw[qG];exact X) (by simp) rfl dC,rfl,λi hi=>by
   have:i=0:=by have:i<1:=hi;omega
   subst this;exact TmR.of (t:=M.bothT t u) ((a0.weaken λx j _=>by rcases j with h|h<;>omega).ext I)⟩
 obtain⟨a6,O,a1,Z⟩:=a4.ext y;refine LstH.app (H2:=λx=>x<w6.heap.size) (us:=rest) L (λx j=>?_) O a1 (λi hi=>(Z i hi).weaken λx j _=>oM) (by simp;simp at Q;omega) λw8 v8 R aa a2=>?_
 ·have e:S=x:=K3 j;exact⟨oM,oM⟩
 have s:Ext w1 w8:=Ext.then V R λx j=>by have e:S=x:=K3 j;omega
 refine VV (Y.ext s) a2.tms (by simp;simp at Q;omega) (er.ext (k.trans s)) λw9 a8 J p _=>?_;have f:=k.trans (s.trans J);simp only[push_cast];refine zb (λ_=>z _ f) (λc3=>?_);refine zb (λ_=>z _ f) (λd3=>?_);refine zb (λ_=>z _ f) (λc4=>?_);refine zb (λ_=>z _ f) (λd4=>?_);have h8:=JC d4;have key:xH ds ([M.bothT t u]++rest) []=xH ds (t::u::rest) []:=y90 (JC c4) h8 (λe he=>(jn0 he ((Xt ((all8_iff.1 h8).2.2 _ (by simp))).1)).symm) c3 d3;rw[key] at p⊢;simp only[push_cast];refine zb (λ_=>?_) (λc=>absurd trivial c);have W:Ext w3 w9:=d.trans (m.trans ((Ext.then y R λx j=>by have e:S=x:=K3 j;have:=H.size;omega).trans J));refine wpInts_spec p.ints (B.ints.ext (l.trans W)) λw10 G=>?_;simp only[decide_true];exact z w10 (f.trans G)
end
end Go.Proofs.YtiglcianecnchaaGreatDoor
section
namespace Go.Proofs.YtiglcianecnchaaGreatDoor
open Go Go.Vc Go.Proofs
open Go.RowKit
theorem laid_at {l:List (String×DataW Unit)} {W:World} (h:laidMet P l W):∀k,laidMet P (l.drop k) W
 |0=>h
 |k+1=>by
  have a:=laid_at h k;rw[<-List.tail_drop];cases b:l.drop k with
  |nil=>rw[b] at a;exact a
  |cons x r=>rw[b] at a;exact a.tail
theorem UR: "*" ++ "errors.errorString" = "*errors.errorString" :=dC
theorem k00 (u:TypeId) (h:P.typeName? 3 u=some "*errors.errorString"):u=yN:=
 typeName_ptr_named (nm:= "errors.errorString") (by rw[UR];kernel_rfl) rK dC u (by rw[UR];exact h)
def ifaceB (t:TypeId):Bool:=match P.underlying t with
 |some (.interface _)=>true
 |_=>false
theorem kk0 {t:TypeId} (h:ifaceB t=true):∃ms,P.underlying t=some (.interface ms):=by
 unfold ifaceB at h;split at h
 ·exact⟨_,by assumption⟩
 ·cases h
theorem xe0:∃ms,P.underlying xm=some (.interface ms):=kk0 rK
def fieldB (t u:TypeId):Bool:=match P.underlying t with
 |some (.struct fs)=>match fs.toList with
  |[f]=>decide (f.type=u)&&decide (f.offset=0)
  |_=>false
 |_=>false
theorem kq0 {t u:TypeId} (h:fieldB t u=true):∃f,P.underlying t=some (.struct #[f])/\f.type=u/\f.offset=0:=by
 unfold fieldB at h;split at h
 ·rename_i fs a;split at h
  ·rename_i f b;simp only[gh,decide_eq_true_eq] at h;refine⟨f,?_,h⟩;rw[a];congr 2;exact GG.1 (by simpa using b)
  ·cases h
 ·cases h
theorem k10:P.underlying yN=some (.pointer 409):=rK
theorem ya0:∃f,P.underlying 409=some (.struct #[f])/\f.type=x7/\f.offset=0:=kq0 rK
theorem yb0:P.underlying x7=some .string:=rK
theorem ZH0:P.cellsOf 409=1/\P.cellsOf x7=1:=⟨rK,rK⟩
theorem vars_len {H:Type} {enc:TypeId×Value->H} {w:World} {sp:Nat->Bool}:∀{ns:List String} {gs:List (DataW H)} {ps:List MemPlace},DataW.TrodVars enc P w sp ns gs ps->gs.length=ns.length
 |[],[],_,_=>rfl
 |[],_::_,_,h=>h.elim
 |_::_,[],_,h=>h.elim
 |_::_,_::_,_,⟨_,_,_,_,_,_,_,_,_,_,hs,_⟩=>by rw[gx,gx,vars_len hs]
theorem vlist5 {α:Type} {l:List α} (h:l.length=5):∃a b c d e,l=[a,b,c,d,e]:=by
 match l,h with
 |[a,b,c,d,e],_=>exact⟨a,b,c,d,e,rfl⟩
end Go.Proofs.YtiglcianecnchaaGreatDoor
end
section
namespace Go.Proofs.YtiglcianecnchaaGreatDoor
open Go Go.Vc Go.Proofs
open Go.RowKit
theorem XK {x y:String×DataW Unit} {r:List (String×DataW Unit)} {w:World} (h:laidMet P (x::y::r) w):laidMet P (x::r) w:=by
 obtain⟨ps,u,j,c⟩:=h;obtain⟨n,d⟩:=x;obtain⟨m,e⟩:=y;obtain⟨g,t,cs,fuel,p,q,o,a2,a3,a4,s,rfl⟩:=u;obtain⟨g2,t2,f,i,p2,l,_,_,_,_,k,rfl⟩:=s;have a:=pA (pK (MemPlace.row ⟨g,0,none⟩ cs.size++p)) (List.sublist_append_right (MemPlace.row ⟨g2,0,none⟩ f.size++p2) l);exact⟨_,⟨g,t,cs,fuel,p,l,o,a2,a3,a4,k,rfl⟩,List.Nodup.sublist a j,λb off hm=>c b off (a.subset hm)⟩
theorem jA {W:World} {g:Nat} {a c:Addr} (h:Sent W g a) (b:Sent W g c):a=c:=by
 unfold Sent at h b;rw[h] at b
 injection b with b
 injection b with _ b
 injection b with b
 exact K3 b
theorem Z3 {j k:String} {t0 t1:List UInt8} {r:List (String×DataW Unit)} {W:World} {g0 g1:Nat} (h:laidMet P ((j,.iface "*errors.errorString" (.ptr (.agg [.lit (.string t0)])))::(k,.iface "*errors.errorString" (.ptr (.agg [.lit (.string t1)])))::r) W)
  (c:P.globalNamed j=some g0) (g:(P.globals[g0]?).map (·.type)=some xm) (d:P.globalNamed k=some g1) (i:(P.globals[g1]?).map (·.type)=some xm):∃a b,Sent W g0 a/\Sent W g1 b/\a≠b/\RowA W a/\RowA W b:=by
 obtain⟨ms,hi⟩:=xe0;obtain⟨f,m,n,o⟩:=ya0;obtain⟨a0,l,u,s1,c0,c1,s,t,v0,v1,_,_,_,_,_,_,e,p,q⟩:=laid_sentinels2 h c g d i hi k00 k10 m n o yb0 ZH0.1 ZH0.2;exact⟨a0,l,by unfold Sent;simpa using World.var?_cell c v0 0,by unfold Sent;simpa using World.var?_cell d v1 0,e,⟨c0,s,p⟩,⟨c1,t,q⟩⟩
theorem er_of {nr nb nt nn nm:String} {tr tb tt tn tm:List UInt8} {r l:List (String×DataW Unit)} {W:World} (h:laidMet P l W) (k:Nat)
  (B:l.drop k=(nr,.iface "*errors.errorString" (.ptr (.agg [.lit (.string tr)])))::(nb,.iface "*errors.errorString" (.ptr (.agg [.lit (.string tb)])))::(nt,.iface "*errors.errorString" (.ptr (.agg [.lit (.string tt)])))::(nn,.iface "*errors.errorString" (.ptr (.agg [.lit (.string tn)])))::(nm,.iface "*errors.errorString" (.ptr (.agg [.lit (.string tm)])))::r)
  (er:P.globalNamed nr=some xM) (eb:P.globalNamed nb=some j4) (et:P.globalNamed nt=some yG) (en:P.globalNamed nn=some jf) (em:P.globalNamed nm=some qm)
  (fr:(P.globals[xM]?).map (·.type)=some xm) (fb:(P.globals[j4]?).map (·.type)=some xm) (ft:(P.globals[yG]?).map (·.type)=some xm) (fn:(P.globals[jf]?).map (·.type)=some xm) (fm:(P.globals[qm]?).map (·.type)=some xm):
  ∃at_ an am ar ab,Er W at_ an am ar ab:=by
 have a:=laid_at h k;rw[B] at a;obtain⟨ar,ab,sr,sb,_,rr,_⟩:=Z3 a er fr eb fb;have b:=XK a;obtain⟨w,at_,j,st,C,_,rt⟩:=Z3 b er fr et ft;have q:=XK b;obtain⟨x,an,m,sn,D,_,rn⟩:=Z3 q er fr en fn;obtain⟨y,am,n,sm,E,_,rm⟩:=Z3 (XK q) er fr em fm;have c:=b.tail;obtain⟨z,u,o,g,F,_⟩:=Z3 c et ft en fn;obtain⟨A,s,p,d,G,_⟩:=Z3 (XK c) et ft em fm;obtain⟨v,t,i,f,n6,_⟩:=Z3 c.tail en fn em fm;obtain rfl:=jA j sr;obtain rfl:=jA m sr;obtain rfl:=jA n sr;obtain rfl:=jA o st;obtain rfl:=jA p st;obtain rfl:=jA g sn;obtain rfl:=jA i sn;obtain rfl:=jA d sm;obtain rfl:=jA f sm;exact⟨_,_,_,_,ab,st,sn,sm,⟨sr,sb,id,id⟩,rt,rn,rm,rr,λe=>F e.symm,λe=>G e.symm,λe=>n6 e.symm,C,D,E⟩
end Go.Proofs.YtiglcianecnchaaGreatDoor
end
end
