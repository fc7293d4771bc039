import Derived.Test.YtfnpmncplaibiaaGreatDoorWqbP10
/- A part of the proof. -/
set_option linter.all false
set_option maxRecDepth 9999
set_option maxHeartbeats 2000000
noncomputable section
namespace Go.Proofs.YtfnpmncplaibiaaGreatDoor
open Go Go.Vc Go.Proofs
section
variable {w:World} {K:oK} {D F F' G Fr X:oA} {n m N bl bc mb bb:Nat} {gs hs:M.Gs} {v:Value} {ls ls':List Value} {xss yss:List (oI)} {xs:oI} {t:M.Tm} {ar ab:Addr} {k:Int}
theorem RowsR.app (h:RowsR N Fr w ls xss) (q:ls.length=xss.length) (m:RowsR N Fr w ls' yss) (r:ls'.length=yss.length) (p:∀i j b,i<xss.length->j<yss.length->(ls.getD i undef).ownBlock=some b->(ls'.getD j undef).ownBlock≠some b):
  RowsR N Fr w (ls++ls') (xss++yss):=by
 have g1:∀{α:Type} {a b:List α} {d:α} {i:Nat},i<a.length->(a++b).getD i d=a.getD i d:=λh=>by simp[y4,Gb h]
 have g2:∀{α:Type} {a b:List α} {d:α} {i:Nat},a.length<=i->(a++b).getD i d=b.getD (i-a.length) d:=λh=>by simp[y4,GA h]
 have sp:∀i,i<(xss++yss).length->(i<xss.length/\(ls++ls').getD i undef=ls.getD i undef/\(xss++yss).getD i []=xss.getD i [])\/(xss.length<=i/\i-xss.length<yss.length/\(ls++ls').getD i undef=ls'.getD (i-xss.length) undef/\(xss++yss).getD i []=yss.getD (i-xss.length) []):=λi hi=>by
  rw[Q1] at hi;by_cases c:i<xss.length
  .exact .inl ⟨c,g1 oM,g1 c⟩
  .exact .inr ⟨oM,oM,by rw[g2 oM,q],g2 oM⟩
 refine⟨h.nle,λi hi=>?_,λi b hi f=>?_,λi j b n o f=>?_⟩
 .rcases sp i hi with⟨a,e,g⟩|⟨a,a2,e,g⟩
  .rw[e,g];exact h.own i a
  .rw[e,g];exact m.own _ a2
 .rcases sp i hi with⟨a,e,g⟩|⟨a,a2,e,g⟩
  .rw[e] at f;exact h.sub i b a f
  .rw[e] at f;exact m.sub _ b a2 f
 .rcases sp i oM with⟨a,e,g⟩|⟨a,a2,e,g⟩
  .rw[e] at f;rcases sp j o with⟨c,k,l⟩|⟨c,c2,k,l⟩
   .rw[k];exact h.dj i j b n c f
   .rw[k];exact p i _ b a c2 f
  .rw[e] at f;rcases sp j o with⟨c,k,l⟩|⟨c,c2,k,l⟩
   .omega
   .rw[k];exact m.dj _ _ b oM c2 f
theorem RowsR.new {w0:World} {r:Value} (h:RowsR N Fr w0 ls xss) (d:ls.length=xss.length) (hw:Ext w0 w) (f:OwnI zh w r xs) (c:∀b,r.ownBlock=some b->w0.heap.size<=b) (hF:∀b,r.ownBlock=some b->Fr b):RowsR N Fr w (ls++[r]) (xss++[xs]):=
 RowsR.snoc (h.ext hw) d f (λb a=>⟨hF b a,gY h.nle (c b a)⟩) λi b hi a e=>by
  have:=(h.own i hi).lt a;have:=c b e;omega
theorem lit_ints {us:oI} {xs:List Value} (a:xs=us.map λx=>nI x) (f:us.length<=8) (d:∀w' b,b=w.heap.size->Ext w w'->w'.heap.size=w.heap.size+1->OwnI zh w' (.slice (some ⟨b,0,none⟩) us.length us.length) us->K (.slice (some ⟨b,0,none⟩) us.length us.length) w'):
  vbuildS zh xs.length (xs.zipIdx.map λp=>(p.2,p.1)) w K:=by
 have hlen:xs.length=us.length:=by rw[a,K3]
 refine vbuildS_row1 xt yM xJ (λx h=>by subst a;obtain⟨y,_,rfl⟩:=gy.1 h;rfl) oM λb w' e he hs c=>?_;rw[hlen];refine d w' b e he hs ?_;unfold OwnI OwnV;rw[<-a];exact Blk.own1 (t:=zh) (cs:=xs) (by rw[qB];exact c) (Gf _) hlen.symm hlen.symm oM
theorem lit_lists {xs:List Value} (f:∀x,x∈xs->∃o l c,x= .slice o l c) (g:xs.length<=8) (d:∀w' b,b=w.heap.size->Ext w w'->w'.heap.size=w.heap.size+1->OwnV zn w' (.slice (some ⟨b,0,none⟩) xs.length xs.length) xs->K (.slice (some ⟨b,0,none⟩) xs.length xs.length) w'):
  vbuildS zn xs.length (xs.zipIdx.map λp=>(p.2,p.1)) w K:=by
 refine vbuildS_row1 kf qq Xg (λx h=>by obtain⟨o,l,c,rfl⟩:=f x h;rfl) oM λb w' e he hs a=>?_;exact d w' b e he hs (Blk.own1 (t:=zn) (cs:=xs) (by rw[K8];exact a) (Gf _) rfl rfl oM)
structure Fresh (N:Nat) (w:World) (v:Value) (ls:List Value) (xss:List (oI)):Prop where
 own:OwnV zn w v ls
 len:ls.length=xss.length
 new:∀b,v.ownBlock=some b->N<=b
 rows:RowsR N (λb=>v.ownBlock≠some b) w ls xss
theorem neg_wrap {x:Int} (h:x.natAbs<=100000):IntKind.i64.wrap (0-x)= -x:=by rw[zk oM oM];omega
theorem Gate_clauses_spec {g:M.Gt} (s:g.a.natAbs<=100000) (h:g.b.natAbs<=100000) (t:k.natAbs<=100000) (J:∀w' v ls,Ext w w'->Fresh w.heap.size w' v ls (M.gateC k g)->K v w'):vcall kF #[gv g,nI k] w K:=by
 refine ze {} Tryz.func133 ?_;refine zj (cs:=ym g) λb1 w1 W D X f=>?_;simp(disch:=exact oS) only[push_cast,ym,f.ld0,f.ld1,f.ld2,neg_wrap s,neg_wrap h,neg_wrap t];have z1:=D.size;have lit:∀{n:Nat} {w2:World} {us:oI} {xs:List Value} {ls:List Value} {xss:List (oI)} {K:oK},xs=us.map (λx=>nI x)->us.length<=8->Ext w1 w2->RowsR w.heap.size (λb=>b<w2.heap.size) w2 ls xss->ls.length=xss.length->
   (∀q v,Ext w1 q->RowsR w.heap.size (λb=>b<q.heap.size) q (ls++[v]) (xss++[us])->(∃o l c,v= .slice o l c)->K v q)->vbuildS zh xs.length (xs.zipIdx.map λp=>(p.2,p.1)) w2 K:=λ{n w2 us xs ls xss K} i I he O N J=>by
  refine lit_ints i I λq b3 L d S r=>?_;refine J q _ (he.trans d) (RowsR.new (O.weaken λb V _ _=>oM) N d r (λb h=>?_) λb h=>r.lt h) ⟨_,_,_,rfl⟩;have:b=b3:=(V1 h).symm;omega
 have fin:∀{w2:World} {xs:List Value} {xss:List (oI)},xs.length<=8->xs.length=xss.length->(∀x,x∈xs->∃o l c,x= .slice o l c)->Ext w1 w2->RowsR w.heap.size (λb=>b<w2.heap.size) w2 xs xss->xss=M.gateC k g->vbuildS zn xs.length (xs.zipIdx.map λp=>(p.2,p.1)) w2 K:=λ{w2 xs xss} I N i he O T=>by
  refine lit_lists i I λq b3 L d S r=>?_;have z2:=he.size;refine J q _ xs (D.trans (he.trans d)) ⟨r,by rw[<-T];exact N,λb h=>?_,?_⟩
  .have:b=b3:=(V1 h).symm;omega
  .rw[<-T];exact(O.ext d).weaken λb V _ _ e=>by
    have:b3=b:=V1 e;omega
 refine zm (λi=>?_) (λi=>?_)
 .refine lit (n:=3) (xs:=[nI g.a,nI g.b,nI (-k)]) (us:=[g.a,g.b,-k]) rfl (by simp) (Same.refl _ _) (RowsR.nil oM) rfl λw2 v2 j u A=>?_;have F:=f.ext j
  try simp(disch:=exact oS) only[push_cast,F.ld1,F.ld2,neg_wrap s,neg_wrap h,neg_wrap t]
  refine lit (n:=3) (xs:=[nI (-g.a),nI (-g.b),nI (-k)]) (us:=[-g.a,-g.b,-k]) rfl (by simp) j u rfl λq v3 d y B=>?_;have G:=f.ext d
  try simp(disch:=exact oS) only[push_cast,G.ld1,G.ld2,neg_wrap s,neg_wrap h,neg_wrap t]
  refine lit (n:=3) (xs:=[nI (-g.a),nI g.b,nI k]) (us:=[-g.a,g.b,k]) rfl (by simp) d y rfl λY v4 m z C=>?_;have H:=f.ext m
  try simp(disch:=exact oS) only[push_cast,H.ld1,H.ld2,neg_wrap s,neg_wrap h,neg_wrap t]
  refine lit (n:=3) (xs:=[nI g.a,nI (-g.b),nI k]) (us:=[g.a,-g.b,k]) rfl (by simp) m z rfl λZ v5 E Q R=>?_;have U:=f.ext E
  try simp(disch:=exact oS) only[push_cast,U.ld1,U.ld2,neg_wrap s,neg_wrap h,neg_wrap t]
  refine fin (xs:=[v2,v3,v4,v5]) (by simp) rfl (λx i=>?_) E Q (by unfold M.gateC;rw[X0 i];rfl);simp only[gj,gC,Gn] at i;rcases i with rfl|rfl|rfl|rfl
  .exact A
  .exact B
  .exact C
  .exact R
 .refine lit (n:=2) (xs:=[nI g.a,nI (-k)]) (us:=[g.a,-k]) rfl (by simp) (Same.refl _ _) (RowsR.nil oM) rfl λw2 v2 j u A=>?_;have F:=f.ext j
  try simp(disch:=exact oS) only[push_cast,F.ld1,F.ld2,neg_wrap s,neg_wrap h,neg_wrap t]
  refine lit (n:=2) (xs:=[nI g.b,nI (-k)]) (us:=[g.b,-k]) rfl (by simp) j u rfl λq v3 d y B=>?_;have G:=f.ext d
  try simp(disch:=exact oS) only[push_cast,G.ld1,G.ld2,neg_wrap s,neg_wrap h,neg_wrap t]
  refine lit (n:=3) (xs:=[nI (-g.a),nI (-g.b),nI k]) (us:=[-g.a,-g.b,k]) rfl (by simp) d y rfl λY v4 m z C=>?_;have H:=f.ext m
  try simp(disch:=exact oS) only[push_cast,H.ld1,H.ld2,neg_wrap s,neg_wrap h,neg_wrap t]
  refine fin (xs:=[v2,v3,v4]) (by simp) rfl (λx i=>?_) m z (by unfold M.gateC;rw[y3 (by simp[i])];rfl);simp only[gj,gC,Gn] at i;rcases i with rfl|rfl|rfl
  .exact A
  .exact B
  .exact C
theorem gatesC_app (n:Nat):∀(a b:M.Gs) (j:Nat),M.gatesC n (a++b) j=M.gatesC n a j++M.gatesC n b (j+a.length)
 |[],b,j=>by simp[M.gatesC]
 |g::a,b,j=>by
  show M.gateC _ g++M.gatesC n (a++b) (j+1)=(M.gateC _ g++M.gatesC n a (j+1))++M.gatesC n b (j+(g::a).length);rw[gatesC_app n a b (j+1),gZ,gF,show j+1+a.length=j+(a.length+1) by omega]
theorem gatesC_take {i:Nat} (hi:i<gs.length):M.gatesC n (gs.take (i+1)) 0=M.gatesC n (gs.take i) 0++M.gateC (2+n+i) gs[i]:=by
 have a:gs.take (i+1)=gs.take i++[gs[i]]:=by rw[pd,gd hi];rfl
 rw[a,gatesC_app];simp only[M.gatesC,gK,gh,Gi];rw[GL oM]
def CnfI (w2:World) (m:Int) (d:oA) (u:List Value) (w':World):Prop:=
 Ext w2 w'/\(d 10->sl 1 u= nI m)/\(d 11->∃b,sl 2 u= .slice (some ⟨b,0,none⟩) 1 1/\OwnI zh w' (.slice (some ⟨b,0,none⟩) 1 1) [1]/\w2.heap.size<=b)/\
 (d 12->d 11/\∃b,sl 3 u= .slice (some ⟨b,0,none⟩) 1 1/\OwnV zn w' (.slice (some ⟨b,0,none⟩) 1 1) [sl 2 u]/\w2.heap.size<=b/\(sl 2 u).ownBlock≠some b)/\
 (d 13->d 10/\d 12/\sl 4 u= .agg ⟨[sl 1 u,sl 3 u]⟩)/\(d 14->∃b cs,sl 0 u= oP b 0/\w2.heap.size<=b/\Blk w' b cs zq/\cs.length=2/\(d 15->cs=[sl 1 u,sl 3 u])/\(d 11->(sl 2 u).ownBlock≠some b)/\(d 12->(sl 3 u).ownBlock≠some b))/\(d 15->d 14/\d 13)
theorem gpos {i:Nat} (c:M.NetG n gs) (j:n<=8) (hi:i<gs.length):gs[i].a.natAbs<=100000/\gs[i].b.natAbs<=100000:=by
 obtain⟨g,d,f,h⟩:=c.gate i hi;have:=c.few;have e:∀a:Int,M.absI a=(a.natAbs:Int):=λa=>by unfold M.absI;split<;>omega
 rw[e,e] at d;rw[e] at f;omega
theorem Zz (n:Nat):∀(gs:M.Gs) (j:Nat),(M.gatesC n gs j).length<=4*gs.length:=λgs j=>M.gatesC_len gs j
theorem cnf8_spec (hc:CktR n bc w gs v mb) (hg:M.NetG n gs) (hK:∀w' lv ls,Ext w w'->CnfO w.heap.size w' lv ls (M.netC n gs [])->K (.agg #[nI (1+n+gs.length:Nat),lv]) w'):vcall kR #[oP bc 0] w K:=by
 apply Qv;have bw:=hc.few.2;have c9:=hg.few;refine zi xr λb1 w1 ce b6 ci bm=>?_;refine zd λw2 ah _=>?_;have e2:=b6.trans ah;have ag:=hc.blk.ext e2;have ay:=bm.ext ah;have O:∀{w':World},Ext w2 w'->∀K:oK,zu zx (oP bc 0) w' K=K (.agg ⟨[nI n,v]⟩) w':=λ{w'} h K=>Blk.ldTake (us:=[nI n,v]) (r:=[.map (some mb)]) (ag.ext h) y5;have hlen:∀(w':World) (K:oK),vbi .len [zA] zE [v] w' K=K (nI gs.length) w':=λw' K=>jI0 (Own.ext hc.own e2);simp(disch:=exact oS) only[push_cast,ag.ld1,O (Same.refl _ _),hlen,k5];obtain⟨m,hm⟩:∃m:Int,m=(1+n+gs.length:Nat):=⟨_,rfl⟩;refine⟨CnfI w2 m,⟨Same.refl _ _,by simp,by simp,by simp,by simp,by simp,by simp⟩,?_⟩;rintro d u _ V ⟨A,i10,i11,i12,i13,i14,i15⟩;have bp:=ag.ext A;have z3:=A.size;simp(disch:=exact oS) only[push_cast,bp.ld1,O A,hlen,k5,gi];generalize sl 0 u=a0 at*;generalize sl 1 u=a1 at*;generalize sl 2 u=a2 at*;generalize sl 3 u=a3 at*;generalize sl 4 u=a4 at*;have res:∀{i j:Nat} {p:Prop},i≠j->(i=j\/p)->p:=λh U=>U.resolve_left h;have t11:∀{G:World},Ext V G->d 11->∃b,a2= .slice (some ⟨b,0,none⟩) 1 1/\OwnI zh G (.slice (some ⟨b,0,none⟩) 1 1) [1]/\w2.heap.size<=b:=λhe h=>by
  obtain⟨b,x,y,z⟩:=i11 h;exact⟨b,x,y.ext he,z⟩
 have t12:∀{G:World},Ext V G->d 12->∃b,a3= .slice (some ⟨b,0,none⟩) 1 1/\OwnV zn G (.slice (some ⟨b,0,none⟩) 1 1) [a2]/\w2.heap.size<=b/\a2.ownBlock≠some b:=λhe h=>by
  obtain⟨_,b,x,y,z⟩:=i12 h;exact⟨b,x,y.ext he,z⟩
 have t14:∀{G:World},Ext V G->d 14->∃b cs,a0= oP b 0/\w2.heap.size<=b/\Blk G b cs zq/\cs.length=2/\(d 15->cs=[a1,a3])/\(d 11->a2.ownBlock≠some b)/\(d 12->a3.ownBlock≠some b)/\b<V.heap.size:=λhe h=>by
  obtain⟨b,cs,x,y,z,q1,q2,q3,q4⟩:=i14 h;exact⟨b,cs,x,y,z.ext he,q1,q2,q3,q4,z.lt⟩
 refine⟨⟨λn10=>?_,λn11=>?_,λn12 R=>?_,λn13 Z S=>?_,λn14=>?_,λn15 a5 an _ _ _ _ _ _=>?_,trivial⟩,λZ R S an a5 c8=>?_⟩
 .refine nodes_spec oM oM λG f=>?_;refine⟨A.trans f,λ_=>?_,λh=>t11 f (res dC h),λh=>⟨.inr (i12 (res dC h)).1,t12 f (res dC h)⟩,λh=>absurd (i13 (res dC h)).1 n10,λh=>?_,λh=>absurd (i13 (i15 (res dC h)).2).1 n10⟩
  .show nI _=_;congr 1;omega
  .obtain⟨b,cs,x,y,z,q1,q2,q3,q4,_⟩:=t14 f (res dC h);exact⟨b,cs,x,y,z,q1,λh=>absurd (i13 (i15 (res dC h)).2).1 n10,λh=>q3 (res dC h),λh=>q4 (res dC h)⟩
 .have F: ¬d 12:=λh=>n11 (i12 h).1;refine lit_ints (xs:=[nI 1]) (us:=[1]) rfl (by simp) λG b4 az f am E=>?_;refine⟨A.trans f,λh=>i10 (res dC h),λ_=>⟨b4,rfl,E,oM⟩,λh=>absurd (res dC h) F,λh=>absurd (i13 (res dC h)).2.1 F,λh=>?_,λh=>absurd (i13 (i15 (res dC h)).2).2.1 F⟩;obtain⟨b,cs,x,y,z,q1,q2,q3,q4,q5⟩:=t14 f (res dC h);exact⟨b,cs,x,y,z,q1,λh=>absurd (i13 (i15 (res dC h)).2).2.1 F,λ_ e=>by have e6:b4=b:=V1 e;omega,λh=>absurd (res dC h) F⟩
 .obtain⟨b2,ap,o2,l2⟩:=i11 R;have cn:b2<V.heap.size:=o2.lt rfl;refine lit_lists (xs:=[a2]) (λx hx=>by rw[gx.1 hx];exact⟨_,_,_,ap⟩) (by simp) λG b4 az f am E=>?_;refine⟨A.trans f,λh=>i10 (res dC h),λh=>t11 f (res dC h),λ_=>⟨.inr R,b4,rfl,E,oM,?_⟩,λh=>absurd (i13 (res dC h)).2.1 n12,λh=>?_,λh=>absurd (i13 (i15 (res dC h)).2).2.1 n12⟩
  .show a2.ownBlock≠some b4;rw[ap];intro e;have e6:b2=b4:=V1 e;omega
  .obtain⟨b,cs,x,y,z,q1,q2,q3,q4,q5⟩:=t14 f (res dC h);exact⟨b,cs,x,y,z,q1,λh=>absurd (i13 (i15 (res dC h)).2).2.1 n12,λh=>q3 (res dC h),λ_ e=>by have e6:b4=b:=V1 e;omega⟩
 .obtain⟨_,b3,ac,o3,l3,n3⟩:=i12 S;have ab:=i10 Z;have bs:∀K:oK,yA zq [(0,a1),(1,a3)] V K=K (.agg ⟨[a1,a3]⟩) V:=λK=>by
   rw[ab,ac];exact zU Jg (us:=[[nI m],[.slice (some ⟨b3,0,none⟩) 1 1]]) rfl rfl
  rw[bs];refine⟨rfl,A,λh=>i10 (res dC h),λh=>t11 (Same.refl _ _) (res dC h),λh=>⟨.inr (i12 (res dC h)).1,t12 (Same.refl _ _) (res dC h)⟩,λ_=>⟨.inr Z,.inr S,rfl⟩,λh=>?_,λh=>⟨.inr (i15 (res dC h)).1,.inl rfl⟩⟩;obtain⟨b,cs,x,y,z,q1,q2,q3,q4,q5⟩:=t14 (Same.refl _ _) (res dC h);exact⟨b,cs,x,y,z,q1,λh=>q2 (res dC h),λh=>q3 (res dC h),λh=>q4 (res dC h)⟩
 .have aa: ¬d 15:=λh=>n14 (i15 h).1;refine zi xr λb4 G az f am B=>?_;refine⟨A.trans f,λh=>i10 (res dC h),λh=>t11 f (res dC h),λh=>⟨.inr (i12 (res dC h)).1,t12 f (res dC h)⟩,λh=>?_,λ_=>⟨b4,_,rfl,oM,B,rfl,λh=>absurd (res dC h) aa,λh e=>?_,λh e=>?_⟩,λh=>absurd (res dC h) aa⟩
  .obtain⟨x,y,z⟩:=i13 (res dC h);exact⟨.inr x,.inr y,z⟩
  .obtain⟨b,x,y,z⟩:=i11 (res dC h);have e':a2.ownBlock=some b4:=e;rw[x] at e';have e6:b=b4:=V1 e';have lt4:b<V.heap.size:=y.lt rfl;omega
  .obtain⟨_,b,x,y,z⟩:=i12 (res dC h);have e':a3.ownBlock=some b4:=e;rw[x] at e';have e6:b=b4:=V1 e';have lt4:b<V.heap.size:=y.lt rfl;omega
 .obtain⟨bh,a6,bk⟩:=i13 an;obtain⟨T,cs,bi,l0,B0,b8,_,n2,n3⟩:=i14 a5;have ab:=i10 bh;obtain⟨ao,b3,ac,o3,l3,_⟩:=i12 a6;subst bk bi ab ac;refine B0.stAgg (cs':=[nI m,.slice (some ⟨b3,0,none⟩) 1 1]) (by rw[b8];rfl) zF net_one λG ak am B=>?_;refine⟨Ext.then A ak λy hy=>by subst hy;exact l0,λ_=>rfl,λh=>?_,λh=>?_,λ_=>⟨.inr bh,.inr a6,rfl⟩,λ_=>⟨T,_,rfl,l0,B,rfl,λ_=>rfl,λh=>n2 (res dC h),λh=>n3 (res dC h)⟩,λ_=>⟨.inr a5,.inr an⟩⟩
  .obtain⟨b,x,y,z⟩:=i11 ao;refine⟨b,x,y.same ak λc hc e=>?_,z⟩;have U:=n2 ao;rw[x] at U;exact U (hc.trans (by rw[e]))
  .refine⟨.inr ao,b3,rfl,o3.same ak λc hc e=>?_,l3,?_⟩
   .exact n3 a6 (hc.trans (by rw[e]))
   .obtain⟨_,b,x,y,z,q⟩:=i12 a6;cases x;exact q
 obtain⟨b2,x2,o2,l2⟩:=i11 R;obtain⟨_,b3,x3,o3,l3,d23⟩:=i12 S;obtain⟨T,cs,x0,l0,B0,b8,bl,n2,n3⟩:=i14 a5;have bt:=bl c8;have c6:=n2 R;have c7:=n3 S;have c3:=i10 Z;subst bt x0 x3 x2 c3;have z1:=b6.size;have be:RowsR w2.heap.size (λb=>b≠b3/\b≠T) V [.slice (some ⟨b2,0,none⟩) 1 1] [[1]]:=by
  refine RowsR.snoc (RowsR.nil z3) rfl o2 (λb k=>⟨⟨λe=>d23 (k.trans (by rw[e])),λe=>c6 (k.trans (by rw[e]))⟩,?_⟩) (λi b hi=>absurd hi (by simp));have e6:b2=b:=V1 k;omega
 have bq:∀{w':World},Ext w2 w'->GatesR (λb=>v.ownBlock=some b) w' v gs:=λh=>Sl.ext (Own.sl hc.own) (e2.trans h);refine vloop_up gs.length (λi u w'=>u=[nI i]/\Ext w2 w'/\∃lv ls,Blk w' T [nI m,lv] zq/\OwnV zn w' lv ls/\ls.length=([1]::M.gatesC n (gs.take i) 0).length/\RowsR w2.heap.size (λb=>lv.ownBlock≠some b/\b≠T) w' ls ([1]::M.gatesC n (gs.take i) 0)/\∀b,lv.ownBlock=some b->w2.heap.size<=b/\b≠T)
  ⟨rfl,A,_,_,B0,o3,rfl,be.weaken λb s _ _=>⟨λe=>s.1 (by have e6:b3=b:=V1 e;exact e6.symm),s.2⟩,λb k=>⟨by have e6:b3=b:=V1 k;omega,λe=>c7 (k.trans (by rw[e]))⟩⟩ ?_
 rintro i _ _ G C hi ⟨rfl,f,lv,ls,B,E,L,X,N⟩ hC;refine oZ ?_;have e4:=e2.trans f;have bj:=f;have z4:=f.size;refine zb (λa=>?_) (λa=>?_)
 .have J:i<gs.length:=oM;have bf:=bq f;rw[Sl.iaddr bf Yq oM (by rw[xJ0];omega),gu,Sl.ldAgg bf xO (by rw[xJ0];exact J),yA0 J];obtain⟨ha,k⟩:=gpos hg bw J;have b7:=gatesC_take (n:=n) J;generalize cg:gs[i]=g at*;refine zi kL λb5 w5 cf bu c5 af=>?_;refine af.stAgg (cs':=ym g) rfl xO (gone [g] _ (by simp)) λw6 c2 cj bn=>?_;have aq:Ext G w6:=Ext.then bu c2 λy hy=>by subst hy;omega
  refine zd λw7 ai _=>?_;have ad:=aq.trans ai;have bo:=bn.ext ai;have av:=B.ext ad;have b9:∀{w':World},Ext w7 w'->∀K:oK,zu zo (oP b5 0) w' K=K (gv g) w':=λh K=>Blk.ldAgg (bo.ext h) (by exact xO);simp(disch:=exact oS) only[push_cast,av.ld1,b9 (Same.refl _ _),O (bj.trans ad),k5];refine nodes_spec oM oM λw8 W=>?_;have aw:=av.ext W;simp(disch:=exact oS) only[push_cast,aw.ld1,b9 W,k5,gi,zk];rw[show(1+(n:Int)+(i:Int)+1)=2+n+i by omega];refine Gate_clauses_spec ha k oM λw9 v9 Y aj D=>?_;have ax:=aw.ext aj;have ae:=ad.trans (W.trans aj);simp(disch:=exact oS) only[push_cast,ax.ld1,k5,gi];have cl:=W.size;have ck:=ai.size;have cd:=aq.size;have cm:=aj.size;have ch:ls.length<=2401:=by
   have s:=Zz n (gs.take i) 0;have U:(gs.take i).length=i:=by rw[gh];omega
   rw[L,gF];omega
  have ca:Y.length<=4:=by rw[D.len];unfold M.gateC;split<;>simp
  refine OwnV.app (us:=Y) (E.ext ae) jC D.own.vals (λu hu=>?_) oM oM λv10 w10 Q H a7=>?_
  .obtain⟨j,hj,rfl⟩:=gq hu;have bx:=D.rows.own j (by rw[<-D.len];exact hj);obtain⟨o,c,e,_⟩:=bx.ints.shape;rw[y4,gd hj,GD] at e;rw[e];rfl
  have cb:=H.size;have au:=ax.same H λe=>(N _ e).2 rfl
  try simp only[push_cast,k5]
  refine au.st (i:=1) (v:=v10) ?_ ?_ jy (by rfl) λco I cc ar=>?_
  .obtain⟨o,c,e,_⟩:=Q.vals.shape;rw[e];rfl
  .obtain⟨o,c,e,_⟩:=Q.vals.shape;rw[e];rfl
  try simp(disch:=omega) only[push_cast,zk]
  have c4:=I.size;have bg:∀b,lv.ownBlock=some b->b<G.heap.size:=λb k=>E.lt k;have bz:RowsR w2.heap.size (λb=>lv.ownBlock≠some b/\b≠T) w9 ls ([1]::M.gatesC n (gs.take i) 0):=X.ext ae;have c1:RowsR w2.heap.size (λb=>lv.ownBlock≠some b/\b≠T) w9 Y (M.gateC (2+n+i) g):=by
   have s:=D.rows;refine⟨oM,s.own,λj b hj k=>?_,s.dj⟩;have U:=(s.sub j b hj k).2;exact⟨⟨λe=>by have h6:=bg b e;omega,λe=>by have:=B.lt;omega⟩,oM⟩
  have c0:=bz.app L c1 D.len λj1 j2 b s U k e=>by
   have:=(X.own j1 s).lt k;have:=(D.rows.sub j2 b U e).2;omega
  have a9:∀b,v10.ownBlock=some b->w2.heap.size<=b/\b≠T:=λb k=>by
   rcases a7 b k with h|h
   .exact N b h
   .have:=B.lt;exact⟨oM,λe=>oM⟩
  refine hC J _ _ ⟨by simp,?_,v10,ls++Y,ar,Q.same I λb k e=>(a9 b k).2 e,?_,?_,a9⟩
  .exact Ext.then (Ext.then (f.trans ae) H λb k=>(N b k).1) I λb k=>by subst k;exact l0
  .rw[b7,Q1,L,D.len,gF,gF,Q1];omega
  .rw[b7,<-GM];have bd:=c0.weaken (F':=λb=>(lv.ownBlock≠some b/\b≠T)/\b<w9.heap.size) λb s _ h3=>⟨s,h3⟩;refine((bd.same H λb s _ e=>s.1.1 e).same I λb s _ e=>s.1.2 e).weaken λb s _ _=>⟨λe=>?_,s.1.2⟩;rcases a7 b e with h|h
   .exact s.1.1 h
   .omega
 .have bv:i=gs.length:=oM;subst bv;rw[gA] at L X;have br:=ay.ext f;obtain⟨o,c,ba,_⟩:=E.vals.shape;generalize (ls.map λx=>[x]).length=l at ba;subst ba;rw[B.ldAgg (t:=zq) zF];have z2:=ah.size;refine br.stAgg (cs':=[nI m,.slice o l c]) rfl zF net_one λw5 al c5 af=>?_;rw[af.lv (t:=zq) zF,hm];have a8:Ext w w5:=Ext.then e4 al λy hy=>by subst hy;omega
  have bb:∀b,w2.heap.size<=b->b≠b1:=λb k e=>by have:=ay.lt;omega
  refine hK w5 _ ls a8 ⟨E.same al λb k e=>bb b (N b k).1 e,by rw[L];show _=([1]::(M.gatesC n gs 0++[])).length;rw[gK],λb k=>by have:=(N b k).1;omega,?_⟩;show RowsR _ _ _ _ ([1]::(M.gatesC n gs 0++[]));rw[gK];have s:=(X.weaken (F':=λb=>(Value.slice o l c).ownBlock≠some b/\w2.heap.size<=b) λb s U _=>⟨s.1,U⟩).same al λb s _ e=>bb b s.2 e;exact⟨by have:=a8.size;omega,s.own,λi b hi k=>⟨(s.sub i b hi k).1.1,by have:=(s.sub i b hi k).1.2;omega⟩,s.dj⟩
end
section
variable {w:World} {K:oK} {D F F' G Fx Fy X:oA} {n m N bl bc mb bb kb:Nat} {gs hs:M.Gs} {v dv tv f:Value} {ls:List Value} {xss:List (oI)} {xs:oI} {ds:List M.Dcl} {t:M.Tm} {ts ks:List M.Tm} {ar ab at_:Addr} {k:Int}
theorem ContainsT {p:M.Tm->Bool} (m:TmsR F w v ks) (s:∀(w':World) (x:Value) (t:M.Tm) (K:oK),Ext w w'->t∈ks->TermR F w' x t->(∀w'',Ext w' w''->K (.bool (p t)) w'')->vcallv f #[x] w' K) (o:∀w',Ext w w'->K (.bool (ks.any p)) w'):
  vcall xU #[v,f] w K:=by
 refine ze {} Tryz.func85 ?_;refine ze {loops:=[(2,[8])]} Tryz.func124 ?_;have y:=m.small;simp only[push_cast,m.len];refine vloop_up ks.length (λi u w'=>u=[nI i]/\Ext w w'/\∀j,j<i->p (ks.getD j default)=false) ⟨rfl,Same.refl _ _,λj l=>absurd l oM⟩ ?_;rintro i _ _ q C hi ⟨rfl,a,g⟩ r;have k:=m.ext a;refine oZ ?_;refine zb (λb=>?_) (λb=>?_)
 .have d:i<ks.length:=oM;simp(disch:=exact oS) only[push_cast,k.iaddr];refine k.load zc d λx n=>?_;refine s q x _ _ a (M.getD_mem d _) n λz h=>?_;refine zm (λc=>?_) (λc=>?_)
  .try simp only[push_cast]
   rw[gz oM];have:=o z (a.trans h);rwa[ph.2 ⟨_,M.getD_mem d _,c⟩] at this
  .rw[inc64' oM];refine r d _ _ ⟨rfl,a.trans h,λj l=>?_⟩;by_cases e:j<i
   .exact g j e
   .have:j=i:=oM;subst this;exact c
 .try simp only[push_cast]
  rw[gm oM];have:=o q a;rwa[show ks.any p=false from by
   rw[pP];intro x n;obtain⟨j,l,rfl⟩:=gq n;have:=g j oM;rw[y4,gd l,GD] at this;rw[this];decide] at this
def all8 (ds:List M.Dcl) (ts:List M.Tm):Bool:=decide (ts.length<=8)&&M.declOk ds&&ts.all λt=>decide (M.tsort ds t=0)
theorem all8_iff:all8 ds ts=true↔ts.length<=8/\M.declOk ds=true/\∀t,t∈ts->M.tsort ds t=0:=by
 simp only[all8,gg,V0,gQ,and_assoc]
def cnfE (ds:List M.Dcl) (ts:List M.Tm):M.Cnf×Nat:=if all8 ds ts=true then(match M.listB ds ts with
 |some r=>(M.blastC ds r.1 r.2,0)
 |none=>(⟨0,[]⟩,1)) else(⟨0,[]⟩,2)
def errV (ar at_:Addr):Nat->Value
 |0=> .nilIface
 |1=>erv ar
 |_=>erv at_
theorem xP0 {N:Nat} (a:N<=w.heap.size):CnfO N w (oN) [] ⟨0,[]⟩:=⟨OwnV.nil,rfl,λb c=>(by cases c),RowsR.nil a⟩
theorem k30:yA zq [] w K=K (.agg ⟨[nI 0,oN]⟩) w:=zU Jg (us:=[]) rfl rfl
theorem Jo (h:M.tsort ds t=0):M.sortM ds t=0/\M.fits t=true/\M.sizeM t<=20:=by
 obtain⟨a,b,d,c⟩:=kN0 (ds:=ds) (t:=t) (by rw[h];decide);unfold M.tsort at h;rw[X0 ⟨a,b⟩] at h;exact⟨h,a,c⟩
structure RootsB (n bl bb kb m:Nat) (ar ab:Addr) (ds:List M.Dcl) (dv:Value) (ts:List M.Tm) (F:oA) (w:World) (i:Nat) (v:Value) (w':World):Prop where
 ex:∃(F1:oA) (st1:Option M.Gs) (vs:List Value) (xss rs:List (oI)),BlR n bl bb kb m ar ab ds dv (λb=>b=m\/v.ownBlock=some b) F1 w' st1/\Mv (P1 m F) w (P1 m F1) w'/\OwnV zn w' v vs/\(∀b,v.ownBlock=some b->w.heap.size<=b/\¬F1 b)/\
  vs.length=xss.length/\vs.length<=i/\RowsR w.heap.size (λb=> ¬F1 b/\b≠m/\v.ownBlock≠some b) w' vs xss/\TOut n (M.seqB ((ts.take i).map (M.termB ds))) (some []) st1 rs/\(∀gs,st1=some gs->xss=M.rootsC rs/\rs.length=i)
theorem blastCnf_spec (hd:DclsR Fx w dv ds) (ht:TmsR Fy w tv ts) (he:Errs (λ_=>False) w ar ab) (cp:Sent w yG at_)
  (hK:∀w' lv ls,Ext w w'->CnfO w.heap.size w' lv ls (cnfE ds ts).1->K (.tuple #[.agg ⟨[nI (cnfE ds ts).1.many,lv]⟩,errV ar at_ (cnfE ds ts).2]) w'):vcall Ya #[dv,tv] w K:=by
 refine ze {loops:=[(8,[7,31])],cuts:=[(8195,[])]} Tryz.func48 ?_;obtain⟨o,c,c9,_⟩:=hd.shape;generalize (ds.map λd=>[Value.string d.1,nI d.2]).length=l at c9;subst c9;refine yj λb1 w1 dz cb dk bf=>?_;refine zi xr λb2 w2 e0 bj eb bh=>?_;have e2:=cb.trans bj;have z1:=cb.size;have z2:=bj.size;have e9:=ht.small;replace bf:Blk w1 b1 [.slice o l c] yC:=bf;have a7:=bf.ext bj;have none_:∀{w3:World} {g:Nat} {a:Addr} {k:Nat},Ext w2 w3->Sent w3 g a->b2≠g->errV ar at_ k=erv a->cnfE ds ts=(⟨0,[]⟩,k)->ZK w3 λB=>
   yA zq [] B λt20 bs=>bs=B/\
   zu xw (oP g 0) B λt21 bt=>bt=B/\
   zG zq (oP b2 0) t20 B λ_ S=>(zu xw (oP g 0) S λv x=>v=t21/\x=S)/\
   vlv zq (oP b2 0) S λr4 ak=>
   K (.tuple #[r4,t21]) ak:=λ{w3 g a k} z hs dc cc bi=>by
  refine zd λw4 a2 _=>?_;have cm:Sent w4 g a:=hs.same a2 id;have cz:=bh.ext (z.trans a2);rw[k30];simp only[zZ xg cm.cell,k5];refine cz.stAgg (cs':=[nI 0,oN]) rfl zF net_one λR bp ec d1=>?_;have cn:Sent R g a:=cm.same bp λe=>dc e.symm;simp only[zZ xg cn.cell,k5,gi];rw[d1.lv (t:=zq) zF];have e5:Ext w R:=Ext.then (e2.trans (z.trans a2)) bp λy hy=>by subst hy;omega
  have:=hK R (oN) [] e5;rw[bi,cc] at this;exact this (xP0 e5.size)
 have gT:=cp.lt;have gR:=he.room.lt;have bad: ¬all8 ds ts=true->∀{w3:World},Ext w2 w3->ZK w3 λB=>
   yA zq [] B λt20 bs=>bs=B/\
   zu xw (oP yG 0) B λt21 bt=>bt=B/\
   zG zq (oP b2 0) t20 B λ_ S=>(zu xw (oP yG 0) S λv x=>v=t21/\x=S)/\
   vlv zq (oP b2 0) S λr4 ak=>
   K (.tuple #[r4,t21]) ak:=λh {w3} z=>none_ (k:=2) z (cp.same (e2.trans z) id) oM rfl (by unfold cnfE;rw[y3 h])
 refine zp (λu w'=>u=[]/\Ext w2 w'/\ts.length<=8/\M.declOk ds=true) (λJ hJ=>?_) ?_
 .simp only[push_cast,(ht.ext e2).len];refine zb (λh=>bad (λh8=>by have:=(all8_iff.1 h8).1;omega) (Same.refl _ _)) (λh=>?_);simp(disch:=exact oS) only[push_cast,a7.ld0];refine DeclOk_spec (hd.ext e2) λw3 z=>?_;refine oZ ?_;refine zm (λh2=>bad (λh8=>by have:=(all8_iff.1 h8).2.1;rw[this] at h2;cases h2) z) (λh2=>hJ _ _ ⟨rfl,z,oM,by simpa using h2⟩)
 rintro _ _ w3 ⟨rfl,z,h8,aa⟩;have e3:=e2.trans z;refine oZ ?_;refine ContainsT (p:=λt=>decide (M.tsort ds t≠0)) (ht.ext e3) (λw' x t K ca _ hx d6=>?_) λw4 a2=>?_
 .simp only[push_cast,gK,Gk];refine ze {} Tryz.func86 ?_;obtain⟨cx,rfl,a1⟩:=hx.cells;refine zj λb5 R a0 I bp h5=>?_;have c4:=(a7.ext z).ext (ca.trans I);simp(disch:=exact oS) only[push_cast,c4.ld0];rw[h5.ldAgg (t:=za) (by rw[zV a1];exact zc)];refine TermSort_spec (hd.ext (e3.trans (ca.trans I))) (a1.ext I).term λw6 d9=>?_;refine oZ ?_;exact d6 _ (I.trans d9)
 have e4:=e3.trans a2;have a6:=z.trans a2;refine zm (λh=>bad (λh8=>?_) a6) (λh=>?_)
 .obtain⟨t,n,h2⟩:=ph.1 h;exact of_decide_eq_true h2 ((all8_iff.1 h8).2.2 t n)
 have a9:∀t,t∈ts->M.tsort ds t=0:=λt hm=>by
  have:=pP.1 h t hm;simpa using this
 have ch:all8 ds ts=true:=all8_iff.2 ⟨h8,aa,a9⟩;have c1:=a7.ext a6;simp(disch:=exact oS) only[push_cast,c1.ld0];refine newBlaster_spec aa (hd.ext e4) (he.ext0 e4) λR bl bb kb m F5 a0 I cf=>?_;have e5:=e4.trans I;simp only[push_cast,(ht.ext e5).len];have z4:=e4.size;have z5:=I.size;have V:∀b,P1 m F5 b->w4.heap.size<=b:=λb f=>f.elim (λh=>cf b (.inl h)) λh=>cf b (.inr (.inl h));have ax:∀b,P1 m F5 b->b<R.heap.size:=λb f=>f.elim (λh=>a0.bd.lt b (.inl h)) λh=>a0.bd.lt b (.inr h);have d0:BlR (M.bits ds).toNat bl bb kb m ar ab ds (.slice o l c) (λb=>b=m\/(oN).ownBlock=some b) F5 R (some []):=
  a0.swap a0 (Same.refl (λ_=>False) R) (λb f=>f.elim) (λb f=>f.elim (λh=>⟨by subst h;exact ax b (.inr rfl),λ_=>h⟩) λh=>by cases h) (.inl rfl)
 refine vloop_up ts.length (λi u w'=> ∃v,u=[v,nI i]/\RootsB (M.bits ds).toNat bl bb kb m ar ab ds (.slice o l c) ts F5 R i v w') ⟨_,rfl,⟨F5,some [],[],[],[],d0,Mv.refl,OwnV.nil,(λb f=>by cases f),rfl,gr _,RowsR.nil (gr _),TOut.nil,λgs h=>⟨rfl,rfl⟩⟩⟩ ?_;rintro i _ g w6 C hi ⟨v,rfl,⟨F6,cs,vs,xss,rs,c8,ae,bm,Q,a4,ea,X,ap,aw⟩⟩ hC;refine oZ ?_;have z6:=ae.same.size;have e6:Ext w w6:=Ext.then e5 ae.same λy hy=>by have:=V y hy;omega
 have d5:∀b,F6 b->w4.heap.size<=b:=λb f=>(ae.new b (.inl f)).elim (V b) λh=>oM
 have e8:w4.heap.size<=m:=V m (.inr rfl);have cq:∀b,v.ownBlock=some b->¬P1 m F6 b:=λb f hp=>hp.elim (Q b f).2 λe=>by have:=(Q b f).1;have:=ax m (.inr rfl);omega
 refine zb (λa=>?_) (λa=>?_)
 .have O:i<ts.length:=oM;have co:=(ht.weaken (F':=λb=>b<w.heap.size) λb _ hl=>hl).ext e6;simp(disch:=exact oS) only[push_cast,co.iaddr];refine co.load zc O λx hx=>?_;obtain⟨cx,rfl,a1⟩:=hx.cells;refine zi zr λb7 w7 H N ed d2=>?_;refine stTerm d2 rfl (a1.ext N) λw8 di ee d3=>?_;have Z:Ext w6 w8:=Ext.then N di λy hy=>by subst hy;omega
  have eg:=Z.size;have v8:=a1.ext Z;simp only[push_cast,d3.ldAgg (t:=za) (by rw[zV a1];exact zc)];obtain⟨bo,_,dy⟩:=Jo (a9 _ (M.getD_mem O default));have d7:=c8.grow Z;refine term_spec aa _ (by rw[bo];decide) oM d7 (v8.term.weaken λb f _=>⟨λh=>by have:=d5 b h;omega,λh=>h.elim (λe=>oM) λe=>by have:=(Q b e).1;omega⟩) λw9 F9 ct r zs G a3 cj dm bq=>?_;have z9:=a3.same.size;have b8:TOut (M.bits ds).toNat (M.seqB ((ts.take (i+1)).map (M.termB ds))) (some []) ct (rs++[zs]):=by
   rw[M.take_add O default,gE];exact ap.snoc bq
  have az:Mv (P1 m F5) R (P1 m F9) w9:=(ae.ext Z).trans a3;have a8:∀b,(v.ownBlock=some b)->¬F9 b:=λb f hf=>a3.off (cq b f) (by have:=bm.lt f;omega) (.inl hf);have af:RowsR R.heap.size (λb=> ¬F9 b/\b≠m/\v.ownBlock≠some b) w9 vs xss:=
   (((X.weaken (F':=λb=>(¬F6 b/\b≠m/\v.ownBlock≠some b)/\b<w6.heap.size) λb n _ h3=>⟨n,h3⟩).ext Z).same a3.same λb n _ hp=>hp.elim n.1.1 n.1.2.1).weaken λb n _ _=>
    ⟨λhf=>a3.off (λhp=>hp.elim n.1.1 n.1.2.1) oM (.inl hf),n.1.2.1,n.1.2.2⟩
  have bn:OwnV zn w9 v vs:=(bm.ext Z).same a3.same cq;obtain⟨bc,D,c6⟩:=G.bd.blk;have ay:∀b,F9 b->b<w9.heap.size:=λb f=>G.bd.lt b (.inl f);cases ct with
  |none=>
   simp only at D;simp(disch:=exact oS) only[push_cast,G.blk.ld0,D.ld1,Yu0,zk];exact hC O _ _ ⟨v,by simp,⟨F9,none,vs,xss,_,G,az,bn,λb f=>⟨(Q b f).1,a8 b f⟩,a4,oM,af,b8,λgs h=>by cases h⟩⟩
  |some cy=>
   simp only at D;have dk:zs.length=1:=by
    rcases bq with⟨g0,g1,q1,q2,q3⟩|⟨q1,_⟩
    .rw[M.term_len aa _ (by rw[bo];decide) (M.Bd.reach_of_run q3),bo];rfl
    .cases q1
   have ah:∃q,cs=some q:=by
    rcases bq with⟨g0,g1,q1,q2,q3⟩|⟨q1,_⟩
    .exact⟨_,q1⟩
    .cases q1
   obtain⟨q,ah⟩:=ah;obtain⟨br,ci⟩:=aw _ ah;simp(disch:=exact oS) only[push_cast,G.blk.ld0,D.ld1,jk0,cj.iaddr,cj.load];refine lit_ints (xs:=[nI (zs.getD 0 0)]) (us:=[zs.getD 0 0]) rfl (by simp) λw10 Y dq av cr cg=>?_;refine lit_lists (xs:=[.slice (some ⟨Y,0,none⟩) 1 1]) (λx hx=>by rw[gx.1 hx];exact⟨_,_,_,rfl⟩) (by simp) λa5 dx dr ac dt W=>?_;have T:=av.trans ac;refine OwnV.app (us:=[.slice (some ⟨Y,0,none⟩) 1 1]) (bn.ext T) jC W.vals (by simp[Value.oneCell']) (by simp;omega) (by simp;omega) λv12 cu b3 s b0=>?_;have dn:=av.size;have dp:=ac.size;have z12:=s.size
   try simp(disch:=omega) only[push_cast,zk]
   have dh:∀b,v.ownBlock=some b->b<w9.heap.size:=λb f=>bn.lt f;have ao:RowsR R.heap.size (λb=>(¬F9 b/\b≠m/\v.ownBlock≠some b)/\b<a5.heap.size) a5 (vs++[.slice (some ⟨Y,0,none⟩) 1 1]) (xss++[[zs.getD 0 0]]):=by
    have n:=(af.weaken (F':=λb=>(¬F9 b/\b≠m/\v.ownBlock≠some b)/\b<a5.heap.size) λb n _ h3=>⟨n,oM⟩);refine RowsR.new n a4 T (cg.ext ac) (λb f=>?_) λb f=>?_
    .have e6:Y=b:=V1 f;omega
    .have e6:Y=b:=V1 f;exact⟨⟨λhf=>by have:=ay b hf;omega,λe=>by have:=G.met.lt;omega,λe=>by have:=dh b e;omega⟩,oM⟩
   have c7:∀b,(b=m\/v12.ownBlock=some b)->b<a5.heap.size->(b=m\/v.ownBlock=some b):=λb f hl=>f.elim .inl λh=>(b0 b h).elim .inr λh2=>oM;have ai:∀b,v12.ownBlock=some b->R.heap.size<=b/\¬F9 b/\(v.ownBlock=some b\/a5.heap.size<=b):=λb f=>by
    rcases b0 b f with h|h
    .exact⟨(Q b h).1,a8 b h,.inl h⟩
    .exact⟨oM,λhf=>by have:=ay b hf;omega,.inr h⟩
   refine hC O _ _ ⟨v12,by simp,⟨F9,some cy,vs++[.slice (some ⟨Y,0,none⟩) 1 1],xss++[[zs.getD 0 0]],rs++[zs],(G.grow T).swap a0 s (λb f=>⟨.inr f,(Q b f).1,a8 b f⟩) (λb f=>⟨?_,c7 b f⟩) (.inl rfl),((az.ext T).to s λb f=> .inr (Q b f).1),b3,λb f=>⟨(ai b f).1,(ai b f).2.1⟩,?_,?_,?_,b8,λgs h=>⟨?_,?_⟩⟩⟩
   .rcases f with h|h
    .have:=G.met.lt;omega
    .exact b3.lt h
   .rw[Q1,Q1,a4];rfl
   .rw[Q1];simp;omega
   .refine(ao.same s λb n _ e=>n.1.2.2 e).weaken λb n _ _=>⟨n.1.1,n.1.2.1,λe=>?_⟩;rcases(ai b e).2.2 with h|h
    .exact n.1.2.2 h
    .omega
   .rw[br];unfold M.rootsC;rw[gE];rfl
   .rw[Q1,ci];rfl
 .have O:i=ts.length:=oM;subst O;rw[gA] at ap;have bu:Ext w2 w6:=Ext.then (a6.trans I) ae.same λy hy=>by have:=V y hy;have:=a6.size;omega
  refine zd λw7 N _=>?_;have H:=c8.grow N;have bv:=bu.trans N;obtain⟨bc,D,c6⟩:=H.bd.blk;cases cs with
  |none=>
   have dd:M.listB ds ts=none:=by
    rcases ap with⟨g0,g1,q1,q2,q3⟩|⟨q1,q2⟩
    .cases q2
    .exact q2 [] rfl
   simp only at D;simp(disch:=exact oS) only[push_cast,H.blk.ld0,D.ld1,zZ xg H.bd.err.room.cell,k5];refine WH ?_;refine oZ ?_;refine none_ (g:=xX) (a:=ar) (k:=1) bv H.bd.err.room oM rfl ?_;unfold cnfE;rw[X0 ch,dd]
  |some q=>
   have ba:M.listB ds ts=some (q,rs):=by
    rcases ap with⟨g0,g1,q1,q2,q3⟩|⟨q1,q2⟩
    .cases q1;cases q2;exact q3
    .cases q1
   have b6:=M.list_net aa (λt ht=>by rw[(Jo (a9 t ht)).1];decide) ba;obtain⟨br,ci⟩:=aw _ rfl;simp only at D;simp(disch:=exact oS) only[push_cast,H.blk.ld0,D.ld1,zZ xg H.bd.err.room.cell,k5];refine qg0 ?_;obtain⟨gvv,mb,d8,e7,e1⟩:=c6 q rfl;simp(disch:=exact oS) only[push_cast,H.blk.ld0,D.ld0];refine cnf8_spec d8 b6.net λw8 lv aj bk F=>?_;have cw:=N.trans bk;have bw:=bv.trans bk;have z7:=N.size;have z8:=bk.size;have z26:=bu.size;refine zi xr λb9 w9 G da dm d4=>?_;obtain⟨o2,c2,cd,_⟩:=F.lst.vals.shape;generalize (aj.map λx=>[x]).length=l2 at cd;subst cd;refine d4.stAgg (cs':=[nI (1+(M.bits ds).toNat+q.length:Nat),.slice o2 l2 c2]) rfl zF net_one λw10 cl cr au=>?_;have E:Ext w8 w10:=Ext.then da cl λy hy=>by subst hy;omega
   have aq:=cw.trans E;simp(disch:=exact oS) only[push_cast,au.ld1];have db:aj.length<=2401:=by
    rw[F.len];show([1]::(M.gatesC _ q 0++[])).length<=2401;have n:=Zz (M.bits ds).toNat q 0;have h2:=b6.net.few;rw[gK,gF];omega
   refine OwnV.app (us:=vs) (F.lst.ext E) jC (bm.vals.ext aq) (λu hu=>?_) oM oM λv11 a5 W L ce=>?_
   .obtain⟨j,hj,rfl⟩:=gq hu;have de:=X.own j (by rw[<-a4];exact hj);obtain⟨o,c,e,_⟩:=de.ints.shape;rw[y4,gd hj,GD] at e;rw[e];rfl
   have am:=F.dl;have be:∀b,(Value.slice o2 l2 c2).ownBlock=some b->b<w8.heap.size:=λb f=>F.lst.lt f;have bz:=au.same L λe=>by have:=be _ e;omega
   have dp:=L.size;have dn:=E.size;obtain⟨o3,c3,A,_⟩:=W.vals.shape;generalize ((aj++vs).map λx=>[x]).length=l3 at A;subst A;refine bz.st (i:=1) (v:= .slice o3 l3 c3) rfl rfl jy (by rfl) λcu s du bg=>?_;have al:Blk cu b9 [nI (1+(M.bits ds).toNat+q.length:Nat),.slice o3 l3 c3] zq:=bg;rw[al.ldAgg (t:=zq) zF];have bx:=bh.ext (bw.trans E);have ef:=bh.lt;have A:∀b,(Value.slice o3 l3 c3).ownBlock=some b->w7.heap.size<=b/\b≠b9/\((Value.slice o2 l2 c2).ownBlock=some b\/w10.heap.size<=b):=λb f=>by
    rcases ce b f with h|h
    .exact⟨am b h,λe=>by have:=be b h;omega,.inl h⟩
    .exact⟨oM,λe=>oM,.inr h⟩
   have c5:=(bx.same L λe=>by have:=am _ e;omega).same s oM;refine c5.stAgg (cs':=[nI (1+(M.bits ds).toNat+q.length:Nat),.slice o3 l3 c3]) rfl zF net_one λcv ag dw c0=>?_;rw[c0.lv (t:=zq) zF];have bi:cnfE ds ts=(M.blastC ds q rs,0):=by unfold cnfE;rw[X0 ch,ba]
   have df:RowsR R.heap.size (λb=>(Value.slice o2 l2 c2).ownBlock≠some b/\b<w8.heap.size) w10 aj ([1]::(M.gatesC (M.bits ds).toNat q 0++[])):=by
    have n:=(F.rows.weaken (F':=λb=>(Value.slice o2 l2 c2).ownBlock≠some b/\b<w8.heap.size) λb n _ h3=>⟨n,h3⟩).ext E;exact⟨oM,n.own,λi b hi f=>⟨(n.sub i b hi f).1,by have:=(n.sub i b hi f).2;omega⟩,n.dj⟩
   have dg:RowsR R.heap.size (λb=>(Value.slice o2 l2 c2).ownBlock≠some b/\b<w8.heap.size) w10 vs xss:=
    (X.weaken (F':=λb=>(Value.slice o2 l2 c2).ownBlock≠some b/\b<w8.heap.size) λb n _ h3=>⟨λe=>by have:=am b e;omega,oM⟩).ext aq
   have ck:=df.app F.len dg a4 λi j b hi hj n h2=>by
    have:=(F.rows.sub i b hi n).2;have:=(X.own j hj).lt h2;omega
   have ad:([1]::(M.gatesC (M.bits ds).toNat q 0++[]))++xss=(M.blastC ds q rs).list:=by
    rw[br,gK];rfl
   rw[ad] at ck;have an:=(((ck.same L λb n _ e=>n.1 e).same s λb n _ e=>by subst e;omega).weaken (F':=λb=>((Value.slice o3 l3 c3).ownBlock≠some b)/\w2.heap.size<=b) λb n h2 _=>⟨λe=>by
    rcases(A b e).2.2 with h|h
    .exact n.1 h
    .omega,by have:=a6.size;omega⟩).same ag λb n _ e=>oM
   have b4:Ext w cv:=Ext.then (Ext.then (Ext.then (e2.trans (bw.trans E)) L λb f=>by have:=am b f;omega) s λb f=>by subst f;omega) ag λb f=>by subst f;omega
   have U:=hK cv (.slice o3 l3 c3) (aj++vs) b4;rw[bi] at U;refine U ⟨?_,?_,λb f=>?_,?_⟩
   .exact((W.same s λb f e=>(A b f).2.1 e).same ag λb f e=>by have:=(A b f).1;omega)
   .rw[<-ad,Q1,Q1,F.len,a4];rfl
   .have:=(A b f).1;omega
   .exact⟨b4.size,an.own,λi b hi f=>⟨(an.sub i b hi f).1.1,by have:=(an.sub i b hi f).2;omega⟩,an.dj⟩
end
section
variable {w:World} {K:oK} {F D G:oA}
abbrev ptr (b:Nat):Value:= oP b 0
def QM (t3:Value) (w:World) (J:List Value->World->Prop):Prop:=
 ZK w λw_12=>
 zD za t3 4 w_12 λt13 w_13=>w_13=w_12/\
 zu zl t13 w_12 λt14 w_14=>w_14=w_12/\
 ya zl t14 (nI 0) w_12 λt15 w_15=>w_15=w_12/\
 zu za t15 w_12 λt16 w_16=>w_16=w_12/\
 zD za t3 4 w_12 λt17 w_17=>w_17=w_12/\
 zu zl t17 w_12 λt18 w_18=>w_18=w_12/\
 ya zl t18 (nI 1) w_12 λt19 w_19=>w_19=w_12/\
 zu za t19 w_12 λt20 w_20=>w_20=w_12/\
 (xS za w_12 λt6 w_21=>(zu za t19 w_21 λv x=>v=t20/\x=w_21)/\(ya zl t18 (nI 1) w_21 λv x=>v=t19/\x=w_21)/\(zu zl t17 w_21 λv x=>v=t18/\x=w_21)/\(zD za t3 4 w_21 λv x=>v=t17/\x=w_21)/\(zu za t15 w_21 λv x=>v=t16/\x=w_21)/\(ya zl t14 (nI 0) w_21 λv x=>v=t15/\x=w_21)/\(zu zl t13 w_21 λv x=>v=t14/\x=w_21)/\(zD za t3 4 w_21 λv x=>v=t13/\x=w_21)/\
 (xS za w_21 λt7 w_22=>(zu za t19 w_22 λv x=>v=t20/\x=w_22)/\(ya zl t18 (nI 1) w_22 λv x=>v=t19/\x=w_22)/\(zu zl t17 w_22 λv x=>v=t18/\x=w_22)/\(zD za t3 4 w_22 λv x=>v=t17/\x=w_22)/\(zu za t15 w_22 λv x=>v=t16/\x=w_22)/\(ya zl t14 (nI 0) w_22 λv x=>v=t15/\x=w_22)/\(zu zl t13 w_22 λv x=>v=t14/\x=w_22)/\(zD za t3 4 w_22 λv x=>v=t13/\x=w_22)/\
 (zG za t6 t16 w_22 λ_ w_23=>(zu za t19 w_23 λv x=>v=t20/\x=w_23)/\(ya zl t18 (nI 1) w_23 λv x=>v=t19/\x=w_23)/\(zu zl t17 w_23 λv x=>v=t18/\x=w_23)/\(zD za t3 4 w_23 λv x=>v=t17/\x=w_23)/\
 (zG za t7 t20 w_23 λ_ w_24=>
 J [t6,t7] w_24)/\
 True)/\
 True)/\
 True)/\
 (xS za w_12 λt7_1 w_25=>(zu za t19 w_25 λv x=>v=t20/\x=w_25)/\(ya zl t18 (nI 1) w_25 λv x=>v=t19/\x=w_25)/\(zu zl t17 w_25 λv x=>v=t18/\x=w_25)/\(zD za t3 4 w_25 λv x=>v=t17/\x=w_25)/\(zu za t15 w_25 λv x=>v=t16/\x=w_25)/\(ya zl t14 (nI 0) w_25 λv x=>v=t15/\x=w_25)/\(zu zl t13 w_25 λv x=>v=t14/\x=w_25)/\(zD za t3 4 w_25 λv x=>v=t13/\x=w_25)/\
 (xS za w_25 λt6_1 w_26=>(zu za t19 w_26 λv x=>v=t20/\x=w_26)/\(ya zl t18 (nI 1) w_26 λv x=>v=t19/\x=w_26)/\(zu zl t17 w_26 λv x=>v=t18/\x=w_26)/\(zD za t3 4 w_26 λv x=>v=t17/\x=w_26)/\(zu za t15 w_26 λv x=>v=t16/\x=w_26)/\(ya zl t14 (nI 0) w_26 λv x=>v=t15/\x=w_26)/\(zu zl t13 w_26 λv x=>v=t14/\x=w_26)/\(zD za t3 4 w_26 λv x=>v=t13/\x=w_26)/\
 (zG za t6_1 t16 w_26 λ_ w_27=>(zu za t19 w_27 λv x=>v=t20/\x=w_27)/\(ya zl t18 (nI 1) w_27 λv x=>v=t19/\x=w_27)/\(zu zl t17 w_27 λv x=>v=t18/\x=w_27)/\(zD za t3 4 w_27 λv x=>v=t17/\x=w_27)/\
 (zG za t7_1 t20 w_27 λ_ w_28=>
 J [t6_1,t7_1] w_28)/\
 True)/\
 True)/\
 True)/\
 True
theorem pairReg_ok {b3:Nat} {p:oA} {kv:Value} {t:M.Tm} {J:List Value->World->Prop} (q:Blk w b3 [nI t.op,nI t.a,nI t.b,.string t.s,kv] za) (N:TmsR p w kv t.ks) (o:2<=t.ks.length)
  (K:∀w' b I c c',Ext w w'->Blk w' b c za->TmR p w' c (M.kid t 0)->Blk w' I c' za->TmR p w' c' (M.kid t 1)->J [ptr b,ptr I] w'):QM (ptr b3) w J:=by
 unfold QM;refine zd λw1 h _=>?_;obtain⟨css,hs,Q,L⟩:=N.ext h;have l:=q.ext h;have O:=h.size;simp(disch:=exact oS) only[push_cast,l.ld4,hs.iaddr,hs.ldAgg,k5];have c0:=L 0 oM;have c1:=L 1 oM;refine⟨?_,?_,trivial⟩
 .refine zi zr λb2 w2 x f A o=>?_;have s2:=hs.ext f;have m:=l.ext f;simp(disch:=exact oS) only[push_cast,m.ld4,s2.iaddr,s2.ldAgg,k5,gi];refine⟨?_,trivial⟩;refine zi zr λb3 P z d B r=>?_;have s3:=s2.ext d;have E:=m.ext d;simp(disch:=exact oS) only[push_cast,E.ld4,s3.iaddr,s3.ldAgg,k5,gi];refine⟨?_,trivial⟩;refine stTerm (o.ext d) rfl (c0.ext (f.trans d)) λG i C u=>?_;have e:Ext w1 G:=Ext.then (f.trans d) i λy k=>by subst k;omega
  have n:=hs.ext e;have F:=l.ext e;simp(disch:=exact oS) only[push_cast,F.ld4,n.iaddr,n.ldAgg,k5,gi];refine⟨?_,trivial⟩;refine stTerm (r.same i oM) rfl (c1.ext e) λH j D v=>?_;have g:Ext w1 H:=Ext.then e j λy k=>by subst k;omega
  exact K _ _ _ _ _ (h.trans g) (u.same j oM) (c0.ext g) v (c1.ext g)
 .refine zi zr λb2 w2 x f A o=>?_;have s2:=hs.ext f;have m:=l.ext f;simp(disch:=exact oS) only[push_cast,m.ld4,s2.iaddr,s2.ldAgg,k5,gi];refine⟨?_,trivial⟩;refine zi zr λb3 P z d B r=>?_;have s3:=s2.ext d;have E:=m.ext d;simp(disch:=exact oS) only[push_cast,E.ld4,s3.iaddr,s3.ldAgg,k5,gi];refine⟨?_,trivial⟩;refine stTerm r rfl (c0.ext (f.trans d)) λG i C u=>?_;have e:Ext w1 G:=Ext.then (f.trans d) i λy k=>by subst k;omega
  have n:=hs.ext e;have F:=l.ext e;simp(disch:=exact oS) only[push_cast,F.ld4,n.iaddr,n.ldAgg,k5,gi];refine⟨?_,trivial⟩;refine stTerm ((o.ext d).same i oM) rfl (c1.ext e) λH j D v=>?_;have g:Ext w1 H:=Ext.then e j λy k=>by subst k;omega
  exact K _ _ _ _ _ (h.trans g) (u.same j oM) (c0.ext g) v (c1.ext g)
structure RS (G:oA) (w0 w:World) (b2 b3 b4:Nat) (dv kv:Value) (mb:Nat) (ds:List M.Dcl) (t:M.Tm):Prop where
 ext:Ext w0 w
 f:Blk w b2 [dv,.map (some mb)] yf
 q:Blk w b3 [nI t.op,nI t.a,nI t.b,.string t.s,kv] za
 r:Blk w b4 WM za
 k:TmsR (λx=>G x/\x<w0.heap.size) w kv t.ks
 d:DclsR (λx=>x<w0.heap.size) w dv ds
 m:KindsR w mb
 lo:w0.heap.size<=b4
section
variable {w0 w':World} {b2 b3 b4 mb:Nat} {dv kv:Value} {ds:List M.Dcl} {t:M.Tm}
theorem y6 (h:RS G w0 w b2 b3 b4 dv kv mb ds t) (he:Ext w w'):RS G w0 w' b2 b3 b4 dv kv mb ds t:=
 ⟨h.ext.trans he,h.f.ext he,h.q.ext he,h.r.ext he,h.k.ext he,h.d.ext he,h.m.ext he,h.lo⟩
abbrev qS (dv:Value) (mb:Nat):Value:= .agg ⟨[dv,.map (some mb)]⟩
theorem rs_enter {tv:Value} {B:Value->Value->oK} (s:DclsR F w dv ds) (hm:KindsR w mb) (y:TermR G w tv t) (o:∀w' b2 b3 b4 kv,RS G w w' b2 b3 b4 dv kv mb ds t->B (ptr b2) (ptr b3) (ptr b4) w'):
  yO0 yf (qS dv mb) w λt2 g=>yO0 za tv g λt3 i=>xS za i λt4 j=>B t2 t3 t4 j:=by
 obtain⟨kv,rfl,f⟩:=y;refine zj λb1 w1 p e u l=>?_;refine zj λb2 w2 q c v m=>?_;refine zi zr λb3 z r a x n=>?_;have d:=e.trans (c.trans a);exact o _ _ _ _ kv ⟨d,(l.ext c).ext a,m.ext a,n,(f.weaken λb h k=>⟨h,k⟩).ext d,(s.weaken λb _ h=>h).ext d,hm.ext d,oM⟩
abbrev Vq (K:oK) (w:World) (G:oA) (o:Option M.Tm):Prop:=∀w' rv u,Ext w w'->TermR (λx=>G x\/w.heap.size<=x) w' rv u->(∀x,o=some x->u=x)->K (.tuple #[rv,.bool o.isSome]) w'
theorem yr (h:RS G w0 w b2 b3 b4 dv kv mb ds t) {rv:Value} {u:M.Tm} {b:Bool} (hu:TermR (λx=>(G x\/w0.heap.size<=x)/\x≠b4) w rv u) (g:∀w' a,Ext w0 w'->TermR (λx=>G x\/w0.heap.size<=x) w' a u->K (.tuple #[a,.bool b]) w'):
  zG za (ptr b4) rv w λ_ w1=>vlv za (ptr b4) w1 λr w2=>K (.tuple #[r,.bool b]) w2:=by
 obtain⟨cs,rfl,c⟩:=hu.cells;refine qh (K:=λr w=>K (.tuple #[r,.bool b]) w) h.r rfl c (λx f=>f.2) λk e j d=>?_;exact g _ _ (Ext.then h.ext e λy i=>by subst i;exact h.lo) (d.weaken λx f _=>f.1)
theorem rs_kid (h:RS G w0 w b2 b3 b4 dv kv mb ds t) {rv:Value} {u:M.Tm} (hu:TermR (λx=>G x/\x<w0.heap.size) w' rv u):TermR (λx=>(G x\/w0.heap.size<=x)/\x≠b4) w' rv u:=hu.weaken λx a _=>⟨.inl a.1,by have:=h.lo;omega⟩
theorem rs_new (h:RS G w0 w b2 b3 b4 dv kv mb ds t) (he:Ext w w') {rv:Value} {u:M.Tm} (hu:TermR (λx=>w.heap.size<=x) w' rv u):TermR (λx=>(G x\/w0.heap.size<=x)/\x≠b4) w' rv u:=hu.weaken λx a _=>⟨.inr (by have:=h.ext.size;omega),by have:=h.r.lt;omega⟩
theorem Zo:TermR F w (.agg ⟨WM⟩) (.mk 0 0 0 M.nada []):=(yr0 0 0 0 _:TmR F w _ _).term
end
theorem jE {dv tv:Value} {mb:Nat} {ds:List M.Dcl} {t:M.Tm} (m:DclsR F w dv ds) (hm:KindsR w mb) (f:M.declOk ds=true) (p:TermR G w tv t) (j:∀w',Ext w w'->K (nI (M.sortM ds t)) w'):vcall Qa #[qS dv mb,tv] w K:=by
 refine ze {} Tryz.func355 ?_;obtain⟨cs,rfl,a⟩:=p.cells;refine zj λb1 w1 k d n h=>?_;refine zj λb2 w2 l b o i=>?_;have g:=h.ext b;have c:=d.trans b;simp only[push_cast,g.ld0,g.ld1];rw[i.ldAgg (t:=za) (by rw[zV a];exact zc)];refine sortOf_spec t (hm.ext c) (m.ext c) f (a.ext c).term λq e=>?_;exact j _ (c.trans e)
theorem nn_fixed {t:M.Tm} {n:Int} (h:M.fixedM t=some n):nnB t=true:=by
 rcases M.fixed_cases h with⟨rfl,_⟩|⟨rfl,_⟩|⟨c,b,_⟩
 .rfl
 .rfl
 .exact nnB_iff.2 ⟨oM,λk a=>by rw[b] at a;cases a⟩
theorem fixed_spec {dv tv:Value} {mb:Nat} {ds:List M.Dcl} {t:M.Tm} (hd:DclsR F w dv ds) (hm:KindsR w mb) (H:M.declOk ds=true) (ht:TermR G w tv t) (hs:M.sortM ds t≠ -1) (J:Vq K w G (M.ruleX ds t)):vcall kz #[qS dv mb,tv] w K:=by
 refine ze {cuts:=[(8195,[])]} Tryz.func333 ?_;have Z:TermR G w tv t:=ht;refine rs_enter (B:=λt2 t3 t4 a3=>_) hd hm ht λw1 b2 b3 b4 kv rs=>?_;have no:∀w',RS G w w' b2 b3 b4 dv kv mb ds t->M.allFixed t=false->zG za (ptr b4) (.agg ⟨WM⟩) w' λ_ w1=>vlv za (ptr b4) w1 λr w2=>K (.tuple #[r,.bool false]) w2:=λw' Y h=>by
  have e:M.ruleX ds t=none:=by unfold M.ruleX;rw[h];rfl
  rw[e] at J;exact yr Y Zo λw2 rv Q V=>J w2 rv _ Q V λx I=>by cases I
 refine zp (λu w'=>u=[]/\Ext w1 w'/\M.allFixed t=true) (λC hC=>?_) ?_
 .simp only[push_cast,rs.q.ld4,rs.k.len];refine zb (λa=>?_) (λa=>?_)
  .exact no _ rs (by unfold M.allFixed;rw[gm (λh=>h (nil_len.1 a))];rfl)
  .try simp only[push_cast,rs.q.ld4]
   refine ze {} Tryz.func85 ?_;refine ze {loops:=[(2,[8])]} Tryz.func124 ?_;have a2:=rs.k.small;simp only[push_cast,rs.k.len];refine vloop_up t.ks.length (λi u w'=>u=[nI i]/\Ext w1 w'/\∀j,j<i->(M.fixedM (t.ks.getD j default)).isSome=true) ⟨rfl,Same.refl _ _,λj L=>absurd L oM⟩ ?_;rintro i _ _ w3 C hi ⟨rfl,p,o⟩ O;have z:=y6 rs p;refine oZ ?_;refine zb (λb=>?_) (λb=>?_)
   .have E:=z.k;simp(disch:=exact oS) only[push_cast,E.iaddr];refine E.load zc oM λx I=>?_;simp only[push_cast,gK,Gk];refine ze {} Tryz.func352 ?_;obtain⟨cx,rfl,D⟩:=I.cells;refine zj λb5 w5 a0 v a1 h5=>?_;rw[h5.ldAgg (t:=za) (by rw[zV D];exact zc)];refine Xf (D.ext v).term λw6 y=>?_;refine oZ ?_;have X:=y6 z (v.trans y);refine zm (λc=>?_) (λc=>?_)
    .try simp only[push_cast]
     rw[gz oM];refine no _ X ?_;rw[gS] at c;unfold M.allFixed;rw[GH];right;rw[List.all_eq_false];exact⟨_,M.getD_mem (l:=t.ks) (i:=i) oM default,by rw[c];decide⟩
    .rw[gW] at c;rw[inc64' oM];refine O oM _ _ ⟨rfl,p.trans (v.trans y),λj L=>?_⟩;by_cases e:j<i
     .exact o j e
     .have:j=i:=oM;subst this;exact c
   .try simp only[push_cast]
    rw[gm oM];refine hC _ _ ⟨rfl,p,?_⟩;unfold M.allFixed;rw[gg,V0,gQ];refine⟨λh=>a (nil_len.2 h),λk T=>?_⟩;obtain⟨j,L,rfl⟩:=gq T;have:=o j oM;rwa[y4,gd L] at this
 rintro u g w2 ⟨rfl,R,o⟩;have e:M.ruleX ds t=some (M.constM (M.sortM ds t) (M.evalM ds (M.zeroE ds) t)):=by unfold M.ruleX;rw[X0 o]
 rw[e] at J;have U:nnB t=true:=by
  unfold M.allFixed at o;simp only[gg,V0,gQ] at o;refine nnB_iff.2 ⟨λN=>?_,λk T=>?_⟩
  .have:=M.len_of hs;rw[N] at this;have h0:t.ks.length=0:=by simp[M.arity] at this;omega
   exact o.1 (gL h0)
  .obtain⟨n,hn⟩:=G6.1 (o.2 k T);exact nn_fixed hn
 refine zd λw3 p _=>?_;have z:=y6 rs (R.trans p);have tm:∀{w'},RS G w w' b2 b3 b4 dv kv mb ds t->TermR (λx=>G x/\x<w.heap.size) w' (.agg ⟨[nI t.op,nI t.a,nI t.b,.string t.s,kv]⟩) t:=λh=>⟨kv,rfl,h.k⟩;simp only[push_cast,z.f.ldAgg (t:=yf) xN,z.q.ldAgg (t:=za) zc,z.f.ld0,z.f.ld1,k5];refine jE z.d z.m H (tm z) λw4 S=>?_;have A:=y6 z S;simp only[push_cast,A.q.ldAgg (t:=za) zc,A.f.ld0,A.f.ld1,k5,gi];refine valueOf_specG t A.m A.d (M.zeroE_ok H) (.inr U) (tm A) hs λw5 v=>?_;have r5:=y6 A v;simp only[push_cast,k5];refine constant_spec λw6 v6 y W=>?_;have X:=y6 r5 y;exact yr X (rs_new r5 y W) λw7 rv Q V=>J w7 rv _ Q V λx I=>V1 I
end
section
variable {w:World} {K:oK} {F D G:oA}
theorem qg {o:Option M.Tm} {u:M.Tm} (b:Vq K w G o) (e:o=some u):∀w' rv,Ext w w'->TermR (λx=>G x\/w.heap.size<=x) w' rv u->K (.tuple #[rv,.bool true]) w':=λw' rv a c=>by
 subst e;exact b w' rv u a c λx d=>V1 d
theorem kk {o:Option M.Tm} (b:Vq K w G o) (e:o=none) {u:M.Tm}:∀w' rv,Ext w w'->TermR (λx=>G x\/w.heap.size<=x) w' rv u->K (.tuple #[rv,.bool false]) w':=λw' rv a c=>by
 subst e;exact b w' rv u a c λx d=>by cases d
theorem q40 {o:Option M.Tm} {u:M.Tm} {b:Bool} (a:Vq K w G o) (e:o=if b=true then some u else none):∀w' rv,Ext w w'->TermR (λx=>G x\/w.heap.size<=x) w' rv u->K (.tuple #[rv,.bool b]) w':=by
 cases b
 .exact kk a (by rw[e];rfl)
 .exact qg a (by rw[e];rfl)
theorem intsL {xs:oI} (d:xs.length<=100) (c:∀w' v,Ext w w'->Ints (λ_=>True) w' v xs->K v w'):vbuildS zh (xs.map λx=>nI x).length ((xs.map λx=>nI x).zipIdx.map λp=>(p.2,p.1)) w K:=by
 refine vbuildS_row1 xt yM xJ (λx e=>by obtain⟨y,_,rfl⟩:=gy.1 e;rfl) (by rw[K3];omega) λb w' f he hs a=>?_;rw[K3];have o:OwnI zh w' (.slice (some ⟨b,0,none⟩) xs.length xs.length) xs:=Blk.own1 (t:=zh) (by rw[qB];exact a) (Gf _) (by simp) (by simp) oM;exact c w' _ he (o.ints.weaken λ_ _ _=>trivial)
theorem branches_spec {dv tv:Value} {mb:Nat} {ds:List M.Dcl} {t:M.Tm} (W:DclsR F w dv ds) (hm:KindsR w mb) (Y:M.declOk ds=true) (Z:TermR G w tv t) (hs:M.sortM ds t≠ -1) (p:Vq K w G (M.ruleB t)):vcall j0 #[qS dv mb,tv] w K:=by
 refine ze {cuts:=[(8201,[]),(8194,[6])]} Tryz.func334 ?_;refine rs_enter (B:=λt2 t3 t4 a1=>_) W hm Z λw1 b2 b3 b4 kv rs=>?_;have hlen:=M.len_of hs;have v:t.op=25->t.ks.length=1:=λh=>by rw[h] at hlen;simp[M.arity] at hlen;omega
 have s:t.op=23->t.ks.length=3:=λh=>by rw[h] at hlen;simp[M.arity] at hlen;omega
 refine zp (λu w'=>u=[]/\Ext w1 w'/\t.op=23/\M.isM (M.kid t 0) 1=false/\M.isM (M.kid t 0) 0=false) (λC V=>?_) ?_
 .refine zp (λu w'=> ∃b:Bool,u=[.bool b]/\w'=w1/\(b=true↔t.op=25/\(M.kid t 0).op=25)) (λD hD=>?_) ?_
  .simp only[push_cast,rs.q.ld0];refine zb (λa=>?_) (λa=>?_)
   .have:=v a;simp(disch:=exact oS) only[push_cast,rs.q.ld4,rs.k.iaddr];rw[tms_op rs.k oM];refine oZ ?_;exact hD _ _ ⟨_,rfl,rfl,by rw[V0];exact⟨λh=>⟨a,h⟩,λh=>h.2⟩⟩
   .exact hD _ _ ⟨false,rfl,rfl,⟨λh=>(by cases h),λh=>absurd h.1 a⟩⟩
  rintro u1 g1 w2 ⟨b,rfl,rfl,O⟩;refine oZ ?_;refine zm (λc=>?_) (λc=>?_)
  .obtain⟨S,T⟩:=O.1 c;have Q:=v S;have k0:=M.good_kid hs (i:=0) oM;have I:(M.kid t 0).ks.length=1:=by have:=M.len_of k0;rw[T] at this;simp[M.arity] at this;omega
   simp(disch:=exact oS) only[push_cast,rs.q.ld4,rs.k.iaddr];refine tms_kids rs.k oM λa0 r=>?_;have R:(t.ks.getD 0 default).ks.length=1:=I;simp(disch:=exact oS) only[push_cast,r.iaddr];refine r.load zc oM λx L=>?_;exact yr rs (rs_kid rs L) (qg p (by unfold M.ruleB;rw[X0 ⟨S,T⟩];rfl))
  have nb: ¬(t.op=25/\(M.kid t 0).op=25):=λh=>by have:=O.2 h;rw[c] at this;cases this
  simp only[push_cast,rs.q.ld0];refine zb (λa=>?_) (λa=>?_)
  .try simp only[push_cast]
   exact yr rs Zo (kk p (by unfold M.ruleB;rw[y3 nb,X0 a]))
  have m:t.op=23:=oM;have Q:=s m;simp(disch:=exact oS) only[push_cast,rs.q.ld4,rs.k.iaddr];refine rs.k.load zc oM λx L=>?_;refine jD L λw3 l=>?_;have j:=y6 rs l;simp(disch:=exact oS) only[push_cast,j.q.ld4,j.k.iaddr];refine zm (λd=>?_) (λd=>?_)
  .refine j.k.load zc oM λy N=>?_;exact yr j (rs_kid j N) (qg p (by unfold M.ruleB;rw[y3 nb,y3 a];exact X0 d))
  refine j.k.load zc oM λy N=>?_;refine jD N λw4 f=>?_;have n:=y6 j f;simp(disch:=exact oS) only[push_cast,n.q.ld4,n.k.iaddr];refine zm (λe=>?_) (λe=>?_)
  .refine n.k.load zc oM λz hz=>?_;refine yr n (rs_kid n hz) (qg p ?_);unfold M.ruleB;rw[y3 nb,y3 a,y3 (by rw[show M.isM (M.kid t 0) 1=false from d];decide)];exact X0 e
  exact V _ _ ⟨rfl,l.trans f,m,d,e⟩
 rintro u g w2 ⟨rfl,E,m,i1,i0⟩;have Q:=s m;refine zd λw3 l _=>?_;have j:=y6 rs (E.trans l);obtain⟨css,o,X,A⟩:=j.k;simp(disch:=exact oS) only[push_cast,j.q.ld4,o.iaddr,o.ldAgg,k5];refine TermSame_spec _ (A 1 oM).term (A 2 oM).term λw4 f=>?_;have n:=y6 j f;have sl4:=o.ext f;simp(disch:=exact oS) only[push_cast,n.q.ld4,sl4.iaddr,sl4.ldAgg,k5,gi];refine chosen_spec ((A 1 oM).ext f).term λw5 v5 H J=>?_;have U:=y6 n H;simp only[push_cast,k5];refine yr U (rs_kid U J) (q40 p ?_);unfold M.ruleB;rw[y3 oM,y3 oM,y3 (by rw[i1];decide),y3 (by rw[i0];decide)];simp only[V0];rfl
theorem layers_spec {dv tv:Value} {mb:Nat} {ds:List M.Dcl} {t:M.Tm} (J:DclsR F w dv ds) (hm:KindsR w mb) (A:M.declOk ds=true) (Q:TermR G w tv t) (hs:M.sortM ds t≠ -1) (y:Vq K w G (M.ruleL ds t)):vcall jJ #[qS dv mb,tv] w K:=by
 refine ze {cuts:=[(20486,[32])]} Tryz.func336 ?_;refine rs_enter (B:=λt2 t3 t4 V=>_) J hm Q λw1 b2 b3 b4 kv rs=>?_;have hlen:=M.len_of hs;simp only[push_cast,rs.q.ld0];refine zb (λa=>?_) (λa=>?_)
 .have L:t.ks.length=1:=by rw[a] at hlen;simp[M.arity] at hlen;omega
  refine zd λw2 H _=>?_;have n:=y6 rs H;obtain⟨css,r,O,E⟩:=n.k;simp(disch:=exact oS) only[push_cast,n.q.ld1,n.q.ld2,n.q.ld4,n.f.ldAgg (t:=yf) xN,r.iaddr,r.ldAgg,k5];refine zb (λb=>?_) (λb=>?_)
  .refine jE n.d n.m A (E 0 oM).term λT l=>?_;have j:=y6 n l;have sl3:=r.ext l;have hw:=M.sort_range A (M.kid t 0);simp(disch:=exact oS) only[push_cast,j.q.ld1,j.q.ld4,sl3.iaddr,sl3.ldAgg,k5,gi];rw[show t.ks.getD 0 default=M.kid t 0 from rfl,show IntKind.i64.wrap (M.sortM ds (M.kid t 0)-1)=M.sortM ds (M.kid t 0)-1 from zk oM oM];refine chosen_spec ((E 0 oM).ext l).term λU v5 p s=>?_;have C:=y6 j p;simp only[push_cast,k5];refine yr C (rs_kid C s) (q40 y ?_);unfold M.ruleL;rw[X0 a];by_cases e:t.a=M.sortM ds (M.kid t 0)-1
   .rw[X0 ⟨b,e⟩,X0 (gz e)];rfl
   .rw[y3 (λx=>e x.2),y3 (by rw[gm e];decide)]
  .refine chosen_spec (E 0 oM).term λU v5 p s=>?_;have C:=y6 n p;simp only[push_cast,k5];refine yr C (rs_kid C s) (q40 y ?_);unfold M.ruleL;rw[X0 a,y3 (λx=>b x.1)];rfl
 have nothing: ¬((t.op=1\/t.op=2)/\(M.kid t 0).op=t.op)->M.ruleL ds t=none:=λh=>by unfold M.ruleL;rw[y3 a,y3 h]
 refine zp (λu w'=> ∃b:Bool,u=[.bool b]/\w'=w1/\(b=true↔t.op=1\/t.op=2)) (λD hD=>?_) ?_
 .try simp only[push_cast]
  refine zb (λb=>?_) (λb=>?_)
  .exact hD _ _ ⟨_,rfl,rfl,by rw[V0];exact⟨.inl,λh=>oM⟩⟩
  .exact hD _ _ ⟨_,rfl,rfl,by rw[V0];exact⟨.inr,λh=>oM⟩⟩
 rintro u g w2 ⟨b,rfl,rfl,I⟩;refine oZ ?_;refine zm (λc=>?_) (λc=>?_)
 .have v:=I.1 c;have L:t.ks.length=1:=by rcases v with e|e<;>rw[e] at hlen<;>simp[M.arity] at hlen<;>omega
  refine zd λT l _=>?_;have j:=y6 rs l;simp(disch:=exact oS) only[push_cast,j.q.ld0,j.q.ld4,j.k.iaddr,k5];rw[tms_op j.k oM];simp(disch:=exact oS) only[push_cast,j.q.ld0,j.q.ld4,j.k.iaddr,k5];refine zb (λe=>?_) (λe=>?_)
  .have k0:=M.good_kid hs (i:=0) oM;have N:(t.ks.getD 0 default).ks.length=1:=by
    have:=M.len_of k0;rw[show(M.kid t 0).op=t.op from e] at this;rcases v with o|o<;>rw[o] at this<;>simp[M.arity] at this<;>(unfold M.kid at this;omega)
   refine tms_kids j.k oM λS z=>?_;simp(disch:=exact oS) only[push_cast,z.iaddr];refine z.load zc oM λx R=>?_;exact yr j (rs_kid j R) (qg y (by unfold M.ruleL;rw[y3 a];exact X0 ⟨v,e⟩))
  .try simp only[push_cast]
   exact yr j Zo (kk y (nothing λh=>e h.2))
 .have n12: ¬(t.op=1\/t.op=2):=λh=>by have:=I.2 h;rw[c] at this;cases this
  try simp only[push_cast]
  exact yr rs Zo (kk y (nothing λh=>n12 h.1))
theorem twins_spec {dv tv:Value} {mb:Nat} {ds:List M.Dcl} {t:M.Tm} (S:DclsR F w dv ds) (hm:KindsR w mb) (I:M.declOk ds=true) (V:TermR G w tv t) (hs:M.sortM ds t≠ -1) (p:Vq K w G (M.ruleW ds t)):vcall ky #[qS dv mb,tv] w K:=by
 refine ze {cuts:=[(8195,[]),(20486,[25]),(32777,[32])]} Tryz.func337 ?_;refine rs_enter (B:=λt2 t3 t4 Z=>_) S hm V λw1 b2 b3 b4 kv rs=>?_;have no:∀w',RS G w w' b2 b3 b4 dv kv mb ds t->¬(t.ks.length=2/\M.kid t 0=M.kid t 1)->zG za (ptr b4) (.agg ⟨WM⟩) w' λ_ w1=>vlv za (ptr b4) w1 λr w2=>K (.tuple #[r,.bool false]) w2:=λw' J h=>
  yr J Zo (kk p (by unfold M.ruleW;rw[y3 h]))
 refine zp (λu w'=>u=[]/\Ext w1 w'/\t.ks.length=2/\M.kid t 0=M.kid t 1) (λC R=>?_) ?_
 .refine zd λw2 n _=>?_;have j:=y6 rs n;obtain⟨css,y,U,O⟩:=j.k;simp(disch:=exact oS) only[push_cast,j.q.ld4,j.k.len,k5];refine zb (λa=>?_) (λa=>?_)
  .try simp only[push_cast]
   exact no _ j λh=>a (by rw[h.1];rfl)
  have H:t.ks.length=2:=oM;simp(disch:=exact oS) only[push_cast,j.q.ld4,y.iaddr,y.ldAgg,k5];refine TermSame_spec _ (O 0 oM).term (O 1 oM).term λE i=>?_;have Y:=y6 j i;simp only[push_cast,k5];refine zm (λb=>?_) (λb=>?_)
  .rw[gS,decide_eq_false_iff_not] at b
   try simp only[push_cast]
   exact no _ Y λh=>b h.2
  .rw[gW,V0] at b;exact R _ _ ⟨rfl,n.trans i,H,b⟩
 rintro u g w2 ⟨rfl,n,H,T⟩;have j:=y6 rs n;have W:M.ruleW ds t=if t.op=3\/t.op=4 then some (M.kid t 0) else if t.op=5\/t.op=7 then some (M.constM (M.sortM ds t) 0) else if t.op=15 then some (M.constM 0 1) else if t.op=16\/t.op=17 then some (M.constM 0 0) else none:=by
  unfold M.ruleW;rw[X0 ⟨H,T⟩]
 simp only[push_cast,j.q.ld0];refine zp (λu w'=> ∃b:Bool,u=[.bool b]/\w'=w2/\(b=true↔t.op=3\/t.op=4)) (λD hD=>?_) ?_
 .try simp only[push_cast]
  refine zb (λb=>?_) (λb=>?_)
  .exact hD _ _ ⟨_,rfl,rfl,by rw[V0];exact⟨.inl,λh=>oM⟩⟩
  .exact hD _ _ ⟨_,rfl,rfl,by rw[V0];exact⟨.inr,λh=>oM⟩⟩
 rintro u1 g1 L ⟨b,rfl,rfl,N⟩;refine oZ ?_;refine zm (λc=>?_) (λc=>?_)
 .simp(disch:=exact oS) only[push_cast,j.q.ld4,j.k.iaddr];refine j.k.load zc oM λx X=>?_;exact yr j (rs_kid j X) (qg p (by rw[W,X0 (N.1 c)];rfl))
 have z: ¬(t.op=3\/t.op=4):=λh=>by have:=N.2 h;rw[c] at this;cases this
 refine zp (λu w'=> ∃b:Bool,u=[.bool b]/\w'=L/\(b=true↔t.op=5\/t.op=7)) (λD hD=>?_) ?_
 .try simp only[push_cast]
  refine zb (λb=>?_) (λb=>?_)
  .exact hD _ _ ⟨_,rfl,rfl,by rw[V0];exact⟨.inl,λh=>oM⟩⟩
  .exact hD _ _ ⟨_,rfl,rfl,by rw[V0];exact⟨.inr,λh=>oM⟩⟩
 rintro u2 g2 Q ⟨b',rfl,rfl,s⟩;refine oZ ?_;refine zm (λc'=>?_) (λc'=>?_)
 .rw[j.f.ldAgg (t:=yf) xN,j.q.ldAgg (t:=za) zc];refine jE j.d j.m I ⟨kv,rfl,j.k⟩ λw3 v=>?_;refine constant_spec λE v4 i l=>?_;exact yr (y6 j (v.trans i)) (rs_new (y6 j v) i l) (qg p (by rw[W,y3 z,X0 (s.1 c')]))
 have A: ¬(t.op=5\/t.op=7):=λh=>by have:=s.2 h;rw[c'] at this;cases this
 try simp only[push_cast]
 refine zb (λe=>?_) (λe=>?_)
 .refine constant_spec λE v4 i l=>?_;exact yr (y6 j i) (rs_new j i l) (qg p (by rw[W,y3 z,y3 A,X0 e]))
 by_cases o:t.op=16
 .simp only[o,decide_true,push_cast];refine constant_spec λE v4 i l=>?_;exact yr (y6 j i) (rs_new j i l) (qg p (by rw[W,y3 z,y3 A,y3 e,X0 (.inl o)]))
 .simp only[o,decide_false,push_cast];refine zb (λf=>?_) (λf=>?_)
  .refine constant_spec λE v4 i l=>?_;exact yr (y6 j i) (rs_new j i l) (qg p (by rw[W,y3 z,y3 A,y3 e,X0 (.inr f)]))
  .try simp only[push_cast]
   exact yr j Zo (kk p (by rw[W,y3 z,y3 A,y3 e,y3 oM]))
end
section
variable {w:World} {K:oK} {F D G:oA}
def TwoV (G:oA) (w0 w':World) (t:M.Tm) (u:List Value):Prop:= ∃b b' c c',u=[ptr b,ptr b']/\Blk w' b c za/\TmR (λx=>G x/\x<w0.heap.size) w' c (M.kid t 0)/\Blk w' b' c' za/\TmR (λx=>G x/\x<w0.heap.size) w' c' (M.kid t 1)
theorem yX0 {w0 w1:World} {b2 b3 b4 mb:Nat} {dv kv:Value} {ds:List M.Dcl} {t:M.Tm} {C:List Value->World->Prop} (rs:RS G w0 w1 b2 b3 b4 dv kv mb ds t) (f:2<=t.ks.length) (g:∀u w',Ext w1 w'->TwoV G w0 w' t u->C u w'):QM (ptr b3) w1 C:=
 pairReg_ok rs.q rs.k f λw' b e c c' he h i a d=>g _ _ he ⟨b,e,c,c',rfl,h,i,a,d⟩
theorem truths_spec {dv tv:Value} {mb:Nat} {ds:List M.Dcl} {t:M.Tm} (hd:DclsR F w dv ds) (hm:KindsR w mb) (ht:TermR G w tv t) (hs:M.sortM ds t≠ -1) (y:Vq K w G (M.ruleT t)):vcall jI #[qS dv mb,tv] w K:=by
 refine ze {cuts:=[(20486,[6,7]),(28679,[8,9]),(32779,[]),(32776,[26])]} Tryz.func335 ?_;refine rs_enter (B:=λt2 t3 t4 a0=>_) hd hm ht λw1 b2 b3 b4 kv rs=>?_;have hlen:=M.len_of hs;rw[rs.q.ldAgg (t:=za) zc];refine intsL (xs:=[26,27]) dC λw2 av Q hav=>?_;have r2:=y6 rs Q;refine among_spec (t:=t) (F:=λx=>G x/\x<w.heap.size) ⟨kv,rfl,r2.k⟩ hav dC λw3 R=>?_;have N:=y6 r2 R;have r:t.op∈[(26:Int),27]↔t.op=26\/t.op=27:=by simp
 refine oZ ?_;refine zm (λa=>?_) (λa=>?_)
 .rw[gS,decide_eq_false_iff_not,r] at a
  try simp only[push_cast]
  exact yr N Zo (kk y (by unfold M.ruleT;rw[y3 a]))
 rw[gW,V0,r] at a;have h2:t.ks.length=2:=by rcases a with e|e<;>rw[e] at hlen<;>simp[M.arity] at hlen<;>omega
 refine zp (λu w'=>u=[nI (M.neutral t.op),nI (1-M.neutral t.op)]/\w'=w3) (λC J=>?_) ?_
 .simp only[push_cast,N.q.ld0];refine zb (λb=>?_) (λb=>?_)
  .refine J _ _ ⟨?_,rfl⟩;unfold M.neutral;rw[y3 oM];rfl
  .refine J _ _ ⟨?_,rfl⟩;unfold M.neutral;rw[X0 oM];rfl
 rintro u g Y ⟨rfl,rfl⟩;refine zp (λu w'=>Ext Y w'/\TwoV G w w' t u) (λC J=>?_) ?_
 .have reg:=yX0 (C:=C) N oM λu w' he h=>J u w' ⟨he,h⟩;unfold QM at reg;simp only[push_cast] at reg;exact reg
 rintro u1 g1 w4 ⟨S,b,b',c,c',rfl,L,z,n,l⟩;have r4:=y6 N S;have gc:aggB za c.length=true:=by rw[zV z];exact zc
 have m:aggB za c'.length=true:=by rw[zV l];exact zc
 have T:M.ruleT t=if M.isM (M.kid t 0) (M.neutral t.op)=true\/M.kid t 0=M.kid t 1 then some (M.kid t 1) else if M.isM (M.kid t 1) (M.neutral t.op)=true then some (M.kid t 0) else if M.isM (M.kid t 0) (1-M.neutral t.op)=true\/M.isM (M.kid t 1) (1-M.neutral t.op)=true then some (M.constM 0 (1-M.neutral t.op)) else none:=by
  unfold M.ruleT;rw[X0 a]
 refine zp (λu w'=>u=[]/\Ext w4 w'/\¬(M.isM (M.kid t 0) (M.neutral t.op)=true\/M.kid t 0=M.kid t 1)/\¬M.isM (M.kid t 1) (M.neutral t.op)=true) (λD hD=>?_) ?_
 .refine zp (λu w'=> ∃e:Bool,u=[.bool e]/\Ext w4 w'/\(e=true↔M.isM (M.kid t 0) (M.neutral t.op)=true\/M.kid t 0=M.kid t 1)) (λE Z=>?_) ?_
  .refine oZ ?_;rw[L.ldAgg (t:=za) gc];refine jD z.term λw5 d=>?_;refine zm (λi=>?_) (λi=>?_)
   .exact Z _ _ ⟨true,rfl,d,⟨λ_=> .inl i,λ_=>rfl⟩⟩
   .try simp only[push_cast]
    rw[(L.ext d).ldAgg (t:=za) gc,(n.ext d).ldAgg (t:=za) m];refine TermSame_spec _ (z.ext d).term (l.ext d).term λw6 f=>?_;refine Z _ _ ⟨_,rfl,d.trans f,?_⟩;rw[V0];exact⟨.inr,λh=>h.elim (λx=>by rw[i] at x;cases x) id⟩
  rintro u2 g2 w5 ⟨e,rfl,d,A⟩;have I:=y6 r4 d;refine oZ ?_;refine zm (λi=>?_) (λi=>?_)
  .try simp only[push_cast]
   rw[(n.ext d).ldAgg (t:=za) m];exact yr I (rs_kid I (l.ext d).term) (qg y (by rw[T,X0 (A.1 i)]))
  have H: ¬(M.isM (M.kid t 0) (M.neutral t.op)=true\/M.kid t 0=M.kid t 1):=λh=>by have:=A.2 h;rw[i] at this;cases this
  try simp only[push_cast]
  rw[(n.ext d).ldAgg (t:=za) m];refine jD (l.ext d).term λw6 f=>?_;have v:=y6 I f;refine zm (λj=>?_) (λj=>?_)
  .try simp only[push_cast]
   rw[(L.ext (d.trans f)).ldAgg (t:=za) gc];exact yr v (rs_kid v (z.ext (d.trans f)).term) (qg y (by rw[T,y3 H,X0 j]))
  .exact hD _ _ ⟨rfl,d.trans f,H,by rw[j];decide⟩
 rintro u2 g2 w5 ⟨rfl,d,H,n2⟩;have I:=y6 r4 d;refine oZ ?_;rw[(L.ext d).ldAgg (t:=za) gc];refine jD (z.ext d).term λw6 f=>?_;have v:=y6 I f;refine zm (λi=>?_) (λi=>?_)
 .refine constant_spec λw7 v7 o V=>?_;have O:=y6 v o;refine chosen_spec (rs_new v o V) λw8 v8 p s=>?_;have X:=y6 O p;refine oZ ?_;exact yr X s (qg y (by rw[T,y3 H,y3 n2,X0 (.inl i)]))
 .try simp only[push_cast]
  rw[(n.ext (d.trans f)).ldAgg (t:=za) m];refine jD (l.ext (d.trans f)).term λw7 o=>?_;have O:=y6 v o;refine constant_spec λw8 v8 p s=>?_;have X:=y6 O p;refine chosen_spec (rs_new O p s) λw9 v9 U W=>?_;have r9:=y6 X U;refine oZ ?_;refine yr r9 W (q40 y ?_);rw[T,y3 H,y3 n2];by_cases j:M.isM (M.kid t 1) (1-M.neutral t.op)=true
  .rw[X0 (.inr j),X0 j]
  .rw[y3 (λh=>h.elim (λx=>by rw[i] at x;cases x) j),y3 j]
theorem seconds_spec {dv tv:Value} {mb:Nat} {ds:List M.Dcl} {t:M.Tm} (hd:DclsR F w dv ds) (hm:KindsR w mb) (ht:TermR G w tv t) (J:Vq K w G (M.ruleS t)):vcall jr #[qS dv mb,tv] w K:=by
 refine ze {cuts:=[(16388,[6,7]),(20488,[]),(20485,[21])]} Tryz.func338 ?_;refine rs_enter (B:=λt2 t3 t4 a0=>_) hd hm ht λw1 b2 b3 b4 kv rs=>?_;simp only[push_cast,rs.q.ld4,rs.k.len];refine zb (λa=>?_) (λa=>?_)
 .try simp only[push_cast]
  exact yr rs Zo (kk J (by unfold M.ruleS;rw[y3 oM]))
 have h2:t.ks.length=2:=oM
 refine zp (λu w'=>Ext w1 w'/\TwoV G w w' t u) (λC hC=>?_) ?_
 .have reg:=yX0 (C:=C) rs oM λu w' he h=>hC u w' ⟨he,h⟩;unfold QM at reg;simp only[push_cast] at reg;exact reg
 rintro u1 g1 Z ⟨U,b,b',c,c',rfl,X,S,p,m⟩;have V:=y6 rs U;have gc:aggB za c.length=true:=by rw[zV S];exact zc
 have n:aggB za c'.length=true:=by rw[zV m];exact zc
 have T:M.ruleS t=if M.isM (M.kid t 1) 0=true/\(t.op=4\/t.op=5\/t.op=6\/t.op=7\/t.op=11\/t.op=12\/t.op=13) then some (M.kid t 0) else if M.isM (M.kid t 1) 0=true/\(t.op=3\/t.op=8) then some (M.kid t 1) else if M.isM (M.kid t 1) 1=true/\t.op=8 then some (M.kid t 0) else none:=by
  unfold M.ruleS;rw[X0 h2]
 refine zp (λu w'=>u=[]/\Ext Z w'/\¬(M.isM (M.kid t 1) 0=true/\(t.op=4\/t.op=5\/t.op=6\/t.op=7\/t.op=11\/t.op=12\/t.op=13))/\¬(M.isM (M.kid t 1) 0=true/\(t.op=3\/t.op=8))) (λD hD=>?_) ?_
 .refine zp (λu w'=> ∃e:Bool,u=[.bool e]/\Ext Z w'/\(e=true↔M.isM (M.kid t 1) 0=true/\(t.op=4\/t.op=5\/t.op=6\/t.op=7\/t.op=11\/t.op=12\/t.op=13))) (λE W=>?_) ?_
  .refine oZ ?_;rw[p.ldAgg (t:=za) n];refine jD m.term λw5 d=>?_;have s:=y6 V d;refine zm (λi=>?_) (λi=>?_)
   .try simp only[push_cast]
    rw[s.q.ldAgg (t:=za) zc];refine intsL (xs:=[4,5,6,7,11,12,13]) dC λw6 av f hav=>?_;have H:=y6 s f;refine among_spec (t:=t) (F:=λx=>G x/\x<w.heap.size) ⟨kv,rfl,H.k⟩ hav dC λw7 g=>?_;refine W _ _ ⟨_,rfl,d.trans (f.trans g),?_⟩;rw[V0];simp only[gj,gC,Gn];exact⟨λh=>⟨i,h⟩,λh=>h.2⟩
   .exact W _ _ ⟨false,rfl,d,⟨λh=>(by cases h),λh=>(by rw[i] at h;cases h.1)⟩⟩
  rintro u2 g2 w5 ⟨e,rfl,d,R⟩;have s:=y6 V d;refine oZ ?_;refine zm (λi=>?_) (λi=>?_)
  .try simp only[push_cast]
   rw[(X.ext d).ldAgg (t:=za) gc];exact yr s (rs_kid s (S.ext d).term) (qg J (by rw[T,X0 (R.1 i)]))
  have A:=λh=>(show False by have:=R.2 h;rw[i] at this;cases this)
  try simp only[push_cast]
  rw[(p.ext d).ldAgg (t:=za) n];refine jD (m.ext d).term λw6 f=>?_;have H:=y6 s f;refine zm (λj=>?_) (λj=>?_)
  .try simp only[push_cast]
   rw[H.q.ldAgg (t:=za) zc];refine intsL (xs:=[3,8]) dC λw7 av g hav=>?_;have I:=y6 H g;refine among_spec (t:=t) (F:=λx=>G x/\x<w.heap.size) ⟨kv,rfl,I.k⟩ hav dC λw8 l=>?_;have v:=y6 I l;have y:=d.trans (f.trans (g.trans l));have r:t.op∈[(3:Int),8]↔t.op=3\/t.op=8:=(by simp);refine zb (λo=>?_) (λo=>?_)
   .try simp only[push_cast]
    rw[(p.ext y).ldAgg (t:=za) n];exact yr v (rs_kid v (m.ext y).term) (qg J (by rw[T,y3 A,X0 ⟨j,r.1 o⟩]))
   .exact hD _ _ ⟨rfl,y,A,λh=>o (r.2 h.2)⟩
  .exact hD _ _ ⟨rfl,d.trans f,A,λh=>by rw[j] at h;cases h.1⟩
 rintro u2 g2 w5 ⟨rfl,d,A,Y⟩;have s:=y6 V d;refine zd λw6 f _=>?_;have H:=y6 s f;have L:=X.ext (d.trans f);have N:=p.ext (d.trans f);have O:=S.ext (d.trans f);have Q:=m.ext (d.trans f);simp only[push_cast,L.ldAgg (t:=za) gc,N.ldAgg (t:=za) n,k5];refine jD Q.term λw7 g=>?_;have I:=y6 H g;simp only[push_cast,(L.ext g).ldAgg (t:=za) gc,k5,gi];refine zm (λi=>?_) (λi=>?_)
 .simp only[push_cast,I.q.ld0,k5];refine chosen_spec (O.ext g).term λw8 v8 l z=>?_;have v:=y6 I l;simp only[push_cast,k5];refine yr v (rs_kid v z) (q40 J ?_);rw[T,y3 A,y3 Y];by_cases o:t.op=8
  .rw[X0 ⟨i,o⟩,X0 (gz o)]
  .rw[y3 (λh=>o h.2),y3 (by rw[gm o];decide)]
 .refine chosen_spec (O.ext g).term λw8 v8 l z=>?_;have v:=y6 I l;simp only[push_cast,k5];refine yr v (rs_kid v z) (kk J ?_);rw[T,y3 A,y3 Y,y3 (λh=>by rw[i] at h;cases h.1)]
theorem firsts_spec {dv tv:Value} {mb:Nat} {ds:List M.Dcl} {t:M.Tm} (hd:DclsR F w dv ds) (hm:KindsR w mb) (ht:TermR G w tv t) (L:Vq K w G (M.ruleF t)):vcall jK #[qS dv mb,tv] w K:=by
 refine ze {cuts:=[(16388,[6,7]),(20488,[]),(20485,[21])]} Tryz.func339 ?_;refine rs_enter (B:=λt2 t3 t4 a0=>_) hd hm ht λw1 b2 b3 b4 kv rs=>?_;simp only[push_cast,rs.q.ld4,rs.k.len];refine zb (λa=>?_) (λa=>?_)
 .try simp only[push_cast]
  exact yr rs Zo (kk L (by unfold M.ruleF;rw[y3 oM]))
 have h2:t.ks.length=2:=oM
 refine zp (λu w'=>Ext w1 w'/\TwoV G w w' t u) (λC hC=>?_) ?_
 .have reg:=yX0 (C:=C) rs oM λu w' he h=>hC u w' ⟨he,h⟩;unfold QM at reg;simp only[push_cast] at reg;exact reg
 rintro u1 g1 Z ⟨V,b,b',c,c',rfl,R,O,N,z⟩;have W:=y6 rs V;have gc:aggB za c.length=true:=by rw[zV O];exact zc
 have y:aggB za c'.length=true:=by rw[zV z];exact zc
 have T:M.ruleF t=if M.isM (M.kid t 0) 0=true/\(t.op=4\/t.op=5\/t.op=6) then some (M.kid t 1) else if M.isM (M.kid t 0) 0=true/\(t.op=3\/t.op=8) then some (M.kid t 0) else if M.isM (M.kid t 0) 1=true/\t.op=8 then some (M.kid t 1) else none:=by
  unfold M.ruleF;rw[X0 h2]
 refine zp (λu w'=>u=[]/\Ext Z w'/\¬(M.isM (M.kid t 0) 0=true/\(t.op=4\/t.op=5\/t.op=6))/\¬(M.isM (M.kid t 0) 0=true/\(t.op=3\/t.op=8))) (λD hD=>?_) ?_
 .refine zp (λu w'=> ∃e:Bool,u=[.bool e]/\Ext Z w'/\(e=true↔M.isM (M.kid t 0) 0=true/\(t.op=4\/t.op=5\/t.op=6))) (λE X=>?_) ?_
  .refine oZ ?_;rw[R.ldAgg (t:=za) gc];refine jD O.term λw5 d=>?_;have r:=y6 W d;refine zm (λi=>?_) (λi=>?_)
   .try simp only[push_cast]
    rw[r.q.ldAgg (t:=za) zc];refine intsL (xs:=[4,5,6]) dC λw6 av f hav=>?_;have I:=y6 r f;refine among_spec (t:=t) (F:=λx=>G x/\x<w.heap.size) ⟨kv,rfl,I.k⟩ hav dC λw7 g=>?_;refine X _ _ ⟨_,rfl,d.trans (f.trans g),?_⟩;rw[V0];simp only[gj,gC,Gn];exact⟨λh=>⟨i,h⟩,λh=>h.2⟩
   .exact X _ _ ⟨false,rfl,d,⟨λh=>(by cases h),λh=>(by rw[i] at h;cases h.1)⟩⟩
  rintro u2 g2 w5 ⟨e,rfl,d,Q⟩;have r:=y6 W d;refine oZ ?_;refine zm (λi=>?_) (λi=>?_)
  .try simp only[push_cast]
   rw[(N.ext d).ldAgg (t:=za) y];exact yr r (rs_kid r (z.ext d).term) (qg L (by rw[T,X0 (Q.1 i)]))
  have H:=λh=>(show False by have:=Q.2 h;rw[i] at this;cases this)
  try simp only[push_cast]
  rw[(R.ext d).ldAgg (t:=za) gc];refine jD (O.ext d).term λw6 f=>?_;have I:=y6 r f;refine zm (λj=>?_) (λj=>?_)
  .try simp only[push_cast]
   rw[I.q.ldAgg (t:=za) zc];refine intsL (xs:=[3,8]) dC λw7 av g hav=>?_;have J:=y6 I g;refine among_spec (t:=t) (F:=λx=>G x/\x<w.heap.size) ⟨kv,rfl,J.k⟩ hav dC λw8 l=>?_;have s:=y6 J l;have v:=d.trans (f.trans (g.trans l));have p:t.op∈[(3:Int),8]↔t.op=3\/t.op=8:=(by simp);refine zb (λo=>?_) (λo=>?_)
   .try simp only[push_cast]
    rw[(R.ext v).ldAgg (t:=za) gc];exact yr s (rs_kid s (O.ext v).term) (qg L (by rw[T,y3 H,X0 ⟨j,p.1 o⟩]))
   .exact hD _ _ ⟨rfl,v,H,λh=>o (p.2 h.2)⟩
  .exact hD _ _ ⟨rfl,d.trans f,H,λh=>by rw[j] at h;cases h.1⟩
 rintro u2 g2 w5 ⟨rfl,d,H,Y⟩;have r:=y6 W d;refine zd λw6 f _=>?_;have I:=y6 r f;have S:=R.ext (d.trans f);have m:=N.ext (d.trans f);have U:=O.ext (d.trans f);have n:=z.ext (d.trans f);simp only[push_cast,S.ldAgg (t:=za) gc,m.ldAgg (t:=za) y,k5];refine jD U.term λw7 g=>?_;have J:=y6 I g;simp only[push_cast,(m.ext g).ldAgg (t:=za) y,k5,gi];refine zm (λi=>?_) (λi=>?_)
 .simp only[push_cast,J.q.ld0,k5];refine chosen_spec (n.ext g).term λw8 v8 l A=>?_;have s:=y6 J l;simp only[push_cast,k5];refine yr s (rs_kid s A) (q40 L ?_);rw[T,y3 H,y3 Y];by_cases o:t.op=8
  .rw[X0 ⟨i,o⟩,X0 (gz o)]
  .rw[y3 (λh=>o h.2),y3 (by rw[gm o];decide)]
 .refine chosen_spec (n.ext g).term λw8 v8 l A=>?_;have s:=y6 J l;simp only[push_cast,k5];refine yr s (rs_kid s A) (kk L ?_);rw[T,y3 H,y3 Y,y3 (λh=>by rw[i] at h;cases h.1)]
end
section
variable {w:World} {K:oK} {F F' D G:oA}
def fsL (dv:Value) (mb:Nat):List Value:=[kz,j0,jI,jJ,ky,jr,jK].map λn=> .func (.func n) #[qS dv mb] #[]
theorem q30 {dv:Value} {mb:Nat} (e:∀w' v,Ext w w'->Vals (λ_=>True) w' v (fsL dv mb)->K v w'):vcall Xr #[qS dv mb] w K:=by
 refine ze {} Tryz.func317 ?_;refine zj λb1 w1 f a g c=>?_;simp only[push_cast,c.ldAgg (t:=yf) xN];refine vbuildS_row1 (xs:=fsL dv mb) qX (by simp only[push_cast]) (z:= .nilFunc) (by unfold yl;kernel_rfl) (λx h=>by obtain⟨y,_,rfl⟩:=gy.1 h;rfl) (by show 7<=16777216;decide) λb w' i he hs d=>?_;have o:OwnV zX w' (.slice (some ⟨b,0,none⟩) (fsL dv mb).length (fsL dv mb).length) (fsL dv mb):=Blk.own1 (t:=zX) (by rw[qT];exact d) (Gf _) rfl rfl (by show 7<=9223372036854775807;decide);exact e w' _ (a.trans he) (OwnV.vals o|>.weaken λ_ _ _=>trivial)
def rl (ds:List M.Dcl) (t:M.Tm) (i:Nat):Option M.Tm:=[M.ruleX ds t,M.ruleB t,M.ruleT t,M.ruleL ds t,M.ruleW ds t,M.ruleS t,M.ruleF t].getD i none
theorem callRule {dv tv:Value} {mb:Nat} {ds:List M.Dcl} {t:M.Tm} {i:Nat} (hi:i<7) (c:DclsR F w dv ds) (hm:KindsR w mb) (a:M.declOk ds=true) (d:TermR G w tv t) (hs:M.sortM ds t≠ -1) (b:Vq K w G (rl ds t i)):vcallv ((fsL dv mb).getD i undef) #[tv] w K:=by
 match i,hi with
 |0,_=>exact fixed_spec c hm a d hs b
 |1,_=>exact branches_spec c hm a d hs b
 |2,_=>exact truths_spec c hm d hs b
 |3,_=>exact layers_spec c hm a d hs b
 |4,_=>exact twins_spec c hm a d hs b
 |5,_=>exact seconds_spec c hm d b
 |6,_=>exact firsts_spec c hm d b
theorem rl_none {ds:List M.Dcl} {t:M.Tm} (h:∀j,j<7->rl ds t j=none):M.ruleA ds t=none:=by
 have a:M.ruleX ds t=none:=h 0 oM;have b:M.ruleB t=none:=h 1 oM;have c:M.ruleT t=none:=h 2 oM;have d:M.ruleL ds t=none:=h 3 oM;have e:M.ruleW ds t=none:=h 4 oM;have f:M.ruleS t=none:=h 5 oM;have g:M.ruleF t=none:=h 6 oM;unfold M.ruleA;rw[a,b,c,d,e,f,g];rfl
theorem rl_some {ds:List M.Dcl} {t u:M.Tm} {i:Nat} (hi:i<7) (h:∀j,j<i->rl ds t j=none) (hu:rl ds t i=some u):M.ruleA ds t=some u:=by
 have g:∀j,j<i->rl ds t j=none:=h;unfold M.ruleA
 match i,hi with
 |0,_=>rw[show M.ruleX ds t=some u from hu];rfl
 |1,_=>rw[show M.ruleX ds t=none from g 0 oM,show M.ruleB t=some u from hu];rfl
 |2,_=>rw[show M.ruleX ds t=none from g 0 oM,show M.ruleB t=none from g 1 oM,show M.ruleT t=some u from hu];rfl
 |3,_=>rw[show M.ruleX ds t=none from g 0 oM,show M.ruleB t=none from g 1 oM,show M.ruleT t=none from g 2 oM,show M.ruleL ds t=some u from hu];rfl
 |4,_=>rw[show M.ruleX ds t=none from g 0 oM,show M.ruleB t=none from g 1 oM,show M.ruleT t=none from g 2 oM,show M.ruleL ds t=none from g 3 oM,show M.ruleW ds t=some u from hu];rfl
 |5,_=>rw[show M.ruleX ds t=none from g 0 oM,show M.ruleB t=none from g 1 oM,show M.ruleT t=none from g 2 oM,show M.ruleL ds t=none from g 3 oM,show M.ruleW ds t=none from g 4 oM,show M.ruleS t=some u from hu];rfl
 |6,_=>rw[show M.ruleX ds t=none from g 0 oM,show M.ruleB t=none from g 1 oM,show M.ruleT t=none from g 2 oM,show M.ruleL ds t=none from g 3 oM,show M.ruleW ds t=none from g 4 oM,show M.ruleS t=none from g 5 oM,show M.ruleF t=some u from hu];rfl
theorem one_spec {dv tv:Value} {mb:Nat} {ds:List M.Dcl} {t:M.Tm} (hd:DclsR F w dv ds) (hm:KindsR w mb) (S:M.declOk ds=true) (ht:TermR G w tv t) (hs:M.sortM ds t≠ -1) (O:∀w' rv,Ext w w'->TermR (λx=>G x\/w.heap.size<=x) w' rv (M.oneT ds t)->K rv w'):vcall QU #[qS dv mb,tv] w K:=by
 refine ze {loops:=[(2,[12])]} Tryz.func292 ?_;refine rs_enter (B:=λt2 t3 t4 a3=>_) hd hm ht λw1 b2 b3 b4 kv rs=>?_;rw[rs.f.ldAgg (t:=yf) xN];refine q30 λw2 fv Q J=>?_;have r2:=y6 rs Q;simp only[push_cast,J.len];have W:(fsL dv mb).length=7:=rfl;rw[W];refine vloop_up 7 (λi u w'=>u=[nI i]/\Ext w2 w'/\∀j,j<i->rl ds t j=none) ⟨rfl,Same.refl _ _,λj R=>absurd R oM⟩ ?_;rintro i _ _ X C hi ⟨rfl,p,g⟩ hC;have c:=y6 r2 p;have f3:=J.ext p;refine oZ ?_;refine zb (λa=>?_) (λa=>?_)
 .have L:i<7:=oM;simp(disch:=first|(simp only[push_cast])|(rw[W];omega)|omega) only[push_cast,f3.iaddr,f3.load,c.q.ldAgg (t:=za) zc];refine callRule (G:=λx=>G x/\x<w.heap.size) L c.d c.m S ⟨kv,rfl,c.k⟩ hs λY rv u H hu s=>?_;have r4:=y6 c H;refine oZ ?_;obtain⟨cu,rfl,o⟩:=hu.cells;refine zi zr λb5 w5 a0 I a1 h5=>?_;have D:=(o.weaken (F':=λx=>((G x/\x<w.heap.size)\/X.heap.size<=x)/\x<Y.heap.size) λb h h'=>⟨h,h'⟩).ext I;refine stTerm h5 rfl D λZ T a2 h6=>?_;have n:Ext Y Z:=Ext.then I T λy N=>by subst N;omega
  have V:=y6 r4 n;have E:TmR (λx=>(G x/\x<w.heap.size)\/X.heap.size<=x) Z cu u:=o.ext n;cases e:rl ds t i with
  |none=>
   simp only[push_cast,Option.isSome_none];rw[inc64' oM];refine hC oM _ _ ⟨rfl,p.trans (H.trans n),λj R=>?_⟩;by_cases ej:j<i
   .exact g j ej
   .have:j=i:=oM;subst this;exact e
  |some x=>
   simp only[push_cast,Option.isSome_some];rw[h6.ldAgg (t:=za) (by rw[zV o];exact zc)];have A:=s x e;subst A;have l4:=c.r.lt;refine qh V.r rfl E (λx A=>by have:=c.lo;omega) λw7 z U v=>?_;have l:M.oneT ds t=u:=by unfold M.oneT;rw[rl_some L g e];rfl
   rw[l] at O;refine O _ _ (Ext.then V.ext z λy N=>by subst N;exact V.lo) (v.weaken λx A _=>?_);have:=c.ext.size;rcases A with h|h
   .exact .inl h.1
   .exact .inr oM
 .rw[c.q.ldAgg (t:=za) zc];have l:M.oneT ds t=t:=by unfold M.oneT;rw[rl_none λj R=>g j oM];rfl
  rw[l] at O;refine qh c.r rfl (TmR.of (t:=t) c.k) (λx A=>by have:=c.lo;omega) λw7 z U v=>?_;exact O _ _ (Ext.then c.ext z λy N=>by subst N;exact c.lo) (v.weaken λx A _=> .inl A.1)
theorem fold_spec:∀(t:M.Tm) {w:World} {K:oK} {F G:oA} {dv tv:Value} {mb:Nat} {ds:List M.Dcl},DclsR F w dv ds->KindsR w mb->M.declOk ds=true->TermR G w tv t->M.sortM ds t≠ -1->(∀w' rv,Ext w w'->TermR (λx=>G x\/w.heap.size<=x) w' rv (M.foldT ds t)->K rv w')->vcall Qc #[qS dv mb,tv] w K:=by
 refine M.Tm.ind λt ih w K F G dv tv mb ds hd hm W ht hs hK=>?_;have hlen:=M.len_of hs;have b7:t.ks.length<=3:=by
  unfold M.arity at hlen
  repeat' split at hlen
  all_goals omega
 refine ze {loops:=[(4,[13])]} Tryz.func261 ?_;obtain⟨kv,rfl,ah⟩:=ht;refine zj λb1 w1 av a2 az h1=>?_;refine zj λb2 w2 aw a3 b0 h2=>?_;refine zi zr λb3 w3 ax S b4 h3=>?_;have b8:=a2.size;have q3:=h2.ext S;have f3:=(h1.ext a3).ext S;have a0:=a2.trans (a3.trans S);have af:TmsR (λx=>G x/\x<w.heap.size) w3 kv t.ks:=(ah.weaken λb h h'=>⟨h,h'⟩).ext a0;simp only[push_cast,q3.ld4];refine q3.st (i:=4) rfl rfl xM rfl λH D b9 h4=>?_;replace h4:Blk H b2 [nI t.op,nI t.a,nI t.b,.string t.s,oN] za:=h4;have a1:Ext w H:=Ext.then a0 D λy Y=>by subst Y;omega
 have a5:=af.same D λb d _ e=>oM
 have f4:=f3.same D oM;have r4:=h3.same D oM;simp only[push_cast,a5.len];refine vloop_up t.ks.length (λi u w'=>u=[nI i]/\Same (λb=>b=b2) H w'/\∃k css,Blk w' b2 [nI t.op,nI t.a,nI t.b,.string t.s,k] za/\Own 0 5 zl w' k css/\css.length=i/\(∀b,k.ownBlock=some b->H.heap.size<=b)/\
   ∀j,j<i->TmR (λx=>(G x/\x<w.heap.size)\/(H.heap.size<=x/\k.ownBlock≠some x)) w' (css.getD j []) (M.foldT ds (t.ks.getD j default)))
  ⟨rfl,Same.refl _ _,_,[],h4,Own.nil _ _ _ _,rfl,λb h=>(by cases h),λj hj=>absurd hj oM⟩ ?_
 rintro i _ _ w5 C hi ⟨rfl,f,k,css,h5,A,V,g,J⟩ hC;have ba:=f.size;have q:Ext w w5:=Ext.then a1 f λy Y=>by subst Y;omega
 have a6:=a5.same f λb d _ e=>oM
 have f5:=f4.same f oM;refine oZ ?_;refine zb (λa=>?_) (λa=>?_)
 .simp(disch:=exact oS) only[push_cast,a6.iaddr];refine a6.load zc oM λx hx=>?_;obtain⟨cx,rfl,R⟩:=hx.cells;refine zi zr λb6 w6 ay r b5 h6=>?_;refine stTerm h6 rfl (R.ext r) λw7 X aj h7=>?_;have ab:Ext w5 w7:=Ext.then r X λy Y=>by subst Y;omega
  refine zd λw8 a4 _=>?_;have l:=ab.trans a4;have q8:=h5.ext l;have f8:=f5.ext l;have v8:=h7.ext a4;simp only[push_cast,q8.ld4,f8.ldAgg (t:=yf) xN,v8.ldAgg (t:=za) (by rw[zV R];exact zc),k5];have N:t.ks.getD i default∈t.ks:=M.getD_mem oM _;refine ih _ N (hd.ext (q.trans l)) (hm.ext (q.trans l)) W (R.ext l).term ((M.sort_parts hs).2.1 _ N) λw9 rv T B=>?_;obtain⟨cr,rfl,o⟩:=B.cells;have q9:=q8.ext T;simp only[push_cast,q9.ld4,k5,gi];have ar:=l.size;have bb:=T.size;refine qJ qC j8 zr rfl (zV o) dC λau w10 al m am ac=>?_;have aa:=q9.ext m;simp only[push_cast,aa.ld4,k5,gi];have I:=l.trans (T.trans m);have a9:=A.ext I;refine Own.app1k a9 qE dC ac (zV o) (tmR_one o) oM oM λp bc O n v=>?_;have ak:=aa.same n (λe=>by have:=g _ e;have:=h5.lt;omega);have ao:=n.size
  try simp only[push_cast,k5]
  have a7:p.cells= #[p]/\p.oneCell'=true:=by
   obtain⟨a,c,rfl,_⟩:=O.sl.shape;exact⟨rfl,rfl⟩
  refine ak.st (i:=4) a7.1 a7.2 xM rfl λE z ap Q=>?_;replace Q:Blk E b2 [nI t.op,nI t.a,nI t.b,.string t.s,p] za:=Q;rw[inc64' oM];have an:=m.size;have L:∀b,p.ownBlock=some b->H.heap.size<=b:=λb d=>by
   rcases v b d with h|h
   .exact g b h
   .omega
  have Z:Same (λb=>b=b2\/k.ownBlock=some b) w5 E:=(Same.of_ext I).trans ((n.mono λ_ _ h=> .inr h).trans (z.mono λ_ _ h=> .inl h));have ad:Same (λb=>b=b2) H E:=⟨Z.os.trans f.os,Z.tape.trans f.tape,Z.output.trans f.output,gY f.size Z.size,λb d a8=>(Z.block b oM (λe=>e.elim a8 λe=>by have:=g b e;omega)).trans (f.block b d a8)⟩;refine hC oM _ _ ⟨rfl,ad,p,css++[cr],Q,O.same z (λb d e=>by have:=L b d;omega),by simp[V],L,λj hj=>?_⟩;by_cases ej:j<i
  .rw[y4,Gb oM,<-y4];refine((J j ej).weaken (F':=λx=>((G x/\x<w.heap.size)\/(H.heap.size<=x/\k.ownBlock≠some x))/\x<w5.heap.size) λb h h'=>⟨h,h'⟩).same Z (λb d _ e=>?_)|>.weaken λb d _=>?_
   .rcases d.1 with h|h
    .rcases e with e|e
     .omega
     .have:=g b e;omega
    .rcases e with e|e
     .omega
     .exact h.2 e
   .rcases d.1 with h|h
    .exact .inl h
    .refine .inr ⟨h.1,λe=>?_⟩;rcases v b e with e|e
     .exact h.2 e
     .omega
  .have:j=i:=oM;subst this;rw[y4,GA oM,V,GW];show TmR _ E cr _;refine(((o.weaken (F':=λx=>((G x/\x<w.heap.size)\/w8.heap.size<=x)/\x<w9.heap.size) λb h h'=>⟨h,h'⟩).ext m).same n (λb d _ e=>?_)).same z (λb d _ e=>?_)|>.weaken λb d _=>?_
   .have:=g b e;have:=(A.lt e).2;rcases d.1 with h|h<;>omega
   .rcases d.1 with h|h<;>omega
   .rcases d.1 with h|h
    .exact .inl h
    .refine .inr ⟨oM,λe=>?_⟩;rcases v b e with e|e
     .have:=(A.lt e).2;omega
     .omega
 .have ae:i=t.ks.length:=oM;subst ae;rw[f5.ldAgg (t:=yf) xN,h5.ldAgg (t:=za) zc];have ag:TmsR (λx=>(G x/\x<w.heap.size)\/H.heap.size<=x) w5 k (t.ks.map (M.foldT ds)):=by
   refine⟨css,A.sl.weaken λb d _=> .inr (g b d),by rw[V,K3],λj hj=>?_⟩;rw[K3] at hj;rw[M.getD_map _ hj _ default];exact(J j hj).weaken λb d _=>d.imp id λh=>h.1
  have U:=M.kids_good W hs;refine one_spec (t:=M.remake t (t.ks.map (M.foldT ds))) (hd.ext q) (hm.ext q) W ⟨k,rfl,ag⟩ (by rw[U.sort];exact hs) λw6 rv r B=>?_;rw[<-M.foldT_rem] at B;obtain⟨cr,rfl,o⟩:=B.cells;have r6:=(r4.same f oM).ext r;have:=r4.lt;refine qh r6 rfl o (λx hx=>by rcases hx with(h|h)|h<;>omega) λw7 X aj ai=>?_;have aq:=a1.size;exact hK _ _ (Ext.then (q.trans r) X λy Y=>by subst Y;omega) (ai.weaken λx hx _=>by
   rcases hx with(h|h)|h
   .exact .inl h.1
   .exact .inr oM
   .exact .inr oM)
end
section
variable {w:World} {K:oK} {F D G:oA}
inductive TmO (w:World):(oA)->List Value->M.Tm->Prop
 |mk {D:oA} {kv:Value} {t:M.Tm} (css:List (List Value)) (Ds:Nat->Nat->Prop) (own:Own 0 5 zl w kv css) (hl:css.length=t.ks.length)
   (hb:∀b,kv.ownBlock=some b->D b/\∀i,i<t.ks.length->¬Ds i b) (hd:∀i j b,i<j->j<t.ks.length->Ds i b->¬Ds j b) (hs:∀i b,i<t.ks.length->Ds i b->D b)
   (hk:∀i,i<t.ks.length->TmO w (Ds i) (css.getD i []) (t.ks.getD i default)):TmO w D [nI t.op,nI t.a,nI t.b,.string t.s,kv] t
theorem WR {cs:List Value} {t:M.Tm} (h:TmO w D cs t):∃(kv:Value) (css:List (List Value)) (Ds:Nat->Nat->Prop),cs=[nI t.op,nI t.a,nI t.b,.string t.s,kv]/\Own 0 5 zl w kv css/\css.length=t.ks.length/\
  (∀b,kv.ownBlock=some b->D b/\∀i,i<t.ks.length->¬Ds i b)/\(∀i j b,i<j->j<t.ks.length->Ds i b->¬Ds j b)/\(∀i b,i<t.ks.length->Ds i b->D b)/\∀i,i<t.ks.length->TmO w (Ds i) (css.getD i []) (t.ks.getD i default):=by
 cases h with
 |mk css Ds own f c d hs e=>exact⟨_,css,Ds,rfl,own,f,c,d,hs,e⟩
theorem xZ0:∀(t:M.Tm) {D:oA} {cs:List Value},TmO w D cs t->TmR D w cs t:=by
 refine M.Tm.ind λt f D cs h=>?_;obtain⟨kv,css,Ds,rfl,own,e,c,g,hs,d⟩:=WR h;exact TmR.of ⟨css,own.sl.weaken λb a _=>(c b a).1,e,λi hi=>(f _ (M.getD_mem hi _) (d i hi)).weaken λb a _=>hs i b hi a⟩
theorem jR {S:oA} {w w':World} (hw:Same S w w'):∀(t:M.Tm) {D:oA} {cs:List Value},TmO w D cs t->(∀b,D b->¬S b)->TmO w' D cs t:=by
 refine M.Tm.ind λt k D cs h d=>?_;obtain⟨kv,css,Ds,rfl,own,j,c,f,hs,g⟩:=WR h;exact .mk css Ds (own.same hw λb e=>d b (c b e).1) j c f hs λi hi=>k _ (M.getD_mem hi _) (g i hi) λb a=>d b (hs i b hi a)
theorem j80 {w':World} {cs:List Value} {t:M.Tm} (h:TmO w D cs t) (hw:Ext w w'):TmO w' D cs t:=jR hw t h λ_ _ h=>h
theorem qD {cs:List Value} {t:M.Tm} (h:TmO w D cs t) (a:∀b,D b->F b):TmO w F cs t:=by
 obtain⟨kv,css,Ds,rfl,own,f,c,d,hs,e⟩:=WR h;exact .mk css Ds own f (λb h=>⟨a b (c b h).1,(c b h).2⟩) d (λi b hi h=>a b (hs i b hi h)) e
structure Grow (lo:Nat) (w:World) (kv:Value) (css:List (List Value)) (us:List M.Tm) (Ds:Nat->Nat->Prop):Prop where
 own:Own 0 5 zl w kv css
 len:css.length=us.length
 blk:∀b,kv.ownBlock=some b->lo<=b/\∀j,j<us.length->¬Ds j b
 dis:∀j k b,j<k->k<us.length->Ds j b->¬Ds k b
 sub:∀j b,j<us.length->Ds j b->lo<=b/\b<w.heap.size
 kid:∀j,j<us.length->TmO w (Ds j) (css.getD j []) (us.getD j default)
theorem Zc0 (lo:Nat) (w:World):Grow lo w (oN) [] [] λ_ _=>False:=
 ⟨Own.nil _ _ _ _,rfl,λb h=>(by cases h),λj k b _ c=>absurd c (by simp),λj b a=>absurd a (by simp),λj a=>absurd a (by simp)⟩
theorem yz0 {S:oA} {lo:Nat} {kv:Value} {w':World} {css:List (List Value)} {us:List M.Tm} {Ds:Nat->Nat->Prop} (h:Grow lo w kv css us Ds) (hw:Same S w w') (hs:∀b,lo<=b->¬S b):Grow lo w' kv css us Ds:=
 ⟨h.own.same hw λb a=>hs b (h.blk b a).1,h.len,h.blk,h.dis,λj b c a=>⟨(h.sub j b c a).1,pH (h.sub j b c a).2 hw.size⟩,λj c=>jR hw _ (h.kid j c) λb a=>hs b (h.sub j b c a).1⟩
theorem grow_push {lo r:Nat} {kv:Value} {E x y w10:World} {css:List (List Value)} {us:List M.Tm} {Ds:Nat->Nat->Prop} {cr:List Value} {u:M.Tm} (h:Grow lo E kv css us Ds) (F:Ext E x) (G:Ext x y) (R:lo<=x.heap.size)
  (I:TmO y (λb=>x.heap.size<=b/\b<y.heap.size) cr u) (p:Ext y w10) (A:Blk w10 r cr za) (S:us.length<=1048576)
  (O:∀d g z,Grow lo g d (css++[cr]) (us++[u]) z->Same (λb=>kv.ownBlock=some b) w10 g->d.cells= #[d]->d.oneCell'=true->K d g):
  vbi .append [zl,zl] zl [kv,.slice (some ⟨r,0,none⟩) 1 1] w10 K:=by
 have t:=xZ0 _ I;have s:=F.trans (G.trans p);have g10:=yz0 h s λb _ h=>h;have T:=F.size;have U:=G.size;have J:=p.size;have H:=h.len;refine Own.app1k g10.own qE dC A (zV t) (tmR_one t) oM oM λd g o f w=>?_;have L:=f.size;have v:d.cells= #[d]/\d.oneCell'=true:=by
  obtain⟨a,c,rfl,_⟩:=o.sl.shape;exact⟨rfl,rfl⟩
 have hold:∀b,kv.ownBlock=some b->b<E.heap.size:=λb i=>(h.own.lt i).2;refine O d g (λj b=>(j=us.length/\x.heap.size<=b/\b<y.heap.size)\/(j<us.length/\Ds j b)) ⟨o,by simp[H],λb i=>?_,λj k b C Q q D=>?_,λj b q i=>?_,λj q=>?_⟩ f v.1 v.2
 .rcases w b i with e|e
  .refine⟨(h.blk b e).1,λj q B=>?_⟩;rcases B with⟨_,m,_⟩|⟨m,n⟩
   .grind
   .exact(h.blk b e).2 j m n
  .refine⟨oM,λj q B=>?_⟩;rcases B with⟨_,_,m⟩|⟨m,n⟩
   .omega
   .have:=(h.sub j b m n).2;omega
 .rw[Q1,gG] at Q;rcases q with⟨m,n,N⟩|⟨m,n⟩
  .omega
  .rcases D with⟨g1,g2,g3⟩|⟨g1,g2⟩
   .have:=(h.sub j b m n).2;omega
   .exact h.dis j k b C g1 n g2
 .rcases i with⟨m,n,N⟩|⟨m,n⟩
  .omega
  .have:=h.sub j b m n;omega
 .rw[Q1,gG] at q;by_cases e:j<us.length
  .rw[y4,Gb oM,<-y4,y4 (l:=us++[u]),Gb e,<-y4];refine qD (jR f _ (g10.kid j e) λb i hs=>(h.blk b hs).2 j e i) λb i=> .inr ⟨e,i⟩
  .have:j=us.length:=oM;subst this;rw[y4,GA oM,H,GW,y4 (l:=us++[u]),GA (gr _),GW];show TmO g _ cr u;refine qD (jR f _ (j80 I p) λb i hs=>by grind) λb i=> .inl ⟨rfl,i⟩
theorem jH0 {lo:Nat} {kv:Value} {css:List (List Value)} {t:M.Tm} {Ds:Nat->Nat->Prop} (h:Grow lo w kv css t.ks Ds):TmO w (λb=>lo<=b/\b<w.heap.size) [nI t.op,nI t.a,nI t.b,.string t.s,kv] t:=
 .mk css Ds h.own h.len (λb c=>⟨⟨(h.blk b c).1,(h.own.lt c).2⟩,(h.blk b c).2⟩) h.dis (λi b hi c=>h.sub i b hi c) h.kid
theorem retO {b:Nat} {cs cs':List Value} {t:TypeId} {f:M.Tm} {K:oK} (h:Blk w b cs t) (j:cs.length=5) (d:TmO w G cs' f) (c:∀x,G x->x≠b) (i:∀w',Same (· =b) w w'->w'.heap.size=w.heap.size->TmO w' G cs' f->K (.agg ⟨cs'⟩) w'):
  zG za (oP b 0) (.agg ⟨cs'⟩) w λ_ w1=>vlv za (oP b 0) w1 λr w2=>K r w2:=
 qh h j (xZ0 _ d) c λw' hw k _=>i w' hw k (jR hw _ d λg a e=>c g a e)
theorem Kh {us:List M.Tm} {i:Nat} (h:i<us.length):us.take i++[us.getD i default]=us.take (i+1):=by simp_all
theorem copyTerm_spec:∀(t:M.Tm) {w:World} {K:oK} {F:oA} {v:Value},TermR F w v t->qi0 t=true->(∀w' cs,Ext w w'->TmO w' (λb=>w.heap.size<=b/\b<w'.heap.size) cs t->K (.agg ⟨cs⟩) w')->vcall KJ #[v] w K:=by
 refine M.Tm.ind λt ih w K F v ht A hK=>?_;obtain⟨f1,f2⟩:=fitB_iff.1 A;refine ze {loops:=[(4,[11])]} Tryz.func108 ?_;obtain⟨kv,rfl,Z⟩:=ht;refine zj λb1 w1 aa r ae h1=>?_;refine zi zr λb2 w2 ab y af h2=>?_;have aj:=r.size;have q2:=h1.ext y;have S:=r.trans y;have Y:TmsR (λx=>x<w.heap.size) w2 kv t.ks:=(Z.weaken λb _ h'=>h').ext S;simp only[push_cast,q2.ld4];refine q2.st (i:=4) rfl rfl xM rfl λJ G ak R=>?_;replace R:Blk J b1 [nI t.op,nI t.a,nI t.b,.string t.s,oN] za:=R;have T:Ext w J:=by grind [Ext.then]
 have B:=Y.same G λb L _ e=>oM
 have r4:=h2.same G oM;simp only[push_cast,B.len];refine vloop_up t.ks.length (λi u w'=>u=[nI i]/\Same (λb=>b=b1) J w'/\∃g css Ds,Blk w' b1 [nI t.op,nI t.a,nI t.b,.string t.s,g] za/\Grow J.heap.size w' g css (t.ks.take i) Ds)
  ⟨rfl,Same.refl _ _,_,[],_,R,Zc0 _ _⟩ ?_
 rintro i _ _ w5 C hi ⟨rfl,c,g,css,Ds,h5,g5⟩ hC;have al:=c.size;have a6:=T.size;have a9:Ext w w5:=by grind [Ext.then]
 have D:=B.same c λb L _ e=>oM
 refine oZ ?_;refine zb (λa=>?_) (λa=>?_)
 .simp(disch:=exact oS) only[push_cast,D.iaddr];refine D.load zc oM λx hx=>?_;obtain⟨cx,rfl,n⟩:=hx.cells;refine zi zr λb6 w6 ac W ag h6=>?_;refine stTerm h6 rfl (n.ext W) λw7 ai an h7=>?_;have O:Ext w5 w7:=(by grind [Ext.then]);refine zd λw8 z _=>?_;have d:=O.trans z;have q8:=h5.ext d;have v8:=h7.ext z;simp only[push_cast,q8.ld4,v8.ldAgg (t:=za) (by rw[zV n];exact zc),k5];have j:t.ks.getD i default∈t.ks:=(by grind);have a7:=d.size;refine ih _ j (n.ext d).term (f2 _ j) λw9 cr o hr=>?_;have q9:=q8.ext o;simp only[push_cast,q9.ld4,k5,gi];have V:=xZ0 _ hr;refine qJ qC j8 zr rfl (zV V) dC λa8 w10 a3 f a4 Q=>?_;have I:=q9.ext f;simp only[push_cast,I.ld4,k5,gi];refine grow_push g5 d o oM hr f Q (by grind) λH ao N g11 k a0 a1=>?_;have a2:=I.same k (λe=>by have:=(g5.blk _ e).1;omega)
  try simp only[push_cast,k5]
  refine a2.st (i:=4) a0 a1 xM rfl λp l a5 m=>?_;replace m:Blk p b1 [nI t.op,nI t.a,nI t.b,.string t.s,H] za:=m;rw[inc64' oM];have q:Same (λb=>b=b1\/g.ownBlock=some b) w5 p:=(Same.of_ext (d.trans (o.trans f))).trans ((k.mono λ_ _ h=> .inr h).trans (l.mono λ_ _ h=> .inl h));have U:Same (λb=>b=b1) J p:=⟨q.os.trans c.os,q.tape.trans c.tape,q.output.trans c.output,gY c.size q.size,λb L E=>(q.block b oM (λe=>e.elim E λe=>by have:=(g5.blk b e).1;omega)).trans (c.block b L E)⟩;rw[Kh oM] at g11;exact hC oM _ _ ⟨rfl,U,H,_,N,m,yz0 g11 l λb L e=>oM⟩
 .have X:i=t.ks.length:=oM;subst X;rw[gA] at g5;rw[h5.ldAgg (t:=za) zc];refine retO (r4.same c oM) rfl (jH0 g5) (λx hx=>oM) λw6 ah am ad=>?_
  grind [Ext.then,qD]
@[push_cast] theorem bd_T4 (o a b:Int) (s:ByteArray):yA za [(0,nI o),(1,nI a),(2,nI b),(3,.string s)] w K=K (.agg ⟨[nI o,nI a,nI b,.string s,oN]⟩) w:=zU jg (us:=[[nI o],[nI a],[nI b],[.string s]]) rfl rfl
theorem fit_size:∀t:M.Tm,M.sizeM t<=1000->qi0 t=true:=by
 refine M.Tm.ind λt d h=>?_;have b:∀i,i<t.ks.length->M.sizeM (M.kid t i)+1<=M.sizeM t:=λi hi=>(M.kid_size hi).1;have c:t.ks.length<=M.sizeM t:=by
  have:=M.szT_all t;have mono:∀i,i<=t.ks.length->i<=M.szT t.ks i:=λi=>by
   induction i with
   |zero=>omega
   |succ i ihi=>
    grind [M.szT_succ,M.size_pos]
  grind
 refine fitB_iff.2 ⟨oM,λk a=>?_⟩;obtain⟨i,hi,rfl⟩:=gq a
 grind [M.kid]
def J4 (ds:List M.Dcl) (t:M.Tm):M.Tm:=if M.tsort ds t= -1 then .mk 0 0 0 M.nada [] else M.foldT ds t
theorem zeroO:TmO w D WM (.mk 0 0 0 M.nada []):=
 TmO.mk (t:= .mk 0 0 0 M.nada []) [] (λ_ _=>False) (Own.nil _ _ _ _) rfl (λb h=>(by cases h)) (λi j b _ a=>absurd a (by show¬j<0;omega)) (λi b hi=>absurd hi (by show¬i<0;omega)) (λi hi=>absurd hi (by show¬i<0;omega))
theorem small_of {ds:List M.Dcl} {t:M.Tm} (h:M.tsort ds t≠ -1):M.declOk ds=true/\M.sortM ds t≠ -1/\M.sizeM t<=20:=by
 grind [dtSize,M.fits_iff]
theorem k20 {a:Option Addr} {l c mb:Nat}:yA yf [(0,.slice a l c),(1,.map (some mb))] w K=K (qS (.slice a l c) mb) w:=zU zu0 (us:=[[.slice a l c],[.map (some mb)]]) rfl rfl
theorem TermFold_spec {dv tv:Value} {ds:List M.Dcl} {t:M.Tm} (s:DclsR F w dv ds) (B:TermR G w tv t) (p:∀w' cs,Ext w w'->TmO w' (λb=>w.heap.size<=b/\b<w'.heap.size) cs (J4 ds t)->K (.agg ⟨cs⟩) w'):vcall KQ #[dv,tv] w K:=by
 refine ze {} Tryz.func213 ?_;obtain⟨ct,rfl,r⟩:=B.cells;have u:aggB za ct.length=true:=by rw[zV r];exact zc
 refine zj λb1 w1 S l V Q=>?_;refine zi zr λb2 w2 T m W R=>?_;have L:=Q.ext m;have g:=l.trans m;have Z:=l.size;rw[L.ldAgg (t:=za) u];refine TermSort_spec (s.ext g) (B.ext g) λw3 d=>?_;have q:=g.trans d;have O:=R.ext d;have a0:=d.size;simp only[push_cast];unfold J4 at p;refine zb (λa=>?_) (λa=>?_)
 .rw[X0 a] at p
  try simp only[push_cast]
  refine retO (G:=λ_=>False) O rfl zeroO (λx H=>H.elim) λw4 Y D U=>?_
  grind [Ext.then,qD]
 .rw[y3 a] at p;obtain⟨o,hs,X⟩:=small_of a;refine zd λw4 e _=>?_;have N:=L.ext (d.trans e);simp only[push_cast,N.ldAgg (t:=za) u,k5];refine WG λw5 mb f hm=>?_;have q5:=N.ext f;have c:=q.trans (e.trans f);obtain⟨da,dc,rfl,_⟩:=s.shape;rw[K3] at*;simp only[push_cast,q5.ldAgg (t:=za) u,k5,gi,k20];refine fold_spec t (G:=λx=>x<w.heap.size) (s.ext c) hm o ((B.weaken λb _ h=>h).ext c) hs λw6 rv i A=>?_;have k:=c.trans i;have j:=M.fold_good o t hs;have E:=j.size;refine copyTerm_spec _ A (fit_size _ oM) λw7 cs n v=>?_;have a1:=c.size;have a2:=k.size;have r7:=O.ext (e.trans (f.trans (i.trans n)));have D:=e.size;have I:=f.size;have J:=i.size;refine retO r7 rfl v (λx H=>oM) λw8 C a3 z=>?_;exact p _ _ (Ext.then (k.trans n) C λy hy=>oM) (qD z λb hb=>⟨oM,oM⟩)
end
end Go.Proofs.YtfnpmncplaibiaaGreatDoor
namespace Go.M
open Go.Vc
section
section
variable {ds:List Dcl} {t:Tm}
def boolM (b:Bool):Tm:=if b=true then truT else flsT
def logicS (t:Tm):Tm:=
 if t.op=25 then(if(kid t 0).op=25 then kid (kid t 0) 0 else t)
 else if t.op=23 then(if isM (kid t 0) 1=true\/(kid t 1=kid t 2/\¬isM (kid t 0) 0=true) then kid t 1 else if isM (kid t 0) 0=true then kid t 2 else t)
 else if isM (kid t 0) (b2i (decide (t.op=26)))=true\/kid t 0=kid t 1 then kid t 1
 else if isM (kid t 1) (b2i (decide (t.op=26)))=true then kid t 0
 else if isM (kid t 0) (1-b2i (decide (t.op=26)))=true\/isM (kid t 1) (1-b2i (decide (t.op=26)))=true then boolM (decide (b2i (decide (t.op=26))=0)) else t
def rightS (t:Tm):Tm:=
 if t.op=4\/t.op=5\/t.op=6\/t.op=7\/t.op=11\/t.op=12\/t.op=13 then(if isM (kid t 1) 0=true then kid t 0 else t)
 else if t.op=3 then(if isM (kid t 1) 0=true then kid t 1 else t)
 else if t.op=8 then(if isM (kid t 1) 0=true then kid t 1 else if isM (kid t 1) 1=true then kid t 0 else t) else t
def alikeS (t:Tm) (w:Int):Tm:=
 if t.op=3\/t.op=4 then kid t 0 else if t.op=5\/t.op=7 then .mk 20 w 0 nada [] else if t.op=15 then truT else if t.op=16\/t.op=17 then flsT else t
def swapS (t:Tm):Tm:= .mk t.op 0 0 nada [kid t 1,kid t 0]
def otherS (t v:Tm):Prop:=v.ks.length≠2\/kid v 0≠kid t 1\/kid v 1≠kid t 0\/v.op≠t.op
instance (t v:Tm):Decidable (otherS t v):=by unfold otherS;infer_instance
def twoS (t:Tm) (w:Int):Tm:=
 if kid t 0=kid t 1/\alikeS t w≠t then alikeS t w
 else if rightS t≠t then rightS t
 else if(t.op=3\/t.op=4\/t.op=5\/t.op=6\/t.op=8)/\otherS t (rightS (swapS t)) then rightS (swapS t) else t
def oneS (ds:List Dcl) (t:Tm):Tm:=
 if allFixed t=true then(if sortM ds t=0 then boolM (decide (evalM ds (zeroE ds) t=1)) else .mk 20 (sortM ds t) (evalM ds (zeroE ds) t) nada [])
 else if t.ks=[] then t
 else if 23<=t.op then logicS t
 else if t.op=22 then(if sortM ds t=sortM ds (kid t 0) then kid t 0 else t)
 else if t.ks.length=1 then(if(kid t 0).op=t.op then kid (kid t 0) 0 else t)
 else twoS t (sortM ds (kid t 0))
theorem kid_ne {i:Nat} (h:i<t.ks.length):kid t i≠t:=λe=>by
 have:=(kid_size h).1
 grind
theorem X_none (h: ¬allFixed t=true):ruleX ds t=none:=by unfold ruleX;grind
theorem xV0 (a:t.op≠25) (b:t.op≠23):ruleB t=none:=by simp_all[ruleB]
theorem T_none (h: ¬(t.op=26\/t.op=27)):ruleT t=none:=by unfold ruleT;grind
theorem xU0 (a:t.op≠22) (b: ¬(t.op=1\/t.op=2)):ruleL ds t=none:=by simp_all[ruleL]
theorem xS0 (h:t.ks.length≠2):ruleW ds t=none:=by simp_all[ruleW]
theorem S_none (h:t.ks.length≠2):ruleS t=none:=by unfold ruleS;grind
theorem F_none (h:t.ks.length≠2):ruleF t=none:=by unfold ruleF;grind
theorem QN {α:Type} {b:Option α}:((none:Option α) <|> b)=b:=rfl
theorem or_none {α:Type} {a:Option α}:(a <|> (none:Option α))=a:=by grind
theorem logic_eq (hs:sortM ds t≠ -1) (h: ¬allFixed t=true) (f:23<=t.op) (k:t.ks≠[]):logicS t=oneT ds t:=by
 have m:=len_of hs;have j:0<t.ks.length:=by grind
 have d:=arity_ops (o:=t.op) oM;unfold oneT ruleA;rw[X_none h,QN];by_cases c:t.op=25
 .have n:t.ks.length=1:=(by grind [arity]);rw[T_none oM,xU0 oM oM,xS0 oM,S_none oM,F_none oM];simp only[or_none];unfold logicS ruleB
  grind
 by_cases b:t.op=23
 .have q:t.ks.length=3:=(by grind [arity]);rw[T_none oM,xU0 oM oM,xS0 oM,S_none oM,F_none oM];simp only[or_none];unfold logicS ruleB
  grind
 have o:t.op=26\/t.op=27:=by
  grind [arity]
 have p:t.ks.length=2:=by grind [arity]
 have i:b2i (decide (t.op=26))=neutral t.op:=by
  simp_all[neutral,b2i]
 have a:boolM (decide (neutral t.op=0))=constM 0 (1-neutral t.op):=by
  unfold neutral;rcases o with e|e
  .rw[X0 e];rfl
  .rw[y3 oM];rfl
 rw[xV0 c b,QN];unfold logicS;rw[y3 c,y3 b,i,a];have tail:ruleT t=none->(ruleL ds t <|> ruleW ds t <|> ruleS t <|> ruleF t)=none:=λg=>by
  have l:kid t 0≠kid t 1:=λe=>by
   grind [ruleT]
  rw[xU0 oM oM];have w:ruleW ds t=none:=(by simp_all[ruleW]);have s:ruleS t=none:=by grind [ruleS]
  grind [ruleF]
 cases g:ruleT t with
 |none=>
  grind [ruleT]
 |some u=>
  have:(some u <|> (ruleL ds t <|> ruleW ds t <|> ruleS t <|> ruleF t))=some u:=rfl
  grind [ruleT]
theorem right_eq (b:t.ks.length=2):(ruleS t=none/\rightS t=t)\/(ruleS t=some (rightS t)/\rightS t≠t):=by
 have k0:=kid_ne (t:=t) (i:=0) oM;have a:=kid_ne (t:=t) (i:=1) oM;unfold ruleS rightS
 grind
theorem other_kid {i:Nat} (hi:i=0\/i=1) (a:t.ks.length=2):otherS t (kid t i):=by
 by_cases h:(kid t i).ks.length=2
 .rcases hi with rfl|rfl
  .exact .inr (.inr (.inl (λe=>kid_ne (t:=kid t 0) (i:=1) oM e)))
  .exact .inr (.inl (λe=>kid_ne (t:=kid t 1) (i:=0) oM e))
 .exact .inl h
theorem left_eq (a:t.ks.length=2):ruleF t=if(t.op=3\/t.op=4\/t.op=5\/t.op=6\/t.op=8)/\otherS t (rightS (swapS t)) then some (rightS (swapS t)) else none:=by
 have sw:∀i,kid (swapS t) i=[kid t 1,kid t 0].getD i default:=λi=>rfl;have c:kid (swapS t) 0=kid t 1:=rfl;have s1:kid (swapS t) 1=kid t 0:=rfl;have so:(swapS t).op=t.op:=rfl;have self: ¬otherS t (swapS t):=λh=>by
  rcases h with h|h|h|h
  .exact h rfl
  .exact h rfl
  .exact h rfl
  omega
 have k0:=other_kid (t:=t) (i:=0) (.inl rfl) a;have b:=other_kid (t:=t) (i:=1) (.inr rfl) a;unfold ruleF
 grind [rightS]
theorem two_eq (d:declOk ds=true) (hs:sortM ds t≠ -1) (g: ¬allFixed t=true) (b:t.ks.length=2) (e:t.op<22):twoS t (sortM ds (kid t 0))=oneT ds t:=by
 have i:=len_of hs;have j:=arity_two (o:=t.op) oM;have l:3<=t.op/\t.op<=17:=oM
 have ne:∀{u:Tm},u.op=20\/u.op=24\/u.op=25->u≠t:=by grind
 have f:(ruleW ds t=none/\¬(kid t 0=kid t 1/\alikeS t (sortM ds (kid t 0))≠t))\/(ruleW ds t=some (alikeS t (sortM ds (kid t 0)))/\kid t 0=kid t 1/\alikeS t (sortM ds (kid t 0))≠t):=by
  by_cases a:kid t 0=kid t 1
  .unfold ruleW alikeS;rw[X0 ⟨b,a⟩];by_cases c1:t.op=3\/t.op=4
   .grind [kid_ne]
   rw[y3 c1,y3 c1];by_cases c2:t.op=5\/t.op=7
   .obtain⟨h,_,ev⟩:=bin_parts d hs b oM oM;have k:=vok_lt (ev _ (zeroE_ok d)).1;rw[X0 c2,X0 c2,h];refine .inr ⟨?_,a,ne (.inl rfl)⟩;unfold constM
    grind
   rw[y3 c2,y3 c2];by_cases c3:t.op=15
   .rw[X0 c3,X0 c3];exact .inr ⟨rfl,a,ne (.inr (.inl rfl))⟩
   rw[y3 c3,y3 c3];by_cases c:t.op=16\/t.op=17
   .rw[X0 c,X0 c];exact .inr ⟨rfl,a,ne (.inr (.inr rfl))⟩
   grind
  grind [ruleW]
 unfold oneT ruleA;rw[X_none g,xV0 oM oM,T_none oM,xU0 oM oM];simp only[QN];unfold twoS;rcases f with⟨w1,w2⟩|⟨w1,w2⟩
 .rw[y3 w2,w1,QN];rcases right_eq (t:=t) b with⟨s1,s2⟩|⟨s1,s2⟩
  .grind [left_eq]
  grind
 grind
theorem oneS_eq (l:declOk ds=true) (hs:sortM ds t≠ -1):oneS ds t=oneT ds t:=by
 have r:=len_of hs;unfold oneS;by_cases e:allFixed t=true
 .have k:=eval_in (zeroE_ok l) t hs;have n:oneT ds t=constM (sortM ds t) (evalM ds (zeroE ds) t):=by
   simp_all[oneT,ruleA,ruleX]
  rw[X0 e,n];unfold constM boolM;rcases k with h|h
  .grind
  .have:=vok_lt h
   grind
 rw[y3 e];by_cases f:t.ks=[]
 .simp_all[Z60,arity_zero]
 rw[y3 f];have p:0<t.ks.length:=by grind
 by_cases d:23<=t.op
 .rw[X0 d];exact logic_eq hs e d f
 rw[y3 d];by_cases c:t.op=22
 .have j:t.ks.length=1:=(by grind [arity]);have q:=sort_one l (sort_parts hs).1 j;have i:=hs;rw[q] at i;have g:=one_good oM i;have g3:=g.2.2 c;have st:sortM ds t=t.a-t.b+1:=by
   grind [oneM]
  rw[X0 c];unfold oneT ruleA;rw[X_none e,xV0 oM oM,T_none oM,xS0 oM,S_none oM,F_none oM];simp only[QN,or_none]
  grind [ruleL]
 rw[y3 c];have m:=arity_ops (o:=t.op) oM;by_cases j:t.ks.length=1
 .have s:=arity_one (o:=t.op) oM;rw[X0 j];unfold oneT ruleA;rw[X_none e,xV0 oM oM,T_none oM,xS0 oM,S_none oM,F_none oM];simp only[QN,or_none]
  grind [ruleL]
 rw[y3 j]
 grind [arity,two_eq]
end
end
end Go.M
end
