import Derived.Test.YtfjlkobhagjdaaaGreatDoorWzdP11
/- A part of the proof. -/
set_option linter.all false
set_option maxRecDepth 9999
set_option maxHeartbeats 2000000
noncomputable section
namespace Go.Proofs.YtfjlkobhagjdaaaGreatDoor
open Go Go.Vc Go.Proofs
section
variable {w:World} {K:oK} {D F F' G Fx Fy X:oA} {n m N bl bc mb bb kb:Nat} {gs hs:M.Gs} {v dv tv f:Value} {ls:List Value} {xss:List (oI)} {xs:oI} {ds:List M.Dcl} {t:M.Tm} {ts ks:List M.Tm} {ar ab at_:Addr} {k:Int}
theorem ContainsT {p:M.Tm->Bool} (m:TmsR F w v ks) (s:∀(w':World) (x:Value) (t:M.Tm) (K:oK),Ext w w'->t∈ks->TermR F w' x t->(∀w'',Ext w' w''->K (.bool (p t)) w'')->vcallv f #[x] w' K) (o:∀w',Ext w w'->K (.bool (ks.any p)) w'):
  vcall xL #[v,f] w K:=by
 refine ze {} Tryz.func169 ?_;refine ze {loops:=[(2,[8])]} Tryz.func201 ?_;have y:=m.small;simp only[push_cast,m.len];refine vloop_up ks.length (λi u w'=>u=[nI i]/\Ext w w'/\∀j,j<i->p (ks.getD j default)=false) ⟨rfl,Same.refl _ _,λj l=>absurd l oM⟩ ?_;rintro i _ _ q C hi ⟨rfl,a,g⟩ r;have k:=m.ext a;refine oZ ?_;refine zb (λb=>?_) (λb=>?_)
 .have d:i<ks.length:=oM;simp(disch:=exact oS) only[push_cast,k.iaddr];refine k.load zc d λx n=>?_;refine s q x _ _ a (M.getD_mem d _) n λz h=>?_;refine zm (λc=>?_) (λc=>?_)
  .try simp only[push_cast]
   rw[gl oM];have:=o z (a.trans h);rwa[pD.2 ⟨_,M.getD_mem d _,c⟩] at this
  .rw[inc64' oM];refine r d _ _ ⟨rfl,a.trans h,λj l=>?_⟩;by_cases e:j<i
   .exact g j e
   .have:j=i:=oM;subst this;exact c
 .try simp only[push_cast]
  rw[gk oM];have:=o q a;rwa[show ks.any p=false from by
   rw[pX];intro x n;obtain⟨j,l,rfl⟩:=gx n;have:=g j oM;rw[q0,gj l,Gr] at this;rw[this];decide] at this
def Jb (ds:List M.Dcl) (ts:List M.Tm):Bool:=decide (ts.length<=8)&&M.declOk ds&&ts.all λt=>decide (M.tsort ds t=0)
theorem all8_iff:Jb ds ts=true↔ts.length<=8/\M.declOk ds=true/\∀t,t∈ts->M.tsort ds t=0:=by
 simp only[Jb,gp,gg,gV,and_assoc]
def cnfE (ds:List M.Dcl) (ts:List M.Tm):M.Cnf×Nat:=if Jb ds ts=true then(match M.listB ds ts with
 |some r=>(M.blastC ds r.1 r.2,0)
 |none=>(⟨0,[]⟩,1)) else(⟨0,[]⟩,2)
def errV (ar at_:Addr):Nat->Value
 |0=> .nilIface
 |1=>erv ar
 |_=>erv at_
theorem xL0 {N:Nat} (a:N<=w.heap.size):CnfO N w (oN) [] ⟨0,[]⟩:=⟨OwnV.nil,rfl,λb c=>(by cases c),RowsR.nil a⟩
theorem k50:yl zq [] w K=K (.agg ⟨[nI 0,oN]⟩) w:=zS J9 (us:=[]) rfl rfl
theorem XL (h:M.tsort ds t=0):M.sortM ds t=0/\M.fits t=true/\M.sizeM t<=20:=by
 obtain⟨a,b,d,c⟩:=kH0 (ds:=ds) (t:=t) (by rw[h];decide);unfold M.tsort at h;rw[K3 ⟨a,b⟩] at h;exact⟨h,a,c⟩
structure RootsB (n bl bb kb m:Nat) (ar ab:Addr) (ds:List M.Dcl) (dv:Value) (ts:List M.Tm) (F:oA) (w:World) (i:Nat) (v:Value) (w':World):Prop where
 ex:∃(F1:oA) (st1:Option M.Gs) (vs:List Value) (xss rs:List (oI)),BlR n bl bb kb m ar ab ds dv (λb=>b=m\/v.ownBlock=some b) F1 w' st1/\Mv (P1 m F) w (P1 m F1) w'/\OwnV zJ w' v vs/\(∀b,v.ownBlock=some b->w.heap.size<=b/\¬F1 b)/\
  vs.length=xss.length/\vs.length<=i/\RowsR w.heap.size (λb=> ¬F1 b/\b≠m/\v.ownBlock≠some b) w' vs xss/\TOut n (M.seqB ((ts.take i).map (M.termB ds))) (some []) st1 rs/\(∀gs,st1=some gs->xss=M.rootsC rs/\rs.length=i)
theorem blastCnf_spec (hd:DclsR Fx w dv ds) (ht:TmsR Fy w tv ts) (he:Errs (λ_=>False) w ar ab) (cp:Sent w yJ at_)
  (hK:∀w' lv ls,Ext w w'->CnfO w.heap.size w' lv ls (cnfE ds ts).1->K (.tuple #[.agg ⟨[nI (cnfE ds ts).1.many,lv]⟩,errV ar at_ (cnfE ds ts).2]) w'):vcall Kw #[dv,tv] w K:=by
 refine ze {loops:=[(8,[7,31])],cuts:=[(8195,[])]} Tryz.func135 ?_;obtain⟨o,c,c9,_⟩:=hd.shape;generalize (ds.map λd=>[Value.string d.1,nI d.2]).length=l at c9;subst c9;refine ye λb1 w1 dz cb dk bf=>?_;refine zi xp λb2 w2 e0 bj eb bh=>?_;have e2:=cb.trans bj;have z1:=cb.size;have z2:=bj.size;have e9:=ht.small;replace bf:Blk w1 b1 [.slice o l c] xd:=bf;have a7:=bf.ext bj;have none_:∀{w3:World} {g:Nat} {a:Addr} {k:Nat},Ext w2 w3->Sent w3 g a->b2≠g->errV ar at_ k=erv a->cnfE ds ts=(⟨0,[]⟩,k)->Zz w3 λB=>
   yl zq [] B λt20 bs=>bs=B/\
   zt xu (oP g 0) B λt21 bt=>bt=B/\
   zI zq (oP b2 0) t20 B λ_ S=>(zt xu (oP g 0) S λv x=>v=t21/\x=S)/\
   vlv zq (oP b2 0) S λr4 ak=>
   K (.tuple #[r4,t21]) ak:=λ{w3 g a k} z hs dc cc bi=>by
  refine zd λw4 a2 _=>?_;have cm:Sent w4 g a:=hs.same a2 id;have cz:=bh.ext (z.trans a2);rw[k50];simp only[y0 xr cm.cell,Q1];refine cz.stAgg (cs':=[nI 0,oN]) rfl zD net_one λR bp ec d1=>?_;have cn:Sent R g a:=cm.same bp λe=>dc e.symm;simp only[y0 xr cn.cell,Q1,gn];rw[d1.lv (t:=zq) zD];have e5:Ext w R:=Ext.then (e2.trans (z.trans a2)) bp λy hy=>by subst hy;omega
  have:=hK R (oN) [] e5;rw[bi,cc] at this;exact this (xL0 e5.size)
 have gT:=cp.lt;have gR:=he.room.lt;have bad: ¬Jb ds ts=true->∀{w3:World},Ext w2 w3->Zz w3 λB=>
   yl zq [] B λt20 bs=>bs=B/\
   zt xu (oP yJ 0) B λt21 bt=>bt=B/\
   zI zq (oP b2 0) t20 B λ_ S=>(zt xu (oP yJ 0) S λv x=>v=t21/\x=S)/\
   vlv zq (oP b2 0) S λr4 ak=>
   K (.tuple #[r4,t21]) ak:=λh {w3} z=>none_ (k:=2) z (cp.same (e2.trans z) id) oM rfl (by unfold cnfE;rw[X0 h])
 refine zo (λu w'=>u=[]/\Ext w2 w'/\ts.length<=8/\M.declOk ds=true) (λJ hJ=>?_) ?_
 .simp only[push_cast,(ht.ext e2).len];refine zb (λh=>bad (λh8=>by have:=(all8_iff.1 h8).1;omega) (Same.refl _ _)) (λh=>?_);simp(disch:=exact oS) only[push_cast,a7.ld0];refine DeclOk_spec (hd.ext e2) λw3 z=>?_;refine oZ ?_;refine zm (λh2=>bad (λh8=>by have:=(all8_iff.1 h8).2.1;rw[this] at h2;cases h2) z) (λh2=>hJ _ _ ⟨rfl,z,oM,by simpa using h2⟩)
 rintro _ _ w3 ⟨rfl,z,h8,aa⟩;have e3:=e2.trans z;refine oZ ?_;refine ContainsT (p:=λt=>decide (M.tsort ds t≠0)) (ht.ext e3) (λw' x t K ca _ hx d6=>?_) λw4 a2=>?_
 .simp only[push_cast,gI,Gp];refine ze {} Tryz.func170 ?_;obtain⟨cx,rfl,a1⟩:=hx.cells;refine zl λb5 R a0 I bp h5=>?_;have c4:=(a7.ext z).ext (ca.trans I);simp(disch:=exact oS) only[push_cast,c4.ld0];rw[h5.ldAgg (t:=za) (by rw[zR a1];exact zc)];refine TermSort_spec (hd.ext (e3.trans (ca.trans I))) (a1.ext I).term λw6 d9=>?_;refine oZ ?_;exact d6 _ (I.trans d9)
 have e4:=e3.trans a2;have a6:=z.trans a2;refine zm (λh=>bad (λh8=>?_) a6) (λh=>?_)
 .obtain⟨t,n,h2⟩:=pD.1 h;exact of_decide_eq_true h2 ((all8_iff.1 h8).2.2 t n)
 have a9:∀t,t∈ts->M.tsort ds t=0:=λt hm=>by
  have:=pX.1 h t hm;simpa using this
 have ch:Jb ds ts=true:=all8_iff.2 ⟨h8,aa,a9⟩;have c1:=a7.ext a6;simp(disch:=exact oS) only[push_cast,c1.ld0];refine newBlaster_spec aa (hd.ext e4) (he.ext0 e4) λR bl bb kb m F5 a0 I cf=>?_;have e5:=e4.trans I;simp only[push_cast,(ht.ext e5).len];have z4:=e4.size;have z5:=I.size;have V:∀b,P1 m F5 b->w4.heap.size<=b:=λb f=>f.elim (λh=>cf b (.inl h)) λh=>cf b (.inr (.inl h));have ax:∀b,P1 m F5 b->b<R.heap.size:=λb f=>f.elim (λh=>a0.bd.lt b (.inl h)) λh=>a0.bd.lt b (.inr h);have d0:BlR (M.bits ds).toNat bl bb kb m ar ab ds (.slice o l c) (λb=>b=m\/(oN).ownBlock=some b) F5 R (some []):=
  a0.swap a0 (Same.refl (λ_=>False) R) (λb f=>f.elim) (λb f=>f.elim (λh=>⟨by subst h;exact ax b (.inr rfl),λ_=>h⟩) λh=>by cases h) (.inl rfl)
 refine vloop_up ts.length (λi u w'=> ∃v,u=[v,nI i]/\RootsB (M.bits ds).toNat bl bb kb m ar ab ds (.slice o l c) ts F5 R i v w') ⟨_,rfl,⟨F5,some [],[],[],[],d0,Mv.refl,OwnV.nil,(λb f=>by cases f),rfl,gy _,RowsR.nil (gy _),TOut.nil,λgs h=>⟨rfl,rfl⟩⟩⟩ ?_;rintro i _ g w6 C hi ⟨v,rfl,⟨F6,cs,vs,xss,rs,c8,ae,bm,Q,a4,ea,X,ap,aw⟩⟩ hC;refine oZ ?_;have z6:=ae.same.size;have e6:Ext w w6:=Ext.then e5 ae.same λy hy=>by have:=V y hy;omega
 have d5:∀b,F6 b->w4.heap.size<=b:=λb f=>(ae.new b (.inl f)).elim (V b) λh=>oM
 have e8:w4.heap.size<=m:=V m (.inr rfl);have cq:∀b,v.ownBlock=some b->¬P1 m F6 b:=λb f hp=>hp.elim (Q b f).2 λe=>by have:=(Q b f).1;have:=ax m (.inr rfl);omega
 refine zb (λa=>?_) (λa=>?_)
 .have O:i<ts.length:=oM;have co:=(ht.weaken (F':=λb=>b<w.heap.size) λb _ hl=>hl).ext e6;simp(disch:=exact oS) only[push_cast,co.iaddr];refine co.load zc O λx hx=>?_;obtain⟨cx,rfl,a1⟩:=hx.cells;refine zi zp λb7 w7 H N ed d2=>?_;refine stTerm d2 rfl (a1.ext N) λw8 di ee d3=>?_;have Z:Ext w6 w8:=Ext.then N di λy hy=>by subst hy;omega
  have eg:=Z.size;have v8:=a1.ext Z;simp only[push_cast,d3.ldAgg (t:=za) (by rw[zR a1];exact zc)];obtain⟨bo,_,dy⟩:=XL (a9 _ (M.getD_mem O default));have d7:=c8.grow Z;refine term_spec aa _ (by rw[bo];decide) oM d7 (v8.term.weaken λb f _=>⟨λh=>by have:=d5 b h;omega,λh=>h.elim (λe=>oM) λe=>by have:=(Q b e).1;omega⟩) λw9 F9 ct r zs G a3 cj dm bq=>?_;have z9:=a3.same.size;have b8:TOut (M.bits ds).toNat (M.seqB ((ts.take (i+1)).map (M.termB ds))) (some []) ct (rs++[zs]):=by
   rw[M.take_add O default,gD];exact ap.snoc bq
  have az:Mv (P1 m F5) R (P1 m F9) w9:=(ae.ext Z).trans a3;have a8:∀b,(v.ownBlock=some b)->¬F9 b:=λb f hf=>a3.off (cq b f) (by have:=bm.lt f;omega) (.inl hf);have af:RowsR R.heap.size (λb=> ¬F9 b/\b≠m/\v.ownBlock≠some b) w9 vs xss:=
   (((X.weaken (F':=λb=>(¬F6 b/\b≠m/\v.ownBlock≠some b)/\b<w6.heap.size) λb n _ h3=>⟨n,h3⟩).ext Z).same a3.same λb n _ hp=>hp.elim n.1.1 n.1.2.1).weaken λb n _ _=>
    ⟨λhf=>a3.off (λhp=>hp.elim n.1.1 n.1.2.1) oM (.inl hf),n.1.2.1,n.1.2.2⟩
  have bn:OwnV zJ w9 v vs:=(bm.ext Z).same a3.same cq;obtain⟨bc,D,c6⟩:=G.bd.blk;have ay:∀b,F9 b->b<w9.heap.size:=λb f=>G.bd.lt b (.inl f);cases ct with
  |none=>
   simp only at D;simp(disch:=exact oS) only[push_cast,G.blk.ld0,D.ld1,Yi0,zj];exact hC O _ _ ⟨v,by simp,⟨F9,none,vs,xss,_,G,az,bn,λb f=>⟨(Q b f).1,a8 b f⟩,a4,oM,af,b8,λgs h=>by cases h⟩⟩
  |some cy=>
   simp only at D;have dk:zs.length=1:=by
    rcases bq with⟨g0,g1,q1,q2,q3⟩|⟨q1,_⟩
    .rw[M.term_len aa _ (by rw[bo];decide) (M.Bd.reach_of_run q3),bo];rfl
    .cases q1
   have ah:∃q,cs=some q:=by
    rcases bq with⟨g0,g1,q1,q2,q3⟩|⟨q1,_⟩
    .exact⟨_,q1⟩
    .cases q1
   obtain⟨q,ah⟩:=ah;obtain⟨br,ci⟩:=aw _ ah;simp(disch:=exact oS) only[push_cast,G.blk.ld0,D.ld1,jg0,cj.iaddr,cj.load];refine lit_ints (xs:=[nI (zs.getD 0 0)]) (us:=[zs.getD 0 0]) rfl (by simp) λw10 Y dq av cr cg=>?_;refine lit_lists (xs:=[.slice (some ⟨Y,0,none⟩) 1 1]) (λx hx=>by rw[gB.1 hx];exact⟨_,_,_,rfl⟩) (by simp) λa5 dx dr ac dt W=>?_;have T:=av.trans ac;refine OwnV.app (us:=[.slice (some ⟨Y,0,none⟩) 1 1]) (bn.ext T) Y6 W.vals (by simp[Value.oneCell']) (by simp;omega) (by simp;omega) λv12 cu b3 s b0=>?_;have dn:=av.size;have dp:=ac.size;have z12:=s.size
   try simp(disch:=omega) only[push_cast,zj]
   have dh:∀b,v.ownBlock=some b->b<w9.heap.size:=λb f=>bn.lt f;have ao:RowsR R.heap.size (λb=>(¬F9 b/\b≠m/\v.ownBlock≠some b)/\b<a5.heap.size) a5 (vs++[.slice (some ⟨Y,0,none⟩) 1 1]) (xss++[[zs.getD 0 0]]):=by
    have n:=(af.weaken (F':=λb=>(¬F9 b/\b≠m/\v.ownBlock≠some b)/\b<a5.heap.size) λb n _ h3=>⟨n,oM⟩);refine RowsR.new n a4 T (cg.ext ac) (λb f=>?_) λb f=>?_
    .have e6:Y=b:=gh f;omega
    .have e6:Y=b:=gh f;exact⟨⟨λhf=>by have:=ay b hf;omega,λe=>by have:=G.met.lt;omega,λe=>by have:=dh b e;omega⟩,oM⟩
   have c7:∀b,(b=m\/v12.ownBlock=some b)->b<a5.heap.size->(b=m\/v.ownBlock=some b):=λb f hl=>f.elim .inl λh=>(b0 b h).elim .inr λh2=>oM;have ai:∀b,v12.ownBlock=some b->R.heap.size<=b/\¬F9 b/\(v.ownBlock=some b\/a5.heap.size<=b):=λb f=>by
    rcases b0 b f with h|h
    .exact⟨(Q b h).1,a8 b h,.inl h⟩
    .exact⟨oM,λhf=>by have:=ay b hf;omega,.inr h⟩
   refine hC O _ _ ⟨v12,by simp,⟨F9,some cy,vs++[.slice (some ⟨Y,0,none⟩) 1 1],xss++[[zs.getD 0 0]],rs++[zs],(G.grow T).swap a0 s (λb f=>⟨.inr f,(Q b f).1,a8 b f⟩) (λb f=>⟨?_,c7 b f⟩) (.inl rfl),((az.ext T).to s λb f=> .inr (Q b f).1),b3,λb f=>⟨(ai b f).1,(ai b f).2.1⟩,?_,?_,?_,b8,λgs h=>⟨?_,?_⟩⟩⟩
   .rcases f with h|h
    .have:=G.met.lt;omega
    .exact b3.lt h
   .rw[gd,gd,a4];rfl
   .rw[gd];simp;omega
   .refine(ao.same s λb n _ e=>n.1.2.2 e).weaken λb n _ _=>⟨n.1.1,n.1.2.1,λe=>?_⟩;rcases(ai b e).2.2 with h|h
    .exact n.1.2.2 h
    .omega
   .rw[br];unfold M.rootsC;rw[gD];rfl
   .rw[gd,ci];rfl
 .have O:i=ts.length:=oM;subst O;rw[gG] at ap;have bu:Ext w2 w6:=Ext.then (a6.trans I) ae.same λy hy=>by have:=V y hy;have:=a6.size;omega
  refine zd λw7 N _=>?_;have H:=c8.grow N;have bv:=bu.trans N;obtain⟨bc,D,c6⟩:=H.bd.blk;cases cs with
  |none=>
   have dd:M.listB ds ts=none:=by
    rcases ap with⟨g0,g1,q1,q2,q3⟩|⟨q1,q2⟩
    .cases q2
    .exact q2 [] rfl
   simp only at D;simp(disch:=exact oS) only[push_cast,H.blk.ld0,D.ld1,y0 xr H.bd.err.room.cell,Q1];refine yq0 ?_;refine oZ ?_;refine none_ (g:=xO) (a:=ar) (k:=1) bv H.bd.err.room oM rfl ?_;unfold cnfE;rw[K3 ch,dd]
  |some q=>
   have ba:M.listB ds ts=some (q,rs):=by
    rcases ap with⟨g0,g1,q1,q2,q3⟩|⟨q1,q2⟩
    .cases q1;cases q2;exact q3
    .cases q1
   have b6:=M.list_net aa (λt ht=>by rw[(XL (a9 t ht)).1];decide) ba;obtain⟨br,ci⟩:=aw _ rfl;simp only at D;simp(disch:=exact oS) only[push_cast,H.blk.ld0,D.ld1,y0 xr H.bd.err.room.cell,Q1];refine jA0 ?_;obtain⟨gvv,mb,d8,e7,e1⟩:=c6 q rfl;simp(disch:=exact oS) only[push_cast,H.blk.ld0,D.ld0];refine cnf8_spec d8 b6.net λw8 lv aj bk F=>?_;have cw:=N.trans bk;have bw:=bv.trans bk;have z7:=N.size;have z8:=bk.size;have z26:=bu.size;refine zi xp λb9 w9 G da dm d4=>?_;obtain⟨o2,c2,cd,_⟩:=F.lst.vals.shape;generalize (aj.map λx=>[x]).length=l2 at cd;subst cd;refine d4.stAgg (cs':=[nI (1+(M.bits ds).toNat+q.length:Nat),.slice o2 l2 c2]) rfl zD net_one λw10 cl cr au=>?_;have E:Ext w8 w10:=Ext.then da cl λy hy=>by subst hy;omega
   have aq:=cw.trans E;simp(disch:=exact oS) only[push_cast,au.ld1];have db:aj.length<=2401:=by
    rw[F.len];show([1]::(M.gatesC _ q 0++[])).length<=2401;have n:=Zp (M.bits ds).toNat q 0;have h2:=b6.net.few;rw[gI,gH];omega
   refine OwnV.app (us:=vs) (F.lst.ext E) Y6 (bm.vals.ext aq) (λu hu=>?_) oM oM λv11 a5 W L ce=>?_
   .obtain⟨j,hj,rfl⟩:=gx hu;have de:=X.own j (by rw[<-a4];exact hj);obtain⟨o,c,e,_⟩:=de.ints.shape;rw[q0,gj hj,Gr] at e;rw[e];rfl
   have am:=F.dl;have be:∀b,(Value.slice o2 l2 c2).ownBlock=some b->b<w8.heap.size:=λb f=>F.lst.lt f;have bz:=au.same L λe=>by have:=be _ e;omega
   have dp:=L.size;have dn:=E.size;obtain⟨o3,c3,A,_⟩:=W.vals.shape;generalize ((aj++vs).map λx=>[x]).length=l3 at A;subst A;refine bz.st (i:=1) (v:= .slice o3 l3 c3) rfl rfl Qv (by rfl) λcu s du bg=>?_;have al:Blk cu b9 [nI (1+(M.bits ds).toNat+q.length:Nat),.slice o3 l3 c3] zq:=bg;rw[al.ldAgg (t:=zq) zD];have bx:=bh.ext (bw.trans E);have ef:=bh.lt;have A:∀b,(Value.slice o3 l3 c3).ownBlock=some b->w7.heap.size<=b/\b≠b9/\((Value.slice o2 l2 c2).ownBlock=some b\/w10.heap.size<=b):=λb f=>by
    rcases ce b f with h|h
    .exact⟨am b h,λe=>by have:=be b h;omega,.inl h⟩
    .exact⟨oM,λe=>oM,.inr h⟩
   have c5:=(bx.same L λe=>by have:=am _ e;omega).same s oM;refine c5.stAgg (cs':=[nI (1+(M.bits ds).toNat+q.length:Nat),.slice o3 l3 c3]) rfl zD net_one λcv ag dw c0=>?_;rw[c0.lv (t:=zq) zD];have bi:cnfE ds ts=(M.blastC ds q rs,0):=by unfold cnfE;rw[K3 ch,ba]
   have df:RowsR R.heap.size (λb=>(Value.slice o2 l2 c2).ownBlock≠some b/\b<w8.heap.size) w10 aj ([1]::(M.gatesC (M.bits ds).toNat q 0++[])):=by
    have n:=(F.rows.weaken (F':=λb=>(Value.slice o2 l2 c2).ownBlock≠some b/\b<w8.heap.size) λb n _ h3=>⟨n,h3⟩).ext E;exact⟨oM,n.own,λi b hi f=>⟨(n.sub i b hi f).1,by have:=(n.sub i b hi f).2;omega⟩,n.dj⟩
   have dg:RowsR R.heap.size (λb=>(Value.slice o2 l2 c2).ownBlock≠some b/\b<w8.heap.size) w10 vs xss:=
    (X.weaken (F':=λb=>(Value.slice o2 l2 c2).ownBlock≠some b/\b<w8.heap.size) λb n _ h3=>⟨λe=>by have:=am b e;omega,oM⟩).ext aq
   have ck:=df.app F.len dg a4 λi j b hi hj n h2=>by
    have:=(F.rows.sub i b hi n).2;have:=(X.own j hj).lt h2;omega
   have ad:([1]::(M.gatesC (M.bits ds).toNat q 0++[]))++xss=(M.blastC ds q rs).list:=by
    rw[br,gI];rfl
   rw[ad] at ck;have an:=(((ck.same L λb n _ e=>n.1 e).same s λb n _ e=>by subst e;omega).weaken (F':=λb=>((Value.slice o3 l3 c3).ownBlock≠some b)/\w2.heap.size<=b) λb n h2 _=>⟨λe=>by
    rcases(A b e).2.2 with h|h
    .exact n.1 h
    .omega,by have:=a6.size;omega⟩).same ag λb n _ e=>oM
   have b4:Ext w cv:=Ext.then (Ext.then (Ext.then (e2.trans (bw.trans E)) L λb f=>by have:=am b f;omega) s λb f=>by subst f;omega) ag λb f=>by subst f;omega
   have U:=hK cv (.slice o3 l3 c3) (aj++vs) b4;rw[bi] at U;refine U ⟨?_,?_,λb f=>?_,?_⟩
   .exact((W.same s λb f e=>(A b f).2.1 e).same ag λb f e=>by have:=(A b f).1;omega)
   .rw[<-ad,gd,gd,F.len,a4];rfl
   .have:=(A b f).1;omega
   .exact⟨b4.size,an.own,λi b hi f=>⟨(an.sub i b hi f).1.1,by have:=(an.sub i b hi f).2;omega⟩,an.dj⟩
end
section
variable {w:World} {K:oK} {F D G:oA}
abbrev ptr (b:Nat):Value:= oP b 0
def QD (t3:Value) (w:World) (J:List Value->World->Prop):Prop:=
 Zz w λw_12=>
 zB za t3 4 w_12 λt13 w_13=>w_13=w_12/\
 zt zk t13 w_12 λt14 w_14=>w_14=w_12/\
 y2 zk t14 (nI 0) w_12 λt15 w_15=>w_15=w_12/\
 zt za t15 w_12 λt16 w_16=>w_16=w_12/\
 zB za t3 4 w_12 λt17 w_17=>w_17=w_12/\
 zt zk t17 w_12 λt18 w_18=>w_18=w_12/\
 y2 zk t18 (nI 1) w_12 λt19 w_19=>w_19=w_12/\
 zt za t19 w_12 λt20 w_20=>w_20=w_12/\
 (xU za w_12 λt6 w_21=>(zt za t19 w_21 λv x=>v=t20/\x=w_21)/\(y2 zk t18 (nI 1) w_21 λv x=>v=t19/\x=w_21)/\(zt zk t17 w_21 λv x=>v=t18/\x=w_21)/\(zB za t3 4 w_21 λv x=>v=t17/\x=w_21)/\(zt za t15 w_21 λv x=>v=t16/\x=w_21)/\(y2 zk t14 (nI 0) w_21 λv x=>v=t15/\x=w_21)/\(zt zk t13 w_21 λv x=>v=t14/\x=w_21)/\(zB za t3 4 w_21 λv x=>v=t13/\x=w_21)/\
 (xU za w_21 λt7 w_22=>(zt za t19 w_22 λv x=>v=t20/\x=w_22)/\(y2 zk t18 (nI 1) w_22 λv x=>v=t19/\x=w_22)/\(zt zk t17 w_22 λv x=>v=t18/\x=w_22)/\(zB za t3 4 w_22 λv x=>v=t17/\x=w_22)/\(zt za t15 w_22 λv x=>v=t16/\x=w_22)/\(y2 zk t14 (nI 0) w_22 λv x=>v=t15/\x=w_22)/\(zt zk t13 w_22 λv x=>v=t14/\x=w_22)/\(zB za t3 4 w_22 λv x=>v=t13/\x=w_22)/\
 (zI za t6 t16 w_22 λ_ w_23=>(zt za t19 w_23 λv x=>v=t20/\x=w_23)/\(y2 zk t18 (nI 1) w_23 λv x=>v=t19/\x=w_23)/\(zt zk t17 w_23 λv x=>v=t18/\x=w_23)/\(zB za t3 4 w_23 λv x=>v=t17/\x=w_23)/\
 (zI za t7 t20 w_23 λ_ w_24=>
 J [t6,t7] w_24)/\
 True)/\
 True)/\
 True)/\
 (xU za w_12 λt7_1 w_25=>(zt za t19 w_25 λv x=>v=t20/\x=w_25)/\(y2 zk t18 (nI 1) w_25 λv x=>v=t19/\x=w_25)/\(zt zk t17 w_25 λv x=>v=t18/\x=w_25)/\(zB za t3 4 w_25 λv x=>v=t17/\x=w_25)/\(zt za t15 w_25 λv x=>v=t16/\x=w_25)/\(y2 zk t14 (nI 0) w_25 λv x=>v=t15/\x=w_25)/\(zt zk t13 w_25 λv x=>v=t14/\x=w_25)/\(zB za t3 4 w_25 λv x=>v=t13/\x=w_25)/\
 (xU za w_25 λt6_1 w_26=>(zt za t19 w_26 λv x=>v=t20/\x=w_26)/\(y2 zk t18 (nI 1) w_26 λv x=>v=t19/\x=w_26)/\(zt zk t17 w_26 λv x=>v=t18/\x=w_26)/\(zB za t3 4 w_26 λv x=>v=t17/\x=w_26)/\(zt za t15 w_26 λv x=>v=t16/\x=w_26)/\(y2 zk t14 (nI 0) w_26 λv x=>v=t15/\x=w_26)/\(zt zk t13 w_26 λv x=>v=t14/\x=w_26)/\(zB za t3 4 w_26 λv x=>v=t13/\x=w_26)/\
 (zI za t6_1 t16 w_26 λ_ w_27=>(zt za t19 w_27 λv x=>v=t20/\x=w_27)/\(y2 zk t18 (nI 1) w_27 λv x=>v=t19/\x=w_27)/\(zt zk t17 w_27 λv x=>v=t18/\x=w_27)/\(zB za t3 4 w_27 λv x=>v=t17/\x=w_27)/\
 (zI za t7_1 t20 w_27 λ_ w_28=>
 J [t6_1,t7_1] w_28)/\
 True)/\
 True)/\
 True)/\
 True
theorem pairReg_ok {b3:Nat} {p:oA} {kv:Value} {t:M.Tm} {J:List Value->World->Prop} (q:Blk w b3 [nI t.op,nI t.a,nI t.b,.string t.s,kv] za) (N:TmsR p w kv t.ks) (o:2<=t.ks.length)
  (K:∀w' b I c c',Ext w w'->Blk w' b c za->TmR p w' c (M.kid t 0)->Blk w' I c' za->TmR p w' c' (M.kid t 1)->J [ptr b,ptr I] w'):QD (ptr b3) w J:=by
 unfold QD;refine zd λw1 h _=>?_;obtain⟨css,hs,Q,L⟩:=N.ext h;have l:=q.ext h;have O:=h.size;simp(disch:=exact oS) only[push_cast,l.ld4,hs.iaddr,hs.ldAgg,Q1];have c0:=L 0 oM;have c1:=L 1 oM;refine⟨?_,?_,trivial⟩
 .refine zi zp λb2 w2 x f A o=>?_;have s2:=hs.ext f;have m:=l.ext f;simp(disch:=exact oS) only[push_cast,m.ld4,s2.iaddr,s2.ldAgg,Q1,gn];refine⟨?_,trivial⟩;refine zi zp λb3 P z d B r=>?_;have s3:=s2.ext d;have E:=m.ext d;simp(disch:=exact oS) only[push_cast,E.ld4,s3.iaddr,s3.ldAgg,Q1,gn];refine⟨?_,trivial⟩;refine stTerm (o.ext d) rfl (c0.ext (f.trans d)) λG i C u=>?_;have e:Ext w1 G:=Ext.then (f.trans d) i λy k=>by subst k;omega
  have n:=hs.ext e;have F:=l.ext e;simp(disch:=exact oS) only[push_cast,F.ld4,n.iaddr,n.ldAgg,Q1,gn];refine⟨?_,trivial⟩;refine stTerm (r.same i oM) rfl (c1.ext e) λH j D v=>?_;have g:Ext w1 H:=Ext.then e j λy k=>by subst k;omega
  exact K _ _ _ _ _ (h.trans g) (u.same j oM) (c0.ext g) v (c1.ext g)
 .refine zi zp λb2 w2 x f A o=>?_;have s2:=hs.ext f;have m:=l.ext f;simp(disch:=exact oS) only[push_cast,m.ld4,s2.iaddr,s2.ldAgg,Q1,gn];refine⟨?_,trivial⟩;refine zi zp λb3 P z d B r=>?_;have s3:=s2.ext d;have E:=m.ext d;simp(disch:=exact oS) only[push_cast,E.ld4,s3.iaddr,s3.ldAgg,Q1,gn];refine⟨?_,trivial⟩;refine stTerm r rfl (c0.ext (f.trans d)) λG i C u=>?_;have e:Ext w1 G:=Ext.then (f.trans d) i λy k=>by subst k;omega
  have n:=hs.ext e;have F:=l.ext e;simp(disch:=exact oS) only[push_cast,F.ld4,n.iaddr,n.ldAgg,Q1,gn];refine⟨?_,trivial⟩;refine stTerm ((o.ext d).same i oM) rfl (c1.ext e) λH j D v=>?_;have g:Ext w1 H:=Ext.then e j λy k=>by subst k;omega
  exact K _ _ _ _ _ (h.trans g) (u.same j oM) (c0.ext g) v (c1.ext g)
structure RS (G:oA) (w0 w:World) (b2 b3 b4:Nat) (dv kv:Value) (mb:Nat) (ds:List M.Dcl) (t:M.Tm):Prop where
 ext:Ext w0 w
 f:Blk w b2 [dv,.map (some mb)] ya
 q:Blk w b3 [nI t.op,nI t.a,nI t.b,.string t.s,kv] za
 r:Blk w b4 JW za
 k:TmsR (λx=>G x/\x<w0.heap.size) w kv t.ks
 d:DclsR (λx=>x<w0.heap.size) w dv ds
 m:KindsR w mb
 lo:w0.heap.size<=b4
section
variable {w0 w':World} {b2 b3 b4 mb:Nat} {dv kv:Value} {ds:List M.Dcl} {t:M.Tm}
theorem zZ (h:RS G w0 w b2 b3 b4 dv kv mb ds t) (he:Ext w w'):RS G w0 w' b2 b3 b4 dv kv mb ds t:=
 ⟨h.ext.trans he,h.f.ext he,h.q.ext he,h.r.ext he,h.k.ext he,h.d.ext he,h.m.ext he,h.lo⟩
abbrev qL (dv:Value) (mb:Nat):Value:= .agg ⟨[dv,.map (some mb)]⟩
theorem rs_enter {tv:Value} {B:Value->Value->oK} (s:DclsR F w dv ds) (hm:KindsR w mb) (y:TermR G w tv t) (o:∀w' b2 b3 b4 kv,RS G w w' b2 b3 b4 dv kv mb ds t->B (ptr b2) (ptr b3) (ptr b4) w'):
  zo0 ya (qL dv mb) w λt2 g=>zo0 za tv g λt3 i=>xU za i λt4 j=>B t2 t3 t4 j:=by
 obtain⟨kv,rfl,f⟩:=y;refine zl λb1 w1 p e u l=>?_;refine zl λb2 w2 q c v m=>?_;refine zi zp λb3 z r a x n=>?_;have d:=e.trans (c.trans a);exact o _ _ _ _ kv ⟨d,(l.ext c).ext a,m.ext a,n,(f.weaken λb h k=>⟨h,k⟩).ext d,(s.weaken λb _ h=>h).ext d,hm.ext d,oM⟩
abbrev Vd (K:oK) (w:World) (G:oA) (o:Option M.Tm):Prop:=∀w' rv u,Ext w w'->TermR (λx=>G x\/w.heap.size<=x) w' rv u->(∀x,o=some x->u=x)->K (.tuple #[rv,.bool o.isSome]) w'
theorem yo (h:RS G w0 w b2 b3 b4 dv kv mb ds t) {rv:Value} {u:M.Tm} {b:Bool} (hu:TermR (λx=>(G x\/w0.heap.size<=x)/\x≠b4) w rv u) (g:∀w' a,Ext w0 w'->TermR (λx=>G x\/w0.heap.size<=x) w' a u->K (.tuple #[a,.bool b]) w'):
  zI za (ptr b4) rv w λ_ w1=>vlv za (ptr b4) w1 λr w2=>K (.tuple #[r,.bool b]) w2:=by
 obtain⟨cs,rfl,c⟩:=hu.cells;refine xG (K:=λr w=>K (.tuple #[r,.bool b]) w) h.r rfl c (λx f=>f.2) λk e j d=>?_;exact g _ _ (Ext.then h.ext e λy i=>by subst i;exact h.lo) (d.weaken λx f _=>f.1)
theorem rs_kid (h:RS G w0 w b2 b3 b4 dv kv mb ds t) {rv:Value} {u:M.Tm} (hu:TermR (λx=>G x/\x<w0.heap.size) w' rv u):TermR (λx=>(G x\/w0.heap.size<=x)/\x≠b4) w' rv u:=hu.weaken λx a _=>⟨.inl a.1,by have:=h.lo;omega⟩
theorem rs_new (h:RS G w0 w b2 b3 b4 dv kv mb ds t) (he:Ext w w') {rv:Value} {u:M.Tm} (hu:TermR (λx=>w.heap.size<=x) w' rv u):TermR (λx=>(G x\/w0.heap.size<=x)/\x≠b4) w' rv u:=hu.weaken λx a _=>⟨.inr (by have:=h.ext.size;omega),by have:=h.r.lt;omega⟩
theorem Ze:TermR F w (.agg ⟨JW⟩) (.mk 0 0 0 M.nada []):=(Q5 0 0 0 _:TmR F w _ _).term
end
theorem jt {dv tv:Value} {mb:Nat} {ds:List M.Dcl} {t:M.Tm} (m:DclsR F w dv ds) (hm:KindsR w mb) (f:M.declOk ds=true) (p:TermR G w tv t) (j:∀w',Ext w w'->K (nI (M.sortM ds t)) w'):vcall XU #[qL dv mb,tv] w K:=by
 refine ze {} Tryz.func299 ?_;obtain⟨cs,rfl,a⟩:=p.cells;refine zl λb1 w1 k d n h=>?_;refine zl λb2 w2 l b o i=>?_;have g:=h.ext b;have c:=d.trans b;simp only[push_cast,g.ld0,g.ld1];rw[i.ldAgg (t:=za) (by rw[zR a];exact zc)];refine sortOf_spec t (hm.ext c) (m.ext c) f (a.ext c).term λq e=>?_;exact j _ (c.trans e)
theorem nn_fixed {t:M.Tm} {n:Int} (h:M.fixedM t=some n):nnB t=true:=by
 rcases M.fixed_cases h with⟨rfl,_⟩|⟨rfl,_⟩|⟨c,b,_⟩
 .rfl
 .rfl
 .exact nnB_iff.2 ⟨oM,λk a=>by rw[b] at a;cases a⟩
theorem fixed_spec {dv tv:Value} {mb:Nat} {ds:List M.Dcl} {t:M.Tm} (hd:DclsR F w dv ds) (hm:KindsR w mb) (H:M.declOk ds=true) (ht:TermR G w tv t) (hs:M.sortM ds t≠ -1) (J:Vd K w G (M.ruleX ds t)):vcall kc #[qL dv mb,tv] w K:=by
 refine ze {cuts:=[(8195,[])]} Tryz.func256 ?_;have Z:TermR G w tv t:=ht;refine rs_enter (B:=λt2 t3 t4 a3=>_) hd hm ht λw1 b2 b3 b4 kv rs=>?_;have no:∀w',RS G w w' b2 b3 b4 dv kv mb ds t->M.allFixed t=false->zI za (ptr b4) (.agg ⟨JW⟩) w' λ_ w1=>vlv za (ptr b4) w1 λr w2=>K (.tuple #[r,.bool false]) w2:=λw' Y h=>by
  have e:M.ruleX ds t=none:=by unfold M.ruleX;rw[h];rfl
  rw[e] at J;exact yo Y Ze λw2 rv Q V=>J w2 rv _ Q V λx I=>by cases I
 refine zo (λu w'=>u=[]/\Ext w1 w'/\M.allFixed t=true) (λC hC=>?_) ?_
 .simp only[push_cast,rs.q.ld4,rs.k.len];refine zb (λa=>?_) (λa=>?_)
  .exact no _ rs (by unfold M.allFixed;rw[gk (λh=>h (nil_len.1 a))];rfl)
  .try simp only[push_cast,rs.q.ld4]
   refine ze {} Tryz.func169 ?_;refine ze {loops:=[(2,[8])]} Tryz.func201 ?_;have a2:=rs.k.small;simp only[push_cast,rs.k.len];refine vloop_up t.ks.length (λi u w'=>u=[nI i]/\Ext w1 w'/\∀j,j<i->(M.fixedM (t.ks.getD j default)).isSome=true) ⟨rfl,Same.refl _ _,λj L=>absurd L oM⟩ ?_;rintro i _ _ w3 C hi ⟨rfl,p,o⟩ O;have z:=zZ rs p;refine oZ ?_;refine zb (λb=>?_) (λb=>?_)
   .have E:=z.k;simp(disch:=exact oS) only[push_cast,E.iaddr];refine E.load zc oM λx I=>?_;simp only[push_cast,gI,Gp];refine ze {} Tryz.func296 ?_;obtain⟨cx,rfl,D⟩:=I.cells;refine zl λb5 w5 a0 v a1 h5=>?_;rw[h5.ldAgg (t:=za) (by rw[zR D];exact zc)];refine X3 (D.ext v).term λw6 y=>?_;refine oZ ?_;have X:=zZ z (v.trans y);refine zm (λc=>?_) (λc=>?_)
    .try simp only[push_cast]
     rw[gl oM];refine no _ X ?_;rw[gX] at c;unfold M.allFixed;rw[GN];right;rw[List.all_eq_false];exact⟨_,M.getD_mem (l:=t.ks) (i:=i) oM default,by rw[c];decide⟩
    .rw[Gc] at c;rw[inc64' oM];refine O oM _ _ ⟨rfl,p.trans (v.trans y),λj L=>?_⟩;by_cases e:j<i
     .exact o j e
     .have:j=i:=oM;subst this;exact c
   .try simp only[push_cast]
    rw[gk oM];refine hC _ _ ⟨rfl,p,?_⟩;unfold M.allFixed;rw[gp,gg,gV];refine⟨λh=>a (nil_len.2 h),λk T=>?_⟩;obtain⟨j,L,rfl⟩:=gx T;have:=o j oM;rwa[q0,gj L] at this
 rintro u g w2 ⟨rfl,R,o⟩;have e:M.ruleX ds t=some (M.constM (M.sortM ds t) (M.evalM ds (M.zeroE ds) t)):=by unfold M.ruleX;rw[K3 o]
 rw[e] at J;have U:nnB t=true:=by
  unfold M.allFixed at o;simp only[gp,gg,gV] at o;refine nnB_iff.2 ⟨λN=>?_,λk T=>?_⟩
  .have:=M.len_of hs;rw[N] at this;have h0:t.ks.length=0:=by simp[M.arity] at this;omega
   exact o.1 (gQ h0)
  .obtain⟨n,hn⟩:=pj.1 (o.2 k T);exact nn_fixed hn
 refine zd λw3 p _=>?_;have z:=zZ rs (R.trans p);have tm:∀{w'},RS G w w' b2 b3 b4 dv kv mb ds t->TermR (λx=>G x/\x<w.heap.size) w' (.agg ⟨[nI t.op,nI t.a,nI t.b,.string t.s,kv]⟩) t:=λh=>⟨kv,rfl,h.k⟩;simp only[push_cast,z.f.ldAgg (t:=ya) xH,z.q.ldAgg (t:=za) zc,z.f.ld0,z.f.ld1,Q1];refine jt z.d z.m H (tm z) λw4 S=>?_;have A:=zZ z S;simp only[push_cast,A.q.ldAgg (t:=za) zc,A.f.ld0,A.f.ld1,Q1,gn];refine valueOf_specG t A.m A.d (M.zeroE_ok H) (.inr U) (tm A) hs λw5 v=>?_;have r5:=zZ A v;simp only[push_cast,Q1];refine constant_spec λw6 v6 y W=>?_;have X:=zZ r5 y;exact yo X (rs_new r5 y W) λw7 rv Q V=>J w7 rv _ Q V λx I=>gh I
end
section
variable {w:World} {K:oK} {F D G:oA}
theorem qb {o:Option M.Tm} {u:M.Tm} (b:Vd K w G o) (e:o=some u):∀w' rv,Ext w w'->TermR (λx=>G x\/w.heap.size<=x) w' rv u->K (.tuple #[rv,.bool true]) w':=λw' rv a c=>by
 subst e;exact b w' rv u a c λx d=>gh d
theorem jT {o:Option M.Tm} (b:Vd K w G o) (e:o=none) {u:M.Tm}:∀w' rv,Ext w w'->TermR (λx=>G x\/w.heap.size<=x) w' rv u->K (.tuple #[rv,.bool false]) w':=λw' rv a c=>by
 subst e;exact b w' rv u a c λx d=>by cases d
theorem xZ0 {o:Option M.Tm} {u:M.Tm} {b:Bool} (a:Vd K w G o) (e:o=if b=true then some u else none):∀w' rv,Ext w w'->TermR (λx=>G x\/w.heap.size<=x) w' rv u->K (.tuple #[rv,.bool b]) w':=by
 cases b
 .exact jT a (by rw[e];rfl)
 .exact qb a (by rw[e];rfl)
theorem intsL {xs:oI} (d:xs.length<=100) (c:∀w' v,Ext w w'->Ints (λ_=>True) w' v xs->K v w'):vbuildS zf (xs.map λx=>nI x).length ((xs.map λx=>nI x).zipIdx.map λp=>(p.2,p.1)) w K:=by
 refine vbuildS_row1 x6 yG xn (λx e=>by obtain⟨y,_,rfl⟩:=gz.1 e;rfl) (by rw[V0];omega) λb w' f he hs a=>?_;rw[V0];have o:OwnI zf w' (.slice (some ⟨b,0,none⟩) xs.length xs.length) xs:=Blk.own1 (t:=zf) (by rw[qu];exact a) (gS _) (by simp) (by simp) oM;exact c w' _ he (o.ints.weaken λ_ _ _=>trivial)
theorem branches_spec {dv tv:Value} {mb:Nat} {ds:List M.Dcl} {t:M.Tm} (W:DclsR F w dv ds) (hm:KindsR w mb) (Y:M.declOk ds=true) (Z:TermR G w tv t) (hs:M.sortM ds t≠ -1) (p:Vd K w G (M.ruleB t)):vcall qT #[qL dv mb,tv] w K:=by
 refine ze {cuts:=[(8201,[]),(8194,[6])]} Tryz.func257 ?_;refine rs_enter (B:=λt2 t3 t4 a1=>_) W hm Z λw1 b2 b3 b4 kv rs=>?_;have hlen:=M.len_of hs;have v:t.op=25->t.ks.length=1:=λh=>by rw[h] at hlen;simp[M.arity] at hlen;omega
 have s:t.op=23->t.ks.length=3:=λh=>by rw[h] at hlen;simp[M.arity] at hlen;omega
 refine zo (λu w'=>u=[]/\Ext w1 w'/\t.op=23/\M.isM (M.kid t 0) 1=false/\M.isM (M.kid t 0) 0=false) (λC V=>?_) ?_
 .refine zo (λu w'=> ∃b:Bool,u=[.bool b]/\w'=w1/\(b=true↔t.op=25/\(M.kid t 0).op=25)) (λD hD=>?_) ?_
  .simp only[push_cast,rs.q.ld0];refine zb (λa=>?_) (λa=>?_)
   .have:=v a;simp(disch:=exact oS) only[push_cast,rs.q.ld4,rs.k.iaddr];rw[tms_op rs.k oM];refine oZ ?_;exact hD _ _ ⟨_,rfl,rfl,by rw[gg];exact⟨λh=>⟨a,h⟩,λh=>h.2⟩⟩
   .exact hD _ _ ⟨false,rfl,rfl,⟨λh=>(by cases h),λh=>absurd h.1 a⟩⟩
  rintro u1 g1 w2 ⟨b,rfl,rfl,O⟩;refine oZ ?_;refine zm (λc=>?_) (λc=>?_)
  .obtain⟨S,T⟩:=O.1 c;have Q:=v S;have k0:=M.good_kid hs (i:=0) oM;have I:(M.kid t 0).ks.length=1:=by have:=M.len_of k0;rw[T] at this;simp[M.arity] at this;omega
   simp(disch:=exact oS) only[push_cast,rs.q.ld4,rs.k.iaddr];refine tms_kids rs.k oM λa0 r=>?_;have R:(t.ks.getD 0 default).ks.length=1:=I;simp(disch:=exact oS) only[push_cast,r.iaddr];refine r.load zc oM λx L=>?_;exact yo rs (rs_kid rs L) (qb p (by unfold M.ruleB;rw[K3 ⟨S,T⟩];rfl))
  have nb: ¬(t.op=25/\(M.kid t 0).op=25):=λh=>by have:=O.2 h;rw[c] at this;cases this
  simp only[push_cast,rs.q.ld0];refine zb (λa=>?_) (λa=>?_)
  .try simp only[push_cast]
   exact yo rs Ze (jT p (by unfold M.ruleB;rw[X0 nb,K3 a]))
  have m:t.op=23:=oM;have Q:=s m;simp(disch:=exact oS) only[push_cast,rs.q.ld4,rs.k.iaddr];refine rs.k.load zc oM λx L=>?_;refine jr L λw3 l=>?_;have j:=zZ rs l;simp(disch:=exact oS) only[push_cast,j.q.ld4,j.k.iaddr];refine zm (λd=>?_) (λd=>?_)
  .refine j.k.load zc oM λy N=>?_;exact yo j (rs_kid j N) (qb p (by unfold M.ruleB;rw[X0 nb,X0 a];exact K3 d))
  refine j.k.load zc oM λy N=>?_;refine jr N λw4 f=>?_;have n:=zZ j f;simp(disch:=exact oS) only[push_cast,n.q.ld4,n.k.iaddr];refine zm (λe=>?_) (λe=>?_)
  .refine n.k.load zc oM λz hz=>?_;refine yo n (rs_kid n hz) (qb p ?_);unfold M.ruleB;rw[X0 nb,X0 a,X0 (by rw[show M.isM (M.kid t 0) 1=false from d];decide)];exact K3 e
  exact V _ _ ⟨rfl,l.trans f,m,d,e⟩
 rintro u g w2 ⟨rfl,E,m,i1,i0⟩;have Q:=s m;refine zd λw3 l _=>?_;have j:=zZ rs (E.trans l);obtain⟨css,o,X,A⟩:=j.k;simp(disch:=exact oS) only[push_cast,j.q.ld4,o.iaddr,o.ldAgg,Q1];refine TermSame_spec _ (A 1 oM).term (A 2 oM).term λw4 f=>?_;have n:=zZ j f;have sl4:=o.ext f;simp(disch:=exact oS) only[push_cast,n.q.ld4,sl4.iaddr,sl4.ldAgg,Q1,gn];refine chosen_spec ((A 1 oM).ext f).term λw5 v5 H J=>?_;have U:=zZ n H;simp only[push_cast,Q1];refine yo U (rs_kid U J) (xZ0 p ?_);unfold M.ruleB;rw[X0 oM,X0 oM,X0 (by rw[i1];decide),X0 (by rw[i0];decide)];simp only[gg];rfl
theorem layers_spec {dv tv:Value} {mb:Nat} {ds:List M.Dcl} {t:M.Tm} (J:DclsR F w dv ds) (hm:KindsR w mb) (A:M.declOk ds=true) (Q:TermR G w tv t) (hs:M.sortM ds t≠ -1) (y:Vd K w G (M.ruleL ds t)):vcall jx #[qL dv mb,tv] w K:=by
 refine ze {cuts:=[(20486,[32])]} Tryz.func259 ?_;refine rs_enter (B:=λt2 t3 t4 V=>_) J hm Q λw1 b2 b3 b4 kv rs=>?_;have hlen:=M.len_of hs;simp only[push_cast,rs.q.ld0];refine zb (λa=>?_) (λa=>?_)
 .have L:t.ks.length=1:=by rw[a] at hlen;simp[M.arity] at hlen;omega
  refine zd λw2 H _=>?_;have n:=zZ rs H;obtain⟨css,r,O,E⟩:=n.k;simp(disch:=exact oS) only[push_cast,n.q.ld1,n.q.ld2,n.q.ld4,n.f.ldAgg (t:=ya) xH,r.iaddr,r.ldAgg,Q1];refine zb (λb=>?_) (λb=>?_)
  .refine jt n.d n.m A (E 0 oM).term λT l=>?_;have j:=zZ n l;have sl3:=r.ext l;have hw:=M.sort_range A (M.kid t 0);simp(disch:=exact oS) only[push_cast,j.q.ld1,j.q.ld4,sl3.iaddr,sl3.ldAgg,Q1,gn];rw[show t.ks.getD 0 default=M.kid t 0 from rfl,show IntKind.i64.wrap (M.sortM ds (M.kid t 0)-1)=M.sortM ds (M.kid t 0)-1 from zj oM oM];refine chosen_spec ((E 0 oM).ext l).term λU v5 p s=>?_;have C:=zZ j p;simp only[push_cast,Q1];refine yo C (rs_kid C s) (xZ0 y ?_);unfold M.ruleL;rw[K3 a];by_cases e:t.a=M.sortM ds (M.kid t 0)-1
   .rw[K3 ⟨b,e⟩,K3 (gl e)];rfl
   .rw[X0 (λx=>e x.2),X0 (by rw[gk e];decide)]
  .refine chosen_spec (E 0 oM).term λU v5 p s=>?_;have C:=zZ n p;simp only[push_cast,Q1];refine yo C (rs_kid C s) (xZ0 y ?_);unfold M.ruleL;rw[K3 a,X0 (λx=>b x.1)];rfl
 have nothing: ¬((t.op=1\/t.op=2)/\(M.kid t 0).op=t.op)->M.ruleL ds t=none:=λh=>by unfold M.ruleL;rw[X0 a,X0 h]
 refine zo (λu w'=> ∃b:Bool,u=[.bool b]/\w'=w1/\(b=true↔t.op=1\/t.op=2)) (λD hD=>?_) ?_
 .try simp only[push_cast]
  refine zb (λb=>?_) (λb=>?_)
  .exact hD _ _ ⟨_,rfl,rfl,by rw[gg];exact⟨.inl,λh=>oM⟩⟩
  .exact hD _ _ ⟨_,rfl,rfl,by rw[gg];exact⟨.inr,λh=>oM⟩⟩
 rintro u g w2 ⟨b,rfl,rfl,I⟩;refine oZ ?_;refine zm (λc=>?_) (λc=>?_)
 .have v:=I.1 c;have L:t.ks.length=1:=by rcases v with e|e<;>rw[e] at hlen<;>simp[M.arity] at hlen<;>omega
  refine zd λT l _=>?_;have j:=zZ rs l;simp(disch:=exact oS) only[push_cast,j.q.ld0,j.q.ld4,j.k.iaddr,Q1];rw[tms_op j.k oM];simp(disch:=exact oS) only[push_cast,j.q.ld0,j.q.ld4,j.k.iaddr,Q1];refine zb (λe=>?_) (λe=>?_)
  .have k0:=M.good_kid hs (i:=0) oM;have N:(t.ks.getD 0 default).ks.length=1:=by
    have:=M.len_of k0;rw[show(M.kid t 0).op=t.op from e] at this;rcases v with o|o<;>rw[o] at this<;>simp[M.arity] at this<;>(unfold M.kid at this;omega)
   refine tms_kids j.k oM λS z=>?_;simp(disch:=exact oS) only[push_cast,z.iaddr];refine z.load zc oM λx R=>?_;exact yo j (rs_kid j R) (qb y (by unfold M.ruleL;rw[X0 a];exact K3 ⟨v,e⟩))
  .try simp only[push_cast]
   exact yo j Ze (jT y (nothing λh=>e h.2))
 .have n12: ¬(t.op=1\/t.op=2):=λh=>by have:=I.2 h;rw[c] at this;cases this
  try simp only[push_cast]
  exact yo rs Ze (jT y (nothing λh=>n12 h.1))
theorem twins_spec {dv tv:Value} {mb:Nat} {ds:List M.Dcl} {t:M.Tm} (S:DclsR F w dv ds) (hm:KindsR w mb) (I:M.declOk ds=true) (V:TermR G w tv t) (hs:M.sortM ds t≠ -1) (p:Vd K w G (M.ruleW ds t)):vcall k8 #[qL dv mb,tv] w K:=by
 refine ze {cuts:=[(8195,[]),(20486,[25]),(32777,[32])]} Tryz.func260 ?_;refine rs_enter (B:=λt2 t3 t4 Z=>_) S hm V λw1 b2 b3 b4 kv rs=>?_;have no:∀w',RS G w w' b2 b3 b4 dv kv mb ds t->¬(t.ks.length=2/\M.kid t 0=M.kid t 1)->zI za (ptr b4) (.agg ⟨JW⟩) w' λ_ w1=>vlv za (ptr b4) w1 λr w2=>K (.tuple #[r,.bool false]) w2:=λw' J h=>
  yo J Ze (jT p (by unfold M.ruleW;rw[X0 h]))
 refine zo (λu w'=>u=[]/\Ext w1 w'/\t.ks.length=2/\M.kid t 0=M.kid t 1) (λC R=>?_) ?_
 .refine zd λw2 n _=>?_;have j:=zZ rs n;obtain⟨css,y,U,O⟩:=j.k;simp(disch:=exact oS) only[push_cast,j.q.ld4,j.k.len,Q1];refine zb (λa=>?_) (λa=>?_)
  .try simp only[push_cast]
   exact no _ j λh=>a (by rw[h.1];rfl)
  have H:t.ks.length=2:=oM;simp(disch:=exact oS) only[push_cast,j.q.ld4,y.iaddr,y.ldAgg,Q1];refine TermSame_spec _ (O 0 oM).term (O 1 oM).term λE i=>?_;have Y:=zZ j i;simp only[push_cast,Q1];refine zm (λb=>?_) (λb=>?_)
  .rw[gX,decide_eq_false_iff_not] at b
   try simp only[push_cast]
   exact no _ Y λh=>b h.2
  .rw[Gc,gg] at b;exact R _ _ ⟨rfl,n.trans i,H,b⟩
 rintro u g w2 ⟨rfl,n,H,T⟩;have j:=zZ rs n;have W:M.ruleW ds t=if t.op=3\/t.op=4 then some (M.kid t 0) else if t.op=5\/t.op=7 then some (M.constM (M.sortM ds t) 0) else if t.op=15 then some (M.constM 0 1) else if t.op=16\/t.op=17 then some (M.constM 0 0) else none:=by
  unfold M.ruleW;rw[K3 ⟨H,T⟩]
 simp only[push_cast,j.q.ld0];refine zo (λu w'=> ∃b:Bool,u=[.bool b]/\w'=w2/\(b=true↔t.op=3\/t.op=4)) (λD hD=>?_) ?_
 .try simp only[push_cast]
  refine zb (λb=>?_) (λb=>?_)
  .exact hD _ _ ⟨_,rfl,rfl,by rw[gg];exact⟨.inl,λh=>oM⟩⟩
  .exact hD _ _ ⟨_,rfl,rfl,by rw[gg];exact⟨.inr,λh=>oM⟩⟩
 rintro u1 g1 L ⟨b,rfl,rfl,N⟩;refine oZ ?_;refine zm (λc=>?_) (λc=>?_)
 .simp(disch:=exact oS) only[push_cast,j.q.ld4,j.k.iaddr];refine j.k.load zc oM λx X=>?_;exact yo j (rs_kid j X) (qb p (by rw[W,K3 (N.1 c)];rfl))
 have z: ¬(t.op=3\/t.op=4):=λh=>by have:=N.2 h;rw[c] at this;cases this
 refine zo (λu w'=> ∃b:Bool,u=[.bool b]/\w'=L/\(b=true↔t.op=5\/t.op=7)) (λD hD=>?_) ?_
 .try simp only[push_cast]
  refine zb (λb=>?_) (λb=>?_)
  .exact hD _ _ ⟨_,rfl,rfl,by rw[gg];exact⟨.inl,λh=>oM⟩⟩
  .exact hD _ _ ⟨_,rfl,rfl,by rw[gg];exact⟨.inr,λh=>oM⟩⟩
 rintro u2 g2 Q ⟨b',rfl,rfl,s⟩;refine oZ ?_;refine zm (λc'=>?_) (λc'=>?_)
 .rw[j.f.ldAgg (t:=ya) xH,j.q.ldAgg (t:=za) zc];refine jt j.d j.m I ⟨kv,rfl,j.k⟩ λw3 v=>?_;refine constant_spec λE v4 i l=>?_;exact yo (zZ j (v.trans i)) (rs_new (zZ j v) i l) (qb p (by rw[W,X0 z,K3 (s.1 c')]))
 have A: ¬(t.op=5\/t.op=7):=λh=>by have:=s.2 h;rw[c'] at this;cases this
 try simp only[push_cast]
 refine zb (λe=>?_) (λe=>?_)
 .refine constant_spec λE v4 i l=>?_;exact yo (zZ j i) (rs_new j i l) (qb p (by rw[W,X0 z,X0 A,K3 e]))
 by_cases o:t.op=16
 .simp only[o,decide_true,push_cast];refine constant_spec λE v4 i l=>?_;exact yo (zZ j i) (rs_new j i l) (qb p (by rw[W,X0 z,X0 A,X0 e,K3 (.inl o)]))
 .simp only[o,decide_false,push_cast];refine zb (λf=>?_) (λf=>?_)
  .refine constant_spec λE v4 i l=>?_;exact yo (zZ j i) (rs_new j i l) (qb p (by rw[W,X0 z,X0 A,X0 e,K3 (.inr f)]))
  .try simp only[push_cast]
   exact yo j Ze (jT p (by rw[W,X0 z,X0 A,X0 e,X0 oM]))
end
section
variable {w:World} {K:oK} {F D G:oA}
def TwoV (G:oA) (w0 w':World) (t:M.Tm) (u:List Value):Prop:= ∃b b' c c',u=[ptr b,ptr b']/\Blk w' b c za/\TmR (λx=>G x/\x<w0.heap.size) w' c (M.kid t 0)/\Blk w' b' c' za/\TmR (λx=>G x/\x<w0.heap.size) w' c' (M.kid t 1)
theorem yR0 {w0 w1:World} {b2 b3 b4 mb:Nat} {dv kv:Value} {ds:List M.Dcl} {t:M.Tm} {C:List Value->World->Prop} (rs:RS G w0 w1 b2 b3 b4 dv kv mb ds t) (f:2<=t.ks.length) (g:∀u w',Ext w1 w'->TwoV G w0 w' t u->C u w'):QD (ptr b3) w1 C:=
 pairReg_ok rs.q rs.k f λw' b e c c' he h i a d=>g _ _ he ⟨b,e,c,c',rfl,h,i,a,d⟩
theorem truths_spec {dv tv:Value} {mb:Nat} {ds:List M.Dcl} {t:M.Tm} (hd:DclsR F w dv ds) (hm:KindsR w mb) (ht:TermR G w tv t) (hs:M.sortM ds t≠ -1) (y:Vd K w G (M.ruleT t)):vcall jw #[qL dv mb,tv] w K:=by
 refine ze {cuts:=[(20486,[6,7]),(28679,[8,9]),(32779,[]),(32776,[26])]} Tryz.func258 ?_;refine rs_enter (B:=λt2 t3 t4 a0=>_) hd hm ht λw1 b2 b3 b4 kv rs=>?_;have hlen:=M.len_of hs;rw[rs.q.ldAgg (t:=za) zc];refine intsL (xs:=[26,27]) dC λw2 av Q hav=>?_;have r2:=zZ rs Q;refine among_spec (t:=t) (F:=λx=>G x/\x<w.heap.size) ⟨kv,rfl,r2.k⟩ hav dC λw3 R=>?_;have N:=zZ r2 R;have r:t.op∈[(26:Int),27]↔t.op=26\/t.op=27:=by simp
 refine oZ ?_;refine zm (λa=>?_) (λa=>?_)
 .rw[gX,decide_eq_false_iff_not,r] at a
  try simp only[push_cast]
  exact yo N Ze (jT y (by unfold M.ruleT;rw[X0 a]))
 rw[Gc,gg,r] at a;have h2:t.ks.length=2:=by rcases a with e|e<;>rw[e] at hlen<;>simp[M.arity] at hlen<;>omega
 refine zo (λu w'=>u=[nI (M.neutral t.op),nI (1-M.neutral t.op)]/\w'=w3) (λC J=>?_) ?_
 .simp only[push_cast,N.q.ld0];refine zb (λb=>?_) (λb=>?_)
  .refine J _ _ ⟨?_,rfl⟩;unfold M.neutral;rw[X0 oM];rfl
  .refine J _ _ ⟨?_,rfl⟩;unfold M.neutral;rw[K3 oM];rfl
 rintro u g Y ⟨rfl,rfl⟩;refine zo (λu w'=>Ext Y w'/\TwoV G w w' t u) (λC J=>?_) ?_
 .have reg:=yR0 (C:=C) N oM λu w' he h=>J u w' ⟨he,h⟩;unfold QD at reg;simp only[push_cast] at reg;exact reg
 rintro u1 g1 w4 ⟨S,b,b',c,c',rfl,L,z,n,l⟩;have r4:=zZ N S;have gc:aggB za c.length=true:=by rw[zR z];exact zc
 have m:aggB za c'.length=true:=by rw[zR l];exact zc
 have T:M.ruleT t=if M.isM (M.kid t 0) (M.neutral t.op)=true\/M.kid t 0=M.kid t 1 then some (M.kid t 1) else if M.isM (M.kid t 1) (M.neutral t.op)=true then some (M.kid t 0) else if M.isM (M.kid t 0) (1-M.neutral t.op)=true\/M.isM (M.kid t 1) (1-M.neutral t.op)=true then some (M.constM 0 (1-M.neutral t.op)) else none:=by
  unfold M.ruleT;rw[K3 a]
 refine zo (λu w'=>u=[]/\Ext w4 w'/\¬(M.isM (M.kid t 0) (M.neutral t.op)=true\/M.kid t 0=M.kid t 1)/\¬M.isM (M.kid t 1) (M.neutral t.op)=true) (λD hD=>?_) ?_
 .refine zo (λu w'=> ∃e:Bool,u=[.bool e]/\Ext w4 w'/\(e=true↔M.isM (M.kid t 0) (M.neutral t.op)=true\/M.kid t 0=M.kid t 1)) (λE Z=>?_) ?_
  .refine oZ ?_;rw[L.ldAgg (t:=za) gc];refine jr z.term λw5 d=>?_;refine zm (λi=>?_) (λi=>?_)
   .exact Z _ _ ⟨true,rfl,d,⟨λ_=> .inl i,λ_=>rfl⟩⟩
   .try simp only[push_cast]
    rw[(L.ext d).ldAgg (t:=za) gc,(n.ext d).ldAgg (t:=za) m];refine TermSame_spec _ (z.ext d).term (l.ext d).term λw6 f=>?_;refine Z _ _ ⟨_,rfl,d.trans f,?_⟩;rw[gg];exact⟨.inr,λh=>h.elim (λx=>by rw[i] at x;cases x) id⟩
  rintro u2 g2 w5 ⟨e,rfl,d,A⟩;have I:=zZ r4 d;refine oZ ?_;refine zm (λi=>?_) (λi=>?_)
  .try simp only[push_cast]
   rw[(n.ext d).ldAgg (t:=za) m];exact yo I (rs_kid I (l.ext d).term) (qb y (by rw[T,K3 (A.1 i)]))
  have H: ¬(M.isM (M.kid t 0) (M.neutral t.op)=true\/M.kid t 0=M.kid t 1):=λh=>by have:=A.2 h;rw[i] at this;cases this
  try simp only[push_cast]
  rw[(n.ext d).ldAgg (t:=za) m];refine jr (l.ext d).term λw6 f=>?_;have v:=zZ I f;refine zm (λj=>?_) (λj=>?_)
  .try simp only[push_cast]
   rw[(L.ext (d.trans f)).ldAgg (t:=za) gc];exact yo v (rs_kid v (z.ext (d.trans f)).term) (qb y (by rw[T,X0 H,K3 j]))
  .exact hD _ _ ⟨rfl,d.trans f,H,by rw[j];decide⟩
 rintro u2 g2 w5 ⟨rfl,d,H,n2⟩;have I:=zZ r4 d;refine oZ ?_;rw[(L.ext d).ldAgg (t:=za) gc];refine jr (z.ext d).term λw6 f=>?_;have v:=zZ I f;refine zm (λi=>?_) (λi=>?_)
 .refine constant_spec λw7 v7 o V=>?_;have O:=zZ v o;refine chosen_spec (rs_new v o V) λw8 v8 p s=>?_;have X:=zZ O p;refine oZ ?_;exact yo X s (qb y (by rw[T,X0 H,X0 n2,K3 (.inl i)]))
 .try simp only[push_cast]
  rw[(n.ext (d.trans f)).ldAgg (t:=za) m];refine jr (l.ext (d.trans f)).term λw7 o=>?_;have O:=zZ v o;refine constant_spec λw8 v8 p s=>?_;have X:=zZ O p;refine chosen_spec (rs_new O p s) λw9 v9 U W=>?_;have r9:=zZ X U;refine oZ ?_;refine yo r9 W (xZ0 y ?_);rw[T,X0 H,X0 n2];by_cases j:M.isM (M.kid t 1) (1-M.neutral t.op)=true
  .rw[K3 (.inr j),K3 j]
  .rw[X0 (λh=>h.elim (λx=>by rw[i] at x;cases x) j),X0 j]
theorem seconds_spec {dv tv:Value} {mb:Nat} {ds:List M.Dcl} {t:M.Tm} (hd:DclsR F w dv ds) (hm:KindsR w mb) (ht:TermR G w tv t) (J:Vd K w G (M.ruleS t)):vcall ji #[qL dv mb,tv] w K:=by
 refine ze {cuts:=[(16388,[6,7]),(20488,[]),(20485,[21])]} Tryz.func261 ?_;refine rs_enter (B:=λt2 t3 t4 a0=>_) hd hm ht λw1 b2 b3 b4 kv rs=>?_;simp only[push_cast,rs.q.ld4,rs.k.len];refine zb (λa=>?_) (λa=>?_)
 .try simp only[push_cast]
  exact yo rs Ze (jT J (by unfold M.ruleS;rw[X0 oM]))
 have h2:t.ks.length=2:=oM
 refine zo (λu w'=>Ext w1 w'/\TwoV G w w' t u) (λC hC=>?_) ?_
 .have reg:=yR0 (C:=C) rs oM λu w' he h=>hC u w' ⟨he,h⟩;unfold QD at reg;simp only[push_cast] at reg;exact reg
 rintro u1 g1 Z ⟨U,b,b',c,c',rfl,X,S,p,m⟩;have V:=zZ rs U;have gc:aggB za c.length=true:=by rw[zR S];exact zc
 have n:aggB za c'.length=true:=by rw[zR m];exact zc
 have T:M.ruleS t=if M.isM (M.kid t 1) 0=true/\(t.op=4\/t.op=5\/t.op=6\/t.op=7\/t.op=11\/t.op=12\/t.op=13) then some (M.kid t 0) else if M.isM (M.kid t 1) 0=true/\(t.op=3\/t.op=8) then some (M.kid t 1) else if M.isM (M.kid t 1) 1=true/\t.op=8 then some (M.kid t 0) else none:=by
  unfold M.ruleS;rw[K3 h2]
 refine zo (λu w'=>u=[]/\Ext Z w'/\¬(M.isM (M.kid t 1) 0=true/\(t.op=4\/t.op=5\/t.op=6\/t.op=7\/t.op=11\/t.op=12\/t.op=13))/\¬(M.isM (M.kid t 1) 0=true/\(t.op=3\/t.op=8))) (λD hD=>?_) ?_
 .refine zo (λu w'=> ∃e:Bool,u=[.bool e]/\Ext Z w'/\(e=true↔M.isM (M.kid t 1) 0=true/\(t.op=4\/t.op=5\/t.op=6\/t.op=7\/t.op=11\/t.op=12\/t.op=13))) (λE W=>?_) ?_
  .refine oZ ?_;rw[p.ldAgg (t:=za) n];refine jr m.term λw5 d=>?_;have s:=zZ V d;refine zm (λi=>?_) (λi=>?_)
   .try simp only[push_cast]
    rw[s.q.ldAgg (t:=za) zc];refine intsL (xs:=[4,5,6,7,11,12,13]) dC λw6 av f hav=>?_;have H:=zZ s f;refine among_spec (t:=t) (F:=λx=>G x/\x<w.heap.size) ⟨kv,rfl,H.k⟩ hav dC λw7 g=>?_;refine W _ _ ⟨_,rfl,d.trans (f.trans g),?_⟩;rw[gg];simp only[gm,gC,Gi];exact⟨λh=>⟨i,h⟩,λh=>h.2⟩
   .exact W _ _ ⟨false,rfl,d,⟨λh=>(by cases h),λh=>(by rw[i] at h;cases h.1)⟩⟩
  rintro u2 g2 w5 ⟨e,rfl,d,R⟩;have s:=zZ V d;refine oZ ?_;refine zm (λi=>?_) (λi=>?_)
  .try simp only[push_cast]
   rw[(X.ext d).ldAgg (t:=za) gc];exact yo s (rs_kid s (S.ext d).term) (qb J (by rw[T,K3 (R.1 i)]))
  have A:=λh=>(show False by have:=R.2 h;rw[i] at this;cases this)
  try simp only[push_cast]
  rw[(p.ext d).ldAgg (t:=za) n];refine jr (m.ext d).term λw6 f=>?_;have H:=zZ s f;refine zm (λj=>?_) (λj=>?_)
  .try simp only[push_cast]
   rw[H.q.ldAgg (t:=za) zc];refine intsL (xs:=[3,8]) dC λw7 av g hav=>?_;have I:=zZ H g;refine among_spec (t:=t) (F:=λx=>G x/\x<w.heap.size) ⟨kv,rfl,I.k⟩ hav dC λw8 l=>?_;have v:=zZ I l;have y:=d.trans (f.trans (g.trans l));have r:t.op∈[(3:Int),8]↔t.op=3\/t.op=8:=(by simp);refine zb (λo=>?_) (λo=>?_)
   .try simp only[push_cast]
    rw[(p.ext y).ldAgg (t:=za) n];exact yo v (rs_kid v (m.ext y).term) (qb J (by rw[T,X0 A,K3 ⟨j,r.1 o⟩]))
   .exact hD _ _ ⟨rfl,y,A,λh=>o (r.2 h.2)⟩
  .exact hD _ _ ⟨rfl,d.trans f,A,λh=>by rw[j] at h;cases h.1⟩
 rintro u2 g2 w5 ⟨rfl,d,A,Y⟩;have s:=zZ V d;refine zd λw6 f _=>?_;have H:=zZ s f;have L:=X.ext (d.trans f);have N:=p.ext (d.trans f);have O:=S.ext (d.trans f);have Q:=m.ext (d.trans f);simp only[push_cast,L.ldAgg (t:=za) gc,N.ldAgg (t:=za) n,Q1];refine jr Q.term λw7 g=>?_;have I:=zZ H g;simp only[push_cast,(L.ext g).ldAgg (t:=za) gc,Q1,gn];refine zm (λi=>?_) (λi=>?_)
 .simp only[push_cast,I.q.ld0,Q1];refine chosen_spec (O.ext g).term λw8 v8 l z=>?_;have v:=zZ I l;simp only[push_cast,Q1];refine yo v (rs_kid v z) (xZ0 J ?_);rw[T,X0 A,X0 Y];by_cases o:t.op=8
  .rw[K3 ⟨i,o⟩,K3 (gl o)]
  .rw[X0 (λh=>o h.2),X0 (by rw[gk o];decide)]
 .refine chosen_spec (O.ext g).term λw8 v8 l z=>?_;have v:=zZ I l;simp only[push_cast,Q1];refine yo v (rs_kid v z) (jT J ?_);rw[T,X0 A,X0 Y,X0 (λh=>by rw[i] at h;cases h.1)]
theorem firsts_spec {dv tv:Value} {mb:Nat} {ds:List M.Dcl} {t:M.Tm} (hd:DclsR F w dv ds) (hm:KindsR w mb) (ht:TermR G w tv t) (L:Vd K w G (M.ruleF t)):vcall jy #[qL dv mb,tv] w K:=by
 refine ze {cuts:=[(16388,[6,7]),(20488,[]),(20485,[21])]} Tryz.func262 ?_;refine rs_enter (B:=λt2 t3 t4 a0=>_) hd hm ht λw1 b2 b3 b4 kv rs=>?_;simp only[push_cast,rs.q.ld4,rs.k.len];refine zb (λa=>?_) (λa=>?_)
 .try simp only[push_cast]
  exact yo rs Ze (jT L (by unfold M.ruleF;rw[X0 oM]))
 have h2:t.ks.length=2:=oM
 refine zo (λu w'=>Ext w1 w'/\TwoV G w w' t u) (λC hC=>?_) ?_
 .have reg:=yR0 (C:=C) rs oM λu w' he h=>hC u w' ⟨he,h⟩;unfold QD at reg;simp only[push_cast] at reg;exact reg
 rintro u1 g1 Z ⟨V,b,b',c,c',rfl,R,O,N,z⟩;have W:=zZ rs V;have gc:aggB za c.length=true:=by rw[zR O];exact zc
 have y:aggB za c'.length=true:=by rw[zR z];exact zc
 have T:M.ruleF t=if M.isM (M.kid t 0) 0=true/\(t.op=4\/t.op=5\/t.op=6) then some (M.kid t 1) else if M.isM (M.kid t 0) 0=true/\(t.op=3\/t.op=8) then some (M.kid t 0) else if M.isM (M.kid t 0) 1=true/\t.op=8 then some (M.kid t 1) else none:=by
  unfold M.ruleF;rw[K3 h2]
 refine zo (λu w'=>u=[]/\Ext Z w'/\¬(M.isM (M.kid t 0) 0=true/\(t.op=4\/t.op=5\/t.op=6))/\¬(M.isM (M.kid t 0) 0=true/\(t.op=3\/t.op=8))) (λD hD=>?_) ?_
 .refine zo (λu w'=> ∃e:Bool,u=[.bool e]/\Ext Z w'/\(e=true↔M.isM (M.kid t 0) 0=true/\(t.op=4\/t.op=5\/t.op=6))) (λE X=>?_) ?_
  .refine oZ ?_;rw[R.ldAgg (t:=za) gc];refine jr O.term λw5 d=>?_;have r:=zZ W d;refine zm (λi=>?_) (λi=>?_)
   .try simp only[push_cast]
    rw[r.q.ldAgg (t:=za) zc];refine intsL (xs:=[4,5,6]) dC λw6 av f hav=>?_;have I:=zZ r f;refine among_spec (t:=t) (F:=λx=>G x/\x<w.heap.size) ⟨kv,rfl,I.k⟩ hav dC λw7 g=>?_;refine X _ _ ⟨_,rfl,d.trans (f.trans g),?_⟩;rw[gg];simp only[gm,gC,Gi];exact⟨λh=>⟨i,h⟩,λh=>h.2⟩
   .exact X _ _ ⟨false,rfl,d,⟨λh=>(by cases h),λh=>(by rw[i] at h;cases h.1)⟩⟩
  rintro u2 g2 w5 ⟨e,rfl,d,Q⟩;have r:=zZ W d;refine oZ ?_;refine zm (λi=>?_) (λi=>?_)
  .try simp only[push_cast]
   rw[(N.ext d).ldAgg (t:=za) y];exact yo r (rs_kid r (z.ext d).term) (qb L (by rw[T,K3 (Q.1 i)]))
  have H:=λh=>(show False by have:=Q.2 h;rw[i] at this;cases this)
  try simp only[push_cast]
  rw[(R.ext d).ldAgg (t:=za) gc];refine jr (O.ext d).term λw6 f=>?_;have I:=zZ r f;refine zm (λj=>?_) (λj=>?_)
  .try simp only[push_cast]
   rw[I.q.ldAgg (t:=za) zc];refine intsL (xs:=[3,8]) dC λw7 av g hav=>?_;have J:=zZ I g;refine among_spec (t:=t) (F:=λx=>G x/\x<w.heap.size) ⟨kv,rfl,J.k⟩ hav dC λw8 l=>?_;have s:=zZ J l;have v:=d.trans (f.trans (g.trans l));have p:t.op∈[(3:Int),8]↔t.op=3\/t.op=8:=(by simp);refine zb (λo=>?_) (λo=>?_)
   .try simp only[push_cast]
    rw[(R.ext v).ldAgg (t:=za) gc];exact yo s (rs_kid s (O.ext v).term) (qb L (by rw[T,X0 H,K3 ⟨j,p.1 o⟩]))
   .exact hD _ _ ⟨rfl,v,H,λh=>o (p.2 h.2)⟩
  .exact hD _ _ ⟨rfl,d.trans f,H,λh=>by rw[j] at h;cases h.1⟩
 rintro u2 g2 w5 ⟨rfl,d,H,Y⟩;have r:=zZ W d;refine zd λw6 f _=>?_;have I:=zZ r f;have S:=R.ext (d.trans f);have m:=N.ext (d.trans f);have U:=O.ext (d.trans f);have n:=z.ext (d.trans f);simp only[push_cast,S.ldAgg (t:=za) gc,m.ldAgg (t:=za) y,Q1];refine jr U.term λw7 g=>?_;have J:=zZ I g;simp only[push_cast,(m.ext g).ldAgg (t:=za) y,Q1,gn];refine zm (λi=>?_) (λi=>?_)
 .simp only[push_cast,J.q.ld0,Q1];refine chosen_spec (n.ext g).term λw8 v8 l A=>?_;have s:=zZ J l;simp only[push_cast,Q1];refine yo s (rs_kid s A) (xZ0 L ?_);rw[T,X0 H,X0 Y];by_cases o:t.op=8
  .rw[K3 ⟨i,o⟩,K3 (gl o)]
  .rw[X0 (λh=>o h.2),X0 (by rw[gk o];decide)]
 .refine chosen_spec (n.ext g).term λw8 v8 l A=>?_;have s:=zZ J l;simp only[push_cast,Q1];refine yo s (rs_kid s A) (jT L ?_);rw[T,X0 H,X0 Y,X0 (λh=>by rw[i] at h;cases h.1)]
end
section
variable {w:World} {K:oK} {F F' D G:oA}
def fsL (dv:Value) (mb:Nat):List Value:=[kc,qT,jw,jx,k8,ji,jy].map λn=> .func (.func n) #[qL dv mb] #[]
theorem xY0 {dv:Value} {mb:Nat} (e:∀w' v,Ext w w'->Vals (λ_=>True) w' v (fsL dv mb)->K v w'):vcall Xf #[qL dv mb] w K:=by
 refine ze {} Tryz.func229 ?_;refine zl λb1 w1 f a g c=>?_;simp only[push_cast,c.ldAgg (t:=ya) xH];refine vbuildS_row1 (xs:=fsL dv mb) qQ (by simp only[push_cast]) (z:= .nilFunc) (by unfold yg;kernel_rfl) (λx h=>by obtain⟨y,_,rfl⟩:=gz.1 h;rfl) (by show 7<=16777216;decide) λb w' i he hs d=>?_;have o:OwnV zW w' (.slice (some ⟨b,0,none⟩) (fsL dv mb).length (fsL dv mb).length) (fsL dv mb):=Blk.own1 (t:=zW) (by rw[qM];exact d) (gS _) rfl rfl (by show 7<=9223372036854775807;decide);exact e w' _ (a.trans he) (OwnV.vals o|>.weaken λ_ _ _=>trivial)
def rl (ds:List M.Dcl) (t:M.Tm) (i:Nat):Option M.Tm:=[M.ruleX ds t,M.ruleB t,M.ruleT t,M.ruleL ds t,M.ruleW ds t,M.ruleS t,M.ruleF t].getD i none
theorem callRule {dv tv:Value} {mb:Nat} {ds:List M.Dcl} {t:M.Tm} {i:Nat} (hi:i<7) (c:DclsR F w dv ds) (hm:KindsR w mb) (a:M.declOk ds=true) (d:TermR G w tv t) (hs:M.sortM ds t≠ -1) (b:Vd K w G (rl ds t i)):vcallv ((fsL dv mb).getD i undef) #[tv] w K:=by
 match i,hi with
 |0,_=>exact fixed_spec c hm a d hs b
 |1,_=>exact branches_spec c hm a d hs b
 |2,_=>exact truths_spec c hm d hs b
 |3,_=>exact layers_spec c hm a d hs b
 |4,_=>exact twins_spec c hm a d hs b
 |5,_=>exact seconds_spec c hm d b
 |6,_=>exact firsts_spec c hm d b
theorem rl_none {ds:List M.Dcl} {t:M.Tm} (h:∀j,j<7->rl ds t j=none):M.ruleA ds t=none:=by
 have a:M.ruleX ds t=none:=h 0 oM;have b:M.ruleB t=none:=h 1 oM;have c:M.ruleT t=none:=h 2 oM;have d:M.ruleL ds t=none:=h 3 oM;have e:M.ruleW ds t=none:=h 4 oM;have f:M.ruleS t=none:=h 5 oM;have g:M.ruleF t=none:=h 6 oM;unfold M.ruleA;rw[a,b,c,d,e,f,g];rfl
theorem rl_some {ds:List M.Dcl} {t u:M.Tm} {i:Nat} (hi:i<7) (h:∀j,j<i->rl ds t j=none) (hu:rl ds t i=some u):M.ruleA ds t=some u:=by
 have g:∀j,j<i->rl ds t j=none:=h;unfold M.ruleA
 match i,hi with
 |0,_=>rw[show M.ruleX ds t=some u from hu];rfl
 |1,_=>rw[show M.ruleX ds t=none from g 0 oM,show M.ruleB t=some u from hu];rfl
 |2,_=>rw[show M.ruleX ds t=none from g 0 oM,show M.ruleB t=none from g 1 oM,show M.ruleT t=some u from hu];rfl
 |3,_=>rw[show M.ruleX ds t=none from g 0 oM,show M.ruleB t=none from g 1 oM,show M.ruleT t=none from g 2 oM,show M.ruleL ds t=some u from hu];rfl
 |4,_=>rw[show M.ruleX ds t=none from g 0 oM,show M.ruleB t=none from g 1 oM,show M.ruleT t=none from g 2 oM,show M.ruleL ds t=none from g 3 oM,show M.ruleW ds t=some u from hu];rfl
 |5,_=>rw[show M.ruleX ds t=none from g 0 oM,show M.ruleB t=none from g 1 oM,show M.ruleT t=none from g 2 oM,show M.ruleL ds t=none from g 3 oM,show M.ruleW ds t=none from g 4 oM,show M.ruleS t=some u from hu];rfl
 |6,_=>rw[show M.ruleX ds t=none from g 0 oM,show M.ruleB t=none from g 1 oM,show M.ruleT t=none from g 2 oM,show M.ruleL ds t=none from g 3 oM,show M.ruleW ds t=none from g 4 oM,show M.ruleS t=none from g 5 oM,show M.ruleF t=some u from hu];rfl
theorem one_spec {dv tv:Value} {mb:Nat} {ds:List M.Dcl} {t:M.Tm} (hd:DclsR F w dv ds) (hm:KindsR w mb) (S:M.declOk ds=true) (ht:TermR G w tv t) (hs:M.sortM ds t≠ -1) (O:∀w' rv,Ext w w'->TermR (λx=>G x\/w.heap.size<=x) w' rv (M.oneT ds t)->K rv w'):vcall QK #[qL dv mb,tv] w K:=by
 refine ze {loops:=[(2,[12])]} Tryz.func200 ?_;refine rs_enter (B:=λt2 t3 t4 a3=>_) hd hm ht λw1 b2 b3 b4 kv rs=>?_;rw[rs.f.ldAgg (t:=ya) xH];refine xY0 λw2 fv Q J=>?_;have r2:=zZ rs Q;simp only[push_cast,J.len];have W:(fsL dv mb).length=7:=rfl;rw[W];refine vloop_up 7 (λi u w'=>u=[nI i]/\Ext w2 w'/\∀j,j<i->rl ds t j=none) ⟨rfl,Same.refl _ _,λj R=>absurd R oM⟩ ?_;rintro i _ _ X C hi ⟨rfl,p,g⟩ hC;have c:=zZ r2 p;have f3:=J.ext p;refine oZ ?_;refine zb (λa=>?_) (λa=>?_)
 .have L:i<7:=oM;simp(disch:=first|(simp only[push_cast])|(rw[W];omega)|omega) only[push_cast,f3.iaddr,f3.load,c.q.ldAgg (t:=za) zc];refine callRule (G:=λx=>G x/\x<w.heap.size) L c.d c.m S ⟨kv,rfl,c.k⟩ hs λY rv u H hu s=>?_;have r4:=zZ c H;refine oZ ?_;obtain⟨cu,rfl,o⟩:=hu.cells;refine zi zp λb5 w5 a0 I a1 h5=>?_;have D:=(o.weaken (F':=λx=>((G x/\x<w.heap.size)\/X.heap.size<=x)/\x<Y.heap.size) λb h h'=>⟨h,h'⟩).ext I;refine stTerm h5 rfl D λZ T a2 h6=>?_;have n:Ext Y Z:=Ext.then I T λy N=>by subst N;omega
  have V:=zZ r4 n;have E:TmR (λx=>(G x/\x<w.heap.size)\/X.heap.size<=x) Z cu u:=o.ext n;cases e:rl ds t i with
  |none=>
   simp only[push_cast,Option.isSome_none];rw[inc64' oM];refine hC oM _ _ ⟨rfl,p.trans (H.trans n),λj R=>?_⟩;by_cases ej:j<i
   .exact g j ej
   .have:j=i:=oM;subst this;exact e
  |some x=>
   simp only[push_cast,Option.isSome_some];rw[h6.ldAgg (t:=za) (by rw[zR o];exact zc)];have A:=s x e;subst A;have l4:=c.r.lt;refine xG V.r rfl E (λx A=>by have:=c.lo;omega) λw7 z U v=>?_;have l:M.oneT ds t=u:=by unfold M.oneT;rw[rl_some L g e];rfl
   rw[l] at O;refine O _ _ (Ext.then V.ext z λy N=>by subst N;exact V.lo) (v.weaken λx A _=>?_);have:=c.ext.size;rcases A with h|h
   .exact .inl h.1
   .exact .inr oM
 .rw[c.q.ldAgg (t:=za) zc];have l:M.oneT ds t=t:=by unfold M.oneT;rw[rl_none λj R=>g j oM];rfl
  rw[l] at O;refine xG c.r rfl (TmR.of (t:=t) c.k) (λx A=>by have:=c.lo;omega) λw7 z U v=>?_;exact O _ _ (Ext.then c.ext z λy N=>by subst N;exact c.lo) (v.weaken λx A _=> .inl A.1)
theorem fold_spec:∀(t:M.Tm) {w:World} {K:oK} {F G:oA} {dv tv:Value} {mb:Nat} {ds:List M.Dcl},DclsR F w dv ds->KindsR w mb->M.declOk ds=true->TermR G w tv t->M.sortM ds t≠ -1->(∀w' rv,Ext w w'->TermR (λx=>G x\/w.heap.size<=x) w' rv (M.foldT ds t)->K rv w')->vcall XV #[qL dv mb,tv] w K:=by
 refine M.Tm.ind λt ih w K F G dv tv mb ds hd hm W ht hs hK=>?_;have hlen:=M.len_of hs;have b7:t.ks.length<=3:=by
  unfold M.arity at hlen
  repeat' split at hlen
  all_goals omega
 refine ze {loops:=[(4,[13])]} Tryz.func168 ?_;obtain⟨kv,rfl,ah⟩:=ht;refine zl λb1 w1 av a2 az h1=>?_;refine zl λb2 w2 aw a3 b0 h2=>?_;refine zi zp λb3 w3 ax S b4 h3=>?_;have b8:=a2.size;have q3:=h2.ext S;have f3:=(h1.ext a3).ext S;have a0:=a2.trans (a3.trans S);have af:TmsR (λx=>G x/\x<w.heap.size) w3 kv t.ks:=(ah.weaken λb h h'=>⟨h,h'⟩).ext a0;simp only[push_cast,q3.ld4];refine q3.st (i:=4) rfl rfl xY rfl λH D b9 h4=>?_;replace h4:Blk H b2 [nI t.op,nI t.a,nI t.b,.string t.s,oN] za:=h4;have a1:Ext w H:=Ext.then a0 D λy Y=>by subst Y;omega
 have a5:=af.same D λb d _ e=>oM
 have f4:=f3.same D oM;have r4:=h3.same D oM;simp only[push_cast,a5.len];refine vloop_up t.ks.length (λi u w'=>u=[nI i]/\Same (λb=>b=b2) H w'/\∃k css,Blk w' b2 [nI t.op,nI t.a,nI t.b,.string t.s,k] za/\Own 0 5 zk w' k css/\css.length=i/\(∀b,k.ownBlock=some b->H.heap.size<=b)/\
   ∀j,j<i->TmR (λx=>(G x/\x<w.heap.size)\/(H.heap.size<=x/\k.ownBlock≠some x)) w' (css.getD j []) (M.foldT ds (t.ks.getD j default)))
  ⟨rfl,Same.refl _ _,_,[],h4,Own.nil _ _ _ _,rfl,λb h=>(by cases h),λj hj=>absurd hj oM⟩ ?_
 rintro i _ _ w5 C hi ⟨rfl,f,k,css,h5,A,V,g,J⟩ hC;have ba:=f.size;have q:Ext w w5:=Ext.then a1 f λy Y=>by subst Y;omega
 have a6:=a5.same f λb d _ e=>oM
 have f5:=f4.same f oM;refine oZ ?_;refine zb (λa=>?_) (λa=>?_)
 .simp(disch:=exact oS) only[push_cast,a6.iaddr];refine a6.load zc oM λx hx=>?_;obtain⟨cx,rfl,R⟩:=hx.cells;refine zi zp λb6 w6 ay r b5 h6=>?_;refine stTerm h6 rfl (R.ext r) λw7 X aj h7=>?_;have ab:Ext w5 w7:=Ext.then r X λy Y=>by subst Y;omega
  refine zd λw8 a4 _=>?_;have l:=ab.trans a4;have q8:=h5.ext l;have f8:=f5.ext l;have v8:=h7.ext a4;simp only[push_cast,q8.ld4,f8.ldAgg (t:=ya) xH,v8.ldAgg (t:=za) (by rw[zR R];exact zc),Q1];have N:t.ks.getD i default∈t.ks:=M.getD_mem oM _;refine ih _ N (hd.ext (q.trans l)) (hm.ext (q.trans l)) W (R.ext l).term ((M.sort_parts hs).2.1 _ N) λw9 rv T B=>?_;obtain⟨cr,rfl,o⟩:=B.cells;have q9:=q8.ext T;simp only[push_cast,q9.ld4,Q1,gn];have ar:=l.size;have bb:=T.size;refine qD yW xq zp rfl (zR o) dC λau w10 al m am ac=>?_;have aa:=q9.ext m;simp only[push_cast,aa.ld4,Q1,gn];have I:=l.trans (T.trans m);have a9:=A.ext I;refine Own.app1k a9 qg dC ac (zR o) (tmR_one o) oM oM λp bc O n v=>?_;have ak:=aa.same n (λe=>by have:=g _ e;have:=h5.lt;omega);have ao:=n.size
  try simp only[push_cast,Q1]
  have a7:p.cells= #[p]/\p.oneCell'=true:=by
   obtain⟨a,c,rfl,_⟩:=O.sl.shape;exact⟨rfl,rfl⟩
  refine ak.st (i:=4) a7.1 a7.2 xY rfl λE z ap Q=>?_;replace Q:Blk E b2 [nI t.op,nI t.a,nI t.b,.string t.s,p] za:=Q;rw[inc64' oM];have an:=m.size;have L:∀b,p.ownBlock=some b->H.heap.size<=b:=λb d=>by
   rcases v b d with h|h
   .exact g b h
   .omega
  have Z:Same (λb=>b=b2\/k.ownBlock=some b) w5 E:=(Same.of_ext I).trans ((n.mono λ_ _ h=> .inr h).trans (z.mono λ_ _ h=> .inl h));have ad:Same (λb=>b=b2) H E:=⟨Z.os.trans f.os,Z.tape.trans f.tape,Z.output.trans f.output,gO f.size Z.size,λb d a8=>(Z.block b oM (λe=>e.elim a8 λe=>by have:=g b e;omega)).trans (f.block b d a8)⟩;refine hC oM _ _ ⟨rfl,ad,p,css++[cr],Q,O.same z (λb d e=>by have:=L b d;omega),by simp[V],L,λj hj=>?_⟩;by_cases ej:j<i
  .rw[q0,gN oM,<-q0];refine((J j ej).weaken (F':=λx=>((G x/\x<w.heap.size)\/(H.heap.size<=x/\k.ownBlock≠some x))/\x<w5.heap.size) λb h h'=>⟨h,h'⟩).same Z (λb d _ e=>?_)|>.weaken λb d _=>?_
   .rcases d.1 with h|h
    .rcases e with e|e
     .omega
     .have:=g b e;omega
    .rcases e with e|e
     .omega
     .exact h.2 e
   .rcases d.1 with h|h
    .exact .inl h
    .refine .inr ⟨h.1,λe=>?_⟩;rcases v b e with e|e
     .exact h.2 e
     .omega
  .have:j=i:=oM;subst this;rw[q0,gP oM,V,GK];show TmR _ E cr _;refine(((o.weaken (F':=λx=>((G x/\x<w.heap.size)\/w8.heap.size<=x)/\x<w9.heap.size) λb h h'=>⟨h,h'⟩).ext m).same n (λb d _ e=>?_)).same z (λb d _ e=>?_)|>.weaken λb d _=>?_
   .have:=g b e;have:=(A.lt e).2;rcases d.1 with h|h<;>omega
   .rcases d.1 with h|h<;>omega
   .rcases d.1 with h|h
    .exact .inl h
    .refine .inr ⟨oM,λe=>?_⟩;rcases v b e with e|e
     .have:=(A.lt e).2;omega
     .omega
 .have ae:i=t.ks.length:=oM;subst ae;rw[f5.ldAgg (t:=ya) xH,h5.ldAgg (t:=za) zc];have ag:TmsR (λx=>(G x/\x<w.heap.size)\/H.heap.size<=x) w5 k (t.ks.map (M.foldT ds)):=by
   refine⟨css,A.sl.weaken λb d _=> .inr (g b d),by rw[V,V0],λj hj=>?_⟩;rw[V0] at hj;rw[M.getD_map _ hj _ default];exact(J j hj).weaken λb d _=>d.imp id λh=>h.1
  have U:=M.kids_good W hs;refine one_spec (t:=M.remake t (t.ks.map (M.foldT ds))) (hd.ext q) (hm.ext q) W ⟨k,rfl,ag⟩ (by rw[U.sort];exact hs) λw6 rv r B=>?_;rw[<-M.foldT_rem] at B;obtain⟨cr,rfl,o⟩:=B.cells;have r6:=(r4.same f oM).ext r;have:=r4.lt;refine xG r6 rfl o (λx hx=>by rcases hx with(h|h)|h<;>omega) λw7 X aj ai=>?_;have aq:=a1.size;exact hK _ _ (Ext.then (q.trans r) X λy Y=>by subst Y;omega) (ai.weaken λx hx _=>by
   rcases hx with(h|h)|h
   .exact .inl h.1
   .exact .inr oM
   .exact .inr oM)
end
section
variable {w:World} {K:oK} {F D G:oA}
inductive TmO (w:World):(oA)->List Value->M.Tm->Prop
 |mk {D:oA} {kv:Value} {t:M.Tm} (css:List (List Value)) (Ds:Nat->Nat->Prop) (own:Own 0 5 zk w kv css) (hl:css.length=t.ks.length)
   (hb:∀b,kv.ownBlock=some b->D b/\∀i,i<t.ks.length->¬Ds i b) (hd:∀i j b,i<j->j<t.ks.length->Ds i b->¬Ds j b) (hs:∀i b,i<t.ks.length->Ds i b->D b)
   (hk:∀i,i<t.ks.length->TmO w (Ds i) (css.getD i []) (t.ks.getD i default)):TmO w D [nI t.op,nI t.a,nI t.b,.string t.s,kv] t
theorem yS0 {cs:List Value} {t:M.Tm} (h:TmO w D cs t):∃(kv:Value) (css:List (List Value)) (Ds:Nat->Nat->Prop),cs=[nI t.op,nI t.a,nI t.b,.string t.s,kv]/\Own 0 5 zk w kv css/\css.length=t.ks.length/\
  (∀b,kv.ownBlock=some b->D b/\∀i,i<t.ks.length->¬Ds i b)/\(∀i j b,i<j->j<t.ks.length->Ds i b->¬Ds j b)/\(∀i b,i<t.ks.length->Ds i b->D b)/\∀i,i<t.ks.length->TmO w (Ds i) (css.getD i []) (t.ks.getD i default):=by
 cases h with
 |mk css Ds own f c d hs e=>exact⟨_,css,Ds,rfl,own,f,c,d,hs,e⟩
theorem kL0:∀(t:M.Tm) {D:oA} {cs:List Value},TmO w D cs t->TmR D w cs t:=by
 refine M.Tm.ind λt f D cs h=>?_;obtain⟨kv,css,Ds,rfl,own,e,c,g,hs,d⟩:=yS0 h;exact TmR.of ⟨css,own.sl.weaken λb a _=>(c b a).1,e,λi hi=>(f _ (M.getD_mem hi _) (d i hi)).weaken λb a _=>hs i b hi a⟩
theorem XH {S:oA} {w w':World} (hw:Same S w w'):∀(t:M.Tm) {D:oA} {cs:List Value},TmO w D cs t->(∀b,D b->¬S b)->TmO w' D cs t:=by
 refine M.Tm.ind λt k D cs h d=>?_;obtain⟨kv,css,Ds,rfl,own,j,c,f,hs,g⟩:=yS0 h;exact .mk css Ds (own.same hw λb e=>d b (c b e).1) j c f hs λi hi=>k _ (M.getD_mem hi _) (g i hi) λb a=>d b (hs i b hi a)
theorem Y10 {w':World} {cs:List Value} {t:M.Tm} (h:TmO w D cs t) (hw:Ext w w'):TmO w' D cs t:=XH hw t h λ_ _ h=>h
theorem kX {cs:List Value} {t:M.Tm} (h:TmO w D cs t) (a:∀b,D b->F b):TmO w F cs t:=by
 obtain⟨kv,css,Ds,rfl,own,f,c,d,hs,e⟩:=yS0 h;exact .mk css Ds own f (λb h=>⟨a b (c b h).1,(c b h).2⟩) d (λi b hi h=>a b (hs i b hi h)) e
structure Grow (lo:Nat) (w:World) (kv:Value) (css:List (List Value)) (us:List M.Tm) (Ds:Nat->Nat->Prop):Prop where
 own:Own 0 5 zk w kv css
 len:css.length=us.length
 blk:∀b,kv.ownBlock=some b->lo<=b/\∀j,j<us.length->¬Ds j b
 dis:∀j k b,j<k->k<us.length->Ds j b->¬Ds k b
 sub:∀j b,j<us.length->Ds j b->lo<=b/\b<w.heap.size
 kid:∀j,j<us.length->TmO w (Ds j) (css.getD j []) (us.getD j default)
theorem Za0 (lo:Nat) (w:World):Grow lo w (oN) [] [] λ_ _=>False:=
 ⟨Own.nil _ _ _ _,rfl,λb h=>(by cases h),λj k b _ c=>absurd c (by simp),λj b a=>absurd a (by simp),λj a=>absurd a (by simp)⟩
theorem yv0 {S:oA} {lo:Nat} {kv:Value} {w':World} {css:List (List Value)} {us:List M.Tm} {Ds:Nat->Nat->Prop} (h:Grow lo w kv css us Ds) (hw:Same S w w') (hs:∀b,lo<=b->¬S b):Grow lo w' kv css us Ds:=
 ⟨h.own.same hw λb a=>hs b (h.blk b a).1,h.len,h.blk,h.dis,λj b c a=>⟨(h.sub j b c a).1,gM (h.sub j b c a).2 hw.size⟩,λj c=>XH hw _ (h.kid j c) λb a=>hs b (h.sub j b c a).1⟩
theorem grow_push {lo r:Nat} {kv:Value} {E x y w10:World} {css:List (List Value)} {us:List M.Tm} {Ds:Nat->Nat->Prop} {cr:List Value} {u:M.Tm} (h:Grow lo E kv css us Ds) (F:Ext E x) (G:Ext x y) (R:lo<=x.heap.size)
  (I:TmO y (λb=>x.heap.size<=b/\b<y.heap.size) cr u) (p:Ext y w10) (A:Blk w10 r cr za) (S:us.length<=1048576)
  (O:∀d g z,Grow lo g d (css++[cr]) (us++[u]) z->Same (λb=>kv.ownBlock=some b) w10 g->d.cells= #[d]->d.oneCell'=true->K d g):
  vbi .append [zk,zk] zk [kv,.slice (some ⟨r,0,none⟩) 1 1] w10 K:=by
 have t:=kL0 _ I;have s:=F.trans (G.trans p);have g10:=yv0 h s λb _ h=>h;have T:=F.size;have U:=G.size;have J:=p.size;have H:=h.len;refine Own.app1k g10.own qg dC A (zR t) (tmR_one t) oM oM λd g o f w=>?_;have L:=f.size;have v:d.cells= #[d]/\d.oneCell'=true:=by
  obtain⟨a,c,rfl,_⟩:=o.sl.shape;exact⟨rfl,rfl⟩
 have hold:∀b,kv.ownBlock=some b->b<E.heap.size:=λb i=>(h.own.lt i).2;refine O d g (λj b=>(j=us.length/\x.heap.size<=b/\b<y.heap.size)\/(j<us.length/\Ds j b)) ⟨o,by simp[H],λb i=>?_,λj k b C Q q D=>?_,λj b q i=>?_,λj q=>?_⟩ f v.1 v.2
 .rcases w b i with e|e
  .refine⟨(h.blk b e).1,λj q B=>?_⟩;rcases B with⟨_,m,_⟩|⟨m,n⟩
   .have:=hold b e;omega
   .exact(h.blk b e).2 j m n
  .refine⟨oM,λj q B=>?_⟩;rcases B with⟨_,_,m⟩|⟨m,n⟩
   .omega
   .have:=(h.sub j b m n).2;omega
 .rw[gd,Ga] at Q;rcases q with⟨m,n,N⟩|⟨m,n⟩
  .omega
  .rcases D with⟨g1,g2,g3⟩|⟨g1,g2⟩
   .have:=(h.sub j b m n).2;omega
   .exact h.dis j k b C g1 n g2
 .rcases i with⟨m,n,N⟩|⟨m,n⟩
  .exact⟨oM,oM⟩
  .have:=h.sub j b m n;exact⟨this.1,oM⟩
 .rw[gd,Ga] at q;by_cases e:j<us.length
  .rw[q0,gN oM,<-q0,q0 (l:=us++[u]),gN e,<-q0];refine kX (XH f _ (g10.kid j e) λb i hs=>(h.blk b hs).2 j e i) λb i=> .inr ⟨e,i⟩
  .have:j=us.length:=oM;subst this;rw[q0,gP oM,H,GK,q0 (l:=us++[u]),gP (gy _),GK];show TmO g _ cr u;refine kX (XH f _ (Y10 I p) λb i hs=>by have:=hold b hs;omega) λb i=> .inl ⟨rfl,i⟩
theorem jE0 {lo:Nat} {kv:Value} {css:List (List Value)} {t:M.Tm} {Ds:Nat->Nat->Prop} (h:Grow lo w kv css t.ks Ds):TmO w (λb=>lo<=b/\b<w.heap.size) [nI t.op,nI t.a,nI t.b,.string t.s,kv] t:=
 .mk css Ds h.own h.len (λb c=>⟨⟨(h.blk b c).1,(h.own.lt c).2⟩,(h.blk b c).2⟩) h.dis (λi b hi c=>h.sub i b hi c) h.kid
theorem retO {b:Nat} {cs cs':List Value} {t:TypeId} {t':M.Tm} {K:oK} (h:Blk w b cs t) (i:cs.length=5) (d:TmO w G cs' t') (c:∀x,G x->x≠b) (g:∀w',Same (· =b) w w'->w'.heap.size=w.heap.size->TmO w' G cs' t'->K (.agg ⟨cs'⟩) w'):
  zI za (oP b 0) (.agg ⟨cs'⟩) w λ_ w1=>vlv za (oP b 0) w1 λr w2=>K r w2:=
 xG h i (kL0 _ d) c λw' hw j _=>g w' hw j (XH hw _ d λf a e=>c f a e)
theorem XI {us:List M.Tm} {i:Nat} (h:i<us.length):us.take i++[us.getD i default]=us.take (i+1):=(M.take_add h default).symm
theorem copyTerm_spec:∀(t:M.Tm) {w:World} {K:oK} {F:oA} {v:Value},TermR F w v t->YB0 t=true->(∀w' cs,Ext w w'->TmO w' (λb=>w.heap.size<=b/\b<w'.heap.size) cs t->K (.agg ⟨cs⟩) w')->vcall Ku #[v] w K:=by
 refine M.Tm.ind λt ih w K F v ht J hK=>?_;obtain⟨f1,f2⟩:=fitB_iff.1 J;refine ze {loops:=[(4,[11])]} Tryz.func167 ?_;obtain⟨kv,rfl,a2⟩:=ht;refine zl λb1 w1 af E ai h1=>?_;refine zi zp λb2 w2 ag G aj h2=>?_;have al:=E.size;have q2:=h1.ext G;have z:=E.trans G;have a1:TmsR (λx=>x<w.heap.size) w2 kv t.ks:=(a2.weaken λb _ h'=>h').ext z;simp only[push_cast,q2.ld4];refine q2.st (i:=4) rfl rfl xY rfl λS p am W=>?_;replace W:Blk S b1 [nI t.op,nI t.a,nI t.b,.string t.s,oN] za:=W;have A:Ext w S:=Ext.then z p λy q=>by subst q;omega
 have L:=a1.same p λb D _ e=>oM
 have r4:=h2.same p oM;simp only[push_cast,L.len];refine vloop_up t.ks.length (λi u w'=>u=[nI i]/\Same (λb=>b=b1) S w'/\∃g css Ds,Blk w' b1 [nI t.op,nI t.a,nI t.b,.string t.s,g] za/\Grow S.heap.size w' g css (t.ks.take i) Ds)
  ⟨rfl,Same.refl _ _,_,[],_,W,Za0 _ _⟩ ?_
 rintro i _ _ w5 C hi ⟨rfl,c,g,css,Ds,h5,g5⟩ hC;have an:=c.size;have ac:=A.size;have X:Ext w w5:=Ext.then A c λy q=>by subst q;omega
 have N:=L.same c λb D _ e=>oM
 refine oZ ?_;refine zb (λa=>?_) (λa=>?_)
 .simp(disch:=exact oS) only[push_cast,N.iaddr];refine N.load zc oM λx hx=>?_;obtain⟨cx,rfl,n⟩:=hx.cells;refine zi zp λb6 w6 ah H ak h6=>?_;refine stTerm h6 rfl (n.ext H) λw7 a5 ap h7=>?_;have U:Ext w5 w7:=Ext.then H a5 λy q=>by subst q;omega
  refine zd λw8 I _=>?_;have d:=U.trans I;have q8:=h5.ext d;have v8:=h7.ext I;simp only[push_cast,q8.ld4,v8.ldAgg (t:=za) (by rw[zR n];exact zc),Q1];have j:t.ks.getD i default∈t.ks:=M.getD_mem oM _;have ad:=d.size;refine ih _ j (n.ext d).term (f2 _ j) λw9 cr o hr=>?_;have q9:=q8.ext o;simp only[push_cast,q9.ld4,Q1,gn];have Z:=kL0 _ hr;refine qD yW xq zp rfl (zR Z) dC λae w10 a9 f aa V=>?_;have R:=q9.ext f;simp only[push_cast,R.ld4,Q1,gn];refine grow_push g5 d o oM hr f V (by rw[gi];omega) λQ aq T g11 k a6 a7=>?_;have a8:=R.same k (λe=>by have:=(g5.blk _ e).1;omega)
  try simp only[push_cast,Q1]
  refine a8.st (i:=4) a6 a7 xY rfl λr l ab m=>?_;replace m:Blk r b1 [nI t.op,nI t.a,nI t.b,.string t.s,Q] za:=m;rw[inc64' oM];have B:Same (λb=>b=b1\/g.ownBlock=some b) w5 r:=(Same.of_ext (d.trans (o.trans f))).trans ((k.mono λ_ _ h=> .inr h).trans (l.mono λ_ _ h=> .inl h));have Y:Same (λb=>b=b1) S r:=⟨B.os.trans c.os,B.tape.trans c.tape,B.output.trans c.output,gO c.size B.size,λb D O=>(B.block b oM (λe=>e.elim O λe=>by have:=(g5.blk b e).1;omega)).trans (c.block b D O)⟩;rw[XI oM] at g11;exact hC oM _ _ ⟨rfl,Y,Q,_,T,m,yv0 g11 l λb D e=>oM⟩
 .have a0:i=t.ks.length:=oM;subst a0;rw[gG] at g5;rw[h5.ldAgg (t:=za) zc];refine retO (r4.same c oM) rfl (jE0 g5) (λx hx=>oM) λw6 a4 ao a3=>?_;exact hK _ _ (Ext.then X a4 λy q=>by subst q;omega) (kX a3 λb D=>⟨oM,oM⟩)
@[push_cast] theorem bd_T4 (o a b:Int) (s:ByteArray):yl za [(0,nI o),(1,nI a),(2,nI b),(3,.string s)] w K=K (.agg ⟨[nI o,nI a,nI b,.string s,oN]⟩) w:=zS qk (us:=[[nI o],[nI a],[nI b],[.string s]]) rfl rfl
theorem fit_size:∀t:M.Tm,M.sizeM t<=1000->YB0 t=true:=by
 refine M.Tm.ind λt c h=>?_;have b:∀i,i<t.ks.length->M.sizeM (M.kid t i)+1<=M.sizeM t:=λi hi=>(M.kid_size hi).1;have d:t.ks.length<=M.sizeM t:=by
  have:=M.szT_all t;have mono:∀i,i<=t.ks.length->i<=M.szT t.ks i:=λi=>by
   induction i with
   |zero=>intro _;exact gS _
   |succ i ihi=>
    intro hi;have:=ihi oM;have:=M.szT_succ (ks:=t.ks) (i:=i) oM;have:=(M.size_pos (t:=t.ks.getD i default)).1;omega
  have:=mono t.ks.length (gy _);omega
 refine fitB_iff.2 ⟨oM,λk a=>?_⟩;obtain⟨i,hi,rfl⟩:=gx a;have:=b i hi;unfold M.kid at this;rw[q0,gj hi] at this;exact c _ a (by simp only[Gr] at this;omega)
def QV (ds:List M.Dcl) (t:M.Tm):M.Tm:=if M.tsort ds t= -1 then .mk 0 0 0 M.nada [] else M.foldT ds t
theorem zeroO:TmO w D JW (.mk 0 0 0 M.nada []):=
 TmO.mk (t:= .mk 0 0 0 M.nada []) [] (λ_ _=>False) (Own.nil _ _ _ _) rfl (λb h=>(by cases h)) (λi j b _ a=>absurd a (by show¬j<0;omega)) (λi b hi=>absurd hi (by show¬i<0;omega)) (λi hi=>absurd hi (by show¬i<0;omega))
theorem small_of {ds:List M.Dcl} {t:M.Tm} (h:M.tsort ds t≠ -1):M.declOk ds=true/\M.sortM ds t≠ -1/\M.sizeM t<=20:=by
 rcases dtSize (ds:=ds) (t:=t) with e|⟨c,d,f,a,b⟩
 .exact absurd e h
 .exact⟨b,oM,(M.fits_iff.1 a).1⟩
theorem k40 {a:Option Addr} {l c mb:Nat}:yl ya [(0,.slice a l c),(1,.map (some mb))] w K=K (qL (.slice a l c) mb) w:=zS zi0 (us:=[[.slice a l c],[.map (some mb)]]) rfl rfl
theorem TermFold_spec {dv tv:Value} {ds:List M.Dcl} {t:M.Tm} (s:DclsR F w dv ds) (C:TermR G w tv t) (m:∀w' cs,Ext w w'->TmO w' (λb=>w.heap.size<=b/\b<w'.heap.size) cs (QV ds t)->K (.agg ⟨cs⟩) w'):vcall KC #[dv,tv] w K:=by
 refine ze {} Tryz.func134 ?_;obtain⟨ct,rfl,r⟩:=C.cells;have u:aggB za ct.length=true:=by rw[zR r];exact zc
 refine zl λb1 w1 W n Y U=>?_;refine zi zp λb2 w2 X o Z V=>?_;have R:=U.ext o;have g:=n.trans o;have a1:=n.size;rw[R.ldAgg (t:=za) u];refine TermSort_spec (s.ext g) (C.ext g) λw3 d=>?_;have k:=g.trans d;have T:=V.ext d;have a2:=d.size;simp only[push_cast];unfold QV at m;refine zb (λa=>?_) (λa=>?_)
 .rw[K3 a] at m
  try simp only[push_cast]
  refine retO (G:=λ_=>False) T rfl zeroO (λx N=>N.elim) λw4 D I v=>?_;exact m _ _ (Ext.then k D λy H=>by subst H;omega) (kX v λb J=>J.elim)
 .rw[X0 a] at m;obtain⟨q,hs,a0⟩:=small_of a;refine zd λw4 e _=>?_;have S:=R.ext (d.trans e);simp only[push_cast,S.ldAgg (t:=za) u,Q1];refine QU λw5 mb f hm=>?_;have q5:=S.ext f;have c:=k.trans (e.trans f);obtain⟨da,dc,rfl,_⟩:=s.shape;rw[V0] at*;simp only[push_cast,q5.ldAgg (t:=za) u,Q1,gn,k40];refine fold_spec t (G:=λx=>x<w.heap.size) (s.ext c) hm q ((C.weaken λb _ h=>h).ext c) hs λw6 rv i B=>?_;have l:=c.trans i;have j:=M.fold_good q t hs;have L:=j.size;refine copyTerm_spec _ B (fit_size _ oM) λw7 cs p z=>?_;have a3:=c.size;have a4:=l.size;have r7:=T.ext (e.trans (f.trans (i.trans p)));have I:=e.size;have O:=f.size;have Q:=i.size;refine retO r7 rfl z (λx N=>oM) λw8 E a5 A=>?_;exact m _ _ (Ext.then (l.trans p) E λy H=>by subst H;omega) (kX A λb J=>⟨oM,oM⟩)
end
end Go.Proofs.YtfjlkobhagjdaaaGreatDoor
namespace Go.M
open Go.Vc
section
section
variable {ds:List Dcl} {t:Tm}
def boolM (b:Bool):Tm:=if b=true then truT else flsT
def logicS (t:Tm):Tm:=
 if t.op=25 then(if(kid t 0).op=25 then kid (kid t 0) 0 else t)
 else if t.op=23 then(if isM (kid t 0) 1=true\/(kid t 1=kid t 2/\¬isM (kid t 0) 0=true) then kid t 1 else if isM (kid t 0) 0=true then kid t 2 else t)
 else if isM (kid t 0) (b2i (decide (t.op=26)))=true\/kid t 0=kid t 1 then kid t 1
 else if isM (kid t 1) (b2i (decide (t.op=26)))=true then kid t 0
 else if isM (kid t 0) (1-b2i (decide (t.op=26)))=true\/isM (kid t 1) (1-b2i (decide (t.op=26)))=true then boolM (decide (b2i (decide (t.op=26))=0)) else t
def rightS (t:Tm):Tm:=
 if t.op=4\/t.op=5\/t.op=6\/t.op=7\/t.op=11\/t.op=12\/t.op=13 then(if isM (kid t 1) 0=true then kid t 0 else t)
 else if t.op=3 then(if isM (kid t 1) 0=true then kid t 1 else t)
 else if t.op=8 then(if isM (kid t 1) 0=true then kid t 1 else if isM (kid t 1) 1=true then kid t 0 else t) else t
def alikeS (t:Tm) (w:Int):Tm:=
 if t.op=3\/t.op=4 then kid t 0 else if t.op=5\/t.op=7 then .mk 20 w 0 nada [] else if t.op=15 then truT else if t.op=16\/t.op=17 then flsT else t
def swapS (t:Tm):Tm:= .mk t.op 0 0 nada [kid t 1,kid t 0]
def otherS (t v:Tm):Prop:=v.ks.length≠2\/kid v 0≠kid t 1\/kid v 1≠kid t 0\/v.op≠t.op
instance (t v:Tm):Decidable (otherS t v):=by unfold otherS;infer_instance
def twoS (t:Tm) (w:Int):Tm:=
 if kid t 0=kid t 1/\alikeS t w≠t then alikeS t w
 else if rightS t≠t then rightS t
 else if(t.op=3\/t.op=4\/t.op=5\/t.op=6\/t.op=8)/\otherS t (rightS (swapS t)) then rightS (swapS t) else t
def oneS (ds:List Dcl) (t:Tm):Tm:=
 if allFixed t=true then(if sortM ds t=0 then boolM (decide (evalM ds (zeroE ds) t=1)) else .mk 20 (sortM ds t) (evalM ds (zeroE ds) t) nada [])
 else if t.ks=[] then t
 else if 23<=t.op then logicS t
 else if t.op=22 then(if sortM ds t=sortM ds (kid t 0) then kid t 0 else t)
 else if t.ks.length=1 then(if(kid t 0).op=t.op then kid (kid t 0) 0 else t)
 else twoS t (sortM ds (kid t 0))
theorem kid_ne {i:Nat} (h:i<t.ks.length):kid t i≠t:=λe=>by
 have:=(kid_size h).1
 grind
theorem X_none (h: ¬allFixed t=true):ruleX ds t=none:=by unfold ruleX;grind
theorem xR0 (a:t.op≠25) (b:t.op≠23):ruleB t=none:=by simp_all[ruleB]
theorem T_none (h: ¬(t.op=26\/t.op=27)):ruleT t=none:=by unfold ruleT;grind
theorem xP0 (a:t.op≠22) (b: ¬(t.op=1\/t.op=2)):ruleL ds t=none:=by simp_all[ruleL]
theorem xO0 (h:t.ks.length≠2):ruleW ds t=none:=by simp_all[ruleW]
theorem S_none (h:t.ks.length≠2):ruleS t=none:=by unfold ruleS;grind
theorem F_none (h:t.ks.length≠2):ruleF t=none:=by unfold ruleF;grind
theorem QE {α:Type} {b:Option α}:((none:Option α) <|> b)=b:=rfl
theorem or_none {α:Type} {a:Option α}:(a <|> (none:Option α))=a:=by grind
theorem logic_eq (hs:sortM ds t≠ -1) (h: ¬allFixed t=true) (f:23<=t.op) (k:t.ks≠[]):logicS t=oneT ds t:=by
 have m:=len_of hs;have j:0<t.ks.length:=by grind
 have d:=arity_ops (o:=t.op) oM;unfold oneT ruleA;rw[X_none h,QE];by_cases c:t.op=25
 .have n:t.ks.length=1:=(by grind [arity]);rw[T_none oM,xP0 oM oM,xO0 oM,S_none oM,F_none oM];simp only[or_none];unfold logicS ruleB
  grind
 by_cases b:t.op=23
 .have q:t.ks.length=3:=(by grind [arity]);rw[T_none oM,xP0 oM oM,xO0 oM,S_none oM,F_none oM];simp only[or_none];unfold logicS ruleB
  grind
 have o:t.op=26\/t.op=27:=by
  grind [arity]
 have p:t.ks.length=2:=by grind [arity]
 have i:b2i (decide (t.op=26))=neutral t.op:=by
  simp_all[neutral,b2i]
 have a:boolM (decide (neutral t.op=0))=constM 0 (1-neutral t.op):=by
  unfold neutral;rcases o with e|e
  .rw[K3 e];rfl
  .rw[X0 oM];rfl
 rw[xR0 c b,QE];unfold logicS;rw[X0 c,X0 b,i,a];have tail:ruleT t=none->(ruleL ds t <|> ruleW ds t <|> ruleS t <|> ruleF t)=none:=λg=>by
  have l:kid t 0≠kid t 1:=λe=>by
   grind [ruleT]
  rw[xP0 oM oM];have w:ruleW ds t=none:=(by simp_all[ruleW]);have s:ruleS t=none:=by grind [ruleS]
  grind [ruleF]
 cases g:ruleT t with
 |none=>
  grind [ruleT]
 |some u=>
  have:(some u <|> (ruleL ds t <|> ruleW ds t <|> ruleS t <|> ruleF t))=some u:=rfl
  grind [ruleT]
theorem right_eq (b:t.ks.length=2):(ruleS t=none/\rightS t=t)\/(ruleS t=some (rightS t)/\rightS t≠t):=by
 have k0:=kid_ne (t:=t) (i:=0) oM;have a:=kid_ne (t:=t) (i:=1) oM;unfold ruleS rightS
 grind
theorem other_kid {i:Nat} (hi:i=0\/i=1) (a:t.ks.length=2):otherS t (kid t i):=by
 by_cases h:(kid t i).ks.length=2
 .rcases hi with rfl|rfl
  .exact .inr (.inr (.inl (λe=>kid_ne (t:=kid t 0) (i:=1) oM e)))
  .exact .inr (.inl (λe=>kid_ne (t:=kid t 1) (i:=0) oM e))
 .exact .inl h
theorem left_eq (a:t.ks.length=2):ruleF t=if(t.op=3\/t.op=4\/t.op=5\/t.op=6\/t.op=8)/\otherS t (rightS (swapS t)) then some (rightS (swapS t)) else none:=by
 have sw:∀i,kid (swapS t) i=[kid t 1,kid t 0].getD i default:=λi=>rfl;have c:kid (swapS t) 0=kid t 1:=rfl;have s1:kid (swapS t) 1=kid t 0:=rfl;have so:(swapS t).op=t.op:=rfl;have self: ¬otherS t (swapS t):=λh=>by
  rcases h with h|h|h|h
  .exact h rfl
  .exact h rfl
  .exact h rfl
  omega
 have k0:=other_kid (t:=t) (i:=0) (.inl rfl) a;have b:=other_kid (t:=t) (i:=1) (.inr rfl) a;unfold ruleF
 grind [rightS]
theorem two_eq (d:declOk ds=true) (hs:sortM ds t≠ -1) (g: ¬allFixed t=true) (b:t.ks.length=2) (e:t.op<22):twoS t (sortM ds (kid t 0))=oneT ds t:=by
 have i:=len_of hs;have j:=arity_two (o:=t.op) oM;have l:3<=t.op/\t.op<=17:=oM
 have ne:∀{u:Tm},u.op=20\/u.op=24\/u.op=25->u≠t:=by grind
 have f:(ruleW ds t=none/\¬(kid t 0=kid t 1/\alikeS t (sortM ds (kid t 0))≠t))\/(ruleW ds t=some (alikeS t (sortM ds (kid t 0)))/\kid t 0=kid t 1/\alikeS t (sortM ds (kid t 0))≠t):=by
  by_cases a:kid t 0=kid t 1
  .unfold ruleW alikeS;rw[K3 ⟨b,a⟩];by_cases c1:t.op=3\/t.op=4
   .grind [kid_ne]
   rw[X0 c1,X0 c1];by_cases c2:t.op=5\/t.op=7
   .obtain⟨h,_,ev⟩:=bin_parts d hs b oM oM;have k:=vok_lt (ev _ (zeroE_ok d)).1;rw[K3 c2,K3 c2,h];refine .inr ⟨?_,a,ne (.inl rfl)⟩;unfold constM
    grind
   rw[X0 c2,X0 c2];by_cases c3:t.op=15
   .rw[K3 c3,K3 c3];exact .inr ⟨rfl,a,ne (.inr (.inl rfl))⟩
   rw[X0 c3,X0 c3];by_cases c:t.op=16\/t.op=17
   .rw[K3 c,K3 c];exact .inr ⟨rfl,a,ne (.inr (.inr rfl))⟩
   grind
  grind [ruleW]
 unfold oneT ruleA;rw[X_none g,xR0 oM oM,T_none oM,xP0 oM oM];simp only[QE];unfold twoS;rcases f with⟨w1,w2⟩|⟨w1,w2⟩
 .rw[X0 w2,w1,QE];rcases right_eq (t:=t) b with⟨s1,s2⟩|⟨s1,s2⟩
  .grind [left_eq]
  grind
 grind
theorem oneS_eq (l:declOk ds=true) (hs:sortM ds t≠ -1):oneS ds t=oneT ds t:=by
 have r:=len_of hs;unfold oneS;by_cases e:allFixed t=true
 .have k:=eval_in (zeroE_ok l) t hs;have n:oneT ds t=constM (sortM ds t) (evalM ds (zeroE ds) t):=by
   simp_all[oneT,ruleA,ruleX]
  rw[K3 e,n];unfold constM boolM;rcases k with h|h
  .grind
  .have:=vok_lt h
   grind
 rw[X0 e];by_cases f:t.ks=[]
 .simp_all[Z40,arity_zero]
 rw[X0 f];have p:0<t.ks.length:=by grind
 by_cases d:23<=t.op
 .rw[K3 d];exact logic_eq hs e d f
 rw[X0 d];by_cases c:t.op=22
 .have j:t.ks.length=1:=(by grind [arity]);have q:=sort_one l (sort_parts hs).1 j;have i:=hs;rw[q] at i;have g:=one_good oM i;have g3:=g.2.2 c;have st:sortM ds t=t.a-t.b+1:=by
   grind [oneM]
  rw[K3 c];unfold oneT ruleA;rw[X_none e,xR0 oM oM,T_none oM,xO0 oM,S_none oM,F_none oM];simp only[QE,or_none]
  grind [ruleL]
 rw[X0 c];have m:=arity_ops (o:=t.op) oM;by_cases j:t.ks.length=1
 .have s:=arity_one (o:=t.op) oM;rw[K3 j];unfold oneT ruleA;rw[X_none e,xR0 oM oM,T_none oM,xO0 oM,S_none oM,F_none oM];simp only[QE,or_none]
  grind [ruleL]
 rw[X0 j]
 grind [arity,two_eq]
end
end
end Go.M
namespace Go.Proofs.YtfjlkobhagjdaaaGreatDoor
open Go Go.Vc Go.Proofs
section
variable {w:World} {K:oK} {F D G:oA}
def Qb (G:oA) (n b4:Nat) (x:Nat):Prop:=(G x/\x<n)\/b4<x
structure RT (G:oA) (w0 w:World) (b3 b4:Nat) (kv:Value) (t:M.Tm):Prop where
 ext:Ext w0 w
 q:Blk w b3 [nI t.op,nI t.a,nI t.b,.string t.s,kv] za
 r:Blk w b4 JW za
 k:TmsR (λx=>G x/\x<w0.heap.size) w kv t.ks
 lo:w0.heap.size<=b4
section
variable {w0 w':World} {b3 b4:Nat} {kv:Value} {t:M.Tm}
theorem yc (h:RT G w0 w b3 b4 kv t) (he:Ext w w'):RT G w0 w' b3 b4 kv t:=⟨h.ext.trans he,h.q.ext he,h.r.ext he,h.k.ext he,h.lo⟩
theorem rt_enter {tv:Value} {B:Value->oK} (q:TermR G w tv t) (l:∀w' b3 b4 kv,RT G w w' b3 b4 kv t->B (ptr b3) (ptr b4) w'):
  zo0 za tv w λt3 e=>xU za e λt4 f=>B t3 t4 f:=by
 obtain⟨kv,rfl,d⟩:=q;refine zl λb2 w2 m c o j=>?_;refine zi zp λb3 r n a p k=>?_;have g:=c.trans a;exact l _ _ _ kv ⟨g,j.ext a,k,(d.weaken λb h i=>⟨h,i⟩).ext g,oM⟩
abbrev Ys0 (K:oK) (w:World) (G:oA) (u:M.Tm):Prop:=∀w' rv,Ext w w'->TermR (λx=>G x\/w.heap.size<=x) w' rv u->K rv w'
theorem rt_give (h:RT G w0 w b3 b4 kv t) {rv:Value} {u:M.Tm} (hu:TermR (Qb G w0.heap.size b4) w rv u) (e:Ys0 K w0 G u):
  zI za (ptr b4) rv w λ_ w1=>vlv za (ptr b4) w1 λr w2=>K r w2:=by
 obtain⟨cs,rfl,a⟩:=hu.cells;have f:=h.lo;refine xG h.r rfl a (λx d=>by rcases d with h|h<;>omega) λj c i b=>?_;exact e _ _ (Ext.then h.ext c λy g=>by subst g;exact h.lo) (b.weaken λx d _=>by
  rcases d with h|h
  .exact .inl h.1
  .exact .inr oM)
theorem qp {n:Nat} {rv:Value} {u:M.Tm} (hu:TermR (λx=>G x/\x<n) w' rv u):TermR (Qb G n b4) w' rv u:=hu.weaken λx a _=> .inl a
theorem rt_new (h:RT G w0 w b3 b4 kv t) {rv:Value} {u:M.Tm} (hu:TermR (λx=>w.heap.size<=x) w' rv u):TermR (Qb G w0.heap.size b4) w' rv u:=hu.weaken λx a _=> .inr (by have:=h.r.lt;omega)
theorem xQ (h:RT G w0 w b3 b4 kv t):TermR (λx=>G x/\x<w0.heap.size) w (.agg ⟨[nI t.op,nI t.a,nI t.b,.string t.s,kv]⟩) t:=⟨kv,rfl,h.k⟩
end
theorem spec_TermSame_spec:∀(t:M.Tm) {w:World} {K:oK} {F G:oA} {va vb:Value} {u:M.Tm},TermR F w va t->TermR G w vb u->(∀w',Ext w w'->K (.bool (decide (t=u))) w')->vcall Km #[va,vb] w K:=by
 refine M.Tm.ind λt Y w K F G va vb u Q R L=>?_;refine ze {loops:=[(4,[5])],cuts:=[(8195,[])]} Tryz.func191 ?_;obtain⟨kva,rfl,f⟩:=Q;obtain⟨kvb,rfl,v⟩:=R;refine zl λb1 w1 S D V z=>?_;refine zl λb2 w2 T q W k=>?_;have p:=z.ext q;have l:=D.trans q;have no:∀w',Ext w w'->t≠u->K (.bool false) w':=λw' h U=>by
  have:=L w' h;rwa[gk U] at this
 refine zo (λx w'=>x=[]/\w'=w2/\t.op=u.op/\t.a=u.a/\t.b=u.b/\t.s=u.s/\t.ks.length=u.ks.length) (λC A=>?_) ?_
 .simp only[push_cast,p.ld0,k.ld0,p.ld1,k.ld1,p.ld2,k.ld2,p.ld3,k.ld3,p.ld4,k.ld4,(f.ext l).len,(v.ext l).len];refine zb (λe=>no _ l λh=>e (by rw[h])) (λH=>?_);refine zb (λe=>no _ l λh=>e (by rw[h])) (λI=>?_);refine zb (λe=>no _ l λh=>e (by rw[h])) (λJ=>?_);refine zb (λe=>no _ l λh=>e (by rw[h])) (λy=>?_);refine zb (λe=>no _ l λh=>e (by rw[h])) (λe5=>?_);exact A _ _ ⟨rfl,rfl,oM,oM,oM,by simpa using y,oM⟩
 rintro x g E ⟨rfl,rfl,H,I,J,y,el⟩;have X:=f.small;refine vloop_up t.ks.length (λi x w'=>x=[nI i]/\Ext E w'/\∀j,j<i->t.ks.getD j default=u.ks.getD j default) ⟨rfl,Same.refl _ _,λj N=>absurd N oM⟩ ?_;rintro i _ _ w3 C hi ⟨rfl,c,m⟩ A;have n:=l.trans c;have B:=f.ext n;have O:=p.ext c;simp(disch:=exact oS) only[push_cast,O.ld4,B.len];refine zb (λa=>?_) (λa=>?_)
 .refine zd λw4 d _=>?_;have o:=n.trans d;have Z:=O.ext d;have r4:=k.ext (c.trans d);obtain⟨ca,sa,la,ka⟩:=f.ext o;obtain⟨cb,sb,lb,kb⟩:=v.ext o;simp(disch:=exact oS) only[push_cast,Z.ld4,r4.ld4,sa.iaddr,sa.ldAgg,sb.iaddr,sb.ldAgg,Q1];refine Y _ (M.getD_mem oM _) (ka i oM).term (kb i oM).term λw8 r=>?_;simp only[push_cast,Q1];refine zm (λb=>?_) (λb=>?_)
  .rw[gX,decide_eq_false_iff_not] at b;exact no _ (o.trans r) λh=>b (by rw[h])
  .rw[Gc,gg] at b;rw[inc64' oM];refine A oM _ _ ⟨rfl,c.trans (d.trans r),λj N=>?_⟩;by_cases e:j<i
   .exact m j e
   .have:j=i:=oM;subst this;exact b
 .have:t=u:=M.tm_ext H I J y (gW el λj z k=>by
   have:=m j oM;rwa[q0,gj z,q0,gj k] at this)
  have:=L w3 n;rwa[gl ‹t=u›] at this
theorem l3False_spec (i:∀w' v,Ext w w'->TermR (λb=>w.heap.size<=b) w' v M.flsT->K v w'):vcall Vt #[] w K:=by
 refine ze {} Tryz.func189 ?_;refine zi zp λb1 w1 k d m g=>?_;refine oZ ?_;refine Uz (XN (o:=24) (F:=λ_=>False)) λw2 a c n u=>?_;refine oZ ?_;have l:TmR (λb=>b≠b1/\w.heap.size<=b) w2 _ M.flsT:=(TmR.of (t:=M.flsT) u).weaken λz r _=>by
  rcases r with h|h
  .exact h.elim
  .exact⟨oM,oM⟩
 refine xG (g.ext c) rfl l (λx p=>p.1) λA f s e=>?_;exact i _ _ (Ext.then (d.trans c) f λy q=>by subst q;omega) (e.weaken λb j _=>j.2)
theorem l3Bool_spec {b:Bool} (l:∀w' v,Ext w w'->TermR (λb=>w.heap.size<=b) w' v (M.boolM b)->K v w'):vcall U2 #[.bool b] w K:=by
 refine ze {} Tryz.func161 ?_;refine zi zp λb1 w1 o c p k=>?_;refine zm (λa=>?_) (λa=>?_)
 .subst a;refine oZ ?_;refine xG k rfl (Q5 24 0 0 _:TmR (λ_=>False) w1 _ _) (λx n=>n.elim) λq e j d=>?_;exact l _ _ (Ext.then c e λy i=>by subst i;omega) (d.weaken λb m _=>m.elim)
 .subst a;refine l3False_spec λw2 v f h=>?_;obtain⟨cs,rfl,g⟩:=h.cells;refine xG (k.ext f) rfl g (λx n=>oM) λq e j d=>?_;exact l _ _ (Ext.then (c.trans f) e λy i=>by subst i;omega) (d.weaken λb m _=>by have:=c.size;omega)
@[push_cast] theorem bd_T2 (o a:Int):yl za [(0,nI o),(1,nI a)] w K=K (.agg ⟨[nI o,nI a,nI 0,.string ⟨#[]⟩,oN]⟩) w:=zS qk (us:=[[nI o],[nI a]]) rfl rfl
theorem l3Zero_spec {s:Int} (f:∀w' v,Ext w w'->TermR (λb=>w.heap.size<=b) w' v (.mk 20 s 0 M.nada [])->K v w'):vcall U0 #[nI s] w K:=by
 refine ze {} Tryz.func224 ?_;refine zi zp λb1 w1 h a i e=>?_;refine oZ ?_;refine xG e rfl (Q5 20 s 0 _:TmR (λ_=>False) w1 _ _) (λx j=>j.elim) λm d l c=>?_;exact f _ _ (Ext.then a d λy k=>by subst k;omega) (c.weaken λb g _=>g.elim)
theorem jR {v:Value} {t:M.Tm} (B:TermR F w v t) (G:∀w',Ext w w'->K (.tuple #[nI ((M.fixedM t).getD 0),.bool (M.fixedM t).isSome]) w'):vcall Jr #[v] w K:=by
 refine ze {} Tryz.func187 ?_;have r:=B;obtain⟨kv,rfl,y⟩:=B;refine zl λb1 w1 H m J A=>?_;have out:∀w' o,Ext w w'->M.fixedM t=o->K (.tuple #[nI (o.getD 0),.bool o.isSome]) w':=λw' o h e=>by rw[<-e];exact G w' h
 rw[A.ldAgg (t:=za) zc];refine oZ ?_;refine spec_TermSame_spec t (r.ext m) (XN (o:=24) (F:=λ_=>False)) λN n=>?_;have k:=m.trans n;refine zb (λd=>?_) (λd=>?_)
 .exact out N (some 1) k (K3 d)
 have z: ¬t=M.truT:=d;refine zd λR p _=>?_;have l:=k.trans p;have C:=A.ext (n.trans p);simp only[push_cast,C.ldAgg (t:=za) zc,Q1];refine l3False_spec λS fv g x=>?_;have D:=C.ext g;simp only[push_cast,D.ldAgg (t:=za) zc,Q1,gn];refine spec_TermSame_spec t (r.ext (l.trans g)) x λO q=>?_;have c:=l.trans (g.trans q);have j:=D.ext q;refine zb (λf=>?_) (λf=>?_)
 .refine out O (some 0) c ?_;unfold M.fixedM;rw[X0 z,K3 f]
 have E: ¬t=M.flsT:=f;have no:∀w',Ext w w'->¬(t.op=20/\t.ks=[]/\t.s=M.nada/\M.vok t.a t.b=true)->K (.tuple #[nI 0,.bool false]) w':=λw' h I=>out w' none h (by unfold M.fixedM;rw[X0 z,X0 E,X0 I]);simp only[push_cast,j.ld0];refine zb (λc1=>?_) (λc1=>no _ c λh=>c1 h.1);simp only[push_cast,j.ld4,(y.ext c).len];refine zb (λc2=>?_) (λc2=>no _ c λh=>c2 (nil_len.2 h.2.1))
 try simp only[push_cast,j.ld3]
 refine zb (λc3=>?_) (λc3=>no _ c λh=>c3 h.2.2.1)
 try simp only[push_cast,j.ld1,j.ld2]
 refine spec_VecOk_spec λQ i=>?_;have L:=j.ext i;refine zm (λu=>?_) (λu=>no _ (c.trans i) λh=>by rw[h.2.2.2] at u;cases u);simp only[push_cast,L.ld2];refine out Q (some t.b) (c.trans i) ?_;rw[yx0 c1,K3 ⟨nil_len.1 c2,c3,u⟩]
theorem qh {v:Value} {t:M.Tm} {n:Int} (i:TermR F w v t) (f:∀w',Ext w w'->K (.bool (M.isM t n)) w'):vcall x70 #[v,nI n] w K:=by
 refine ze {} Tryz.func190 ?_;obtain⟨cs,rfl,a⟩:=i.cells;refine zl λb1 w1 g b h d=>?_;rw[d.ldAgg (t:=za) (by rw[zR a];exact zc)];refine jR (a.ext b).term λw2 c=>?_;have:=f w2 (b.trans c);unfold M.isM at this;simp only[push_cast];cases e:M.fixedM t with
 |none=>rw[e] at this;exact this
 |some m=>
  rw[e] at this;simp only[GA] at this;exact this
theorem l3All_spec {v:Value} {t:M.Tm} (G:TermR F w v t) (q:∀w',Ext w w'->K (.bool (M.allFixed t)) w'):vcall y10 #[v] w K:=by
 refine ze {loops:=[(2,[3])]} Tryz.func159 ?_;obtain⟨kv,rfl,n⟩:=G;refine zl λb1 w1 A p D s=>?_;have E:=n.small;refine vloop_up t.ks.length (λi u w'=>u=[nI i]/\Ext w1 w'/\∀j,j<i->(M.fixedM (t.ks.getD j default)).isSome=true) ⟨rfl,Same.refl _ _,λj o=>absurd o oM⟩ ?_;rintro i _ _ I C hi ⟨rfl,g,d⟩ y;have f:=p.trans g;have r:=s.ext g;have a:=n.ext f;simp only[push_cast,r.ld4,a.len];refine zb (λb=>?_) (λb=>?_)
 .simp(disch:=exact oS) only[push_cast,a.iaddr];refine a.load zc oM λx H=>?_;refine jR H λJ m=>?_;refine oZ ?_;refine zm (λc=>?_) (λc=>?_)
  .rw[gX] at c;have:M.allFixed t=false:=by
    unfold M.allFixed;rw[GN];right;rw[List.all_eq_false];exact⟨_,M.getD_mem (l:=t.ks) (i:=i) oM default,by rw[c];decide⟩
   have h:=q J (f.trans m);rwa[this] at h
  .rw[Gc] at c;rw[inc64' oM];refine y oM _ _ ⟨rfl,g.trans m,λj o=>?_⟩;by_cases e:j<i
   .exact d j e
   .have:j=i:=oM;subst this;exact c
 .try simp only[push_cast,r.ld4,a.len]
  have:M.allFixed t=decide (0<(t.ks.length:Int)):=by
   unfold M.allFixed;have z:(t.ks.all λk=>(M.fixedM k).isSome)=true:=by
    rw[gV];intro k B;obtain⟨j,o,rfl⟩:=gx B;have:=d j oM;rwa[q0,gj o] at this
   rw[z,PK];have e:(t.ks≠[])↔0<(t.ks.length:Int):=by rw[<-GF];omega
   exact decide_eq_decide.2 e
  have h:=q I f;rwa[this] at h
theorem l3Right_spec {v:Value} {t:M.Tm} (ht:TermR G w v t) (h2:t.ks.length=2) (m:Ys0 K w G (M.rightS t)):vcall Vr #[v] w K:=by
 refine ze {cuts:=[(20491,[15])]} Tryz.func193 ?_;refine rt_enter (B:=λt3 t4 a7=>_) ht λw1 b3 b4 kv rs=>?_;simp(disch:=exact oS) only[push_cast,rs.q.ld4,rs.k.iaddr];refine rs.k.load zc oM λx hx=>?_;obtain⟨c,rfl,S⟩:=hx.cells;refine zi zp λb5 w2 a0 F a2 h5=>?_;refine stTerm h5 rfl (S.ext F) λO T a4 R=>?_;have C:Ext w1 O:=Ext.then F T λy I=>by subst I;omega
 have N:=yc rs C;simp(disch:=exact oS) only[push_cast,N.q.ld4,N.k.iaddr];refine N.k.load zc oM λy I=>?_;obtain⟨c',rfl,s⟩:=I.cells;refine zi zp λb6 Z a1 H a3 h6=>?_;refine stTerm h6 rfl (s.ext H) λQ U a5 l=>?_;have n:Ext O Q:=Ext.then H U λy I=>by subst I;omega
 have J:=yc N n;have W:=R.ext n;have gc:aggB za c.length=true:=by rw[zR S];exact zc
 have f:aggB za c'.length=true:=by rw[zR s];exact zc
 have E:TmR (λx=>G x/\x<w.heap.size) Q c (M.kid t 0):=S.ext (C.trans n);have d:TmR (λx=>G x/\x<w.heap.size) Q c' (M.kid t 1):=s.ext n;simp only[push_cast,J.q.ld0];refine zo (λu w'=> ∃b:Bool,u=[.bool b]/\w'=Q/\(b=true↔t.op=4\/t.op=5\/t.op=6\/t.op=7\/t.op=11\/t.op=12\/t.op=13)) (λD hD=>?_) ?_
 .try simp only[push_cast]
  refine zb (λc=>hD _ _ ⟨_,rfl,rfl,⟨λ_=>oM,λ_=>by rw[gg];exact c⟩⟩) (λc1=>?_);refine zb (λc=>hD _ _ ⟨_,rfl,rfl,⟨λ_=>oM,λ_=>by rw[gg];exact c⟩⟩) (λc2=>?_);refine zb (λc=>hD _ _ ⟨_,rfl,rfl,⟨λ_=>oM,λ_=>by rw[gg];exact c⟩⟩) (λc3=>?_);refine zb (λc=>hD _ _ ⟨_,rfl,rfl,⟨λ_=>oM,λ_=>by rw[gg];exact c⟩⟩) (λc4=>?_);refine zb (λc=>hD _ _ ⟨_,rfl,rfl,⟨λ_=>oM,λ_=>by rw[gg];exact c⟩⟩) (λc5=>?_);refine zb (λc=>hD _ _ ⟨_,rfl,rfl,⟨λ_=>oM,λ_=>by rw[gg];exact c⟩⟩) (λc6=>?_);exact hD _ _ ⟨_,rfl,rfl,⟨λh=>by rw[gg] at h;omega,λh=>by rw[gg];omega⟩⟩
 rintro u g a6 ⟨b,rfl,rfl,X⟩;refine oZ ?_;have self:∀{w'},RT G w w' b3 b4 kv t->M.rightS t=t->zt za (ptr b3) w' λr w2=>zI za (ptr b4) r w2 λ_ O=>vlv za (ptr b4) O λr Z=>K r Z:=λ{w'} h e=>by
  rw[h.q.ldAgg (t:=za) zc];rw[e] at m;exact rt_give h (qp (xQ h)) m
 refine zm (λo=>?_) (λo=>?_)
 .have o4:=X.1 o;rw[l.ldAgg (t:=za) f];refine qh d.term λw6 a=>?_;have p:=yc J a;have e:M.rightS t=if M.isM (M.kid t 1) 0=true then M.kid t 0 else t:=by unfold M.rightS;rw[K3 o4]
  refine zm (λi=>?_) (λi=>?_)
  .rw[(W.ext a).ldAgg (t:=za) gc];rw[e,K3 i] at m;exact rt_give p (qp (E.ext a).term) m
  .exact self p (by rw[e,i];rfl)
 have A: ¬(t.op=4\/t.op=5\/t.op=6\/t.op=7\/t.op=11\/t.op=12\/t.op=13):=λh=>by have:=X.2 h;rw[o] at this;cases this
 try simp only[push_cast]
 refine zb (λL=>?_) (λL=>?_)
 .rw[l.ldAgg (t:=za) f];refine qh d.term λw6 a=>?_;have p:=yc J a;have e:M.rightS t=if M.isM (M.kid t 1) 0=true then M.kid t 1 else t:=by unfold M.rightS;rw[X0 A,K3 L]
  refine zm (λi=>?_) (λi=>?_)
  .rw[(l.ext a).ldAgg (t:=za) f];rw[e,K3 i] at m;exact rt_give p (qp (d.ext a).term) m
  .exact self p (by rw[e,i];rfl)
 try simp only[push_cast]
 refine zb (λV=>?_) (λV=>?_)
 .rw[l.ldAgg (t:=za) f];refine qh d.term λw6 a=>?_;have p:=yc J a;have e:M.rightS t=if M.isM (M.kid t 1) 0=true then M.kid t 1 else if M.isM (M.kid t 1) 1=true then M.kid t 0 else t:=by unfold M.rightS;rw[X0 A,X0 L,K3 V]
  refine zm (λi=>?_) (λi=>?_)
  .rw[(l.ext a).ldAgg (t:=za) f];rw[e,K3 i] at m;exact rt_give p (qp (d.ext a).term) m
  .rw[(l.ext a).ldAgg (t:=za) f];refine qh (d.ext a).term λw7 z=>?_;have Y:=yc p z;refine zm (λj=>?_) (λj=>?_)
   .rw[(W.ext (a.trans z)).ldAgg (t:=za) gc];rw[e,i,X0 dC,K3 j] at m;exact rt_give Y (qp (E.ext (a.trans z)).term) m
   .exact self Y (by rw[e,i,j];rfl)
 .exact self J (by unfold M.rightS;rw[X0 A,X0 L,X0 V])
theorem l3Alike_spec {v:Value} {t:M.Tm} {s:Int} (A:TermR G w v t) (H:t.ks.length=2) (i:Ys0 K w G (M.alikeS t s)):vcall Vu #[v,nI s] w K:=by
 refine ze {cuts:=[(12292,[7]),(24583,[14])]} Tryz.func192 ?_;refine rt_enter (B:=λt3 t4 E=>_) A λw1 b3 b4 kv rs=>?_;simp only[push_cast,rs.q.ld0];refine zo (λu w'=> ∃b:Bool,u=[.bool b]/\w'=w1/\(b=true↔t.op=3\/t.op=4)) (λD hD=>?_) ?_
 .try simp only[push_cast]
  refine zb (λc=>hD _ _ ⟨_,rfl,rfl,⟨λ_=>oM,λ_=>by rw[gg];exact c⟩⟩) (λc1=>?_);exact hD _ _ ⟨_,rfl,rfl,⟨λh=>by rw[gg] at h;omega,λh=>by rw[gg];omega⟩⟩
 rintro u g r ⟨b,rfl,rfl,y⟩;refine oZ ?_;refine zm (λo=>?_) (λo=>?_)
 .simp(disch:=exact oS) only[push_cast,rs.q.ld4,rs.k.iaddr];refine rs.k.load zc oM λx C=>?_;have e:M.alikeS t s=M.kid t 0:=by unfold M.alikeS;rw[K3 (y.1 o)]
  rw[e] at i;exact rt_give rs (qp C) i
 have n: ¬(t.op=3\/t.op=4):=λh=>by have:=y.2 h;rw[o] at this;cases this
 refine zo (λu w'=> ∃b:Bool,u=[.bool b]/\w'=r/\(b=true↔t.op=5\/t.op=7)) (λD hD=>?_) ?_
 .try simp only[push_cast]
  refine zb (λc=>hD _ _ ⟨_,rfl,rfl,⟨λ_=>oM,λ_=>by rw[gg];exact c⟩⟩) (λc1=>?_);exact hD _ _ ⟨_,rfl,rfl,⟨λh=>by rw[gg] at h;omega,λh=>by rw[gg];omega⟩⟩
 rintro I g2 z ⟨F,rfl,rfl,m⟩;refine oZ ?_;refine zm (λo=>?_) (λo=>?_)
 .have e:M.alikeS t s= .mk 20 s 0 M.nada []:=by unfold M.alikeS;rw[X0 n,K3 (m.1 o)]
  rw[e] at i;refine l3Zero_spec λw2 v2 a d=>?_;exact rt_give (yc rs a) (rt_new rs d) i
 have p: ¬(t.op=5\/t.op=7):=λh=>by have:=m.2 h;rw[o] at this;cases this
 try simp only[push_cast]
 refine zb (λj=>?_) (λj=>?_)
 .have e:M.alikeS t s=M.boolM true:=by unfold M.alikeS;rw[X0 n,X0 p,K3 j];rfl
  rw[e] at i;refine l3Bool_spec λw2 v2 a d=>?_;exact rt_give (yc rs a) (rt_new rs d) i
 by_cases l:t.op=16
 .have e:M.alikeS t s=M.boolM false:=by unfold M.alikeS;rw[X0 n,X0 p,X0 j,K3 (.inl l)];rfl
  rw[e] at i;simp only[l,decide_true,push_cast];refine l3Bool_spec λw2 v2 a d=>?_;exact rt_give (yc rs a) (rt_new rs d) i
 .simp only[l,decide_false,push_cast];refine zb (λf=>?_) (λf=>?_)
  .have e:M.alikeS t s=M.boolM false:=by unfold M.alikeS;rw[X0 n,X0 p,X0 j,K3 (.inr f)];rfl
   rw[e] at i;refine l3Bool_spec λw2 v2 a d=>?_;exact rt_give (yc rs a) (rt_new rs d) i
  .have e:M.alikeS t s=t:=by unfold M.alikeS;rw[X0 n,X0 p,X0 j,X0 oM]
   rw[e] at i;rw[rs.q.ldAgg (t:=za) zc];exact rt_give rs (qp (xQ rs)) i
end
end Go.Proofs.YtfjlkobhagjdaaaGreatDoor
end
