import Derived.Test.YtjkkiaacmedfdaaGreatDoorWydP14
import Derived.OpenVars
import Derived.MakeChecks
import Derived.Stop.LaidErr
import Derived.Stop.LaidTwo
/- A part of the proof. -/
set_option linter.all false
set_option maxRecDepth 9999
set_option maxHeartbeats 2000000
noncomputable section
namespace Go.Proofs.YtjkkiaacmedfdaaGreatDoor
open Go Go.Vc Go.Proofs Go.M
section
variable {w:World} {K:oK} {F F':Nat->Prop} {many:Nat} {c:Cnf} {s:Sat}
theorem l5Do_spec {vc v:Value} {Z:Nat->Prop} (hc:CnfR F w vc c) (hs:SpR Z w v s) (B:satOk many c s) (a3:c.many=many)
  (hK:∀w' v',Same Z w w'->SpR (λb=>Z b\/w.heap.size<=b) w' v' (goM many c s)->K v' w'):vcall yw0 #[vc,v] w K:=by
 refine zg {loops:=[(13,[9])]} Tryz.func131 ?_;have S:=hc;have bj:=hs.sat;have bk:=hs;obtain⟨lv,rfl,ad⟩:=hc;obtain⟨vp,vw,vl,rfl,hp,hw,p,a4,J⟩:=hs;have L:many<=700/\c.list.length<=2500:=by
  have:=B.cnf;unfold cnfOk at this;simp only[gn,V0] at this;omega
 have bu:=B.few;have M:=B.mks;have c9:=M.len;have hlen:=B.len;have ac:∀cl,cl∈c.list++s.learned->∀l,l∈cl->l≠0/\l.natAbs<=many:=λcl ad l hl=>satOk.bnd B a3 ad hl;refine yi λb2 w1 c2 bf cb ba=>?_;refine yi λb3 w2 c3 ae cc bb=>?_;refine qj qV λb4 w3 c4 a5 ce bc=>?_;have A3:Blk w3 b2 [nI c.many,lv] zq:=(ba.ext ae).ext a5;have B3:Blk w3 b3 [vp,vw,vl,nI s.code] zu:=bb.ext a5;have R3:Blk w3 b4 [.slice none 0 0,.slice none 0 0,.slice none 0 0,nI 0] zu:=bc;have E3:=bf.trans (ae.trans a5);rw[A3.ldAgg zE];simp only[push_cast,B3.ld0];refine l5Vals_spec (S.ext E3) a3 L.1 (hp.ext E3).ints M λw4 v4 G ak c7=>?_;have E4:=E3.trans G;have A4:=A3.ext G;have B4:=B3.ext G;simp only[push_cast,A4.ldAgg zE,B4.ld2];refine l5Find_spec (S.ext E4) (J.ext E4) ak.ints M L.1 oM ac λw5 k u x H hf=>?_;have E5:=E4.trans H;have A5:=A4.ext H;have X:=B4.ext H;have R5:=(R3.ext G).ext H;have bm:=ak.ext H;have l3:=X.lt;have l4:=R5.lt;have cg:=E5.size;have cf:=G.size;simp only[push_cast];have ones:∀{q E ao:Value} {cd:Int},q.oneCell'=true->E.oneCell'=true->ao.oneCell'=true->∀x,x∈[q,E,ao,nI cd]->x.oneCell'=true:=λh1 h2 h3 x a=>by
  simp only[gj,gC,Gg] at a;rcases a with rfl|rfl|rfl|rfl
  ·exact h1
  ·exact h2
  ·exact h3
  ·rfl
 have n:goM many c s=(if 0<=k then jk many c s (atM c s k.toNat) else if 0<=u then{s with put:=s.put++[x],why:=s.why++[u]}
  else if s.put.length=many then{s with code:=1} else{s with put:=s.put++[-(Zz many s.put:Int)],why:=s.why++[-1]}):=by
  unfold goM;rw[hf]
 have push:∀(W:World) (l y:Int),Ext w W->Blk W b3 [vp,vw,vl,nI s.code] zu->Blk W b4 [.slice none 0 0,.slice none 0 0,.slice none 0 0,nI 0] zu->w5.heap.size<=W.heap.size->goM many c s={s with put:=s.put++[l],why:=s.why++[y]}->
   vbuildS zj 1 [(0,nI l)] W λt39 aq=>vbi .append [zj,zj] zj [vp,t39] aq λt40 ar=>zS zj (oP b3 0) t40 ar λ_ au=>zt zj (oP b3 1) au λt43 av=>
   vbuildS zj 1 [(0,nI y)] av λt45 aw=>vbi .append [zj,zj] zj [t43,t45] aw λt46 ax=>zS zj (oP b3 1) t46 ax λ_ ay=>zt zu (oP b3 0) ay λt48 az=>
   zS zu (oP b4 0) t48 az λ_ b0=>vlv zu (oP b4 0) b0 λan b1=>K an b1:=by
  intro W l y E6 B6 R6 bq ag;have ci:=E6.size;refine zD xb yV xu rfl rfl λb7 w7 c5 j br a1=>?_;have r:=E6.trans j;refine(hp.ext r).app1 xC a1 oM oM λq w8 U V A=>?_;have nb:∀x,vp.ownBlock=some x->x<w.heap.size:=λx a=>hp.lt a;have nw:∀x,vw.ownBlock=some x->x<w.heap.size:=λx a=>hw.lt a;have B8:=(B6.ext j).same V λe=>by have:=nb _ e;omega
  refine B8.st U.ints.cells1 U.ints.one ja rfl λw9 D bs a2=>?_;have B9:Blk w9 b3 [q,vw,vl,nI s.code] zu:=a2;have bh:=U.same D λx a e=>by rcases A x a with d|d;(have:=nb _ d;omega);omega
  have bo:=((hw.ext r).same V λx a e=>(p x e).2 a).same D λx a e=>by have:=nw _ a;omega
  simp only[push_cast,B9.ld1];have ch:=V.size;refine zD xb yV xu rfl rfl λc1 w10 bt t bw a8=>?_;refine(bo.ext t).app1 xC a8 oM oM λE cj Q z g=>?_;have b5:=(B9.ext t).same z λe=>by have:=nw _ e;omega
  have ah:=(bh.ext t).same z λx a e=>by
   rcases A x a with d|d
   ·exact(p x d).2 e
   ·have:=nw _ e;omega
  refine b5.st Q.ints.cells1 Q.ints.one ja rfl λap N bz a9=>?_;have b8:Blk ap b3 [q,E,vl,nI s.code] zu:=a9;have hS:Same (λx=>vp.ownBlock=some x\/vw.ownBlock=some x\/x=b3) w7 ap:=(V.mono λx _ e=> .inl e).trans ((D.mono λx _ e=> .inr (.inr e)).trans ((Same.of_ext t).trans ((z.mono λx _ e=> .inr (.inl e)).trans (N.mono λx _ e=> .inr (.inr e)))));have b9:=(R6.ext j).same hS (by rintro(e|e|e);exact absurd (nb _ e) oM;exact absurd (nw _ e) oM;omega);have Y:=ah.same N λx a e=>by rcases A x a with d|d;(have:=nb _ d;omega);omega
  have bx:=z.size;have a0:=Q.same N λx a e=>by rcases g x a with d|d;(have:=nw _ d;omega);omega
  rw[b8.ldAgg zR];refine b9.stAgg (cs':=[q,E,vl,nI s.code]) rfl zR (ones Y.ints.one a0.ints.one (QI J)) λa7 O c0 aa=>?_;rw[aa.lv zR];have o:Same (λx=>vp.ownBlock=some x\/vw.ownBlock=some x\/x=b3\/x=b4) w7 a7:=(hS.mono λx _ e=>e.imp id λe=>e.imp id .inl).trans (O.mono λx _ e=> .inr (.inr (.inr e)));have ab:Same (λb=>vp.ownBlock=some b\/vw.ownBlock=some b) w a7:=by
   refine⟨o.os.trans r.os,o.tape.trans r.tape,o.output.trans r.output,gO r.size o.size,λb f hn=>?_⟩;rw[o.block b (by have:=r.size;omega) (by rintro(e|e|e|e);exact hn (.inl e);exact hn (.inr e);omega;omega),r.block b f id]
  have bp:=hS.size;refine hK a7 _ (ab.mono λb _ e=>e.elim (λe=>(p b e).1) (a4 b)) ?_;rw[ag];refine⟨q,E,vl,rfl,Y.same O λx a e=>by rcases A x a with d|d;(have:=nb _ d;omega);omega,a0.same O λx a e=>by rcases g x a with d|d;(have:=nw _ d;omega);omega,λx a=>?_,λx a=>?_,?_⟩
  ·rcases A x a with e|e
   ·refine⟨.inl (p x e).1,λe2=>?_⟩;rcases g x e2 with e3|e3
    ·exact(p x e).2 e3
    ·have:=nb _ e;omega
   ·refine⟨.inr oM,λe2=>?_⟩;rcases g x e2 with e3|e3
    ·have:=nw _ e3;omega
    ·have:=U.lt a;omega
  ·rcases g x a with e|e
   ·exact .inl (a4 x e)
   ·exact .inr oM
  ·refine(((J.weaken (F':=λb=>(Z b/\vp.ownBlock≠some b/\vw.ownBlock≠some b)/\b<w.heap.size) λb h1 h2=>⟨h1,h2⟩).same ab λb f _ e=>e.elim f.1.2.1 f.1.2.2).weaken λx a _=>⟨.inl a.1.1,λe=>?_,λe=>?_⟩)
   ·rcases A x e with d|d
    ·exact a.1.2.1 d
    ·have:=a.2;omega
   ·rcases g x e with d|d
    ·exact a.1.2.2 d
    ·have:=a.2;omega
 rcases find_cases s.put (c.list++s.learned) with⟨i,u',x',hi,e,be⟩|⟨hn,⟨i,x',hi,e,hu,-⟩|⟨e,-⟩⟩
 ·rw[hf,Gz,Gz] at e;obtain⟨rfl,rfl,rfl⟩:=e;rw[gd] at hi;rw[Q1 oM,gw] at n;refine zb (λ_=>?_) (λb=>absurd oM b);refine zd λW I _=>?_;have E6:=E5.trans I;have A6:=A5.ext I;have B6:=X.ext I;simp only[push_cast,A6.ldAgg zE,B6.ldAgg zR,k6];refine l5At_spec (S.ext E6) (bj.ext E6) hi oM λw7 v7 j bn=>?_;have r:=E6.trans j;have A7:=A6.ext j;have B7:=B6.ext j;simp only[push_cast,A7.ldAgg zE,B7.ldAgg zR,k6,gh];refine l5Clash_spec (S.ext r) (bk.below.ext r) bn B a3 hi be λw8 v8 af a6=>?_;have R8:=((R5.ext I).ext j).ext af;have E8:=r.trans af;rw[<-n] at a6;obtain⟨p8,y8,l8,rfl,h8⟩:=a6.sat.fields;refine R8.stAgg (cs':=[p8,y8,l8,nI (goM many c s).code]) rfl zR h8 λw9 D bs a2=>?_;rw[a2.lv zR];refine hK w9 _ (Same.of_ext (Ext.then E8 D λx a=>oM)) ((a6.same D λb f _ e=>?_).weaken λb f _=>?_)
  ·have:=r.size;have:=R5.lt;have:=I.size;have:=j.size;rcases f with f|f
   ·have:=f.2;omega
   ·omega
  ·rcases f with f|f
   ·exact .inl f.1
   ·exact .inr (by have:=r.size;omega)
 ·rw[hf,Gz,Gz] at e;obtain⟨rfl,rfl,rfl⟩:=e;rw[q0 oM,Q1 oM] at n;refine zb (λb=>absurd b oM) (λ_=>zb (λ_=>?_) (λb=>absurd oM b));simp only[push_cast,X.ld0];exact push w5 _ _ E5 X R5 (gA _) n
 ·rw[hf,Gz,Gz] at e;obtain⟨rfl,rfl,rfl⟩:=e;rw[q0 oM,q0 oM] at n;refine zb (λb=>absurd b oM) (λ_=>zb (λb=>absurd b oM) (λ_=>?_));have bi:=(hp.ext E5).ints;simp only[push_cast,X.ld0,A5.ld0,bi.len];refine zb (λb=>?_) (λb=>?_)
  ·rw[Q1 oM] at n;refine X.st rfl rfl yV rfl λW ai bq bd=>?_;have B6:Blk W b3 [vp,vw,vl,nI 1] zu:=bd;rw[B6.ldAgg zR];refine(R5.same ai oM).stAgg (cs':=[vp,vw,vl,nI 1]) rfl zR (ones hp.ints.one hw.ints.one (QI J)) λw7 bl br a1=>?_;rw[a1.lv zR];have R:Ext w w7:=Ext.then E5 ((ai.mono λx _ e=>(.inl e:x=b3\/x=b4)).trans (bl.mono λx _ e=> .inr e)) λx a=>oM;refine hK w7 _ (Same.of_ext R) ?_;rw[n];exact⟨vp,vw,vl,rfl,hp.ext R,hw.ext R,λb f=>⟨.inl (p b f).1,(p b f).2⟩,λb f=> .inl (a4 b f),(J.ext R).weaken λb f _=>⟨.inl f.1,f.2⟩⟩
  ·rw[q0 oM] at n;obtain⟨f1,f2,f3,f4⟩:=free_spec M oM;have al:=bm.ints;have ca:=signs_len many s.put;refine vloop_up (Zz many s.put-1) (λi u w'=>u=[nI (i+1:Nat)]/\w'=w5) ⟨rfl,rfl⟩ ?_;rintro i _ _ w5 C hi ⟨rfl,rfl⟩ hC;have aj:=sgn_pos M (m:=((i+1:Nat):Int)) oM;rw[pO] at aj;simp(disch:=exact oS) only[sl0,al.iaddr,gw,al.load];rw[signs_get oM,aj];have am:Z20 s.put ((i+1:Nat):Int)=0↔placeOf s.put (i+1)=0:=by
    unfold Z20;rw[pO];by_cases hm:((i+1:Nat):Int)∈s.put
    ·rw[Q1 hm];have:=placeOf_ne_zero hm;rw[pO] at this;exact⟨λh=>oM,λh=>absurd h this⟩
    ·rw[q0 hm];by_cases T:placeOf s.put (i+1)=0
     ·rw[Q1 T];simp[T]
     ·rw[q0 T];simp[T]
   simp only[yR0];refine zb (λb6=>?_) (λb6=>?_)
   ·have bg:i<Zz many s.put-1:=by
     refine GQ λc6=>b6 (am.2 ?_);have:i+1=Zz many s.put:=oM;rw[this];exact f3
    simp only[XA];rw[inc64 oM];exact hC bg _ _ ⟨rfl,rfl⟩
   ·have bv:i+1=Zz many s.put:=by
     refine GQ λc8=>f4 (i+1) oM oM (am.1 (by simpa using b6))
    have e1:IntKind.i64.wrap (0-((i+1:Nat):Int))= -(Zz many s.put:Int):=by rw[zk oM oM];omega
    simp(disch:=(simp only[push_cast])) only[UE,UD,yo,Ge,X.ld0,Zg0,e1];exact push w5 _ _ E5 X R5 (gA _) n
theorem l5Run_spec {vc:Value} {n:Nat} (hc:CnfR F w vc c) (Z:cnfOk c=true) (D:c.many=many) (hn:n<=4000)
  (hK:∀w' v',Ext w w'->SpR (λb=>w.heap.size<=b) w' v' (runM many c n emptyS)->K v' w'):vcall zs0 #[vc,nI n] w K:=by
 refine zg {loops:=[(3,[6])]} Tryz.func98 ?_;have Y:=hc.below;obtain⟨lv,rfl,a4⟩:=hc;refine yi λb2 w1 a1 h a5 T=>?_;refine qj qV λb4 w2 a2 E a6 U=>?_;refine Yd xZ0 (us:=[]) rfl rfl ?_;refine qj qV λM w3 a3 o a7 V=>?_;have B3:Blk w3 M [.slice none 0 0,.slice none 0 0,.slice none 0 0,nI 0] zu:=V;have A3:Blk w3 b2 [nI c.many,lv] zq:=(T.ext E).ext o;have R3:Blk w3 b4 [.slice none 0 0,.slice none 0 0,.slice none 0 0,nI 0] zu:=U.ext o;refine B3.stAgg (cs':=[.slice none 0 0,.slice none 0 0,.slice none 0 0,nI 0]) rfl zR (λx z=>by simp only[gj,gC,Gg] at z;rcases z with rfl|rfl|rfl|rfl<;>rfl) λH q a8 B=>?_;have E4:Ext w H:=Ext.then (h.trans (E.trans o)) q λx z=>by have:=h.size;omega
 have A4:=A3.same q oM;have R:=R3.same q oM;have aa:=E4.size;have fin:∀(f:World) (p y l:Value),Ext w f->H.heap.size<=f.heap.size->Blk f b4 [.slice none 0 0,.slice none 0 0,.slice none 0 0,nI 0] zu->Blk f M [p,y,l,nI (runM many c n emptyS).code] zu->SpR (λb=>H.heap.size<=b) f (.agg #[p,y,l,nI (runM many c n emptyS).code]) (runM many c n emptyS)->
   zt zu (oP M 0) f λt21 I=>zS zu (oP b4 0) t21 I λ_ J=>vlv zu (oP b4 0) J λr4 L=>K r4 L:=by
  intro f p y l v t A k m;rw[k.ldAgg zR];obtain⟨O,Q,N,e,S⟩:=m.sat.fields;obtain⟨rfl,rfl,rfl⟩:p=O/\y=Q/\l=N:=(by simpa using e);refine A.stAgg (cs':=[p,y,l,nI (runM many c n emptyS).code]) rfl zR S λw6 d a0 W=>?_;rw[W.lv zR];exact hK w6 _ (Ext.then v d λx z=>by have:=h.size;omega) ((m.same d λb g _ e=>by have:=R.lt;omega).weaken λb g _=>oM)
 refine vloop_up n (λi u w'=> ∃p y l,u=[nI i]/\Ext w w'/\H.heap.size<=w'.heap.size/\Blk w' b2 [nI c.many,lv] zq/\Blk w' b4 [.slice none 0 0,.slice none 0 0,.slice none 0 0,nI 0] zu/\Blk w' M [p,y,l,nI (runM many c i emptyS).code] zu/\SpR (λb=>H.heap.size<=b) w' (.agg #[p,y,l,nI (runM many c i emptyS).code]) (runM many c i emptyS))
  ⟨_,_,_,rfl,E4,gA _,A4,R,B,SpR.empty⟩ ?_
 rintro i _ _ f C hi ⟨p,y,l,rfl,v,t,A5,A,k,m⟩ hC;simp only[push_cast];refine zb (λa=>?_) (λa=>?_)
 ·simp only[push_cast,k.ld3];refine zb (λb=>?_) (λb=>?_)
  ·rw[A5.ldAgg zE,k.ldAgg zR];have G:=run_ok (n:=i) D (empty_ok (many:=many) Z);refine l5Do_spec (Y.ext v) m G D λw6 v6 d s=>?_;have r:goM many c (runM many c i emptyS)=runM many c (i+1) emptyS:=by rw[run_succ];unfold stepM;rw[Q1 b]
   rw[r] at s;have l2:=A4.lt;have l4:=R.lt;have l5:=B.lt;have a0:=d.size;have A6:=A5.same d oM;have R6:=A.same d oM;have B6:=k.same d oM;obtain⟨O,Q,N,rfl,S⟩:=s.sat.fields;refine B6.stAgg (cs':=[O,Q,N,nI (runM many c (i+1) emptyS).code]) rfl zR S λw7 j a9 X=>?_;rw[inc64 oM];have E6:Ext w w6:=Ext.then v d λx z=>oM;refine hC oM _ _ ⟨O,Q,N,rfl,Ext.then E6 j λx z=>by have:=h.size;omega,oM,A6.same j oM,R6.same j oM,X,(s.same j λb g _ e=>?_).weaken λb g _=>?_⟩
   ·rcases g with g|g<;>omega
   ·rcases g with g|g<;>omega
  ·have e:runM many c n emptyS=runM many c i emptyS:=by
    rw[show n=i+(n-i) from by omega,run_add,run_stop b]
   rw[<-e] at k m;exact fin f p y l v t A k m
 ·have:n=i:=oM;subst this;exact fin f p y l v t A k m
end
end Go.Proofs.YtjkkiaacmedfdaaGreatDoor
namespace Go.Proofs.YtjkkiaacmedfdaaGreatDoor
open Go Go.Vc Go.Proofs
section
variable {w:World} {K:oK} {F F' D G:Nat->Prop} {dv tv iv lv:Value} {ds:List M.Dcl} {ts:List M.Tm} {ins:List Bool} {c:M.Cnf}
theorem l9Folds_spec (E:DclsR F w dv ds) (J:TmsR G w tv ts) (s:M.declOk ds=true) (m:∀t,t∈ts->M.sortM ds t≠ -1) (hs:ts.length<=2000000)
  (B:∀w' lv,Ext w w'->TmsR (λ_=>True) w' lv (ts.map (M.foldT ds))->K lv w'):vcall KZ #[dv,tv] w K:=by
 refine zg {loops:=[(3,[5,6])]} Tryz.func61 ?_;refine vbuildS_row (xs:=[]) (us:=[]) (k:=5) y4 yg zm rfl (by simp) dC λb1 w1 D p L o=>?_;have z:LstH (λ_=>False) w1 (.slice (some ⟨b1,0,none⟩) 0 0) []:=⟨[],Blk.ownk (css:=[]) (by rw[qL];exact o) (by simp) rfl dC,rfl,λi hi=>absurd hi (Pz _)⟩;refine vloop_up ts.length (λi u w'=> ∃lv H,u=[lv,nI i]/\Ext w w'/\LstH H w' lv ((ts.take i).map (M.foldT ds))/\∀x,lv.ownBlock=some x->w.heap.size<=x/\¬H x)
  ⟨_,_,rfl,p,z,λx c=>⟨by have e:b1=x:=gg c;omega,id⟩⟩ ?_
 rintro i _ _ w2 C hi ⟨lv,H,rfl,d,g,hO⟩ A;have l:=(J.weaken (F':=λx=>G x/\x<w.heap.size) λx a b=>⟨a,b⟩).ext d;simp only[push_cast,l.len];refine zb (λa=>?_) (λa=>?_)
 ·have f:i<ts.length:=oM;simp(disch:=exact oS) only[push_cast,l.iaddr];refine l.load zc f λx c=>?_;refine l3Fold_spec _ (E.ext d) s c (m _ (M.getD_mem f _)) λw3 rv j I=>?_;have z2:=d.size;have z3:=j.size;have llt:∀x,lv.ownBlock=some x->x<w2.heap.size:=λx c=>g.lt c;refine LstH.push (g.ext j) (λx c=>⟨(hO x c).2,λe=>?_⟩) I (by rw[K3,gm];omega) λN y v r n=>?_
  ·have:=llt x c;have:=(hO x c).1;rcases e with e|e<;>omega
  try simp only[push_cast]
  rw[inc64' oM];rw[show(ts.take i).map (M.foldT ds)++[M.foldT ds (ts.getD i default)]=(ts.take (i+1)).map (M.foldT ds) by rw[<-XE f,gE];rfl] at n;refine A f _ _ ⟨y,_,rfl,Ext.then (d.trans j) v λx c=>(hO x c).1,n,λx c=>?_⟩;rcases r x c with e|e
  ·refine⟨(hO x e).1,λh=>?_⟩;have:=llt x e;have:=(hO x e).1;rcases h.1 with h|h
   ·exact(hO x e).2 h
   ·rcases h with h|h<;>omega
  ·exact⟨oM,λh=>by have:=h.2;omega⟩
 ·have q:i=ts.length:=oM;subst q;rw[gG] at g;exact B w2 lv d (g.tms.weaken λ_ _ _=>trivial)
theorem spec_BlastEnv_spec (T:VS ds) (H:DclsR F w dv ds) (hi:Bools F' w iv ins) (d:M.declOk ds=true) (hl:ins.length=M.nIn ds)
  (X:∀w' r,Ext w w'->OwnI zj w' r (M.envB ds ins)->(∀b,r.ownBlock=some b->w.heap.size<=b)->K r w'):vcall K9 #[dv,iv] w K:=by
 refine zg {loops:=[(6,[5,6,7]),(10,[6,8,9])],cuts:=[(12292,[])]} Tryz.func100 ?_;obtain⟨a2,a3⟩:=M.nIn_eq d;refine spec_nil λv1 w1 R g A=>?_;refine zp (λu w'=>u=[]/\Ext w1 w') (λC E=>?_) ?_
 ·refine spec_DeclOk_spec (H.ext g) T λw2 f=>?_;rw[d];simp only[push_cast,GW,((hi.ext g).ext f).len];refine sbits8_spec (k:=ds.length) d (gA _) (by rw[gG];exact(H.ext g).ext f) λw3 J=>?_;rw[M.bitT_all];simp only[push_cast];refine zb (λh=>absurd oM h) (λ_=>E _ _ ⟨rfl,f.trans J⟩)
 rintro _ _ w2 ⟨rfl,f⟩;have h4:=(M.decl_iff.1 d).1;have I:=M.dpos d;have L:=M.envB_len ds ins;refine vloop_up ds.length (λi u w'=> ∃r,u=[r,nI (Jf ds i),nI i]/\Ext w w'/\OwnI zj w' r ((M.envB ds ins).take i)/\∀b,r.ownBlock=some b->w.heap.size<=b) ⟨v1,rfl,g.trans f,R.ext f,A⟩ ?_;rintro i _ _ w3 C a0 ⟨r,rfl,s,p,o⟩ E;have n:=H.ext s;have y:=hi.ext s;simp only[push_cast,n.len];refine zb (λa=>?_) (λa=>?_)
 ·have l:i<ds.length:=oM;have U:=M.dcl_wide d l;have q:=off_succ d l;have W:=off_le d (i:=i+1) oM;have het:=envB_take (ins:=ins) I l;obtain⟨wd,m⟩:∃wd:Nat,(ds.getD i (M.nada,0)).2=wd:=⟨_,(PB oM).symm⟩;rw[m] at U q het;rw[gw] at q het;generalize v:(ins.drop (Jf ds i)).take wd=bs at het;have t:bs.length=wd:=by rw[<-v,gm,pn,hl];omega
  refine vloop_up wd (λj u w'=>u=[nI (Jf ds i+j:Nat),nI (M.msbN (bs.take j)),nI j]/\w'=w3) ⟨rfl,rfl⟩ ?_;rintro j _ _ _ C1 hj ⟨rfl,rfl⟩ G;have a1:=M.msb_lt (bs.take j);have a4:2^(bs.take j).length<=2^4:=gU oM (by rw[gm];omega);simp(disch:=exact oS) only[push_cast,n.iaddr,gw,n.load1,m];refine zb (λc=>?_) (λc=>?_)
  ·have z:j<wd:=oM;have Z:ins.getD (Jf ds i+j) false=bs.getD j false:=by
    rw[<-v,M.take_getD z,X0,X0,Pg]
   simp(disch:=exact oS) only[push_cast,y.iaddr,gw,y.load,zk];refine Xq ?_;have Y:0<=M.b2i (bs.getD j false)/\M.b2i (bs.getD j false)<=1:=by unfold M.b2i;split<;>omega
   have D:=msb_snoc (bs.take j) (bs.getD j false);rw[<-M.take_add (by omega:j<bs.length) false] at D;rw[show((Jf ds i:Int)+(j:Int)).toNat=Jf ds i+j by omega,Z];simp(disch:=exact oS) only[push_cast,zk];refine G z _ _ ⟨?_,rfl⟩;rw[D,Int.mul_comm 2];simp[Int.add_assoc]
  ·have O:j=wd:=oM;subst O;rw[<-t,gG,t];refine push_int p (by rw[gm];omega) λw6 r6 S B Q=>?_;rw[<-het,<-M.take_add oM 0] at B;have z3:=s.size;rw[inc64' oM];refine E l _ _ ⟨r6,by rw[q,Int.natCast_add (Jf ds i)],Ext.then s S λx V=>o x V,B,λx V=>?_⟩;rcases Q x V with e|e
   ·exact o x e
   ·omega
 ·have N:i=ds.length:=oM;subst N;rw[<-L,gG] at p;exact X w3 r s p o
theorem Zf0 {put:List Int} {i n:Nat} (h:i<n):decide (M.sgnV put (2+i)=1)=(M.insV (M.wayM put) n).getD i false:=by
 rw[M.insV_get h];unfold M.sgnV M.wayM;rw[Nat.add_comm 2 i];by_cases c:((i+2:Nat):Int)∈put
 ·rw[Q1 c,gk c];rfl
 ·rw[q0 c,gi c];split<;>rfl
theorem l9Search_spec (aa:VS ds) (hd:DclsR F w dv ds) (I:M.declOk ds=true) (hc:CnfR G w (.agg #[nI c.many,lv]) c) (f:M.cnfOk c=true) (hn:1+M.nIn ds<=c.many.toNat)
  (hK:∀w' ev,Ext w w'->OwnI zj w' ev (M.searchM 4000 ds c).1->(∀x,ev.ownBlock=some x->w.heap.size<=x)->K (.tuple #[ev,nI (M.searchM 4000 ds c).2]) w'):
  vcall JZ #[dv,.agg #[nI c.many,lv]] w K:=by
 refine zg {loops:=[(7,[8,9])]} Tryz.func62 ?_;obtain⟨ah,ai⟩:=M.nIn_eq I;obtain⟨many,hm⟩:∃many:Nat,c.many=many:=⟨c.many.toNat,oM⟩;have a4:c.many.toNat=many:=oM
 have B:many<=700:=by
  have:=f;unfold M.cnfOk at this;simp only[gn,V0] at this;omega
 refine yi λb1 w1 ac z al a0=>?_;have A1:Blk w1 b1 [nI c.many,lv] zq:=a0;rw[A1.ldAgg zE];refine l5Run_spec (many:=many) (n:=4000) (hc.ext z) f hm (gA _) λw2 v2 A v=>?_;have z1:=z.size;have z2:=A.size;have T:=(M.run_ok (n:=4000) hm (M.empty_ok (many:=many) f)).mks;refine qj qV λb4 w3 ad a5 am a1=>?_;have d:M.searchM 4000 ds c=if(M.runM many c 4000 M.emptyS).code=1 then(M.envB ds (M.insV (M.wayM (M.runM many c 4000 M.emptyS).put) (M.nIn ds)),1) else if(M.runM many c 4000 M.emptyS).code=2 then([],2) else([],3):=by rw[<-a4];rfl
 generalize M.searchM 4000 ds c=sr at d hK;generalize M.runM many c 4000 M.emptyS=s at v d T;obtain⟨p,y,l,rfl,h8⟩:=v.sat.fields;obtain⟨p',y',l',e',hp,_,aj,_,_⟩:=v;obtain⟨rfl,rfl,rfl⟩:p=p'/\y=y'/\l=l':=by simpa using e'
 have R3:Blk w3 b4 [.slice none 0 0,.slice none 0 0,.slice none 0 0,nI 0] zu:=a1;refine R3.stAgg (cs':=[p,y,l,nI s.code]) rfl zR h8 λw4 a9 an Q=>?_;have q:Ext w2 w4:=Ext.then a5 a9 λx J=>oM
 have N:=(z.trans A).trans q;have A4:=A1.ext (A.trans q);simp only[push_cast,Q.ld3];refine zb (λa=>?_) (λa=>?_)
 ·rw[Q1 a] at d;subst d;rw[A4.ldAgg zE];simp only[push_cast,Q.ld0];refine l5Vals_spec (hc.ext N) hm B (hp.ext q).ints T λL v5 g ab o=>?_;have Z:=N.trans g;have z5:=Z.size;refine yc qy0 qi0 λb6 w6 ae a6 ao a3=>?_;have a8:OwnB qu w6 (.slice (some ⟨b6,0,none⟩) 0 0) []:=Blk.own1 (t:=qu) (cs:=[]) (by rw[UH];exact a3) (gQ _) rfl rfl oM;refine vloop_up (M.nIn ds) (λi u w'=> ∃r,u=[r,nI i]/\Ext L w'/\OwnB qu w' r ((M.insV (M.wayM s.put) (M.nIn ds)).take i)/\∀b,r.ownBlock=some b->L.heap.size<=b) ⟨_,rfl,a6,a8,λb R=>by have e:b6=b:=gg R;omega⟩ ?_;rintro i _ _ w7 C hi ⟨r,rfl,e7,E,V⟩ hC;refine sbits8_spec (k:=ds.length) I (gA _) (by rw[gG];exact hd.ext (Z.trans e7)) λw8 m=>?_;rw[M.bitT_all];simp only[push_cast];have O:=e7.trans m;have hlen:=M.insV_len (M.wayM s.put) (M.nIn ds);refine zb (λa=>?_) (λa=>?_)
  ·have S:i<M.nIn ds:=oM;have Y:=(ab.ext O).ints;have ak:=M.signs_len many s.put;simp(disch:=exact oS) only[push_cast,zk,Y.iaddr,Y.load];rw[show((2:Int)+(i:Int)).toNat=2+i by omega,M.signs_get oM,Zf0 S];refine one_bool λw9 b9 af j H=>?_;refine OwnV.app (us:=[.bool ((M.insV (M.wayM s.put) (M.nIn ds)).getD i false)]) ((E.ext m).ext j) j20 H.bools (by simp[Value.oneCell']) (by simp only[K3,gW,gm];omega) (by simp only[K3,gW,gm];omega) λv10 w10 W X U=>?_;have z8:=m.size;have z9:=j.size;have z7:=e7.size;refine hC S _ _ ⟨v10,rfl,Ext.then (O.trans j) X λb R=>V b R,?_,λb R=>?_⟩
   ·rw[M.take_add oM false];unfold OwnB;rw[gE];exact W
   ·rcases U b R with h|h
    ·exact V b h
    ·omega
  ·have ag:i=M.nIn ds:=oM;rw[gJ oM] at E;refine spec_BlastEnv_spec aa (hd.ext (Z.trans O)) (E.ext m).bools I hlen λw9 r9 j H a7=>?_;have z8:=O.size;exact hK w9 r9 (Z.trans (O.trans j)) H λx J=>by have:=a7 x J;omega
 ·rw[q0 a] at d;have z4:=N.size;refine zb (λa2=>?_) (λa2=>?_)
  ·rw[Q1 a2] at d;subst d;exact spec_nil λv5 L D g o=>hK L v5 (N.trans g) D λx J=>by have:=o x J;omega
  ·rw[q0 a2] at d;subst d;exact spec_nil λv5 L D g o=>hK L v5 (N.trans g) D λx J=>by have:=o x J;omega
theorem l9Solve_spec (u:VS ds) (c:QZ ds ts=true) (j:DclsR F w dv ds) (v:TmsR G w tv ts)
  (f:∀w' ev,Ext w w'->OwnI zj w' ev (xW ds ts []).1->(∀x,ev.ownBlock=some x->w.heap.size<=x)->K (.tuple #[ev,nI (xW ds ts []).2]) w'):vcall KY #[dv,tv] w K:=by
 refine zg {} Tryz.func31 ?_;obtain⟨L,a2,a3⟩:=all8_iff.1 c;refine l9Folds_spec j v a2 (λt v=>by rw[(ZG (a3 t v)).1];decide) oM λw1 lv a o=>?_;refine l8Cnf_spec (Qf c) (j.ext a) o λw2 cv ls k g=>?_;have B:=a.trans k;simp only[push_cast];refine cnf_new g λN b4 D l d i=>?_;have b:=B.trans l;have z4:=b.size;refine zo (λh=>?_) (λh=>?_)
 ·have E:=JN (nots:=[]) c (by simpa using h);refine spec_nil λv5 I r m p=>?_;have:=f I v5 (b.trans m);rw[E] at this;exact this r λx y=>by have:=p x y;omega
 ·have C:(cnfE ds (ts.map (M.foldT ds))).2=0:=(by simpa using h);obtain⟨z,A,H⟩:=solveR_run (nots:=[]) c C (λe he=>by cases he) (by simp);rw[xc0] at z A;rw[d.ldAgg zE];refine l9Search_spec u (j.ext b) a2 i.cnf A H λJ ev n s q=>?_;simp only[push_cast];rw[z] at f;exact f J ev (b.trans n) s λx y=>by have:=q x y;omega
theorem spec_Solve_spec (b:VS ds) (l:DclsR F w dv ds) (m:TmsR G w tv ts)
  (k:∀w' ev,Ext w w'->OwnI zj w' ev (xW ds ts []).1->(∀x,ev.ownBlock=some x->w.heap.size<=x)->K (.tuple #[ev,nI (xW ds ts []).2]) w'):vcall zH0 #[dv,tv] w K:=by
 refine zg {} Tryz.func9 ?_;refine l8All_spec b l m λw1 a=>?_;simp only[push_cast];have q:=a.size;refine zo (λh=>?_) (λh=>?_)
 ·have n:=Qr (ds:=ds) (ts:=ts) (nots:=[]) (by simpa using h);refine spec_nil λv5 o g c e=>?_;have:=k o v5 (a.trans c);rw[n] at this;exact this g λx j=>by have:=e x j;omega
 ·refine l9Solve_spec b (by simpa using h) (l.ext a) (m.ext a) λp ev d i f=>?_;simp only[push_cast];exact k p ev (a.trans d) i λx j=>by have:=f x j;omega
theorem q00 {at_ an am ar ab:Addr} (e:DclsR F w dv ds) (f:TmsR G w tv ts) (hs:ts.length<=2000000) (er:Er w at_ an am ar ab)
  (d:∀w' ev,Ext w w'->OwnI zj w' ev (xW ds ts []).1->(∀x,ev.ownBlock=some x->w.heap.size<=x)->K (.tuple #[ev,nI (xW ds ts []).2]) w'):vcall zN0 #[dv,tv] w K:=by
 refine zg {} Tryz.func8 ?_;refine solved_spec e f hs er λg ev a c b=>?_;simp only[push_cast];exact d g ev a c b
end
section
variable {ds:List M.Dcl} {ts:List M.Tm} {t:M.Tm} {e:List Int}
theorem yK0 (h:QZ ds ts=true):M.declOk ds=true/\M.sorted0 ds ts/\ts.length<=8:=
 ⟨(all8_iff.1 h).2.1,λt a=>(ZG ((all8_iff.1 h).2.2 t a)).1,(all8_iff.1 h).1⟩
theorem Zx0:∀e:List Int,e∈([]:List (List Int))->M.envOk ds e=true:=λe he=>by cases he
theorem few_nots (h:ts.length<=8):ts.length+([]:List (List Int)).length<=90:=by simp;omega
theorem qD0 (h:QZ ds ts=true):xW ds ts []=M.solveM 4000 ds ts []:=Q1 h
theorem JO (h:(xW ds ts []).2≠4):QZ ds ts=true:=gX λc=>h (by rw[Qr c])
theorem sol_iff:M.Sol ds ts [] e↔M.envOk ds e=true/\M.allT ds e ts:=by simp[M.Sol]
theorem solveR_yes (h:(xW ds ts []).2=1):QZ ds ts=true/\M.envOk ds (xW ds ts []).1=true/\M.allT ds (xW ds ts []).1 ts/\∀e,M.envOk ds e=true->M.allT ds e ts->M.rankE ds (xW ds ts []).1<=M.rankE ds e:=by
 have d:=JO (ds:=ds) (ts:=ts) oM;obtain⟨a,b,c⟩:=yK0 d;rw[qD0 d] at*;obtain⟨⟨p1,p2,_⟩,i⟩:=M.solve_yes a b Zx0 (few_nots c) h;exact⟨d,p1,p2,λe f g=>i e (sol_iff.2 ⟨f,g⟩)⟩
theorem ZO0 (he:M.envOk ds e=true) (h:M.sortM ds (M.noT t)=0):M.evalM ds e (M.noT t)=1↔M.evalM ds e t≠1:=by
 obtain⟨_,a,c⟩:=M.eval_no he (t:=M.noT t) (by rw[h];decide) rfl;have a:M.inS 0 (M.evalM ds e t):=a;have c:M.evalM ds e (M.noT t)=1-M.evalM ds e t:=c;rw[c];rcases M.inS_zero a with x|x<;>rw[x]<;>decide
end
section
variable {ds:List M.Dcl} {ts:List M.Tm}
instance (ds:List M.Dcl) (e:List Int) (ts:List M.Tm):Decidable (M.allT ds e ts):=by unfold M.allT;infer_instance
end
section
variable {w:World} {K:oK} {D F F' G:Nat->Prop} {dv tv uv:Value} {ds:List M.Dcl} {ts:List M.Tm} {t:M.Tm} {at_ an am ar ab:Addr}
theorem Clone_Term (d:TmsR F w tv ts) (v:ts.length<=2000000) (n:∀w' v',Ext w w'->LstH (λx=>F x/\x<w.heap.size) w' v' ts->(∀x,v'.ownBlock=some x->w.heap.size<=x)->K v' w'):
  vcall qs #[tv] w K:=by
 refine zg {} Tryz.func63 ?_;obtain⟨css,j,k,hi⟩:=d;obtain⟨a,c,rfl,A,u,g⟩:=j.shape;rw[Qo z60];refine zo (λp=>?_) (λp=>?_)
 ·cases a with
  |some a=>cases p
  |none=>
   have m:css=[]:=gX λh=>by
    obtain⟨b,o,r,_⟩:=g h;cases r
   subst m;have:ts=[]:=pJ.1 k.symm;subst this;exact n w _ (Same.refl _ _) LstH.nil λx d=>by cases d
 ·refine yc y4 yg λb w1 z he B t=>?_;have q:LstH (λ_=>False) w1 (.slice (some ⟨b,0,none⟩) 0 0) []:=⟨[],Blk.ownk (css:=[]) (by rw[qL];exact t) (by simp) rfl dC,rfl,λi hi=>absurd hi (Pz _)⟩;have f:∀x,(Value.slice (some ⟨b,0,none⟩) 0 0).ownBlock=some x->w.heap.size<=x:=λx d=>by have e:b=x:=gg d;omega
  refine LstH.app (H2:=λx=>F x/\x<w.heap.size) (us:=ts) q (λx d=>⟨id,λe=>by have:=f x d;omega⟩) (j.ext he) k (λi h=>((hi i h).weaken λx d k=>⟨d,k⟩).ext he) (by simp;omega) λw2 v' hw l s=>?_;have y:=he.size;refine n w2 v' (Ext.then he hw f) (s.weaken λx d _=>(d.1.resolve_left id)) λx d=>?_;rcases l x d with h|h
  ·exact f x h
  ·omega
theorem push_blk {n b:Nat} {cs:List Value} {e:TypeId} (h:LstH (λx=>F x/\x<n) w tv ts) (d:∀x,tv.ownBlock=some x->n<=x) (j:Blk w b cs e) (g:TmR (λx=>G x/\x<n) w cs t) (hs:ts.length<=2000000)
  (k:∀w' r,Same (λx=>n<=x) w w'->TmsR (λ_=>True) w' r (ts++[t])->K r w'):vbi .append [ze,ze] ze [tv,.slice (some ⟨b,0,none⟩) 1 1] w K:=by
 refine LstH.app (H2:=λx=>G x/\x<n) (us:=[t]) h (λx a=>⟨λe=>by have:=d x a;omega,λe=>by have:=d x a;omega⟩) (j.sl1k (zB g)) rfl (λi hi=>?_) (by simp;omega) λl v5 f _ c=>k l v5 (f.mono λx _ a=>d x a) (c.tms.weaken λ_ _ _=>trivial);have:i=0:=by simpa using hi
 subst this;exact g
theorem with_spec (I:TmsR F w tv ts) (hu:TermR G w uv t) (hs:ts.length<=2000000) (z:∀w' r,Ext w w'->TmsR (λ_=>True) w' r (ts++[t])->K r w'):vcall yA0 #[tv,uv] w K:=by
 refine zg {} Tryz.func32 ?_;obtain⟨cs,rfl,g⟩:=hu.cells;have l:=zB g;refine zl λb w1 N p J m=>?_;refine zd λw2 i _=>?_;have e:=p.trans i;have ld:∀{w':World} (_:Ext w2 w') (K:oK),zt za (oP b 0) w' K=K (.agg ⟨cs⟩) w':=λh K=>(m.ext (i.trans h)).ldAgg (by rw[l];exact zc);have Q:=e.size;have j:=I.ext e;have f:∀{w':World},Ext w2 w'->TmR (λx=>G x/\x<w2.heap.size) w' cs t:=λh=>((g.weaken (F':=λx=>G x/\x<w2.heap.size) λx k O=>⟨k,oM⟩).ext e).ext h;rw[ld (Same.refl _ _)];refine⟨rfl,?_,?_,trivial⟩
 ·refine Clone_Term j hs λw3 v3 a C q=>?_;have v:=a.size;rw[ld a];refine⟨⟨rfl,rfl⟩,?_,trivial⟩;refine x6 y4 yg zm rfl l dC λb4 M H c L o=>?_;refine⟨?_,trivial⟩;have B:=c.size;exact push_blk (C.ext c) q o (f ((a.trans c))) hs λy r d u=>z y r (Ext.then (e.trans (a.trans c)) d λx k=>oM) u
 ·refine x6 y4 yg zm rfl l dC λb3 w3 E a v n=>?_;refine⟨?_,trivial⟩;have A:=a.size;refine Clone_Term (j.ext a) hs λM v4 c D s=>?_;refine⟨?_,trivial⟩;exact push_blk D s (n.ext c) ((f (a.trans c)).weaken λx k _=>⟨k.1,oM⟩) hs λy r d u=>z y r (Ext.then (e.trans (a.trans c)) d λx k=>oM) u
theorem app3 {w2:World} {b:Nat} {cs:List Value} {R:oK} (N:Blk w2 b cs za) (U:TmsR F w2 tv ts) (B:TmR G w2 cs t) (hs:ts.length<=2000000)
  (hR:∀w' r,Ext w2 w'->TmsR (λ_=>True) w' r (ts++[t])->R r w'):
  zt za (oP b 0) w2 λt8 X=>X=w2/\
  (vbuildS ze 0 [] w2 λt5 o=>(zt za (oP b 0) o λv x=>v=t8/\x=o)/\
   (vbi .append [ze,ze] ze [t5,tv] o λt7 y=>(zt za (oP b 0) y λv x=>v=t8/\x=y)/\
    (vbuildS ze 1 [(0,t8)] y λt9 Y=>
     (vbi .append [ze,ze] ze [t7,t9] Y λt10 Z=>R t10 Z)/\True)/\True)/\
   (vbuildS ze 1 [(0,t8)] o λt9 a0=>
    (vbi .append [ze,ze] ze [t5,tv] a0 λt7 a1=>
     (vbi .append [ze,ze] ze [t7,t9] a1 λt10 D=>R t10 D)/\True)/\True)/\True)/\
  (vbuildS ze 1 [(0,t8)] w2 λt9 E=>
   (vbuildS ze 0 [] E λt5 H=>
    (vbi .append [ze,ze] ze [t5,tv] H λt7 I=>
     (vbi .append [ze,ze] ze [t7,t9] I λt10 J=>R t10 J)/\True)/\True)/\True)/\True:=by
 have z:=zB B;have ld:∀{w':World} (_:Ext w2 w') (K:oK),zt za (oP b 0) w' K=K (.agg ⟨cs⟩) w':=λh K=>(N.ext h).ldAgg (by rw[z];exact zc);have s:∀{w':World} {S:Nat->Prop},Same S w2 w'->(∀x,S x->w2.heap.size<=x)->TmR (λx=>G x/\x<w2.heap.size) w' cs t:=λh hS=>(B.weaken (F':=λx=>G x/\x<w2.heap.size) λx c C=>⟨c,C⟩).same h λx c _ e=>by have:=hS x e;omega
 have fin:∀{w' w'':World} {r:Value},Ext w2 w'->Same (λx=>w2.heap.size<=x) w' w''->TmsR (λ_=>True) w'' r (ts++[t])->R r w'':=λh h2 u=>hR _ _ (Ext.then h h2 λx c=>c) u;have cp:∀{w3 n:World} {b3:Nat} {K:oK},Ext w2 w3->b3=w3.heap.size->Ext w3 n->Blk n b3 [] za->(∀w' v,Ext w3 w'->Same (λx=>x=b3) n w'->LstH (λx=>F x/\x<w2.heap.size) w' v ts->(∀x,v.ownBlock=some x->w3.heap.size<=x)->K v w')->
   vbi .append [ze,ze] ze [.slice (some ⟨b3,0,none⟩) 0 0,tv] n K:=λ{w3 n b3 K} e3 l M N hk=>by
  have h0:LstH (λ_=>False) n (.slice (some ⟨b3,0,none⟩) 0 0) []:=⟨[],Blk.ownk (css:=[]) (by rw[qL];exact N) (by simp) rfl dC,rfl,λi hi=>absurd hi (Pz _)⟩;have m:∀x,(Value.slice (some ⟨b3,0,none⟩) 0 0).ownBlock=some x->x=b3:=λx c=>(gg c).symm;have z3:=e3.size;have z4:=M.size;obtain⟨css,T,C,hi⟩:=(U.weaken (F':=λx=>F x/\x<w2.heap.size) λx c C=>⟨c,C⟩).ext (e3.trans M);refine LstH.app (H2:=λx=>F x/\x<w2.heap.size) (us:=ts) h0 (λx c=>⟨id,λe=>by have:=m x c;omega⟩) T C hi (by simp;omega) λL v5 hw g z=>?_;refine hk L v5 (Ext.then M hw λx c=>by have:=m x c;omega) (hw.mono λx _ c=>m x c) (z.weaken λx c _=>c.1.resolve_left id) λx c=>?_;rcases g x c with h|h
  ·have:=m x h;omega
  ·omega
 rw[ld (Same.refl _ _)];refine⟨rfl,?_,?_,trivial⟩
 ·refine yc y4 yg λb3 w3 l d V k=>?_;rw[ld d];refine⟨⟨rfl,rfl⟩,?_,?_,trivial⟩
  ·refine cp (Same.refl _ _) l d k λn v4 a _ h4 Q=>?_;rw[ld a];refine⟨⟨rfl,rfl⟩,?_,trivial⟩;refine x6 y4 yg zm rfl z dC λb5 L a2 f a3 O=>?_;refine⟨?_,trivial⟩;exact push_blk (h4.ext f) Q O (s (a.trans f) λ_ h=>h.elim) hs λw6 r j u=>fin (a.trans f) j u
  ·refine x6 y4 yg zm rfl z dC λb4 n A a W q=>?_;refine⟨?_,trivial⟩;have z3:=d.size;have z4:=a.size;refine cp (w3:=w2) (Same.refl _ _) l (d.trans a) (k.ext a) λL v5 f w p g=>?_;refine⟨?_,trivial⟩;exact push_blk p g (q.same w (λe=>oM)) (s f λ_ h=>h.elim) hs λw6 r j u=>fin f j u
 ·refine x6 y4 yg zm rfl z dC λb3 w3 l d V k=>?_;refine⟨?_,trivial⟩;refine yc y4 yg λb4 n A a W q=>?_;refine⟨?_,trivial⟩;have z3:=d.size;refine cp d A a q λL v5 f w p g=>?_;refine⟨?_,trivial⟩;exact push_blk p (λx c=>by have:=g x c;omega) ((k.ext a).same w (λe=>oM)) (s (d.trans f) λ_ h=>h.elim) hs λw6 r j u=>fin (d.trans f) j u
theorem yD0 (i:TmsR F w tv ts) (hu:TermR G w uv t) (hs:ts.length<=2000000) (g:∀w' r,Ext w w'->TmsR (λ_=>True) w' r (ts++[t])->K r w'):vcall Wn #[tv,uv] w K:=by
 refine zg {} Tryz.func45 ?_;obtain⟨cs,rfl,e⟩:=hu.cells;refine zl λb w1 k f j c=>?_;refine zd λw2 a _=>?_;have d:=f.trans a;exact app3 (c.ext a) (i.ext d) (e.ext d) hs λw' r he h=>g w' r (d.trans he) h
theorem no_term {b:Nat} {cs:List Value} {e:TypeId} (c:Blk w b cs e) (a:TmR G w cs t):TermR (λ_=>True) w (.agg ⟨[nI 25,nI 0,nI 0,.string ⟨#[]⟩,.slice (some ⟨b,0,none⟩) 1 1]⟩) (.mk 25 0 0 M.nada [t]):=
 ⟨_,rfl,[cs],(c.sl1k (zB a)).weaken λ_ _ _=>trivial,rfl,λi hi=>by
  have:i=0:=by have:i<1:=hi;omega
  subst this;exact a.weaken λ_ _ _=>trivial⟩
def YO (ds:List M.Dcl) (ts:List M.Tm) (t:M.Tm):List Int×Int:=xW ds (ts++[.mk 25 0 0 M.nada [t]]) []
theorem SolveProve_spec (p:DclsR F w dv ds) (s:TmsR F' w tv ts) (hu:TermR G w uv t) (hs:ts.length<=1048576) (er:Er w at_ an am ar ab)
  (n:∀w' ev,Ext w w'->OwnI zj w' ev (YO ds ts t).1->(∀x,ev.ownBlock=some x->w.heap.size<=x)->K (.tuple #[ev,nI (YO ds ts t).2]) w'):vcall QF #[dv,tv,uv] w K:=by
 refine zg {} Tryz.func10 ?_;obtain⟨cs,rfl,d⟩:=hu.cells;have m:=zB d;refine zl λb w1 A g v e=>?_;rw[e.ldAgg (by rw[m];exact zc)];refine x6 y4 yg zm rfl m dC λb2 w2 o h y f=>?_;have c:=g.trans h;simp only[push_cast];refine with_spec (s.ext c) (no_term f (d.ext c)) oM λw3 r i q=>?_;have a:=c.trans i;refine q00 (p.ext a) q (by simp;omega) (er.ext a) λz ev j l k=>?_;simp only[push_cast];exact n z ev (a.trans j) l λx u=>by have:=k x u;have:=a.size;omega
theorem spec_SolveProve_spec (v:VS ds) (p:DclsR F w dv ds) (s:TmsR F' w tv ts) (hu:TermR G w uv t) (hs:ts.length<=1048576)
  (n:∀w' ev,Ext w w'->OwnI zj w' ev (YO ds ts t).1->(∀x,ev.ownBlock=some x->w.heap.size<=x)->K (.tuple #[ev,nI (YO ds ts t).2]) w'):vcall Qw #[dv,tv,uv] w K:=by
 refine zg {} Tryz.func17 ?_;obtain⟨cs,rfl,d⟩:=hu.cells;have m:=zB d;refine zl λb w1 B g y e=>?_;rw[e.ldAgg (by rw[m];exact zc)];refine x6 y4 yg zm rfl m dC λb2 w2 o h z f=>?_;have a:=g.trans h;simp only[push_cast];refine yD0 (s.ext a) (no_term f (d.ext a)) oM λw3 r i q=>?_;have c:=a.trans i;refine spec_Solve_spec v (p.ext c) q λA ev j l k=>?_;simp only[push_cast];exact n A ev (c.trans j) l λx u=>by have:=k x u;have:=c.size;omega
end
section
variable {ds:List M.Dcl} {ts:List M.Tm} {t:M.Tm} {e:List Int} {a b:List Int}
theorem no_kid (b:M.declOk ds=true) (h:M.tsort ds (M.noT t)=0):M.tsort ds t=0:=by
 obtain⟨a,d,_⟩:=ZG h;have f:=(M.sort_parts (ds:=ds) (t:=M.noT t) (by rw[a];decide)).1;have hs:=M.sort_one b f (t:=M.noT t) rfl;have c:M.sortM ds t=0:=by
  have e:M.oneM (M.noT t) (M.sortM ds t)=0:=by rw[<-a];exact hs.symm
  exact(M.one_good (t:=M.noT t) (.inr (.inr (.inr rfl))) (by rw[e];decide)).1 rfl
 obtain⟨f1,f2⟩:=M.fits_iff.1 d;have k:M.sizeM t+1<=M.sizeM (M.noT t)/\M.deepM t+1<=M.deepM (M.noT t):=M.kid_size (t:=M.noT t) (i:=0) Nat.one_pos;rw[JK b (M.fits_iff.2 ⟨oM,oM⟩),c]
theorem all8_app (h:QZ ds (ts++[t])=true):QZ ds ts=true/\M.tsort ds t=0:=by
 obtain⟨a,b,c⟩:=all8_iff.1 h;exact⟨all8_iff.2 ⟨by simp at a;omega,b,λu hu=>c u (gp.2 (.inl hu))⟩,c t (gp.2 (.inr (gB.2 rfl)))⟩
theorem VZ (h:(YO ds ts t).2≠4):M.declOk ds=true/\QZ ds ts=true/\M.tsort ds t=0/\M.sortM ds (M.noT t)=0:=by
 have c:QZ ds (ts++[M.noT t])=true:=JO h;obtain⟨a,b⟩:=all8_app c;exact⟨(all8_iff.1 c).2.1,a,no_kid (all8_iff.1 c).2.1 b,(ZG b).1⟩
theorem prove_yes (h:(YO ds ts t).2=1):M.envOk ds (YO ds ts t).1=true/\M.allT ds (YO ds ts t).1 ts/\¬M.allT ds (YO ds ts t).1 [t]:=by
 obtain⟨_,a,b,_⟩:=solveR_yes (ts:=ts++[M.noT t]) h;obtain⟨p,q⟩:=M.allT_app.1 b;have hs:=(VZ (ds:=ds) (ts:=ts) (t:=t) oM).2.2.2;exact⟨a,p,λc=>(ZO0 a hs).1 (M.allT_one.1 q) (M.allT_one.1 c)⟩
end
section
variable {w:World} {K:oK} {D F F' G H:Nat->Prop} {dv tv v:Value} {ds:List M.Dcl} {ts:List M.Tm} {t u:M.Tm} {env e:List Int} {xs:List Nat} {at_ an am ar ab:Addr}
def Jd (ds:List M.Dcl) (t u:M.Tm):M.Tm:=if M.tsort ds t=0 then .mk 23 0 0 M.nada [t,u,M.noT u] else .mk 15 0 0 M.nada [t,u]
theorem alike_one (g:M.Good ds t u) (he:M.envOk ds env=true) (h:M.sortM ds (Jd ds t u)≠ -1):M.evalM ds env (Jd ds t u)=1:=by
 have e:=g.eval env he;have k:=g.sort;unfold Jd at h⊢;split at h
 ·next d=>
  rw[Q1 d];obtain⟨_,f,a⟩:=M.eval_if he h rfl;have l:=(M.sort_parts h).1;have hs:=M.sort_three l (ds:=ds) rfl;have k0:M.kid (.mk 23 0 0 M.nada [t,u,M.noT u]) 0=t:=rfl;have b:M.kid (.mk 23 0 0 M.nada [t,u,M.noT u]) 1=u:=rfl;have i:M.kid (.mk 23 0 0 M.nada [t,u,M.noT u]) 2=M.noT u:=rfl;rw[k0,b,i] at hs;rw[k0] at f;rw[k0,b,i] at a;have m:M.sortM ds (M.noT u)≠ -1:=by
   intro c;rw[hs] at h;split at h
   ·exact h rfl
   ·next q=>
    have o:M.sortM ds t=0:=gX λz=>q (.inl z);have p:M.sortM ds u=M.sortM ds (M.noT u):=gX λz=>q (.inr z);omega
  obtain⟨_,_,j⟩:=M.eval_no he m rfl;have n:M.kid (M.noT u) 0=u:=rfl;rw[n] at j;rw[a,j,e];rcases M.inS_zero f with c|c
  ·rw[c,q0 dC];rfl
  ·rw[c,Q1 rfl]
 ·next d=>
  rw[q0 d];obtain⟨_,v0,v1,a⟩:=M.eval_cmp he h (Pk _) (show(15:Int)<=17 by decide);have k0:M.kid (.mk 15 0 0 M.nada [t,u]) 0=t:=rfl;have b:M.kid (.mk 15 0 0 M.nada [t,u]) 1=u:=rfl;rw[k0] at v0;rw[k0,b,e,k] at a;rw[a];have op:(M.Tm.mk 15 0 0 M.nada [t,u]).op=15:=rfl;rw[op];unfold M.vecCmp;rw[Q1 ⟨v0,v0,rfl,dC,dC⟩];unfold M.cmpM;rw[Q1 rfl,gk rfl];rfl
theorem short_no (a:M.Good ds t u):(YO ds [] (Jd ds t u)).2≠1:=by
 intro h;obtain⟨p1,_,b⟩:=prove_yes h;have q:=(VZ (ds:=ds) (ts:=[]) (t:=Jd ds t u) oM).2.2.1;exact b (M.allT_one.2 (alike_one a p1 (by rw[(ZG q).1];decide)))
theorem no_termN {b:Nat} {cs:List Value} {e:TypeId} (c:Blk w b cs e) (a:TmR G w cs t) (d:∀x,G x->x<w.heap.size->F x) (f:F b):TermR F w (.agg ⟨[nI 25,nI 0,nI 0,.string ⟨#[]⟩,.slice (some ⟨b,0,none⟩) 1 1]⟩) (M.noT t):=
 ⟨_,rfl,[cs],(c.sl1k (zB a)).weaken λx g _=>by rw[g];exact f,rfl,λi hi=>by
  have:i=0:=by have:i<1:=hi;omega
  subst this;exact a.weaken d⟩
theorem FnSolveShort_spec (hx:Bytes F w v xs) (er:Er w at_ an am ar ab) (hK:∀w',Ext w w'->K (.bool true) w'):vcall X9 #[v] w K:=by
 refine zg {cuts:=[(24583,[]),(36874,[])]} Tryz.func4 ?_;simp only[push_cast,hx.len];refine zb (λ_=>hK w (Same.refl _ _)) (λ_=>?_);refine DrawTermFold_spec hx.below (λb hb=>hb) λw1 dv tv ds t aj hd E ht=>?_;obtain⟨cs,rfl,q⟩:=ht.cells;replace q:=q.weaken (F':=λx=>x<w1.heap.size) λx _ T=>T;simp only[push_cast];refine zi zm λb2 w2 bb a4 bf h2=>?_;refine stTerm h2 rfl (q.ext a4) λw3 aw bl h3=>?_;have s:Ext w1 w3:=Ext.then a4 aw λy U=>by subst U;omega
 have R:aggB za cs.length=true:=by rw[zB q];exact zc
 have ai:=aj.trans s;rw[h3.ldAgg (t:=za) R];refine TermFold_spec (hd.ext s) (q.ext s).term λw4 cu ak au=>?_;have m:=(z00 _ au).weaken (F':=λx=>x<w4.heap.size) λx _ T=>T;have gu:aggB za cu.length=true:=by rw[zB m];exact zc
 refine zi zm λb5 w5 bc a5 bi h5=>?_;refine stTerm h5 rfl (m.ext a5) λw6 ax bm V=>?_;have J:Ext w4 w6:=Ext.then a5 ax λy U=>by subst U;omega
 have A:=ak.trans J;have W:=s.trans A;have o:=h3.ext A;have r:=hd.ext W;have p:=q.ext W;have z:=m.ext J;have N:=ai.trans A;refine zp (λu w'=>u=[]/\Ext w6 w'/\M.tsort ds t≠ -1) (λC hC=>?_) ?_
 ·refine zd λw7 i _=>?_;simp only[(V.ext i).ldAgg (t:=za) gu,(o.ext i).ldAgg (t:=za) R,k6];refine spec_TermFold_spec (dsm_sized E) (r.ext i) (p.ext i).term λw8 cv Q av=>?_;have n:=i.trans Q;simp only[(V.ext n).ldAgg (t:=za) gu,k6,gh];refine TermSame_spec _ (z.ext n).term (z00 _ av).term λw9 D=>?_;have B:=n.trans D;rw[gk rfl];simp only[push_cast,GW,k6];rw[(o.ext B).ldAgg (t:=za) R];refine⟨rfl,?_⟩;refine spec_TermSort_spec (dsm_sized E) (r.ext B) (p.ext B).term λw10 a3=>?_;have j:=B.trans a3;simp only[push_cast];refine⟨trivial,zb (λa=>?_) (λa=>hC _ _ ⟨rfl,j,oM⟩)⟩;refine zd λac f _=>?_;have d:=j.trans f;simp only[(V.ext d).ldAgg (t:=za) gu,(o.ext d).ldAgg (t:=za) R,k6];refine spec_TermFold_spec (dsm_sized E) (r.ext d) (p.ext d).term λad ba g a9=>?_;have e:=d.trans g;simp only[(V.ext e).ldAgg (t:=za) gu,k6,gh];refine TermSame_spec _ (z.ext e).term (z00 _ a9).term λae k=>?_;rw[gk rfl];exact hK _ (N.trans (e.trans k))
 rintro _ _ w7 ⟨rfl,i,aq⟩;obtain⟨a2,a7,al⟩:=right_parts aq;rw[xa0 a2 al a7] at z;have S:=M.fold_good a2 t a7;have be:=s.size;have bg:=A.size;have bh:=J.size;have bj:=i.size;simp only[(o.ext i).ldAgg (t:=za) R,(V.ext i).ldAgg (t:=za) gu];refine kids2 (G:=λx=>x<w7.heap.size) ((p.ext i).weaken λx _ T=>T).term ((z.ext i).weaken λx _ T=>T).term λw8 a8 Q bn k8=>?_;simp only[push_cast];have a1:=TmR.of (t:= .mk 15 0 0 M.nada [t,M.foldT ds t]) k8;refine zi zm λb9 w9 bd D bk h9=>?_;refine stTerm h9 rfl (a1.ext D) λw10 aa b3 L=>?_;have l:Ext w8 w10:=Ext.then D aa λy U=>by subst U;omega
 have n:=i.trans Q;have j:=n.trans l;refine zp (λu w'=>u=[]/\∃cs',Ext w8 w'/\Blk w' b9 cs' za/\TmR (λ_=>True) w' cs' (Jd ds t (M.foldT ds t))) (λC hC=>?_) ?_
 ·rw[(o.ext j).ldAgg (t:=za) R];refine TermSort_spec (r.ext j) (p.ext j).term λac f=>?_;have d:=j.trans f;simp only[push_cast];refine zb (λa=>?_) (λa=>hC _ _ ⟨rfl,_,l.trans f,L.ext f,by unfold Jd;rw[q0 a];exact(a1.ext (l.trans f)).weaken λ_ _ _=>trivial⟩);simp only[(o.ext d).ldAgg (t:=za) R,(V.ext d).ldAgg (t:=za) gu];refine x6 y4 yg zm rfl (zB m) dC λaf ad b1 g b4 ag=>?_;simp only[push_cast];have e:=d.trans g;have l9:=L.lt;have bo:=f.size;have ao:af≠b9:=oM;have H:=z.ext e;have a0:=p.ext e;have hn:=no_termN (F:=λx=>x≠b9) ag H (λx hx _=>oM) ao;refine kids3 (G:=λx=>x≠b9) (a0.weaken λx hx _=>oM).term (H.weaken λx hx _=>oM).term hn λae b8 k b6 ay=>?_;simp only[push_cast];have Y:=l.trans (f.trans (g.trans k));have a6:=TmR.of (t:= .mk 23 0 0 M.nada [t,M.foldT ds t,M.noT (M.foldT ds t)]) ay;refine stTerm (L.ext (f.trans (g.trans k))) rfl a6 λbp I b7 ah=>?_;refine hC _ _ ⟨rfl,_,Ext.then Y I λy U=>by subst U;omega,ah,?_⟩;unfold Jd;rw[Q1 a];exact(a6.same I λb hb _ h=>oM).weaken λ_ _ _=>trivial
 rintro _ _ ac ⟨rfl,cs',X,Z,O⟩;have gal:aggB za cs'.length=true:=by rw[zB O];exact zc
 have d:=n.trans X;rw[Z.ldAgg (t:=za) gal];refine SolveProve_spec (ts:=[]) (F':=λ_=>False) (r.ext d) TmsR.nil O.term dC (er.ext (N.trans d)) λad az g _ _=>?_;have e:=d.trans g;simp only[push_cast];rw[(Z.ext g).ldAgg (t:=za) gal];refine spec_SolveProve_spec (ts:=[]) (F':=λ_=>False) (dsm_sized E) (r.ext e) TmsR.nil (O.ext g).term dC λae b0 k _ _=>?_;have hE:=N.trans (e.trans k);simp only[push_cast];have ap:=short_no S;refine zb (λ_=>?_) (λc=>absurd trivial c);simpa[ap] using hK _ hE
end
end Go.Proofs.YtjkkiaacmedfdaaGreatDoor
section
namespace Go.Proofs.YtjkkiaacmedfdaaGreatDoor
open Go Go.Vc Go.Proofs
open Go.RowKit
theorem laid_at {l:List (String×DataW Unit)} {W:World} (h:laidMet P l W):∀k,laidMet P (l.drop k) W
 |0=>h
 |k+1=>by
  have a:=laid_at h k;rw[<-List.tail_drop];cases b:l.drop k with
  |nil=>rw[b] at a;exact a
  |cons x r=>rw[b] at a;exact a.tail
theorem z40: "*" ++ "errors.errorString" = "*errors.errorString" :=dC
theorem kd0 (u:TypeId) (h:P.typeName? 3 u=some "*errors.errorString"):u=yO:=
 typeName_ptr_named (nm:= "errors.errorString") (by rw[z40];kernel_rfl) rK dC u (by rw[z40];exact h)
def ifaceB (t:TypeId):Bool:=match P.underlying t with
 |some (.interface _)=>true
 |_=>false
theorem ky0 {t:TypeId} (h:ifaceB t=true):∃ms,P.underlying t=some (.interface ms):=by
 unfold ifaceB at h;split at h
 ·exact⟨_,by assumption⟩
 ·cases h
theorem xu0:∃ms,P.underlying xr=some (.interface ms):=ky0 rK
def fieldB (t u:TypeId):Bool:=match P.underlying t with
 |some (.struct fs)=>match fs.toList with
  |[f]=>decide (f.type=u)&&decide (f.offset=0)
  |_=>false
 |_=>false
theorem kC0 {t u:TypeId} (h:fieldB t u=true):∃f,P.underlying t=some (.struct #[f])/\f.type=u/\f.offset=0:=by
 unfold fieldB at h;split at h
 ·rename_i fs a;split at h
  ·rename_i f b;simp only[gn,V0] at h;refine⟨f,?_,h⟩;rw[a];congr 2;exact GP.1 (by simpa using b)
  ·cases h
 ·cases h
theorem ke0:P.underlying yO=some (.pointer 416):=rK
theorem yk0:∃f,P.underlying 416=some (.struct #[f])/\f.type=xc/\f.offset=0:=kC0 rK
theorem yl0:P.underlying xc=some .string:=rK
theorem ZW0:P.cellsOf 416=1/\P.cellsOf xc=1:=⟨rK,rK⟩
theorem vars_len {H:Type} {enc:TypeId×Value->H} {w:World} {sp:Nat->Bool}:∀{ns:List String} {gs:List (DataW H)} {ps:List MemPlace},DataW.TrodVars enc P w sp ns gs ps->gs.length=ns.length
 |[],[],_,_=>rfl
 |[],_::_,_,h=>h.elim
 |_::_,[],_,h=>h.elim
 |_::_,_::_,_,⟨_,_,_,_,_,_,_,_,_,_,hs,_⟩=>by rw[gF,gF,vars_len hs]
theorem vlist5 {α:Type} {l:List α} (h:l.length=5):∃a b c d e,l=[a,b,c,d,e]:=by
 match l,h with
 |[a,b,c,d,e],_=>exact⟨a,b,c,d,e,rfl⟩
end Go.Proofs.YtjkkiaacmedfdaaGreatDoor
end
section
namespace Go.Proofs.YtjkkiaacmedfdaaGreatDoor
open Go Go.Vc Go.Proofs
open Go.RowKit
theorem XV {x y:String×DataW Unit} {r:List (String×DataW Unit)} {w:World} (h:laidMet P (x::y::r) w):laidMet P (x::r) w:=by
 obtain⟨ps,u,j,c⟩:=h;obtain⟨n,d⟩:=x;obtain⟨m,e⟩:=y;obtain⟨g,t,cs,fuel,p,q,o,a2,a3,a4,s,rfl⟩:=u;obtain⟨g2,t2,f,i,p2,l,_,_,_,_,k,rfl⟩:=s;have a:=pE (pT (MemPlace.row ⟨g,0,none⟩ cs.size++p)) (List.sublist_append_right (MemPlace.row ⟨g2,0,none⟩ f.size++p2) l);exact⟨_,⟨g,t,cs,fuel,p,l,o,a2,a3,a4,k,rfl⟩,List.Nodup.sublist a j,λb off hm=>c b off (a.subset hm)⟩
theorem jE {W:World} {g:Nat} {a c:Addr} (h:Sent W g a) (b:Sent W g c):a=c:=by
 unfold Sent at h b;rw[h] at b
 injection b with b
 injection b with _ b
 injection b with b
 exact gg b
theorem Zb {j k:String} {t0 t1:List UInt8} {r:List (String×DataW Unit)} {W:World} {g0 g1:Nat} (h:laidMet P ((j,.iface "*errors.errorString" (.ptr (.agg [.lit (.string t0)])))::(k,.iface "*errors.errorString" (.ptr (.agg [.lit (.string t1)])))::r) W)
  (c:P.globalNamed j=some g0) (g:(P.globals[g0]?).map (·.type)=some xr) (d:P.globalNamed k=some g1) (i:(P.globals[g1]?).map (·.type)=some xr):∃a b,Sent W g0 a/\Sent W g1 b/\a≠b/\RowA W a/\RowA W b:=by
 obtain⟨ms,hi⟩:=xu0;obtain⟨f,m,n,o⟩:=yk0;obtain⟨a0,l,u,s1,c0,c1,s,t,v0,v1,_,_,_,_,_,_,e,p,q⟩:=laid_sentinels2 h c g d i hi kd0 ke0 m n o yl0 ZW0.1 ZW0.2;exact⟨a0,l,by unfold Sent;simpa using World.var?_cell c v0 0,by unfold Sent;simpa using World.var?_cell d v1 0,e,⟨c0,s,p⟩,⟨c1,t,q⟩⟩
theorem er_of {nr nb nt nn nm:String} {tr tb tt tn tm:List UInt8} {r l:List (String×DataW Unit)} {W:World} (h:laidMet P l W) (k:Nat)
  (B:l.drop k=(nr,.iface "*errors.errorString" (.ptr (.agg [.lit (.string tr)])))::(nb,.iface "*errors.errorString" (.ptr (.agg [.lit (.string tb)])))::(nt,.iface "*errors.errorString" (.ptr (.agg [.lit (.string tt)])))::(nn,.iface "*errors.errorString" (.ptr (.agg [.lit (.string tn)])))::(nm,.iface "*errors.errorString" (.ptr (.agg [.lit (.string tm)])))::r)
  (er:P.globalNamed nr=some xR) (eb:P.globalNamed nb=some j8) (et:P.globalNamed nt=some yI) (en:P.globalNamed nn=some jj) (em:P.globalNamed nm=some qq)
  (fr:(P.globals[xR]?).map (·.type)=some xr) (fb:(P.globals[j8]?).map (·.type)=some xr) (ft:(P.globals[yI]?).map (·.type)=some xr) (fn:(P.globals[jj]?).map (·.type)=some xr) (fm:(P.globals[qq]?).map (·.type)=some xr):
  ∃at_ an am ar ab,Er W at_ an am ar ab:=by
 have a:=laid_at h k;rw[B] at a;obtain⟨ar,ab,sr,sb,_,rr,_⟩:=Zb a er fr eb fb;have b:=XV a;obtain⟨w,at_,j,st,C,_,rt⟩:=Zb b er fr et ft;have q:=XV b;obtain⟨x,an,m,sn,D,_,rn⟩:=Zb q er fr en fn;obtain⟨y,am,n,sm,E,_,rm⟩:=Zb (XV q) er fr em fm;have c:=b.tail;obtain⟨z,u,o,g,F,_⟩:=Zb c et ft en fn;obtain⟨A,s,p,d,G,_⟩:=Zb (XV c) et ft em fm;obtain⟨v,t,i,f,n6,_⟩:=Zb c.tail en fn em fm;obtain rfl:=jE j sr;obtain rfl:=jE m sr;obtain rfl:=jE n sr;obtain rfl:=jE o st;obtain rfl:=jE p st;obtain rfl:=jE g sn;obtain rfl:=jE i sn;obtain rfl:=jE d sm;obtain rfl:=jE f sm;exact⟨_,_,_,_,ab,st,sn,sm,⟨sr,sb,id,id⟩,rt,rn,rm,rr,λe=>F e.symm,λe=>G e.symm,λe=>n6 e.symm,C,D,E⟩
end Go.Proofs.YtjkkiaacmedfdaaGreatDoor
end
end
