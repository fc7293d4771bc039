import Derived.Test.YtjkkiaacmedfdaaGreatDoorWybP14
import Derived.OpenVars
import Derived.MakeChecks
import Derived.Stop.LaidErr
import Derived.Stop.LaidTwo
/- A part of the proof. -/
set_option linter.all false
set_option maxRecDepth 9999
set_option maxHeartbeats 2000000
noncomputable section
namespace Go.Proofs.YtjkkiaacmedfdaaGreatDoor
open Go Go.Vc Go.Proofs Go.M
section
variable {w:World} {K:oK} {F F':Nat->Prop} {many:Nat} {c:Cnf} {s:Sat}
theorem l5Do_spec {vc v:Value} {Z:Nat->Prop} (hc:CnfR F w vc c) (hs:SpR Z w v s) (B:satOk many c s) (a3:c.many=many)
  (hK:∀w' v',Same Z w w'->SpR (λb=>Z b\/w.heap.size<=b) w' v' (goM many c s)->K v' w'):vcall yr0 #[vc,v] w K:=by
 refine zg {loops:=[(13,[9])]} Tryz.func131 ?_;have S:=hc;have bj:=hs.sat;have bk:=hs;obtain⟨lv,rfl,ad⟩:=hc;obtain⟨vp,vw,vl,rfl,hp,hw,p,a4,J⟩:=hs;have L:many<=700/\c.list.length<=2500:=by
  have:=B.cnf;unfold cnfOk at this;simp only[gm,K3] at this;omega
 have bu:=B.few;have M:=B.mks;have c9:=M.len;have hlen:=B.len;have ac:∀cl,cl∈c.list++s.learned->∀l,l∈cl->l≠0/\l.natAbs<=many:=λcl ad l hl=>satOk.bnd B a3 ad hl;refine ym λb2 w1 c2 bf cb ba=>?_;refine ym λb3 w2 c3 ae cc bb=>?_;refine ql qU λb4 w3 c4 a5 ce bc=>?_;have A3:Blk w3 b2 [nI c.many,lv] zr:=(ba.ext ae).ext a5;have B3:Blk w3 b3 [vp,vw,vl,nI s.code] zw:=bb.ext a5;have R3:Blk w3 b4 [.slice none 0 0,.slice none 0 0,.slice none 0 0,nI 0] zw:=bc;have E3:=bf.trans (ae.trans a5);rw[A3.ldAgg zE];simp only[push_cast,B3.ld0];refine l5Vals_spec (S.ext E3) a3 L.1 (hp.ext E3).ints M λw4 v4 G ak c7=>?_;have E4:=E3.trans G;have A4:=A3.ext G;have B4:=B3.ext G;simp only[push_cast,A4.ldAgg zE,B4.ld2];refine l5Find_spec (S.ext E4) (J.ext E4) ak.ints M L.1 oM ac λw5 k u x H hf=>?_;have E5:=E4.trans H;have A5:=A4.ext H;have X:=B4.ext H;have R5:=(R3.ext G).ext H;have bm:=ak.ext H;have l3:=X.lt;have l4:=R5.lt;have cg:=E5.size;have cf:=G.size;simp only[push_cast];have ones:∀{q E ao:Value} {cd:Int},q.oneCell'=true->E.oneCell'=true->ao.oneCell'=true->∀x,x∈[q,E,ao,nI cd]->x.oneCell'=true:=λh1 h2 h3 x a=>by
  simp only[gg,gz,Gd] at a;rcases a with rfl|rfl|rfl|rfl
  ·exact h1
  ·exact h2
  ·exact h3
  ·rfl
 have n:goM many c s=(if 0<=k then jl many c s (atM c s k.toNat) else if 0<=u then{s with put:=s.put++[x],why:=s.why++[u]}
  else if s.put.length=many then{s with code:=1} else{s with put:=s.put++[-(Zy many s.put:Int)],why:=s.why++[-1]}):=by
  unfold goM;rw[hf]
 have push:∀(W:World) (l y:Int),Ext w W->Blk W b3 [vp,vw,vl,nI s.code] zw->Blk W b4 [.slice none 0 0,.slice none 0 0,.slice none 0 0,nI 0] zw->w5.heap.size<=W.heap.size->goM many c s={s with put:=s.put++[l],why:=s.why++[y]}->
   vbuildS zi 1 [(0,nI l)] W λt39 aq=>vbi .append [zi,zi] zi [vp,t39] aq λt40 ar=>zS zi (oP b3 0) t40 ar λ_ au=>zu zi (oP b3 1) au λt43 av=>
   vbuildS zi 1 [(0,nI y)] av λt45 aw=>vbi .append [zi,zi] zi [t43,t45] aw λt46 ax=>zS zi (oP b3 1) t46 ax λ_ ay=>zu zw (oP b3 0) ay λt48 az=>
   zS zw (oP b4 0) t48 az λ_ b0=>vlv zw (oP b4 0) b0 λan b1=>K an b1:=by
  intro W l y E6 B6 R6 bq ag;have ci:=E6.size;refine zD xd yZ xx rfl rfl λb7 w7 c5 j br a1=>?_;have r:=E6.trans j;refine(hp.ext r).app1 xF a1 oM oM λq w8 U V A=>?_;have nb:∀x,vp.ownBlock=some x->x<w.heap.size:=λx a=>hp.lt a;have nw:∀x,vw.ownBlock=some x->x<w.heap.size:=λx a=>hw.lt a;have B8:=(B6.ext j).same V λe=>by have:=nb _ e;omega
  refine B8.st U.ints.cells1 U.ints.one jc rfl λw9 D bs a2=>?_;have B9:Blk w9 b3 [q,vw,vl,nI s.code] zw:=a2;have bh:=U.same D λx a e=>by rcases A x a with d|d;(have:=nb _ d;omega);omega
  have bo:=((hw.ext r).same V λx a e=>(p x e).2 a).same D λx a e=>by have:=nw _ a;omega
  simp only[push_cast,B9.ld1];have ch:=V.size;refine zD xd yZ xx rfl rfl λc1 w10 bt t bw a8=>?_;refine(bo.ext t).app1 xF a8 oM oM λE cj Q z g=>?_;have b5:=(B9.ext t).same z λe=>by have:=nw _ e;omega
  have ah:=(bh.ext t).same z λx a e=>by
   rcases A x a with d|d
   ·exact(p x d).2 e
   ·have:=nw _ e;omega
  refine b5.st Q.ints.cells1 Q.ints.one jc rfl λap N bz a9=>?_;have b8:Blk ap b3 [q,E,vl,nI s.code] zw:=a9;have hS:Same (λx=>vp.ownBlock=some x\/vw.ownBlock=some x\/x=b3) w7 ap:=(V.mono λx _ e=> .inl e).trans ((D.mono λx _ e=> .inr (.inr e)).trans ((Same.of_ext t).trans ((z.mono λx _ e=> .inr (.inl e)).trans (N.mono λx _ e=> .inr (.inr e)))));have b9:=(R6.ext j).same hS (by rintro(e|e|e);exact absurd (nb _ e) oM;exact absurd (nw _ e) oM;omega);have Y:=ah.same N λx a e=>by rcases A x a with d|d;(have:=nb _ d;omega);omega
  have bx:=z.size;have a0:=Q.same N λx a e=>by rcases g x a with d|d;(have:=nw _ d;omega);omega
  rw[b8.ldAgg zR];refine b9.stAgg (cs':=[q,E,vl,nI s.code]) rfl zR (ones Y.ints.one a0.ints.one (QE J)) λa7 O c0 aa=>?_;rw[aa.lv zR];have o:Same (λx=>vp.ownBlock=some x\/vw.ownBlock=some x\/x=b3\/x=b4) w7 a7:=(hS.mono λx _ e=>e.imp id λe=>e.imp id .inl).trans (O.mono λx _ e=> .inr (.inr (.inr e)));have ab:Same (λb=>vp.ownBlock=some b\/vw.ownBlock=some b) w a7:=by
   refine⟨o.os.trans r.os,o.tape.trans r.tape,o.output.trans r.output,gL r.size o.size,λb f hn=>?_⟩;rw[o.block b (by have:=r.size;omega) (by rintro(e|e|e|e);exact hn (.inl e);exact hn (.inr e);omega;omega),r.block b f id]
  have bp:=hS.size;refine hK a7 _ (ab.mono λb _ e=>e.elim (λe=>(p b e).1) (a4 b)) ?_;rw[ag];refine⟨q,E,vl,rfl,Y.same O λx a e=>by rcases A x a with d|d;(have:=nb _ d;omega);omega,a0.same O λx a e=>by rcases g x a with d|d;(have:=nw _ d;omega);omega,λx a=>?_,λx a=>?_,?_⟩
  ·rcases A x a with e|e
   ·refine⟨.inl (p x e).1,λe2=>?_⟩;rcases g x e2 with e3|e3
    ·exact(p x e).2 e3
    ·have:=nb _ e;omega
   ·refine⟨.inr oM,λe2=>?_⟩;rcases g x e2 with e3|e3
    ·have:=nw _ e3;omega
    ·have:=U.lt a;omega
  ·rcases g x a with e|e
   ·exact .inl (a4 x e)
   ·exact .inr oM
  ·refine(((J.weaken (F':=λb=>(Z b/\vp.ownBlock≠some b/\vw.ownBlock≠some b)/\b<w.heap.size) λb h1 h2=>⟨h1,h2⟩).same ab λb f _ e=>e.elim f.1.2.1 f.1.2.2).weaken λx a _=>⟨.inl a.1.1,λe=>?_,λe=>?_⟩)
   ·rcases A x e with d|d
    ·exact a.1.2.1 d
    ·have:=a.2;omega
   ·rcases g x e with d|d
    ·exact a.1.2.2 d
    ·have:=a.2;omega
 rcases find_cases s.put (c.list++s.learned) with⟨i,u',x',hi,e,be⟩|⟨hn,⟨i,x',hi,e,hu,-⟩|⟨e,-⟩⟩
 ·rw[hf,Gy,Gy] at e;obtain⟨rfl,rfl,rfl⟩:=e;rw[V0] at hi;rw[X0 oM,gq] at n;refine zb (λ_=>?_) (λb=>absurd oM b);refine zd λW I _=>?_;have E6:=E5.trans I;have A6:=A5.ext I;have B6:=X.ext I;simp only[push_cast,A6.ldAgg zE,B6.ldAgg zR,k6];refine l5At_spec (S.ext E6) (bj.ext E6) hi oM λw7 v7 j bn=>?_;have r:=E6.trans j;have A7:=A6.ext j;have B7:=B6.ext j;simp only[push_cast,A7.ldAgg zE,B7.ldAgg zR,k6,gj];refine l5Clash_spec (S.ext r) (bk.below.ext r) bn B a3 hi be λw8 v8 af a6=>?_;have R8:=((R5.ext I).ext j).ext af;have E8:=r.trans af;rw[<-n] at a6;obtain⟨p8,y8,l8,rfl,h8⟩:=a6.sat.fields;refine R8.stAgg (cs':=[p8,y8,l8,nI (goM many c s).code]) rfl zR h8 λw9 D bs a2=>?_;rw[a2.lv zR];refine hK w9 _ (Same.of_ext (Ext.then E8 D λx a=>oM)) ((a6.same D λb f _ e=>?_).weaken λb f _=>?_)
  ·have:=r.size;have:=R5.lt;have:=I.size;have:=j.size;rcases f with f|f
   ·have:=f.2;omega
   ·omega
  ·rcases f with f|f
   ·exact .inl f.1
   ·exact .inr (by have:=r.size;omega)
 ·rw[hf,Gy,Gy] at e;obtain⟨rfl,rfl,rfl⟩:=e;rw[y1 oM,X0 oM] at n;refine zb (λb=>absurd b oM) (λ_=>zb (λ_=>?_) (λb=>absurd oM b));simp only[push_cast,X.ld0];exact push w5 _ _ E5 X R5 (gx _) n
 ·rw[hf,Gy,Gy] at e;obtain⟨rfl,rfl,rfl⟩:=e;rw[y1 oM,y1 oM] at n;refine zb (λb=>absurd b oM) (λ_=>zb (λb=>absurd b oM) (λ_=>?_));have bi:=(hp.ext E5).ints;simp only[push_cast,X.ld0,A5.ld0,bi.len];refine zb (λb=>?_) (λb=>?_)
  ·rw[X0 oM] at n;refine X.st rfl rfl yZ rfl λW ai bq bd=>?_;have B6:Blk W b3 [vp,vw,vl,nI 1] zw:=bd;rw[B6.ldAgg zR];refine(R5.same ai oM).stAgg (cs':=[vp,vw,vl,nI 1]) rfl zR (ones hp.ints.one hw.ints.one (QE J)) λw7 bl br a1=>?_;rw[a1.lv zR];have R:Ext w w7:=Ext.then E5 ((ai.mono λx _ e=>(.inl e:x=b3\/x=b4)).trans (bl.mono λx _ e=> .inr e)) λx a=>oM;refine hK w7 _ (Same.of_ext R) ?_;rw[n];exact⟨vp,vw,vl,rfl,hp.ext R,hw.ext R,λb f=>⟨.inl (p b f).1,(p b f).2⟩,λb f=> .inl (a4 b f),(J.ext R).weaken λb f _=>⟨.inl f.1,f.2⟩⟩
  ·rw[y1 oM] at n;obtain⟨f1,f2,f3,f4⟩:=free_spec M oM;have al:=bm.ints;have ca:=signs_len many s.put;refine vloop_up (Zy many s.put-1) (λi u w'=>u=[nI (i+1:Nat)]/\w'=w5) ⟨rfl,rfl⟩ ?_;rintro i _ _ w5 C hi ⟨rfl,rfl⟩ hC;have aj:=sgn_pos M (m:=((i+1:Nat):Int)) oM;rw[pN] at aj;simp(disch:=exact oS) only[sl0,al.iaddr,gq,al.load];rw[signs_get oM,aj];have am:kZ0 s.put ((i+1:Nat):Int)=0↔placeOf s.put (i+1)=0:=by
    unfold kZ0;rw[pN];by_cases hm:((i+1:Nat):Int)∈s.put
    ·rw[X0 hm];have:=placeOf_ne_zero hm;rw[pN] at this;exact⟨λh=>oM,λh=>absurd h this⟩
    ·rw[y1 hm];by_cases T:placeOf s.put (i+1)=0
     ·rw[X0 T];simp[T]
     ·rw[y1 T];simp[T]
   simp only[yL0];refine zb (λb6=>?_) (λb6=>?_)
   ·have bg:i<Zy many s.put-1:=by
     refine GQ λc6=>b6 (am.2 ?_);have:i+1=Zy many s.put:=oM;rw[this];exact f3
    simp only[Xx];rw[inc64 oM];exact hC bg _ _ ⟨rfl,rfl⟩
   ·have bv:i+1=Zy many s.put:=by
     refine GQ λc8=>f4 (i+1) oM oM (am.1 (by simpa using b6))
    have e1:IntKind.i64.wrap (0-((i+1:Nat):Int))= -(Zy many s.put:Int):=by rw[zl oM oM];omega
    simp(disch:=(simp only[push_cast])) only[Uy,Ux,yr,gY,X.ld0,Zd0,e1];exact push w5 _ _ E5 X R5 (gx _) n
theorem l5Run_spec {vc:Value} {n:Nat} (hc:CnfR F w vc c) (Z:cnfOk c=true) (D:c.many=many) (hn:n<=4000)
  (hK:∀w' v',Ext w w'->SpR (λb=>w.heap.size<=b) w' v' (runM many c n emptyS)->K v' w'):vcall zk0 #[vc,nI n] w K:=by
 refine zg {loops:=[(3,[6])]} Tryz.func98 ?_;have Y:=hc.below;obtain⟨lv,rfl,a4⟩:=hc;refine ym λb2 w1 a1 h a5 T=>?_;refine ql qU λb4 w2 a2 E a6 U=>?_;refine Yc xS0 (us:=[]) rfl rfl ?_;refine ql qU λM w3 a3 o a7 V=>?_;have B3:Blk w3 M [.slice none 0 0,.slice none 0 0,.slice none 0 0,nI 0] zw:=V;have A3:Blk w3 b2 [nI c.many,lv] zr:=(T.ext E).ext o;have R3:Blk w3 b4 [.slice none 0 0,.slice none 0 0,.slice none 0 0,nI 0] zw:=U.ext o;refine B3.stAgg (cs':=[.slice none 0 0,.slice none 0 0,.slice none 0 0,nI 0]) rfl zR (λx z=>by simp only[gg,gz,Gd] at z;rcases z with rfl|rfl|rfl|rfl<;>rfl) λH q a8 B=>?_;have E4:Ext w H:=Ext.then (h.trans (E.trans o)) q λx z=>by have:=h.size;omega
 have A4:=A3.same q oM;have R:=R3.same q oM;have aa:=E4.size;have fin:∀(f:World) (p y l:Value),Ext w f->H.heap.size<=f.heap.size->Blk f b4 [.slice none 0 0,.slice none 0 0,.slice none 0 0,nI 0] zw->Blk f M [p,y,l,nI (runM many c n emptyS).code] zw->SpR (λb=>H.heap.size<=b) f (.agg #[p,y,l,nI (runM many c n emptyS).code]) (runM many c n emptyS)->
   zu zw (oP M 0) f λt21 I=>zS zw (oP b4 0) t21 I λ_ J=>vlv zw (oP b4 0) J λr4 L=>K r4 L:=by
  intro f p y l v t A k m;rw[k.ldAgg zR];obtain⟨O,Q,N,e,S⟩:=m.sat.fields;obtain⟨rfl,rfl,rfl⟩:p=O/\y=Q/\l=N:=(by simpa using e);refine A.stAgg (cs':=[p,y,l,nI (runM many c n emptyS).code]) rfl zR S λw6 d a0 W=>?_;rw[W.lv zR];exact hK w6 _ (Ext.then v d λx z=>by have:=h.size;omega) ((m.same d λb g _ e=>by have:=R.lt;omega).weaken λb g _=>oM)
 refine vloop_up n (λi u w'=> ∃p y l,u=[nI i]/\Ext w w'/\H.heap.size<=w'.heap.size/\Blk w' b2 [nI c.many,lv] zr/\Blk w' b4 [.slice none 0 0,.slice none 0 0,.slice none 0 0,nI 0] zw/\Blk w' M [p,y,l,nI (runM many c i emptyS).code] zw/\SpR (λb=>H.heap.size<=b) w' (.agg #[p,y,l,nI (runM many c i emptyS).code]) (runM many c i emptyS))
  ⟨_,_,_,rfl,E4,gx _,A4,R,B,SpR.empty⟩ ?_
 rintro i _ _ f C hi ⟨p,y,l,rfl,v,t,A5,A,k,m⟩ hC;simp only[push_cast];refine zb (λa=>?_) (λa=>?_)
 ·simp only[push_cast,k.ld3];refine zb (λb=>?_) (λb=>?_)
  ·rw[A5.ldAgg zE,k.ldAgg zR];have G:=run_ok (n:=i) D (empty_ok (many:=many) Z);refine l5Do_spec (Y.ext v) m G D λw6 v6 d s=>?_;have r:goM many c (runM many c i emptyS)=runM many c (i+1) emptyS:=by rw[run_succ];unfold stepM;rw[X0 b]
   rw[r] at s;have l2:=A4.lt;have l4:=R.lt;have l5:=B.lt;have a0:=d.size;have A6:=A5.same d oM;have R6:=A.same d oM;have B6:=k.same d oM;obtain⟨O,Q,N,rfl,S⟩:=s.sat.fields;refine B6.stAgg (cs':=[O,Q,N,nI (runM many c (i+1) emptyS).code]) rfl zR S λw7 j a9 X=>?_;rw[inc64 oM];have E6:Ext w w6:=Ext.then v d λx z=>oM;refine hC oM _ _ ⟨O,Q,N,rfl,Ext.then E6 j λx z=>by have:=h.size;omega,oM,A6.same j oM,R6.same j oM,X,(s.same j λb g _ e=>?_).weaken λb g _=>?_⟩
   ·rcases g with g|g<;>omega
   ·rcases g with g|g<;>omega
  ·have e:runM many c n emptyS=runM many c i emptyS:=by
    rw[show n=i+(n-i) from by omega,run_add,run_stop b]
   rw[<-e] at k m;exact fin f p y l v t A k m
 ·have:n=i:=oM;subst this;exact fin f p y l v t A k m
end
end Go.Proofs.YtjkkiaacmedfdaaGreatDoor
namespace Go.Proofs.YtjkkiaacmedfdaaGreatDoor
open Go Go.Vc Go.Proofs
section
variable {w:World} {K:oK} {F F' D G:Nat->Prop} {dv tv iv lv:Value} {ds:List M.Dcl} {ts:List M.Tm} {ins:List Bool} {c:M.Cnf}
theorem l9Folds_spec (E:DclsR F w dv ds) (J:TmsR G w tv ts) (s:M.declOk ds=true) (m:∀t,t∈ts->M.sortM ds t≠ -1) (hs:ts.length<=2000000)
  (B:∀w' lv,Ext w w'->TmsR (λ_=>True) w' lv (ts.map (M.foldT ds))->K lv w'):vcall KW #[dv,tv] w K:=by
 refine zg {loops:=[(3,[5,6])]} Tryz.func61 ?_;refine vbuildS_row (xs:=[]) (us:=[]) (k:=5) yi yu zn rfl (by simp) dC λb1 w1 D p L o=>?_;have z:LstH (λ_=>False) w1 (.slice (some ⟨b1,0,none⟩) 0 0) []:=⟨[],Blk.ownk (css:=[]) (by rw[qn];exact o) (by simp) rfl dC,rfl,λi hi=>absurd hi (Py _)⟩;refine vloop_up ts.length (λi u w'=> ∃lv H,u=[lv,nI i]/\Ext w w'/\LstH H w' lv ((ts.take i).map (M.foldT ds))/\∀x,lv.ownBlock=some x->w.heap.size<=x/\¬H x)
  ⟨_,_,rfl,p,z,λx c=>⟨by have e:b1=x:=gd c;omega,id⟩⟩ ?_
 rintro i _ _ w2 C hi ⟨lv,H,rfl,d,g,hO⟩ A;have l:=(J.weaken (F':=λx=>G x/\x<w.heap.size) λx a b=>⟨a,b⟩).ext d;simp only[push_cast,l.len];refine zb (λa=>?_) (λa=>?_)
 ·have f:i<ts.length:=oM;simp(disch:=exact oS) only[push_cast,l.iaddr];refine l.load zc f λx c=>?_;refine l3Fold_spec _ (E.ext d) s c (m _ (M.getD_mem f _)) λw3 rv j I=>?_;have z2:=d.size;have z3:=j.size;have llt:∀x,lv.ownBlock=some x->x<w2.heap.size:=λx c=>g.lt c;refine LstH.push (g.ext j) (λx c=>⟨(hO x c).2,λe=>?_⟩) I (by rw[Q1,gi];omega) λN y v r n=>?_
  ·have:=llt x c;have:=(hO x c).1;rcases e with e|e<;>omega
  try simp only[push_cast]
  rw[inc64' oM];rw[show(ts.take i).map (M.foldT ds)++[M.foldT ds (ts.getD i default)]=(ts.take (i+1)).map (M.foldT ds) by rw[<-JK f,gC];rfl] at n;refine A f _ _ ⟨y,_,rfl,Ext.then (d.trans j) v λx c=>(hO x c).1,n,λx c=>?_⟩;rcases r x c with e|e
  ·refine⟨(hO x e).1,λh=>?_⟩;have:=llt x e;have:=(hO x e).1;rcases h.1 with h|h
   ·exact(hO x e).2 h
   ·rcases h with h|h<;>omega
  ·exact⟨oM,λh=>by have:=h.2;omega⟩
 ·have q:i=ts.length:=oM;subst q;rw[gE] at g;exact B w2 lv d (g.tms.weaken λ_ _ _=>trivial)
theorem spec_BlastEnv_spec (T:y30 ds) (H:DclsR F w dv ds) (hi:Bools F' w iv ins) (d:M.declOk ds=true) (hl:ins.length=M.nIn ds)
  (X:∀w' r,Ext w w'->OwnI zi w' r (M.envB ds ins)->(∀b,r.ownBlock=some b->w.heap.size<=b)->K r w'):vcall K8 #[dv,iv] w K:=by
 refine zg {loops:=[(6,[5,6,7]),(10,[6,8,9])],cuts:=[(12292,[])]} Tryz.func100 ?_;obtain⟨a2,a3⟩:=M.nIn_eq d;refine spec_nil λv1 w1 R g A=>?_;refine zq (λu w'=>u=[]/\Ext w1 w') (λC E=>?_) ?_
 ·refine spec_DeclOk_spec (H.ext g) T λw2 f=>?_;rw[d];simp only[push_cast,G7,((hi.ext g).ext f).len];refine sbits8_spec (k:=ds.length) d (gx _) (by rw[gE];exact(H.ext g).ext f) λw3 J=>?_;rw[M.bitT_all];simp only[push_cast];refine zb (λh=>absurd oM h) (λ_=>E _ _ ⟨rfl,f.trans J⟩)
 rintro _ _ w2 ⟨rfl,f⟩;have h4:=(M.decl_iff.1 d).1;have I:=M.dpos d;have L:=M.envB_len ds ins;refine vloop_up ds.length (λi u w'=> ∃r,u=[r,nI (Jd ds i),nI i]/\Ext w w'/\OwnI zi w' r ((M.envB ds ins).take i)/\∀b,r.ownBlock=some b->w.heap.size<=b) ⟨v1,rfl,g.trans f,R.ext f,A⟩ ?_;rintro i _ _ w3 C a0 ⟨r,rfl,s,p,o⟩ E;have n:=H.ext s;have y:=hi.ext s;simp only[push_cast,n.len];refine zb (λa=>?_) (λa=>?_)
 ·have l:i<ds.length:=oM;have U:=M.dcl_wide d l;have q:=off_succ d l;have W:=off_le d (i:=i+1) oM;have het:=envB_take (ins:=ins) I l;obtain⟨wd,m⟩:∃wd:Nat,(ds.getD i (M.nada,0)).2=wd:=⟨_,(PA oM).symm⟩;rw[m] at U q het;rw[gq] at q het;generalize v:(ins.drop (Jd ds i)).take wd=bs at het;have t:bs.length=wd:=by rw[<-v,gi,G5,hl];omega
  refine vloop_up wd (λj u w'=>u=[nI (Jd ds i+j:Nat),nI (M.msbN (bs.take j)),nI j]/\w'=w3) ⟨rfl,rfl⟩ ?_;rintro j _ _ _ C1 hj ⟨rfl,rfl⟩ G;have a1:=M.msb_lt (bs.take j);have a4:2^(bs.take j).length<=2^4:=gQ oM (by rw[gi];omega);simp(disch:=exact oS) only[push_cast,n.iaddr,gq,n.load1,m];refine zb (λc=>?_) (λc=>?_)
  ·have z:j<wd:=oM;have Z:ins.getD (Jd ds i+j) false=bs.getD j false:=by
    rw[<-v,M.take_getD z,q0,q0,Pf]
   simp(disch:=exact oS) only[push_cast,y.iaddr,gq,y.load,zl];refine Xm ?_;have Y:0<=M.b2i (bs.getD j false)/\M.b2i (bs.getD j false)<=1:=by unfold M.b2i;split<;>omega
   have D:=msb_snoc (bs.take j) (bs.getD j false);rw[<-M.take_add (by omega:j<bs.length) false] at D;rw[show((Jd ds i:Int)+(j:Int)).toNat=Jd ds i+j by omega,Z];simp(disch:=exact oS) only[push_cast,zl];refine G z _ _ ⟨?_,rfl⟩;rw[D,Int.mul_comm 2];simp[Int.add_assoc]
  ·have O:j=wd:=oM;subst O;rw[<-t,gE,t];refine push_int p (by rw[gi];omega) λw6 r6 S B Q=>?_;rw[<-het,<-M.take_add oM 0] at B;have z3:=s.size;rw[inc64' oM];refine E l _ _ ⟨r6,by rw[q,Int.natCast_add (Jd ds i)],Ext.then s S λx V=>o x V,B,λx V=>?_⟩;rcases Q x V with e|e
   ·exact o x e
   ·omega
 ·have N:i=ds.length:=oM;subst N;rw[<-L,gE] at p;exact X w3 r s p o
theorem Zc0 {put:List Int} {i n:Nat} (h:i<n):decide (M.sgnV put (2+i)=1)=(M.insV (M.wayM put) n).getD i false:=by
 rw[M.insV_get h];unfold M.sgnV M.wayM;rw[Nat.add_comm 2 i];by_cases c:((i+2:Nat):Int)∈put
 ·rw[X0 c,gl c];rfl
 ·rw[y1 c,gh c];split<;>rfl
theorem l9Search_spec (aa:y30 ds) (hd:DclsR F w dv ds) (I:M.declOk ds=true) (hc:CnfR G w (.agg #[nI c.many,lv]) c) (f:M.cnfOk c=true) (hn:1+M.nIn ds<=c.many.toNat)
  (hK:∀w' ev,Ext w w'->OwnI zi w' ev (M.searchM 4000 ds c).1->(∀x,ev.ownBlock=some x->w.heap.size<=x)->K (.tuple #[ev,nI (M.searchM 4000 ds c).2]) w'):
  vcall JZ #[dv,.agg #[nI c.many,lv]] w K:=by
 refine zg {loops:=[(7,[8,9])]} Tryz.func62 ?_;obtain⟨ah,ai⟩:=M.nIn_eq I;obtain⟨many,hm⟩:∃many:Nat,c.many=many:=⟨c.many.toNat,oM⟩;have a4:c.many.toNat=many:=oM
 have B:many<=700:=by
  have:=f;unfold M.cnfOk at this;simp only[gm,K3] at this;omega
 refine ym λb1 w1 ac z al a0=>?_;have A1:Blk w1 b1 [nI c.many,lv] zr:=a0;rw[A1.ldAgg zE];refine l5Run_spec (many:=many) (n:=4000) (hc.ext z) f hm (gx _) λw2 v2 A v=>?_;have z1:=z.size;have z2:=A.size;have T:=(M.run_ok (n:=4000) hm (M.empty_ok (many:=many) f)).mks;refine ql qU λb4 w3 ad a5 am a1=>?_;have d:M.searchM 4000 ds c=if(M.runM many c 4000 M.emptyS).code=1 then(M.envB ds (M.insV (M.wayM (M.runM many c 4000 M.emptyS).put) (M.nIn ds)),1) else if(M.runM many c 4000 M.emptyS).code=2 then([],2) else([],3):=by rw[<-a4];rfl
 generalize M.searchM 4000 ds c=sr at d hK;generalize M.runM many c 4000 M.emptyS=s at v d T;obtain⟨p,y,l,rfl,h8⟩:=v.sat.fields;obtain⟨p',y',l',e',hp,_,aj,_,_⟩:=v;obtain⟨rfl,rfl,rfl⟩:p=p'/\y=y'/\l=l':=by simpa using e'
 have R3:Blk w3 b4 [.slice none 0 0,.slice none 0 0,.slice none 0 0,nI 0] zw:=a1;refine R3.stAgg (cs':=[p,y,l,nI s.code]) rfl zR h8 λw4 a9 an Q=>?_;have q:Ext w2 w4:=Ext.then a5 a9 λx J=>oM
 have N:=(z.trans A).trans q;have A4:=A1.ext (A.trans q);simp only[push_cast,Q.ld3];refine zb (λa=>?_) (λa=>?_)
 ·rw[X0 a] at d;subst d;rw[A4.ldAgg zE];simp only[push_cast,Q.ld0];refine l5Vals_spec (hc.ext N) hm B (hp.ext q).ints T λL v5 g ab o=>?_;have Z:=N.trans g;have z5:=Z.size;refine yf qp0 q90 λb6 w6 ae a6 ao a3=>?_;have a8:OwnB qy w6 (.slice (some ⟨b6,0,none⟩) 0 0) []:=Blk.own1 (t:=qy) (cs:=[]) (by rw[UB];exact a3) (gO _) rfl rfl oM;refine vloop_up (M.nIn ds) (λi u w'=> ∃r,u=[r,nI i]/\Ext L w'/\OwnB qy w' r ((M.insV (M.wayM s.put) (M.nIn ds)).take i)/\∀b,r.ownBlock=some b->L.heap.size<=b) ⟨_,rfl,a6,a8,λb R=>by have e:b6=b:=gd R;omega⟩ ?_;rintro i _ _ w7 C hi ⟨r,rfl,e7,E,V⟩ hC;refine sbits8_spec (k:=ds.length) I (gx _) (by rw[gE];exact hd.ext (Z.trans e7)) λw8 m=>?_;rw[M.bitT_all];simp only[push_cast];have O:=e7.trans m;have hlen:=M.insV_len (M.wayM s.put) (M.nIn ds);refine zb (λa=>?_) (λa=>?_)
  ·have S:i<M.nIn ds:=oM;have Y:=(ab.ext O).ints;have ak:=M.signs_len many s.put;simp(disch:=exact oS) only[push_cast,zl,Y.iaddr,Y.load];rw[show((2:Int)+(i:Int)).toNat=2+i by omega,M.signs_get oM,Zc0 S];refine one_bool λw9 b9 af j H=>?_;refine OwnV.app (us:=[.bool ((M.insV (M.wayM s.put) (M.nIn ds)).getD i false)]) ((E.ext m).ext j) qT0 H.bools (by simp[Value.oneCell']) (by simp only[Q1,gU,gi];omega) (by simp only[Q1,gU,gi];omega) λv10 w10 W X U=>?_;have z8:=m.size;have z9:=j.size;have z7:=e7.size;refine hC S _ _ ⟨v10,rfl,Ext.then (O.trans j) X λb R=>V b R,?_,λb R=>?_⟩
   ·rw[M.take_add oM false];unfold OwnB;rw[gC];exact W
   ·rcases U b R with h|h
    ·exact V b h
    ·omega
  ·have ag:i=M.nIn ds:=oM;rw[gF oM] at E;refine spec_BlastEnv_spec aa (hd.ext (Z.trans O)) (E.ext m).bools I hlen λw9 r9 j H a7=>?_;have z8:=O.size;exact hK w9 r9 (Z.trans (O.trans j)) H λx J=>by have:=a7 x J;omega
 ·rw[y1 a] at d;have z4:=N.size;refine zb (λa2=>?_) (λa2=>?_)
  ·rw[X0 a2] at d;subst d;exact spec_nil λv5 L D g o=>hK L v5 (N.trans g) D λx J=>by have:=o x J;omega
  ·rw[y1 a2] at d;subst d;exact spec_nil λv5 L D g o=>hK L v5 (N.trans g) D λx J=>by have:=o x J;omega
theorem l9Solve_spec (u:y30 ds) (c:Qd ds ts=true) (j:DclsR F w dv ds) (v:TmsR G w tv ts)
  (f:∀w' ev,Ext w w'->OwnI zi w' ev (yM ds ts []).1->(∀x,ev.ownBlock=some x->w.heap.size<=x)->K (.tuple #[ev,nI (yM ds ts []).2]) w'):vcall KU #[dv,tv] w K:=by
 refine zg {} Tryz.func31 ?_;obtain⟨L,a2,a3⟩:=all8_iff.1 c;refine l9Folds_spec j v a2 (λt v=>by rw[(YO (a3 t v)).1];decide) oM λw1 lv a o=>?_;refine l8Cnf_spec (Qc c) (j.ext a) o λw2 cv ls k g=>?_;have B:=a.trans k;simp only[push_cast];refine cnf_new g λN b4 D l d i=>?_;have b:=B.trans l;have z4:=b.size;refine zp (λh=>?_) (λh=>?_)
 ·have E:=JM (nots:=[]) c (by simpa using h);refine spec_nil λv5 I r m p=>?_;have:=f I v5 (b.trans m);rw[E] at this;exact this r λx y=>by have:=p x y;omega
 ·have C:(cnfE ds (ts.map (M.foldT ds))).2=0:=(by simpa using h);obtain⟨z,A,H⟩:=solveR_run (nots:=[]) c C (λe he=>by cases he) (by simp);rw[x40] at z A;rw[d.ldAgg zE];refine l9Search_spec u (j.ext b) a2 i.cnf A H λJ ev n s q=>?_;simp only[push_cast];rw[z] at f;exact f J ev (b.trans n) s λx y=>by have:=q x y;omega
theorem spec_Solve_spec (b:y30 ds) (l:DclsR F w dv ds) (m:TmsR G w tv ts)
  (k:∀w' ev,Ext w w'->OwnI zi w' ev (yM ds ts []).1->(∀x,ev.ownBlock=some x->w.heap.size<=x)->K (.tuple #[ev,nI (yM ds ts []).2]) w'):vcall zz0 #[dv,tv] w K:=by
 refine zg {} Tryz.func9 ?_;refine l8All_spec b l m λw1 a=>?_;simp only[push_cast];have q:=a.size;refine zp (λh=>?_) (λh=>?_)
 ·have n:=Qo (ds:=ds) (ts:=ts) (nots:=[]) (by simpa using h);refine spec_nil λv5 o g c e=>?_;have:=k o v5 (a.trans c);rw[n] at this;exact this g λx j=>by have:=e x j;omega
 ·refine l9Solve_spec b (by simpa using h) (l.ext a) (m.ext a) λp ev d i f=>?_;simp only[push_cast];exact k p ev (a.trans d) i λx j=>by have:=f x j;omega
theorem QZ {at_ an am ar ab:Addr} (e:DclsR F w dv ds) (f:TmsR G w tv ts) (hs:ts.length<=2000000) (er:Er w at_ an am ar ab)
  (d:∀w' ev,Ext w w'->OwnI zi w' ev (yM ds ts []).1->(∀x,ev.ownBlock=some x->w.heap.size<=x)->K (.tuple #[ev,nI (yM ds ts []).2]) w'):vcall zF0 #[dv,tv] w K:=by
 refine zg {} Tryz.func8 ?_;refine solved_spec e f hs er λg ev a c b=>?_;simp only[push_cast];exact d g ev a c b
end
section
variable {ds:List M.Dcl} {ts:List M.Tm} {t:M.Tm} {e:List Int}
theorem Xq (h:Qd ds ts=true):M.declOk ds=true/\M.sorted0 ds ts/\ts.length<=8:=
 ⟨(all8_iff.1 h).2.1,λt a=>(YO ((all8_iff.1 h).2.2 t a)).1,(all8_iff.1 h).1⟩
theorem yn0:∀e:List Int,e∈([]:List (List Int))->M.envOk ds e=true:=λe he=>by cases he
theorem few_nots (h:ts.length<=8):ts.length+([]:List (List Int)).length<=90:=by simp;omega
theorem JN (h:Qd ds ts=true):yM ds ts []=M.solveM 4000 ds ts []:=X0 h
theorem yd0 (h:Qd ds ts=true):(yM ds ts []).2=1\/(yM ds ts []).2=2\/(yM ds ts []).2=3:=by
 obtain⟨a,b,c⟩:=Xq h;rw[JN h];exact M.solve_code a b yn0 (few_nots c)
theorem Z8 (h:(yM ds ts []).2≠4):Qd ds ts=true:=Gf λc=>h (by rw[Qo c])
theorem sol_iff:M.Sol ds ts [] e↔M.envOk ds e=true/\M.allT ds e ts:=by simp[M.Sol]
theorem solveR_yes (h:(yM ds ts []).2=1):Qd ds ts=true/\M.envOk ds (yM ds ts []).1=true/\M.allT ds (yM ds ts []).1 ts/\∀e,M.envOk ds e=true->M.allT ds e ts->M.rankE ds (yM ds ts []).1<=M.rankE ds e:=by
 have d:=Z8 (ds:=ds) (ts:=ts) oM;obtain⟨a,b,c⟩:=Xq d;rw[JN d] at*;obtain⟨⟨p1,p2,_⟩,i⟩:=M.solve_yes a b yn0 (few_nots c) h;exact⟨d,p1,p2,λe f g=>i e (sol_iff.2 ⟨f,g⟩)⟩
theorem solveR_no (h:(yM ds ts []).2=2):Qd ds ts=true/\∀e,M.envOk ds e=true->¬M.allT ds e ts:=by
 have d:=Z8 (ds:=ds) (ts:=ts) oM;obtain⟨a,b,c⟩:=Xq d;rw[JN d] at h;exact⟨d,λe f g=>(M.solve_no a b yn0 (few_nots c) h).2 e (sol_iff.2 ⟨f,g⟩)⟩
theorem ZH0 (he:M.envOk ds e=true) (h:M.sortM ds (M.noT t)=0):M.evalM ds e (M.noT t)=1↔M.evalM ds e t≠1:=by
 obtain⟨_,a,c⟩:=M.eval_no he (t:=M.noT t) (by rw[h];decide) rfl;have a:M.inS 0 (M.evalM ds e t):=a;have c:M.evalM ds e (M.noT t)=1-M.evalM ds e t:=c;rw[c];rcases M.inS_zero a with x|x<;>rw[x]<;>decide
end
section
variable {ds:List M.Dcl} {ts:List M.Tm}
instance (ds:List M.Dcl) (e:List Int) (ts:List M.Tm):Decidable (M.allT ds e ts):=by unfold M.allT;infer_instance
end
section
variable {w:World} {K:oK} {D F F' G H:Nat->Prop} {dv uv v:Value} {ds:List M.Dcl} {ts:List M.Tm} {t:M.Tm} {xs:List Nat} {an am ar ab:Addr}
theorem dsn_dok {n:Nat} (h:Dsn n ds) (a:M.declOk ds=true):Dok ds:=
 ⟨by have:=(M.decl_iff.1 a).1;omega,λi hi=>⟨(M.dcl_wide a hi).1,(M.dcl_wide a hi).2,h.2 i hi⟩⟩
structure Stay (w:World) (b b4 n m:Nat) (dv lv:Value) (ds:List M.Dcl) (ts:List M.Tm) (cs:List Value) (wk:World):Prop where
 same:Same (λx=>w.heap.size<=x) w wk
 blk:Blk wk b4 cs za
 size:m<=wk.heap.size
 dec:DclsR (λx=>n<=x/\x<m) wk dv ds
 ter:TmsR (λx=>n<=x/\x<m) wk lv ts
theorem Stay.step {b b4 n m:Nat} {lv:Value} {cs:List Value} {wk wl:World} {S:Nat->Prop} (h:Stay w b b4 n m dv lv ds ts cs wk) (hw:Same S wk wl) (d:w.heap.size<=b4) (f:b4<b) (g:b<n) (i:n<=m) (a:∀x,S x->x=b\/m<=x):Stay w b b4 n m dv lv ds ts cs wl:=
 ⟨h.same.trans (hw.mono λx _ c=>by rcases a x c with e|e<;>omega),h.blk.same hw λe=>by rcases a _ e with e|e<;>omega,gL h.size hw.size,
  h.dec.same hw λx c _ e=>by rcases a x e with e|e<;>omega,h.ter.same hw λx c _ e=>by rcases a x e with e|e<;>omega⟩
theorem DrawSolveProve_spec (d:Bytes F w v xs) (hF:∀b,F b->b<w.heap.size)
  (hK:∀w' dv lv uv ds ts t,Ext w w'->DclsR (λx=>w.heap.size<=x) w' dv ds->Dsn 9 ds->TmsR (λx=>w.heap.size<=x) w' lv ts->ts.length<=9->TermR (λx=>w.heap.size<=x) w' uv t->K (.tuple #[dv,lv,uv]) w'):vcall ZI #[v] w K:=by
 refine zg {} Tryz.func7 ?_;refine zj zn λb4 w1 bo aa bw h4=>?_;refine l12Open_spec (d.ext aa) (λb hb=>by have:=hF b hb;omega) λw2 b v' ys X y bn=>?_;have bx:=X.size;have lb:=y.blk.lt;refine l8List_spec (F:=λx=>F x/\x<w2.heap.size) ⟨y.blk,⟨y.bytes.1.weaken λx d I=>⟨d,I⟩,y.bytes.2⟩,λh=>y.apart h.1,y.few⟩ (λx d=>d.2) oM λw3 p3 dv lv ds ts a0 av bt b2 Z b5 b3=>?_;simp only[push_cast];have bz:=a0.size;have ak:Stay w b b4 w2.heap.size w3.heap.size dv lv ds ts Xs w3:=
  ⟨(Same.of_ext (aa.trans X)).trans (a0.mono λx _ d=>by subst d;omega),(h4.ext X).same a0 oM,gx _,b2.weaken λx d I=>⟨d,I⟩,b5.weaken λx d I=>⟨d,I⟩⟩
 have fin:∀{O:World} {o:List Value} {t9:M.Tm},Stay w b b4 w2.heap.size w3.heap.size dv lv ds ts o O->TmR (λx=>w.heap.size<=x) O o t9->vlv za (oP b4 0) O λr w10=>K (.tuple #[dv,lv,r]) w10:=λ{O o t9} st hc=>by
  rw[st.blk.lv (by rw[zF hc];exact zc)];exact hK O dv lv _ ds ts t9 (st.same.mono λx d h=>oM) (st.dec.weaken λx d _=>oM) Z (st.ter.weaken λx d _=>oM) b3 hc.term
 have put:∀{wk:World} {o:List Value} {t9:M.Tm} {Q:Nat->Prop},Stay w b b4 w2.heap.size w3.heap.size dv lv ds ts Xs wk->TmR Q wk o t9->(∀x,Q x->w.heap.size<=x/\x≠b4)->zS za (oP b4 0) (.agg ⟨o⟩) wk λ_ O=>vlv za (oP b4 0) O λr w10=>K (.tuple #[dv,lv,r]) w10:=λ{wk o t9 Q} st hc hQ=>by
  refine stTerm st.blk rfl hc λO L bb V=>?_;exact fin ⟨st.same.trans (L.mono λx _ d=>by subst d;omega),V,by have:=st.size;omega,st.dec.same L λx d _ e=>oM,st.ter.same L λx d _ e=>oM⟩ ((hc.same L λx d _ e=>(hQ x d).2 e).weaken λx d _=>(hQ x d).1)
 have F3:∀{wk:World},w3.heap.size<=wk.heap.size->∀x,(F x/\x<w2.heap.size)->x<wk.heap.size:=λh x d=>oM
 refine spec_DeclOk_spec ak.dec (dsn_sized Z) λw4 Y=>?_;have a1:=ak.step Y oM oM lb oM λ_ h=>h.elim;have c1:=Y.size;simp only[push_cast];refine zp (λa=>?_) (λa=>?_)
 ·exact put a1 (QG (w:=w4) (G:=λ_=>False) 24 0 0 ⟨#[]⟩) λx d=>d.elim
 have a9:M.declOk ds=true:=by simpa using a
 have hk:=dsn_dok Z a9;have aw:=av.ext Y;have nb:∀x,(w2.heap.size<=x/\x<w3.heap.size)->x≠b:=λx d=>oM
 refine l8Some_spec aw (F3 oM) a1.dec nb (λx d=>oM) hk oM oM oM λw5 p5 c7 t5 af ax bu b6 br=>?_;have bc:=a1.step af oM oM lb oM λx h=> .inl h;have c2:=af.size;obtain⟨ar,rfl,z⟩:=b6.cells;replace z:=z.weaken (F':=λx=>w4.heap.size<=x/\x<w5.heap.size) λx d I=>⟨d,I⟩;refine zj zn λb8 w6 bp ab c3 h8=>?_;refine stTerm h8 rfl (z.ext ab) λw7 ba c4 au=>?_;have T:Ext w5 w7:=Ext.then ab ba λx d=>by subst d;omega
 have al:=bc.step T oM oM lb oM λ_ h=>h.elim;have ay:=ax.ext T;have b0:=z.ext T;refine l8Some_spec ay (F3 oM) al.dec nb (λx d=>oM) hk oM oM oM λw8 p8 c9 t8 J az bv b7 bs=>?_;have bd:=al.step J oM oM lb oM λx h=> .inl h;have c5:=J.size;have a3:=au.same J oM;have b1:=b0.same J λx d _ e=>oM
 obtain⟨S,rfl,B⟩:=b7.cells;replace B:=B.weaken (F':=λx=>w7.heap.size<=x/\x<w8.heap.size) λx d I=>⟨d,I⟩;refine zj zn λb9 O bq ac bb h9=>?_;refine stTerm h9 rfl (B.ext ac) λw10 ah bi V=>?_;have j:Ext w8 w10:=Ext.then ac ah λx d=>by subst d;omega
 have aj:=bd.step j oM oM lb oM λ_ h=>h.elim;have U:=a3.ext j;have a5:=b1.ext j;have a8:=B.ext j;have cc:=j.size;refine pick_spec (az.ext j) oM oM λca k m bj a4 _ _=>?_;have g:=aj.step m oM oM lb oM λx h=> .inl h;have l:=U.same m oM;have A:=V.same m oM;have q:=a5.same m λx d _ e=>oM
 have R:=a8.same m λx d _ e=>oM
 have g5:aggB za ar.length=true:=by rw[zF z];exact zc
 have g8:aggB za S.length=true:=by rw[zF B];exact zc
 simp only[push_cast];refine zb (λ_=>?_) (λ_=>?_)
 ·refine zd λN f _=>?_;have u:=g.step f oM oM lb oM λ_ h=>h.elim;have p:=l.ext f;have z12:=f.size;simp only[p.ldAgg (t:=za) g5,k6];refine U7 (q.ext f).term λcb a C bl ad=>?_;simp only[(p.ext C).ldAgg (t:=za) g5,push_cast,k6,gj];refine kids2 (G:=λx=>(w4.heap.size<=x/\x<w5.heap.size)\/x=N.heap.size) (((q.ext f).ext C).weaken λx d _=> .inl d).term (TmR.of (t:= .mk 25 0 0 M.nada [t5]) ad).term λbe a2 D ai E=>?_;simp only[push_cast,k6];exact put (u.step (C.trans D) oM oM lb oM λ_ h=>h.elim) (TmR.of (t:= .mk 27 0 0 M.nada [t5,.mk 25 0 0 M.nada [t5]]) E) λx d=>by rcases d with(d|d)|d<;>omega
 have two:∀{wk:World} {cs':List Value} {t':M.Tm},Stay w b b4 w2.heap.size w3.heap.size dv lv ds ts Xs wk->Blk wk b9 S za->Blk wk b8 cs' za->TmR (λx=>w7.heap.size<=x/\x<w8.heap.size) wk S t8->
   TmR (λx=>w2.heap.size<=x/\x<w5.heap.size) wk cs' t'->Zt wk λn=>zu za (oP b9 0) n λt51 am=>am=n/\
   zu za (oP b8 0) n λt52 an=>an=n/\
   vbuildS ze 2 [(0,t51),(1,t52)] n λt53 H=>
   yl za [(0,(nI 27)),(4,t53)] H λt54 ao=>ao=H/\
   zS za (oP b4 0) t54 H λ_ ap=>
   vlv za (oP b4 0) ap λr aq=>K (.tuple #[dv,lv,r]) aq:=λ{wk cs' t'} st h9 h8 c8 c'=>by
  refine zd λN f _=>?_;have u:=st.step f oM oM lb oM λ_ h=>h.elim;have zk:=u.size;have g':aggB za cs'.length=true:=by rw[zF c'];exact zc
  simp only[(h9.ext f).ldAgg (t:=za) g8,(h8.ext f).ldAgg (t:=za) g',k6];refine kids2 (G:=λx=>w2.heap.size<=x/\x<w8.heap.size) ((c8.weaken λx d _=>oM).ext f).term ((c'.weaken λx d _=>oM).ext f).term λbe a2 D ai E=>?_;simp only[push_cast,k6];exact put (u.step D oM oM lb oM λ_ h=>h.elim) (TmR.of (t:= .mk 27 0 0 M.nada [t8,t']) E) λx d=>by rcases d with d|d<;>omega
 have W:=q.weaken (F':=λx=>w2.heap.size<=x/\x<w5.heap.size) λx d _=>oM
 refine zb (λ_=>?_) (λ_=>?_)
 ·simp only[push_cast,g.ter.len];refine zb (λc=>?_) (λ_=>two g A l R W);have c0:0<ts.length:=oM;simp(disch:=exact oS) only[push_cast,g.ter.iaddr];refine g.ter.load (i:=0) zc c0 λx d=>?_;obtain⟨csx,rfl,a7⟩:=d.cells;refine stTerm l (zF z) a7 λN s bk p=>?_;exact two (g.step s oM oM lb oM λx h=> .inr (by subst h;omega)) (A.same s oM) p (R.same s λx d _ e=>oM) ((a7.weaken λx d _=>oM).same s λx d _ e=>oM)
 ·simp only[l.ldAgg (t:=za) g5];refine l2Bent_spec a4 (F3 oM) q.term (λx d=>oM) (λx d=>oM) oM oM λN c6 bm t12 ae bg bh ag _=>?_;obtain⟨bf,rfl,a6⟩:=ag.cells;exact put (g.step ae oM oM lb oM λx h=> .inl h) a6 λx d=>by rcases d with d|d<;>omega
end
section
variable {w:World} {K:oK} {D F F' G:Nat->Prop} {dv tv uv:Value} {ds:List M.Dcl} {ts:List M.Tm} {t:M.Tm} {at_ an am ar ab:Addr}
theorem Clone_Term (d:TmsR F w tv ts) (v:ts.length<=2000000) (n:∀w' v',Ext w w'->LstH (λx=>F x/\x<w.heap.size) w' v' ts->(∀x,v'.ownBlock=some x->w.heap.size<=x)->K v' w'):
  vcall qw #[tv] w K:=by
 refine zg {} Tryz.func63 ?_;obtain⟨css,j,k,hi⟩:=d;obtain⟨a,c,rfl,A,u,g⟩:=j.shape;rw[Ql ZF];refine zp (λp=>?_) (λp=>?_)
 ·cases a with
  |some a=>cases p
  |none=>
   have m:css=[]:=Gf λh=>by
    obtain⟨b,o,r,_⟩:=g h;cases r
   subst m;have:ts=[]:=pJ.1 k.symm;subst this;exact n w _ (Same.refl _ _) LstH.nil λx d=>by cases d
 ·refine yf yi yu λb w1 z he B t=>?_;have q:LstH (λ_=>False) w1 (.slice (some ⟨b,0,none⟩) 0 0) []:=⟨[],Blk.ownk (css:=[]) (by rw[qn];exact t) (by simp) rfl dC,rfl,λi hi=>absurd hi (Py _)⟩;have f:∀x,(Value.slice (some ⟨b,0,none⟩) 0 0).ownBlock=some x->w.heap.size<=x:=λx d=>by have e:b=x:=gd d;omega
  refine LstH.app (H2:=λx=>F x/\x<w.heap.size) (us:=ts) q (λx d=>⟨id,λe=>by have:=f x d;omega⟩) (j.ext he) k (λi h=>((hi i h).weaken λx d k=>⟨d,k⟩).ext he) (by simp;omega) λw2 v' hw l s=>?_;have y:=he.size;refine n w2 v' (Ext.then he hw f) (s.weaken λx d _=>(d.1.resolve_left id)) λx d=>?_;rcases l x d with h|h
  ·exact f x h
  ·omega
theorem push_blk {n b:Nat} {cs:List Value} {e:TypeId} (h:LstH (λx=>F x/\x<n) w tv ts) (d:∀x,tv.ownBlock=some x->n<=x) (j:Blk w b cs e) (g:TmR (λx=>G x/\x<n) w cs t) (hs:ts.length<=2000000)
  (k:∀w' r,Same (λx=>n<=x) w w'->TmsR (λ_=>True) w' r (ts++[t])->K r w'):vbi .append [ze,ze] ze [tv,.slice (some ⟨b,0,none⟩) 1 1] w K:=by
 refine LstH.app (H2:=λx=>G x/\x<n) (us:=[t]) h (λx a=>⟨λe=>by have:=d x a;omega,λe=>by have:=d x a;omega⟩) (j.sl1k (zF g)) rfl (λi hi=>?_) (by simp;omega) λl v5 f _ c=>k l v5 (f.mono λx _ a=>d x a) (c.tms.weaken λ_ _ _=>trivial);have:i=0:=by simpa using hi
 subst this;exact g
theorem with_spec (I:TmsR F w tv ts) (hu:TermR G w uv t) (hs:ts.length<=2000000) (z:∀w' r,Ext w w'->TmsR (λ_=>True) w' r (ts++[t])->K r w'):vcall yv0 #[tv,uv] w K:=by
 refine zg {} Tryz.func32 ?_;obtain⟨cs,rfl,g⟩:=hu.cells;have l:=zF g;refine zm λb w1 N p J m=>?_;refine zd λw2 i _=>?_;have e:=p.trans i;have ld:∀{w':World} (_:Ext w2 w') (K:oK),zu za (oP b 0) w' K=K (.agg ⟨cs⟩) w':=λh K=>(m.ext (i.trans h)).ldAgg (by rw[l];exact zc);have Q:=e.size;have j:=I.ext e;have f:∀{w':World},Ext w2 w'->TmR (λx=>G x/\x<w2.heap.size) w' cs t:=λh=>((g.weaken (F':=λx=>G x/\x<w2.heap.size) λx k O=>⟨k,oM⟩).ext e).ext h;rw[ld (Same.refl _ _)];refine⟨rfl,?_,?_,trivial⟩
 ·refine Clone_Term j hs λw3 v3 a C q=>?_;have v:=a.size;rw[ld a];refine⟨⟨rfl,rfl⟩,?_,trivial⟩;refine xz yi yu zn rfl l dC λb4 M H c L o=>?_;refine⟨?_,trivial⟩;have B:=c.size;exact push_blk (C.ext c) q o (f ((a.trans c))) hs λy r d u=>z y r (Ext.then (e.trans (a.trans c)) d λx k=>oM) u
 ·refine xz yi yu zn rfl l dC λb3 w3 E a v n=>?_;refine⟨?_,trivial⟩;have A:=a.size;refine Clone_Term (j.ext a) hs λM v4 c D s=>?_;refine⟨?_,trivial⟩;exact push_blk D s (n.ext c) ((f (a.trans c)).weaken λx k _=>⟨k.1,oM⟩) hs λy r d u=>z y r (Ext.then (e.trans (a.trans c)) d λx k=>oM) u
theorem app3 {w2:World} {b:Nat} {cs:List Value} {R:oK} (N:Blk w2 b cs za) (U:TmsR F w2 tv ts) (B:TmR G w2 cs t) (hs:ts.length<=2000000)
  (hR:∀w' r,Ext w2 w'->TmsR (λ_=>True) w' r (ts++[t])->R r w'):
  zu za (oP b 0) w2 λt8 X=>X=w2/\
  (vbuildS ze 0 [] w2 λt5 o=>(zu za (oP b 0) o λv x=>v=t8/\x=o)/\
   (vbi .append [ze,ze] ze [t5,tv] o λt7 y=>(zu za (oP b 0) y λv x=>v=t8/\x=y)/\
    (vbuildS ze 1 [(0,t8)] y λt9 Y=>
     (vbi .append [ze,ze] ze [t7,t9] Y λt10 Z=>R t10 Z)/\True)/\True)/\
   (vbuildS ze 1 [(0,t8)] o λt9 a0=>
    (vbi .append [ze,ze] ze [t5,tv] a0 λt7 a1=>
     (vbi .append [ze,ze] ze [t7,t9] a1 λt10 D=>R t10 D)/\True)/\True)/\True)/\
  (vbuildS ze 1 [(0,t8)] w2 λt9 E=>
   (vbuildS ze 0 [] E λt5 H=>
    (vbi .append [ze,ze] ze [t5,tv] H λt7 I=>
     (vbi .append [ze,ze] ze [t7,t9] I λt10 J=>R t10 J)/\True)/\True)/\True)/\True:=by
 have z:=zF B;have ld:∀{w':World} (_:Ext w2 w') (K:oK),zu za (oP b 0) w' K=K (.agg ⟨cs⟩) w':=λh K=>(N.ext h).ldAgg (by rw[z];exact zc);have s:∀{w':World} {S:Nat->Prop},Same S w2 w'->(∀x,S x->w2.heap.size<=x)->TmR (λx=>G x/\x<w2.heap.size) w' cs t:=λh hS=>(B.weaken (F':=λx=>G x/\x<w2.heap.size) λx c C=>⟨c,C⟩).same h λx c _ e=>by have:=hS x e;omega
 have fin:∀{w' w'':World} {r:Value},Ext w2 w'->Same (λx=>w2.heap.size<=x) w' w''->TmsR (λ_=>True) w'' r (ts++[t])->R r w'':=λh h2 u=>hR _ _ (Ext.then h h2 λx c=>c) u;have cp:∀{w3 n:World} {b3:Nat} {K:oK},Ext w2 w3->b3=w3.heap.size->Ext w3 n->Blk n b3 [] za->(∀w' v,Ext w3 w'->Same (λx=>x=b3) n w'->LstH (λx=>F x/\x<w2.heap.size) w' v ts->(∀x,v.ownBlock=some x->w3.heap.size<=x)->K v w')->
   vbi .append [ze,ze] ze [.slice (some ⟨b3,0,none⟩) 0 0,tv] n K:=λ{w3 n b3 K} e3 l M N hk=>by
  have h0:LstH (λ_=>False) n (.slice (some ⟨b3,0,none⟩) 0 0) []:=⟨[],Blk.ownk (css:=[]) (by rw[qn];exact N) (by simp) rfl dC,rfl,λi hi=>absurd hi (Py _)⟩;have m:∀x,(Value.slice (some ⟨b3,0,none⟩) 0 0).ownBlock=some x->x=b3:=λx c=>(gd c).symm;have z3:=e3.size;have z4:=M.size;obtain⟨css,T,C,hi⟩:=(U.weaken (F':=λx=>F x/\x<w2.heap.size) λx c C=>⟨c,C⟩).ext (e3.trans M);refine LstH.app (H2:=λx=>F x/\x<w2.heap.size) (us:=ts) h0 (λx c=>⟨id,λe=>by have:=m x c;omega⟩) T C hi (by simp;omega) λL v5 hw g z=>?_;refine hk L v5 (Ext.then M hw λx c=>by have:=m x c;omega) (hw.mono λx _ c=>m x c) (z.weaken λx c _=>c.1.resolve_left id) λx c=>?_;rcases g x c with h|h
  ·have:=m x h;omega
  ·omega
 rw[ld (Same.refl _ _)];refine⟨rfl,?_,?_,trivial⟩
 ·refine yf yi yu λb3 w3 l d V k=>?_;rw[ld d];refine⟨⟨rfl,rfl⟩,?_,?_,trivial⟩
  ·refine cp (Same.refl _ _) l d k λn v4 a _ h4 Q=>?_;rw[ld a];refine⟨⟨rfl,rfl⟩,?_,trivial⟩;refine xz yi yu zn rfl z dC λb5 L a2 f a3 O=>?_;refine⟨?_,trivial⟩;exact push_blk (h4.ext f) Q O (s (a.trans f) λ_ h=>h.elim) hs λw6 r j u=>fin (a.trans f) j u
  ·refine xz yi yu zn rfl z dC λb4 n A a W q=>?_;refine⟨?_,trivial⟩;have z3:=d.size;have z4:=a.size;refine cp (w3:=w2) (Same.refl _ _) l (d.trans a) (k.ext a) λL v5 f w p g=>?_;refine⟨?_,trivial⟩;exact push_blk p g (q.same w (λe=>oM)) (s f λ_ h=>h.elim) hs λw6 r j u=>fin f j u
 ·refine xz yi yu zn rfl z dC λb3 w3 l d V k=>?_;refine⟨?_,trivial⟩;refine yf yi yu λb4 n A a W q=>?_;refine⟨?_,trivial⟩;have z3:=d.size;refine cp d A a q λL v5 f w p g=>?_;refine⟨?_,trivial⟩;exact push_blk p (λx c=>by have:=g x c;omega) ((k.ext a).same w (λe=>oM)) (s (d.trans f) λ_ h=>h.elim) hs λw6 r j u=>fin (d.trans f) j u
theorem no_term {b:Nat} {cs:List Value} {e:TypeId} (c:Blk w b cs e) (a:TmR G w cs t):TermR (λ_=>True) w (.agg ⟨[nI 25,nI 0,nI 0,.string ⟨#[]⟩,.slice (some ⟨b,0,none⟩) 1 1]⟩) (.mk 25 0 0 M.nada [t]):=
 ⟨_,rfl,[cs],(c.sl1k (zF a)).weaken λ_ _ _=>trivial,rfl,λi hi=>by
  have:i=0:=by have:i<1:=hi;omega
  subst this;exact a.weaken λ_ _ _=>trivial⟩
def J5 (ds:List M.Dcl) (ts:List M.Tm) (t:M.Tm):List Int×Int:=yM ds (ts++[.mk 25 0 0 M.nada [t]]) []
theorem SolveProve_spec (p:DclsR F w dv ds) (s:TmsR F' w tv ts) (hu:TermR G w uv t) (hs:ts.length<=1048576) (er:Er w at_ an am ar ab)
  (n:∀w' ev,Ext w w'->OwnI zi w' ev (J5 ds ts t).1->(∀x,ev.ownBlock=some x->w.heap.size<=x)->K (.tuple #[ev,nI (J5 ds ts t).2]) w'):vcall QB #[dv,tv,uv] w K:=by
 refine zg {} Tryz.func10 ?_;obtain⟨cs,rfl,d⟩:=hu.cells;have m:=zF d;refine zm λb w1 A g v e=>?_;rw[e.ldAgg (by rw[m];exact zc)];refine xz yi yu zn rfl m dC λb2 w2 o h y f=>?_;have c:=g.trans h;simp only[push_cast];refine with_spec (s.ext c) (no_term f (d.ext c)) oM λw3 r i q=>?_;have a:=c.trans i;refine QZ (p.ext a) q (by simp;omega) (er.ext a) λz ev j l k=>?_;simp only[push_cast];exact n z ev (a.trans j) l λx u=>by have:=k x u;have:=a.size;omega
end
section
variable {ds:List M.Dcl} {ts:List M.Tm} {t:M.Tm} {e:List Int} {a b:List Int}
theorem no_kid (b:M.declOk ds=true) (h:M.tsort ds (M.noT t)=0):M.tsort ds t=0:=by
 obtain⟨a,d,_⟩:=YO h;have f:=(M.sort_parts (ds:=ds) (t:=M.noT t) (by rw[a];decide)).1;have hs:=M.sort_one b f (t:=M.noT t) rfl;have c:M.sortM ds t=0:=by
  have e:M.oneM (M.noT t) (M.sortM ds t)=0:=by rw[<-a];exact hs.symm
  exact(M.one_good (t:=M.noT t) (.inr (.inr (.inr rfl))) (by rw[e];decide)).1 rfl
 obtain⟨f1,f2⟩:=M.fits_iff.1 d;have k:M.sizeM t+1<=M.sizeM (M.noT t)/\M.deepM t+1<=M.deepM (M.noT t):=M.kid_size (t:=M.noT t) (i:=0) Nat.one_pos;rw[JI b (M.fits_iff.2 ⟨oM,oM⟩),c]
theorem all8_app (h:Qd ds (ts++[t])=true):Qd ds ts=true/\M.tsort ds t=0:=by
 obtain⟨a,b,c⟩:=all8_iff.1 h;exact⟨all8_iff.2 ⟨by simp at a;omega,b,λu hu=>c u (gp.2 (.inl hu))⟩,c t (gp.2 (.inr (gy.2 rfl)))⟩
theorem xr0 (h:(J5 ds ts t).2≠4):M.declOk ds=true/\Qd ds ts=true/\M.tsort ds t=0/\M.sortM ds (M.noT t)=0:=by
 have c:Qd ds (ts++[M.noT t])=true:=Z8 h;obtain⟨a,b⟩:=all8_app c;exact⟨(all8_iff.1 c).2.1,a,no_kid (all8_iff.1 c).2.1 b,(YO b).1⟩
end
section
variable {w:World} {K:oK} {D F F' G H:Nat->Prop} {dv tv uv v ev:Value} {ds:List M.Dcl} {ts:List M.Tm} {t:M.Tm} {e:List Int} {xs:List Nat} {at_ an am ar ab:Addr}
theorem y50 (d:(yM ds ts []).2≠3) (f:(yM ds ts []).2≠4):(yM ds ts []).2=1↔ ∃e,M.envOk ds e=true/\M.allT ds e ts:=by
 constructor
 ·intro h;obtain⟨_,a,b,_⟩:=solveR_yes h;exact⟨_,a,b⟩
 ·rintro⟨e,a,b⟩;rcases yd0 (Z8 f) with c|c|c
  ·exact c
  ·exact absurd b ((solveR_no c).2 e a)
  ·exact absurd c d
theorem kO0 (f:(yM ds ts []).2≠3) (g:(yM ds ts []).2≠4) (j:(yM ds (ts++[t]) []).2≠3) (k:(yM ds (ts++[t]) []).2≠4) (i:(J5 ds ts t).2≠3) (d:(J5 ds ts t).2≠4):
  (yM ds ts []).2=1↔(yM ds (ts++[t]) []).2=1\/(J5 ds ts t).2=1:=by
 have hs:=(xr0 d).2.2.2;have h:(J5 ds ts t).2=1↔ ∃e,M.envOk ds e=true/\M.allT ds e (ts++[M.noT t]):=y50 (ts:=ts++[M.noT t]) i d;rw[y50 f g,y50 j k,h];constructor
 ·rintro⟨e,a,b⟩;by_cases c:M.evalM ds e t=1
  ·exact .inl ⟨e,a,M.allT_app.2 ⟨b,M.allT_one.2 c⟩⟩
  ·exact .inr ⟨e,a,M.allT_app.2 ⟨b,M.allT_one.2 ((ZH0 a hs).2 c)⟩⟩
 ·rintro(⟨e,a,b⟩|⟨e,a,b⟩)
  ·exact⟨e,a,(M.allT_app.1 b).1⟩
  ·exact⟨e,a,(M.allT_app.1 b).1⟩
theorem FnSolveCase_spec (E:Bytes F w v xs) (er:Er w at_ an am ar ab) (f:∀w',Ext w w'->K (.bool true) w'):vcall XF #[v] w K:=by
 refine zg {cuts:=[(28679,[11])]} Tryz.func3 ?_;simp only[push_cast,E.len];refine zb (λ_=>f w (Same.refl _ _)) (λ_=>?_);refine DrawSolveProve_spec E.below (λb T=>T) λw1 dv tv uv ds ts t g B H D Z hu=>?_;simp only[push_cast];obtain⟨cs,rfl,a⟩:=hu.cells;have W:aggB za cs.length=true:=by rw[zF a];exact zc
 replace a:=a.weaken (F':=λx=>x<w1.heap.size) λx _ X=>X;refine zj zn λb5 w2 U z a0 R=>?_;refine stTerm R rfl (a.ext z) λw3 I a1 s=>?_;have e:Ext w1 w3:=Ext.then z I λx E=>by subst E;omega
 refine QZ (B.ext e) (D.ext e) oM (er.ext (g.trans e)) λw4 ev m V _=>?_;simp only[push_cast];have k:=e.trans m;refine spec_Solve_spec (dsn_sized H) (B.ext k) (D.ext k) λw5 O n M _=>?_;simp only[push_cast];have p:=k.trans n;refine zq (λu w'=>u=[nI (yM ds (ts++[t]) []).2]/\Ext w5 w') (λC S=>?_) ?_
 ·refine zd λw7 o _=>?_;have l:=p.trans o;refine app3 (s.ext (m.trans (n.trans o))) (D.ext l) (a.ext l) oM λw8 r A Y=>?_;refine⟨?_,trivial⟩;have q:=l.trans A;refine QZ (B.ext q) Y (by simp;omega) (er.ext (g.trans q)) λw9 Q i N _=>?_;simp only[push_cast,k6];exact S _ _ ⟨rfl,o.trans (A.trans i)⟩
 rintro _ _ w9 ⟨rfl,i⟩;have d:=p.trans i;rw[(s.ext (m.trans (n.trans i))).ldAgg W];refine SolveProve_spec (B.ext d) (D.ext d) (a.ext d).term oM (er.ext (g.trans d)) λw10 L y G _=>?_;have j:=g.trans (d.trans y);simp only[push_cast];refine zb (λc=>absurd rfl c) (λ_=>?_);refine zb (λ_=>f _ j) (λa3=>?_);refine zb (λ_=>f _ j) (λy3=>?_);refine zb (λ_=>f _ j) (λn3=>?_);refine zb (λ_=>f _ j) (λa4=>?_);refine zb (λ_=>f _ j) (λy4=>?_);refine zb (λ_=>f _ j) (λn4=>?_);have key:=kO0 a3 a4 y3 y4 n3 n4;refine zb (λJ=>?_) (λJ=>?_)
 ·rw[gl (key.2 (.inl J))];simpa using f _ j
 ·have:decide ((yM ds ts []).2=1)=decide ((J5 ds ts t).2=1):=decide_eq_decide.2 (key.trans ⟨λh=>h.resolve_left J,.inr⟩);rw[this];simpa using f _ j
end
end Go.Proofs.YtjkkiaacmedfdaaGreatDoor
section
namespace Go.Proofs.YtjkkiaacmedfdaaGreatDoor
open Go Go.Vc Go.Proofs
open Go.RowKit
theorem laid_at {l:List (String×DataW Unit)} {W:World} (h:laidMet P l W):∀k,laidMet P (l.drop k) W
 |0=>h
 |k+1=>by
  have a:=laid_at h k;rw[<-List.tail_drop];cases b:l.drop k with
  |nil=>rw[b] at a;exact a
  |cons x r=>rw[b] at a;exact a.tail
theorem UV: "*" ++ "errors.errorString" = "*errors.errorString" :=dC
theorem k70 (u:TypeId) (h:P.typeName? 3 u=some "*errors.errorString"):u=yT:=
 typeName_ptr_named (nm:= "errors.errorString") (by rw[UV];kernel_rfl) rK dC u (by rw[UV];exact h)
def ifaceB (t:TypeId):Bool:=match P.underlying t with
 |some (.interface _)=>true
 |_=>false
theorem kr0 {t:TypeId} (h:ifaceB t=true):∃ms,P.underlying t=some (.interface ms):=by
 unfold ifaceB at h;split at h
 ·exact⟨_,by assumption⟩
 ·cases h
theorem xm0:∃ms,P.underlying xu=some (.interface ms):=kr0 rK
def fieldB (t u:TypeId):Bool:=match P.underlying t with
 |some (.struct fs)=>match fs.toList with
  |[f]=>decide (f.type=u)&&decide (f.offset=0)
  |_=>false
 |_=>false
theorem ky0 {t u:TypeId} (h:fieldB t u=true):∃f,P.underlying t=some (.struct #[f])/\f.type=u/\f.offset=0:=by
 unfold fieldB at h;split at h
 ·rename_i fs a;split at h
  ·rename_i f b;simp only[gm,K3] at h;refine⟨f,?_,h⟩;rw[a];congr 2;exact GN.1 (by simpa using b)
  ·cases h
 ·cases h
theorem k80:P.underlying yT=some (.pointer 416):=rK
theorem ye0:∃f,P.underlying 416=some (.struct #[f])/\f.type=xe/\f.offset=0:=ky0 rK
theorem yf0:P.underlying xe=some .string:=rK
theorem ZP0:P.cellsOf 416=1/\P.cellsOf xe=1:=⟨rK,rK⟩
theorem vars_len {H:Type} {enc:TypeId×Value->H} {w:World} {sp:Nat->Bool}:∀{ns:List String} {gs:List (DataW H)} {ps:List MemPlace},DataW.TrodVars enc P w sp ns gs ps->gs.length=ns.length
 |[],[],_,_=>rfl
 |[],_::_,_,h=>h.elim
 |_::_,[],_,h=>h.elim
 |_::_,_::_,_,⟨_,_,_,_,_,_,_,_,_,_,hs,_⟩=>by rw[gD,gD,vars_len hs]
theorem vlist5 {α:Type} {l:List α} (h:l.length=5):∃a b c d e,l=[a,b,c,d,e]:=by
 match l,h with
 |[a,b,c,d,e],_=>exact⟨a,b,c,d,e,rfl⟩
end Go.Proofs.YtjkkiaacmedfdaaGreatDoor
end
section
namespace Go.Proofs.YtjkkiaacmedfdaaGreatDoor
open Go Go.Vc Go.Proofs
open Go.RowKit
theorem XT {x y:String×DataW Unit} {r:List (String×DataW Unit)} {w:World} (h:laidMet P (x::y::r) w):laidMet P (x::r) w:=by
 obtain⟨ps,u,j,c⟩:=h;obtain⟨n,d⟩:=x;obtain⟨m,e⟩:=y;obtain⟨g,t,cs,fuel,p,q,o,a2,a3,a4,s,rfl⟩:=u;obtain⟨g2,t2,f,i,p2,l,_,_,_,_,k,rfl⟩:=s;have a:=pG (pR (MemPlace.row ⟨g,0,none⟩ cs.size++p)) (List.sublist_append_right (MemPlace.row ⟨g2,0,none⟩ f.size++p2) l);exact⟨_,⟨g,t,cs,fuel,p,l,o,a2,a3,a4,k,rfl⟩,List.Nodup.sublist a j,λb off hm=>c b off (a.subset hm)⟩
theorem jF {W:World} {g:Nat} {a c:Addr} (h:Sent W g a) (b:Sent W g c):a=c:=by
 unfold Sent at h b;rw[h] at b
 injection b with b
 injection b with _ b
 injection b with b
 exact gd b
theorem Z9 {j k:String} {t0 t1:List UInt8} {r:List (String×DataW Unit)} {W:World} {g0 g1:Nat} (h:laidMet P ((j,.iface "*errors.errorString" (.ptr (.agg [.lit (.string t0)])))::(k,.iface "*errors.errorString" (.ptr (.agg [.lit (.string t1)])))::r) W)
  (c:P.globalNamed j=some g0) (g:(P.globals[g0]?).map (·.type)=some xu) (d:P.globalNamed k=some g1) (i:(P.globals[g1]?).map (·.type)=some xu):∃a b,Sent W g0 a/\Sent W g1 b/\a≠b/\RowA W a/\RowA W b:=by
 obtain⟨ms,hi⟩:=xm0;obtain⟨f,m,n,o⟩:=ye0;obtain⟨a0,l,u,s1,c0,c1,s,t,v0,v1,_,_,_,_,_,_,e,p,q⟩:=laid_sentinels2 h c g d i hi k70 k80 m n o yf0 ZP0.1 ZP0.2;exact⟨a0,l,by unfold Sent;simpa using World.var?_cell c v0 0,by unfold Sent;simpa using World.var?_cell d v1 0,e,⟨c0,s,p⟩,⟨c1,t,q⟩⟩
theorem er_of {nr nb nt nn nm:String} {tr tb tt tn tm:List UInt8} {r l:List (String×DataW Unit)} {W:World} (h:laidMet P l W) (k:Nat)
  (B:l.drop k=(nr,.iface "*errors.errorString" (.ptr (.agg [.lit (.string tr)])))::(nb,.iface "*errors.errorString" (.ptr (.agg [.lit (.string tb)])))::(nt,.iface "*errors.errorString" (.ptr (.agg [.lit (.string tt)])))::(nn,.iface "*errors.errorString" (.ptr (.agg [.lit (.string tn)])))::(nm,.iface "*errors.errorString" (.ptr (.agg [.lit (.string tm)])))::r)
  (er:P.globalNamed nr=some xR) (eb:P.globalNamed nb=some j9) (et:P.globalNamed nt=some yN) (en:P.globalNamed nn=some jk) (em:P.globalNamed nm=some qs)
  (fr:(P.globals[xR]?).map (·.type)=some xu) (fb:(P.globals[j9]?).map (·.type)=some xu) (ft:(P.globals[yN]?).map (·.type)=some xu) (fn:(P.globals[jk]?).map (·.type)=some xu) (fm:(P.globals[qs]?).map (·.type)=some xu):
  ∃at_ an am ar ab,Er W at_ an am ar ab:=by
 have a:=laid_at h k;rw[B] at a;obtain⟨ar,ab,sr,sb,_,rr,_⟩:=Z9 a er fr eb fb;have b:=XT a;obtain⟨w,at_,j,st,C,_,rt⟩:=Z9 b er fr et ft;have q:=XT b;obtain⟨x,an,m,sn,D,_,rn⟩:=Z9 q er fr en fn;obtain⟨y,am,n,sm,E,_,rm⟩:=Z9 (XT q) er fr em fm;have c:=b.tail;obtain⟨z,u,o,g,F,_⟩:=Z9 c et ft en fn;obtain⟨A,s,p,d,G,_⟩:=Z9 (XT c) et ft em fm;obtain⟨v,t,i,f,n6,_⟩:=Z9 c.tail en fn em fm;obtain rfl:=jF j sr;obtain rfl:=jF m sr;obtain rfl:=jF n sr;obtain rfl:=jF o st;obtain rfl:=jF p st;obtain rfl:=jF g sn;obtain rfl:=jF i sn;obtain rfl:=jF d sm;obtain rfl:=jF f sm;exact⟨_,_,_,_,ab,st,sn,sm,⟨sr,sb,id,id⟩,rt,rn,rm,rr,λe=>F e.symm,λe=>G e.symm,λe=>n6 e.symm,C,D,E⟩
end Go.Proofs.YtjkkiaacmedfdaaGreatDoor
end
end
