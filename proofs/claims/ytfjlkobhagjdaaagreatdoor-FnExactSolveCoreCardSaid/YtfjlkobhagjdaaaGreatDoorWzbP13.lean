import Derived.Test.YtfjlkobhagjdaaaGreatDoorWzbP12
/- A part of the proof. -/
set_option linter.all false
set_option maxRecDepth 9999
set_option maxHeartbeats 2000000
noncomputable section
namespace Go.Proofs.YtfjlkobhagjdaaaGreatDoor
open Go Go.Vc Go.Proofs Go.M
section
variable {w:World} {K:oK} {F Fr:Nat->Prop} {many bs:Nat} {c:Cnf} {s:Sat} {σ:SV} {N:Nat}
theorem topL_pos {put:List Int} {ds:List Bool} {cl:List Int}:(kU put ds cl≠0)↔((List.range cl.length).any λi=>decide (0<lvM put ds (cl.getD i 0)))=true:=by
 rw[G8];constructor
 .intro h;rcases j5 (xs:=cl.map (lvM put ds)) with e|e
  .exact absurd e h
  .obtain⟨q,a,e⟩:=gx.1 e;obtain⟨i,hi,rfl⟩:=gr a;refine⟨i,gJ.2 hi,?_⟩;have:cl.getD i 0=cl[i]:=(by simp[y2,hi]);rw[this,X0,e];unfold kU at h;omega
 .rintro⟨i,hi,h⟩;rw[gJ] at hi;rw[X0] at h;have:lvM put ds (cl.getD i 0)<=kU put ds cl:=Za (Gc (getD_meS hi));omega
theorem SR.setCode (h:SR N Fr w bs many c s σ) {k:Int} (g:∀w',SR N Fr w' bs many c {s with code:=k} σ->Same (σ.foot bs) w w'->w'.heap.size=w.heap.size->K undef w'):
  zT zV (oP bs 5) (nI k) w K:=by
 refine h.blk.st rfl rfl yJ rfl λw1 hs i f=>?_;have b:Same (σ.foot bs) w w1:=hs.mono λx _ e=> .inr (.inl e);have d:∀x,σ.tf x->x≠bs:=λx a e=>h.st x (.inl e) a;refine g w1 ⟨f,h.cm,h.cl.same b λx hF _ a=>h.notF a hF,h.tr.same hs λx a e=>d x a e,h.rw.same hs λx a e=>h.s1 x a e,h.rl.same hs λx a e=>h.s2 x a e,h.lsl,h.ll.same b λx hF _ a=>h.notF a hF,h.s1,h.s2,h.s3,h.st,h.sf⟩ b i
def StepTo (N:Nat) (Fr:Nat->Prop) (w:World) (bs many:Nat) (c:Cnf) (s':Sat) (σ:SV) (w':World):Prop:=
 ∃Fr' σ',SR N Fr' w' bs many c s' σ'/\Same (σ.foot bs) w w'/\(∀b,σ'.foot bs b->σ.foot bs b\/w.heap.size<=b)/\(∀b,Fr' b->Fr b\/w.heap.size<=b)/\(∀b,Fr' b->b<w'.heap.size)
theorem StepTo.trans {s2:Sat} {w1 w2:World} {d:Nat->Prop} {g:SV} (a2:Same (σ.foot bs) w w1) (a3:∀b,g.foot bs b->σ.foot bs b\/w.heap.size<=b) (a4:∀b,d b->Fr b\/w.heap.size<=b) (i:StepTo N d w1 bs many c s2 g w2):StepTo N Fr w bs many c s2 σ w2:=by
 obtain⟨F2,l,b1,b2,b3,b4,h⟩:=i;have k:=a2.size;refine⟨F2,l,b1,⟨b2.os.trans a2.os,b2.tape.trans a2.tape,b2.output.trans a2.output,gO k b2.size,λb a f=>?_⟩,λb a=>?_,λb a=>?_,h⟩
 .rw[b2.block b oM λj=>?_,a2.block b a f];rcases a3 b j with e|e
  .exact f e
  .omega
 .rcases b3 b a with e|e
  .exact a3 b e
  .exact .inr oM
 .rcases b4 b a with e|e
  .exact a4 b e
  .exact .inr oM
theorem StepTo.refl (h:SR N Fr w bs many c s σ) (hF:∀b,Fr b->b<w.heap.size):StepTo N Fr w bs many c s σ w:=⟨Fr,σ,h,Same.refl _ _,λ_ h=> .inl h,λ_ h=> .inl h,hF⟩
theorem StepTo.ext {w1 w':World} (h:StepTo N Fr w1 bs many c s σ w') (he:Ext w w1):StepTo N Fr w bs many c s σ w':=by
 obtain⟨d,f,e,a2,a3,a4,a5⟩:=h;have g:=he.size;exact⟨d,f,e,(Same.of_ext he).trans a2,λb a=>(a3 b a).imp id λh=>oM,λb a=>(a4 b a).imp id λh=>oM,a5⟩
theorem resolve_spec {v:Value} {k:Nat} (h:SR N Fr w bs many c s σ) (t:satOk many c s) (M:c.many=many) (hk:k<c.list.length+s.learned.length) (d:Ints F w v (atM c s k)) (hc:ky s.put (atM c s k)) (q:∀b,Fr b->b<w.heap.size)
  (hK:∀w',StepTo N Fr w bs many c (k6 many c s (atM c s k)) σ w'->K (.tuple #[]) w'):
  vcall ZD #[oP bs 0,v] w K:=by
 refine ze {} Tryz.func208 ?_;obtain⟨af,ap⟩:=satOk.many' t M;have ak:=t.few;have aq:=t.mks;refine yo λp w1 hp O ar a8=>?_;have G:Blk w1 p [oP bs 0] yP:=a8;refine oZ ?_;have bounds:∀x,x∈atM c s k->x.natAbs<=many/\placeOf s.put x.natAbs≠0:=λx d=>⟨(t.lit M hk d).2,(hc x d).2⟩;refine ji (p:=λi=>decide (0<lvM s.put (yB s.why) ((atM c s k).getD i 0))) (d.ext O) (λi hi w' K' he a7=>?_) λw2 Z=>?_
 .rw[y4] at hi;rw[Kl hi];obtain⟨b1,b2⟩:=bounds _ (getD_meS hi);exact resolve_1_spec (h.ext (O.trans he)) (G.ext he) b1 b2 λw'' Y=>a7 w'' Y
 have A:=O.trans Z;have I:=h.ext A;have L:=G.ext Z;rw[y4];refine oZ ?_;refine zn (λa=>?_) (λa=>?_)
 ·
  have g:kU s.put (yB s.why) (atM c s k)=0:=GC λai=>by
   have:=topL_pos.1 ai;rw[this] at a;cases a
  simp only[push_cast,L.ld0];refine I.setCode λw3 h3 R a4=>hK w3 ⟨Fr,σ,?_,(Same.of_ext A).trans R,λb l=> .inl l,λb l=> .inl l,λb l=>?_⟩
  .unfold k6;rw[y3 g];exact h3
  .have:=q b l;have:=A.size;omega
 have g:kU s.put (yB s.why) (atM c s k)≠0:=topL_pos.2 (by simpa using a);have ae:=I.lists;have al:=I.lsl;simp only[push_cast,L.ld0,I.blk.ld4,ae.len];refine zb (λb=>?_) (λb=>?_)
 .refine I.setCode λw3 h3 R a4=>hK w3 ⟨Fr,σ,?_,(Same.of_ext A).trans R,λb l=> .inl l,λb l=> .inl l,λb l=>?_⟩
  .unfold k6;rw[y0 g,y3 oM];exact h3
  .have:=q b l;have:=A.size;omega
 refine learn_spec I t M hk (d.ext A) hc g (λb l=>by have:=q b l;have:=A.size;omega) λw3 v3 B aj ag=>?_;have E3:=A.trans B;have a4:=B.size;have au:=A.size;refine oZ ?_;refine zd λw4 r _=>?_;have h4:=I.ext (B.trans r);have U:=(L.ext B).ext r;have a2:=aj.ext r;have av:=r.size;simp only[push_cast,U.ld0,h4.blk.ld4,y1];refine zC Qa j8 W8 rfl a2.ints.cells1 λb5 T ao C aw a5=>?_;have J:=h4.ext C;have V:=U.ext C;have S:=a2.ext C;simp only[push_cast,V.ld0,J.blk.ld4,y1,gh];refine OwnV.app1 J.rl ZS a5 S.ints.one oM oM λE w6 Q y ah=>?_;have a1:∀x,σ.foot bs x->x≠p:=λx d e=>by have:=h.lt d;omega
 have W:=V.same y λe=>a1 p (.inr (.inr (.inr e))) rfl;have X:=J.blk.same y λe=>h.s2 _ e rfl;have aa:Same (σ.foot bs) T w6:=y.mono λx _ e=> .inr (.inr (.inr e));simp only[push_cast,W.ld0,y1];have j:∀x,v3.ownBlock=some x->w.heap.size<=x/\x<T.heap.size:=λx d=>⟨by have:=ag x d;omega,S.lt d⟩;have u:∀x,E.ownBlock=some x->σ.vr.ownBlock=some x\/T.heap.size<=x:=ah;refine X.st Q.vals.cells1 Q.vals.one Q6 rfl λw7 D ay a6=>?_;have f:Same (σ.foot bs) T w7:=aa.trans (D.mono λx _ e=> .inr (.inl e));have H:Same (λx=>x=bs\/σ.vr.ownBlock=some x) T w7:=(y.mono λx _ e=> .inr e).trans (D.mono λx _ e=> .inl e);have a9:=W.same D λe=>a1 bs (.inr (.inl rfl)) e.symm;have ax:=y.size;have a3:∀x,E.ownBlock=some x->x≠bs:=λx d e=>by
  rcases u x d with m|m
  .exact h.s2 x m e
  .have:=h.lt (.inr (.inl (rfl:bs=bs)));omega
 have ac:SR N (λb=>Fr b\/v3.ownBlock=some b) w7 bs many c {s with learned:=s.learned++[learnM many c s s.put.length (atM c s k)]} {σ with vr:=E,ls:=σ.ls++[v3]}:=by
  have fr:∀{x},σ.foot bs x->¬(Fr x\/v3.ownBlock=some x):=λ{x} d e=>by
   rcases e with e|e
   .exact h.notF d e
   .have:=h.lt d;have:=(j x e).1;omega
  refine⟨a6,h.cm,(J.cl.same f λx hF _ d=>h.notF d hF).weaken λx d _=> .inl d,?_,?_,?_,by simp[h.lsl],?_,h.s1,a3,?_,?_,?_⟩
  .refine(J.tr.same H λx d e=>?_).reframe λx d=>fr (.inl d);rcases e with e|e
   .exact h.st x (.inl e) d
   .exact h.st x (.inr (.inr e)) d
  .refine J.rw.same H λx d e=>?_;rcases e with e|e
   .exact h.s1 x d e
   .exact h.s3 x d e
  .exact Q.same D λx d e=>a3 x d e
  .refine RowsR.snoc ((J.ll.same f λx hF _ d=>h.notF d hF).weaken λx d _ _=> .inl d) h.lsl (S.same f λx d hf=>?_) (λx d=>⟨.inr d,?_⟩) λi x hi d e=>?_
   .have:=h.lt hf;have:=(j x d).1;omega
   .have:=h.ll.nle;have:=(j x d).1;omega
   .have:=(h.ll.own i hi).lt d;have:=(j x e).1;omega
  .intro x d e;rcases u x e with m|m
   .exact h.s3 x d m
   .have:=h.lt (.inr (.inr (.inl d)));omega
  .rintro x (e|e|e) ht
   .exact h.st x (.inl e) ht
   .exact h.st x (.inr (.inl e)) ht
   .rcases u x e with m|m
    .exact h.st x (.inr (.inr m)) ht
    .have:=h.lt (.inl ht);omega
  .rintro x (e|e|e) hF
   .exact fr (.inr (.inl e)) hF
   .exact fr (.inr (.inr (.inl e))) hF
   .rcases u x e with m|m
    .exact fr (.inr (.inr (.inr m))) hF
    .rcases hF with hF|hF
     .have:=q x hF;omega
     .have:=(j x hF).2;omega
 simp only[push_cast,a9.ld0];have an:=f.size;refine goBack_spec ac λσ8 w8 n hn ab z ad=>?_;subst hn;have a0:∀x,(SV.foot {σ with vr:=E,ls:=σ.ls++[v3]} bs) x->σ.foot bs x\/T.heap.size<=x:=by
  rintro x (e|e|e|e)
  .exact .inl (.inl e)
  .exact .inl (.inr (.inl e))
  .exact .inl (.inr (.inr (.inl e)))
  .exact(u x e).imp (λe=> .inr (.inr (.inr e))) id
 have az:=z.size;refine hK w8 ⟨λb=>Fr b\/v3.ownBlock=some b,σ8,?_,?_,λx d=>?_,λx d=>?_,λx d=>?_⟩
 .unfold k6;rw[y0 g,y0 oM];exact ab
 .have o:Ext w T:=E3.trans (r.trans C);have am:=o.size;refine⟨(z.os.trans f.os).trans o.os,(z.tape.trans f.tape).trans o.tape,(z.output.trans f.output).trans o.output,oM,λx d hn=>?_⟩;rw[z.block x oM λhf=>?_,f.block x oM hn,o.block x d id];rcases a0 x hf with e|e
  .exact hn e
  .omega
 .rcases a0 x (ad x d) with e|e
  .exact .inl e
  .exact .inr oM
 .rcases d with e|e
  .exact .inl e
  .exact .inr (j x e).1
 .rcases d with e|e
  .have:=q x e;omega
  .have:=(j x e).2;omega
theorem neg_ne {n:Nat} (h:1<=n): -(n:Int)≠0:=oM
theorem satOk.bnd (h:satOk many c s) (b:c.many=many) {cl:List Int} (a:cl∈c.list++s.learned) {l:Int} (d:l∈cl):l≠0/\l.natAbs<=many:=by
 have:=clauseOk_lit (satOk.cls h a) d;omega
theorem step_spec (h:SR N Fr w bs many c s σ) (g:satOk many c s) (r:c.many=many) (q:∀b,Fr b->b<w.heap.size)
  (o:∀w',StepTo N Fr w bs many c (stepM many c s) σ w'->K (.tuple #[]) w'):
  vcall XC #[oP bs 0] w K:=by
 refine ze {loops:=[(3,[5])]} Tryz.func176 ?_;obtain⟨a3,z⟩:=satOk.many' g r;have a9:=g.few;simp only[push_cast,h.blk.ld5];refine zb (λa=>o w (by unfold stepM;rw[y0 (by simpa using a)];exact StepTo.refl h q)) (λa=>?_);have O:stepM many c s=goM many c s:=y3 (by simpa using a);rw[O] at o;clear O;refine zd λw1 H _=>?_;have E:=h.ext H;simp only[push_cast,E.blk.ld1,E.blk.ld2,E.blk.ld4,y1];obtain⟨cs,ad,X,ac⟩:=E.cl;refine vbuildS_row1 (xs:=[σ.vc,σ.vr]) kh0 Q6 k40 (λx hx=>?_) (by simp) λb2 w2 ab Y ah W=>?_
 .simp only[gj,gy,Ge] at hx;rcases hx with rfl|rfl
  .exact X.cells1
  .exact E.lists.cells1
 have E2:=H.trans Y;have B:=h.ext E2;simp only[push_cast,B.blk.ld2,y1];have J:Lists (λ_=>True) w2 σ.vr s.learned:=⟨σ.ls,B.lsl,B.lists.weaken λ_ _ _=>trivial,λi hi=>(B.ll.int hi).weaken λ_ _ _=>trivial⟩;have G:Lists (λ_=>True) w2 σ.vc c.list:=B.cl.weaken λ_ _ _=>trivial;have A:([c.list,s.learned]:List (List (List Int))).flatten=c.list++s.learned:=by simp
 refine next_spec (F:=λ_=>True) (vs:=[σ.vc,σ.vr]) (lls:=[c.list,s.learned]) B.tr (Sl.weaken (W.sl1 rfl (by simp)) λ_ _ _=>trivial) rfl (λi hi=>?_) (λcl z l hl=>?_) ?_ λw3 k u x Z I=>?_
 .match i,hi with
  |0,_=>exact G
  |1,_=>exact J
  |n+2,hi=>exact absurd hi (by simp)
 .rw[A] at z;exact(satOk.bnd g r z hl).2
 .rw[A,gd];omega
 rw[A] at I;have D:=E2.trans Z;have R:=h.ext D;have ai:=D.size;have m:∀b,Fr b->b<w3.heap.size:=λb d=>by have:=q b d;omega
 simp only[push_cast,y1];have f:goM many c s=(if 0<=k then k6 many c s (atM c s k.toNat) else if 0<=u then{s with put:=s.put++[x],why:=s.why++[u]}
  else if s.put.length=many then{s with code:=1} else{s with put:=s.put++[-(Zn many s.put:Int)],why:=s.why++[-1]}):=by
  unfold goM;rw[I]
 have hlen:=g.len;have ag:=(satOk.mks g).len;rcases find_cases s.put (c.list++s.learned) with⟨i,u',x',hi,e,hc⟩|⟨hn,⟨i,x',hi,e,hu,-⟩|⟨e,-⟩⟩
 .rw[I,Gm,Gm] at e;obtain⟨rfl,rfl,rfl⟩:=e;rw[gd] at hi;rw[y3 oM,gq] at f;refine zb (λ_=>?_) (λb=>absurd oM b);refine clause_spec R oM oM λv4 T j a6=>?_;have p:=R.ext j;refine resolve_spec p g r hi a6 hc (λb d=>by have:=m b d;have:=j.size;omega) λU y=>?_;rw[f] at o;exact o U (y.ext (D.trans j))
 .rw[I,Gm,Gm] at e;obtain⟨rfl,rfl,rfl⟩:=e;rw[gd] at hi;rw[y0 oM,y3 oM] at f;refine zb (λb=>absurd b oM) (λ_=>zb (λ_=>?_) (λb=>absurd oM b));obtain⟨a7,a8⟩:=unit_mem hu;have d:=satOk.bnd g r (atM_mem (s:=s) hi) a7;refine assign_spec R d.1 d.2 a8 m λσ' T p L a0=>?_;rw[f] at o;refine o T (StepTo.ext ⟨Fr,σ',p,L,a0,λb d=> .inl d,λb d=>?_⟩ D);have:=m b d;have:=L.size;omega
 .rw[I,Gm,Gm] at e;obtain⟨rfl,rfl,rfl⟩:=e;rw[y0 oM,y0 oM] at f;refine zb (λb=>absurd b oM) (λ_=>zb (λb=>absurd b oM) (λ_=>?_));refine zd λT j _=>?_;have p:=R.ext j;have V:=D.trans j;have a4:Ints _ T σ.vp s.put:=p.tr.rp.ints;simp only[push_cast,p.blk.ld0,p.blk.ld2,p.tr.blk.ld0,a4.len,y1];refine zb (λb=>?_) (λb=>?_)
  .rw[y3 oM] at f;refine p.setCode λU y a5 aj=>?_;rw[f] at o;refine o U (StepTo.ext ⟨Fr,σ,y,a5,λb d=> .inl d,λb d=> .inl d,λb d=>?_⟩ V);have:=q b d;have:=V.size;omega
  .rw[y0 oM] at f;obtain⟨f1,f2,f3,f4⟩:=free_spec g.mks oM;refine vloop_up (Zn many s.put-1) (λi u w'=>u=[nI (i+1:Nat)]/\Ext w w') ⟨rfl,V⟩ ?_;rintro i _ _ U C hi ⟨rfl,S⟩ hC;have y:=h.ext S;simp only[push_cast,y.blk.ld2];refine assigned_spec y.tr oM λw6 t=>?_;rw[show((i:Int)+1).natAbs=i+1 from by omega];refine zb (λQ=>?_) (λQ=>?_)
   .have a2:i<Zn many s.put-1:=by
     refine GC λae=>?_;have:i+1=Zn many s.put:=oM;rw[this] at Q;exact Q f3
    simp(disch:=omega) only[push_cast,zk];exact hC a2 _ _ ⟨by simp,S.trans t⟩
   .have aa:i+1=Zn many s.put:=by
     refine GC λaf=>Q (f4 _ oM oM)
    have e1:IntKind.i64.wrap (0-((i:Int)+1))= -(Zn many s.put:Int):=by rw[zk oM oM];omega
    rw[e1];have h6:=y.ext t;have v:∀b,Fr b->b<w6.heap.size:=λb d=>by have:=q b d;have:=(S.trans t).size;omega
    refine assign_spec h6 (neg_ne f1) (by rw[G3,pH];exact f2) (by rw[G3,pH];exact f3) v λσ' w7 h7 M a1=>?_;rw[f] at o;refine o w7 (StepTo.ext ⟨Fr,σ',h7,M,a1,λb d=> .inl d,λb d=>?_⟩ (S.trans t));have:=v b d;have:=M.size;omega
end
section
variable {w:World} {K:oK} {F Fr:Nat->Prop} {many bs:Nat} {c:Cnf} {s:Sat} {σ:SV} {N:Nat}
theorem run_spec {v:Value} {n:Nat} (hc:CnfR F w v c) (z:cnfOk c=true) (d:c.many=many) (hn:n<=4000)
  (X:∀Fr bs σ w',Ext w w'->SR w.heap.size Fr w' bs many c (runM many c n emptyS) σ->(∀b,σ.foot bs b->w.heap.size<=b)->(∀b,Fr b->F b\/w.heap.size<=b)->(∀b,Fr b->b<w'.heap.size)->K (oP bs 0) w'):
  vcall xx0 #[v,nI n] w K:=by
 refine ze {loops:=[(3,[13])]} Tryz.func137 ?_;obtain⟨lv,rfl,R⟩:=hc;have s:many<=700:=by
  have:=z;unfold cnfOk at this;simp only[gk,X0] at this;omega
 refine yo λb1 w1 Y J a6 G=>?_;refine zd λw2 m _=>?_;have D:Blk w2 b1 [nI c.many,lv] zp:=G.ext m;rw[D.ldAgg zD];simp only[push_cast,D.ld0,y1];rw[d];have a7:=m.size;refine newTrail_spec (Fr:=λb=>F b/\b<w.heap.size) s (λb l=>by have:=l.2;omega) λbt vp vpl vl w3 o g L=>?_;have S:=D.ext o;rw[S.ldAgg zD,d];simp only[y1];refine Q8 UP (us:=[[nI many,lv],[oP bt 0]]) rfl rfl ?_;refine⟨rfl,?_⟩;refine yo λbs A Z t a9 H=>?_;have B:Ext w A:=J.trans (m.trans (o.trans t));have a8:=o.size;have M:=g.ext t;have a0:=(R.ext B).weaken (F':=λb=>F b) λb h _=>h;have y:Lists (λb=>F b/\b<w.heap.size) A lv c.list:=(R.weaken (F':=λb=>F b/\b<w.heap.size) λb T U=>⟨T,U⟩).ext B;have N:∀x,kJ bt vp vpl vl x->x<w3.heap.size:=by
  rintro x (rfl|e|e|e)
  .exact g.blk.lt
  .exact g.rp.lt e
  .exact g.rpl.lt e
  .exact g.rl.lt e
 have p:∀x,(SV.mk lv bt vp vpl vl (.slice none 0 0) (.slice none 0 0) []).f3 bs x->x=bs:=by
  rintro x (e|e|e)
  .exact e
  .cases e
  .cases e
 have I:SR w.heap.size (λb=>F b/\b<w.heap.size) A bs many c emptyS (SV.mk lv bt vp vpl vl (.slice none 0 0) (.slice none 0 0) []):=
  ⟨H,d,y,M,OwnI.nil,OwnV.nil,rfl,RowsR.nil B.size,λx j=>(by cases j),λx j=>(by cases j),λx j=>(by cases j),
   λx j ht=>by have:=p x j;have:=N x ht;omega,λx j hF=>by have:=p x j;have:=hF.2;omega⟩
 have f:∀x,(SV.mk lv bt vp vpl vl (.slice none 0 0) (.slice none 0 0) []).foot bs x->w.heap.size<=x:=by
  rintro x (e|e)
  .have:=L x e;omega
  .have:=p x e;omega
 have k:∀q,StepTo w.heap.size (λb=>F b/\b<w.heap.size) A bs many c (runM many c n emptyS) (SV.mk lv bt vp vpl vl (.slice none 0 0) (.slice none 0 0) []) q->K (oP bs 0) q:=by
  rintro q ⟨E,O,r,a2,a3,a4,a5⟩;refine X E bs O q (B.then a2 f) r (λb l=>?_) (λb l=>?_) a5
  .rcases a3 b l with e|e
   .exact f b e
   .omega
  .rcases a4 b l with e|e
   .exact .inl e.1
   .exact .inr oM
 refine vloop_up n (λi u w'=>u=[nI i]/\StepTo w.heap.size (λb=>F b/\b<w.heap.size) A bs many c (runM many c i emptyS) (SV.mk lv bt vp vpl vl (.slice none 0 0) (.slice none 0 0) []) w') ⟨rfl,StepTo.refl I λb l=>by have:=l.2;omega⟩ ?_;rintro i _ _ q C hi ⟨rfl,Q⟩ W;refine oZ ?_;refine zb (λa=>?_) (λa=>?_)
 .obtain⟨E,O,r,a2,a3,a4,a5⟩:=Q;simp only[push_cast,r.blk.ld5];refine zb (λb=>?_) (λb=>?_)
  .refine k q ⟨E,O,?_,a2,a3,a4,a5⟩;have e:n=i+(n-i):=oM;rw[e,run_add,run_stop b];exact r
  .refine step_spec r (run_ok d (empty_ok z)) d a5 λw6 V=>?_;simp(disch:=omega) only[push_cast,zk];refine W oM _ _ ⟨by simp,StepTo.trans a2 a3 a4 (by rw[run_succ];exact V)⟩
 .have:n=i:=oM;subst this;exact k q Q
theorem Z60:Vals F w (.slice none 0 0) []:=(OwnV.nil (t:=0)).vals.weaken λx a _=>by cases a
theorem jC0:Lists F w (.slice none 0 0) []:=⟨[],rfl,Z60,λi hi=>absurd hi (by simp)⟩
theorem SatR.fields {v:Value} (h:SatR F w v s):∃p y l,v= .agg #[p,y,l,nI s.code]/\∀x,x∈[p,y,l,nI s.code]->x.oneCell'=true:=by
 obtain⟨p,y,l,rfl,c,d,ls,_,a,_⟩:=h;refine⟨p,y,l,rfl,λx b=>?_⟩;simp only[gj,gy,Ge] at b;rcases b with rfl|rfl|rfl|rfl
 .exact c.one
 .exact d.one
 .exact a.one
 .rfl
theorem CnfR.below {v:Value} (h:CnfR F w v c):CnfR (λb=>F b/\b<w.heap.size) w v c:=by
 obtain⟨lv,e,h⟩:=h;exact⟨lv,e,h.weaken λb a d=>⟨a,d⟩⟩
end
section
variable {w:World} {K:oK} {F Fr:Nat->Prop} {many bs:Nat} {c:Cnf} {s:Sat} {σ:SV} {N:Nat}
def Zj (many:Nat) (put:List Int):List Bool:=(List.range many).map λj=>decide (((j+1:Nat):Int)∈put)
theorem valsM_snoc {many:Nat} {put:List Int} {l:Int} (a:Distinct (put++[l])) (g:l≠0):(Zj many put).set (l.natAbs-1) (decide (0<l))=Zj many (put++[l]):=by
 refine gK (by simp[Zj]) λi d f=>?_;rw[pa];simp only[Zj,Pp,pf];have b:∀x,x∈put->x.natAbs≠l.natAbs:=by
  unfold Distinct at a;rw[gB,Gr] at a;exact λx c e=>a.2.2 _ (Gc c) _ (by simp) e
 by_cases hi:l.natAbs-1=i
 .rw[y3 hi];refine decide_eq_decide.2 ⟨λh=>Gy _ (by rw[gu];omega),λh=>?_⟩;rcases gn.1 h with h|h
  .exact absurd oM (b _ h)
  .rw[gu] at h;omega
 .rw[y0 hi];refine decide_eq_decide.2 ⟨λh=>gW _ h,λh=>?_⟩;rcases gn.1 h with h|h
  .exact h
  .rw[gu] at h;omega
theorem vals_spec (h:SR N Fr w bs many c s σ) (B:∀w' v,Ext w w'->OwnB qu w' v (Zj many s.put)->(∀x,v.ownBlock=some x->w.heap.size<=x)->K v w'):vcall XB #[oP bs 0] w K:=by
 refine ze {loops:=[(3,[20])]} Tryz.func139 ?_;have E:=h.tr.few;have z:=h.tr.few';simp only[push_cast,h.blk.ld0];refine vmkS_own (bs:=1) qW0 UH qa0 rfl oM oM λv1 w1 t e f=>?_;have m:=h.ext e;have o:Ints _ w1 σ.vp s.put:=m.tr.rp.ints;simp only[push_cast,m.blk.ld2,m.tr.blk.ld0,o.len];have r:OwnB qu w1 v1 (Zj many []):=by
  have:Zj many []=List.replicate many false:=gK (by simp[Zj]) λi a b=>(by simp[Zj]);rw[this];unfold OwnB;rw[GO];exact t
 refine vloop_up s.put.length (λi u w'=>u=[nI i]/\Ext w w'/\OwnB qu w' v1 (Zj many (s.put.take i))) ⟨rfl,e,r⟩ ?_;rintro i _ _ w2 C hi ⟨rfl,he,l⟩ A;refine oZ ?_;refine zb (λa=>?_) (λa=>?_)
 .have g:Ints _ w2 σ.vp s.put:=(h.ext he).tr.rp.ints;simp(disch:=exact oS) only[push_cast,g.iaddr,g.load];have D:=h.tr.bnd _ (getD_meS (show i<s.put.length by omega));have G:(Zj many (s.put.take i)).length=many:=(by simp[Zj]);refine variable_spec oM oM ?_;obtain⟨q,F⟩:∃q,(s.put.getD i 0).natAbs=q+1:=⟨(s.put.getD i 0).natAbs-1,oM⟩;rw[F,show(((q+1:Nat):Int))=(q:Int)+1 from rfl];have n:=l.bools;simp(disch:=exact oS) only[Y4,Int.add_sub_cancel,push_cast,zk,n.iaddr];refine l.st qc0 oM λJ k p I=>?_;have j:(Zj many (s.put.take i)).set q (decide (0<s.put.getD i 0))=Zj many (s.put.take (i+1)):=by
   have y:=distinct_take h.tr.dis (i+1);rw[JC (d:=0) oM] at y⊢;rw[<-valsM_snoc y D.1,show q=(s.put.getD i 0).natAbs-1 from by omega]
  rw[j] at k;exact A oM _ _ ⟨by simp,Ext.then he p λx H=>by have:=f x H;omega,k⟩
 .rw[gC oM] at l;exact B w2 v1 he l f
end
end Go.Proofs.YtfjlkobhagjdaaaGreatDoor
namespace Go.Vc
open Go Go.M
section
variable {w w':World} {K:oK} {F:Nat->Prop} {k:Nat} {v tv:Value} {xs:List (List Value)} {t:TypeId} {ts:List Tm}
theorem Sl.mid (h:Sl F w k v xs) (z:elB t k=true) {a b:Nat} (r:a<=b) (q:b<=xs.length):
  ∃v1,(∀(n p:IntKind) (w':World) (K:oK),xd t v (some (.int n a)) (some (.int p b)) none w' K=K v1 w')/\Sl F w k v1 ((xs.drop a).take (b-a)):=by
 obtain⟨hu,hs⟩:=ZV z;obtain⟨o,c,rfl,B,s,d⟩:=h.shape;refine⟨sliced o a b c k,λn p w' K=>y6 ?_,?_⟩
 .rw[run_sliceAt_slice w' t _ _ _ _ hu,run_slice_lh w' t _ _ _ hu n p a b oM oM oM,Go.Vc.run_sizeOf hs];simp[Result.andThen]
 .have f:((xs.drop a).take (b-a)).length=b-a:=by rw[gl,GX];omega
  refine⟨⟨_,c-a,by rw[f];rfl,by rw[f];omega,oM,λm=>?_⟩,λx A=>h.wide x (G2 (Gd A))⟩;have y:a<b:=Nat.lt_of_not_le λe=>m (gH (by rw[f];omega));obtain⟨g,j,rfl,hF,u,l⟩:=d (λe=>by rw[e] at q;simp at q;omega);rw[y0 oM];refine⟨g,j+a*k,by simp[yq],hF,u,λi hi=>?_⟩;rw[f] at hi;have:=l (a+i) oM;have e:((xs.drop a).take (b-a)).getD i []=xs.getD (a+i) []:=by
   rw[take_getD hi,y2,pd,<-y2]
  rw[e,show j+a*k+i*k=j+(a+i)*k by rw[G0];omega];exact this
theorem TmsR.one (h:TmsR F w tv ts):tv.oneCell'=true:=by
 obtain⟨_,h,_⟩:=h;obtain⟨a,c,rfl,_⟩:=h.shape;rfl
theorem TmsR.cellsV (h:TmsR F w tv ts):tv.cells= #[tv]:=by
 obtain⟨_,h,_⟩:=h;obtain⟨a,c,rfl,_⟩:=h.shape;rfl
end
end Go.Vc
namespace Go.M
open Go.Vc
abbrev Lay:=List Dcl×List Tm
end Go.M
namespace Go.Proofs.YtfjlkobhagjdaaaGreatDoor
open Go Go.Vc Go.Proofs
section
variable {w w':World} {K:oK} {F F' F2 H H2 S:Nat->Prop} {k:Nat} {v uv tv:Value} {t:TypeId} {ts us:List M.Tm}
def LstH (H:Nat->Prop) (w:World) (tv:Value) (ts:List M.Tm):Prop:= ∃css,Own 0 5 zl w tv css/\css.length=ts.length/\∀i,i<ts.length->TmR H w (css.getD i []) (ts.getD i default)
theorem LstH.nil:LstH H w (.slice none 0 0) []:=⟨[],Own.nil 0 5 _ w,rfl,λi hi=>absurd hi (PZ _)⟩
theorem LstH.lt (h:LstH H w tv ts) {b:Nat} (a:tv.ownBlock=some b):b<w.heap.size:=by obtain⟨_,c,_⟩:=h;exact(c.lt a).2
theorem LstH.same (h:LstH H w tv ts) (hw:Same S w w') (b:∀x,tv.ownBlock=some x->¬S x) (c:∀x,H x->x<w.heap.size->¬S x):LstH H w' tv ts:=by
 obtain⟨css,e,d,hi⟩:=h;exact⟨css,e.same hw b,d,λi a=>(hi i a).same hw c⟩
theorem LstH.ext (h:LstH H w tv ts) (hw:Ext w w'):LstH H w' tv ts:=h.same hw (λ_ _ h=>h) λ_ _ _ h=>h
theorem LstH.weaken (h:LstH H w tv ts) (c:∀b,H b->b<w.heap.size->F b):LstH F w tv ts:=by
 obtain⟨css,e,d,hi⟩:=h;exact⟨css,e,d,λi a=>(hi i a).weaken c⟩
theorem LstH.tms (h:LstH H w tv ts):TmsR (λx=>H x\/tv.ownBlock=some x) w tv ts:=by
 obtain⟨css,d,c,hi⟩:=h;exact⟨css,d.sl.weaken λx b _=> .inr b,c,λi a=>(hi i a).weaken λx b _=> .inl b⟩
theorem jx0 {α:Type} {l r:List α} {i:Nat} {e:α} (h:l.length<=i):(l++r).getD i e=r.getD (i-l.length) e:=by
 rw[y2,GB h,<-y2]
theorem LstH.app {ty:Nat} {c:List (List Value)} (h:LstH H w tv ts) (o:∀x,tv.ownBlock=some x->¬H x/\¬H2 x) (hu:Sl F2 w 5 uv c) (j:c.length=us.length) (g:∀i,i<us.length->TmR H2 w (c.getD i []) (us.getD i default))
  (r:ts.length+us.length<=1000000000)
  (p:∀w' b,Same (λx=>tv.ownBlock=some x) w w'->(∀x,b.ownBlock=some x->tv.ownBlock=some x\/w.heap.size<=x)->LstH (λx=>(H x\/H2 x)/\x<w.heap.size) w' b (ts++us)->K b w'):
  vbi .append [zl,zl] ty [tv,uv] w K:=by
 obtain⟨css,q,f,hi⟩:=h;refine vappend qx dC q hu (one_tms j g) (gS _) oM oM λb w2 m d l=>p w2 b d l ⟨css++c,m,by simp[f,j],λi k=>?_⟩;rw[gd] at k;by_cases n:i<ts.length
 .rw[M.app_getD oM,M.app_getD n];exact((hi i n).weaken (F':=λx=>(H x\/H2 x)/\x<w.heap.size/\H x) λx a f=>⟨.inl a,f,a⟩).same d (λx a _ e=>(o x e).1 a.2.2)|>.weaken λx a _=>⟨a.1,a.2.1⟩
 .rw[jx0 oM,jx0 oM,f];exact((g _ oM).weaken (F':=λx=>(H x\/H2 x)/\x<w.heap.size/\H2 x) λx a f=>⟨.inr a,f,a⟩).same d (λx a _ e=>(o x e).2 a.2.2)|>.weaken λx a _=>⟨a.1,a.2.1⟩
theorem LstH.push {ty:Nat} {t:M.Tm} (h:LstH H w tv ts) (m:∀x,tv.ownBlock=some x->¬H x/\¬H2 x) (q:TermR H2 w uv t) (p:ts.length<=2000000)
  (o:∀w' a,Same (λx=>tv.ownBlock=some x) w w'->(∀x,a.ownBlock=some x->tv.ownBlock=some x\/w.heap.size<=x)->LstH (λx=>(H x\/H2 x)/\x<w.heap.size) w' a (ts++[t])->K a w'):
  vbuildS zl 1 [(0,uv)] w λs w1=>vbi .append [zl,zl] ty [tv,s] w1 K:=by
 obtain⟨cs,rfl,f⟩:=q.cells;refine qD xZ qr zq rfl (zU f) dC λb w1 u d r g=>?_;have v:=d.size;refine LstH.app (H2:=λx=>H2 x/\x<w.heap.size) (us:=[t]) ((h.weaken (F:=λx=>H x/\x<w.heap.size) λx c j=>⟨c,j⟩).ext d) (λx c=>⟨λe=>(m x c).1 e.1,λe=>(m x c).2 e.1⟩) (g.sl1k (zU f)) rfl (λi hi=>?_) (by simp;omega) λw2 a l k n=>?_
 .have:i=0:=(by simpa using hi);subst this;exact(f.weaken λx c j=>⟨c,j⟩).ext d
 .refine o w2 a ((Same.of_ext d).trans l) (λx c=>(k x c).imp id λh=>oM) (n.weaken λx c _=>?_);rcases c.1 with h|h
  .exact⟨.inl h.1,h.2⟩
  .exact⟨.inr h.1,h.2⟩
end
section
variable {b:Nat} {c:List M.Lay}
theorem two_one {a b:Value} (d:a.oneCell'=true) (e:b.oneCell'=true):∀x,x∈[a,b]->x.oneCell'=true:=λx c=>by
 simp only[gj,gy,Ge] at c;rcases c with rfl|rfl<;>assumption
end
section
variable {w w' w1 w2:World} {K:oK} {F D G H S:Nat->Prop} {n b k p many:Nat} {v lv tv dv nv ev x3 x4 x5 f:Value} {t:M.Tm} {ts:List M.Tm} {ds:List M.Dcl} {c:M.Cnf} {ar ab at_ an am:Addr}
theorem Z90 {o:Nat} {cs cs':List Value} {t0 t:TypeId} (h:Blk w b cs t0) (e:o+cs'.length<=cs.length) (g:aggB t cs'.length=true) (a:∀v,v∈cs'->v.oneCell'=true)
  (c:∀w',Same (· =b) w w'->w'.heap.size=w.heap.size->Blk w' b (cs.take o++cs'++cs.drop (o+cs'.length)) t0->K undef w'):zT t (oP b o) (.agg ⟨cs'⟩) w K:=by
 have f:=run_storeCells_at (P:=P) b o t0 cs' 0 ⟨cs⟩ w h (by simpa using e) a;refine⟨(),_,?_,c (w.setRow b (cs.take o++cs'++cs.drop (o+cs'.length)).toArray) ⟨rfl,rfl,rfl,by simp,λk _ d=>setRow_other w b k _ d⟩ (by simp) (setRow_heap w b _ _ t0 _ h)⟩;simp only[Instr.storeAt,Instr.sureAddr,Sem.run_bind,Sem.run_pure,Result.andThen_ok,storeVar,j3 g,Value.cells];simp only[G4,P0,not_true_eq_false,if_false];exact f
theorem jobFold_spec (r:Blk w b [dv,tv,nv,x3,x4,x5] y7) (hd:DclsR F w dv ds) (N:TmsR F w tv ts) (a6:∀x,F x->x≠b) (hs:ts.length<=2000000) (Z:Sent w yN at_)
  (U:∀t,t∈ts->M.tsort ds t≠0->∀w',Ext w w'->K (erv at_) w')
  (V:(∀t,t∈ts->M.tsort ds t=0)->∀w' L,Same (· =b) w w'->Blk w' b [dv,L,nv,x3,x4,x5] y7->TmsR (λx=>w.heap.size<=x) w' L (ts.map (Qx ds))->K .nilIface w'):
  vcall jQ #[oP b 0] w K:=by
 refine ze {loops:=[(3,[3,11])]} Tryz.func110 ?_;have lb:=r.lt;simp only[push_cast,r.ld1,N.len];refine vloop_up ts.length (λi u w'=> ∃lv H,u=[lv,nI i]/\Ext w w'/\LstH H w' lv ((ts.take i).map (Qx ds))/\(∀x,H x->w.heap.size<=x)/\(∀x,lv.ownBlock=some x->w.heap.size<=x/\¬H x)/\∀j,j<i->M.tsort ds (ts.getD j default)=0)
  ⟨_,λ_=>False,rfl,Same.refl _ _,LstH.nil,λx d=>d.elim,λx d=>(by cases d),λj D=>absurd D oM⟩ ?_
 rintro i _ _ w2 C hi ⟨lv,H,rfl,c,f,hH,hO,n⟩ hC;refine oZ ?_;refine zb (λa=>?_) (λa=>?_)
 .have m:i<ts.length:=oM;have G:=N.ext c;simp(disch:=exact oS) only[push_cast,G.iaddr];refine G.load zc m λx d=>?_;obtain⟨cs,rfl,l⟩:=d.cells;have hg:aggB za cs.length=true:=by rw[zU l];exact zc
  refine zi zq λb3 w3 a7 s a3 o=>?_;refine stTerm o rfl (l.ext s) λw4 a0 a8 R=>?_;refine zd λw5 v _=>?_;have k:Ext w2 w5:=(Ext.then s a0 λy hy=>by subst hy;omega).trans v;have S:=r.ext (c.trans k);have q5:=R.ext v;simp only[push_cast,S.ld0,y1];rw[q5.ldAgg (t:=za) hg];refine⟨rfl,?_⟩;refine TermSort_spec (hd.ext (c.trans k)) (l.ext k).term λw6 z=>?_;have p:=k.trans z;have e6:=c.trans p;simp only[push_cast,y1];refine zb (λO=>?_) (λO=>?_)
  .have I:=Z.same e6 id;rw[y5 xq I.cell];exact U _ (M.getD_mem m _) O _ e6
  .refine zd λw7 A _=>?_;have g:=p.trans A;have T:=r.ext (c.trans g);have q7:=q5.ext (z.trans A);simp only[push_cast,T.ld0,y1];rw[q7.ldAgg (t:=za) hg];refine⟨rfl,?_⟩;refine TermFold_spec (hd.ext (c.trans g)) (l.ext g).term λw8 a5 B Y=>?_;have q:=g.trans B;have a9:=g.size;have z2:=c.size;have z8:=B.size;have llt:∀x,lv.ownBlock=some x->x<w2.heap.size:=λx d=>f.lt d;refine LstH.push (f.ext q) (λx d=>⟨(hO x d).2,λe=>by have:=llt x d;omega⟩) (xm0 _ Y).term (by rw[y4,gl];omega) λw9 a4 a2 X E=>?_
   try simp only[push_cast]
   rw[inc64' oM];rw[show(ts.take i).map (Qx ds)++[Qx ds (ts.getD i default)]=(ts.take (i+1)).map (Qx ds) by rw[<-JB m,gB];rfl] at E;refine hC m _ _ ⟨a4,_,rfl,Ext.then (c.trans q) a2 λx d=>(hO x d).1,E,λx d=>?_,λx d=>?_,λj D=>?_⟩
   .rcases d.1 with h|h
    .exact hH x h
    .have:=h.1;omega
   .rcases X x d with e|e
    .refine⟨(hO x e).1,λh=>?_⟩;have:=llt x e;rcases h.1 with h|h
     .exact(hO x e).2 h
     .have:=h.1;omega
    .exact⟨oM,λh=>by have:=h.2;omega⟩
   .by_cases e:j<i
    .exact n j e
    .have:j=i:=oM;subst this;exact GL.1 O
 .have W:i=ts.length:=oM;subst W;rw[gA] at f;have Q:=r.ext c;refine Q.st (i:=1) f.tms.cellsV f.tms.one xG rfl λw3 J a3 o=>?_;refine V (λt N=>?_) w3 lv ((Same.of_ext c).trans J) o ?_
  .obtain⟨j,D,rfl⟩:=gr N;have:=n j D;rwa[y2,V0 D] at this
  .exact(f.tms.same J λx d _ e=>by
    have:w.heap.size<=x:=d.elim (hH x) λh=>(hO x h).1;omega).weaken λx d _=>d.elim (hH x) λh=>(hO x h).1
theorem jobBlast_spec (z:Blk w b [dv,tv,nv,x3,x4,x5] y7) (I:DclsR F w dv ds) (M:TmsR G w tv ts) (he:Errs (λ_=>False) w ar ab) (D:Sent w yN at_)
  (O:∀w' lv ls,Same (· =b) w w'->Blk w' b [dv,tv,nv,nI (cnfE ds ts).1.many,lv,x5] y7->CnfO w.heap.size w' lv ls (cnfE ds ts).1->K (errV ar at_ (cnfE ds ts).2) w'):vcall jj #[oP b 0] w K:=by
 refine ze {cuts:=[(8194,[3,4])]} Tryz.func111 ?_;have lb:=z.lt;refine zo (λu w'=> ∃b3 lv ls,u=[oP b3 0,errV ar at_ (cnfE ds ts).2]/\Ext w w'/\w.heap.size<=b3/\Blk w' b3 [nI (cnfE ds ts).1.many,lv] zp/\CnfO w.heap.size w' lv ls (cnfE ds ts).1) (λJ H=>?_) ?_
 .refine zd λw1 c _=>?_;have k:=z.ext c;have V:=c.size;have j:=D.same c id;have i:=he.ext0 c;simp only[push_cast,k.ld0,k.ld1,y1,gQ];refine⟨?_,?_⟩
  .refine blastCnf_spec (I.ext c) (M.ext c) i j λw2 lv ls g f=>?_;have z2:=g.size;simp only[push_cast,y1,gQ];refine zi xo λb3 E m a s d=>?_;have C:=f.ext a
   try simp only[push_cast,y1,gQ,gh]
   refine d.stAgg (cs':=[nI (cnfE ds ts).1.many,lv]) rfl zD (two_one rfl C.lst.vals.one) λT q R A=>?_
   try simp only[push_cast,y1,gQ,gh]
   refine H _ _ ⟨b3,lv,ls,rfl,Ext.then ((c.trans g).trans a) q λy Q=>oM,oM,A,(f.same ((Same.of_ext a).trans q) λx N L e=>oM).down oM⟩
  .refine zi xo λb3 E m a s d=>?_;have h:=k.ext a;have v:=c.trans a;have z3:=a.size;simp only[push_cast,h.ld0,h.ld1,y1,gh];refine blastCnf_spec (I.ext v) (M.ext v) (i.ext0 a) (j.same a id) λT lv ls n l=>?_;simp only[push_cast,y1,gQ];refine(d.ext n).stAgg (cs':=[nI (cnfE ds ts).1.many,lv]) rfl zD (two_one rfl l.lst.vals.one) λU r S B=>?_
   try simp only[push_cast,y1,gQ,gh]
   exact H _ _ ⟨b3,lv,ls,rfl,Ext.then (v.trans n) r λy Q=>oM,oM,B,(l.same r λx N L e=>oM).down oM⟩
 .rintro _ _ w2 ⟨b3,lv,ls,rfl,g,m,d,f⟩;refine oZ ?_;rw[d.ldAgg (t:=zp) zD]
  try simp only[push_cast]
  refine Z90 (o:=3) (z.ext g) (by simp) zD (two_one rfl f.lst.vals.one) λE p s d=>?_;exact O E lv ls ((Same.of_ext g).trans p) d (f.same p λx N L e=>oM)
theorem jobExclude_spec (d:Blk w b [dv,tv,.slice none 0 0,x3,x4,x5] y7) (e:K .nilIface w):vcall qE #[oP b 0] w K:=by
 refine ze {loops:=[(2,[13]),(6,[5,24])]} Tryz.func112 ?_;have c:Vals (λ_=>False) w (.slice none 0 0) []:=OwnV.nil (t:=zI)|>.vals.weaken λx f _=>(by cases f);simp only[push_cast,d.ld2,c.len,pI];refine vloop_up 0 (λi u w'=>u=[nI i]/\w'=w) ⟨rfl,rfl⟩ ?_;rintro i _ _ _ C hi ⟨rfl,rfl⟩ g;refine oZ ?_;refine zb (λa=>absurd a oM) (λ_=>e)
theorem vals_ins {put:List Int} (h:1+n<=many):((Zj many put).drop 1).take n=M.insV (M.wayM put) n:=by
 refine gK (by simp[Zj,M.insV];omega) λi a b=>?_;simp[Zj,M.insV,M.wayM,Nat.add_comm 1 i,Pr];rw[show(i:Int)+1+1=i+2 by omega]
theorem jobSearch_spec (g:Blk w b [dv,tv,nv,nI c.many,lv,x5] y7) (hd:DclsR F w dv ds) (a1:∀x,F x->x≠b) (l:M.declOk ds=true) (hc:CnfR G w (.agg #[nI c.many,lv]) c) (u:M.cnfOk c=true) (hn:1+M.nIn ds<=c.many.toNat) (W:Sent w jh an) (U:Sent w qp am)
  (m:(M.searchM 4000 ds c).2=1->∀w' ev,Same (· =b) w w'->Blk w' b [dv,tv,nv,nI c.many,lv,ev] y7->OwnI zh w' ev (M.searchM 4000 ds c).1->(∀x,ev.ownBlock=some x->w.heap.size<=x)->K .nilIface w')
  (o:M.searchM 4000 ds c=([],2)->∀w',Ext w w'->K (erv an) w') (p:M.searchM 4000 ds c=([],3)->∀w',Ext w w'->K (erv am) w'):vcall qX #[oP b 0] w K:=by
 refine ze {} Tryz.func113 ?_;have lb:=g.lt;obtain⟨V,a5⟩:=M.nIn_eq l;have R:zu zp (oP b 3) w=λK=>K (.agg #[nI c.many,lv]) w:=by
  funext K
  refine Xl (cs:=[nI c.many,lv]) zD λi v C=>?_;rw[yq]
  match i,C with
  |0,C=>exact g.cell (by simpa using C)
  |1,C=>exact g.cell (by simpa using C)
 simp only[push_cast];rw[R];have a3:0<=c.many:=oM
 refine run_spec (many:=c.many.toNat) (n:=4000) hc u oM (gz _) λFr bs σ w2 f h _ _ _=>?_;have a0:=g.ext f;have z2:=f.size;simp only[push_cast,h.blk.ld5];have d:M.searchM 4000 ds c=if(M.runM c.many.toNat c 4000 M.emptyS).code=1 then(M.envB ds (M.insV (M.wayM (M.runM c.many.toNat c 4000 M.emptyS).put) (M.nIn ds)),1) else if(M.runM c.many.toNat c 4000 M.emptyS).code=2 then([],2) else([],3):=rfl
 generalize M.searchM 4000 ds c=sr at d m o p;generalize hs:M.runM c.many.toNat c 4000 M.emptyS=s at h d;refine zb (λa=>?_) (λa=>?_)
 .rw[y3 a] at d;refine zd λw3 z _=>?_;have e3:=f.trans z;have J:=g.ext e3;simp only[push_cast,J.ld0,y1];refine vals_spec (h.ext z) λw4 vv S X a4=>?_;have I:=e3.trans S;have L:=g.ext I;simp only[push_cast,L.ld0,y1,gh];refine bitsOf_spec (hd.ext I) l λw5 A=>?_;have H:=I.trans A;have N:=g.ext H;simp only[push_cast,N.ld0,y1,gh];rw[zk oM oM,<-V,show(1:Int)+(M.nIn ds:Int)=((1+M.nIn ds:Nat):Int) by omega];obtain⟨v6,y,Y⟩:=Sl.mid (X.ext A).bools (t:=qu) (k:=1) yK0 (a:=1) (b:=1+M.nIn ds) oM (by simp[Zj];omega);rw[show(1:Int)=((1:Nat):Int) from rfl,y]
  try simp only[push_cast,y1]
  have D:Bools (λx=>vv.ownBlock=some x) w5 v6 (M.insV (M.wayM s.put) (M.nIn ds)):=by
   have q:=Y;rw[show 1+M.nIn ds-1=M.nIn ds by omega,<-Pt,<-GG,<-Pt,<-GG,vals_ins hn] at q;exact q
  refine BlastEnv_spec (hd.ext H) D l (by rw[M.insV_len]) λw7 r T j B=>?_;have e7:=H.trans T;have O:=g.ext e7
  try simp only[push_cast,y1]
  refine O.st (i:=5) j.ints.cells1 j.ints.one j8 rfl λw8 E a6 Q=>?_;have z5:=H.size;subst d;exact m rfl w8 r ((Same.of_ext e7).trans E) Q (j.same E λx Z e=>by have:=B x Z;omega) λx Z=>by have:=B x Z;omega
 .rw[y0 a] at d;refine zb (λa2=>?_) (λa2=>?_)
  .rw[y3 a2] at d;rw[y5 xq (W.same f id).cell];exact o d w2 f
  .rw[y0 a2] at d;rw[y5 xq (U.same f id).cell];exact p d w2 f
end
section
variable {w w' w1 w2:World} {K:oK} {F F' D G H S:Nat->Prop} {n b k p:Nat} {v lv tv dv ev f:Value} {xs:List Nat} {t:M.Tm} {ts us:List M.Tm} {ds:List M.Dcl} {c:M.Cnf} {ar ab at_ an am:Addr}
def RowA (w:World) (a:Addr):Prop:= ∃(c:Array Value) (t:TypeId),w.heap[a.block]?=some (.cells c t (0,0))
theorem RowA.ext {a:Addr} (h:RowA w a) (he:Ext w w'):RowA w' a:=by
 obtain⟨c,t,h⟩:=h;refine⟨c,t,?_⟩;rw[he.block _ (gG.1 h).1 id];exact h
structure Er (w:World) (at_ an am ar ab:Addr):Prop where
 terms:Sent w yN at_
 no:Sent w jh an
 much:Sent w qp am
 errs:Errs (λ_=>False) w ar ab
 rt:RowA w at_
 rn:RowA w an
 rm:RowA w am
 rr:RowA w ar
 d1:an≠at_
 d2:am≠at_
 d3:am≠an
 d4:ar≠at_
 d5:ar≠an
 d6:ar≠am
theorem Er.ext (h:Er w at_ an am ar ab) (he:Ext w w'):Er w' at_ an am ar ab:=
 ⟨h.terms.same he id,h.no.same he id,h.much.same he id,h.errs.ext0 he,h.rt.ext he,h.rn.ext he,h.rm.ext he,h.rr.ext he,h.d1,h.d2,h.d3,h.d4,h.d5,h.d6⟩
def errE (at_ an am ar:Addr):Nat->Value
 |0=> .nilIface
 |1=>erv ar
 |2=>erv at_
 |3=>erv an
 |_=>erv am
theorem W3 {a c:Addr} (h:a≠c) (f:RowA w a) (g:RowA w c) (e:K (.bool false) w):vcall qf #[erv a,erv c] w K:=by
 obtain⟨_,_,b⟩:=f;obtain⟨_,_,d⟩:=g;exact kF0 h b d e
theorem switch_spec {r q j X:World->Prop} (er:Er w at_ an am ar ab) (k:Nat) (l:k=0->X w) (m:k=1->j w) (n:k=2->r w) (o:k=3->q w) (p:4<=k->j w):
  zu xt (oP yN 0) w λt28 e=>vcall qf #[errE at_ an am ar k,t28] e λt29 b=>vif t29 (r b) (
   zu xt (oP jh 0) b λt32 f=>vcall qf #[errE at_ an am ar k,t32] f λt33 c=>vif t33 (q c) (
    zu xt (oP qp 0) c λt36 g=>vcall qf #[errE at_ an am ar k,t36] g λt37 a=>vif t37 (vif t37 (j a) (X a)) (
     zu xt (oP xQ 0) a λt39 i=>vcall qf #[errE at_ an am ar k,t39] i λt40 d=>vif t40 (j d) (X d)))):=by
 rw[y5 xq er.terms.cell]
 match k,l,m,n,o,p with
 |0,l,_,_,_,_=>
  refine j20 (zn (λh=>by cases h) λ_=>?_);rw[y5 xq er.no.cell];refine j20 (zn (λh=>by cases h) λ_=>?_);rw[y5 xq er.much.cell];refine j20 (zn (λh=>by cases h) λ_=>?_);rw[y5 xq er.errs.room.cell];exact j20 (zn (λh=>by cases h) λ_=>l rfl)
 |1,_,m,_,_,_=>
  refine W3 er.d4 er.rr er.rt (zn (λh=>by cases h) λ_=>?_);rw[y5 xq er.no.cell];refine W3 er.d5 er.rr er.rn (zn (λh=>by cases h) λ_=>?_);rw[y5 xq er.much.cell];refine W3 er.d6 er.rr er.rm (zn (λh=>by cases h) λ_=>?_);rw[y5 xq er.errs.room.cell];exact zY0 (zn (λ_=>m rfl) λh=>by cases h)
 |2,_,_,n,_,_=>exact zY0 (zn (λ_=>n rfl) λh=>by cases h)
 |3,_,_,_,o,_=>
  refine W3 er.d1 er.rn er.rt (zn (λh=>by cases h) λ_=>?_);rw[y5 xq er.no.cell];exact zY0 (zn (λ_=>o rfl) λh=>by cases h)
 |k+4,_,_,_,_,p=>
  refine W3 er.d2 er.rm er.rt (zn (λh=>by cases h) λ_=>?_);rw[y5 xq er.no.cell];refine W3 er.d3 er.rm er.rn (zn (λh=>by cases h) λ_=>?_);rw[y5 xq er.much.cell];exact zY0 (zn (λ_=>zn (λ_=>p oM) λh=>by cases h) λh=>by cases h)
theorem YR0 {d e f:Option Addr} {a c1 b c2 c c3:Nat}:yz y7 [(0,.slice d a c1),(1,.slice e b c2),(2,.slice f c c3)] w K=K (.agg ⟨[.slice d a c1,.slice e b c2,.slice f c c3,nI 0,.slice none 0 0,.slice none 0 0]⟩) w:=
 zS xT0 (us:=[[.slice d a c1],[.slice e b c2],[.slice f c c3]]) rfl rfl
theorem bdJob (b:DclsR F w' dv ds) (d:TmsR G w' tv ts):yz y7 [(0,dv),(1,tv),(2,.slice none 0 0)] w K=K (.agg ⟨[dv,tv,.slice none 0 0,nI 0,.slice none 0 0,.slice none 0 0]⟩) w:=by
 obtain⟨a,c,rfl,_⟩:=b.shape;obtain⟨_,h,_⟩:=d;obtain⟨e,c',rfl,_⟩:=h.shape;exact YR0
def qy0:List Value:=[.func (.func jQ) #[] #[],.func (.func jj) #[] #[],.func (.func qE) #[] #[],.func (.func qX) #[] #[]]
theorem stages_spec (d:∀w' b,b=w.heap.size->Ext w w'->Vals (· =b) w' (.slice (some ⟨b,0,none⟩) 4 4) qy0->K (.slice (some ⟨b,0,none⟩) 4 4) w'):vcall WZ #[] w K:=by
 refine ze {} Tryz.func87 ?_;exact vbuildS_row1 (xs:=qy0) kI kB k8 (λx a=>by
  simp only[qy0,gj,gy,Ge] at a;rcases a with rfl|rfl|rfl|rfl<;>rfl) dC λb w1 e he f c=>d w1 b e he (c.sl1 rfl dC)
theorem x80:yH0 c ds []=c:=by unfold yH0;simp
def JobS (w0:World) (b:Nat) (dv tv:Value) (ds:List M.Dcl) (ts:List M.Tm) (w:World):Nat->Prop
 |0=>Blk w b [dv,tv,.slice none 0 0,nI 0,.slice none 0 0,.slice none 0 0] y7
 |1=>(∀t,t∈ts->M.tsort ds t=0)/\∃tv',Blk w b [dv,tv',.slice none 0 0,nI 0,.slice none 0 0,.slice none 0 0] y7/\TmsR (λx=>w0.heap.size<=x/\x≠b) w tv' (ts.map (Qx ds))
 |4=>(xL ds ts []).2=1/\∃tv' y z ev,Blk w b [dv,tv',.slice none 0 0,y,z,ev] y7/\OwnI zh w ev (xL ds ts []).1/\∀x,ev.ownBlock=some x->w0.heap.size<=x
 |_=>KH ds ts=true/\(cnfE ds (ts.map (M.foldT ds))).2=0/\∃tv' lv ls,Blk w b [dv,tv',.slice none 0 0,nI (cnfE ds (ts.map (M.foldT ds))).1.many,lv,.slice none 0 0] y7/\CnfO w0.heap.size w lv ls (cnfE ds (ts.map (M.foldT ds))).1
theorem solved_spec (hd:DclsR F w dv ds) (N:TmsR G w tv ts) (hs:ts.length<=2000000) (er:Er w at_ an am ar ab)
  (hK:∀w' ev,Ext w w'->OwnI zh w' ev (xL ds ts []).1->(∀x,ev.ownBlock=some x->w.heap.size<=x)->K (.tuple #[ev,nI (xL ds ts []).2]) w'):vcall U0 #[dv,tv,.slice none 0 0] w K:=by
 refine ze {loops:=[(3,[19])]} Tryz.func62 ?_;rw[bdJob hd N];refine zj λb w1 hb S a6 Z=>?_;refine stages_spec λw2 b2 a5 D O=>?_;have z1:=S.size;have z2:=D.size;have e2:=S.trans D;have a0:=Z.ext D;have out:∀{w':World} {k:Int},Ext w w'->xL ds ts []=([],k)->K (.tuple #[.slice none 0 0,nI k]) w':=λ{w' k} he h=>by
  have:=hK w' (.slice none 0 0) he;rw[h] at this;exact this OwnI.nil λx J=>(by cases J)
 simp only[push_cast,O.len];rw[show qy0.length=4 from rfl];refine vloop_up 4 (λi u w'=>u=[nI i]/\Same (· =b) w2 w'/\JobS w b dv tv ds ts w' i) ⟨rfl,Same.refl _ _,a0⟩ ?_;rintro i _ _ q C hi ⟨rfl,I,L⟩ hC;have j:Ext w q:=Ext.then e2 I λy hy=>oM
 have l:=er.ext j;have B:=(hd.weaken (F':=λx=>x<w.heap.size) λx _ h=>h).ext j;have a2:=(N.weaken (F':=λx=>x<w.heap.size) λx _ h=>h).ext j;have Q:=O.same I λx J _ e=>oM
 refine oZ ?_;refine zb (λa=>?_) (λa=>?_)
 .have T:i<4:=oM;rw[Q.iaddr kP oM (by show(i:Int)<4;omega),gq,Q.load kE (by exact T)];have next:∀{d:World},Same (· =b) q d->JobS w b dv tv ds ts d (i+1)->C [nI (IntKind.i64.wrap ((i:Int)+1))] d:=λ{d} c h4=>by
   rw[inc64' oM];exact hC T _ _ ⟨rfl,I.trans c,h4⟩
  have v:∀{d:World},Same (· =b) q d->Ext w d:=λ{d} c=>Ext.then j c λy hy=>oM;have two:∀{d:World},Ext w d->¬KH ds ts=true->K (.tuple #[.slice none 0 0,nI 4]) d:=λhe h=>out he (Qe h);rcases(by omega:i=0\/i=1\/i=2\/i=3) with rfl|rfl|rfl|rfl
  .show vcall jQ #[oP b 0] q _;refine jobFold_spec (show Blk q b [dv,tv,.slice none 0 0,nI 0,.slice none 0 0,.slice none 0 0] y7 from L) B a2 (λx J=>oM) hs l.terms (λt N h d f=>?_) λg d a4 c o a3=>?_
   .have r:=j.trans f;exact switch_spec (er.ext r) 2 (λh=>by cases h) (λh=>by cases h) (λ_=>two r λm=>h ((all8_iff.1 m).2.2 t N)) (λh=>by cases h) (λh=>oM)
   .have z3:=j.size;exact switch_spec (er.ext (v c)) 0 (λ_=>next c ⟨g,a4,o,a3.weaken λx J _=>⟨oM,by have:=L.lt;omega⟩⟩) (λh=>by cases h) (λh=>by cases h) (λh=>by cases h) (λh=>oM)
  .obtain⟨g,p,n,V⟩:=L;show vcall jj #[oP b 0] q _;refine jobBlast_spec n B V l.errs l.terms λd lv ls c o R=>?_;have r:=v c;by_cases m:KH ds ts=true
   .have U:ts.map (Qx ds)=ts.map (M.foldT ds):=GU λt N=>(W4 (all8_iff.1 m).2.1 (g t N)).2;rw[U] at o R⊢;have z3:=j.size;rcases jo0 (Q1 m) with s|s
    .rw[s];exact switch_spec (er.ext r) 0 (λ_=>next c ⟨m,s,p,lv,ls,o,R.down z3⟩) (λh=>by cases h) (λh=>by cases h) (λh=>by cases h) (λh=>oM)
    .rw[s];exact switch_spec (er.ext r) 1 (λh=>by cases h) (λ_=>out r (JD m (by rw[s];decide))) (λh=>by cases h) (λh=>by cases h) (λh=>oM)
   .have s:(cnfE ds (ts.map (Qx ds))).2=2:=by
     unfold cnfE;rw[y0 λh=>m (all8_iff.2 ⟨by have:=(all8_iff.1 h).1;rwa[y4] at this,(all8_iff.1 h).2.1,g⟩)]
    rw[s];exact switch_spec (er.ext r) 2 (λh=>by cases h) (λh=>by cases h) (λ_=>two r m) (λh=>by cases h) (λh=>oM)
  .obtain⟨m,X,p,lv,ls,n,A⟩:=L;show vcall qE #[oP b 0] q _;refine jobExclude_spec n ?_;exact switch_spec l 0 (λ_=>next (Same.refl _ _) ⟨m,X,p,lv,ls,n,A⟩) (λh=>by cases h) (λh=>by cases h) (λh=>by cases h) (λh=>oM)
  .obtain⟨m,X,p,lv,ls,n,A⟩:=L;show vcall qX #[oP b 0] q _;obtain⟨W,q2,q3⟩:=solveR_run (nots:=[]) m X (λe he=>by cases he) (by simp);rw[x80] at W q2;refine jobSearch_spec n B (λx J=>oM) (all8_iff.1 m).2.1 A.cnf q2 q3 l.no l.much (λY d ev c o E H=>?_) (λh2 d f=>?_) λh3 d f=>?_
   .exact switch_spec (er.ext (v c)) 0 (λ_=>next c ⟨by rw[W];exact Y,p,_,lv,ev,o,by rw[W];exact E,λx J=>by have:=H x J;have:=j.size;omega⟩) (λh=>by cases h) (λh=>by cases h) (λh=>by cases h) (λh=>oM)
   .exact switch_spec (er.ext (j.trans f)) 3 (λh=>by cases h) (λh=>by cases h) (λh=>by cases h) (λ_=>out (j.trans f) (by rw[W];exact h2)) (λh=>oM)
   .exact switch_spec (er.ext (j.trans f)) 4 (λh=>by cases h) (λh=>by cases h) (λh=>by cases h) (λh=>by cases h) (λ_=>out (j.trans f) (by rw[W];exact h3))
 .have a1:i=4:=oM;subst a1;obtain⟨Y,p,y,z,ev,hB,E,H⟩:=L;have:=hK q ev j E H;rw[Y] at this;simp only[push_cast,hB.ld5];exact this
end
end Go.Proofs.YtfjlkobhagjdaaaGreatDoor
namespace Go.Proofs.YtfjlkobhagjdaaaGreatDoor
open Go Go.Vc Go.Proofs Go.M
section
variable {w:World} {K:oK} {F Fr:Nat->Prop} {many:Nat} {c:Cnf} {s:Sat}
theorem l4Abs_spec {x:Int} (h:x.natAbs<=9223372036854775807) (b:K (nI x.natAbs) w):vcall QT #[nI x] w K:=by
 refine ze {} Tryz.func216 ?_;refine oZ ?_;refine zb (λa=>?_) (λa=>?_)
 .rw[zk oM oM,show 0-x=(x.natAbs:Int) from by omega];exact b
 .rwa[show(x.natAbs:Int)=x from by omega] at b
theorem l5Vals_spec {vc v:Value} {put:List Int} (R:CnfR F w vc c) (A:c.many=many) (G:many<=700) (j:Ints Fr w v put) (hm:marksOk many put)
  (Q:∀w' v',Ext w w'->OwnI zh w' v' (signs many put)->(∀x,v'.ownBlock=some x->w.heap.size<=x)->K v' w'):vcall Ww #[vc,v] w K:=by
 refine ze {loops:=[(3,[6])]} Tryz.func108 ?_;obtain⟨lv,rfl,-⟩:=R;have hlen:=hm.len;refine yo λb w1 I p T O=>?_;have z:Blk w1 b [nI c.many,lv] zp:=O;simp only[push_cast,z.ld0];rw[A,zk oM oM,show((many:Int)+1)=((many+1:Nat):Int) from by omega];refine vmkS_own (bs:=8) xx qt xE rfl oM oM λv1 w2 N B l=>?_;have y:OwnI zh w2 v1 (signs many []):=by rw[qz0];unfold OwnI;rw[GO];exact N
 have J:=p.size;refine vloop_up put.length (λi u w'=>u=[nI i]/\Ext w w'/\OwnI zh w' v1 (signs many (put.take i))) ⟨rfl,p.trans B,by simpa using y⟩ ?_;rintro i _ _ U C hi ⟨rfl,g,r⟩ H;have o:=j.ext g;have S:=signs_len many (put.take i);simp only[push_cast,o.len];refine zb (λa=>?_) (λa=>?_)
 .have h:i<put.length:=oM;simp(disch:=exact oS) only[push_cast,o.iaddr,o.load];have I:=hm.2 _ (getD_meS h);have q:=M.take_snoc' (d:=0) h;have t:=distinct_take hm.1 (i+1);have k:placeOf (put.take i) (put.getD i 0).natAbs=0:=by
   refine placeOf_zero λx j e=>?_;rw[q] at t;unfold Distinct at t;rw[gB,Gr] at t;exact t.2.2 _ (Gc j) _ (by simp) e
  have f:=signs_snoc (many:=many) I.1 k;rw[<-q] at f;have s:=r.ints;have E:IntKind.i64.wrap ((i:Int)+1)=((i+1:Nat):Int):=by rw[zk oM oM];omega
  generalize W:put.getD i 0=x at*;refine zb (λb3=>?_) (λb3=>?_)
  .simp(disch:=exact oS) only[push_cast,s.iaddr];rw[show x.toNat=x.natAbs from by omega];refine r.st yJ oM λV n m D=>?_;rw[y3 b3] at f;simp only[push_cast,E];exact H h _ _ ⟨rfl,Ext.then g m λx j=>by have:=l x j;omega,by rw[f];exact n⟩
  .have L:IntKind.i64.wrap (0-x)=(x.natAbs:Int):=by rw[zk oM oM];omega
   rw[L];simp(disch:=exact oS) only[push_cast,s.iaddr];refine r.st yJ oM λV n m D=>?_;rw[y0 b3] at f;simp only[push_cast,E];exact H h _ _ ⟨rfl,Ext.then g m λx j=>by have:=l x j;omega,by rw[f];exact n⟩
 .rw[gC oM] at r;exact Q U v1 g r λx j=>by have:=l x j;omega
theorem l5Sign_spec {v:Value} {put:List Int} {m:Int} (b:Ints F w v (signs many put)) (hm:marksOk many put) (c:many<=700) (h:m≠0) (e:m.natAbs<=many) (d:K (nI (Zf0 put m)) w):vcall Wx #[v,nI m] w K:=by
 refine ze {} Tryz.func225 ?_;have g:=signs_len many put;refine oZ ?_;refine zb (λa=>?_) (λa=>?_)
 .simp(disch:=exact oS) only[push_cast,b.iaddr,b.load];rw[show m.toNat=m.natAbs from by omega,signs_get e,sgn_pos hm a];exact d
 .have f:IntKind.i64.wrap (0-m)=(m.natAbs:Int):=by rw[zk oM oM];omega
  rw[f];simp(disch:=exact oS) only[push_cast,b.iaddr,b.load];have:=sgnV_range put m.natAbs;rw[signs_get e,zk oM oM,gN,sgn_neg hm oM];exact d
theorem l5Look_spec {v v':Value} {put cl:List Int} (t:Ints F w v (signs many put)) (hm:marksOk many put) (g:many<=700) (c:Ints Fr w v' cl) (r:∀l,l∈cl->l≠0/\l.natAbs<=many)
  (p:∀b n x,lookM put cl 0 0=(b,n,x)->K (.tuple #[nI (if b then-1 else(n:Int)),nI (if b then 0 else x)]) w):vcall Wy #[v,v'] w K:=by
 refine ze {loops:=[(4,[6,7,8])]} Tryz.func194 ?_;have hlen:cl.length<=9223372036854775807:=by obtain⟨_,_,_,j,k,_⟩:=c.shape;simp at j;omega
 refine vloop_up cl.length (λi u w'=>w'=w/\∃(n:Nat) (x:Int),u=[nI n,nI x,nI i]/\n<=i/\lookM put (cl.drop i) n x=lookM put cl 0 0) ⟨rfl,0,0,rfl,oM,rfl⟩ ?_;rintro i _ _ _ C hi ⟨rfl,n,x,rfl,y,e⟩ o;simp only[push_cast,c.len];refine zb (λa=>?_) (λa=>?_)
 .have f:i<cl.length:=oM;simp(disch:=exact oS) only[push_cast,c.iaddr,c.load];have h:=r _ (getD_meS f);rw[kQ (d:=0) f,Qt] at e;refine l5Sign_spec t hm g h.1 h.2 ?_;have m:IntKind.i64.wrap ((i:Int)+1)=((i+1:Nat):Int):=by rw[zk oM oM];omega
  have q:IntKind.i64.wrap ((n:Int)+1)=((n+1:Nat):Int):=by rw[zk oM oM];omega
  generalize s:cl.getD i 0=l at*;simp only[yT0,yU0];unfold Zf0;by_cases j:l∈put
  .rw[y3 j] at e⊢;have:=p true 0 0 e.symm;exact zb (λ_=>by simpa using this) (λb=>absurd (by decide:(0:Int)<1) b)
  rw[y0 j] at e⊢;by_cases k:placeOf put l.natAbs=0
  .rw[y3 k] at e⊢;refine zb (λb=>absurd b oM) (λ_=>zb (λ_=>?_) (λb=>absurd rfl b));simp(disch:=exact oS) only[push_cast,c.load];rw[m,q,s];exact o f _ _ ⟨rfl,n+1,l,rfl,oM,e⟩
  .rw[y0 k] at e⊢;refine zb (λb=>absurd b oM) (λ_=>zb (λb=>absurd b oM) (λ_=>?_));rw[m];exact o f _ _ ⟨rfl,n,x,rfl,oM,e⟩
 .rw[Ga oM] at e;have:=p false n x e.symm;simpa using this
end
section
variable {w:World} {K:oK} {F Fr F':Nat->Prop} {many:Nat} {c:Cnf} {s:Sat}
theorem inc64 {i:Nat} (h:i<9223372036854775807):IntKind.i64.wrap ((i:Int)+1)=((i+1:Nat):Int):=by rw[zk oM oM];omega
theorem l5Find_spec {vc vl v:Value} {put:List Int} {ls:List (List Int)} (hc:CnfR F w vc c) (hl:Lists F' w vl ls) (hx:Ints Fr w v (signs many put)) (hm:marksOk many put) (z:many<=700) (a4:c.list.length+ls.length<=1000000)
  (hb:∀cl,cl∈c.list++ls->∀l,l∈cl->l≠0/\l.natAbs<=many)
  (hK:∀w' k u x,Ext w w'->findM put (c.list++ls) 0 (-1) 0=(k,u,x)->K (.tuple #[nI k,nI (if 0<=k then-1 else u),nI (if 0<=k then 0 else x)]) w'):vcall WB #[vc,vl,v] w K:=by
 refine ze {loops:=[(5,[9,10,12])],cuts:=[(36875,[13])]} Tryz.func164 ?_;obtain⟨lv,rfl,X⟩:=hc;obtain⟨cs,U,B,T⟩:=X;obtain⟨es,W,H,V⟩:=hl;refine yo λb w1 a1 E a5 hB=>?_;have A:Blk w1 b [nI c.many,lv] zp:=hB;have D:=B.ext E;simp only[push_cast,A.ld1,D.len];refine vloop_up (c.list.length+ls.length) (λi u w'=> ∃(y x:Int),u=[nI y,nI x,nI i]/\Ext w w'/\Blk w' b [nI c.many,lv] zp/\findM put ((c.list++ls).drop i) i y x=findM put (c.list++ls) 0 (-1) 0) ⟨-1,0,rfl,E,A,rfl⟩ ?_;rintro i _ _ w2 C hi ⟨y,x,rfl,s,S,g⟩ Q;have I:=H.ext s;simp only[push_cast,I.len];rw[U,W,zk oM oM];refine zb (λa=>?_) (λa=>?_)
 .have o:i<c.list.length+ls.length:=oM;refine yj xp yJ λb3 w3 a2 G a6 a0=>?_;have p:=s.trans G;have f:=S.ext G;have q:=B.ext p;have r:=H.ext p;refine zo (λu w'=>w'=w3/\∃v4,u=[v4]/\Ints (λ_=>True) w3 v4 ((c.list++ls).getD i [])) ?_ ?_
  .intro J Z;refine zb (λa3=>?_) (λa3=>?_)
   .simp(disch:=exact oS) only[push_cast,f.ld1,q.iaddr,q.load];refine Z _ _ ⟨rfl,_,rfl,?_⟩;rw[getD_app_l oM];exact((T i oM).ext p).weaken λ_ _ _=>trivial
   .obtain⟨j,rfl⟩:∃j,i=c.list.length+j:=⟨i-c.list.length,oM⟩;rw[show((c.list.length+j:Nat):Int)-(c.list.length:Int)=(j:Int) from by omega,zk oM oM];simp(disch:=exact oS) only[push_cast,r.iaddr,r.load];refine Z _ _ ⟨rfl,_,rfl,?_⟩;rw[getD_app_r];exact((V j oM).ext p).weaken λ_ _ _=>trivial
  rintro _ _ _ ⟨rfl,v4,rfl,h4⟩;have L:i<(c.list++ls).length:=by rw[gd];exact o
  have M:(c.list++ls).getD i []∈c.list++ls:=by rw[y2,V0 L];exact G9 _
  rw[kQ (d:=[]) L,findM_cons] at g;refine oZ ?_;refine l5Look_spec (hx.ext p) hm z h4 (hb _ M) λO n Y t=>?_;rw[t] at g;dsimp only at g;refine oZ ?_;rw[inc64 oM];have N: ¬(O=true)->((if O then(-1:Int) else(n:Int))=n/\(if O then(0:Int) else Y)=Y):=λh=>⟨y0 h,y0 h⟩;by_cases m:O=true
  .rw[y3 m] at g;refine zb (λe=>absurd e (by rw[y3 m];omega)) (λ_=>zb (λe=>absurd e (by rw[y3 m];omega)) (λ_=>?_));exact Q o _ _ ⟨y,x,rfl,p,f,g⟩
  rw[y0 m] at g;rw[(N m).1,(N m).2];refine zb (λe=>?_) (λe=>zb (λe1=>?_) (λe1=>?_))
  .rw[y3 oM] at g;have:=hK _ _ _ _ p g.symm;rwa[y3 oM,y3 oM] at this
  .rw[y0 oM,y3 oM] at g;refine zb (λR=>?_) (λR=>?_)
   .rw[y3 R] at g;exact Q o _ _ ⟨i,Y,rfl,p,f,g⟩
   .rw[y0 R] at g;exact Q o _ _ ⟨y,x,rfl,p,f,g⟩
  .rw[y0 oM,y0 oM] at g;exact Q o _ _ ⟨y,x,rfl,p,f,g⟩
 .rw[Ga (by rw[gd];omega)] at g;have:=hK w2 _ _ _ s g.symm;rwa[y0 oM,y0 oM] at this
theorem l5At_spec {vc v:Value} {k:Nat} (A:CnfR F w vc c) (hs:SatR F' w v s) (G:k<c.list.length+s.learned.length) (C:c.list.length+s.learned.length<=1000000)
  (u:∀w' v',Ext w w'->Ints (λb=>F b\/F' b) w' v' (atM c s k)->K v' w'):vcall yB0 #[vc,v,nI k] w K:=by
 refine ze {} Tryz.func166 ?_;obtain⟨lv,rfl,cs,n,o,m⟩:=A;obtain⟨vp,vw,vl,rfl,-,-,es,B,r,q⟩:=hs;refine yo λb1 w1 y p D i=>?_;refine yo λb2 w2 z g E l=>?_;have t:Blk w2 b1 [nI c.many,lv] zp:=i.ext g;have x:Blk w2 b2 [vp,vw,vl,nI s.code] zt:=l;have f:=p.trans g;have d:=o.ext f;have e:=r.ext f;simp only[push_cast,t.ld1,d.len];refine zb (λa=>?_) (λa=>?_)
 .simp(disch:=exact oS) only[push_cast,d.iaddr,d.load];refine u w2 _ f ?_;rw[atM,getD_app_l oM];exact((m k oM).ext f).weaken λ_ h _=> .inl h
 .obtain⟨j,rfl⟩:∃j,k=c.list.length+j:=⟨k-c.list.length,oM⟩;simp(disch:=(simp only[push_cast])) only[x.ld2,t.ld1,d.len,UB,UE,yq,gX,Y4];rw[n,show((c.list.length+j:Nat):Int)-(c.list.length:Int)=(j:Int) from by omega,zk oM oM];simp(disch:=exact oS) only[push_cast,e.iaddr,e.load];refine u w2 _ f ?_;rw[atM,getD_app_r];exact((q j oM).ext f).weaken λ_ h _=> .inr h
theorem l5Levels_spec {vc v:Value} (hc:CnfR F w vc c) (hs:SatR F' w v s) (L:c.many=many) (T:many<=700) (hm:marksOk many s.put) (hlen:s.put.length=s.why.length) (A:∀k,k<s.why.length->s.why.getD k 0= -1\/0<=s.why.getD k 0)
  (hK:∀w' v',Ext w w'->OwnI zh w' v' (levs many s.put (yB s.why))->(∀x,v'.ownBlock=some x->w.heap.size<=x)->K v' w'):vcall JR #[vc,v] w K:=by
 refine ze {loops:=[(4,[6,7])],cuts:=[(28680,[6])]} Tryz.func195 ?_;obtain⟨lv,rfl,-⟩:=hc;obtain⟨vp,vw,vl,rfl,hp,hw,-⟩:=hs;have a4:=hm.len;refine yo λb1 w1 a0 N a7 H=>?_;refine yo λb2 w2 a1 p a8 I=>?_;have X:Blk w2 b1 [nI c.many,lv] zp:=H.ext p;have R:Blk w2 b2 [vp,vw,vl,nI s.code] zt:=I;have S:=N.trans p;simp only[push_cast,X.ld0];rw[L,zk oM oM,show((many:Int)+1)=((many+1:Nat):Int) from by omega];refine vmkS_own (bs:=8) xx qt xE rfl oM oM λv1 w3 Y q m=>?_;have G:OwnI zh w3 v1 (levs many [] (yB s.why)):=by rw[kC0];unfold OwnI;rw[GO];exact Y
 have V:=S.size;refine vloop_up s.put.length (λi u w'=>u=[nI ((yB s.why).take i|>.count true:Nat),nI i]/\Ext w w'/\Blk w' b2 [vp,vw,vl,nI s.code] zt/\OwnI zh w' v1 (levs many (s.put.take i) (yB s.why))) ⟨rfl,S.trans q,R.ext q,by simpa using G⟩ ?_;rintro i _ _ W C hi ⟨rfl,g,f,E⟩ Z;have n:=hp.ext g;have z:=hw.ext g;have a5:=U9 many (s.put.take i) (yB s.why);have a3:=ku s.why;simp only[push_cast,f.ld0,n.len];refine zb (λa=>?_) (λa=>?_)
 .have l:i<s.put.length:=oM;have h:=ZZ (ds:=yB s.why) (i:=i) oM;have a2:((yB s.why).take i).count true<=700:=gO pT (by simp;omega);refine zo (λu w'=>w'=W/\u=[nI ((yB s.why).take (i+1)|>.count true:Nat)]) ?_ ?_
  .intro J U;simp(disch:=exact oS) only[push_cast,f.ld1,z.iaddr,z.load];have o:=UJ (why:=s.why) (k:=i) oM;have a6:=A i oM;refine zb (λb=>?_) (λb=>?_)
   .rw[inc64 oM];refine U _ _ ⟨rfl,?_⟩;rw[h,o,gi oM];rfl
   .refine U _ _ ⟨rfl,?_⟩;rw[h,o,gg oM];rfl
  rintro _ _ _ ⟨rfl,rfl⟩;simp(disch:=exact oS) only[push_cast,f.ld0,n.iaddr,n.load];have hb:=hm.2 _ (getD_meS l);have y:=M.take_snoc' (d:=0) l;have D:=distinct_take hm.1 (i+1);have j:placeOf (s.put.take i) (s.put.getD i 0).natAbs=0:=by
   refine placeOf_zero λx B e=>?_;rw[y] at D;unfold Distinct at D;rw[gB,Gr] at D;exact D.2.2 _ (Gc B) _ (by simp) e
  have t:=levs_snoc (many:=many) (ds:=yB s.why) j;rw[<-y,gl,Gz oM,lvl_succ oM,<-h] at t;have Q:=E.ints;refine l4Abs_spec oM ?_;simp(disch:=exact oS) only[push_cast,Q.iaddr];refine E.st yJ oM λw5 O r a9=>?_;rw[inc64 oM];refine Z l _ _ ⟨rfl,Ext.then g r λx B=>by have:=m x B;omega,f.same r λe=>by have:=m _ e;have:=R.lt;omega,by rw[t];exact O⟩
 .rw[gC oM] at E;exact hK W v1 g E λx B=>by have:=m x B;omega
theorem l5Top_spec {v v':Value} {put cl:List Int} {ds:List Bool} (m:Ints F w v (levs many put ds)) (j:many<=700) (p:ds.length<=700) (d:Ints Fr w v' cl) (o:∀l,l∈cl->l.natAbs<=many/\placeOf put l.natAbs≠0)
  (s:K (.tuple #[nI (kU put ds cl:Nat),nI (Jz put ds cl).length]) w):vcall zs0 #[v,v'] w K:=by
 refine ze {loops:=[(4,[6,7,8])]} Tryz.func196 ?_;have hlen:cl.length<=9223372036854775807:=by obtain⟨_,_,_,n,r,_⟩:=d.shape;simp at n;omega
 have q:=U9 many put ds;refine vloop_up cl.length (λi u w'=>w'=w/\u=[nI (kU put ds (cl.take i):Nat),nI (Jz put ds (cl.take i)).length,nI i]) ⟨rfl,rfl⟩ ?_;rintro i _ _ _ C hi ⟨rfl,rfl⟩ f;simp only[push_cast,d.len];refine zb (λa=>?_) (λa=>?_)
 .have c:i<cl.length:=oM;simp(disch:=exact oS) only[push_cast,d.iaddr,d.load];obtain⟨g,h⟩:=o _ (getD_meS c);refine l4Abs_spec oM ?_;simp(disch:=exact oS) only[push_cast,m.iaddr,m.load];rw[levs_get g,levV_lit h];obtain⟨t1,t2⟩:=top_step (put:=put) (ds:=ds) c _ rfl;generalize lvM put ds (cl.getD i 0)=k at*;have t:(Jz put ds (cl.take i)).length<=i:=gO (List.length_filter_le _ _) (by simp;omega);refine zb (λb=>?_) (λb=>?_)
  .rw[y3 oM] at t1 t2;refine zb (λ_=>?_) (λe=>absurd trivial e);rw[inc64 oM];exact f c _ _ ⟨rfl,by rw[t1,t2];rfl⟩
  .rw[y0 oM] at t1 t2;refine zb (λe=>?_) (λe=>?_)
   .rw[y3 oM] at t2;rw[inc64 oM,inc64 oM];exact f c _ _ ⟨rfl,by rw[t1,t2]⟩
   .rw[y0 oM] at t2;rw[inc64 oM];exact f c _ _ ⟨rfl,by rw[t1,t2]⟩
 .rwa[gC oM]
theorem l5Has_spec {v:Value} {cl:List Int} {m:Nat} (c:Ints Fr w v cl) (p:∀l,l∈cl->l.natAbs<=700) (g:(∃q,q∈cl/\q.natAbs=m)->K (.bool true) w) (j:(∀q,q∈cl->q.natAbs≠m)->K (.bool false) w):vcall zu0 #[v,nI m] w K:=by
 refine ze {loops:=[(2,[5])]} Tryz.func255 ?_;have hlen:cl.length<=9223372036854775807:=by obtain⟨_,_,_,n,s,_⟩:=c.shape;simp at n;omega
 refine vloop_up cl.length (λi u w'=>w'=w/\u=[nI i]/\∀q,q∈cl.take i->q.natAbs≠m) ⟨rfl,rfl,by simp⟩ ?_;rintro i _ _ _ C hi ⟨rfl,rfl,k⟩ o;simp only[push_cast,c.len];refine zb (λa=>?_) (λa=>?_)
 .have f:i<cl.length:=oM;simp(disch:=exact oS) only[push_cast,c.iaddr,c.load];have e:cl.getD i 0∈cl:=getD_meS f;have r:=p _ e;refine l4Abs_spec oM ?_;refine oZ ?_;refine zb (λb=>g ⟨_,e,oM⟩) (λb=>?_);rw[inc64 oM];refine o f _ _ ⟨rfl,rfl,λq h=>?_⟩;rw[M.take_snoc' (d:=0) f,gn,gu] at h;rcases h with h|rfl
  .exact k q h
  .omega
 .rw[gC oM] at k;exact j k
theorem l5Last_spec {v v':Value} {cl:List Int} (hs:SatR F w v s) (hm:marksOk many s.put) (t:many<=700) (m:Ints Fr w v' cl) (z:∀l,l∈cl->l.natAbs<=700)
  (x:∀w',Ext w w'->K (nI ((lastPl s.put cl:Int)-1)) w'):vcall Wz #[v,v'] w K:=by
 refine ze {loops:=[(2,[5])]} Tryz.func226 ?_;obtain⟨vp,vw,vl,rfl,G,-,-⟩:=hs;have E:=hm.len;refine yo λb2 w2 A b H g=>?_;have p:Blk w2 b2 [vp,vw,vl,nI s.code] zt:=g;have c:=G.ext b;simp only[push_cast,p.ld0,c.len];rw[zk oM oM];refine vloop_up s.put.length (λi u w'=>w'=w2/\u=[nI ((s.put.length:Int)-1-i)]/\∀j,s.put.length-i<=j->j<s.put.length->∀q,q∈cl->q.natAbs≠(s.put.getD j 0).natAbs) ⟨rfl,by simp,λj r d=>oM⟩ ?_;rintro i _ _ _ C hi ⟨rfl,rfl,n⟩ y;refine oZ ?_;refine zb (λa=>?_) (λa=>?_)
 .obtain⟨k,D⟩:∃k:Nat,(s.put.length:Int)-1-i=k:=⟨s.put.length-1-i,oM⟩;have f:k<s.put.length:=oM;rw[D];simp(disch:=exact oS) only[push_cast,p.ld0,c.iaddr,c.load];have B:=hm.2 _ (getD_meS f);refine l4Abs_spec oM ?_;refine l5Has_spec (m.ext b) z (λh=>?_) (λh=>?_)
  .refine oZ ?_;have o:=lastPl_eq hm f h λj r d=>n j oM d;have:=x _ b;rwa[o,show((k+1:Nat):Int)-1=(k:Int) from by omega] at this
  .refine oZ ?_;rw[zk oM oM];refine y oM _ _ ⟨rfl,by rw[show(s.put.length:Int)-1-((i+1:Nat):Int)=(k:Int)-1 from by omega],λj r d=>?_⟩;by_cases e:j=k
   .subst e;exact h
   .exact n j oM d
 .have o:=lastPl_none (put:=s.put) (cl:=cl) λj d=>n j oM d;have:=x _ b;rw[o] at this;exact this
end
section
variable {w:World} {K:oK} {F Fr F':Nat->Prop} {many:Nat} {c:Cnf} {s:Sat}
theorem j00 (arr:List Int) (m n:Nat):(zX0 arr m n).length<=n:=by
 unfold zX0;refine gO (List.length_filterMap_le _ _) (by simp)
theorem l5Join_spec {va vb:Value} {a b:List Int} {m:Nat} (ha:Ints F w va a) (hb:Ints F' w vb b) (a6:many<=700) (S:∀k,k∈a++b->k≠0/\k.natAbs<=many) (hc:∀k,k∈a++b->k.natAbs≠m-> -k∉a++b)
  (hK:∀w' v',Ext w w'->OwnI zh w' v' (Qw many a b m)->(∀x,v'.ownBlock=some x->w.heap.size<=x)->K v' w'):vcall WA #[nI many,va,vb,nI m] w K:=by
 refine ze {loops:=[(4,[11]),(8,[12]),(12,[9,13])]} Tryz.func227 ?_;have ab:a.length<=9223372036854775807:=by obtain⟨_,_,_,L,h2,_⟩:=ha.shape;simp at L;omega
 have ac:b.length<=9223372036854775807:=by obtain⟨_,_,_,L,h2,_⟩:=hb.shape;simp at L;omega
 refine yj xp yJ λJ w0 a8 T ad N=>?_;refine oZ ?_;rw[zk oM oM,show((many:Int)+1)=((many+1:Nat):Int) from by omega];refine vmkS_own (bs:=8) xx qt xE rfl oM oM λv1 w1 L U W=>?_;have a0:OwnI zh w1 v1 (List.replicate (many+1) 0):=by unfold OwnI;rw[GO];exact L
 have E1:=T.trans U;have a7:=T.size;have hN:∀x,v1.ownBlock=some x->w.heap.size<=x:=λx s=>by have:=W x s;omega
 have a1:Blk w1 J [] zV:=N.ext U;have G:∀x,v1.ownBlock=some x->x≠J:=λx s e=>by have:=W x s;have:=N.lt;omega
 refine vloop_up a.length (λi u w'=>u=[nI i]/\Ext w w'/\Blk w' J [] zV/\∃arr,OwnI zh w' v1 arr/\ArrP many (a.take i) arr) ⟨rfl,E1,a1,_,a0,by simpa using arr_nil many⟩ ?_;rintro i _ _ w2 C hi ⟨rfl,h,o,arr,q,f⟩ O;have E:=ha.ext h;simp only[push_cast,E.len];refine zb (λc1=>?_) (λc1=>?_)
 .have l:i<a.length:=oM;refine zd λw3 c _=>?_;have A:=E.ext c;have g:=q.ext c;have r:=g.ints;have Q:=f.len;obtain⟨g1,g2⟩:=S _ (gW _ (getD_meS l));simp(disch:=exact oS) only[push_cast,A.iaddr,A.load,y1];refine l4Abs_spec oM ?_;simp(disch:=exact oS) only[push_cast,A.iaddr,A.load,y1,gh,r.iaddr];refine g.st yJ oM λw4 I z Y=>?_;rw[inc64 oM];refine O l _ _ ⟨rfl,Ext.then (h.trans c) z hN,(o.ext c).same z λe=>G _ e rfl,_,I,?_⟩;rw[M.take_snoc' (d:=0) l];exact arr_snoc f g1 g2
 clear O;rw[gC oM] at f;refine vloop_up b.length (λi u w'=>u=[nI i]/\Ext w w'/\Blk w' J [] zV/\∃arr,OwnI zh w' v1 arr/\ArrP many (a++b.take i) arr) ⟨rfl,h,o,arr,q,by simpa using f⟩ ?_;clear f q arr o E h w2;rintro j _ _ w2 C hj ⟨rfl,h,o,arr,q,f⟩ O;have R:=hb.ext h;simp only[push_cast,R.len];refine zb (λc2=>?_) (λc2=>?_)
 .have l:j<b.length:=oM;refine zd λw3 c _=>?_;have B:=R.ext c;have g:=q.ext c;have r:=g.ints;have Q:=f.len;obtain⟨g1,g2⟩:=S _ (Gy _ (getD_meS l));simp(disch:=exact oS) only[push_cast,B.iaddr,B.load,y1];refine l4Abs_spec oM ?_;simp(disch:=exact oS) only[push_cast,B.iaddr,B.load,y1,gh,r.iaddr];refine g.st yJ oM λw4 I z Y=>?_;rw[inc64 oM];refine O l _ _ ⟨rfl,Ext.then (h.trans c) z hN,(o.ext c).same z λe=>G _ e rfl,_,I,?_⟩;rw[M.take_snoc' (d:=0) l,<-gY];exact arr_snoc f g1 g2
 clear O;rw[gC oM] at f;have Q:=f.len;have a4:OwnI zh w2 (.slice (some ⟨J,0,none⟩) 0 0) []:=Blk.own1 (t:=zh) (cs:=[]) (by rw[qt];exact o) (gS _) rfl rfl oM;refine vloop_up many (λn u w'=> ∃v,u=[v,nI (n+1:Nat)]/\Ext w w'/\OwnI zh w' v1 arr/\OwnI zh w' v (zX0 arr m n)/\(∀x,v.ownBlock=some x->w.heap.size<=x/\v1.ownBlock≠some x)) ⟨_,rfl,h,q,a4,λx s=>?_⟩ ?_
 .have e:J=x:=K3 s;subst e;exact⟨oM,λe=>G _ e rfl⟩
 rintro n _ _ w3 C3 hn ⟨v,rfl,c,g,y,p⟩ D;refine oZ ?_;have aa:=j00 arr m n;refine zb (λc3=>?_) (λc3=>?_)
 .have hs:=joinA_succ arr m n;have V:IntKind.i64.wrap ((n:Int)+1+1)=((n+1+1:Nat):Int):=by rw[zk oM oM];omega
  have r:=g.ints;rw[V];refine zb (λc4=>?_) (λc4=>?_)
  .rw[y0 oM] at hs;have e1:((n:Int)+1)=((n+1:Nat):Int):=rfl;rw[e1];simp(disch:=exact oS) only[r.iaddr,gq,r.load,yS0];refine zb (λZ=>?_) (λZ=>?_)
   .rw[y0 Z] at hs;refine zC xp yJ xE rfl rfl λb4 w4 a9 H Y a2=>?_;refine(y.ext H).app1 xx a2 oM oM λv5 w5 a5 X a3=>?_;have ae:=c.size;refine D oM _ _ ⟨v5,rfl,Ext.then (c.trans H) X λx s=>(p x s).1,(g.ext H).same X λx s e=>(p x e).2 s,by rw[hs];exact a5,λx s=>?_⟩;rcases a3 x s with e|e
    .exact p x e
    .exact⟨oM,λe'=>by have:=g.lt e';omega⟩
   .rw[y3 (by simpa using Z),gD] at hs;exact D oM _ _ ⟨v,rfl,c,g,by rw[hs];exact y,p⟩
  .rw[y3 oM,gD] at hs;exact D oM _ _ ⟨v,rfl,c,g,by rw[hs];exact y,p⟩
 .have:n=many:=oM;subst this;rw[joinA_eq f hc] at y;exact hK w3 v c y λx s=>(p x s).1
theorem learnS_cons {cl:List Int} (d:satOk many c s) (h:c.many=many) (hF:Fls s.put cl) (hs:Srt cl) (n:2<=(Jz s.put (yB s.why) cl).length):
  lastPl s.put cl-1<s.put.length/\lastPl s.put cl≠0/\0<=s.why.getD (lastPl s.put cl-1) 0/\s.why.getD (lastPl s.put cl-1) 0<c.list.length+s.learned.length/\
  (∀l,l∈cl++atM c s (s.why.getD (lastPl s.put cl-1) 0).toNat->l≠0/\l.natAbs<=many)/\(∀l,l∈cl++atM c s (s.why.getD (lastPl s.put cl-1) 0).toNat->l.natAbs≠(s.put.getD (lastPl s.put cl-1) 0).natAbs-> -l∉cl++atM c s (s.why.getD (lastPl s.put cl-1) 0).toNat):=by
 have v:=topOf_tops (put:=s.put) (ds:=yB s.why) (srt_nodup hs);have b:cl≠[]:=λe=>by subst e;simp[Jz] at n
 have w:=lastPl_pos hF b;obtain⟨k,o⟩:∃k,lastPl s.put cl=k+1:=⟨lastPl s.put cl-1,oM⟩;rw[o,GP];obtain⟨i,t,j,m,himp,-⟩:=last_reason d hF v n o;obtain⟨u,f⟩:=(impl_iff d.mks).1 himp;have g:(s.why.getD k 0).toNat<c.list.length+s.learned.length:=oM
 have off:∀l,l∈cl++atM c s (s.why.getD k 0).toNat->l.natAbs≠(s.put.getD k 0).natAbs-> -l∈s.put:=λl a b=>by
  rcases gn.1 a with a|a
  .exact hF l a
  .exact Gd (f l a λe=>b (by rw[e]))
 refine⟨i,oM,j,m,λl a=>?_,λl a b r=>?_⟩
 .rcases gn.1 a with a|a
  .have:=d.mks.2 _ (hF l a);omega
  .exact d.lit h g a
 .have p:=off l a b;have q:=off (-l) r (by rwa[G3]);exact d.mks.neg p q
theorem l5Learn_spec {vc v vl v3:Value} {k:Nat} (hc:CnfR F w vc c) (hs:SatR F' w v s) (S:Ints Fr w vl (levs many s.put (yB s.why))) (hv:OwnI zh w v3 (atM c s k)) (e:satOk many c s) (o:c.many=many) (hk:k<c.list.length+s.learned.length) (a1:ky s.put (atM c s k))
  (hK:∀w' v',Ext w w'->OwnI zh w' v' (learnM many c s s.put.length (atM c s k))->(∀x,v'.ownBlock=some x->v3.ownBlock=some x\/w.heap.size<=x)->K v' w'):vcall KP #[vc,v,vl,v3] w K:=by
 refine ze {loops:=[(2,[3,10])]} Tryz.func197 ?_;have a0:=hc;have M:=hs;obtain⟨lv,rfl,aa⟩:=hc;obtain⟨vp,vw,vls,rfl,hp,hw,j⟩:=hs;have d:many<=700/\c.list.length<=2500:=by
  have:=e.cnf;unfold cnfOk at this;simp only[gk,X0] at this;omega
 have a6:=e.few;have m:=e.mks;have ac:=m.len;have hlen:=e.len;have E:=XV a1;have Z:=clauseOk_srt (e.atOk hk);have G:(yB s.why).length<=700:=by rw[ku];omega
 have bounds:∀{b:List Int},Fls s.put b->∀x,x∈b->x.natAbs<=many/\placeOf s.put x.natAbs≠0:=λhF x A=>by
  have h1:=m.2 _ (hF x A);have D:=placeOf_ne_zero (hF x A);rw[G3] at D;exact⟨oM,D⟩
 generalize atM c s k=cl at*;refine yo λb1 w1 a7 a2 ad X=>?_;refine yo λb2 w2 a8 H ae Y=>?_;have A2:Blk w2 b1 [nI c.many,lv] zp:=X.ext H;have B2:Blk w2 b2 [vp,vw,vls,nI s.code] zt:=Y;have R:=a2.trans H;refine l5Top_spec (S.ext R) d.1 G (hv.ext R).ints (bounds E) ?_;refine oZ ?_;refine jA (λn u w'=> ∃b f v,n=lastPl s.put b/\u=[v,nI (Jz s.put (yB s.why) b).length]/\Ext w w'/\Blk w' b1 [nI c.many,lv] zp/\Blk w' b2 [vp,vw,vls,nI s.code] zt/\
   OwnI zh w' v b/\(∀x,v.ownBlock=some x->v3.ownBlock=some x\/w.heap.size<=x)/\Fls s.put b/\Srt b/\lastPl s.put b<=f/\learnM many c s f b=learnM many c s s.put.length cl) _
  ⟨cl,s.put.length,v3,rfl,rfl,R,A2,B2,hv.ext R,λx A=> .inl A,E,Z,lastPl_le,rfl⟩ ?_
 rintro _ _ _ w3 C ⟨b,f,v,rfl,rfl,V,A3,B3,t,a3,hF,hS,ab,r⟩ hC;refine oZ ?_;refine zb (λa=>?_) (λa=>?_)
 .have D:2<=(Jz s.put (yB s.why) b).length:=oM;obtain⟨g1,g2,g3,g4,g5,g6⟩:=learnS_cons e o hF hS D;obtain⟨k1,k2,k3,k4⟩:=learnS_ok e o hF hS D;obtain⟨f,rfl⟩:∃f',f=f'+1:=⟨f-1,oM⟩;rw[learnM,y0 oM] at r;rw[B3.ldAgg zP];refine l5Last_spec (M.ext V) m d.1 t.ints (λl S=>by have:=(bounds hF l S).1;omega) λw4 g=>?_;have E4:=V.trans g;refine zd λw5 h _=>?_;have B:=E4.trans h;have T:=(A3.ext g).ext h;have Q:=(B3.ext g).ext h;obtain⟨q,hq⟩:∃q,lastPl s.put b=q+1:=⟨lastPl s.put b-1,oM⟩;have j:jz many c s b=Qw many b (atM c s (s.why.getD q 0).toNat) (s.put.getD q 0).natAbs:=by unfold jz;rw[hq,GP]
  rw[hq,GP] at g1 g3 g4 g5 g6;rw[hq,show((q+1:Nat):Int)-1=(q:Int) from by omega];have J:=hp.ext B;have O:=hw.ext B;simp(disch:=exact oS) only[push_cast,T.ldAgg zD,Q.ldAgg zP,T.ld0,Q.ld0,Q.ld1,y1,J.iaddr,J.load,O.iaddr,O.load];obtain⟨y,hy⟩:∃y:Nat,s.why.getD q 0=y:=⟨(s.why.getD q 0).toNat,oM⟩;rw[hy] at g4 g5 g6 j⊢;rw[gq] at g5 g6 j;refine l5At_spec (a0.ext B) (M.ext B) oM oM λw6 v6 i a5=>?_;have W:=B.trans i;have U:=T.ext i;have B6:=Q.ext i;have L:=hp.ext W;simp(disch:=exact oS) only[push_cast,U.ld0,B6.ld0,y1,gh,L.iaddr,L.load];have a9:=m.2 _ (getD_meS g1);refine l4Abs_spec oM ?_;simp(disch:=exact oS) only[push_cast,U.ld0,y1,gh];rw[o];have N:=(((t.ext g).ext h).ext i);refine l5Join_spec N.ints a5 d.1 g5 g6 λw7 v7 p z a4=>?_;have E7:=W.trans p;rw[<-j] at z;refine l5Top_spec (S.ext E7) d.1 G z.ints (bounds k1) ?_;refine oZ ?_;refine hC (lastPl s.put (jz many c s b)) _ _ k3 ⟨_,f,v7,rfl,rfl,E7,U.ext p,B6.ext p,z,λx A=> .inr ?_,k1,k2,oM,r⟩;have:=a4 x A;have:=W.size;omega
 .have I:learnM many c s s.put.length cl=b:=by
   rw[<-r];cases f with
   |zero=>rfl
   |succ f=>rw[learnM,y3 oM]
  rw[I] at hK;exact hK w3 v V t a3
theorem l4Max_spec {a b:Nat} (c:K (nI (max a b:Nat)) w):vcall zv0 #[nI a,nI b] w K:=by
 refine ze {} Tryz.func228 ?_;refine oZ ?_;refine zb (λh=>?_) (λh=>?_)
 .rwa[show max a b=a from by omega] at c
 .rwa[show max a b=b from by omega] at c
theorem l5Below_spec {v v':Value} {put cl:List Int} {ds:List Bool} (o:Ints F w v (levs many put ds)) (m:many<=700) (e:Ints Fr w v' cl) (s:∀l,l∈cl->l.natAbs<=many/\placeOf put l.natAbs≠0)
  (q:K (nI (Y1 put ds cl:Nat)) w):vcall KR #[v,v',nI (kU put ds cl:Nat)] w K:=by
 refine ze {loops:=[(3,[7,8])]} Tryz.func199 ?_;have hlen:cl.length<=9223372036854775807:=by obtain⟨_,_,_,p,x,_⟩:=e.shape;simp at p;omega
 have t:=U9 many put ds;generalize r:kU put ds cl=T;refine vloop_up cl.length (λi u w'=>w'=w/\u=[nI (maxL (((cl.take i).filter λk=>decide (lvM put ds k<T)).map (lvM put ds)):Nat),nI i]) ⟨rfl,rfl⟩ ?_;rintro i _ _ _ C hi ⟨rfl,rfl⟩ n;simp only[push_cast,e.len];refine zb (λa=>?_) (λa=>?_)
 .have f:i<cl.length:=oM;simp(disch:=exact oS) only[push_cast,e.iaddr,e.load];obtain⟨g,h⟩:=s _ (getD_meS f);refine l4Abs_spec oM ?_;simp(disch:=exact oS) only[push_cast,o.iaddr,o.load];rw[levs_get g,levV_lit h];have c:(cl.take (i+1)).filter (λk=>decide (lvM put ds k<T))=(cl.take i).filter (λk=>decide (lvM put ds k<T))++(if lvM put ds (cl.getD i 0)<T then[cl.getD i 0] else[]):=by
   rw[M.take_snoc' (d:=0) f,pG,Pq,List.filter_nil];simp only[X0]
  have j:∀A:List Int,maxL ((A++[cl.getD i 0]).map (lvM put ds))=max (maxL (A.map (lvM put ds))) (lvM put ds (cl.getD i 0)):=λA=>by
   rw[gB];exact maxL_snoc _ _ _ rfl
  refine zb (λb=>?_) (λb=>?_)
  .refine l4Max_spec ?_;rw[inc64 oM];rw[y3 oM] at c;refine n f _ _ ⟨rfl,?_⟩;rw[c,j]
  .rw[inc64 oM];rw[y0 oM,gD] at c;exact n f _ _ ⟨rfl,by rw[c]⟩
 .rw[gC oM,<-r];exact q
end
section
variable {w:World} {K:oK} {F F':Nat->Prop} {many:Nat} {c:Cnf} {s:Sat}
def SpR (Z:Nat->Prop) (w:World) (v:Value) (s:Sat):Prop:=
 ∃vp vw vl,v= .agg #[vp,vw,vl,nI s.code]/\OwnI zh w vp s.put/\OwnI zh w vw s.why/\(∀b,vp.ownBlock=some b->Z b/\vw.ownBlock≠some b)/\(∀b,vw.ownBlock=some b->Z b)/\
  Lists (λb=>Z b/\vp.ownBlock≠some b/\vw.ownBlock≠some b) w vl s.learned
section
variable {Z Z':Nat->Prop} {v:Value} {w':World}
theorem SpR.ext (h:SpR Z w v s) (he:Ext w w'):SpR Z w' v s:=by
 obtain⟨vp,vw,vl,e,a,b,c,d,f⟩:=h;exact⟨vp,vw,vl,e,a.ext he,b.ext he,c,d,f.ext he⟩
theorem SpR.same {S:Nat->Prop} (h:SpR Z w v s) (hw:Same S w w') (c:∀b,Z b->b<w.heap.size->¬S b):SpR Z w' v s:=by
 obtain⟨vp,vw,vl,e,d,f,g,i,j⟩:=h;exact⟨vp,vw,vl,e,d.same hw λb a=>c b (g b a).1 (d.lt a),f.same hw λb a=>c b (i b a) (f.lt a),g,i,j.same hw λb a=>c b a.1⟩
theorem SpR.weaken (h:SpR Z w v s) (c:∀b,Z b->b<w.heap.size->Z' b):SpR Z' w v s:=by
 obtain⟨vp,vw,vl,e,d,f,g,i,j⟩:=h;exact⟨vp,vw,vl,e,d,f,λb a=>⟨c b (g b a).1 (d.lt a),(g b a).2⟩,λb a=>c b (i b a) (f.lt a),j.weaken λb a k=>⟨c b a.1 k,a.2⟩⟩
theorem SpR.below (h:SpR Z w v s):SpR (λb=>Z b/\b<w.heap.size) w v s:=h.weaken λ_ a c=>⟨a,c⟩
theorem SpR.sat (h:SpR Z w v s):SatR Z w v s:=by
 obtain⟨vp,vw,vl,e,c,d,f,g,i⟩:=h;exact⟨vp,vw,vl,e,c.ints.weaken λb a _=>(f b a).1,d.ints.weaken λb a _=>g b a,i.weaken λb a _=>a.1⟩
theorem SpR.empty:SpR Z w (.agg #[.slice none 0 0,.slice none 0 0,.slice none 0 0,nI 0]) emptyS:=
 ⟨_,_,_,rfl,OwnI.nil,OwnI.nil,λb a=>(by cases a),λb a=>(by cases a),jC0⟩
end
theorem copy_ints {v:Value} {xs:List Int} {b:Nat} {t:TypeId} (f:Blk w b [] zV) (a:Ints F w v xs) (c:xs.length*8<=140737488355328)
  (g:∀v' w',OwnI zh w' v' xs->Same (· =b) w w'->(∀x,v'.ownBlock=some x->x=b\/w.heap.size<=x)->K v' w'):vbi .append [zh,zh] t [.slice (some ⟨b,0,none⟩) 0 0,v] w K:=by
 have d:OwnI zh w (.slice (some ⟨b,0,none⟩) 0 0) []:=Blk.own1 (t:=zh) (cs:=[]) (by rw[qt];exact f) (gS _) rfl rfl oM;refine d.app (ys:=xs) xx a (by simp only[pI];omega) (by simpa using c) λv' w2 i hs h=>g v' w2 i (hs.mono λx _ a=>?_) λx a=>?_
 .exact(K3 a).symm
 .exact(h x a).imp (λe=>(K3 e).symm) id
theorem l5Back_spec {vp vw vl:Value} {L:Nat} (hp:OwnI zh w vp s.put) (hw:OwnI zh w vw s.why) (ac:vl.oneCell'=true) (hlen:s.put.length=s.why.length) (ag:s.put.length<=700) (hL:L<=700) (Y:∀k,k<s.why.length->s.why.getD k 0= -1\/0<=s.why.getD k 0)
  (hK:∀w' F y,Ext w w'->OwnI zh w' F (s.put.take (backN (yB s.why) L s.put.length))->OwnI zh w' y (s.why.take (backN (yB s.why) L s.put.length))->(∀b,F.ownBlock=some b->w.heap.size<=b/\y.ownBlock≠some b)->(∀b,y.ownBlock=some b->w.heap.size<=b)->K (.agg #[F,y,vl,nI s.code]) w'):
  vcall WC #[.agg #[vp,vw,vl,nI s.code],nI L] w K:=by
 refine ze {loops:=[(3,[5,6])],cuts:=[(16392,[5])]} Tryz.func198 ?_;refine yo λb2 w2 ak a8 av a2=>?_;refine xP qS λb4 A al O aw a3=>?_;have B4:Blk A b2 [vp,vw,vl,nI s.code] zt:=a2.ext O;have R4:Blk A b4 [.slice none 0 0,.slice none 0 0,.slice none 0 0,nI 0] zt:=a3;have E4:=a8.trans O;have R:=hp.ext E4;have ad:=hw.ext E4;have aa:=R.ints;have Z:=ad.ints;have aq:=ku s.why;refine zo (λu w'=>w'=A/\u=[nI (backN (yB s.why) L s.put.length:Nat)]) ?_ ?_
 .intro J hJ;have done:∀n,n<=s.put.length->(∀i,i<n->(lvl (yB s.why) i:Int)<=L)->(n=s.put.length\/(L:Int)<(lvl (yB s.why) n:Int))->J [nI (n:Nat)] A:=λn h1 h2 h3=>hJ _ _ ⟨rfl,by rw[backN_eq h1 h2 h3]⟩;refine vloop_up s.put.length (λn u w'=>w'=A/\u=[nI n,nI (((yB s.why).take n).count true:Nat)]/\∀i,i<n->(lvl (yB s.why) i:Int)<=L) ⟨rfl,rfl,oM⟩ ?_;rintro n _ _ A C hn ⟨rfl,rfl,f⟩ hC;simp only[push_cast,B4.ld0,aa.len];refine zb (λa=>?_) (λa=>done n hn f (.inl oM));have a9:n<s.put.length:=oM;have a7:=ZZ (ds:=yB s.why) (i:=n) oM;have B:=lvl_succ (ds:=yB s.why) (i:=n) oM;have ap:((yB s.why).take n).count true<=700:=gO pT (by simp;omega);have N:=UJ (why:=s.why) (k:=n) oM;have au:=Y n oM;simp(disch:=exact oS) only[push_cast,B4.ld1,Z.iaddr,Z.load];have j:∀k:Nat,k=lvl (yB s.why) n->¬(L:Int)<k->(n<s.put.length->∀(u':List Value) (w'':World),(w''=A/\u'=[nI (n+1:Nat),nI (((yB s.why).take (n+1)).count true:Nat)]/\∀i,i<n+1->(lvl (yB s.why) i:Int)<=L)->C u' w'')->C [nI (n+1:Nat),nI k] A:=λk Q ar h=>by
   refine h a9 _ _ ⟨rfl,by rw[a7,<-B,Q],λi hi=>?_⟩;by_cases e:i=n
   .subst e;omega
   .exact f i oM
  refine zb (λb=>?_) (λb=>?_)
  .have Q:((yB s.why).take n).count true+1=lvl (yB s.why) n:=by rw[B,N,gi oM];rfl
   rw[inc64 oM];refine zb (λb2=>done n hn f (.inr oM)) (λb2=>?_);rw[inc64 oM];exact j _ Q b2 hC
  .have Q:((yB s.why).take n).count true=lvl (yB s.why) n:=by rw[B,N,gg oM];rfl
   refine zb (λb2=>done n hn f (.inr oM)) (λb2=>?_);rw[inc64 oM];exact j _ Q b2 hC
 rintro _ _ _ ⟨rfl,rfl⟩;have ao:=backN_le (yB s.why) L s.put.length;generalize backN (yB s.why) L s.put.length=n at*;have aj:=E4.size;refine yj xp yJ λb5 w5 am o ax a4=>?_;have B5:=B4.ext o;have S:=R.ext o;simp(disch:=exact oS) only[push_cast,B5.ld0,S.cut];have ab:=S.taken (n:=n) oM;refine copy_ints a4 ab.ints (by simp;omega) λv6 w6 t D p=>?_;have B6:=B5.same D oM;refine B6.st t.ints.cells1 t.ints.one j8 rfl λw7 T az a5=>?_;have B7:Blk w7 b2 [v6,vw,vl,nI s.code] zt:=a5;have ay:=D.size;have E:=t.same T λx c e=>by rcases p x c with d|d<;>omega
 have z:Same (λx=>x=b5\/x=b2) w5 w7:=(D.mono λx _ e=> .inl e).trans (T.mono λx _ e=> .inr e);have M:Ext w w7:=Ext.then (E4.trans o) z λx c=>oM
 refine yj xp yJ λb8 w8 an g b0 a6=>?_;have B8:=B7.ext g;have X:=hw.ext (M.trans g);simp(disch:=exact oS) only[push_cast,B8.ld1,X.cut];have ae:=X.taken (n:=n) oM;refine copy_ints a6 ae.ints (by simp;omega) λv9 w9 v r q=>?_;have B9:=B8.same r oM;have V:=(E.ext g).same r λx c e=>by have:=E.lt c;omega
 refine B9.st v.ints.cells1 v.ints.one j8 rfl λw10 l ah G=>?_;have a0:Blk w10 b2 [v6,v9,vl,nI s.code] zt:=G;have b1:=r.size;have U:=V.same l λx c e=>by rcases p x c with d|d<;>omega
 have W:=v.same l λx c e=>by rcases q x c with d|d<;>omega
 have hS:Same (λx=>x=b8\/x=b2) w8 w10:=(r.mono λx _ e=> .inl e).trans (l.mono λx _ e=> .inr e);have I:Ext w w10:=Ext.then (M.trans g) hS λx c=>oM
 have a1:Blk w10 b4 [.slice none 0 0,.slice none 0 0,.slice none 0 0,nI 0] zt:=((((R4.ext o).same z oM).ext g).same hS oM);rw[a0.ldAgg zP];refine a1.stAgg (cs':=[v6,v9,vl,nI s.code]) rfl zP (λx c=>?_) λaf m ai H=>?_
 .simp only[gj,gy,Ge] at c;rcases c with rfl|rfl|rfl|rfl
  .exact t.ints.one
  .exact v.ints.one
  .exact ac
  .rfl
 rw[H.lv zP];refine hK af v6 v9 (Ext.then I m λx c=>oM) (U.same m λx c e=>?_) (W.same m λx c e=>?_) (λx c=>⟨?_,λe=>?_⟩) (λx c=>?_)
 .rcases p x c with d|d<;>omega
 .rcases q x c with d|d<;>omega
 .rcases p x c with d|d<;>omega
 .have:=E.lt c;rcases q x e with d|d<;>omega
 .rcases q x c with d|d<;>omega
theorem Qu {vl:Value} {xss:List (List Int)} (h:Lists F w vl xss):vl.oneCell'=true:=by
 obtain⟨vs,_,a,_⟩:=h;exact a.one
theorem l5Clash_spec {vc v v2:Value} {Z:Nat->Prop} {k:Nat} (hc:CnfR F w vc c) (hs:SpR Z w v s) (d:Ints F' w v2 (atM c s k)) (A:satOk many c s) (Y:c.many=many) (hk:k<c.list.length+s.learned.length) (ac:ky s.put (atM c s k))
  (hK:∀w' v',Ext w w'->SpR (λb=>Z b\/w.heap.size<=b) w' v' (k6 many c s (atM c s k))->K v' w'):vcall KQ #[vc,v,v2] w K:=by
 refine ze {} Tryz.func165 ?_;have ax:=hc;have bc:=hs.sat;obtain⟨lv,rfl,cx⟩:=hc;obtain⟨vp,vw,vl,rfl,hp,hw,ay,bz,af⟩:=hs;have D:many<=700/\c.list.length<=2500:=by
  have:=A.cnf;unfold cnfOk at this;simp only[gk,X0] at this;omega
 have ch:=A.few;have ag:=A.mks;have cz:=ag.len;have hlen:=A.len;have az:(yB s.why).length<=700:=by rw[ku];omega
 have a8:∀k,k<s.why.length->s.why.getD k 0= -1\/0<=s.why.getD k 0:=λk hk=>(A.why k hk).imp id λh=>h.1;have bounds:∀{an:List Int},Fls s.put an->∀x,x∈an->x.natAbs<=many/\placeOf s.put x.natAbs≠0:=λhF x d=>by
  have h1:=ag.2 _ (hF x d);have h2:=placeOf_ne_zero (hF x d);rw[G3] at h2;exact⟨oM,h2⟩
 have cc:=clauseOk_len (m:=many) (by have:=A.atOk hk;rwa[Y] at this);obtain⟨z1,z2,z3,z4⟩:=Ua A Y hk ac;refine yo λb3 w1 ct c0 d0 br=>?_;refine yo λb4 w2 cu b0 d1 bs=>?_;refine xP qS λb6 w3 cv ad d2 bt=>?_;have A3:Blk w3 b3 [nI c.many,lv] zp:=(br.ext b0).ext ad;have B3:Blk w3 b4 [vp,vw,vl,nI s.code] zt:=bs.ext ad;have R3:Blk w3 b6 [.slice none 0 0,.slice none 0 0,.slice none 0 0,nI 0] zt:=bt;have E3:=c0.trans (b0.trans ad);rw[A3.ldAgg zD,B3.ldAgg zP];refine l5Levels_spec (ax.ext E3) (bc.ext E3) Y D.1 ag hlen a8 λw4 vlev O z ah=>?_;have E4:=E3.trans O;refine l5Top_spec z.ints D.1 az (d.ext E4) (bounds (XV ac)) ?_;have A4:=A3.ext O;have B4:=B3.ext O;have R4:=R3.ext O;have d3:=O.size;have ones:∀{U V bf:Value} {cd:Int},U.oneCell'=true->V.oneCell'=true->bf.oneCell'=true->∀x,x∈[U,V,bf,nI cd]->x.oneCell'=true:=λh1 h2 h3 x d=>by
  simp only[gj,gy,Ge] at d;rcases d with rfl|rfl|rfl|rfl
  .exact h1
  .exact h2
  .exact h3
  .rfl
 have code:∀(cd:Int),k6 many c s (atM c s k)={s with code:=cd}->zT zV (oP b4 3) (nI cd) w4 λ_ bi=>zu zt (oP b4 0) bi λt22 bj=>zT zt (oP b6 0) t22 bj λ_ bk=>vlv zt (oP b6 0) bk λr6 bl=>K r6 bl:=λcd X=>by
  refine B4.st rfl rfl yJ rfl λw5 bd c9 bu=>?_;have B5:Blk w5 b4 [vp,vw,vl,nI cd] zt:=bu;rw[B5.ldAgg zP];refine(R4.same bd oM).stAgg (cs':=[vp,vw,vl,nI cd]) rfl zP (ones hp.ints.one hw.ints.one (Qu af)) λw6 c4 d4 bv=>?_;rw[bv.lv zP];have W:Ext w w6:=Ext.then E4 ((bd.mono λx _ e=>(.inl e:x=b4\/x=b6)).trans (c4.mono λx _ e=> .inr e)) λx d=>oM;refine hK w6 _ W ?_;rw[X];exact⟨vp,vw,vl,rfl,hp.ext W,hw.ext W,λb hb=>⟨.inl (ay b hb).1,(ay b hb).2⟩,λb hb=> .inl (bz b hb),(af.ext W).weaken λb hb _=>⟨.inl hb.1,hb.2⟩⟩
 refine oZ ?_;refine zb (λa=>?_) (λa=>?_)
 .exact code 2 (by unfold k6;rw[y3 oM])
 obtain⟨es,c1,b5,b1⟩:=af;have b8:=b5.ext E4;simp only[push_cast,B4.ld2,b8.len];refine zb (λa2=>?_) (λa2=>?_)
 .exact code 3 (by unfold k6;rw[y0 oM,y3 oM])
 clear code;have X:k6 many c s (atM c s k)={s with put:=s.put.take (backN (yB s.why) (Y1 s.put (yB s.why) (learnM many c s s.put.length (atM c s k))) s.put.length),why:=s.why.take (backN (yB s.why) (Y1 s.put (yB s.why) (learnM many c s s.put.length (atM c s k))) s.put.length),learned:=s.learned++[learnM many c s s.put.length (atM c s k)]}:=by
  unfold k6;rw[y0 oM,y0 oM]
 rw[X] at hK;clear X;refine zd λw5 J _=>?_;have A5:=A4.ext J;have B5:=B4.ext J;simp only[push_cast,A5.ldAgg zD,B5.ldAgg zP,y1];refine yj xp yJ λb7 w7 cw L d5 bw=>?_;have E7:=E4.trans (J.trans L);have A7:=A5.ext L;have B7:=B5.ext L;simp only[push_cast,A7.ldAgg zD,B7.ldAgg zP,y1,gh];have c9:=J.size;have cq:=L.size;refine copy_ints bw (d.ext E7) oM λv8 w8 c5 M c2=>?_;have A8:=A7.same M oM;have B8:=B7.same M oM;have ab:Ext w w8:=Ext.then E7 M λx d=>by have:=E4.size;omega
 simp only[push_cast,A8.ldAgg zD,B8.ldAgg zP,y1,gh];have d6:=M.size;have R:=((z.ext J).ext L).same M λx d e=>by have:=z.lt d;omega
 refine l5Learn_spec (ax.ext ab) (bc.ext ab) R.ints c5 A Y hk ac λw9 v9 Q ai c3=>?_;have E9:=ab.trans Q;have d7:=Q.size;have S:∀x,v9.ownBlock=some x->w4.heap.size<=x:=λx d=>by
  rcases c3 x d with e|e
  .rcases c2 x e with e|e<;>omega
  .omega
 generalize cy:learnM many c s s.put.length (atM c s k)=lc at*;refine yj Qa j8 λa9 w10 ce n ci ao=>?_;have ak:=(B8.ext Q).ext n;have am:=E9.trans n;have ae:=b5.ext am;simp only[push_cast,ak.ld2];have bq:OwnV zI w10 (.slice (some ⟨a9,0,none⟩) 0 0) []:=Blk.own1 (t:=zI) (cs:=[]) (by rw[UI];exact ao) (gS _) rfl rfl oM;have b2:∀u,u∈es->u.oneCell'=true:=λu hu=>by
  obtain⟨i,hi,rfl⟩:=gr hu;have:=(b1 i oM).one;simpa[y2,hi] using this
 refine bq.app (us:=es) ZS ae b2 (by simp;omega) (by simp;omega) λv11 bg a6 a5 ba=>?_;have f:∀x,v11.ownBlock=some x->w9.heap.size<=x:=λx d=>by
  rcases ba x d with e|e
  .have e:a9=x:=K3 e;omega
  .omega
 have r:Same (· =a9) w10 bg:=a5.mono λx _ e=>(K3 e).symm;have bm:=ak.same r oM;have c6:=n.size;have cj:=a5.size;have T:=(ai.ext n).same r λx d e=>by have:=ai.lt d;omega
 have au:Ext w bg:=Ext.then am r λx d=>by have:=E9.size;omega
 refine zC Qa j8 W8 rfl T.ints.cells1 λcr d8 cf g ck ap=>?_;rw[Gg] at a6;refine OwnV.app1 (a6.ext g) ZS ap T.ints.one oM oM λa1 ca C o bb=>?_;have E:∀x,a1.ownBlock=some x->w9.heap.size<=x:=λx d=>by
  rcases bb x d with e|e
  .exact f x e
  .have:=g.size;omega
 have c7:=g.size;have cl:=o.size;have bn:=(bm.ext g).same o λe=>by have:=f _ e;have:=B8.lt;omega
 have av:Ext w ca:=Ext.then (au.trans g) o λx d=>by have:=f x d;have:=E9.size;omega
 have be:=(T.ext g).same o λx d e=>by have:=f x e;have:=ai.lt d;omega
 refine bn.st C.vals.cells1 C.vals.one Q6 rfl λaj p cm aq=>?_;have bo:Blk aj b4 [vp,vw,a1,nI s.code] zt:=aq;have aw:Ext w aj:=Ext.then av p λx d=>oM
 have G:=C.same p λx d e=>by have:=E x d;have:=B8.lt;omega
 have H:=be.same p λx d e=>by have:=S x d;have:=B4.lt;omega
 have a0:OwnI zh aj vlev (levs many s.put (yB s.why)):=((((R.ext Q).ext n).same r λx d e=>by have:=z.lt d;omega).ext g|>.same o λx d e=>by have:=f x e;have:=z.lt d;omega).same p λx d e=>by have:=ah x d;have:=B3.lt;omega
 refine zd λd9 j _=>?_;have al:=bo.ext j;simp only[push_cast,al.ldAgg zP,y1];have l:=aw.trans j;have c8:=p.size;have cn:=j.size;rw[<-z3];refine l5Below_spec (a0.ext j).ints D.1 (H.ext j).ints (bounds z1) ?_;simp only[push_cast,al.ldAgg zP,y1,gh];have bx:Y1 s.put (yB s.why) lc<=700:=by
  unfold Y1;rcases j5 (xs:=(lc.filter λk=>decide (lvM s.put (yB s.why) k<kU s.put (yB s.why) lc)).map (lvM s.put (yB s.why))) with e|e
  .omega
  .obtain⟨q,_,e⟩:=gx.1 e;rw[<-e];exact gO (lvl_le _ _) az
 refine l5Back_spec (s:={s with code:=s.code}) (hp.ext l) (hw.ext l) C.vals.one hlen oM bx a8 λcb U V y a4 a7 I N=>?_;have bp:Blk cb b6 [.slice none 0 0,.slice none 0 0,.slice none 0 0,nI 0] zt:=by
  have h6:=R3.lt;exact(((((((((R4.ext J).ext L).same M oM).ext Q).ext n).same r oM).ext g).same o λe=>by have:=f _ e;omega).same p oM|>.ext j).ext y
 refine bp.stAgg (cs':=[U,V,a1,nI s.code]) rfl zP (ones a4.ints.one a7.ints.one C.vals.one) λbh B cp ar=>?_;rw[ar.lv zP];have a3:Ext w bh:=Ext.then (l.trans y) B λx d=>oM
 have cg:=R3.lt;have co:=y.size;refine hK bh _ a3 ⟨U,V,a1,rfl,a4.same B λx d e=>by have:=(I x d).1;omega,a7.same B λx d e=>by have:=N x d;omega,λx d=>⟨.inr (by have:=(I x d).1;have:=l.size;omega),(I x d).2⟩,λx d=> .inr (by have:=N x d;have:=l.size;omega),es++[v9],by simp[c1],?_,λi hi=>?_⟩
 .have aa:=((G.ext j).ext y).same B λx d e=>by have:=E x d;omega
  refine aa.vals.weaken λx d _=>⟨.inr (by have:=E x d;have:=E9.size;omega),λe=>?_,λe=>?_⟩
  .have:=(I x e).1;have:=G.lt d;omega
  .have:=N x e;have:=G.lt d;omega
 .simp only[gd,gZ] at hi;by_cases b9:i<s.learned.length
  .rw[getD_app_l oM,getD_app_l b9];refine(((b1 i b9).weaken (F':=λx=>(Z x/\vp.ownBlock≠some x/\vw.ownBlock≠some x)/\x<w.heap.size) λx h1 h2=>⟨h1,h2⟩).ext a3).weaken λx d _=>⟨.inl d.1.1,λe=>?_,λe=>?_⟩
   .have:=(I x e).1;have:=l.size;omega
   .have:=N x e;have:=l.size;omega
  .have e1:i=s.learned.length:=oM;have e2:i=es.length:=oM;have g1:(es++[v9]).getD i undef=v9:=by rw[e2];simp
   have g2:(s.learned++[lc]).getD i []=lc:=by rw[e1];simp
   rw[g1,g2];have aa:=((H.ext j).ext y).same B λx d e=>by have:=S x d;omega
   refine aa.ints.weaken λx d _=>⟨.inr (by have:=S x d;have:=E4.size;omega),λe=>?_,λe=>?_⟩
   .have:=(I x e).1;have:=H.lt d;omega
   .have:=N x e;have:=H.lt d;omega
end
section
variable {w:World} {K:oK} {F F':Nat->Prop} {many:Nat} {c:Cnf} {s:Sat}
theorem l5Do_spec {vc v:Value} {Z:Nat->Prop} (hc:CnfR F w vc c) (hs:SpR Z w v s) (B:satOk many c s) (a3:c.many=many)
  (hK:∀w' v',Same Z w w'->SpR (λb=>Z b\/w.heap.size<=b) w' v' (goM many c s)->K v' w'):vcall yA0 #[vc,v] w K:=by
 refine ze {loops:=[(13,[9])]} Tryz.func132 ?_;have S:=hc;have bj:=hs.sat;have bk:=hs;obtain⟨lv,rfl,ad⟩:=hc;obtain⟨vp,vw,vl,rfl,hp,hw,p,a4,J⟩:=hs;have L:many<=700/\c.list.length<=2500:=by
  have:=B.cnf;unfold cnfOk at this;simp only[gk,X0] at this;omega
 have bu:=B.few;have M:=B.mks;have c9:=M.len;have hlen:=B.len;have ac:∀cl,cl∈c.list++s.learned->∀l,l∈cl->l≠0/\l.natAbs<=many:=λcl ad l hl=>satOk.bnd B a3 ad hl;refine yo λb2 w1 c2 bf cb ba=>?_;refine yo λb3 w2 c3 ae cc bb=>?_;refine xP qS λb4 w3 c4 a5 ce bc=>?_;have A3:Blk w3 b2 [nI c.many,lv] zp:=(ba.ext ae).ext a5;have B3:Blk w3 b3 [vp,vw,vl,nI s.code] zt:=bb.ext a5;have R3:Blk w3 b4 [.slice none 0 0,.slice none 0 0,.slice none 0 0,nI 0] zt:=bc;have E3:=bf.trans (ae.trans a5);rw[A3.ldAgg zD];simp only[push_cast,B3.ld0];refine l5Vals_spec (S.ext E3) a3 L.1 (hp.ext E3).ints M λw4 v4 G ak c7=>?_;have E4:=E3.trans G;have A4:=A3.ext G;have B4:=B3.ext G;simp only[push_cast,A4.ldAgg zD,B4.ld2];refine l5Find_spec (S.ext E4) (J.ext E4) ak.ints M L.1 oM ac λw5 k u x H hf=>?_;have E5:=E4.trans H;have A5:=A4.ext H;have X:=B4.ext H;have R5:=(R3.ext G).ext H;have bm:=ak.ext H;have l3:=X.lt;have l4:=R5.lt;have cg:=E5.size;have cf:=G.size;refine oZ ?_;have ones:∀{q E ao:Value} {cd:Int},q.oneCell'=true->E.oneCell'=true->ao.oneCell'=true->∀x,x∈[q,E,ao,nI cd]->x.oneCell'=true:=λh1 h2 h3 x a=>by
  simp only[gj,gy,Ge] at a;rcases a with rfl|rfl|rfl|rfl
  .exact h1
  .exact h2
  .exact h3
  .rfl
 have n:goM many c s=(if 0<=k then k6 many c s (atM c s k.toNat) else if 0<=u then{s with put:=s.put++[x],why:=s.why++[u]}
  else if s.put.length=many then{s with code:=1} else{s with put:=s.put++[-(Zn many s.put:Int)],why:=s.why++[-1]}):=by
  unfold goM;rw[hf]
 have push:∀(W:World) (l y:Int),Ext w W->Blk W b3 [vp,vw,vl,nI s.code] zt->Blk W b4 [.slice none 0 0,.slice none 0 0,.slice none 0 0,nI 0] zt->w5.heap.size<=W.heap.size->goM many c s={s with put:=s.put++[l],why:=s.why++[y]}->
   vbuildS zh 1 [(0,nI l)] W λt39 aq=>vbi .append [zh,zh] zh [vp,t39] aq λt40 ar=>zT zh (oP b3 0) t40 ar λ_ au=>zu zh (oP b3 1) au λt43 av=>
   vbuildS zh 1 [(0,nI y)] av λt45 aw=>vbi .append [zh,zh] zh [t43,t45] aw λt46 ax=>zT zh (oP b3 1) t46 ax λ_ ay=>zu zt (oP b3 0) ay λt48 az=>
   zT zt (oP b4 0) t48 az λ_ b0=>vlv zt (oP b4 0) b0 λan b1=>K an b1:=by
  intro W l y E6 B6 R6 bq ag;have ci:=E6.size;refine zC xp yJ xE rfl rfl λb7 w7 c5 j br a1=>?_;have r:=E6.trans j;refine(hp.ext r).app1 xx a1 oM oM λq w8 U V A=>?_;have nb:∀x,vp.ownBlock=some x->x<w.heap.size:=λx a=>hp.lt a;have nw:∀x,vw.ownBlock=some x->x<w.heap.size:=λx a=>hw.lt a;have B8:=(B6.ext j).same V λe=>by have:=nb _ e;omega
  refine B8.st U.ints.cells1 U.ints.one j8 rfl λw9 D bs a2=>?_;have B9:Blk w9 b3 [q,vw,vl,nI s.code] zt:=a2;have bh:=U.same D λx a e=>by rcases A x a with d|d;(have:=nb _ d;omega);omega
  have bo:=((hw.ext r).same V λx a e=>(p x e).2 a).same D λx a e=>by have:=nw _ a;omega
  simp only[push_cast,B9.ld1];have ch:=V.size;refine zC xp yJ xE rfl rfl λc1 w10 bt t bw a8=>?_;refine(bo.ext t).app1 xx a8 oM oM λE cj Q z g=>?_;have b5:=(B9.ext t).same z λe=>by have:=nw _ e;omega
  have ah:=(bh.ext t).same z λx a e=>by
   rcases A x a with d|d
   .exact(p x d).2 e
   .have:=nw _ e;omega
  refine b5.st Q.ints.cells1 Q.ints.one j8 rfl λap N bz a9=>?_;have b8:Blk ap b3 [q,E,vl,nI s.code] zt:=a9;have hS:Same (λx=>vp.ownBlock=some x\/vw.ownBlock=some x\/x=b3) w7 ap:=(V.mono λx _ e=> .inl e).trans ((D.mono λx _ e=> .inr (.inr e)).trans ((Same.of_ext t).trans ((z.mono λx _ e=> .inr (.inl e)).trans (N.mono λx _ e=> .inr (.inr e)))));have b9:=(R6.ext j).same hS (by rintro(e|e|e);exact absurd (nb _ e) oM;exact absurd (nw _ e) oM;omega);have Y:=ah.same N λx a e=>by rcases A x a with d|d;(have:=nb _ d;omega);omega
  have bx:=z.size;have a0:=Q.same N λx a e=>by rcases g x a with d|d;(have:=nw _ d;omega);omega
  rw[b8.ldAgg zP];refine b9.stAgg (cs':=[q,E,vl,nI s.code]) rfl zP (ones Y.ints.one a0.ints.one (Qu J)) λa7 O c0 aa=>?_;rw[aa.lv zP];have o:Same (λx=>vp.ownBlock=some x\/vw.ownBlock=some x\/x=b3\/x=b4) w7 a7:=(hS.mono λx _ e=>e.imp id λe=>e.imp id .inl).trans (O.mono λx _ e=> .inr (.inr (.inr e)));have ab:Same (λb=>vp.ownBlock=some b\/vw.ownBlock=some b) w a7:=by
   refine⟨o.os.trans r.os,o.tape.trans r.tape,o.output.trans r.output,gO r.size o.size,λb f hn=>?_⟩;rw[o.block b (by have:=r.size;omega) (by rintro(e|e|e|e);exact hn (.inl e);exact hn (.inr e);omega;omega),r.block b f id]
  have bp:=hS.size;refine hK a7 _ (ab.mono λb _ e=>e.elim (λe=>(p b e).1) (a4 b)) ?_;rw[ag];refine⟨q,E,vl,rfl,Y.same O λx a e=>by rcases A x a with d|d;(have:=nb _ d;omega);omega,a0.same O λx a e=>by rcases g x a with d|d;(have:=nw _ d;omega);omega,λx a=>?_,λx a=>?_,?_⟩
  .rcases A x a with e|e
   .refine⟨.inl (p x e).1,λe2=>?_⟩;rcases g x e2 with e3|e3
    .exact(p x e).2 e3
    .have:=nb _ e;omega
   .refine⟨.inr oM,λe2=>?_⟩;rcases g x e2 with e3|e3
    .have:=nw _ e3;omega
    .have:=U.lt a;omega
  .rcases g x a with e|e
   .exact .inl (a4 x e)
   .exact .inr oM
  .refine(((J.weaken (F':=λb=>(Z b/\vp.ownBlock≠some b/\vw.ownBlock≠some b)/\b<w.heap.size) λb h1 h2=>⟨h1,h2⟩).same ab λb f _ e=>e.elim f.1.2.1 f.1.2.2).weaken λx a _=>⟨.inl a.1.1,λe=>?_,λe=>?_⟩)
   .rcases A x e with d|d
    .exact a.1.2.1 d
    .have:=a.2;omega
   .rcases g x e with d|d
    .exact a.1.2.2 d
    .have:=a.2;omega
 rcases find_cases s.put (c.list++s.learned) with⟨i,u',x',hi,e,be⟩|⟨hn,⟨i,x',hi,e,hu,-⟩|⟨e,-⟩⟩
 .rw[hf,Gm,Gm] at e;obtain⟨rfl,rfl,rfl⟩:=e;rw[gd] at hi;rw[y3 oM,gq] at n;refine zb (λ_=>?_) (λb=>absurd oM b);refine zd λW I _=>?_;have E6:=E5.trans I;have A6:=A5.ext I;have B6:=X.ext I;simp only[push_cast,A6.ldAgg zD,B6.ldAgg zP,y1];refine l5At_spec (S.ext E6) (bj.ext E6) hi oM λw7 v7 j bn=>?_;have r:=E6.trans j;have A7:=A6.ext j;have B7:=B6.ext j;simp only[push_cast,A7.ldAgg zD,B7.ldAgg zP,y1,gh];refine l5Clash_spec (S.ext r) (bk.below.ext r) bn B a3 hi be λw8 v8 af a6=>?_;have R8:=((R5.ext I).ext j).ext af;have E8:=r.trans af;rw[<-n] at a6;obtain⟨p8,y8,l8,rfl,h8⟩:=a6.sat.fields;refine R8.stAgg (cs':=[p8,y8,l8,nI (goM many c s).code]) rfl zP h8 λw9 D bs a2=>?_;rw[a2.lv zP];refine hK w9 _ (Same.of_ext (Ext.then E8 D λx a=>oM)) ((a6.same D λb f _ e=>?_).weaken λb f _=>?_)
  .have:=r.size;have:=R5.lt;have:=I.size;have:=j.size;rcases f with f|f
   .have:=f.2;omega
   .omega
  .rcases f with f|f
   .exact .inl f.1
   .exact .inr (by have:=r.size;omega)
 .rw[hf,Gm,Gm] at e;obtain⟨rfl,rfl,rfl⟩:=e;rw[y0 oM,y3 oM] at n;refine zb (λb=>absurd b oM) (λ_=>zb (λ_=>?_) (λb=>absurd oM b));simp only[push_cast,X.ld0];exact push w5 _ _ E5 X R5 (gz _) n
 .rw[hf,Gm,Gm] at e;obtain⟨rfl,rfl,rfl⟩:=e;rw[y0 oM,y0 oM] at n;refine zb (λb=>absurd b oM) (λ_=>zb (λb=>absurd b oM) (λ_=>?_));have bi:=(hp.ext E5).ints;simp only[push_cast,X.ld0,A5.ld0,bi.len];refine zb (λb=>?_) (λb=>?_)
  .rw[y3 oM] at n;refine X.st rfl rfl yJ rfl λW ai bq bd=>?_;have B6:Blk W b3 [vp,vw,vl,nI 1] zt:=bd;rw[B6.ldAgg zP];refine(R5.same ai oM).stAgg (cs':=[vp,vw,vl,nI 1]) rfl zP (ones hp.ints.one hw.ints.one (Qu J)) λw7 bl br a1=>?_;rw[a1.lv zP];have R:Ext w w7:=Ext.then E5 ((ai.mono λx _ e=>(.inl e:x=b3\/x=b4)).trans (bl.mono λx _ e=> .inr e)) λx a=>oM;refine hK w7 _ (Same.of_ext R) ?_;rw[n];exact⟨vp,vw,vl,rfl,hp.ext R,hw.ext R,λb f=>⟨.inl (p b f).1,(p b f).2⟩,λb f=> .inl (a4 b f),(J.ext R).weaken λb f _=>⟨.inl f.1,f.2⟩⟩
  .rw[y0 oM] at n;obtain⟨f1,f2,f3,f4⟩:=free_spec M oM;have al:=bm.ints;have ca:=signs_len many s.put;refine vloop_up (Zn many s.put-1) (λi u w'=>u=[nI (i+1:Nat)]/\w'=w5) ⟨rfl,rfl⟩ ?_;rintro i _ _ w5 C hi ⟨rfl,rfl⟩ hC;have aj:=sgn_pos M (m:=((i+1:Nat):Int)) oM;rw[pH] at aj;simp(disch:=exact oS) only[sl0,al.iaddr,gq,al.load];rw[signs_get oM,aj];have am:Zf0 s.put ((i+1:Nat):Int)=0↔placeOf s.put (i+1)=0:=by
    unfold Zf0;rw[pH];by_cases hm:((i+1:Nat):Int)∈s.put
    .rw[y3 hm];have:=placeOf_ne_zero hm;rw[pH] at this;exact⟨λh=>oM,λh=>absurd h this⟩
    .rw[y0 hm];by_cases T:placeOf s.put (i+1)=0
     .rw[y3 T];simp[T]
     .rw[y0 T];simp[T]
   simp only[yS0];refine zb (λb6=>?_) (λb6=>?_)
   .have bg:i<Zn many s.put-1:=by
     refine GC λc6=>b6 (am.2 ?_);have:i+1=Zn many s.put:=oM;rw[this];exact f3
    simp only[Xo];rw[inc64 oM];exact hC bg _ _ ⟨rfl,rfl⟩
   .have bv:i+1=Zn many s.put:=by
     refine GC λc8=>f4 (i+1) oM oM (am.1 (by simpa using b6))
    have e1:IntKind.i64.wrap (0-((i+1:Nat):Int))= -(Zn many s.put:Int):=by rw[zk oM oM];omega
    simp(disch:=(simp only[push_cast])) only[UD,UC,yq,gX,X.ld0,ZC0,e1];exact push w5 _ _ E5 X R5 (gz _) n
theorem l5Run_spec {vc:Value} {n:Nat} (hc:CnfR F w vc c) (Z:cnfOk c=true) (D:c.many=many) (hn:n<=4000)
  (hK:∀w' v',Ext w w'->SpR (λb=>w.heap.size<=b) w' v' (runM many c n emptyS)->K v' w'):vcall zt0 #[vc,nI n] w K:=by
 refine ze {loops:=[(3,[6])]} Tryz.func107 ?_;have Y:=hc.below;obtain⟨lv,rfl,a4⟩:=hc;refine yo λb2 w1 a1 h a5 T=>?_;refine xP qS λb4 w2 a2 E a6 U=>?_;refine Q8 xU0 (us:=[]) rfl rfl ?_;refine xP qS λM w3 a3 o a7 V=>?_;have B3:Blk w3 M [.slice none 0 0,.slice none 0 0,.slice none 0 0,nI 0] zt:=V;have A3:Blk w3 b2 [nI c.many,lv] zp:=(T.ext E).ext o;have R3:Blk w3 b4 [.slice none 0 0,.slice none 0 0,.slice none 0 0,nI 0] zt:=U.ext o;refine B3.stAgg (cs':=[.slice none 0 0,.slice none 0 0,.slice none 0 0,nI 0]) rfl zP (λx z=>by simp only[gj,gy,Ge] at z;rcases z with rfl|rfl|rfl|rfl<;>rfl) λH q a8 B=>?_;have E4:Ext w H:=Ext.then (h.trans (E.trans o)) q λx z=>by have:=h.size;omega
 have A4:=A3.same q oM;have R:=R3.same q oM;have aa:=E4.size;have fin:∀(f:World) (p y l:Value),Ext w f->H.heap.size<=f.heap.size->Blk f b4 [.slice none 0 0,.slice none 0 0,.slice none 0 0,nI 0] zt->Blk f M [p,y,l,nI (runM many c n emptyS).code] zt->SpR (λb=>H.heap.size<=b) f (.agg #[p,y,l,nI (runM many c n emptyS).code]) (runM many c n emptyS)->
   zu zt (oP M 0) f λt21 I=>zT zt (oP b4 0) t21 I λ_ J=>vlv zt (oP b4 0) J λr4 L=>K r4 L:=by
  intro f p y l v t A k m;rw[k.ldAgg zP];obtain⟨O,Q,N,e,S⟩:=m.sat.fields;obtain⟨rfl,rfl,rfl⟩:p=O/\y=Q/\l=N:=(by simpa using e);refine A.stAgg (cs':=[p,y,l,nI (runM many c n emptyS).code]) rfl zP S λw6 d a0 W=>?_;rw[W.lv zP];exact hK w6 _ (Ext.then v d λx z=>by have:=h.size;omega) ((m.same d λb g _ e=>by have:=R.lt;omega).weaken λb g _=>oM)
 refine vloop_up n (λi u w'=> ∃p y l,u=[nI i]/\Ext w w'/\H.heap.size<=w'.heap.size/\Blk w' b2 [nI c.many,lv] zp/\Blk w' b4 [.slice none 0 0,.slice none 0 0,.slice none 0 0,nI 0] zt/\Blk w' M [p,y,l,nI (runM many c i emptyS).code] zt/\SpR (λb=>H.heap.size<=b) w' (.agg #[p,y,l,nI (runM many c i emptyS).code]) (runM many c i emptyS))
  ⟨_,_,_,rfl,E4,gz _,A4,R,B,SpR.empty⟩ ?_
 rintro i _ _ f C hi ⟨p,y,l,rfl,v,t,A5,A,k,m⟩ hC;refine oZ ?_;refine zb (λa=>?_) (λa=>?_)
 .simp only[push_cast,k.ld3];refine zb (λb=>?_) (λb=>?_)
  .rw[A5.ldAgg zD,k.ldAgg zP];have G:=run_ok (n:=i) D (empty_ok (many:=many) Z);refine l5Do_spec (Y.ext v) m G D λw6 v6 d s=>?_;have r:goM many c (runM many c i emptyS)=runM many c (i+1) emptyS:=by rw[run_succ];unfold stepM;rw[y3 b]
   rw[r] at s;have l2:=A4.lt;have l4:=R.lt;have l5:=B.lt;have a0:=d.size;have A6:=A5.same d oM;have R6:=A.same d oM;have B6:=k.same d oM;obtain⟨O,Q,N,rfl,S⟩:=s.sat.fields;refine B6.stAgg (cs':=[O,Q,N,nI (runM many c (i+1) emptyS).code]) rfl zP S λw7 j a9 X=>?_;rw[inc64 oM];have E6:Ext w w6:=Ext.then v d λx z=>oM;refine hC oM _ _ ⟨O,Q,N,rfl,Ext.then E6 j λx z=>by have:=h.size;omega,oM,A6.same j oM,R6.same j oM,X,(s.same j λb g _ e=>?_).weaken λb g _=>?_⟩
   .rcases g with g|g<;>omega
   .rcases g with g|g<;>omega
  .have e:runM many c n emptyS=runM many c i emptyS:=by
    rw[show n=i+(n-i) from by omega,run_add,run_stop b]
   rw[<-e] at k m;exact fin f p y l v t A k m
 .have:n=i:=oM;subst this;exact fin f p y l v t A k m
end
end Go.Proofs.YtfjlkobhagjdaaaGreatDoor
end
