import Derived.Test.YtfnpmncplaibiaaGreatDoorWqdP12
/- A part of the proof. -/
set_option linter.all false
set_option maxRecDepth 9999
set_option maxHeartbeats 2000000
noncomputable section
namespace Go.Proofs.YtfnpmncplaibiaaGreatDoor
open Go Go.Vc Go.Proofs Go.M
section
variable {w:World} {K:oK} {F Fr:oA} {many bs:Nat} {c:Cnf} {s:Sat} {σ:SV} {N:Nat}
theorem topL_pos {put:oI} {ds:List Bool} {cl:oI}:(Z4 put ds cl≠0)↔((List.range cl.length).any λi=>decide (0<lvM put ds (cl.getD i 0)))=true:=by
 rw[G8];constructor
 .intro h;rcases jd (xs:=cl.map (lvM put ds)) with e|e
  .exact absurd e h
  .obtain⟨q,a,e⟩:=gr.1 e;obtain⟨i,hi,rfl⟩:=gn a;refine⟨i,gJ.2 hi,?_⟩;have:cl.getD i 0=cl[i]:=(by simp[y2,hi]);rw[this,X0,e];unfold Z4 at h;omega
 .rintro⟨i,hi,h⟩;rw[gJ] at hi;rw[X0] at h;have:lvM put ds (cl.getD i 0)<=Z4 put ds cl:=Zi (Ga (getD_meS hi));omega
theorem SR.setCode (h:SR N Fr w bs many c s σ) {k:Int} (g:∀w',SR N Fr w' bs many c {s with code:=k} σ->Same (σ.foot bs) w w'->w'.heap.size=w.heap.size->K undef w'):
  zT zV (oP bs 5) (nI k) w K:=by
 refine h.blk.st rfl rfl yW rfl λw1 hs i f=>?_;have b:Same (σ.foot bs) w w1:=hs.mono λx _ e=> .inr (.inl e);have d:∀x,σ.tf x->x≠bs:=λx a e=>h.st x (.inl e) a;refine g w1 ⟨f,h.cm,h.cl.same b λx hF _ a=>h.notF a hF,h.tr.same hs λx a e=>d x a e,h.rw.same hs λx a e=>h.s1 x a e,h.rl.same hs λx a e=>h.s2 x a e,h.lsl,h.ll.same b λx hF _ a=>h.notF a hF,h.s1,h.s2,h.s3,h.st,h.sf⟩ b i
def StepTo (N:Nat) (Fr:oA) (w:World) (bs many:Nat) (c:Cnf) (s':Sat) (σ:SV) (w':World):Prop:=
 ∃Fr' σ',SR N Fr' w' bs many c s' σ'/\Same (σ.foot bs) w w'/\(∀b,σ'.foot bs b->σ.foot bs b\/w.heap.size<=b)/\(∀b,Fr' b->Fr b\/w.heap.size<=b)/\(∀b,Fr' b->b<w'.heap.size)
theorem StepTo.trans {s2:Sat} {w1 w2:World} {d:oA} {g:SV} (a2:Same (σ.foot bs) w w1) (a3:∀b,g.foot bs b->σ.foot bs b\/w.heap.size<=b) (a4:∀b,d b->Fr b\/w.heap.size<=b) (i:StepTo N d w1 bs many c s2 g w2):StepTo N Fr w bs many c s2 σ w2:=by
 obtain⟨F2,l,b1,b2,b3,b4,h⟩:=i;have k:=a2.size;refine⟨F2,l,b1,⟨b2.os.trans a2.os,b2.tape.trans a2.tape,b2.output.trans a2.output,gH k b2.size,λb a f=>?_⟩,λb a=>?_,λb a=>?_,h⟩
 .rw[b2.block b oM λj=>?_,a2.block b a f];rcases a3 b j with e|e
  .exact f e
  .omega
 .rcases b3 b a with e|e
  .exact a3 b e
  .exact .inr oM
 .rcases b4 b a with e|e
  .exact a4 b e
  .exact .inr oM
theorem StepTo.refl (h:SR N Fr w bs many c s σ) (hF:∀b,Fr b->b<w.heap.size):StepTo N Fr w bs many c s σ w:=⟨Fr,σ,h,Same.refl _ _,λ_ h=> .inl h,λ_ h=> .inl h,hF⟩
theorem StepTo.ext {w1 w':World} (h:StepTo N Fr w1 bs many c s σ w') (he:Ext w w1):StepTo N Fr w bs many c s σ w':=by
 obtain⟨d,f,e,a2,a3,a4,a5⟩:=h;have g:=he.size;exact⟨d,f,e,(Same.of_ext he).trans a2,λb a=>(a3 b a).imp id λh=>oM,λb a=>(a4 b a).imp id λh=>oM,a5⟩
theorem resolve_spec {v:Value} {k:Nat} (h:SR N Fr w bs many c s σ) (t:satOk many c s) (M:c.many=many) (hk:k<c.list.length+s.learned.length) (d:Ints F w v (atM c s k)) (hc:kJ s.put (atM c s k)) (q:∀b,Fr b->b<w.heap.size)
  (hK:∀w',StepTo N Fr w bs many c (kk many c s (atM c s k)) σ w'->K (.tuple #[]) w'):
  vcall ZL #[oP bs 0,v] w K:=by
 refine ze {} Tryz.func294 ?_;obtain⟨af,ap⟩:=satOk.many' t M;have ak:=t.few;have aq:=t.mks;refine yp λp w1 hp O ar a8=>?_;have G:Blk w1 p [oP bs 0] yP:=a8;refine oZ ?_;have bounds:∀x,x∈atM c s k->x.natAbs<=many/\placeOf s.put x.natAbs≠0:=λx d=>⟨(t.lit M hk d).2,(hc x d).2⟩;refine jq (p:=λi=>decide (0<lvM s.put (yC s.why) ((atM c s k).getD i 0))) (d.ext O) (λi hi w' K' he a7=>?_) λw2 Z=>?_
 .rw[y4] at hi;rw[Kq hi];obtain⟨b1,b2⟩:=bounds _ (getD_meS hi);exact resolve_1_spec (h.ext (O.trans he)) (G.ext he) b1 b2 λw'' Y=>a7 w'' Y
 have A:=O.trans Z;have I:=h.ext A;have L:=G.ext Z;rw[y4];refine oZ ?_;refine zn (λa=>?_) (λa=>?_)
 ·
  have g:Z4 s.put (yC s.why) (atM c s k)=0:=GK λai=>by
   have:=topL_pos.1 ai;rw[this] at a;cases a
  simp only[push_cast,L.ld0];refine I.setCode λw3 h3 R a4=>hK w3 ⟨Fr,σ,?_,(Same.of_ext A).trans R,λb l=> .inl l,λb l=> .inl l,λb l=>?_⟩
  .unfold kk;rw[y3 g];exact h3
  .have:=q b l;have:=A.size;omega
 have g:Z4 s.put (yC s.why) (atM c s k)≠0:=topL_pos.2 (by simpa using a);have ae:=I.lists;have al:=I.lsl;simp only[push_cast,L.ld0,I.blk.ld4,ae.len];refine zb (λb=>?_) (λb=>?_)
 .refine I.setCode λw3 h3 R a4=>hK w3 ⟨Fr,σ,?_,(Same.of_ext A).trans R,λb l=> .inl l,λb l=> .inl l,λb l=>?_⟩
  .unfold kk;rw[y0 g,y3 oM];exact h3
  .have:=q b l;have:=A.size;omega
 refine learn_spec I t M hk (d.ext A) hc g (λb l=>by have:=q b l;have:=A.size;omega) λw3 v3 B aj ag=>?_;have E3:=A.trans B;have a4:=B.size;have au:=A.size;refine oZ ?_;refine zd λw4 r _=>?_;have h4:=I.ext (B.trans r);have U:=(L.ext B).ext r;have a2:=aj.ext r;have av:=r.size;simp only[push_cast,U.ld0,h4.blk.ld4,y1];refine zC Q9 jg Wp rfl a2.ints.cells1 λb5 T ao C aw a5=>?_;have J:=h4.ext C;have V:=U.ext C;have S:=a2.ext C;simp only[push_cast,V.ld0,J.blk.ld4,y1,V1];refine OwnV.app1 J.rl Y0 a5 S.ints.one oM oM λE w6 Q y ah=>?_;have a1:∀x,σ.foot bs x->x≠p:=λx d e=>by have:=h.lt d;omega
 have W:=V.same y λe=>a1 p (.inr (.inr (.inr e))) rfl;have X:=J.blk.same y λe=>h.s2 _ e rfl;have aa:Same (σ.foot bs) T w6:=y.mono λx _ e=> .inr (.inr (.inr e));simp only[push_cast,W.ld0,y1];have j:∀x,v3.ownBlock=some x->w.heap.size<=x/\x<T.heap.size:=λx d=>⟨by have:=ag x d;omega,S.lt d⟩;have u:∀x,E.ownBlock=some x->σ.vr.ownBlock=some x\/T.heap.size<=x:=ah;refine X.st Q.vals.cells1 Q.vals.one Q6 rfl λw7 D ay a6=>?_;have f:Same (σ.foot bs) T w7:=aa.trans (D.mono λx _ e=> .inr (.inl e));have H:Same (λx=>x=bs\/σ.vr.ownBlock=some x) T w7:=(y.mono λx _ e=> .inr e).trans (D.mono λx _ e=> .inl e);have a9:=W.same D λe=>a1 bs (.inr (.inl rfl)) e.symm;have ax:=y.size;have a3:∀x,E.ownBlock=some x->x≠bs:=λx d e=>by
  rcases u x d with m|m
  .exact h.s2 x m e
  .have:=h.lt (.inr (.inl (rfl:bs=bs)));omega
 have ac:SR N (λb=>Fr b\/v3.ownBlock=some b) w7 bs many c {s with learned:=s.learned++[learnM many c s s.put.length (atM c s k)]} {σ with vr:=E,ls:=σ.ls++[v3]}:=by
  have fr:∀{x},σ.foot bs x->¬(Fr x\/v3.ownBlock=some x):=λ{x} d e=>by
   rcases e with e|e
   .exact h.notF d e
   .have:=h.lt d;have:=(j x e).1;omega
  refine⟨a6,h.cm,(J.cl.same f λx hF _ d=>h.notF d hF).weaken λx d _=> .inl d,?_,?_,?_,by simp[h.lsl],?_,h.s1,a3,?_,?_,?_⟩
  .refine(J.tr.same H λx d e=>?_).reframe λx d=>fr (.inl d);rcases e with e|e
   .exact h.st x (.inl e) d
   .exact h.st x (.inr (.inr e)) d
  .refine J.rw.same H λx d e=>?_;rcases e with e|e
   .exact h.s1 x d e
   .exact h.s3 x d e
  .exact Q.same D λx d e=>a3 x d e
  .refine RowsR.snoc ((J.ll.same f λx hF _ d=>h.notF d hF).weaken λx d _ _=> .inl d) h.lsl (S.same f λx d hf=>?_) (λx d=>⟨.inr d,?_⟩) λi x hi d e=>?_
   .have:=h.lt hf;have:=(j x d).1;omega
   .have:=h.ll.nle;have:=(j x d).1;omega
   .have:=(h.ll.own i hi).lt d;have:=(j x e).1;omega
  .intro x d e;rcases u x e with m|m
   .exact h.s3 x d m
   .have:=h.lt (.inr (.inr (.inl d)));omega
  .rintro x (e|e|e) ht
   .exact h.st x (.inl e) ht
   .exact h.st x (.inr (.inl e)) ht
   .rcases u x e with m|m
    .exact h.st x (.inr (.inr m)) ht
    .have:=h.lt (.inl ht);omega
  .rintro x (e|e|e) hF
   .exact fr (.inr (.inl e)) hF
   .exact fr (.inr (.inr (.inl e))) hF
   .rcases u x e with m|m
    .exact fr (.inr (.inr (.inr m))) hF
    .rcases hF with hF|hF
     .have:=q x hF;omega
     .have:=(j x hF).2;omega
 simp only[push_cast,a9.ld0];have an:=f.size;refine goBack_spec ac λσ8 w8 n hn ab z ad=>?_;subst hn;have a0:∀x,(SV.foot {σ with vr:=E,ls:=σ.ls++[v3]} bs) x->σ.foot bs x\/T.heap.size<=x:=by
  rintro x (e|e|e|e)
  .exact .inl (.inl e)
  .exact .inl (.inr (.inl e))
  .exact .inl (.inr (.inr (.inl e)))
  .exact(u x e).imp (λe=> .inr (.inr (.inr e))) id
 have az:=z.size;refine hK w8 ⟨λb=>Fr b\/v3.ownBlock=some b,σ8,?_,?_,λx d=>?_,λx d=>?_,λx d=>?_⟩
 .unfold kk;rw[y0 g,y0 oM];exact ab
 .have o:Ext w T:=E3.trans (r.trans C);have am:=o.size;refine⟨(z.os.trans f.os).trans o.os,(z.tape.trans f.tape).trans o.tape,(z.output.trans f.output).trans o.output,oM,λx d hn=>?_⟩;rw[z.block x oM λhf=>?_,f.block x oM hn,o.block x d id];rcases a0 x hf with e|e
  .exact hn e
  .omega
 .rcases a0 x (ad x d) with e|e
  .exact .inl e
  .exact .inr oM
 .rcases d with e|e
  .exact .inl e
  .exact .inr (j x e).1
 .rcases d with e|e
  .have:=q x e;omega
  .have:=(j x e).2;omega
theorem neg_ne {n:Nat} (h:1<=n): -(n:Int)≠0:=oM
theorem satOk.bnd (h:satOk many c s) (b:c.many=many) {cl:oI} (a:cl∈c.list++s.learned) {l:Int} (d:l∈cl):l≠0/\l.natAbs<=many:=by
 have:=clauseOk_lit (satOk.cls h a) d;omega
theorem step_spec (h:SR N Fr w bs many c s σ) (g:satOk many c s) (r:c.many=many) (q:∀b,Fr b->b<w.heap.size)
  (o:∀w',StepTo N Fr w bs many c (stepM many c s) σ w'->K (.tuple #[]) w'):
  vcall XD #[oP bs 0] w K:=by
 refine ze {loops:=[(3,[5])]} Tryz.func263 ?_;obtain⟨a3,z⟩:=satOk.many' g r;have a9:=g.few;simp only[push_cast,h.blk.ld5];refine zb (λa=>o w (by unfold stepM;rw[y0 (by simpa using a)];exact StepTo.refl h q)) (λa=>?_);have O:stepM many c s=goM many c s:=y3 (by simpa using a);rw[O] at o;clear O;refine zd λw1 H _=>?_;have E:=h.ext H;simp only[push_cast,E.blk.ld1,E.blk.ld2,E.blk.ld4,y1];obtain⟨cs,ad,X,ac⟩:=E.cl;refine vbuildS_row1 (xs:=[σ.vc,σ.vr]) kZ0 Q6 kM0 (λx hx=>?_) (by simp) λb2 w2 ab Y ah W=>?_
 .simp only[gg,gx,Ge] at hx;rcases hx with rfl|rfl
  .exact X.cells1
  .exact E.lists.cells1
 have E2:=H.trans Y;have B:=h.ext E2;simp only[push_cast,B.blk.ld2,y1];have J:Lists (λ_=>True) w2 σ.vr s.learned:=⟨σ.ls,B.lsl,B.lists.weaken λ_ _ _=>trivial,λi hi=>(B.ll.int hi).weaken λ_ _ _=>trivial⟩;have G:Lists (λ_=>True) w2 σ.vc c.list:=B.cl.weaken λ_ _ _=>trivial;have A:([c.list,s.learned]:List (List (oI))).flatten=c.list++s.learned:=by simp
 refine next_spec (F:=λ_=>True) (vs:=[σ.vc,σ.vr]) (lls:=[c.list,s.learned]) B.tr (Sl.weaken (W.sl1 rfl (by simp)) λ_ _ _=>trivial) rfl (λi hi=>?_) (λcl z l hl=>?_) ?_ λw3 k u x Z I=>?_
 .match i,hi with
  |0,_=>exact G
  |1,_=>exact J
  |n+2,hi=>exact absurd hi (by simp)
 .rw[A] at z;exact(satOk.bnd g r z hl).2
 .rw[A,q0];omega
 rw[A] at I;have D:=E2.trans Z;have R:=h.ext D;have ai:=D.size;have m:∀b,Fr b->b<w3.heap.size:=λb d=>by have:=q b d;omega
 simp only[push_cast,y1];have f:goM many c s=(if 0<=k then kk many c s (atM c s k.toNat) else if 0<=u then{s with put:=s.put++[x],why:=s.why++[u]}
  else if s.put.length=many then{s with code:=1} else{s with put:=s.put++[-(Zw many s.put:Int)],why:=s.why++[-1]}):=by
  unfold goM;rw[I]
 have hlen:=g.len;have ag:=(satOk.mks g).len;rcases find_cases s.put (c.list++s.learned) with⟨i,u',x',hi,e,hc⟩|⟨hn,⟨i,x',hi,e,hu,-⟩|⟨e,-⟩⟩
 .rw[I,Gm,Gm] at e;obtain⟨rfl,rfl,rfl⟩:=e;rw[q0] at hi;rw[y3 oM,gl] at f;refine zb (λ_=>?_) (λb=>absurd oM b);refine clause_spec R oM oM λv4 T j a6=>?_;have p:=R.ext j;refine resolve_spec p g r hi a6 hc (λb d=>by have:=m b d;have:=j.size;omega) λU y=>?_;rw[f] at o;exact o U (y.ext (D.trans j))
 .rw[I,Gm,Gm] at e;obtain⟨rfl,rfl,rfl⟩:=e;rw[q0] at hi;rw[y0 oM,y3 oM] at f;refine zb (λb=>absurd b oM) (λ_=>zb (λ_=>?_) (λb=>absurd oM b));obtain⟨a7,a8⟩:=unit_mem hu;have d:=satOk.bnd g r (atM_mem (s:=s) hi) a7;refine assign_spec R d.1 d.2 a8 m λσ' T p L a0=>?_;rw[f] at o;refine o T (StepTo.ext ⟨Fr,σ',p,L,a0,λb d=> .inl d,λb d=>?_⟩ D);have:=m b d;have:=L.size;omega
 .rw[I,Gm,Gm] at e;obtain⟨rfl,rfl,rfl⟩:=e;rw[y0 oM,y0 oM] at f;refine zb (λb=>absurd b oM) (λ_=>zb (λb=>absurd b oM) (λ_=>?_));refine zd λT j _=>?_;have p:=R.ext j;have V:=D.trans j;have a4:Ints _ T σ.vp s.put:=p.tr.rp.ints;simp only[push_cast,p.blk.ld0,p.blk.ld2,p.tr.blk.ld0,a4.len,y1];refine zb (λb=>?_) (λb=>?_)
  .rw[y3 oM] at f;refine p.setCode λU y a5 aj=>?_;rw[f] at o;refine o U (StepTo.ext ⟨Fr,σ,y,a5,λb d=> .inl d,λb d=> .inl d,λb d=>?_⟩ V);have:=q b d;have:=V.size;omega
  .rw[y0 oM] at f;obtain⟨f1,f2,f3,f4⟩:=free_spec g.mks oM;refine vloop_up (Zw many s.put-1) (λi u w'=>u=[nI (i+1:Nat)]/\Ext w w') ⟨rfl,V⟩ ?_;rintro i _ _ U C hi ⟨rfl,S⟩ hC;have y:=h.ext S;simp only[push_cast,y.blk.ld2];refine assigned_spec y.tr oM λw6 t=>?_;rw[show((i:Int)+1).natAbs=i+1 from by omega];refine zb (λQ=>?_) (λQ=>?_)
   .have a2:i<Zw many s.put-1:=by
     refine GK λae=>?_;have:i+1=Zw many s.put:=oM;rw[this] at Q;exact Q f3
    simp(disch:=omega) only[push_cast,zk];exact hC a2 _ _ ⟨by simp,S.trans t⟩
   .have aa:i+1=Zw many s.put:=by
     refine GK λaf=>Q (f4 _ oM oM)
    have e1:IntKind.i64.wrap (0-((i:Int)+1))= -(Zw many s.put:Int):=by rw[zk oM oM];omega
    rw[e1];have h6:=y.ext t;have v:∀b,Fr b->b<w6.heap.size:=λb d=>by have:=q b d;have:=(S.trans t).size;omega
    refine assign_spec h6 (neg_ne f1) (by rw[G1,pG];exact f2) (by rw[G1,pG];exact f3) v λσ' w7 h7 M a1=>?_;rw[f] at o;refine o w7 (StepTo.ext ⟨Fr,σ',h7,M,a1,λb d=> .inl d,λb d=>?_⟩ (S.trans t));have:=v b d;have:=M.size;omega
end
section
variable {w:World} {K:oK} {F Fr:oA} {many bs:Nat} {c:Cnf} {s:Sat} {σ:SV} {N:Nat}
theorem run_spec {v:Value} {n:Nat} (hc:CnfR F w v c) (z:cnfOk c=true) (d:c.many=many) (hn:n<=4000)
  (X:∀Fr bs σ w',Ext w w'->SR w.heap.size Fr w' bs many c (runM many c n emptyS) σ->(∀b,σ.foot bs b->w.heap.size<=b)->(∀b,Fr b->F b\/w.heap.size<=b)->(∀b,Fr b->b<w'.heap.size)->K (oP bs 0) w'):
  vcall q00 #[v,nI n] w K:=by
 refine ze {loops:=[(3,[13])]} Tryz.func215 ?_;obtain⟨lv,rfl,R⟩:=hc;have s:many<=700:=by
  have:=z;unfold cnfOk at this;simp only[gd,X0] at this;omega
 refine yp λb1 w1 Y J a6 G=>?_;refine zd λw2 m _=>?_;have D:Blk w2 b1 [nI c.many,lv] zp:=G.ext m;rw[D.ldAgg zD];simp only[push_cast,D.ld0,y1];rw[d];have a7:=m.size;refine newTrail_spec (Fr:=λb=>F b/\b<w.heap.size) s (λb l=>by have:=l.2;omega) λbt vp vpl vl w3 o g L=>?_;have S:=D.ext o;rw[S.ldAgg zD,d];simp only[y1];refine Q8 za0 (us:=[[nI many,lv],[oP bt 0]]) rfl rfl ?_;refine⟨rfl,?_⟩;refine yp λbs A Z t a9 H=>?_;have B:Ext w A:=J.trans (m.trans (o.trans t));have a8:=o.size;have M:=g.ext t;have a0:=(R.ext B).weaken (F':=λb=>F b) λb h _=>h;have y:Lists (λb=>F b/\b<w.heap.size) A lv c.list:=(R.weaken (F':=λb=>F b/\b<w.heap.size) λb T U=>⟨T,U⟩).ext B;have N:∀x,kU bt vp vpl vl x->x<w3.heap.size:=by
  rintro x (rfl|e|e|e)
  .exact g.blk.lt
  .exact g.rp.lt e
  .exact g.rpl.lt e
  .exact g.rl.lt e
 have p:∀x,(SV.mk lv bt vp vpl vl (oN) (oN) []).f3 bs x->x=bs:=by
  rintro x (e|e|e)
  .exact e
  .cases e
  .cases e
 have I:SR w.heap.size (λb=>F b/\b<w.heap.size) A bs many c emptyS (SV.mk lv bt vp vpl vl (oN) (oN) []):=
  ⟨H,d,y,M,OwnI.nil,OwnV.nil,rfl,RowsR.nil B.size,λx j=>(by cases j),λx j=>(by cases j),λx j=>(by cases j),
   λx j ht=>by have:=p x j;have:=N x ht;omega,λx j hF=>by have:=p x j;have:=hF.2;omega⟩
 have f:∀x,(SV.mk lv bt vp vpl vl (oN) (oN) []).foot bs x->w.heap.size<=x:=by
  rintro x (e|e)
  .have:=L x e;omega
  .have:=p x e;omega
 have k:∀q,StepTo w.heap.size (λb=>F b/\b<w.heap.size) A bs many c (runM many c n emptyS) (SV.mk lv bt vp vpl vl (oN) (oN) []) q->K (oP bs 0) q:=by
  rintro q ⟨E,O,r,a2,a3,a4,a5⟩;refine X E bs O q (B.then a2 f) r (λb l=>?_) (λb l=>?_) a5
  .rcases a3 b l with e|e
   .exact f b e
   .omega
  .rcases a4 b l with e|e
   .exact .inl e.1
   .exact .inr oM
 refine vloop_up n (λi u w'=>u=[nI i]/\StepTo w.heap.size (λb=>F b/\b<w.heap.size) A bs many c (runM many c i emptyS) (SV.mk lv bt vp vpl vl (oN) (oN) []) w') ⟨rfl,StepTo.refl I λb l=>by have:=l.2;omega⟩ ?_;rintro i _ _ q C hi ⟨rfl,Q⟩ W;refine oZ ?_;refine zb (λa=>?_) (λa=>?_)
 .obtain⟨E,O,r,a2,a3,a4,a5⟩:=Q;simp only[push_cast,r.blk.ld5];refine zb (λb=>?_) (λb=>?_)
  .refine k q ⟨E,O,?_,a2,a3,a4,a5⟩;have e:n=i+(n-i):=oM;rw[e,run_add,run_stop b];exact r
  .refine step_spec r (run_ok d (empty_ok z)) d a5 λw6 V=>?_;simp(disch:=omega) only[push_cast,zk];refine W oM _ _ ⟨by simp,StepTo.trans a2 a3 a4 (by rw[run_succ];exact V)⟩
 .have:n=i:=oM;subst this;exact k q Q
theorem ZW0:Vals F w (oN) []:=(OwnV.nil (t:=0)).vals.weaken λx a _=>by cases a
theorem kg0:Lists F w (oN) []:=⟨[],rfl,ZW0,λi hi=>absurd hi (by simp)⟩
theorem SatR.fields {v:Value} (h:SatR F w v s):∃p y l,v= .agg #[p,y,l,nI s.code]/\∀x,x∈[p,y,l,nI s.code]->x.oneCell'=true:=by
 obtain⟨p,y,l,rfl,c,d,ls,_,a,_⟩:=h;refine⟨p,y,l,rfl,λx b=>?_⟩;simp only[gg,gx,Ge] at b;rcases b with rfl|rfl|rfl|rfl
 .exact c.one
 .exact d.one
 .exact a.one
 .rfl
theorem CnfR.below {v:Value} (h:CnfR F w v c):CnfR (λb=>F b/\b<w.heap.size) w v c:=by
 obtain⟨lv,e,h⟩:=h;exact⟨lv,e,h.weaken λb a d=>⟨a,d⟩⟩
end
section
variable {w:World} {K:oK} {F Fr:oA} {many bs:Nat} {c:Cnf} {s:Sat} {σ:SV} {N:Nat}
def Zr (many:Nat) (put:oI):List Bool:=(List.range many).map λj=>decide (((j+1:Nat):Int)∈put)
theorem valsM_snoc {many:Nat} {put:oI} {l:Int} (a:Distinct (put++[l])) (g:l≠0):(Zr many put).set (l.natAbs-1) (decide (0<l))=Zr many (put++[l]):=by
 refine gL (by simp[Zr]) λi d f=>?_;rw[pB];simp only[Zr,Pm,pd];have b:∀x,x∈put->x.natAbs≠l.natAbs:=by
  unfold Distinct at a;rw[gz,Gq] at a;exact λx c e=>a.2.2 _ (Ga c) _ (by simp) e
 by_cases hi:l.natAbs-1=i
 .rw[y3 hi];refine decide_eq_decide.2 ⟨λh=>Gw _ (by rw[gw];omega),λh=>?_⟩;rcases gk.1 h with h|h
  .exact absurd oM (b _ h)
  .rw[gw] at h;omega
 .rw[y0 hi];refine decide_eq_decide.2 ⟨λh=>gW _ h,λh=>?_⟩;rcases gk.1 h with h|h
  .exact h
  .rw[gw] at h;omega
theorem vals_spec (h:SR N Fr w bs many c s σ) (B:∀w' v,Ext w w'->OwnB qB w' v (Zr many s.put)->(∀x,v.ownBlock=some x->w.heap.size<=x)->K v w'):vcall XC #[oP bs 0] w K:=by
 refine ze {loops:=[(3,[20])]} Tryz.func217 ?_;have E:=h.tr.few;have z:=h.tr.few';simp only[push_cast,h.blk.ld0];refine vmkS_own (bs:=1) jr0 UX qC0 rfl oM oM λv1 w1 t e f=>?_;have m:=h.ext e;have o:Ints _ w1 σ.vp s.put:=m.tr.rp.ints;simp only[push_cast,m.blk.ld2,m.tr.blk.ld0,o.len];have r:OwnB qB w1 v1 (Zr many []):=by
  have:Zr many []=List.replicate many false:=gL (by simp[Zr]) λi a b=>(by simp[Zr]);rw[this];unfold OwnB;rw[GF];exact t
 refine vloop_up s.put.length (λi u w'=>u=[nI i]/\Ext w w'/\OwnB qB w' v1 (Zr many (s.put.take i))) ⟨rfl,e,r⟩ ?_;rintro i _ _ w2 C hi ⟨rfl,he,l⟩ A;refine oZ ?_;refine zb (λa=>?_) (λa=>?_)
 .have g:Ints _ w2 σ.vp s.put:=(h.ext he).tr.rp.ints;simp(disch:=exact oS) only[push_cast,g.iaddr,g.load];have D:=h.tr.bnd _ (getD_meS (show i<s.put.length by omega));have G:(Zr many (s.put.take i)).length=many:=(by simp[Zr]);refine variable_spec oM oM ?_;obtain⟨q,F⟩:∃q,(s.put.getD i 0).natAbs=q+1:=⟨(s.put.getD i 0).natAbs-1,oM⟩;rw[F,show(((q+1:Nat):Int))=(q:Int)+1 from rfl];have n:=l.bools;simp(disch:=exact oS) only[Y8,Int.add_sub_cancel,push_cast,zk,n.iaddr];refine l.st qD0 oM λJ k p I=>?_;have j:(Zr many (s.put.take i)).set q (decide (0<s.put.getD i 0))=Zr many (s.put.take (i+1)):=by
   have y:=distinct_take h.tr.dis (i+1);rw[JA (d:=0) oM] at y⊢;rw[<-valsM_snoc y D.1,show q=(s.put.getD i 0).natAbs-1 from by omega]
  rw[j] at k;exact A oM _ _ ⟨by simp,Ext.then he p λx H=>by have:=f x H;omega,k⟩
 .rw[gC oM] at l;exact B w2 v1 he l f
end
end Go.Proofs.YtfnpmncplaibiaaGreatDoor
namespace Go.Vc
open Go Go.M
section
variable {w w':World} {K:oK} {F:oA} {k:Nat} {v tv dv mv:Value} {xs:List (List Value)} {t:TypeId} {ts:List Tm} {ds:List Dcl}
theorem Sl.mid (h:Sl F w k v xs) (z:elB t k=true) {a b:Nat} (r:a<=b) (q:b<=xs.length):
  ∃v1,(∀(n p:IntKind) (w':World) (K:oK),xf t v (some (.int n a)) (some (.int p b)) none w' K=K v1 w')/\Sl F w k v1 ((xs.drop a).take (b-a)):=by
 obtain⟨hu,hs⟩:=YM z;obtain⟨o,c,rfl,B,s,d⟩:=h.shape;refine⟨sliced o a b c k,λn p w' K=>ya ?_,?_⟩
 .rw[run_sliceAt_slice w' t _ _ _ _ hu,run_slice_lh w' t _ _ _ hu n p a b oM oM oM,Go.Vc.run_sizeOf hs];simp[Result.andThen]
 .have f:((xs.drop a).take (b-a)).length=b-a:=by rw[gh,GU];omega
  refine⟨⟨_,c-a,by rw[f];rfl,by rw[f];omega,oM,λm=>?_⟩,λx A=>h.wide x (G0 (Gc A))⟩;have y:a<b:=Nat.lt_of_not_le λe=>m (gG (by rw[f];omega));obtain⟨g,j,rfl,hF,u,l⟩:=d (λe=>by rw[e] at q;simp at q;omega);rw[y0 oM];refine⟨g,j+a*k,by simp[yx],hF,u,λi hi=>?_⟩;rw[f] at hi;have:=l (a+i) oM;have e:((xs.drop a).take (b-a)).getD i []=xs.getD (a+i) []:=by
   rw[take_getD hi,y2,pc,<-y2]
  rw[e,show j+a*k+i*k=j+(a+i)*k by rw[GZ];omega];exact this
theorem TmsR.mid (h:TmsR F w v ts) (j:elB t 5=true) {a b:Nat} (d:a<=b) (g:b<=ts.length):
  ∃v1,(∀(k m:IntKind) (w':World) (K:oK),xf t v (some (.int k a)) (some (.int m b)) none w' K=K v1 w')/\TmsR F w v1 ((ts.drop a).take (b-a)):=by
 obtain⟨css,g1,g2,g3⟩:=h;obtain⟨v1,e,f⟩:=Sl.mid g1 j d (by rw[g2];exact g);refine⟨v1,e,_,f,by simp[g2],λi hi=>?_⟩;have c:i<b-a:=by rw[gh] at hi;omega
 rw[take_getD c,take_getD c,y2,pc,<-y2,y2 (l:=ts.drop a),pc,<-y2];exact g3 _ (by rw[gh,GU] at hi;omega)
theorem DclsR.one (h:DclsR F w dv ds):dv.oneCell'=true:=by
 obtain⟨a,c,rfl,_⟩:=h.shape;rfl
theorem DclsR.cellsV (h:DclsR F w dv ds):dv.cells= #[dv]:=by
 obtain⟨a,c,rfl,_⟩:=h.shape;rfl
theorem TmsR.one (h:TmsR F w tv ts):tv.oneCell'=true:=by
 obtain⟨_,h,_⟩:=h;obtain⟨a,c,rfl,_⟩:=h.shape;rfl
theorem TmsR.cellsV (h:TmsR F w tv ts):tv.cells= #[tv]:=by
 obtain⟨_,h,_⟩:=h;obtain⟨a,c,rfl,_⟩:=h.shape;rfl
theorem PairsR.one {xs:List (Int×Int)} (h:PairsR F w mv xs):mv.oneCell'=true:=by
 obtain⟨a,c,rfl,_⟩:=h.shape;rfl
theorem PairsR.cellsV {xs:List (Int×Int)} (h:PairsR F w mv xs):mv.cells= #[mv]:=by
 obtain⟨a,c,rfl,_⟩:=h.shape;rfl
end
end Go.Vc
namespace Go.M
open Go.Vc
section
abbrev Lay:=List Dcl×List Tm
def decL (c:List Lay):List Dcl:=(c.map (·.1)).flatten
def terL (c:List Lay):List Tm:=(c.map (·.2)).flatten
def XA0 (c:List Lay) (i:Nat):Bool:=(c.getD i ([],[])).2.all λt=>decide (tsort (decL (c.take (i+1))) t=0)
def ctxOk (c:List Lay):Bool:=decide (1<=c.length)&&decide (c.length<=6)&&declOk (decL c)&&decide ((terL c).length<=8)&&(List.range c.length).all λi=>XA0 c i
section
variable {c:List Lay} {d:Dcl} {t:Tm} {l:Lay} {ds es:List Dcl} {i:Nat}
theorem ctx_iff:ctxOk c=true↔1<=c.length/\c.length<=6/\declOk (decL c)=true/\(terL c).length<=8/\∀i,i<c.length->∀t,t∈(c.getD i ([],[])).2->tsort (decL (c.take (i+1))) t=0:=by
 simp only[ctxOk,XA0,gd,Gb,gJ,X0,and_assoc]
theorem decL_app (c b:List Lay):decL (c++b)=decL c++decL b:=by unfold decL;grind
theorem terL_app (c b:List Lay):terL (c++b)=terL c++terL b:=by unfold terL;grind
theorem ZO0 (l:Lay):decL [l]=l.1:=by simp[decL]
theorem Z20 (l:Lay):terL [l]=l.2:=by simp[terL]
theorem lay_take (h:i<c.length):c.take (i+1)=c.take i++[c.getD i ([],[])]:=take_add h _
theorem decL_take (h:i<c.length):decL (c.take (i+1))=decL (c.take i)++(c.getD i ([],[])).1:=by rw[lay_take h,decL_app,ZO0]
theorem terL_take (h:i<c.length):terL (c.take (i+1))=terL (c.take i)++(c.getD i ([],[])).2:=by rw[lay_take h,terL_app,Z20]
theorem decL_split (c:List Lay) (i:Nat):decL c=decL (c.take i)++decL (c.drop i):=by rw[<-decL_app,GR]
theorem terL_split (c:List Lay) (i:Nat):terL c=terL (c.take i)++terL (c.drop i):=by rw[<-terL_app,GR]
theorem decL_pre (c:List Lay) (i:Nat):(decL c).take (decL (c.take i)).length=decL (c.take i):=by rw[decL_split c i,List.take_left'];rfl
theorem Zp0 (h:i<c.length):c.drop i=c.getD i ([],[])::c.drop (i+1):=by
 simp_all
theorem terL_mid (h:i<c.length):((terL c).drop (terL (c.take i)).length).take ((terL (c.take (i+1))).length-(terL (c.take i)).length)=(c.getD i ([],[])).2:=by
 rw[terL_take h,q0,Nat.add_sub_cancel_left,terL_split c i,List.drop_left',Zp0 h]
 .show List.take _ (((c.getD i ([],[])).2::((c.drop (i+1)).map (·.2))).flatten)=_
  grind
 .rfl
theorem decL_le (h:i<=c.length):(decL (c.take i)).length<=(decL c).length:=by grind [decL_split]
theorem terL_le (h:i<=c.length):(terL (c.take i)).length<=(terL c).length:=by grind [terL_split]
def markL (c:List Lay):List (Int×Int):=(List.range c.length).map λi=>(((decL (c.take (i+1))).length:Int),((terL (c.take (i+1))).length:Int))
theorem markL_len:(markL c).length=c.length:=by simp[markL]
theorem markL_get (h:i<c.length):(markL c).getD i (0,0)=(((decL (c.take (i+1))).length:Int),((terL (c.take (i+1))).length:Int)):=by
 grind [markL]
theorem markL_snoc (c:List Lay) (l:Lay):markL (c++[l])=markL c++[(((decL (c++[l])).length:Int),((terL (c++[l])).length:Int))]:=by
 unfold markL;rw[q0,Gd,PU,gz]
 grind [List.map_congr_left]
theorem less_app:∀{es ds:List Dcl},declOk (ds++es)=true->declOk ds=true
 |[],_,h=>by grind
 |e::es,ds,h=>decl_less (less_app (ds:=ds++[e]) (es:=es) (by grind))
theorem sort_app:∀{es ds:List Dcl} {t:Tm},declOk (ds++es)=true->sortM ds t≠ -1->sortM (ds++es) t=sortM ds t
 |[],_,_,_,_=>by simp
 |e::es,ds,t,h,hs=>by
  have a:declOk ((ds++[e])++es)=true:=(by grind);have b:=more_sort (less_app a) t hs;have c:=sort_app a (t:=t) oM
  grind
theorem tsort0:tsort ds t=0↔fits t=true/\declOk ds=true/\sortM ds t=0:=by
 grind [tsort]
theorem tsort_app (h:declOk (ds++es)=true) (hs:tsort ds t=0):tsort (ds++es) t=0:=by
 grind [tsort0,sort_app]
theorem ctx_terms (h:ctxOk c=true):∀t,t∈terL c->tsort (decL c) t=0:=by
 obtain⟨j,k,d,m,e⟩:=ctx_iff.1 h;intro t g;obtain⟨ts,b,a⟩:=Ph.1 g;obtain⟨l,f,rfl⟩:=gr.1 b;obtain⟨i,hi,rfl⟩:=gn f;have hs:=e i hi t (by rw[y2,V0 hi];exact a);rw[decL_split c (i+1)];exact tsort_app (by rw[<-decL_split];exact d) hs
end
end
end Go.M
namespace Go.Proofs.YtfnpmncplaibiaaGreatDoor
open Go Go.Vc Go.Proofs
section
variable {w w':World} {K:oK} {F F' F2 H H2 S:oA} {k:Nat} {v uv tv dv:Value} {t:TypeId} {ts us:List M.Tm} {ds es:List M.Dcl}
def LstH (H:oA) (w:World) (tv:Value) (ts:List M.Tm):Prop:= ∃css,Own 0 5 zl w tv css/\css.length=ts.length/\∀i,i<ts.length->TmR H w (css.getD i []) (ts.getD i default)
theorem LstH.nil:LstH H w (oN) []:=⟨[],Own.nil 0 5 _ w,rfl,λi hi=>absurd hi (pI _)⟩
theorem LstH.lt (h:LstH H w tv ts) {b:Nat} (a:tv.ownBlock=some b):b<w.heap.size:=by obtain⟨_,c,_⟩:=h;exact(c.lt a).2
theorem LstH.same (h:LstH H w tv ts) (hw:Same S w w') (b:∀x,tv.ownBlock=some x->¬S x) (c:∀x,H x->x<w.heap.size->¬S x):LstH H w' tv ts:=by
 obtain⟨css,e,d,hi⟩:=h;exact⟨css,e.same hw b,d,λi a=>(hi i a).same hw c⟩
theorem LstH.ext (h:LstH H w tv ts) (hw:Ext w w'):LstH H w' tv ts:=h.same hw (λ_ _ h=>h) λ_ _ _ h=>h
theorem LstH.weaken (h:LstH H w tv ts) (c:∀b,H b->b<w.heap.size->F b):LstH F w tv ts:=by
 obtain⟨css,e,d,hi⟩:=h;exact⟨css,e,d,λi a=>(hi i a).weaken c⟩
theorem LstH.tms (h:LstH H w tv ts):TmsR (λx=>H x\/tv.ownBlock=some x) w tv ts:=by
 obtain⟨css,d,c,hi⟩:=h;exact⟨css,d.sl.weaken λx b _=> .inr b,c,λi a=>(hi i a).weaken λx b _=> .inl b⟩
theorem kb0 {α:Type} {l r:List α} {i:Nat} {e:α} (h:l.length<=i):(l++r).getD i e=r.getD (i-l.length) e:=by
 rw[y2,Gy h,<-y2]
theorem LstH.app {ty:Nat} {c:List (List Value)} (h:LstH H w tv ts) (o:∀x,tv.ownBlock=some x->¬H x/\¬H2 x) (hu:Sl F2 w 5 uv c) (j:c.length=us.length) (g:∀i,i<us.length->TmR H2 w (c.getD i []) (us.getD i default))
  (r:ts.length+us.length<=1000000000)
  (p:∀w' b,Same (λx=>tv.ownBlock=some x) w w'->(∀x,b.ownBlock=some x->tv.ownBlock=some x\/w.heap.size<=x)->LstH (λx=>(H x\/H2 x)/\x<w.heap.size) w' b (ts++us)->K b w'):
  vbi .append [zl,zl] ty [tv,uv] w K:=by
 obtain⟨css,q,f,hi⟩:=h;refine vappend jo dC q hu (one_tms j g) (gF _) oM oM λb w2 m d l=>p w2 b d l ⟨css++c,m,by simp[f,j],λi k=>?_⟩;rw[q0] at k;by_cases n:i<ts.length
 .rw[M.app_getD oM,M.app_getD n];exact((hi i n).weaken (F':=λx=>(H x\/H2 x)/\x<w.heap.size/\H x) λx a f=>⟨.inl a,f,a⟩).same d (λx a _ e=>(o x e).1 a.2.2)|>.weaken λx a _=>⟨a.1,a.2.1⟩
 .rw[kb0 oM,kb0 oM,f];exact((g _ oM).weaken (F':=λx=>(H x\/H2 x)/\x<w.heap.size/\H2 x) λx a f=>⟨.inr a,f,a⟩).same d (λx a _ e=>(o x e).2 a.2.2)|>.weaken λx a _=>⟨a.1,a.2.1⟩
theorem LstH.push {ty:Nat} {t:M.Tm} (h:LstH H w tv ts) (m:∀x,tv.ownBlock=some x->¬H x/\¬H2 x) (q:TermR H2 w uv t) (p:ts.length<=2000000)
  (o:∀w' a,Same (λx=>tv.ownBlock=some x) w w'->(∀x,a.ownBlock=some x->tv.ownBlock=some x\/w.heap.size<=x)->LstH (λx=>(H x\/H2 x)/\x<w.heap.size) w' a (ts++[t])->K a w'):
  vbuildS zl 1 [(0,uv)] w λs w1=>vbi .append [zl,zl] ty [tv,s] w1 K:=by
 obtain⟨cs,rfl,f⟩:=q.cells;refine qx qf qz zq rfl (zU f) dC λb w1 u d r g=>?_;have v:=d.size;refine LstH.app (H2:=λx=>H2 x/\x<w.heap.size) (us:=[t]) ((h.weaken (F:=λx=>H x/\x<w.heap.size) λx c j=>⟨c,j⟩).ext d) (λx c=>⟨λe=>(m x c).1 e.1,λe=>(m x c).2 e.1⟩) (g.sl1k (zU f)) rfl (λi hi=>?_) (by simp;omega) λw2 a l k n=>?_
 .have:i=0:=(by simpa using hi);subst this;exact(f.weaken λx c j=>⟨c,j⟩).ext d
 .refine o w2 a ((Same.of_ext d).trans l) (λx c=>(k x c).imp id λh=>oM) (n.weaken λx c _=>?_);rcases c.1 with h|h
  .exact⟨.inl h.1,h.2⟩
  .exact⟨.inr h.1,h.2⟩
theorem OwnD.app {ty:Nat} (h:OwnD w dv ds) (hu:DclsR F w uv es) (j:ds.length+es.length<=1000000000)
  (i:∀w' a,Same (λx=>dv.ownBlock=some x) w w'->(∀x,a.ownBlock=some x->dv.ownBlock=some x\/w.heap.size<=x)->OwnD w' a (ds++es)->K a w'):
  vbi .append [yo,yo] ty [dv,uv] w K:=by
 refine vappend QZ dC h hu (λy k c g=>?_) (gF _) (by rw[y4,y4];omega) (by rw[y4,y4];omega) λa w2 e f b=>i w2 a f b (by unfold OwnD;rw[gz];exact e);obtain⟨d,_,rfl⟩:=gr.1 k;simp only[gg,gx,Ge] at g;rcases g with rfl|rfl<;>rfl
end
section
variable {w w':World} {K:oK} {F F' G S:oA} {n b:Nat} {v tv dv mv:Value} {t:TypeId} {ts us:List M.Tm} {ds:List M.Dcl} {ms:List (Int×Int)} {c:List M.Lay}
def LaysR (F:oA) (w:World) (v:Value) (c:List M.Lay):Prop:= ∃css:List (Value×Value),Sl F w 2 v (css.map λp=>[p.1,p.2])/\css.length=c.length/\∀i,i<c.length->DclsR F w (css.getD i (undef,undef)).1 (c.getD i ([],[])).1/\TmsR F w (css.getD i (undef,undef)).2 (c.getD i ([],[])).2
theorem LaysR.same (h:LaysR F w v c) (hw:Same S w w') (hs:∀b,F b->b<w.heap.size->¬S b):LaysR F w' v c:=by
 obtain⟨css,d,e,a⟩:=h;exact⟨css,d.same hw hs,e,λi hi=>⟨(a i hi).1.same hw hs,(a i hi).2.same hw hs⟩⟩
theorem LaysR.ext (h:LaysR F w v c) (hw:Ext w w'):LaysR F w' v c:=h.same hw λ_ _ _ h=>h
theorem LaysR.weaken (h:LaysR F w v c) (a:∀b,F b->b<w.heap.size->F' b):LaysR F' w v c:=by
 obtain⟨css,e,f,d⟩:=h;exact⟨css,e.weaken a,f,λi hi=>⟨(d i hi).1.weaken a,(d i hi).2.weaken a⟩⟩
theorem LaysR.nil:LaysR F w (oN) []:=⟨[],⟨⟨none,0,rfl,by simp,by simp,by simp⟩,by simp⟩,rfl,by simp⟩
theorem LaysR.len (h:LaysR F w v c) {t:TypeId} (d:isSl t=true) (ty:TypeId):vbi .len [t] ty [v] w' K=K (nI c.length) w':=by
 obtain⟨css,a,b,e⟩:=h;have:=Sl.len (K:=K) (w':=w') a d ty;rwa[y4,b] at this
theorem LaysR.iaddr (h:LaysR F w v c) {t:TypeId} (f:elB t 2=true) {kd:IntKind} {i:Int} (b:0<=i) (d:i<c.length):
  y6 t v (.int kd i) w' K=K (oE (eaddr v 2 i.toNat)) w':=by
 obtain⟨css,a,e,g⟩:=h;exact Sl.iaddr a f b (by rw[y4,e];exact d)
theorem LaysR.load (h:LaysR F w v c) {t:TypeId} (e:aggB t 2=true) {i:Nat} (hi:i<c.length)
  (d:∀dv tv,DclsR F w dv (c.getD i ([],[])).1->TmsR F w tv (c.getD i ([],[])).2->K (.agg ⟨[dv,tv]⟩) w):zu t (oE (eaddr v 2 i)) w K:=by
 obtain⟨css,b,f,a⟩:=h;rw[b.ldAgg e (by rw[y4];omega),M.getD_map _ oM _ (undef,undef)];exact d _ _ (a i hi).1 (a i hi).2
theorem two_one {a b:Value} (d:a.oneCell'=true) (e:b.oneCell'=true):∀x,x∈[a,b]->x.oneCell'=true:=λx c=>by
 simp only[gg,gx,Ge] at c;rcases c with rfl|rfl<;>assumption
theorem Zd0 {k:Nat} {xs:List (List Value)} (h:Own 0 k t w v xs):∀a l c,v= .slice (some a) l c->∃b o,a=⟨b,o,none⟩:=by
 rintro a l c e;rcases h.row.2 with⟨rfl,s⟩|⟨g,cap,cur,rfl,i,r,n,j,m,f⟩
 .cases e
 .injection e with d p q
  injection d with d
  exact⟨g,0,d.symm⟩
theorem YF0 {k:Nat} {xs:List (List Value)} {a:TypeId} (h:Own 0 k t w v xs) (c:elB a k=true) {kd:IntKind} {n:Nat} (b:n<=xs.length):xf a v none (some (.int kd n)) none w' K=K (cutV v n) w':=Sl.cut h.sl (Zd0 h) c b
structure CtxB (c:List M.Lay):Prop where
 len:c.length<=1048576
 dec:(M.decL c).length<=1048576
 ter:(M.terL c).length<=1048576
theorem ctxB_take (h:CtxB c) (i:Nat):CtxB (c.take i):=by
 have a:=congrArg List.length (M.decL_split c i);have b:=congrArg List.length (M.terL_split c i);rw[q0] at a b;exact⟨by have:=h.len;rw[gh];omega,by have:=h.dec;omega,by have:=h.ter;omega⟩
structure StkR (n:Nat) (w:World) (b:Nat) (dv tv mv:Value) (ds:List M.Dcl) (ts:List M.Tm) (ms:List (Int×Int)):Prop where
 blk:Blk w b [dv,tv,mv] xa
 dec:OwnD w dv ds
 ter:LstH (λx=>x<n) w tv ts
 mar:OwnP xE w mv ms
 new:n<=b
 nd:∀x,dv.ownBlock=some x->n<=x/\x≠b
 nt:∀x,tv.ownBlock=some x->n<=x/\x≠b/\dv.ownBlock≠some x
 nm:∀x,mv.ownBlock=some x->n<=x/\x≠b/\dv.ownBlock≠some x/\tv.ownBlock≠some x
theorem StkR.ext (h:StkR n w b dv tv mv ds ts ms) (hw:Ext w w'):StkR n w' b dv tv mv ds ts ms:=
 ⟨h.blk.ext hw,h.dec.ext hw,h.ter.ext hw,h.mar.ext hw,h.new,h.nd,h.nt,h.nm⟩
theorem k60:yr xa [] w K=K (.agg ⟨[oN,oN,oN]⟩) w:=zS yw0 (us:=[]) rfl rfl
@[push_cast] theorem bd_mark (x y:Int):yr xG [(0,nI x),(1,nI y)] w K=K (.agg ⟨[nI x,nI y]⟩) w:=zS xd0 (us:=[[nI x],[nI y]]) rfl rfl
theorem stackPush_spec (h:StkR n w b dv tv mv ds ts ms) (hs:ms.length<=2000000) (v:∀w' d,Same (λx=>n<=x) w w'->StkR n w' b dv tv d ds ts (ms++[((ds.length:Int),(ts.length:Int))])->K (.tuple #[]) w'):
  vcall Ql #[oP b 0] w K:=by
 refine ze {} Tryz.func103 ?_;refine zd λw1 k _=>?_;have m:=h.ext k;simp only[push_cast,m.blk.ld0,m.blk.ld1,m.blk.ld2,m.dec.dcls.len,m.ter.tms.len,y1];refine qx zp0 yA0 QO rfl rfl dC λb2 w2 z l A q=>?_;have c:=m.ext l;simp only[push_cast,c.blk.ld2,y1,V1];refine Own.app1k c.mar yd0 dC q rfl (two_one rfl rfl) (by rw[y4];omega) (by rw[y4];omega) λd C s g t=>?_;have b3:=c.blk.same g λe=>(c.nm b e).2.1 rfl;have f:OwnP xE C d (ms++[((ds.length:Int),(ts.length:Int))]):=by unfold OwnP;rw[gz];exact s
 refine b3.st (i:=2) f.pairs.cellsV f.pairs.one zk0 rfl λu j B r=>?_;have D:=k.size;have z2:=l.size;have hm:∀x,d.ownBlock=some x->mv.ownBlock=some x\/w2.heap.size<=x:=t;have ld:∀x,dv.ownBlock=some x->x<w2.heap.size:=λx a=>(c.dec.lt a).2;have lt:∀x,tv.ownBlock=some x->x<w2.heap.size:=λx a=>c.ter.lt a;have lb:=c.blk.lt;have o:∀x,d.ownBlock=some x->n<=x/\x≠b/\dv.ownBlock≠some x/\tv.ownBlock≠some x:=λx a=>by
  rcases hm x a with e|e
  .exact c.nm x e
  .exact⟨by have:=c.new;omega,oM,λp=>by have:=ld x p;omega,λp=>by have:=lt x p;omega⟩
 have y:Same (λx=>n<=x) w u:=(((Same.of_ext k).trans (Same.of_ext l)).trans (g.mono λx _ a=>(c.nm x a).1)).trans (j.mono λx _ a=>by subst a;exact h.new);refine v u d y ⟨r,(c.dec.same g λx a e=>(c.nm x e).2.2.1 a).same j λx a e=>(c.nd x a).2 e,(c.ter.same g (λx a e=>(c.nm x e).2.2.2 a) λx a _ e=>by have:=(c.nm x e).1;omega).same j (λx a e=>(c.nt x a).2.1 e) (λx a _ e=>by subst e;have:=c.new;omega),Own.same f j λx a e=>(o x a).2.1 e,h.new,h.nd,h.nt,o⟩
theorem flat_spec (hv:LaysR F w v c) (hb:CtxB c) (hK:∀w' b dv tv mv,Ext w w'->StkR w.heap.size w' b dv tv mv (M.decL c) (M.terL c) (M.markL c)->K (oP b 0) w'):vcall x10 #[v] w K:=by
 refine ze {loops:=[(3,[10])]} Tryz.func63 ?_;rw[k60];refine zj λb w1 af E ah X=>?_;have z1:=E.size;have hlen:=hb.len;simp only[push_cast,(hv.ext E).len];have h1:StkR w.heap.size w1 b (oN) (oN) (oN) [] [] []:=⟨X,Own.nil 0 2 _ w1,LstH.nil,OwnP.nil _,oM,λx d=>(by cases d),λx d=>(by cases d),λx d=>(by cases d)⟩;refine vloop_up c.length (λi u w'=> ∃dv tv mv,u=[nI i]/\Ext w w'/\StkR w.heap.size w' b dv tv mv (M.decL (c.take i)) (M.terL (c.take i)) (M.markL (c.take i))) ⟨_,_,_,rfl,E,h1⟩ ?_;rintro i _ _ w2 C hi ⟨dv,tv,mv,rfl,G,f⟩ hC;refine oZ ?_;refine zb (λa=>?_) (λa=>?_)
 .have j:i<c.length:=oM;have Q:=(hv.weaken (F':=λx=>x<w.heap.size) λx _ h=>h).ext G;simp(disch:=exact oS) only[push_cast,Q.iaddr];refine Q.load xL j λld lt N O=>?_;refine zi jI λb3 w3 ag L ai Y=>?_;refine Y.stAgg (cs':=[ld,lt]) rfl xL (two_one N.one O.one) λw4 aa aj Z=>?_;refine zd λw5 H _=>?_;have z3:=L.size;have z5:=H.size;have r:Ext w2 w5:=(Ext.then L aa λy hy=>by subst hy;omega).trans H;have m:=f.ext r;have J:=Z.ext H;have bd:=ctxB_take hb (i+1);have b1:=bd.len;have b2:=bd.dec;have T:=bd.ter;rw[M.decL_take j,q0] at b2;rw[M.terL_take j,q0] at T;simp only[push_cast,m.blk.ld0,J.ld0,y1];refine OwnD.app m.dec (N.ext r) oM λw6 k n a7 B=>?_;have lb:=f.blk.lt;have ltv:∀x,tv.ownBlock=some x->x<w2.heap.size:=λx d=>f.ter.lt d;have lmv:∀x,mv.ownBlock=some x->x<w2.heap.size:=λx d=>(Own.lt f.mar d).2;have ldv:∀x,dv.ownBlock=some x->x<w2.heap.size:=λx d=>(Own.lt f.dec d).2;have nw:=f.new;have z25:=r.size;have z6:=n.size;have a0:=m.blk.same n λe=>(m.nd b e).2 rfl
  try simp only[push_cast,y1]
  refine a0.st (i:=0) B.dcls.cellsV B.dcls.one QQ rfl λw7 q ak a1=>?_;refine zd λS g _=>?_;have A:=a1.ext g;have q8:Blk S b3 [ld,lt] xb:=(((J.same n λe=>by have:=ldv _ e;omega).same q oM)).ext g;replace A:Blk S b [k,tv,mv] xa:=A;simp only[push_cast,A.ld1,q8.ld1,y1];have o:∀x,k.ownBlock=some x->w.heap.size<=x/\x≠b/\tv.ownBlock≠some x/\mv.ownBlock≠some x:=λx d=>by
   rcases a7 x d with e|e
   .exact⟨(f.nd x e).1,(f.nd x e).2,λl=>(f.nt x l).2.2 e,λl=>(f.nm x l).2.2.1 e⟩
   .exact⟨oM,oM,λl=>by have:=ltv x l;omega,λl=>by have:=lmv x l;omega⟩
  have t8:LstH (λx=>x<w.heap.size) S tv (M.terL (c.take i)):=((m.ter.same n (λx d e=>(m.nt x d).2.2 e) λx d _ e=>by have:=(m.nd x e).1;omega).same q (λx d e=>(m.nt x d).2.1 e) λx d _ e=>oM).ext g;have ab:TmsR (λx=>x<w.heap.size) S lt (c.getD i ([],[])).2:=(((O.ext r).same n λx d _ e=>by have:=(m.nd x e).1;omega).same q λx d _ e=>oM).ext g;obtain⟨ae,a9,a6,a3⟩:=ab;refine LstH.app t8 (λx d=>⟨λe=>by have:=(f.nt x d).1;omega,λe=>by have:=(f.nt x d).1;omega⟩) a9 a6 a3 oM λw9 D t a8 I=>?_;have z8:=g.size;have z9:=t.size;have a2:=A.same t λe=>(f.nt b e).2.1 rfl
  try simp only[push_cast,y1]
  refine a2.st (i:=1) I.tms.cellsV I.tms.one xy rfl λw10 p ad s=>?_;replace s:Blk w10 b [k,D,mv] xa:=s;have d10:=(((B.same q λx d e=>(o x d).2.1 e).ext g).same t λx d e=>(o x d).2.2.1 e).same p λx d e=>(o x d).2.1 e;have m10:OwnP xE w10 mv (M.markL (c.take i)):=((((Own.same m.mar n λx d e=>(m.nm x d).2.2.1 e).same q λx d e=>(m.nm x d).2.1 e).ext g).same t λx d e=>(m.nm x d).2.2.2 e).same p λx d e=>(m.nm x d).2.1 e;have ld6:∀x,k.ownBlock=some x->x<S.heap.size:=λx d=>by have:=(B.lt d).2;omega
  have z:∀x,D.ownBlock=some x->w.heap.size<=x/\x≠b/\k.ownBlock≠some x/\mv.ownBlock≠some x:=λx d=>by
   rcases a8 x d with e|e
   .exact⟨(f.nt x e).1,(f.nt x e).2.1,λl=>(o x l).2.2.1 e,λl=>(f.nm x l).2.2.2 e⟩
   .exact⟨oM,oM,λl=>by have:=ld6 x l;omega,λl=>by have:=lmv x l;omega⟩
  have V:StkR w.heap.size w10 b k D mv (M.decL (c.take (i+1))) (M.terL (c.take (i+1))) (M.markL (c.take i)):=by
   rw[M.decL_take j,M.terL_take j];exact⟨s,d10,((I.weaken (F:=λx=>x<w.heap.size) λx d _=>d.1.elim id id).same p (λx d e=>(z x d).2.1 e) λx d _ e=>oM),m10,nw,λx d=>⟨(o x d).1,(o x d).2.1⟩,λx d=>⟨(z x d).1,(z x d).2.1,(z x d).2.2.1⟩,λx d=>⟨(f.nm x d).1,(f.nm x d).2.1,λe=>(o x e).2.2.2 d,λe=>(z x e).2.2.2 d⟩⟩
  have a5:=b1;rw[gh] at a5;refine stackPush_spec V (by rw[M.markL_len,gh];omega) λal ac R W=>?_
  try simp only[push_cast]
  rw[inc64' oM];have U:Ext w w10:=by
   have s1:Same (λx=>w.heap.size<=x) w5 w10:=(((n.mono λx _ d=>(m.nd x d).1).trans (q.mono λx _ d=>oM)).trans (Same.of_ext g)).trans ((t.mono λx _ d=>(f.nt x d).1).trans (p.mono λx _ d=>oM));exact Ext.then (G.trans r) s1 λx d=>d
  refine hC j _ _ ⟨k,D,ac,rfl,Ext.then U R λx d=>d,?_⟩;rw[M.lay_take j,M.markL_snoc,<-M.lay_take j];exact W
 .have a4:i=c.length:=oM;subst a4;rw[gy] at f;exact hK _ _ _ _ _ G f
end
section
variable {w w':World} {K:oK} {F G H S:oA} {n b:Nat} {v tv dv mv:Value} {t:TypeId} {ds:List M.Dcl} {c:List M.Lay}
theorem ok_spec (h:StkR n w b dv tv mv (M.decL c) (M.terL c) (M.markL c)) (hb:CtxB c) (hK:∀w',Ext w w'->K (.bool (M.ctxOk c)) w'):vcall K5 #[oP b 0] w K:=by
 refine ze {loops:=[(5,[3,43]),(8,[56])],cuts:=[(8195,[])]} Tryz.func64 ?_;have hlen:=hb.len;have no:∀w',Ext w w'->M.ctxOk c≠true->K (.bool false) w':=λw' he hn=>by
  have:=hK w' he;rwa[Bool.not_eq_true _|>.mp hn] at this
 have hm:=h.mar.pairs;refine zo (λu w'=>u=[]/\Ext w w'/\1<=c.length/\c.length<=6/\M.declOk (M.decL c)=true/\(M.terL c).length<=8) (λJ hJ=>?_) ?_
 .simp only[push_cast,h.blk.ld2,hm.len,M.markL_len];refine zb (λQ=>no _ (Same.refl _ _) λe=>by have:=(M.ctx_iff.1 e).1;omega) (λQ=>?_);refine zb (λa2=>no _ (Same.refl _ _) λe=>by have:=(M.ctx_iff.1 e).2.1;omega) (λa2=>?_);simp only[push_cast,h.blk.ld0];refine DeclOk_spec h.dec.dcls λw1 d=>?_
  try simp only[push_cast]
  refine zn (λa3=>no _ d λe=>by rw[(M.ctx_iff.1 e).2.2.1] at a3;cases a3) (λa3=>?_);have O:=h.ext d;simp only[push_cast,O.blk.ld1,O.ter.tms.len];refine zb (λa4=>no _ d λe=>by have:=(M.ctx_iff.1 e).2.2.2.1;omega) (λa4=>?_);exact hJ _ _ ⟨rfl,d,oM,oM,by simpa using a3,oM⟩
 rintro _ _ w1 ⟨rfl,d,Q,a2,a3,a4⟩;have O:=h.ext d;simp only[push_cast,O.blk.ld2,hm.len,M.markL_len];refine vloop_up c.length (λi u w'=>u=[nI ((M.terL (c.take i)).length:Int),nI i]/\Ext w w'/\∀j,j<i->∀t,t∈(c.getD j ([],[])).2->M.tsort (M.decL (c.take (j+1))) t=0) ⟨rfl,d,λj hj=>absurd hj oM⟩ ?_;rintro i _ _ w2 C hi ⟨rfl,z,r⟩ hC
 try simp only[push_cast]
 refine zb (λa=>?_) (λa=>?_)
 .have l:i<c.length:=oM;have h2:=h.ext z;have L:=h2.mar.pairs;simp(disch:=first|(simp only[push_cast])|(rw[M.markL_len];omega)|omega) only[push_cast,L.iaddr,gl,L.load,M.markL_get l];refine zi QO λb3 w3 aa a0 ad T=>?_;refine T.stAgg (cs':=[nI ((M.decL (c.take (i+1))).length:Int),nI ((M.terL (c.take (i+1))).length:Int)]) rfl x50 (two_one rfl rfl) λw4 a8 ae U=>?_;refine zd λw5 G _=>?_;have B:Ext w2 w5:=(Ext.then a0 a8 λy hy=>by subst hy;omega).trans G;have S:=h2.ext B;have s:=U.ext G;have e5:=z.trans B;have l1:=M.terL_le (c:=c) (i:=i+1) oM;have l2:=M.decL_le (c:=c) (i:=i+1) oM;have l3:(M.terL (c.take i)).length<=(M.terL (c.take (i+1))).length:=by rw[M.terL_take l,q0];omega
  obtain⟨pv,D,p⟩:=S.ter.tms.mid yo0 l3 l1;rw[M.terL_mid l] at p;simp only[push_cast,S.blk.ld1,s.ld1,y1,D,p.len];refine vloop_up (c.getD i ([],[])).2.length (λj u w'=>u=[nI j]/\Ext w5 w'/\∀k,k<j->M.tsort (M.decL (c.take (i+1))) ((c.getD i ([],[])).2.getD k default)=0) ⟨rfl,Same.refl _ _,λk hk=>absurd hk oM⟩ ?_;rintro j _ _ w6 C1 hj ⟨rfl,f,g⟩ Z
  try simp only[push_cast]
  have N:=p.ext f;have ac:=p.small;refine zb (λa5=>?_) (λa5=>?_)
  .have o:j<(c.getD i ([],[])).2.length:=oM;simp(disch:=exact oS) only[push_cast,N.iaddr];refine N.load zc o λx hx=>?_;obtain⟨cs,rfl,v⟩:=hx.cells;refine zi zq λb7 w7 ab H af W=>?_;refine stTerm W rfl (v.ext H) λw8 a9 ag X=>?_;refine zd λw9 I _=>?_;have m:Ext w6 w9:=(Ext.then H a9 λy hy=>by subst hy;omega).trans I;have h9:=S.ext (f.trans m);have Y:=s.ext (f.trans m);have q9:=X.ext I;have hg:aggB za cs.length=true:=by rw[zU v];exact zc
   have E:=h9.dec;simp(disch:=first|(simp only[push_cast])|(rw[y4];exact l2)) only[push_cast,h9.blk.ld0,Y.ld0,y1,YF0 E kH];rw[q9.ldAgg (t:=za) hg];refine⟨rfl,?_⟩;refine TermSort_spec (ds:=M.decL (c.take (i+1))) (by have:=E.dcls.taken l2;rw[M.decL_pre] at this;exact this) (v.ext m).term λw10 F=>?_
   try simp only[push_cast,y1]
   have A:=(f.trans m).trans F;refine zb (λR=>no _ (e5.trans A) λe=>R ((M.ctx_iff.1 e).2.2.2.2 i l _ (M.getD_mem o _))) (λR=>?_);rw[inc64' oM];refine Z o _ _ ⟨rfl,A,λk hk=>?_⟩;by_cases e:k<j
   .exact g k e
   .have:k=j:=oM;subst this;exact PJ.1 R
  .have o:j=(c.getD i ([],[])).2.length:=oM;have V:=s.ext f;simp only[push_cast,V.ld1];rw[inc64' oM];refine hC l _ _ ⟨rfl,e5.trans f,λk hk t ht=>?_⟩;by_cases e:k<i
   .exact r k e t ht
   .have:k=i:=oM;subst this;obtain⟨q,hq,rfl⟩:=gn ht;have:=g q oM;rwa[y2,V0 hq] at this
 .have a7:i=c.length:=oM;subst a7;have:=hK _ z;rwa[M.ctx_iff.2 ⟨Q,a2,a3,a4,r⟩] at this
end
section
variable {w w' w1 w2:World} {K:oK} {F D G H S:oA} {n b k p many:Nat} {v lv tv dv nv ev x3 x4 x5 f:Value} {t:M.Tm} {ts:List M.Tm} {ds:List M.Dcl} {c:M.Cnf} {ar ab at_ an am:Addr}
theorem ZY0 {o:Nat} {cs cs':List Value} {t0 t:TypeId} (h:Blk w b cs t0) (e:o+cs'.length<=cs.length) (g:aggB t cs'.length=true) (a:∀v,v∈cs'->v.oneCell'=true)
  (c:∀w',Same (· =b) w w'->w'.heap.size=w.heap.size->Blk w' b (cs.take o++cs'++cs.drop (o+cs'.length)) t0->K undef w'):zT t (oP b o) (.agg ⟨cs'⟩) w K:=by
 have f:=run_storeCells_at (P:=P) b o t0 cs' 0 ⟨cs⟩ w h (by simpa using e) a;refine⟨(),_,?_,c (w.setRow b (cs.take o++cs'++cs.drop (o+cs'.length)).toArray) ⟨rfl,rfl,rfl,by simp,λk _ d=>setRow_other w b k _ d⟩ (by simp) (setRow_heap w b _ _ t0 _ h)⟩;simp only[Instr.storeAt,Instr.sureAddr,Sem.run_bind,Sem.run_pure,Result.andThen_ok,storeVar,ja g,Value.cells];simp only[G2,PY,not_true_eq_false,if_false];exact f
theorem jobFold_spec (r:Blk w b [dv,tv,nv,x3,x4,x5] y7) (hd:DclsR F w dv ds) (N:TmsR F w tv ts) (a6:∀x,F x->x≠b) (hs:ts.length<=2000000) (Z:Sent w yN at_)
  (U:∀t,t∈ts->M.tsort ds t≠0->∀w',Ext w w'->K (erv at_) w')
  (V:(∀t,t∈ts->M.tsort ds t=0)->∀w' L,Same (· =b) w w'->Blk w' b [dv,L,nv,x3,x4,x5] y7->TmsR (λx=>w.heap.size<=x) w' L (ts.map (Qw ds))->K .nilIface w'):
  vcall jZ #[oP b 0] w K:=by
 refine ze {loops:=[(3,[3,11])]} Tryz.func150 ?_;have lb:=r.lt;simp only[push_cast,r.ld1,N.len];refine vloop_up ts.length (λi u w'=> ∃lv H,u=[lv,nI i]/\Ext w w'/\LstH H w' lv ((ts.take i).map (Qw ds))/\(∀x,H x->w.heap.size<=x)/\(∀x,lv.ownBlock=some x->w.heap.size<=x/\¬H x)/\∀j,j<i->M.tsort ds (ts.getD j default)=0)
  ⟨_,λ_=>False,rfl,Same.refl _ _,LstH.nil,λx d=>d.elim,λx d=>(by cases d),λj D=>absurd D oM⟩ ?_
 rintro i _ _ w2 C hi ⟨lv,H,rfl,c,f,hH,hO,n⟩ hC;refine oZ ?_;refine zb (λa=>?_) (λa=>?_)
 .have m:i<ts.length:=oM;have G:=N.ext c;simp(disch:=exact oS) only[push_cast,G.iaddr];refine G.load zc m λx d=>?_;obtain⟨cs,rfl,l⟩:=d.cells;have hg:aggB za cs.length=true:=by rw[zU l];exact zc
  refine zi zq λb3 w3 a7 s a3 o=>?_;refine stTerm o rfl (l.ext s) λw4 a0 a8 R=>?_;refine zd λw5 v _=>?_;have k:Ext w2 w5:=(Ext.then s a0 λy hy=>by subst hy;omega).trans v;have S:=r.ext (c.trans k);have q5:=R.ext v;simp only[push_cast,S.ld0,y1];rw[q5.ldAgg (t:=za) hg];refine⟨rfl,?_⟩;refine TermSort_spec (hd.ext (c.trans k)) (l.ext k).term λw6 z=>?_;have p:=k.trans z;have e6:=c.trans p;simp only[push_cast,y1];refine zb (λO=>?_) (λO=>?_)
  .have I:=Z.same e6 id;rw[y5 xt I.cell];exact U _ (M.getD_mem m _) O _ e6
  .refine zd λw7 A _=>?_;have g:=p.trans A;have T:=r.ext (c.trans g);have q7:=q5.ext (z.trans A);simp only[push_cast,T.ld0,y1];rw[q7.ldAgg (t:=za) hg];refine⟨rfl,?_⟩;refine TermFold_spec (hd.ext (c.trans g)) (l.ext g).term λw8 a5 B Y=>?_;have q:=g.trans B;have a9:=g.size;have z2:=c.size;have z8:=B.size;have llt:∀x,lv.ownBlock=some x->x<w2.heap.size:=λx d=>f.lt d;refine LstH.push (f.ext q) (λx d=>⟨(hO x d).2,λe=>by have:=llt x d;omega⟩) (xO0 _ Y).term (by rw[y4,gh];omega) λw9 a4 a2 X E=>?_
   try simp only[push_cast]
   rw[inc64' oM];rw[show(ts.take i).map (Qw ds)++[Qw ds (ts.getD i default)]=(ts.take (i+1)).map (Qw ds) by rw[<-Jz m,gz];rfl] at E;refine hC m _ _ ⟨a4,_,rfl,Ext.then (c.trans q) a2 λx d=>(hO x d).1,E,λx d=>?_,λx d=>?_,λj D=>?_⟩
   .rcases d.1 with h|h
    .exact hH x h
    .have:=h.1;omega
   .rcases X x d with e|e
    .refine⟨(hO x e).1,λh=>?_⟩;have:=llt x e;rcases h.1 with h|h
     .exact(hO x e).2 h
     .have:=h.1;omega
    .exact⟨oM,λh=>by have:=h.2;omega⟩
   .by_cases e:j<i
    .exact n j e
    .have:j=i:=oM;subst this;exact PJ.1 O
 .have W:i=ts.length:=oM;subst W;rw[gy] at f;have Q:=r.ext c;refine Q.st (i:=1) f.tms.cellsV f.tms.one xy rfl λw3 J a3 o=>?_;refine V (λt N=>?_) w3 lv ((Same.of_ext c).trans J) o ?_
  .obtain⟨j,D,rfl⟩:=gn N;have:=n j D;rwa[y2,V0 D] at this
  .exact(f.tms.same J λx d _ e=>by
    have:w.heap.size<=x:=d.elim (hH x) λh=>(hO x h).1;omega).weaken λx d _=>d.elim (hH x) λh=>(hO x h).1
theorem jobBlast_spec (z:Blk w b [dv,tv,nv,x3,x4,x5] y7) (I:DclsR F w dv ds) (M:TmsR G w tv ts) (he:Errs (λ_=>False) w ar ab) (D:Sent w yN at_)
  (O:∀w' lv ls,Same (· =b) w w'->Blk w' b [dv,tv,nv,nI (cnfE ds ts).1.many,lv,x5] y7->CnfO w.heap.size w' lv ls (cnfE ds ts).1->K (errV ar at_ (cnfE ds ts).2) w'):vcall jr #[oP b 0] w K:=by
 refine ze {cuts:=[(8194,[3,4])]} Tryz.func151 ?_;have lb:=z.lt;refine zo (λu w'=> ∃b3 lv ls,u=[oP b3 0,errV ar at_ (cnfE ds ts).2]/\Ext w w'/\w.heap.size<=b3/\Blk w' b3 [nI (cnfE ds ts).1.many,lv] zp/\CnfO w.heap.size w' lv ls (cnfE ds ts).1) (λJ H=>?_) ?_
 .refine zd λw1 c _=>?_;have k:=z.ext c;have V:=c.size;have j:=D.same c id;have i:=he.ext0 c;simp only[push_cast,k.ld0,k.ld1,y1,gQ];refine⟨?_,?_⟩
  .refine blastCnf_spec (I.ext c) (M.ext c) i j λw2 lv ls g f=>?_;have z2:=g.size;simp only[push_cast,y1,gQ];refine zi xr λb3 E m a s d=>?_;have C:=f.ext a
   try simp only[push_cast,y1,gQ,V1]
   refine d.stAgg (cs':=[nI (cnfE ds ts).1.many,lv]) rfl zD (two_one rfl C.lst.vals.one) λT q R A=>?_
   try simp only[push_cast,y1,gQ,V1]
   refine H _ _ ⟨b3,lv,ls,rfl,Ext.then ((c.trans g).trans a) q λy Q=>oM,oM,A,(f.same ((Same.of_ext a).trans q) λx N L e=>oM).down oM⟩
  .refine zi xr λb3 E m a s d=>?_;have h:=k.ext a;have v:=c.trans a;have z3:=a.size;simp only[push_cast,h.ld0,h.ld1,y1,V1];refine blastCnf_spec (I.ext v) (M.ext v) (i.ext0 a) (j.same a id) λT lv ls n l=>?_;simp only[push_cast,y1,gQ];refine(d.ext n).stAgg (cs':=[nI (cnfE ds ts).1.many,lv]) rfl zD (two_one rfl l.lst.vals.one) λU r S B=>?_
   try simp only[push_cast,y1,gQ,V1]
   exact H _ _ ⟨b3,lv,ls,rfl,Ext.then (v.trans n) r λy Q=>oM,oM,B,(l.same r λx N L e=>oM).down oM⟩
 .rintro _ _ w2 ⟨b3,lv,ls,rfl,g,m,d,f⟩;refine oZ ?_;rw[d.ldAgg (t:=zp) zD]
  try simp only[push_cast]
  refine ZY0 (o:=3) (z.ext g) (by simp) zD (two_one rfl f.lst.vals.one) λE p s d=>?_;exact O E lv ls ((Same.of_ext g).trans p) d (f.same p λx N L e=>oM)
theorem jobExclude_spec (d:Blk w b [dv,tv,oN,x3,x4,x5] y7) (e:K .nilIface w):vcall qK #[oP b 0] w K:=by
 refine ze {loops:=[(2,[13]),(6,[5,24])]} Tryz.func152 ?_;have c:Vals (λ_=>False) w (oN) []:=OwnV.nil (t:=zI)|>.vals.weaken λx f _=>(by cases f);simp only[push_cast,d.ld2,c.len,pH];refine vloop_up 0 (λi u w'=>u=[nI i]/\w'=w) ⟨rfl,rfl⟩ ?_;rintro i _ _ _ C hi ⟨rfl,rfl⟩ g;refine oZ ?_;refine zb (λa=>absurd a oM) (λ_=>e)
theorem vals_ins {put:oI} (h:1+n<=many):((Zr many put).drop 1).take n=M.insV (M.wayM put) n:=by
 refine gL (by simp[Zr,M.insV];omega) λi a b=>?_;simp[Zr,M.insV,M.wayM,Nat.add_comm 1 i,Pn];rw[show(i:Int)+1+1=i+2 by omega]
theorem jobSearch_spec (g:Blk w b [dv,tv,nv,nI c.many,lv,x5] y7) (hd:DclsR F w dv ds) (a1:∀x,F x->x≠b) (l:M.declOk ds=true) (hc:CnfR G w (.agg #[nI c.many,lv]) c) (u:M.cnfOk c=true) (hn:1+M.nIn ds<=c.many.toNat) (W:Sent w jp an) (U:Sent w qw am)
  (m:(M.searchM 4000 ds c).2=1->∀w' ev,Same (· =b) w w'->Blk w' b [dv,tv,nv,nI c.many,lv,ev] y7->OwnI zh w' ev (M.searchM 4000 ds c).1->(∀x,ev.ownBlock=some x->w.heap.size<=x)->K .nilIface w')
  (o:M.searchM 4000 ds c=([],2)->∀w',Ext w w'->K (erv an) w') (p:M.searchM 4000 ds c=([],3)->∀w',Ext w w'->K (erv am) w'):vcall j6 #[oP b 0] w K:=by
 refine ze {} Tryz.func153 ?_;have lb:=g.lt;obtain⟨V,a5⟩:=M.nIn_eq l;have R:zu zp (oP b 3) w=λK=>K (.agg #[nI c.many,lv]) w:=by
  funext K
  refine Xo (cs:=[nI c.many,lv]) zD λi v C=>?_;rw[yx]
  match i,C with
  |0,C=>exact g.cell (by simpa using C)
  |1,C=>exact g.cell (by simpa using C)
 simp only[push_cast];rw[R];have a3:0<=c.many:=oM
 refine run_spec (many:=c.many.toNat) (n:=4000) hc u oM (gp _) λFr bs σ w2 f h _ _ _=>?_;have a0:=g.ext f;have z2:=f.size;simp only[push_cast,h.blk.ld5];have d:M.searchM 4000 ds c=if(M.runM c.many.toNat c 4000 M.emptyS).code=1 then(M.envB ds (M.insV (M.wayM (M.runM c.many.toNat c 4000 M.emptyS).put) (M.nIn ds)),1) else if(M.runM c.many.toNat c 4000 M.emptyS).code=2 then([],2) else([],3):=rfl
 generalize M.searchM 4000 ds c=sr at d m o p;generalize hs:M.runM c.many.toNat c 4000 M.emptyS=s at h d;refine zb (λa=>?_) (λa=>?_)
 .rw[y3 a] at d;refine zd λw3 z _=>?_;have e3:=f.trans z;have J:=g.ext e3;simp only[push_cast,J.ld0,y1];refine vals_spec (h.ext z) λw4 vv S X a4=>?_;have I:=e3.trans S;have L:=g.ext I;simp only[push_cast,L.ld0,y1,V1];refine bitsOf_spec (hd.ext I) l λw5 A=>?_;have H:=I.trans A;have N:=g.ext H;simp only[push_cast,N.ld0,y1,V1];rw[zk oM oM,<-V,show(1:Int)+(M.nIn ds:Int)=((1+M.nIn ds:Nat):Int) by omega];obtain⟨v6,y,Y⟩:=Sl.mid (X.ext A).bools (t:=qB) (k:=1) xa0 (a:=1) (b:=1+M.nIn ds) oM (by simp[Zr];omega);rw[show(1:Int)=((1:Nat):Int) from rfl,y]
  try simp only[push_cast,y1]
  have D:Bools (λx=>vv.ownBlock=some x) w5 v6 (M.insV (M.wayM s.put) (M.nIn ds)):=by
   have q:=Y;rw[show 1+M.nIn ds-1=M.nIn ds by omega,<-Po,<-GH,<-Po,<-GH,vals_ins hn] at q;exact q
  refine BlastEnv_spec (hd.ext H) D l (by rw[M.insV_len]) λw7 r T j B=>?_;have e7:=H.trans T;have O:=g.ext e7
  try simp only[push_cast,y1]
  refine O.st (i:=5) j.ints.cells1 j.ints.one jg rfl λw8 E a6 Q=>?_;have z5:=H.size;subst d;exact m rfl w8 r ((Same.of_ext e7).trans E) Q (j.same E λx Z e=>by have:=B x Z;omega) λx Z=>by have:=B x Z;omega
 .rw[y0 a] at d;refine zb (λa2=>?_) (λa2=>?_)
  .rw[y3 a2] at d;rw[y5 xt (W.same f id).cell];exact o d w2 f
  .rw[y0 a2] at d;rw[y5 xt (U.same f id).cell];exact p d w2 f
end
section
variable {w w' w1 w2:World} {K:oK} {F F' D G H S:oA} {n b k p:Nat} {v lv tv dv ev f:Value} {xs:List Nat} {t:M.Tm} {ts us:List M.Tm} {ds:List M.Dcl} {c:M.Cnf} {ar ab at_ an am:Addr}
def RowA (w:World) (a:Addr):Prop:= ∃(c:Array Value) (t:TypeId),w.heap[a.block]?=some (.cells c t (0,0))
theorem RowA.ext {a:Addr} (h:RowA w a) (he:Ext w w'):RowA w' a:=by
 obtain⟨c,t,h⟩:=h;refine⟨c,t,?_⟩;rw[he.block _ (gA.1 h).1 id];exact h
structure Er (w:World) (at_ an am ar ab:Addr):Prop where
 terms:Sent w yN at_
 no:Sent w jp an
 much:Sent w qw am
 errs:Errs (λ_=>False) w ar ab
 rt:RowA w at_
 rn:RowA w an
 rm:RowA w am
 rr:RowA w ar
 d1:an≠at_
 d2:am≠at_
 d3:am≠an
 d4:ar≠at_
 d5:ar≠an
 d6:ar≠am
theorem Er.ext (h:Er w at_ an am ar ab) (he:Ext w w'):Er w' at_ an am ar ab:=
 ⟨h.terms.same he id,h.no.same he id,h.much.same he id,h.errs.ext0 he,h.rt.ext he,h.rn.ext he,h.rm.ext he,h.rr.ext he,h.d1,h.d2,h.d3,h.d4,h.d5,h.d6⟩
def errE (at_ an am ar:Addr):Nat->Value
 |0=> .nilIface
 |1=>erv ar
 |2=>erv at_
 |3=>erv an
 |_=>erv am
theorem Wl {a c:Addr} (h:a≠c) (f:RowA w a) (g:RowA w c) (e:K (.bool false) w):vcall qk #[erv a,erv c] w K:=by
 obtain⟨_,_,b⟩:=f;obtain⟨_,_,d⟩:=g;exact Zr0 h b d e
theorem switch_spec {r q j X:World->Prop} (er:Er w at_ an am ar ab) (k:Nat) (l:k=0->X w) (m:k=1->j w) (n:k=2->r w) (o:k=3->q w) (p:4<=k->j w):
  zu xw (oP yN 0) w λt28 e=>vcall qk #[errE at_ an am ar k,t28] e λt29 b=>vif t29 (r b) (
   zu xw (oP jp 0) b λt32 f=>vcall qk #[errE at_ an am ar k,t32] f λt33 c=>vif t33 (q c) (
    zu xw (oP qw 0) c λt36 g=>vcall qk #[errE at_ an am ar k,t36] g λt37 a=>vif t37 (vif t37 (j a) (X a)) (
     zu xw (oP xX 0) a λt39 i=>vcall qk #[errE at_ an am ar k,t39] i λt40 d=>vif t40 (j d) (X d)))):=by
 rw[y5 xt er.terms.cell]
 match k,l,m,n,o,p with
 |0,l,_,_,_,_=>
  refine jx0 (zn (λh=>by cases h) λ_=>?_);rw[y5 xt er.no.cell];refine jx0 (zn (λh=>by cases h) λ_=>?_);rw[y5 xt er.much.cell];refine jx0 (zn (λh=>by cases h) λ_=>?_);rw[y5 xt er.errs.room.cell];exact jx0 (zn (λh=>by cases h) λ_=>l rfl)
 |1,_,m,_,_,_=>
  refine Wl er.d4 er.rr er.rt (zn (λh=>by cases h) λ_=>?_);rw[y5 xt er.no.cell];refine Wl er.d5 er.rr er.rn (zn (λh=>by cases h) λ_=>?_);rw[y5 xt er.much.cell];refine Wl er.d6 er.rr er.rm (zn (λh=>by cases h) λ_=>?_);rw[y5 xt er.errs.room.cell];exact yf0 (zn (λ_=>m rfl) λh=>by cases h)
 |2,_,_,n,_,_=>exact yf0 (zn (λ_=>n rfl) λh=>by cases h)
 |3,_,_,_,o,_=>
  refine Wl er.d1 er.rn er.rt (zn (λh=>by cases h) λ_=>?_);rw[y5 xt er.no.cell];exact yf0 (zn (λ_=>o rfl) λh=>by cases h)
 |k+4,_,_,_,_,p=>
  refine Wl er.d2 er.rm er.rt (zn (λh=>by cases h) λ_=>?_);rw[y5 xt er.no.cell];refine Wl er.d3 er.rm er.rn (zn (λh=>by cases h) λ_=>?_);rw[y5 xt er.much.cell];exact yf0 (zn (λ_=>zn (λ_=>p oM) λh=>by cases h) λh=>by cases h)
theorem XK0 {d e f:Option Addr} {a c1 b c2 c c3:Nat}:yr y7 [(0,.slice d a c1),(1,.slice e b c2),(2,.slice f c c3)] w K=K (.agg ⟨[.slice d a c1,.slice e b c2,.slice f c c3,nI 0,oN,oN]⟩) w:=
 zS qk0 (us:=[[.slice d a c1],[.slice e b c2],[.slice f c c3]]) rfl rfl
theorem bdJob (b:DclsR F w' dv ds) (d:TmsR G w' tv ts):yr y7 [(0,dv),(1,tv),(2,oN)] w K=K (.agg ⟨[dv,tv,oN,nI 0,oN,oN]⟩) w:=by
 obtain⟨a,c,rfl,_⟩:=b.shape;obtain⟨_,h,_⟩:=d;obtain⟨e,c',rfl,_⟩:=h.shape;exact XK0
def j00:List Value:=[.func (.func jZ) #[] #[],.func (.func jr) #[] #[],.func (.func qK) #[] #[],.func (.func j6) #[] #[]]
theorem stages_spec (d:∀w' b,b=w.heap.size->Ext w w'->Vals (· =b) w' (.slice (some ⟨b,0,none⟩) 4 4) j00->K (.slice (some ⟨b,0,none⟩) 4 4) w'):vcall Uf #[] w K:=by
 refine ze {} Tryz.func109 ?_;exact vbuildS_row1 (xs:=j00) kT kM ko (λx a=>by
  simp only[j00,gg,gx,Ge] at a;rcases a with rfl|rfl|rfl|rfl<;>rfl) dC λb w1 e he f c=>d w1 b e he (c.sl1 rfl dC)
theorem xz0:x70 c ds []=c:=by unfold x70;simp
def JobS (w0:World) (b:Nat) (dv tv:Value) (ds:List M.Dcl) (ts:List M.Tm) (w:World):oA
 |0=>Blk w b [dv,tv,.slice none 0 0,nI 0,.slice none 0 0,.slice none 0 0] y7
 |1=>(∀t,t∈ts->M.tsort ds t=0)/\∃tv',Blk w b [dv,tv',.slice none 0 0,nI 0,.slice none 0 0,.slice none 0 0] y7/\TmsR (λx=>w0.heap.size<=x/\x≠b) w tv' (ts.map (Qw ds))
 |4=>(qW ds ts []).2=1/\∃tv' y z ev,Blk w b [dv,tv',.slice none 0 0,y,z,ev] y7/\OwnI zh w ev (qW ds ts []).1/\∀x,ev.ownBlock=some x->w0.heap.size<=x
 |_=>zd0 ds ts=true/\(cnfE ds (ts.map (M.foldT ds))).2=0/\∃tv' lv ls,Blk w b [dv,tv',.slice none 0 0,nI (cnfE ds (ts.map (M.foldT ds))).1.many,lv,.slice none 0 0] y7/\CnfO w0.heap.size w lv ls (cnfE ds (ts.map (M.foldT ds))).1
theorem solved_spec (hd:DclsR F w dv ds) (N:TmsR G w tv ts) (hs:ts.length<=2000000) (er:Er w at_ an am ar ab)
  (hK:∀w' ev,Ext w w'->OwnI zh w' ev (qW ds ts []).1->(∀x,ev.ownBlock=some x->w.heap.size<=x)->K (.tuple #[ev,nI (qW ds ts []).2]) w'):vcall Ug #[dv,tv,oN] w K:=by
 refine ze {loops:=[(3,[19])]} Tryz.func71 ?_;rw[bdJob hd N];refine zj λb w1 hb S a6 Z=>?_;refine stages_spec λw2 b2 a5 D O=>?_;have z1:=S.size;have z2:=D.size;have e2:=S.trans D;have a0:=Z.ext D;have out:∀{w':World} {k:Int},Ext w w'->qW ds ts []=([],k)->K (.tuple #[oN,nI k]) w':=λ{w' k} he h=>by
  have:=hK w' (oN) he;rw[h] at this;exact this OwnI.nil λx J=>(by cases J)
 simp only[push_cast,O.len];rw[show j00.length=4 from rfl];refine vloop_up 4 (λi u w'=>u=[nI i]/\Same (· =b) w2 w'/\JobS w b dv tv ds ts w' i) ⟨rfl,Same.refl _ _,a0⟩ ?_;rintro i _ _ q C hi ⟨rfl,I,L⟩ hC;have j:Ext w q:=Ext.then e2 I λy hy=>oM
 have l:=er.ext j;have B:=(hd.weaken (F':=λx=>x<w.heap.size) λx _ h=>h).ext j;have a2:=(N.weaken (F':=λx=>x<w.heap.size) λx _ h=>h).ext j;have Q:=O.same I λx J _ e=>oM
 refine oZ ?_;refine zb (λa=>?_) (λa=>?_)
 .have T:i<4:=oM;rw[Q.iaddr kZ oM (by show(i:Int)<4;omega),gl,Q.load kP (by exact T)];have next:∀{d:World},Same (· =b) q d->JobS w b dv tv ds ts d (i+1)->C [nI (IntKind.i64.wrap ((i:Int)+1))] d:=λ{d} c h4=>by
   rw[inc64' oM];exact hC T _ _ ⟨rfl,I.trans c,h4⟩
  have v:∀{d:World},Same (· =b) q d->Ext w d:=λ{d} c=>Ext.then j c λy hy=>oM;have two:∀{d:World},Ext w d->¬zd0 ds ts=true->K (.tuple #[oN,nI 4]) d:=λhe h=>out he (Wd h);rcases(by omega:i=0\/i=1\/i=2\/i=3) with rfl|rfl|rfl|rfl
  .show vcall jZ #[oP b 0] q _;refine jobFold_spec (show Blk q b [dv,tv,oN,nI 0,oN,oN] y7 from L) B a2 (λx J=>oM) hs l.terms (λt N h d f=>?_) λg d a4 c o a3=>?_
   .have r:=j.trans f;exact switch_spec (er.ext r) 2 (λh=>by cases h) (λh=>by cases h) (λ_=>two r λm=>h ((all8_iff.1 m).2.2 t N)) (λh=>by cases h) (λh=>oM)
   .have z3:=j.size;exact switch_spec (er.ext (v c)) 0 (λ_=>next c ⟨g,a4,o,a3.weaken λx J _=>⟨oM,by have:=L.lt;omega⟩⟩) (λh=>by cases h) (λh=>by cases h) (λh=>by cases h) (λh=>oM)
  .obtain⟨g,p,n,V⟩:=L;show vcall jr #[oP b 0] q _;refine jobBlast_spec n B V l.errs l.terms λd lv ls c o R=>?_;have r:=v c;by_cases m:zd0 ds ts=true
   .have U:ts.map (Qw ds)=ts.map (M.foldT ds):=GC λt N=>(Wm (all8_iff.1 m).2.1 (g t N)).2;rw[U] at o R⊢;have z3:=j.size;rcases k10 (Q1 m) with s|s
    .rw[s];exact switch_spec (er.ext r) 0 (λ_=>next c ⟨m,s,p,lv,ls,o,R.down z3⟩) (λh=>by cases h) (λh=>by cases h) (λh=>by cases h) (λh=>oM)
    .rw[s];exact switch_spec (er.ext r) 1 (λh=>by cases h) (λ_=>out r (JB m (by rw[s];decide))) (λh=>by cases h) (λh=>by cases h) (λh=>oM)
   .have s:(cnfE ds (ts.map (Qw ds))).2=2:=by
     unfold cnfE;rw[y0 λh=>m (all8_iff.2 ⟨by have:=(all8_iff.1 h).1;rwa[y4] at this,(all8_iff.1 h).2.1,g⟩)]
    rw[s];exact switch_spec (er.ext r) 2 (λh=>by cases h) (λh=>by cases h) (λ_=>two r m) (λh=>by cases h) (λh=>oM)
  .obtain⟨m,X,p,lv,ls,n,A⟩:=L;show vcall qK #[oP b 0] q _;refine jobExclude_spec n ?_;exact switch_spec l 0 (λ_=>next (Same.refl _ _) ⟨m,X,p,lv,ls,n,A⟩) (λh=>by cases h) (λh=>by cases h) (λh=>by cases h) (λh=>oM)
  .obtain⟨m,X,p,lv,ls,n,A⟩:=L;show vcall j6 #[oP b 0] q _;obtain⟨W,q2,q3⟩:=solveR_run (nots:=[]) m X (λe he=>by cases he) (by simp);rw[xz0] at W q2;refine jobSearch_spec n B (λx J=>oM) (all8_iff.1 m).2.1 A.cnf q2 q3 l.no l.much (λY d ev c o E H=>?_) (λh2 d f=>?_) λh3 d f=>?_
   .exact switch_spec (er.ext (v c)) 0 (λ_=>next c ⟨by rw[W];exact Y,p,_,lv,ev,o,by rw[W];exact E,λx J=>by have:=H x J;have:=j.size;omega⟩) (λh=>by cases h) (λh=>by cases h) (λh=>by cases h) (λh=>oM)
   .exact switch_spec (er.ext (j.trans f)) 3 (λh=>by cases h) (λh=>by cases h) (λh=>by cases h) (λ_=>out (j.trans f) (by rw[W];exact h2)) (λh=>oM)
   .exact switch_spec (er.ext (j.trans f)) 4 (λh=>by cases h) (λh=>by cases h) (λh=>by cases h) (λh=>by cases h) (λ_=>out (j.trans f) (by rw[W];exact h3))
 .have a1:i=4:=oM;subst a1;obtain⟨Y,p,y,z,ev,hB,E,H⟩:=L;have:=hK q ev j E H;rw[Y] at this;simp only[push_cast,hB.ld5];exact this
end
section
variable {w w' w1 w2:World} {K:oK} {F F' G H S:oA} {n b k:Nat} {v lv tv dv f:Value} {t:M.Tm} {d:M.Dcl} {c e:List M.Lay} {css:List (Value×Value)}
theorem LaysR.load0 (h:LaysR F w v c) {t:TypeId} (e:oneB t=true) {i:Nat} (hi:i<c.length) (d:∀dv,DclsR F w dv (c.getD i ([],[])).1->K dv w):zu t (oE ((eaddr v 2 i).add 0)) w K:=by
 obtain⟨css,a,f,b⟩:=h;rw[Sl.ldField a e (x:=(css.getD i (undef,undef)).1) (by rw[y4];omega) (by rw[M.getD_map _ oM _ (undef,undef)];rfl)];exact d _ (b i hi).1
theorem LaysR.load1 (h:LaysR F w v c) {t:TypeId} (e:oneB t=true) {i:Nat} (hi:i<c.length) (d:∀tv,TmsR F w tv (c.getD i ([],[])).2->K tv w):zu t (oE ((eaddr v 2 i).add 1)) w K:=by
 obtain⟨css,a,f,b⟩:=h;rw[Sl.ldField a e (x:=(css.getD i (undef,undef)).2) (by rw[y4];omega) (by rw[M.getD_map _ oM _ (undef,undef)];rfl)];exact d _ (b i hi).2
theorem LaysR.taken (h:LaysR F w v c) {n:Nat} (e:n<=c.length):LaysR F w (cutV v n) (c.take n):=by
 obtain⟨css,a,b,d⟩:=h;refine⟨css.take n,by rw[GH];exact a.taken (by rw[y4];omega),by rw[gh,gh,b],λi hi=>?_⟩;rw[gh] at hi;rw[M.take_getD oM,M.take_getD oM];exact d i oM
theorem LaysR.cut (h:LaysR F w v c) (a:c≠[]) {t:TypeId} (d:elB t 2=true) {kd:IntKind} {n:Nat} (j:n<=c.length):xf t v none (some (.int kd n)) none w' K=K (cutV v n) w':=by
 obtain⟨css,b,f,g⟩:=h;have i:0<c.length:=GB.2 a;exact Sl.cut b (Sl.base b λe=>by have:=congrArg List.length e;rw[y4,pH] at this;omega) d (by rw[y4];omega)
theorem l10Decls_spec (E:LaysR F w v c) (s:CtxB c) (A:∀w' v',Ext w w'->DclsR (λx=>w.heap.size<=x) w' v' (M.decL c)->K v' w'):vcall JR #[v] w K:=by
 refine ze {loops:=[(3,[3,4])]} Tryz.func66 ?_;have hlen:=s.len;refine yj zq0 yB0 λb w1 B l G n=>?_;have J:=l.size;have t:OwnD w1 (.slice (some ⟨b,0,none⟩) 0 0) []:=Blk.ownk (css:=[]) (by rw[XT];exact n) (λx g=>by cases g) rfl oM;refine vloop_up c.length (λi u w'=> ∃lv,u=[lv,nI i]/\Ext w w'/\OwnD w' lv (M.decL (c.take i))/\∀x,lv.ownBlock=some x->w.heap.size<=x) ⟨_,rfl,l,t,λx g=>by have e:b=x:=K3 g;omega⟩ ?_;rintro i _ _ w2 C hi ⟨lv,rfl,d,m,j⟩ z;have k:=(E.weaken (F':=λx=>x<w.heap.size) λx _ h=>h).ext d;simp only[push_cast,k.len];refine zb (λa=>?_) (λa=>?_)
 .have f:i<c.length:=oM;have H:=(ctxB_take s (i+1)).dec;rw[M.decL_take f,q0] at H;simp(disch:=exact oS) only[push_cast,k.iaddr,gl];refine k.load0 QS f λdv D=>?_;refine OwnD.app m D oM λI r q p y=>?_;rw[inc64' oM];refine z f _ _ ⟨r,rfl,Ext.then d q λx g=>j x g,by rw[M.decL_take f];exact y,λx g=>?_⟩;have z2:=d.size;rcases p x g with h|h
  .exact j x h
  .omega
 .have o:i=c.length:=oM;subst o;rw[gy] at m;exact A _ _ d (m.dcls.weaken λx g _=>j x g)
theorem l10Terms_spec (J:LaysR F w v c) (A:CtxB c) (H:∀w' v',Ext w w'->TmsR (λ_=>True) w' v' (M.terL c)->K v' w'):vcall JQ #[v] w K:=by
 refine ze {loops:=[(3,[3,4])]} Tryz.func67 ?_;have hlen:=A.len;refine yj qf qz λb w1 I l L n=>?_;have Q:=l.size;have D:LstH (λx=>x<w.heap.size) w1 (.slice (some ⟨b,0,none⟩) 0 0) []:=⟨[],Blk.ownk (css:=[]) (by rw[jP];exact n) (λx d=>by cases d) rfl oM,rfl,λi hi=>absurd hi (pI _)⟩;refine vloop_up c.length (λi u w'=> ∃lv,u=[lv,nI i]/\Ext w w'/\LstH (λx=>x<w.heap.size) w' lv (M.terL (c.take i))/\∀x,lv.ownBlock=some x->w.heap.size<=x) ⟨_,rfl,l,D,λx d=>by have e:b=x:=K3 d;omega⟩ ?_;rintro i _ _ w2 C hi ⟨lv,rfl,f,m,j⟩ G;have k:=(J.weaken (F':=λx=>x<w.heap.size) λx _ h=>h).ext f;simp only[push_cast,k.len];refine zb (λa=>?_) (λa=>?_)
 .have g:i<c.length:=oM;have N:=(ctxB_take A (i+1)).ter;rw[M.terL_take g,q0] at N;simp(disch:=exact oS) only[push_cast,k.iaddr,gl];refine k.load1 qD g λtv y=>?_;obtain⟨B,s,q,o⟩:=y;have z2:=f.size;refine LstH.app m (λx d=>⟨λe=>by have:=j x d;omega,λe=>by have:=j x d;omega⟩) s q o oM λO z t r E=>?_;rw[inc64' oM];refine G g _ _ ⟨z,rfl,Ext.then f t λx d=>j x d,by rw[M.terL_take g];exact E.weaken λx d _=>d.1.elim id id,λx d=>?_⟩;rcases r x d with h|h
  .exact j x h
  .omega
 .have p:i=c.length:=oM;subst p;rw[gy] at m;exact H _ _ f (m.tms.weaken λx _ _=>trivial)
theorem sized_take {i:Nat} (h:kq (M.decL c)):kq (M.decL (c.take i)):=λj a=>by
 have:=h j (by rw[M.decL_split c i,q0];omega);rw[M.decL_split c i] at this;rwa[M.app_getD a] at this
theorem spec_CtxOk_spec (D:LaysR F w v c) (B:CtxB c) (A:kq (M.decL c)) (U:∀w',Ext w w'->K (.bool (M.ctxOk c)) w'):vcall y20 #[v] w K:=by
 refine ze {loops:=[(4,[3]),(8,[5])],cuts:=[(8195,[])]} Tryz.func26 ?_;have hlen:=B.len;have no:∀w',Ext w w'->M.ctxOk c≠true->K (.bool false) w':=λw' he hn=>by
  have:=U w' he;rwa[Bool.not_eq_true _|>.mp hn] at this
 refine zo (λu w'=>u=[]/\Ext w w'/\1<=c.length/\c.length<=6/\M.declOk (M.decL c)=true/\(M.terL c).length<=8) (λJ Z=>?_) ?_
 .simp only[push_cast,D.len];refine zb (λE=>no _ (Same.refl _ _) λe=>by have:=(M.ctx_iff.1 e).1;omega) (λE=>?_);refine zb (λa2=>no _ (Same.refl _ _) λe=>by have:=(M.ctx_iff.1 e).2.1;omega) (λa2=>?_);refine l10Decls_spec D B λw1 v1 n N=>?_;refine spec_DeclOk_spec N A λw2 b=>?_;have H:=n.trans b
  try simp only[push_cast]
  refine zn (λa3=>no _ H λe=>by rw[(M.ctx_iff.1 e).2.2.1] at a3;cases a3) (λa3=>?_);refine l10Terms_spec (D.ext H) B λX v3 o S=>?_;simp only[push_cast,S.len];have T:=H.trans o;refine zb (λa4=>no _ T λe=>by have:=(M.ctx_iff.1 e).2.2.2.1;omega) (λa4=>?_);exact Z _ _ ⟨rfl,T,oM,oM,by simpa using a3,oM⟩
 rintro _ _ w1 ⟨rfl,n,E,a2,a3,a4⟩;refine vloop_up c.length (λi u w'=>u=[nI i]/\Ext w w'/\∀j,j<i->∀t,t∈(c.getD j ([],[])).2->M.tsort (M.decL (c.take (j+1))) t=0) ⟨rfl,n,λj V=>absurd V oM⟩ ?_;rintro i _ _ w2 C hi ⟨rfl,b,l⟩ Y;have h:=D.ext b;simp only[push_cast,h.len];refine zb (λa=>?_) (λa=>?_)
 .have f:i<c.length:=oM;rw[inc64' oM,LaysR.cut h (GB.1 oM) UZ (by omega:i+1<=c.length)];refine l10Decls_spec (h.taken (by omega:i+1<=c.length)) (ctxB_take B _) λX dv o O=>?_;refine vloop_up (c.getD i ([],[])).2.length (λj u w'=>u=[nI j]/\Ext X w'/\∀k,k<j->M.tsort (M.decL (c.take (i+1))) ((c.getD i ([],[])).2.getD k default)=0) ⟨rfl,Same.refl _ _,λk R=>absurd R oM⟩ ?_;rintro j _ _ w6 C1 V ⟨rfl,p,d⟩ L;have m:=o.trans p;have r:=h.ext m;simp(disch:=exact oS) only[push_cast,r.iaddr,gl];refine r.load1 qD f λpv y=>?_;have a0:=y.small;simp only[push_cast,y.len];refine zb (λa5=>?_) (λa5=>?_)
  .have g:j<(c.getD i ([],[])).2.length:=oM;refine r.load1 qD f λqv z=>?_;simp(disch:=exact oS) only[push_cast,z.iaddr,gl];refine z.load zc g λx hx=>?_;refine spec_TermSort_spec (sized_take A) (O.ext p) hx λw7 s=>?_
   try simp only[push_cast]
   have I:=m.trans s;refine zb (λG=>no _ (b.trans I) λe=>G ((M.ctx_iff.1 e).2.2.2.2 i f _ (M.getD_mem g _))) (λG=>?_);rw[inc64' oM];refine L g _ _ ⟨rfl,p.trans s,λk R=>?_⟩;by_cases e:k<j
   .exact d k e
   .have:k=j:=oM;subst this;exact PJ.1 G
  .have g:j=(c.getD i ([],[])).2.length:=oM;refine Y f _ _ ⟨rfl,b.trans m,λk R t W=>?_⟩;by_cases e:k<i
   .exact l k e t W
   .have:k=i:=oM;subst this;obtain⟨q,hq,rfl⟩:=gn W;have:=d q oM;rwa[y2,V0 hq] at this
 .have Q:i=c.length:=oM;subst Q;have:=U _ b;rwa[M.ctx_iff.2 ⟨E,a2,a3,a4,l⟩] at this
end
section
variable {c:List M.Lay}
def kJ0 (c:List M.Lay):oI×Int:=if M.ctxOk c=true then qW (M.decL c) (M.terL c) [] else([],4)
end
section
variable {c:List M.Lay}
theorem ZQ0 (h:M.ctxOk c=true):zd0 (M.decL c) (M.terL c)=true:=all8_iff.2 ⟨(M.ctx_iff.1 h).2.2.2.1,(M.ctx_iff.1 h).2.2.1,M.ctx_terms h⟩
end
end Go.Proofs.YtfnpmncplaibiaaGreatDoor
namespace Go.Proofs.YtfnpmncplaibiaaGreatDoor
open Go Go.Vc Go.Proofs Go.M
section
variable {w:World} {K:oK} {F Fr:oA} {many:Nat} {c:Cnf} {s:Sat}
theorem l4Abs_spec {x:Int} (h:x.natAbs<=9223372036854775807) (b:K (nI x.natAbs) w):vcall QU #[nI x] w K:=by
 refine ze {} Tryz.func266 ?_;refine oZ ?_;refine zb (λa=>?_) (λa=>?_)
 .rw[zk oM oM,show 0-x=(x.natAbs:Int) from by omega];exact b
 .rwa[show(x.natAbs:Int)=x from by omega] at b
theorem l5Vals_spec {vc v:Value} {put:oI} (R:CnfR F w vc c) (A:c.many=many) (G:many<=700) (j:Ints Fr w v put) (hm:marksOk many put)
  (Q:∀w' v',Ext w w'->OwnI zh w' v' (signs many put)->(∀x,v'.ownBlock=some x->w.heap.size<=x)->K v' w'):vcall WL #[vc,v] w K:=by
 refine ze {loops:=[(3,[6])]} Tryz.func80 ?_;obtain⟨lv,rfl,-⟩:=R;have hlen:=hm.len;refine yp λb w1 I p T O=>?_;have z:Blk w1 b [nI c.many,lv] zp:=O;simp only[push_cast,z.ld0];rw[A,zk oM oM,show((many:Int)+1)=((many+1:Nat):Int) from by omega];refine vmkS_own (bs:=8) xH qQ xK rfl oM oM λv1 w2 N B l=>?_;have y:OwnI zh w2 v1 (signs many []):=by rw[j40];unfold OwnI;rw[GF];exact N
 have J:=p.size;refine vloop_up put.length (λi u w'=>u=[nI i]/\Ext w w'/\OwnI zh w' v1 (signs many (put.take i))) ⟨rfl,p.trans B,by simpa using y⟩ ?_;rintro i _ _ U C hi ⟨rfl,g,r⟩ H;have o:=j.ext g;have S:=signs_len many (put.take i);simp only[push_cast,o.len];refine zb (λa=>?_) (λa=>?_)
 .have h:i<put.length:=oM;simp(disch:=exact oS) only[push_cast,o.iaddr,o.load];have I:=hm.2 _ (getD_meS h);have q:=M.take_snoc' (d:=0) h;have t:=distinct_take hm.1 (i+1);have k:placeOf (put.take i) (put.getD i 0).natAbs=0:=by
   refine placeOf_zero λx j e=>?_;rw[q] at t;unfold Distinct at t;rw[gz,Gq] at t;exact t.2.2 _ (Ga j) _ (by simp) e
  have f:=signs_snoc (many:=many) I.1 k;rw[<-q] at f;have s:=r.ints;have E:IntKind.i64.wrap ((i:Int)+1)=((i+1:Nat):Int):=by rw[zk oM oM];omega
  generalize W:put.getD i 0=x at*;refine zb (λb3=>?_) (λb3=>?_)
  .simp(disch:=exact oS) only[push_cast,s.iaddr];rw[show x.toNat=x.natAbs from by omega];refine r.st yW oM λV n m D=>?_;rw[y3 b3] at f;simp only[push_cast,E];exact H h _ _ ⟨rfl,Ext.then g m λx j=>by have:=l x j;omega,by rw[f];exact n⟩
  .have L:IntKind.i64.wrap (0-x)=(x.natAbs:Int):=by rw[zk oM oM];omega
   rw[L];simp(disch:=exact oS) only[push_cast,s.iaddr];refine r.st yW oM λV n m D=>?_;rw[y0 b3] at f;simp only[push_cast,E];exact H h _ _ ⟨rfl,Ext.then g m λx j=>by have:=l x j;omega,by rw[f];exact n⟩
 .rw[gC oM] at r;exact Q U v1 g r λx j=>by have:=l x j;omega
theorem l5Sign_spec {v:Value} {put:oI} {m:Int} (b:Ints F w v (signs many put)) (hm:marksOk many put) (c:many<=700) (h:m≠0) (e:m.natAbs<=many) (d:K (nI (Y30 put m)) w):vcall WM #[v,nI m] w K:=by
 refine ze {} Tryz.func275 ?_;have g:=signs_len many put;refine oZ ?_;refine zb (λa=>?_) (λa=>?_)
 .simp(disch:=exact oS) only[push_cast,b.iaddr,b.load];rw[show m.toNat=m.natAbs from by omega,signs_get e,sgn_pos hm a];exact d
 .have f:IntKind.i64.wrap (0-m)=(m.natAbs:Int):=by rw[zk oM oM];omega
  rw[f];simp(disch:=exact oS) only[push_cast,b.iaddr,b.load];have:=sgnV_range put m.natAbs;rw[signs_get e,zk oM oM,gO,sgn_neg hm oM];exact d
theorem l5Look_spec {v v':Value} {put cl:oI} (t:Ints F w v (signs many put)) (hm:marksOk many put) (g:many<=700) (c:Ints Fr w v' cl) (r:∀l,l∈cl->l≠0/\l.natAbs<=many)
  (p:∀b n x,lookM put cl 0 0=(b,n,x)->K (.tuple #[nI (if b then-1 else(n:Int)),nI (if b then 0 else x)]) w):vcall WN #[v,v'] w K:=by
 refine ze {loops:=[(4,[6,7,8])]} Tryz.func229 ?_;have hlen:cl.length<=9223372036854775807:=by obtain⟨_,_,_,j,k,_⟩:=c.shape;simp at j;omega
 refine vloop_up cl.length (λi u w'=>w'=w/\∃(n:Nat) (x:Int),u=[nI n,nI x,nI i]/\n<=i/\lookM put (cl.drop i) n x=lookM put cl 0 0) ⟨rfl,0,0,rfl,oM,rfl⟩ ?_;rintro i _ _ _ C hi ⟨rfl,n,x,rfl,y,e⟩ o;simp only[push_cast,c.len];refine zb (λa=>?_) (λa=>?_)
 .have f:i<cl.length:=oM;simp(disch:=exact oS) only[push_cast,c.iaddr,c.load];have h:=r _ (getD_meS f);rw[Z0 (d:=0) f,Qs] at e;refine l5Sign_spec t hm g h.1 h.2 ?_;have m:IntKind.i64.wrap ((i:Int)+1)=((i+1:Nat):Int):=by rw[zk oM oM];omega
  have q:IntKind.i64.wrap ((n:Int)+1)=((n+1:Nat):Int):=by rw[zk oM oM];omega
  generalize s:cl.getD i 0=l at*;simp only[xk0,xl0];unfold Y30;by_cases j:l∈put
  .rw[y3 j] at e⊢;have:=p true 0 0 e.symm;exact zb (λ_=>by simpa using this) (λb=>absurd (by decide:(0:Int)<1) b)
  rw[y0 j] at e⊢;by_cases k:placeOf put l.natAbs=0
  .rw[y3 k] at e⊢;refine zb (λb=>absurd b oM) (λ_=>zb (λ_=>?_) (λb=>absurd rfl b));simp(disch:=exact oS) only[push_cast,c.load];rw[m,q,s];exact o f _ _ ⟨rfl,n+1,l,rfl,oM,e⟩
  .rw[y0 k] at e⊢;refine zb (λb=>absurd b oM) (λ_=>zb (λb=>absurd b oM) (λ_=>?_));rw[m];exact o f _ _ ⟨rfl,n,x,rfl,oM,e⟩
 .rw[gY oM] at e;have:=p false n x e.symm;simpa using this
end
section
variable {w:World} {K:oK} {F Fr F':oA} {many:Nat} {c:Cnf} {s:Sat}
theorem inc64 {i:Nat} (h:i<9223372036854775807):IntKind.i64.wrap ((i:Int)+1)=((i+1:Nat):Int):=by rw[zk oM oM];omega
theorem l5Find_spec {vc vl v:Value} {put:oI} {ls:List (oI)} (hc:CnfR F w vc c) (hl:Lists F' w vl ls) (hx:Ints Fr w v (signs many put)) (hm:marksOk many put) (z:many<=700) (a4:c.list.length+ls.length<=1000000)
  (hb:∀cl,cl∈c.list++ls->∀l,l∈cl->l≠0/\l.natAbs<=many)
  (hK:∀w' k u x,Ext w w'->findM put (c.list++ls) 0 (-1) 0=(k,u,x)->K (.tuple #[nI k,nI (if 0<=k then-1 else u),nI (if 0<=k then 0 else x)]) w'):vcall WQ #[vc,vl,v] w K:=by
 refine ze {loops:=[(5,[9,10,12])],cuts:=[(36875,[13])]} Tryz.func173 ?_;obtain⟨lv,rfl,X⟩:=hc;obtain⟨cs,U,B,T⟩:=X;obtain⟨es,W,H,V⟩:=hl;refine yp λb w1 a1 E a5 hB=>?_;have A:Blk w1 b [nI c.many,lv] zp:=hB;have D:=B.ext E;simp only[push_cast,A.ld1,D.len];refine vloop_up (c.list.length+ls.length) (λi u w'=> ∃(y x:Int),u=[nI y,nI x,nI i]/\Ext w w'/\Blk w' b [nI c.many,lv] zp/\findM put ((c.list++ls).drop i) i y x=findM put (c.list++ls) 0 (-1) 0) ⟨-1,0,rfl,E,A,rfl⟩ ?_;rintro i _ _ w2 C hi ⟨y,x,rfl,s,S,g⟩ Q;have I:=H.ext s;simp only[push_cast,I.len];rw[U,W,zk oM oM];refine zb (λa=>?_) (λa=>?_)
 .have o:i<c.list.length+ls.length:=oM;refine yj xu yW λb3 w3 a2 G a6 a0=>?_;have p:=s.trans G;have f:=S.ext G;have q:=B.ext p;have r:=H.ext p;refine zo (λu w'=>w'=w3/\∃v4,u=[v4]/\Ints (λ_=>True) w3 v4 ((c.list++ls).getD i [])) ?_ ?_
  .intro J Z;refine zb (λa3=>?_) (λa3=>?_)
   .simp(disch:=exact oS) only[push_cast,f.ld1,q.iaddr,q.load];refine Z _ _ ⟨rfl,_,rfl,?_⟩;rw[getD_app_l oM];exact((T i oM).ext p).weaken λ_ _ _=>trivial
   .obtain⟨j,rfl⟩:∃j,i=c.list.length+j:=⟨i-c.list.length,oM⟩;rw[show((c.list.length+j:Nat):Int)-(c.list.length:Int)=(j:Int) from by omega,zk oM oM];simp(disch:=exact oS) only[push_cast,r.iaddr,r.load];refine Z _ _ ⟨rfl,_,rfl,?_⟩;rw[getD_app_r];exact((V j oM).ext p).weaken λ_ _ _=>trivial
  rintro _ _ _ ⟨rfl,v4,rfl,h4⟩;have L:i<(c.list++ls).length:=by rw[q0];exact o
  have M:(c.list++ls).getD i []∈c.list++ls:=by rw[y2,V0 L];exact G9 _
  rw[Z0 (d:=[]) L,findM_cons] at g;refine oZ ?_;refine l5Look_spec (hx.ext p) hm z h4 (hb _ M) λO n Y t=>?_;rw[t] at g;dsimp only at g;refine oZ ?_;rw[inc64 oM];have N: ¬(O=true)->((if O then(-1:Int) else(n:Int))=n/\(if O then(0:Int) else Y)=Y):=λh=>⟨y0 h,y0 h⟩;by_cases m:O=true
  .rw[y3 m] at g;refine zb (λe=>absurd e (by rw[y3 m];omega)) (λ_=>zb (λe=>absurd e (by rw[y3 m];omega)) (λ_=>?_));exact Q o _ _ ⟨y,x,rfl,p,f,g⟩
  rw[y0 m] at g;rw[(N m).1,(N m).2];refine zb (λe=>?_) (λe=>zb (λe1=>?_) (λe1=>?_))
  .rw[y3 oM] at g;have:=hK _ _ _ _ p g.symm;rwa[y3 oM,y3 oM] at this
  .rw[y0 oM,y3 oM] at g;refine zb (λR=>?_) (λR=>?_)
   .rw[y3 R] at g;exact Q o _ _ ⟨i,Y,rfl,p,f,g⟩
   .rw[y0 R] at g;exact Q o _ _ ⟨y,x,rfl,p,f,g⟩
  .rw[y0 oM,y0 oM] at g;exact Q o _ _ ⟨y,x,rfl,p,f,g⟩
 .rw[gY (by rw[q0];omega)] at g;have:=hK w2 _ _ _ s g.symm;rwa[y0 oM,y0 oM] at this
theorem l5At_spec {vc v:Value} {k:Nat} (A:CnfR F w vc c) (hs:SatR F' w v s) (G:k<c.list.length+s.learned.length) (C:c.list.length+s.learned.length<=1000000)
  (u:∀w' v',Ext w w'->Ints (λb=>F b\/F' b) w' v' (atM c s k)->K v' w'):vcall yY0 #[vc,v,nI k] w K:=by
 refine ze {} Tryz.func175 ?_;obtain⟨lv,rfl,cs,n,o,m⟩:=A;obtain⟨vp,vw,vl,rfl,-,-,es,B,r,q⟩:=hs;refine yp λb1 w1 y p D i=>?_;refine yp λb2 w2 z g E l=>?_;have t:Blk w2 b1 [nI c.many,lv] zp:=i.ext g;have x:Blk w2 b2 [vp,vw,vl,nI s.code] zw:=l;have f:=p.trans g;have d:=o.ext f;have e:=r.ext f;simp only[push_cast,t.ld1,d.len];refine zb (λa=>?_) (λa=>?_)
 .simp(disch:=exact oS) only[push_cast,d.iaddr,d.load];refine u w2 _ f ?_;rw[atM,getD_app_l oM];exact((m k oM).ext f).weaken λ_ h _=> .inl h
 .obtain⟨j,rfl⟩:∃j,k=c.list.length+j:=⟨k-c.list.length,oM⟩;simp(disch:=(simp only[push_cast])) only[x.ld2,t.ld1,d.len,US,UV,yx,gX,Y8];rw[n,show((c.list.length+j:Nat):Int)-(c.list.length:Int)=(j:Int) from by omega,zk oM oM];simp(disch:=exact oS) only[push_cast,e.iaddr,e.load];refine u w2 _ f ?_;rw[atM,getD_app_r];exact((q j oM).ext f).weaken λ_ h _=> .inr h
theorem l5Levels_spec {vc v:Value} (hc:CnfR F w vc c) (hs:SatR F' w v s) (L:c.many=many) (T:many<=700) (hm:marksOk many s.put) (hlen:s.put.length=s.why.length) (A:∀k,k<s.why.length->s.why.getD k 0= -1\/0<=s.why.getD k 0)
  (hK:∀w' v',Ext w w'->OwnI zh w' v' (levs many s.put (yC s.why))->(∀x,v'.ownBlock=some x->w.heap.size<=x)->K v' w'):vcall JO #[vc,v] w K:=by
 refine ze {loops:=[(4,[6,7])],cuts:=[(28680,[6])]} Tryz.func230 ?_;obtain⟨lv,rfl,-⟩:=hc;obtain⟨vp,vw,vl,rfl,hp,hw,-⟩:=hs;have a4:=hm.len;refine yp λb1 w1 a0 N a7 H=>?_;refine yp λb2 w2 a1 p a8 I=>?_;have X:Blk w2 b1 [nI c.many,lv] zp:=H.ext p;have R:Blk w2 b2 [vp,vw,vl,nI s.code] zw:=I;have S:=N.trans p;simp only[push_cast,X.ld0];rw[L,zk oM oM,show((many:Int)+1)=((many+1:Nat):Int) from by omega];refine vmkS_own (bs:=8) xH qQ xK rfl oM oM λv1 w3 Y q m=>?_;have G:OwnI zh w3 v1 (levs many [] (yC s.why)):=by rw[Zm0];unfold OwnI;rw[GF];exact Y
 have V:=S.size;refine vloop_up s.put.length (λi u w'=>u=[nI ((yC s.why).take i|>.count true:Nat),nI i]/\Ext w w'/\Blk w' b2 [vp,vw,vl,nI s.code] zw/\OwnI zh w' v1 (levs many (s.put.take i) (yC s.why))) ⟨rfl,S.trans q,R.ext q,by simpa using G⟩ ?_;rintro i _ _ W C hi ⟨rfl,g,f,E⟩ Z;have n:=hp.ext g;have z:=hw.ext g;have a5:=Up many (s.put.take i) (yC s.why);have a3:=kI s.why;simp only[push_cast,f.ld0,n.len];refine zb (λa=>?_) (λa=>?_)
 .have l:i<s.put.length:=oM;have h:=Y4 (ds:=yC s.why) (i:=i) oM;have a2:((yC s.why).take i).count true<=700:=gH pS (by simp;omega);refine zo (λu w'=>w'=W/\u=[nI ((yC s.why).take (i+1)|>.count true:Nat)]) ?_ ?_
  .intro J U;simp(disch:=exact oS) only[push_cast,f.ld1,z.iaddr,z.load];have o:=z00 (why:=s.why) (k:=i) oM;have a6:=A i oM;refine zb (λb=>?_) (λb=>?_)
   .rw[inc64 oM];refine U _ _ ⟨rfl,?_⟩;rw[h,o,gu oM];rfl
   .refine U _ _ ⟨rfl,?_⟩;rw[h,o,gj oM];rfl
  rintro _ _ _ ⟨rfl,rfl⟩;simp(disch:=exact oS) only[push_cast,f.ld0,n.iaddr,n.load];have hb:=hm.2 _ (getD_meS l);have y:=M.take_snoc' (d:=0) l;have D:=distinct_take hm.1 (i+1);have j:placeOf (s.put.take i) (s.put.getD i 0).natAbs=0:=by
   refine placeOf_zero λx B e=>?_;rw[y] at D;unfold Distinct at D;rw[gz,Gq] at D;exact D.2.2 _ (Ga B) _ (by simp) e
  have t:=levs_snoc (many:=many) (ds:=yC s.why) j;rw[<-y,gh,GG oM,lvl_succ oM,<-h] at t;have Q:=E.ints;refine l4Abs_spec oM ?_;simp(disch:=exact oS) only[push_cast,Q.iaddr];refine E.st yW oM λw5 O r a9=>?_;rw[inc64 oM];refine Z l _ _ ⟨rfl,Ext.then g r λx B=>by have:=m x B;omega,f.same r λe=>by have:=m _ e;have:=R.lt;omega,by rw[t];exact O⟩
 .rw[gC oM] at E;exact hK W v1 g E λx B=>by have:=m x B;omega
theorem l5Top_spec {v v':Value} {put cl:oI} {ds:List Bool} (m:Ints F w v (levs many put ds)) (j:many<=700) (p:ds.length<=700) (d:Ints Fr w v' cl) (o:∀l,l∈cl->l.natAbs<=many/\placeOf put l.natAbs≠0)
  (s:K (.tuple #[nI (Z4 put ds cl:Nat),nI (Jx put ds cl).length]) w):vcall zM0 #[v,v'] w K:=by
 refine ze {loops:=[(4,[6,7,8])]} Tryz.func231 ?_;have hlen:cl.length<=9223372036854775807:=by obtain⟨_,_,_,n,r,_⟩:=d.shape;simp at n;omega
 have q:=Up many put ds;refine vloop_up cl.length (λi u w'=>w'=w/\u=[nI (Z4 put ds (cl.take i):Nat),nI (Jx put ds (cl.take i)).length,nI i]) ⟨rfl,rfl⟩ ?_;rintro i _ _ _ C hi ⟨rfl,rfl⟩ f;simp only[push_cast,d.len];refine zb (λa=>?_) (λa=>?_)
 .have c:i<cl.length:=oM;simp(disch:=exact oS) only[push_cast,d.iaddr,d.load];obtain⟨g,h⟩:=o _ (getD_meS c);refine l4Abs_spec oM ?_;simp(disch:=exact oS) only[push_cast,m.iaddr,m.load];rw[levs_get g,levV_lit h];obtain⟨t1,t2⟩:=top_step (put:=put) (ds:=ds) c _ rfl;generalize lvM put ds (cl.getD i 0)=k at*;have t:(Jx put ds (cl.take i)).length<=i:=gH (List.length_filter_le _ _) (by simp;omega);refine zb (λb=>?_) (λb=>?_)
  .rw[y3 oM] at t1 t2;refine zb (λ_=>?_) (λe=>absurd trivial e);rw[inc64 oM];exact f c _ _ ⟨rfl,by rw[t1,t2];rfl⟩
  .rw[y0 oM] at t1 t2;refine zb (λe=>?_) (λe=>?_)
   .rw[y3 oM] at t2;rw[inc64 oM,inc64 oM];exact f c _ _ ⟨rfl,by rw[t1,t2]⟩
   .rw[y0 oM] at t2;rw[inc64 oM];exact f c _ _ ⟨rfl,by rw[t1,t2]⟩
 .rwa[gC oM]
theorem l5Has_spec {v:Value} {cl:oI} {m:Nat} (c:Ints Fr w v cl) (p:∀l,l∈cl->l.natAbs<=700) (g:(∃q,q∈cl/\q.natAbs=m)->K (.bool true) w) (j:(∀q,q∈cl->q.natAbs≠m)->K (.bool false) w):vcall zO0 #[v,nI m] w K:=by
 refine ze {loops:=[(2,[5])]} Tryz.func301 ?_;have hlen:cl.length<=9223372036854775807:=by obtain⟨_,_,_,n,s,_⟩:=c.shape;simp at n;omega
 refine vloop_up cl.length (λi u w'=>w'=w/\u=[nI i]/\∀q,q∈cl.take i->q.natAbs≠m) ⟨rfl,rfl,by simp⟩ ?_;rintro i _ _ _ C hi ⟨rfl,rfl,k⟩ o;simp only[push_cast,c.len];refine zb (λa=>?_) (λa=>?_)
 .have f:i<cl.length:=oM;simp(disch:=exact oS) only[push_cast,c.iaddr,c.load];have e:cl.getD i 0∈cl:=getD_meS f;have r:=p _ e;refine l4Abs_spec oM ?_;refine oZ ?_;refine zb (λb=>g ⟨_,e,oM⟩) (λb=>?_);rw[inc64 oM];refine o f _ _ ⟨rfl,rfl,λq h=>?_⟩;rw[M.take_snoc' (d:=0) f,gk,gw] at h;rcases h with h|rfl
  .exact k q h
  .omega
 .rw[gC oM] at k;exact j k
theorem l5Last_spec {v v':Value} {cl:oI} (hs:SatR F w v s) (hm:marksOk many s.put) (t:many<=700) (m:Ints Fr w v' cl) (z:∀l,l∈cl->l.natAbs<=700)
  (x:∀w',Ext w w'->K (nI ((lastPl s.put cl:Int)-1)) w'):vcall WO #[v,v'] w K:=by
 refine ze {loops:=[(2,[5])]} Tryz.func276 ?_;obtain⟨vp,vw,vl,rfl,G,-,-⟩:=hs;have E:=hm.len;refine yp λb2 w2 A b H g=>?_;have p:Blk w2 b2 [vp,vw,vl,nI s.code] zw:=g;have c:=G.ext b;simp only[push_cast,p.ld0,c.len];rw[zk oM oM];refine vloop_up s.put.length (λi u w'=>w'=w2/\u=[nI ((s.put.length:Int)-1-i)]/\∀j,s.put.length-i<=j->j<s.put.length->∀q,q∈cl->q.natAbs≠(s.put.getD j 0).natAbs) ⟨rfl,by simp,λj r d=>oM⟩ ?_;rintro i _ _ _ C hi ⟨rfl,rfl,n⟩ y;refine oZ ?_;refine zb (λa=>?_) (λa=>?_)
 .obtain⟨k,D⟩:∃k:Nat,(s.put.length:Int)-1-i=k:=⟨s.put.length-1-i,oM⟩;have f:k<s.put.length:=oM;rw[D];simp(disch:=exact oS) only[push_cast,p.ld0,c.iaddr,c.load];have B:=hm.2 _ (getD_meS f);refine l4Abs_spec oM ?_;refine l5Has_spec (m.ext b) z (λh=>?_) (λh=>?_)
  .refine oZ ?_;have o:=lastPl_eq hm f h λj r d=>n j oM d;have:=x _ b;rwa[o,show((k+1:Nat):Int)-1=(k:Int) from by omega] at this
  .refine oZ ?_;rw[zk oM oM];refine y oM _ _ ⟨rfl,by rw[show(s.put.length:Int)-1-((i+1:Nat):Int)=(k:Int)-1 from by omega],λj r d=>?_⟩;by_cases e:j=k
   .subst e;exact h
   .exact n j oM d
 .have o:=lastPl_none (put:=s.put) (cl:=cl) λj d=>n j oM d;have:=x _ b;rw[o] at this;exact this
end
section
variable {w:World} {K:oK} {F Fr F':oA} {many:Nat} {c:Cnf} {s:Sat}
theorem jv0 (arr:oI) (m n:Nat):(ye0 arr m n).length<=n:=by
 unfold ye0;refine gH (List.length_filterMap_le _ _) (by simp)
theorem l5Join_spec {va vb:Value} {a b:oI} {m:Nat} (ha:Ints F w va a) (hb:Ints F' w vb b) (a6:many<=700) (S:∀k,k∈a++b->k≠0/\k.natAbs<=many) (hc:∀k,k∈a++b->k.natAbs≠m-> -k∉a++b)
  (hK:∀w' v',Ext w w'->OwnI zh w' v' (Qv many a b m)->(∀x,v'.ownBlock=some x->w.heap.size<=x)->K v' w'):vcall WP #[nI many,va,vb,nI m] w K:=by
 refine ze {loops:=[(4,[11]),(8,[12]),(12,[9,13])]} Tryz.func277 ?_;have ab:a.length<=9223372036854775807:=by obtain⟨_,_,_,L,h2,_⟩:=ha.shape;simp at L;omega
 have ac:b.length<=9223372036854775807:=by obtain⟨_,_,_,L,h2,_⟩:=hb.shape;simp at L;omega
 refine yj xu yW λJ w0 a8 T ad N=>?_;refine oZ ?_;rw[zk oM oM,show((many:Int)+1)=((many+1:Nat):Int) from by omega];refine vmkS_own (bs:=8) xH qQ xK rfl oM oM λv1 w1 L U W=>?_;have a0:OwnI zh w1 v1 (List.replicate (many+1) 0):=by unfold OwnI;rw[GF];exact L
 have E1:=T.trans U;have a7:=T.size;have hN:∀x,v1.ownBlock=some x->w.heap.size<=x:=λx s=>by have:=W x s;omega
 have a1:Blk w1 J [] zV:=N.ext U;have G:∀x,v1.ownBlock=some x->x≠J:=λx s e=>by have:=W x s;have:=N.lt;omega
 refine vloop_up a.length (λi u w'=>u=[nI i]/\Ext w w'/\Blk w' J [] zV/\∃arr,OwnI zh w' v1 arr/\ArrP many (a.take i) arr) ⟨rfl,E1,a1,_,a0,by simpa using arr_nil many⟩ ?_;rintro i _ _ w2 C hi ⟨rfl,h,o,arr,q,f⟩ O;have E:=ha.ext h;simp only[push_cast,E.len];refine zb (λc1=>?_) (λc1=>?_)
 .have l:i<a.length:=oM;refine zd λw3 c _=>?_;have A:=E.ext c;have g:=q.ext c;have r:=g.ints;have Q:=f.len;obtain⟨g1,g2⟩:=S _ (gW _ (getD_meS l));simp(disch:=exact oS) only[push_cast,A.iaddr,A.load,y1];refine l4Abs_spec oM ?_;simp(disch:=exact oS) only[push_cast,A.iaddr,A.load,y1,V1,r.iaddr];refine g.st yW oM λw4 I z Y=>?_;rw[inc64 oM];refine O l _ _ ⟨rfl,Ext.then (h.trans c) z hN,(o.ext c).same z λe=>G _ e rfl,_,I,?_⟩;rw[M.take_snoc' (d:=0) l];exact arr_snoc f g1 g2
 clear O;rw[gC oM] at f;refine vloop_up b.length (λi u w'=>u=[nI i]/\Ext w w'/\Blk w' J [] zV/\∃arr,OwnI zh w' v1 arr/\ArrP many (a++b.take i) arr) ⟨rfl,h,o,arr,q,by simpa using f⟩ ?_;clear f q arr o E h w2;rintro j _ _ w2 C hj ⟨rfl,h,o,arr,q,f⟩ O;have R:=hb.ext h;simp only[push_cast,R.len];refine zb (λc2=>?_) (λc2=>?_)
 .have l:j<b.length:=oM;refine zd λw3 c _=>?_;have B:=R.ext c;have g:=q.ext c;have r:=g.ints;have Q:=f.len;obtain⟨g1,g2⟩:=S _ (Gw _ (getD_meS l));simp(disch:=exact oS) only[push_cast,B.iaddr,B.load,y1];refine l4Abs_spec oM ?_;simp(disch:=exact oS) only[push_cast,B.iaddr,B.load,y1,V1,r.iaddr];refine g.st yW oM λw4 I z Y=>?_;rw[inc64 oM];refine O l _ _ ⟨rfl,Ext.then (h.trans c) z hN,(o.ext c).same z λe=>G _ e rfl,_,I,?_⟩;rw[M.take_snoc' (d:=0) l,<-Gf];exact arr_snoc f g1 g2
 clear O;rw[gC oM] at f;have Q:=f.len;have a4:OwnI zh w2 (.slice (some ⟨J,0,none⟩) 0 0) []:=Blk.own1 (t:=zh) (cs:=[]) (by rw[qQ];exact o) (gF _) rfl rfl oM;refine vloop_up many (λn u w'=> ∃v,u=[v,nI (n+1:Nat)]/\Ext w w'/\OwnI zh w' v1 arr/\OwnI zh w' v (ye0 arr m n)/\(∀x,v.ownBlock=some x->w.heap.size<=x/\v1.ownBlock≠some x)) ⟨_,rfl,h,q,a4,λx s=>?_⟩ ?_
 .have e:J=x:=K3 s;subst e;exact⟨oM,λe=>G _ e rfl⟩
 rintro n _ _ w3 C3 hn ⟨v,rfl,c,g,y,p⟩ D;refine oZ ?_;have aa:=jv0 arr m n;refine zb (λc3=>?_) (λc3=>?_)
 .have hs:=joinA_succ arr m n;have V:IntKind.i64.wrap ((n:Int)+1+1)=((n+1+1:Nat):Int):=by rw[zk oM oM];omega
  have r:=g.ints;rw[V];refine zb (λc4=>?_) (λc4=>?_)
  .rw[y0 oM] at hs;have e1:((n:Int)+1)=((n+1:Nat):Int):=rfl;rw[e1];simp(disch:=exact oS) only[r.iaddr,gl,r.load,xj0];refine zb (λZ=>?_) (λZ=>?_)
   .rw[y0 Z] at hs;refine zC xu yW xK rfl rfl λb4 w4 a9 H Y a2=>?_;refine(y.ext H).app1 xH a2 oM oM λv5 w5 a5 X a3=>?_;have ae:=c.size;refine D oM _ _ ⟨v5,rfl,Ext.then (c.trans H) X λx s=>(p x s).1,(g.ext H).same X λx s e=>(p x e).2 s,by rw[hs];exact a5,λx s=>?_⟩;rcases a3 x s with e|e
    .exact p x e
    .exact⟨oM,λe'=>by have:=g.lt e';omega⟩
   .rw[y3 (by simpa using Z),gE] at hs;exact D oM _ _ ⟨v,rfl,c,g,by rw[hs];exact y,p⟩
  .rw[y3 oM,gE] at hs;exact D oM _ _ ⟨v,rfl,c,g,by rw[hs];exact y,p⟩
 .have:n=many:=oM;subst this;rw[joinA_eq f hc] at y;exact hK w3 v c y λx s=>(p x s).1
theorem learnS_cons {cl:oI} (d:satOk many c s) (h:c.many=many) (hF:Fls s.put cl) (hs:Srt cl) (n:2<=(Jx s.put (yC s.why) cl).length):
  lastPl s.put cl-1<s.put.length/\lastPl s.put cl≠0/\0<=s.why.getD (lastPl s.put cl-1) 0/\s.why.getD (lastPl s.put cl-1) 0<c.list.length+s.learned.length/\
  (∀l,l∈cl++atM c s (s.why.getD (lastPl s.put cl-1) 0).toNat->l≠0/\l.natAbs<=many)/\(∀l,l∈cl++atM c s (s.why.getD (lastPl s.put cl-1) 0).toNat->l.natAbs≠(s.put.getD (lastPl s.put cl-1) 0).natAbs-> -l∉cl++atM c s (s.why.getD (lastPl s.put cl-1) 0).toNat):=by
 have v:=topOf_tops (put:=s.put) (ds:=yC s.why) (srt_nodup hs);have b:cl≠[]:=λe=>by subst e;simp[Jx] at n
 have w:=lastPl_pos hF b;obtain⟨k,o⟩:∃k,lastPl s.put cl=k+1:=⟨lastPl s.put cl-1,oM⟩;rw[o,GN];obtain⟨i,t,j,m,himp,-⟩:=last_reason d hF v n o;obtain⟨u,f⟩:=(impl_iff d.mks).1 himp;have g:(s.why.getD k 0).toNat<c.list.length+s.learned.length:=oM
 have off:∀l,l∈cl++atM c s (s.why.getD k 0).toNat->l.natAbs≠(s.put.getD k 0).natAbs-> -l∈s.put:=λl a b=>by
  rcases gk.1 a with a|a
  .exact hF l a
  .exact Gc (f l a λe=>b (by rw[e]))
 refine⟨i,oM,j,m,λl a=>?_,λl a b r=>?_⟩
 .rcases gk.1 a with a|a
  .have:=d.mks.2 _ (hF l a);omega
  .exact d.lit h g a
 .have p:=off l a b;have q:=off (-l) r (by rwa[G1]);exact d.mks.neg p q
theorem l5Learn_spec {vc v vl v3:Value} {k:Nat} (hc:CnfR F w vc c) (hs:SatR F' w v s) (S:Ints Fr w vl (levs many s.put (yC s.why))) (hv:OwnI zh w v3 (atM c s k)) (e:satOk many c s) (o:c.many=many) (hk:k<c.list.length+s.learned.length) (a1:kJ s.put (atM c s k))
  (hK:∀w' v',Ext w w'->OwnI zh w' v' (learnM many c s s.put.length (atM c s k))->(∀x,v'.ownBlock=some x->v3.ownBlock=some x\/w.heap.size<=x)->K v' w'):vcall V4 #[vc,v,vl,v3] w K:=by
 refine ze {loops:=[(2,[3,10])]} Tryz.func232 ?_;have a0:=hc;have M:=hs;obtain⟨lv,rfl,aa⟩:=hc;obtain⟨vp,vw,vls,rfl,hp,hw,j⟩:=hs;have d:many<=700/\c.list.length<=2500:=by
  have:=e.cnf;unfold cnfOk at this;simp only[gd,X0] at this;omega
 have a6:=e.few;have m:=e.mks;have ac:=m.len;have hlen:=e.len;have E:=XW a1;have Z:=clauseOk_srt (e.atOk hk);have G:(yC s.why).length<=700:=by rw[kI];omega
 have bounds:∀{b:oI},Fls s.put b->∀x,x∈b->x.natAbs<=many/\placeOf s.put x.natAbs≠0:=λhF x A=>by
  have h1:=m.2 _ (hF x A);have D:=placeOf_ne_zero (hF x A);rw[G1] at D;exact⟨oM,D⟩
 generalize atM c s k=cl at*;refine yp λb1 w1 a7 a2 ad X=>?_;refine yp λb2 w2 a8 H ae Y=>?_;have A2:Blk w2 b1 [nI c.many,lv] zp:=X.ext H;have B2:Blk w2 b2 [vp,vw,vls,nI s.code] zw:=Y;have R:=a2.trans H;refine l5Top_spec (S.ext R) d.1 G (hv.ext R).ints (bounds E) ?_;refine oZ ?_;refine jJ (λn u w'=> ∃b f v,n=lastPl s.put b/\u=[v,nI (Jx s.put (yC s.why) b).length]/\Ext w w'/\Blk w' b1 [nI c.many,lv] zp/\Blk w' b2 [vp,vw,vls,nI s.code] zw/\
   OwnI zh w' v b/\(∀x,v.ownBlock=some x->v3.ownBlock=some x\/w.heap.size<=x)/\Fls s.put b/\Srt b/\lastPl s.put b<=f/\learnM many c s f b=learnM many c s s.put.length cl) _
  ⟨cl,s.put.length,v3,rfl,rfl,R,A2,B2,hv.ext R,λx A=> .inl A,E,Z,lastPl_le,rfl⟩ ?_
 rintro _ _ _ w3 C ⟨b,f,v,rfl,rfl,V,A3,B3,t,a3,hF,hS,ab,r⟩ hC;refine oZ ?_;refine zb (λa=>?_) (λa=>?_)
 .have D:2<=(Jx s.put (yC s.why) b).length:=oM;obtain⟨g1,g2,g3,g4,g5,g6⟩:=learnS_cons e o hF hS D;obtain⟨k1,k2,k3,k4⟩:=learnS_ok e o hF hS D;obtain⟨f,rfl⟩:∃f',f=f'+1:=⟨f-1,oM⟩;rw[learnM,y0 oM] at r;rw[B3.ldAgg zP];refine l5Last_spec (M.ext V) m d.1 t.ints (λl S=>by have:=(bounds hF l S).1;omega) λw4 g=>?_;have E4:=V.trans g;refine zd λw5 h _=>?_;have B:=E4.trans h;have T:=(A3.ext g).ext h;have Q:=(B3.ext g).ext h;obtain⟨q,hq⟩:∃q,lastPl s.put b=q+1:=⟨lastPl s.put b-1,oM⟩;have j:jH many c s b=Qv many b (atM c s (s.why.getD q 0).toNat) (s.put.getD q 0).natAbs:=by unfold jH;rw[hq,GN]
  rw[hq,GN] at g1 g3 g4 g5 g6;rw[hq,show((q+1:Nat):Int)-1=(q:Int) from by omega];have J:=hp.ext B;have O:=hw.ext B;simp(disch:=exact oS) only[push_cast,T.ldAgg zD,Q.ldAgg zP,T.ld0,Q.ld0,Q.ld1,y1,J.iaddr,J.load,O.iaddr,O.load];obtain⟨y,hy⟩:∃y:Nat,s.why.getD q 0=y:=⟨(s.why.getD q 0).toNat,oM⟩;rw[hy] at g4 g5 g6 j⊢;rw[gl] at g5 g6 j;refine l5At_spec (a0.ext B) (M.ext B) oM oM λw6 v6 i a5=>?_;have W:=B.trans i;have U:=T.ext i;have B6:=Q.ext i;have L:=hp.ext W;simp(disch:=exact oS) only[push_cast,U.ld0,B6.ld0,y1,V1,L.iaddr,L.load];have a9:=m.2 _ (getD_meS g1);refine l4Abs_spec oM ?_;simp(disch:=exact oS) only[push_cast,U.ld0,y1,V1];rw[o];have N:=(((t.ext g).ext h).ext i);refine l5Join_spec N.ints a5 d.1 g5 g6 λw7 v7 p z a4=>?_;have E7:=W.trans p;rw[<-j] at z;refine l5Top_spec (S.ext E7) d.1 G z.ints (bounds k1) ?_;refine oZ ?_;refine hC (lastPl s.put (jH many c s b)) _ _ k3 ⟨_,f,v7,rfl,rfl,E7,U.ext p,B6.ext p,z,λx A=> .inr ?_,k1,k2,oM,r⟩;have:=a4 x A;have:=W.size;omega
 .have I:learnM many c s s.put.length cl=b:=by
   rw[<-r];cases f with
   |zero=>rfl
   |succ f=>rw[learnM,y3 oM]
  rw[I] at hK;exact hK w3 v V t a3
theorem l4Max_spec {a b:Nat} (c:K (nI (max a b:Nat)) w):vcall zP0 #[nI a,nI b] w K:=by
 refine ze {} Tryz.func278 ?_;refine oZ ?_;refine zb (λh=>?_) (λh=>?_)
 .rwa[show max a b=a from by omega] at c
 .rwa[show max a b=b from by omega] at c
theorem l5Below_spec {v v':Value} {put cl:oI} {ds:List Bool} (o:Ints F w v (levs many put ds)) (m:many<=700) (e:Ints Fr w v' cl) (s:∀l,l∈cl->l.natAbs<=many/\placeOf put l.natAbs≠0)
  (q:K (nI (Y6 put ds cl:Nat)) w):vcall V6 #[v,v',nI (Z4 put ds cl:Nat)] w K:=by
 refine ze {loops:=[(3,[7,8])]} Tryz.func234 ?_;have hlen:cl.length<=9223372036854775807:=by obtain⟨_,_,_,p,x,_⟩:=e.shape;simp at p;omega
 have t:=Up many put ds;generalize r:Z4 put ds cl=T;refine vloop_up cl.length (λi u w'=>w'=w/\u=[nI (maxL (((cl.take i).filter λk=>decide (lvM put ds k<T)).map (lvM put ds)):Nat),nI i]) ⟨rfl,rfl⟩ ?_;rintro i _ _ _ C hi ⟨rfl,rfl⟩ n;simp only[push_cast,e.len];refine zb (λa=>?_) (λa=>?_)
 .have f:i<cl.length:=oM;simp(disch:=exact oS) only[push_cast,e.iaddr,e.load];obtain⟨g,h⟩:=s _ (getD_meS f);refine l4Abs_spec oM ?_;simp(disch:=exact oS) only[push_cast,o.iaddr,o.load];rw[levs_get g,levV_lit h];have c:(cl.take (i+1)).filter (λk=>decide (lvM put ds k<T))=(cl.take i).filter (λk=>decide (lvM put ds k<T))++(if lvM put ds (cl.getD i 0)<T then[cl.getD i 0] else[]):=by
   rw[M.take_snoc' (d:=0) f,PD,PM,List.filter_nil];simp only[X0]
  have j:∀A:oI,maxL ((A++[cl.getD i 0]).map (lvM put ds))=max (maxL (A.map (lvM put ds))) (lvM put ds (cl.getD i 0)):=λA=>by
   rw[gz];exact maxL_snoc _ _ _ rfl
  refine zb (λb=>?_) (λb=>?_)
  .refine l4Max_spec ?_;rw[inc64 oM];rw[y3 oM] at c;refine n f _ _ ⟨rfl,?_⟩;rw[c,j]
  .rw[inc64 oM];rw[y0 oM,gE] at c;exact n f _ _ ⟨rfl,by rw[c]⟩
 .rw[gC oM,<-r];exact q
end
end Go.Proofs.YtfnpmncplaibiaaGreatDoor
end
