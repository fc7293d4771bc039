import Derived.Test.YtokflbdfnbppjaaGreatDoorWvaP12
/- A part of the proof. -/
set_option linter.all false
namespace Go.Proofs.YtokflbdfnbppjaaGreatDoor
open Go Go.Vc Go.Proofs Go.M
section
variable {w:World} {K:Value->World->Prop} {F Fr:Nat->Prop} {many bs:Nat} {c:Cnf} {s:Sat} {σ:SV} {N:Nat}
theorem topL_pos {put:List Int} {ds:List Bool} {cl:List Int}:(qq0 put ds cl≠0)↔((List.range cl.length).any λi=>decide (0<lvM put ds (cl.getD i 0)))=true:=by
 rw[GZ];constructor
 ·intro h;rcases Ki (xs:=cl.map (lvM put ds)) with e|e
  ·exact absurd e h
  ·obtain⟨q,b,e⟩:=gm.1 e;obtain⟨i,a,rfl⟩:=gq b;refine⟨i,gy.2 a,?_⟩;have:cl.getD i 0=cl[i]:=(by simp[k6,a]);rw[this,decide_eq_true_eq,e];unfold qq0 at h;omega
 ·rintro⟨i,a,h⟩;rw[gy] at a;rw[decide_eq_true_eq] at h;have:lvM put ds (cl.getD i 0)<=qq0 put ds cl:=Vt (Gc (qU a));omega
theorem SR.setCode (h:SR N Fr w bs many c s σ) {k:Int} (g:∀w',SR N Fr w' bs many c {s with code:=k} σ->Same (σ.foot bs) w w'->w'.heap.size=w.heap.size->K undef w'):
  zn P ze (.pointer (some ⟨bs,5,none⟩)) (.int .i64 k) w K:=by
 refine h.blk.st rfl rfl YC rfl λw1 hs i f=>?_;have b:Same (σ.foot bs) w w1:=hs.mono λx _ e=> .inr (.inl e);have d:∀x,σ.tf x->x≠bs:=λx a e=>h.st x (.inl e) a;refine g w1 ⟨f,h.cm,h.cl.same b λx hF _ a=>h.notF a hF,h.tr.same hs λx a e=>d x a e,h.rw.same hs λx a e=>h.s1 x a e,h.rl.same hs λx a e=>h.s2 x a e,h.lsl,h.ll.same b λx hF _ a=>h.notF a hF,h.s1,h.s2,h.s3,h.st,h.sf⟩ b i
def StepTo (N:Nat) (Fr:Nat->Prop) (w:World) (bs many:Nat) (c:Cnf) (s':Sat) (σ:SV) (w':World):Prop:=
 ∃Fr' σ',SR N Fr' w' bs many c s' σ'/\Same (σ.foot bs) w w'/\(∀b,σ'.foot bs b->σ.foot bs b\/w.heap.size<=b)/\(∀b,Fr' b->Fr b\/w.heap.size<=b)/\(∀b,Fr' b->b<w'.heap.size)
theorem StepTo.trans {s2:Sat} {w1 w2:World} {d:Nat->Prop} {g:SV} (a2:Same (σ.foot bs) w w1) (a3:∀b,g.foot bs b->σ.foot bs b\/w.heap.size<=b) (a4:∀b,d b->Fr b\/w.heap.size<=b) (i:StepTo N d w1 bs many c s2 g w2):StepTo N Fr w bs many c s2 σ w2:=by
 obtain⟨F2,l,b1,b2,b3,b4,h⟩:=i;have k:=a2.size;refine⟨F2,l,b1,⟨b2.os.trans a2.os,b2.tape.trans a2.tape,b2.output.trans a2.output,Ga k b2.size,λb a f=>?_⟩,λb a=>?_,λb a=>?_,h⟩
 ·rw[b2.block b (by omega) λj=>?_,a2.block b a f];rcases a3 b j with e|e
  ·exact f e
  ·omega
 ·rcases b3 b a with e|e
  ·exact a3 b e
  ·exact .inr (by omega)
 ·rcases b4 b a with e|e
  ·exact a4 b e
  ·exact .inr (by omega)
theorem StepTo.refl (h:SR N Fr w bs many c s σ) (hF:∀b,Fr b->b<w.heap.size):StepTo N Fr w bs many c s σ w:=⟨Fr,σ,h,Same.refl _ _,λ_ h=> .inl h,λ_ h=> .inl h,hF⟩
theorem StepTo.ext {w1 w':World} (h:StepTo N Fr w1 bs many c s σ w') (he:Ext w w1):StepTo N Fr w bs many c s σ w':=by
 obtain⟨d,f,e,a2,a3,a4,a5⟩:=h;have g:=he.size;exact⟨d,f,e,(Same.of_ext he).trans a2,λb a=>(a3 b a).imp id λh=>by omega,λb a=>(a4 b a).imp id λh=>by omega,a5⟩
theorem resolve_spec {v:Value} {k:Nat} (h:SR N Fr w bs many c s σ) (t:satOk many c s) (M:c.many=many) (hk:k<c.list.length+s.learned.length) (d:Ints F w v (atM c s k)) (hc:Kz s.put (atM c s k)) (q:∀b,Fr b->b<w.heap.size)
  (hK:∀w',StepTo N Fr w bs many c (xF0 many c s (atM c s k)) σ w'->K (.tuple #[]) w'):
  vcall P jZ #[.pointer (some ⟨bs,0,none⟩),v] w K:=by
 apply Vz;obtain⟨af,ap⟩:=satOk.many' t M;have ak:=t.few;have aq:=t.mks;refine jK λp w1 hp O ar a8=>?_;have G:Blk w1 p [.pointer (some ⟨bs,0,none⟩)] zM:=a8;simp only[push_cast];have bounds:∀x,x∈atM c s k->x.natAbs<=many/\placeOf s.put x.natAbs≠0:=λx d=>⟨(t.lit M hk d).2,(hc x d).2⟩;refine YW (p:=λi=>decide (0<lvM s.put (qV s.why) ((atM c s k).getD i 0))) (d.ext O) (λi hi w' K' he a7=>?_) λw2 Z=>?_
 ·rw[X0] at hi;rw[qH0 hi];obtain⟨b1,b2⟩:=bounds _ (qU hi);exact resolve_1_spec (h.ext (O.trans he)) (G.ext he) b1 b2 λw'' Y=>a7 w'' Y
 have A:=O.trans Z;have I:=h.ext A;have L:=G.ext Z;rw[X0];simp only[push_cast];refine zK (λa=>?_) (λa=>?_)
 ·
  have g:qq0 s.put (qV s.why) (atM c s k)=0:=pt λai=>by
   have:=topL_pos.1 ai;rw[this] at a;cases a
  simp(disch:=(simp only[push_cast])) only[push_cast,L.ld0];refine I.setCode λw3 h3 R a4=>hK w3 ⟨Fr,σ,?_,(Same.of_ext A).trans R,λb l=> .inl l,λb l=> .inl l,λb l=>?_⟩
  ·unfold xF0;rw[if_pos g];exact h3
  ·have:=q b l;have:=A.size;omega
 have g:qq0 s.put (qV s.why) (atM c s k)≠0:=topL_pos.2 (by simpa using a);have ae:=I.lists;have al:=I.lsl;simp(disch:=(simp only[push_cast])) only[push_cast,L.ld0,I.blk.ld4,ae.len];refine zh (λb=>?_) (λb=>?_)
 ·refine I.setCode λw3 h3 R a4=>hK w3 ⟨Fr,σ,?_,(Same.of_ext A).trans R,λb l=> .inl l,λb l=> .inl l,λb l=>?_⟩
  ·unfold xF0;rw[if_neg g,if_pos (by omega)];exact h3
  ·have:=q b l;have:=A.size;omega
 refine learn_spec I t M hk (d.ext A) hc g (λb l=>by have:=q b l;have:=A.size;omega) λw3 v3 B aj ag=>?_;have E3:=A.trans B;have a4:=B.size;have au:=A.size;simp only[push_cast];refine zr λw4 r _=>?_;have h4:=I.ext (B.trans r);have U:=(L.ext B).ext r;have a2:=aj.ext r;have av:=r.size;simp(disch:=(simp only[push_cast])) only[push_cast,U.ld0,h4.blk.ld4,true_and];refine yK Je0 zm0 QW0 rfl a2.ints.cells1 λb5 T ao C aw a5=>?_;have J:=h4.ext C;have V:=U.ext C;have S:=a2.ext C;simp(disch:=(simp only[push_cast])) only[push_cast,V.ld0,J.blk.ld4,true_and,and_self];refine OwnV.app1 J.rl Zh0 a5 S.ints.one (by omega) (by omega) λE w6 Q y ah=>?_;have a1:∀x,σ.foot bs x->x≠p:=λx d e=>by have:=h.lt d;omega
 have W:=V.same y λe=>a1 p (.inr (.inr (.inr e))) rfl;have X:=J.blk.same y λe=>h.s2 _ e rfl;have aa:Same (σ.foot bs) T w6:=y.mono λx _ e=> .inr (.inr (.inr e));simp(disch:=(simp only[push_cast])) only[push_cast,W.ld0,true_and];have j:∀x,v3.ownBlock=some x->w.heap.size<=x/\x<T.heap.size:=λx d=>⟨by have:=ag x d;omega,S.lt d⟩;have u:∀x,E.ownBlock=some x->σ.vr.ownBlock=some x\/T.heap.size<=x:=ah;refine X.st Q.vals.cells1 Q.vals.one kV0 rfl λw7 D ay a6=>?_;have f:Same (σ.foot bs) T w7:=aa.trans (D.mono λx _ e=> .inr (.inl e));have H:Same (λx=>x=bs\/σ.vr.ownBlock=some x) T w7:=(y.mono λx _ e=> .inr e).trans (D.mono λx _ e=> .inl e);have a9:=W.same D λe=>a1 bs (.inr (.inl rfl)) e.symm;have ax:=y.size;have a3:∀x,E.ownBlock=some x->x≠bs:=λx d e=>by
  rcases u x d with m|m
  ·exact h.s2 x m e
  ·have:=h.lt (.inr (.inl (rfl:bs=bs)));omega
 have ac:SR N (λb=>Fr b\/v3.ownBlock=some b) w7 bs many c {s with learned:=s.learned++[learnM many c s s.put.length (atM c s k)]} {σ with vr:=E,ls:=σ.ls++[v3]}:=by
  have fr:∀{x},σ.foot bs x->¬(Fr x\/v3.ownBlock=some x):=λ{x} d e=>by
   rcases e with e|e
   ·exact h.notF d e
   ·have:=h.lt d;have:=(j x e).1;omega
  refine⟨a6,h.cm,(J.cl.same f λx hF _ d=>h.notF d hF).weaken λx d _=> .inl d,?_,?_,?_,by simp[h.lsl],?_,h.s1,a3,?_,?_,?_⟩
  ·refine(J.tr.same H λx d e=>?_).reframe λx d=>fr (.inl d);rcases e with e|e
   ·exact h.st x (.inl e) d
   ·exact h.st x (.inr (.inr e)) d
  ·refine J.rw.same H λx d e=>?_;rcases e with e|e
   ·exact h.s1 x d e
   ·exact h.s3 x d e
  ·exact Q.same D λx d e=>a3 x d e
  ·refine RowsR.snoc ((J.ll.same f λx hF _ d=>h.notF d hF).weaken λx d _ _=> .inl d) h.lsl (S.same f λx d hf=>?_) (λx d=>⟨.inr d,?_⟩) λi x hi d e=>?_
   ·have:=h.lt hf;have:=(j x d).1;omega
   ·have:=h.ll.nle;have:=(j x d).1;omega
   ·have:=(h.ll.own i hi).lt d;have:=(j x e).1;omega
  ·intro x d e;rcases u x e with m|m
   ·exact h.s3 x d m
   ·have:=h.lt (.inr (.inr (.inl d)));omega
  ·rintro x (e|e|e) ht
   ·exact h.st x (.inl e) ht
   ·exact h.st x (.inr (.inl e)) ht
   ·rcases u x e with m|m
    ·exact h.st x (.inr (.inr m)) ht
    ·have:=h.lt (.inl ht);omega
  ·rintro x (e|e|e) hF
   ·exact fr (.inr (.inl e)) hF
   ·exact fr (.inr (.inr (.inl e))) hF
   ·rcases u x e with m|m
    ·exact fr (.inr (.inr (.inr m))) hF
    ·rcases hF with hF|hF
     ·have:=q x hF;omega
     ·have:=(j x hF).2;omega
 simp(disch:=(simp only[push_cast])) only[push_cast,a9.ld0];have an:=f.size;refine goBack_spec ac λσ8 w8 n hn ab z ad=>?_;subst hn;have a0:∀x,(SV.foot {σ with vr:=E,ls:=σ.ls++[v3]} bs) x->σ.foot bs x\/T.heap.size<=x:=by
  rintro x (e|e|e|e)
  ·exact .inl (.inl e)
  ·exact .inl (.inr (.inl e))
  ·exact .inl (.inr (.inr (.inl e)))
  ·exact(u x e).imp (λe=> .inr (.inr (.inr e))) id
 have az:=z.size;refine hK w8 ⟨λb=>Fr b\/v3.ownBlock=some b,σ8,?_,?_,λx d=>?_,λx d=>?_,λx d=>?_⟩
 ·unfold xF0;rw[if_neg g,if_neg (by omega)];exact ab
 ·have o:Ext w T:=E3.trans (r.trans C);have am:=o.size;refine⟨(z.os.trans f.os).trans o.os,(z.tape.trans f.tape).trans o.tape,(z.output.trans f.output).trans o.output,by omega,λx d hn=>?_⟩;rw[z.block x (by omega) λhf=>?_,f.block x (by omega) hn,o.block x d id];rcases a0 x hf with e|e
  ·exact hn e
  ·omega
 ·rcases a0 x (ad x d) with e|e
  ·exact .inl e
  ·exact .inr (by omega)
 ·rcases d with e|e
  ·exact .inl e
  ·exact .inr (j x e).1
 ·rcases d with e|e
  ·have:=q x e;omega
  ·have:=(j x e).2;omega
theorem neg_ne {n:Nat} (h:1<=n): -(n:Int)≠0:=by omega
theorem satOk.bnd (h:satOk many c s) (b:c.many=many) {cl:List Int} (a:cl∈c.list++s.learned) {l:Int} (d:l∈cl):l≠0/\l.natAbs<=many:=by
 have:=Qv (satOk.cls h a) d;omega
theorem step_spec (h:SR N Fr w bs many c s σ) (g:satOk many c s) (t:c.many=many) (r:∀b,Fr b->b<w.heap.size)
  (p:∀w',StepTo N Fr w bs many c (Z50 many c s) σ w'->K (.tuple #[]) w'):
  vcall P ZJ #[.pointer (some ⟨bs,0,none⟩)] w K:=by
 apply zO0;obtain⟨a4,A⟩:=satOk.many' g t;have aa:=g.few;simp(disch:=(simp only[push_cast])) only[push_cast,h.blk.ld5];refine zh (λa=>p w (by unfold Z50;rw[if_neg (by simpa using a)];exact StepTo.refl h r)) (λa=>?_);have Q:Z50 many c s=goM many c s:=if_pos (by simpa using a);rw[Q] at p;clear Q;refine zr λw1 I _=>?_;have G:=h.ext I;simp(disch:=(simp only[push_cast])) only[push_cast,G.blk.ld1,G.blk.ld2,G.blk.ld4,true_and];obtain⟨cs,ae,Y,ad⟩:=G.cl;refine vbuildS_row1 (xs:=[σ.vc,σ.vr]) KX0 kV0 KI0 (λx hx=>?_) (by simp) λb2 w2 ac Z ai X=>?_
 ·simp only[gd,gw,or_false] at hx;rcases hx with rfl|rfl
  ·exact Y.cells1
  ·exact G.lists.cells1
 have E2:=I.trans Z;have D:=h.ext E2;simp(disch:=(simp only[push_cast])) only[push_cast,D.blk.ld2,true_and];have L:Lists (λ_=>True) w2 σ.vr s.learned:=⟨σ.ls,D.lsl,D.lists.weaken λ_ _ _=>trivial,λi m=>(D.ll.int m).weaken λ_ _ _=>trivial⟩;have H:Lists (λ_=>True) w2 σ.vc c.list:=D.cl.weaken λ_ _ _=>trivial;have B:([c.list,s.learned]:List (List (List Int))).flatten=c.list++s.learned:=by simp
 refine next_spec (F:=λ_=>True) (vs:=[σ.vc,σ.vr]) (lls:=[c.list,s.learned]) D.tr (Sl.weaken (X.sl1 rfl (by simp)) λ_ _ _=>trivial) rfl (λi m=>?_) (λcl A l hl=>?_) ?_ λw3 k u x a0 J=>?_
 ·match i,m with
  |0,_=>exact H
  |1,_=>exact L
  |n+2,m=>exact absurd m (by simp)
 ·rw[B] at A;exact(satOk.bnd g t A hl).2
 ·rw[B,Q1];omega
 rw[B] at J;have E:=E2.trans a0;have S:=h.ext E;have aj:=E.size;have o:∀b,Fr b->b<w3.heap.size:=λb d=>by have:=r b d;omega
 simp only[push_cast,true_and];have f:goM many c s=(if 0<=k then xF0 many c s (atM c s k.toNat) else if 0<=u then{s with put:=s.put++[x],why:=s.why++[u]}
  else if s.put.length=many then{s with code:=1} else{s with put:=s.put++[-(xT0 many s.put:Int)],why:=s.why++[-1]}):=by
  unfold goM;rw[J]
 have hlen:=g.len;have ah:=(satOk.mks g).len;rcases find_cases s.put (c.list++s.learned) with⟨i,u',x',m,e,hc⟩|⟨hn,⟨i,x',m,e,hu,-⟩|⟨e,-⟩⟩
 ·rw[J,GF,GF] at e;obtain⟨rfl,rfl,rfl⟩:=e;rw[Q1] at m;rw[if_pos (by omega),gl] at f;refine zh (λ_=>?_) (λb=>absurd (by omega) b);refine clause_spec S (by omega) (by omega) λv4 U j a7=>?_;have q:=S.ext j;refine resolve_spec q g t m a7 hc (λb d=>by have:=o b d;have:=j.size;omega) λV z=>?_;rw[f] at p;exact p V (z.ext (E.trans j))
 ·rw[J,GF,GF] at e;obtain⟨rfl,rfl,rfl⟩:=e;rw[Q1] at m;rw[if_neg (by omega),if_pos (by omega)] at f;refine zh (λb=>absurd b (by omega)) (λ_=>zh (λ_=>?_) (λb=>absurd (by omega) b));obtain⟨a8,a9⟩:=unit_mem hu;have d:=satOk.bnd g t (Kk0 (s:=s) m) a8;refine assign_spec S d.1 d.2 a9 o λσ' U q M a1=>?_;rw[f] at p;refine p U (StepTo.ext ⟨Fr,σ',q,M,a1,λb d=> .inl d,λb d=>?_⟩ E);have:=o b d;have:=M.size;omega
 ·rw[J,GF,GF] at e;obtain⟨rfl,rfl,rfl⟩:=e;rw[if_neg (by omega),if_neg (by omega)] at f;refine zh (λb=>absurd b (by omega)) (λ_=>zh (λb=>absurd b (by omega)) (λ_=>?_));refine zr λU j _=>?_;have q:=S.ext j;have W:=E.trans j;have a5:Ints _ U σ.vp s.put:=q.tr.rp.ints;simp(disch:=(simp only[push_cast])) only[push_cast,q.blk.ld0,q.blk.ld2,q.tr.blk.ld0,a5.len,true_and];refine zh (λb=>?_) (λb=>?_)
  ·rw[if_pos (by omega)] at f;refine q.setCode λV z a6 ak=>?_;rw[f] at p;refine p V (StepTo.ext ⟨Fr,σ,z,a6,λb d=> .inl d,λb d=> .inl d,λb d=>?_⟩ W);have:=r b d;have:=W.size;omega
  ·rw[if_neg (by omega)] at f;obtain⟨f1,f2,f3,f4⟩:=free_spec g.mks (by omega);refine vloop_up (xT0 many s.put-1) (λi u w'=>u=[.int .i64 (i+1:Nat)]/\Ext w w') ⟨rfl,W⟩ ?_;rintro i _ _ V C m ⟨rfl,T⟩ hC;have z:=h.ext T;simp(disch:=(simp only[push_cast])) only[push_cast,z.blk.ld2];refine assigned_spec z.tr (by omega) λw6 v=>?_;rw[show((i:Int)+1).natAbs=i+1 from by omega];refine zh (λR=>?_) (λR=>?_)
   ·have a3:i<xT0 many s.put-1:=by
     refine pt λaf=>?_;have:i+1=xT0 many s.put:=(by omega);rw[this] at R;exact R f3
    simp(disch:=omega) only[push_cast,zJ];exact hC a3 _ _ ⟨by simp,T.trans v⟩
   ·have ab:i+1=xT0 many s.put:=by
     refine pt λag=>R (f4 _ (by omega) (by omega))
    have e1:IntKind.i64.wrap (0-((i:Int)+1))= -(xT0 many s.put:Int):=by rw[zJ (by omega) (by omega)];omega
    rw[e1];have h6:=z.ext v;have y:∀b,Fr b->b<w6.heap.size:=λb d=>by have:=r b d;have:=(T.trans v).size;omega
    refine assign_spec h6 (neg_ne f1) (by rw[GJ,PK];exact f2) (by rw[GJ,PK];exact f3) y λσ' w7 h7 O a2=>?_;rw[f] at p;refine p w7 (StepTo.ext ⟨Fr,σ',h7,O,a2,λb d=> .inl d,λb d=>?_⟩ (T.trans v));have:=y b d;have:=O.size;omega
end
section
variable {w:World} {K:Value->World->Prop} {F Fr:Nat->Prop} {many bs:Nat} {c:Cnf} {s:Sat} {σ:SV} {N:Nat}
theorem run_spec {v:Value} {n:Nat} (hc:CnfR F w v c) (z:cnfOk c=true) (d:c.many=many) (hn:n<=4000)
  (X:∀Fr bs σ w',Ext w w'->SR w.heap.size Fr w' bs many c (runM many c n emptyS) σ->(∀b,σ.foot bs b->w.heap.size<=b)->(∀b,Fr b->F b\/w.heap.size<=b)->(∀b,Fr b->b<w'.heap.size)->K (.pointer (some ⟨bs,0,none⟩)) w'):
  vcall P yQ0 #[v,.int .i64 n] w K:=by
 apply QA0;obtain⟨lv,rfl,R⟩:=hc;have s:many<=700:=by
  have:=z;unfold cnfOk at this;simp only[V0,decide_eq_true_eq] at this;omega
 refine jK λb1 w1 Y J a6 G=>?_;refine zr λw2 m _=>?_;have D:Blk w2 b1 [.int .i64 c.many,lv] zz:=G.ext m;rw[D.ldAgg xP];simp(disch:=(simp only[push_cast])) only[push_cast,D.ld0,true_and];rw[d];have a7:=m.size;refine newTrail_spec (Fr:=λb=>F b/\b<w.heap.size) s (λb l=>by have:=l.2;omega) λbt vp vpl vl w3 o g L=>?_;have S:=D.ext o;rw[S.ldAgg xP,d];simp only[true_and];refine yJ0 Yd0 (us:=[[.int .i64 many,lv],[.pointer (some ⟨bt,0,none⟩)]]) rfl rfl ?_;refine⟨rfl,?_⟩;refine jK λbs A Z t a9 H=>?_;have B:Ext w A:=J.trans (m.trans (o.trans t));have a8:=o.size;have M:=g.ext t;have a0:=(R.ext B).weaken (F':=λb=>F b) λb h _=>h;have y:Lists (λb=>F b/\b<w.heap.size) A lv c.list:=(R.weaken (F':=λb=>F b/\b<w.heap.size) λb T U=>⟨T,U⟩).ext B;have N:∀x,Jg bt vp vpl vl x->x<w3.heap.size:=by
  rintro x (rfl|e|e|e)
  ·exact g.blk.lt
  ·exact g.rp.lt e
  ·exact g.rpl.lt e
  ·exact g.rl.lt e
 have p:∀x,(SV.mk lv bt vp vpl vl (.slice none 0 0) (.slice none 0 0) []).f3 bs x->x=bs:=by
  rintro x (e|e|e)
  ·exact e
  ·cases e
  ·cases e
 have I:SR w.heap.size (λb=>F b/\b<w.heap.size) A bs many c emptyS (SV.mk lv bt vp vpl vl (.slice none 0 0) (.slice none 0 0) []):=
  ⟨H,d,y,M,OwnI.nil,OwnV.nil,rfl,RowsR.nil B.size,λx j=>(by cases j),λx j=>(by cases j),λx j=>(by cases j),
   λx j ht=>by have:=p x j;have:=N x ht;omega,λx j hF=>by have:=p x j;have:=hF.2;omega⟩
 have f:∀x,(SV.mk lv bt vp vpl vl (.slice none 0 0) (.slice none 0 0) []).foot bs x->w.heap.size<=x:=by
  rintro x (e|e)
  ·have:=L x e;omega
  ·have:=p x e;omega
 have k:∀q,StepTo w.heap.size (λb=>F b/\b<w.heap.size) A bs many c (runM many c n emptyS) (SV.mk lv bt vp vpl vl (.slice none 0 0) (.slice none 0 0) []) q->K (.pointer (some ⟨bs,0,none⟩)) q:=by
  rintro q ⟨E,O,r,a2,a3,a4,a5⟩;refine X E bs O q (B.then a2 f) r (λb l=>?_) (λb l=>?_) a5
  ·rcases a3 b l with e|e
   ·exact f b e
   ·omega
  ·rcases a4 b l with e|e
   ·exact .inl e.1
   ·exact .inr (by omega)
 refine vloop_up n (λi u w'=>u=[.int .i64 i]/\StepTo w.heap.size (λb=>F b/\b<w.heap.size) A bs many c (runM many c i emptyS) (SV.mk lv bt vp vpl vl (.slice none 0 0) (.slice none 0 0) []) w') ⟨rfl,StepTo.refl I λb l=>by have:=l.2;omega⟩ ?_;rintro i _ _ q C hi ⟨rfl,Q⟩ W;simp only[push_cast];refine zh (λa=>?_) (λa=>?_)
 ·obtain⟨E,O,r,a2,a3,a4,a5⟩:=Q;simp(disch:=(simp only[push_cast])) only[push_cast,r.blk.ld5];refine zh (λb=>?_) (λb=>?_)
  ·refine k q ⟨E,O,?_,a2,a3,a4,a5⟩;have e:n=i+(n-i):=(by omega);rw[e,run_add,run_stop b];exact r
  ·refine step_spec r (run_ok d (VK0 z)) d a5 λw6 V=>?_;simp(disch:=omega) only[push_cast,zJ];refine W (by omega) _ _ ⟨by simp,StepTo.trans a2 a3 a4 (by rw[run_succ];exact V)⟩
 ·have:n=i:=(by omega);subst this;exact k q Q
end
section
variable {w:World} {K:Value->World->Prop} {F Fr:Nat->Prop} {many bs:Nat} {c:Cnf} {s:Sat} {σ:SV} {N:Nat}
def KP (many:Nat) (put:List Int):List Bool:=(List.range many).map λj=>decide (((j+1:Nat):Int)∈put)
theorem valsM_snoc {many:Nat} {put:List Int} {l:Int} (a:ja (put++[l])) (j:l≠0):(KP many put).set (l.natAbs-1) (decide (0<l))=KP many (put++[l]):=by
 refine Gh (by simp[KP]) λi f g=>?_;rw[pY];simp only[KP,pf,GI];have c:∀x,x∈put->x.natAbs≠l.natAbs:=by
  unfold ja at a;rw[gx,Gx] at a;exact λx d e=>a.2.2 _ (Gc d) _ (by simp) e
 by_cases b:l.natAbs-1=i
 ·rw[if_pos b];refine decide_eq_decide.2 ⟨λh=>GV _ (by rw[gn];omega),λh=>?_⟩;rcases gk.1 h with h|h
  ·exact absurd (by omega) (c _ h)
  ·rw[gn] at h;omega
 ·rw[if_neg b];refine decide_eq_decide.2 ⟨λh=>Ge _ h,λh=>?_⟩;rcases gk.1 h with h|h
  ·exact h
  ·rw[gn] at h;omega
theorem vals_spec (h:SR N Fr w bs many c s σ) (B:∀w' v,Ext w w'->OwnB P jJ w' v (KP many s.put)->(∀x,v.ownBlock=some x->w.heap.size<=x)->K v w'):vcall P ZI #[.pointer (some ⟨bs,0,none⟩)] w K:=by
 apply zN0;have E:=h.tr.few;have z:=h.tr.few';simp(disch:=(simp only[push_cast])) only[push_cast,h.blk.ld0];refine vmkS_own (bs:=1) Ww0 VI0 QV0 rfl (by omega) (by omega) λv1 w1 t e f=>?_;have m:=h.ext e;have o:Ints _ w1 σ.vp s.put:=m.tr.rp.ints;simp(disch:=(simp only[push_cast])) only[push_cast,m.blk.ld2,m.tr.blk.ld0,o.len];have r:OwnB P jJ w1 v1 (KP many []):=by
  have:KP many []=List.replicate many false:=Gh (by simp[KP]) λi a b=>(by simp[KP]);rw[this];unfold OwnB;rw[pk];exact t
 refine vloop_up s.put.length (λi u w'=>u=[.int .i64 i]/\Ext w w'/\OwnB P jJ w' v1 (KP many (s.put.take i))) ⟨rfl,e,r⟩ ?_;rintro i _ _ w2 C J ⟨rfl,he,l⟩ A;simp only[push_cast];refine zh (λa=>?_) (λa=>?_)
 ·have g:Ints _ w2 σ.vp s.put:=(h.ext he).tr.rp.ints;simp(disch:=first|(simp only[push_cast])|omega) only[push_cast,g.iaddr,g.load];have D:=h.tr.bnd _ (qU (show i<s.put.length by omega));have G:(KP many (s.put.take i)).length=many:=(by simp[KP]);refine variable_spec (by omega) (by omega) ?_;obtain⟨q,F⟩:∃q,(s.put.getD i 0).natAbs=q+1:=⟨(s.put.getD i 0).natAbs-1,by omega⟩;rw[F,show(((q+1:Nat):Int))=(q:Int)+1 from rfl];have n:=l.bools;simp(disch:=first|(simp only[push_cast])|omega) only[Wd,Int.add_sub_cancel,push_cast,zJ,n.iaddr];refine l.st QX0 (by omega) λL k p I=>?_;have j:(KP many (s.put.take i)).set q (decide (0<s.put.getD i 0))=KP many (s.put.take (i+1)):=by
   have y:=Ko h.tr.dis (i+1);rw[qr0 (d:=0) (by omega)] at y⊢;rw[<-valsM_snoc y D.1,show q=(s.put.getD i 0).natAbs-1 from by omega]
  rw[j] at k;exact A (by omega) _ _ ⟨by simp,Ext.then he p λx H=>by have:=f x H;omega,k⟩
 ·rw[gM (by omega)] at l;exact B w2 v1 he l f
end
end Go.Proofs.YtokflbdfnbppjaaGreatDoor
namespace Go.Vc
open Go Go.M
section
variable {P:Program} {w w':World} {K:Value->World->Prop} {F:Nat->Prop} {k:Nat} {v tv dv mv:Value} {xs:List (List Value)} {t:TypeId} {ts:List Tm} {ds:List Dcl}
theorem Sl.mid (h:Sl F w k v xs) (A:elB P t k=true) {a b:Nat} (s:a<=b) (q:b<=xs.length):
  ∃v1,(∀(n p:IntKind) (w':World) (K:Value->World->Prop),yQ P t v (some (.int n a)) (some (.int p b)) none w' K=K v1 w')/\Sl F w k v1 ((xs.drop a).take (b-a)):=by
 obtain⟨hu,hs⟩:=zF0 A;obtain⟨o,c,rfl,C,u,d⟩:=h.shape;refine⟨sliced o a b c k,λn p w' K=>yU ?_,?_⟩
 ·rw[run_sliceAt_slice w' t _ _ _ _ hu,run_slice_lh w' t _ _ _ hu n p a b (by omega) (by omega) (by omega),Go.Vc.run_sizeOf hs];simp[Result.andThen]
 ·have f:((xs.drop a).take (b-a)).length=b-a:=by rw[gi,G1];omega
  refine⟨⟨_,c-a,by rw[f];rfl,by rw[f];omega,by omega,λm=>?_⟩,λx B=>h.wide x (pD (gZ B))⟩;have z:a<b:=Nat.lt_of_not_le λe=>m (gE (by rw[f];omega));obtain⟨g,j,rfl,hF,y,l⟩:=d (λe=>by rw[e] at q;simp at q;omega);rw[if_neg (by omega)];refine⟨g,j+a*k,by simp[xR],hF,y,λi r=>?_⟩;rw[f] at r;have:=l (a+i) (by omega);have e:((xs.drop a).take (b-a)).getD i []=xs.getD (a+i) []:=by
   rw[take_getD r,k6,pO,<-k6]
  rw[e,show j+a*k+i*k=j+(a+i)*k by rw[G3];omega];exact this
theorem DclsR.mid (h:DclsR F w v ds) (g:elB P t 2=true) {a b:Nat} (c:a<=b) (f:b<=ds.length):
  ∃v1,(∀(i j:IntKind) (w':World) (K:Value->World->Prop),yQ P t v (some (.int i a)) (some (.int j b)) none w' K=K v1 w')/\DclsR F w v1 ((ds.drop a).take (b-a)):=by
 obtain⟨v1,d,e⟩:=Sl.mid h g c (by rw[X0];exact f);exact⟨v1,d,by unfold DclsR;rw[Gp,pR];exact e⟩
theorem TmsR.mid (h:TmsR F w v ts) (k:elB P t 5=true) {a b:Nat} (d:a<=b) (j:b<=ts.length):
  ∃v1,(∀(m n:IntKind) (w':World) (K:Value->World->Prop),yQ P t v (some (.int m a)) (some (.int n b)) none w' K=K v1 w')/\TmsR F w v1 ((ts.drop a).take (b-a)):=by
 obtain⟨css,g1,g2,g3⟩:=h;obtain⟨v1,f,g⟩:=Sl.mid g1 k d (by rw[g2];exact j);refine⟨v1,f,_,g,by simp[g2],λi e=>?_⟩;have c:i<b-a:=by rw[gi] at e;omega
 rw[take_getD c,take_getD c,k6,pO,<-k6,k6 (l:=ts.drop a),pO,<-k6];exact g3 _ (by rw[gi,G1] at e;omega)
theorem DclsR.one (h:DclsR F w dv ds):dv.oneCell'=true:=by
 obtain⟨a,c,rfl,_⟩:=h.shape;rfl
theorem DclsR.cellsV (h:DclsR F w dv ds):dv.cells= #[dv]:=by
 obtain⟨a,c,rfl,_⟩:=h.shape;rfl
theorem TmsR.one (h:TmsR F w tv ts):tv.oneCell'=true:=by
 obtain⟨_,h,_⟩:=h;obtain⟨a,c,rfl,_⟩:=h.shape;rfl
theorem TmsR.cellsV (h:TmsR F w tv ts):tv.cells= #[tv]:=by
 obtain⟨_,h,_⟩:=h;obtain⟨a,c,rfl,_⟩:=h.shape;rfl
theorem PairsR.one {xs:List (Int×Int)} (h:PairsR F w mv xs):mv.oneCell'=true:=by
 obtain⟨a,c,rfl,_⟩:=h.shape;rfl
theorem PairsR.cellsV {xs:List (Int×Int)} (h:PairsR F w mv xs):mv.cells= #[mv]:=by
 obtain⟨a,c,rfl,_⟩:=h.shape;rfl
theorem PairsR.load0 {xs:List (Int×Int)} (h:PairsR F w mv xs) {t:TypeId} (b:oneB P t=true) {i:Nat} (a:i<xs.length):zf P t (.pointer (some ((eaddr mv 2 i).add 0))) w K=K (.int .i64 (xs.getD i (0,0)).1) w:=
 Sl.ldField h b (by rw[X0];exact a) (by rw[getD_map _ a _ (0,0)];rfl)
end
end Go.Vc
namespace Go.M
open Go.Vc
section
abbrev Lay:=List Dcl×List Tm
def decL (c:List Lay):List Dcl:=(c.map (·.1)).flatten
def terL (c:List Lay):List Tm:=(c.map (·.2)).flatten
def Up0 (c:List Lay) (i:Nat):Bool:=(c.getD i ([],[])).2.all λt=>decide (tsort (decL (c.take (i+1))) t=0)
def ctxOk (c:List Lay):Bool:=decide (1<=c.length)&&decide (c.length<=6)&&declOk (decL c)&&decide ((terL c).length<=8)&&(List.range c.length).all λi=>Up0 c i
def addD (c:List Lay) (d:Dcl):List Lay:=c.set (c.length-1) ((c.getD (c.length-1) ([],[])).1++[d],(c.getD (c.length-1) ([],[])).2)
def addT (c:List Lay) (t:Tm):List Lay:=c.set (c.length-1) ((c.getD (c.length-1) ([],[])).1,(c.getD (c.length-1) ([],[])).2++[t])
section
variable {c:List Lay} {d:Dcl} {t:Tm} {l:Lay} {i:Nat}
theorem ctx_iff:ctxOk c=true↔1<=c.length/\c.length<=6/\declOk (decL c)=true/\(terL c).length<=8/\∀i,i<c.length->∀t,t∈(c.getD i ([],[])).2->tsort (decL (c.take (i+1))) t=0:=by
 simp only[ctxOk,Up0,V0,gN,gy,decide_eq_true_eq,and_assoc]
theorem decL_app (c b:List Lay):decL (c++b)=decL c++decL b:=by unfold decL;rw[gx,pb]
theorem terL_app (c b:List Lay):terL (c++b)=terL c++terL b:=by unfold terL;rw[gx,pb]
theorem decL_one (l:Lay):decL [l]=l.1:=by simp[decL]
theorem terL_one (l:Lay):terL [l]=l.2:=by simp[terL]
theorem lay_take (h:i<c.length):c.take (i+1)=c.take i++[c.getD i ([],[])]:=take_add h _
theorem decL_take (h:i<c.length):decL (c.take (i+1))=decL (c.take i)++(c.getD i ([],[])).1:=by rw[lay_take h,decL_app,decL_one]
theorem terL_take (h:i<c.length):terL (c.take (i+1))=terL (c.take i)++(c.getD i ([],[])).2:=by rw[lay_take h,terL_app,terL_one]
theorem decL_split (c:List Lay) (i:Nat):decL c=decL (c.take i)++decL (c.drop i):=by rw[<-decL_app,GL]
theorem terL_split (c:List Lay) (i:Nat):terL c=terL (c.take i)++terL (c.drop i):=by rw[<-terL_app,GL]
theorem decL_pre (c:List Lay) (i:Nat):(decL c).take (decL (c.take i)).length=decL (c.take i):=by rw[decL_split c i,Pe];rfl
theorem terL_pre (c:List Lay) (i:Nat):(terL c).take (terL (c.take i)).length=terL (c.take i):=by rw[terL_split c i,Pe];rfl
theorem lay_drop (h:i<c.length):c.drop i=c.getD i ([],[])::c.drop (i+1):=by
 rw[GS h,k6,K3 h];rfl
theorem decL_mid (h:i<c.length):((decL c).drop (decL (c.take i)).length).take ((decL (c.take (i+1))).length-(decL (c.take i)).length)=(c.getD i ([],[])).1:=by
 rw[decL_take h,Q1,P0,decL_split c i,P8,lay_drop h]
 ·show List.take _ (((c.getD i ([],[])).1::((c.drop (i+1)).map (·.1))).flatten)=_;rw[GD,Pe];rfl
 ·rfl
theorem terL_mid (h:i<c.length):((terL c).drop (terL (c.take i)).length).take ((terL (c.take (i+1))).length-(terL (c.take i)).length)=(c.getD i ([],[])).2:=by
 rw[terL_take h,Q1,P0,terL_split c i,P8,lay_drop h]
 ·show List.take _ (((c.getD i ([],[])).2::((c.drop (i+1)).map (·.2))).flatten)=_;rw[GD,Pe];rfl
 ·rfl
theorem decL_le (h:i<=c.length):(decL (c.take i)).length<=(decL c).length:=by rw[decL_split c i,Q1];omega
theorem terL_le (h:i<=c.length):(terL (c.take i)).length<=(terL c).length:=by rw[terL_split c i,Q1];omega
def markL (c:List Lay):List (Int×Int):=(List.range c.length).map λi=>(((decL (c.take (i+1))).length:Int),((terL (c.take (i+1))).length:Int))
theorem markL_len:(markL c).length=c.length:=by simp[markL]
theorem markL_get (h:i<c.length):(markL c).getD i (0,0)=(((decL (c.take (i+1))).length:Int),((terL (c.take (i+1))).length:Int)):=by
 unfold markL;rw[getD_map _ (by simpa using h) _ 0,k6,pc h];rfl
theorem markL_snoc (c:List Lay) (l:Lay):markL (c++[l])=markL c++[(((decL (c++[l])).length:Int),((terL (c++[l])).length:Int))]:=by
 unfold markL;rw[Q1,gD,List.range_succ,gx];congr 1
 ·refine Gj λi a=>?_;have b:=gy.1 a;rw[GH (by omega)]
 ·simp[gM]
theorem markL_take {n:Nat} (h:n<=c.length):(markL c).take n=markL (c.take n):=by
 unfold markL;rw[<-Gp,List.take_range,gJ h,gi,gJ h];refine Gj λi a=>?_;have b:=gy.1 a;rw[GC,gJ (by omega)]
theorem XS {c:List Lay} (h:c≠[]):∃b l,c=b++[l]:=⟨_,_,(List.dropLast_concat_getLast h).symm⟩
theorem jB0 (c:List Lay) (l:Lay) (d:Dcl):addD (c++[l]) d=c++[(l.1++[d],l.2)]:=by
 unfold addD;simp[k6,Pf]
theorem y80 (c:List Lay) (l:Lay) (t:Tm):addT (c++[l]) t=c++[(l.1,l.2++[t])]:=by
 unfold addT;simp[k6,Pf]
theorem addD_decL (h:c≠[]):decL (addD c d)=decL c++[d]:=by
 obtain⟨b,l,rfl⟩:=XS h;rw[jB0];simp[decL]
theorem addD_terL (h:c≠[]):terL (addD c d)=terL c:=by
 obtain⟨b,l,rfl⟩:=XS h;rw[jB0];simp[terL]
theorem addT_decL (h:c≠[]):decL (addT c t)=decL c:=by
 obtain⟨b,l,rfl⟩:=XS h;rw[y80];simp[decL]
theorem addT_terL (h:c≠[]):terL (addT c t)=terL c++[t]:=by
 obtain⟨b,l,rfl⟩:=XS h;rw[y80];simp[terL]
theorem addD_len:(addD c d).length=c.length:=by unfold addD;rw[gH]
theorem addT_len:(addT c t).length=c.length:=by unfold addT;rw[gH]
theorem markL_addD (h:c≠[]):markL (addD c d)=(markL c).set (c.length-1) (((decL c).length:Int)+1,((terL c).length:Int)):=by
 obtain⟨b,l,rfl⟩:=XS h;rw[jB0,markL_snoc,markL_snoc];simp[Pf,markL_len,decL,terL];omega
theorem markL_addT (h:c≠[]):markL (addT c t)=(markL c).set (c.length-1) (((decL c).length:Int),((terL c).length:Int)+1):=by
 obtain⟨b,l,rfl⟩:=XS h;rw[y80,markL_snoc,markL_snoc];simp[Pf,markL_len,decL,terL];omega
theorem markL_last (h:c≠[]):(markL c).getD (c.length-1) (0,0)=(((decL c).length:Int),((terL c).length:Int)):=by
 have:0<c.length:=gG.2 h;rw[markL_get (by omega),show c.length-1+1=c.length by omega,gC]
theorem ctx_addT (h:ctxOk c=true):ctxOk (addT c t)=(decide (tsort (decL c) t=0)&&decide ((terL c).length<8)):=by
 obtain⟨k,m,n,p,g⟩:=ctx_iff.1 h;have a:c≠[]:=PO (by omega);rw[PA,ctx_iff,V0,decide_eq_true_eq,decide_eq_true_eq,addT_len,addT_decL a,addT_terL a,Q1,gD];obtain⟨b,l,rfl⟩:=XS a;rw[y80];have q:(b++[l]).length=b.length+1:=by simp
 constructor
 ·rintro⟨_,_,_,g4,g5⟩;refine⟨?_,by omega⟩;have:=g5 b.length (by omega) t (by simp[k6]);rw[gM (by simp)] at this;simpa[decL] using this
 ·rintro⟨g1,g2⟩;refine⟨k,m,n,by omega,λi j u hu=>?_⟩;by_cases f:i<b.length
  ·rw[app_getD f] at hu;have:=g i j u (by rw[app_getD f];exact hu);rw[GH (by omega)] at this⊢;exact this
  ·have e:i=b.length:=(by omega);subst e;rw[gM (by simp)];have o:decL (b++[(l.1,l.2++[t])])=decL (b++[l]):=(by simp[decL]);rw[o];have d:u∈l.2\/u=t:=(by simpa[k6] using hu);rcases d with d|rfl
   ·have:=g b.length j u (by simpa[k6] using d);rwa[gM (by simp)] at this
   ·exact g1
end
end
end Go.M
namespace Go.Proofs.YtokflbdfnbppjaaGreatDoor
open Go Go.Vc Go.Proofs
section
variable {w w':World} {K:Value->World->Prop} {F F' F2 H H2 S:Nat->Prop} {k:Nat} {v uv tv dv:Value} {t:TypeId} {ts us:List M.Tm} {ds es:List M.Dcl}
def LstH (H:Nat->Prop) (w:World) (tv:Value) (ts:List M.Tm):Prop:= ∃css,Own P 0 5 zb w tv css/\css.length=ts.length/\∀i,i<ts.length->TmR H w (css.getD i []) (ts.getD i default)
theorem LstH.nil:LstH H w (.slice none 0 0) []:=⟨[],Own.nil P 0 5 _ w,rfl,λi a=>absurd a (pz _)⟩
theorem LstH.lt (h:LstH H w tv ts) {b:Nat} (a:tv.ownBlock=some b):b<w.heap.size:=by obtain⟨_,c,_⟩:=h;exact(c.lt a).2
theorem LstH.same (h:LstH H w tv ts) (hw:Same S w w') (b:∀x,tv.ownBlock=some x->¬S x) (c:∀x,H x->x<w.heap.size->¬S x):LstH H w' tv ts:=by
 obtain⟨css,f,e,d⟩:=h;exact⟨css,f.same hw b,e,λi a=>(d i a).same hw c⟩
theorem LstH.ext (h:LstH H w tv ts) (hw:Ext w w'):LstH H w' tv ts:=h.same hw (λ_ _ h=>h) λ_ _ _ h=>h
theorem LstH.weaken (h:LstH H w tv ts) (c:∀b,H b->b<w.heap.size->F b):LstH F w tv ts:=by
 obtain⟨css,f,e,d⟩:=h;exact⟨css,f,e,λi a=>(d i a).weaken c⟩
theorem LstH.tms (h:LstH H w tv ts):TmsR (λx=>H x\/tv.ownBlock=some x) w tv ts:=by
 obtain⟨css,e,d,c⟩:=h;exact⟨css,e.sl.weaken λx b _=> .inr b,d,λi a=>(c i a).weaken λx b _=> .inl b⟩
theorem XX {α:Type} {l r:List α} {i:Nat} {e:α} (h:l.length<=i):(l++r).getD i e=r.getD (i-l.length) e:=by
 rw[k6,gW h,<-k6]
theorem LstH.app {ty:Nat} {c:List (List Value)} (h:LstH H w tv ts) (o:∀x,tv.ownBlock=some x->¬H x/\¬H2 x) (hu:Sl F2 w 5 uv c) (j:c.length=us.length) (g:∀i,i<us.length->TmR H2 w (c.getD i []) (us.getD i default))
  (s:ts.length+us.length<=1000000000)
  (p:∀w' b,Same (λx=>tv.ownBlock=some x) w w'->(∀x,b.ownBlock=some x->tv.ownBlock=some x\/w.heap.size<=x)->LstH (λx=>(H x\/H2 x)/\x<w.heap.size) w' b (ts++us)->K b w'):
  vbi P .append [zb,zb] ty [tv,uv] w K:=by
 obtain⟨css,r,f,q⟩:=h;refine vappend YF (by decide) r hu (one_tms j g) (Gg _) (by omega) (by omega) λb w2 m d l=>p w2 b d l ⟨css++c,m,by simp[f,j],λi k=>?_⟩;rw[Q1] at k;by_cases n:i<ts.length
 ·rw[M.app_getD (by omega),M.app_getD n];exact((q i n).weaken (F':=λx=>(H x\/H2 x)/\x<w.heap.size/\H x) λx a f=>⟨.inl a,f,a⟩).same d (λx a _ e=>(o x e).1 a.2.2)|>.weaken λx a _=>⟨a.1,a.2.1⟩
 ·rw[XX (by omega),XX (by omega),f];exact((g _ (by omega)).weaken (F':=λx=>(H x\/H2 x)/\x<w.heap.size/\H2 x) λx a f=>⟨.inr a,f,a⟩).same d (λx a _ e=>(o x e).2 a.2.2)|>.weaken λx a _=>⟨a.1,a.2.1⟩
theorem LstH.push {ty:Nat} {t:M.Tm} (h:LstH H w tv ts) (m:∀x,tv.ownBlock=some x->¬H x/\¬H2 x) (r:TermR H2 w uv t) (q:ts.length<=1000000)
  (o:∀w' a,Same (λx=>tv.ownBlock=some x) w w'->(∀x,a.ownBlock=some x->tv.ownBlock=some x\/w.heap.size<=x)->LstH (λx=>(H x\/H2 x)/\x<w.heap.size) w' a (ts++[t])->K a w'):
  vbuildS P zb 1 [(0,uv)] w λs w1=>vbi P .append [zb,zb] ty [tv,s] w1 K:=by
 obtain⟨cs,rfl,f⟩:=r.cells;refine xQ xd xn zH rfl (yq f) (by decide) λb w1 v d u g=>?_;have y:=d.size;refine LstH.app (H2:=λx=>H2 x/\x<w.heap.size) (us:=[t]) ((h.weaken (F:=λx=>H x/\x<w.heap.size) λx c j=>⟨c,j⟩).ext d) (λx c=>⟨λe=>(m x c).1 e.1,λe=>(m x c).2 e.1⟩) (g.sl1k (yq f)) rfl (λi p=>?_) (by simp;omega) λw2 a l k n=>?_
 ·have:i=0:=(by simpa using p);subst this;exact(f.weaken λx c j=>⟨c,j⟩).ext d
 ·refine o w2 a ((Same.of_ext d).trans l) (λx c=>(k x c).imp id λh=>by omega) (n.weaken λx c _=>?_);rcases c.1 with h|h
  ·exact⟨.inl h.1,h.2⟩
  ·exact⟨.inr h.1,h.2⟩
theorem OwnD.app {ty:Nat} (h:OwnD w dv ds) (hu:DclsR F w uv es) (j:ds.length+es.length<=1000000000)
  (i:∀w' a,Same (λx=>dv.ownBlock=some x) w w'->(∀x,a.ownBlock=some x->dv.ownBlock=some x\/w.heap.size<=x)->OwnD w' a (ds++es)->K a w'):
  vbi P .append [zi,zi] ty [dv,uv] w K:=by
 refine vappend Yy0 (by decide) h hu (λy k c g=>?_) (Gg _) (by rw[X0,X0];omega) (by rw[X0,X0];omega) λa w2 e f b=>i w2 a f b (by unfold OwnD;rw[gx];exact e);obtain⟨d,_,rfl⟩:=gm.1 k;simp only[gd,gw,or_false] at g;rcases g with rfl|rfl<;>rfl
end
section
variable {w w':World} {K:Value->World->Prop} {F F' G S:Nat->Prop} {n b:Nat} {v tv dv mv:Value} {t:TypeId} {ts us:List M.Tm} {ds:List M.Dcl} {ms:List (Int×Int)} {c:List M.Lay}
def LaysR (F:Nat->Prop) (w:World) (v:Value) (c:List M.Lay):Prop:= ∃css:List (Value×Value),Sl F w 2 v (css.map λp=>[p.1,p.2])/\css.length=c.length/\∀i,i<c.length->DclsR F w (css.getD i (undef,undef)).1 (c.getD i ([],[])).1/\TmsR F w (css.getD i (undef,undef)).2 (c.getD i ([],[])).2
theorem LaysR.same (h:LaysR F w v c) (hw:Same S w w') (hs:∀b,F b->b<w.heap.size->¬S b):LaysR F w' v c:=by
 obtain⟨css,e,f,a⟩:=h;exact⟨css,e.same hw hs,f,λi d=>⟨(a i d).1.same hw hs,(a i d).2.same hw hs⟩⟩
theorem LaysR.ext (h:LaysR F w v c) (hw:Ext w w'):LaysR F w' v c:=h.same hw λ_ _ _ h=>h
theorem LaysR.weaken (h:LaysR F w v c) (a:∀b,F b->b<w.heap.size->F' b):LaysR F' w v c:=by
 obtain⟨css,f,g,d⟩:=h;exact⟨css,f.weaken a,g,λi e=>⟨(d i e).1.weaken a,(d i e).2.weaken a⟩⟩
theorem LaysR.nil:LaysR F w (.slice none 0 0) []:=⟨[],⟨⟨none,0,rfl,by simp,by simp,by simp⟩,by simp⟩,rfl,by simp⟩
theorem LaysR.len (h:LaysR F w v c) {t:TypeId} (d:isSl P t=true) (ty:TypeId):vbi P .len [t] ty [v] w' K=K (.int .i64 c.length) w':=by
 obtain⟨css,a,b,e⟩:=h;have:=Sl.len (K:=K) (w':=w') a d ty;rwa[X0,b] at this
theorem LaysR.iaddr (h:LaysR F w v c) {t:TypeId} (f:elB P t 2=true) {kd:IntKind} {i:Int} (b:0<=i) (d:i<c.length):
  zj P t v (.int kd i) w' K=K (.pointer (some (eaddr v 2 i.toNat))) w':=by
 obtain⟨css,a,e,g⟩:=h;exact Sl.iaddr a f b (by rw[X0,e];exact d)
theorem LaysR.load (h:LaysR F w v c) {t:TypeId} (f:aggB P t 2=true) {i:Nat} (b:i<c.length)
  (e:∀dv tv,DclsR F w dv (c.getD i ([],[])).1->TmsR F w tv (c.getD i ([],[])).2->K (.agg ⟨[dv,tv]⟩) w):zf P t (.pointer (some (eaddr v 2 i))) w K:=by
 obtain⟨css,d,g,a⟩:=h;rw[d.ldAgg f (by rw[X0];omega),M.getD_map _ (by omega) _ (undef,undef)];exact e _ _ (a i b).1 (a i b).2
theorem two_one {a b:Value} (d:a.oneCell'=true) (e:b.oneCell'=true):∀x,x∈[a,b]->x.oneCell'=true:=λx c=>by
 simp only[gd,gw,or_false] at c;rcases c with rfl|rfl<;>assumption
theorem V90 {k:Nat} {xs:List (List Value)} (h:Own P 0 k t w v xs):∀a l c,v= .slice (some a) l c->∃b o,a=⟨b,o,none⟩:=by
 rintro a l c e;rcases h.row.2 with⟨rfl,s⟩|⟨g,cap,cur,rfl,i,r,n,j,m,f⟩
 ·cases e
 ·injection e with d p q
  injection d with d
  exact⟨g,0,d.symm⟩
theorem qx0 {k:Nat} {xs:List (List Value)} {t':TypeId} (h:Own P 0 k t w v xs) (b:elB P t' k=true) {kd:IntKind} {n:Nat} (a:n<=xs.length):yQ P t' v none (some (.int kd n)) none w' K=K (cutV v n) w':=Sl.cut h.sl (V90 h) b a
theorem own_taken {k:Nat} {xs:List (List Value)} (h:Own P 0 k t w v xs) {n:Nat} (b:n<=xs.length):Own P 0 k t w (cutV v n) (xs.take n):=by
 have hw:∀x,x∈xs.take n->x.length=k:=λx o=>h.wide x (gZ o);rcases h.row.2 with⟨rfl,p⟩|⟨g,cap,cur,rfl,c,l,m,d,f,a⟩
 ·have:n=0:=(by omega);subst this;rw[PG];exact Own.nil P 0 k t w
 ·refine⟨⟨flatten_len hw,.inr ⟨g,cap,cur,by simp[cutV,gJ b],c,l,?_,d,f,?_⟩⟩,hw⟩
  ·rw[gi];omega
  ·rw[gi,gJ b];have e:(xs.take n).flatten=xs.flatten.take (n*k):=by
    have i:=flatten_len hw;rw[gi,gJ b] at i;have j:xs.flatten=(xs.take n).flatten++(xs.drop n).flatten:=(by rw[<-pb,GL]);rw[<-i,j,Pe];rfl
   rw[e,<-a,GC,gJ (pC _ b)]
structure CtxB (c:List M.Lay):Prop where
 len:c.length<=100
 dec:(M.decL c).length<=1000
 ter:(M.terL c).length<=1000
theorem ctxB_take (h:CtxB c) (i:Nat):CtxB (c.take i):=by
 have a:=congrArg List.length (M.decL_split c i);have b:=congrArg List.length (M.terL_split c i);rw[Q1] at a b;exact⟨by have:=h.len;rw[gi];omega,by have:=h.dec;omega,by have:=h.ter;omega⟩
theorem ctxB_of (h:M.ctxOk c=true):CtxB c:=by
 obtain⟨b,d,a,e,f⟩:=M.ctx_iff.1 h;exact⟨by omega,by have:=(M.decl_iff.1 a).1;omega,by omega⟩
structure StkR (n:Nat) (w:World) (b:Nat) (dv tv mv:Value) (ds:List M.Dcl) (ts:List M.Tm) (ms:List (Int×Int)):Prop where
 blk:Blk w b [dv,tv,mv] zy
 dec:OwnD w dv ds
 ter:LstH (λx=>x<n) w tv ts
 mar:OwnP P zP w mv ms
 new:n<=b
 nd:∀x,dv.ownBlock=some x->n<=x/\x≠b
 nt:∀x,tv.ownBlock=some x->n<=x/\x≠b/\dv.ownBlock≠some x
 nm:∀x,mv.ownBlock=some x->n<=x/\x≠b/\dv.ownBlock≠some x/\tv.ownBlock≠some x
theorem StkR.ext (h:StkR n w b dv tv mv ds ts ms) (hw:Ext w w'):StkR n w' b dv tv mv ds ts ms:=
 ⟨h.blk.ext hw,h.dec.ext hw,h.ter.ext hw,h.mar.ext hw,h.new,h.nd,h.nt,h.nm⟩
theorem Kf0:zE P zy [] w K=K (.agg ⟨[.slice none 0 0,.slice none 0 0,.slice none 0 0]⟩) w:=yo X30 (us:=[]) rfl rfl
@[push_cast] theorem bd_mark (x y:Int):zE P y6 [(0,.int .i64 x),(1,.int .i64 y)] w K=K (.agg ⟨[.int .i64 x,.int .i64 y]⟩) w:=yo Xy0 (us:=[[.int .i64 x],[.int .i64 y]]) rfl rfl
theorem stackPush_spec (h:StkR n w b dv tv mv ds ts ms) (hs:ms.length<=1000) (v:∀w' d,Same (λx=>n<=x) w w'->StkR n w' b dv tv d ds ts (ms++[((ds.length:Int),(ts.length:Int))])->K (.tuple #[]) w'):
  vcall P kC #[.pointer (some ⟨b,0,none⟩)] w K:=by
 apply x80;refine zr λw1 k _=>?_;have m:=h.ext k;simp(disch:=(simp only[push_cast])) only[push_cast,m.blk.ld0,m.blk.ld1,m.blk.ld2,m.dec.dcls.len,m.ter.tms.len,true_and];refine xQ Yk0 X60 Qm rfl rfl (by decide) λb2 w2 z l A q=>?_;have c:=m.ext l;simp(disch:=(simp only[push_cast])) only[push_cast,c.blk.ld2,true_and,and_self];refine Own.app1k c.mar Yx0 (by decide) q rfl (two_one rfl rfl) (by rw[X0];omega) (by rw[X0];omega) λd C s g t=>?_;have b3:=c.blk.same g λe=>(c.nm b e).2.1 rfl;have f:OwnP P zP C d (ms++[((ds.length:Int),(ts.length:Int))]):=by unfold OwnP;rw[gx];exact s
 refine b3.st (i:=2) f.pairs.cellsV f.pairs.one xv0 rfl λu j B r=>?_;have D:=k.size;have z2:=l.size;have hm:∀x,d.ownBlock=some x->mv.ownBlock=some x\/w2.heap.size<=x:=t;have ld:∀x,dv.ownBlock=some x->x<w2.heap.size:=λx a=>(c.dec.lt a).2;have lt:∀x,tv.ownBlock=some x->x<w2.heap.size:=λx a=>c.ter.lt a;have lb:=c.blk.lt;have o:∀x,d.ownBlock=some x->n<=x/\x≠b/\dv.ownBlock≠some x/\tv.ownBlock≠some x:=λx a=>by
  rcases hm x a with e|e
  ·exact c.nm x e
  ·exact⟨by have:=c.new;omega,by omega,λp=>by have:=ld x p;omega,λp=>by have:=lt x p;omega⟩
 have y:Same (λx=>n<=x) w u:=(((Same.of_ext k).trans (Same.of_ext l)).trans (g.mono λx _ a=>(c.nm x a).1)).trans (j.mono λx _ a=>by subst a;exact h.new);refine v u d y ⟨r,(c.dec.same g λx a e=>(c.nm x e).2.2.1 a).same j λx a e=>(c.nd x a).2 e,(c.ter.same g (λx a e=>(c.nm x e).2.2.2 a) λx a _ e=>by have:=(c.nm x e).1;omega).same j (λx a e=>(c.nt x a).2.1 e) (λx a _ e=>by subst e;have:=c.new;omega),Own.same f j λx a e=>(o x a).2.1 e,h.new,h.nd,h.nt,o⟩
theorem flat_spec (hv:LaysR F w v c) (hb:CtxB c) (hK:∀w' b dv tv mv,Ext w w'->StkR w.heap.size w' b dv tv mv (M.decL c) (M.terL c) (M.markL c)->K (.pointer (some ⟨b,0,none⟩)) w'):vcall P XL #[v] w K:=by
 apply Xx0;rw[Kf0];refine zx λb w1 ag G ai Y=>?_;have z1:=G.size;have hlen:=hb.len;simp(disch:=(simp only[push_cast])) only[push_cast,(hv.ext G).len];have h1:StkR w.heap.size w1 b (.slice none 0 0) (.slice none 0 0) (.slice none 0 0) [] [] []:=⟨Y,Own.nil P 0 2 _ w1,LstH.nil,OwnP.nil _,by omega,λx d=>(by cases d),λx d=>(by cases d),λx d=>(by cases d)⟩;refine vloop_up c.length (λi u w'=> ∃dv tv mv,u=[.int .i64 i]/\Ext w w'/\StkR w.heap.size w' b dv tv mv (M.decL (c.take i)) (M.terL (c.take i)) (M.markL (c.take i))) ⟨_,_,_,rfl,G,h1⟩ ?_;rintro i _ _ w2 C hi ⟨dv,tv,mv,rfl,H,f⟩ hC;simp only[push_cast];refine zh (λa=>?_) (λa=>?_)
 ·have j:i<c.length:=(by omega);have R:=(hv.weaken (F':=λx=>x<w.heap.size) λx _ h=>h).ext H;simp(disch:=first|(simp only[push_cast])|omega) only[push_cast,R.iaddr];refine R.load qH j λld lt O Q=>?_;refine zD jp λb3 w3 ah N aj Z=>?_;refine Z.stAgg (cs':=[ld,lt]) rfl qH (two_one O.one Q.one) λw4 ab ak a0=>?_;refine zr λw5 I _=>?_;have z3:=N.size;have z5:=I.size;have r:Ext w2 w5:=(Ext.then N ab λy hy=>by subst hy;omega).trans I;have m:=f.ext r;have L:=a0.ext I;have bd:=ctxB_take hb (i+1);have b1:=bd.len;have b2:=bd.dec;have U:=bd.ter;rw[M.decL_take j,Q1] at b2;rw[M.terL_take j,Q1] at U;simp(disch:=(simp only[push_cast])) only[push_cast,m.blk.ld0,L.ld0,true_and];refine OwnD.app m.dec (O.ext r) (by omega) λw6 k n a8 D=>?_;have lb:=f.blk.lt;have ltv:∀x,tv.ownBlock=some x->x<w2.heap.size:=λx d=>f.ter.lt d;have lmv:∀x,mv.ownBlock=some x->x<w2.heap.size:=λx d=>(Own.lt f.mar d).2;have ldv:∀x,dv.ownBlock=some x->x<w2.heap.size:=λx d=>(Own.lt f.dec d).2;have nw:=f.new;have z25:=r.size;have z6:=n.size;have a1:=m.blk.same n λe=>(m.nd b e).2 rfl
  try simp only[push_cast,true_and]
  refine a1.st (i:=0) D.dcls.cellsV D.dcls.one Qn rfl λw7 q al a2=>?_;refine zr λT g _=>?_;have B:=a2.ext g;have q8:Blk T b3 [ld,lt] zo:=(((L.same n λe=>by have:=ldv _ e;omega).same q (by omega))).ext g;replace B:Blk T b [k,tv,mv] zy:=B;simp(disch:=(simp only[push_cast])) only[push_cast,B.ld1,q8.ld1,true_and];have o:∀x,k.ownBlock=some x->w.heap.size<=x/\x≠b/\tv.ownBlock≠some x/\mv.ownBlock≠some x:=λx d=>by
   rcases a8 x d with e|e
   ·exact⟨(f.nd x e).1,(f.nd x e).2,λl=>(f.nt x l).2.2 e,λl=>(f.nm x l).2.2.1 e⟩
   ·exact⟨by omega,by omega,λl=>by have:=ltv x l;omega,λl=>by have:=lmv x l;omega⟩
  have t8:LstH (λx=>x<w.heap.size) T tv (M.terL (c.take i)):=((m.ter.same n (λx d e=>(m.nt x d).2.2 e) λx d _ e=>by have:=(m.nd x e).1;omega).same q (λx d e=>(m.nt x d).2.1 e) λx d _ e=>by omega).ext g;have ac:TmsR (λx=>x<w.heap.size) T lt (c.getD i ([],[])).2:=(((Q.ext r).same n λx d _ e=>by have:=(m.nd x e).1;omega).same q λx d _ e=>by omega).ext g;obtain⟨af,aa,a7,a4⟩:=ac;refine LstH.app t8 (λx d=>⟨λe=>by have:=(f.nt x d).1;omega,λe=>by have:=(f.nt x d).1;omega⟩) aa a7 a4 (by omega) λw9 E t a9 J=>?_;have z8:=g.size;have z9:=t.size;have a3:=B.same t λe=>(f.nt b e).2.1 rfl
  try simp only[push_cast,true_and]
  refine a3.st (i:=1) J.tms.cellsV J.tms.one qd rfl λA p ae s=>?_;replace s:Blk A b [k,E,mv] zy:=s;have d10:=(((D.same q λx d e=>(o x d).2.1 e).ext g).same t λx d e=>(o x d).2.2.1 e).same p λx d e=>(o x d).2.1 e;have m10:OwnP P zP A mv (M.markL (c.take i)):=((((Own.same m.mar n λx d e=>(m.nm x d).2.2.1 e).same q λx d e=>(m.nm x d).2.1 e).ext g).same t λx d e=>(m.nm x d).2.2.2 e).same p λx d e=>(m.nm x d).2.1 e;have ld6:∀x,k.ownBlock=some x->x<T.heap.size:=λx d=>by have:=(D.lt d).2;omega
  have z:∀x,E.ownBlock=some x->w.heap.size<=x/\x≠b/\k.ownBlock≠some x/\mv.ownBlock≠some x:=λx d=>by
   rcases a9 x d with e|e
   ·exact⟨(f.nt x e).1,(f.nt x e).2.1,λl=>(o x l).2.2.1 e,λl=>(f.nm x l).2.2.2 e⟩
   ·exact⟨by omega,by omega,λl=>by have:=ld6 x l;omega,λl=>by have:=lmv x l;omega⟩
  have W:StkR w.heap.size A b k E mv (M.decL (c.take (i+1))) (M.terL (c.take (i+1))) (M.markL (c.take i)):=by
   rw[M.decL_take j,M.terL_take j];exact⟨s,d10,((J.weaken (F:=λx=>x<w.heap.size) λx d _=>d.1.elim id id).same p (λx d e=>(z x d).2.1 e) λx d _ e=>by omega),m10,nw,λx d=>⟨(o x d).1,(o x d).2.1⟩,λx d=>⟨(z x d).1,(z x d).2.1,(z x d).2.2.1⟩,λx d=>⟨(f.nm x d).1,(f.nm x d).2.1,λe=>(o x e).2.2.2 d,λe=>(z x e).2.2.2 d⟩⟩
  have a6:=b1;rw[gi] at a6;refine stackPush_spec W (by rw[M.markL_len,gi];omega) λam ad S X=>?_
  try simp only[push_cast]
  rw[inc64' (by omega)];have V:Ext w A:=by
   have s1:Same (λx=>w.heap.size<=x) w5 A:=(((n.mono λx _ d=>(m.nd x d).1).trans (q.mono λx _ d=>by omega)).trans (Same.of_ext g)).trans ((t.mono λx _ d=>(f.nt x d).1).trans (p.mono λx _ d=>by omega));exact Ext.then (H.trans r) s1 λx d=>d
  refine hC j _ _ ⟨k,E,ad,rfl,Ext.then V S λx d=>d,?_⟩;rw[M.lay_take j,M.markL_snoc,<-M.lay_take j];exact X
 ·have a5:i=c.length:=(by omega);subst a5;rw[gC] at f;exact hK _ _ _ _ _ H f
end
section
variable {w w':World} {K:Value->World->Prop} {F G H S:Nat->Prop} {n b:Nat} {v lv tv dv mv:Value} {t:TypeId} {ts:List M.Tm} {ds:List M.Dcl} {ms:List (Int×Int)} {c:List M.Lay}
theorem copyTerms_spec (D:TmsR F w tv ts) (L:∀t,t∈ts->JT0 t=true) (hs:ts.length<=1000)
  (I:∀w' v',Ext w w'->TmsR (λx=>w.heap.size<=x) w' v' ts->K v' w'):vcall P X3 #[tv] w K:=by
 apply qa0;simp(disch:=(simp only[push_cast])) only[push_cast,D.len];refine vloop_up ts.length (λi u w'=> ∃lv H,u=[lv,.int .i64 i]/\Ext w w'/\LstH H w' lv (ts.take i)/\(∀x,H x->w.heap.size<=x)/\∀x,lv.ownBlock=some x->w.heap.size<=x/\¬H x) ⟨_,λ_=>False,rfl,Same.refl _ _,LstH.nil,λx b=>b.elim,λx b=>(by cases b)⟩ ?_;rintro i _ _ w2 C S ⟨lv,H,rfl,c,f,hH,hO⟩ G
 try simp only[push_cast]
 refine zh (λa=>?_) (λa=>?_)
 ·have d:i<ts.length:=(by omega);have o:=D.ext c;simp(disch:=first|(simp only[push_cast])|omega) only[push_cast,o.iaddr];refine o.load zp d λx b=>?_;obtain⟨cs,rfl,j⟩:=b.cells;refine zD zH λb3 T J l O p=>?_;refine stTerm p rfl (j.ext l) λR z Q q=>?_;have g:Ext w2 R:=Ext.then l z λy N=>by subst N;omega
  rw[q.ldAgg (t:=za) (by rw[yq j];exact zp)];refine copyTerm_spec _ (j.ext g).term (L _ (M.getD_mem d _)) λU E m v=>?_;have k:=g.trans m;have z24:=g.size;have z5:=m.size;have z2:=c.size;have llt:∀x,lv.ownBlock=some x->x<w2.heap.size:=λx b=>f.lt b;refine LstH.push (f.ext k) (λx b=>⟨(hO x b).2,λe=>by have:=llt x b;omega⟩) (Z30 _ v).term (by rw[gi];omega) λV B A s n=>?_;rw[inc64' (by omega)];refine G d _ _ ⟨B,_,rfl,Ext.then (c.trans k) A λx b=>(hO x b).1,by rw[V9 d] at n;exact n,λx b=>?_,λx b=>?_⟩
  ·rcases b.1 with h|h
   ·exact hH x h
   ·have:=h.1;omega
  ·rcases s x b with e|e
   ·refine⟨(hO x e).1,λh=>?_⟩;have:=llt x e;rcases h.1 with h|h
    ·exact(hO x e).2 h
    ·have:=h.1;omega
   ·exact⟨by omega,λh=>by have:=h.2;omega⟩
 ·have r:i=ts.length:=(by omega);subst r;rw[gC] at f;exact I _ _ c (f.tms.weaken λx b _=>b.elim (hH x) λh=>(hO x h).1)
theorem Clone_Decl (d:DclsR F w v ds) (s:ds.length<=1000000) (k:∀w' v',Ext w w'->OwnD w' v' ds->(∀x,v'.ownBlock=some x->w.heap.size<=x)->K v' w'):
  vcall P xF #[v] w K:=by
 apply Zq;obtain⟨a,c,rfl,p,q,f⟩:=d.shape;rw[X0] at d p⊢;rw[yK0 Yn0];refine zK (λl=>?_) (λl=>?_)
 ·cases a with
  |some a=>cases l
  |none=>
   have j:ds=[]:=by
    refine GU λh=>?_;obtain⟨b,o,m,_⟩:=f (by simpa using h);cases m
   subst j;exact k w _ (Same.refl _ _) (Own.nil P 0 2 _ w) λx d=>by cases d
 ·refine qB Zt Yk λb w1 u he y n=>?_;have g:OwnD w1 (.slice (some ⟨b,0,none⟩) 0 0) []:=Blk.ownk (css:=[]) (by rw[Km];exact n) (λx d=>by cases d) rfl (by omega);refine OwnD.app g (d.ext he) (by simp;omega) λw2 v' hs i r=>?_;have t:=he.size;refine k w2 v' (Ext.then he hs λx d=>by have e:b=x:=gh d;omega) r λx d=>?_;rcases i x d with h|h
  ·have e:b=x:=gh h;omega
  ·omega
theorem last_spec (h:StkR n w b dv tv mv ds ts ms) (e:0<ms.length) (d:∀w',Ext w w'->K (.pointer (some (eaddr mv 2 (ms.length-1)))) w'):vcall P qJ #[.pointer (some ⟨b,0,none⟩)] w K:=by
 apply x90;refine zr λw1 a _=>?_;have c:=h.ext a;have hm:=c.mar.pairs;have f:ms.length<=9223372036854775807:=by have:=Sl.small hm;simpa using this
 simp(disch:=(simp only[push_cast])) only[push_cast,c.blk.ld2,hm.len,true_and];rw[zJ (by omega) (by omega),hm.iaddr xD0 (by omega) (by omega)];rw[show((ms.length:Int)-1).toNat=ms.length-1 by omega];exact⟨rfl,d _ a⟩
theorem ok_spec (h:StkR n w b dv tv mv (M.decL c) (M.terL c) (M.markL c)) (hb:CtxB c) (hK:∀w',Ext w w'->K (.bool (M.ctxOk c)) w'):vcall P jY #[.pointer (some ⟨b,0,none⟩)] w K:=by
 apply je0;have hlen:=hb.len;have no:∀w',Ext w w'->M.ctxOk c≠true->K (.bool false) w':=λw' he hn=>by
  have:=hK w' he;rwa[Pt _|>.mp hn] at this
 have hm:=h.mar.pairs;refine zS (λu w'=>u=[]/\Ext w w'/\1<=c.length/\c.length<=6/\M.declOk (M.decL c)=true/\(M.terL c).length<=8) (λJ hJ=>?_) ?_
 ·simp(disch:=(simp only[push_cast])) only[push_cast,h.blk.ld2,hm.len,M.markL_len];refine zh (λQ=>no _ (Same.refl _ _) λe=>by have:=(M.ctx_iff.1 e).1;omega) (λQ=>?_);refine zh (λa2=>no _ (Same.refl _ _) λe=>by have:=(M.ctx_iff.1 e).2.1;omega) (λa2=>?_);simp(disch:=(simp only[push_cast])) only[push_cast,h.blk.ld0];refine DeclOk_spec h.dec.dcls λw1 d=>?_
  try simp only[push_cast]
  refine zK (λa3=>no _ d λe=>by rw[(M.ctx_iff.1 e).2.2.1] at a3;cases a3) (λa3=>?_);have O:=h.ext d;simp(disch:=(simp only[push_cast])) only[push_cast,O.blk.ld1,O.ter.tms.len];refine zh (λa4=>no _ d λe=>by have:=(M.ctx_iff.1 e).2.2.2.1;omega) (λa4=>?_);exact hJ _ _ ⟨rfl,d,by omega,by omega,by simpa using a3,by omega⟩
 rintro _ _ w1 ⟨rfl,d,Q,a2,a3,a4⟩;have O:=h.ext d;simp(disch:=(simp only[push_cast])) only[push_cast,O.blk.ld2,hm.len,M.markL_len];refine vloop_up c.length (λi u w'=>u=[.int .i64 ((M.terL (c.take i)).length:Int),.int .i64 i]/\Ext w w'/\∀j,j<i->∀t,t∈(c.getD j ([],[])).2->M.tsort (M.decL (c.take (j+1))) t=0) ⟨rfl,d,λj hj=>absurd hj (by omega)⟩ ?_;rintro i _ _ w2 C hi ⟨rfl,z,r⟩ hC
 try simp only[push_cast]
 refine zh (λa=>?_) (λa=>?_)
 ·have l:i<c.length:=(by omega);have h2:=h.ext z;have L:=h2.mar.pairs;simp(disch:=first|(simp only[push_cast])|(rw[M.markL_len];omega)|omega) only[push_cast,L.iaddr,gl,L.load,M.markL_get l];refine zD Qm λb3 w3 aa a0 ad T=>?_;refine T.stAgg (cs':=[.int .i64 ((M.decL (c.take (i+1))).length:Int),.int .i64 ((M.terL (c.take (i+1))).length:Int)]) rfl Kk (two_one rfl rfl) λw4 a8 ae U=>?_;refine zr λw5 G _=>?_;have B:Ext w2 w5:=(Ext.then a0 a8 λy hy=>by subst hy;omega).trans G;have S:=h2.ext B;have s:=U.ext G;have e5:=z.trans B;have l1:=M.terL_le (c:=c) (i:=i+1) (by omega);have l2:=M.decL_le (c:=c) (i:=i+1) (by omega);have l3:(M.terL (c.take i)).length<=(M.terL (c.take (i+1))).length:=by rw[M.terL_take l,Q1];omega
  obtain⟨pv,D,p⟩:=S.ter.tms.mid Qt l3 l1;rw[M.terL_mid l] at p;simp(disch:=(simp only[push_cast])) only[push_cast,S.blk.ld1,s.ld1,true_and,D,p.len];refine vloop_up (c.getD i ([],[])).2.length (λj u w'=>u=[.int .i64 j]/\Ext w5 w'/\∀k,k<j->M.tsort (M.decL (c.take (i+1))) ((c.getD i ([],[])).2.getD k default)=0) ⟨rfl,Same.refl _ _,λk hk=>absurd hk (by omega)⟩ ?_;rintro j _ _ w6 C1 hj ⟨rfl,f,g⟩ Z
  try simp only[push_cast]
  have N:=p.ext f;have ac:=p.small;refine zh (λa5=>?_) (λa5=>?_)
  ·have o:j<(c.getD i ([],[])).2.length:=(by omega);simp(disch:=first|(simp only[push_cast])|omega) only[push_cast,N.iaddr];refine N.load zp o λx hx=>?_;obtain⟨cs,rfl,v⟩:=hx.cells;refine zD zH λb7 w7 ab H af W=>?_;refine stTerm W rfl (v.ext H) λw8 a9 ag X=>?_;refine zr λw9 I _=>?_;have m:Ext w6 w9:=(Ext.then H a9 λy hy=>by subst hy;omega).trans I;have h9:=S.ext (f.trans m);have Y:=s.ext (f.trans m);have q9:=X.ext I;have hg:aggB P za cs.length=true:=by rw[yq v];exact zp
   have E:=h9.dec;simp(disch:=first|(simp only[push_cast])|(rw[X0];exact l2)) only[push_cast,h9.blk.ld0,Y.ld0,true_and,qx0 E Qu];rw[q9.ldAgg (t:=za) hg];refine⟨rfl,?_⟩;refine TermSort_spec (ds:=M.decL (c.take (i+1))) (by have:=E.dcls.taken l2;rw[M.decL_pre] at this;exact this) (v.ext m).term λah F=>?_
   try simp only[push_cast,true_and]
   have A:=(f.trans m).trans F;refine zh (λR=>no _ (e5.trans A) λe=>R ((M.ctx_iff.1 e).2.2.2.2 i l _ (M.getD_mem o _))) (λR=>?_);rw[inc64' (by omega)];refine Z o _ _ ⟨rfl,A,λk hk=>?_⟩;by_cases e:k<j
   ·exact g k e
   ·have:k=j:=(by omega);subst this;exact GG.1 R
  ·have o:j=(c.getD i ([],[])).2.length:=(by omega);have V:=s.ext f;simp(disch:=(simp only[push_cast])) only[push_cast,V.ld1];rw[inc64' (by omega)];refine hC l _ _ ⟨rfl,e5.trans f,λk hk t ht=>?_⟩;by_cases e:k<i
   ·exact r k e t ht
   ·have:k=i:=(by omega);subst this;obtain⟨q,hq,rfl⟩:=gq ht;have:=g q (by omega);rwa[k6,K3 hq] at this
 ·have a7:i=c.length:=(by omega);subst a7;have:=hK _ z;rwa[M.ctx_iff.2 ⟨Q,a2,a3,a4,r⟩] at this
end
section
variable {w w':World} {K:Value->World->Prop} {F F' G H H2 S:Nat->Prop} {n b:Nat} {v lv tv dv mv f:Value} {t:TypeId} {ts us:List M.Tm} {ds:List M.Dcl} {c c':List M.Lay}
theorem fit_ok {t':M.Tm} (a:M.tsort ds t'=0):JT0 t'=true:=fit_size _ (by have:=(M.fits_iff.1 (Yo0 a).2.1).1;omega)
theorem VS0 {c d:Option Addr} {a b c1 c2:Nat}:zE P zo [(0,.slice c a c1),(1,.slice d b c2)] w K=K (.agg ⟨[.slice c a c1,.slice d b c2]⟩) w:=yo VM (us:=[[.slice c a c1],[.slice d b c2]]) rfl rfl
theorem WQ0 (b:DclsR F w' dv ds) (d:TmsR F' w' tv ts):zE P zo [(0,dv),(1,tv)] w K=K (.agg ⟨[dv,tv]⟩) w:=by
 obtain⟨a,c,rfl,_⟩:=b.shape;obtain⟨_,h,_⟩:=d;obtain⟨e,c',rfl,_⟩:=h.shape;exact VS0
def LysH (H:Nat->Prop) (w:World) (lv:Value) (c:List M.Lay):Prop:= ∃css:List (Value×Value),Own P 0 2 zk w lv (css.map λp=>[p.1,p.2])/\css.length=c.length/\∀i,i<c.length->DclsR H w (css.getD i (undef,undef)).1 (c.getD i ([],[])).1/\TmsR H w (css.getD i (undef,undef)).2 (c.getD i ([],[])).2
theorem LysH.nil:LysH H w (.slice none 0 0) []:=⟨[],Own.nil P 0 2 _ w,rfl,λi a=>absurd a (pz _)⟩
theorem LysH.lt (h:LysH H w lv c) {b:Nat} (a:lv.ownBlock=some b):b<w.heap.size:=by obtain⟨_,d,_⟩:=h;exact(d.lt a).2
theorem LysH.ext (h:LysH H w lv c) (hw:Ext w w'):LysH H w' lv c:=by
 obtain⟨css,e,d,b⟩:=h;exact⟨css,e.ext hw,d,λi a=>⟨(b i a).1.ext hw,(b i a).2.ext hw⟩⟩
theorem LysH.lays (h:LysH H w lv c):LaysR (λx=>H x\/lv.ownBlock=some x) w lv c:=by
 obtain⟨css,f,e,d⟩:=h;exact⟨css,f.sl.weaken λx b _=> .inr b,e,λi a=>⟨(d i a).1.weaken λx b _=> .inl b,(d i a).2.weaken λx b _=> .inl b⟩⟩
theorem LysH.push {ty:Nat} (h:LysH H w lv c) (n:∀x,lv.ownBlock=some x->¬H x/\¬H2 x) (k:DclsR H2 w dv ds) (m:TmsR H2 w tv ts) (B:c.length<=1000000)
  (z:∀w' f,Same (λx=>lv.ownBlock=some x) w w'->(∀x,f.ownBlock=some x->lv.ownBlock=some x\/w.heap.size<=x)->LysH (λx=>(H x\/H2 x)/\x<w.heap.size) w' f (c++[(ds,ts)])->K f w'):
  vbuildS P zk 1 [(0,.agg ⟨[dv,tv]⟩)] w λs w1=>vbi P .append [zk,zk] ty [lv,s] w1 K:=by
 obtain⟨css,A,j,y⟩:=h;refine xQ qE qW jp rfl rfl (by decide) λb w1 D d C p=>?_;have E:=d.size;refine Own.app1k (A.ext d) zy0 (by decide) p rfl (two_one k.one m.one) (by rw[X0];omega) (by rw[X0];omega) λf w2 u g t=>?_;refine z w2 f ((Same.of_ext d).trans g) (λx a=>(t x a).imp id λh=>by omega) ⟨css++[(dv,tv)],by rw[gx];exact u,by simp[j],λi l=>?_⟩;have mv:∀{ds:List M.Dcl} {dv:Value} {Q:Nat->Prop},DclsR Q w dv ds->(∀x,Q x->H x\/H2 x)->(∀x,lv.ownBlock=some x->¬Q x)->DclsR (λx=>(H x\/H2 x)/\x<w.heap.size) w2 dv ds:=λv q r=>
  (((v.weaken (F':=λx=>((H x\/H2 x)/\x<w.heap.size)/\lv.ownBlock≠some x) λx a j=>⟨⟨q x a,j⟩,λe=>r x e a⟩).ext d).same g λx a _ e=>a.2 e).weaken λx a _=>a.1
 have mt:∀{ts:List M.Tm} {tv:Value} {Q:Nat->Prop},TmsR Q w tv ts->(∀x,Q x->H x\/H2 x)->(∀x,lv.ownBlock=some x->¬Q x)->TmsR (λx=>(H x\/H2 x)/\x<w.heap.size) w2 tv ts:=λv q r=>
  (((v.weaken (F':=λx=>((H x\/H2 x)/\x<w.heap.size)/\lv.ownBlock≠some x) λx a j=>⟨⟨q x a,j⟩,λe=>r x e a⟩).ext d).same g λx a _ e=>a.2 e).weaken λx a _=>a.1
 rw[Q1] at l;by_cases o:i<c.length
 ·rw[M.app_getD (by omega),M.app_getD o];exact⟨mv (y i o).1 (λx h=> .inl h) λx a=>(n x a).1,mt (y i o).2 (λx h=> .inl h) λx a=>(n x a).1⟩
 ·have e:i=c.length:=by simp at l;omega
  rw[XX (by omega),XX (by omega),j,e,GB];exact⟨mv k (λx h=> .inr h) λx a=>(n x a).2,mt m (λx h=> .inr h) λx a=>(n x a).2⟩
theorem stackLayers_spec (h:StkR n w b dv tv mv (M.decL c) (M.terL c) (M.markL c)) (Q:M.ctxOk c=true) (hK:∀w' v',Ext w w'->LaysR (λx=>w.heap.size<=x) w' v' c->K v' w'):vcall P jq #[.pointer (some ⟨b,0,none⟩)] w K:=by
 apply UW;have hb:=ctxB_of Q;have hlen:=hb.len;have a7:=hb.dec;have a8:=hb.ter;refine zD Qm λb1 w1 a9 B ab X=>?_;have h1:=h.ext B;have hm:=h1.mar.pairs;have z1:=B.size;simp(disch:=(simp only[push_cast])) only[push_cast,h1.blk.ld2,hm.len,M.markL_len];refine vloop_up c.length (λi u w'=> ∃lv H,u=[lv,.int .i64 i]/\Same (· =b1) w1 w'/\Blk w' b1 [.int .i64 ((M.decL (c.take i)).length:Int),.int .i64 ((M.terL (c.take i)).length:Int)] y6/\LysH H w' lv (c.take i)/\(∀x,H x->w1.heap.size<=x)/\∀x,lv.ownBlock=some x->w1.heap.size<=x/\¬H x)
  ⟨_,λ_=>False,rfl,Same.refl _ _,X,LysH.nil,λx d=>d.elim,λx d=>(by cases d)⟩ ?_
 rintro i _ _ w2 C hi ⟨lv,H,rfl,k,G,q,hH,hO⟩ hC;have z2:=k.size;have W:Ext w w2:=Ext.then B k λy hy=>by subst hy;omega
 try simp only[push_cast]
 refine zh (λa=>?_) (λa=>?_)
 ·have f:i<c.length:=(by omega);have h2:=h.ext W;have N:=h2.mar.pairs;simp(disch:=first|(simp only[push_cast])|(rw[M.markL_len];omega)|omega) only[push_cast,N.iaddr,gl,N.load,M.markL_get f];refine zD Qm λb3 w3 aa J ac Y=>?_;refine Y.stAgg (cs':=[.int .i64 ((M.decL (c.take (i+1))).length:Int),.int .i64 ((M.terL (c.take (i+1))).length:Int)]) rfl Kk (two_one rfl rfl) λw4 a6 ad Z=>?_;refine zr λw5 D _=>?_;have z3:=J.size;have z5:=D.size;have l:Ext w2 w5:=(Ext.then J a6 λy hy=>by subst hy;omega).trans D;have F:=h2.ext l;have z:=Z.ext D;have q5:=G.ext l;have e5:=W.trans l;have l1:=M.terL_le (c:=c) (i:=i+1) (by omega);have l2:=M.decL_le (c:=c) (i:=i+1) (by omega);have l3:(M.terL (c.take i)).length<=(M.terL (c.take (i+1))).length:=by rw[M.terL_take f,Q1];omega
  have l4:(M.decL (c.take i)).length<=(M.decL (c.take (i+1))).length:=by rw[M.decL_take f,Q1];omega
  obtain⟨pv,v,R⟩:=F.ter.tms.mid Qt l3 l1;obtain⟨qv,o,S⟩:=F.dec.dcls.mid Qu l4 l2;rw[M.terL_mid f] at R;rw[M.decL_mid f] at S;simp(disch:=(simp only[push_cast])) only[push_cast,F.blk.ld0,F.blk.ld1,z.ld0,z.ld1,q5.ld0,q5.ld1,true_and,v,o];have ml:(c.getD i ([],[])).1.length<=1000:=by rw[M.decL_take f,Q1] at l2;omega
  have mt:(c.getD i ([],[])).2.length<=1000:=by rw[M.terL_take f,Q1] at l1;omega
  refine Clone_Decl S (by omega) λw6 cv m a4 a2=>?_;have h6:=F.ext m;have A:=z.ext m;have q6:=q5.ext m;simp(disch:=(simp only[push_cast])) only[push_cast,h6.blk.ld0,h6.blk.ld1,A.ld0,A.ld1,q6.ld0,q6.ld1,true_and,v,o,and_self];refine copyTerms_spec (R.ext m) (λt ht=>fit_ok ((M.ctx_iff.1 Q).2.2.2.2 i f t ht)) mt λw7 xv p T=>?_;have E:=m.trans p;have I:=OwnD.dcls (a4.ext p);rw[WQ0 I T];refine⟨rfl,?_⟩;have z6:=m.size;have z7:=p.size;have z25:=l.size;have llt:∀x,lv.ownBlock=some x->x<w2.heap.size:=λx d=>q.lt d;refine LysH.push (H2:=λx=>w5.heap.size<=x) (q.ext (l.trans E)) (λx d=>⟨(hO x d).2,λe=>by have:=llt x d;omega⟩) (I.weaken λx d _=>a2 x d) (T.weaken λx d _=>by omega) (by rw[gi];omega) λw8 U r a3 L=>?_;have r7:=A.ext p;have q7:=q6.ext p;have af:=G.lt;have r8:=r7.same r λe=>by have:=llt _ e;omega
  have q8:=q7.same r λe=>by have:=(hO _ e).1;omega
  rw[r8.ldAgg (t:=y6) Kk];have z8:=r.size;refine q8.stAgg (cs':=[.int .i64 ((M.decL (c.take (i+1))).length:Int),.int .i64 ((M.terL (c.take (i+1))).length:Int)]) rfl Kk (two_one rfl rfl) λw9 s ae a0=>?_
  try simp only[push_cast]
  rw[inc64' (by omega)];have g:Same (λx=>x=b1\/lv.ownBlock=some x) w2 w9:=((Same.of_ext (l.trans E)).trans (r.mono λx _ d=> .inr d)).trans (s.mono λx _ d=> .inl d);have a5:Same (· =b1) w1 w9:=⟨g.os.trans k.os,g.tape.trans k.tape,g.output.trans k.output,Ga k.size g.size,λx d O=>(g.block x (by omega) (λe=>e.elim O λe=>by have:=(hO x e).1;omega)).trans (k.block x d O)⟩;rw[<-M.lay_take f] at L;have V:∀x,U.ownBlock=some x->w1.heap.size<=x/\¬((H x\/w5.heap.size<=x)/\x<w7.heap.size):=λx d=>by
   rcases a3 x d with e|e
   ·refine⟨(hO x e).1,λh=>?_⟩;have:=llt x e;rcases h.1 with h|h
    ·exact(hO x e).2 h
    ·omega
   ·exact⟨by omega,λh=>by have:=h.2;omega⟩
  refine hC f _ _ ⟨U,_,rfl,a5,a0,?_,λx d=>d.1.elim (hH x) λh=>by omega,V⟩;obtain⟨css,g1,g2,g3⟩:=L;refine⟨css,g1.same s λx d e=>by have:=(V x d).1;omega,g2,λj hj=>⟨(g3 j hj).1.same s λx d _ e=>?_,(g3 j hj).2.same s λx d _ e=>?_⟩⟩
  ·have:w1.heap.size<=x:=d.1.elim (hH x) λh=>(by omega);omega
  ·have:w1.heap.size<=x:=d.1.elim (hH x) λh=>(by omega);omega
 ·have a1:i=c.length:=(by omega);subst a1;rw[gC] at q;exact hK _ _ W (q.lays.weaken λx d _=>by
   have:w1.heap.size<=x:=d.elim (hH x) λh=>(hO x h).1;omega)
def chg (c c':List M.Lay):List M.Lay×Bool:=if M.ctxOk c=true then(if M.ctxOk c'=true then(c',true) else(c,false)) else([],false)
theorem changed_spec (A:LaysR F w v c) (t:CtxB c) (u:M.ctxOk c=true->CtxB c')
  (J:∀(w1:World) (b:Nat) (dv tv mv:Value) (K:Value->World->Prop),Ext w w1->M.ctxOk c=true->StkR w.heap.size w1 b dv tv mv (M.decL c) (M.terL c) (M.markL c)->
   (∀w2 k o n r,Same (λx=>w.heap.size<=x) w1 w2->StkR w.heap.size w2 b k o n (M.decL c') (M.terL c') (M.markL c')->K r w2)->vcallv P f #[.pointer (some ⟨b,0,none⟩)] w1 K)
  (s:∀w' v',Ext w w'->LaysR (λx=>w.heap.size<=x) w' v' (chg c c').1->K (.tuple #[v',.bool (chg c c').2]) w'):vcall P jF #[v,f] w K:=by
 apply kk0;have L:=A.weaken (F':=λx=>x<w.heap.size) λx _ h=>h;refine flat_spec A t λw1 b dv tv mv i D=>?_;refine ok_spec D t λw2 e=>?_
 try simp only[push_cast]
 refine zK (λa=>?_) (λa=>?_)
 ·have:=s w2 (.slice none 0 0) (i.trans e);have y: ¬M.ctxOk c=true:=(by simpa using a);unfold chg at this;rw[if_neg y] at this;exact this LaysR.nil
 have d:M.ctxOk c=true:=by simpa using a
 refine J w2 b dv tv mv _ (i.trans e) d (D.ext e) λQ k o n r z E=>?_;have H:Ext w Q:=Ext.then (i.trans e) z λx B=>B;refine ok_spec E (u d) λS l=>?_;have p:=H.trans l;have z4:=p.size
 try simp only[push_cast]
 refine zK (λa2=>?_) (λa2=>?_)
 ·have y: ¬M.ctxOk c'=true:=(by simpa using a2);refine flat_spec (A.ext p) t λT R G O N m I=>?_;refine stackLayers_spec I d λC v6 j q=>?_;have z5:=m.size;have:=s C v6 (p.trans (m.trans j));unfold chg at this;rw[if_pos d,if_neg y] at this;exact this (q.weaken λx B _=>by omega)
 ·have g:M.ctxOk c'=true:=(by simpa using a2);refine stackLayers_spec (E.ext l) g λC v6 j q=>?_;have:=s C v6 (p.trans j);unfold chg at this;rw[if_pos d,if_pos g] at this;exact this (q.weaken λx B _=>by omega)
end
section
variable {w w' w1 w2:World} {K:Value->World->Prop} {F D G H S:Nat->Prop} {n b k p many:Nat} {v lv tv dv nv ev x3 x4 x5 f:Value} {t:M.Tm} {ts:List M.Tm} {ds:List M.Dcl} {c:M.Cnf} {ar ab at_ an am:Addr}
theorem VX0 {P:Program} {o:Nat} {cs cs':List Value} {t0 t:TypeId} (h:Blk w b cs t0) (e:o+cs'.length<=cs.length) (g:aggB P t cs'.length=true) (a:∀v,v∈cs'->v.oneCell'=true)
  (c:∀w',Same (· =b) w w'->w'.heap.size=w.heap.size->Blk w' b (cs.take o++cs'++cs.drop (o+cs'.length)) t0->K undef w'):zn P t (.pointer (some ⟨b,o,none⟩)) (.agg ⟨cs'⟩) w K:=by
 have f:=run_storeCells_at (P:=P) b o t0 cs' 0 ⟨cs⟩ w h (by simpa using e) a;refine⟨(),_,?_,c (w.setRow b (cs.take o++cs'++cs.drop (o+cs'.length)).toArray) ⟨rfl,rfl,rfl,by simp,λk _ d=>setRow_other w b k _ d⟩ (by simp) (setRow_heap w b _ _ t0 _ h)⟩;simp only[Instr.storeAt,Instr.sureAddr,Sem.run_bind,Sem.run_pure,Result.andThen_ok,storeVar,Yv g,Value.cells];simp only[G4,ne_eq,not_true_eq_false,if_false];exact f
theorem jobFold_spec (r:Blk w b [dv,tv,nv,x3,x4,x5] zW) (hd:DclsR F w dv ds) (N:TmsR F w tv ts) (a6:∀x,F x->x≠b) (hs:ts.length<=1000) (Z:Sent w yw at_)
  (U:∀t,t∈ts->M.tsort ds t≠0->∀w',Ext w w'->K (erv at_) w')
  (V:(∀t,t∈ts->M.tsort ds t=0)->∀w' L,Same (· =b) w w'->Blk w' b [dv,L,nv,x3,x4,x5] zW->TmsR (λx=>w.heap.size<=x) w' L (ts.map (yU0 ds))->K .nilIface w'):
  vcall P kc #[.pointer (some ⟨b,0,none⟩)] w K:=by
 apply jg0;have lb:=r.lt;simp(disch:=(simp only[push_cast])) only[push_cast,r.ld1,N.len];refine vloop_up ts.length (λi u w'=> ∃lv H,u=[lv,.int .i64 i]/\Ext w w'/\LstH H w' lv ((ts.take i).map (yU0 ds))/\(∀x,H x->w.heap.size<=x)/\(∀x,lv.ownBlock=some x->w.heap.size<=x/\¬H x)/\∀j,j<i->M.tsort ds (ts.getD j default)=0)
  ⟨_,λ_=>False,rfl,Same.refl _ _,LstH.nil,λx d=>d.elim,λx d=>(by cases d),λj D=>absurd D (by omega)⟩ ?_
 rintro i _ _ w2 C hi ⟨lv,H,rfl,c,f,hH,hO,n⟩ hC;simp only[push_cast];refine zh (λa=>?_) (λa=>?_)
 ·have m:i<ts.length:=(by omega);have G:=N.ext c;simp(disch:=first|(simp only[push_cast])|omega) only[push_cast,G.iaddr];refine G.load zp m λx d=>?_;obtain⟨cs,rfl,l⟩:=d.cells;have hg:aggB P za cs.length=true:=by rw[yq l];exact zp
  refine zD zH λb3 w3 a7 s a3 o=>?_;refine stTerm o rfl (l.ext s) λw4 a0 a8 R=>?_;refine zr λw5 v _=>?_;have k:Ext w2 w5:=(Ext.then s a0 λy hy=>by subst hy;omega).trans v;have S:=r.ext (c.trans k);have q5:=R.ext v;simp(disch:=(simp only[push_cast])) only[push_cast,S.ld0,true_and];rw[q5.ldAgg (t:=za) hg];refine⟨rfl,?_⟩;refine TermSort_spec (hd.ext (c.trans k)) (l.ext k).term λw6 z=>?_;have p:=k.trans z;have e6:=c.trans p;simp only[push_cast,true_and];refine zh (λO=>?_) (λO=>?_)
  ·have I:=Z.same e6 id;rw[yF qM I.cell];exact U _ (M.getD_mem m _) O _ e6
  ·refine zr λw7 A _=>?_;have g:=p.trans A;have T:=r.ext (c.trans g);have q7:=q5.ext (z.trans A);simp(disch:=(simp only[push_cast])) only[push_cast,T.ld0,true_and];rw[q7.ldAgg (t:=za) hg];refine⟨rfl,?_⟩;refine TermFold_spec (hd.ext (c.trans g)) (l.ext g).term λw8 a5 B Y=>?_;have q:=g.trans B;have a9:=g.size;have z2:=c.size;have z8:=B.size;have llt:∀x,lv.ownBlock=some x->x<w2.heap.size:=λx d=>f.lt d;refine LstH.push (f.ext q) (λx d=>⟨(hO x d).2,λe=>by have:=llt x d;omega⟩) (Z30 _ Y).term (by rw[X0,gi];omega) λw9 a4 a2 X E=>?_
   try simp only[push_cast]
   rw[inc64' (by omega)];rw[show(ts.take i).map (yU0 ds)++[yU0 ds (ts.getD i default)]=(ts.take (i+1)).map (yU0 ds) by rw[<-V9 m,gx];rfl] at E;refine hC m _ _ ⟨a4,_,rfl,Ext.then (c.trans q) a2 λx d=>(hO x d).1,E,λx d=>?_,λx d=>?_,λj D=>?_⟩
   ·rcases d.1 with h|h
    ·exact hH x h
    ·have:=h.1;omega
   ·rcases X x d with e|e
    ·refine⟨(hO x e).1,λh=>?_⟩;have:=llt x e;rcases h.1 with h|h
     ·exact(hO x e).2 h
     ·have:=h.1;omega
    ·exact⟨by omega,λh=>by have:=h.2;omega⟩
   ·by_cases e:j<i
    ·exact n j e
    ·have:j=i:=(by omega);subst this;exact GG.1 O
 ·have W:i=ts.length:=(by omega);subst W;rw[gC] at f;have Q:=r.ext c;refine Q.st (i:=1) f.tms.cellsV f.tms.one qd rfl λw3 J a3 o=>?_;refine V (λt N=>?_) w3 lv ((Same.of_ext c).trans J) o ?_
  ·obtain⟨j,D,rfl⟩:=gq N;have:=n j D;rwa[k6,K3 D] at this
  ·exact(f.tms.same J λx d _ e=>by
    have:w.heap.size<=x:=d.elim (hH x) λh=>(hO x h).1;omega).weaken λx d _=>d.elim (hH x) λh=>(hO x h).1
theorem jobBlast_spec (z:Blk w b [dv,tv,nv,x3,x4,x5] zW) (I:DclsR F w dv ds) (M:TmsR G w tv ts) (he:Errs (λ_=>False) w ar ab) (D:Sent w yw at_)
  (O:∀w' lv ls,Same (· =b) w w'->Blk w' b [dv,tv,nv,.int .i64 (cnfE ds ts).1.many,lv,x5] zW->CnfO w.heap.size w' lv ls (cnfE ds ts).1->K (errV ar at_ (cnfE ds ts).2) w'):vcall P jz #[.pointer (some ⟨b,0,none⟩)] w K:=by
 apply q80;have lb:=z.lt;refine zS (λu w'=> ∃b3 lv ls,u=[.pointer (some ⟨b3,0,none⟩),errV ar at_ (cnfE ds ts).2]/\Ext w w'/\w.heap.size<=b3/\Blk w' b3 [.int .i64 (cnfE ds ts).1.many,lv] zz/\CnfO w.heap.size w' lv ls (cnfE ds ts).1) (λJ H=>?_) ?_
 ·refine zr λw1 c _=>?_;have k:=z.ext c;have V:=c.size;have j:=D.same c id;have i:=he.ext0 c;simp(disch:=(simp only[push_cast])) only[push_cast,k.ld0,k.ld1,true_and,and_true];refine⟨?_,?_⟩
  ·refine blastCnf_spec (I.ext c) (M.ext c) i j λw2 lv ls g f=>?_;have z2:=g.size;simp only[push_cast,true_and,and_true];refine zD Yj λb3 E m a s d=>?_;have C:=f.ext a
   try simp only[push_cast,true_and,and_true,and_self]
   refine d.stAgg (cs':=[.int .i64 (cnfE ds ts).1.many,lv]) rfl xP (two_one rfl C.lst.vals.one) λT q R A=>?_
   try simp only[push_cast,true_and,and_true,and_self]
   refine H _ _ ⟨b3,lv,ls,rfl,Ext.then ((c.trans g).trans a) q λy Q=>by omega,by omega,A,(f.same ((Same.of_ext a).trans q) λx N L e=>by omega).down (by omega)⟩
  ·refine zD Yj λb3 E m a s d=>?_;have h:=k.ext a;have v:=c.trans a;have z3:=a.size;simp(disch:=(simp only[push_cast])) only[push_cast,h.ld0,h.ld1,true_and,and_self];refine blastCnf_spec (I.ext v) (M.ext v) (i.ext0 a) (j.same a id) λT lv ls n l=>?_;simp only[push_cast,true_and,and_true];refine(d.ext n).stAgg (cs':=[.int .i64 (cnfE ds ts).1.many,lv]) rfl xP (two_one rfl l.lst.vals.one) λU r S B=>?_
   try simp only[push_cast,true_and,and_true,and_self]
   exact H _ _ ⟨b3,lv,ls,rfl,Ext.then (v.trans n) r λy Q=>by omega,by omega,B,(l.same r λx N L e=>by omega).down (by omega)⟩
 ·rintro _ _ w2 ⟨b3,lv,ls,rfl,g,m,d,f⟩;simp only[push_cast];rw[d.ldAgg (t:=zz) xP]
  try simp only[push_cast]
  refine VX0 (o:=3) (z.ext g) (by simp) xP (two_one rfl f.lst.vals.one) λE p s d=>?_;exact O E lv ls ((Same.of_ext g).trans p) d (f.same p λx N L e=>by omega)
theorem jobExclude_spec (d:Blk w b [dv,tv,.slice none 0 0,x3,x4,x5] zW) (e:K .nilIface w):vcall P j0 #[.pointer (some ⟨b,0,none⟩)] w K:=by
 apply zP0;have c:Vals (λ_=>False) w (.slice none 0 0) []:=OwnV.nil (P:=P) (t:=yc)|>.vals.weaken λx f _=>(by cases f);simp(disch:=(simp only[push_cast])) only[push_cast,d.ld2,c.len,pw];refine vloop_up 0 (λi u w'=>u=[.int .i64 i]/\w'=w) ⟨rfl,rfl⟩ ?_;rintro i _ _ _ C h ⟨rfl,rfl⟩ g;simp only[push_cast];refine zh (λa=>absurd a (by omega)) (λ_=>e)
theorem vals_ins {put:List Int} (h:1+n<=many):((KP many put).drop 1).take n=M.insV (M.wayM put) n:=by
 refine Gh (by simp[KP,M.insV];omega) λi a b=>?_;simp[KP,M.insV,M.wayM,Nat.add_comm 1 i,Pv];rw[show(i:Int)+1+1=i+2 by omega]
theorem jobSearch_spec (g:Blk w b [dv,tv,nv,.int .i64 c.many,lv,x5] zW) (hd:DclsR F w dv ds) (a1:∀x,F x->x≠b) (l:M.declOk ds=true) (hc:CnfR G w (.agg #[.int .i64 c.many,lv]) c) (u:M.cnfOk c=true) (hn:1+M.nIn ds<=c.many.toNat) (W:Sent w km an) (U:Sent w jd am)
  (m:(M.searchM 4000 ds c).2=1->∀w' ev,Same (· =b) w w'->Blk w' b [dv,tv,nv,.int .i64 c.many,lv,ev] zW->Ints (λx=>w.heap.size<=x) w' ev (M.searchM 4000 ds c).1->K .nilIface w')
  (o:M.searchM 4000 ds c=([],2)->∀w',Ext w w'->K (erv an) w') (p:M.searchM 4000 ds c=([],3)->∀w',Ext w w'->K (erv am) w'):vcall P jl #[.pointer (some ⟨b,0,none⟩)] w K:=by
 apply xd0;have lb:=g.lt;obtain⟨V,a5⟩:=M.nIn_eq l;have R:zf P zz (.pointer (some ⟨b,3,none⟩)) w=λK=>K (.agg #[.int .i64 c.many,lv]) w:=by
  funext K
  refine zo0 (cs:=[.int .i64 c.many,lv]) xP λi v C=>?_;rw[xR]
  match i,C with
  |0,C=>exact g.cell (by simpa using C)
  |1,C=>exact g.cell (by simpa using C)
 simp(disch:=(simp only[push_cast])) only[push_cast];rw[R];have a3:0<=c.many:=by omega
 refine run_spec (many:=c.many.toNat) (n:=4000) hc u (by omega) (gr _) λFr bs σ w2 f h _ _ _=>?_;have a0:=g.ext f;have z2:=f.size;simp(disch:=(simp only[push_cast])) only[push_cast,h.blk.ld5];have d:M.searchM 4000 ds c=if(M.runM c.many.toNat c 4000 M.emptyS).code=1 then(M.envB ds (M.insV (M.wayM (M.runM c.many.toNat c 4000 M.emptyS).put) (M.nIn ds)),1) else if(M.runM c.many.toNat c 4000 M.emptyS).code=2 then([],2) else([],3):=rfl
 generalize M.searchM 4000 ds c=sr at d m o p;generalize hs:M.runM c.many.toNat c 4000 M.emptyS=s at h d;refine zh (λa=>?_) (λa=>?_)
 ·rw[if_pos a] at d;refine zr λw3 z _=>?_;have e3:=f.trans z;have J:=g.ext e3;simp(disch:=(simp only[push_cast])) only[push_cast,J.ld0,true_and];refine vals_spec (h.ext z) λw4 vv S X a4=>?_;have I:=e3.trans S;have L:=g.ext I;simp(disch:=(simp only[push_cast])) only[push_cast,L.ld0,true_and,and_self];refine bitsOf_spec (hd.ext I) l λw5 A=>?_;have H:=I.trans A;have N:=g.ext H;simp(disch:=(simp only[push_cast])) only[push_cast,N.ld0,true_and,and_self];rw[zJ (by omega) (by omega),<-V,show(1:Int)+(M.nIn ds:Int)=((1+M.nIn ds:Nat):Int) by omega];obtain⟨v6,y,Y⟩:=Sl.mid (X.ext A).bools (t:=jJ) (k:=1) Xu0 (a:=1) (b:=1+M.nIn ds) (by omega) (by simp[KP];omega);rw[show(1:Int)=((1:Nat):Int) from rfl,y]
  try simp only[push_cast,true_and]
  have D:Bools (λx=>vv.ownBlock=some x) w5 v6 (M.insV (M.wayM s.put) (M.nIn ds)):=by
   have q:=Y;rw[show 1+M.nIn ds-1=M.nIn ds by omega,<-pR,<-Gp,<-pR,<-Gp,vals_ins hn] at q;exact q
  refine BlastEnv_spec (hd.ext H) D l (by rw[M.insV_len]) λw7 r T j B=>?_;have e7:=H.trans T;have O:=g.ext e7
  try simp only[push_cast,true_and]
  refine O.st (i:=5) j.ints.cells1 j.ints.one zm0 rfl λw8 E a6 Q=>?_;have z5:=H.size;subst d;refine m rfl w8 r ((Same.of_ext e7).trans E) Q ?_;exact((j.same E λx Z e=>by have:=B x Z;omega).ints).weaken λx Z _=>by have:=B x Z;omega
 ·rw[if_neg a] at d;refine zh (λa2=>?_) (λa2=>?_)
  ·rw[if_pos a2] at d;rw[yF qM (W.same f id).cell];exact o d w2 f
  ·rw[if_neg a2] at d;rw[yF qM (U.same f id).cell];exact p d w2 f
end
section
variable {w w' w1 w2:World} {K:Value->World->Prop} {F F' D G H S:Nat->Prop} {n b k p:Nat} {v lv tv dv ev f:Value} {xs:List Nat} {t:M.Tm} {ts us:List M.Tm} {ds:List M.Dcl} {c:M.Cnf} {ar ab at_ an am:Addr}
def RowA (w:World) (a:Addr):Prop:= ∃(c:Array Value) (t:TypeId),w.heap[a.block]?=some (.cells c t (0,0))
theorem RowA.ext {a:Addr} (h:RowA w a) (he:Ext w w'):RowA w' a:=by
 obtain⟨c,t,h⟩:=h;refine⟨c,t,?_⟩;rw[he.block _ (gB.1 h).1 id];exact h
structure Er (w:World) (at_ an am ar ab:Addr):Prop where
 terms:Sent w yw at_
 no:Sent w km an
 much:Sent w jd am
 errs:Errs (λ_=>False) w ar ab
 rt:RowA w at_
 rn:RowA w an
 rm:RowA w am
 rr:RowA w ar
 d1:an≠at_
 d2:am≠at_
 d3:am≠an
 d4:ar≠at_
 d5:ar≠an
 d6:ar≠am
theorem Er.ext (h:Er w at_ an am ar ab) (he:Ext w w'):Er w' at_ an am ar ab:=
 ⟨h.terms.same he id,h.no.same he id,h.much.same he id,h.errs.ext0 he,h.rt.ext he,h.rn.ext he,h.rm.ext he,h.rr.ext he,h.d1,h.d2,h.d3,h.d4,h.d5,h.d6⟩
def errE (at_ an am ar:Addr):Nat->Value
 |0=> .nilIface
 |1=>erv ar
 |2=>erv at_
 |3=>erv an
 |_=>erv am
theorem kL0 {a c:Addr} (h:a≠c) (f:RowA w a) (g:RowA w c) (e:K (.bool false) w):vcall P qk #[erv a,erv c] w K:=by
 obtain⟨_,_,b⟩:=f;obtain⟨_,_,d⟩:=g;exact Vk0 h b d e
theorem switch_spec {r q j X:World->Prop} (er:Er w at_ an am ar ab) (k:Nat) (l:k=0->X w) (m:k=1->j w) (n:k=2->r w) (o:k=3->q w) (p:4<=k->j w):
  zf P yg (.pointer (some ⟨yw,0,none⟩)) w λt28 e=>vcall P qk #[errE at_ an am ar k,t28] e λt29 b=>vif t29 (r b) (
   zf P yg (.pointer (some ⟨km,0,none⟩)) b λt32 f=>vcall P qk #[errE at_ an am ar k,t32] f λt33 c=>vif t33 (q c) (
    zf P yg (.pointer (some ⟨jd,0,none⟩)) c λt36 g=>vcall P qk #[errE at_ an am ar k,t36] g λt37 a=>vif t37 (vif t37 (j a) (X a)) (
     zf P yg (.pointer (some ⟨xy,0,none⟩)) a λt39 i=>vcall P qk #[errE at_ an am ar k,t39] i λt40 d=>vif t40 (j d) (X d)))):=by
 rw[yF qM er.terms.cell]
 match k,l,m,n,o,p with
 |0,l,_,_,_,_=>
  refine JN0 (zK (λh=>by cases h) λ_=>?_);rw[yF qM er.no.cell];refine JN0 (zK (λh=>by cases h) λ_=>?_);rw[yF qM er.much.cell];refine JN0 (zK (λh=>by cases h) λ_=>?_);rw[yF qM er.errs.room.cell];exact JN0 (zK (λh=>by cases h) λ_=>l rfl)
 |1,_,m,_,_,_=>
  refine kL0 er.d4 er.rr er.rt (zK (λh=>by cases h) λ_=>?_);rw[yF qM er.no.cell];refine kL0 er.d5 er.rr er.rn (zK (λh=>by cases h) λ_=>?_);rw[yF qM er.much.cell];refine kL0 er.d6 er.rr er.rm (zK (λh=>by cases h) λ_=>?_);rw[yF qM er.errs.room.cell];exact YA0 (zK (λ_=>m rfl) λh=>by cases h)
 |2,_,_,n,_,_=>exact YA0 (zK (λ_=>n rfl) λh=>by cases h)
 |3,_,_,_,o,_=>
  refine kL0 er.d1 er.rn er.rt (zK (λh=>by cases h) λ_=>?_);rw[yF qM er.no.cell];exact YA0 (zK (λ_=>o rfl) λh=>by cases h)
 |k+4,_,_,_,_,p=>
  refine kL0 er.d2 er.rm er.rt (zK (λh=>by cases h) λ_=>?_);rw[yF qM er.no.cell];refine kL0 er.d3 er.rm er.rn (zK (λh=>by cases h) λ_=>?_);rw[yF qM er.much.cell];exact YA0 (zK (λ_=>zK (λ_=>p (by omega)) λh=>by cases h) λh=>by cases h)
theorem UC0 {d e f:Option Addr} {a c1 b c2 c c3:Nat}:zE P zW [(0,.slice d a c1),(1,.slice e b c2),(2,.slice f c c3)] w K=K (.agg ⟨[.slice d a c1,.slice e b c2,.slice f c c3,.int .i64 0,.slice none 0 0,.slice none 0 0]⟩) w:=
 yo QE0 (us:=[[.slice d a c1],[.slice e b c2],[.slice f c c3]]) rfl rfl
theorem bdJob (b:DclsR F w' dv ds) (d:TmsR G w' tv ts):zE P zW [(0,dv),(1,tv),(2,.slice none 0 0)] w K=K (.agg ⟨[dv,tv,.slice none 0 0,.int .i64 0,.slice none 0 0,.slice none 0 0]⟩) w:=by
 obtain⟨a,c,rfl,_⟩:=b.shape;obtain⟨_,h,_⟩:=d;obtain⟨e,c',rfl,_⟩:=h.shape;exact UC0
def Jj0:List Value:=[.func (.func kc) #[] #[],.func (.func jz) #[] #[],.func (.func j0) #[] #[],.func (.func jl) #[] #[]]
theorem stages_spec (d:∀w' b,b=w.heap.size->Ext w w'->Vals (· =b) w' (.slice (some ⟨b,0,none⟩) 4 4) Jj0->K (.slice (some ⟨b,0,none⟩) 4 4) w'):vcall P Kd #[] w K:=by
 apply Y00;exact vbuildS_row1 (xs:=Jj0) Jf QW Qk (λx a=>by
  simp only[Jj0,gd,gw,or_false] at a;rcases a with rfl|rfl|rfl|rfl<;>rfl) (by decide) λb w1 e he f c=>d w1 b e he (c.sl1 rfl (by decide))
theorem VH0:Xt0 c ds []=c:=by unfold Xt0;simp
def JobS (w0:World) (b:Nat) (dv tv:Value) (ds:List M.Dcl) (ts:List M.Tm) (w:World):Nat->Prop
 |0=>Blk w b [dv,tv,.slice none 0 0,.int .i64 0,.slice none 0 0,.slice none 0 0] zW
 |1=>(∀t,t∈ts->M.tsort ds t=0)/\∃tv',Blk w b [dv,tv',.slice none 0 0,.int .i64 0,.slice none 0 0,.slice none 0 0] zW/\TmsR (λx=>w0.heap.size<=x/\x≠b) w tv' (ts.map (yU0 ds))
 |4=>(Ku ds ts []).2=1/\∃tv' y z ev,Blk w b [dv,tv',.slice none 0 0,y,z,ev] zW/\Ints (λ_=>True) w ev (Ku ds ts []).1
 |_=>XA0 ds ts=true/\(cnfE ds (ts.map (M.foldT ds))).2=0/\∃tv' lv ls,Blk w b [dv,tv',.slice none 0 0,.int .i64 (cnfE ds (ts.map (M.foldT ds))).1.many,lv,.slice none 0 0] zW/\CnfO w0.heap.size w lv ls (cnfE ds (ts.map (M.foldT ds))).1
theorem solved_spec (hd:DclsR F w dv ds) (J:TmsR G w tv ts) (hs:ts.length<=1000) (er:Er w at_ an am ar ab)
  (hK:∀w' ev,Ext w w'->Ints (λ_=>True) w' ev (Ku ds ts []).1->K (.tuple #[ev,.int .i64 (Ku ds ts []).2]) w'):vcall P Ke #[dv,tv,.slice none 0 0] w K:=by
 apply Y30;rw[bdJob hd J];refine zx λb w1 hb Q a4 X=>?_;refine stages_spec λw2 b2 a3 D L=>?_;have z1:=Q.size;have z2:=D.size;have e2:=Q.trans D;have Y:=X.ext D;have nil_:∀{w':World},Ints (λ_=>True) w' (.slice none 0 0) []:=λ{w'}=>OwnI.nil (P:=P) (t:=zt)|>.ints.weaken λx _ _=>trivial;have out:∀{w':World} {k:Int},Ext w w'->Ku ds ts []=([],k)->K (.tuple #[.slice none 0 0,.int .i64 k]) w':=λ{w' k} he h=>by
  have:=hK w' (.slice none 0 0) he;rw[h] at this;exact this nil_
 simp(disch:=(simp only[push_cast])) only[push_cast,L.len];rw[show Jj0.length=4 from rfl];refine vloop_up 4 (λi u w'=>u=[.int .i64 i]/\Same (· =b) w2 w'/\JobS w b dv tv ds ts w' i) ⟨rfl,Same.refl _ _,Y⟩ ?_;rintro i _ _ q C hi ⟨rfl,H,I⟩ hC;have p:Ext w q:=Ext.then e2 H λy hy=>by omega
 have j:=er.ext p;have B:=(hd.weaken (F':=λx=>x<w.heap.size) λx _ h=>h).ext p;have a0:=(J.weaken (F':=λx=>x<w.heap.size) λx _ h=>h).ext p;have N:=L.same H λx hx _ e=>by omega
 simp only[push_cast];refine zh (λa=>?_) (λa=>?_)
 ·have R:i<4:=(by omega);rw[N.iaddr Jr (by omega) (by show(i:Int)<4;omega),gl,N.load QZ (by exact R)];have next:∀{d:World},Same (· =b) q d->JobS w b dv tv ds ts d (i+1)->C [.int .i64 (IntKind.i64.wrap ((i:Int)+1))] d:=λ{d} c h4=>by
   rw[inc64' (by omega)];exact hC R _ _ ⟨rfl,H.trans c,h4⟩
  have v:∀{d:World},Same (· =b) q d->Ext w d:=λ{d} c=>Ext.then p c λy hy=>(by omega);have two:∀{d:World},Ext w d->¬XA0 ds ts=true->K (.tuple #[.slice none 0 0,.int .i64 4]) d:=λhe h=>out he (Qb0 h);rcases(by omega:i=0\/i=1\/i=2\/i=3) with rfl|rfl|rfl|rfl
  ·show vcall P kc #[.pointer (some ⟨b,0,none⟩)] q _;refine jobFold_spec (show Blk q b [dv,tv,.slice none 0 0,.int .i64 0,.slice none 0 0,.slice none 0 0] zW from I) B a0 (λx hx=>by omega) hs j.terms (λt J h d f=>?_) λg d a2 c n a1=>?_
   ·have r:=p.trans f;exact switch_spec (er.ext r) 2 (λh=>by cases h) (λh=>by cases h) (λ_=>two r λl=>h ((all8_iff.1 l).2.2 t J)) (λh=>by cases h) (λh=>by omega)
   ·have z3:=p.size;exact switch_spec (er.ext (v c)) 0 (λ_=>next c ⟨g,a2,n,a1.weaken λx hx _=>⟨by omega,by have:=I.lt;omega⟩⟩) (λh=>by cases h) (λh=>by cases h) (λh=>by cases h) (λh=>by omega)
  ·obtain⟨g,o,m,T⟩:=I;show vcall P jz #[.pointer (some ⟨b,0,none⟩)] q _;refine jobBlast_spec m B T j.errs j.terms λd lv ls c n O=>?_;have r:=v c;by_cases l:XA0 ds ts=true
   ·have S:ts.map (yU0 ds)=ts.map (M.foldT ds):=Gj λt J=>(kN0 (all8_iff.1 l).2.1 (g t J)).2;rw[S] at n O⊢;have z3:=p.size;rcases K80 (jA0 l) with s|s
    ·rw[s];exact switch_spec (er.ext r) 0 (λ_=>next c ⟨l,s,o,lv,ls,n,O.down z3⟩) (λh=>by cases h) (λh=>by cases h) (λh=>by cases h) (λh=>by omega)
    ·rw[s];exact switch_spec (er.ext r) 1 (λh=>by cases h) (λ_=>out r (Xd0 l (by rw[s];decide))) (λh=>by cases h) (λh=>by cases h) (λh=>by omega)
   ·have s:(cnfE ds (ts.map (yU0 ds))).2=2:=by
     unfold cnfE;rw[if_neg λh=>l (all8_iff.2 ⟨by have:=(all8_iff.1 h).1;rwa[X0] at this,(all8_iff.1 h).2.1,g⟩)]
    rw[s];exact switch_spec (er.ext r) 2 (λh=>by cases h) (λh=>by cases h) (λ_=>two r l) (λh=>by cases h) (λh=>by omega)
  ·obtain⟨l,V,o,lv,ls,m,A⟩:=I;show vcall P j0 #[.pointer (some ⟨b,0,none⟩)] q _;refine jobExclude_spec m ?_;exact switch_spec j 0 (λ_=>next (Same.refl _ _) ⟨l,V,o,lv,ls,m,A⟩) (λh=>by cases h) (λh=>by cases h) (λh=>by cases h) (λh=>by omega)
  ·obtain⟨l,V,o,lv,ls,m,A⟩:=I;show vcall P jl #[.pointer (some ⟨b,0,none⟩)] q _;obtain⟨U,q2,q3⟩:=solveR_run (nots:=[]) l V (λe he=>by cases he) (by simp);rw[VH0] at U q2;refine jobSearch_spec m B (λx hx=>by omega) (all8_iff.1 l).2.1 A.cnf q2 q3 j.no j.much (λW d ev c n E=>?_) (λh2 d f=>?_) λh3 d f=>?_
   ·exact switch_spec (er.ext (v c)) 0 (λ_=>next c ⟨by rw[U];exact W,o,_,lv,ev,n,by rw[U];exact E.weaken λ_ _ _=>trivial⟩) (λh=>by cases h) (λh=>by cases h) (λh=>by cases h) (λh=>by omega)
   ·exact switch_spec (er.ext (p.trans f)) 3 (λh=>by cases h) (λh=>by cases h) (λh=>by cases h) (λ_=>out (p.trans f) (by rw[U];exact h2)) (λh=>by omega)
   ·exact switch_spec (er.ext (p.trans f)) 4 (λh=>by cases h) (λh=>by cases h) (λh=>by cases h) (λh=>by cases h) (λ_=>out (p.trans f) (by rw[U];exact h3))
 ·have Z:i=4:=(by omega);subst Z;obtain⟨W,o,y,z,ev,hB,E⟩:=I;have:=hK q ev p E;rw[W] at this;simp(disch:=(simp only[push_cast])) only[push_cast,hB.ld5];exact this
end
section
variable {w w':World} {K:Value->World->Prop} {F F' G H H2 S:Nat->Prop} {n b:Nat} {v tv dv mv f:Value} {t:M.Tm} {ts us:List M.Tm} {d:M.Dcl} {es:List M.Dcl} {ms:List (Int×Int)} {c c' e:List M.Lay}
theorem ctx_ne (h:M.ctxOk c=true):c≠[]:=PO (by have:=(M.ctx_iff.1 h).1;omega)
theorem CtxPush_spec (o:LaysR F w v c) (e:CtxB c) (n:∀w' v',Ext w w'->LaysR (λx=>w.heap.size<=x) w' v' (chg c (c++[([],[])])).1->K (.tuple #[v',.bool (chg c (c++[([],[])])).2]) w'):vcall P Ja #[v] w K:=by
 apply kp0;have j:M.decL (c++[([],[])])=M.decL c:=by rw[M.decL_app,M.decL_one,gz]
 have k:M.terL (c++[([],[])])=M.terL c:=by rw[M.terL_app,M.terL_one,gz]
 refine changed_spec (c':=c++[([],[])]) o e (λa=>⟨by have:=(ctxB_of a).len;have:=(M.ctx_iff.1 a).2.1;rw[Q1];simp;omega,by rw[j];exact e.dec,by rw[k];exact e.ter⟩) (λw1 b dv tv mv p d a l f=>?_) λw1 v1 d g=>?_
 ·simp only[push_cast,gz,gX];refine stackPush_spec l (by rw[M.markL_len];have:=e.len;omega) λw2 i h m=>f w2 dv tv i _ h ?_;rw[M.markL_snoc,j,k];exact m
 ·simp only[push_cast];exact n _ _ d g
theorem stD {a:Nat} {x:Int} {y:ByteArray} (h:Blk w a [.string y,.int .i64 x] zA):zf P zA (.pointer (some ⟨a,0,none⟩)) w K=K (.agg ⟨[.string y,.int .i64 x]⟩) w:=h.ldAgg Xs0
theorem Wu0 {ms:List (Int×Int)} {i:Nat} {x y:Int} (h:OwnP P zP w mv ms) (c:i<ms.length) (e:ms.getD i (0,0)=(x,y)) {z:Int}
  (d:∀w',OwnP P zP w' mv (ms.set i (z,y))->Same (λb=>mv.ownBlock=some b) w w'->w'.heap.size=w.heap.size->K undef w'):zn P ze (.pointer (some ((eaddr mv 2 i).add 0))) (.int .i64 z) w K:=by
 refine Own.stCell h (x:= .int .i64 z) rfl rfl YC (i:=i) (j:=0) (by rw[X0];exact c) (by decide) λw1 a hs f=>d w1 ?_ hs f;rw[M.getD_map _ c _ (0,0),e] at a;unfold OwnP;rw[pM];exact a
theorem Vd0 {ms:List (Int×Int)} {i:Nat} {x y:Int} (h:OwnP P zP w mv ms) (c:i<ms.length) (e:ms.getD i (0,0)=(x,y)) {z:Int}
  (d:∀w',OwnP P zP w' mv (ms.set i (x,z))->Same (λb=>mv.ownBlock=some b) w w'->w'.heap.size=w.heap.size->K undef w'):zn P ze (.pointer (some ((eaddr mv 2 i).add 1))) (.int .i64 z) w K:=by
 refine Own.stCell h (x:= .int .i64 z) rfl rfl YC (i:=i) (j:=1) (by rw[X0];exact c) (by decide) λw1 a hs f=>d w1 ?_ hs f;rw[M.getD_map _ c _ (0,0),e] at a;unfold OwnP;rw[pM];exact a
theorem CtxName_spec (hv:LaysR F w v c) (O:CtxB c) (V:∀w' v',Ext w w'->LaysR (λx=>w.heap.size<=x) w' v' (chg c (M.addD c d)).1->K (.tuple #[v',.bool (chg c (M.addD c d)).2]) w'):
  vcall P Jb #[v,.agg ⟨[.string d.1,.int .i64 d.2]⟩] w K:=by
 apply kq0;refine zx λb1 w1 X s a0 C=>?_
 try simp only[push_cast]
 refine changed_spec (c':=M.addD c d) (hv.ext s) O (λg=>?_) (λw2 b dv tv mv K1 t g U G=>?_) λw2 v1 t H=>?_
 ·have Q:=ctxB_of g;have f:=(M.decl_iff.1 (M.ctx_iff.1 g).2.2.1).1;exact⟨by rw[M.addD_len];exact Q.len,by rw[M.addD_decL (ctx_ne g),Q1];simp;omega,by rw[M.addD_terL (ctx_ne g)];exact Q.ter⟩
 ·simp only[push_cast,gz,gX];apply qe0;refine zr λw3 u _=>?_;have L:=U.ext u;have D:=C.ext (t.trans u);have j:=ctx_ne g;have hlen:=O.len;have Z:=(M.decl_iff.1 (M.ctx_iff.1 g).2.2.1).1;have B:0<c.length:=gG.2 j;simp(disch:=(simp only[push_cast])) only[push_cast,L.blk.ld0,true_and,stD D];refine xQ Zt Yk jR rfl rfl (by decide) λb4 R Y y a1 E=>?_;have f:=L.ext y;simp(disch:=(simp only[push_cast])) only[push_cast,f.blk.ld0,true_and,and_self];refine OwnD.app (es:=[d]) f.dec (E.sl1k rfl) (by simp;omega) λw5 m k J r=>?_;have z4:=y.size;have z5:=k.size;have q5:=f.blk.same k λe=>(f.nd _ e).2 rfl
  try simp only[push_cast,true_and]
  refine q5.st (i:=0) r.dcls.cellsV r.dcls.one Qn rfl λS n a2 q=>?_;replace q:Blk S b [m,tv,mv] zy:=q;have ltv:∀x,tv.ownBlock=some x->x<R.heap.size:=λx a=>f.ter.lt a;have lmv:∀x,mv.ownBlock=some x->x<R.heap.size:=λx a=>(Own.lt f.mar a).2;have lb:=f.blk.lt;have nw:=f.new;have l:∀x,m.ownBlock=some x->w1.heap.size<=x/\x≠b/\tv.ownBlock≠some x/\mv.ownBlock≠some x:=λx a=>by
   rcases J x a with e|e
   ·exact⟨(f.nd x e).1,(f.nd x e).2,λp=>(f.nt x p).2.2 e,λp=>(f.nm x p).2.2.1 e⟩
   ·exact⟨by omega,by omega,λp=>by have:=ltv x p;omega,λp=>by have:=lmv x p;omega⟩
  have N:StkR w1.heap.size S b m tv mv (M.decL c++[d]) (M.terL c) (M.markL c):=
   ⟨q,r.same n λx a e=>(l x a).2.1 e,(f.ter.same k (λx a e=>(f.nt x a).2.2 e) λx a _ e=>by have:=(f.nd x e).1;omega).same n (λx a e=>(f.nt x a).2.1 e) (λx a _ e=>by omega),
    (Own.same f.mar k λx a e=>(f.nm x a).2.2.1 e).same n λx a e=>(f.nm x a).2.1 e,nw,λx a=>⟨(l x a).1,(l x a).2.1⟩,λx a=>⟨(f.nt x a).1,(f.nt x a).2.1,λe=>(l x e).2.2.1 a⟩,λx a=>⟨(f.nm x a).1,(f.nm x a).2.1,λe=>(l x e).2.2.2 a,(f.nm x a).2.2.2⟩⟩
  refine last_spec N (by rw[M.markL_len];exact B) λw7 z=>?_;have h:=N.ext z;have A:(M.markL c).length-1<(M.markL c).length:=by rw[M.markL_len];omega
  simp(disch:=first|(simp only[push_cast])|exact A) only[push_cast,PairsR.load0 h.mar.pairs];rw[M.markL_len,M.markL_last j];rw[M.markL_len] at A;rw[zJ (by omega) (by omega)];refine Wu0 (i:=c.length-1) h.mar (by rw[M.markL_len];exact A) (M.markL_last j) λT I o a3=>?_;have z7:=z.size;have W:Same (λx=>w1.heap.size<=x) w2 T:=((((Same.of_ext (u.trans y)).trans (k.mono λx _ a=>(f.nd x a).1)).trans (n.mono λx _ a=>by omega)).trans (Same.of_ext z)).trans (o.mono λx _ a=>(f.nm x a).1);refine G T m tv mv _ W ?_;rw[M.addD_decL j,M.addD_terL j,M.markL_addD j];exact⟨h.blk.same o λe=>(h.nm _ e).2.1 rfl,h.dec.same o λx a e=>(h.nm x e).2.2.1 a,h.ter.same o (λx a e=>(h.nm x e).2.2.2 a) (λx a _ e=>by have:=(h.nm x e).1;omega),I,h.new,h.nd,h.nt,h.nm⟩
 ·simp only[push_cast];have z1:=s.size;exact V _ _ (s.trans t) (H.weaken λx a _=>by omega)
theorem LstH.st {i:Nat} {cs:List Value} (h:LstH H w tv ts) (n:i<ts.length) (c:TmR H w cs t) (m:∀x,tv.ownBlock=some x->¬H x)
  (p:∀w',Same (λx=>tv.ownBlock=some x) w w'->w'.heap.size=w.heap.size->LstH H w' tv (ts.set i t)->K undef w'):zn P za (.pointer (some (eaddr tv 5 i))) (.agg ⟨cs⟩) w K:=by
 obtain⟨css,r,q,d⟩:=h;refine own_stEl r (by decide) (yq c) (one_tms (css:=[cs]) (ks:=[t]) rfl (λi n=>by
  have:i=0:=(by simpa using n);subst this;exact c) cs (by simp)) zp (by omega) λw1 f a k=>p w1 a k ⟨css.set i cs,f,by simp[q],λj o=>?_⟩
 rw[gH] at o;rw[k6,PV,k6 (l:=ts.set i t),PV];by_cases b:i=j
 ·subst b;rw[if_pos rfl,if_pos rfl,if_pos (by omega),if_pos (by omega)];exact c.same a λx g _ e=>m x e g
 ·rw[if_neg b,if_neg b,<-k6,<-k6];exact(d j o).same a λx g _ e=>m x e g
theorem VY0:TmR H w yH0 (.mk 0 0 0 M.nada []):=TmR.of (t:= .mk 0 0 0 M.nada []) TmsR.nil
theorem Z60 {α:Type} {l:List α} {x y:α}:(l++[x]).set l.length y=l++[y]:=by simp[Pf]
theorem CtxAssert_spec (hv:LaysR F w v c) (ht:TermR G w tv t) (hb:CtxB c) (hK:∀w' v',Ext w w'->LaysR (λx=>w.heap.size<=x) w' v' (chg c (M.addT c t)).1->K (.tuple #[v',.bool (chg c (M.addT c t)).2]) w'):
  vcall P Z7 #[v,tv] w K:=by
 apply qf0;obtain⟨cs,rfl,H⟩:=ht.cells;refine zx λb1 w1 am A ap a0=>?_
 try simp only[push_cast]
 refine changed_spec (c':=M.addT c t) (hv.ext A) hb (λr=>?_) (λw2 b dv tv mv K1 B r h2 ab=>?_) λw2 v1 B ad=>?_
 ·have hc:=ctxB_of r;have f:=(M.ctx_iff.1 r).2.2.2.1;exact⟨by rw[M.addT_len];exact hc.len,by rw[M.addT_decL (ctx_ne r)];exact hc.dec,by rw[M.addT_terL (ctx_ne r),Q1];simp;omega⟩
 ·simp only[push_cast,gz,gX];apply y40;have s:=ctx_ne r;have hlen:=hb.len;have ao:=(M.ctx_iff.1 r).2.2.2.1;have a6:0<c.length:=gG.2 s;have hg:aggB P za cs.length=true:=by rw[yq H];exact zp
  have z1:=A.size;have a5:=(H.weaken (F':=λx=>x<w1.heap.size) λx _ h=>by omega).ext A;refine zS (λu w'=>u=[]/\Same (λx=>w1.heap.size<=x) w2 w'/\∃al,StkR w1.heap.size w' b dv al mv (M.decL c) (M.terL c++[t]) (M.markL c)) (λJ hJ=>?_) ?_
  ·refine zS (λu w'=>(∃q,u=[.bool q])/\Ext w2 w') (λJ1 a9=>?_) ?_
   ·refine zr λw3 k _=>?_;refine⟨?_,trivial⟩;refine Wf QV0 λb4 T ac d ai o=>?_;replace o:Blk T b4 [.bool false] qI:=o;have e4:=k.trans d;have z3:=k.size;have fin:∀(p q:Bool),zn P qI (.pointer (some ⟨b4,0,none⟩)) (.bool p) T λ_ R=>(zn P qI (.pointer (some ⟨b4,0,none⟩)) (.bool q) R λ_ g=>zf P qI (.pointer (some ⟨b4,0,none⟩)) g λt4 w7=>w7=g/\J1 [t4] g)/\True:=λp q=>by
     refine o.st (i:=0) rfl rfl QX0 rfl λR X aj U=>⟨?_,trivial⟩;refine U.st (i:=0) rfl rfl QX0 rfl λg l ak z=>?_;replace z:Blk g b4 [.bool q] qI:=z;simp(disch:=(simp only[push_cast])) only[push_cast,z.ld0,true_and];have e6:Ext w2 g:=Ext.then (Ext.then e4 X λy hy=>by subst hy;omega) l λy hy=>by subst hy;omega
     exact a9 _ _ ⟨⟨_,rfl⟩,e6⟩
    exact⟨fin true false,fin false true,trivial⟩
   ·rintro _ _ w3 ⟨⟨q,rfl⟩,k⟩;have E:=h2.ext k;have a8:=a0.ext (B.trans k);have c3:=a5.ext (B.trans k);have S:∀x,tv.ownBlock=some x->¬x<w1.heap.size/\¬x<w1.heap.size:=λx a=>⟨λe=>by have:=(h2.nt x a).1;omega,λe=>by have:=(h2.nt x a).1;omega⟩;have grown:∀{T R:World} {m:Value} {us:List M.Tm},Ext w3 T->Same (λx=>tv.ownBlock=some x) T R->(∀x,m.ownBlock=some x->tv.ownBlock=some x\/w3.heap.size<=x)->LstH (λx=>x<w1.heap.size) R m us->∀{J:World->Prop},
      (∀g,Same (λx=>w1.heap.size<=x) w2 g->StkR w1.heap.size g b dv m mv (M.decL c) us (M.markL c)->J g)->zn P zb (.pointer (some ⟨b,1,none⟩)) m R λ_ g=>J g:=λ{T R m us} d L W C {J} aa=>by
     have f:=E.ext d;have z3:=k.size;have lb:=E.blk.lt;have nw:=E.new;have ldv:∀x,dv.ownBlock=some x->x<w3.heap.size:=λx a=>(Own.lt E.dec a).2;have lmv:∀x,mv.ownBlock=some x->x<w3.heap.size:=λx a=>(Own.lt E.mar a).2;have q5:=f.blk.same L λe=>(f.nt _ e).2.1 rfl;refine q5.st (i:=1) C.tms.cellsV C.tms.one qd rfl λg l ak z=>?_;have D:∀x,m.ownBlock=some x->w1.heap.size<=x/\x≠b/\dv.ownBlock≠some x/\mv.ownBlock≠some x:=λx a=>by
      rcases W x a with e|e
      ·exact⟨(f.nt x e).1,(f.nt x e).2.1,(f.nt x e).2.2,λY=>(f.nm x Y).2.2.2 e⟩
      ·exact⟨by omega,by omega,λY=>by have:=ldv x Y;omega,λY=>by have:=lmv x Y;omega⟩
     refine aa g (((Same.of_ext (k.trans d)).trans (L.mono λx _ a=>(f.nt x a).1)).trans (l.mono λx _ a=>by omega)) ⟨z,(f.dec.same L λx a e=>(f.nt x e).2.2 a).same l λx a e=>(f.nd x a).2 e,C.same l (λx a e=>(D x a).2.1 e) (λx a _ e=>by omega),(Own.same f.mar L λx a e=>(f.nm x a).2.2.2 e).same l λx a e=>(f.nm x a).2.1 e,nw,f.nd,λx a=>⟨(D x a).1,(D x a).2.1,(D x a).2.2.1⟩,λx a=>⟨(f.nm x a).1,(f.nm x a).2.1,(f.nm x a).2.2.1,λe=>(D x e).2.2.2 a⟩⟩
    refine zK (λ_=>?_) (λ_=>?_)
    ·simp(disch:=(simp only[push_cast])) only[push_cast,E.blk.ld1,E.ter.tms.len];refine xQ xd xn zH rfl rfl (by decide) λb4 T ac d ai o=>?_;refine LstH.app (H2:=λx=>x<w1.heap.size) (us:=[.mk 0 0 0 M.nada []]) ((E.ter.ext d)) S (o.sl1k rfl) rfl (λi hi=>?_) (by simp;omega) λR m X W C=>?_
     ·have:i=0:=(by simpa using hi);subst this;exact VY0
     have z4:=d.size
     try simp only[push_cast]
     have a3:=C.weaken (F:=λx=>x<w1.heap.size) λx a _=>a.1.elim id id;refine grown d X (λx a=>(W x a).imp id λh=>by omega) a3 λg N j=>?_;have Z:Ext w1 g:=Ext.then B N λx a=>a;rw[(a0.ext Z).ldAgg hg];have a2:(M.terL c).length<(M.terL c++[M.Tm.mk 0 0 0 M.nada []]).length:=(by simp);simp(disch:=first|(simp only[push_cast])|omega|(simp only[Int.ofNat_lt];exact a2)) only[push_cast,j.ter.tms.iaddr,gl];refine LstH.st j.ter a2 (a5.ext Z) (λx a e=>by have:=(j.nt x a).1;omega) λw7 O aq a4=>?_;rw[Z60] at a4;refine hJ _ _ ⟨rfl,N.trans (O.mono λx _ a=>(j.nt x a).1),m,j.blk.same O λe=>(j.nt _ e).2.1 rfl,j.dec.same O λx a e=>(j.nt x e).2.2 a,a4,Own.same j.mar O λx a e=>(j.nm x a).2.2.2 e,j.new,j.nd,j.nt,j.nm⟩
    ·refine zr λT d _=>?_;have f:=E.ext d;have o:=a8.ext d;simp(disch:=(simp only[push_cast])) only[push_cast,f.blk.ld1,true_and,o.ldAgg hg];refine xQ xd xn zH rfl (yq H) (by decide) λb5 R an I aj U=>?_;have h5:=f.ext I;simp(disch:=(simp only[push_cast])) only[push_cast,h5.blk.ld1,true_and,and_self];refine LstH.app (H2:=λx=>x<w1.heap.size) (us:=[t]) h5.ter S (U.sl1k (yq H)) rfl (λi hi=>?_) (by simp;omega) λg a7 l ag ae=>?_
     ·have:i=0:=(by simpa using hi);subst this;exact(c3.ext d).ext I
     have z4:=d.size;have z5:=I.size
     try simp only[push_cast,true_and]
     exact grown (d.trans I) l (λx a=>(ag x a).imp id λh=>by omega) (ae.weaken (F:=λx=>x<w1.heap.size) λx a _=>a.1.elim id id) λw7 ah n=>hJ _ _ ⟨rfl,ah,_,n⟩
  ·rintro _ _ g ⟨rfl,N,a7,j⟩;refine last_spec j (by rw[M.markL_len];exact a6) λw7 a1=>?_;have n:=j.ext a1;have V:(M.markL c).length-1<(M.markL c).length:=by rw[M.markL_len];omega
   simp(disch:=first|(simp only[push_cast])|exact V) only[push_cast,n.mar.pairs.load1];rw[M.markL_len,M.markL_last s];rw[M.markL_len] at V;rw[zJ (by omega) (by omega)];refine Vd0 (i:=c.length-1) n.mar (by rw[M.markL_len];exact V) (M.markL_last s) λw8 af Q ar=>?_;refine ab w8 dv a7 mv _ ((N.trans (Same.of_ext a1)).trans (Q.mono λx _ a=>(n.nm x a).1)) ?_;rw[M.addT_decL s,M.addT_terL s,M.markL_addT s];exact⟨n.blk.same Q λe=>(n.nm _ e).2.1 rfl,n.dec.same Q λx a e=>(n.nm x e).2.2.1 a,n.ter.same Q (λx a e=>(n.nm x e).2.2.2 a) (λx a _ e=>by have:=(n.nm x e).1;omega),af,n.new,n.nd,n.nt,n.nm⟩
 ·simp only[push_cast];have z1:=A.size;exact hK _ _ (A.trans B) (ad.weaken λx a _=>by omega)
theorem CtxPop_spec (hv:LaysR F w v c) (N:CtxB c) (h2:2<=c.length) (Z:∀w' v',Ext w w'->LaysR (λx=>w.heap.size<=x) w' v' (chg c (c.take (c.length-1))).1->K (.tuple #[v',.bool (chg c (c.take (c.length-1))).2]) w'):
  vcall P Kg #[v] w K:=by
 apply Yb0;have hlen:=N.len;refine changed_spec (c':=c.take (c.length-1)) hv N (λT=>ctxB_take N _) (λw1 b dv tv mv K1 z T Y L=>?_) λw1 v1 z Q=>?_
 ·simp only[push_cast,gz,gX];apply jt0;refine zr λw3 A _=>?_;have g:=Y.ext A;have hm:=g.mar.pairs;simp(disch:=(simp only[push_cast])) only[push_cast,g.blk.ld2,hm.len,true_and,M.markL_len];rw[zJ (by omega) (by omega),show(c.length:Int)-1=((c.length-1:Nat):Int) by omega];rw[qx0 g.mar xD0 (by rw[X0,M.markL_len];omega)];have s:OwnP P zP w3 (cutV mv (c.length-1)) (M.markL (c.take (c.length-1))):=by
   have:=own_taken g.mar (n:=c.length-1) (by rw[X0,M.markL_len];omega);rw[<-Gp,M.markL_take (by omega)] at this;exact this
  try simp only[push_cast,true_and]
  refine g.blk.st (i:=2) s.pairs.cellsV s.pairs.one xv0 rfl λW k a1 o=>?_;replace o:Blk W b [dv,tv,cutV mv (c.length-1)] zy:=o;have nw:=g.new;have H:∀x,(cutV mv (c.length-1)).ownBlock=some x->w.heap.size<=x/\x≠b/\dv.ownBlock≠some x/\tv.ownBlock≠some x:=λx d=>by
   rw[qF] at d;exact g.nm x d
  have J:StkR w.heap.size W b dv tv (cutV mv (c.length-1)) (M.decL c) (M.terL c) (M.markL (c.take (c.length-1))):=
   ⟨o,g.dec.same k λx d e=>(g.nd x d).2 e,g.ter.same k (λx d e=>(g.nt x d).2.1 e) (λx d _ e=>by omega),Own.same s k λx d e=>(H x d).2.1 e,nw,g.nd,g.nt,H⟩
  have R:(M.markL (c.take (c.length-1))).length=c.length-1:=by rw[M.markL_len,gi];omega
  simp(disch:=(simp only[push_cast])) only[push_cast,J.blk.ld2,J.mar.pairs.len,R];refine zh (λ_=>?_) (λa=>absurd a (by omega));refine zr λw5 B _=>?_;have I:=J.ext B;simp(disch:=(simp only[push_cast])) only[push_cast,I.blk.ld0,I.blk.ld1,true_and];have m:0<(M.markL (c.take (c.length-1))).length:=(by omega);have E:(M.markL (c.take (c.length-1))).length-1<(M.markL (c.take (c.length-1))).length:=(by omega);have h:(M.markL (c.take (c.length-1))).getD ((M.markL (c.take (c.length-1))).length-1) (0,0)=(((M.decL (c.take (c.length-1))).length:Int),((M.terL (c.take (c.length-1))).length:Int)):=by
   have:=M.markL_last (c:=c.take (c.length-1)) (λe=>by have:=congrArg List.length e;rw[gi] at this;simp at this;omega);rw[M.markL_len];exact this
  have ld:=M.decL_le (c:=c) (i:=c.length-1) (by omega);have lt:=M.terL_le (c:=c) (i:=c.length-1) (by omega);refine last_spec I m λw6 C=>?_;have y:=I.ext C;simp(disch:=first|(simp only[push_cast])|exact E|(rw[X0];exact ld)) only[push_cast,y.blk.ld0,y.blk.ld1,true_and,and_self,PairsR.load0 y.mar.pairs,h,qx0 y.dec Qu];refine last_spec y m λX D=>?_;have f:=y.ext D;obtain⟨css,t,S,O⟩:=f.ter;have G:(M.terL (c.take (c.length-1))).length<=css.length:=by rw[S];exact lt
  simp(disch:=first|(simp only[push_cast])|exact E|(rw[X0];exact ld)|exact G) only[push_cast,f.blk.ld0,f.blk.ld1,true_and,and_self,PairsR.load0 f.mar.pairs,PairsR.load1 f.mar.pairs,h,qx0 f.dec Qu,qx0 t Qt];have r:OwnD X (cutV dv (M.decL (c.take (c.length-1))).length) (M.decL (c.take (c.length-1))):=by
   have:=own_taken f.dec (n:=(M.decL (c.take (c.length-1))).length) (by rw[X0];exact ld);rw[<-Gp,M.decL_pre] at this;exact this
  have u:LstH (λx=>x<w.heap.size) X (cutV tv (M.terL (c.take (c.length-1))).length) (M.terL (c.take (c.length-1))):=by
   refine⟨_,own_taken t G,by rw[gi];omega,λi V=>?_⟩;rw[M.take_getD V];have:=O i (by omega);rwa[<-M.terL_pre c (c.length-1),M.take_getD V]
  refine f.blk.st (i:=0) r.dcls.cellsV r.dcls.one Qn rfl λw8 j a2 p=>?_;replace p:Blk w8 b [cutV dv (M.decL (c.take (c.length-1))).length,tv,cutV mv (c.length-1)] zy:=p;have a0:=t.same j λx d e=>(f.nt x d).2.1 e
  try simp only[true_and,and_self]
  refine p.st (i:=1) u.tms.cellsV u.tms.one qd rfl λU l a3 q=>?_;replace q:Blk U b [cutV dv (M.decL (c.take (c.length-1))).length,cutV tv (M.terL (c.take (c.length-1))).length,cutV mv (c.length-1)] zy:=q;have hS:Same (λx=>w.heap.size<=x) w1 U:=((((Same.of_ext A).trans (k.mono λx _ d=>by omega)).trans (Same.of_ext (B.trans (C.trans D)))).trans (j.mono λx _ d=>by omega)).trans (l.mono λx _ d=>by omega);refine L U _ _ _ _ hS ⟨q,(r.same j λx d e=>?_).same l λx d e=>?_,(u.same j (λx d e=>?_) (λx d _ e=>by omega)).same l (λx d e=>?_) (λx d _ e=>by omega),(Own.same f.mar j λx d e=>(f.nm x d).2.1 e).same l λx d e=>(f.nm x d).2.1 e,nw,λx d=>?_,λx d=>?_,λx d=>?_⟩
  all_goals (try rw[qF] at d);(try rw[qF])
  ·exact(f.nd x d).2 e
  ·exact(f.nd x d).2 e
  ·exact(f.nt x d).2.1 e
  ·exact(f.nt x d).2.1 e
  ·exact f.nd x d
  ·exact f.nt x d
  ·rw[qF];exact g.nm x d
 ·simp only[push_cast];exact Z _ _ z Q
end
end Go.Proofs.YtokflbdfnbppjaaGreatDoor
