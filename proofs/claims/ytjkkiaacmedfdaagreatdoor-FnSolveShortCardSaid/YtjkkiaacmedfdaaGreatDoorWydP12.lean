import Derived.Test.YtjkkiaacmedfdaaGreatDoorWydP11
/- A part of the proof. -/
set_option linter.all false
set_option maxRecDepth 9999
set_option maxHeartbeats 2000000
noncomputable section
namespace Go.Proofs.YtjkkiaacmedfdaaGreatDoor
open Go Go.Vc Go.Proofs
section
variable {w:World} {K:oK} {F F' D G:Nat->Prop}
def fsL (dv:Value) (mb:Nat):List Value:=[jY,qS,ju,jv,jX,jg,jw].map λn=> .func (.func n) #[qJ dv mb] #[]
theorem xv0 {dv:Value} {mb:Nat} (e:∀w' v,Ext w w'->Vals (λ_=>True) w' v (fsL dv mb)->K v w'):vcall Xc #[qJ dv mb] w K:=by
 refine zg {} Tryz.func103 ?_;refine zl λb1 w1 f a g c=>?_;simp only[push_cast,c.ldAgg (t:=ya) xI];refine vbuildS_row1 (xs:=fsL dv mb) qQ (by simp only[push_cast]) (z:= .nilFunc) (by unfold ym;kernel_rfl) (λx h=>by obtain⟨y,_,rfl⟩:=gy.1 h;rfl) (by show 7<=16777216;decide) λb w' i he hs d=>?_;have o:OwnV zV w' (.slice (some ⟨b,0,none⟩) (fsL dv mb).length (fsL dv mb).length) (fsL dv mb):=Blk.own1 (t:=zV) (by rw[qM];exact d) (gQ _) rfl rfl (by show 7<=9223372036854775807;decide);exact e w' _ (a.trans he) (OwnV.vals o|>.weaken λ_ _ _=>trivial)
def rl (ds:List M.Dcl) (t:M.Tm) (i:Nat):Option M.Tm:=[M.ruleX ds t,M.ruleB t,M.ruleT t,M.ruleL ds t,M.ruleW ds t,M.ruleS t,M.ruleF t].getD i none
theorem callRule {dv tv:Value} {mb:Nat} {ds:List M.Dcl} {t:M.Tm} {i:Nat} (hi:i<7) (c:DclsR F w dv ds) (hm:KindsR w mb) (a:M.declOk ds=true) (d:TermR G w tv t) (hs:M.sortM ds t≠ -1) (b:KR K w G (rl ds t i)):vcallv ((fsL dv mb).getD i undef) #[tv] w K:=by
 match i,hi with
 |0,_=>exact fixed_spec c hm a d hs b
 |1,_=>exact branches_spec c hm a d hs b
 |2,_=>exact truths_spec c hm d hs b
 |3,_=>exact layers_spec c hm a d hs b
 |4,_=>exact twins_spec c hm a d hs b
 |5,_=>exact seconds_spec c hm d b
 |6,_=>exact firsts_spec c hm d b
theorem rl_none {ds:List M.Dcl} {t:M.Tm} (h:∀j,j<7->rl ds t j=none):M.ruleA ds t=none:=by
 have a:M.ruleX ds t=none:=h 0 oM;have b:M.ruleB t=none:=h 1 oM;have c:M.ruleT t=none:=h 2 oM;have d:M.ruleL ds t=none:=h 3 oM;have e:M.ruleW ds t=none:=h 4 oM;have f:M.ruleS t=none:=h 5 oM;have g:M.ruleF t=none:=h 6 oM;unfold M.ruleA;rw[a,b,c,d,e,f,g];rfl
theorem rl_some {ds:List M.Dcl} {t u:M.Tm} {i:Nat} (hi:i<7) (h:∀j,j<i->rl ds t j=none) (hu:rl ds t i=some u):M.ruleA ds t=some u:=by
 have g:∀j,j<i->rl ds t j=none:=h;unfold M.ruleA
 match i,hi with
 |0,_=>rw[show M.ruleX ds t=some u from hu];rfl
 |1,_=>rw[show M.ruleX ds t=none from g 0 oM,show M.ruleB t=some u from hu];rfl
 |2,_=>rw[show M.ruleX ds t=none from g 0 oM,show M.ruleB t=none from g 1 oM,show M.ruleT t=some u from hu];rfl
 |3,_=>rw[show M.ruleX ds t=none from g 0 oM,show M.ruleB t=none from g 1 oM,show M.ruleT t=none from g 2 oM,show M.ruleL ds t=some u from hu];rfl
 |4,_=>rw[show M.ruleX ds t=none from g 0 oM,show M.ruleB t=none from g 1 oM,show M.ruleT t=none from g 2 oM,show M.ruleL ds t=none from g 3 oM,show M.ruleW ds t=some u from hu];rfl
 |5,_=>rw[show M.ruleX ds t=none from g 0 oM,show M.ruleB t=none from g 1 oM,show M.ruleT t=none from g 2 oM,show M.ruleL ds t=none from g 3 oM,show M.ruleW ds t=none from g 4 oM,show M.ruleS t=some u from hu];rfl
 |6,_=>rw[show M.ruleX ds t=none from g 0 oM,show M.ruleB t=none from g 1 oM,show M.ruleT t=none from g 2 oM,show M.ruleL ds t=none from g 3 oM,show M.ruleW ds t=none from g 4 oM,show M.ruleS t=none from g 5 oM,show M.ruleF t=some u from hu];rfl
theorem one_spec {dv tv:Value} {mb:Nat} {ds:List M.Dcl} {t:M.Tm} (hd:DclsR F w dv ds) (hm:KindsR w mb) (S:M.declOk ds=true) (ht:TermR G w tv t) (hs:M.sortM ds t≠ -1) (O:∀w' rv,Ext w w'->TermR (λx=>G x\/w.heap.size<=x) w' rv (M.oneT ds t)->K rv w'):vcall QC #[qJ dv mb,tv] w K:=by
 refine zg {loops:=[(2,[12])]} Tryz.func69 ?_;refine rs_enter (B:=λt2 t3 t4 a3=>_) hd hm ht λw1 b2 b3 b4 kv rs=>?_;rw[rs.f.ldAgg (t:=ya) xI];refine xv0 λw2 fv Q J=>?_;have r2:=zY rs Q;simp only[push_cast,J.len];have W:(fsL dv mb).length=7:=rfl;rw[W];refine vloop_up 7 (λi u w'=>u=[nI i]/\Ext w2 w'/\∀j,j<i->rl ds t j=none) ⟨rfl,Same.refl _ _,λj R=>absurd R oM⟩ ?_;rintro i _ _ w3 C hi ⟨rfl,p,g⟩ hC;have c:=zY r2 p;have f3:=J.ext p;simp only[push_cast];refine zb (λa=>?_) (λa=>?_)
 ·have L:i<7:=oM;simp(disch:=first|(simp only[push_cast])|(rw[W];omega)|omega) only[push_cast,f3.iaddr,f3.load,c.q.ldAgg (t:=za) zc];refine callRule (G:=λx=>G x/\x<w.heap.size) L c.d c.m S ⟨kv,rfl,c.k⟩ hs λX rv u H hu s=>?_;have r4:=zY c H;simp only[push_cast];obtain⟨cu,rfl,o⟩:=hu.cells;refine zi zm λb5 w5 a0 I a1 h5=>?_;have D:=(o.weaken (F':=λx=>((G x/\x<w.heap.size)\/w3.heap.size<=x)/\x<X.heap.size) λb h Z=>⟨h,Z⟩).ext I;refine stTerm h5 rfl D λY T a2 h6=>?_;have n:Ext X Y:=Ext.then I T λy N=>by subst N;omega
  have V:=zY r4 n;have E:TmR (λx=>(G x/\x<w.heap.size)\/w3.heap.size<=x) Y cu u:=o.ext n;cases e:rl ds t i with
  |none=>
   simp only[push_cast,Option.isSome_none];rw[inc64' oM];refine hC oM _ _ ⟨rfl,p.trans (H.trans n),λj R=>?_⟩;by_cases ej:j<i
   ·exact g j ej
   ·have:j=i:=oM;subst this;exact e
  |some x=>
   simp only[push_cast,Option.isSome_some];rw[h6.ldAgg (t:=za) (by rw[zB o];exact zc)];have A:=s x e;subst A;have l4:=c.r.lt;refine xE V.r rfl E (λx A=>by have:=c.lo;omega) λw7 z U v=>?_;have l:M.oneT ds t=u:=by unfold M.oneT;rw[rl_some L g e];rfl
   rw[l] at O;refine O _ _ (Ext.then V.ext z λy N=>by subst N;exact V.lo) (v.weaken λx A _=>?_);have:=c.ext.size;rcases A with h|h
   ·exact .inl h.1
   ·exact .inr oM
 ·rw[c.q.ldAgg (t:=za) zc];have l:M.oneT ds t=t:=by unfold M.oneT;rw[rl_none λj R=>g j oM];rfl
  rw[l] at O;refine xE c.r rfl (TmR.of (t:=t) c.k) (λx A=>by have:=c.lo;omega) λw7 z U v=>?_;exact O _ _ (Ext.then c.ext z λy N=>by subst N;exact c.lo) (v.weaken λx A _=> .inl A.1)
theorem fold_spec:∀(t:M.Tm) {w:World} {K:oK} {F G:Nat->Prop} {dv tv:Value} {mb:Nat} {ds:List M.Dcl},DclsR F w dv ds->KindsR w mb->M.declOk ds=true->TermR G w tv t->M.sortM ds t≠ -1->(∀w' rv,Ext w w'->TermR (λx=>G x\/w.heap.size<=x) w' rv (M.foldT ds t)->K rv w')->vcall XO #[qJ dv mb,tv] w K:=by
 refine M.Tm.ind λt ih w K F G dv tv mb ds hd hm W ht hs hK=>?_;have hlen:=M.len_of hs;have b7:t.ks.length<=3:=by
  unfold M.arity at hlen
  repeat' split at hlen
  all_goals omega
 refine zg {loops:=[(4,[13])]} Tryz.func36 ?_;obtain⟨kv,rfl,ah⟩:=ht;refine zl λb1 w1 av a2 az h1=>?_;refine zl λb2 w2 aw a3 b0 h2=>?_;refine zi zm λb3 w3 ax S b4 h3=>?_;have b8:=a2.size;have q3:=h2.ext S;have f3:=(h1.ext a3).ext S;have a0:=a2.trans (a3.trans S);have af:TmsR (λx=>G x/\x<w.heap.size) w3 kv t.ks:=(ah.weaken λb h h'=>⟨h,h'⟩).ext a0;simp only[push_cast,q3.ld4];refine q3.st (i:=4) rfl rfl xH rfl λH D b9 h4=>?_;replace h4:Blk H b2 [nI t.op,nI t.a,nI t.b,.string t.s,.slice none 0 0] za:=h4;have a1:Ext w H:=Ext.then a0 D λy Y=>by subst Y;omega
 have a5:=af.same D λb d _ e=>oM
 have f4:=f3.same D oM;have r4:=h3.same D oM;simp only[push_cast,a5.len];refine vloop_up t.ks.length (λi u w'=>u=[nI i]/\Same (λb=>b=b2) H w'/\∃k css,Blk w' b2 [nI t.op,nI t.a,nI t.b,.string t.s,k] za/\Own 0 5 ze w' k css/\css.length=i/\(∀b,k.ownBlock=some b->H.heap.size<=b)/\
   ∀j,j<i->TmR (λx=>(G x/\x<w.heap.size)\/(H.heap.size<=x/\k.ownBlock≠some x)) w' (css.getD j []) (M.foldT ds (t.ks.getD j default)))
  ⟨rfl,Same.refl _ _,_,[],h4,Own.nil _ _ _ _,rfl,λb h=>(by cases h),λj hj=>absurd hj oM⟩ ?_
 rintro i _ _ w5 C hi ⟨rfl,f,k,css,h5,A,V,g,J⟩ hC;have ba:=f.size;have q:Ext w w5:=Ext.then a1 f λy Y=>by subst Y;omega
 have a6:=a5.same f λb d _ e=>oM
 have f5:=f4.same f oM;simp only[push_cast];refine zb (λa=>?_) (λa=>?_)
 ·simp(disch:=exact oS) only[push_cast,a6.iaddr];refine a6.load zc oM λx hx=>?_;obtain⟨cx,rfl,R⟩:=hx.cells;refine zi zm λb6 w6 ay r b5 h6=>?_;refine stTerm h6 rfl (R.ext r) λw7 X aj h7=>?_;have ab:Ext w5 w7:=Ext.then r X λy Y=>by subst Y;omega
  refine zd λw8 a4 _=>?_;have l:=ab.trans a4;have q8:=h5.ext l;have f8:=f5.ext l;have v8:=h7.ext a4;simp only[push_cast,q8.ld4,f8.ldAgg (t:=ya) xI,v8.ldAgg (t:=za) (by rw[zB R];exact zc),k6];have N:t.ks.getD i default∈t.ks:=M.getD_mem oM _;refine ih _ N (hd.ext (q.trans l)) (hm.ext (q.trans l)) W (R.ext l).term ((M.sort_parts hs).2.1 _ N) λw9 rv T B=>?_;obtain⟨cr,rfl,o⟩:=B.cells;have q9:=q8.ext T;simp only[push_cast,q9.ld4,k6,gh];have ar:=l.size;have bb:=T.size;refine x6 y4 yg zm rfl (zB o) dC λau w10 al m am ac=>?_;have aa:=q9.ext m;simp only[push_cast,aa.ld4,k6,gh];have I:=l.trans (T.trans m);have a9:=A.ext I;refine Own.app1k a9 qx dC ac (zB o) (tmR_one o) oM oM λp bc O n v=>?_;have ak:=aa.same n (λe=>by have:=g _ e;have:=h5.lt;omega);have ao:=n.size
  try simp only[push_cast,k6]
  have a7:p.cells= #[p]/\p.oneCell'=true:=by
   obtain⟨a,c,rfl,_⟩:=O.sl.shape;exact⟨rfl,rfl⟩
  refine ak.st (i:=4) a7.1 a7.2 xH rfl λE z ap Q=>?_;replace Q:Blk E b2 [nI t.op,nI t.a,nI t.b,.string t.s,p] za:=Q;rw[inc64' oM];have an:=m.size;have L:∀b,p.ownBlock=some b->H.heap.size<=b:=λb d=>by
   rcases v b d with h|h
   ·exact g b h
   ·omega
  have Z:Same (λb=>b=b2\/k.ownBlock=some b) w5 E:=(Same.of_ext I).trans ((n.mono λ_ _ h=> .inr h).trans (z.mono λ_ _ h=> .inl h));have ad:Same (λb=>b=b2) H E:=⟨Z.os.trans f.os,Z.tape.trans f.tape,Z.output.trans f.output,gO f.size Z.size,λb d a8=>(Z.block b oM (λe=>e.elim a8 λe=>by have:=g b e;omega)).trans (f.block b d a8)⟩;refine hC oM _ _ ⟨rfl,ad,p,css++[cr],Q,O.same z (λb d e=>by have:=L b d;omega),by simp[V],L,λj hj=>?_⟩;by_cases ej:j<i
  ·rw[X0,gM oM,<-X0];refine((J j ej).weaken (F':=λx=>((G x/\x<w.heap.size)\/(H.heap.size<=x/\k.ownBlock≠some x))/\x<w5.heap.size) λb h h'=>⟨h,h'⟩).same Z (λb d _ e=>?_)|>.weaken λb d _=>?_
   ·rcases d.1 with h|h
    ·rcases e with e|e
     ·omega
     ·have:=g b e;omega
    ·rcases e with e|e
     ·omega
     ·exact h.2 e
   ·rcases d.1 with h|h
    ·exact .inl h
    ·refine .inr ⟨h.1,λe=>?_⟩;rcases v b e with e|e
     ·exact h.2 e
     ·omega
  ·have:j=i:=oM;subst this;rw[X0,Gj oM,V,GZ];show TmR _ E cr _;refine(((o.weaken (F':=λx=>((G x/\x<w.heap.size)\/w8.heap.size<=x)/\x<w9.heap.size) λb h h'=>⟨h,h'⟩).ext m).same n (λb d _ e=>?_)).same z (λb d _ e=>?_)|>.weaken λb d _=>?_
   ·have:=g b e;have:=(A.lt e).2;rcases d.1 with h|h<;>omega
   ·rcases d.1 with h|h<;>omega
   ·rcases d.1 with h|h
    ·exact .inl h
    ·refine .inr ⟨oM,λe=>?_⟩;rcases v b e with e|e
     ·have:=(A.lt e).2;omega
     ·omega
 ·have ae:i=t.ks.length:=oM;subst ae;rw[f5.ldAgg (t:=ya) xI,h5.ldAgg (t:=za) zc];have ag:TmsR (λx=>(G x/\x<w.heap.size)\/H.heap.size<=x) w5 k (t.ks.map (M.foldT ds)):=by
   refine⟨css,A.sl.weaken λb d _=> .inr (g b d),by rw[V,K3],λj hj=>?_⟩;rw[K3] at hj;rw[M.getD_map _ hj _ default];exact(J j hj).weaken λb d _=>d.imp id λh=>h.1
  have U:=M.kids_good W hs;refine one_spec (t:=M.remake t (t.ks.map (M.foldT ds))) (hd.ext q) (hm.ext q) W ⟨k,rfl,ag⟩ (by rw[U.sort];exact hs) λw6 rv r B=>?_;rw[<-M.foldT_rem] at B;obtain⟨cr,rfl,o⟩:=B.cells;have r6:=(r4.same f oM).ext r;have:=r4.lt;refine xE r6 rfl o (λx hx=>by rcases hx with(h|h)|h<;>omega) λw7 X aj ai=>?_;have aq:=a1.size;exact hK _ _ (Ext.then (q.trans r) X λy Y=>by subst Y;omega) (ai.weaken λx hx _=>by
   rcases hx with(h|h)|h
   ·exact .inl h.1
   ·exact .inr oM
   ·exact .inr oM)
end
section
variable {w:World} {K:oK} {F D G:Nat->Prop}
inductive TmO (w:World):(Nat->Prop)->List Value->M.Tm->Prop
 |mk {D:Nat->Prop} {kv:Value} {t:M.Tm} (css:List (List Value)) (Ds:Nat->Nat->Prop) (own:Own 0 5 ze w kv css) (hl:css.length=t.ks.length)
   (hb:∀b,kv.ownBlock=some b->D b/\∀i,i<t.ks.length->¬Ds i b) (hd:∀i j b,i<j->j<t.ks.length->Ds i b->¬Ds j b) (hs:∀i b,i<t.ks.length->Ds i b->D b)
   (hk:∀i,i<t.ks.length->TmO w (Ds i) (css.getD i []) (t.ks.getD i default)):TmO w D [nI t.op,nI t.a,nI t.b,.string t.s,kv] t
theorem yj0 {cs:List Value} {t:M.Tm} (h:TmO w D cs t):∃(kv:Value) (css:List (List Value)) (Ds:Nat->Nat->Prop),cs=[nI t.op,nI t.a,nI t.b,.string t.s,kv]/\Own 0 5 ze w kv css/\css.length=t.ks.length/\
  (∀b,kv.ownBlock=some b->D b/\∀i,i<t.ks.length->¬Ds i b)/\(∀i j b,i<j->j<t.ks.length->Ds i b->¬Ds j b)/\(∀i b,i<t.ks.length->Ds i b->D b)/\∀i,i<t.ks.length->TmO w (Ds i) (css.getD i []) (t.ks.getD i default):=by
 cases h with
 |mk css Ds own f c d hs e=>exact⟨_,css,Ds,rfl,own,f,c,d,hs,e⟩
theorem z00:∀(t:M.Tm) {D:Nat->Prop} {cs:List Value},TmO w D cs t->TmR D w cs t:=by
 refine M.Tm.ind λt f D cs h=>?_;obtain⟨kv,css,Ds,rfl,own,e,c,g,hs,d⟩:=yj0 h;exact TmR.of ⟨css,own.sl.weaken λb a _=>(c b a).1,e,λi hi=>(f _ (M.getD_mem hi _) (d i hi)).weaken λb a _=>hs i b hi a⟩
theorem XD {S:Nat->Prop} {w w':World} (hw:Same S w w'):∀(t:M.Tm) {D:Nat->Prop} {cs:List Value},TmO w D cs t->(∀b,D b->¬S b)->TmO w' D cs t:=by
 refine M.Tm.ind λt k D cs h d=>?_;obtain⟨kv,css,Ds,rfl,own,j,c,f,hs,g⟩:=yj0 h;exact .mk css Ds (own.same hw λb e=>d b (c b e).1) j c f hs λi hi=>k _ (M.getD_mem hi _) (g i hi) λb a=>d b (hs i b hi a)
theorem Zl0 {w':World} {cs:List Value} {t:M.Tm} (h:TmO w D cs t) (hw:Ext w w'):TmO w' D cs t:=XD hw t h λ_ _ h=>h
theorem qw {cs:List Value} {t:M.Tm} (h:TmO w D cs t) (a:∀b,D b->F b):TmO w F cs t:=by
 obtain⟨kv,css,Ds,rfl,own,f,c,d,hs,e⟩:=yj0 h;exact .mk css Ds own f (λb h=>⟨a b (c b h).1,(c b h).2⟩) d (λi b hi h=>a b (hs i b hi h)) e
structure Grow (lo:Nat) (w:World) (kv:Value) (css:List (List Value)) (us:List M.Tm) (Ds:Nat->Nat->Prop):Prop where
 own:Own 0 5 ze w kv css
 len:css.length=us.length
 blk:∀b,kv.ownBlock=some b->lo<=b/\∀j,j<us.length->¬Ds j b
 dis:∀j k b,j<k->k<us.length->Ds j b->¬Ds k b
 sub:∀j b,j<us.length->Ds j b->lo<=b/\b<w.heap.size
 kid:∀j,j<us.length->TmO w (Ds j) (css.getD j []) (us.getD j default)
theorem x80 (lo:Nat) (w:World):Grow lo w (.slice none 0 0) [] [] λ_ _=>False:=
 ⟨Own.nil _ _ _ _,rfl,λb h=>(by cases h),λj k b _ c=>absurd c (by simp),λj b a=>absurd a (by simp),λj a=>absurd a (by simp)⟩
theorem Kx {S:Nat->Prop} {lo:Nat} {kv:Value} {w':World} {css:List (List Value)} {us:List M.Tm} {Ds:Nat->Nat->Prop} (h:Grow lo w kv css us Ds) (hw:Same S w w') (hs:∀b,lo<=b->¬S b):Grow lo w' kv css us Ds:=
 ⟨h.own.same hw λb a=>hs b (h.blk b a).1,h.len,h.blk,h.dis,λj b c a=>⟨(h.sub j b c a).1,gP (h.sub j b c a).2 hw.size⟩,λj c=>XD hw _ (h.kid j c) λb a=>hs b (h.sub j b c a).1⟩
theorem grow_push {lo r:Nat} {kv:Value} {E x y w10:World} {css:List (List Value)} {us:List M.Tm} {Ds:Nat->Nat->Prop} {cr:List Value} {u:M.Tm} (h:Grow lo E kv css us Ds) (F:Ext E x) (G:Ext x y) (R:lo<=x.heap.size)
  (I:TmO y (λb=>x.heap.size<=b/\b<y.heap.size) cr u) (p:Ext y w10) (A:Blk w10 r cr za) (S:us.length<=1048576)
  (O:∀d g z,Grow lo g d (css++[cr]) (us++[u]) z->Same (λb=>kv.ownBlock=some b) w10 g->d.cells= #[d]->d.oneCell'=true->K d g):
  vbi .append [ze,ze] ze [kv,.slice (some ⟨r,0,none⟩) 1 1] w10 K:=by
 have t:=z00 _ I;have s:=F.trans (G.trans p);have g10:=Kx h s λb _ h=>h;have T:=F.size;have U:=G.size;have J:=p.size;have H:=h.len;refine Own.app1k g10.own qx dC A (zB t) (tmR_one t) oM oM λd g o f w=>?_;have L:=f.size;have v:d.cells= #[d]/\d.oneCell'=true:=by
  obtain⟨a,c,rfl,_⟩:=o.sl.shape;exact⟨rfl,rfl⟩
 have hold:∀b,kv.ownBlock=some b->b<E.heap.size:=λb i=>(h.own.lt i).2;refine O d g (λj b=>(j=us.length/\x.heap.size<=b/\b<y.heap.size)\/(j<us.length/\Ds j b)) ⟨o,by simp[H],λb i=>?_,λj k b C Q q D=>?_,λj b q i=>?_,λj q=>?_⟩ f v.1 v.2
 ·rcases w b i with e|e
  ·refine⟨(h.blk b e).1,λj q B=>?_⟩;rcases B with⟨_,m,_⟩|⟨m,n⟩
   ·have:=hold b e;omega
   ·exact(h.blk b e).2 j m n
  ·refine⟨oM,λj q B=>?_⟩;rcases B with⟨_,_,m⟩|⟨m,n⟩
   ·omega
   ·have:=(h.sub j b m n).2;omega
 ·rw[gd,gW] at Q;rcases q with⟨m,n,N⟩|⟨m,n⟩
  ·omega
  ·rcases D with⟨g1,g2,g3⟩|⟨g1,g2⟩
   ·have:=(h.sub j b m n).2;omega
   ·exact h.dis j k b C g1 n g2
 ·rcases i with⟨m,n,N⟩|⟨m,n⟩
  ·exact⟨oM,oM⟩
  ·have:=h.sub j b m n;exact⟨this.1,oM⟩
 ·rw[gd,gW] at q;by_cases e:j<us.length
  ·rw[X0,gM oM,<-X0,X0 (l:=us++[u]),gM e,<-X0];refine qw (XD f _ (g10.kid j e) λb i hs=>(h.blk b hs).2 j e i) λb i=> .inr ⟨e,i⟩
  ·have:j=us.length:=oM;subst this;rw[X0,Gj oM,H,GZ,X0 (l:=us++[u]),Gj (gA _),GZ];show TmO g _ cr u;refine qw (XD f _ (Zl0 I p) λb i hs=>by have:=hold b hs;omega) λb i=> .inl ⟨rfl,i⟩
theorem zZ0 {lo:Nat} {kv:Value} {css:List (List Value)} {t:M.Tm} {Ds:Nat->Nat->Prop} (h:Grow lo w kv css t.ks Ds):TmO w (λb=>lo<=b/\b<w.heap.size) [nI t.op,nI t.a,nI t.b,.string t.s,kv] t:=
 .mk css Ds h.own h.len (λb c=>⟨⟨(h.blk b c).1,(h.own.lt c).2⟩,(h.blk b c).2⟩) h.dis (λi b hi c=>h.sub i b hi c) h.kid
theorem ZX0 {b:Nat} {cs cs':List Value} {t:TypeId} {t':M.Tm} {K:oK} (h:Blk w b cs t) (i:cs.length=5) (d:TmO w G cs' t') (c:∀x,G x->x≠b) (g:∀w',Same (· =b) w w'->w'.heap.size=w.heap.size->TmO w' G cs' t'->K (.agg ⟨cs'⟩) w'):
  zS za (oP b 0) (.agg ⟨cs'⟩) w λ_ w1=>vlv za (oP b 0) w1 λr w2=>K r w2:=
 xE h i (z00 _ d) c λw' hw j _=>g w' hw j (XD hw _ d λf a e=>c f a e)
theorem XE {us:List M.Tm} {i:Nat} (h:i<us.length):us.take i++[us.getD i default]=us.take (i+1):=(M.take_add h default).symm
theorem copyTerm_spec:∀(t:M.Tm) {w:World} {K:oK} {F:Nat->Prop} {v:Value},TermR F w v t->ZD0 t=true->(∀w' cs,Ext w w'->TmO w' (λb=>w.heap.size<=b/\b<w'.heap.size) cs t->K (.agg ⟨cs⟩) w')->vcall Kd #[v] w K:=by
 refine M.Tm.ind λt ih w K F v ht J hK=>?_;obtain⟨f1,f2⟩:=fitB_iff.1 J;refine zg {loops:=[(4,[11])]} Tryz.func34 ?_;obtain⟨kv,rfl,a2⟩:=ht;refine zl λb1 w1 af E ai h1=>?_;refine zi zm λb2 w2 ag G aj h2=>?_;have al:=E.size;have q2:=h1.ext G;have z:=E.trans G;have a1:TmsR (λx=>x<w.heap.size) w2 kv t.ks:=(a2.weaken λb _ h'=>h').ext z;simp only[push_cast,q2.ld4];refine q2.st (i:=4) rfl rfl xH rfl λS p am W=>?_;replace W:Blk S b1 [nI t.op,nI t.a,nI t.b,.string t.s,.slice none 0 0] za:=W;have A:Ext w S:=Ext.then z p λy q=>by subst q;omega
 have L:=a1.same p λb D _ e=>oM
 have r4:=h2.same p oM;simp only[push_cast,L.len];refine vloop_up t.ks.length (λi u w'=>u=[nI i]/\Same (λb=>b=b1) S w'/\∃g css Ds,Blk w' b1 [nI t.op,nI t.a,nI t.b,.string t.s,g] za/\Grow S.heap.size w' g css (t.ks.take i) Ds)
  ⟨rfl,Same.refl _ _,_,[],_,W,x80 _ _⟩ ?_
 rintro i _ _ w5 C hi ⟨rfl,c,g,css,Ds,h5,g5⟩ hC;have an:=c.size;have ac:=A.size;have X:Ext w w5:=Ext.then A c λy q=>by subst q;omega
 have N:=L.same c λb D _ e=>oM
 simp only[push_cast];refine zb (λa=>?_) (λa=>?_)
 ·simp(disch:=exact oS) only[push_cast,N.iaddr];refine N.load zc oM λx hx=>?_;obtain⟨cx,rfl,n⟩:=hx.cells;refine zi zm λb6 w6 ah H ak h6=>?_;refine stTerm h6 rfl (n.ext H) λw7 a5 ap h7=>?_;have U:Ext w5 w7:=Ext.then H a5 λy q=>by subst q;omega
  refine zd λw8 I _=>?_;have d:=U.trans I;have q8:=h5.ext d;have v8:=h7.ext I;simp only[push_cast,q8.ld4,v8.ldAgg (t:=za) (by rw[zB n];exact zc),k6];have j:t.ks.getD i default∈t.ks:=M.getD_mem oM _;have ad:=d.size;refine ih _ j (n.ext d).term (f2 _ j) λw9 cr o hr=>?_;have q9:=q8.ext o;simp only[push_cast,q9.ld4,k6,gh];have Z:=z00 _ hr;refine x6 y4 yg zm rfl (zB Z) dC λae w10 a9 f aa V=>?_;have R:=q9.ext f;simp only[push_cast,R.ld4,k6,gh];refine grow_push g5 d o oM hr f V (by rw[gm];omega) λQ aq T g11 k a6 a7=>?_;have a8:=R.same k (λe=>by have:=(g5.blk _ e).1;omega)
  try simp only[push_cast,k6]
  refine a8.st (i:=4) a6 a7 xH rfl λr l ab m=>?_;replace m:Blk r b1 [nI t.op,nI t.a,nI t.b,.string t.s,Q] za:=m;rw[inc64' oM];have B:Same (λb=>b=b1\/g.ownBlock=some b) w5 r:=(Same.of_ext (d.trans (o.trans f))).trans ((k.mono λ_ _ h=> .inr h).trans (l.mono λ_ _ h=> .inl h));have Y:Same (λb=>b=b1) S r:=⟨B.os.trans c.os,B.tape.trans c.tape,B.output.trans c.output,gO c.size B.size,λb D O=>(B.block b oM (λe=>e.elim O λe=>by have:=(g5.blk b e).1;omega)).trans (c.block b D O)⟩;rw[XE oM] at g11;exact hC oM _ _ ⟨rfl,Y,Q,_,T,m,Kx g11 l λb D e=>oM⟩
 ·have a0:i=t.ks.length:=oM;subst a0;rw[gG] at g5;rw[h5.ldAgg (t:=za) zc];refine ZX0 (r4.same c oM) rfl (zZ0 g5) (λx hx=>oM) λw6 a4 ao a3=>?_;exact hK _ _ (Ext.then X a4 λy q=>by subst q;omega) (qw a3 λb D=>⟨oM,oM⟩)
@[push_cast] theorem bd_T4 (o a b:Int) (s:ByteArray):yf za [(0,nI o),(1,nI a),(2,nI b),(3,.string s)] w K=K (.agg ⟨[nI o,nI a,nI b,.string s,.slice none 0 0]⟩) w:=zP xL (us:=[[nI o],[nI a],[nI b],[.string s]]) rfl rfl
theorem l3Copy_spec:∀(t:M.Tm) {w:World} {K:oK} {F:Nat->Prop} {v:Value},TermR F w v t->ZD0 t=true->(∀w' cs,Ext w w'->TmO w' (λb=>w.heap.size<=b/\b<w'.heap.size) cs t->K (.agg ⟨cs⟩) w')->vcall WI #[v] w K:=by
 refine M.Tm.ind λt ih w K F v ht D hK=>?_;obtain⟨f1,f2⟩:=fitB_iff.1 D;refine zg {loops:=[(3,[4])]} Tryz.func38 ?_;obtain⟨kv,rfl,G⟩:=ht;refine zl λb1 w1 aa z ae h1=>?_;refine zi zm λb2 w2 ab A af h2=>?_;have ai:=z.size;have S:=h1.ext A;simp only[push_cast,S.ld0,S.ld1,S.ld2,S.ld3];refine zi zm λb3 w3 ac B ag h3=>?_;refine stTerm h3 rfl (Jn t.op t.a t.b t.s:TmR (λ_=>False) w3 _ _) λQ J aj h4=>?_;have q:Ext w1 Q:=Ext.then (A.trans B) J λy L=>by subst L;omega
 have n:=z.trans q;have q4:=h1.ext q;have r4:=(h2.ext B).same J oM;have Z:TmsR (λx=>x<w.heap.size) Q kv t.ks:=(G.weaken λb _ h'=>h').ext n;have ah:=G.small;refine vloop_up t.ks.length (λi u w'=>u=[nI i]/\Same (λb=>b=b3) Q w'/\∃g css Ds,Blk w' b3 [nI t.op,nI t.a,nI t.b,.string t.s,g] za/\Grow Q.heap.size w' g css (t.ks.take i) Ds)
  ⟨rfl,Same.refl _ _,_,[],_,h4,x80 _ _⟩ ?_
 rintro i _ _ w5 C hi ⟨rfl,c,g,css,Ds,h5,g5⟩ hC;have ak:=c.size;have a8:=n.size;have V:Ext w w5:=Ext.then n c λy L=>by subst L;omega
 have E:=Z.same c λb R _ e=>oM
 have q5:=q4.same c oM;simp only[push_cast,q5.ld4,E.len];refine zb (λa=>?_) (λa=>?_)
 ·refine zd λw8 d _=>?_;have q8:=q5.ext d;have p8:=h5.ext d;obtain⟨cks,I,ad,hc⟩:=E.ext d;simp(disch:=exact oS) only[push_cast,q8.ld4,p8.ld4,I.iaddr,I.ldAgg,k6];have j:t.ks.getD i default∈t.ks:=M.getD_mem oM _;have am:=d.size;refine ih _ j (hc i oM).term (f2 _ j) λw9 cr o hr=>?_;have p9:=p8.ext o;simp only[push_cast,p9.ld4,k6,gh];have X:=z00 _ hr;refine x6 y4 yg zm rfl (zB X) dC λa9 w10 a5 f a6 U=>?_;have O:=p9.ext f;simp only[push_cast,O.ld4,k6,gh];refine grow_push g5 d o oM hr f U (by rw[gm];omega) λN an T g11 k a2 a3=>?_;have a4:=O.same k (λe=>by have:=(g5.blk _ e).1;omega)
  try simp only[push_cast,k6]
  refine a4.st (i:=4) a2 a3 xH rfl λp l a7 m=>?_;replace m:Blk p b3 [nI t.op,nI t.a,nI t.b,.string t.s,N] za:=m;rw[inc64' oM];have r:Same (λb=>b=b3\/g.ownBlock=some b) w5 p:=(Same.of_ext (d.trans (o.trans f))).trans ((k.mono λ_ _ h=> .inr h).trans (l.mono λ_ _ h=> .inl h));have W:Same (λb=>b=b3) Q p:=⟨r.os.trans c.os,r.tape.trans c.tape,r.output.trans c.output,gO c.size r.size,λb R H=>(r.block b oM (λe=>e.elim H λe=>by have:=(g5.blk b e).1;omega)).trans (c.block b R H)⟩;rw[XE oM] at g11;exact hC oM _ _ ⟨rfl,W,N,_,T,m,Kx g11 l λb R e=>oM⟩
 ·have Y:i=t.ks.length:=oM;subst Y;rw[gG] at g5;rw[h5.ldAgg (t:=za) zc];refine ZX0 (r4.same c oM) rfl (zZ0 g5) (λx hx=>oM) λw6 a1 al a0=>?_;exact hK _ _ (Ext.then V a1 λy L=>by subst L;omega) (qw a0 λb R=>⟨oM,oM⟩)
theorem fit_size:∀t:M.Tm,M.sizeM t<=1000->ZD0 t=true:=by
 refine M.Tm.ind λt c h=>?_;have b:∀i,i<t.ks.length->M.sizeM (M.kid t i)+1<=M.sizeM t:=λi hi=>(M.kid_size hi).1;have d:t.ks.length<=M.sizeM t:=by
  have:=M.szT_all t;have mono:∀i,i<=t.ks.length->i<=M.szT t.ks i:=λi=>by
   induction i with
   |zero=>intro _;exact gQ _
   |succ i ihi=>
    intro hi;have:=ihi oM;have:=M.szT_succ (ks:=t.ks) (i:=i) oM;have:=(M.size_pos (t:=t.ks.getD i default)).1;omega
  have:=mono t.ks.length (gA _);omega
 refine fitB_iff.2 ⟨oM,λk a=>?_⟩;obtain⟨i,hi,rfl⟩:=gz a;have:=b i hi;unfold M.kid at this;rw[X0,gl hi] at this;exact c _ a (by simp only[Gy] at this;omega)
def Xs (ds:List M.Dcl) (t:M.Tm):M.Tm:=if M.tsort ds t= -1 then .mk 0 0 0 M.nada [] else M.foldT ds t
theorem zeroO:TmO w D Ql (.mk 0 0 0 M.nada []):=
 TmO.mk (t:= .mk 0 0 0 M.nada []) [] (λ_ _=>False) (Own.nil _ _ _ _) rfl (λb h=>(by cases h)) (λi j b _ a=>absurd a (by show¬j<0;omega)) (λi b hi=>absurd hi (by show¬i<0;omega)) (λi hi=>absurd hi (by show¬i<0;omega))
theorem small_of {ds:List M.Dcl} {t:M.Tm} (h:M.tsort ds t≠ -1):M.declOk ds=true/\M.sortM ds t≠ -1/\M.sizeM t<=20:=by
 rcases dtSize (ds:=ds) (t:=t) with e|⟨c,d,f,a,b⟩
 ·exact absurd e h
 ·exact⟨b,oM,(M.fits_iff.1 a).1⟩
theorem jy0 {a:Option Addr} {l c mb:Nat}:yf ya [(0,.slice a l c),(1,.map (some mb))] w K=K (qJ (.slice a l c) mb) w:=zP UP (us:=[[.slice a l c],[.map (some mb)]]) rfl rfl
theorem TermFold_spec {dv tv:Value} {ds:List M.Dcl} {t:M.Tm} (s:DclsR F w dv ds) (C:TermR G w tv t) (m:∀w' cs,Ext w w'->TmO w' (λb=>w.heap.size<=b/\b<w'.heap.size) cs (Xs ds t)->K (.agg ⟨cs⟩) w'):vcall Kl #[dv,tv] w K:=by
 refine zg {} Tryz.func12 ?_;obtain⟨ct,rfl,r⟩:=C.cells;have u:aggB za ct.length=true:=by rw[zB r];exact zc
 refine zl λb1 w1 W n Y U=>?_;refine zi zm λb2 w2 X o Z V=>?_;have R:=U.ext o;have g:=n.trans o;have a1:=n.size;rw[R.ldAgg (t:=za) u];refine TermSort_spec (s.ext g) (C.ext g) λw3 d=>?_;have k:=g.trans d;have T:=V.ext d;have a2:=d.size;simp only[push_cast];unfold Xs at m;refine zb (λa=>?_) (λa=>?_)
 ·rw[Q1 a] at m
  try simp only[push_cast]
  refine ZX0 (G:=λ_=>False) T rfl zeroO (λx N=>N.elim) λw4 D I v=>?_;exact m _ _ (Ext.then k D λy H=>by subst H;omega) (qw v λb J=>J.elim)
 ·rw[q0 a] at m;obtain⟨q,hs,a0⟩:=small_of a;refine zd λw4 e _=>?_;have S:=R.ext (d.trans e);simp only[push_cast,S.ldAgg (t:=za) u,k6];refine W3 λw5 mb f hm=>?_;have q5:=S.ext f;have c:=k.trans (e.trans f);obtain⟨da,dc,rfl,_⟩:=s.shape;rw[K3] at*;simp only[push_cast,q5.ldAgg (t:=za) u,k6,gh,jy0];refine fold_spec t (G:=λx=>x<w.heap.size) (s.ext c) hm q ((C.weaken λb _ h=>h).ext c) hs λw6 rv i B=>?_;have l:=c.trans i;have j:=M.fold_good q t hs;have L:=j.size;refine copyTerm_spec _ B (fit_size _ oM) λw7 cs p z=>?_;have a3:=c.size;have a4:=l.size;have r7:=T.ext (e.trans (f.trans (i.trans p)));have I:=e.size;have O:=f.size;have Q:=i.size;refine ZX0 r7 rfl z (λx N=>oM) λw8 E a5 A=>?_;exact m _ _ (Ext.then (l.trans p) E λy H=>by subst H;omega) (qw A λb J=>⟨oM,oM⟩)
end
end Go.Proofs.YtjkkiaacmedfdaaGreatDoor
namespace Go.M
open Go.Vc
section
section
variable {ds:List Dcl} {t:Tm}
def boolM (b:Bool):Tm:=if b=true then truT else flsT
def logicS (t:Tm):Tm:=
 if t.op=25 then(if(kid t 0).op=25 then kid (kid t 0) 0 else t)
 else if t.op=23 then(if isM (kid t 0) 1=true\/(kid t 1=kid t 2/\¬isM (kid t 0) 0=true) then kid t 1 else if isM (kid t 0) 0=true then kid t 2 else t)
 else if isM (kid t 0) (b2i (decide (t.op=26)))=true\/kid t 0=kid t 1 then kid t 1
 else if isM (kid t 1) (b2i (decide (t.op=26)))=true then kid t 0
 else if isM (kid t 0) (1-b2i (decide (t.op=26)))=true\/isM (kid t 1) (1-b2i (decide (t.op=26)))=true then boolM (decide (b2i (decide (t.op=26))=0)) else t
def rightS (t:Tm):Tm:=
 if t.op=4\/t.op=5\/t.op=6\/t.op=7\/t.op=11\/t.op=12\/t.op=13 then(if isM (kid t 1) 0=true then kid t 0 else t)
 else if t.op=3 then(if isM (kid t 1) 0=true then kid t 1 else t)
 else if t.op=8 then(if isM (kid t 1) 0=true then kid t 1 else if isM (kid t 1) 1=true then kid t 0 else t) else t
def alikeS (t:Tm) (w:Int):Tm:=
 if t.op=3\/t.op=4 then kid t 0 else if t.op=5\/t.op=7 then .mk 20 w 0 nada [] else if t.op=15 then truT else if t.op=16\/t.op=17 then flsT else t
def swapS (t:Tm):Tm:= .mk t.op 0 0 nada [kid t 1,kid t 0]
def otherS (t v:Tm):Prop:=v.ks.length≠2\/kid v 0≠kid t 1\/kid v 1≠kid t 0\/v.op≠t.op
instance (t v:Tm):Decidable (otherS t v):=by unfold otherS;infer_instance
def twoS (t:Tm) (w:Int):Tm:=
 if kid t 0=kid t 1/\alikeS t w≠t then alikeS t w
 else if rightS t≠t then rightS t
 else if(t.op=3\/t.op=4\/t.op=5\/t.op=6\/t.op=8)/\otherS t (rightS (swapS t)) then rightS (swapS t) else t
def oneS (ds:List Dcl) (t:Tm):Tm:=
 if allFixed t=true then(if sortM ds t=0 then boolM (decide (evalM ds (zeroE ds) t=1)) else .mk 20 (sortM ds t) (evalM ds (zeroE ds) t) nada [])
 else if t.ks=[] then t
 else if 23<=t.op then logicS t
 else if t.op=22 then(if sortM ds t=sortM ds (kid t 0) then kid t 0 else t)
 else if t.ks.length=1 then(if(kid t 0).op=t.op then kid (kid t 0) 0 else t)
 else twoS t (sortM ds (kid t 0))
theorem kid_ne {i:Nat} (h:i<t.ks.length):kid t i≠t:=λe=>by
 have:=(kid_size h).1
 grind
theorem X_none (h: ¬allFixed t=true):ruleX ds t=none:=by unfold ruleX;grind
theorem xn0 (a:t.op≠25) (b:t.op≠23):ruleB t=none:=by simp_all[ruleB]
theorem T_none (h: ¬(t.op=26\/t.op=27)):ruleT t=none:=by unfold ruleT;grind
theorem xl0 (a:t.op≠22) (b: ¬(t.op=1\/t.op=2)):ruleL ds t=none:=by simp_all[ruleL]
theorem xk0 (h:t.ks.length≠2):ruleW ds t=none:=by simp_all[ruleW]
theorem S_none (h:t.ks.length≠2):ruleS t=none:=by unfold ruleS;grind
theorem F_none (h:t.ks.length≠2):ruleF t=none:=by unfold ruleF;grind
theorem Qv {α:Type} {b:Option α}:((none:Option α) <|> b)=b:=rfl
theorem or_none {α:Type} {a:Option α}:(a <|> (none:Option α))=a:=by grind
theorem logic_eq (hs:sortM ds t≠ -1) (h: ¬allFixed t=true) (f:23<=t.op) (k:t.ks≠[]):logicS t=oneT ds t:=by
 have m:=len_of hs;have j:0<t.ks.length:=by grind
 have d:=arity_ops (o:=t.op) oM;unfold oneT ruleA;rw[X_none h,Qv];by_cases c:t.op=25
 ·have n:t.ks.length=1:=(by grind [arity]);rw[T_none oM,xl0 oM oM,xk0 oM,S_none oM,F_none oM];simp only[or_none];unfold logicS ruleB
  grind
 by_cases b:t.op=23
 ·have q:t.ks.length=3:=(by grind [arity]);rw[T_none oM,xl0 oM oM,xk0 oM,S_none oM,F_none oM];simp only[or_none];unfold logicS ruleB
  grind
 have o:t.op=26\/t.op=27:=by
  grind [arity]
 have p:t.ks.length=2:=by grind [arity]
 have i:b2i (decide (t.op=26))=neutral t.op:=by
  simp_all[neutral,b2i]
 have a:boolM (decide (neutral t.op=0))=constM 0 (1-neutral t.op):=by
  unfold neutral;rcases o with e|e
  ·rw[Q1 e];rfl
  ·rw[q0 oM];rfl
 rw[xn0 c b,Qv];unfold logicS;rw[q0 c,q0 b,i,a];have tail:ruleT t=none->(ruleL ds t <|> ruleW ds t <|> ruleS t <|> ruleF t)=none:=λg=>by
  have l:kid t 0≠kid t 1:=λe=>by
   grind [ruleT]
  rw[xl0 oM oM];have w:ruleW ds t=none:=(by simp_all[ruleW]);have s:ruleS t=none:=by grind [ruleS]
  grind [ruleF]
 cases g:ruleT t with
 |none=>
  grind [ruleT]
 |some u=>
  have:(some u <|> (ruleL ds t <|> ruleW ds t <|> ruleS t <|> ruleF t))=some u:=rfl
  grind [ruleT]
theorem right_eq (b:t.ks.length=2):(ruleS t=none/\rightS t=t)\/(ruleS t=some (rightS t)/\rightS t≠t):=by
 have k0:=kid_ne (t:=t) (i:=0) oM;have a:=kid_ne (t:=t) (i:=1) oM;unfold ruleS rightS
 grind
theorem other_kid {i:Nat} (hi:i=0\/i=1) (a:t.ks.length=2):otherS t (kid t i):=by
 by_cases h:(kid t i).ks.length=2
 ·rcases hi with rfl|rfl
  ·exact .inr (.inr (.inl (λe=>kid_ne (t:=kid t 0) (i:=1) oM e)))
  ·exact .inr (.inl (λe=>kid_ne (t:=kid t 1) (i:=0) oM e))
 ·exact .inl h
theorem left_eq (a:t.ks.length=2):ruleF t=if(t.op=3\/t.op=4\/t.op=5\/t.op=6\/t.op=8)/\otherS t (rightS (swapS t)) then some (rightS (swapS t)) else none:=by
 have sw:∀i,kid (swapS t) i=[kid t 1,kid t 0].getD i default:=λi=>rfl;have c:kid (swapS t) 0=kid t 1:=rfl;have s1:kid (swapS t) 1=kid t 0:=rfl;have so:(swapS t).op=t.op:=rfl;have self: ¬otherS t (swapS t):=λh=>by
  rcases h with h|h|h|h
  ·exact h rfl
  ·exact h rfl
  ·exact h rfl
  omega
 have k0:=other_kid (t:=t) (i:=0) (.inl rfl) a;have b:=other_kid (t:=t) (i:=1) (.inr rfl) a;unfold ruleF
 grind [rightS]
theorem two_eq (d:declOk ds=true) (hs:sortM ds t≠ -1) (g: ¬allFixed t=true) (b:t.ks.length=2) (e:t.op<22):twoS t (sortM ds (kid t 0))=oneT ds t:=by
 have i:=len_of hs;have j:=arity_two (o:=t.op) oM;have l:3<=t.op/\t.op<=17:=oM
 have ne:∀{u:Tm},u.op=20\/u.op=24\/u.op=25->u≠t:=by grind
 have f:(ruleW ds t=none/\¬(kid t 0=kid t 1/\alikeS t (sortM ds (kid t 0))≠t))\/(ruleW ds t=some (alikeS t (sortM ds (kid t 0)))/\kid t 0=kid t 1/\alikeS t (sortM ds (kid t 0))≠t):=by
  by_cases a:kid t 0=kid t 1
  ·unfold ruleW alikeS;rw[Q1 ⟨b,a⟩];by_cases c1:t.op=3\/t.op=4
   ·grind [kid_ne]
   rw[q0 c1,q0 c1];by_cases c2:t.op=5\/t.op=7
   ·obtain⟨h,_,ev⟩:=bin_parts d hs b oM oM;have k:=vok_lt (ev _ (zeroE_ok d)).1;rw[Q1 c2,Q1 c2,h];refine .inr ⟨?_,a,ne (.inl rfl)⟩;unfold constM
    grind
   rw[q0 c2,q0 c2];by_cases c3:t.op=15
   ·rw[Q1 c3,Q1 c3];exact .inr ⟨rfl,a,ne (.inr (.inl rfl))⟩
   rw[q0 c3,q0 c3];by_cases c:t.op=16\/t.op=17
   ·rw[Q1 c,Q1 c];exact .inr ⟨rfl,a,ne (.inr (.inr rfl))⟩
   grind
  grind [ruleW]
 unfold oneT ruleA;rw[X_none g,xn0 oM oM,T_none oM,xl0 oM oM];simp only[Qv];unfold twoS;rcases f with⟨w1,w2⟩|⟨w1,w2⟩
 ·rw[q0 w2,w1,Qv];rcases right_eq (t:=t) b with⟨s1,s2⟩|⟨s1,s2⟩
  ·grind [left_eq]
  grind
 grind
theorem oneS_eq (l:declOk ds=true) (hs:sortM ds t≠ -1):oneS ds t=oneT ds t:=by
 have r:=len_of hs;unfold oneS;by_cases e:allFixed t=true
 ·have k:=eval_in (zeroE_ok l) t hs;have n:oneT ds t=constM (sortM ds t) (evalM ds (zeroE ds) t):=by
   simp_all[oneT,ruleA,ruleX]
  rw[Q1 e,n];unfold constM boolM;rcases k with h|h
  ·grind
  ·have:=vok_lt h
   grind
 rw[q0 e];by_cases f:t.ks=[]
 ·simp_all[ks0,arity_zero]
 rw[q0 f];have p:0<t.ks.length:=by grind
 by_cases d:23<=t.op
 ·rw[Q1 d];exact logic_eq hs e d f
 rw[q0 d];by_cases c:t.op=22
 ·have j:t.ks.length=1:=(by grind [arity]);have q:=sort_one l (sort_parts hs).1 j;have i:=hs;rw[q] at i;have g:=one_good oM i;have g3:=g.2.2 c;have st:sortM ds t=t.a-t.b+1:=by
   grind [oneM]
  rw[Q1 c];unfold oneT ruleA;rw[X_none e,xn0 oM oM,T_none oM,xk0 oM,S_none oM,F_none oM];simp only[Qv,or_none]
  grind [ruleL]
 rw[q0 c];have m:=arity_ops (o:=t.op) oM;by_cases j:t.ks.length=1
 ·have s:=arity_one (o:=t.op) oM;rw[Q1 j];unfold oneT ruleA;rw[X_none e,xn0 oM oM,T_none oM,xk0 oM,S_none oM,F_none oM];simp only[Qv,or_none]
  grind [ruleL]
 rw[q0 j]
 grind [arity,two_eq]
end
end
end Go.M
namespace Go.Proofs.YtjkkiaacmedfdaaGreatDoor
open Go Go.Vc Go.Proofs
section
variable {w:World} {K:oK} {F D G:Nat->Prop}
def Qb (G:Nat->Prop) (n b4:Nat) (x:Nat):Prop:=(G x/\x<n)\/b4<x
structure RT (G:Nat->Prop) (w0 w:World) (b3 b4:Nat) (kv:Value) (t:M.Tm):Prop where
 ext:Ext w0 w
 q:Blk w b3 [nI t.op,nI t.a,nI t.b,.string t.s,kv] za
 r:Blk w b4 Ql za
 k:TmsR (λx=>G x/\x<w0.heap.size) w kv t.ks
 lo:w0.heap.size<=b4
section
variable {w0 w':World} {b3 b4:Nat} {kv:Value} {t:M.Tm}
theorem yd (h:RT G w0 w b3 b4 kv t) (he:Ext w w'):RT G w0 w' b3 b4 kv t:=⟨h.ext.trans he,h.q.ext he,h.r.ext he,h.k.ext he,h.lo⟩
theorem rt_enter {tv:Value} {B:Value->oK} (q:TermR G w tv t) (l:∀w' b3 b4 kv,RT G w w' b3 b4 kv t->B (ptr b3) (ptr b4) w'):
  UZ za tv w λt3 e=>ql za e λt4 f=>B t3 t4 f:=by
 obtain⟨kv,rfl,d⟩:=q;refine zl λb2 w2 m c o j=>?_;refine zi zm λb3 w3 n a p k=>?_;have g:=c.trans a;exact l _ _ _ kv ⟨g,j.ext a,k,(d.weaken λb h i=>⟨h,i⟩).ext g,oM⟩
abbrev ZQ0 (K:oK) (w:World) (G:Nat->Prop) (u:M.Tm):Prop:=∀w' rv,Ext w w'->TermR (λx=>G x\/w.heap.size<=x) w' rv u->K rv w'
theorem rt_give (h:RT G w0 w b3 b4 kv t) {rv:Value} {u:M.Tm} (hu:TermR (Qb G w0.heap.size b4) w rv u) (e:ZQ0 K w0 G u):
  zS za (ptr b4) rv w λ_ w1=>vlv za (ptr b4) w1 λr w2=>K r w2:=by
 obtain⟨cs,rfl,a⟩:=hu.cells;have f:=h.lo;refine xE h.r rfl a (λx d=>by rcases d with h|h<;>omega) λw3 c i b=>?_;exact e _ _ (Ext.then h.ext c λy g=>by subst g;exact h.lo) (b.weaken λx d _=>by
  rcases d with h|h
  ·exact .inl h.1
  ·exact .inr oM)
theorem qo {n:Nat} {rv:Value} {u:M.Tm} (hu:TermR (λx=>G x/\x<n) w' rv u):TermR (Qb G n b4) w' rv u:=hu.weaken λx a _=> .inl a
theorem rt_new (h:RT G w0 w b3 b4 kv t) {rv:Value} {u:M.Tm} (hu:TermR (λx=>w.heap.size<=x) w' rv u):TermR (Qb G w0.heap.size b4) w' rv u:=hu.weaken λx a _=> .inr (by have:=h.r.lt;omega)
theorem xU (h:RT G w0 w b3 b4 kv t):TermR (λx=>G x/\x<w0.heap.size) w (.agg ⟨[nI t.op,nI t.a,nI t.b,.string t.s,kv]⟩) t:=⟨kv,rfl,h.k⟩
end
theorem spec_TermSame_spec:∀(t:M.Tm) {w:World} {K:oK} {F G:Nat->Prop} {va vb:Value} {u:M.Tm},TermR F w va t->TermR G w vb u->(∀w',Ext w w'->K (.bool (decide (t=u))) w')->vcall K6 #[va,vb] w K:=by
 refine M.Tm.ind λt Y w K F G va vb u Q R L=>?_;refine zg {loops:=[(4,[5])],cuts:=[(8195,[])]} Tryz.func143 ?_;obtain⟨kva,rfl,f⟩:=Q;obtain⟨kvb,rfl,v⟩:=R;refine zl λb1 w1 S D V z=>?_;refine zl λb2 w2 T q W k=>?_;have p:=z.ext q;have l:=D.trans q;have no:∀w',Ext w w'->t≠u->K (.bool false) w':=λw' h U=>by
  have:=L w' h;rwa[gi U] at this
 refine zp (λx w'=>x=[]/\w'=w2/\t.op=u.op/\t.a=u.a/\t.b=u.b/\t.s=u.s/\t.ks.length=u.ks.length) (λC A=>?_) ?_
 ·simp only[push_cast,p.ld0,k.ld0,p.ld1,k.ld1,p.ld2,k.ld2,p.ld3,k.ld3,p.ld4,k.ld4,(f.ext l).len,(v.ext l).len];refine zb (λe=>no _ l λh=>e (by rw[h])) (λH=>?_);refine zb (λe=>no _ l λh=>e (by rw[h])) (λI=>?_);refine zb (λe=>no _ l λh=>e (by rw[h])) (λJ=>?_);refine zb (λe=>no _ l λh=>e (by rw[h])) (λy=>?_);refine zb (λe=>no _ l λh=>e (by rw[h])) (λe5=>?_);exact A _ _ ⟨rfl,rfl,oM,oM,oM,by simpa using y,oM⟩
 rintro x g E ⟨rfl,rfl,H,I,J,y,el⟩;have X:=f.small;refine vloop_up t.ks.length (λi x w'=>x=[nI i]/\Ext E w'/\∀j,j<i->t.ks.getD j default=u.ks.getD j default) ⟨rfl,Same.refl _ _,λj N=>absurd N oM⟩ ?_;rintro i _ _ w3 C hi ⟨rfl,c,m⟩ A;have n:=l.trans c;have B:=f.ext n;have O:=p.ext c;simp(disch:=exact oS) only[push_cast,O.ld4,B.len];refine zb (λa=>?_) (λa=>?_)
 ·refine zd λw4 d _=>?_;have o:=n.trans d;have Z:=O.ext d;have r4:=k.ext (c.trans d);obtain⟨ca,sa,la,ka⟩:=f.ext o;obtain⟨cb,sb,lb,kb⟩:=v.ext o;simp(disch:=exact oS) only[push_cast,Z.ld4,r4.ld4,sa.iaddr,sa.ldAgg,sb.iaddr,sb.ldAgg,k6];refine Y _ (M.getD_mem oM _) (ka i oM).term (kb i oM).term λw8 r=>?_;simp only[push_cast,k6];refine zo (λb=>?_) (λb=>?_)
  ·rw[gS,decide_eq_false_iff_not] at b;exact no _ (o.trans r) λh=>b (by rw[h])
  ·rw[Gi,V0] at b;rw[inc64' oM];refine A oM _ _ ⟨rfl,c.trans (d.trans r),λj N=>?_⟩;by_cases e:j<i
   ·exact m j e
   ·have:j=i:=oM;subst this;exact b
 ·have:t=u:=M.tm_ext H I J y (Gf el λj z k=>by
   have:=m j oM;rwa[X0,gl z,X0,gl k] at this)
  have:=L w3 n;rwa[gk ‹t=u›] at this
theorem l3False_spec (i:∀w' v,Ext w w'->TermR (λb=>w.heap.size<=b) w' v M.flsT->K v w'):vcall Vb #[] w K:=by
 refine zg {} Tryz.func101 ?_;refine zi zm λb1 w1 k d m g=>?_;simp only[push_cast];refine zS0 (Z2 (o:=24) (F:=λ_=>False)) λw2 a c n u=>?_;simp only[push_cast];have l:TmR (λb=>b≠b1/\w.heap.size<=b) w2 _ M.flsT:=(TmR.of (t:=M.flsT) u).weaken λz r _=>by
  rcases r with h|h
  ·exact h.elim
  ·exact⟨oM,oM⟩
 refine xE (g.ext c) rfl l (λx p=>p.1) λw3 f s e=>?_;exact i _ _ (Ext.then (d.trans c) f λy q=>by subst q;omega) (e.weaken λb j _=>j.2)
theorem l3Bool_spec {b:Bool} (l:∀w' v,Ext w w'->TermR (λb=>w.heap.size<=b) w' v (M.boolM b)->K v w'):vcall WJ #[.bool b] w K:=by
 refine zg {} Tryz.func106 ?_;refine zi zm λb1 w1 o c p k=>?_;refine zo (λa=>?_) (λa=>?_)
 ·subst a;simp only[push_cast];refine xE k rfl (Jn 24 0 0 _:TmR (λ_=>False) w1 _ _) (λx n=>n.elim) λw3 e j d=>?_;exact l _ _ (Ext.then c e λy i=>by subst i;omega) (d.weaken λb m _=>m.elim)
 ·subst a;refine l3False_spec λw2 v f h=>?_;obtain⟨cs,rfl,g⟩:=h.cells;refine xE (k.ext f) rfl g (λx n=>oM) λw3 e j d=>?_;exact l _ _ (Ext.then (c.trans f) e λy i=>by subst i;omega) (d.weaken λb m _=>by have:=c.size;omega)
@[push_cast] theorem bd_T2 (o a:Int):yf za [(0,nI o),(1,nI a)] w K=K (.agg ⟨[nI o,nI a,nI 0,.string ⟨#[]⟩,.slice none 0 0]⟩) w:=zP xL (us:=[[nI o],[nI a]]) rfl rfl
theorem l3Zero_spec {s:Int} (f:∀w' v,Ext w w'->TermR (λb=>w.heap.size<=b) w' v (.mk 20 s 0 M.nada [])->K v w'):vcall WE #[nI s] w K:=by
 refine zg {} Tryz.func102 ?_;refine zi zm λb1 w1 h a i e=>?_;simp only[push_cast];refine xE e rfl (Jn 20 s 0 _:TmR (λ_=>False) w1 _ _) (λx j=>j.elim) λw3 d l c=>?_;exact f _ _ (Ext.then a d λy k=>by subst k;omega) (c.weaken λb g _=>g.elim)
theorem jO {v:Value} {t:M.Tm} (B:TermR F w v t) (G:∀w',Ext w w'->K (.tuple #[nI ((M.fixedM t).getD 0),.bool (M.fixedM t).isSome]) w'):vcall Jg #[v] w K:=by
 refine zg {} Tryz.func140 ?_;have r:=B;obtain⟨kv,rfl,y⟩:=B;refine zl λb1 w1 H m J A=>?_;have out:∀w' o,Ext w w'->M.fixedM t=o->K (.tuple #[nI (o.getD 0),.bool o.isSome]) w':=λw' o h e=>by rw[<-e];exact G w' h
 rw[A.ldAgg (t:=za) zc];simp only[push_cast];refine spec_TermSame_spec t (r.ext m) (Z2 (o:=24) (F:=λ_=>False)) λw3 n=>?_;have k:=m.trans n;refine zb (λd=>?_) (λd=>?_)
 ·exact out w3 (some 1) k (Q1 d)
 have z: ¬t=M.truT:=d;refine zd λQ p _=>?_;have l:=k.trans p;have C:=A.ext (n.trans p);simp only[push_cast,C.ldAgg (t:=za) zc,k6];refine l3False_spec λR fv g x=>?_;have D:=C.ext g;simp only[push_cast,D.ldAgg (t:=za) zc,k6,gh];refine spec_TermSame_spec t (r.ext (l.trans g)) x λN q=>?_;have c:=l.trans (g.trans q);have j:=D.ext q;refine zb (λf=>?_) (λf=>?_)
 ·refine out N (some 0) c ?_;unfold M.fixedM;rw[q0 z,Q1 f]
 have E: ¬t=M.flsT:=f;have no:∀w',Ext w w'->¬(t.op=20/\t.ks=[]/\t.s=M.nada/\M.vok t.a t.b=true)->K (.tuple #[nI 0,.bool false]) w':=λw' h I=>out w' none h (by unfold M.fixedM;rw[q0 z,q0 E,q0 I]);simp only[push_cast,j.ld0];refine zb (λc1=>?_) (λc1=>no _ c λh=>c1 h.1);simp only[push_cast,j.ld4,(y.ext c).len];refine zb (λc2=>?_) (λc2=>no _ c λh=>c2 (nil_len.2 h.2.1))
 try simp only[push_cast,j.ld3]
 refine zb (λc3=>?_) (λc3=>no _ c λh=>c3 h.2.2.1)
 try simp only[push_cast,j.ld1,j.ld2]
 refine spec_VecOk_spec λO i=>?_;have L:=j.ext i;refine zo (λu=>?_) (λu=>no _ (c.trans i) λh=>by rw[h.2.2.2] at u;cases u);simp only[push_cast,L.ld2];refine out O (some t.b) (c.trans i) ?_;rw[y10 c1,Q1 ⟨nil_len.1 c2,c3,u⟩]
theorem qg {v:Value} {t:M.Tm} {n:Int} (i:TermR F w v t) (f:∀w',Ext w w'->K (.bool (M.isM t n)) w'):vcall yy0 #[v,nI n] w K:=by
 refine zg {} Tryz.func142 ?_;obtain⟨cs,rfl,a⟩:=i.cells;refine zl λb1 w1 g b h d=>?_;rw[d.ldAgg (t:=za) (by rw[zB a];exact zc)];refine jO (a.ext b).term λw2 c=>?_;have:=f w2 (b.trans c);unfold M.isM at this;simp only[push_cast];cases e:M.fixedM t with
 |none=>rw[e] at this;exact this
 |some m=>
  rw[e] at this;simp only[Gw] at this;exact this
theorem l3All_spec {v:Value} {t:M.Tm} (G:TermR F w v t) (q:∀w',Ext w w'->K (.bool (M.allFixed t)) w'):vcall zx0 #[v] w K:=by
 refine zg {loops:=[(2,[3])]} Tryz.func104 ?_;obtain⟨kv,rfl,n⟩:=G;refine zl λb1 w1 A p D s=>?_;have E:=n.small;refine vloop_up t.ks.length (λi u w'=>u=[nI i]/\Ext w1 w'/\∀j,j<i->(M.fixedM (t.ks.getD j default)).isSome=true) ⟨rfl,Same.refl _ _,λj o=>absurd o oM⟩ ?_;rintro i _ _ w3 C hi ⟨rfl,g,d⟩ y;have f:=p.trans g;have r:=s.ext g;have a:=n.ext f;simp only[push_cast,r.ld4,a.len];refine zb (λb=>?_) (λb=>?_)
 ·simp(disch:=exact oS) only[push_cast,a.iaddr];refine a.load zc oM λx H=>?_;refine jO H λI m=>?_;simp only[push_cast];refine zo (λc=>?_) (λc=>?_)
  ·rw[gS] at c;have:M.allFixed t=false:=by
    unfold M.allFixed;rw[GL];right;rw[List.all_eq_false];exact⟨_,M.getD_mem (l:=t.ks) (i:=i) oM default,by rw[c];decide⟩
   have h:=q I (f.trans m);rwa[this] at h
  ·rw[Gi] at c;rw[inc64' oM];refine y oM _ _ ⟨rfl,g.trans m,λj o=>?_⟩;by_cases e:j<i
   ·exact d j e
   ·have:j=i:=oM;subst this;exact c
 ·try simp only[push_cast,r.ld4,a.len]
  have:M.allFixed t=decide (0<(t.ks.length:Int)):=by
   unfold M.allFixed;have z:(t.ks.all λk=>(M.fixedM k).isSome)=true:=by
    rw[Gb];intro k B;obtain⟨j,o,rfl⟩:=gz B;have:=d j oM;rwa[X0,gl o] at this
   rw[z,Pw];have e:(t.ks≠[])↔0<(t.ks.length:Int):=by rw[<-GB];omega
   exact decide_eq_decide.2 e
  have h:=q w3 f;rwa[this] at h
theorem l3Right_spec {v:Value} {t:M.Tm} (ht:TermR G w v t) (h2:t.ks.length=2) (m:ZQ0 K w G (M.rightS t)):vcall V9 #[v] w K:=by
 refine zg {cuts:=[(20491,[15])]} Tryz.func145 ?_;refine rt_enter (B:=λt3 t4 a7=>_) ht λw1 b3 b4 kv rs=>?_;simp(disch:=exact oS) only[push_cast,rs.q.ld4,rs.k.iaddr];refine rs.k.load zc oM λx hx=>?_;obtain⟨c,rfl,R⟩:=hx.cells;refine zi zm λb5 w2 a0 F a2 h5=>?_;refine stTerm h5 rfl (R.ext F) λw3 S a4 Q=>?_;have C:Ext w1 w3:=Ext.then F S λy I=>by subst I;omega
 have N:=yd rs C;simp(disch:=exact oS) only[push_cast,N.q.ld4,N.k.iaddr];refine N.k.load zc oM λy I=>?_;obtain⟨c',rfl,s⟩:=I.cells;refine zi zm λb6 Y a1 H a3 h6=>?_;refine stTerm h6 rfl (s.ext H) λO T a5 l=>?_;have n:Ext w3 O:=Ext.then H T λy I=>by subst I;omega
 have J:=yd N n;have V:=Q.ext n;have gc:aggB za c.length=true:=by rw[zB R];exact zc
 have f:aggB za c'.length=true:=by rw[zB s];exact zc
 have E:TmR (λx=>G x/\x<w.heap.size) O c (M.kid t 0):=R.ext (C.trans n);have d:TmR (λx=>G x/\x<w.heap.size) O c' (M.kid t 1):=s.ext n;simp only[push_cast,J.q.ld0];refine zp (λu w'=> ∃b:Bool,u=[.bool b]/\w'=O/\(b=true↔t.op=4\/t.op=5\/t.op=6\/t.op=7\/t.op=11\/t.op=12\/t.op=13)) (λD hD=>?_) ?_
 ·try simp only[push_cast]
  refine zb (λc=>hD _ _ ⟨_,rfl,rfl,⟨λ_=>oM,λ_=>by rw[V0];exact c⟩⟩) (λc1=>?_);refine zb (λc=>hD _ _ ⟨_,rfl,rfl,⟨λ_=>oM,λ_=>by rw[V0];exact c⟩⟩) (λc2=>?_);refine zb (λc=>hD _ _ ⟨_,rfl,rfl,⟨λ_=>oM,λ_=>by rw[V0];exact c⟩⟩) (λc3=>?_);refine zb (λc=>hD _ _ ⟨_,rfl,rfl,⟨λ_=>oM,λ_=>by rw[V0];exact c⟩⟩) (λc4=>?_);refine zb (λc=>hD _ _ ⟨_,rfl,rfl,⟨λ_=>oM,λ_=>by rw[V0];exact c⟩⟩) (λc5=>?_);refine zb (λc=>hD _ _ ⟨_,rfl,rfl,⟨λ_=>oM,λ_=>by rw[V0];exact c⟩⟩) (λc6=>?_);exact hD _ _ ⟨_,rfl,rfl,⟨λh=>by rw[V0] at h;omega,λh=>by rw[V0];omega⟩⟩
 rintro u g a6 ⟨b,rfl,rfl,W⟩;simp only[push_cast];have self:∀{w'},RT G w w' b3 b4 kv t->M.rightS t=t->zt za (ptr b3) w' λr w2=>zS za (ptr b4) r w2 λ_ w3=>vlv za (ptr b4) w3 λr Y=>K r Y:=λ{w'} h e=>by
  rw[h.q.ldAgg (t:=za) zc];rw[e] at m;exact rt_give h (qo (xU h)) m
 refine zo (λo=>?_) (λo=>?_)
 ·have o4:=W.1 o;rw[l.ldAgg (t:=za) f];refine qg d.term λZ a=>?_;have p:=yd J a;have e:M.rightS t=if M.isM (M.kid t 1) 0=true then M.kid t 0 else t:=by unfold M.rightS;rw[Q1 o4]
  refine zo (λi=>?_) (λi=>?_)
  ·rw[(V.ext a).ldAgg (t:=za) gc];rw[e,Q1 i] at m;exact rt_give p (qo (E.ext a).term) m
  ·exact self p (by rw[e,i];rfl)
 have A: ¬(t.op=4\/t.op=5\/t.op=6\/t.op=7\/t.op=11\/t.op=12\/t.op=13):=λh=>by have:=W.2 h;rw[o] at this;cases this
 try simp only[push_cast]
 refine zb (λL=>?_) (λL=>?_)
 ·rw[l.ldAgg (t:=za) f];refine qg d.term λZ a=>?_;have p:=yd J a;have e:M.rightS t=if M.isM (M.kid t 1) 0=true then M.kid t 1 else t:=by unfold M.rightS;rw[q0 A,Q1 L]
  refine zo (λi=>?_) (λi=>?_)
  ·rw[(l.ext a).ldAgg (t:=za) f];rw[e,Q1 i] at m;exact rt_give p (qo (d.ext a).term) m
  ·exact self p (by rw[e,i];rfl)
 try simp only[push_cast]
 refine zb (λU=>?_) (λU=>?_)
 ·rw[l.ldAgg (t:=za) f];refine qg d.term λZ a=>?_;have p:=yd J a;have e:M.rightS t=if M.isM (M.kid t 1) 0=true then M.kid t 1 else if M.isM (M.kid t 1) 1=true then M.kid t 0 else t:=by unfold M.rightS;rw[q0 A,q0 L,Q1 U]
  refine zo (λi=>?_) (λi=>?_)
  ·rw[(l.ext a).ldAgg (t:=za) f];rw[e,Q1 i] at m;exact rt_give p (qo (d.ext a).term) m
  ·rw[(l.ext a).ldAgg (t:=za) f];refine qg (d.ext a).term λw7 z=>?_;have X:=yd p z;refine zo (λj=>?_) (λj=>?_)
   ·rw[(V.ext (a.trans z)).ldAgg (t:=za) gc];rw[e,i,q0 dC,Q1 j] at m;exact rt_give X (qo (E.ext (a.trans z)).term) m
   ·exact self X (by rw[e,i,j];rfl)
 ·exact self J (by unfold M.rightS;rw[q0 A,q0 L,q0 U])
theorem l3Alike_spec {v:Value} {t:M.Tm} {s:Int} (A:TermR G w v t) (H:t.ks.length=2) (i:ZQ0 K w G (M.alikeS t s)):vcall Vd #[v,nI s] w K:=by
 refine zg {cuts:=[(12292,[7]),(24583,[14])]} Tryz.func144 ?_;refine rt_enter (B:=λt3 t4 E=>_) A λw1 b3 b4 kv rs=>?_;simp only[push_cast,rs.q.ld0];refine zp (λu w'=> ∃b:Bool,u=[.bool b]/\w'=w1/\(b=true↔t.op=3\/t.op=4)) (λD hD=>?_) ?_
 ·try simp only[push_cast]
  refine zb (λc=>hD _ _ ⟨_,rfl,rfl,⟨λ_=>oM,λ_=>by rw[V0];exact c⟩⟩) (λc1=>?_);exact hD _ _ ⟨_,rfl,rfl,⟨λh=>by rw[V0] at h;omega,λh=>by rw[V0];omega⟩⟩
 rintro u g r ⟨b,rfl,rfl,y⟩;simp only[push_cast];refine zo (λo=>?_) (λo=>?_)
 ·simp(disch:=exact oS) only[push_cast,rs.q.ld4,rs.k.iaddr];refine rs.k.load zc oM λx C=>?_;have e:M.alikeS t s=M.kid t 0:=by unfold M.alikeS;rw[Q1 (y.1 o)]
  rw[e] at i;exact rt_give rs (qo C) i
 have n: ¬(t.op=3\/t.op=4):=λh=>by have:=y.2 h;rw[o] at this;cases this
 refine zp (λu w'=> ∃b:Bool,u=[.bool b]/\w'=r/\(b=true↔t.op=5\/t.op=7)) (λD hD=>?_) ?_
 ·try simp only[push_cast]
  refine zb (λc=>hD _ _ ⟨_,rfl,rfl,⟨λ_=>oM,λ_=>by rw[V0];exact c⟩⟩) (λc1=>?_);exact hD _ _ ⟨_,rfl,rfl,⟨λh=>by rw[V0] at h;omega,λh=>by rw[V0];omega⟩⟩
 rintro I g2 z ⟨F,rfl,rfl,m⟩;simp only[push_cast];refine zo (λo=>?_) (λo=>?_)
 ·have e:M.alikeS t s= .mk 20 s 0 M.nada []:=by unfold M.alikeS;rw[q0 n,Q1 (m.1 o)]
  rw[e] at i;refine l3Zero_spec λw2 v2 a d=>?_;exact rt_give (yd rs a) (rt_new rs d) i
 have p: ¬(t.op=5\/t.op=7):=λh=>by have:=m.2 h;rw[o] at this;cases this
 try simp only[push_cast]
 refine zb (λj=>?_) (λj=>?_)
 ·have e:M.alikeS t s=M.boolM true:=by unfold M.alikeS;rw[q0 n,q0 p,Q1 j];rfl
  rw[e] at i;refine l3Bool_spec λw2 v2 a d=>?_;exact rt_give (yd rs a) (rt_new rs d) i
 by_cases l:t.op=16
 ·have e:M.alikeS t s=M.boolM false:=by unfold M.alikeS;rw[q0 n,q0 p,q0 j,Q1 (.inl l)];rfl
  rw[e] at i;simp only[l,decide_true,push_cast];refine l3Bool_spec λw2 v2 a d=>?_;exact rt_give (yd rs a) (rt_new rs d) i
 ·simp only[l,decide_false,push_cast];refine zb (λf=>?_) (λf=>?_)
  ·have e:M.alikeS t s=M.boolM false:=by unfold M.alikeS;rw[q0 n,q0 p,q0 j,Q1 (.inr f)];rfl
   rw[e] at i;refine l3Bool_spec λw2 v2 a d=>?_;exact rt_give (yd rs a) (rt_new rs d) i
  ·have e:M.alikeS t s=t:=by unfold M.alikeS;rw[q0 n,q0 p,q0 j,q0 oM]
   rw[e] at i;rw[rs.q.ldAgg (t:=za) zc];exact rt_give rs (qo (xU rs)) i
end
section
variable {w:World} {K:oK} {F F' D G:Nat->Prop}
theorem l3Logic_spec {v:Value} {t:M.Tm} {ds:List M.Dcl} (ht:TermR G w v t) (hs:M.sortM ds t≠ -1) (ag:23<=t.op) (a8:t.ks≠[]) (f:ZQ0 K w G (M.logicS t)):vcall Va #[v] w K:=by
 have hlen:=M.len_of hs;have am:0<t.ks.length:=GB.2 a8;have ae:=M.arity_ops (o:=t.op) oM;have ad:t.op=25->t.ks.length=1:=λh=>by rw[h] at hlen;simp[M.arity] at hlen;omega
 have ac:t.op=23->t.ks.length=3:=λh=>by rw[h] at hlen;simp[M.arity] at hlen;omega
 refine zg {cuts:=[(36874,[]),(65552,[61])]} Tryz.func107 ?_;refine rt_enter (B:=λt3 t4 au=>_) ht λw1 b3 b4 kv rs=>?_;simp(disch:=exact oS) only[push_cast,rs.q.ld4,rs.k.iaddr];refine rs.k.load zc oM λx hx=>?_;obtain⟨c,rfl,hc⟩:=hx.cells;have gc:aggB za c.length=true:=by rw[zB hc];exact zc
 refine zi zm λb5 w2 ah a2 an h5=>?_;refine stTerm h5 rfl (hc.ext a2) λw3 aa ap H=>?_;have Y:Ext w1 w3:=Ext.then a2 aa λy T=>by subst T;omega
 have J:=yd rs Y;have Q:TmR (λx=>G x/\x<w.heap.size) w3 c (M.kid t 0):=hc.ext Y;simp only[push_cast,J.q.ld0];refine zb (λA=>?_) (λA=>?_)
 ·obtain⟨ar,rfl,a5⟩:=Q.inv;simp only[push_cast,H.ld0];refine zb (λd=>?_) (λd=>?_)
  ·have k0:=M.good_kid hs (i:=0) (by have:=ad A;omega);have aj:(M.kid t 0).ks.length=1:=by have:=M.len_of k0;rw[d] at this;simp[M.arity] at this;omega
   simp(disch:=exact oS) only[push_cast,H.ld4,a5.iaddr];refine a5.load zc oM λy T=>?_;have e:M.logicS t=M.kid (M.kid t 0) 0:=by unfold M.logicS;rw[Q1 A,Q1 d]
   rw[e] at f;exact rt_give J (qo T) f
  ·have e:M.logicS t=t:=by unfold M.logicS;rw[Q1 A,q0 d]
   rw[e] at f;rw[J.q.ldAgg (t:=za) zc];exact rt_give J (qo (xU J)) f
 try simp only[push_cast]
 refine zb (λU=>?_) (λU=>?_)
 ·have ak:=ac U;have E:M.logicS t=if M.isM (M.kid t 0) 1=true\/(M.kid t 1=M.kid t 2/\¬M.isM (M.kid t 0) 0=true) then M.kid t 1 else if M.isM (M.kid t 0) 0=true then M.kid t 2 else t:=by unfold M.logicS;rw[q0 A,Q1 U]
  have F:∀{w'},RT G w w' b3 b4 kv t->(M.isM (M.kid t 0) 1=true\/(M.kid t 1=M.kid t 2/\¬M.isM (M.kid t 0) 0=true))->∀x,TermR (λx=>G x/\x<w.heap.size) w' x (M.kid t 1)->zS za (ptr b4) x w' λ_ w1=>vlv za (ptr b4) w1 λr w2=>K r w2:=λh hc x hx=>by
   rw[E,Q1 hc] at f;exact rt_give h (qo hx) f
  refine zp (λu w'=>u=[]/\Ext w3 w'/\¬(M.isM (M.kid t 0) 1=true\/(M.kid t 1=M.kid t 2/\¬M.isM (M.kid t 0) 0=true))) (λC hC=>?_) ?_
  ·refine zd λw4 b _=>?_;have r4:=yd J b;have A4:=H.ext b;have a0:=Q.ext b;simp only[push_cast,A4.ldAgg (t:=za) gc,k6];refine qg a0.term λw5 p=>?_;have n:=yd r4 p;obtain⟨cks,I,al,S⟩:=n.k;refine zo (λi=>?_) (λi=>?_)
   ·simp(disch:=exact oS) only[push_cast,n.q.ld4,I.iaddr,I.ldAgg];exact F n (.inl i) _ (S 1 oM).term
   ·simp(disch:=exact oS) only[push_cast,n.q.ld4,I.iaddr,I.ldAgg,k6];refine spec_TermSame_spec _ (S 1 oM).term (S 2 oM).term λw6 a=>?_;have r6:=yd n a;refine zb (λs=>?_) (λs=>?_)
    ·have A6:=A4.ext (p.trans a);simp only[push_cast,A6.ldAgg (t:=za) gc,k6];refine qg (a0.ext (p.trans a)).term λw7 m=>?_;have r7:=yd r6 m;have s7:=I.ext (a.trans m);simp only[push_cast,k6];refine zo (λj=>?_) (λj=>?_)
     ·rw[gS] at j;simp(disch:=exact oS) only[push_cast,r7.q.ld4,s7.iaddr,s7.ldAgg];exact F r7 (.inr ⟨s,by rw[j];decide⟩) _ ((S 1 oM).ext (a.trans m)).term
     ·rw[Gi] at j;exact hC _ _ ⟨rfl,b.trans (p.trans (a.trans m)),λh=>h.elim (λh=>by rw[i] at h;cases h) λh=>h.2 j⟩
    ·exact hC _ _ ⟨rfl,b.trans (p.trans a),λh=>h.elim (λh=>by rw[i] at h;cases h) λh=>s h.1⟩
  rintro u g w4 ⟨rfl,b,hn⟩;have r4:=yd J b;rw[(H.ext b).ldAgg (t:=za) gc];refine qg (Q.ext b).term λw5 p=>?_;have n:=yd r4 p;refine zo (λi=>?_) (λi=>?_)
  ·simp(disch:=exact oS) only[push_cast,n.q.ld4,n.k.iaddr];refine n.k.load zc oM λy T=>?_;rw[E,q0 hn,Q1 i] at f;exact rt_give n (qo T) f
  ·rw[E,q0 hn,i,q0 dC] at f;rw[n.q.ldAgg (t:=za) zc];exact rt_give n (qo (xU n)) f
 have o:t.op=26\/t.op=27:=by
  unfold M.arity at hlen
  repeat' split at hlen
  all_goals omega
 have l2:t.ks.length=2:=by rcases o with e|e<;>rw[e] at hlen<;>simp[M.arity] at hlen<;>omega
 simp(disch:=exact oS) only[push_cast,J.q.ld4,J.k.iaddr];refine J.k.load zc oM λy T=>?_;obtain⟨c',rfl,W⟩:=T.cells;have N:aggB za c'.length=true:=by rw[zB W];exact zc
 refine zi zm λb6 w4 ai b ao h6=>?_;refine stTerm h6 rfl (W.ext b) λw5 ab aq O=>?_;have L:Ext w3 w5:=Ext.then b ab λy T=>by subst T;omega
 have n:=yd J L;have A5:=H.ext L;have R:=Q.ext L;have z:TmR (λx=>G x/\x<w.heap.size) w5 c' (M.kid t 1):=W.ext L;simp only[push_cast,n.q.ld0];refine Xq ?_;generalize V:M.b2i (decide (t.op=26))=one;have af:one=0\/one=1:=by rw[<-V];unfold M.b2i;split<;>omega
 have E:M.logicS t=if M.isM (M.kid t 0) one=true\/M.kid t 0=M.kid t 1 then M.kid t 1 else if M.isM (M.kid t 1) one=true then M.kid t 0 else if M.isM (M.kid t 0) (1-one)=true\/M.isM (M.kid t 1) (1-one)=true then M.boolM (decide (one=0)) else t:=by
  unfold M.logicS;rw[q0 A,q0 U,V]
 refine zp (λu w'=> ∃e:Bool,u=[.bool e]/\Ext w5 w'/\(e=true↔M.isM (M.kid t 0) one=true\/M.kid t 0=M.kid t 1)) (λC hC=>?_) ?_
 ·rw[A5.ldAgg (t:=za) gc];refine qg R.term λw6 a=>?_;refine zo (λi=>?_) (λi=>?_)
  ·exact hC _ _ ⟨true,rfl,a,⟨λ_=> .inl i,λ_=>rfl⟩⟩
  ·try simp only[push_cast]
   rw[(A5.ext a).ldAgg (t:=za) gc,(O.ext a).ldAgg (t:=za) N];refine spec_TermSame_spec _ (R.ext a).term (z.ext a).term λw7 m=>?_;refine hC _ _ ⟨_,rfl,a.trans m,?_⟩;rw[V0];exact⟨.inr,λh=>h.elim (λx=>by rw[i] at x;cases x) id⟩
 rintro u g w6 ⟨e,rfl,a,a4⟩;have r6:=yd n a;simp only[push_cast];refine zo (λi=>?_) (λi=>?_)
 ·rw[(O.ext a).ldAgg (t:=za) N];rw[E,Q1 (a4.1 i)] at f;exact rt_give r6 (qo (z.ext a).term) f
 have n1: ¬(M.isM (M.kid t 0) one=true\/M.kid t 0=M.kid t 1):=λh=>by have:=a4.2 h;rw[i] at this;cases this
 rw[(O.ext a).ldAgg (t:=za) N];refine qg (z.ext a).term λw7 m=>?_;have r7:=yd r6 m;have D:=a.trans m;refine zo (λj=>?_) (λj=>?_)
 ·rw[(A5.ext D).ldAgg (t:=za) gc];rw[E,q0 n1,Q1 j] at f;exact rt_give r7 (qo (R.ext D).term) f
 have n2: ¬M.isM (M.kid t 1) one=true:=by rw[j];decide
 have a7:IntKind.i64.wrap (1-one)=1-one:=zk oM oM;rw[(A5.ext D).ldAgg (t:=za) gc];simp only[push_cast,a7];refine qg (R.ext D).term λw8 a3=>?_;have r8:=yd r7 a3;refine zo (λk=>?_) (λk=>?_)
 ·try simp only[push_cast]
  refine l3Bool_spec λw9 v9 X a9=>?_;rw[E,q0 n1,q0 n2,Q1 (.inl k)] at f;exact rt_give (yd r8 X) (rt_new r8 a9) f
 have Z:=D.trans a3;rw[(O.ext Z).ldAgg (t:=za) N]
 try simp only[push_cast,a7]
 refine qg (z.ext Z).term λw9 X=>?_;have r9:=yd r8 X;refine zo (λl=>?_) (λl=>?_)
 ·try simp only[push_cast]
  refine l3Bool_spec λw10 v10 a1 a6=>?_;rw[E,q0 n1,q0 n2,Q1 (.inr l)] at f;exact rt_give (yd r9 a1) (rt_new r9 a6) f
 ·rw[E,q0 n1,q0 n2,q0 (λh=>h.elim (λh=>by rw[k] at h;cases h) λh=>by rw[l] at h;cases h)] at f;rw[r9.q.ldAgg (t:=za) zc];exact rt_give r9 (qo (xU r9)) f
theorem l3Two_spec {v:Value} {t:M.Tm} {s:Int} (ht:TermR G w v t) (h2:t.ks.length=2) (Y:ZQ0 K w G (M.twoS t s)):vcall zv0 #[v,nI s] w K:=by
 refine zg {cuts:=[(8197,[]),(36881,[]),(40974,[34]),(61455,[7])]} Tryz.func108 ?_;refine rt_enter (B:=λt3 t4 au=>_) ht λw1 b3 b4 kv rs=>?_;have l4:=rs.r.lt;have ao:=rs.lo;have low:∀{w':World} {cs:List Value} {u:M.Tm},Ext w1 w'->TmR (λx=>(G x/\x<w.heap.size)\/w'.heap.size<=x) w' cs u->True:=λ_ _=>trivial;clear low;refine zp (λu w'=>u=[]/\Ext w1 w'/\¬(M.kid t 0=M.kid t 1/\M.alikeS t s≠t)) (λC hC=>?_) ?_
 ·refine zd λw2 a2 _=>?_;have r2:=yd rs a2;obtain⟨cks,m,a6,l⟩:=r2.k;simp(disch:=first|omega|simp only[push_cast]) only[push_cast,r2.q.ld4,m.iaddr,m.ldAgg,k6];refine spec_TermSame_spec _ (l 0 oM).term (l 1 oM).term λw3 Q=>?_;have X:=yd r2 Q;refine zb (λa=>?_) (λa=>?_)
  ·rw[X.q.ldAgg (t:=za) zc];refine l3Alike_spec (xU X) h2 λw4 rv U n=>?_;have r4:=yd X U;obtain⟨c,rfl,hc⟩:=n.cells;have gc:aggB za c.length=true:=by rw[zB hc];exact zc
   have aq:=X.r.lt;refine zi zm λb5 w5 af R ah h5=>?_;have O:=(hc.weaken (F':=λx=>((G x/\x<w.heap.size)\/b4<x)/\x<w4.heap.size) λb h h'=>⟨h.imp id λh=>oM,h'⟩).ext R;refine stTerm h5 rfl O λw6 S ak h6=>?_;have T:Ext w4 w6:=Ext.then R S λy hy=>by subst hy;omega
   have r6:=yd r4 T;have N:TmR (Qb G w.heap.size b4) w6 c (M.alikeS t s):=(O.same S λx F _ e=>oM).weaken λx F _=>F.1;rw[h6.ldAgg (t:=za) gc,r6.q.ldAgg (t:=za) zc];refine spec_TermSame_spec _ N.term (xU r6) λw7 p=>?_;have r7:=yd r6 p;simp only[push_cast];refine zo (λd=>?_) (λd=>?_)
   ·rw[gS,decide_eq_false_iff_not] at d;rw[(h6.ext p).ldAgg (t:=za) gc];have E:M.twoS t s=M.alikeS t s:=by unfold M.twoS;rw[Q1 ⟨a,d⟩]
    rw[E] at Y;exact rt_give r7 (N.ext p).term Y
   ·rw[Gi,V0] at d;exact hC _ _ ⟨rfl,a2.trans (Q.trans (U.trans (T.trans p))),λh=>h.2 d⟩
  ·exact hC _ _ ⟨rfl,a2.trans Q,λh=>a h.1⟩
 rintro u g w3 ⟨rfl,Q,n1⟩;have X:=yd rs Q;have l3:=X.r.lt;rw[X.q.ldAgg (t:=za) zc];refine l3Right_spec (xU X) h2 λw4 rv U n=>?_;have r4:=yd X U;obtain⟨c,rfl,hc⟩:=n.cells;have gc:aggB za c.length=true:=by rw[zB hc];exact zc
 refine zi zm λb5 w5 af R ah h5=>?_;have O:=(hc.weaken (F':=λx=>((G x/\x<w.heap.size)\/b4<x)/\x<w4.heap.size) λb h h'=>⟨h.imp id λh=>oM,h'⟩).ext R;refine stTerm h5 rfl O λw6 S ak h6=>?_;have T:Ext w4 w6:=Ext.then R S λy hy=>by subst hy;omega
 have r6:=yd r4 T;have N:TmR (Qb G w.heap.size b4) w6 c (M.rightS t):=(O.same S λx F _ e=>oM).weaken λx F _=>F.1;rw[h6.ldAgg (t:=za) gc,r6.q.ldAgg (t:=za) zc];refine spec_TermSame_spec _ N.term (xU r6) λw7 p=>?_;have r7:=yd r6 p;simp only[push_cast];refine zo (λd=>?_) (λd=>?_)
 ·rw[gS,decide_eq_false_iff_not] at d;rw[(h6.ext p).ldAgg (t:=za) gc];have E:M.twoS t s=M.rightS t:=by unfold M.twoS;rw[q0 n1,Q1 d]
  rw[E] at Y;exact rt_give r7 (N.ext p).term Y
 rw[Gi,V0] at d;have E:M.twoS t s=if(t.op=3\/t.op=4\/t.op=5\/t.op=6\/t.op=8)/\M.otherS t (M.rightS (M.swapS t)) then M.rightS (M.swapS t) else t:=by
  unfold M.twoS;rw[q0 n1,q0 (λh=>h d)]
 refine zp (λu w'=>u=[]/\Ext w7 w'/\¬((t.op=3\/t.op=4\/t.op=5\/t.op=6\/t.op=8)/\M.otherS t (M.rightS (M.swapS t)))) (λC hC=>?_) ?_
 ·simp only[push_cast,r7.q.ld0];refine zp (λu w'=> ∃b:Bool,u=[.bool b]/\w'=w7/\(b=true↔t.op=3\/t.op=4\/t.op=5\/t.op=6\/t.op=8)) (λD hD=>?_) ?_
  ·try simp only[push_cast]
   refine zb (λc=>hD _ _ ⟨_,rfl,rfl,⟨λ_=>oM,λ_=>by rw[V0];exact c⟩⟩) (λc1=>?_);refine zb (λc=>hD _ _ ⟨_,rfl,rfl,⟨λ_=>oM,λ_=>by rw[V0];exact c⟩⟩) (λc2=>?_);refine zb (λc=>hD _ _ ⟨_,rfl,rfl,⟨λ_=>oM,λ_=>by rw[V0];exact c⟩⟩) (λc3=>?_);refine zb (λc=>hD _ _ ⟨_,rfl,rfl,⟨λ_=>oM,λ_=>by rw[V0];exact c⟩⟩) (λc4=>?_);exact hD _ _ ⟨_,rfl,rfl,⟨λh=>by rw[V0] at h;omega,λh=>by rw[V0];omega⟩⟩
  rintro u2 g2 al ⟨b,rfl,rfl,hb⟩;simp only[push_cast];refine zo (λo=>?_) (λo=>hC _ _ ⟨rfl,Same.refl _ _,λh=>by have:=hb.2 h.1;rw[o] at this;cases this⟩);have o':=hb.1 o;have l7:=r7.r.lt;refine zp (λu w'=> ∃b c,u=[ptr b]/\Ext al w'/\Blk w' b c za/\TmR (Qb G w.heap.size b4) w' c (M.rightS (M.swapS t))) (λD hD=>?_) ?_
  ·refine zd λw8 A _=>?_;have J:=yd r7 A;have l8:=J.r.lt;obtain⟨cks,m,a6,l⟩:=J.k;simp(disch:=first|omega|simp only[push_cast]) only[push_cast,J.q.ld0,J.q.ld4,m.iaddr,m.ldAgg,k6];have ar:=A.size;have fin:∀{wa wb:World} {bb:Nat} {z:List Value} {rv:Value},Ext w8 wa->Blk wa bb z za->z.length=5->w8.heap.size<=bb->(∀y,y=bb->TermR (λx=>((G x/\x<w.heap.size)\/b4<x)/\x≠y) wa rv (M.rightS (M.swapS t)))->zS za (ptr bb) rv wa λ_ w'=>D [ptr bb] w':=λ{wa wb bb z rv} aj hB hz an hr=>by
    obtain⟨cr,rfl,a5⟩:=(hr bb rfl).cells;refine stTerm hB hz a5 λw' a7 ap h'=>?_;exact hD _ _ ⟨bb,cr,rfl,A.trans (Ext.then aj a7 λy hy=>by subst hy;omega),h',(a5.same a7 λx F _ e=>F.2 e).weaken λx F _=>F.1⟩
   refine⟨?_,?_,trivial⟩
   ·refine kids2 (l 1 oM).term (l 0 oM).term λw9 a9 j ai k9=>?_;have r9:=yd J j;have W:TermR (λz=>(G z/\z<w.heap.size)\/z=w8.heap.size) w9 _ (M.swapS t):=(yX (o:=t.op) k9:TermR _ w9 _ (km0 t.op [t.ks.getD 1 default,t.ks.getD 0 default]));simp only[push_cast,r9.q.ld0,k6,gh];refine⟨?_,?_,trivial⟩
    ·refine l3Right_spec W rfl λw10 rv f n=>?_;refine⟨?_,trivial⟩;refine zi zm λa4 I Z i a0 L=>?_;refine⟨?_,trivial⟩;have a8:=j.size;have am:=f.size;refine fin (wb:=I) (j.trans (f.trans i)) L rfl oM λy hy=>((n.weaken (F':=λx=>(((G x/\x<w.heap.size)\/x=w8.heap.size)\/w9.heap.size<=x)/\x<w10.heap.size) λb h h'=>⟨h,h'⟩).ext i).weaken λx F _=>?_;rcases F.1 with(h|h)|h
     ·exact⟨.inl h,oM⟩
     ·exact⟨.inr oM,oM⟩
     ·exact⟨.inr oM,oM⟩
    ·refine zi zm λa4 I Z i a0 L=>?_;have H:=yd r9 i;simp only[push_cast,H.q.ld0,k6,gh];refine⟨?_,trivial⟩;refine l3Right_spec (W.ext i) rfl λw10 rv f n=>?_;refine⟨?_,trivial⟩;have a8:=j.size;refine fin (wb:=I) (j.trans (i.trans f)) (L.ext f) rfl oM λy hy=>n.weaken λx F _=>?_;rcases F with(h|h)|h
     ·exact⟨.inl h,oM⟩
     ·exact⟨.inr oM,oM⟩
     ·exact⟨.inr oM,oM⟩
   ·refine zi zm λa4 I Z i a0 L=>?_;have H:=yd J i;have ad:=m.ext i;simp(disch:=first|omega|simp only[push_cast]) only[push_cast,H.q.ld0,H.q.ld4,ad.iaddr,ad.ldAgg,k6,gh];refine⟨?_,trivial⟩;refine kids2 ((l 1 oM).ext i).term ((l 0 oM).ext i).term λw9 a9 j ai k9=>?_;have r9:=yd H j;have W:TermR (λz=>(G z/\z<w.heap.size)\/z=I.heap.size) w9 _ (M.swapS t):=(yX (o:=t.op) k9:TermR _ w9 _ (km0 t.op [t.ks.getD 1 default,t.ks.getD 0 default]));simp only[push_cast,r9.q.ld0,k6,gh];refine⟨?_,trivial⟩;refine l3Right_spec W rfl λw10 rv f n=>?_;refine⟨?_,trivial⟩;have a8:=j.size;refine fin (wb:=I) (i.trans (j.trans f)) ((L.ext j).ext f) rfl oM λy hy=>n.weaken λx F _=>?_;rcases F with(h|h)|h
    ·exact⟨.inl h,oM⟩
    ·exact⟨.inr oM,oM⟩
    ·exact⟨.inr oM,oM⟩
  rintro u3 g3 w8 ⟨b,cv,rfl,A,hB,a1⟩;have gv:aggB za cv.length=true:=by rw[zB a1];exact zc
  have J:=yd r7 A;generalize hV:M.rightS (M.swapS t)=V at*;have give:∀{w'},Ext w8 w'->M.otherS t V->zt za (ptr b) w' λr w2=>zS za (ptr b4) r w2 λ_ w3=>vlv za (ptr b4) w3 λr w4=>K r w4:=λ{w'} h ho=>by
   rw[(hB.ext h).ldAgg (t:=za) gv];rw[E,Q1 ⟨o',ho⟩] at Y;exact rt_give (yd J h) (a1.ext h).term Y
  obtain⟨kvv,rfl,ag⟩:=a1.inv;simp only[push_cast];refine zd λw9 j _=>?_;have r9:=yd J j;have B9:=hB.ext j;have aa:=ag.ext j;simp only[push_cast,B9.ld4,aa.len,k6];refine zb (λc1=>give j (.inl oM)) (λc1=>?_);have vl:V.ks.length=2:=oM;obtain⟨cks,m,a6,l⟩:=r9.k;obtain⟨vks,vsl,vln,vck⟩:=aa;simp(disch:=first|omega|simp only[push_cast]) only[push_cast,B9.ld4,r9.q.ld4,m.iaddr,m.ldAgg,vsl.iaddr,vsl.ldAgg,k6];refine spec_TermSame_spec _ (vck 0 oM).term (l 1 oM).term λw10 f=>?_;have a3:=B9.ext f;have ab:=yd r9 f;have ac:=m.ext f;have t10:=vsl.ext f;simp only[push_cast,k6];refine zo (λc2=>?_) (λc2=>?_)
  ·rw[gS,decide_eq_false_iff_not] at c2;exact give (j.trans f) (.inr (.inl c2))
  rw[Gi,V0] at c2;simp(disch:=first|omega|simp only[push_cast]) only[push_cast,a3.ld4,ab.q.ld4,ac.iaddr,ac.ldAgg,t10.iaddr,t10.ldAgg,k6];refine spec_TermSame_spec _ ((vck 1 oM).ext f).term ((l 0 oM).ext f).term λI i=>?_;have ae:=a3.ext i;have H:=yd ab i;simp only[push_cast,k6];refine zo (λc3=>?_) (λc3=>?_)
  ·rw[gS,decide_eq_false_iff_not] at c3;exact give (j.trans (f.trans i)) (.inr (.inr (.inl c3)))
  rw[Gi,V0] at c3;simp(disch:=first|omega|simp only[push_cast]) only[push_cast,ae.ld0,H.q.ld0,k6];refine zb (λc4=>give (j.trans (f.trans i)) (.inr (.inr (.inr c4)))) (λc4=>?_);refine hC _ _ ⟨rfl,A.trans (j.trans (f.trans i)),λh=>?_⟩;rcases h.2 with h|h|h|h
  ·exact h vl
  ·exact h c2
  ·exact h c3
  ·exact c4 h
 rintro u4 g4 w8 ⟨rfl,A,n3⟩;have J:=yd r7 A;rw[E,q0 n3] at Y;rw[J.q.ldAgg (t:=za) zc];exact rt_give J (qo (xU J)) Y
theorem l3One_spec {dv v:Value} {t:M.Tm} {ds:List M.Dcl} (I:DclsR F w dv ds) (l:M.declOk ds=true) (ht:TermR G w v t) (hs:M.sortM ds t≠ -1) (e:ZQ0 K w G (M.oneT ds t)):vcall zw0 #[dv,v] w K:=by
 rw[<-M.oneS_eq l hs] at e;have hlen:=M.len_of hs;refine zg {} Tryz.func70 ?_;refine rt_enter (B:=λt3 t4 a6=>_) ht λw1 b3 b4 kv rs=>?_;rw[rs.q.ldAgg (t:=za) zc];refine l2Sort_spec t (I.ext rs.ext) l (xU rs) λw2 Q=>?_;have X:=yd rs Q;rw[X.q.ldAgg (t:=za) zc];refine l3All_spec (xU X) λw3 R=>?_;have d:=yd X R;refine zo (λa=>?_) (λa=>?_)
 ·have S:nnB t=true:=by
   have g:=a;unfold M.allFixed at g;simp only[gn,V0,Gb] at g;refine nnB_iff.2 ⟨λN=>?_,λk hk=>?_⟩
   ·rw[N] at hlen;have h0:t.ks.length=0:=by simp[M.arity] at hlen;omega
    exact g.1 (gL h0)
   ·obtain⟨n,hn⟩:=G6.1 (g.2 k hk);exact nn_fixed hn
  have E:M.oneS ds t=if M.sortM ds t=0 then M.boolM (decide (M.evalM ds (M.zeroE ds) t=1)) else .mk 20 (M.sortM ds t) (M.evalM ds (M.zeroE ds) t) M.nada []:=by unfold M.oneS;rw[Q1 a]
  rw[d.q.ldAgg (t:=za) zc];refine yc xb yV λb7 J a0 f a4 h7=>?_;have b:=yd d f;refine l2Eval_spec t (H:=F) (I.ext b.ext) (M.zeroE_ok l) (xU b) (.inr S) hs λZ s=>?_;have p:=yd b s;simp only[push_cast];refine zb (λc=>?_) (λc=>?_)
  ·refine l3Bool_spec λw6 v6 u T=>?_;rw[E,Q1 c] at e;exact rt_give (yd p u) (rt_new p T) e
  ·try simp only[push_cast]
   rw[E,q0 c] at e;exact rt_give p (Jn 20 _ _ _:TmR _ Z _ (.mk 20 (M.sortM ds t) (M.evalM ds (M.zeroE ds) t) M.nada [])).term e
 have na: ¬M.allFixed t=true:=by rw[a];decide
 simp only[push_cast,d.q.ld4,d.k.len];refine zb (λU=>?_) (λU=>?_)
 ·rw[d.q.ldAgg (t:=za) zc];have E:M.oneS ds t=t:=by unfold M.oneS;rw[q0 na,Q1 (nil_len.1 U)]
  rw[E] at e;exact rt_give d (qo (xU d)) e
 have j: ¬t.ks=[]:=λh=>U (nil_len.2 h);have a3:0<t.ks.length:=GB.2 j;simp only[push_cast,d.q.ld0];refine zb (λW=>?_) (λW=>?_)
 ·rw[d.q.ldAgg (t:=za) zc];have E:M.oneS ds t=M.logicS t:=by unfold M.oneS;rw[q0 na,q0 j,Q1 oM]
  rw[E] at e;refine l3Logic_spec (xU d) hs oM j λJ rv f z=>?_;have b:=yd d f;have l3:=d.r.lt;exact rt_give b (z.weaken λx A _=>A.imp id λh=>oM) e
 have n23: ¬23<=t.op:=oM
 try simp only[push_cast,d.q.ld0]
 refine zb (λm=>?_) (λm=>?_)
 ·have hl:t.ks.length=1:=by rw[m] at hlen;simp[M.arity] at hlen;omega
  simp(disch:=first|omega|simp only[push_cast]) only[push_cast,d.q.ld4,d.k.iaddr];refine d.k.load zc oM λx A=>?_;refine l2Sort_spec _ (I.ext d.ext) l A λJ f=>?_;have b:=yd d f;have E:M.oneS ds t=if M.sortM ds t=M.sortM ds (M.kid t 0) then M.kid t 0 else t:=by unfold M.oneS;rw[q0 na,q0 j,q0 n23,Q1 m]
  simp only[push_cast];refine zb (λc=>?_) (λc=>?_)
  ·simp(disch:=first|omega|simp only[push_cast]) only[push_cast,b.q.ld4,b.k.iaddr];refine b.k.load zc oM λy hy=>?_;rw[E,Q1 (show M.sortM ds t=M.sortM ds (M.kid t 0) from c)] at e;exact rt_give b (qo hy) e
  ·rw[b.q.ldAgg (t:=za) zc];rw[E,q0 (show¬M.sortM ds t=M.sortM ds (M.kid t 0) from c)] at e;exact rt_give b (qo (xU b)) e
 simp only[push_cast,d.q.ld4,d.k.len];have Y:=M.arity_ops (o:=t.op) oM;refine zb (λl1=>?_) (λl1=>?_)
 ·have V:t.ks.length=1:=oM;have ho:=M.arity_one (o:=t.op) oM;have E:M.oneS ds t=if(M.kid t 0).op=t.op then M.kid (M.kid t 0) 0 else t:=by unfold M.oneS;rw[q0 na,q0 j,q0 n23,q0 m,Q1 V]
  refine zd λJ f _=>?_;have b:=yd d f;simp(disch:=first|omega|simp only[push_cast]) only[push_cast,b.q.ld0,b.q.ld4,b.k.iaddr,k6];rw[tms_op b.k oM];simp(disch:=first|omega|simp only[push_cast]) only[push_cast,b.q.ld0,b.q.ld4,b.k.iaddr,k6];refine zb (λc=>?_) (λc=>?_)
  ·have k0:=M.good_kid hs (i:=0) oM;have a1:(t.ks.getD 0 default).ks.length=1:=by
    have:=M.len_of k0;rw[show(M.kid t 0).op=t.op from c] at this;have L:t.op=1\/t.op=2:=oM;rcases L with o|o<;>rw[o] at this<;>simp[M.arity] at this<;>(unfold M.kid at this;omega)
   refine tms_kids b.k oM λa5 C=>?_;simp(disch:=first|omega|simp only[push_cast]) only[push_cast,C.iaddr];refine C.load zc oM λx A=>?_;rw[E,Q1 (show(M.kid t 0).op=t.op from c)] at e;exact rt_give b (qo A) e
  ·rw[b.q.ldAgg (t:=za) zc];rw[E,q0 (show¬(M.kid t 0).op=t.op from c)] at e;exact rt_give b (qo (xU b)) e
 ·have l2:t.ks.length=2:=by
   unfold M.arity at hlen
   repeat' split at hlen
   all_goals omega
  have E:M.oneS ds t=M.twoS t (M.sortM ds (M.kid t 0)):=by unfold M.oneS;rw[q0 na,q0 j,q0 n23,q0 m,q0 oM]
  rw[E] at e;refine zd λJ f _=>?_;have b:=yd d f;obtain⟨cks,D,a2,O⟩:=b.k;simp(disch:=first|omega|simp only[push_cast]) only[push_cast,b.q.ld4,b.q.ldAgg (t:=za) zc,D.iaddr,D.ldAgg,k6];refine l2Sort_spec _ (I.ext b.ext) l (O 0 oM).term λZ s=>?_;have p:=yd b s;simp(disch:=first|omega|simp only[push_cast]) only[push_cast,p.q.ldAgg (t:=za) zc,k6,gh];refine l3Two_spec (xU p) l2 λw6 rv u z=>?_;have r6:=yd p u;have l5:=p.r.lt;exact rt_give r6 (z.weaken λx A _=>A.imp id λh=>oM) e
end
section
variable {w:World} {K:oK} {F F' D G:Nat->Prop}
set_option maxRecDepth 20000 in
theorem l3Fold_spec:∀(t:M.Tm) {w:World} {K:oK} {F G:Nat->Prop} {dv tv:Value} {ds:List M.Dcl},DclsR F w dv ds->M.declOk ds=true->TermR G w tv t->M.sortM ds t≠ -1->ZQ0 K w G (M.foldT ds t)->vcall WF #[dv,tv] w K:=by
 refine M.Tm.ind λt ih w K F G dv tv ds hd T ht hs hK=>?_;have hlen:=M.len_of hs;have ay:t.ks.length<=3:=by
  unfold M.arity at hlen
  repeat' split at hlen
  all_goals omega
 refine zg {loops:=[(3,[6])]} Tryz.func39 ?_;obtain⟨kv,rfl,ae⟩:=ht;refine zl λb1 w1 ap Y av h1=>?_;refine zi zm λb2 w2 aq Z aw h2=>?_;have az:=Y.size;have q2:=h1.ext Z;simp only[push_cast,q2.ld0,q2.ld1,q2.ld2,q2.ld3];refine zi zm λb3 w3 ar a0 ax h3=>?_;refine stTerm h3 rfl (Jn t.op t.a t.b t.s:TmR (λ_=>False) w3 _ _) λB a7 b0 h4=>?_;have W:Ext w1 B:=Ext.then (Z.trans a0) a7 λy hy=>by subst hy;omega
 have N:=Y.trans W;have q4:=h1.ext W;have r4:=(h2.ext a0).same a7 oM;have ac:TmsR (λx=>G x/\x<w.heap.size) B kv t.ks:=(ae.weaken λb h X=>⟨h,X⟩).ext N;have an:=N.size;refine vloop_up t.ks.length (λi u w'=>u=[nI i]/\Same (λb=>b=b3) B w'/\∃k css,Blk w' b3 [nI t.op,nI t.a,nI t.b,.string t.s,k] za/\Own 0 5 ze w' k css/\css.length=i/\(∀b,k.ownBlock=some b->B.heap.size<=b)/\
   ∀j,j<i->TmR (λx=>(G x/\x<w.heap.size)\/(B.heap.size<=x/\k.ownBlock≠some x)) w' (css.getD j []) (M.foldT ds (t.ks.getD j default)))
  ⟨rfl,Same.refl _ _,_,[],h4,Own.nil _ _ _ _,rfl,λb h=>(by cases h),λj V=>absurd V oM⟩ ?_
 rintro i _ _ w5 C hi ⟨rfl,d,k,css,h5,v,S,g,E⟩ hC;have b4:=d.size;have O:Ext w w5:=Ext.then N d λy hy=>by subst hy;omega
 have a2:=ac.same d λb f _ e=>oM
 have q5:=q4.same d oM;simp only[push_cast,q5.ld4,a2.len];refine zb (λa=>?_) (λa=>?_)
 ·refine zd λw8 o _=>?_;have q8:=q5.ext o;have p8:=h5.ext o;obtain⟨cks,a6,au,hc⟩:=a2.ext o;simp(disch:=exact oS) only[push_cast,q8.ld4,p8.ld4,a6.iaddr,a6.ldAgg,k6];have I:t.ks.getD i default∈t.ks:=M.getD_mem oM _;have b6:=o.size;refine ih _ I (hd.ext (O.trans o)) T (hc i oM).term ((M.sort_parts hs).2.1 _ I) λw9 rv Q z=>?_;obtain⟨cr,rfl,n⟩:=z.cells;have p9:=p8.ext Q;simp only[push_cast,p9.ld4,k6,gh];have b7:=Q.size;refine x6 y4 yg zm rfl (zB n) dC λao w10 ai l aj a9=>?_;have a8:=p9.ext l;simp only[push_cast,a8.ld4,k6,gh];have D:=o.trans (Q.trans l);have a5:=v.ext D;refine Own.app1k a5 qx dC a9 (zB n) (tmR_one n) oM oM λp b8 J m q=>?_;have ah:=a8.same m (λe=>by have:=g _ e;have:=h5.lt;omega);have al:=m.size
  try simp only[push_cast,k6]
  have a3:p.cells= #[p]/\p.oneCell'=true:=by
   obtain⟨a,c,rfl,_⟩:=J.sl.shape;exact⟨rfl,rfl⟩
  refine ah.st (i:=4) a3.1 a3.2 xH rfl λA r am L=>?_;replace L:Blk A b3 [nI t.op,nI t.a,nI t.b,.string t.s,p] za:=L;rw[inc64' oM];have ak:=l.size;have H:∀b,p.ownBlock=some b->B.heap.size<=b:=λb f=>by
   rcases q b f with h|h
   ·exact g b h
   ·omega
  have U:Same (λb=>b=b3\/k.ownBlock=some b) w5 A:=(Same.of_ext D).trans ((m.mono λ_ _ h=> .inr h).trans (r.mono λ_ _ h=> .inl h));have aa:Same (λb=>b=b3) B A:=⟨U.os.trans d.os,U.tape.trans d.tape,U.output.trans d.output,gO d.size U.size,λb f a4=>(U.block b oM (λe=>e.elim a4 λe=>by have:=g b e;omega)).trans (d.block b f a4)⟩;refine hC oM _ _ ⟨rfl,aa,p,css++[cr],L,J.same r (λb f e=>by have:=H b f;omega),by simp[S],H,λj V=>?_⟩;by_cases ej:j<i
  ·rw[X0,gM oM,<-X0];refine((E j ej).weaken (F':=λx=>((G x/\x<w.heap.size)\/(B.heap.size<=x/\k.ownBlock≠some x))/\x<w5.heap.size) λb h X=>⟨h,X⟩).same U (λb f _ e=>?_)|>.weaken λb f _=>?_
   ·rcases f.1 with h|h
    ·rcases e with e|e
     ·omega
     ·have:=g b e;omega
    ·rcases e with e|e
     ·omega
     ·exact h.2 e
   ·rcases f.1 with h|h
    ·exact .inl h
    ·refine .inr ⟨h.1,λe=>?_⟩;rcases q b e with e|e
     ·exact h.2 e
     ·omega
  ·have:j=i:=oM;subst this;rw[X0,Gj oM,S,GZ];show TmR _ A cr _;refine(((n.weaken (F':=λx=>((G x/\x<w.heap.size)\/w8.heap.size<=x)/\x<w9.heap.size) λb h X=>⟨h,X⟩).ext l).same m (λb f _ e=>?_)).same r (λb f _ e=>?_)|>.weaken λb f _=>?_
   ·have:=g b e;have:=(v.lt e).2;rcases f.1 with h|h<;>omega
   ·rcases f.1 with h|h<;>omega
   ·rcases f.1 with h|h
    ·exact .inl h
    ·refine .inr ⟨oM,λe=>?_⟩;rcases q b e with e|e
     ·have:=(v.lt e).2;omega
     ·omega
 ·have ab:i=t.ks.length:=oM;subst ab;rw[h5.ldAgg (t:=za) zc];have ad:TmsR (λx=>(G x/\x<w.heap.size)\/B.heap.size<=x) w5 k (t.ks.map (M.foldT ds)):=by
   refine⟨css,v.sl.weaken λb f _=> .inr (g b f),by rw[S,K3],λj V=>?_⟩;rw[K3] at V;rw[M.getD_map _ V _ default];exact(E j V).weaken λb f _=>f.imp id λh=>h.1
  have R:=M.kids_good T hs;refine l3One_spec (t:=M.remake t (t.ks.map (M.foldT ds))) (hd.ext O) T ⟨k,rfl,ad⟩ (by rw[R.sort];exact hs) λw6 rv a1 z=>?_;rw[<-M.foldT_rem] at z;obtain⟨cr,rfl,n⟩:=z.cells;have r6:=(r4.same d oM).ext a1;refine xE r6 rfl n (λx hx=>by rcases hx with(h|h)|h<;>omega) λw7 ag b5 af=>?_;exact hK _ _ (Ext.then (O.trans a1) ag λy hy=>by subst hy;omega) (af.weaken λx hx _=>by
   rcases hx with(h|h)|h
   ·exact .inl h.1
   ·exact .inr oM
   ·exact .inr oM)
theorem spec_TermFold_spec {dv tv:Value} {ds:List M.Dcl} {t:M.Tm} (U:VS ds) (D:DclsR F w dv ds) (u:TermR G w tv t) (g:∀w' cs,Ext w w'->TmO w' (λb=>w.heap.size<=b/\b<w'.heap.size) cs (Xs ds t)->K (.agg ⟨cs⟩) w'):vcall K8 #[dv,tv] w K:=by
 refine zg {} Tryz.func14 ?_;obtain⟨ct,rfl,n⟩:=u.cells;have E:aggB za ct.length=true:=by rw[zB n];exact zc
 refine zl λb1 w1 O i R L=>?_;refine zi zm λb2 w2 Q j S N=>?_;have I:=L.ext j;have e:=i.trans j;have V:=i.size;rw[I.ldAgg (t:=za) E];refine spec_TermSort_spec U (D.ext e) (u.ext e) λw3 d=>?_;have c:=e.trans d;have J:=N.ext d;have W:=d.size;simp only[push_cast];unfold Xs at g;have hr:=dtSize (ds:=ds) (t:=t);refine zb (λa=>?_) (λa=>?_)
 ·rw[Q1 (show M.tsort ds t= -1 by omega)] at g
  try simp only[push_cast]
  refine ZX0 (G:=λ_=>False) J rfl zeroO (λx H=>H.elim) λw4 v X p=>?_;exact g _ _ (Ext.then c v λy A=>by subst A;omega) (qw p λb C=>C.elim)
 ·have B:M.tsort ds t≠ -1:=oM;rw[q0 B] at g;obtain⟨l,hs,T⟩:=small_of B;rw[(I.ext d).ldAgg (t:=za) E];refine l3Fold_spec t (G:=λx=>x<w.heap.size) (D.ext c) l ((u.weaken λb _ h=>h).ext c) hs λw6 rv f s=>?_;have m:=c.trans f;have o:=(M.fold_good l t hs).size;refine l3Copy_spec _ s (fit_size _ oM) λw7 cs k q=>?_;have Y:=f.size;refine ZX0 (J.ext (f.trans k)) rfl q (λx H=>oM) λw8 z Z r=>?_;exact g _ _ (Ext.then (m.trans k) z λy A=>by subst A;omega) (qw r λb C=>⟨oM,oM⟩)
end
section
variable {w:World} {K:oK} {F F' D G:Nat->Prop}
@[push_cast] theorem bd_T14 (o x:Int) (a:Option Addr) (l c:Nat):yf za [(0,nI o),(1,nI x),(4,.slice a l c)] w K=K (.agg ⟨[nI o,nI x,nI 0,.string ⟨#[]⟩,.slice a l c]⟩) w:=zP xL (us:=[[nI o],[nI x],[.slice a l c]]) rfl rfl
structure DS (F G:Nat->Prop) (w0:World) (b b1 b2:Nat) (v:Value) (xs:List Nat) (cs:List Value) (t:M.Tm) (w:World) (p:Nat):Prop where
 same:Same (· =b) w0 w
 rd:RdR F w b v xs p
 var:Blk w b1 cs za
 res:Blk w b2 Ql za
 trm:TmR G w cs t
section
variable {w0 w':World} {b b1 b2 p:Nat} {v:Value} {xs:List Nat} {cs:List Value} {t:M.Tm}
theorem xF (h:DS F G w0 b b1 b2 v xs cs t w p) (he:Ext w w'):DS F G w0 b b1 b2 v xs cs t w' p:=⟨h.same.trans (Same.of_ext he),h.rd.ext he,h.var.ext he,h.res.ext he,h.trm.ext he⟩
theorem jI (h:DS F G w0 b b1 b2 v xs cs t w p):zt za (ptr b1) w K=K (.agg ⟨cs⟩) w:=h.var.ldAgg (by rw[zB h.trm];exact zc)
abbrev Qd (G:Nat->Prop) (n b2:Nat) (x:Nat):Prop:=G x\/(n<=x/\x≠b2)
theorem qT (h:DS F G w0 b b1 b2 v xs cs t w p):TermR (Qd G w0.heap.size b2) w (.agg ⟨cs⟩) t:=h.trm.term.weaken λx a _=> .inl a
theorem ds_new (h:DS F G w0 b b1 b2 v xs cs t w p) {rv:Value} {u:M.Tm} (hu:TermR (λx=>w.heap.size<=x) w' rv u):TermR (Qd G w0.heap.size b2) w' rv u:=hu.weaken λx a _=> .inr ⟨by have:=h.same.size;omega,by have:=h.res.lt;omega⟩
theorem ds_k1 (h:DS F G w0 b b1 b2 v xs cs t w p) {v0:Value} {t0:M.Tm} (c:TermR (Qd G w0.heap.size b2) w v0 t0) (d:∀w' a,Ext w w'->TmsR (Qd G w0.heap.size b2) w' (.slice a 1 1) [t0]->K (.slice a 1 1) w'):vbuildS ze 1 [(0,v0)] w K:=
 zS0 c λw' a he _ f=>d w' a he (f.weaken λx g _=>g.elim id λe=> .inr ⟨by have:=h.same.size;omega,by have:=h.res.lt;omega⟩)
theorem ds_k2 (h:DS F G w0 b b1 b2 v xs cs t w p) {v0 v1:Value} {t0 t1:M.Tm} (c:TermR (Qd G w0.heap.size b2) w v0 t0) (d:TermR (Qd G w0.heap.size b2) w v1 t1) (f:∀w' a,Ext w w'->TmsR (Qd G w0.heap.size b2) w' (.slice a 2 2) [t0,t1]->K (.slice a 2 2) w'):vbuildS ze 2 [(0,v0),(1,v1)] w K:=
 kids2 c d λw' a he _ g=>f w' a he (g.weaken λx i _=>i.elim id λe=> .inr ⟨by have:=h.same.size;omega,by have:=h.res.lt;omega⟩)
theorem ds_k3 (h:DS F G w0 b b1 b2 v xs cs t w p) {v0 v1 v2:Value} {t0 t1 t2:M.Tm} (c:TermR (Qd G w0.heap.size b2) w v0 t0) (d:TermR (Qd G w0.heap.size b2) w v1 t1) (f:TermR (Qd G w0.heap.size b2) w v2 t2) (g:∀w' a,Ext w w'->TmsR (Qd G w0.heap.size b2) w' (.slice a 3 3) [t0,t1,t2]->K (.slice a 3 3) w'):vbuildS ze 3 [(0,v0),(1,v1),(2,v2)] w K:=
 kids3 c d f λw' a he _ i=>g w' a he (i.weaken λx j _=>j.elim id λe=> .inr ⟨by have:=h.same.size;omega,by have:=h.res.lt;omega⟩)
theorem ds_pick {n:Int} (h:DS F G w0 b b1 b2 v xs cs t w p) (i:n<=1099511627776) (j:p<1099511627776) (f:b≠b1) (g:b≠b2) (c:∀x,G x->x≠b)
  (d:∀w' (k:Nat),DS F G w0 b b1 b2 v xs cs t w' (p+1)->Same (· =b) w w'->w'.heap.size=w.heap.size->(1<=n->(k:Int)<n)->K (nI k) w'):vcall yP #[oP b 0,nI n] w K:=
 pick_spec h.rd i j λw' k hs o l a _=>d w' k ⟨h.same.trans hs,l,h.var.same hs oM,h.res.same hs oM,h.trm.same hs λx m _ e=>c x m e⟩ hs o a
abbrev YD0 (K:oK) (F G:Nat->Prop) (w:World) (b p:Nat) (v:Value) (xs:List Nat):Prop:=∀w' p' tv t,Same (· =b) w w'->RdR F w' b v xs p'->p'<=p+10->TermR (λx=>G x\/w.heap.size<=x) w' tv t->t.ks.length<=3->K tv w'
theorem ds_give {p0:Nat} {rv:Value} {u:M.Tm} (h:DS F G w0 b b1 b2 v xs cs t w p) (hF:∀x,F x->x<w0.heap.size) (i:∀x,G x->x<w0.heap.size) (o:b<w0.heap.size) (f:w0.heap.size<=b2) (m:p<=p0+10) (hu:TermR (Qd G w0.heap.size b2) w rv u) (l:u.ks.length<=3) (j:YD0 K F G w0 b p0 v xs):
  zS za (ptr b2) rv w λ_ w1=>vlv za (ptr b2) w1 λr w2=>K r w2:=by
 obtain⟨c,rfl,k⟩:=hu.cells;refine xE h.res rfl k (λx a=>by
  rcases a with a|a;·have:=i x a;omega
  ·exact a.2) λw3 d n g=>?_
 exact j _ p _ _ (same_new h.same d f) (h.rd.new d oM λx a e=>by have:=hF x a;omega) m (g.weaken λx a _=>a.imp id λh=>h.1) l
end
theorem l3Dull_spec {b p:Nat} {v dv tv:Value} {xs:List Nat} {ds:List M.Dcl} {t:M.Tm} (h:RdR F w b v xs p) (hF:∀x,F x->x<w.heap.size) (hd:DclsR D w dv ds) (O:M.declOk ds=true) (ht:TermR G w tv t) (hG:∀x,G x->x≠b) (W:∀x,G x->x<w.heap.size) (hp:p+10<1099511627776)
  (hK:YD0 K F G w b p v xs):vcall WG #[oP b 0,dv,tv] w K:=by
 refine zg {cuts:=[(20494,[]),(24583,[17])]} Tryz.func64 ?_;have lb:=h.blk.lt;obtain⟨cs,rfl,Y⟩:=ht.cells;refine zl λb1 w1 ah Z ak h1=>?_;refine zi zm λb2 w2 ai N al h2=>?_;have B:=Z.trans N;have d2:DS F G w b b1 b2 v xs cs t w2 p:=⟨Same.of_ext B,h.ext B,h1.ext N,h2,Y.ext B⟩;rw[jI d2];refine l2Sort_spec t (hd.ext B) O d2.trm.term λw3 a0=>?_;have d3:=xF d2 a0;have a2:=M.sort_range O t;generalize M.sortM ds t=s at a2;have pk:∀{w':World} {q:Nat} {n:Int} {K':oK},DS F G w b b1 b2 v xs cs t w' q->n<=1099511627776->q<=p+5->(∀w'' (k:Nat),DS F G w b b1 b2 v xs cs t w'' (q+1)->Same (· =b) w' w''->w''.heap.size=w'.heap.size->(1<=n->(k:Int)<n)->K' (nI k) w'')->vcall yP #[oP b 0,nI n] w' K':=
  λd S hq X=>ds_pick d S oM oM oM hG X
 have gv:∀{w':World} {q:Nat} {rv:Value} {u:M.Tm},DS F G w b b1 b2 v xs cs t w' q->q<=p+10->TermR (Qd G w.heap.size b2) w' rv u->u.ks.length<=3->zS za (ptr b2) rv w' λ_ w1=>vlv za (ptr b2) w1 λr w2=>K r w2:=
  λd hq hu hl=>ds_give d hF W lb oM hq hu hl hK
 refine pk d3 dC oM λU k d4 am an hk=>?_;have aj:=hk dC;simp only[push_cast];refine zb (λc0=>?_) (λc0=>?_)
 ·refine zp (λu w'=>u=[]/\w'=U) (λC hC=>?_) ?_
  ·refine zp (λu w'=> ∃e:Bool,u=[.bool e]/\w'=U) (λE hE=>?_) ?_
   ·try simp only[push_cast]
    refine zb (λ_=>hE _ _ ⟨_,rfl,rfl⟩) (λ_=>hE _ _ ⟨_,rfl,rfl⟩)
   rintro u g ag ⟨e,rfl,rfl⟩;simp only[push_cast];refine zo (λ_=>?_) (λ_=>?_)
   ·rw[jI d4];refine ds_k1 d4 (qT d4) λc a5 a m=>?_;simp only[push_cast];refine ds_k1 (xF d4 a) (yX (o:=25) m) λH a6 f R=>?_;simp only[push_cast];exact gv (xF (xF d4 a) f) oM (yX (o:=25) R) (by show 1<=3;decide)
   ·try simp only[push_cast]
    refine zb (λ_=>?_) (λ_=>?_)
    ·rw[jI d4]
     try simp only[push_cast]
     refine ds_k2 d4 (qT d4) (Z2 (o:=24)) λc a5 a m=>?_;simp only[push_cast];exact gv (xF d4 a) oM (yX (o:=26) m) (by show 2<=3;decide)
    try simp only[push_cast]
    refine zb (λ_=>?_) (λ_=>?_)
    ·refine zd λc a _=>?_;have d5:=xF d4 a;rw[jI d5];refine⟨rfl,?_⟩;refine l3False_spec λH v6 f a3=>?_;have d6:=xF d5 f;rw[jI d6];refine⟨⟨rfl,rfl⟩,?_⟩;refine ds_k2 d6 (ds_new d5 a3) (qT d6) λL a7 i k7=>?_;simp only[push_cast,k6];exact gv (xF d6 i) oM (yX (o:=27) k7) (by show 2<=3;decide)
    try simp only[push_cast]
    refine zb (λ_=>?_) (λ_=>hC _ _ ⟨rfl,rfl⟩);rw[jI d4,jI d4];refine ds_k2 d4 (qT d4) (qT d4) λc a5 a m=>?_;simp only[push_cast];exact gv (xF d4 a) oM (yX (o:=27) m) (by show 2<=3;decide)
  rintro u g ag ⟨rfl,rfl⟩;rw[jI d4,jI d4,jI d4];refine ds_k3 d4 (qT d4) (qT d4) (qT d4) λc a5 a m=>?_;simp only[push_cast];exact gv (xF d4 a) oM (yX (o:=23) m) (by show 3<=3;decide)
 try simp only[push_cast]
 refine zb (λ_=>?_) (λ_=>?_)
 ·rw[jI d4];refine ds_k1 d4 (qT d4) λc a5 a m=>?_;simp only[push_cast];refine ds_k1 (xF d4 a) (yX (o:=2) m) λH a6 f R=>?_;simp only[push_cast];exact gv (xF (xF d4 a) f) oM (yX (o:=2) R) (by show 1<=3;decide)
 try simp only[push_cast]
 refine zb (λ_=>?_) (λ_=>?_)
 ·refine zd λc a _=>?_;have d5:=xF d4 a;rw[jI d5];refine⟨rfl,?_⟩;refine pk d5 dC oM λH j d6 Q I hj=>?_;rw[jI d6];refine⟨⟨rfl,rfl⟩,?_⟩;simp only[push_cast,k6];refine l3Zero_spec λL v7 i y=>?_;have d7:=xF d6 i;rw[jI d7];simp only[push_cast,k6,gh];refine ds_k2 d7 (qT d7) (ds_new d6 y) λA V l J=>?_;simp only[push_cast,k6,gh];exact gv (xF d7 l) oM (yX J) (by show 2<=3;decide)
 try simp only[push_cast]
 refine zb (λ_=>?_) (λ_=>?_)
 ·refine zd λc a _=>?_;have d5:=xF d4 a;rw[jI d5];refine⟨rfl,?_⟩;refine pk d5 dC oM λH j d6 Q I hj=>?_;rw[jI d6];refine⟨⟨rfl,rfl⟩,?_⟩;simp only[push_cast,k6];refine l3Zero_spec λL v7 i y=>?_;have d7:=xF d6 i;rw[jI d7];simp only[push_cast,k6,gh];refine ds_k2 d7 (ds_new d6 y) (qT d7) λA V l J=>?_;simp only[push_cast,k6,gh];exact gv (xF d7 l) oM (yX J) (by show 2<=3;decide)
 have two:∀{n:Int} {base:Int},n<=1099511627776->Zu U λc=>zt za (ptr b1) c λt81 H=>H=c/\zt za (ptr b1) c λt82 L=>L=c/\
   (vcall yP #[ptr b,nI n] c λt79 A=>(zt za (ptr b1) A λv x=>v=t82/\x=A)/\(zt za (ptr b1) A λv x=>v=t81/\x=A)/\
    qn .add zZ true (nI base) t79 A λt80 w9=>w9=A/\
    (vbuildS ze 2 [(0,t81),(1,t82)] A λt83 w10=>(qn .add zZ true (nI base) t79 w10 λv x=>v=t80/\x=w10)/\
     yf za [(0,t80),(4,t83)] w10 λt84 a4=>a4=w10/\
     (zS za (ptr b2) t84 w10 λ_ a9=>vlv za (ptr b2) a9 λr aa=>K r aa)/\True)/\True)/\
   (vbuildS ze 2 [(0,t81),(1,t82)] c λt83 ab=>
    (vcall yP #[ptr b,nI n] ab λt79 z=>
     qn .add zZ true (nI base) t79 z λt80 ac=>ac=z/\
     yf za [(0,t80),(4,t83)] z λt84 ad=>ad=z/\
     (zS za (ptr b2) t84 z λ_ ae=>vlv za (ptr b2) ae λr af=>K r af)/\True)/\True)/\True:=λ{n base} S=>by
  refine zd λc a _=>?_;have d5:=xF d4 a;rw[jI d5];refine⟨rfl,?_⟩;rw[jI d5];refine⟨rfl,?_,?_,trivial⟩
  ·refine pk d5 S oM λH j d6 Q I hj=>?_;rw[jI d6];refine⟨⟨rfl,rfl⟩,⟨rfl,rfl⟩,?_⟩;simp only[push_cast,k6];refine⟨?_,trivial⟩;refine ds_k2 d6 (qT d6) (qT d6) λA V l J=>?_;simp only[push_cast,k6,gh];refine⟨?_,trivial⟩;exact gv (xF d6 l) oM (yX J) (by show 2<=3;decide)
  ·refine ds_k2 d5 (qT d5) (qT d5) λH a6 f R=>?_;refine⟨?_,trivial⟩;have l2:=d5.res.lt;have I:=f.size;refine pk (xF d5 f) S oM λL j d7 a1 ao hj=>?_;simp only[push_cast,k6];refine⟨?_,trivial⟩;refine gv d7 oM (yX (R.same a1 λx T _ e=>?_)) (by show 2<=3;decide);rcases T with T|T
   ·exact hG x T e
   ·omega
 try simp only[push_cast]
 refine zb (λ_=>?_) (λ_=>?_)
 ·have:=two (n:=11) (base:=3) dC
  try simp only[push_cast] at this
  exact this
 try simp only[push_cast]
 refine zb (λ_=>?_) (λ_=>?_)
 ·have:=two (n:=3) (base:=15) dC
  try simp only[push_cast] at this
  exact this
 clear two
 try simp only[push_cast]
 refine zb (λ_=>?_) (λ_=>?_)
 ·rw[jI d4];refine ds_k1 d4 (qT d4) λc a5 a m=>?_;simp only[push_cast];exact gv (u:= .mk 22 _ 0 M.nada [t]) (xF d4 a) oM ⟨_,rfl,m⟩ (by show 1<=3;decide)
 try simp only[push_cast]
 refine zb (λ_=>?_) (λ_=>?_)
 ·rw[jI d4];have lf:TermR (Qd G w.heap.size b2) U (.agg ⟨[nI 20,nI s,nI 1,.string ⟨#[]⟩,.slice none 0 0]⟩) (.mk 20 s 1 M.nada []):=⟨.slice none 0 0,rfl,TmsR.nil⟩;refine ds_k2 d4 lf (qT d4) λc a5 a m=>?_;simp only[push_cast];exact gv (xF d4 a) oM (yX (o:=8) m) (by show 2<=3;decide)
 ·refine zd λc a _=>?_;have d5:=xF d4 a
  try simp only[push_cast,k6]
  rw[jI d5];refine⟨rfl,?_⟩;refine l3Zero_spec λL v7 i y=>?_;have d7:=xF d5 i;rw[jI d7];refine⟨⟨rfl,rfl⟩,?_⟩
  try simp only[push_cast,k6,gh]
  refine ds_k3 d7 (Z2 (o:=24)) (qT d7) (ds_new d5 y) λA V l J=>?_;simp only[push_cast,k6];exact gv (xF d7 l) oM (yX (o:=23) J) (by show 3<=3;decide)
theorem l3Draw_spec {b p:Nat} {v:Value} {xs:List Nat} (h:RdR F w b v xs p) (hF:∀x,F x->x<w.heap.size) (hp:p+300100<1099511627776)
  (hK:∀w' p' dv tv ds t,Same (· =b) w w'->RdR F w' b v xs p'->p'<=p+300100->DclsR (λx=>w.heap.size<=x) w' dv ds->Dsm ds->TermR (λx=>w.heap.size<=x) w' tv t->K (.tuple #[dv,tv]) w'):vcall WH #[oP b 0] w K:=by
 refine zg {loops:=[(4,[6])]} Tryz.func33 ?_;have lb:=h.blk.lt;refine zi zm λb1 w1 bs S c0 h1=>?_;have aw:=h.ext S;have c2:=S.size;refine Ud aw (λx d=>by have:=hF x d;omega) oM λw2 p2 dv ds W ax bw b4 T b7=>?_;have h2:=h1.same W oM;have c3:=W.size;have aa:=b4.weaken (F':=λx=>w1.heap.size<=x/\x<w2.heap.size) λx d G=>⟨d,G⟩;refine ints_lit (ns:=[0,0,1,2,3,4]) dC λb3 w3 bt E b8=>?_;have c4:=E.size;refine num_spec (ax.ext E) b8 (by simp) dC oM (λx d e=>by subst d;omega) λZ m X c5 ay hm=>?_;have af:0<=m/\m<=4:=by
  simp only[gj,gC,Gg] at hm;omega
 have ab:=(aa.ext E).same X λx d _ e=>oM
 have h4:=(h2.ext E).same X oM;refine l2Some_spec ay (λx d=>by have:=hF x d;omega) ab (λx d e=>oM) (λx d=>oM) T af.1 af.2 oM λw5 p5 tv t H az bx bc b9=>?_;have b5:=ab.same H λx d _ e=>oM
 have h5:=h4.same H oM;have c6:=H.size;obtain⟨cs,rfl,a7⟩:=bc.cells;have D:=a7.weaken (F':=λx=>Z.heap.size<=x/\x<w5.heap.size) λx d G=>⟨d,G⟩;refine zi zm λQ w6 bu ac c1 h6=>?_;refine stTerm h6 rfl (D.ext ac) λw7 bd c7 h7=>?_;have A:Ext w5 w7:=Ext.then ac bd λy hy=>by subst hy;omega
 have b0:=az.ext A;refine pick_spec b0 dC oM λw8 k B ca b2 hk _=>?_;have bv:=hk dC;have bp:=A.size;have bq:=B.size;have d8:=(b5.ext A).same B λx d _ e=>oM
 have r8:=(h5.ext A).same B oM;have t8:=h7.same B oM;have c8:TmR (λx=>Z.heap.size<=x/\x≠Q) w8 cs t:=(((D.ext A).same B λx d _ e=>oM).weaken λx d _=>⟨d.1,oM⟩);have bg:Same (· =b) w w8:=(((((Same.of_ext S).trans W).trans (Same.of_ext E)).trans X).trans H).trans ((Same.of_ext A).trans B);refine vloop_up k (λi u w'=> ∃c u' p',u=[nI ((k-i:Nat):Int)]/\Same (· =b) w w'/\RdR F w' b v xs p'/\p'<=p5+1+10*i/\w8.heap.size<=w'.heap.size/\DclsR (λx=>w1.heap.size<=x/\x<w2.heap.size) w' dv ds/\Blk w' b1 Ql za/\Blk w' Q c za/\TmR (λx=>Z.heap.size<=x/\x≠Q) w' c u'/\u'.ks.length<=3)
  ⟨cs,t,p5+1,rfl,bg,b2,oM,gA _,d8,r8,t8,c8,b9⟩ ?_
 rintro i _ _ w9 C hi ⟨c,u',p9,rfl,s9,a5,bz,bm,d9,r9,t9,c9,ba⟩ hC;have gc:aggB za c.length=true:=by rw[zB c9];exact zc
 simp only[push_cast];refine zb (λa=>?_) (λa=>?_)
 ·have ad:i<k:=oM;rw[t9.ldAgg (t:=za) gc];have a0:=c9.weaken (F':=λx=>(Z.heap.size<=x/\x≠Q)/\x<w9.heap.size) λx d G=>⟨d,G⟩;refine l3Dull_spec a5 (λx d=>by have:=hF x d;omega) d9 b7 a0.term (λx d e=>oM) (λx d=>d.2) oM λw10 ak rv an j J bj bb ae=>?_;obtain⟨cr,rfl,a6⟩:=bb.cells;have ah:=j.size;have d10:=d9.same j λx d _ e=>oM;have al:=r9.same j oM;have t10:=t9.same j oM;have R:=a0.same j λx d _ e=>oM;have gr:aggB za cr.length=true:=by rw[zB a6];exact zc
  refine zi zm λbr bh bi M l ar=>?_;have L:=(a6.weaken (F':=λx=>(((Z.heap.size<=x/\x≠Q)/\x<w9.heap.size)\/w9.heap.size<=x)/\x<w10.heap.size) λx d G=>⟨d,G⟩).ext M;refine stTerm ar rfl L λI N ai a2=>?_;have a1:Ext w10 I:=Ext.then M N λy hy=>by subst hy;omega
  rw[a2.ldAgg (t:=za) gr];have o:TmR (λx=>Z.heap.size<=x/\x≠Q) I cr an:=(L.same N λx d _ e=>oM).weaken λx d _=>by
   rcases d.1 with h|h
   ·exact h.1
   ·exact⟨oM,oM⟩
  refine spec_TermSort_spec (dsm_sized (dok_dsm T)) (d10.ext a1) o.term λY r=>?_;have f:=a1.trans r;have aj:=f.size;have O:IntKind.i64.wrap (((k-i:Nat):Int)-1)=((k-(i+1):Nat):Int):=by rw[zk oM oM];omega
  have am:Same (· =b) w Y:=(s9.trans j).trans (Same.of_ext f);simp only[push_cast];refine zb (λ_=>?_) (λ_=>?_)
  ·rw[(a2.ext r).ldAgg (t:=za) gr];refine stTerm (t10.ext f) (zB c9) (o.ext r) λcd n bo av=>?_;rw[O];refine hC ad _ _ ⟨cr,an,ak,rfl,same_new am n oM,(J.ext f).new n oM (λx d e=>by have:=hF x d;omega),oM,oM,(d10.ext f).same n λx d _ e=>oM,(al.ext f).same n oM,av,(o.ext r).same n (λx d _ e=>d.2 e),ae⟩
  ·rw[O];exact hC ad _ _ ⟨c,u',ak,rfl,am,J.ext f,oM,oM,d10.ext f,al.ext f,t10.ext f,(R.ext f).weaken λx d _=>d.1,ba⟩
 ·refine zd λw10 g _=>?_;have t10:=t9.ext g;rw[t10.ldAgg (t:=za) gc];refine⟨rfl,?_⟩;have ah:=g.size;have d10:=d9.ext g;have R:=(c9.weaken (F':=λx=>(Z.heap.size<=x/\x≠Q)/\x<w9.heap.size) λx d G=>⟨d,G⟩).ext g;refine l2Spoil_spec (a5.ext g) (λx d=>by have:=hF x d;omega) d10 (λx d e=>oM) (λx d=>oM) T oM λbh cb aq ap l a3 bk a8 U=>?_;have t11:=t10.same l oM;rw[t11.ldAgg (t:=za) gc];refine⟨⟨rfl,rfl⟩,?_⟩;have bn:=l.size;have ao:=R.same l λx d _ e=>oM;refine l2Bent_spec a3 (λx d=>by have:=hF x d;omega) ao.term (λx d e=>oM) (λx d=>oM) oM oM λI be cc t' s a4 bl ag _=>?_;have a9:=a8.same s λx d _ e=>oM;have bf:=((r9.ext g).same l oM).same s oM;obtain⟨cs',rfl,q⟩:=ag.cells;have V:Same (· =b) w I:=(s9.trans (Same.of_ext g)).trans (l.trans s);have ai:=s.size;refine stTerm bf rfl q λY z aj au=>?_;rw[au.lv (by rw[zB q];exact zc)];refine hK Y be aq _ ap t' (same_new V z oM) (a4.new z oM λx d e=>by have:=hF x d;omega) oM ((a9.same z λx d _ e=>oM).weaken λx d _=>oM) U ((q.same z λx d _ e=>oM).term.weaken λx d _=>oM)
theorem DrawTermFold_spec {v:Value} {xs:List Nat} (a:Bytes F w v xs) (hF:∀b,F b->b<w.heap.size)
  (r:∀w' dv tv ds t,Ext w w'->DclsR (λx=>w.heap.size<=x) w' dv ds->Dsm ds->TermR (λx=>w.heap.size<=x) w' tv t->K (.tuple #[dv,tv]) w'):vcall X8 #[v] w K:=by
 refine zg {} Tryz.func11 ?_;refine zi zm λb1 w1 z f D o=>?_;have E:=f.size;refine l12Open_spec (a.ext f) (λb y=>by have:=hF b y;omega) λw2 b v' ys g c A=>?_;have G:=g.size;have lb:=c.blk.lt;refine l3Draw_spec (F:=λx=>F x/\x<w2.heap.size) ⟨c.blk,⟨c.bytes.1.weaken λx a B=>⟨a,B⟩,c.bytes.2⟩,λh=>c.apart h.1,c.few⟩ (λx a=>a.2) oM λw3 M dv tv ds t i s C k l m=>?_;have H:=i.size;have J:=(o.ext g).same i oM;obtain⟨cs,rfl,d⟩:=m.cells;simp only[push_cast];refine stTerm J rfl d λn j I p=>?_;rw[p.lv (by rw[zB d];exact zc)];have u:Ext w n:=by
  have q:Same (λx=>w.heap.size<=x) w n:=(((Same.of_ext f).trans (Same.of_ext g)).trans (i.mono λx _ a=>by subst a;omega)).trans (j.mono λx _ a=>by subst a;omega);exact q.mono λx a L=>oM
 exact r n dv _ ds t u ((k.same j λx a _ e=>oM).weaken λx a _=>oM) l ((d.same j λx a _ e=>oM).term.weaken λx a _=>oM)
end
theorem JK {ds:List M.Dcl} {t:M.Tm} (a:M.declOk ds=true) (b:M.fits t=true):M.tsort ds t=M.sortM ds t:=by unfold M.tsort;rw[Q1 ⟨b,a⟩]
theorem right_parts {ds:List M.Dcl} {t:M.Tm} (h:M.tsort ds t≠ -1):M.declOk ds=true/\M.sortM ds t≠ -1/\M.fits t=true:=by
 rcases dtSize (ds:=ds) (t:=t) with e|⟨c,d,f,a,b⟩
 ·exact absurd e h
 ·exact⟨b,oM,a⟩
theorem xa0 {ds:List M.Dcl} {t:M.Tm} (a:M.declOk ds=true) (b:M.fits t=true) (hs:M.sortM ds t≠ -1):Xs ds t=M.foldT ds t:=by
 unfold Xs;rw[q0 (by rw[JK a b];exact hs)]
end Go.Proofs.YtjkkiaacmedfdaaGreatDoor
end
