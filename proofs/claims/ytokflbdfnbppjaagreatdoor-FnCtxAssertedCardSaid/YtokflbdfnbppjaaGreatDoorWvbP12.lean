import Derived.Test.YtokflbdfnbppjaaGreatDoorWvbP11
/- A part of the proof. -/
set_option linter.all false
namespace Go.Proofs.YtokflbdfnbppjaaGreatDoor
open Go Go.Vc Go.Proofs
section
variable {w:World} {K:Value->World->Prop} {F F' D G:Nat->Prop}
def fsL (dv:Value) (mb:Nat):List Value:=[jv,qU,jl,jm,ju,j4,jn].map λn=> .func (.func n) #[Y2 dv mb] #[]
theorem Qy0 {dv:Value} {mb:Nat} (e:∀w' v,Ext w w'->Vals (λ_=>True) w' v (fsL dv mb)->K v w'):vcall P Zj #[Y2 dv mb] w K:=by
 apply z30;refine zx λb1 w1 f a g c=>?_;simp only[push_cast,c.ldAgg (t:=zF) jA];refine vbuildS_row1 (xs:=fsL dv mb) Yc (by simp only[push_cast]) (z:= .nilFunc) (by unfold xh;kernel_rfl) (λx h=>by obtain⟨y,_,rfl⟩:=gk.1 h;rfl) (by show 7<=16777216;decide) λb w' i he hs d=>?_;have o:OwnV P yc w' (.slice (some ⟨b,0,none⟩) (fsL dv mb).length (fsL dv mb).length) (fsL dv mb):=Blk.own1 (P:=P) (t:=yc) (by rw[Y3];exact d) (Gj _) rfl rfl (by show 7<=9223372036854775807;decide);exact e w' _ (a.trans he) (OwnV.vals o|>.weaken λ_ _ _=>trivial)
def rl (ds:List M.Dcl) (t:M.Tm) (i:Nat):Option M.Tm:=[M.ruleX ds t,M.ruleB t,M.ruleT t,M.ruleL ds t,M.ruleW ds t,M.ruleS t,M.ruleF t].getD i none
theorem callRule {dv tv:Value} {mb:Nat} {ds:List M.Dcl} {t:M.Tm} {i:Nat} (e:i<7) (c:DclsR F w dv ds) (hm:KindsR w mb) (a:M.declOk ds=true) (d:TermR G w tv t) (hs:M.sortM ds t≠ -1) (b:jK0 K w G (rl ds t i)):vcallv P ((fsL dv mb).getD i undef) #[tv] w K:=by
 match i,e with
 |0,_=>exact fixed_spec c hm a d hs b
 |1,_=>exact branches_spec c hm a d hs b
 |2,_=>exact truths_spec c hm d hs b
 |3,_=>exact layers_spec c hm a d hs b
 |4,_=>exact twins_spec c hm a d hs b
 |5,_=>exact seconds_spec c hm d b
 |6,_=>exact firsts_spec c hm d b
theorem rl_none {ds:List M.Dcl} {t:M.Tm} (h:∀j,j<7->rl ds t j=none):M.ruleA ds t=none:=by
 have a:M.ruleX ds t=none:=h 0 oM;have b:M.ruleB t=none:=h 1 oM;have c:M.ruleT t=none:=h 2 oM;have d:M.ruleL ds t=none:=h 3 oM;have e:M.ruleW ds t=none:=h 4 oM;have f:M.ruleS t=none:=h 5 oM;have g:M.ruleF t=none:=h 6 oM;unfold M.ruleA;rw[a,b,c,d,e,f,g];rfl
theorem rl_some {ds:List M.Dcl} {t u:M.Tm} {i:Nat} (a:i<7) (h:∀j,j<i->rl ds t j=none) (hu:rl ds t i=some u):M.ruleA ds t=some u:=by
 have g:∀j,j<i->rl ds t j=none:=h;unfold M.ruleA
 match i,a with
 |0,_=>rw[show M.ruleX ds t=some u from hu];rfl
 |1,_=>rw[show M.ruleX ds t=none from g 0 oM,show M.ruleB t=some u from hu];rfl
 |2,_=>rw[show M.ruleX ds t=none from g 0 oM,show M.ruleB t=none from g 1 oM,show M.ruleT t=some u from hu];rfl
 |3,_=>rw[show M.ruleX ds t=none from g 0 oM,show M.ruleB t=none from g 1 oM,show M.ruleT t=none from g 2 oM,show M.ruleL ds t=some u from hu];rfl
 |4,_=>rw[show M.ruleX ds t=none from g 0 oM,show M.ruleB t=none from g 1 oM,show M.ruleT t=none from g 2 oM,show M.ruleL ds t=none from g 3 oM,show M.ruleW ds t=some u from hu];rfl
 |5,_=>rw[show M.ruleX ds t=none from g 0 oM,show M.ruleB t=none from g 1 oM,show M.ruleT t=none from g 2 oM,show M.ruleL ds t=none from g 3 oM,show M.ruleW ds t=none from g 4 oM,show M.ruleS t=some u from hu];rfl
 |6,_=>rw[show M.ruleX ds t=none from g 0 oM,show M.ruleB t=none from g 1 oM,show M.ruleT t=none from g 2 oM,show M.ruleL ds t=none from g 3 oM,show M.ruleW ds t=none from g 4 oM,show M.ruleS t=none from g 5 oM,show M.ruleF t=some u from hu];rfl
theorem one_spec {dv tv:Value} {mb:Nat} {ds:List M.Dcl} {t:M.Tm} (hd:DclsR F w dv ds) (hm:KindsR w mb) (S:M.declOk ds=true) (ht:TermR G w tv t) (hs:M.sortM ds t≠ -1) (O:∀w' rv,Ext w w'->TermR (λx=>G x\/w.heap.size<=x) w' rv (M.oneT ds t)->K rv w'):vcall P Yu #[Y2 dv mb,tv] w K:=by
 apply xi0;refine rs_enter (B:=λt2 t3 t4 a3=>_) hd hm ht λw1 b2 b3 b4 kv rs=>?_;rw[rs.f.ldAgg (t:=zF) jA];refine Qy0 λw2 fv Q J=>?_;have r2:=yC rs Q;simp only[push_cast,J.len];have W:(fsL dv mb).length=7:=rfl;rw[W];refine vloop_up 7 (λi u w'=>u=[.int .i64 i]/\Ext w2 w'/\∀j,j<i->rl ds t j=none) ⟨rfl,Same.refl _ _,λj R=>absurd R oM⟩ ?_;rintro i _ _ X C hi ⟨rfl,p,g⟩ hC;have c:=yC r2 p;have f3:=J.ext p;simp only[push_cast];refine zh (λa=>?_) (λa=>?_)
 ·have L:i<7:=oM;simp(disch:=first|(simp only[push_cast])|(rw[W];omega)|omega) only[push_cast,f3.iaddr,f3.load,c.q.ldAgg (t:=za) zp];refine callRule (G:=λx=>G x/\x<w.heap.size) L c.d c.m S ⟨kv,rfl,c.k⟩ hs λY rv u H hu s=>?_;have r4:=yC c H;simp only[push_cast];obtain⟨cu,rfl,o⟩:=hu.cells;refine zB zG λb5 w5 a0 I a1 h5=>?_;have D:=(o.weaken (F':=λx=>((G x/\x<w.heap.size)\/X.heap.size<=x)/\x<Y.heap.size) λb h h'=>⟨h,h'⟩).ext I;refine stTerm h5 rfl D λZ T a2 h6=>?_;have n:Ext Y Z:=Ext.then I T λy N=>by subst N;omega
  have V:=yC r4 n;have E:TmR (λx=>(G x/\x<w.heap.size)\/X.heap.size<=x) Z cu u:=o.ext n;cases e:rl ds t i with
  |none=>
   simp only[push_cast,Option.isSome_none];rw[inc64' oM];refine hC oM _ _ ⟨rfl,p.trans (H.trans n),λj R=>?_⟩;by_cases ej:j<i
   ·exact g j ej
   ·have:j=i:=oM;subst this;exact e
  |some x=>
   simp only[push_cast,Option.isSome_some];rw[h6.ldAgg (t:=za) (by rw[yl o];exact zp)];have A:=s x e;subst A;have l4:=c.r.lt;refine ZF V.r rfl E (λx A=>by have:=c.lo;omega) λw7 z U v=>?_;have l:M.oneT ds t=u:=by unfold M.oneT;rw[rl_some L g e];rfl
   rw[l] at O;refine O _ _ (Ext.then V.ext z λy N=>by subst N;exact V.lo) (v.weaken λx A _=>?_);have:=c.ext.size;rcases A with h|h
   ·exact .inl h.1
   ·exact .inr oM
 ·rw[c.q.ldAgg (t:=za) zp];have l:M.oneT ds t=t:=by unfold M.oneT;rw[rl_none λj R=>g j oM];rfl
  rw[l] at O;refine ZF c.r rfl (TmR.of (t:=t) c.k) (λx A=>by have:=c.lo;omega) λw7 z U v=>?_;exact O _ _ (Ext.then c.ext z λy N=>by subst N;exact c.lo) (v.weaken λx A _=> .inl A.1)
theorem fold_spec:∀(t:M.Tm) {w:World} {K:Value->World->Prop} {F G:Nat->Prop} {dv tv:Value} {mb:Nat} {ds:List M.Dcl},DclsR F w dv ds->KindsR w mb->M.declOk ds=true->TermR G w tv t->M.sortM ds t≠ -1->(∀w' rv,Ext w w'->TermR (λx=>G x\/w.heap.size<=x) w' rv (M.foldT ds t)->K rv w')->vcall P jQ #[Y2 dv mb,tv] w K:=by
 refine M.Tm.ind λt ih w K F G dv tv mb ds hd hm W ht hs hK=>?_;have hlen:=M.len_of hs;have b7:t.ks.length<=3:=by
  unfold M.arity at hlen
  repeat' split at hlen
  all_goals omega
 apply zV0;obtain⟨kv,rfl,ah⟩:=ht;refine zx λb1 w1 av a2 az h1=>?_;refine zx λb2 w2 aw a3 b0 h2=>?_;refine zB zG λb3 w3 ax S b4 h3=>?_;have b8:=a2.size;have q3:=h2.ext S;have f3:=(h1.ext a3).ext S;have a0:=a2.trans (a3.trans S);have af:TmsR (λx=>G x/\x<w.heap.size) w3 kv t.ks:=(ah.weaken λb h h'=>⟨h,h'⟩).ext a0;simp only[push_cast,q3.ld4];refine q3.st (i:=4) rfl rfl qr rfl λH D b9 h4=>?_;replace h4:Blk H b2 [.int .i64 t.op,.int .i64 t.a,.int .i64 t.b,.string t.s,.slice none 0 0] za:=h4;have a1:Ext w H:=Ext.then a0 D λy Y=>by subst Y;omega
 have a5:=af.same D λb d _ e=>oM
 have f4:=f3.same D oM;have r4:=h3.same D oM;simp only[push_cast,a5.len];refine vloop_up t.ks.length (λi u w'=>u=[.int .i64 i]/\Same (λb=>b=b2) H w'/\∃k css,Blk w' b2 [.int .i64 t.op,.int .i64 t.a,.int .i64 t.b,.string t.s,k] za/\Own P 0 5 zb w' k css/\css.length=i/\(∀b,k.ownBlock=some b->H.heap.size<=b)/\
   ∀j,j<i->TmR (λx=>(G x/\x<w.heap.size)\/(H.heap.size<=x/\k.ownBlock≠some x)) w' (css.getD j []) (M.foldT ds (t.ks.getD j default)))
  ⟨rfl,Same.refl _ _,_,[],h4,Own.nil _ _ _ _ _,rfl,λb h=>(by cases h),λj hj=>absurd hj oM⟩ ?_
 rintro i _ _ w5 C hi ⟨rfl,f,k,css,h5,A,V,g,J⟩ hC;have ba:=f.size;have q:Ext w w5:=Ext.then a1 f λy Y=>by subst Y;omega
 have a6:=a5.same f λb d _ e=>oM
 have f5:=f4.same f oM;simp only[push_cast];refine zh (λa=>?_) (λa=>?_)
 ·simp(disch:=first|(simp only[push_cast])|omega) only[push_cast,a6.iaddr];refine a6.load zp oM λx hx=>?_;obtain⟨cx,rfl,R⟩:=hx.cells;refine zB zG λb6 w6 ay r b5 h6=>?_;refine stTerm h6 rfl (R.ext r) λw7 X aj h7=>?_;have ab:Ext w5 w7:=Ext.then r X λy Y=>by subst Y;omega
  refine zu λw8 a4 _=>?_;have l:=ab.trans a4;have q8:=h5.ext l;have f8:=f5.ext l;have v8:=h7.ext a4;simp only[push_cast,q8.ld4,f8.ldAgg (t:=zF) jA,v8.ldAgg (t:=za) (by rw[yl R];exact zp),true_and];have N:t.ks.getD i default∈t.ks:=M.getD_mem oM _;refine ih _ N (hd.ext (q.trans l)) (hm.ext (q.trans l)) W (R.ext l).term ((M.sort_parts hs).2.1 _ N) λw9 rv T B=>?_;obtain⟨cr,rfl,o⟩:=B.cells;have q9:=q8.ext T;simp only[push_cast,q9.ld4,true_and,and_self];have ar:=l.size;have bb:=T.size;refine xD yS xe zG rfl (yl o) dC λau bc al m am ac=>?_;have aa:=q9.ext m;simp only[push_cast,aa.ld4,true_and,and_self];have I:=l.trans (T.trans m);have a9:=A.ext I;refine Own.app1k a9 YD dC ac (yl o) (tmR_one o) oM oM λp bd O n v=>?_;have ak:=aa.same n (λe=>by have:=g _ e;have:=h5.lt;omega);have ao:=n.size
  try simp only[push_cast,true_and]
  have a7:p.cells= #[p]/\p.oneCell'=true:=by
   obtain⟨a,c,rfl,_⟩:=O.sl.shape;exact⟨rfl,rfl⟩
  refine ak.st (i:=4) a7.1 a7.2 qr rfl λE z ap Q=>?_;replace Q:Blk E b2 [.int .i64 t.op,.int .i64 t.a,.int .i64 t.b,.string t.s,p] za:=Q;rw[inc64' oM];have an:=m.size;have L:∀b,p.ownBlock=some b->H.heap.size<=b:=λb d=>by
   rcases v b d with h|h
   ·exact g b h
   ·omega
  have Z:Same (λb=>b=b2\/k.ownBlock=some b) w5 E:=(Same.of_ext I).trans ((n.mono λ_ _ h=> .inr h).trans (z.mono λ_ _ h=> .inl h));have ad:Same (λb=>b=b2) H E:=⟨Z.os.trans f.os,Z.tape.trans f.tape,Z.output.trans f.output,Gc f.size Z.size,λb d a8=>(Z.block b oM (λe=>e.elim a8 λe=>by have:=g b e;omega)).trans (f.block b d a8)⟩;refine hC oM _ _ ⟨rfl,ad,p,css++[cr],Q,O.same z (λb d e=>by have:=L b d;omega),by simp[V],L,λj hj=>?_⟩;by_cases ej:j<i
  ·rw[q0,gy oM,<-q0];refine((J j ej).weaken (F':=λx=>((G x/\x<w.heap.size)\/(H.heap.size<=x/\k.ownBlock≠some x))/\x<w5.heap.size) λb h h'=>⟨h,h'⟩).same Z (λb d _ e=>?_)|>.weaken λb d _=>?_
   ·rcases d.1 with h|h
    ·rcases e with e|e
     ·omega
     ·have:=g b e;omega
    ·rcases e with e|e
     ·omega
     ·exact h.2 e
   ·rcases d.1 with h|h
    ·exact .inl h
    ·refine .inr ⟨h.1,λe=>?_⟩;rcases v b e with e|e
     ·exact h.2 e
     ·omega
  ·have:j=i:=oM;subst this;rw[q0,gO oM,V,GC];show TmR _ E cr _;refine(((o.weaken (F':=λx=>((G x/\x<w.heap.size)\/w8.heap.size<=x)/\x<w9.heap.size) λb h h'=>⟨h,h'⟩).ext m).same n (λb d _ e=>?_)).same z (λb d _ e=>?_)|>.weaken λb d _=>?_
   ·have:=g b e;have:=(A.lt e).2;rcases d.1 with h|h<;>omega
   ·rcases d.1 with h|h<;>omega
   ·rcases d.1 with h|h
    ·exact .inl h
    ·refine .inr ⟨oM,λe=>?_⟩;rcases v b e with e|e
     ·have:=(A.lt e).2;omega
     ·omega
 ·have ae:i=t.ks.length:=oM;subst ae;rw[f5.ldAgg (t:=zF) jA,h5.ldAgg (t:=za) zp];have ag:TmsR (λx=>(G x/\x<w.heap.size)\/H.heap.size<=x) w5 k (t.ks.map (M.foldT ds)):=by
   refine⟨css,A.sl.weaken λb d _=> .inr (g b d),by rw[V,X0],λj hj=>?_⟩;rw[X0] at hj;rw[M.getD_map _ hj _ default];exact(J j hj).weaken λb d _=>d.imp id λh=>h.1
  have U:=M.kids_good W hs;refine one_spec (t:=M.remake t (t.ks.map (M.foldT ds))) (hd.ext q) (hm.ext q) W ⟨k,rfl,ag⟩ (by rw[U.sort];exact hs) λw6 rv r B=>?_;rw[<-M.foldT_rem] at B;obtain⟨cr,rfl,o⟩:=B.cells;have r6:=(r4.same f oM).ext r;have:=r4.lt;refine ZF r6 rfl o (λx hx=>by rcases hx with(h|h)|h<;>omega) λw7 X aj ai=>?_;have aq:=a1.size;exact hK _ _ (Ext.then (q.trans r) X λy Y=>by subst Y;omega) (ai.weaken λx hx _=>by
   rcases hx with(h|h)|h
   ·exact .inl h.1
   ·exact .inr oM
   ·exact .inr oM)
end
section
variable {w:World} {K:Value->World->Prop} {F D G:Nat->Prop}
inductive TmO (w:World):(Nat->Prop)->List Value->M.Tm->Prop
 |mk {D:Nat->Prop} {kv:Value} {t:M.Tm} (css:List (List Value)) (Ds:Nat->Nat->Prop) (own:Own P 0 5 zb w kv css) (hl:css.length=t.ks.length)
   (hb:∀b,kv.ownBlock=some b->D b/\∀i,i<t.ks.length->¬Ds i b) (hd:∀i j b,i<j->j<t.ks.length->Ds i b->¬Ds j b) (hs:∀i b,i<t.ks.length->Ds i b->D b)
   (hk:∀i,i<t.ks.length->TmO w (Ds i) (css.getD i []) (t.ks.getD i default)):TmO w D [.int .i64 t.op,.int .i64 t.a,.int .i64 t.b,.string t.s,kv] t
theorem Xq0 {cs:List Value} {t:M.Tm} (h:TmO w D cs t):∃(kv:Value) (css:List (List Value)) (Ds:Nat->Nat->Prop),cs=[.int .i64 t.op,.int .i64 t.a,.int .i64 t.b,.string t.s,kv]/\Own P 0 5 zb w kv css/\css.length=t.ks.length/\
  (∀b,kv.ownBlock=some b->D b/\∀i,i<t.ks.length->¬Ds i b)/\(∀i j b,i<j->j<t.ks.length->Ds i b->¬Ds j b)/\(∀i b,i<t.ks.length->Ds i b->D b)/\∀i,i<t.ks.length->TmO w (Ds i) (css.getD i []) (t.ks.getD i default):=by
 cases h with
 |mk css Ds own f c d hs e=>exact⟨_,css,Ds,rfl,own,f,c,d,hs,e⟩
theorem Z70:∀(t:M.Tm) {D:Nat->Prop} {cs:List Value},TmO w D cs t->TmR D w cs t:=by
 refine M.Tm.ind λt g D cs h=>?_;obtain⟨kv,css,Ds,rfl,own,f,d,j,hs,e⟩:=Xq0 h;exact TmR.of ⟨css,own.sl.weaken λb a _=>(d b a).1,f,λi c=>(g _ (M.getD_mem c _) (e i c)).weaken λb a _=>hs i b c a⟩
theorem zu0 {S:Nat->Prop} {w w':World} (hw:Same S w w'):∀(t:M.Tm) {D:Nat->Prop} {cs:List Value},TmO w D cs t->(∀b,D b->¬S b)->TmO w' D cs t:=by
 refine M.Tm.ind λt l D cs h e=>?_;obtain⟨kv,css,Ds,rfl,own,k,d,g,hs,j⟩:=Xq0 h;exact .mk css Ds (own.same hw λb f=>e b (d b f).1) k d g hs λi c=>l _ (M.getD_mem c _) (j i c) λb a=>e b (hs i b c a)
theorem WF0 {w':World} {cs:List Value} {t:M.Tm} (h:TmO w D cs t) (hw:Ext w w'):TmO w' D cs t:=zu0 hw t h λ_ _ h=>h
theorem XF {cs:List Value} {t:M.Tm} (h:TmO w D cs t) (a:∀b,D b->F b):TmO w F cs t:=by
 obtain⟨kv,css,Ds,rfl,own,g,c,d,hs,f⟩:=Xq0 h;exact .mk css Ds own g (λb h=>⟨a b (c b h).1,(c b h).2⟩) d (λi b e h=>a b (hs i b e h)) f
structure Grow (lo:Nat) (w:World) (kv:Value) (css:List (List Value)) (us:List M.Tm) (Ds:Nat->Nat->Prop):Prop where
 own:Own P 0 5 zb w kv css
 len:css.length=us.length
 blk:∀b,kv.ownBlock=some b->lo<=b/\∀j,j<us.length->¬Ds j b
 dis:∀j k b,j<k->k<us.length->Ds j b->¬Ds k b
 sub:∀j b,j<us.length->Ds j b->lo<=b/\b<w.heap.size
 kid:∀j,j<us.length->TmO w (Ds j) (css.getD j []) (us.getD j default)
theorem Qa0 (lo:Nat) (w:World):Grow lo w (.slice none 0 0) [] [] λ_ _=>False:=
 ⟨Own.nil _ _ _ _ _,rfl,λb h=>(by cases h),λj k b _ c=>absurd c (by simp),λj b a=>absurd a (by simp),λj a=>absurd a (by simp)⟩
theorem qQ0 {S:Nat->Prop} {lo:Nat} {kv:Value} {w':World} {css:List (List Value)} {us:List M.Tm} {Ds:Nat->Nat->Prop} (h:Grow lo w kv css us Ds) (hw:Same S w w') (hs:∀b,lo<=b->¬S b):Grow lo w' kv css us Ds:=
 ⟨h.own.same hw λb a=>hs b (h.blk b a).1,h.len,h.blk,h.dis,λj b c a=>⟨(h.sub j b c a).1,gJ (h.sub j b c a).2 hw.size⟩,λj c=>zu0 hw _ (h.kid j c) λb a=>hs b (h.sub j b c a).1⟩
theorem grow_push {lo s:Nat} {kv:Value} {F y z o:World} {css:List (List Value)} {us:List M.Tm} {Ds:Nat->Nat->Prop} {cr:List Value} {u:M.Tm} (h:Grow lo F kv css us Ds) (G:Ext F y) (H:Ext y z) (S:lo<=y.heap.size)
  (J:TmO z (λb=>y.heap.size<=b/\b<z.heap.size) cr u) (q:Ext z o) (B:Blk o s cr za) (T:us.length<=1048576)
  (Q:∀d g A,Grow lo g d (css++[cr]) (us++[u]) A->Same (λb=>kv.ownBlock=some b) o g->d.cells= #[d]->d.oneCell'=true->K d g):
  vbi P .append [zb,zb] zb [kv,.slice (some ⟨s,0,none⟩) 1 1] o K:=by
 have v:=Z70 _ J;have t:=G.trans (H.trans q);have g10:=qQ0 h t λb _ h=>h;have U:=G.size;have V:=H.size;have L:=q.size;have I:=h.len;refine Own.app1k g10.own YD dC B (yl v) (tmR_one v) oM oM λd g p f x=>?_;have N:=f.size;have w:d.cells= #[d]/\d.oneCell'=true:=by
  obtain⟨a,c,rfl,_⟩:=p.sl.shape;exact⟨rfl,rfl⟩
 have hold:∀b,kv.ownBlock=some b->b<F.heap.size:=λb i=>(h.own.lt i).2;refine Q d g (λj b=>(j=us.length/\y.heap.size<=b/\b<z.heap.size)\/(j<us.length/\Ds j b)) ⟨p,by simp[I],λb i=>?_,λj k b D R r E=>?_,λj b r i=>?_,λj r=>?_⟩ f w.1 w.2
 ·rcases x b i with e|e
  ·refine⟨(h.blk b e).1,λj r C=>?_⟩;rcases C with⟨_,m,_⟩|⟨m,n⟩
   ·have:=hold b e;omega
   ·exact(h.blk b e).2 j m n
  ·refine⟨oM,λj r C=>?_⟩;rcases C with⟨_,_,m⟩|⟨m,n⟩
   ·omega
   ·have:=(h.sub j b m n).2;omega
 ·rw[k6,gz] at R;rcases r with⟨m,n,O⟩|⟨m,n⟩
  ·omega
  ·rcases E with⟨g1,g2,g3⟩|⟨g1,g2⟩
   ·have:=(h.sub j b m n).2;omega
   ·exact h.dis j k b D g1 n g2
 ·rcases i with⟨m,n,O⟩|⟨m,n⟩
  ·exact⟨oM,oM⟩
  ·have:=h.sub j b m n;exact⟨this.1,oM⟩
 ·rw[k6,gz] at r;by_cases e:j<us.length
  ·rw[q0,gy oM,<-q0,q0 (l:=us++[u]),gy e,<-q0];refine XF (zu0 f _ (g10.kid j e) λb i hs=>(h.blk b hs).2 j e i) λb i=> .inr ⟨e,i⟩
  ·have:j=us.length:=oM;subst this;rw[q0,gO oM,I,GC,q0 (l:=us++[u]),gO (gq _),GC];show TmO g _ cr u;refine XF (zu0 f _ (WF0 J q) λb i hs=>by have:=hold b hs;omega) λb i=> .inl ⟨rfl,i⟩
theorem YQ0 {lo:Nat} {kv:Value} {css:List (List Value)} {t:M.Tm} {Ds:Nat->Nat->Prop} (h:Grow lo w kv css t.ks Ds):TmO w (λb=>lo<=b/\b<w.heap.size) [.int .i64 t.op,.int .i64 t.a,.int .i64 t.b,.string t.s,kv] t:=
 .mk css Ds h.own h.len (λb c=>⟨⟨(h.blk b c).1,(h.own.lt c).2⟩,(h.blk b c).2⟩) h.dis (λi b d c=>h.sub i b d c) h.kid
theorem retO {b:Nat} {cs cs':List Value} {t:TypeId} {t':M.Tm} {K:Value->World->Prop} (h:Blk w b cs t) (i:cs.length=5) (d:TmO w G cs' t') (c:∀x,G x->x≠b) (g:∀w',Same (· =b) w w'->w'.heap.size=w.heap.size->TmO w' G cs' t'->K (.agg ⟨cs'⟩) w'):
  zm P za (.pointer (some ⟨b,0,none⟩)) (.agg ⟨cs'⟩) w λ_ w1=>vlv P za (.pointer (some ⟨b,0,none⟩)) w1 λr w2=>K r w2:=
 ZF h i (Z70 _ d) c λw' hw j _=>g w' hw j (zu0 hw _ d λf a e=>c f a e)
theorem V7 {us:List M.Tm} {i:Nat} (h:i<us.length):us.take i++[us.getD i default]=us.take (i+1):=(M.take_add h default).symm
theorem copyTerm_spec:∀(t:M.Tm) {w:World} {K:Value->World->Prop} {F:Nat->Prop} {v:Value},TermR F w v t->Ke0 t=true->(∀w' cs,Ext w w'->TmO w' (λb=>w.heap.size<=b/\b<w'.heap.size) cs t->K (.agg ⟨cs⟩) w')->vcall P ki #[v] w K:=by
 refine M.Tm.ind λt ih w K F v ht J hK=>?_;obtain⟨f1,f2⟩:=fitB_iff.1 J;apply jo0;obtain⟨kv,rfl,a2⟩:=ht;refine zx λb1 w1 af E ai h1=>?_;refine zB zG λb2 w2 ag G aj h2=>?_;have al:=E.size;have q2:=h1.ext G;have z:=E.trans G;have a1:TmsR (λx=>x<w.heap.size) w2 kv t.ks:=(a2.weaken λb _ h'=>h').ext z;simp only[push_cast,q2.ld4];refine q2.st (i:=4) rfl rfl qr rfl λS p am W=>?_;replace W:Blk S b1 [.int .i64 t.op,.int .i64 t.a,.int .i64 t.b,.string t.s,.slice none 0 0] za:=W;have A:Ext w S:=Ext.then z p λy q=>by subst q;omega
 have L:=a1.same p λb D _ e=>oM
 have r4:=h2.same p oM;simp only[push_cast,L.len];refine vloop_up t.ks.length (λi u w'=>u=[.int .i64 i]/\Same (λb=>b=b1) S w'/\∃g css Ds,Blk w' b1 [.int .i64 t.op,.int .i64 t.a,.int .i64 t.b,.string t.s,g] za/\Grow S.heap.size w' g css (t.ks.take i) Ds)
  ⟨rfl,Same.refl _ _,_,[],_,W,Qa0 _ _⟩ ?_
 rintro i _ _ w5 C hi ⟨rfl,c,g,css,Ds,h5,g5⟩ hC;have an:=c.size;have ac:=A.size;have X:Ext w w5:=Ext.then A c λy q=>by subst q;omega
 have N:=L.same c λb D _ e=>oM
 simp only[push_cast];refine zh (λa=>?_) (λa=>?_)
 ·simp(disch:=first|(simp only[push_cast])|omega) only[push_cast,N.iaddr];refine N.load zp oM λx hx=>?_;obtain⟨cx,rfl,n⟩:=hx.cells;refine zB zG λb6 w6 ah H ak h6=>?_;refine stTerm h6 rfl (n.ext H) λw7 a5 ap h7=>?_;have U:Ext w5 w7:=Ext.then H a5 λy q=>by subst q;omega
  refine zu λw8 I _=>?_;have d:=U.trans I;have q8:=h5.ext d;have v8:=h7.ext I;simp only[push_cast,q8.ld4,v8.ldAgg (t:=za) (by rw[yl n];exact zp),true_and];have j:t.ks.getD i default∈t.ks:=M.getD_mem oM _;have ad:=d.size;refine ih _ j (n.ext d).term (f2 _ j) λw9 cr o hr=>?_;have q9:=q8.ext o;simp only[push_cast,q9.ld4,true_and,and_self];have Z:=Z70 _ hr;refine xD yS xe zG rfl (yl Z) dC λae aq a9 f aa V=>?_;have R:=q9.ext f;simp only[push_cast,R.ld4,true_and,and_self];refine grow_push g5 d o oM hr f V (by rw[gi];omega) λQ ar T g11 k a6 a7=>?_;have a8:=R.same k (λe=>by have:=(g5.blk _ e).1;omega)
  try simp only[push_cast,true_and]
  refine a8.st (i:=4) a6 a7 qr rfl λr l ab m=>?_;replace m:Blk r b1 [.int .i64 t.op,.int .i64 t.a,.int .i64 t.b,.string t.s,Q] za:=m;rw[inc64' oM];have B:Same (λb=>b=b1\/g.ownBlock=some b) w5 r:=(Same.of_ext (d.trans (o.trans f))).trans ((k.mono λ_ _ h=> .inr h).trans (l.mono λ_ _ h=> .inl h));have Y:Same (λb=>b=b1) S r:=⟨B.os.trans c.os,B.tape.trans c.tape,B.output.trans c.output,Gc c.size B.size,λb D O=>(B.block b oM (λe=>e.elim O λe=>by have:=(g5.blk b e).1;omega)).trans (c.block b D O)⟩;rw[V7 oM] at g11;exact hC oM _ _ ⟨rfl,Y,Q,_,T,m,qQ0 g11 l λb D e=>oM⟩
 ·have a0:i=t.ks.length:=oM;subst a0;rw[gA] at g5;rw[h5.ldAgg (t:=za) zp];refine retO (r4.same c oM) rfl (YQ0 g5) (λx hx=>oM) λw6 a4 ao a3=>?_;exact hK _ _ (Ext.then X a4 λy q=>by subst q;omega) (XF a3 λb D=>⟨oM,oM⟩)
@[push_cast] theorem bd_T4 (o a b:Int) (s:ByteArray):zD P za [(0,.int .i64 o),(1,.int .i64 a),(2,.int .i64 b),(3,.string s)] w K=K (.agg ⟨[.int .i64 o,.int .i64 a,.int .i64 b,.string s,.slice none 0 0]⟩) w:=yp Zx (us:=[[.int .i64 o],[.int .i64 a],[.int .i64 b],[.string s]]) rfl rfl
theorem l3Copy_spec:∀(t:M.Tm) {w:World} {K:Value->World->Prop} {F:Nat->Prop} {v:Value},TermR F w v t->Ke0 t=true->(∀w' cs,Ext w w'->TmO w' (λb=>w.heap.size<=b/\b<w'.heap.size) cs t->K (.agg ⟨cs⟩) w')->vcall P kE #[v] w K:=by
 refine M.Tm.ind λt ih w K F v ht D hK=>?_;obtain⟨f1,f2⟩:=fitB_iff.1 D;apply ZO0;obtain⟨kv,rfl,G⟩:=ht;refine zx λb1 w1 aa z ae h1=>?_;refine zB zG λb2 w2 ab A af h2=>?_;have ai:=z.size;have S:=h1.ext A;simp only[push_cast,S.ld0,S.ld1,S.ld2,S.ld3];refine zB zG λb3 w3 ac B ag h3=>?_;refine stTerm h3 rfl (zA0 t.op t.a t.b t.s:TmR (λ_=>False) w3 _ _) λQ J aj h4=>?_;have q:Ext w1 Q:=Ext.then (A.trans B) J λy L=>by subst L;omega
 have n:=z.trans q;have q4:=h1.ext q;have r4:=(h2.ext B).same J oM;have Z:TmsR (λx=>x<w.heap.size) Q kv t.ks:=(G.weaken λb _ h'=>h').ext n;have ah:=G.small;refine vloop_up t.ks.length (λi u w'=>u=[.int .i64 i]/\Same (λb=>b=b3) Q w'/\∃g css Ds,Blk w' b3 [.int .i64 t.op,.int .i64 t.a,.int .i64 t.b,.string t.s,g] za/\Grow Q.heap.size w' g css (t.ks.take i) Ds)
  ⟨rfl,Same.refl _ _,_,[],_,h4,Qa0 _ _⟩ ?_
 rintro i _ _ w5 C hi ⟨rfl,c,g,css,Ds,h5,g5⟩ hC;have ak:=c.size;have a8:=n.size;have V:Ext w w5:=Ext.then n c λy L=>by subst L;omega
 have E:=Z.same c λb R _ e=>oM
 have q5:=q4.same c oM;simp only[push_cast,q5.ld4,E.len];refine zh (λa=>?_) (λa=>?_)
 ·refine zu λw8 d _=>?_;have q8:=q5.ext d;have p8:=h5.ext d;obtain⟨cks,I,ad,hc⟩:=E.ext d;simp(disch:=first|(simp only[push_cast])|omega) only[push_cast,q8.ld4,p8.ld4,I.iaddr,I.ldAgg,true_and];have j:t.ks.getD i default∈t.ks:=M.getD_mem oM _;have am:=d.size;refine ih _ j (hc i oM).term (f2 _ j) λw9 cr o hr=>?_;have p9:=p8.ext o;simp only[push_cast,p9.ld4,true_and,and_self];have X:=Z70 _ hr;refine xD yS xe zG rfl (yl X) dC λa9 an a5 f a6 U=>?_;have O:=p9.ext f;simp only[push_cast,O.ld4,true_and,and_self];refine grow_push g5 d o oM hr f U (by rw[gi];omega) λN ao T g11 k a2 a3=>?_;have a4:=O.same k (λe=>by have:=(g5.blk _ e).1;omega)
  try simp only[push_cast,true_and]
  refine a4.st (i:=4) a2 a3 qr rfl λp l a7 m=>?_;replace m:Blk p b3 [.int .i64 t.op,.int .i64 t.a,.int .i64 t.b,.string t.s,N] za:=m;rw[inc64' oM];have r:Same (λb=>b=b3\/g.ownBlock=some b) w5 p:=(Same.of_ext (d.trans (o.trans f))).trans ((k.mono λ_ _ h=> .inr h).trans (l.mono λ_ _ h=> .inl h));have W:Same (λb=>b=b3) Q p:=⟨r.os.trans c.os,r.tape.trans c.tape,r.output.trans c.output,Gc c.size r.size,λb R H=>(r.block b oM (λe=>e.elim H λe=>by have:=(g5.blk b e).1;omega)).trans (c.block b R H)⟩;rw[V7 oM] at g11;exact hC oM _ _ ⟨rfl,W,N,_,T,m,qQ0 g11 l λb R e=>oM⟩
 ·have Y:i=t.ks.length:=oM;subst Y;rw[gA] at g5;rw[h5.ldAgg (t:=za) zp];refine retO (r4.same c oM) rfl (YQ0 g5) (λx hx=>oM) λw6 a1 al a0=>?_;exact hK _ _ (Ext.then V a1 λy L=>by subst L;omega) (XF a0 λb R=>⟨oM,oM⟩)
theorem fit_size:∀t:M.Tm,M.sizeM t<=1000->Ke0 t=true:=by
 refine M.Tm.ind λt d h=>?_;have c:∀i,i<t.ks.length->M.sizeM (M.kid t i)+1<=M.sizeM t:=λi a=>(M.kid_size a).1;have e:t.ks.length<=M.sizeM t:=by
  have:=M.szT_all t;have mono:∀i,i<=t.ks.length->i<=M.szT t.ks i:=λi=>by
   induction i with
   |zero=>intro _;exact Gj _
   |succ i ihi=>
    intro a;have:=ihi oM;have:=M.szT_succ (ks:=t.ks) (i:=i) oM;have:=(M.size_pos (t:=t.ks.getD i default)).1;omega
  have:=mono t.ks.length (gq _);omega
 refine fitB_iff.2 ⟨oM,λk b=>?_⟩;obtain⟨i,a,rfl⟩:=gl b;have:=c i a;unfold M.kid at this;rw[q0,Q1 a] at this;exact d _ b (by simp only[gI] at this;omega)
def yY0 (ds:List M.Dcl) (t:M.Tm):M.Tm:=if M.tsort ds t= -1 then .mk 0 0 0 M.nada [] else M.foldT ds t
theorem zeroO:TmO w D yK0 (.mk 0 0 0 M.nada []):=
 TmO.mk (t:= .mk 0 0 0 M.nada []) [] (λ_ _=>False) (Own.nil _ _ _ _ _) rfl (λb h=>(by cases h)) (λi j b _ c=>absurd c (by show¬j<0;omega)) (λi b a=>absurd a (by show¬i<0;omega)) (λi a=>absurd a (by show¬i<0;omega))
theorem small_of {ds:List M.Dcl} {t:M.Tm} (h:M.tsort ds t≠ -1):M.declOk ds=true/\M.sortM ds t≠ -1/\M.sizeM t<=20:=by
 rcases dtSize (ds:=ds) (t:=t) with e|⟨c,d,f,a,b⟩
 ·exact absurd e h
 ·exact⟨b,oM,(M.fits_iff.1 a).1⟩
theorem KF0 {a:Option Addr} {l c mb:Nat}:zD P zF [(0,.slice a l c),(1,.map (some mb))] w K=K (Y2 (.slice a l c) mb) w:=yp Yj0 (us:=[[.slice a l c],[.map (some mb)]]) rfl rfl
theorem TermFold_spec {dv tv:Value} {ds:List M.Dcl} {t:M.Tm} (s:DclsR F w dv ds) (C:TermR G w tv t) (m:∀w' cs,Ext w w'->TmO w' (λb=>w.heap.size<=b/\b<w'.heap.size) cs (yY0 ds t)->K (.agg ⟨cs⟩) w'):vcall P XT #[dv,tv] w K:=by
 apply jw0;obtain⟨ct,rfl,r⟩:=C.cells;have u:aggB P za ct.length=true:=by rw[yl r];exact zp
 refine zx λb1 w1 W n Y U=>?_;refine zB zG λb2 w2 X o Z V=>?_;have R:=U.ext o;have g:=n.trans o;have a1:=n.size;rw[R.ldAgg (t:=za) u];refine TermSort_spec (s.ext g) (C.ext g) λw3 d=>?_;have k:=g.trans d;have T:=V.ext d;have a2:=d.size;simp only[push_cast];unfold yY0 at m;refine zh (λa=>?_) (λa=>?_)
 ·rw[if_pos a] at m
  try simp only[push_cast]
  refine retO (G:=λ_=>False) T rfl zeroO (λx N=>N.elim) λw4 D I v=>?_;exact m _ _ (Ext.then k D λy H=>by subst H;omega) (XF v λb J=>J.elim)
 ·rw[if_neg a] at m;obtain⟨q,hs,a0⟩:=small_of a;refine zu λw4 e _=>?_;have S:=R.ext (d.trans e);simp only[push_cast,S.ldAgg (t:=za) u,true_and];refine yX0 λw5 mb f hm=>?_;have q5:=S.ext f;have c:=k.trans (e.trans f);obtain⟨da,dc,rfl,_⟩:=s.shape;rw[X0] at*;simp only[push_cast,q5.ldAgg (t:=za) u,true_and,and_self,KF0];refine fold_spec t (G:=λx=>x<w.heap.size) (s.ext c) hm q ((C.weaken λb _ h=>h).ext c) hs λw6 rv i B=>?_;have l:=c.trans i;have j:=M.fold_good q t hs;have L:=j.size;refine copyTerm_spec _ B (fit_size _ oM) λw7 cs p z=>?_;have a3:=c.size;have a4:=l.size;have r7:=T.ext (e.trans (f.trans (i.trans p)));have I:=e.size;have O:=f.size;have Q:=i.size;refine retO r7 rfl z (λx N=>oM) λw8 E a5 A=>?_;exact m _ _ (Ext.then (l.trans p) E λy H=>by subst H;omega) (XF A λb J=>⟨oM,oM⟩)
end
end Go.Proofs.YtokflbdfnbppjaaGreatDoor
namespace Go.M
open Go.Vc
section
section
variable {t:Tm}
def Wq0 (t v:Tm):Prop:=v.ks.length≠2\/kid v 0≠kid t 1\/kid v 1≠kid t 0\/v.op≠t.op
instance (t v:Tm):Decidable (Wq0 t v):=by unfold Wq0;infer_instance
end
end
end Go.M
namespace Go.Proofs.YtokflbdfnbppjaaGreatDoor
open Go Go.Vc Go.Proofs
theorem Yw0 {ds:List M.Dcl} {t:M.Tm} (a:M.declOk ds=true) (b:M.fits t=true):M.tsort ds t=M.sortM ds t:=by unfold M.tsort;rw[if_pos ⟨b,a⟩]
theorem VO0 {ds:List M.Dcl} {t:M.Tm} (a:M.declOk ds=true) (b:M.fits t=true) (hs:M.sortM ds t≠ -1):yY0 ds t=M.foldT ds t:=by
 unfold yY0;rw[if_neg (by rw[Yw0 a b];exact hs)]
end Go.Proofs.YtokflbdfnbppjaaGreatDoor
section
namespace Go.M
variable {ds:List Dcl} {env:List Int}
def msbN:List Bool->Nat
 |b::bs=>(if b then 2^bs.length else 0)+msbN bs
 |[]=>0
theorem XD (b:Bool) (bs:List Bool):msbN (b::bs)=(if b then 2^bs.length else 0)+msbN bs:=rfl
theorem msb_lt:∀bs:List Bool,msbN bs<2^bs.length
 |[]=>dC
 |b::bs=>by
  have:=msb_lt bs;rw[XD,gw,P9];split<;>omega
theorem msb_app:∀aa bs:List Bool,msbN (aa++bs)=msbN aa*2^bs.length+msbN bs
 |[],bs=>by simp[msbN]
 |a::aa,bs=>by
  rw[Gx,XD,XD,msb_app aa bs,k6,Nat.pow_add,G7];cases a
  ·simp
  ·simp only[if_true];omega
theorem Qn0 (w a:Nat):(jp (w+1) a).reverse=decide (a/2^w%2=1)::(jp w a).reverse:=by
 unfold jp;rw[PB,gu,List.reverse_append];rfl
theorem Qo0 {w a m:Nat} (h:∀i,i<w->a/2^i%2=m/2^i%2):jp w a=jp w m:=by
 unfold jp;exact Gb λi b=>by rw[h i (gr.1 b)]
theorem high_bit {w i m k:Nat} (h:i<w):(k*2^w+m)/2^i%2=m/2^i%2:=by
 have e:k*2^w=2^i*(k*(2*2^(w-i-1))):=by
  have:2^w=2^i*(2*2^(w-i-1)):=by rw[<-Nat.pow_succ',<-Nat.pow_add];congr 1;omega
  rw[this,<-P3,PI k (2^i),P3]
 rw[e,Nat.mul_add_div (PD i),show k*(2*2^(w-i-1))=2*(k*2^(w-i-1)) by rw[<-P3,PI k 2,P3]];omega
theorem bits_msb:∀bs:List Bool,(jp bs.length (msbN bs)).reverse=bs
 |[]=>rfl
 |b::bs=>by
  rw[gw,Qn0];have c:=msb_lt bs;have e:msbN (b::bs)=(if b then 1 else 0)*2^bs.length+msbN bs:=by rw[XD];cases b<;>simp
  rw[e,Qo0 (λi a=>high_bit a),bits_msb bs];congr 1;rw[PI,Nat.mul_add_div (PD _),Nat.div_eq_of_lt c];cases b<;>rfl
theorem msb_bits:∀(w a:Nat),a<2^w->msbN (jp w a).reverse=a
 |0,a,h=>by
  have:a=0:=(by simpa using h);subst this;rfl
 |w+1,a,h=>by
  rw[Qn0];have d:a/2^w<2:=by rw[Nat.div_lt_iff_lt_mul (PD w)];rw[P9] at h;omega
  have b:=Nat.div_add_mod a (2^w);have f:=Pg a (PD w);have e:jp w a=jp w (a%2^w):=Qo0 λi g=>by
   have:=high_bit (m:=a%2^w) (k:=a/2^w) g;rwa[PI,b] at this
  rw[XD,e,msb_bits w (a%2^w) f,GX,Z5];by_cases c:a/2^w%2=1
  ·rw[if_pos (by simpa using c)];have:a/2^w=1:=by generalize a/2^w=q at c d;omega
   rw[this,pL] at b;exact b
  ·rw[if_neg (by simpa using c)];have:a/2^w=0:=by generalize a/2^w=q at c d;omega
   rw[this,Nat.mul_zero] at b;exact b
theorem msb_lex:∀{aa bs:List Bool} {k:Nat},aa.length=bs.length->k<aa.length->(∀j,j<k->aa.getD j false=bs.getD j false)->aa.getD k false=false->bs.getD k false=true->msbN aa<msbN bs
 |[],_,_,_,h,_,_,_=>by simp at h
 |_::_,[],_,h,_,_,_,_=>by simp at h
 |a::aa,b::bs,0,f,_,_,d,e=>by
  have i:a=false:=(by simpa using d);have l:b=true:=(by simpa using e);subst i;subst l;have:=msb_lt aa;have c:aa.length=bs.length:=(by simpa using f);rw[XD,XD];rw[c] at this;simp only[gF,if_false,if_true];omega
 |a::aa,b::bs,k+1,f,m,he,d,e=>by
  have g:a=b:=(by simpa using he 0 oM);subst g;have c:aa.length=bs.length:=(by simpa using f);have:=msb_lex (aa:=aa) (bs:=bs) (k:=k) c (by simpa using m) (λj n=>by simpa using he (j+1) oM) (by simpa using d) (by simpa using e);rw[XD,XD,c];omega
def envB:List Dcl->List Bool->List Int
 |d::ds,ins=>(msbN (ins.take d.2.toNat):Int)::envB ds (ins.drop d.2.toNat)
 |[],_=>[]
theorem envB_len:∀(ds:List Dcl) (ins:List Bool),(envB ds ins).length=ds.length
 |[],_=>rfl
 |d::ds,ins=>by simp[envB,envB_len ds]
theorem ins_envB:∀{ds:List Dcl} {ins:List Bool},(∀d,d∈ds->0<=d.2)->ins.length=nIn ds->insM ds (envB ds ins)=ins
 |[],ins,_,c=>by
  have:ins=[]:=gC c;rw[this];rfl
 |d::ds,ins,b,c=>by
  have g:=b d V0;have a:∀x,x∈ds->0<=x.2:=λx f=>b x (gh _ f);have h:=bits_pos' a;have i:nIn (d::ds)=d.2.toNat+nIn ds:=by unfold nIn;rw[bits_cons'];omega
  have e:(ins.take d.2.toNat).length=d.2.toNat:=by rw[gi];omega
  have:=bits_msb (ins.take d.2.toNat);rw[e] at this;unfold envB insM;rw[gm,this,ins_envB a (by rw[GO];omega),GL]
theorem envB_ins:∀{ds:List Dcl} {env:List Int},env.length=ds.length->(∀i,i<ds.length->0<=(ds.getD i (nada,0)).2/\0<=env.getD i 0/\env.getD i 0<2^((ds.getD i (nada,0)).2).toNat)->envB ds (insM ds env)=env
 |[],[],_,_=>rfl
 |[],_::_,a,_=>by simp at a
 |_::_,[],a,_=>by simp at a
 |d::ds,n::env,a,h=>by
  have b:=h 0 (by simp);simp only[GP] at b;have f:(jp d.2.toNat n.toNat).reverse.length=d.2.toNat:=(by rw[GX,Z5]);have e:((2^d.2.toNat:Nat):Int)=2^d.2.toNat:=(by simp);unfold insM envB;rw[gY oM,gK oM,List.drop_append_of_le_length oM,Pn oM,Gf,msb_bits _ _ oM,
   envB_ins (by simpa using a) (λi c=>by simpa using h (i+1) (by simpa using c))]
  congr 1;omega
theorem env_nums (he:envOk ds env=true):∀i,i<ds.length->0<=(ds.getD i (nada,0)).2/\0<=env.getD i 0/\env.getD i 0<2^((ds.getD i (nada,0)).2).toNat:=λi a=>by
 have:=vok_iff.1 ((env_ok he).2.2 i a);omega
theorem Qf0 (he:envOk ds env=true):envB ds (insM ds env)=env:=envB_ins (env_ok he).2.1 (env_nums he)
theorem envB_vals:∀{ds:List Dcl} {ins:List Bool},ins.length=nIn ds->(∀d,d∈ds->0<=d.2)->∀i,i<ds.length->0<=(envB ds ins).getD i 0/\(envB ds ins).getD i 0<2^((ds.getD i (nada,0)).2).toNat
 |[],_,_,_,i,c=>by simp at c
 |d::ds,ins,j,b,0,_=>by
  have a:∀x,x∈ds->0<=x.2:=λx f=>b x (gh _ f);have h:=bits_pos' a;have g:=b d V0;have k:nIn (d::ds)=d.2.toNat+nIn ds:=by unfold nIn;rw[bits_cons'];omega
  have:=msb_lt (ins.take d.2.toNat);rw[gi,show min d.2.toNat ins.length=d.2.toNat by omega] at this;have e:((2^d.2.toNat:Nat):Int)=2^d.2.toNat:=(by simp);unfold envB;simp only[GP];omega
 |d::ds,ins,j,b,i+1,c=>by
  have a:∀x,x∈ds->0<=x.2:=λx f=>b x (gh _ f);have h:=bits_pos' a;have g:=b d V0;have k:nIn (d::ds)=d.2.toNat+nIn ds:=by unfold nIn;rw[bits_cons'];omega
  have:=envB_vals (ds:=ds) (ins:=ins.drop d.2.toNat) (by rw[GO];omega) a i (by simpa using c);unfold envB;simpa using this
theorem envB_ok {ins:List Bool} (a:declOk ds=true) (c:ins.length=nIn ds):envOk ds (envB ds ins)=true:=by
 have d:=envB_vals c (dpos a);unfold envOk;simp only[K3,decide_eq_true_eq,gH,gr];refine⟨⟨a,envB_len _ _⟩,λi b=>?_⟩;have:=dcl_wide a b;exact vok_iff.2 ⟨this.1,this.2,d i b⟩
theorem rank_msb:∀{ds:List Dcl} {env:List Int},env.length=ds.length->(∀i,i<ds.length->0<=(ds.getD i (nada,0)).2/\0<=env.getD i 0/\env.getD i 0<2^((ds.getD i (nada,0)).2).toNat)->rankE ds env=msbN (insM ds env)
 |[],[],_,_=>rfl
 |[],_::_,b,_=>by simp at b
 |_::_,[],b,_=>by simp at b
 |d::ds,n::env,b,h=>by
  have j:=h 0 (by simp);simp only[GP] at j;have c:env.length=ds.length:=(by simpa using b);have f:∀i,i<ds.length->0<=(ds.getD i (nada,0)).2/\0<=env.getD i 0/\env.getD i 0<2^((ds.getD i (nada,0)).2).toNat:=λi a=>(by simpa using h (i+1) (by simpa using a));have g:∀x,x∈ds->0<=x.2:=λx k=>by
   obtain⟨i,a,rfl⟩:=gl k;have:=(f i a).1;rwa[q0,Q1 a,gI] at this
  have e:((2^d.2.toNat:Nat):Int)=2^d.2.toNat:=(by simp);have a:=insM_len c g;have l:=bits_pos' g;unfold rankE insM;rw[msb_app,msb_bits _ _ oM,rank_msb c f,show(insM ds env).length=(bits ds).toNat by omega,Int.natCast_add,z0d,show((n.toNat:Nat):Int)=n by omega];simp
theorem Q20 (he:envOk ds env=true):rankE ds env=msbN (insM ds env):=rank_msb (env_ok he).2.1 (env_nums he)
def exK:List Bool->Int->List Int
 |b::bs,k=>(if b then-k else k)::exK bs (k+1)
 |[],_=>[]
def exC (ds:List Dcl) (env:List Int):List Int:=exK (insM ds env) 2
theorem exK_len:∀(bs:List Bool) (k:Int),(exK bs k).length=bs.length
 |[],_=>rfl
 |b::bs,k=>by simp[exK,exK_len bs]
theorem exK_get:∀{bs:List Bool} {k:Int} {i:Nat},i<bs.length->(exK bs k).getD i 0=if bs.getD i false then-(k+i) else k+i
 |[],_,_,h=>by simp at h
 |b::bs,k,0,_=>by simp[exK]
 |b::bs,k,i+1,h=>by
  have:=exK_get (bs:=bs) (k:=k+1) (i:=i) (by simpa using h);unfold exK;rw[GB,GB,this];split<;>omega
theorem exC_ok {m:Nat} (hm:1+(insM ds env).length<=m):qq m (exC ds env)=true:=by
 refine clause_iff.2 λk a=>?_;unfold exC at a⊢;rw[exK_len] at a;have e:=exK_get (k:=2) a;refine⟨?_,?_⟩
 ·rw[e];unfold yU0;simp only[K3,decide_eq_true_eq];split<;>omega
 ·cases k with
  |zero=>exact .inl rfl
  |succ k=>
   refine .inr ?_;rw[e,GN,exK_get (k:=2) (show k<_ by omega)];split<;>split<;>omega
theorem exC_true {v:Nat->Bool}:clT v (exC ds env)↔insV v (insM ds env).length≠insM ds env:=by
 unfold exC;constructor
 ·rintro⟨l,q,a⟩ he;obtain⟨i,c,rfl⟩:=gl q;have d:i<(insM ds env).length:=(by rwa[exK_len] at c);have e:=exK_get (k:=2) d;rw[q0,Q1 c,gI] at e;have j:=Qw (v:=v) (n:=(insM ds env).length) d;rw[he] at j;rw[e,j] at a;unfold Jr at a;cases f:v (i+2)
  ·rw[f] at a;simp only[gF,if_false] at a;rw[if_pos oM,show((2:Int)+i).natAbs=i+2 by omega,f] at a;cases a
  ·rw[f] at a;simp only[if_true] at a;rw[if_neg oM,show(-((2:Int)+i)).natAbs=i+2 by omega,f] at a;cases a
 ·intro h;have:∃i,i<(insM ds env).length/\v (i+2)≠(insM ds env).getD i false:=Gr λr=>h (by
   refine Ge (insV_len _ _) λi o g=>?_;have e:=Qw (v:=v) (n:=(insM ds env).length) (i:=i) g;rw[q0,Q1 o,gI] at e;rw[e];have:=Gr λb=>r ⟨i,g,b⟩;rwa[q0,Q1 g,gI] at this)
  obtain⟨i,c,b⟩:=this;have p:i<(exK (insM ds env) 2).length:=by rw[exK_len];exact c
  refine⟨(exK (insM ds env) 2).getD i 0,getD_mem p 0,?_⟩;rw[exK_get c];unfold Jr;cases m:(insM ds env).getD i false
  ·rw[m] at b;simp only[gF,if_false];rw[if_pos oM,show((2:Int)+i).natAbs=i+2 by omega];simpa using b
  ·rw[m] at b;simp only[if_true];rw[if_neg oM,show(-((2:Int)+i)).natAbs=i+2 by omega];simpa using b
def jobC (ds:List Dcl) (gs:Gs) (rs:List (List Int)) (nots:List (List Int)):Cnf:=netC (nIn ds) gs (rootsC rs++nots.map (exC ds))
def searchM (n:Nat) (ds:List Dcl) (c:Cnf):List Int×Int:=
 let s:=runM c.many.toNat c n emptyS
 if s.code=1 then(envB ds (insV (wayM s.put) (nIn ds)),1) else if s.code=2 then([],2) else([],3)
def solveM (n:Nat) (ds:List Dcl) (ts:List Tm) (nots:List (List Int)):List Int×Int:=match listB ds (ts.map (foldT ds)) with
 |none=>([],3)
 |some (gs,rs)=>searchM n ds (jobC ds gs rs nots)
def Sol (ds:List Dcl) (ts:List Tm) (nots:List (List Int)) (env:List Int):Prop:=envOk ds env=true/\allT ds env ts/\env∉nots
section
variable {ts:List Tm} {gs:Gs} {rs nots:List (List Int)}
theorem job_ok (b:declOk ds=true) (h:ListSays ds ts gs rs) (d:∀e,e∈nots->envOk ds e=true) (c:ts.length+nots.length<=90):cnfOk (jobC ds gs rs nots)=true:=by
 refine net_ok (nIn_eq b).2 h.net (by unfold rootsC;rw[k6,X0,X0,h.many];exact c) λcl a=>?_;rcases gj.1 a with a|a
 ·exact roots_ok b h cl a
 ·obtain⟨e,he,rfl⟩:=gk.1 a;exact exC_ok (by rw[insM_n (d e he)];omega)
theorem Q80 (i:declOk ds=true) (hs:∀t,t∈ts->sortM ds t=0) (h:ListSays ds ts gs rs) (j:∀e,e∈nots->envOk ds e=true) {v:Nat->Bool}:
  Kt0 v (jobC ds gs rs nots)↔Follows v (nIn ds) gs/\Sol ds ts nots (envB ds (insV v (nIn ds))):=by
 have g:=insV_len v (nIn ds);have f:=ins_envB (dpos i) g;have he:=envB_ok i g;unfold jobC;rw[net_sat h.net];constructor
 ·rintro⟨c,d⟩;refine⟨c,he,(way_true he hs h c f.symm).1 λcl a=>d cl (gj.2 (.inl a)),λhm=>?_⟩;have:=d _ (gj.2 (.inr (gk.2 ⟨_,hm,rfl⟩)));rw[exC_true,f,g] at this;exact this rfl
 ·rintro⟨c,_,k,hm⟩;refine⟨c,λcl a=>?_⟩;rcases gj.1 a with a|a
  ·exact(way_true he hs h c f.symm).2 k cl a
  ·obtain⟨e,b,rfl⟩:=gk.1 a;rw[exC_true,insM_n (j e b)];intro d;rw[d,Qf0 (j e b)] at hm;exact hm b
theorem lex_rank {many:Nat} {a b:Nat->Bool} {n:Nat} (hm:1+n<=many) (o:a 1=true) (h:LexLe many a b):msbN (insV a n)<=msbN (insV b n):=by
 have heq:(∀u,1<=u->u<=1+n->a u=b u)->msbN (insV a n)<=msbN (insV b n):=λh=>by
  have:insV a n=insV b n:=by
   unfold insV;exact Gb λi q=>h _ oM (by have:=gr.1 q;omega)
  rw[this];exact gq _
 rcases h with h|⟨d,r,s,f,m,l⟩
 ·exact heq λu hu g=>h u hu oM
 ·by_cases c:d<=1+n
  ·have p:d≠1:=λe=>by rw[e,o] at f;cases f
   refine Nat.le_of_lt (msb_lex (k:=d-2) (by rw[insV_len,insV_len]) (by rw[insV_len];omega) (λj t=>?_) ?_ ?_)
   ·rw[Qw oM,Qw oM];exact l _ oM oM
   ·rw[Qw oM,show d-2+2=d by omega];exact f
   ·rw[Qw oM,show d-2+2=d by omega];exact m
  ·exact heq λu hu g=>l u hu oM
theorem search_says (n:Nat) (c:declOk ds=true) (hs:∀t,t∈ts->sortM ds t=0) (h:ListSays ds ts gs rs) (j:∀e,e∈nots->envOk ds e=true) (p:ts.length+nots.length<=90):
  ((searchM n ds (jobC ds gs rs nots)).2=1/\Sol ds ts nots (searchM n ds (jobC ds gs rs nots)).1/\∀e,Sol ds ts nots e->rankE ds (searchM n ds (jobC ds gs rs nots)).1<=rankE ds e)\/
  (searchM n ds (jobC ds gs rs nots)=([],2)/\∀e,¬Sol ds ts nots e)\/searchM n ds (jobC ds gs rs nots)=([],3):=by
 have k:=job_ok c h j p;have b:(jobC ds gs rs nots).many=((jobC ds gs rs nots).many.toNat:Nat):=by unfold jobC netC;simp only;omega
 have i:(jobC ds gs rs nots).many.toNat=1+nIn ds+gs.length:=by unfold jobC netC;simp only;omega
 have f:=run_fair b (n:=n) (QV0 (many:=(jobC ds gs rs nots).many.toNat) k);have way:∀e,Sol ds ts nots e->Kt0 (V60 (insM ds e) gs) (jobC ds gs rs nots)/\insV (V60 (insM ds e) gs) (nIn ds)=insM ds e:=λe he=>by
  have d:insV (V60 (insM ds e) gs) (nIn ds)=insM ds e:=by rw[<-insM_n he.1];exact wayG_ins
  refine⟨(Q80 c hs h j).2 ⟨Yq0 (insM_n he.1),?_⟩,d⟩;rw[d,Qf0 he.1];exact he
 unfold searchM;generalize runM (jobC ds gs rs nots).many.toNat (jobC ds gs rs nots) n emptyS=s at f⊢;simp only;split
 ·next m=>
  refine .inl ⟨rfl,?_⟩;have l:=f.least b m;obtain⟨g,a⟩:=(Q80 c hs h j).1 l.1;refine⟨a,λe he=>?_⟩;obtain⟨hw,d⟩:=way e he;have:=lex_rank (n:=nIn ds) oM (by have:=g 0 oM;rw[this];exact zs0) (l.2 _ hw);rw[Q20 a.1,Q20 he.1,ins_envB (dpos c) (insV_len _ _)];rw[d] at this;exact Int.ofNat_le.2 this
 ·split
  ·next o=>
   refine .inr (.inl ⟨rfl,λe he=>f.no o _ (way e he).1⟩)
  ·exact .inr (.inr rfl)
theorem Xf0 (he:envOk ds env=true) (hs:∀t,t∈ts->sortM ds t=0):allT ds env (ts.map (foldT ds))↔allT ds env ts:=by
 have c:=(env_ok he).1;have b:∀t,t∈ts->evalM ds env (foldT ds t)=evalM ds env t:=λt a=>((fold_good c t (by rw[hs t a];decide)).eval env he);constructor
 ·intro h t a;rw[<-b t a];exact h _ (gk.2 ⟨t,a,rfl⟩)
 ·intro h u hu;obtain⟨t,a,rfl⟩:=gk.1 hu;rw[b t a];exact h t a
theorem solve_says (n:Nat) (h:declOk ds=true) (hs:∀t,t∈ts->sortM ds t=0) (k:∀e,e∈nots->envOk ds e=true) (i:ts.length+nots.length<=90):
  ((solveM n ds ts nots).2=1/\Sol ds ts nots (solveM n ds ts nots).1/\∀e,Sol ds ts nots e->rankE ds (solveM n ds ts nots).1<=rankE ds e)\/
  (solveM n ds ts nots=([],2)/\∀e,¬Sol ds ts nots e)\/solveM n ds ts nots=([],3):=by
 have d:∀t,t∈ts.map (foldT ds)->sortM ds t=0:=λu hu=>by
  obtain⟨t,g,rfl⟩:=gk.1 hu;have:=(fold_good h t (by rw[hs t g];decide)).sort;rw[this];exact hs t g
 have f:∀e,Sol ds (ts.map (foldT ds)) nots e↔Sol ds ts nots e:=λe=>
  ⟨λ⟨a,b,c⟩=>⟨a,(Xf0 a hs).1 b,c⟩,λ⟨a,b,c⟩=>⟨a,(Xf0 a hs).2 b,c⟩⟩
 unfold solveM;cases j:listB ds (ts.map (foldT ds)) with
 |none=>exact .inr (.inr rfl)
 |some p=>
  obtain⟨gs,rs⟩:=p;simp only;have:=search_says n h d (list_says h (λt g=>by rw[d t g];decide) j) k (by rw[X0];exact i);simp only[f] at this;exact this
end
end Go.M
end
section
namespace Go.M
variable {ds:List Dcl} {n:Nat} {ts:List Tm} {nots:List (List Int)}
def sorted0 (ds:List Dcl) (ts:List Tm):Prop:=∀t,t∈ts->sortM ds t=0
theorem solve_code (c:declOk ds=true) (hs:sorted0 ds ts) (d:∀e,e∈nots->envOk ds e=true) (b:ts.length+nots.length<=90):(solveM n ds ts nots).2=1\/(solveM n ds ts nots).2=2\/(solveM n ds ts nots).2=3:=by
 rcases solve_says n c hs d b with⟨a,_⟩|⟨a,_⟩|a
 ·exact .inl a
 ·rw[a];exact .inr (.inl rfl)
 ·rw[a];exact .inr (.inr rfl)
theorem solve_yes (d:declOk ds=true) (hs:sorted0 ds ts) (f:∀e,e∈nots->envOk ds e=true) (c:ts.length+nots.length<=90) (h:(solveM n ds ts nots).2=1):Sol ds ts nots (solveM n ds ts nots).1/\∀e,Sol ds ts nots e->rankE ds (solveM n ds ts nots).1<=rankE ds e:=by
 rcases solve_says n d hs f c with⟨_,a⟩|⟨b,_⟩|b
 ·exact a
 ·rw[b] at h;cases h
 ·rw[b] at h;cases h
theorem solve_no (c:declOk ds=true) (hs:sorted0 ds ts) (d:∀e,e∈nots->envOk ds e=true) (b:ts.length+nots.length<=90) (h:(solveM n ds ts nots).2=2):(solveM n ds ts nots).1=[]/\∀e,¬Sol ds ts nots e:=by
 rcases solve_says n c hs d b with⟨a,_⟩|⟨a,a2⟩|a
 ·rw[a] at h;cases h
 ·rw[a];exact⟨rfl,a2⟩
 ·rw[a] at h;cases h
end Go.M
end
namespace Go.Proofs.YtokflbdfnbppjaaGreatDoor
open Go Go.Vc Go.Proofs
section
variable {ds:List M.Dcl} {t:M.Tm} {ts:List M.Tm} {nots:List (List Int)}
theorem kR0 (b:M.declOk ds=true) (h:M.tsort ds t=0):M.tsort ds (M.foldT ds t)=0/\yY0 ds t=M.foldT ds t:=by
 obtain⟨a,d,f⟩:=Yz0 h;have c:=M.fold_good b t (by rw[a];decide);obtain⟨f1,f2⟩:=M.fits_iff.1 d;have e:M.fits (M.foldT ds t)=true:=M.fits_iff.2 ⟨Gc c.size f1,Gc c.deep f2⟩;exact⟨by rw[Yw0 b e,c.sort,a],VO0 b d (by rw[a];decide)⟩
theorem jJ0 (h:Xi0 ds ts=true):Xi0 ds (ts.map (M.foldT ds))=true:=by
 obtain⟨b,a,c⟩:=all8_iff.1 h;refine all8_iff.2 ⟨by rw[X0];exact b,a,λu hu=>?_⟩;obtain⟨t,d,rfl⟩:=gk.1 hu;exact(kR0 a (c t d)).1
def Jm (ds:List M.Dcl) (ts:List M.Tm) (nots:List (List Int)):List Int×Int:=if Xi0 ds ts=true then M.solveM 4000 ds ts nots else([],4)
def XG0 (c:M.Cnf) (ds:List M.Dcl) (nots:List (List Int)):M.Cnf:=⟨c.many,c.list++nots.map (M.exC ds)⟩
theorem Kp0 {gs:M.Gs} {rs:List (List Int)}:XG0 (M.blastC ds gs rs) ds nots=M.jobC ds gs rs nots:=by
 show M.Cnf.mk _ _=M.Cnf.mk _ _;congr 1;show([1]::(M.gatesC _ gs 0++M.rootsC rs))++_=[1]::(M.gatesC _ gs 0++(M.rootsC rs++_));simp
theorem Qw0 (h: ¬Xi0 ds ts=true):Jm ds ts nots=([],4):=by unfold Jm;rw[if_neg h]
theorem Xr0 (h:Xi0 ds ts=true) (a:(cnfE ds (ts.map (M.foldT ds))).2≠0):Jm ds ts nots=([],3):=by
 unfold Jm M.solveM;rw[if_pos h];unfold cnfE at a;rw[if_pos (jJ0 h)] at a;cases b:M.listB ds (ts.map (M.foldT ds)) with
 |none=>rfl
 |some r=>rw[b] at a;exact absurd rfl a
theorem Ku0 (h:Xi0 ds ts=true):(cnfE ds ts).2=0\/(cnfE ds ts).2=1:=by
 unfold cnfE;rw[if_pos h];cases M.listB ds ts with
 |none=>exact .inr rfl
 |some r=>exact .inl rfl
theorem solveR_run (h:Xi0 ds ts=true) (b:(cnfE ds (ts.map (M.foldT ds))).2=0) (f:∀e,e∈nots->M.envOk ds e=true) (j:nots.length<=80):
  Jm ds ts nots=M.searchM 4000 ds (XG0 (cnfE ds (ts.map (M.foldT ds))).1 ds nots)/\M.cnfOk (XG0 (cnfE ds (ts.map (M.foldT ds))).1 ds nots)=true/\1+M.nIn ds<=(cnfE ds (ts.map (M.foldT ds))).1.many.toNat:=by
 have c:=jJ0 h;unfold Jm M.solveM;rw[if_pos h];unfold cnfE at b⊢;rw[if_pos c] at b⊢;cases d:M.listB ds (ts.map (M.foldT ds)) with
 |none=>rw[d] at b;exact absurd b (by simp)
 |some r=>
  obtain⟨i,a2,a3⟩:=all8_iff.1 c;have a:=M.list_says a2 (λt g=>by rw[(Yz0 (a3 t g)).1];decide) d;have e:=Kp0 (ds:=ds) (nots:=nots) (gs:=r.1) (rs:=r.2);refine⟨by show _=M.searchM 4000 ds (XG0 (M.blastC ds r.1 r.2) ds nots);rw[e],by show M.cnfOk (XG0 (M.blastC ds r.1 r.2) ds nots)=true;rw[e];exact M.job_ok a2 a f oM,?_⟩;show 1+M.nIn ds<=(M.netC _ r.1 (M.rootsC r.2)).many.toNat;unfold M.netC;simp only;omega
end
section
variable {w:World} {K:Value->World->Prop} {F F' D G:Nat->Prop}
theorem l8Some_spec {b p:Nat} {v dv:Value} {xs:List Nat} {ds:List M.Dcl} {sort:Int} (h:RdR F w b v xs p) (hF:∀x,F x->x<w.heap.size) (hd:DclsR D w dv ds) (hD:∀x,D x->x≠b) (hD1:∀x,D x->x<w.heap.size) (m:Dok ds) (B:0<=sort) (E:sort<=4)
  (hp:p+200000<1099511627776) (U:J20 K F w b p 200000 v xs):vcall P Xx #[.pointer (some ⟨b,0,none⟩),dv,.int .i64 sort] w K:=by
 apply ZN0;refine Dw.begin h hF hd hD hD1 λw1 h1=>?_;have H:jb0 4=25600:=rfl;refine vloop_up 3 (λi u w'=> ∃X,u=[.int .i64 (3-(i:Int))]/\Dw F D w b w.heap.size v dv xs ds w' X/\X<=p+25600*i) ⟨p,rfl,h1,oM⟩ ?_;rintro i _ _ w2 C hi ⟨p2,rfl,f,a1⟩ hC;have hold:=f.old;have V:=f.new;simp only[push_cast];refine zh (λa=>?_) (λa=>?_)
 ·refine f.sub (c:=jb0 4) (λZ J=>l2Term_spec 4 oM f.rd (λx n=>gJ (hF x n) f.same.size) f.dcl hD (λx n=>gJ (hD1 x n) f.same.size) m B E oM oM oM J) λR Y tv t G N L O l=>?_;obtain⟨cs,rfl,d⟩:=O.cells;have r:=d.weaken (F':=λx=>Nw w.heap.size x/\x<R.heap.size) λx n hl=>⟨n,hl⟩;refine zB zG λb2 w4 a0 s W h4=>?_;refine stTerm h4 rfl (r.ext s) λw5 Q _ S=>?_;have z:Ext R w5:=Ext.then s Q λy hy=>by subst hy;omega
  have I:aggB P za cs.length=true:=by rw[yl d];exact zp
  rw[S.ldAgg (t:=za) I];refine spec_TermMany_spec t (d.ext z).term λw6 A=>?_;have g:=z.trans A;have o:=G.ext g;have T:=S.ext A;simp only[push_cast];rw[T.ldAgg (t:=za) I];refine spec_TermSort_spec (dok_sized m) o.dcl (d.ext g).term λw7 k=>?_;have q:=o.ext k;have h7:=T.ext k;have j:C [.int .i64 (IntKind.i64.wrap (3-(i:Int)-1))] w7:=by
   rw[zJ oM oM,show 3-(i:Int)-1=3-((i+1:Nat):Int) by omega];exact hC oM _ _ ⟨Y,rfl,q,oM⟩
  simp only[push_cast];refine zh (λc=>?_) (λc=>?_)
  ·refine zh (λe=>?_) (λe=>?_)
   ·rw[h7.ldAgg (t:=za) I];exact q.fin (p0:=p) oM ((d.ext g).ext k) l U
   ·exact j
  ·exact j
 ·refine f.sub (c:=100) (λZ J=>l2Leafy_spec f.rd (λx n=>gJ (hF x n) f.same.size) f.dcl hD m B E oM J) λR Y tv t G N L O l=>?_;obtain⟨cs,rfl,d⟩:=O.cells;exact G.fin (p0:=p) oM d l U
theorem one_tms {ks:List M.Tm} {css:List (List Value)} (l:css.length=ks.length) (h:∀i,i<ks.length->TmR G w (css.getD i []) (ks.getD i default)):∀y,y∈css->∀c,c∈y->c.oneCell'=true:=λy j c a=>by
 obtain⟨i,g,rfl⟩:=gl j;have f:=h i oM;rw[q0,Q1 g] at f;obtain⟨k,he,b⟩:=f.inv;obtain⟨e,d,_⟩:=b;rw[show css[i]=(some css[i]).getD [] from rfl,he] at a;simp only[gd,gx,or_false] at a;rcases a with rfl|rfl|rfl|rfl|rfl
 ·rfl
 ·rfl
 ·rfl
 ·rfl
 ·exact d.one
theorem same_news {b:Nat} {w1 w2:World} (h:Same (· =b) w w1) (a:Same (λx=>w.heap.size<=x) w1 w2):Same (· =b) w w2:=
 ⟨a.os.trans h.os,a.tape.trans h.tape,a.output.trans h.output,Gc h.size a.size,λy d c=>by
  rw[a.block y (gJ d h.size) (λe=>oM)];exact h.block y d c⟩
end
end Go.Proofs.YtokflbdfnbppjaaGreatDoor
namespace Go.Proofs.YtokflbdfnbppjaaGreatDoor
open Go Go.Vc Go.Proofs Go.M
section
variable {w:World} {K:Value->World->Prop} {F Fr:Nat->Prop}
def Sep (Fr:Nat->Prop) (os:List (Option Nat)):Prop:=os.Pairwise (λa b=>∀x,a=some x->b≠some x)/\∀o,o∈os->∀x,o=some x->¬Fr x
structure TrailR (Fr:Nat->Prop) (w:World) (bt many:Nat) (put:List Int) (ds:List Bool) (vp vpl vl:Value):Prop where
 blk:Blk w bt [vp,vpl,vl] zH
 rp:OwnI P zr w vp put
 rpl:OwnI P zr w vpl (jX many put)
 rl:OwnI P zr w vl (kO ds)
 sep:Sep Fr [some bt,vp.ownBlock,vpl.ownBlock,vl.ownBlock]
 len:ds.length=put.length
 dis:ja put
 bnd:∀x,x∈put->x≠0/\x.natAbs<=many
 few:many<=700
def Jj (bt:Nat) (vp vpl vl:Value) (b:Nat):Prop:=b=bt\/vp.ownBlock=some b\/vpl.ownBlock=some b\/vl.ownBlock=some b
section
variable {bt many:Nat} {put:List Int} {ds:List Bool} {vp vpl vl:Value}
theorem TrailR.same {S:Nat->Prop} {w':World} (h:TrailR Fr w bt many put ds vp vpl vl) (hw:Same S w w') (hs:∀b,Jj bt vp vpl vl b->¬S b):TrailR Fr w' bt many put ds vp vpl vl:=
 ⟨h.blk.same hw (hs _ (.inl rfl)),h.rp.same hw λb a=>hs _ (.inr (.inl a)),h.rpl.same hw λb a=>hs _ (.inr (.inr (.inl a))),h.rl.same hw λb a=>hs _ (.inr (.inr (.inr a))),h.sep,h.len,h.dis,h.bnd,h.few⟩
theorem TrailR.ext {w':World} (h:TrailR Fr w bt many put ds vp vpl vl) (hw:Ext w w'):TrailR Fr w' bt many put ds vp vpl vl:=h.same hw λ_ _ h=>h
theorem nodup_le {m:Nat} {xs:List Nat} (b:xs.Nodup) (a:∀x,x∈xs->1<=x/\x<=m):xs.length<=m:=by
 have:=b.length_le_of_subset (l₂:=(List.range' 1 m)) λx c=>by rw[Po];have:=a x c;omega
 simpa using this
theorem TrailR.few' (h:TrailR Fr w bt many put ds vp vpl vl):put.length<=many:=by
 have:=nodup_le (m:=many) h.dis λx a=>by
  obtain⟨y,b,rfl⟩:=gk.1 a;have:=h.bnd y b;omega
 simpa using this
theorem newTrail_spec (hm:many<=700) (i:∀b,Fr b->b<w.heap.size) (p:∀bt vp vpl vl w',Ext w w'->TrailR Fr w' bt many [] [] vp vpl vl->(∀b,Jj bt vp vpl vl b->w.heap.size<=b)->K (.pointer (some ⟨bt,0,none⟩)) w'):
  vcall P XP #[.int .i64 many] w K:=by
 apply jl0;simp(disch:=omega) only[push_cast,zJ];rw[show((many:Int)+1)=((many+1:Nat):Int) from by omega];refine vmkS_own (bs:=8) xF0 ZH0 X5 rfl oM oM λv1 w1 g c f=>?_;refine yM0 Xc0 (us:=[[v1]]) (by simp[g.vals.cells1]) rfl ?_;refine jO λb w2 q d _ n=>?_;have m:OwnI P zr w2 v1 (jX many []):=by rw[QE0];unfold OwnI;rw[po];exact g.ext d
 refine p b (.slice none 0 0) v1 (.slice none 0 0) w2 (c.trans d) ⟨n,OwnI.nil,m,OwnI.nil,⟨?_,?_⟩,rfl,pk,(λx a=>by cases a),hm⟩ ?_
 ·have j:∀x,v1.ownBlock=some x->x<b:=λx a=>by have:=g.lt a;omega
  simp[Value.ownBlock];intro e;have:=j b e;omega
 ·have k:=c.size;intro o l x a hF;have:=i x hF;simp only[gd,gx,or_false] at l;rcases l with rfl|rfl|rfl|rfl
  ·cases a;omega
  ·cases a
  ·have:=f x a;omega
  ·cases a
 ·have k:=c.size;rintro x (rfl|h|h|h)
  ·omega
  ·cases h
  ·exact f x h
  ·cases h
theorem assigned_spec {l:Int} (h:TrailR Fr w bt many put ds vp vpl vl) (e:l.natAbs<=many) (d:∀w',Ext w w'->K (.bool (decide (placeOf put l.natAbs≠0))) w'):
  vcall P qu #[.pointer (some ⟨bt,0,none⟩),.int .i64 l] w K:=by
 apply Vx;have g:=h.few;refine zu λw1 a _=>?_;have c:=h.ext a;have b:=c.rpl.ints;have f:=Jo many put;simp only[push_cast,c.blk.ld1,true_and];refine variable_spec oM oM ?_;simp(disch:=first|(simp only[push_cast])|omega) only[push_cast,c.blk.ld1,true_and,b.iaddr,b.load,and_self,places_get e];have:=d w1 a;simpa using this
theorem isTrue_spec {l:Int} (h:TrailR Fr w bt many put ds vp vpl vl) (j:l.natAbs<=many) (g:∀w',Ext w w'->K (.bool (decide (l∈put))) w'):
  vcall P Zg #[.pointer (some ⟨bt,0,none⟩),.int .i64 l] w K:=by
 apply UW;have o:=h.few;refine zu λw1 b _=>?_;refine assigned_spec (h.ext b) j λw2 c=>zh (λa=>?_) (λa=>?_)
 ·have d:=h.ext (b.trans c);have k:=d.rp.ints;have f:=d.rpl.ints;have m:=Jo many put;have hle:=placeOf_le put l.natAbs;have i:=h.few';simp(disch:=first|(simp only[push_cast])|omega) only[push_cast,d.blk.ld0,d.blk.ld1,true_and];refine variable_spec oM oM ?_;simp(disch:=first|(simp only[push_cast])|omega) only[push_cast,d.blk.ld0,d.blk.ld1,true_and,and_self,f.iaddr,f.load,places_get j,zJ];obtain⟨q,n⟩:∃q,placeOf put l.natAbs=q+1:=⟨placeOf put l.natAbs-1,oM⟩;rw[n,show(((q+1:Nat):Int)-1)=(q:Int) from by omega];simp(disch:=first|(simp only[push_cast])|omega) only[push_cast,true_and,k.iaddr,k.load];rw[show q=placeOf put l.natAbs-1 from by omega];have:=g w2 (b.trans c);have e:l∈put↔put.getD (placeOf put l.natAbs-1) 0=l:=(mem_iff_place h.dis).trans ⟨λh=>h.2,λh=>⟨a,h⟩⟩;rwa[decide_eq_decide.2 e] at this
 ·have:=g w2 (b.trans c);rwa[decide_eq_false (λhm=>a (xu hm))] at this
theorem place_spec {l:Int} (h:TrailR Fr w bt many put ds vp vpl vl) (f:l.natAbs<=many) (e:∀w',Ext w w'->K (.int .i64 ((placeOf put l.natAbs:Int)-1)) w'):
  vcall P qA #[.pointer (some ⟨bt,0,none⟩),.int .i64 l] w K:=by
 apply zN0;have i:=h.few;refine zu λw1 a _=>?_;have c:=h.ext a;have b:=c.rpl.ints;have g:=Jo many put;have hle:=placeOf_le put l.natAbs;have d:=h.few';simp only[push_cast,c.blk.ld1,true_and];refine variable_spec oM oM ?_;simp(disch:=first|(simp only[push_cast])|omega) only[push_cast,c.blk.ld1,true_and,b.iaddr,b.load,and_self,places_get f,zJ];exact e w1 a
theorem level_spec {l:Int} (h:TrailR Fr w bt many put ds vp vpl vl) (i:l.natAbs<=many) (m:placeOf put l.natAbs≠0) (g:∀w',Ext w w'->K (.int .i64 (lvl ds (placeOf put l.natAbs-1))) w'):
  vcall P qX #[.pointer (some ⟨bt,0,none⟩),.int .i64 l] w K:=by
 apply zO0;have n:=h.few;have e:=h.few';have hlen:=h.len;have hle:=placeOf_le put l.natAbs;refine zu λw1 a _=>?_;have c:=h.ext a;simp only[push_cast,c.blk.ld2,true_and];refine place_spec c i λw2 b=>?_;have d:=c.ext b;have f:=d.rl.ints;have k:=Wn ds;obtain⟨q,j⟩:∃q,placeOf put l.natAbs=q+1:=⟨placeOf put l.natAbs-1,oM⟩;rw[j,show(((q+1:Nat):Int)-1)=(q:Int) from by omega];simp(disch:=first|(simp only[push_cast])|omega) only[push_cast,d.blk.ld2,true_and,f.iaddr,f.load,and_self];rw[yV0 oM,show q=placeOf put l.natAbs-1 from by omega];exact g w2 (a.trans b)
theorem look_spec {v:Value} {c:List Int} {F:Nat->Prop} (h:TrailR Fr w bt many put ds vp vpl vl) (o:Ints F w v c) (r:∀l,l∈c->l.natAbs<=many)
  (q:∀w' b n x,Ext w w'->lookM put c 0 0=(b,n,x)->K (.tuple #[.bool b,.int .i64 n,.int .i64 x]) w'):
  vcall P Yq #[.pointer (some ⟨bt,0,none⟩),v] w K:=by
 apply xb0;simp(disch:=first|(simp only[push_cast])|omega) only[push_cast,o.len];have hlen:c.length<=9223372036854775807:=by obtain⟨_,_,_,s,A,_⟩:=o.shape;simp at s;omega
 refine vloop_up c.length (λi u w'=> ∃n x,u=[.int .i64 (n:Nat),.int .i64 x,.int .i64 i]/\Ext w w'/\n<=i/\lookM put (c.drop i) n x=lookM put c 0 0) ⟨0,0,rfl,Same.refl _ _,oM,rfl⟩ ?_;rintro i _ g w1 C B ⟨n,x,rfl,he,D,e⟩ p;simp only[push_cast];refine zh (λz=>?_) (λy=>?_)
 ·have k:=o.ext he;simp(disch:=first|(simp only[push_cast])|omega) only[push_cast,k.iaddr,k.load];have t:=zK0 (d:=0) (show i<c.length by omega);have hm:c.getD i 0∈c:=qi oM;rw[t,kO0] at e;refine isTrue_spec (h.ext he) (r _ hm) λw2 f=>zh (λa=>?_) (λa=>?_)
  ·rw[if_pos a] at e;exact q w2 true 0 0 (he.trans f) e.symm
  ·rw[if_neg a] at e;refine assigned_spec (h.ext (he.trans f)) (r _ hm) λE j=>?_;simp only[push_cast];refine zI (λb=>?_) (λb=>?_)
   ·have m:placeOf put (c.getD i 0).natAbs=0:=(by simpa using b);rw[if_pos m] at e;simp(disch:=omega) only[push_cast,zJ];exact p oM _ _ ⟨n+1,_,by simp,he.trans (f.trans j),oM,e⟩
   ·have m: ¬placeOf put (c.getD i 0).natAbs=0:=(by simpa using b);rw[if_neg m] at e;simp(disch:=omega) only[push_cast,zJ];exact p oM _ _ ⟨n,_,by simp,he.trans (f.trans j),oM,e⟩
 ·rw[Gp oM] at e;exact q w1 false n x he e.symm
end
end
section
variable {w:World} {K:Value->World->Prop} {F Fr:Nat->Prop} {bt many:Nat} {put:List Int} {ds:List Bool} {vp vpl vl:Value}
theorem next_spec {v:Value} {vs:List Value} {lls:List (List (List Int))} (h:TrailR Fr w bt many put ds vp vpl vl) (J:Vals F w v vs) (hn:vs.length=lls.length) (Y:∀i,i<lls.length->Lists F w (vs.getD i undef) (lls.getD i []))
  (hl:∀c,c∈lls.flatten->∀l,l∈c->l.natAbs<=many) (a2:lls.flatten.length<=1000000)
  (M:∀w' k u x,Ext w w'->findM put lls.flatten 0 (-1) 0=(k,u,x)->K (.tuple #[.int .i64 k,.int .i64 u,.int .i64 x]) w'):
  vcall P Yp #[.pointer (some ⟨bt,0,none⟩),v] w K:=by
 apply xa0;simp(disch:=first|(simp only[push_cast])|omega) only[push_cast,J.len];have hlen:vs.length<=9223372036854775807:=by obtain⟨_,_,_,A,R,_⟩:=J.shape;simp at A;omega
 refine vloop_up vs.length (λi u w'=> ∃(k:Nat) (b x:Int),u=[.int .i64 (-1),.int .i64 b,.int .i64 x,.int .i64 k,.int .i64 i]/\Ext w w'/\k+(lls.drop i).flatten.length=lls.flatten.length/\findM put (lls.drop i).flatten k b x=findM put lls.flatten 0 (-1) 0) ⟨0,-1,0,rfl,Same.refl _ _,by simp,rfl⟩ ?_;rintro i _ g w1 C Z ⟨k,b,x,rfl,he,O,a⟩ S;simp only[push_cast];refine zh (λa1=>?_) (λX=>?_)
 ·have z:=J.ext he;obtain⟨cs,V,q,D⟩:=Y i oM;have s:=q.ext he;simp(disch:=first|(simp only[push_cast])|omega) only[push_cast,z.iaddr,z.load,s.len];have G:cs.length<=9223372036854775807:=by obtain⟨_,_,_,A,R,_⟩:=q.shape;simp at A;omega
  have W:=zK0 (d:=[]) (show i<lls.length by omega);rw[W,GD] at a O;have t:∀c,c∈lls.getD i []->c∈lls.flatten:=λc U=>P4.2 ⟨_,by rw[q0,Q1 oM];exact Gm _,U⟩;generalize lls.getD i []=L at*;generalize (lls.drop (i+1)).flatten=T at*;rw[k6] at O;refine vloop_up cs.length (λj u w'=> ∃(o:Nat) (b x:Int),u=[.int .i64 (-1),.int .i64 b,.int .i64 x,.int .i64 o,.int .i64 j]/\Ext w w'/\o=k+j/\findM put (L.drop j++T) o b x=findM put lls.flatten 0 (-1) 0) ⟨k,b,x,rfl,he,oM,a⟩ ?_;rintro j _ g2 w2 C2 hj ⟨o,b,x,rfl,f,a0,a⟩ m;simp only[push_cast];refine zh (λQ=>?_) (λN=>?_)
  ·have p:=q.ext f;simp(disch:=first|(simp only[push_cast])|omega) only[push_cast,p.iaddr,p.load];have hm:L.getD j []∈L:=by rw[q0,Q1 oM];exact Gm _
   rw[zK0 (d:=[]) (show j<L.length by omega),Gx,findM_cons] at a;refine look_spec (h.ext f) ((D j oM).ext f) (hl _ (t _ hm)) λw3 b' n y E r=>?_;rw[r] at a;dsimp only at a;simp(disch:=omega) only[push_cast,zJ];have e:=f.trans E;refine zI (λB=>?_) (λB=>?_)
   ·rw[if_pos B] at a;exact m oM _ _ ⟨o+1,_,_,by simp<;>exact⟨rfl,rfl⟩,e,oM,a⟩
   rw[if_neg (by simp[B])] at a;refine zh (λH=>?_) (λH=>?_)
   ·rw[if_pos oM] at a;exact M w3 _ _ _ e a.symm
   rw[if_neg oM] at a;refine zh (λI=>?_) (λI=>?_)
   ·rw[if_pos oM] at a;refine zh (λhu=>?_) (λhu=>?_)
    ·rw[if_pos hu] at a;exact m oM _ _ ⟨o+1,_,_,by simp<;>exact⟨rfl,rfl⟩,e,oM,a⟩
    ·rw[if_neg hu] at a;exact m oM _ _ ⟨o+1,_,_,by simp<;>exact⟨rfl,rfl⟩,e,oM,a⟩
   ·rw[if_neg oM] at a;exact m oM _ _ ⟨o+1,_,_,by simp<;>exact⟨rfl,rfl⟩,e,oM,a⟩
  ·rw[Gp (show L.length<=j by omega),Gf] at a;simp(disch:=omega) only[push_cast,zJ];exact S oM _ _ ⟨o,_,_,by simp<;>exact⟨rfl,rfl⟩,f,oM,a⟩
 ·rw[Gp oM] at a;exact M w1 _ _ _ he a.symm
theorem sep4 {a b c d:Option Nat}:Sep Fr [a,b,c,d]↔((∀x,a=some x->b≠some x)/\(∀x,a=some x->c≠some x)/\(∀x,a=some x->d≠some x)/\(∀x,b=some x->c≠some x)/\(∀x,b=some x->d≠some x)/\(∀x,c=some x->d≠some x))/\
  (∀x,a=some x->¬Fr x)/\(∀x,b=some x->¬Fr x)/\(∀x,c=some x->¬Fr x)/\(∀x,d=some x->¬Fr x):=by
 unfold Sep;simp only[Pf,gd,gx,or_false,forall_eq_or_imp,forall_eq];constructor
 ·rintro⟨⟨⟨e,a2,a3⟩,⟨b1,b2⟩,c1,-⟩,f1,f2,f3,f4⟩;exact⟨⟨e,a2,a3,b1,b2,c1⟩,f1,f2,f3,f4⟩
 ·rintro⟨⟨e,a2,a3,b1,b2,c1⟩,f1,f2,f3,f4⟩;exact⟨⟨⟨e,a2,a3⟩,⟨b1,b2⟩,c1,λ_ h=>h.elim,List.Pairwise.nil⟩,f1,f2,f3,f4⟩
theorem push_spec {l:Int} {d:Bool} (h:TrailR Fr w bt many put ds vp vpl vl) (a9:l≠0) (hl:l.natAbs<=many) (s:placeOf put l.natAbs=0) (a8:∀b,Fr b->b<w.heap.size)
  (hK:∀i k w',TrailR Fr w' bt many (put++[l]) (ds++[d]) i vpl k->Same (Jj bt vp vpl vl) w w'->(∀b,Jj bt i vpl k b->Jj bt vp vpl vl b\/w.heap.size<=b)->K (.tuple #[]) w'):
  vcall P Yo #[.pointer (some ⟨bt,0,none⟩),.int .i64 l,.bool d] w K:=by
 apply x90;have hf:=h.few;have ai:=h.few';have hlen:=h.len;have ah:=Wn ds;have hc:=List.count_le_length (l:=ds) (a:=true);refine zR (λu w'=>u=[.int .i64 (ds.count true)]/\Ext w w') ?_ ?_
 ·intro C V;have hv:=h.rl.ints;simp(disch:=first|(simp only[push_cast])|omega) only[push_cast,h.blk.ld2,hv.len];refine zh (λa=>zu λw1 n _=>?_) (λa=>V _ _ ⟨?_,Same.refl _ _⟩)
  ·have T:=h.ext n;have O:=T.rl.ints;obtain⟨q,hq⟩:∃q,ds.length=q+1:=⟨ds.length-1,oM⟩;simp(disch:=first|(simp only[push_cast])|omega) only[push_cast,T.blk.ld2,O.len,true_and];rw[ah,hq,show(((q+1:Nat):Int)-1)=(q:Int) from by omega];simp(disch:=first|(simp only[push_cast])|omega) only[push_cast,zJ,O.iaddr,O.load,true_and];refine V _ _ ⟨?_,n⟩;rw[yV0 oM,JY0 oM]
  ·have:ds=[]:=gC oM;subst this;rfl
 rintro _ g w1 ⟨rfl,n⟩;refine zR (λu w'=>u=[.int .i64 ((ds.count true+d.toNat:Nat):Int)]/\w'=w1) ?_ ?_
 ·intro C V;cases d
  ·exact V _ _ ⟨rfl,rfl⟩
  ·simp(disch:=omega) only[push_cast,zJ];exact V _ _ ⟨rfl,rfl⟩
 rintro _ g2 _ ⟨rfl,rfl⟩;have T:=h.ext n;have aj:=n.size;simp(disch:=first|(simp only[push_cast])|omega) only[push_cast,T.blk.ld0];obtain⟨⟨s1,s2,s3,s4,s5,s6⟩,f1,f2,f3,f4⟩:=sep4.1 h.sep;refine yK Jh YV X5 rfl rfl λb1 w2 aq L av a2=>?_;have h2:=T.ext L;refine h2.rp.app1 xF0 a2 oM oM λi w3 B y ad=>?_;have a3:Blk w3 bt [vp,vpl,vl] zH:=h2.blk.same y λe=>s1 bt rfl e;refine a3.st B.ints.cells1 B.ints.one zn0 rfl λQ D aw a4=>?_;have F:Blk Q bt [i,vpl,vl] zH:=a4;simp(disch:=first|(simp only[push_cast])|omega) only[push_cast,F.ld2];have ak:=L.size;have al:=y.size;have m:∀x,i.ownBlock=some x->vp.ownBlock=some x\/w.heap.size<=x:=λx c=>(ad x c).imp id λh=>oM
 have l1:=h.blk.lt;have j:∀x,Jj bt vp vpl vl x->x<w.heap.size:=by
  rintro x (rfl|e|e|e)
  ·exact l1
  ·exact h.rp.lt e
  ·exact h.rpl.lt e
  ·exact h.rl.lt e
 have aa:OwnI P zr Q vl (kO ds):=(h2.rl.same y λx c e=>s5 x e c).same D λx c e=>s3 x (by rw[e]) c;have Y:OwnI P zr Q vpl (jX many put):=(h2.rpl.same y λx c e=>s4 x e c).same D λx c e=>s2 x (by rw[e]) c;have af:OwnI P zr Q i (put++[l]):=B.same D λx c e=>by
  rcases m x c with f|f
  ·exact s1 x (by rw[e]) f
  ·have:=j bt (.inl rfl);omega
 refine yK Jh YV X5 rfl rfl λb2 w5 ar o ax a5=>?_;refine(aa.ext o).app1 xF0 a5 oM oM λk w6 M z ae=>?_;have a6:Blk w6 bt [i,vpl,vl] zH:=(F.ext o).same z λe=>s3 bt rfl e;refine a6.st M.ints.cells1 M.ints.one zn0 rfl λR A ay a7=>?_;have U:Blk R bt [i,vpl,k] zH:=a7;have am:=o.size;have an:=z.size;have t:∀x,k.ownBlock=some x->vl.ownBlock=some x\/w3.heap.size<=x:=λx c=>(ae x c).imp id λh=>oM
 have H:∀x,k.ownBlock=some x->vl.ownBlock=some x\/w.heap.size<=x:=λx c=>(t x c).imp id λh=>oM
 have ag:OwnI P zr R i (put++[l]):=((af.ext o).same z λx c e=>by
  rcases m x c with f|f
  ·exact s5 x f e
  ·have:=j x (.inr (.inr (.inr e)));omega).same A λx c e=>by
  rcases m x c with f|f
  ·exact s1 x (by rw[e]) f
  ·have:=j bt (.inl rfl);omega
 have Z:OwnI P zr R vpl (jX many put):=((Y.ext o).same z λx c e=>s6 x c e).same A λx c e=>s2 x (by rw[e]) c;have ab:OwnI P zr R k (kO (ds++[d])):=by
  rw[levels_snoc];refine M.same A λx c e=>?_;rcases t x c with f|f
  ·exact s3 x (by rw[e]) f
  ·have:=j bt (.inl rfl);omega
 refine zu λw8 p _=>?_;have r:=U.ext p;have W:=ag.ext p;have J:=Z.ext p;have ac:=ab.ext p;have X:=W.ints;have a1:=J.ints;have au:=Jo many put;simp(disch:=first|(simp only[push_cast])|omega) only[push_cast,r.ld0,r.ld1,X.len,true_and];refine variable_spec oM oM ?_;simp(disch:=first|(simp only[push_cast])|omega) only[push_cast,r.ld0,r.ld1,X.len,a1.iaddr,true_and,and_self];refine J.st YV oM λw9 a0 E az=>?_;have N:OwnI P zr w9 vpl (jX many (put++[l])):=by
  rw[qC0 s];simpa using a0
 have I:∀x,i.ownBlock=some x->vpl.ownBlock≠some x:=λx c e=>by
  rcases m x c with f|f
  ·exact s4 x f e
  ·have:=j x (.inr (.inr (.inl e)));omega
 have v:∀x,vpl.ownBlock=some x->k.ownBlock≠some x:=λx c e=>by
  rcases t x e with f|f
  ·exact s6 x c f
  ·have:=j x (.inr (.inr (.inl c)));omega
 have ao:=A.size;have ap:=p.size;have G:∀x,w.heap.size<=x->¬Fr x:=λx c hF=>by have:=a8 x hF;omega
 refine hK i k w9 ⟨r.same E λe=>s2 bt rfl e,W.same E I,N,ac.same E λx c e=>v x e c,?_,by simp[hlen],distinct_snoc h.dis s,?_,h.few⟩ ?_ ?_
 ·rw[sep4];refine⟨⟨?_,s2,?_,I,?_,v⟩,f1,?_,f3,?_⟩
  ·rintro x e S;cases e;rcases m _ S with f|f
   ·exact s1 _ rfl f
   ·have:=j _ (.inl rfl);omega
  ·rintro x e S;cases e;rcases t _ S with f|f
   ·exact s3 _ rfl f
   ·have:=j _ (.inl rfl);omega
  ·intro x e S;have c:=B.lt e;rcases t x S with e3|e3
   ·rcases m x e with f|f
    ·exact s5 x f e3
    ·have:=j x (.inr (.inr (.inr e3)));omega
   ·omega
  ·intro x e;rcases m x e with f|f
   ·exact f2 x f
   ·exact G x f
  ·intro x e;rcases H x e with f|f
   ·exact f4 x f
   ·exact G x f
 ·intro x c;rw[gj,gn] at c;rcases c with c|rfl
  ·exact h.bnd x c
  ·exact⟨a9,hl⟩
 ·have S0:Same (Jj bt vp vpl vl) w w2:=Same.of_ext (n.trans L);have S3:Same (Jj bt vp vpl vl) w2 w3:=y.mono λx _ e=> .inr (.inl e);have S4:Same (Jj bt vp vpl vl) w3 Q:=D.mono λx _ e=> .inl e;have S5:Same (Jj bt vp vpl vl) Q w5:=Same.of_ext o;have S6:Same (Jj bt vp vpl vl) w5 w6:=z.mono λx _ e=> .inr (.inr (.inr e));have S7:Same (Jj bt vp vpl vl) w6 R:=A.mono λx _ e=> .inl e;have S8:Same (Jj bt vp vpl vl) R w8:=Same.of_ext p;have S9:Same (Jj bt vp vpl vl) w8 w9:=E.mono λx _ e=> .inr (.inr (.inl e));exact S0.trans (S3.trans (S4.trans (S5.trans (S6.trans (S7.trans (S8.trans S9))))))
 ·rintro x (e|e|e|e)
  ·exact .inl (.inl e)
  ·exact(m x e).imp (λe=> .inr (.inl e)) id
  ·exact .inl (.inr (.inr (.inl e)))
  ·exact(H x e).imp (λe=> .inr (.inr (.inr e))) id
end
theorem qw0 {α:Type} {xs:List α} {d:α} {i:Nat} (h:i<xs.length):xs.take (i+1)=xs.take i++[xs.getD i d]:=by
 rw[pb];simp[q0,h]
end Go.Proofs.YtokflbdfnbppjaaGreatDoor
namespace Go.Proofs.YtokflbdfnbppjaaGreatDoor
open Go Go.Vc Go.Proofs
section
variable {w:World} {K:Value->World->Prop}
theorem unit_mem {put cl:List Int} {x:Int} (h:M.unitC put cl x):x∈cl/\M.placeOf put x.natAbs=0:=by
 have:x∈cl.filter λl=>decide (M.placeOf put l.natAbs=0):=by rw[h.2];exact gn.2 rfl
 rw[pd,decide_eq_true_eq] at this;exact this
theorem push_int {pv:Value} {xs:List Int} {x:Int} (h:OwnI P zr w pv xs) (n:xs.length<=100000) (i:∀w' c,Same (λb=>pv.ownBlock=some b) w w'->OwnI P zr w' c (xs++[x])->(∀b,c.ownBlock=some b->pv.ownBlock=some b\/w.heap.size<=b)->K c w'):
  vbuildS P zr 1 [(0,.int .i64 x)] w λs w1=>vbi P .append [zr,zr] zr [pv,s] w1 K:=by
 refine xD Jh YV X5 rfl rfl dC λb3 o k a l d=>?_;refine OwnI.app1 (h.ext a) xF0 d oM oM λv4 m f g e=>?_;refine i m v4 ((Same.of_ext a).trans g) f λb j=>?_;rcases e b j with h|h
 ·exact .inl h
 ·exact .inr (by have:=a.size;omega)
end
end Go.Proofs.YtokflbdfnbppjaaGreatDoor
namespace Go.Vc
open Go
section
variable {P:Program} {t:TypeId} {w:World} {v:Value} {vs:List Value} {F:Nat->Prop}
theorem Vals.part (h:Vals F w v vs) (j:vs≠[]) (p:elB P t 1=true) {n:Nat} (r:n<=vs.length):∃v1,(∀(kd:IntKind) (w':World) (K:Value->World->Prop),yY P t v none (some (.int kd n)) none w' K=K v1 w')/\Vals F w v1 (vs.take n):=by
 obtain⟨hu,hs⟩:=zJ0 p;obtain⟨a,c,rfl,l,g,d⟩:=h.shape;obtain⟨b,o,rfl,hF,k,f⟩:=d (by simpa using j);rw[X0] at l f;refine⟨.slice (some ⟨b,o,none⟩) n c,λkd w' K=>yU ?_,⟨some ⟨b,o,none⟩,c,?_,?_,g,λ_=>⟨b,o,rfl,hF,k,λi m=>?_⟩⟩,λx q=>by obtain⟨u,_,rfl⟩:=gk.1 q;rfl⟩
 ·rw[run_sliceAt_slice w' t _ _ _ _ hu,run_slice_h w' t _ _ _ hu kd n oM oM,run_sizeOf hs];simp[Result.andThen,sliced];exact λ_=>rfl
 ·simp;omega
 ·simp;omega
 ·simp only[X0,gi] at m;have:=f i oM;have e:(List.map (λx=>[x]) (vs.take n)).getD i []=(List.map (λx=>[x]) vs).getD i []:=by
   simp[q0,pN,show i<n by omega]
  rw[e];exact this
theorem Vals.rest (h:Vals F w v vs) (j:vs≠[]) (s:elB P t 1=true) {n:Nat} (z:n<=vs.length):∃v1,(∀(kd:IntKind) (w':World) (K:Value->World->Prop),yY P t v (some (.int kd n)) none none w' K=K v1 w')/\Vals F w v1 (vs.drop n):=by
 obtain⟨hu,hs⟩:=zJ0 s;obtain⟨a,c,rfl,m,p,d⟩:=h.shape;obtain⟨b,o,rfl,hF,l,f⟩:=d (by simpa using j);rw[X0] at m f;refine⟨sliced (some ⟨b,o,none⟩) n vs.length c 1,λkd w' K=>yU ?_,?_⟩
 ·rw[run_sliceAt_slice w' t _ _ _ _ hu,run_slice_l w' t _ _ _ hu kd n oM (by simp;omega),run_sizeOf hs];simp[Result.andThen]
 ·refine⟨⟨_,c-n,rfl|>λ(_:True=True)=>by simp[sliced];rfl,by simp;omega,oM,λg=>?_⟩,λx y=>by obtain⟨u,_,rfl⟩:=gk.1 y;rfl⟩;have r:n<vs.length:=by
   refine Nat.lt_of_not_le λk=>g ?_;rw[Pn k];rfl
  rw[if_neg oM];refine⟨b,o+n,by simp[xU],hF,l,λi q=>?_⟩;simp only[X0,GO] at q;have:=f (n+i) oM;have e:(List.map (λx=>[x]) (vs.drop n)).getD i []=(List.map (λx=>[x]) vs).getD (n+i) []:=by
   simp[q0,pO]
  rw[e,show o+n+i*1=o+(n+i)*1 by omega];exact this
end
end Go.Vc
namespace Go.Proofs.YtokflbdfnbppjaaGreatDoor
open Go Go.Vc Go.Proofs
section
variable {w:World} {K:Value->World->Prop} {D F F' G:Nat->Prop} {dv iv:Value} {ds:List M.Dcl} {ins:List Bool}
def Ym0 (ds:List M.Dcl) (i:Nat):Nat:=M.nIn (ds.take i)
theorem off_succ (a:M.declOk ds=true) {i:Nat} (c:i<ds.length):Ym0 ds (i+1)=Ym0 ds i+(ds.getD i (M.nada,0)).2.toNat:=by
 have g:=M.bits_le a c;have hw:=M.dcl_wide a c;unfold Ym0 M.nIn;have e:M.bits (ds.take (i+1))=M.bits (ds.take i)+(ds.getD i (M.nada,0)).2:=by
  rw[M.take_add c (M.nada,0)];unfold M.bits;rw[gu,Pe];simp
 have f:0<=M.bits (ds.take i):=M.bits_pos' λd b=>M.dpos a d (gX b);rw[e];omega
theorem WR0:Ym0 ds ds.length=M.nIn ds:=by unfold Ym0;rw[gA]
theorem off_le (hd : M.declOk ds = true) {i : Nat} (hi : i <= ds.length) : Ym0 ds i <= M.nIn ds := by
  induction h : ds.length - i generalizing i with
  | zero => have : i = ds.length := by omega
            subst this; exact Nat.le_of_eq WR0
  | succ n ih =>
    have h2 := off_succ hd (show i < ds.length by omega)
    have := ih (i := i + 1) (by omega) (by omega)
    omega
theorem envB_take:∀{ds:List M.Dcl} {ins:List Bool} {i:Nat},(∀d,d∈ds->0<=d.2)->i<ds.length->(M.envB ds ins).getD i 0=(M.msbN ((ins.drop (Ym0 ds i)).take (ds.getD i (M.nada,0)).2.toNat):Int)
 |[],_,_,_,h=>by simp at h
 |d::ds,ins,0,_,_=>by
  have:Ym0 (d::ds) 0=0:=rfl;rw[this];simp[M.envB]
 |d::ds,ins,i+1,c,h=>by
  have f:=c d V0;have a:∀x,x∈ds->0<=x.2:=λx b=>c x (gh _ b);have g:0<=M.bits (ds.take i):=M.bits_pos' λx b=>a x (gX b);have e:Ym0 (d::ds) (i+1)=d.2.toNat+Ym0 ds i:=by
   unfold Ym0 M.nIn;rw[List.take_succ_cons,M.bits_cons'];omega
  unfold M.envB;rw[GB,envB_take a (by simpa using h),e,GB,<-z0i]
theorem msb_snoc (bs:List Bool) (b:Bool):(M.msbN (bs++[b]):Int)=2*M.msbN bs+M.b2i b:=by
 rw[M.msb_app];cases b<;>simp[M.msbN,M.b2i]<;>omega
theorem BlastEnv_spec (Q:DclsR F w dv ds) (hi:Bools F' w iv ins) (d:M.declOk ds=true) (hl:ins.length=M.nIn ds)
  (hK:∀w' r,Ext w w'->OwnI P zr w' r (M.envB ds ins)->(∀b,r.ownBlock=some b->w.heap.size<=b)->K r w'):vcall P XW #[dv,iv] w K:=by
 apply jC0;obtain⟨ag,ah⟩:=M.nIn_eq d;have Z:Bools (λx=>x<w.heap.size) w iv ins:=Sl.weaken hi λx _ h=>h;refine zR (λu w'=>u=[]/\Ext w w') (λC S=>?_) ?_
 ·refine DeclOk_spec Q λw1 f=>?_;rw[d];simp only[push_cast,ph,(hi.ext f).len];refine bitsOf_spec (Q.ext f) d λw2 W=>?_;simp only[push_cast];refine zh (λh=>absurd oM h) (λ_=>S _ _ ⟨rfl,f.trans W⟩)
 rintro _ _ w1 ⟨rfl,f⟩;simp only[push_cast,(Q.ext f).len];have h4:=(M.decl_iff.1 d).1;have V:=M.dpos d;have Y:=M.envB_len ds ins;refine vloop_up ds.length (λi u w'=> ∃v r,u=[v,r,.int .i64 i]/\Ext w w'/\Bools (λx=>x<w.heap.size) w' v (ins.drop (Ym0 ds i))/\OwnI P zr w' r ((M.envB ds ins).take i)/\∀b,r.ownBlock=some b->w.heap.size<=b) ⟨iv,_,rfl,f,by simpa[Ym0,M.nIn,M.bits] using Z.ext f,OwnI.nil,λb hb=>by cases hb⟩ ?_;rintro i _ _ w2 C ae ⟨v,r,rfl,E,a6,t,s⟩ S;simp only[push_cast];refine zh (λa=>?_) (λa=>?_)
 ·have p:i<ds.length:=oM;have I:=Q.ext E;have aa:=M.dcl_wide d p;have z:=off_succ d p;have ab:=off_le d (i:=i+1) oM;have o:(ins.drop (Ym0 ds i)).length=M.nIn ds-Ym0 ds i:=(by rw[GO,hl]);simp(disch:=first|(simp only[push_cast])|omega) only[push_cast,I.iaddr,I.load];refine zB jV λb3 w3 ad X aj R=>?_;refine stDecl R λw4 a5 ak G=>?_;have k:Ext w2 w4:=Ext.then X a5 λy hy=>by subst hy;omega
  have e4:=E.trans k;have O:=a6.ext k;have het:=envB_take (ins:=ins) V p;obtain⟨wd,l⟩:∃wd:Nat,(ds.getD i (M.nada,0)).2=wd:=⟨_,(Int.toNat_of_nonneg oM).symm⟩;rw[l] at aa z het;rw[gm] at z het;simp(disch:=first|(simp only[push_cast])|omega) only[push_cast,G.ld1,l];have J:(ins.drop (Ym0 ds i)).map (λx=>Value.bool x)≠[]:=λh=>by
   have:=congrArg List.length h;rw[X0,o] at this;simp at this;omega
  obtain⟨v5,H,a7⟩:=Vals.part O J XH0 (n:=wd) (by rw[X0,o];omega);rw[H];have g:Bools (λx=>x<w.heap.size) w4 v5 ((ins.drop (Ym0 ds i)).take wd):=by unfold Bools;rw[GK];exact a7
  generalize U:(ins.drop (Ym0 ds i)).take wd=bs at g het;have m:bs.length=wd:=by rw[<-U,gi,o];omega
  simp only[push_cast,g.len,m];refine vloop_up wd (λj u w'=>u=[.int .i64 (M.msbN (bs.take j)),.int .i64 j]/\w'=w4) ⟨rfl,rfl⟩ ?_;rintro j _ _ _ C1 hj ⟨rfl,rfl⟩ T;simp only[push_cast];have af:=M.msb_lt (bs.take j);have ai:2^(bs.take j).length<=2^4:=gP oM (by rw[gi];omega);refine zh (λc=>?_) (λc=>?_)
  ·have a1:j<wd:=oM;simp(disch:=first|(simp only[push_cast])|omega) only[push_cast,g.iaddr,gm,g.load,zJ];refine UH ?_;have ac:0<=M.b2i (bs.getD j false)/\M.b2i (bs.getD j false)<=1:=by unfold M.b2i;split<;>omega
   have N:=msb_snoc (bs.take j) (bs.getD j false);rw[<-M.take_add (by omega:j<bs.length) false] at N;simp only[push_cast];rw[<-N,zJ oM oM];exact T a1 _ _ ⟨rfl,rfl⟩
  ·have a2:j=wd:=oM;subst a2;rw[<-m,gA];have a4:=t.ext k;refine push_int a4 (by rw[gi];omega) λw6 r6 B L a3=>?_;have lr:∀x,r.ownBlock=some x->x<w2.heap.size:=λx D=>(t.lt D);have q6:=G.same B λe=>by have:=lr _ e;omega
   have a8:=O.same B λx D _ e=>by have:=s x e;omega
   have z24:=k.size;have z2:=E.size;rw[<-het,<-M.take_add oM 0] at L;obtain⟨v7,A,a9⟩:=Vals.rest a8 J XH0 (n:=bs.length) (by rw[X0,o];omega);simp(disch:=first|(simp only[push_cast])|omega) only[push_cast,q6.ld1,l,m.symm,A];rw[inc64' oM];refine S p _ _ ⟨v7,r6,rfl,Ext.then (E.trans k) B λx D=>s x D,?_,?_,λx D=>?_⟩
   ·rw[z,<-m];have q:=a9;rw[<-pR,z0i] at q;exact q
   ·exact L
   ·rcases a3 x D with e|e
    ·exact s x e
    ·omega
 ·have a0:i=ds.length:=oM;subst a0;rw[<-Y,gA] at t;exact hK w2 r E t s
end
end Go.Proofs.YtokflbdfnbppjaaGreatDoor
section
namespace Go.Proofs.YtokflbdfnbppjaaGreatDoor
open Go Go.Vc Go.Proofs
section
open Go.RowKit Go.Extern.Stop Go.Stop Go.Extern
theorem WX0 (a b : Addr) (w : World) (hne : a ≠ b) {ca cb : Array Value} {ta tb : TypeId} (ha : w.heap[a.block]? = some (.cells ca ta (0, 0))) (hb : w.heap[b.block]? = some (.cells cb tb (0, 0))) :
    Calls Tryz.prog 83 #[.iface 345 (.pointer (some a)), .iface 345 (.pointer (some b))] w λe w' => e = .returned (.bool false) /\ w' = w := by
  obtain ⟨i, hi, hcmp⟩ := pP.1 K90
  obtain ⟨j, hj, hjs⟩ := pP.1 K70
  have h8 := @run_callFunc_extern Tryz.prog 106 _ Extern.ReflectliteType.typeOf Tryz.func106 (by kernel_rfl) (by kernel_rfl) (by kernel_rfl) (by kernel_rfl)
  have h32 : ∀ w : World, (callFunc 330 #[.agg #[.pointer (some ⟨11, 345, none⟩)]]).run Tryz.prog w = .ok (Next.value (.bool true)) w := zE0
  have tT := YM0
  have mR := YN0
  have heq := run_eql_iface_ptr_other (P := Tryz.prog) w Tryz.underlying121 Tryz.underlying345 hi hcmp hj (by rw [hjs]; decide) hne ha hb
  have n1 := noIsE
  have n2 := JP0
  have n3 := QF0
  go_enter Tryz.func83, Tryz.ntmps83
  go_wp2
  refine wp_loop_rounds 1 ?_
  rw [rounds_succ]
  go_wp2
  go_ret
  exact ⟨rfl, rfl⟩
end
variable {w:World} {K:Value->World->Prop}
theorem VH0 {a b:Addr} (c:a≠b) {ca cb:Array Value} {ta tb:TypeId} (f:w.heap[a.block]?=some (.cells ca ta (0,0))) (g:w.heap[b.block]?=some (.cells cb tb (0,0))) (d:K (.bool false) w):vcall P ql #[erv a,erv b] w K:=
 ⟨rK,(WX0 a b w c f g).mono λe w' h=>by obtain⟨rfl,rfl⟩:=h;exact d⟩
end Go.Proofs.YtokflbdfnbppjaaGreatDoor
end
namespace Go.Proofs.YtokflbdfnbppjaaGreatDoor
open Go Go.Vc Go.Proofs Go.M
section
variable {w:World} {K:Value->World->Prop} {F Fr:Nat->Prop} {many bs:Nat} {c:Cnf} {s:Sat} {N:Nat}
structure SV where
 (vc:Value) (bt:Nat) (vp vpl vl vw vr:Value) (ls:List Value)
def SV.tf (σ:SV):Nat->Prop:=Jj σ.bt σ.vp σ.vpl σ.vl
def SV.f3 (σ:SV) (bs b:Nat):Prop:=b=bs\/σ.vw.ownBlock=some b\/σ.vr.ownBlock=some b
def SV.foot (σ:SV) (bs b:Nat):Prop:=σ.tf b\/σ.f3 bs b
structure SR (N:Nat) (Fr:Nat->Prop) (w:World) (bs many:Nat) (c:Cnf) (s:Sat) (σ:SV):Prop where
 blk:Blk w bs [.int .i64 many,σ.vc,.pointer (some ⟨σ.bt,0,none⟩),σ.vw,σ.vr,.int .i64 s.code] zA
 cm:c.many=many
 cl:Lists Fr w σ.vc c.list
 tr:TrailR Fr w σ.bt many s.put (qD s.why) σ.vp σ.vpl σ.vl
 rw:OwnI P zr w σ.vw s.why
 rl:OwnV P ya w σ.vr σ.ls
 lsl:σ.ls.length=s.learned.length
 ll:RowsR N Fr w σ.ls s.learned
 s1:∀x,σ.vw.ownBlock=some x->x≠bs
 s2:∀x,σ.vr.ownBlock=some x->x≠bs
 s3:∀x,σ.vw.ownBlock=some x->σ.vr.ownBlock≠some x
 st:∀x,σ.f3 bs x->¬σ.tf x
 sf:∀x,σ.f3 bs x->¬Fr x
section
variable {σ:SV} {w':World} {S:Nat->Prop}
theorem SR.notF (h:SR N Fr w bs many c s σ) {x:Nat} (a:σ.foot bs x): ¬Fr x:=by
 obtain⟨_,f1,f2,f3,f4⟩:=sep4.1 h.tr.sep;rcases a with(rfl|e|e|e)|e
 ·exact f1 _ rfl
 ·exact f2 _ e
 ·exact f3 _ e
 ·exact f4 _ e
 ·exact h.sf _ e
theorem SR.lt (h:SR N Fr w bs many c s σ) {x:Nat} (a:σ.foot bs x):x<w.heap.size:=by
 rcases a with(rfl|e|e|e)|rfl|e|e
 ·exact h.tr.blk.lt
 ·exact h.tr.rp.lt e
 ·exact h.tr.rpl.lt e
 ·exact h.tr.rl.lt e
 ·exact h.blk.lt
 ·exact h.rw.lt e
 ·exact h.rl.lt e
theorem SR.same (h:SR N Fr w bs many c s σ) (hw:Same S w w') (hs:∀x,σ.foot bs x->¬S x) (hF:∀x,Fr x->x<w.heap.size->¬S x):SR N Fr w' bs many c s σ:=
 ⟨h.blk.same hw (hs _ (.inr (.inl rfl))),h.cm,h.cl.same hw hF,h.tr.same hw λb a=>hs _ (.inl a),h.rw.same hw λb a=>hs _ (.inr (.inr (.inl a))),h.rl.same hw λb a=>hs _ (.inr (.inr (.inr a))),h.lsl,h.ll.same hw hF,h.s1,h.s2,h.s3,h.st,h.sf⟩
theorem SR.ext (h:SR N Fr w bs many c s σ) (hw:Ext w w'):SR N Fr w' bs many c s σ:=h.same hw (λ_ _ h=>h) λ_ _ _ h=>h
theorem SR.lists (h:SR N Fr w bs many c s σ):Vals (λb=>σ.vr.ownBlock=some b) w σ.vr σ.ls:=h.rl.vals
theorem clause_spec {k:Nat} (h:SR N Fr w bs many c s σ) (q:k<c.list.length+s.learned.length) (p:c.list.length+s.learned.length<=1000000)
  (n:∀v w',Ext w w'->Ints Fr w' v (atM c s k)->K v w'):vcall P jj #[.pointer (some ⟨bs,0,none⟩),.int .i64 k] w K:=by
 apply WV;obtain⟨cs,m,b,l⟩:=h.cl;simp(disch:=first|(simp only[push_cast])|omega) only[push_cast,h.blk.ld1,b.len];refine zh (λa=>?_) (λa=>zu λw1 d _=>?_)
 ·simp(disch:=first|(simp only[push_cast])|omega) only[push_cast,h.blk.ld1,b.iaddr,b.load];refine n _ w (Same.refl _ _) ?_;have:=l k oM;rwa[atM,XH oM]
 ·have g:=h.ext d;have e:=b.ext d;obtain⟨j,rfl⟩:∃j,k=cs.length+j:=⟨k-cs.length,oM⟩;have f:=g.lists;have o:=h.lsl;simp(disch:=first|(simp only[push_cast])|omega) only[push_cast,g.blk.ld1,g.blk.ld4,e.len,true_and];rw[show(cs.length:Int)+j-cs.length=(j:Int) from by omega];simp(disch:=first|(simp only[push_cast])|omega) only[push_cast,zJ,f.iaddr,f.load,true_and];refine n _ w1 d ?_;have:=g.ll.int (i:=j) oM;rwa[atM,m,QK0]
theorem assign_spec {l y:Int} (h:SR N Fr w bs many c s σ) (J:l≠0) (hl:l.natAbs<=many) (r:placeOf s.put l.natAbs=0) (C:∀b,Fr b->b<w.heap.size)
  (X:∀W w',SR N Fr w' bs many c {s with put:=s.put++[l],why:=s.why++[y]} W->Same (σ.foot bs) w w'->(∀b,W.foot bs b->σ.foot bs b\/w.heap.size<=b)->K (.tuple #[]) w'):
  vcall P jk #[.pointer (some ⟨bs,0,none⟩),.int .i64 l,.int .i64 y] w K:=by
 apply WW;simp(disch:=first|(simp only[push_cast])|omega) only[push_cast,h.blk.ld2];refine push_spec (d:=decide (y= -1)) h.tr J hl r C λn m w1 j f D=>?_;have S:=f.size;have t:∀x,σ.f3 bs x->¬Jj σ.bt σ.vp σ.vpl σ.vl x:=λx a=>h.st x a;have B:=h.blk.same f (t bs (.inl rfl));have Q:=h.rw.same f λx a=>t x (.inr (.inl a));have M:=h.rl.same f λx a=>t x (.inr (.inr a));have R:=h.tr.few';have a0:=h.tr.few;have hlen:=h.tr.len;rw[Wr] at hlen;simp(disch:=first|(simp only[push_cast])|omega) only[push_cast,B.ld3];refine yK Jh YV X5 rfl rfl λb1 w2 Y i a1 I=>?_;have T:=i.size;refine(Q.ext i).app1 xF0 I oM oM λo w3 z k L=>?_;have U:=k.size;have G:=(B.ext i).same k λe=>h.s1 _ e rfl;have u:∀x,o.ownBlock=some x->σ.vw.ownBlock=some x\/w1.heap.size<=x:=λx a=>(L x a).imp id λh=>oM
 have Z:=h.lt (.inr (.inl rfl));have p:∀x,o.ownBlock=some x->x≠bs:=λx a e=>by
  rcases u x a with A|A
  ·exact h.s1 x A e
  ·omega
 refine G.st z.ints.cells1 z.ints.one zn0 rfl λV v a2 H=>?_;have O:∀x,Jj σ.bt n σ.vpl m x->x<w1.heap.size:=by
  rintro x (rfl|e|e|e)
  ·exact j.blk.lt
  ·exact j.rp.lt e
  ·exact j.rpl.lt e
  ·exact j.rl.lt e
 have E:∀x,σ.f3 bs x->¬Jj σ.bt n σ.vpl m x:=λx a g=>by
  rcases D x g with e|e
  ·exact h.st x a e
  ·have:=h.lt (.inr a);omega
 have F:Same (σ.f3 bs) w1 V:=(Same.of_ext i).trans ((k.mono λx _ e=> .inr (.inl e)).trans (v.mono λx _ e=> .inl e));have q:∀x,(SV.mk σ.vc σ.bt n σ.vpl m o σ.vr σ.ls).f3 bs x->σ.f3 bs x\/w1.heap.size<=x:=by
  rintro x (e|e|e)
  ·exact .inl (.inl e)
  ·exact(u x e).imp (λe=> .inr (.inl e)) id
  ·exact .inl (.inr (.inr e))
 refine X ⟨σ.vc,σ.bt,n,σ.vpl,m,o,σ.vr,σ.ls⟩ V ⟨H,h.cm,(h.cl.same f ?_).same F ?_,?_,z.same v p,?_,h.lsl,?_,p,h.s2,?_,?_,?_⟩ ?_ ?_
 ·exact λx hF _ g=>h.notF (.inl g) hF
 ·exact λx hF _ g=>h.notF (.inr g) hF
 ·have:=j.same F λx a e=>E x e a;rwa[<-Ks0] at this
 ·exact((M.ext i).same k λx a e=>h.s3 x e a).same v λx a e=>h.s2 x a e
 ·exact(h.ll.same f λx hF _ g=>h.notF (.inl g) hF).same F λx hF _ g=>h.notF (.inr g) hF
 ·intro x a e;rcases u x a with A|A
  ·exact h.s3 x A e
  ·have:=h.lt (.inr (.inr (.inr e)));omega
 ·intro x a g;rcases q x a with e|e
  ·exact E x e g
  ·have:=O x g;omega
 ·intro x a hF;rcases q x a with e|e
  ·exact h.sf x e hF
  ·have:=C x hF;omega
 ·exact(f.mono λx _ e=> .inl e).trans (F.mono λx _ e=> .inr e)
 ·rintro x (e|e)
  ·exact(D x e).imp (λe=> .inl e) id
  ·exact(q x e).imp (λe=> .inr e) λh=>oM
theorem pop_take {α:Type} {d:α} {xs:List α} {n:Nat} (h:xs.length=n+1):xs=xs.take n++[xs.getD n d]:=by
 have:=GL n xs;rw[zK0 (d:=d) (show n<xs.length by omega),Gp (show xs.length<=n+1 by omega)] at this;exact this.symm
theorem goBack_spec {L:Int} (h:SR N Fr w bs many c s σ)
  (hK:∀f w' n,n=backN (qD s.why) L s.put.length->SR N Fr w' bs many c {s with put:=s.put.take n,why:=s.why.take n} f->Same (σ.foot bs) w w'->(∀b,f.foot bs b->σ.foot bs b)->K (.tuple #[]) w'):
  vcall P kT #[.pointer (some ⟨bs,0,none⟩),.int .i64 L] w K:=by
 apply WU;simp(disch:=first|(simp only[push_cast])|omega) only[push_cast,h.blk.ld2];have aq:=h.tr.few';have ai:=h.tr.few;have hlen:=h.tr.len;rw[Wr] at hlen;refine vloop_up s.put.length (λi u w'=> ∃f,SR N Fr w' bs many c {s with put:=s.put.take (s.put.length-i),why:=s.why.take (s.put.length-i)} f/\f.bt=σ.bt/\Same (σ.foot bs) w w'/\(∀b,f.foot bs b->σ.foot bs b)/\backN (qD s.why) L (s.put.length-i)=backN (qD s.why) L s.put.length) ⟨σ,?_,rfl,Same.refl _ _,λ_ h=>h,by simp⟩ ?_
 ·rw[Nat.sub_zero,gA,<-hlen,gA];exact h
 rintro i u g w1 C hi ⟨f,h1,a4,T,z,U⟩ hC;generalize hn:s.put.length-i=n at*;have W:(s.put.take n).length=n:=by simp;omega
 have ap:(s.why.take n).length=n:=by simp;omega
 have au:(qD (s.why.take n)).length=n:=by rw[Wr];exact ap
 have ah:n=backN (qD s.why) L s.put.length->K (.tuple #[]) w1:=λe=>hK f w1 n e h1 T z;rw[<-a4];refine zR (λu w'=>Ext w1 w'/\∃m,n=m+1/\L<lvl (qD s.why) m) ?_ ?_
 ·intro J hJ;refine zu λw2 t _=>?_;have G:=h1.ext t;have H:Ints _ w2 f.vp (s.put.take n):=G.tr.rp.ints;have a6:Ints _ w2 f.vl (kO (qD (s.why.take n))):=G.tr.rl.ints;have a7:=Wn (qD (s.why.take n));simp(disch:=first|(simp only[push_cast])|omega) only[push_cast,G.tr.blk.ld0,H.len,true_and];have r:n=backN (qD s.why) L s.put.length->K (.tuple #[]) w2:=λe=>hK f w2 n e G (T.trans (Same.of_ext t)) z;refine zh (λa=>?_) (λa=>?_)
  ·obtain⟨m,rfl⟩:∃m,n=m+1:=⟨n-1,oM⟩;simp(disch:=first|(simp only[push_cast])|omega) only[push_cast,G.tr.blk.ld0,G.tr.blk.ld2,H.len,true_and];rw[W,show(((m+1:Nat):Int)-1)=(m:Int) from by omega];simp(disch:=first|(simp only[push_cast])|omega) only[push_cast,zJ,a6.iaddr,a6.load,true_and];rw[yV0 oM,<-YT0,lvl_take oM];refine zh (λb=>hJ _ _ ⟨t,m,rfl,b⟩) (λb=>r ?_);rw[<-U,backN,if_neg b]
  ·refine r ?_;rw[<-U,show n=0 from by omega];rfl
 rintro _ g2 w2 ⟨t,m,rfl,hL⟩;have G:=h1.ext t;have H:OwnI P zr w2 f.vp (s.put.take (m+1)):=G.tr.rp;have a8:=H.ints;simp(disch:=first|(simp only[push_cast])|omega) only[push_cast,G.tr.blk.ld0,a8.len];rw[W,show(((m+1:Nat):Int)-1)=(m:Int) from by omega];simp(disch:=omega) only[push_cast,zJ];refine zu λZ a5 _=>?_;have j:=G.ext a5;have a9:OwnI P zr Z f.vp (s.put.take (m+1)):=j.tr.rp;have R:OwnI P zr Z f.vpl (jX many (s.put.take (m+1))):=j.tr.rpl;have aj:OwnI P zr Z f.vl (kO (qD (s.why.take (m+1)))):=j.tr.rl;have an:OwnI P zr Z f.vw (s.why.take (m+1)):=j.rw;have Q:=a9.ints;have X:=R.ints;have av:=Jo many (s.put.take (m+1));have hm:(s.put.take (m+1)).getD m 0∈s.put.take (m+1):=qi oM;have ar:=j.tr.bnd _ hm;simp(disch:=first|(simp only[push_cast])|omega) only[push_cast,j.tr.blk.ld0,j.tr.blk.ld1,Q.iaddr,Q.load,true_and];refine variable_spec oM oM ?_;simp(disch:=first|(simp only[push_cast])|omega) only[push_cast,j.tr.blk.ld1,X.iaddr,true_and,and_self];refine R.st YV oM λw4 aa p aw=>?_;have l:=pop_take (d:=0) W;rw[GI,Gh (by omega:m<=m+1)] at l;generalize hx:(s.put.take (m+1)).getD m 0=x at*;have Y:OwnI P zr w4 f.vpl (jX many (s.put.take m)):=by
  have hd:ja (s.put.take m++[x]):=by rw[<-l];exact j.tr.dis
  rw[<-Zd0 (many:=many) hd,<-l];simpa using aa
 obtain⟨⟨t1,t2,t3,t4,t5,t6⟩,f1,f2,f3,f4⟩:=sep4.1 j.tr.sep;have k1:∀y,f.f3 bs y->f.vpl.ownBlock≠some y:=λy k e=>j.st y k (.inr (.inr (.inl e)));have ad:Blk w4 f.bt [f.vp,f.vpl,f.vl] zH:=j.tr.blk.same p λe=>t2 _ rfl e;have a2:Blk w4 bs [.int .i64 many,f.vc,.pointer (some ⟨f.bt,0,none⟩),f.vw,f.vr,.int .i64 s.code] zA:=j.blk.same p λe=>k1 _ (.inl rfl) e;have al:=a9.same p λy k e=>t4 y k e;have ak:=aj.same p λy k e=>t6 y e k;have ao:=an.same p λy k e=>k1 y (.inr (.inl k)) e;have am:=j.rl.same p λy k e=>k1 y (.inr (.inr k)) e;refine zu λw5 o _=>?_;have S:=ad.ext o;have M:=a2.ext o;have I:=al.ext o;have E:=ak.ext o;have A:=ao.ext o;have a7:=Wn (qD (s.why.take (m+1)));simp(disch:=first|(simp only[push_cast])|omega) only[push_cast,S.ld0,S.ld2,M.ld3,I.cut,E.cut,A.cut,true_and];refine S.st (I.taken (n:=m) oM).ints.cells1 (I.taken (n:=m) oM).ints.one zn0 rfl λw6 ab ax ae=>?_
 try simp(disch:=first|(simp only[push_cast])|omega) only[push_cast,E.cut,A.cut,true_and,and_self]
 refine ae.st (E.taken (n:=m) oM).ints.cells1 (E.taken (n:=m) oM).ints.one zn0 rfl λw7 ac ay af=>?_
 try simp(disch:=first|(simp only[push_cast])|omega) only[push_cast,A.cut,true_and,and_self]
 have V:bs≠f.bt:=λe=>j.st bs (.inl rfl) (.inl e);have a3:=(M.same ab V).same ac V;refine a3.st (A.taken (n:=m) oM).ints.cells1 (A.taken (n:=m) oM).ints.one zn0 rfl λw8 F az ag=>?_;have q:Same (· =f.bt) w5 w7:=ab.trans ac;have mv:∀{xs:List Int} {v:Value},OwnI P zr w5 v xs->(∀y,v.ownBlock=some y->y≠f.bt/\y≠bs)->OwnI P zr w8 v xs:=λhv k=>(hv.same q λy e=>(k y e).1).same F λy e=>(k y e).2;have nbt:∀y,f.tf y->y≠bs:=λy k e=>j.st bs (.inl rfl) (e▸k);have hP:=I.taken (n:=m) oM;have a0:=E.taken (n:=m) (by rw[a7];omega);have hW:=A.taken (n:=m) oM;rw[GI,Gh (by omega:m<=m+1)] at hP hW;rw[levels_take,YT0,GI,Gh (by omega:m<=m+1)] at a0;have a1:Same (σ.foot bs) Z w8:=(p.mono λy _ e=>z _ (.inl (.inr (.inr (.inl e))))).trans ((Same.of_ext o).trans ((q.mono λy _ e=>z _ (.inl (.inl e))).trans (F.mono λy _ e=>z _ (.inr (.inl e)))));have D:Same (f.foot bs) Z w8:=(p.mono λy _ e=>(.inl (.inr (.inr (.inl e))))).trans ((Same.of_ext o).trans ((q.mono λy _ e=>(.inl (.inl e))).trans (F.mono λy _ e=>(.inr (.inl e)))));have O:s.put.length-(i+1)=m:=oM
 refine hC oM _ _ ⟨⟨f.vc,f.bt,cutV f.vp m,f.vpl,cutV f.vl m,cutV f.vw m,f.vr,f.ls⟩,?_,a4,?_,?_,?_⟩
 ·rw[O];refine⟨ag,j.cm,j.cl.same D λy k _ ht=>j.notF ht k,?_,?_,?_,j.lsl,j.ll.same D λy k _ ht=>j.notF ht k,?_,j.s2,?_,?_,?_⟩
  ·refine⟨(show Blk w7 f.bt [cutV f.vp m,f.vpl,cutV f.vl m] zH from af).same F λe=>V e.symm,mv hP λy e=>?_,mv (Y.ext o) λy e=>?_,mv a0 λy e=>?_,?_,?_,?_,?_,ai⟩
   ·rw[jB] at e;exact⟨λB=>t1 _ rfl (B▸e),nbt y (.inr (.inl e))⟩
   ·exact⟨λB=>t2 _ rfl (B▸e),nbt y (.inr (.inr (.inl e)))⟩
   ·rw[jB] at e;exact⟨λB=>t3 _ rfl (B▸e),nbt y (.inr (.inr (.inr e)))⟩
   ·rw[jB,jB];exact j.tr.sep
   ·show(qD (s.why.take m)).length=(s.put.take m).length;rw[Wr,gi,gi];omega
   ·have:=Kq j.tr.dis m;rwa[GI,Gh (by omega:m<=m+1)] at this
   ·intro y k;refine j.tr.bnd y ?_;show y∈s.put.take (m+1);rw[l];exact gW _ k
  ·refine mv hW λy e=>?_;rw[jB] at e;exact⟨λB=>j.st y (.inr (.inl e)) (.inl B),j.s1 y e⟩
  ·exact((am.ext o).same q λy e B=>j.st y (.inr (.inr e)) (.inl B)).same F λy e B=>j.s2 y e B
  ·intro y e;rw[jB] at e;exact j.s1 y e
  ·intro y e;rw[jB] at e;exact j.s3 y e
  ·intro y k ht;refine j.st y ?_ ?_
   ·rcases k with e|e|e
    ·exact .inl e
    ·exact .inr (.inl (by rwa[jB] at e))
    ·exact .inr (.inr e)
   ·rcases ht with e|e|e|e
    ·exact .inl e
    ·exact .inr (.inl (by rwa[jB] at e))
    ·exact .inr (.inr (.inl e))
    ·exact .inr (.inr (.inr (by rwa[jB] at e)))
  ·intro y k;refine j.sf y ?_;rcases k with e|e|e
   ·exact .inl e
   ·exact .inr (.inl (by rwa[jB] at e))
   ·exact .inr (.inr e)
 ·exact T.trans ((Same.of_ext (t.trans a5)).trans a1)
 ·intro y k;refine z y ?_;rcases k with(e|e|e|e)|e|e|e
  ·exact .inl (.inl e)
  ·exact .inl (.inr (.inl (by rwa[jB] at e)))
  ·exact .inl (.inr (.inr (.inl e)))
  ·exact .inl (.inr (.inr (.inr (by rwa[jB] at e))))
  ·exact .inr (.inl e)
  ·exact .inr (.inr (.inl (by rwa[jB] at e)))
  ·exact .inr (.inr (.inr e))
 ·rw[O,<-U,backN,if_pos hL]
end
end
section
variable {w:World} {K:Value->World->Prop} {F Fr:Nat->Prop} {many:Nat}
theorem few_ints {ks:List Int} (g:ks.Nodup) (b:∀k,k∈ks->k.natAbs<=700):ks.length<=1401:=by
 have d:(ks.map λk=>(k+701).toNat).Nodup:=by
  unfold List.Nodup;rw[pa];refine(Pp.2 λ{a c} hs=>?_);have e:a∈ks:=hs.subset (by simp);have f:c∈ks:=hs.subset (by simp);have:=b a e;have:=b c f;have i:a≠c:=by
   have:=g.sublist hs;simpa using this
  omega
 have:=nodup_le (m:=1401) d λx j=>by
  obtain⟨k,h,rfl⟩:=gk.1 j;have:=b k h;omega
 simpa using this
theorem greatest_spec {bt b:Nat} {put ks:List Int} {ds:List Bool} {vp vpl vl:Value} (h:TrailR Fr w bt many put ds vp vpl vl) (hm:ISet w b ks) (N:∀k,k∈ks->k.natAbs<=many/\placeOf put k.natAbs≠0)
  (hK:∀w' top v xs,Ext w w'->TopOf put ds ks top xs->OwnI P zr w' v xs->(∀x,v.ownBlock=some x->w.heap.size<=x)->K (.tuple #[.int .i64 (top:Nat),v]) w'):
  vcall P qY #[.pointer (some ⟨bt,0,none⟩),.map (some b)] w K:=by
 apply Vw;have ad:=h.few;have a8:=h.few';have hlen:=h.len;have a0:=hm.nodup;have af:ks.length<=1401:=few_ints a0 λk M=>by have:=(N k M).1;omega
 refine kF0 j8 hm λr w1 hr J W=>?_;refine vloop_up ks.length (λi u w'=> ∃dn top v xs,dn.length=i/\u=[.int .i64 (top:Nat),v]/\IterR w' r b ks dn/\OwnI P zr w' v xs/\TopOf put ds dn top xs/\Ext w w'/\r<w'.heap.size/\top<=700/\(∀x,v.ownBlock=some x->w.heap.size<=x/\x≠r))
  ⟨[],0,.slice none 0 0,[],rfl,rfl,J,OwnI.nil,⟨by simp,by simp,.inl rfl,pk⟩,W,?_,oM,λx z=>by cases z⟩ ?_
 ·exact J.lt
 rintro i _ g w2 C hi ⟨dn,top,v,xs,F,rfl,hit,hv,l,he,ae,D,j⟩ U;refine vnext_set hit (λA=>?_) λk x w3 M Z p S ah=>?_
 ·simp only[push_cast];refine hK w2 top v xs he ⟨λk M=>l.le k (A k M),λk=>?_,l.ne,l.nd⟩ hv λx z=>(j x z).1;rw[l.mem];obtain⟨_,_,_,_,_,_,_,_,s,_⟩:=hit;exact⟨λ⟨a,b⟩=>⟨s k a,b⟩,λ⟨a,b⟩=>⟨A k a,b⟩⟩
 have o:Ext w w3:=he.then S λy d=>by subst d;omega
 have a4:=hv.same S λy d=>(j y d).2;simp only[push_cast];refine kI0 p λx'=>?_;simp only[push_cast];obtain⟨X,Y⟩:=N k M;refine level_spec (h.ext o) X Y λw4 n=>?_;have T:=a4.ext n;have m:=p.ext n;have Q:lvl ds (placeOf put k.natAbs-1)=lvM put ds k:=rfl;have O:lvM put ds k<=700:=by have:=lvl_le ds (placeOf put k.natAbs-1);rw[Q] at this;omega
 rw[Q];simp only[push_cast];have G:i<ks.length:=by have:=p.len;simp at this;omega
 have B:∀y,y∈xs->y∈dn:=λy d=>((l.mem y).1 d).1;have ag:xs.length<=i:=by have:=Pw l.nd B;omega
 have a9:=o.size;have aa:=n.size;have R:=m.lt;have a1:k∉xs:=λh=>Z (B k h);have memd:∀y,y∈dn++[k]↔y∈dn\/y=k:=λy=>by simp
 refine zh (λa=>?_) (λa=>?_)
 ·refine yK Jh YV X5 rfl rfl λb1 w5 V f a7 E=>?_;refine U G _ _ ⟨dn++[k],lvM put ds k,_,[k],by simp[F],rfl,m.ext f,Blk.own1 (P:=P) (t:=zr) (cs:=[.int .i64 k]) (by rw[ZH0];exact E) (Gj _) rfl rfl oM,⟨λy d=>?_,λy=>?_,.inr (by simp),by simp⟩,o.trans (n.trans f),oM,O,?_⟩
  ·rcases(memd y).1 d with d|rfl
   ·have:=l.le y d;omega
   ·exact gq _
  ·rw[memd,gn];constructor
   ·rintro rfl;exact⟨.inr rfl,rfl⟩
   ·rintro⟨d|rfl,e⟩
    ·have:=l.le y d;omega
    ·rfl
  ·intro x z;have e:b1=x:=gg z;omega
 ·refine zh (λa2=>?_) (λa2=>?_)
  ·refine yK Jh YV X5 rfl rfl λb1 w5 V f a7 E=>?_;have a5:=T.ext f;refine a5.app1 xF0 E oM oM λv' w6 a6 H a3=>?_;have ab:=f.size;have ac:=H.size;have I:∀x,v'.ownBlock=some x->w.heap.size<=x/\x≠r:=λx z=>by
    rcases a3 x z with e|e
    ·exact j x e
    ·have:=he.size;constructor<;>omega
   have L:=(m.ext f).same H (λe=>by have:=(j b e).1;have:=hm.lt;omega) λe=>(j r e).2 rfl;have hE:Ext w w6:=Ext.then (o.trans (n.trans f)) H λx z=>(j x z).1;refine U G _ _ ⟨dn++[k],top,v',xs++[k],by simp[F],rfl,L,a6,⟨λy d=>?_,λy=>?_,.inr (by simp),?_⟩,hE,oM,D,I⟩
   ·rcases(memd y).1 d with d|rfl
    ·exact l.le y d
    ·omega
   ·rw[memd,gj,gn,l.mem];constructor
    ·rintro(⟨q,s⟩|rfl)
     ·exact⟨.inl q,s⟩
     ·exact⟨.inr rfl,oM⟩
    ·rintro⟨q|q,s⟩
     ·exact .inl ⟨q,s⟩
     ·exact .inr q
   ·rw[Gy];exact⟨l.nd,by simp,λa ha c hc e=>by simp at hc;subst hc;subst e;exact a1 ha⟩
  ·refine U G _ _ ⟨dn++[k],top,v,xs,by simp[F],rfl,m,T,⟨λy d=>?_,λy=>?_,l.ne,l.nd⟩,o.trans n,R,D,j⟩
   ·rcases(memd y).1 d with d|rfl
    ·exact l.le y d
    ·omega
   ·rw[memd,l.mem];constructor
    ·rintro⟨q,s⟩;exact⟨.inl q,s⟩
    ·rintro⟨q|rfl,s⟩
     ·exact⟨q,s⟩
     ·omega
end
section
variable {w:World} {K:Value->World->Prop} {F:Nat->Prop}
def We0 (a b:Int):Int:=if a<b then-1 else if b<a then 1 else 0
theorem cmpI_pos {a b:Int}:0<We0 a b↔b<a:=by unfold We0;split<;>(try split)<;>omega
theorem YO0 {a:Int} (b:K (.bool false) w):vcall P ZY #[.int .i64 a] w K:=by
 apply jD0;simp only[push_cast,ne_eq,not_true_eq_false,decide_false];exact b
theorem jN0 {a b:Int} (c:K (.int .i64 (We0 a b)) w):vcall P kJ #[.int .i64 a,.int .i64 b] w K:=by
 apply xv0;refine YO0 (YO0 ?_);simp only[push_cast];unfold We0 at c;refine zh (λh=>?_) (λh=>zh (λd=>?_) (λd=>?_))
 ·rwa[if_pos h] at c
 ·rwa[if_neg h,if_pos d] at c
 ·rwa[if_neg h,if_neg d] at c
def FnI (w0:World) (f:Value) (args:Array Value) (b:Int):Prop:=
 ∀(w':World) (K:Value->World->Prop),Ext w0 w'->(∀w'',Ext w' w''->K (.int .i64 b) w'')->vcallv P f args w' K
theorem MaxFunc_Lint {v f : Value} {xs : List Int} {g : Int -> Int} (hx : Ints F w v xs) (hne : xs ≠ []) (hf : ∀ a b, a ∈ xs -> b ∈ xs -> FnI w f #[.int .i64 a, .int .i64 b] (We0 (g a) (g b)))
    (hK : ∀ w' m, Ext w w' -> m ∈ xs -> (∀ x, x ∈ xs -> g x <= g m) -> K (.int .i64 m) w') : vcall P jd #[v, f] w K := by
  apply Jf; unfold Z6
  have hpos : 0 < xs.length := gG.2 hne
  have hlen : xs.length <= 9223372036854775807 := by obtain ⟨_, _, _, h1, h2, _⟩ := hx.shape; simp at h1; omega
  refine zR (λu w' => Ext w w' /\ w' = w) ?_ ?_
  · intro C hC
    simp (disch := first | (simp only [push_cast]; done) | omega) only [push_cast, hx.len]
    exact zh (λa => by omega) (λa => hC _ _ ⟨Same.refl _ _, rfl⟩)
  rintro _ _ _ ⟨-, rfl⟩
  simp (disch := first | (simp only [push_cast]; done) | omega) only [hx.iaddr, Int.toNat_zero, hx.load]
  refine vloop_up (xs.length - 1) (λi u w' => ∃ m, u = [.int .i64 m, .int .i64 (i + 1 : Nat)] /\ Ext w' w' /\ Ext _ w' /\ m ∈ xs /\ ∀ j, j <= i -> g (xs.getD j 0) <= g m) ⟨xs.getD 0 0, rfl, Same.refl _ _, Same.refl _ _, qi hpos, λj hj => by
    have : j = 0 := by omega
    subst this; exact Pk _⟩ ?_
  rintro i _ _ w1 C hi ⟨m, rfl, -, he, hm, hmax⟩ hC
  have hx1 := hx.ext he
  simp (disch := first | (simp only [push_cast]; done) | omega) only [sl0, sl1, hx1.len, Z20]
  refine zh (λa => ?_) (λa => ?_)
  · simp (disch := first | (simp only [push_cast]; done) | omega) only [hx1.iaddr, gm, hx1.load]
    have hj : xs.getD (i + 1) 0 ∈ xs := qi (by omega)
    refine hf _ _ hj hm w1 _ he λw2 he2 => ?_
    have hx2 := hx1.ext he2
    have hadd : IntKind.i64.wrap (((i + 1 : Nat) : Int) + 1) = ((i + 1 + 1 : Nat) : Int) := by rw [zJ (by omega) (by omega)]; omega
    simp only [Vj0]
    refine zh (λb => ?_) (λb => ?_)
    · simp (disch := first | (simp only [push_cast]; done) | omega) only [hx2.iaddr, gm, hx2.load, qo0, hadd]
      refine hC (by omega) _ _ ⟨_, rfl, Same.refl _ _, he.trans he2, hj, λj hj' => ?_⟩
      have hgt : g m < g (xs.getD (i + 1) 0) := cmpI_pos.1 b
      by_cases e : j = i + 1
      · subst e; exact Pk _
      · have := hmax j (by omega); omega
    · simp only [qo0, hadd]
      refine hC (by omega) _ _ ⟨_, rfl, Same.refl _ _, he.trans he2, hm, λj hj' => ?_⟩
      have hle : g (xs.getD (i + 1) 0) <= g m := Int.not_lt.1 λh => b (cmpI_pos.2 h)
      by_cases e : j = i + 1
      · subst e; exact hle
      · exact hmax j (by omega)
  · refine hK w1 m he hm λx hx' => ?_
    obtain ⟨j, hj, rfl⟩ := gl hx'
    have := hmax j (by omega)
    simpa [q0, hj] using this
end
section
variable {w:World} {K:Value->World->Prop} {Fr:Nat->Prop} {many bs:Nat} {c:Cnf} {s:Sat} {σ:SV} {N:Nat}
theorem learn_2_spec {a b:Int} (d:a.natAbs<=700) (e:b.natAbs<=700) (c:K (.int .i64 (We0 a.natAbs b.natAbs)) w):vcall P yZ #[.int .i64 a,.int .i64 b] w K:=by
 apply Vz;exact variable_spec oM oM (variable_spec oM oM (jN0 c))
def plM (put:List Int) (a:Int):Int:=(placeOf put a.natAbs:Int)-1
theorem YG0 {a b:Int} {p:Nat} {t:TypeId} {r:List Value} (h:SR N Fr w bs many c s σ) (o:Blk w p (.pointer (some ⟨bs,0,none⟩)::r) t) (m:a.natAbs<=many) (n:b.natAbs<=many)
  (l:∀w',Ext w w'->K (.int .i64 (We0 (plM s.put a) (plM s.put b))) w'):vcall P ka #[.int .i64 a,.int .i64 b,.pointer (some ⟨p,0,none⟩)] w K:=by
 apply VA;refine zu λw1 d _=>?_;have g:=h.ext d;have f:=o.ext d;simp only[push_cast,f.ld0,g.blk.ld2,true_and];refine place_spec g.tr m λw2 e=>?_;have k:=g.ext e;have j:=f.ext e;simp only[push_cast,j.ld0,k.blk.ld2,true_and,and_self];exact place_spec k.tr n λq i=>jN0 (l q (d.trans (e.trans i)))
theorem resolve_1_spec {a:Int} {p:Nat} {t:TypeId} {r:List Value} (h:SR N Fr w bs many c s σ) (g:Blk w p (.pointer (some ⟨bs,0,none⟩)::r) t) (f:a.natAbs<=many) (b:placeOf s.put a.natAbs≠0)
  (e:∀w',Ext w w'->K (.bool (decide (0<lvM s.put (qD s.why) a))) w'):vcall P jt #[.int .i64 a,.pointer (some ⟨p,0,none⟩)] w K:=by
 apply Kt;simp only[push_cast,g.ld0,h.blk.ld2];refine level_spec h.tr f b λw1 d=>?_;have:=e w1 d;simp only[push_cast];rwa[show decide ((0:Int)<(lvl (qD s.why) (placeOf s.put a.natAbs-1):Nat))=decide (0<lvM s.put (qD s.why) a) from decide_eq_decide.2 (by unfold lvM;omega)]
end
end Go.Proofs.YtokflbdfnbppjaaGreatDoor
