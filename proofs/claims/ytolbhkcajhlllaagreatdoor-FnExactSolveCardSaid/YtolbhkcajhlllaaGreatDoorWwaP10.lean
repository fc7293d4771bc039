import Derived.Test.YtolbhkcajhlllaaGreatDoorWwaP9
/- A part of the proof. -/
set_option linter.all false
set_option maxRecDepth 9999
set_option maxHeartbeats 2000000
noncomputable section
namespace Go.Proofs.YtolbhkcajhlllaaGreatDoor
open Go Go.Vc Go.Proofs
section
variable {w:World} {K:oK} {F D G:Nat->Prop}
inductive TmO (w:World):(Nat->Prop)->List Value->M.Tm->Prop
 |mk {D:Nat->Prop} {kv:Value} {t:M.Tm} (css:List (List Value)) (Ds:Nat->Nat->Prop) (own:Own 0 5 zl w kv css) (hl:css.length=t.ks.length)
   (hb:∀b,kv.ownBlock=some b->D b/\∀i,i<t.ks.length->¬Ds i b) (hd:∀i j b,i<j->j<t.ks.length->Ds i b->¬Ds j b) (hs:∀i b,i<t.ks.length->Ds i b->D b)
   (hk:∀i,i<t.ks.length->TmO w (Ds i) (css.getD i []) (t.ks.getD i default)):TmO w D [nI t.op,nI t.a,nI t.b,.string t.s,kv] t
theorem W9 {cs:List Value} {t:M.Tm} (h:TmO w D cs t):∃(kv:Value) (css:List (List Value)) (Ds:Nat->Nat->Prop),cs=[nI t.op,nI t.a,nI t.b,.string t.s,kv]/\Own 0 5 zl w kv css/\css.length=t.ks.length/\
  (∀b,kv.ownBlock=some b->D b/\∀i,i<t.ks.length->¬Ds i b)/\(∀i j b,i<j->j<t.ks.length->Ds i b->¬Ds j b)/\(∀i b,i<t.ks.length->Ds i b->D b)/\∀i,i<t.ks.length->TmO w (Ds i) (css.getD i []) (t.ks.getD i default):=by
 cases h with
 |mk css Ds own f c d hs e=>exact⟨_,css,Ds,rfl,own,f,c,d,hs,e⟩
theorem xb0:∀(t:M.Tm) {D:Nat->Prop} {cs:List Value},TmO w D cs t->TmR D w cs t:=by
 refine M.Tm.ind λt f D cs h=>?_;obtain⟨kv,css,Ds,rfl,own,e,c,g,hs,d⟩:=W9 h;exact TmR.of ⟨css,own.sl.weaken λb a _=>(c b a).1,e,λi hi=>(f _ (M.getD_mem hi _) (d i hi)).weaken λb a _=>hs i b hi a⟩
theorem jC {S:Nat->Prop} {w w':World} (hw:Same S w w'):∀(t:M.Tm) {D:Nat->Prop} {cs:List Value},TmO w D cs t->(∀b,D b->¬S b)->TmO w' D cs t:=by
 refine M.Tm.ind λt k D cs h d=>?_;obtain⟨kv,css,Ds,rfl,own,j,c,f,hs,g⟩:=W9 h;exact .mk css Ds (own.same hw λb e=>d b (c b e).1) j c f hs λi hi=>k _ (M.getD_mem hi _) (g i hi) λb a=>d b (hs i b hi a)
theorem qg0 {w':World} {cs:List Value} {t:M.Tm} (h:TmO w D cs t) (hw:Ext w w'):TmO w' D cs t:=jC hw t h λ_ _ h=>h
theorem qx {cs:List Value} {t:M.Tm} (h:TmO w D cs t) (a:∀b,D b->F b):TmO w F cs t:=by
 obtain⟨kv,css,Ds,rfl,own,f,c,d,hs,e⟩:=W9 h;exact .mk css Ds own f (λb h=>⟨a b (c b h).1,(c b h).2⟩) d (λi b hi h=>a b (hs i b hi h)) e
structure Grow (lo:Nat) (w:World) (kv:Value) (css:List (List Value)) (us:List M.Tm) (Ds:Nat->Nat->Prop):Prop where
 own:Own 0 5 zl w kv css
 len:css.length=us.length
 blk:∀b,kv.ownBlock=some b->lo<=b/\∀j,j<us.length->¬Ds j b
 dis:∀j k b,j<k->k<us.length->Ds j b->¬Ds k b
 sub:∀j b,j<us.length->Ds j b->lo<=b/\b<w.heap.size
 kid:∀j,j<us.length->TmO w (Ds j) (css.getD j []) (us.getD j default)
theorem ku0 (lo:Nat) (w:World):Grow lo w (.slice none 0 0) [] [] λ_ _=>False:=
 ⟨Own.nil _ _ _ _,rfl,λb h=>(by cases h),λj k b _ c=>absurd c (by simp),λj b a=>absurd a (by simp),λj a=>absurd a (by simp)⟩
theorem zR0 {S:Nat->Prop} {lo:Nat} {kv:Value} {w':World} {css:List (List Value)} {us:List M.Tm} {Ds:Nat->Nat->Prop} (h:Grow lo w kv css us Ds) (hw:Same S w w') (hs:∀b,lo<=b->¬S b):Grow lo w' kv css us Ds:=
 ⟨h.own.same hw λb a=>hs b (h.blk b a).1,h.len,h.blk,h.dis,λj b c a=>⟨(h.sub j b c a).1,ph (h.sub j b c a).2 hw.size⟩,λj c=>jC hw _ (h.kid j c) λb a=>hs b (h.sub j b c a).1⟩
theorem grow_push {lo r:Nat} {kv:Value} {E x y w10:World} {css:List (List Value)} {us:List M.Tm} {Ds:Nat->Nat->Prop} {cr:List Value} {u:M.Tm} (h:Grow lo E kv css us Ds) (F:Ext E x) (G:Ext x y) (R:lo<=x.heap.size)
  (I:TmO y (λb=>x.heap.size<=b/\b<y.heap.size) cr u) (p:Ext y w10) (A:Blk w10 r cr za) (S:us.length<=1048576)
  (O:∀d g z,Grow lo g d (css++[cr]) (us++[u]) z->Same (λb=>kv.ownBlock=some b) w10 g->d.cells= #[d]->d.oneCell'=true->K d g):
  vbi .append [zl,zl] zl [kv,.slice (some ⟨r,0,none⟩) 1 1] w10 K:=by
 have t:=xb0 _ I;have s:=F.trans (G.trans p);have g10:=zR0 h s λb _ h=>h;have T:=F.size;have U:=G.size;have J:=p.size;have H:=h.len;refine Own.app1k g10.own qy dC A (zW t) (tmR_one t) oM oM λd g o f w=>?_;have L:=f.size;have v:d.cells= #[d]/\d.oneCell'=true:=by
  obtain⟨a,c,rfl,_⟩:=o.sl.shape;exact⟨rfl,rfl⟩
 have hold:∀b,kv.ownBlock=some b->b<E.heap.size:=λb i=>(h.own.lt i).2;refine O d g (λj b=>(j=us.length/\x.heap.size<=b/\b<y.heap.size)\/(j<us.length/\Ds j b)) ⟨o,by simp[H],λb i=>?_,λj k b C Q q D=>?_,λj b q i=>?_,λj q=>?_⟩ f v.1 v.2
 ·rcases w b i with e|e
  ·refine⟨(h.blk b e).1,λj q B=>?_⟩;rcases B with⟨_,m,_⟩|⟨m,n⟩
   ·have:=hold b e;omega
   ·exact(h.blk b e).2 j m n
  ·refine⟨oM,λj q B=>?_⟩;rcases B with⟨_,_,m⟩|⟨m,n⟩
   ·omega
   ·have:=(h.sub j b m n).2;omega
 ·rw[y3,gO] at Q;rcases q with⟨m,n,N⟩|⟨m,n⟩
  ·omega
  ·rcases D with⟨g1,g2,g3⟩|⟨g1,g2⟩
   ·have:=(h.sub j b m n).2;omega
   ·exact h.dis j k b C g1 n g2
 ·rcases i with⟨m,n,N⟩|⟨m,n⟩
  ·exact⟨oM,oM⟩
  ·have:=h.sub j b m n;exact⟨this.1,oM⟩
 ·rw[y3,gO] at q;by_cases e:j<us.length
  ·rw[y0,gZ oM,<-y0,y0 (l:=us++[u]),gZ e,<-y0];refine qx (jC f _ (g10.kid j e) λb i hs=>(h.blk b hs).2 j e i) λb i=> .inr ⟨e,i⟩
  ·have:j=us.length:=oM;subst this;rw[y0,Gm oM,H,G8,y0 (l:=us++[u]),Gm (gp _),G8];show TmO g _ cr u;refine qx (jC f _ (qg0 I p) λb i hs=>by have:=hold b hs;omega) λb i=> .inl ⟨rfl,i⟩
theorem qU0 {lo:Nat} {kv:Value} {css:List (List Value)} {t:M.Tm} {Ds:Nat->Nat->Prop} (h:Grow lo w kv css t.ks Ds):TmO w (λb=>lo<=b/\b<w.heap.size) [nI t.op,nI t.a,nI t.b,.string t.s,kv] t:=
 .mk css Ds h.own h.len (λb c=>⟨⟨(h.blk b c).1,(h.own.lt c).2⟩,(h.blk b c).2⟩) h.dis (λi b hi c=>h.sub i b hi c) h.kid
theorem retO {b:Nat} {cs cs':List Value} {t:TypeId} {f:M.Tm} {K:oK} (h:Blk w b cs t) (j:cs.length=5) (d:TmO w G cs' f) (c:∀x,G x->x≠b) (i:∀w',Same (· =b) w w'->w'.heap.size=w.heap.size->TmO w' G cs' f->K (.agg ⟨cs'⟩) w'):
  zR za (oP b 0) (.agg ⟨cs'⟩) w λ_ w1=>vlv za (oP b 0) w1 λr w2=>K r w2:=
 qb h j (xb0 _ d) c λw' hw k _=>i w' hw k (jC hw _ d λg a e=>c g a e)
theorem Jx {us:List M.Tm} {i:Nat} (h:i<us.length):us.take i++[us.getD i default]=us.take (i+1):=(M.take_add h default).symm
theorem copyTerm_spec:∀(t:M.Tm) {w:World} {K:oK} {F:Nat->Prop} {v:Value},TermR F w v t->xs0 t=true->(∀w' cs,Ext w w'->TmO w' (λb=>w.heap.size<=b/\b<w'.heap.size) cs t->K (.agg ⟨cs⟩) w')->vcall K2 #[v] w K:=by
 refine M.Tm.ind λt ih w K F v ht J hK=>?_;obtain⟨f1,f2⟩:=fitB_iff.1 J;refine zg {ord:=[oz 6 (oR 8) [(0,[2,3,4]),(1,[2,3,4])]],loops:=[(4,[11])]} Tryz.func40 ?_;obtain⟨kv,rfl,a2⟩:=ht;refine zj λb1 w1 af E ai h1=>?_;refine zi zr λb2 w2 ag G aj h2=>?_;have al:=E.size;have q2:=h1.ext G;have z:=E.trans G;have a1:TmsR (λx=>x<w.heap.size) w2 kv t.ks:=(a2.weaken λb _ h'=>h').ext z;simp only[push_cast,q2.ld4];refine q2.st (i:=4) rfl rfl xG rfl λS p am W=>?_;replace W:Blk S b1 [nI t.op,nI t.a,nI t.b,.string t.s,.slice none 0 0] za:=W;have A:Ext w S:=Ext.then z p λy q=>by subst q;omega
 have L:=a1.same p λb D _ e=>oM
 have r4:=h2.same p oM;simp only[push_cast,L.len];refine vloop_up t.ks.length (λi u w'=>u=[nI i]/\Same (λb=>b=b1) S w'/\∃g css Ds,Blk w' b1 [nI t.op,nI t.a,nI t.b,.string t.s,g] za/\Grow S.heap.size w' g css (t.ks.take i) Ds)
  ⟨rfl,Same.refl _ _,_,[],_,W,ku0 _ _⟩ ?_
 rintro i _ _ w5 C hi ⟨rfl,c,g,css,Ds,h5,g5⟩ hC;have an:=c.size;have ac:=A.size;have X:Ext w w5:=Ext.then A c λy q=>by subst q;omega
 have N:=L.same c λb D _ e=>oM
 simp only[push_cast];refine zb (λa=>?_) (λa=>?_)
 ·simp(disch:=first|(simp only[push_cast])|omega) only[push_cast,N.iaddr];refine N.load zc oM λx hx=>?_;obtain⟨cx,rfl,n⟩:=hx.cells;refine zi zr λb6 w6 ah H ak h6=>?_;refine stTerm h6 rfl (n.ext H) λw7 a5 ap h7=>?_;have U:Ext w5 w7:=Ext.then H a5 λy q=>by subst q;omega
  refine zd λw8 I _=>?_;have d:=U.trans I;have q8:=h5.ext d;have v8:=h7.ext I;simp only[push_cast,q8.ld4,v8.ldAgg (t:=za) (by rw[zW n];exact zc),true_and];have j:t.ks.getD i default∈t.ks:=M.getD_mem oM _;have ad:=d.size;refine ih _ j (n.ext d).term (f2 _ j) λw9 cr o hr=>?_;have q9:=q8.ext o;simp only[push_cast,q9.ld4,true_and,and_self];have Z:=xb0 _ hr;refine qC qw qU zr rfl (zW Z) dC λae w10 a9 f aa V=>?_;have R:=q9.ext f;simp only[push_cast,R.ld4,true_and,and_self];refine grow_push g5 d o oM hr f V (by rw[V0];omega) λQ aq T g11 k a6 a7=>?_;have a8:=R.same k (λe=>by have:=(g5.blk _ e).1;omega)
  try simp only[push_cast,true_and]
  refine a8.st (i:=4) a6 a7 xG rfl λr l ab m=>?_;replace m:Blk r b1 [nI t.op,nI t.a,nI t.b,.string t.s,Q] za:=m;rw[inc64' oM];have B:Same (λb=>b=b1\/g.ownBlock=some b) w5 r:=(Same.of_ext (d.trans (o.trans f))).trans ((k.mono λ_ _ h=> .inr h).trans (l.mono λ_ _ h=> .inl h));have Y:Same (λb=>b=b1) S r:=⟨B.os.trans c.os,B.tape.trans c.tape,B.output.trans c.output,gH c.size B.size,λb D O=>(B.block b oM (λe=>e.elim O λe=>by have:=(g5.blk b e).1;omega)).trans (c.block b D O)⟩;rw[Jx oM] at g11;exact hC oM _ _ ⟨rfl,Y,Q,_,T,m,zR0 g11 l λb D e=>oM⟩
 ·have a0:i=t.ks.length:=oM;subst a0;rw[gq] at g5;rw[h5.ldAgg (t:=za) zc];refine retO (r4.same c oM) rfl (qU0 g5) (λx hx=>oM) λw6 a4 ao a3=>?_;exact hK _ _ (Ext.then X a4 λy q=>by subst q;omega) (qx a3 λb D=>⟨oM,oM⟩)
@[push_cast] theorem bd_T4 (o a b:Int) (s:ByteArray):yz za [(0,nI o),(1,nI a),(2,nI b),(3,.string s)] w K=K (.agg ⟨[nI o,nI a,nI b,.string s,.slice none 0 0]⟩) w:=zV j0 (us:=[[nI o],[nI a],[nI b],[.string s]]) rfl rfl
theorem fit_size:∀t:M.Tm,M.sizeM t<=1000->xs0 t=true:=by
 refine M.Tm.ind λt c h=>?_;have b:∀i,i<t.ks.length->M.sizeM (M.kid t i)+1<=M.sizeM t:=λi hi=>(M.kid_size hi).1;have d:t.ks.length<=M.sizeM t:=by
  have:=M.szT_all t;have mono:∀i,i<=t.ks.length->i<=M.szT t.ks i:=λi=>by
   induction i with
   |zero=>intro _;exact gM _
   |succ i ihi=>
    intro hi;have:=ihi oM;have:=M.szT_succ (ks:=t.ks) (i:=i) oM;have:=(M.size_pos (t:=t.ks.getD i default)).1;omega
  have:=mono t.ks.length (gp _);omega
 refine fitB_iff.2 ⟨oM,λk a=>?_⟩;obtain⟨i,hi,rfl⟩:=gj a;have:=b i hi;unfold M.kid at this;rw[y0,y4 hi] at this;exact c _ a (by simp only[GD] at this;omega)
def Qz (ds:List M.Dcl) (t:M.Tm):M.Tm:=if M.tsort ds t= -1 then .mk 0 0 0 M.nada [] else M.foldT ds t
theorem zeroO:TmO w D W5 (.mk 0 0 0 M.nada []):=
 TmO.mk (t:= .mk 0 0 0 M.nada []) [] (λ_ _=>False) (Own.nil _ _ _ _) rfl (λb h=>(by cases h)) (λi j b _ a=>absurd a (by show¬j<0;omega)) (λi b hi=>absurd hi (by show¬i<0;omega)) (λi hi=>absurd hi (by show¬i<0;omega))
theorem small_of {ds:List M.Dcl} {t:M.Tm} (h:M.tsort ds t≠ -1):M.declOk ds=true/\M.sortM ds t≠ -1/\M.sizeM t<=20:=by
 rcases dtSize (ds:=ds) (t:=t) with e|⟨c,d,f,a,b⟩
 ·exact absurd e h
 ·exact⟨b,oM,(M.fits_iff.1 a).1⟩
theorem jh0 {a:Option Addr} {l c mb:Nat}:yz ye [(0,.slice a l c),(1,.map (some mb))] w K=K (qJ (.slice a l c) mb) w:=zV UJ (us:=[[.slice a l c],[.map (some mb)]]) rfl rfl
theorem TermFold_spec {dv tv:Value} {ds:List M.Dcl} {t:M.Tm} (s:DclsR F w dv ds) (C:TermR G w tv t) (m:∀w' cs,Ext w w'->TmO w' (λb=>w.heap.size<=b/\b<w'.heap.size) cs (Qz ds t)->K (.agg ⟨cs⟩) w'):vcall Kb #[dv,tv] w K:=by
 refine zg {ord:=[oz 3 [0,3,1,2,4,5,6] [(0,[3,1]),(3,[1,2])]]} Tryz.func27 ?_;obtain⟨ct,rfl,r⟩:=C.cells;have u:aggB za ct.length=true:=by rw[zW r];exact zc
 refine zj λb1 w1 W n Y U=>?_;refine zi zr λb2 w2 X o Z V=>?_;have R:=U.ext o;have g:=n.trans o;have a1:=n.size;rw[R.ldAgg (t:=za) u];refine TermSort_spec (s.ext g) (C.ext g) λw3 d=>?_;have k:=g.trans d;have T:=V.ext d;have a2:=d.size;simp only[push_cast];unfold Qz at m;refine zb (λa=>?_) (λa=>?_)
 ·rw[if_pos a] at m
  try simp only[push_cast]
  refine retO (G:=λ_=>False) T rfl zeroO (λx N=>N.elim) λw4 D I v=>?_;exact m _ _ (Ext.then k D λy H=>by subst H;omega) (qx v λb J=>J.elim)
 ·rw[if_neg a] at m;obtain⟨q,hs,a0⟩:=small_of a;refine zd λw4 e _=>?_;have S:=R.ext (d.trans e);simp only[push_cast,S.ldAgg (t:=za) u,true_and];refine VX λw5 mb f hm=>?_;have q5:=S.ext f;have c:=k.trans (e.trans f);obtain⟨da,dc,rfl,_⟩:=s.shape;rw[y1] at*;simp only[push_cast,q5.ldAgg (t:=za) u,true_and,and_self,jh0];refine fold_spec t (G:=λx=>x<w.heap.size) (s.ext c) hm q ((C.weaken λb _ h=>h).ext c) hs λw6 rv i B=>?_;have l:=c.trans i;have j:=M.fold_good q t hs;have L:=j.size;refine copyTerm_spec _ B (fit_size _ oM) λw7 cs p z=>?_;have a3:=c.size;have a4:=l.size;have r7:=T.ext (e.trans (f.trans (i.trans p)));have I:=e.size;have O:=f.size;have Q:=i.size;refine retO r7 rfl z (λx N=>oM) λw8 E a5 A=>?_;exact m _ _ (Ext.then (l.trans p) E λy H=>by subst H;omega) (qx A λb J=>⟨oM,oM⟩)
end
end Go.Proofs.YtolbhkcajhlllaaGreatDoor
namespace Go.M
open Go.Vc
section
section
variable {ds:List Dcl} {t:Tm}
def boolM (b:Bool):Tm:=if b=true then truT else flsT
def logicS (t:Tm):Tm:=
 if t.op=25 then(if(kid t 0).op=25 then kid (kid t 0) 0 else t)
 else if t.op=23 then(if isM (kid t 0) 1=true\/(kid t 1=kid t 2/\¬isM (kid t 0) 0=true) then kid t 1 else if isM (kid t 0) 0=true then kid t 2 else t)
 else if isM (kid t 0) (b2i (decide (t.op=26)))=true\/kid t 0=kid t 1 then kid t 1
 else if isM (kid t 1) (b2i (decide (t.op=26)))=true then kid t 0
 else if isM (kid t 0) (1-b2i (decide (t.op=26)))=true\/isM (kid t 1) (1-b2i (decide (t.op=26)))=true then boolM (decide (b2i (decide (t.op=26))=0)) else t
def rightS (t:Tm):Tm:=
 if t.op=4\/t.op=5\/t.op=6\/t.op=7\/t.op=11\/t.op=12\/t.op=13 then(if isM (kid t 1) 0=true then kid t 0 else t)
 else if t.op=3 then(if isM (kid t 1) 0=true then kid t 1 else t)
 else if t.op=8 then(if isM (kid t 1) 0=true then kid t 1 else if isM (kid t 1) 1=true then kid t 0 else t) else t
def alikeS (t:Tm) (w:Int):Tm:=
 if t.op=3\/t.op=4 then kid t 0 else if t.op=5\/t.op=7 then .mk 20 w 0 nada [] else if t.op=15 then truT else if t.op=16\/t.op=17 then flsT else t
def swapS (t:Tm):Tm:= .mk t.op 0 0 nada [kid t 1,kid t 0]
def otherS (t v:Tm):Prop:=v.ks.length≠2\/kid v 0≠kid t 1\/kid v 1≠kid t 0\/v.op≠t.op
instance (t v:Tm):Decidable (otherS t v):=by unfold otherS;infer_instance
def twoS (t:Tm) (w:Int):Tm:=
 if kid t 0=kid t 1/\alikeS t w≠t then alikeS t w
 else if rightS t≠t then rightS t
 else if(t.op=3\/t.op=4\/t.op=5\/t.op=6\/t.op=8)/\otherS t (rightS (swapS t)) then rightS (swapS t) else t
def oneS (ds:List Dcl) (t:Tm):Tm:=
 if allFixed t=true then(if sortM ds t=0 then boolM (decide (evalM ds (zeroE ds) t=1)) else .mk 20 (sortM ds t) (evalM ds (zeroE ds) t) nada [])
 else if t.ks=[] then t
 else if 23<=t.op then logicS t
 else if t.op=22 then(if sortM ds t=sortM ds (kid t 0) then kid t 0 else t)
 else if t.ks.length=1 then(if(kid t 0).op=t.op then kid (kid t 0) 0 else t)
 else twoS t (sortM ds (kid t 0))
theorem kid_ne {i:Nat} (h:i<t.ks.length):kid t i≠t:=λe=>by
 have:=(kid_size h).1
 grind
theorem X_none (h: ¬allFixed t=true):ruleX ds t=none:=by unfold ruleX;grind
theorem x40 (a:t.op≠25) (b:t.op≠23):ruleB t=none:=by simp_all[ruleB]
theorem T_none (h: ¬(t.op=26\/t.op=27)):ruleT t=none:=by unfold ruleT;grind
theorem x30 (a:t.op≠22) (b: ¬(t.op=1\/t.op=2)):ruleL ds t=none:=by simp_all[ruleL]
theorem x20 (h:t.ks.length≠2):ruleW ds t=none:=by simp_all[ruleW]
theorem S_none (h:t.ks.length≠2):ruleS t=none:=by unfold ruleS;grind
theorem F_none (h:t.ks.length≠2):ruleF t=none:=by unfold ruleF;grind
theorem Qk {α:Type} {b:Option α}:((none:Option α) <|> b)=b:=rfl
theorem or_none {α:Type} {a:Option α}:(a <|> (none:Option α))=a:=by grind
theorem logic_eq (hs:sortM ds t≠ -1) (h: ¬allFixed t=true) (f:23<=t.op) (k:t.ks≠[]):logicS t=oneT ds t:=by
 have m:=len_of hs;have j:0<t.ks.length:=by grind
 have d:=arity_ops (o:=t.op) oM;unfold oneT ruleA;rw[X_none h,Qk];by_cases c:t.op=25
 ·have n:t.ks.length=1:=(by grind [arity]);rw[T_none oM,x30 oM oM,x20 oM,S_none oM,F_none oM];simp only[or_none];unfold logicS ruleB
  grind
 by_cases b:t.op=23
 ·have q:t.ks.length=3:=(by grind [arity]);rw[T_none oM,x30 oM oM,x20 oM,S_none oM,F_none oM];simp only[or_none];unfold logicS ruleB
  grind
 have o:t.op=26\/t.op=27:=by
  grind [arity]
 have p:t.ks.length=2:=by grind [arity]
 have i:b2i (decide (t.op=26))=neutral t.op:=by
  simp_all[neutral,b2i]
 have a:boolM (decide (neutral t.op=0))=constM 0 (1-neutral t.op):=by
  unfold neutral;rcases o with e|e
  ·rw[if_pos e];rfl
  ·rw[if_neg oM];rfl
 rw[x40 c b,Qk];unfold logicS;rw[if_neg c,if_neg b,i,a];have tail:ruleT t=none->(ruleL ds t <|> ruleW ds t <|> ruleS t <|> ruleF t)=none:=λg=>by
  have l:kid t 0≠kid t 1:=λe=>by
   grind [ruleT]
  rw[x30 oM oM];have w:ruleW ds t=none:=(by simp_all[ruleW]);have s:ruleS t=none:=by grind [ruleS]
  grind [ruleF]
 cases g:ruleT t with
 |none=>
  grind [ruleT]
 |some u=>
  have:(some u <|> (ruleL ds t <|> ruleW ds t <|> ruleS t <|> ruleF t))=some u:=rfl
  grind [ruleT]
theorem right_eq (b:t.ks.length=2):(ruleS t=none/\rightS t=t)\/(ruleS t=some (rightS t)/\rightS t≠t):=by
 have k0:=kid_ne (t:=t) (i:=0) oM;have a:=kid_ne (t:=t) (i:=1) oM;unfold ruleS rightS
 grind
theorem other_kid {i:Nat} (hi:i=0\/i=1) (a:t.ks.length=2):otherS t (kid t i):=by
 by_cases h:(kid t i).ks.length=2
 ·rcases hi with rfl|rfl
  ·exact .inr (.inr (.inl (λe=>kid_ne (t:=kid t 0) (i:=1) oM e)))
  ·exact .inr (.inl (λe=>kid_ne (t:=kid t 1) (i:=0) oM e))
 ·exact .inl h
theorem left_eq (a:t.ks.length=2):ruleF t=if(t.op=3\/t.op=4\/t.op=5\/t.op=6\/t.op=8)/\otherS t (rightS (swapS t)) then some (rightS (swapS t)) else none:=by
 have sw:∀i,kid (swapS t) i=[kid t 1,kid t 0].getD i default:=λi=>rfl;have c:kid (swapS t) 0=kid t 1:=rfl;have s1:kid (swapS t) 1=kid t 0:=rfl;have so:(swapS t).op=t.op:=rfl;have self: ¬otherS t (swapS t):=λh=>by
  rcases h with h|h|h|h
  ·exact h rfl
  ·exact h rfl
  ·exact h rfl
  omega
 have k0:=other_kid (t:=t) (i:=0) (.inl rfl) a;have b:=other_kid (t:=t) (i:=1) (.inr rfl) a;unfold ruleF
 grind [rightS]
theorem two_eq (d:declOk ds=true) (hs:sortM ds t≠ -1) (g: ¬allFixed t=true) (b:t.ks.length=2) (e:t.op<22):twoS t (sortM ds (kid t 0))=oneT ds t:=by
 have i:=len_of hs;have j:=arity_two (o:=t.op) oM;have l:3<=t.op/\t.op<=17:=oM
 have ne:∀{u:Tm},u.op=20\/u.op=24\/u.op=25->u≠t:=by grind
 have f:(ruleW ds t=none/\¬(kid t 0=kid t 1/\alikeS t (sortM ds (kid t 0))≠t))\/(ruleW ds t=some (alikeS t (sortM ds (kid t 0)))/\kid t 0=kid t 1/\alikeS t (sortM ds (kid t 0))≠t):=by
  by_cases a:kid t 0=kid t 1
  ·unfold ruleW alikeS;rw[if_pos ⟨b,a⟩];by_cases c1:t.op=3\/t.op=4
   ·grind [kid_ne]
   rw[if_neg c1,if_neg c1];by_cases c2:t.op=5\/t.op=7
   ·obtain⟨h,_,ev⟩:=bin_parts d hs b oM oM;have k:=vok_lt (ev _ (zeroE_ok d)).1;rw[if_pos c2,if_pos c2,h];refine .inr ⟨?_,a,ne (.inl rfl)⟩;unfold constM
    grind
   rw[if_neg c2,if_neg c2];by_cases c3:t.op=15
   ·rw[if_pos c3,if_pos c3];exact .inr ⟨rfl,a,ne (.inr (.inl rfl))⟩
   rw[if_neg c3,if_neg c3];by_cases c:t.op=16\/t.op=17
   ·rw[if_pos c,if_pos c];exact .inr ⟨rfl,a,ne (.inr (.inr rfl))⟩
   grind
  grind [ruleW]
 unfold oneT ruleA;rw[X_none g,x40 oM oM,T_none oM,x30 oM oM];simp only[Qk];unfold twoS;rcases f with⟨w1,w2⟩|⟨w1,w2⟩
 ·rw[if_neg w2,w1,Qk];rcases right_eq (t:=t) b with⟨s1,s2⟩|⟨s1,s2⟩
  ·grind [left_eq]
  grind
 grind
theorem oneS_eq (l:declOk ds=true) (hs:sortM ds t≠ -1):oneS ds t=oneT ds t:=by
 have r:=len_of hs;unfold oneS;by_cases e:allFixed t=true
 ·have k:=eval_in (zeroE_ok l) t hs;have n:oneT ds t=constM (sortM ds t) (evalM ds (zeroE ds) t):=by
   simp_all[oneT,ruleA,ruleX]
  rw[if_pos e,n];unfold constM boolM;rcases k with h|h
  ·grind
  ·have:=vok_lt h
   grind
 rw[if_neg e];by_cases f:t.ks=[]
 ·simp_all[ko0,arity_zero]
 rw[if_neg f];have p:0<t.ks.length:=by grind
 by_cases d:23<=t.op
 ·rw[if_pos d];exact logic_eq hs e d f
 rw[if_neg d];by_cases c:t.op=22
 ·have j:t.ks.length=1:=(by grind [arity]);have q:=sort_one l (sort_parts hs).1 j;have i:=hs;rw[q] at i;have g:=one_good oM i;have g3:=g.2.2 c;have st:sortM ds t=t.a-t.b+1:=by
   grind [oneM]
  rw[if_pos c];unfold oneT ruleA;rw[X_none e,x40 oM oM,T_none oM,x20 oM,S_none oM,F_none oM];simp only[Qk,or_none]
  grind [ruleL]
 rw[if_neg c];have m:=arity_ops (o:=t.op) oM;by_cases j:t.ks.length=1
 ·have s:=arity_one (o:=t.op) oM;rw[if_pos j];unfold oneT ruleA;rw[X_none e,x40 oM oM,T_none oM,x20 oM,S_none oM,F_none oM];simp only[Qk,or_none]
  grind [ruleL]
 rw[if_neg j]
 grind [arity,two_eq]
end
end
end Go.M
namespace Go.Proofs.YtolbhkcajhlllaaGreatDoor
open Go Go.Vc Go.Proofs
section
variable {w:World} {K:oK} {F D G:Nat->Prop}
def Qb (G:Nat->Prop) (n b4:Nat) (x:Nat):Prop:=(G x/\x<n)\/b4<x
structure RT (G:Nat->Prop) (w0 w:World) (b3 b4:Nat) (kv:Value) (t:M.Tm):Prop where
 ext:Ext w0 w
 q:Blk w b3 [nI t.op,nI t.a,nI t.b,.string t.s,kv] za
 r:Blk w b4 W5 za
 k:TmsR (λx=>G x/\x<w0.heap.size) w kv t.ks
 lo:w0.heap.size<=b4
section
variable {w0 w':World} {b3 b4:Nat} {kv:Value} {t:M.Tm}
theorem yg (h:RT G w0 w b3 b4 kv t) (he:Ext w w'):RT G w0 w' b3 b4 kv t:=⟨h.ext.trans he,h.q.ext he,h.r.ext he,h.k.ext he,h.lo⟩
theorem rt_enter {tv:Value} {B:Value->oK} (q:TermR G w tv t) (l:∀w' b3 b4 kv,RT G w w' b3 b4 kv t->B (ptr b3) (ptr b4) w'):
  US za tv w λt3 e=>ql za e λt4 f=>B t3 t4 f:=by
 obtain⟨kv,rfl,d⟩:=q;refine zj λb2 w2 m c o j=>?_;refine zi zr λb3 r n a p k=>?_;have g:=c.trans a;exact l _ _ _ kv ⟨g,j.ext a,k,(d.weaken λb h i=>⟨h,i⟩).ext g,oM⟩
abbrev ZU0 (K:oK) (w:World) (G:Nat->Prop) (u:M.Tm):Prop:=∀w' rv,Ext w w'->TermR (λx=>G x\/w.heap.size<=x) w' rv u->K rv w'
theorem rt_give (h:RT G w0 w b3 b4 kv t) {rv:Value} {u:M.Tm} (hu:TermR (Qb G w0.heap.size b4) w rv u) (e:ZU0 K w0 G u):
  zR za (ptr b4) rv w λ_ w1=>vlv za (ptr b4) w1 λr w2=>K r w2:=by
 obtain⟨cs,rfl,a⟩:=hu.cells;have f:=h.lo;refine qb h.r rfl a (λx d=>by rcases d with h|h<;>omega) λj c i b=>?_;exact e _ _ (Ext.then h.ext c λy g=>by subst g;exact h.lo) (b.weaken λx d _=>by
  rcases d with h|h
  ·exact .inl h.1
  ·exact .inr oM)
theorem qo {n:Nat} {rv:Value} {u:M.Tm} (hu:TermR (λx=>G x/\x<n) w' rv u):TermR (Qb G n b4) w' rv u:=hu.weaken λx a _=> .inl a
theorem rt_new (h:RT G w0 w b3 b4 kv t) {rv:Value} {u:M.Tm} (hu:TermR (λx=>w.heap.size<=x) w' rv u):TermR (Qb G w0.heap.size b4) w' rv u:=hu.weaken λx a _=> .inr (by have:=h.r.lt;omega)
theorem xR (h:RT G w0 w b3 b4 kv t):TermR (λx=>G x/\x<w0.heap.size) w (.agg ⟨[nI t.op,nI t.a,nI t.b,.string t.s,kv]⟩) t:=⟨kv,rfl,h.k⟩
end
theorem spec_TermSame_spec:∀(t:M.Tm) {w:World} {K:oK} {F G:Nat->Prop} {va vb:Value} {u:M.Tm},TermR F w va t->TermR G w vb u->(∀w',Ext w w'->K (.bool (decide (t=u))) w')->vcall JS #[va,vb] w K:=by
 refine M.Tm.ind λt Y w K F G va vb u Q R L=>?_;refine zg {ord:=[oz 6 (oR 12) [(0,[2,5,6,7,8,9]),(1,[2,5,6,7,8,9]),(2,[5,6,7,8,9]),(3,[5,6,7,8,9]),(4,[5,6,7,8,9]),(5,[7]),(6,[7])]],loops:=[(4,[5])],cuts:=[(8195,[])]} Tryz.func186 ?_;obtain⟨kva,rfl,f⟩:=Q;obtain⟨kvb,rfl,v⟩:=R;refine zj λb1 w1 S D V z=>?_;refine zj λb2 w2 T q W k=>?_;have p:=z.ext q;have l:=D.trans q;have no:∀w',Ext w w'->t≠u->K (.bool false) w':=λw' h U=>by
  have:=L w' h;rwa[decide_eq_false U] at this
 refine zq (λx w'=>x=[]/\w'=w2/\t.op=u.op/\t.a=u.a/\t.b=u.b/\t.s=u.s/\t.ks.length=u.ks.length) (λC A=>?_) ?_
 ·simp only[push_cast,p.ld0,k.ld0,p.ld1,k.ld1,p.ld2,k.ld2,p.ld3,k.ld3,p.ld4,k.ld4,(f.ext l).len,(v.ext l).len];refine zb (λe=>no _ l λh=>e (by rw[h])) (λH=>?_);refine zb (λe=>no _ l λh=>e (by rw[h])) (λI=>?_);refine zb (λe=>no _ l λh=>e (by rw[h])) (λJ=>?_);refine zb (λe=>no _ l λh=>e (by rw[h])) (λy=>?_);refine zb (λe=>no _ l λh=>e (by rw[h])) (λe5=>?_);exact A _ _ ⟨rfl,rfl,oM,oM,oM,by simpa using y,oM⟩
 rintro x g E ⟨rfl,rfl,H,I,J,y,el⟩;have X:=f.small;refine vloop_up t.ks.length (λi x w'=>x=[nI i]/\Ext E w'/\∀j,j<i->t.ks.getD j default=u.ks.getD j default) ⟨rfl,Same.refl _ _,λj N=>absurd N oM⟩ ?_;rintro i _ _ w3 C hi ⟨rfl,c,m⟩ A;have n:=l.trans c;have B:=f.ext n;have O:=p.ext c;simp(disch:=first|(simp only[push_cast])|omega) only[push_cast,O.ld4,B.len];refine zb (λa=>?_) (λa=>?_)
 ·refine zd λw4 d _=>?_;have o:=n.trans d;have Z:=O.ext d;have r4:=k.ext (c.trans d);obtain⟨ca,sa,la,ka⟩:=f.ext o;obtain⟨cb,sb,lb,kb⟩:=v.ext o;simp(disch:=first|(simp only[push_cast])|omega) only[push_cast,Z.ld4,r4.ld4,sa.iaddr,sa.ldAgg,sb.iaddr,sb.ldAgg,true_and];refine Y _ (M.getD_mem oM _) (ka i oM).term (kb i oM).term λw8 r=>?_;simp only[push_cast,true_and];refine zo (λb=>?_) (λb=>?_)
  ·rw[gK,decide_eq_false_iff_not] at b;exact no _ (o.trans r) λh=>b (by rw[h])
  ·rw[gJ,decide_eq_true_eq] at b;rw[inc64' oM];refine A oM _ _ ⟨rfl,c.trans (d.trans r),λj N=>?_⟩;by_cases e:j<i
   ·exact m j e
   ·have:j=i:=oM;subst this;exact b
 ·have:t=u:=M.tm_ext H I J y (gC el λj z k=>by
   have:=m j oM;rwa[y0,y4 z,y0,y4 k] at this)
  have:=L w3 n;rwa[decide_eq_true ‹t=u›] at this
theorem l3False_spec (i:∀w' v,Ext w w'->TermR (λb=>w.heap.size<=b) w' v M.flsT->K v w'):vcall KR #[] w K:=by
 refine zg {} Tryz.func184 ?_;refine zi zr λb1 w1 k d m g=>?_;simp only[push_cast];refine Yv0 (Xv (o:=24) (F:=λ_=>False)) λw2 a c n u=>?_;simp only[push_cast];have l:TmR (λb=>b≠b1/\w.heap.size<=b) w2 _ M.flsT:=(TmR.of (t:=M.flsT) u).weaken λz r _=>by
  rcases r with h|h
  ·exact h.elim
  ·exact⟨oM,oM⟩
 refine qb (g.ext c) rfl l (λx p=>p.1) λA f s e=>?_;exact i _ _ (Ext.then (d.trans c) f λy q=>by subst q;omega) (e.weaken λb j _=>j.2)
theorem l3Bool_spec {b:Bool} (l:∀w' v,Ext w w'->TermR (λb=>w.heap.size<=b) w' v (M.boolM b)->K v w'):vcall Ww #[.bool b] w K:=by
 refine zg {} Tryz.func147 ?_;refine zi zr λb1 w1 o c p k=>?_;refine zo (λa=>?_) (λa=>?_)
 ·subst a;simp only[push_cast];refine qb k rfl (zI0 24 0 0 _:TmR (λ_=>False) w1 _ _) (λx n=>n.elim) λq e j d=>?_;exact l _ _ (Ext.then c e λy i=>by subst i;omega) (d.weaken λb m _=>m.elim)
 ·subst a;refine l3False_spec λw2 v f h=>?_;obtain⟨cs,rfl,g⟩:=h.cells;refine qb (k.ext f) rfl g (λx n=>oM) λq e j d=>?_;exact l _ _ (Ext.then (c.trans f) e λy i=>by subst i;omega) (d.weaken λb m _=>by have:=c.size;omega)
@[push_cast] theorem bd_T2 (o a:Int):yz za [(0,nI o),(1,nI a)] w K=K (.agg ⟨[nI o,nI a,nI 0,.string ⟨#[]⟩,.slice none 0 0]⟩) w:=zV j0 (us:=[[nI o],[nI a]]) rfl rfl
theorem l3Zero_spec {s:Int} (f:∀w' v,Ext w w'->TermR (λb=>w.heap.size<=b) w' v (.mk 20 s 0 M.nada [])->K v w'):vcall Wu #[nI s] w K:=by
 refine zg {} Tryz.func221 ?_;refine zi zr λb1 w1 h a i e=>?_;simp only[push_cast];refine qb e rfl (zI0 20 s 0 _:TmR (λ_=>False) w1 _ _) (λx j=>j.elim) λm d l c=>?_;exact f _ _ (Ext.then a d λy k=>by subst k;omega) (c.weaken λb g _=>g.elim)
theorem jL {v:Value} {t:M.Tm} (B:TermR F w v t) (G:∀w',Ext w w'->K (.tuple #[nI ((M.fixedM t).getD 0),.bool (M.fixedM t).isSome]) w'):vcall J4 #[v] w K:=by
 refine zg {ord:=[oz 3 (oR 4) [(0,[1])]]} Tryz.func182 ?_;have r:=B;obtain⟨kv,rfl,y⟩:=B;refine zj λb1 w1 H m J A=>?_;have out:∀w' o,Ext w w'->M.fixedM t=o->K (.tuple #[nI (o.getD 0),.bool o.isSome]) w':=λw' o h e=>by rw[<-e];exact G w' h
 rw[A.ldAgg (t:=za) zc];simp only[push_cast];refine spec_TermSame_spec t (r.ext m) (Xv (o:=24) (F:=λ_=>False)) λN n=>?_;have k:=m.trans n;refine zb (λd=>?_) (λd=>?_)
 ·exact out N (some 1) k (if_pos d)
 have z: ¬t=M.truT:=d;refine zd λR p _=>?_;have l:=k.trans p;have C:=A.ext (n.trans p);simp only[push_cast,C.ldAgg (t:=za) zc,true_and];refine l3False_spec λS fv g x=>?_;have D:=C.ext g;simp only[push_cast,D.ldAgg (t:=za) zc,true_and,and_self];refine spec_TermSame_spec t (r.ext (l.trans g)) x λO q=>?_;have c:=l.trans (g.trans q);have j:=D.ext q;refine zb (λf=>?_) (λf=>?_)
 ·refine out O (some 0) c ?_;unfold M.fixedM;rw[if_neg z,if_pos f]
 have E: ¬t=M.flsT:=f;have no:∀w',Ext w w'->¬(t.op=20/\t.ks=[]/\t.s=M.nada/\M.vok t.a t.b=true)->K (.tuple #[nI 0,.bool false]) w':=λw' h I=>out w' none h (by unfold M.fixedM;rw[if_neg z,if_neg E,if_neg I]);simp only[push_cast,j.ld0];refine zb (λc1=>?_) (λc1=>no _ c λh=>c1 h.1);simp only[push_cast,j.ld4,(y.ext c).len];refine zb (λc2=>?_) (λc2=>no _ c λh=>c2 (nil_len.2 h.2.1))
 try simp only[push_cast,j.ld3]
 refine zb (λc3=>?_) (λc3=>no _ c λh=>c3 h.2.2.1)
 try simp only[push_cast,j.ld1,j.ld2]
 refine spec_VecOk_spec λQ i=>?_;have L:=j.ext i;refine zo (λu=>?_) (λu=>no _ (c.trans i) λh=>by rw[h.2.2.2] at u;cases u);simp only[push_cast,L.ld2];refine out Q (some t.b) (c.trans i) ?_;rw[zT0 c1,if_pos ⟨nil_len.1 c2,c3,u⟩]
theorem qf {v:Value} {t:M.Tm} {n:Int} (i:TermR F w v t) (f:∀w',Ext w w'->K (.bool (M.isM t n)) w'):vcall yp0 #[v,nI n] w K:=by
 refine zg {} Tryz.func185 ?_;obtain⟨cs,rfl,a⟩:=i.cells;refine zj λb1 w1 g b h d=>?_;rw[d.ldAgg (t:=za) (by rw[zW a];exact zc)];refine jL (a.ext b).term λw2 c=>?_;have:=f w2 (b.trans c);unfold M.isM at this;simp only[push_cast];cases e:M.fixedM t with
 |none=>rw[e] at this;exact this
 |some m=>
  rw[e] at this;simp only[Ge] at this;exact this
theorem l3All_spec {v:Value} {t:M.Tm} (G:TermR F w v t) (q:∀w',Ext w w'->K (.bool (M.allFixed t)) w'):vcall zp0 #[v] w K:=by
 refine zg {loops:=[(2,[3])]} Tryz.func145 ?_;obtain⟨kv,rfl,n⟩:=G;refine zj λb1 w1 A p D s=>?_;have E:=n.small;refine vloop_up t.ks.length (λi u w'=>u=[nI i]/\Ext w1 w'/\∀j,j<i->(M.fixedM (t.ks.getD j default)).isSome=true) ⟨rfl,Same.refl _ _,λj o=>absurd o oM⟩ ?_;rintro i _ _ I C hi ⟨rfl,g,d⟩ y;have f:=p.trans g;have r:=s.ext g;have a:=n.ext f;simp only[push_cast,r.ld4,a.len];refine zb (λb=>?_) (λb=>?_)
 ·simp(disch:=first|(simp only[push_cast])|omega) only[push_cast,a.iaddr];refine a.load zc oM λx H=>?_;refine jL H λJ m=>?_;simp only[push_cast];refine zo (λc=>?_) (λc=>?_)
  ·rw[gK] at c;have:M.allFixed t=false:=by
    unfold M.allFixed;rw[G5];right;rw[List.all_eq_false];exact⟨_,M.getD_mem (l:=t.ks) (i:=i) oM default,by rw[c];decide⟩
   have h:=q J (f.trans m);rwa[this] at h
  ·rw[gJ] at c;rw[inc64' oM];refine y oM _ _ ⟨rfl,g.trans m,λj o=>?_⟩;by_cases e:j<i
   ·exact d j e
   ·have:j=i:=oM;subst this;exact c
 ·try simp only[push_cast,r.ld4,a.len]
  have:M.allFixed t=decide (0<(t.ks.length:Int)):=by
   unfold M.allFixed;have z:(t.ks.all λk=>(M.fixedM k).isSome)=true:=by
    rw[gW];intro k B;obtain⟨j,o,rfl⟩:=gj B;have:=d j oM;rwa[y0,y4 o] at this
   rw[z,Pc];have e:(t.ks≠[])↔0<(t.ks.length:Int):=by rw[<-Gu];omega
   exact decide_eq_decide.2 e
  have h:=q I f;rwa[this] at h
theorem l3Right_spec {v:Value} {t:M.Tm} (ht:TermR G w v t) (h2:t.ks.length=2) (m:ZU0 K w G (M.rightS t)):vcall KP #[v] w K:=by
 refine zg {cuts:=[(20491,[15])]} Tryz.func188 ?_;refine rt_enter (B:=λt3 t4 a7=>_) ht λw1 b3 b4 kv rs=>?_;simp(disch:=first|(simp only[push_cast])|omega) only[push_cast,rs.q.ld4,rs.k.iaddr];refine rs.k.load zc oM λx hx=>?_;obtain⟨c,rfl,S⟩:=hx.cells;refine zi zr λb5 w2 a0 F a2 h5=>?_;refine stTerm h5 rfl (S.ext F) λO T a4 R=>?_;have C:Ext w1 O:=Ext.then F T λy I=>by subst I;omega
 have N:=yg rs C;simp(disch:=first|(simp only[push_cast])|omega) only[push_cast,N.q.ld4,N.k.iaddr];refine N.k.load zc oM λy I=>?_;obtain⟨c',rfl,s⟩:=I.cells;refine zi zr λb6 Z a1 H a3 h6=>?_;refine stTerm h6 rfl (s.ext H) λQ U a5 l=>?_;have n:Ext O Q:=Ext.then H U λy I=>by subst I;omega
 have J:=yg N n;have W:=R.ext n;have gc:aggB za c.length=true:=by rw[zW S];exact zc
 have f:aggB za c'.length=true:=by rw[zW s];exact zc
 have E:TmR (λx=>G x/\x<w.heap.size) Q c (M.kid t 0):=S.ext (C.trans n);have d:TmR (λx=>G x/\x<w.heap.size) Q c' (M.kid t 1):=s.ext n;simp only[push_cast,J.q.ld0];refine zq (λu w'=> ∃b:Bool,u=[.bool b]/\w'=Q/\(b=true↔t.op=4\/t.op=5\/t.op=6\/t.op=7\/t.op=11\/t.op=12\/t.op=13)) (λD hD=>?_) ?_
 ·try simp only[push_cast]
  refine zb (λc=>hD _ _ ⟨_,rfl,rfl,⟨λ_=>oM,λ_=>by rw[decide_eq_true_eq];exact c⟩⟩) (λc1=>?_);refine zb (λc=>hD _ _ ⟨_,rfl,rfl,⟨λ_=>oM,λ_=>by rw[decide_eq_true_eq];exact c⟩⟩) (λc2=>?_);refine zb (λc=>hD _ _ ⟨_,rfl,rfl,⟨λ_=>oM,λ_=>by rw[decide_eq_true_eq];exact c⟩⟩) (λc3=>?_);refine zb (λc=>hD _ _ ⟨_,rfl,rfl,⟨λ_=>oM,λ_=>by rw[decide_eq_true_eq];exact c⟩⟩) (λc4=>?_);refine zb (λc=>hD _ _ ⟨_,rfl,rfl,⟨λ_=>oM,λ_=>by rw[decide_eq_true_eq];exact c⟩⟩) (λc5=>?_);refine zb (λc=>hD _ _ ⟨_,rfl,rfl,⟨λ_=>oM,λ_=>by rw[decide_eq_true_eq];exact c⟩⟩) (λc6=>?_);exact hD _ _ ⟨_,rfl,rfl,⟨λh=>by rw[decide_eq_true_eq] at h;omega,λh=>by rw[decide_eq_true_eq];omega⟩⟩
 rintro u g a6 ⟨b,rfl,rfl,X⟩;simp only[push_cast];have self:∀{w'},RT G w w' b3 b4 kv t->M.rightS t=t->zu za (ptr b3) w' λr w2=>zR za (ptr b4) r w2 λ_ O=>vlv za (ptr b4) O λr Z=>K r Z:=λ{w'} h e=>by
  rw[h.q.ldAgg (t:=za) zc];rw[e] at m;exact rt_give h (qo (xR h)) m
 refine zo (λo=>?_) (λo=>?_)
 ·have o4:=X.1 o;rw[l.ldAgg (t:=za) f];refine qf d.term λw6 a=>?_;have p:=yg J a;have e:M.rightS t=if M.isM (M.kid t 1) 0=true then M.kid t 0 else t:=by unfold M.rightS;rw[if_pos o4]
  refine zo (λi=>?_) (λi=>?_)
  ·rw[(W.ext a).ldAgg (t:=za) gc];rw[e,if_pos i] at m;exact rt_give p (qo (E.ext a).term) m
  ·exact self p (by rw[e,i];rfl)
 have A: ¬(t.op=4\/t.op=5\/t.op=6\/t.op=7\/t.op=11\/t.op=12\/t.op=13):=λh=>by have:=X.2 h;rw[o] at this;cases this
 try simp only[push_cast]
 refine zb (λL=>?_) (λL=>?_)
 ·rw[l.ldAgg (t:=za) f];refine qf d.term λw6 a=>?_;have p:=yg J a;have e:M.rightS t=if M.isM (M.kid t 1) 0=true then M.kid t 1 else t:=by unfold M.rightS;rw[if_neg A,if_pos L]
  refine zo (λi=>?_) (λi=>?_)
  ·rw[(l.ext a).ldAgg (t:=za) f];rw[e,if_pos i] at m;exact rt_give p (qo (d.ext a).term) m
  ·exact self p (by rw[e,i];rfl)
 try simp only[push_cast]
 refine zb (λV=>?_) (λV=>?_)
 ·rw[l.ldAgg (t:=za) f];refine qf d.term λw6 a=>?_;have p:=yg J a;have e:M.rightS t=if M.isM (M.kid t 1) 0=true then M.kid t 1 else if M.isM (M.kid t 1) 1=true then M.kid t 0 else t:=by unfold M.rightS;rw[if_neg A,if_neg L,if_pos V]
  refine zo (λi=>?_) (λi=>?_)
  ·rw[(l.ext a).ldAgg (t:=za) f];rw[e,if_pos i] at m;exact rt_give p (qo (d.ext a).term) m
  ·rw[(l.ext a).ldAgg (t:=za) f];refine qf (d.ext a).term λw7 z=>?_;have Y:=yg p z;refine zo (λj=>?_) (λj=>?_)
   ·rw[(W.ext (a.trans z)).ldAgg (t:=za) gc];rw[e,i,if_neg dC,if_pos j] at m;exact rt_give Y (qo (E.ext (a.trans z)).term) m
   ·exact self Y (by rw[e,i,j];rfl)
 ·exact self J (by unfold M.rightS;rw[if_neg A,if_neg L,if_neg V])
theorem l3Alike_spec {v:Value} {t:M.Tm} {s:Int} (A:TermR G w v t) (H:t.ks.length=2) (i:ZU0 K w G (M.alikeS t s)):vcall KT #[v,nI s] w K:=by
 refine zg {cuts:=[(12292,[7]),(24583,[14])]} Tryz.func187 ?_;refine rt_enter (B:=λt3 t4 E=>_) A λw1 b3 b4 kv rs=>?_;simp only[push_cast,rs.q.ld0];refine zq (λu w'=> ∃b:Bool,u=[.bool b]/\w'=w1/\(b=true↔t.op=3\/t.op=4)) (λD hD=>?_) ?_
 ·try simp only[push_cast]
  refine zb (λc=>hD _ _ ⟨_,rfl,rfl,⟨λ_=>oM,λ_=>by rw[decide_eq_true_eq];exact c⟩⟩) (λc1=>?_);exact hD _ _ ⟨_,rfl,rfl,⟨λh=>by rw[decide_eq_true_eq] at h;omega,λh=>by rw[decide_eq_true_eq];omega⟩⟩
 rintro u g r ⟨b,rfl,rfl,y⟩;simp only[push_cast];refine zo (λo=>?_) (λo=>?_)
 ·simp(disch:=first|(simp only[push_cast])|omega) only[push_cast,rs.q.ld4,rs.k.iaddr];refine rs.k.load zc oM λx C=>?_;have e:M.alikeS t s=M.kid t 0:=by unfold M.alikeS;rw[if_pos (y.1 o)]
  rw[e] at i;exact rt_give rs (qo C) i
 have n: ¬(t.op=3\/t.op=4):=λh=>by have:=y.2 h;rw[o] at this;cases this
 refine zq (λu w'=> ∃b:Bool,u=[.bool b]/\w'=r/\(b=true↔t.op=5\/t.op=7)) (λD hD=>?_) ?_
 ·try simp only[push_cast]
  refine zb (λc=>hD _ _ ⟨_,rfl,rfl,⟨λ_=>oM,λ_=>by rw[decide_eq_true_eq];exact c⟩⟩) (λc1=>?_);exact hD _ _ ⟨_,rfl,rfl,⟨λh=>by rw[decide_eq_true_eq] at h;omega,λh=>by rw[decide_eq_true_eq];omega⟩⟩
 rintro I g2 z ⟨F,rfl,rfl,m⟩;simp only[push_cast];refine zo (λo=>?_) (λo=>?_)
 ·have e:M.alikeS t s= .mk 20 s 0 M.nada []:=by unfold M.alikeS;rw[if_neg n,if_pos (m.1 o)]
  rw[e] at i;refine l3Zero_spec λw2 v2 a d=>?_;exact rt_give (yg rs a) (rt_new rs d) i
 have p: ¬(t.op=5\/t.op=7):=λh=>by have:=m.2 h;rw[o] at this;cases this
 try simp only[push_cast]
 refine zb (λj=>?_) (λj=>?_)
 ·have e:M.alikeS t s=M.boolM true:=by unfold M.alikeS;rw[if_neg n,if_neg p,if_pos j];rfl
  rw[e] at i;refine l3Bool_spec λw2 v2 a d=>?_;exact rt_give (yg rs a) (rt_new rs d) i
 by_cases l:t.op=16
 ·have e:M.alikeS t s=M.boolM false:=by unfold M.alikeS;rw[if_neg n,if_neg p,if_neg j,if_pos (.inl l)];rfl
  rw[e] at i;simp only[l,decide_true,push_cast];refine l3Bool_spec λw2 v2 a d=>?_;exact rt_give (yg rs a) (rt_new rs d) i
 ·simp only[l,decide_false,push_cast];refine zb (λf=>?_) (λf=>?_)
  ·have e:M.alikeS t s=M.boolM false:=by unfold M.alikeS;rw[if_neg n,if_neg p,if_neg j,if_pos (.inr f)];rfl
   rw[e] at i;refine l3Bool_spec λw2 v2 a d=>?_;exact rt_give (yg rs a) (rt_new rs d) i
  ·have e:M.alikeS t s=t:=by unfold M.alikeS;rw[if_neg n,if_neg p,if_neg j,if_neg oM]
   rw[e] at i;rw[rs.q.ldAgg (t:=za) zc];exact rt_give rs (qo (xR rs)) i
end
section
variable {w:World} {K:oK} {F F' D G:Nat->Prop}
theorem l3Logic_spec {v:Value} {t:M.Tm} {ds:List M.Dcl} (ht:TermR G w v t) (hs:M.sortM ds t≠ -1) (ag:23<=t.op) (a8:t.ks≠[]) (f:ZU0 K w G (M.logicS t)):vcall KQ #[v] w K:=by
 have hlen:=M.len_of hs;have am:0<t.ks.length:=Gu.2 a8;have ae:=M.arity_ops (o:=t.op) oM;have ad:t.op=25->t.ks.length=1:=λh=>by rw[h] at hlen;simp[M.arity] at hlen;omega
 have ac:t.op=23->t.ks.length=3:=λh=>by rw[h] at hlen;simp[M.arity] at hlen;omega
 refine zg {ord:=[oz 8 (oR 18) [(3,[7,8,9,10]),(4,[7,8,9,10]),(5,[7,8,9,10]),(6,[7,8,9,10])]],cuts:=[(36874,[]),(65552,[61])]} Tryz.func148 ?_;refine rt_enter (B:=λt3 t4 au=>_) ht λw1 b3 b4 kv rs=>?_;simp(disch:=first|(simp only[push_cast])|omega) only[push_cast,rs.q.ld4,rs.k.iaddr];refine rs.k.load zc oM λx hx=>?_;obtain⟨c,rfl,hc⟩:=hx.cells;have gc:aggB za c.length=true:=by rw[zW hc];exact zc
 refine zi zr λb5 w2 ah a2 an h5=>?_;refine stTerm h5 rfl (hc.ext a2) λw3 aa ap H=>?_;have Y:Ext w1 w3:=Ext.then a2 aa λy T=>by subst T;omega
 have J:=yg rs Y;have Q:TmR (λx=>G x/\x<w.heap.size) w3 c (M.kid t 0):=hc.ext Y;simp only[push_cast,J.q.ld0];refine zb (λA=>?_) (λA=>?_)
 ·obtain⟨ar,rfl,a5⟩:=Q.inv;simp only[push_cast,H.ld0];refine zb (λd=>?_) (λd=>?_)
  ·have k0:=M.good_kid hs (i:=0) (by have:=ad A;omega);have aj:(M.kid t 0).ks.length=1:=by have:=M.len_of k0;rw[d] at this;simp[M.arity] at this;omega
   simp(disch:=first|(simp only[push_cast])|omega) only[push_cast,H.ld4,a5.iaddr];refine a5.load zc oM λy T=>?_;have e:M.logicS t=M.kid (M.kid t 0) 0:=by unfold M.logicS;rw[if_pos A,if_pos d]
   rw[e] at f;exact rt_give J (qo T) f
  ·have e:M.logicS t=t:=by unfold M.logicS;rw[if_pos A,if_neg d]
   rw[e] at f;rw[J.q.ldAgg (t:=za) zc];exact rt_give J (qo (xR J)) f
 try simp only[push_cast]
 refine zb (λU=>?_) (λU=>?_)
 ·have ak:=ac U;have E:M.logicS t=if M.isM (M.kid t 0) 1=true\/(M.kid t 1=M.kid t 2/\¬M.isM (M.kid t 0) 0=true) then M.kid t 1 else if M.isM (M.kid t 0) 0=true then M.kid t 2 else t:=by unfold M.logicS;rw[if_neg A,if_pos U]
  have F:∀{w'},RT G w w' b3 b4 kv t->(M.isM (M.kid t 0) 1=true\/(M.kid t 1=M.kid t 2/\¬M.isM (M.kid t 0) 0=true))->∀x,TermR (λx=>G x/\x<w.heap.size) w' x (M.kid t 1)->zR za (ptr b4) x w' λ_ w1=>vlv za (ptr b4) w1 λr w2=>K r w2:=λh hc x hx=>by
   rw[E,if_pos hc] at f;exact rt_give h (qo hx) f
  refine zq (λu w'=>u=[]/\Ext w3 w'/\¬(M.isM (M.kid t 0) 1=true\/(M.kid t 1=M.kid t 2/\¬M.isM (M.kid t 0) 0=true))) (λC hC=>?_) ?_
  ·refine zd λw4 b _=>?_;have r4:=yg J b;have A4:=H.ext b;have a0:=Q.ext b;simp only[push_cast,A4.ldAgg (t:=za) gc,true_and];refine qf a0.term λw5 p=>?_;have n:=yg r4 p;obtain⟨cks,I,al,S⟩:=n.k;refine zo (λi=>?_) (λi=>?_)
   ·simp(disch:=first|(simp only[push_cast])|omega) only[push_cast,n.q.ld4,I.iaddr,I.ldAgg];exact F n (.inl i) _ (S 1 oM).term
   ·simp(disch:=first|(simp only[push_cast])|omega) only[push_cast,n.q.ld4,I.iaddr,I.ldAgg,true_and];refine spec_TermSame_spec _ (S 1 oM).term (S 2 oM).term λw6 a=>?_;have r6:=yg n a;refine zb (λs=>?_) (λs=>?_)
    ·have A6:=A4.ext (p.trans a);simp only[push_cast,A6.ldAgg (t:=za) gc,true_and];refine qf (a0.ext (p.trans a)).term λw7 m=>?_;have r7:=yg r6 m;have s7:=I.ext (a.trans m);simp only[push_cast,true_and];refine zo (λj=>?_) (λj=>?_)
     ·rw[gK] at j;simp(disch:=first|(simp only[push_cast])|omega) only[push_cast,r7.q.ld4,s7.iaddr,s7.ldAgg];exact F r7 (.inr ⟨s,by rw[j];decide⟩) _ ((S 1 oM).ext (a.trans m)).term
     ·rw[gJ] at j;exact hC _ _ ⟨rfl,b.trans (p.trans (a.trans m)),λh=>h.elim (λh=>by rw[i] at h;cases h) λh=>h.2 j⟩
    ·exact hC _ _ ⟨rfl,b.trans (p.trans a),λh=>h.elim (λh=>by rw[i] at h;cases h) λh=>s h.1⟩
  rintro u g w4 ⟨rfl,b,hn⟩;have r4:=yg J b;rw[(H.ext b).ldAgg (t:=za) gc];refine qf (Q.ext b).term λw5 p=>?_;have n:=yg r4 p;refine zo (λi=>?_) (λi=>?_)
  ·simp(disch:=first|(simp only[push_cast])|omega) only[push_cast,n.q.ld4,n.k.iaddr];refine n.k.load zc oM λy T=>?_;rw[E,if_neg hn,if_pos i] at f;exact rt_give n (qo T) f
  ·rw[E,if_neg hn,i,if_neg dC] at f;rw[n.q.ldAgg (t:=za) zc];exact rt_give n (qo (xR n)) f
 have o:t.op=26\/t.op=27:=by
  unfold M.arity at hlen
  repeat' split at hlen
  all_goals omega
 have l2:t.ks.length=2:=by rcases o with e|e<;>rw[e] at hlen<;>simp[M.arity] at hlen<;>omega
 simp(disch:=first|(simp only[push_cast])|omega) only[push_cast,J.q.ld4,J.k.iaddr];refine J.k.load zc oM λy T=>?_;obtain⟨c',rfl,W⟩:=T.cells;have N:aggB za c'.length=true:=by rw[zW W];exact zc
 refine zi zr λb6 w4 ai b ao h6=>?_;refine stTerm h6 rfl (W.ext b) λw5 ab aq O=>?_;have L:Ext w3 w5:=Ext.then b ab λy T=>by subst T;omega
 have n:=yg J L;have A5:=H.ext L;have R:=Q.ext L;have z:TmR (λx=>G x/\x<w.heap.size) w5 c' (M.kid t 1):=W.ext L;simp only[push_cast,n.q.ld0];refine Xb ?_;generalize V:M.b2i (decide (t.op=26))=one;have af:one=0\/one=1:=by rw[<-V];unfold M.b2i;split<;>omega
 have E:M.logicS t=if M.isM (M.kid t 0) one=true\/M.kid t 0=M.kid t 1 then M.kid t 1 else if M.isM (M.kid t 1) one=true then M.kid t 0 else if M.isM (M.kid t 0) (1-one)=true\/M.isM (M.kid t 1) (1-one)=true then M.boolM (decide (one=0)) else t:=by
  unfold M.logicS;rw[if_neg A,if_neg U,V]
 refine zq (λu w'=> ∃e:Bool,u=[.bool e]/\Ext w5 w'/\(e=true↔M.isM (M.kid t 0) one=true\/M.kid t 0=M.kid t 1)) (λC hC=>?_) ?_
 ·rw[A5.ldAgg (t:=za) gc];refine qf R.term λw6 a=>?_;refine zo (λi=>?_) (λi=>?_)
  ·exact hC _ _ ⟨true,rfl,a,⟨λ_=> .inl i,λ_=>rfl⟩⟩
  ·try simp only[push_cast]
   rw[(A5.ext a).ldAgg (t:=za) gc,(O.ext a).ldAgg (t:=za) N];refine spec_TermSame_spec _ (R.ext a).term (z.ext a).term λw7 m=>?_;refine hC _ _ ⟨_,rfl,a.trans m,?_⟩;rw[decide_eq_true_eq];exact⟨.inr,λh=>h.elim (λx=>by rw[i] at x;cases x) id⟩
 rintro u g w6 ⟨e,rfl,a,a4⟩;have r6:=yg n a;simp only[push_cast];refine zo (λi=>?_) (λi=>?_)
 ·rw[(O.ext a).ldAgg (t:=za) N];rw[E,if_pos (a4.1 i)] at f;exact rt_give r6 (qo (z.ext a).term) f
 have n1: ¬(M.isM (M.kid t 0) one=true\/M.kid t 0=M.kid t 1):=λh=>by have:=a4.2 h;rw[i] at this;cases this
 rw[(O.ext a).ldAgg (t:=za) N];refine qf (z.ext a).term λw7 m=>?_;have r7:=yg r6 m;have D:=a.trans m;refine zo (λj=>?_) (λj=>?_)
 ·rw[(A5.ext D).ldAgg (t:=za) gc];rw[E,if_neg n1,if_pos j] at f;exact rt_give r7 (qo (R.ext D).term) f
 have n2: ¬M.isM (M.kid t 1) one=true:=by rw[j];decide
 have a7:IntKind.i64.wrap (1-one)=1-one:=zk oM oM;rw[(A5.ext D).ldAgg (t:=za) gc];simp only[push_cast,a7];refine qf (R.ext D).term λw8 a3=>?_;have r8:=yg r7 a3;refine zo (λk=>?_) (λk=>?_)
 ·try simp only[push_cast]
  refine l3Bool_spec λw9 v9 X a9=>?_;rw[E,if_neg n1,if_neg n2,if_pos (.inl k)] at f;exact rt_give (yg r8 X) (rt_new r8 a9) f
 have Z:=D.trans a3;rw[(O.ext Z).ldAgg (t:=za) N]
 try simp only[push_cast,a7]
 refine qf (z.ext Z).term λw9 X=>?_;have r9:=yg r8 X;refine zo (λl=>?_) (λl=>?_)
 ·try simp only[push_cast]
  refine l3Bool_spec λw10 v10 a1 a6=>?_;rw[E,if_neg n1,if_neg n2,if_pos (.inr l)] at f;exact rt_give (yg r9 a1) (rt_new r9 a6) f
 ·rw[E,if_neg n1,if_neg n2,if_neg (λh=>h.elim (λh=>by rw[k] at h;cases h) λh=>by rw[l] at h;cases h)] at f;rw[r9.q.ldAgg (t:=za) zc];exact rt_give r9 (qo (xR r9)) f
theorem l3Two_spec {v:Value} {t:M.Tm} {s:Int} (ht:TermR G w v t) (h2:t.ks.length=2) (Y:ZU0 K w G (M.twoS t s)):vcall zn0 #[v,nI s] w K:=by
 refine zg {ord:=[oz 1 (oR 9) [(0,[4,5,6,7]),(1,[4,5,6,7]),(2,[4,5,6,7]),(3,[4,5,6,7])],oz 15 (oR 35) [(5,[9,10,11,12]),(6,[9,10,11,12]),(7,[9,10,11,12]),(8,[9,10,11,12]),(17,[21,22,23,24]),(18,[21,22,23,24]),(19,[21,22,23,24]),(20,[21,22,23,24]),(29,[31,32]),(30,[31,32])]],cuts:=[(8197,[]),(36881,[]),(40974,[34]),(61455,[7])],trees:=[(14,(.st 0 (.st 1 (.st 2 (.st 3 (.st 4 (.st 5 (.st 6 (.st 7 (.st 8 (.st 9 (.alt 10 (.st 11 (.alt 12 (.alt 13 (.alt 14 .nil .no) .no) (.alt 13 (.alt 12 (.alt 14 .nil .no) .no) .no))) (.alt 13 (.alt 10 (.st 11 (.alt 12 (.alt 14 .nil .no) .no)) .no) .no)))))))))))),[(0,[1,11,12,14]),(1,[11,12,14]),(2,[3,4,5,10,11,12,14]),(3,[4,5,10,11,12,14]),(4,[5,10,11,12,14]),(5,[10,11,12,14]),(6,[7,8,9,10,11,12,14]),(7,[8,9,10,11,12,14]),(8,[9,10,11,12,14]),(9,[10,11,12,14]),(10,[11,12,14]),(11,[12,14]),(12,[14]),(13,[14])])]} Tryz.func149 ?_;refine rt_enter (B:=λt3 t4 au=>_) ht λw1 b3 b4 kv rs=>?_;have l4:=rs.r.lt;have ao:=rs.lo;have low:∀{w':World} {cs:List Value} {u:M.Tm},Ext w1 w'->TmR (λx=>(G x/\x<w.heap.size)\/w'.heap.size<=x) w' cs u->True:=λ_ _=>trivial;clear low;refine zq (λu w'=>u=[]/\Ext w1 w'/\¬(M.kid t 0=M.kid t 1/\M.alikeS t s≠t)) (λC hC=>?_) ?_
 ·refine zd λw2 a2 _=>?_;have r2:=yg rs a2;obtain⟨cks,m,a6,l⟩:=r2.k;simp(disch:=first|(simp only[push_cast])|omega) only[push_cast,r2.q.ld4,m.iaddr,m.ldAgg,true_and];refine spec_TermSame_spec _ (l 0 oM).term (l 1 oM).term λw3 Q=>?_;have X:=yg r2 Q;refine zb (λa=>?_) (λa=>?_)
  ·rw[X.q.ldAgg (t:=za) zc];refine l3Alike_spec (xR X) h2 λw4 rv U n=>?_;have r4:=yg X U;obtain⟨c,rfl,hc⟩:=n.cells;have gc:aggB za c.length=true:=by rw[zW hc];exact zc
   have aq:=X.r.lt;refine zi zr λb5 w5 af R ah h5=>?_;have O:=(hc.weaken (F':=λx=>((G x/\x<w.heap.size)\/b4<x)/\x<w4.heap.size) λb h h'=>⟨h.imp id λh=>oM,h'⟩).ext R;refine stTerm h5 rfl O λw6 S ak h6=>?_;have T:Ext w4 w6:=Ext.then R S λy hy=>by subst hy;omega
   have r6:=yg r4 T;have N:TmR (Qb G w.heap.size b4) w6 c (M.alikeS t s):=(O.same S λx F _ e=>oM).weaken λx F _=>F.1;rw[h6.ldAgg (t:=za) gc,r6.q.ldAgg (t:=za) zc];refine spec_TermSame_spec _ N.term (xR r6) λw7 p=>?_;have r7:=yg r6 p;simp only[push_cast];refine zo (λd=>?_) (λd=>?_)
   ·rw[gK,decide_eq_false_iff_not] at d;rw[(h6.ext p).ldAgg (t:=za) gc];have E:M.twoS t s=M.alikeS t s:=by unfold M.twoS;rw[if_pos ⟨a,d⟩]
    rw[E] at Y;exact rt_give r7 (N.ext p).term Y
   ·rw[gJ,decide_eq_true_eq] at d;exact hC _ _ ⟨rfl,a2.trans (Q.trans (U.trans (T.trans p))),λh=>h.2 d⟩
  ·exact hC _ _ ⟨rfl,a2.trans Q,λh=>a h.1⟩
 rintro u g w3 ⟨rfl,Q,n1⟩;have X:=yg rs Q;have l3:=X.r.lt;rw[X.q.ldAgg (t:=za) zc];refine l3Right_spec (xR X) h2 λw4 rv U n=>?_;have r4:=yg X U;obtain⟨c,rfl,hc⟩:=n.cells;have gc:aggB za c.length=true:=by rw[zW hc];exact zc
 refine zi zr λb5 w5 af R ah h5=>?_;have O:=(hc.weaken (F':=λx=>((G x/\x<w.heap.size)\/b4<x)/\x<w4.heap.size) λb h h'=>⟨h.imp id λh=>oM,h'⟩).ext R;refine stTerm h5 rfl O λw6 S ak h6=>?_;have T:Ext w4 w6:=Ext.then R S λy hy=>by subst hy;omega
 have r6:=yg r4 T;have N:TmR (Qb G w.heap.size b4) w6 c (M.rightS t):=(O.same S λx F _ e=>oM).weaken λx F _=>F.1;rw[h6.ldAgg (t:=za) gc,r6.q.ldAgg (t:=za) zc];refine spec_TermSame_spec _ N.term (xR r6) λw7 p=>?_;have r7:=yg r6 p;simp only[push_cast];refine zo (λd=>?_) (λd=>?_)
 ·rw[gK,decide_eq_false_iff_not] at d;rw[(h6.ext p).ldAgg (t:=za) gc];have E:M.twoS t s=M.rightS t:=by unfold M.twoS;rw[if_neg n1,if_pos d]
  rw[E] at Y;exact rt_give r7 (N.ext p).term Y
 rw[gJ,decide_eq_true_eq] at d;have E:M.twoS t s=if(t.op=3\/t.op=4\/t.op=5\/t.op=6\/t.op=8)/\M.otherS t (M.rightS (M.swapS t)) then M.rightS (M.swapS t) else t:=by
  unfold M.twoS;rw[if_neg n1,if_neg (λh=>h d)]
 refine zq (λu w'=>u=[]/\Ext w7 w'/\¬((t.op=3\/t.op=4\/t.op=5\/t.op=6\/t.op=8)/\M.otherS t (M.rightS (M.swapS t)))) (λC hC=>?_) ?_
 ·simp only[push_cast,r7.q.ld0];refine zq (λu w'=> ∃b:Bool,u=[.bool b]/\w'=w7/\(b=true↔t.op=3\/t.op=4\/t.op=5\/t.op=6\/t.op=8)) (λD hD=>?_) ?_
  ·try simp only[push_cast]
   refine zb (λc=>hD _ _ ⟨_,rfl,rfl,⟨λ_=>oM,λ_=>by rw[decide_eq_true_eq];exact c⟩⟩) (λc1=>?_);refine zb (λc=>hD _ _ ⟨_,rfl,rfl,⟨λ_=>oM,λ_=>by rw[decide_eq_true_eq];exact c⟩⟩) (λc2=>?_);refine zb (λc=>hD _ _ ⟨_,rfl,rfl,⟨λ_=>oM,λ_=>by rw[decide_eq_true_eq];exact c⟩⟩) (λc3=>?_);refine zb (λc=>hD _ _ ⟨_,rfl,rfl,⟨λ_=>oM,λ_=>by rw[decide_eq_true_eq];exact c⟩⟩) (λc4=>?_);exact hD _ _ ⟨_,rfl,rfl,⟨λh=>by rw[decide_eq_true_eq] at h;omega,λh=>by rw[decide_eq_true_eq];omega⟩⟩
  rintro u2 g2 al ⟨b,rfl,rfl,hb⟩;simp only[push_cast];refine zo (λo=>?_) (λo=>hC _ _ ⟨rfl,Same.refl _ _,λh=>by have:=hb.2 h.1;rw[o] at this;cases this⟩);have o':=hb.1 o;have l7:=r7.r.lt;refine zq (λu w'=> ∃b c,u=[ptr b]/\Ext al w'/\Blk w' b c za/\TmR (Qb G w.heap.size b4) w' c (M.rightS (M.swapS t))) (λD hD=>?_) ?_
  ·refine zd λw8 A _=>?_;have J:=yg r7 A;have l8:=J.r.lt;obtain⟨cks,m,a6,l⟩:=J.k;simp(disch:=first|(simp only[push_cast])|omega) only[push_cast,J.q.ld0,J.q.ld4,m.iaddr,m.ldAgg,true_and];have ar:=A.size;have fin:∀{wa wb:World} {bb:Nat} {z:List Value} {rv:Value},Ext w8 wa->Blk wa bb z za->z.length=5->w8.heap.size<=bb->(∀y,y=bb->TermR (λx=>((G x/\x<w.heap.size)\/b4<x)/\x≠y) wa rv (M.rightS (M.swapS t)))->zR za (ptr bb) rv wa λ_ w'=>D [ptr bb] w':=λ{wa wb bb z rv} aj hB hz an hr=>by
    obtain⟨cr,rfl,a5⟩:=(hr bb rfl).cells;refine stTerm hB hz a5 λw' a7 ap h'=>?_;exact hD _ _ ⟨bb,cr,rfl,A.trans (Ext.then aj a7 λy hy=>by subst hy;omega),h',(a5.same a7 λx F _ e=>F.2 e).weaken λx F _=>F.1⟩
   refine⟨?_,?_,trivial⟩
   ·refine kids2 (l 1 oM).term (l 0 oM).term λw9 a9 j ai k9=>?_;have r9:=yg J j;have W:TermR (λz=>(G z/\z<w.heap.size)\/z=w8.heap.size) w9 _ (M.swapS t):=(JJ (o:=t.op) k9:TermR _ w9 _ (ki0 t.op [t.ks.getD 1 default,t.ks.getD 0 default]));simp only[push_cast,r9.q.ld0,true_and,and_self];refine⟨?_,?_,trivial⟩
    ·refine l3Right_spec W rfl λw10 rv f n=>?_;refine⟨?_,trivial⟩;refine zi zr λa4 I Z i a0 L=>?_;refine⟨?_,trivial⟩;have a8:=j.size;have am:=f.size;refine fin (wb:=I) (j.trans (f.trans i)) L rfl oM λy hy=>((n.weaken (F':=λx=>(((G x/\x<w.heap.size)\/x=w8.heap.size)\/w9.heap.size<=x)/\x<w10.heap.size) λb h h'=>⟨h,h'⟩).ext i).weaken λx F _=>?_;rcases F.1 with(h|h)|h
     ·exact⟨.inl h,oM⟩
     ·exact⟨.inr oM,oM⟩
     ·exact⟨.inr oM,oM⟩
    ·refine zi zr λa4 I Z i a0 L=>?_;have H:=yg r9 i;simp only[push_cast,H.q.ld0,true_and,and_self];refine⟨?_,trivial⟩;refine l3Right_spec (W.ext i) rfl λw10 rv f n=>?_;refine⟨?_,trivial⟩;have a8:=j.size;refine fin (wb:=I) (j.trans (i.trans f)) (L.ext f) rfl oM λy hy=>n.weaken λx F _=>?_;rcases F with(h|h)|h
     ·exact⟨.inl h,oM⟩
     ·exact⟨.inr oM,oM⟩
     ·exact⟨.inr oM,oM⟩
   ·refine zi zr λa4 I Z i a0 L=>?_;have H:=yg J i;have ad:=m.ext i;simp(disch:=first|(simp only[push_cast])|omega) only[push_cast,H.q.ld0,H.q.ld4,ad.iaddr,ad.ldAgg,true_and,and_self];refine⟨?_,trivial⟩;refine kids2 ((l 1 oM).ext i).term ((l 0 oM).ext i).term λw9 a9 j ai k9=>?_;have r9:=yg H j;have W:TermR (λz=>(G z/\z<w.heap.size)\/z=I.heap.size) w9 _ (M.swapS t):=(JJ (o:=t.op) k9:TermR _ w9 _ (ki0 t.op [t.ks.getD 1 default,t.ks.getD 0 default]));simp only[push_cast,r9.q.ld0,true_and,and_self];refine⟨?_,trivial⟩;refine l3Right_spec W rfl λw10 rv f n=>?_;refine⟨?_,trivial⟩;have a8:=j.size;refine fin (wb:=I) (i.trans (j.trans f)) ((L.ext j).ext f) rfl oM λy hy=>n.weaken λx F _=>?_;rcases F with(h|h)|h
    ·exact⟨.inl h,oM⟩
    ·exact⟨.inr oM,oM⟩
    ·exact⟨.inr oM,oM⟩
  rintro u3 g3 w8 ⟨b,cv,rfl,A,hB,a1⟩;have gv:aggB za cv.length=true:=by rw[zW a1];exact zc
  have J:=yg r7 A;generalize hV:M.rightS (M.swapS t)=V at*;have give:∀{w'},Ext w8 w'->M.otherS t V->zu za (ptr b) w' λr w2=>zR za (ptr b4) r w2 λ_ w3=>vlv za (ptr b4) w3 λr w4=>K r w4:=λ{w'} h ho=>by
   rw[(hB.ext h).ldAgg (t:=za) gv];rw[E,if_pos ⟨o',ho⟩] at Y;exact rt_give (yg J h) (a1.ext h).term Y
  obtain⟨kvv,rfl,ag⟩:=a1.inv;simp only[push_cast];refine zd λw9 j _=>?_;have r9:=yg J j;have B9:=hB.ext j;have aa:=ag.ext j;simp only[push_cast,B9.ld4,aa.len,true_and];refine zb (λc1=>give j (.inl oM)) (λc1=>?_);have vl:V.ks.length=2:=oM;obtain⟨cks,m,a6,l⟩:=r9.k;obtain⟨vks,vsl,vln,vck⟩:=aa;simp(disch:=first|(simp only[push_cast])|omega) only[push_cast,B9.ld4,r9.q.ld4,m.iaddr,m.ldAgg,vsl.iaddr,vsl.ldAgg,true_and];refine spec_TermSame_spec _ (vck 0 oM).term (l 1 oM).term λw10 f=>?_;have a3:=B9.ext f;have ab:=yg r9 f;have ac:=m.ext f;have t10:=vsl.ext f;simp only[push_cast,true_and];refine zo (λc2=>?_) (λc2=>?_)
  ·rw[gK,decide_eq_false_iff_not] at c2;exact give (j.trans f) (.inr (.inl c2))
  rw[gJ,decide_eq_true_eq] at c2;simp(disch:=first|(simp only[push_cast])|omega) only[push_cast,a3.ld4,ab.q.ld4,ac.iaddr,ac.ldAgg,t10.iaddr,t10.ldAgg,true_and];refine spec_TermSame_spec _ ((vck 1 oM).ext f).term ((l 0 oM).ext f).term λI i=>?_;have ae:=a3.ext i;have H:=yg ab i;simp only[push_cast,true_and];refine zo (λc3=>?_) (λc3=>?_)
  ·rw[gK,decide_eq_false_iff_not] at c3;exact give (j.trans (f.trans i)) (.inr (.inr (.inl c3)))
  rw[gJ,decide_eq_true_eq] at c3;simp(disch:=first|(simp only[push_cast])|omega) only[push_cast,ae.ld0,H.q.ld0,true_and];refine zb (λc4=>give (j.trans (f.trans i)) (.inr (.inr (.inr c4)))) (λc4=>?_);refine hC _ _ ⟨rfl,A.trans (j.trans (f.trans i)),λh=>?_⟩;rcases h.2 with h|h|h|h
  ·exact h vl
  ·exact h c2
  ·exact h c3
  ·exact c4 h
 rintro u4 g4 w8 ⟨rfl,A,n3⟩;have J:=yg r7 A;rw[E,if_neg n3] at Y;rw[J.q.ldAgg (t:=za) zc];exact rt_give J (qo (xR J)) Y
theorem l3One_spec {dv v:Value} {t:M.Tm} {ds:List M.Dcl} (I:DclsR F w dv ds) (l:M.declOk ds=true) (ht:TermR G w v t) (hs:M.sortM ds t≠ -1) (e:ZU0 K w G (M.oneT ds t)):vcall zo0 #[dv,v] w K:=by
 rw[<-M.oneS_eq l hs] at e;have hlen:=M.len_of hs;refine zg {ord:=[oz 16 (oR 8) [(0,[5,6]),(1,[5,6]),(2,[5,6]),(3,[5,6]),(4,[5,6])],oz 19 (oR 9) [(0,[1,2,3,4,5,6]),(1,[2,3,4,5])]]} Tryz.func104 ?_;refine rt_enter (B:=λt3 t4 a6=>_) ht λw1 b3 b4 kv rs=>?_;rw[rs.q.ldAgg (t:=za) zc];refine l2Sort_spec t (I.ext rs.ext) l (xR rs) λw2 Q=>?_;have X:=yg rs Q;rw[X.q.ldAgg (t:=za) zc];refine l3All_spec (xR X) λw3 R=>?_;have d:=yg X R;refine zo (λa=>?_) (λa=>?_)
 ·have S:nnB t=true:=by
   have g:=a;unfold M.allFixed at g;simp only[K3,decide_eq_true_eq,gW] at g;refine nnB_iff.2 ⟨λN=>?_,λk hk=>?_⟩
   ·rw[N] at hlen;have h0:t.ks.length=0:=by simp[M.arity] at hlen;omega
    exact g.1 (gA h0)
   ·obtain⟨n,hn⟩:=GL.1 (g.2 k hk);exact nn_fixed hn
  have E:M.oneS ds t=if M.sortM ds t=0 then M.boolM (decide (M.evalM ds (M.zeroE ds) t=1)) else .mk 20 (M.sortM ds t) (M.evalM ds (M.zeroE ds) t) M.nada []:=by unfold M.oneS;rw[if_pos a]
  rw[d.q.ldAgg (t:=za) zc];refine yq xr yR λb7 J a0 f a4 h7=>?_;have b:=yg d f;refine l2Eval_spec t (H:=F) (I.ext b.ext) (M.zeroE_ok l) (xR b) (.inr S) hs λZ s=>?_;have p:=yg b s;simp only[push_cast];refine zb (λc=>?_) (λc=>?_)
  ·refine l3Bool_spec λw6 v6 u T=>?_;rw[E,if_pos c] at e;exact rt_give (yg p u) (rt_new p T) e
  ·try simp only[push_cast]
   rw[E,if_neg c] at e;exact rt_give p (zI0 20 _ _ _:TmR _ Z _ (.mk 20 (M.sortM ds t) (M.evalM ds (M.zeroE ds) t) M.nada [])).term e
 have na: ¬M.allFixed t=true:=by rw[a];decide
 simp only[push_cast,d.q.ld4,d.k.len];refine zb (λU=>?_) (λU=>?_)
 ·rw[d.q.ldAgg (t:=za) zc];have E:M.oneS ds t=t:=by unfold M.oneS;rw[if_neg na,if_pos (nil_len.1 U)]
  rw[E] at e;exact rt_give d (qo (xR d)) e
 have j: ¬t.ks=[]:=λh=>U (nil_len.2 h);have a3:0<t.ks.length:=Gu.2 j;simp only[push_cast,d.q.ld0];refine zb (λW=>?_) (λW=>?_)
 ·rw[d.q.ldAgg (t:=za) zc];have E:M.oneS ds t=M.logicS t:=by unfold M.oneS;rw[if_neg na,if_neg j,if_pos oM]
  rw[E] at e;refine l3Logic_spec (xR d) hs oM j λJ rv f z=>?_;have b:=yg d f;have l3:=d.r.lt;exact rt_give b (z.weaken λx A _=>A.imp id λh=>oM) e
 have n23: ¬23<=t.op:=oM
 try simp only[push_cast,d.q.ld0]
 refine zb (λm=>?_) (λm=>?_)
 ·have hl:t.ks.length=1:=by rw[m] at hlen;simp[M.arity] at hlen;omega
  simp(disch:=first|(simp only[push_cast])|omega) only[push_cast,d.q.ld4,d.k.iaddr];refine d.k.load zc oM λx A=>?_;refine l2Sort_spec _ (I.ext d.ext) l A λJ f=>?_;have b:=yg d f;have E:M.oneS ds t=if M.sortM ds t=M.sortM ds (M.kid t 0) then M.kid t 0 else t:=by unfold M.oneS;rw[if_neg na,if_neg j,if_neg n23,if_pos m]
  simp only[push_cast];refine zb (λc=>?_) (λc=>?_)
  ·simp(disch:=first|(simp only[push_cast])|omega) only[push_cast,b.q.ld4,b.k.iaddr];refine b.k.load zc oM λy hy=>?_;rw[E,if_pos (show M.sortM ds t=M.sortM ds (M.kid t 0) from c)] at e;exact rt_give b (qo hy) e
  ·rw[b.q.ldAgg (t:=za) zc];rw[E,if_neg (show¬M.sortM ds t=M.sortM ds (M.kid t 0) from c)] at e;exact rt_give b (qo (xR b)) e
 simp only[push_cast,d.q.ld4,d.k.len];have Y:=M.arity_ops (o:=t.op) oM;refine zb (λl1=>?_) (λl1=>?_)
 ·have V:t.ks.length=1:=oM;have ho:=M.arity_one (o:=t.op) oM;have E:M.oneS ds t=if(M.kid t 0).op=t.op then M.kid (M.kid t 0) 0 else t:=by unfold M.oneS;rw[if_neg na,if_neg j,if_neg n23,if_neg m,if_pos V]
  refine zd λJ f _=>?_;have b:=yg d f;simp(disch:=first|(simp only[push_cast])|omega) only[push_cast,b.q.ld0,b.q.ld4,b.k.iaddr,true_and];rw[tms_op b.k oM];simp(disch:=first|(simp only[push_cast])|omega) only[push_cast,b.q.ld0,b.q.ld4,b.k.iaddr,true_and];refine zb (λc=>?_) (λc=>?_)
  ·have k0:=M.good_kid hs (i:=0) oM;have a1:(t.ks.getD 0 default).ks.length=1:=by
    have:=M.len_of k0;rw[show(M.kid t 0).op=t.op from c] at this;have L:t.op=1\/t.op=2:=oM;rcases L with o|o<;>rw[o] at this<;>simp[M.arity] at this<;>(unfold M.kid at this;omega)
   refine tms_kids b.k oM λa5 C=>?_;simp(disch:=first|(simp only[push_cast])|omega) only[push_cast,C.iaddr];refine C.load zc oM λx A=>?_;rw[E,if_pos (show(M.kid t 0).op=t.op from c)] at e;exact rt_give b (qo A) e
  ·rw[b.q.ldAgg (t:=za) zc];rw[E,if_neg (show¬(M.kid t 0).op=t.op from c)] at e;exact rt_give b (qo (xR b)) e
 ·have l2:t.ks.length=2:=by
   unfold M.arity at hlen
   repeat' split at hlen
   all_goals omega
  have E:M.oneS ds t=M.twoS t (M.sortM ds (M.kid t 0)):=by unfold M.oneS;rw[if_neg na,if_neg j,if_neg n23,if_neg m,if_neg oM]
  rw[E] at e;refine zd λJ f _=>?_;have b:=yg d f;obtain⟨cks,D,a2,O⟩:=b.k;simp(disch:=first|(simp only[push_cast])|omega) only[push_cast,b.q.ld4,b.q.ldAgg (t:=za) zc,D.iaddr,D.ldAgg,true_and];refine l2Sort_spec _ (I.ext b.ext) l (O 0 oM).term λZ s=>?_;have p:=yg b s;simp(disch:=first|(simp only[push_cast])|omega) only[push_cast,p.q.ldAgg (t:=za) zc,true_and,and_self];refine l3Two_spec (xR p) l2 λw6 rv u z=>?_;have r6:=yg p u;have l5:=p.r.lt;exact rt_give r6 (z.weaken λx A _=>A.imp id λh=>oM) e
end
section
variable {w:World} {K:oK} {F F' D G:Nat->Prop}
set_option maxRecDepth 20000 in
theorem l3Fold_spec:∀(t:M.Tm) {w:World} {K:oK} {F G:Nat->Prop} {dv tv:Value} {ds:List M.Dcl},DclsR F w dv ds->M.declOk ds=true->TermR G w tv t->M.sortM ds t≠ -1->ZU0 K w G (M.foldT ds t)->vcall Wv #[dv,tv] w K:=by
 refine M.Tm.ind λt ih w K F G dv tv ds hd T ht hs hK=>?_;have hlen:=M.len_of hs;have ay:t.ks.length<=3:=by
  unfold M.arity at hlen
  repeat' split at hlen
  all_goals omega
 refine zg {ord:=[oz 5 (oR 13) [(0,[2,3,4,5,6,7,8,9]),(1,[2,3,4,5,6,7,8,9]),(2,[3,4,5,6,7]),(3,[5]),(4,[5])]],loops:=[(3,[6])]} Tryz.func73 ?_;obtain⟨kv,rfl,ae⟩:=ht;refine zj λb1 w1 ap Y av h1=>?_;refine zi zr λb2 w2 aq Z aw h2=>?_;have az:=Y.size;have q2:=h1.ext Z;simp only[push_cast,q2.ld0,q2.ld1,q2.ld2,q2.ld3];refine zi zr λb3 w3 ar a0 ax h3=>?_;refine stTerm h3 rfl (zI0 t.op t.a t.b t.s:TmR (λ_=>False) w3 _ _) λB a7 b0 h4=>?_;have W:Ext w1 B:=Ext.then (Z.trans a0) a7 λy hy=>by subst hy;omega
 have N:=Y.trans W;have q4:=h1.ext W;have r4:=(h2.ext a0).same a7 oM;have ac:TmsR (λx=>G x/\x<w.heap.size) B kv t.ks:=(ae.weaken λb h X=>⟨h,X⟩).ext N;have an:=N.size;refine vloop_up t.ks.length (λi u w'=>u=[nI i]/\Same (λb=>b=b3) B w'/\∃k css,Blk w' b3 [nI t.op,nI t.a,nI t.b,.string t.s,k] za/\Own 0 5 zl w' k css/\css.length=i/\(∀b,k.ownBlock=some b->B.heap.size<=b)/\
   ∀j,j<i->TmR (λx=>(G x/\x<w.heap.size)\/(B.heap.size<=x/\k.ownBlock≠some x)) w' (css.getD j []) (M.foldT ds (t.ks.getD j default)))
  ⟨rfl,Same.refl _ _,_,[],h4,Own.nil _ _ _ _,rfl,λb h=>(by cases h),λj V=>absurd V oM⟩ ?_
 rintro i _ _ w5 C hi ⟨rfl,d,k,css,h5,v,S,g,E⟩ hC;have b4:=d.size;have O:Ext w w5:=Ext.then N d λy hy=>by subst hy;omega
 have a2:=ac.same d λb f _ e=>oM
 have q5:=q4.same d oM;simp only[push_cast,q5.ld4,a2.len];refine zb (λa=>?_) (λa=>?_)
 ·refine zd λw8 o _=>?_;have q8:=q5.ext o;have p8:=h5.ext o;obtain⟨cks,a6,au,hc⟩:=a2.ext o;simp(disch:=first|(simp only[push_cast])|omega) only[push_cast,q8.ld4,p8.ld4,a6.iaddr,a6.ldAgg,true_and];have I:t.ks.getD i default∈t.ks:=M.getD_mem oM _;have b6:=o.size;refine ih _ I (hd.ext (O.trans o)) T (hc i oM).term ((M.sort_parts hs).2.1 _ I) λw9 rv Q z=>?_;obtain⟨cr,rfl,n⟩:=z.cells;have p9:=p8.ext Q;simp only[push_cast,p9.ld4,true_and,and_self];have b7:=Q.size;refine qC qw qU zr rfl (zW n) dC λao w10 ai l aj a9=>?_;have a8:=p9.ext l;simp only[push_cast,a8.ld4,true_and,and_self];have D:=o.trans (Q.trans l);have a5:=v.ext D;refine Own.app1k a5 qy dC a9 (zW n) (tmR_one n) oM oM λp b8 J m q=>?_;have ah:=a8.same m (λe=>by have:=g _ e;have:=h5.lt;omega);have al:=m.size
  try simp only[push_cast,true_and]
  have a3:p.cells= #[p]/\p.oneCell'=true:=by
   obtain⟨a,c,rfl,_⟩:=J.sl.shape;exact⟨rfl,rfl⟩
  refine ah.st (i:=4) a3.1 a3.2 xG rfl λA r am L=>?_;replace L:Blk A b3 [nI t.op,nI t.a,nI t.b,.string t.s,p] za:=L;rw[inc64' oM];have ak:=l.size;have H:∀b,p.ownBlock=some b->B.heap.size<=b:=λb f=>by
   rcases q b f with h|h
   ·exact g b h
   ·omega
  have U:Same (λb=>b=b3\/k.ownBlock=some b) w5 A:=(Same.of_ext D).trans ((m.mono λ_ _ h=> .inr h).trans (r.mono λ_ _ h=> .inl h));have aa:Same (λb=>b=b3) B A:=⟨U.os.trans d.os,U.tape.trans d.tape,U.output.trans d.output,gH d.size U.size,λb f a4=>(U.block b oM (λe=>e.elim a4 λe=>by have:=g b e;omega)).trans (d.block b f a4)⟩;refine hC oM _ _ ⟨rfl,aa,p,css++[cr],L,J.same r (λb f e=>by have:=H b f;omega),by simp[S],H,λj V=>?_⟩;by_cases ej:j<i
  ·rw[y0,gZ oM,<-y0];refine((E j ej).weaken (F':=λx=>((G x/\x<w.heap.size)\/(B.heap.size<=x/\k.ownBlock≠some x))/\x<w5.heap.size) λb h X=>⟨h,X⟩).same U (λb f _ e=>?_)|>.weaken λb f _=>?_
   ·rcases f.1 with h|h
    ·rcases e with e|e
     ·omega
     ·have:=g b e;omega
    ·rcases e with e|e
     ·omega
     ·exact h.2 e
   ·rcases f.1 with h|h
    ·exact .inl h
    ·refine .inr ⟨h.1,λe=>?_⟩;rcases q b e with e|e
     ·exact h.2 e
     ·omega
  ·have:j=i:=oM;subst this;rw[y0,Gm oM,S,G8];show TmR _ A cr _;refine(((n.weaken (F':=λx=>((G x/\x<w.heap.size)\/w8.heap.size<=x)/\x<w9.heap.size) λb h X=>⟨h,X⟩).ext l).same m (λb f _ e=>?_)).same r (λb f _ e=>?_)|>.weaken λb f _=>?_
   ·have:=g b e;have:=(v.lt e).2;rcases f.1 with h|h<;>omega
   ·rcases f.1 with h|h<;>omega
   ·rcases f.1 with h|h
    ·exact .inl h
    ·refine .inr ⟨oM,λe=>?_⟩;rcases q b e with e|e
     ·have:=(v.lt e).2;omega
     ·omega
 ·have ab:i=t.ks.length:=oM;subst ab;rw[h5.ldAgg (t:=za) zc];have ad:TmsR (λx=>(G x/\x<w.heap.size)\/B.heap.size<=x) w5 k (t.ks.map (M.foldT ds)):=by
   refine⟨css,v.sl.weaken λb f _=> .inr (g b f),by rw[S,y1],λj V=>?_⟩;rw[y1] at V;rw[M.getD_map _ V _ default];exact(E j V).weaken λb f _=>f.imp id λh=>h.1
  have R:=M.kids_good T hs;refine l3One_spec (t:=M.remake t (t.ks.map (M.foldT ds))) (hd.ext O) T ⟨k,rfl,ad⟩ (by rw[R.sort];exact hs) λw6 rv a1 z=>?_;rw[<-M.foldT_rem] at z;obtain⟨cr,rfl,n⟩:=z.cells;have r6:=(r4.same d oM).ext a1;refine qb r6 rfl n (λx hx=>by rcases hx with(h|h)|h<;>omega) λw7 ag b5 af=>?_;exact hK _ _ (Ext.then (O.trans a1) ag λy hy=>by subst hy;omega) (af.weaken λx hx _=>by
   rcases hx with(h|h)|h
   ·exact .inl h.1
   ·exact .inr oM
   ·exact .inr oM)
end
theorem UT {ds:List M.Dcl} {t:M.Tm} (a:M.declOk ds=true) (b:M.fits t=true):M.tsort ds t=M.sortM ds t:=by unfold M.tsort;rw[if_pos ⟨b,a⟩]
theorem kx0 {ds:List M.Dcl} {t:M.Tm} (a:M.declOk ds=true) (b:M.fits t=true) (hs:M.sortM ds t≠ -1):Qz ds t=M.foldT ds t:=by
 unfold Qz;rw[if_neg (by rw[UT a b];exact hs)]
end Go.Proofs.YtolbhkcajhlllaaGreatDoor
section
namespace Go.M
variable {ds:List Dcl} {env:List Int}
def msbN:List Bool->Nat
 |b::bs=>(if b then 2^bs.length else 0)+msbN bs
 |[]=>0
theorem WZ (b:Bool) (bs:List Bool):msbN (b::bs)=(if b then 2^bs.length else 0)+msbN bs:=rfl
theorem msb_lt:∀bs:List Bool,msbN bs<2^bs.length
 |[]=>dC
 |b::bs=>by
  have:=msb_lt bs
  grind [WZ]
theorem msb_app:∀aa bs:List Bool,msbN (aa++bs)=msbN aa*2^bs.length+msbN bs
 |[],bs=>by simp[msbN]
 |a::aa,bs=>by
  rw[Gq,WZ,WZ,msb_app aa bs,y3,Nat.pow_add,GP]
  grind
def envB:List Dcl->List Bool->List Int
 |d::ds,ins=>(msbN (ins.take d.2.toNat):Int)::envB ds (ins.drop d.2.toNat)
 |[],_=>[]
theorem envB_len:∀(ds:List Dcl) (ins:List Bool),(envB ds ins).length=ds.length
 |[],_=>rfl
 |d::ds,ins=>by simp[envB,envB_len ds]
def exK:List Bool->Int->List Int
 |b::bs,k=>(if b then-k else k)::exK bs (k+1)
 |[],_=>[]
def exC (ds:List Dcl) (env:List Int):List Int:=exK (insM ds env) 2
theorem exK_len:∀(bs:List Bool) (k:Int),(exK bs k).length=bs.length
 |[],_=>rfl
 |b::bs,k=>by simp[exK,exK_len bs]
theorem exK_get:∀{bs:List Bool} {k:Int} {i:Nat},i<bs.length->(exK bs k).getD i 0=if bs.getD i false then-(k+i) else k+i
 |[],_,_,h=>by simp at h
 |b::bs,k,0,_=>by simp[exK]
 |b::bs,k,i+1,h=>by
  have:=exK_get (bs:=bs) (k:=k+1) (i:=i) (by grind)
  grind [exK]
theorem exC_ok {m:Nat} (hm:1+(insM ds env).length<=m):yX m (exC ds env)=true:=by
 refine QI.2 λk a=>?_;unfold exC at a⊢;rw[exK_len] at a;have e:=exK_get (k:=2) a;refine⟨?_,?_⟩
 ·grind [litOk]
 grind [exK_get]
def jobC (ds:List Dcl) (gs:Gs) (rs:List (List Int)) (nots:List (List Int)):Cnf:=netC (nIn ds) gs (rootsC rs++nots.map (exC ds))
def searchM (n:Nat) (ds:List Dcl) (c:Cnf):List Int×Int:=
 let s:=runM c.many.toNat c n emptyS
 if s.code=1 then(envB ds (insV (wayM s.put) (nIn ds)),1) else if s.code=2 then([],2) else([],3)
def solveM (n:Nat) (ds:List Dcl) (ts:List Tm) (nots:List (List Int)):List Int×Int:=match listB ds (ts.map (foldT ds)) with
 |none=>([],3)
 |some (gs,rs)=>searchM n ds (jobC ds gs rs nots)
section
variable {ts:List Tm} {gs:Gs} {rs nots:List (List Int)}
theorem job_ok (b:declOk ds=true) (h:ListNet ds ts gs rs) (d:∀e,e∈nots->envOk ds e=true) (c:ts.length+nots.length<=90):cnfOk (jobC ds gs rs nots)=true:=by
 refine net_ok (nIn_eq b).2 h.net (by unfold rootsC;rw[y3,y1,y1,h.many];exact c) λcl a=>?_;rcases gg.1 a with a|a
 ·exact roots_ok b h cl a
 ·obtain⟨e,he,rfl⟩:=gn.1 a;exact exC_ok (by rw[insM_n (d e he)];omega)
end
end Go.M
end
namespace Go.Proofs.YtolbhkcajhlllaaGreatDoor
open Go Go.Vc Go.Proofs
section
variable {ds:List M.Dcl} {t:M.Tm} {ts:List M.Tm} {nots:List (List Int)}
theorem VZ (b:M.declOk ds=true) (h:M.tsort ds t=0):M.tsort ds (M.foldT ds t)=0/\Qz ds t=M.foldT ds t:=by
 obtain⟨a,d,f⟩:=JB h;have c:=M.fold_good b t (by rw[a];decide);obtain⟨f1,f2⟩:=M.fits_iff.1 d;have e:M.fits (M.foldT ds t)=true:=M.fits_iff.2 ⟨gH c.size f1,gH c.deep f2⟩;exact⟨by rw[UT b e,c.sort,a],kx0 b d (by rw[a];decide)⟩
theorem Q3 (h:W1 ds ts=true):W1 ds (ts.map (M.foldT ds))=true:=by
 obtain⟨b,a,c⟩:=all8_iff.1 h;refine all8_iff.2 ⟨by rw[y1];exact b,a,λu hu=>?_⟩;obtain⟨t,d,rfl⟩:=gn.1 hu;exact(VZ a (c t d)).1
def qD (ds:List M.Dcl) (ts:List M.Tm) (nots:List (List Int)):List Int×Int:=if W1 ds ts=true then M.solveM 4000 ds ts nots else([],4)
def yu0 (c:M.Cnf) (ds:List M.Dcl) (nots:List (List Int)):M.Cnf:=⟨c.many,c.list++nots.map (M.exC ds)⟩
theorem j40 {gs:M.Gs} {rs:List (List Int)}:yu0 (M.blastC ds gs rs) ds nots=M.jobC ds gs rs nots:=by
 show M.Cnf.mk _ _=M.Cnf.mk _ _;congr 1;show([1]::(M.gatesC _ gs 0++M.rootsC rs))++_=[1]::(M.gatesC _ gs 0++(M.rootsC rs++_));simp
theorem Qg (h: ¬W1 ds ts=true):qD ds ts nots=([],4):=by unfold qD;rw[if_neg h]
theorem Jz (h:W1 ds ts=true) (a:(cnfE ds (ts.map (M.foldT ds))).2≠0):qD ds ts nots=([],3):=by
 unfold qD M.solveM;rw[if_pos h];unfold cnfE at a;rw[if_pos (Q3 h)] at a;cases b:M.listB ds (ts.map (M.foldT ds)) with
 |none=>rfl
 |some r=>rw[b] at a;exact absurd rfl a
theorem ja0 (h:W1 ds ts=true):(cnfE ds ts).2=0\/(cnfE ds ts).2=1:=by
 unfold cnfE;rw[if_pos h];cases M.listB ds ts with
 |none=>exact .inr rfl
 |some r=>exact .inl rfl
theorem solveR_run (h:W1 ds ts=true) (b:(cnfE ds (ts.map (M.foldT ds))).2=0) (f:∀e,e∈nots->M.envOk ds e=true) (j:nots.length<=80):
  qD ds ts nots=M.searchM 4000 ds (yu0 (cnfE ds (ts.map (M.foldT ds))).1 ds nots)/\M.cnfOk (yu0 (cnfE ds (ts.map (M.foldT ds))).1 ds nots)=true/\1+M.nIn ds<=(cnfE ds (ts.map (M.foldT ds))).1.many.toNat:=by
 have c:=Q3 h;unfold qD M.solveM;rw[if_pos h];unfold cnfE at b⊢;rw[if_pos c] at b⊢;cases d:M.listB ds (ts.map (M.foldT ds)) with
 |none=>rw[d] at b;exact absurd b (by simp)
 |some r=>
  obtain⟨i,a2,a3⟩:=all8_iff.1 c;have a:=M.list_net a2 (λt g=>by rw[(JB (a3 t g)).1];decide) d;have e:=j40 (ds:=ds) (nots:=nots) (gs:=r.1) (rs:=r.2);refine⟨by show _=M.searchM 4000 ds (yu0 (M.blastC ds r.1 r.2) ds nots);rw[e],by show M.cnfOk (yu0 (M.blastC ds r.1 r.2) ds nots)=true;rw[e];exact M.job_ok a2 a f oM,?_⟩;show 1+M.nIn ds<=(M.netC _ r.1 (M.rootsC r.2)).many.toNat;unfold M.netC;simp only;omega
end
section
variable {w:World} {G:Nat->Prop}
theorem one_tms {ks:List M.Tm} {css:List (List Value)} (k:css.length=ks.length) (h:∀i,i<ks.length->TmR G w (css.getD i []) (ks.getD i default)):∀y,y∈css->∀c,c∈y->c.oneCell'=true:=λy g c a=>by
 obtain⟨i,hi,rfl⟩:=gj g;have f:=h i oM;rw[y0,y4 hi] at f;obtain⟨j,he,b⟩:=f.inv;obtain⟨e,d,_⟩:=b;rw[show css[i]=(some css[i]).getD [] from rfl,he] at a;simp only[X0,gm,or_false] at a;rcases a with rfl|rfl|rfl|rfl|rfl
 ·rfl
 ·rfl
 ·rfl
 ·rfl
 ·exact d.one
end
section
variable {w:World} {K:oK} {D F F' G Fr Fx Fy X:Nat->Prop} {n N b:Nat} {gs:M.Gs} {v dv tv lv:Value} {ls ls':List Value} {xss yss:List (List Int)} {xs ys:List Int} {ds:List M.Dcl} {t:M.Tm} {ts:List M.Tm} {ar ab:Addr} {k m:Int} {st:Option M.Gs}
theorem lit_row {w2:World} {us:List Int} {xs:List Value} {K:oK} (m:xs=us.map (λx=>nI x)) (g:us.length<=8) (k:RowsR N (λb=>b<w2.heap.size) w2 ls xss) (j:ls.length=xss.length)
  (h:∀a v,Ext w2 a->RowsR N (λb=>b<a.heap.size) a (ls++[v]) (xss++[us])->(∃o l c,v= .slice o l c)->K v a):vbuildS ze xs.length (xs.zipIdx.map λp=>(p.2,p.1)) w2 K:=by
 refine lit_ints m g λa b3 i d n e=>?_;refine h a _ d (RowsR.new (k.weaken λb q _ _=>oM) j d e (λb f=>?_) λb f=>e.lt f) ⟨_,_,_,rfl⟩;have:b=b3:=(y2 f).symm;omega
theorem lits_fin {w2:World} {xs:List Value} (g:xs.length<=8) (k:xs.length=xss.length) (m:∀x,x∈xs->∃o l c,x= .slice o l c) (f:RowsR N (λb=>b<w2.heap.size) w2 xs xss) (h:∀w' v,Ext w2 w'->Fresh N w' v xs xss->K v w'):
  vbuildS zI xs.length (xs.zipIdx.map λp=>(p.2,p.1)) w2 K:=by
 refine lit_lists m g λq b3 j a n d=>?_;have s:=f.nle;refine h q _ a ⟨d,k,λb i=>?_,?_⟩
 ·have:b=b3:=(y2 i).symm;omega
 ·exact(f.ext a).weaken λb r _ _ e=>by
   have:b3=b:=y2 e;omega
theorem gl_xor {a b k:Int} {K:oK} (u:∀w' v ls,Ext w w'->Fresh w.heap.size w' v ls [[a,b,-k],[-a,-b,-k],[-a,b,k],[a,-b,k]]->ls.length=4->K v w'):
  vbuildS ze 3 [(0,nI a),(1,nI b),(2,nI (-k))] w λt1 w1=>vbuildS ze 3 [(0,nI (-a)),(1,nI (-b)),(2,nI (-k))] w1 λt2 w2=>
   vbuildS ze 3 [(0,nI (-a)),(1,nI b),(2,nI k)] w2 λt3 A=>vbuildS ze 3 [(0,nI a),(1,nI (-b)),(2,nI k)] A λt4 B=>vbuildS zI 4 [(0,t1),(1,t2),(2,t3),(3,t4)] B K:=by
 refine lit_row (N:=w.heap.size) (ls:=[]) (xss:=[]) (xs:=[nI a,nI b,nI (-k)]) (us:=[a,b,-k]) rfl (by simp) (RowsR.nil (gp _)) rfl λC v9 o p q=>?_;refine lit_row (xs:=[nI (-a),nI (-b),nI (-k)]) (us:=[-a,-b,-k]) rfl (by simp) p rfl λw10 v10 c h l=>?_;refine lit_row (xs:=[nI (-a),nI b,nI k]) (us:=[-a,b,k]) rfl (by simp) h rfl λy v11 d i m=>?_;refine lit_row (xs:=[nI a,nI (-b),nI k]) (us:=[a,-b,k]) rfl (by simp) i rfl λz v12 e j n=>?_;refine lits_fin (xs:=[v9,v10,v11,v12]) (by simp) rfl (λx t=>?_) j λs r f g=>u s r _ (o.trans (c.trans (d.trans (e.trans f)))) g rfl;simp only[X0,gm,or_false] at t;rcases t with rfl|rfl|rfl|rfl
 ·exact q
 ·exact l
 ·exact m
 ·exact n
theorem gl_and {a b k:Int} {K:oK} (r:∀w' v ls,Ext w w'->Fresh w.heap.size w' v ls [[a,-k],[b,-k],[-a,-b,k]]->ls.length=3->K v w'):
  vbuildS ze 2 [(0,nI a),(1,nI (-k))] w λt1 w1=>vbuildS ze 2 [(0,nI b),(1,nI (-k))] w1 λt2 w2=>
   vbuildS ze 3 [(0,nI (-a)),(1,nI (-b)),(2,nI k)] w2 λt3 t=>vbuildS zI 3 [(0,t1),(1,t2),(2,t3)] t K:=by
 refine lit_row (N:=w.heap.size) (ls:=[]) (xss:=[]) (xs:=[nI a,nI (-k)]) (us:=[a,-k]) rfl (by simp) (RowsR.nil (gp _)) rfl λu v9 l m n=>?_;refine lit_row (xs:=[nI b,nI (-k)]) (us:=[b,-k]) rfl (by simp) m rfl λw10 v10 c g i=>?_;refine lit_row (xs:=[nI (-a),nI (-b),nI k]) (us:=[-a,-b,k]) rfl (by simp) g rfl λs v11 d h j=>?_;refine lits_fin (xs:=[v9,v10,v11]) (by simp) rfl (λx q=>?_) h λp o e f=>r p o _ (l.trans (c.trans (d.trans e))) f rfl;simp only[X0,gm,or_false] at q;rcases q with rfl|rfl|rfl
 ·exact n
 ·exact i
 ·exact j
structure CnfS (N b:Nat) (w:World) (m:Int) (lv:Value) (ls:List Value) (xss:List (List Int)):Prop where
 blk:Blk w b [nI m,lv] zp
 own:OwnV zI w lv ls
 len:ls.length=xss.length
 rows:RowsR N (λx=>lv.ownBlock≠some x/\x≠b) w ls xss
 new:∀x,lv.ownBlock=some x->N<=x/\x≠b
 lo:N<=b
theorem CnfS.ext {w':World} (h:CnfS N b w m lv ls xss) (he:Ext w w'):CnfS N b w' m lv ls xss:=⟨h.blk.ext he,h.own.ext he,h.len,h.rows.ext he,h.new,h.lo⟩
theorem kb0 (h:RowsR N Fr w ls xss) (d:ls.length=xss.length):∀u,u∈ls->u.oneCell'=true:=λu hu=>by
 obtain⟨j,b,rfl⟩:=gj hu;have a:=h.own j (by rw[<-d];exact b);obtain⟨o,c,e,_⟩:=a.ints.shape;rw[y0,y4 b,GD] at e;rw[e];rfl
theorem CnfS.add {q:World} {v9:Value} {M:Nat} {K:oK} (h:CnfS N b w m lv ls xss) (he:Ext w q) (n:Fresh M q v9 ls' yss) (V:w.heap.size<=M) (a:ls.length<=100000) (B:ls'.length<=1000)
  (J:∀w' F,Same (λx=>x=b\/lv.ownBlock=some x) q w'->CnfS N b w' m F (ls++ls') (xss++yss)->K undef w'):
  vbi .append [zI,zI] zI [lv,v9] q λt w1=>zR zI (oP b 1) t w1 K:=by
 have z9:=he.size;have Q:=h.blk.lt;have A:∀x,lv.ownBlock=some x->x<w.heap.size:=λx p=>h.own.lt p;refine OwnV.app (us:=ls') (h.own.ext he) ZR n.own.vals (kb0 n.rows n.len) oM oM λv10 w10 g d k=>?_;have T:=d.size;have s:=(h.blk.ext he).same d λe=>(h.new _ e).2 rfl;refine s.st (i:=1) (v:=v10) ?_ ?_ Q9 (by rfl) λG f H u=>?_
 ·obtain⟨o,c,e,_⟩:=g.vals.shape;rw[e];rfl
 ·obtain⟨o,c,e,_⟩:=g.vals.shape;rw[e];rfl
 have U:=f.size;have y:=h.rows.ext he;have C:=y.nle;have E:RowsR N (λx=>lv.ownBlock≠some x/\x≠b) q ls' yss:=by
  have a:=n.rows;refine⟨C,a.own,λj x O p=>?_,a.dj⟩;have B:=(a.sub j x O p).2;have:=h.rows.nle;exact⟨⟨λe=>by have:=A x e;omega,λe=>oM⟩,oM⟩
 have D:=y.app h.len E n.len λR S x a B L e=>by
  have:=(h.rows.own R a).lt L;have:=(n.rows.sub S x B e).2;omega
 have l:∀x,v10.ownBlock=some x->N<=x/\x≠b:=λx p=>by
  rcases k x p with r|r
  ·exact h.new x r
  ·exact⟨oM,λe=>oM⟩
 refine J G v10 ((d.mono λx _ h=> .inr h).trans (f.mono λx _ h=> .inl h)) ⟨u,g.same f λx p e=>(l x p).2 e,by rw[y3,y3,h.len,n.len],?_,l,h.lo⟩;have z:=D.weaken (F':=λx=>(lv.ownBlock≠some x/\x≠b)/\x<q.heap.size) λx a _ I=>⟨a,I⟩;refine((z.same d λx a _ e=>a.1.1 e).same f λx a _ e=>a.1.2 e).weaken λx a _ _=>⟨λe=>?_,a.1.2⟩;rcases k x e with r|r
 ·exact a.1.1 r
 ·omega
theorem CnfS.out {b2:Nat} {a0 c0:Value} {K:oK} (h:CnfS N b w m lv ls xss) (p:Blk w b2 [a0,c0] zp) (u:b2<N) (q:∀w',Same (· =b2) w w'->CnfO N w' lv ls ⟨m,xss⟩->K (.agg ⟨[nI m,lv]⟩) w'):
  zu zp (oP b 0) w λt45 g=>zR zp (oP b2 0) t45 g λ_ i=>vlv zp (oP b2 0) i K:=by
 obtain⟨o,c,f,_⟩:=h.own.vals.shape;generalize (ls.map λx=>[x]).length=l at f;subst f;rw[h.blk.ldAgg (t:=zp) zE];refine p.stAgg (cs':=[nI m,.slice o l c]) rfl zE net_one λs d r j=>?_;rw[j.lv (t:=zp) zE];refine q s d ⟨h.own.same d λx k e=>by have:=(h.new x k).1;omega,h.len,λx k=>(h.new x k).1,?_⟩;have a:=(h.rows.weaken (F':=λx=>(Value.slice o l c).ownBlock≠some x/\N<=x) λx a n _=>⟨a.1,n⟩).same d λx a _ e=>by have:=a.2;omega
 exact a.weaken λx a _ _=>a.1
theorem l6Many_spec {x:Value} (e:GatesR Fx w x gs) (j:n<=8) (i:gs.length<=600) (f:∀w',Ext w w'->K (nI (1+n+gs.length:Nat)) w'):vcall Wp #[.agg ⟨[nI n,x]⟩] w K:=by
 refine zg {} Tryz.func103 ?_;obtain⟨o,c,d,_⟩:=e.shape;have hlen:∀(w':World) (K:oK),vbi .len [zA] zC [x] w' K=K (nI gs.length) w':=λw' K=>by rw[Sl.len e xZ,yT0]
 generalize (gs.map yj).length=l at d;subst d;refine zj λb1 w1 g b h a=>?_;simp(disch:=first|(simp only[push_cast])|omega) only[push_cast,a.ld0,a.ld1,hlen,zk];have:=f w1 b;simp only[push_cast] at this;exact this
theorem l6Cnf_spec {x:Value} (L:GatesR Fx w x gs) (hg:M.NetG n gs) (hn:n<=8) (hK:∀w' lv ls,Ext w w'->CnfO w.heap.size w' lv ls (M.netC n gs [])->K (.agg ⟨[nI (1+n+gs.length:Nat),lv]⟩) w'):vcall zh0 #[.agg ⟨[nI n,x]⟩] w K:=by
 refine zg {loops:=[(3,[4])]} Tryz.func72 ?_;have V:=hg.few;have af:=L.shape;obtain⟨o,c,hv,_⟩:=af;have hlen:∀(w':World) (K:oK),vbi .len [zA] zC [x] w' K=K (nI gs.length) w':=λw' K=>by rw[Sl.len L xZ,yT0]
 generalize (gs.map yj).length=l at hv;subst hv;refine zj λb1 w1 aj S an a3=>?_;refine zi xn λb2 w2 ak F ao a4=>?_;have e2:=S.trans F;have z:=a3.ext F;rw[z.ldAgg (t:=zw) zZ];refine l6Many_spec (Sl.ext L e2) hn V λw3 q=>?_;have e3:=e2.trans q;have z1:=S.size;have z2:=F.size;have z3:=q.size;obtain⟨m,hm⟩:∃m:Int,m=(1+n+gs.length:Nat):=⟨_,rfl⟩;rw[<-hm];refine lit_row (N:=w3.heap.size) (ls:=[]) (xss:=[]) (xs:=[nI 1]) (us:=[1]) rfl (by simp) (RowsR.nil (gp _)) rfl λw4 v4 T ab ac=>?_;refine lits_fin (xs:=[v4]) (xss:=[[1]]) (by simp) rfl (λy s=>by rw[gk.1 s];exact ac) ab λw5 v5 U j=>?_;have z4:=T.size;have z5:=U.size;obtain⟨Q,D,Z,_⟩:=j.own.vals.shape;generalize ([v4].map λx=>[x]).length=O at Z;subst Z;rw[show ∀K:oK,yz zp [(0,nI m),(1,.slice Q O D)] w5 K=K (.agg ⟨[nI m,.slice Q O D]⟩) w5 from λK=>zV QM (us:=[[nI m],[.slice Q O D]]) rfl rfl];refine zi xn λb6 w6 al a7 ap a5=>?_;refine a5.stAgg (cs':=[nI m,.slice Q O D]) rfl zE net_one λw7 ad aq a6=>?_;have E:Ext w5 w7:=Ext.then a7 ad λy s=>by subst s;omega
 have a0:∀b,(Value.slice Q O D).ownBlock=some b->b<w5.heap.size:=λb hb=>j.own.lt hb;have h0:CnfS w3.heap.size b6 w7 m (.slice Q O D) [v4] [[1]]:=
  ⟨a6,j.own.ext E,rfl,((j.rows.weaken (F':=λx=>(Value.slice Q O D).ownBlock≠some x/\x≠b6) λx h1 _ h3=>⟨h1,oM⟩).ext E),λx L=>⟨j.new x L,by have:=a0 x L;omega⟩,oM⟩
 have a2:=T.trans (U.trans E);refine vloop_up gs.length (λi u w'=>u=[nI i]/\Ext w3 w'/\∃lv ls,CnfS w3.heap.size b6 w' m lv ls ([1]::M.gatesC n (gs.take i) 0)) ⟨rfl,a2,_,_,h0⟩ ?_;rintro i _ _ v C hi ⟨rfl,e,lv,ls,A⟩ hC;have d:=(z.ext q).ext e;have r:GatesR Fx v (.slice o l c) gs:=Sl.ext L (e3.trans e);simp(disch:=first|(simp only[push_cast])|omega) only[push_cast,d.ld0,d.ld1,hlen];refine zb (λa=>?_) (λa=>?_)
 ·have k:i<gs.length:=oM;obtain⟨ha,hb⟩:=gpos hg hn k;have a8:=gatesC_take (n:=n) k;have H:(gs.map yj).getD i []=yj gs[i]:=zS0 k;have J:i<(gs.map yj).length:=by rw[y1];exact k
  generalize gs[i]=g at*;have l0:∀K:oK,zu Y0 (.pointer (some ((eaddr (.slice o l c) 3 i).add 0))) v K=K (.bool g.x) v:=λK=>Sl.ldField r Yn0 J (by rw[H];rfl);have l1:∀K:oK,zu zC (.pointer (some ((eaddr (.slice o l c) 3 i).add 1))) v K=K (nI g.a) v:=λK=>Sl.ldField r Wf J (by rw[H];rfl);have l2:∀K:oK,zu zC (.pointer (some ((eaddr (.slice o l c) 3 i).add 2))) v K=K (nI g.b) v:=λK=>Sl.ldField r Wf J (by rw[H];rfl);simp(disch:=first|(simp only[push_cast])|(simp only[y1];omega)|omega) only[push_cast,d.ld0,d.ld1,r.iaddr,l0,l1,l2,zk];have hk:(2+(n:Int)+i).natAbs<=100000:=oM;have am:ls.length<=2401:=by
   have h1:=Zc n (gs.take i) 0;have h2:(gs.take i).length=i:=by rw[V0];omega
   rw[A.len,gw];omega
  have ar:=e.size;have W:∀{ys:List (List Int)},M.gateC (2+n+i) g=ys->[1]::M.gatesC n (gs.take i) 0++ys=[1]::M.gatesC n (gs.take (i+1)) 0:=λh=>by rw[a8,<-h];rfl
  have fin:∀{p w10:World} {v9:Value} {ls':List Value} {ys:List (List Int)},Ext v p->Fresh v.heap.size p v9 ls' ys->ls'.length<=4->M.gateC (2+n+i) g=ys->vbi .append [zI,zI] zI [lv,v9] p λt w1=>zR zI (oP b6 1) t w1 λ_ a1=>C [nI ((i:Int)+1)] a1:=λ{p w10 v9 ls' ys} f hf h4 ag=>by
   refine A.add f hf (gp _) oM oM λau ai Y B=>?_;refine hC k _ _ ⟨by simp,Ext.then (e.trans f) Y λy s=>?_,ai,ls++ls',?_⟩
   ·rcases s with rfl|s
    ·exact A.lo
    ·exact(A.new y s).1
   ·rw[W ag] at B;exact B
  refine zo (λI=>?_) (λI=>?_)
  ·simp(disch:=first|(simp only[push_cast])|omega) only[push_cast,A.blk.ld1,neg_wrap ha,neg_wrap hb,neg_wrap hk];simp only[gG];exact gl_xor λp v9 ah f G h4=>fin (w10:=p) f G oM (by unfold M.gateC;rw[if_pos I])
  ·simp(disch:=first|(simp only[push_cast])|omega) only[push_cast,A.blk.ld1,neg_wrap ha,neg_wrap hb,neg_wrap hk];simp only[gG];exact gl_and λp v9 ah f G h4=>fin (w10:=p) f G oM (by unfold M.gateC;rw[if_neg (by simp[I])])
 ·have a9:i=gs.length:=oM;subst a9;rw[gq] at A;have R:=(a4.ext q).ext e;refine A.out R oM λp ae hO=>?_;have X:Ext w p:=Ext.then (e3.trans e) ae λy s=>by subst s;omega
  rw[hm];refine hK p lv ls X ?_;have h1:=hO.down (M:=w.heap.size) oM;unfold M.netC;have aa:(1+n+gs.length:Int)=m:=by rw[hm];simp
  rw[gz,aa];exact h1
theorem CnfS.of {c:M.Cnf} {K:oK} (h:CnfO N w lv ls c) (n:∀w' b,b=w.heap.size->Ext w w'->CnfS N b w' c.many lv ls c.list->K (oP b 0) w'):
  ql zp w λt4 w1=>zR zp t4 (.agg ⟨[nI c.many,lv]⟩) w1 λ_ w2=>K t4 w2:=by
 obtain⟨o,cc,d,_⟩:=h.lst.vals.shape;generalize (ls.map λx=>[x]).length=l at d;subst d;have t:=h.rows.nle;refine zi xn λb w1 g i q f=>?_;refine f.stAgg (cs':=[nI c.many,.slice o l cc]) rfl zE net_one λw2 k r m=>?_;have a:Ext w w2:=Ext.then i k λy p=>by subst p;omega
 have j:∀x,(Value.slice o l cc).ownBlock=some x->x<w.heap.size:=λx e=>h.lst.lt e;exact n w2 b g a ⟨m,h.lst.ext a,h.len,(h.rows.weaken (F':=λx=>(Value.slice o l cc).ownBlock≠some x/\x≠b) λx f _ s=>⟨f,oM⟩).ext a,λx e=>⟨h.dl x e,by have:=j x e;omega⟩,oM⟩
theorem l8All_spec (l:KB ds) (q:DclsR Fx w dv ds) (o:TmsR Fy w tv ts) (p:∀w',Ext w w'->K (.bool (W1 ds ts)) w'):vcall z40 #[dv,tv] w K:=by
 refine zg {loops:=[(4,[5])],cuts:=[(8195,[])]} Tryz.func29 ?_;have z:=o.small;have no: ¬(ts.length<=8/\M.declOk ds=true/\∀t,t∈ts->M.tsort ds t=0)->∀w',Ext w w'->K (.bool false) w':=λh w' he=>by
  have:=p w' he;rwa[show W1 ds ts=false by rw[GF];exact λe=>h (all8_iff.1 e)] at this
 refine zq (λu w'=>u=[]/\Ext w w'/\M.declOk ds=true/\ts.length<=8) (λJ y=>?_) ?_
 ·refine spec_DeclOk_spec q l λw1 b=>?_;simp only[push_cast];refine zo (λh=>no (λe=>by rw[e.2.1] at h;cases h) _ b) (λh=>?_);simp only[push_cast,(o.ext b).len];refine zb (λr=>no (λe=>by have:=e.1;omega) _ b) (λr=>y _ _ ⟨rfl,b,by simpa using h,oM⟩)
 rintro _ _ w1 ⟨rfl,b,n,s⟩;refine vloop_up ts.length (λi u w'=>u=[nI i]/\Ext w w'/\∀j,j<i->M.tsort ds (ts.getD j default)=0) ⟨rfl,b,λj m=>absurd m oM⟩ ?_;rintro i _ _ w2 C hi ⟨rfl,c,d⟩ v;have g:=o.ext c;simp only[push_cast,g.len];refine zb (λa=>?_) (λa=>?_)
 ·have f:i<ts.length:=oM;simp(disch:=first|(simp only[push_cast])|omega) only[push_cast,g.iaddr];refine g.load zc f λx A=>?_;refine spec_TermSort_spec l (q.ext c) A λB k=>?_;simp only[push_cast];refine zb (λh=>no (λe=>h (e.2.2 _ (M.getD_mem f _))) _ (c.trans k)) (λh=>?_);rw[inc64' oM];refine v f _ _ ⟨rfl,c.trans k,λj m=>?_⟩;by_cases e:j<i
  ·exact d j e
  ·have:j=i:=oM;subst this;exact Gp h
 ·have:=p w2 c;rwa[all8_iff.2 ⟨s,n,λt hm=>by
   obtain⟨j,m,rfl⟩:=gj hm;have:=d j oM;rwa[y0,y4 m] at this⟩] at this
def XQ (rs:List (List Int)):List Int:=rs.map λr=>r.getD 0 0
theorem l8Cnf_spec (ad:W1 ds ts=true) (hd:DclsR Fx w dv ds) (ht:TmsR Fy w tv ts)
  (hK:∀w' lv ls,Ext w w'->CnfO w.heap.size w' lv ls (cnfE ds ts).1->K (.tuple #[.agg ⟨[nI (cnfE ds ts).1.many,lv]⟩,.bool (decide ((cnfE ds ts).2=0))]) w'):vcall z30 #[dv,tv] w K:=by
 refine zg {ord:=[oz 7 (oR 12) [(0,[1,2,3,4,5]),(1,[2,3,4,5]),(2,[3]),(8,[9]),(9,[10])],oz 15 (oR 11) [(0,[2,3,4,5,6,7]),(1,[2,3,4,5,6,7]),(2,[3])]],loops:=[(4,[7,8]),(13,[11])]} Tryz.func45 ?_;obtain⟨h8,E,Y⟩:=all8_iff.1 ad;obtain⟨bn,an⟩:=bits_nat E;have ch:=ht.small;refine zi xn λb4 w1 ca a6 bw aj=>?_;refine sbits8_spec (k:=ds.length) E (gp _) (by rw[gq];exact hd.ext a6) λw2 a7=>?_;rw[M.bitT_all,bn];simp only[push_cast,jf0,ZQ0];have e2:=a6.trans a7;refine zi xu λL w3 cc ao ci bl=>?_;have ay:MkR (M.bits ds).toNat (λb=>b=L) w3 [nI ((M.bits ds).toNat:Nat),.slice none 0 0,.bool true] (some []):=⟨none,0,0,rfl,GatesR.nil,by simp⟩;refine bl.stAgg (cs':=[nI ((M.bits ds).toNat:Nat),.slice none 0 0,.bool true]) rfl qZ ay.one λw4 bu cj V=>?_;have bj:Ext w2 w4:=Ext.then ao bu λy v=>by subst v;omega
 have z1:=a6.size;have z2:=a7.size;have z3:=ao.size;refine yq xr yR λb5 w5 cb ap ck bk=>?_;have ah:=bj.trans ap;have e5:=e2.trans ah;have bt:OwnI ze w5 (.slice (some ⟨b5,0,none⟩) 0 0) []:=Blk.own1 (t:=ze) (cs:=[]) (by rw[qK];exact bk) (gM _) rfl rfl oM;have cm:=V.lt;have bf:∀b,(Value.slice (some ⟨b5,0,none⟩) 0 0).ownBlock=some b->b=b5:=λb q=>(y2 q).symm;have az:MkR (M.bits ds).toNat (λb=>b=L\/(Value.slice (some ⟨b5,0,none⟩) 0 0).ownBlock=some b) w5 [nI ((M.bits ds).toNat:Nat),.slice none 0 0,.bool true] (some []):=⟨none,0,0,rfl,GatesR.nil,by simp⟩;refine vloop_up ts.length (λi u w'=> ∃mv cs st rs,u=[mv,nI i]/\Ext w2 w'/\Blk w' L cs zB/\MkR (M.bits ds).toNat (λb=>b=L\/mv.ownBlock=some b) w' cs st/\M.Bd.Out (M.bits ds).toNat (M.seqB ((ts.take i).map (M.termB ds))) (some []) st rs/\rs.length=i/\OwnI ze w' mv (XQ rs)/\∀b,mv.ownBlock=some b->w2.heap.size<=b/\b≠L)
  ⟨_,_,some [],[],rfl,ah,V.ext ap,az,.inl ⟨[],rfl,rfl⟩,rfl,bt,λb q=>by have:=bf b q;omega⟩ ?_
 rintro i _ _ w6 C hi ⟨mv,cs,st,rs,rfl,O,d,H,m,T,S,R⟩ hC;have e6:=e2.trans O;have ba:=ht.ext e6;simp only[push_cast,ba.len];have z26:=O.size;refine zb (λa=>?_) (λa=>?_)
 ·have D:i<ts.length:=oM;refine yq xr yR λb7 w7 cd a8 bx am=>?_;refine zd λw8 a9 _=>?_;have s:=a8.trans a9;have cq:=s.size;have bb:=ba.ext s;have ak:=d.ext s;have br:∀{w':World} {cs:List Value},cs.length=3->Blk w' L cs zB->∀K:oK,zu zB (oP L 0) w' K=K (.agg ⟨cs⟩) w':=λh3 h K=>h.ldAgg (t:=zB) (by rw[h3];exact qZ);rw[br H.len ak];simp(disch:=first|(simp only[push_cast])|omega) only[push_cast,bb.iaddr,true_and];refine bb.load zc D λx hx=>?_;have hD:∀b,(b=L\/mv.ownBlock=some b)->b<w8.heap.size:=λb q=>q.elim (λe=>by have:=d.lt;omega) λh=>by have:=S.lt h;omega
  obtain⟨af,_,c9⟩:=JB (Y _ (M.getD_mem D default));refine⟨rfl,sdo8_spec E an _ (by rw[af];decide) (H.ext s λb h _=>h) hD (hd.ext (e6.trans s)) hx λw9 a4 bg r zs aq Q bz c7 b1=>?_⟩;have p:=s.trans aq;have z9:=aq.size;have bc:=(out_lens E (by rw[af];decide) b1).1;have bw:zs.length=1:=by rw[bc,af];rfl
  simp only[push_cast,true_and,and_self];have al:=d.ext p;have bd:=d.lt;refine al.stAgg (cs':=a4) (by rw[Q.len,H.len]) (by rw[Q.len];exact qZ) Q.one λw10 n c8 ai=>?_;have J:Ints (New w8) w10 r zs:=bz.same n λb q _ e=>by have:w8.heap.size<=b:=q;omega
  have av:=Q.same n λb q=> .inl q;simp(disch:=first|(simp only[push_cast])|omega) only[push_cast,true_and,and_self,J.iaddr,J.load];refine spec_one λbh cn f b0 c5=>?_;have ae:OwnI ze bh mv (XQ rs):=((S.ext p).same n λb q e=>(R b q).2 e).ext f;have ax:(XQ rs).length=i:=by unfold XQ;rw[y1,T]
  refine ae.app (ys:=[zs.getD 0 0]) xB b0.ints (by simp only[gO];omega) (by simp only[gO];omega) λv12 bi a0 A Z=>?_
  try simp(disch:=omega) only[push_cast,zk]
  have cp:=f.size;have z12:=A.size;have c4:∀b,mv.ownBlock=some b->b<w6.heap.size:=λb q=>S.lt q;have aw:MkR (M.bits ds).toNat (λb=>b=L\/v12.ownBlock=some b) bi a4 bg:=
   (av.ext f λb h _=>h).swap A (λb q=> .inr q) λb q hl=>q.elim .inl λh=>(Z b h).elim .inr λh2=>oM
  refine hC D _ _ ⟨v12,a4,bg,rs++[zs],by simp,?_,((ai.ext f).same A λe=>(R _ e).2 rfl),aw,?_,by rw[y3,T];rfl,?_,λb q=>?_⟩
  ·exact Ext.then ((Ext.then (O.trans p) n λy v=>by subst v;omega).trans f) A λy v=>(R y v).1
  ·rw[M.take_add D default,gr];exact yQ0 m b1
  ·unfold XQ at a0⊢;rw[gr];exact a0
  ·rcases Z b q with h|h
   ·exact R b h
   ·exact⟨oM,λe=>oM⟩
 ·have D:i=ts.length:=oM;subst D;rw[gq] at m;have U:=aj.ext (a7.trans O);have cl:=aj.lt;have bd:=d.lt;cases st with
  |none=>
   have bo:cs=[nI 0,.slice none 0 0,.bool false]:=H;subst bo;have bs:M.listB ds ts=none:=by
    rcases m with⟨g,q1,q2⟩|⟨q1,q2,_⟩
    ·cases q2
    ·exact q1
   have a5:cnfE ds ts=(⟨0,[]⟩,1):=by unfold cnfE;rw[if_pos ad,bs]
   simp(disch:=first|(simp only[push_cast])|omega) only[push_cast,d.ld1,d.ld2,Pr];rw[ji0];refine U.stAgg (cs':=[nI 0,.slice none 0 0]) rfl zE net_one λw7 bv bx am=>?_;rw[am.lv (t:=zp) zE];have m:Ext w w7:=Ext.then e6 bv λy v=>by subst v;omega
   have:=hK w7 (.slice none 0 0) [] m;rw[a5] at this;exact this (yZ0 m.size)
  |some gs=>
   obtain⟨o,l,c,rfl,bp,ce⟩:=H;have a3:M.listB ds ts=some (gs,rs):=by
    rcases m with⟨g,q1,q2⟩|⟨q1,q2,_⟩
    ·cases q2;exact q1
    ·cases q2
   have a2:=M.list_net E (λt ht=>by rw[(JB (Y t ht)).1];decide) a3;have a5:cnfE ds ts=(M.blastC ds gs rs,0):=by unfold cnfE;rw[if_pos ad,a3]
   simp(disch:=first|(simp only[push_cast])|omega) only[push_cast,d.ld1,d.ld2,Gc];rw[Blk.ldTake (us:=[nI ((M.bits ds).toNat:Nat),.slice o l c]) (r:=[.bool true]) d zZ];refine l6Cnf_spec bp a2.net an λw7 lv ls a8 hO=>?_;refine CnfS.of (c:=M.netC (M.bits ds).toNat gs []) hO λw8 b8 c2 a9 hS=>?_;have cg:=Zc (M.bits ds).toNat gs 0;have c3:=a2.net.few;have c6:(M.netC (M.bits ds).toNat gs []).list.length<=2401:=by
    show([1]::(M.gatesC _ gs 0++[])).length<=2401;rw[gz,gw];omega
   have ac:(M.netC (M.bits ds).toNat gs []).many=(M.blastC ds gs rs).many:=rfl;have ab:(M.netC (M.bits ds).toNat gs []).list++M.rootsC rs=(M.blastC ds gs rs).list:=by
    show([1]::(M.gatesC _ gs 0++[]))++M.rootsC rs=[1]::(M.gatesC _ gs 0++M.rootsC rs);rw[gz];rfl
   generalize M.netC (M.bits ds).toNat gs []=c0 at*;have s:=a8.trans a9;have ax:(XQ rs).length=ts.length:=by unfold XQ;rw[y1,T]
   refine vloop_up ts.length (λj u w'=>u=[nI j]/\Ext w6 w'/\∃lv ls,CnfS w6.heap.size b8 w' c0.many lv ls (c0.list++M.rootsC (rs.take j))) ⟨rfl,s,lv,ls,by simpa[M.rootsC] using hS⟩ ?_;rintro j _ _ w9 C2 hj ⟨rfl,p,c1,ag,B⟩ bm;have a1:=(S.ext p).ints;simp only[push_cast,a1.len,ax];refine zb (λa=>?_) (λa=>?_)
   ·have au:j<rs.length:=oM;have aa:(XQ rs).getD j 0=(rs.getD j []).getD 0 0:=by
     unfold XQ;rw[M.getD_map (λr:List Int=>r.getD 0 0) au 0 []]
    refine zd λw10 F _=>?_;have z:=B.ext F;have I:=a1.ext F;simp(disch:=first|(simp only[push_cast])|omega) only[push_cast,z.blk.ld1,I.iaddr,I.load,true_and];rw[aa];refine lit_row (N:=w10.heap.size) (ls:=[]) (xss:=[]) (xs:=[nI ((rs.getD j []).getD 0 0)]) (us:=[(rs.getD j []).getD 0 0]) rfl (by simp) (RowsR.nil (gp _)) rfl λbh v11 f b2 b3=>?_;simp(disch:=first|(simp only[push_cast])|omega) only[push_cast,(z.ext f).blk.ld1,true_and,and_self];refine lits_fin (xs:=[v11]) (xss:=[[(rs.getD j []).getD 0 0]]) (by simp) rfl (λy v=>by rw[gk.1 v];exact b3) b2 λbi v12 G ar=>?_;simp(disch:=first|(simp only[push_cast])|omega) only[push_cast,((z.ext f).ext G).blk.ld1,true_and,and_self];have cf:ag.length<=3000:=by
     rw[B.len,y3];unfold M.rootsC;rw[y1,V0];omega
    refine z.add (f.trans G) ar (gp _) oM (by simp) λco be b9 X=>?_
    try simp(disch:=omega) only[push_cast,zk]
    have z9:=p.size;refine bm oM _ _ ⟨by simp,Ext.then (p.trans (F.trans (f.trans G))) b9 λy v=>?_,be,ag++[v11],?_⟩
    ·rcases v with rfl|v
     ·exact B.lo
     ·exact(B.new y v).1
    ·rw[M.take_add au []];unfold M.rootsC at X⊢;rw[gr,<-gV];exact X
   ·have bq:j=ts.length:=oM;subst bq;rw[<-T,gq,ab] at B;refine B.out (U.ext p) oM λw10 n W=>?_;have m:Ext w w10:=Ext.then (e6.trans p) n λy v=>by subst v;omega
    have:=hK w10 c1 ag m;rw[a5] at this;rw[ac] at W⊢;exact this ((W.down (by have:=e6.size;omega)))
end
end Go.Proofs.YtolbhkcajhlllaaGreatDoor
namespace Go.Proofs.YtolbhkcajhlllaaGreatDoor
open Go Go.Vc Go.Proofs Go.M
section
variable {w:World} {K:oK} {F Fr:Nat->Prop}
def Sep (Fr:Nat->Prop) (os:List (Option Nat)):Prop:=os.Pairwise (λa b=>∀x,a=some x->b≠some x)/\∀o,o∈os->∀x,o=some x->¬Fr x
structure TrailR (Fr:Nat->Prop) (w:World) (bt many:Nat) (put:List Int) (ds:List Bool) (vp vpl vl:Value):Prop where
 blk:Blk w bt [vp,vpl,vl] yA
 rp:OwnI ze w vp put
 rpl:OwnI ze w vpl (places many put)
 rl:OwnI ze w vl (levels ds)
 sep:Sep Fr [some bt,vp.ownBlock,vpl.ownBlock,vl.ownBlock]
 len:ds.length=put.length
 dis:Distinct put
 bnd:∀x,x∈put->x≠0/\x.natAbs<=many
 few:many<=700
def kN (bt:Nat) (vp vpl vl:Value) (b:Nat):Prop:=b=bt\/vp.ownBlock=some b\/vpl.ownBlock=some b\/vl.ownBlock=some b
section
variable {bt many:Nat} {put:List Int} {ds:List Bool} {vp vpl vl:Value}
theorem TrailR.same {S:Nat->Prop} {w':World} (h:TrailR Fr w bt many put ds vp vpl vl) (hw:Same S w w') (hs:∀b,kN bt vp vpl vl b->¬S b):TrailR Fr w' bt many put ds vp vpl vl:=
 ⟨h.blk.same hw (hs _ (.inl rfl)),h.rp.same hw λb a=>hs _ (.inr (.inl a)),h.rpl.same hw λb a=>hs _ (.inr (.inr (.inl a))),h.rl.same hw λb a=>hs _ (.inr (.inr (.inr a))),h.sep,h.len,h.dis,h.bnd,h.few⟩
theorem TrailR.ext {w':World} (h:TrailR Fr w bt many put ds vp vpl vl) (hw:Ext w w'):TrailR Fr w' bt many put ds vp vpl vl:=h.same hw λ_ _ h=>h
theorem nodup_le {m:Nat} {xs:List Nat} (b:xs.Nodup) (a:∀x,x∈xs->1<=x/\x<=m):xs.length<=m:=by
 have:=b.length_le_of_subset (l₂:=(List.range' 1 m)) λx c=>by rw[List.mem_range'_1];have:=a x c;omega
 simpa using this
theorem TrailR.few' (h:TrailR Fr w bt many put ds vp vpl vl):put.length<=many:=by
 have:=nodup_le (m:=many) h.dis λx a=>by
  obtain⟨y,b,rfl⟩:=gn.1 a;have:=h.bnd y b;omega
 simpa using this
theorem newTrail_spec (hm:many<=700) (i:∀b,Fr b->b<w.heap.size) (p:∀bt vp vpl vl w',Ext w w'->TrailR Fr w' bt many [] [] vp vpl vl->(∀b,kN bt vp vpl vl b->w.heap.size<=b)->K (oP bt 0) w'):
  vcall JZ #[nI many] w K:=by
 refine zg {} Tryz.func160 ?_;simp(disch:=omega) only[push_cast,zk];rw[show((many:Int)+1)=((many+1:Nat):Int) from by omega];refine vmkS_own (bs:=8) xB qK xF rfl oM oM λv1 w1 g c f=>?_;refine Qc y10 (us:=[[v1]]) (by simp[g.vals.cells1]) rfl ?_;refine yn λb w2 q d _ n=>?_;have m:OwnI ze w2 v1 (places many []):=by rw[xj0];unfold OwnI;rw[GB];exact g.ext d
 refine p b (.slice none 0 0) v1 (.slice none 0 0) w2 (c.trans d) ⟨n,OwnI.nil,m,OwnI.nil,⟨?_,?_⟩,rfl,G1,(λx a=>by cases a),hm⟩ ?_
 ·have j:∀x,v1.ownBlock=some x->x<b:=λx a=>by have:=g.lt a;omega
  simp[Value.ownBlock];intro e;have:=j b e;omega
 ·have k:=c.size;intro o l x a hF;have:=i x hF;simp only[X0,gm,or_false] at l;rcases l with rfl|rfl|rfl|rfl
  ·cases a;omega
  ·cases a
  ·have:=f x a;omega
  ·cases a
 ·have k:=c.size;rintro x (rfl|h|h|h)
  ·omega
  ·cases h
  ·exact f x h
  ·cases h
theorem assigned_spec {l:Int} (h:TrailR Fr w bt many put ds vp vpl vl) (e:l.natAbs<=many) (d:∀w',Ext w w'->K (.bool (decide (placeOf put l.natAbs≠0))) w'):
  vcall ZB #[oP bt 0,nI l] w K:=by
 refine zg {ord:=[oz 1 (oR 10) [(0,[4,5]),(1,[4,5]),(2,[4,5]),(3,[4,5])]]} Tryz.func206 ?_;have g:=h.few;refine zd λw1 a _=>?_;have c:=h.ext a;have b:=c.rpl.ints;have f:=kR many put;simp only[push_cast,c.blk.ld1,true_and];refine variable_spec oM oM ?_;simp(disch:=first|(simp only[push_cast])|omega) only[push_cast,c.blk.ld1,true_and,b.iaddr,b.load,and_self,places_get e];have:=d w1 a;simpa using this
theorem isTrue_spec {l:Int} (h:TrailR Fr w bt many put ds vp vpl vl) (j:l.natAbs<=many) (g:∀w',Ext w w'->K (.bool (decide (l∈put))) w'):
  vcall YU #[oP bt 0,nI l] w K:=by
 refine zg {ord:=[oz 1 [0,1,2,3,4,5,6,7,8,9,10,11,12,19,13,14,15,16,17,18,20,21,22] [(0,[1]),(4,[8,9,10,11,12,19,13,14,15,16]),(5,[8,9,10,11,12,19,13,14,15,16]),(6,[8,9,10,11,12,19,13,14,15,16]),(7,[8,9,10,11,12,19,13,14,15,16]),(8,[12,19,13]),(9,[12,19,13]),(10,[12,19,13]),(11,[12,19,13]),(12,[19]),(19,[13,14,15,16,17,18])]]} Tryz.func278 ?_;have o:=h.few;refine zd λw1 b _=>?_;refine assigned_spec (h.ext b) j λw2 c=>zb (λa=>?_) (λa=>?_)
 ·have d:=h.ext (b.trans c);have k:=d.rp.ints;have f:=d.rpl.ints;have m:=kR many put;have hle:=placeOf_le put l.natAbs;have i:=h.few';simp(disch:=first|(simp only[push_cast])|omega) only[push_cast,d.blk.ld0,d.blk.ld1,true_and];refine variable_spec oM oM ?_;simp(disch:=first|(simp only[push_cast])|omega) only[push_cast,d.blk.ld0,d.blk.ld1,true_and,and_self,f.iaddr,f.load,places_get j,zk];obtain⟨q,n⟩:∃q,placeOf put l.natAbs=q+1:=⟨placeOf put l.natAbs-1,oM⟩;rw[n,show(((q+1:Nat):Int)-1)=(q:Int) from by omega];simp(disch:=first|(simp only[push_cast])|omega) only[push_cast,true_and,k.iaddr,k.load];rw[show q=placeOf put l.natAbs-1 from by omega];have:=g w2 (b.trans c);have e:l∈put↔put.getD (placeOf put l.natAbs-1) 0=l:=(mem_iff_place h.dis).trans ⟨λh=>h.2,λh=>⟨a,h⟩⟩;rwa[decide_eq_decide.2 e] at this
 ·have:=g w2 (b.trans c);rwa[decide_eq_false (λhm=>a (placeOf_ne_zero hm))] at this
theorem place_spec {l:Int} (h:TrailR Fr w bt many put ds vp vpl vl) (f:l.natAbs<=many) (e:∀w',Ext w w'->K (nI ((placeOf put l.natAbs:Int)-1)) w'):
  vcall XA #[oP bt 0,nI l] w K:=by
 refine zg {ord:=[oz 1 (oR 10) [(0,[4,5]),(1,[4,5]),(2,[4,5]),(3,[4,5])]]} Tryz.func280 ?_;have i:=h.few;refine zd λw1 a _=>?_;have c:=h.ext a;have b:=c.rpl.ints;have g:=kR many put;have hle:=placeOf_le put l.natAbs;have d:=h.few';simp only[push_cast,c.blk.ld1,true_and];refine variable_spec oM oM ?_;simp(disch:=first|(simp only[push_cast])|omega) only[push_cast,c.blk.ld1,true_and,b.iaddr,b.load,and_self,places_get f,zk];exact e w1 a
theorem level_spec {l:Int} (h:TrailR Fr w bt many put ds vp vpl vl) (i:l.natAbs<=many) (m:placeOf put l.natAbs≠0) (g:∀w',Ext w w'->K (nI (lvl ds (placeOf put l.natAbs-1))) w'):
  vcall XB #[oP bt 0,nI l] w K:=by
 refine zg {ord:=[oz 1 (oR 10) [(0,[4,5,6]),(1,[4,5,6]),(2,[4,5,6]),(3,[4,5,6]),(4,[5])]]} Tryz.func243 ?_;have n:=h.few;have e:=h.few';have hlen:=h.len;have hle:=placeOf_le put l.natAbs;refine zd λw1 a _=>?_;have c:=h.ext a;simp only[push_cast,c.blk.ld2,true_and];refine place_spec c i λw2 b=>?_;have d:=c.ext b;have f:=d.rl.ints;have k:=Y7 ds;obtain⟨q,j⟩:∃q,placeOf put l.natAbs=q+1:=⟨placeOf put l.natAbs-1,oM⟩;rw[j,show(((q+1:Nat):Int)-1)=(q:Int) from by omega];simp(disch:=first|(simp only[push_cast])|omega) only[push_cast,d.blk.ld2,true_and,f.iaddr,f.load,and_self];rw[Qx oM,show q=placeOf put l.natAbs-1 from by omega];exact g w2 (a.trans b)
theorem look_spec {v:Value} {c:List Int} {F:Nat->Prop} (h:TrailR Fr w bt many put ds vp vpl vl) (o:Ints F w v c) (r:∀l,l∈c->l.natAbs<=many)
  (q:∀w' b n x,Ext w w'->lookM put c 0 0=(b,n,x)->K (.tuple #[.bool b,nI n,nI x]) w'):
  vcall Qo #[oP bt 0,v] w K:=by
 refine zg {loops:=[(2,[5,6,11])]} Tryz.func240 ?_;simp(disch:=first|(simp only[push_cast])|omega) only[push_cast,o.len];have hlen:c.length<=9223372036854775807:=by obtain⟨_,_,_,s,A,_⟩:=o.shape;simp at s;omega
 refine vloop_up c.length (λi u w'=> ∃n x,u=[nI (n:Nat),nI x,nI i]/\Ext w w'/\n<=i/\lookM put (c.drop i) n x=lookM put c 0 0) ⟨0,0,rfl,Same.refl _ _,oM,rfl⟩ ?_;rintro i _ g w1 C hi ⟨n,x,rfl,he,B,e⟩ p;simp only[push_cast];refine zb (λz=>?_) (λy=>?_)
 ·have k:=o.ext he;simp(disch:=first|(simp only[push_cast])|omega) only[push_cast,k.iaddr,k.load];have t:=kU (d:=0) (show i<c.length by omega);have hm:c.getD i 0∈c:=getD_meS oM;rw[t,Qv] at e;refine isTrue_spec (h.ext he) (r _ hm) λw2 f=>zb (λa=>?_) (λa=>?_)
  ·rw[if_pos a] at e;exact q w2 true 0 0 (he.trans f) e.symm
  ·rw[if_neg a] at e;refine assigned_spec (h.ext (he.trans f)) (r _ hm) λD j=>?_;simp only[push_cast];refine zo (λb=>?_) (λb=>?_)
   ·have m:placeOf put (c.getD i 0).natAbs=0:=(by simpa using b);rw[if_pos m] at e;simp(disch:=omega) only[push_cast,zk];exact p oM _ _ ⟨n+1,_,by simp,he.trans (f.trans j),oM,e⟩
   ·have m: ¬placeOf put (c.getD i 0).natAbs=0:=(by simpa using b);rw[if_neg m] at e;simp(disch:=omega) only[push_cast,zk];exact p oM _ _ ⟨n,_,by simp,he.trans (f.trans j),oM,e⟩
 ·rw[gP oM] at e;exact q w1 false n x he e.symm
end
end
end Go.Proofs.YtolbhkcajhlllaaGreatDoor
end
