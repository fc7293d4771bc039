import Derived.Test.YtokflbdfnbppjaaGreatDoorWvaP11
/- A part of the proof. -/
set_option linter.all false
namespace Go.Proofs.YtokflbdfnbppjaaGreatDoor
open Go Go.Vc Go.Proofs
section
variable {w:World} {K:Value->World->Prop} {F D G:Nat->Prop}
inductive TmO (w:World):(Nat->Prop)->List Value->M.Tm->Prop
 |mk {D:Nat->Prop} {kv:Value} {t:M.Tm} (css:List (List Value)) (Ds:Nat->Nat->Prop) (own:Own P 0 5 zb w kv css) (hl:css.length=t.ks.length)
   (hb:∀b,kv.ownBlock=some b->D b/\∀i,i<t.ks.length->¬Ds i b) (hd:∀i j b,i<j->j<t.ks.length->Ds i b->¬Ds j b) (hs:∀i b,i<t.ks.length->Ds i b->D b)
   (hk:∀i,i<t.ks.length->TmO w (Ds i) (css.getD i []) (t.ks.getD i default)):TmO w D [.int .i64 t.op,.int .i64 t.a,.int .i64 t.b,.string t.s,kv] t
theorem Xc0 {cs:List Value} {t:M.Tm} (h:TmO w D cs t):∃(kv:Value) (css:List (List Value)) (Ds:Nat->Nat->Prop),cs=[.int .i64 t.op,.int .i64 t.a,.int .i64 t.b,.string t.s,kv]/\Own P 0 5 zb w kv css/\css.length=t.ks.length/\
  (∀b,kv.ownBlock=some b->D b/\∀i,i<t.ks.length->¬Ds i b)/\(∀i j b,i<j->j<t.ks.length->Ds i b->¬Ds j b)/\(∀i b,i<t.ks.length->Ds i b->D b)/\∀i,i<t.ks.length->TmO w (Ds i) (css.getD i []) (t.ks.getD i default):=by
 cases h with
 |mk css Ds own f c d hs e=>exact⟨_,css,Ds,rfl,own,f,c,d,hs,e⟩
theorem Z30:∀(t:M.Tm) {D:Nat->Prop} {cs:List Value},TmO w D cs t->TmR D w cs t:=by
 refine M.Tm.ind λt g D cs h=>?_;obtain⟨kv,css,Ds,rfl,own,f,d,j,hs,e⟩:=Xc0 h;exact TmR.of ⟨css,own.sl.weaken λb a _=>(d b a).1,f,λi c=>(g _ (M.getD_mem c _) (e i c)).weaken λb a _=>hs i b c a⟩
theorem zr0 {S:Nat->Prop} {w w':World} (hw:Same S w w'):∀(t:M.Tm) {D:Nat->Prop} {cs:List Value},TmO w D cs t->(∀b,D b->¬S b)->TmO w' D cs t:=by
 refine M.Tm.ind λt l D cs h e=>?_;obtain⟨kv,css,Ds,rfl,own,k,d,g,hs,j⟩:=Xc0 h;exact .mk css Ds (own.same hw λb f=>e b (d b f).1) k d g hs λi c=>l _ (M.getD_mem c _) (j i c) λb a=>e b (hs i b c a)
theorem Wg0 {w':World} {cs:List Value} {t:M.Tm} (h:TmO w D cs t) (hw:Ext w w'):TmO w' D cs t:=zr0 hw t h λ_ _ h=>h
theorem XC {cs:List Value} {t:M.Tm} (h:TmO w D cs t) (a:∀b,D b->F b):TmO w F cs t:=by
 obtain⟨kv,css,Ds,rfl,own,g,c,d,hs,f⟩:=Xc0 h;exact .mk css Ds own g (λb h=>⟨a b (c b h).1,(c b h).2⟩) d (λi b e h=>a b (hs i b e h)) f
structure Grow (lo:Nat) (w:World) (kv:Value) (css:List (List Value)) (us:List M.Tm) (Ds:Nat->Nat->Prop):Prop where
 own:Own P 0 5 zb w kv css
 len:css.length=us.length
 blk:∀b,kv.ownBlock=some b->lo<=b/\∀j,j<us.length->¬Ds j b
 dis:∀j k b,j<k->k<us.length->Ds j b->¬Ds k b
 sub:∀j b,j<us.length->Ds j b->lo<=b/\b<w.heap.size
 kid:∀j,j<us.length->TmO w (Ds j) (css.getD j []) (us.getD j default)
theorem XW0 (lo:Nat) (w:World):Grow lo w (.slice none 0 0) [] [] λ_ _=>False:=
 ⟨Own.nil _ _ _ _ _,rfl,λb h=>(by cases h),λj k b _ c=>absurd c (by simp),λj b a=>absurd a (by simp),λj a=>absurd a (by simp)⟩
theorem qJ0 {S:Nat->Prop} {lo:Nat} {kv:Value} {w':World} {css:List (List Value)} {us:List M.Tm} {Ds:Nat->Nat->Prop} (h:Grow lo w kv css us Ds) (hw:Same S w w') (hs:∀b,lo<=b->¬S b):Grow lo w' kv css us Ds:=
 ⟨h.own.same hw λb a=>hs b (h.blk b a).1,h.len,h.blk,h.dis,λj b c a=>⟨(h.sub j b c a).1,gI (h.sub j b c a).2 hw.size⟩,λj c=>zr0 hw _ (h.kid j c) λb a=>hs b (h.sub j b c a).1⟩
theorem grow_push {lo s:Nat} {kv:Value} {F y z o:World} {css:List (List Value)} {us:List M.Tm} {Ds:Nat->Nat->Prop} {cr:List Value} {u:M.Tm} (h:Grow lo F kv css us Ds) (G:Ext F y) (H:Ext y z) (S:lo<=y.heap.size)
  (J:TmO z (λb=>y.heap.size<=b/\b<z.heap.size) cr u) (q:Ext z o) (B:Blk o s cr za) (T:us.length<=1048576)
  (Q:∀d g A,Grow lo g d (css++[cr]) (us++[u]) A->Same (λb=>kv.ownBlock=some b) o g->d.cells= #[d]->d.oneCell'=true->K d g):
  vbi P .append [zb,zb] zb [kv,.slice (some ⟨s,0,none⟩) 1 1] o K:=by
 have v:=Z30 _ J;have t:=G.trans (H.trans q);have g10:=qJ0 h t λb _ h=>h;have U:=G.size;have V:=H.size;have L:=q.size;have I:=h.len;refine Own.app1k g10.own YF (by decide) B (yq v) (tmR_one v) (by omega) (by omega) λd g p f x=>?_;have N:=f.size;have w:d.cells= #[d]/\d.oneCell'=true:=by
  obtain⟨a,c,rfl,_⟩:=p.sl.shape;exact⟨rfl,rfl⟩
 have hold:∀b,kv.ownBlock=some b->b<F.heap.size:=λb i=>(h.own.lt i).2;refine Q d g (λj b=>(j=us.length/\y.heap.size<=b/\b<z.heap.size)\/(j<us.length/\Ds j b)) ⟨p,by simp[I],λb i=>?_,λj k b D R r E=>?_,λj b r i=>?_,λj r=>?_⟩ f w.1 w.2
 ·rcases x b i with e|e
  ·refine⟨(h.blk b e).1,λj r C=>?_⟩;rcases C with⟨_,m,_⟩|⟨m,n⟩
   ·have:=hold b e;omega
   ·exact(h.blk b e).2 j m n
  ·refine⟨by omega,λj r C=>?_⟩;rcases C with⟨_,_,m⟩|⟨m,n⟩
   ·omega
   ·have:=(h.sub j b m n).2;omega
 ·rw[Q1,gD] at R;rcases r with⟨m,n,O⟩|⟨m,n⟩
  ·omega
  ·rcases E with⟨g1,g2,g3⟩|⟨g1,g2⟩
   ·have:=(h.sub j b m n).2;omega
   ·exact h.dis j k b D g1 n g2
 ·rcases i with⟨m,n,O⟩|⟨m,n⟩
  ·exact⟨by omega,by omega⟩
  ·have:=h.sub j b m n;exact⟨this.1,by omega⟩
 ·rw[Q1,gD] at r;by_cases e:j<us.length
  ·rw[k6,gA (by omega),<-k6,k6 (l:=us++[u]),gA e,<-k6];refine XC (zr0 f _ (g10.kid j e) λb i hs=>(h.blk b hs).2 j e i) λb i=> .inr ⟨e,i⟩
  ·have:j=us.length:=(by omega);subst this;rw[k6,gW (by omega),I,GB,k6 (l:=us++[u]),gW (gr _),GB];show TmO g _ cr u;refine XC (zr0 f _ (Wg0 J q) λb i hs=>by have:=hold b hs;omega) λb i=> .inl ⟨rfl,i⟩
theorem YF0 {lo:Nat} {kv:Value} {css:List (List Value)} {t:M.Tm} {Ds:Nat->Nat->Prop} (h:Grow lo w kv css t.ks Ds):TmO w (λb=>lo<=b/\b<w.heap.size) [.int .i64 t.op,.int .i64 t.a,.int .i64 t.b,.string t.s,kv] t:=
 .mk css Ds h.own h.len (λb c=>⟨⟨(h.blk b c).1,(h.own.lt c).2⟩,(h.blk b c).2⟩) h.dis (λi b d c=>h.sub i b d c) h.kid
theorem retO {b:Nat} {cs cs':List Value} {t:TypeId} {t':M.Tm} {K:Value->World->Prop} (h:Blk w b cs t) (i:cs.length=5) (d:TmO w G cs' t') (c:∀x,G x->x≠b) (g:∀w',Same (· =b) w w'->w'.heap.size=w.heap.size->TmO w' G cs' t'->K (.agg ⟨cs'⟩) w'):
  zn P za (.pointer (some ⟨b,0,none⟩)) (.agg ⟨cs'⟩) w λ_ w1=>vlv P za (.pointer (some ⟨b,0,none⟩)) w1 λr w2=>K r w2:=
 ZB h i (Z30 _ d) c λw' hw j _=>g w' hw j (zr0 hw _ d λf a e=>c f a e)
theorem V9 {us:List M.Tm} {i:Nat} (h:i<us.length):us.take i++[us.getD i default]=us.take (i+1):=(M.take_add h default).symm
theorem copyTerm_spec:∀(t:M.Tm) {w:World} {K:Value->World->Prop} {F:Nat->Prop} {v:Value},TermR F w v t->JT0 t=true->(∀w' cs,Ext w w'->TmO w' (λb=>w.heap.size<=b/\b<w'.heap.size) cs t->K (.agg ⟨cs⟩) w')->vcall P ke #[v] w K:=by
 refine M.Tm.ind λt ih w K F v ht J hK=>?_;obtain⟨f1,f2⟩:=fitB_iff.1 J;apply ji0;obtain⟨kv,rfl,a2⟩:=ht;refine zx λb1 w1 af E ai h1=>?_;refine zD zH λb2 w2 ag G aj h2=>?_;have al:=E.size;have q2:=h1.ext G;have z:=E.trans G;have a1:TmsR (λx=>x<w.heap.size) w2 kv t.ks:=(a2.weaken λb _ h'=>h').ext z;simp(disch:=(simp only[push_cast])) only[push_cast,q2.ld4];refine q2.st (i:=4) rfl rfl qd rfl λS p am W=>?_;replace W:Blk S b1 [.int .i64 t.op,.int .i64 t.a,.int .i64 t.b,.string t.s,.slice none 0 0] za:=W;have A:Ext w S:=Ext.then z p λy q=>by subst q;omega
 have L:=a1.same p λb D _ e=>by omega
 have r4:=h2.same p (by omega);simp(disch:=(simp only[push_cast])) only[push_cast,L.len];refine vloop_up t.ks.length (λi u w'=>u=[.int .i64 i]/\Same (λb=>b=b1) S w'/\∃g css Ds,Blk w' b1 [.int .i64 t.op,.int .i64 t.a,.int .i64 t.b,.string t.s,g] za/\Grow S.heap.size w' g css (t.ks.take i) Ds)
  ⟨rfl,Same.refl _ _,_,[],_,W,XW0 _ _⟩ ?_
 rintro i _ _ w5 C hi ⟨rfl,c,g,css,Ds,h5,g5⟩ hC;have an:=c.size;have ac:=A.size;have X:Ext w w5:=Ext.then A c λy q=>by subst q;omega
 have N:=L.same c λb D _ e=>by omega
 simp only[push_cast];refine zh (λa=>?_) (λa=>?_)
 ·simp(disch:=first|(simp only[push_cast])|omega) only[push_cast,N.iaddr];refine N.load zp (by omega) λx hx=>?_;obtain⟨cx,rfl,n⟩:=hx.cells;refine zD zH λb6 w6 ah H ak h6=>?_;refine stTerm h6 rfl (n.ext H) λw7 a5 ap h7=>?_;have U:Ext w5 w7:=Ext.then H a5 λy q=>by subst q;omega
  refine zr λw8 I _=>?_;have d:=U.trans I;have q8:=h5.ext d;have v8:=h7.ext I;simp(disch:=(simp only[push_cast])) only[push_cast,q8.ld4,v8.ldAgg (t:=za) (by rw[yq n];exact zp),true_and];have j:t.ks.getD i default∈t.ks:=M.getD_mem (by omega) _;have ad:=d.size;refine ih _ j (n.ext d).term (f2 _ j) λw9 cr o hr=>?_;have q9:=q8.ext o;simp(disch:=(simp only[push_cast])) only[push_cast,q9.ld4,true_and,and_self];have Z:=Z30 _ hr;refine xQ xd xn zH rfl (yq Z) (by decide) λae aq a9 f aa V=>?_;have R:=q9.ext f;simp(disch:=(simp only[push_cast])) only[push_cast,R.ld4,true_and,and_self];refine grow_push g5 d o (by omega) hr f V (by rw[gi];omega) λQ ar T g11 k a6 a7=>?_;have a8:=R.same k (λe=>by have:=(g5.blk _ e).1;omega)
  try simp only[push_cast,true_and]
  refine a8.st (i:=4) a6 a7 qd rfl λr l ab m=>?_;replace m:Blk r b1 [.int .i64 t.op,.int .i64 t.a,.int .i64 t.b,.string t.s,Q] za:=m;rw[inc64' (by omega)];have B:Same (λb=>b=b1\/g.ownBlock=some b) w5 r:=(Same.of_ext (d.trans (o.trans f))).trans ((k.mono λ_ _ h=> .inr h).trans (l.mono λ_ _ h=> .inl h));have Y:Same (λb=>b=b1) S r:=⟨B.os.trans c.os,B.tape.trans c.tape,B.output.trans c.output,Ga c.size B.size,λb D O=>(B.block b (by omega) (λe=>e.elim O λe=>by have:=(g5.blk b e).1;omega)).trans (c.block b D O)⟩;rw[V9 (by omega)] at g11;exact hC (by omega) _ _ ⟨rfl,Y,Q,_,T,m,qJ0 g11 l λb D e=>by omega⟩
 ·have a0:i=t.ks.length:=(by omega);subst a0;rw[gC] at g5;rw[h5.ldAgg (t:=za) zp];refine retO (r4.same c (by omega)) rfl (YF0 g5) (λx hx=>by omega) λw6 a4 ao a3=>?_;exact hK _ _ (Ext.then X a4 λy q=>by subst q;omega) (XC a3 λb D=>⟨by omega,by omega⟩)
@[push_cast] theorem bd_T4 (o a b:Int) (s:ByteArray):zE P za [(0,.int .i64 o),(1,.int .i64 a),(2,.int .i64 b),(3,.string s)] w K=K (.agg ⟨[.int .i64 o,.int .i64 a,.int .i64 b,.string s,.slice none 0 0]⟩) w:=yo Zr (us:=[[.int .i64 o],[.int .i64 a],[.int .i64 b],[.string s]]) rfl rfl
theorem l3Copy_spec:∀(t:M.Tm) {w:World} {K:Value->World->Prop} {F:Nat->Prop} {v:Value},TermR F w v t->JT0 t=true->(∀w' cs,Ext w w'->TmO w' (λb=>w.heap.size<=b/\b<w'.heap.size) cs t->K (.agg ⟨cs⟩) w')->vcall P kA #[v] w K:=by
 refine M.Tm.ind λt ih w K F v ht D hK=>?_;obtain⟨f1,f2⟩:=fitB_iff.1 D;apply ZK0;obtain⟨kv,rfl,G⟩:=ht;refine zx λb1 w1 aa z ae h1=>?_;refine zD zH λb2 w2 ab A af h2=>?_;have ai:=z.size;have S:=h1.ext A;simp(disch:=(simp only[push_cast])) only[push_cast,S.ld0,S.ld1,S.ld2,S.ld3];refine zD zH λb3 w3 ac B ag h3=>?_;refine stTerm h3 rfl (UP t.op t.a t.b t.s:TmR (λ_=>False) w3 _ _) λQ J aj h4=>?_;have q:Ext w1 Q:=Ext.then (A.trans B) J λy L=>by subst L;omega
 have n:=z.trans q;have q4:=h1.ext q;have r4:=(h2.ext B).same J (by omega);have Z:TmsR (λx=>x<w.heap.size) Q kv t.ks:=(G.weaken λb _ h'=>h').ext n;have ah:=G.small;refine vloop_up t.ks.length (λi u w'=>u=[.int .i64 i]/\Same (λb=>b=b3) Q w'/\∃g css Ds,Blk w' b3 [.int .i64 t.op,.int .i64 t.a,.int .i64 t.b,.string t.s,g] za/\Grow Q.heap.size w' g css (t.ks.take i) Ds)
  ⟨rfl,Same.refl _ _,_,[],_,h4,XW0 _ _⟩ ?_
 rintro i _ _ w5 C hi ⟨rfl,c,g,css,Ds,h5,g5⟩ hC;have ak:=c.size;have a8:=n.size;have V:Ext w w5:=Ext.then n c λy L=>by subst L;omega
 have E:=Z.same c λb R _ e=>by omega
 have q5:=q4.same c (by omega);simp(disch:=(simp only[push_cast])) only[push_cast,q5.ld4,E.len];refine zh (λa=>?_) (λa=>?_)
 ·refine zr λw8 d _=>?_;have q8:=q5.ext d;have p8:=h5.ext d;obtain⟨cks,I,ad,hc⟩:=E.ext d;simp(disch:=first|(simp only[push_cast])|omega) only[push_cast,q8.ld4,p8.ld4,I.iaddr,I.ldAgg,true_and];have j:t.ks.getD i default∈t.ks:=M.getD_mem (by omega) _;have am:=d.size;refine ih _ j (hc i (by omega)).term (f2 _ j) λw9 cr o hr=>?_;have p9:=p8.ext o;simp(disch:=(simp only[push_cast])) only[push_cast,p9.ld4,true_and,and_self];have X:=Z30 _ hr;refine xQ xd xn zH rfl (yq X) (by decide) λa9 an a5 f a6 U=>?_;have O:=p9.ext f;simp(disch:=(simp only[push_cast])) only[push_cast,O.ld4,true_and,and_self];refine grow_push g5 d o (by omega) hr f U (by rw[gi];omega) λN ao T g11 k a2 a3=>?_;have a4:=O.same k (λe=>by have:=(g5.blk _ e).1;omega)
  try simp only[push_cast,true_and]
  refine a4.st (i:=4) a2 a3 qd rfl λp l a7 m=>?_;replace m:Blk p b3 [.int .i64 t.op,.int .i64 t.a,.int .i64 t.b,.string t.s,N] za:=m;rw[inc64' (by omega)];have r:Same (λb=>b=b3\/g.ownBlock=some b) w5 p:=(Same.of_ext (d.trans (o.trans f))).trans ((k.mono λ_ _ h=> .inr h).trans (l.mono λ_ _ h=> .inl h));have W:Same (λb=>b=b3) Q p:=⟨r.os.trans c.os,r.tape.trans c.tape,r.output.trans c.output,Ga c.size r.size,λb R H=>(r.block b (by omega) (λe=>e.elim H λe=>by have:=(g5.blk b e).1;omega)).trans (c.block b R H)⟩;rw[V9 (by omega)] at g11;exact hC (by omega) _ _ ⟨rfl,W,N,_,T,m,qJ0 g11 l λb R e=>by omega⟩
 ·have Y:i=t.ks.length:=(by omega);subst Y;rw[gC] at g5;rw[h5.ldAgg (t:=za) zp];refine retO (r4.same c (by omega)) rfl (YF0 g5) (λx hx=>by omega) λw6 a1 al a0=>?_;exact hK _ _ (Ext.then V a1 λy L=>by subst L;omega) (XC a0 λb R=>⟨by omega,by omega⟩)
theorem fit_size:∀t:M.Tm,M.sizeM t<=1000->JT0 t=true:=by
 refine M.Tm.ind λt d h=>?_;have c:∀i,i<t.ks.length->M.sizeM (M.kid t i)+1<=M.sizeM t:=λi a=>(M.kid_size a).1;have e:t.ks.length<=M.sizeM t:=by
  have:=M.szT_all t;have mono:∀i,i<=t.ks.length->i<=M.szT t.ks i:=λi=>by
   induction i with
   |zero=>intro _;exact Gg _
   |succ i ihi=>
    intro a;have:=ihi (by omega);have:=M.szT_succ (ks:=t.ks) (i:=i) (by omega);have:=(M.size_pos (t:=t.ks.getD i default)).1;omega
  have:=mono t.ks.length (gr _);omega
 refine fitB_iff.2 ⟨by omega,λk b=>?_⟩;obtain⟨i,a,rfl⟩:=gq b;have:=c i a;unfold M.kid at this;rw[k6,K3 a] at this;exact d _ b (by simp only[Gw] at this;omega)
def yU0 (ds:List M.Dcl) (t:M.Tm):M.Tm:=if M.tsort ds t= -1 then .mk 0 0 0 M.nada [] else M.foldT ds t
theorem zeroO:TmO w D yH0 (.mk 0 0 0 M.nada []):=
 TmO.mk (t:= .mk 0 0 0 M.nada []) [] (λ_ _=>False) (Own.nil _ _ _ _ _) rfl (λb h=>(by cases h)) (λi j b _ c=>absurd c (by show¬j<0;omega)) (λi b a=>absurd a (by show¬i<0;omega)) (λi a=>absurd a (by show¬i<0;omega))
theorem small_of {ds:List M.Dcl} {t:M.Tm} (h:M.tsort ds t≠ -1):M.declOk ds=true/\M.sortM ds t≠ -1/\M.sizeM t<=20:=by
 rcases dtSize (ds:=ds) (t:=t) with e|⟨c,d,f,a,b⟩
 ·exact absurd e h
 ·exact⟨b,by omega,(M.fits_iff.1 a).1⟩
theorem Kh0 {a:Option Addr} {l c mb:Nat}:zE P zG [(0,.slice a l c),(1,.map (some mb))] w K=K (ZZ (.slice a l c) mb) w:=yo Yf0 (us:=[[.slice a l c],[.map (some mb)]]) rfl rfl
theorem TermFold_spec {dv tv:Value} {ds:List M.Dcl} {t:M.Tm} (s:DclsR F w dv ds) (C:TermR G w tv t) (m:∀w' cs,Ext w w'->TmO w' (λb=>w.heap.size<=b/\b<w'.heap.size) cs (yU0 ds t)->K (.agg ⟨cs⟩) w'):vcall P XP #[dv,tv] w K:=by
 apply jq0;obtain⟨ct,rfl,r⟩:=C.cells;have u:aggB P za ct.length=true:=by rw[yq r];exact zp
 refine zx λb1 w1 W n Y U=>?_;refine zD zH λb2 w2 X o Z V=>?_;have R:=U.ext o;have g:=n.trans o;have a1:=n.size;rw[R.ldAgg (t:=za) u];refine TermSort_spec (s.ext g) (C.ext g) λw3 d=>?_;have k:=g.trans d;have T:=V.ext d;have a2:=d.size;simp only[push_cast];unfold yU0 at m;refine zh (λa=>?_) (λa=>?_)
 ·rw[if_pos a] at m
  try simp only[push_cast]
  refine retO (G:=λ_=>False) T rfl zeroO (λx N=>N.elim) λw4 D I v=>?_;exact m _ _ (Ext.then k D λy H=>by subst H;omega) (XC v λb J=>J.elim)
 ·rw[if_neg a] at m;obtain⟨q,hs,a0⟩:=small_of a;refine zr λw4 e _=>?_;have S:=R.ext (d.trans e);simp only[push_cast,S.ldAgg (t:=za) u,true_and];refine kK0 λw5 mb f hm=>?_;have q5:=S.ext f;have c:=k.trans (e.trans f);obtain⟨da,dc,rfl,_⟩:=s.shape;rw[X0] at*;simp only[push_cast,q5.ldAgg (t:=za) u,true_and,and_self,Kh0];refine fold_spec t (G:=λx=>x<w.heap.size) (s.ext c) hm q ((C.weaken λb _ h=>h).ext c) hs λw6 rv i B=>?_;have l:=c.trans i;have j:=M.fold_good q t hs;have L:=j.size;refine copyTerm_spec _ B (fit_size _ (by omega)) λw7 cs p z=>?_;have a3:=c.size;have a4:=l.size;have r7:=T.ext (e.trans (f.trans (i.trans p)));have I:=e.size;have O:=f.size;have Q:=i.size;refine retO r7 rfl z (λx N=>by omega) λw8 E a5 A=>?_;exact m _ _ (Ext.then (l.trans p) E λy H=>by subst H;omega) (XC A λb J=>⟨by omega,by omega⟩)
end
end Go.Proofs.YtokflbdfnbppjaaGreatDoor
namespace Go.M
open Go.Vc
section
section
variable {t:Tm}
def W10 (t v:Tm):Prop:=v.ks.length≠2\/kid v 0≠kid t 1\/kid v 1≠kid t 0\/v.op≠t.op
instance (t v:Tm):Decidable (W10 t v):=by unfold W10;infer_instance
end
end
end Go.M
namespace Go.Proofs.YtokflbdfnbppjaaGreatDoor
open Go Go.Vc Go.Proofs
theorem Yl0 {ds:List M.Dcl} {t:M.Tm} (a:M.declOk ds=true) (b:M.fits t=true):M.tsort ds t=M.sortM ds t:=by unfold M.tsort;rw[if_pos ⟨b,a⟩]
theorem Vq0 {ds:List M.Dcl} {t:M.Tm} (a:M.declOk ds=true) (b:M.fits t=true) (hs:M.sortM ds t≠ -1):yU0 ds t=M.foldT ds t:=by
 unfold yU0;rw[if_neg (by rw[Yl0 a b];exact hs)]
end Go.Proofs.YtokflbdfnbppjaaGreatDoor
section
namespace Go.M
variable {ds:List Dcl} {env:List Int}
def msbN:List Bool->Nat
 |b::bs=>(if b then 2^bs.length else 0)+msbN bs
 |[]=>0
theorem Zd0 (b:Bool) (bs:List Bool):msbN (b::bs)=(if b then 2^bs.length else 0)+msbN bs:=rfl
theorem msb_lt:∀bs:List Bool,msbN bs<2^bs.length
 |[]=>by decide
 |b::bs=>by
  have:=msb_lt bs;rw[Zd0,gu,Nat.pow_succ];split<;>omega
theorem msb_app:∀aa bs:List Bool,msbN (aa++bs)=msbN aa*2^bs.length+msbN bs
 |[],bs=>by simp[msbN]
 |a::aa,bs=>by
  rw[Gv,Zd0,Zd0,msb_app aa bs,Q1,Nat.pow_add,G3];cases a
  ·simp
  ·simp only[if_true];omega
def envB:List Dcl->List Bool->List Int
 |d::ds,ins=>(msbN (ins.take d.2.toNat):Int)::envB ds (ins.drop d.2.toNat)
 |[],_=>[]
theorem envB_len:∀(ds:List Dcl) (ins:List Bool),(envB ds ins).length=ds.length
 |[],_=>rfl
 |d::ds,ins=>by simp[envB,envB_len ds]
def exK:List Bool->Int->List Int
 |b::bs,k=>(if b then-k else k)::exK bs (k+1)
 |[],_=>[]
def exC (ds:List Dcl) (env:List Int):List Int:=exK (insM ds env) 2
theorem exK_len:∀(bs:List Bool) (k:Int),(exK bs k).length=bs.length
 |[],_=>rfl
 |b::bs,k=>by simp[exK,exK_len bs]
theorem exK_get:∀{bs:List Bool} {k:Int} {i:Nat},i<bs.length->(exK bs k).getD i 0=if bs.getD i false then-(k+i) else k+i
 |[],_,_,h=>by simp at h
 |b::bs,k,0,_=>by simp[exK]
 |b::bs,k,i+1,h=>by
  have:=exK_get (bs:=bs) (k:=k+1) (i:=i) (by simpa using h);unfold exK;rw[GA,GA,this];split<;>omega
theorem exC_ok {m:Nat} (hm:1+(insM ds env).length<=m):qp m (exC ds env)=true:=by
 refine clause_iff.2 λk a=>?_;unfold exC at a⊢;rw[exK_len] at a;have e:=exK_get (k:=2) a;refine⟨?_,?_⟩
 ·rw[e];unfold yR0;simp only[V0,decide_eq_true_eq];split<;>omega
 ·cases k with
  |zero=>exact .inl rfl
  |succ k=>
   refine .inr ?_;rw[e,GN,exK_get (k:=2) (show k<_ by omega)];split<;>split<;>omega
def jobC (ds:List Dcl) (gs:Gs) (rs:List (List Int)) (nots:List (List Int)):Cnf:=netC (nIn ds) gs (rootsC rs++nots.map (exC ds))
def searchM (n:Nat) (ds:List Dcl) (c:Cnf):List Int×Int:=
 let s:=runM c.many.toNat c n emptyS
 if s.code=1 then(envB ds (insV (wayM s.put) (nIn ds)),1) else if s.code=2 then([],2) else([],3)
def solveM (n:Nat) (ds:List Dcl) (ts:List Tm) (nots:List (List Int)):List Int×Int:=match listB ds (ts.map (foldT ds)) with
 |none=>([],3)
 |some (gs,rs)=>searchM n ds (jobC ds gs rs nots)
section
variable {ts:List Tm} {gs:Gs} {rs nots:List (List Int)}
theorem job_ok (b:declOk ds=true) (h:ListSays ds ts gs rs) (d:∀e,e∈nots->envOk ds e=true) (c:ts.length+nots.length<=90):cnfOk (jobC ds gs rs nots)=true:=by
 refine net_ok (nIn_eq b).2 h.net (by unfold rootsC;rw[Q1,X0,X0,h.many];exact c) λcl a=>?_;rcases gk.1 a with a|a
 ·exact roots_ok b h cl a
 ·obtain⟨e,he,rfl⟩:=gm.1 a;exact exC_ok (by rw[insM_n (d e he)];omega)
end
end Go.M
end
namespace Go.Proofs.YtokflbdfnbppjaaGreatDoor
open Go Go.Vc Go.Proofs
section
variable {ds:List M.Dcl} {t:M.Tm} {ts:List M.Tm} {nots:List (List Int)}
theorem kN0 (b:M.declOk ds=true) (h:M.tsort ds t=0):M.tsort ds (M.foldT ds t)=0/\yU0 ds t=M.foldT ds t:=by
 obtain⟨a,d,f⟩:=Yo0 h;have c:=M.fold_good b t (by rw[a];decide);obtain⟨f1,f2⟩:=M.fits_iff.1 d;have e:M.fits (M.foldT ds t)=true:=M.fits_iff.2 ⟨Ga c.size f1,Ga c.deep f2⟩;exact⟨by rw[Yl0 b e,c.sort,a],Vq0 b d (by rw[a];decide)⟩
theorem jA0 (h:XA0 ds ts=true):XA0 ds (ts.map (M.foldT ds))=true:=by
 obtain⟨b,a,c⟩:=all8_iff.1 h;refine all8_iff.2 ⟨by rw[X0];exact b,a,λu hu=>?_⟩;obtain⟨t,d,rfl⟩:=gm.1 hu;exact(kN0 a (c t d)).1
def Ku (ds:List M.Dcl) (ts:List M.Tm) (nots:List (List Int)):List Int×Int:=if XA0 ds ts=true then M.solveM 4000 ds ts nots else([],4)
def Xt0 (c:M.Cnf) (ds:List M.Dcl) (nots:List (List Int)):M.Cnf:=⟨c.many,c.list++nots.map (M.exC ds)⟩
theorem K40 {gs:M.Gs} {rs:List (List Int)}:Xt0 (M.blastC ds gs rs) ds nots=M.jobC ds gs rs nots:=by
 show M.Cnf.mk _ _=M.Cnf.mk _ _;congr 1;show([1]::(M.gatesC _ gs 0++M.rootsC rs))++_=[1]::(M.gatesC _ gs 0++(M.rootsC rs++_));simp
theorem Qb0 (h: ¬XA0 ds ts=true):Ku ds ts nots=([],4):=by unfold Ku;rw[if_neg h]
theorem Xd0 (h:XA0 ds ts=true) (a:(cnfE ds (ts.map (M.foldT ds))).2≠0):Ku ds ts nots=([],3):=by
 unfold Ku M.solveM;rw[if_pos h];unfold cnfE at a;rw[if_pos (jA0 h)] at a;cases b:M.listB ds (ts.map (M.foldT ds)) with
 |none=>rfl
 |some r=>rw[b] at a;exact absurd rfl a
theorem K80 (h:XA0 ds ts=true):(cnfE ds ts).2=0\/(cnfE ds ts).2=1:=by
 unfold cnfE;rw[if_pos h];cases M.listB ds ts with
 |none=>exact .inr rfl
 |some r=>exact .inl rfl
theorem solveR_run (h:XA0 ds ts=true) (b:(cnfE ds (ts.map (M.foldT ds))).2=0) (f:∀e,e∈nots->M.envOk ds e=true) (j:nots.length<=80):
  Ku ds ts nots=M.searchM 4000 ds (Xt0 (cnfE ds (ts.map (M.foldT ds))).1 ds nots)/\M.cnfOk (Xt0 (cnfE ds (ts.map (M.foldT ds))).1 ds nots)=true/\1+M.nIn ds<=(cnfE ds (ts.map (M.foldT ds))).1.many.toNat:=by
 have c:=jA0 h;unfold Ku M.solveM;rw[if_pos h];unfold cnfE at b⊢;rw[if_pos c] at b⊢;cases d:M.listB ds (ts.map (M.foldT ds)) with
 |none=>rw[d] at b;exact absurd b (by simp)
 |some r=>
  obtain⟨i,a2,a3⟩:=all8_iff.1 c;have a:=M.list_says a2 (λt g=>by rw[(Yo0 (a3 t g)).1];decide) d;have e:=K40 (ds:=ds) (nots:=nots) (gs:=r.1) (rs:=r.2);refine⟨by show _=M.searchM 4000 ds (Xt0 (M.blastC ds r.1 r.2) ds nots);rw[e],by show M.cnfOk (Xt0 (M.blastC ds r.1 r.2) ds nots)=true;rw[e];exact M.job_ok a2 a f (by omega),?_⟩;show 1+M.nIn ds<=(M.netC _ r.1 (M.rootsC r.2)).many.toNat;unfold M.netC;simp only;omega
end
section
variable {w:World} {K:Value->World->Prop} {F F' D G:Nat->Prop}
theorem l8Some_spec {b p:Nat} {v dv:Value} {xs:List Nat} {ds:List M.Dcl} {sort:Int} (h:RdR F w b v xs p) (hF:∀x,F x->x<w.heap.size) (hd:DclsR D w dv ds) (hD:∀x,D x->x≠b) (hD1:∀x,D x->x<w.heap.size) (m:Dok ds) (B:0<=sort) (E:sort<=4)
  (hp:p+200000<1099511627776) (U:QF0 K F w b p 200000 v xs):vcall P Xv #[.pointer (some ⟨b,0,none⟩),dv,.int .i64 sort] w K:=by
 apply ZJ0;refine Dw.begin h hF hd hD hD1 λw1 h1=>?_;have H:j50 4=25600:=rfl;refine vloop_up 3 (λi u w'=> ∃X,u=[.int .i64 (3-(i:Int))]/\Dw F D w b w.heap.size v dv xs ds w' X/\X<=p+25600*i) ⟨p,rfl,h1,by omega⟩ ?_;rintro i _ _ w2 C hi ⟨p2,rfl,f,a1⟩ hC;have hold:=f.old;have V:=f.new;simp only[push_cast];refine zh (λa=>?_) (λa=>?_)
 ·refine f.sub (c:=j50 4) (λZ J=>l2Term_spec 4 (by omega) f.rd (λx n=>gI (hF x n) f.same.size) f.dcl hD (λx n=>gI (hD1 x n) f.same.size) m B E (by omega) (by omega) (by omega) J) λR Y tv t G N L O l=>?_;obtain⟨cs,rfl,d⟩:=O.cells;have r:=d.weaken (F':=λx=>Nw w.heap.size x/\x<R.heap.size) λx n hl=>⟨n,hl⟩;refine zD zH λb2 w4 a0 s W h4=>?_;refine stTerm h4 rfl (r.ext s) λw5 Q _ S=>?_;have z:Ext R w5:=Ext.then s Q λy hy=>by subst hy;omega
  have I:aggB P za cs.length=true:=by rw[yq d];exact zp
  rw[S.ldAgg (t:=za) I];refine spec_TermMany_spec t (d.ext z).term λw6 A=>?_;have g:=z.trans A;have o:=G.ext g;have T:=S.ext A;simp only[push_cast];rw[T.ldAgg (t:=za) I];refine spec_TermSort_spec (dok_sized m) o.dcl (d.ext g).term λw7 k=>?_;have q:=o.ext k;have h7:=T.ext k;have j:C [.int .i64 (IntKind.i64.wrap (3-(i:Int)-1))] w7:=by
   rw[zJ (by omega) (by omega),show 3-(i:Int)-1=3-((i+1:Nat):Int) by omega];exact hC (by omega) _ _ ⟨Y,rfl,q,by omega⟩
  simp only[push_cast];refine zh (λc=>?_) (λc=>?_)
  ·refine zh (λe=>?_) (λe=>?_)
   ·rw[h7.ldAgg (t:=za) I];exact q.fin (p0:=p) (by omega) ((d.ext g).ext k) l U
   ·exact j
  ·exact j
 ·refine f.sub (c:=100) (λZ J=>l2Leafy_spec f.rd (λx n=>gI (hF x n) f.same.size) f.dcl hD m B E (by omega) J) λR Y tv t G N L O l=>?_;obtain⟨cs,rfl,d⟩:=O.cells;exact G.fin (p0:=p) (by omega) d l U
theorem one_tms {ks:List M.Tm} {css:List (List Value)} (l:css.length=ks.length) (h:∀i,i<ks.length->TmR G w (css.getD i []) (ks.getD i default)):∀y,y∈css->∀c,c∈y->c.oneCell'=true:=λy j c a=>by
 obtain⟨i,g,rfl⟩:=gq j;have f:=h i (by omega);rw[k6,K3 g] at f;obtain⟨k,he,b⟩:=f.inv;obtain⟨e,d,_⟩:=b;rw[show css[i]=(some css[i]).getD [] from rfl,he] at a;simp only[gd,gw,or_false] at a;rcases a with rfl|rfl|rfl|rfl|rfl
 ·rfl
 ·rfl
 ·rfl
 ·rfl
 ·exact d.one
theorem same_news {b:Nat} {w1 w2:World} (h:Same (· =b) w w1) (a:Same (λx=>w.heap.size<=x) w1 w2):Same (· =b) w w2:=
 ⟨a.os.trans h.os,a.tape.trans h.tape,a.output.trans h.output,Ga h.size a.size,λy d c=>by
  rw[a.block y (gI d h.size) (λe=>by omega)];exact h.block y d c⟩
end
end Go.Proofs.YtokflbdfnbppjaaGreatDoor
namespace Go.Proofs.YtokflbdfnbppjaaGreatDoor
open Go Go.Vc Go.Proofs Go.M
section
variable {w:World} {K:Value->World->Prop} {F Fr:Nat->Prop}
def Sep (Fr:Nat->Prop) (os:List (Option Nat)):Prop:=os.Pairwise (λa b=>∀x,a=some x->b≠some x)/\∀o,o∈os->∀x,o=some x->¬Fr x
structure TrailR (Fr:Nat->Prop) (w:World) (bt many:Nat) (put:List Int) (ds:List Bool) (vp vpl vl:Value):Prop where
 blk:Blk w bt [vp,vpl,vl] zI
 rp:OwnI P zt w vp put
 rpl:OwnI P zt w vpl (jT many put)
 rl:OwnI P zt w vl (kL ds)
 sep:Sep Fr [some bt,vp.ownBlock,vpl.ownBlock,vl.ownBlock]
 len:ds.length=put.length
 dis:ja put
 bnd:∀x,x∈put->x≠0/\x.natAbs<=many
 few:many<=700
def Jg (bt:Nat) (vp vpl vl:Value) (b:Nat):Prop:=b=bt\/vp.ownBlock=some b\/vpl.ownBlock=some b\/vl.ownBlock=some b
section
variable {bt many:Nat} {put:List Int} {ds:List Bool} {vp vpl vl:Value}
theorem TrailR.same {S:Nat->Prop} {w':World} (h:TrailR Fr w bt many put ds vp vpl vl) (hw:Same S w w') (hs:∀b,Jg bt vp vpl vl b->¬S b):TrailR Fr w' bt many put ds vp vpl vl:=
 ⟨h.blk.same hw (hs _ (.inl rfl)),h.rp.same hw λb a=>hs _ (.inr (.inl a)),h.rpl.same hw λb a=>hs _ (.inr (.inr (.inl a))),h.rl.same hw λb a=>hs _ (.inr (.inr (.inr a))),h.sep,h.len,h.dis,h.bnd,h.few⟩
theorem TrailR.ext {w':World} (h:TrailR Fr w bt many put ds vp vpl vl) (hw:Ext w w'):TrailR Fr w' bt many put ds vp vpl vl:=h.same hw λ_ _ h=>h
theorem nodup_le {m:Nat} {xs:List Nat} (b:xs.Nodup) (a:∀x,x∈xs->1<=x/\x<=m):xs.length<=m:=by
 have:=b.length_le_of_subset (l₂:=(List.range' 1 m)) λx c=>by rw[PU];have:=a x c;omega
 simpa using this
theorem TrailR.few' (h:TrailR Fr w bt many put ds vp vpl vl):put.length<=many:=by
 have:=nodup_le (m:=many) h.dis λx a=>by
  obtain⟨y,b,rfl⟩:=gm.1 a;have:=h.bnd y b;omega
 simpa using this
theorem newTrail_spec (hm:many<=700) (i:∀b,Fr b->b<w.heap.size) (p:∀bt vp vpl vl w',Ext w w'->TrailR Fr w' bt many [] [] vp vpl vl->(∀b,Jg bt vp vpl vl b->w.heap.size<=b)->K (.pointer (some ⟨bt,0,none⟩)) w'):
  vcall P XK #[.int .i64 many] w K:=by
 apply jf0;simp(disch:=omega) only[push_cast,zJ];rw[show((many:Int)+1)=((many+1:Nat):Int) from by omega];refine vmkS_own (bs:=8) xB0 ZE0 X7 rfl (by omega) (by omega) λv1 w1 g c f=>?_;refine yJ0 X20 (us:=[[v1]]) (by simp[g.vals.cells1]) rfl ?_;refine jK λb w2 q d _ n=>?_;have m:OwnI P zt w2 v1 (jT many []):=by rw[Qj0];unfold OwnI;rw[pk];exact g.ext d
 refine p b (.slice none 0 0) v1 (.slice none 0 0) w2 (c.trans d) ⟨n,OwnI.nil,m,OwnI.nil,⟨?_,?_⟩,rfl,pg,(λx a=>by cases a),hm⟩ ?_
 ·have j:∀x,v1.ownBlock=some x->x<b:=λx a=>by have:=g.lt a;omega
  simp[Value.ownBlock];intro e;have:=j b e;omega
 ·have k:=c.size;intro o l x a hF;have:=i x hF;simp only[gd,gw,or_false] at l;rcases l with rfl|rfl|rfl|rfl
  ·cases a;omega
  ·cases a
  ·have:=f x a;omega
  ·cases a
 ·have k:=c.size;rintro x (rfl|h|h|h)
  ·omega
  ·cases h
  ·exact f x h
  ·cases h
theorem assigned_spec {l:Int} (h:TrailR Fr w bt many put ds vp vpl vl) (e:l.natAbs<=many) (d:∀w',Ext w w'->K (.bool (decide (placeOf put l.natAbs≠0))) w'):
  vcall P qt #[.pointer (some ⟨bt,0,none⟩),.int .i64 l] w K:=by
 apply Vy;have g:=h.few;refine zr λw1 a _=>?_;have c:=h.ext a;have b:=c.rpl.ints;have f:=Jk many put;simp(disch:=(simp only[push_cast])) only[push_cast,c.blk.ld1,true_and];refine variable_spec (by omega) (by omega) ?_;simp(disch:=first|(simp only[push_cast])|omega) only[push_cast,c.blk.ld1,true_and,b.iaddr,b.load,and_self,places_get e];have:=d w1 a;simpa using this
theorem isTrue_spec {l:Int} (h:TrailR Fr w bt many put ds vp vpl vl) (j:l.natAbs<=many) (g:∀w',Ext w w'->K (.bool (decide (l∈put))) w'):
  vcall P Zb #[.pointer (some ⟨bt,0,none⟩),.int .i64 l] w K:=by
 apply UV;have o:=h.few;refine zr λw1 b _=>?_;refine assigned_spec (h.ext b) j λw2 c=>zh (λa=>?_) (λa=>?_)
 ·have d:=h.ext (b.trans c);have k:=d.rp.ints;have f:=d.rpl.ints;have m:=Jk many put;have hle:=placeOf_le put l.natAbs;have i:=h.few';simp(disch:=first|(simp only[push_cast])|omega) only[push_cast,d.blk.ld0,d.blk.ld1,true_and];refine variable_spec (by omega) (by omega) ?_;simp(disch:=first|(simp only[push_cast])|omega) only[push_cast,d.blk.ld0,d.blk.ld1,true_and,and_self,f.iaddr,f.load,places_get j,zJ];obtain⟨q,n⟩:∃q,placeOf put l.natAbs=q+1:=⟨placeOf put l.natAbs-1,by omega⟩;rw[n,show(((q+1:Nat):Int)-1)=(q:Int) from by omega];simp(disch:=first|(simp only[push_cast])|omega) only[push_cast,true_and,k.iaddr,k.load];rw[show q=placeOf put l.natAbs-1 from by omega];have:=g w2 (b.trans c);have e:l∈put↔put.getD (placeOf put l.natAbs-1) 0=l:=(mem_iff_place h.dis).trans ⟨λh=>h.2,λh=>⟨a,h⟩⟩;rwa[decide_eq_decide.2 e] at this
 ·have:=g w2 (b.trans c);rwa[decide_eq_false (λhm=>a (qr hm))] at this
theorem place_spec {l:Int} (h:TrailR Fr w bt many put ds vp vpl vl) (f:l.natAbs<=many) (e:∀w',Ext w w'->K (.int .i64 ((placeOf put l.natAbs:Int)-1)) w'):
  vcall P qz #[.pointer (some ⟨bt,0,none⟩),.int .i64 l] w K:=by
 apply zK0;have i:=h.few;refine zr λw1 a _=>?_;have c:=h.ext a;have b:=c.rpl.ints;have g:=Jk many put;have hle:=placeOf_le put l.natAbs;have d:=h.few';simp(disch:=(simp only[push_cast])) only[push_cast,c.blk.ld1,true_and];refine variable_spec (by omega) (by omega) ?_;simp(disch:=first|(simp only[push_cast])|omega) only[push_cast,c.blk.ld1,true_and,b.iaddr,b.load,and_self,places_get f,zJ];exact e w1 a
theorem level_spec {l:Int} (h:TrailR Fr w bt many put ds vp vpl vl) (i:l.natAbs<=many) (m:placeOf put l.natAbs≠0) (g:∀w',Ext w w'->K (.int .i64 (lvl ds (placeOf put l.natAbs-1))) w'):
  vcall P qY #[.pointer (some ⟨bt,0,none⟩),.int .i64 l] w K:=by
 apply zL0;have n:=h.few;have e:=h.few';have hlen:=h.len;have hle:=placeOf_le put l.natAbs;refine zr λw1 a _=>?_;have c:=h.ext a;simp(disch:=(simp only[push_cast])) only[push_cast,c.blk.ld2,true_and];refine place_spec c i λw2 b=>?_;have d:=c.ext b;have f:=d.rl.ints;have k:=Wm ds;obtain⟨q,j⟩:∃q,placeOf put l.natAbs=q+1:=⟨placeOf put l.natAbs-1,by omega⟩;rw[j,show(((q+1:Nat):Int)-1)=(q:Int) from by omega];simp(disch:=first|(simp only[push_cast])|omega) only[push_cast,d.blk.ld2,true_and,f.iaddr,f.load,and_self];rw[yS0 (by omega),show q=placeOf put l.natAbs-1 from by omega];exact g w2 (a.trans b)
theorem look_spec {v:Value} {c:List Int} {F:Nat->Prop} (h:TrailR Fr w bt many put ds vp vpl vl) (o:Ints F w v c) (r:∀l,l∈c->l.natAbs<=many)
  (q:∀w' b n x,Ext w w'->lookM put c 0 0=(b,n,x)->K (.tuple #[.bool b,.int .i64 n,.int .i64 x]) w'):
  vcall P Yq #[.pointer (some ⟨bt,0,none⟩),v] w K:=by
 apply x70;simp(disch:=first|(simp only[push_cast])|omega) only[push_cast,o.len];have hlen:c.length<=9223372036854775807:=by obtain⟨_,_,_,s,A,_⟩:=o.shape;simp at s;omega
 refine vloop_up c.length (λi u w'=> ∃n x,u=[.int .i64 (n:Nat),.int .i64 x,.int .i64 i]/\Ext w w'/\n<=i/\lookM put (c.drop i) n x=lookM put c 0 0) ⟨0,0,rfl,Same.refl _ _,by omega,rfl⟩ ?_;rintro i _ g w1 C B ⟨n,x,rfl,he,D,e⟩ p;simp only[push_cast];refine zh (λz=>?_) (λy=>?_)
 ·have k:=o.ext he;simp(disch:=first|(simp only[push_cast])|omega) only[push_cast,k.iaddr,k.load];have t:=zG0 (d:=0) (show i<c.length by omega);have hm:c.getD i 0∈c:=qU (by omega);rw[t,kJ0] at e;refine isTrue_spec (h.ext he) (r _ hm) λw2 f=>zh (λa=>?_) (λa=>?_)
  ·rw[if_pos a] at e;exact q w2 true 0 0 (he.trans f) e.symm
  ·rw[if_neg a] at e;refine assigned_spec (h.ext (he.trans f)) (r _ hm) λE j=>?_;simp only[push_cast];refine zK (λb=>?_) (λb=>?_)
   ·have m:placeOf put (c.getD i 0).natAbs=0:=(by simpa using b);rw[if_pos m] at e;simp(disch:=omega) only[push_cast,zJ];exact p (by omega) _ _ ⟨n+1,_,by simp,he.trans (f.trans j),by omega,e⟩
   ·have m: ¬placeOf put (c.getD i 0).natAbs=0:=(by simpa using b);rw[if_neg m] at e;simp(disch:=omega) only[push_cast,zJ];exact p (by omega) _ _ ⟨n,_,by simp,he.trans (f.trans j),by omega,e⟩
 ·rw[Gk (by omega)] at e;exact q w1 false n x he e.symm
end
end
section
variable {w:World} {K:Value->World->Prop} {F Fr:Nat->Prop} {bt many:Nat} {put:List Int} {ds:List Bool} {vp vpl vl:Value}
theorem next_spec {v:Value} {vs:List Value} {lls:List (List (List Int))} (h:TrailR Fr w bt many put ds vp vpl vl) (J:Vals F w v vs) (hn:vs.length=lls.length) (Y:∀i,i<lls.length->Lists F w (vs.getD i undef) (lls.getD i []))
  (hl:∀c,c∈lls.flatten->∀l,l∈c->l.natAbs<=many) (a2:lls.flatten.length<=1000000)
  (M:∀w' k u x,Ext w w'->findM put lls.flatten 0 (-1) 0=(k,u,x)->K (.tuple #[.int .i64 k,.int .i64 u,.int .i64 x]) w'):
  vcall P Yp #[.pointer (some ⟨bt,0,none⟩),v] w K:=by
 apply x60;simp(disch:=first|(simp only[push_cast])|omega) only[push_cast,J.len];have hlen:vs.length<=9223372036854775807:=by obtain⟨_,_,_,A,R,_⟩:=J.shape;simp at A;omega
 refine vloop_up vs.length (λi u w'=> ∃(k:Nat) (b x:Int),u=[.int .i64 (-1),.int .i64 b,.int .i64 x,.int .i64 k,.int .i64 i]/\Ext w w'/\k+(lls.drop i).flatten.length=lls.flatten.length/\findM put (lls.drop i).flatten k b x=findM put lls.flatten 0 (-1) 0) ⟨0,-1,0,rfl,Same.refl _ _,by simp,rfl⟩ ?_;rintro i _ g w1 C Z ⟨k,b,x,rfl,he,O,a⟩ S;simp only[push_cast];refine zh (λa1=>?_) (λX=>?_)
 ·have z:=J.ext he;obtain⟨cs,V,q,D⟩:=Y i (by omega);have s:=q.ext he;simp(disch:=first|(simp only[push_cast])|omega) only[push_cast,z.iaddr,z.load,s.len];have G:cs.length<=9223372036854775807:=by obtain⟨_,_,_,A,R,_⟩:=q.shape;simp at A;omega
  have W:=zG0 (d:=[]) (show i<lls.length by omega);rw[W,GD] at a O;have t:∀c,c∈lls.getD i []->c∈lls.flatten:=λc U=>List.mem_flatten.2 ⟨_,by rw[k6,K3 (by omega)];exact Gm _,U⟩;generalize lls.getD i []=L at*;generalize (lls.drop (i+1)).flatten=T at*;rw[Q1] at O;refine vloop_up cs.length (λj u w'=> ∃(o:Nat) (b x:Int),u=[.int .i64 (-1),.int .i64 b,.int .i64 x,.int .i64 o,.int .i64 j]/\Ext w w'/\o=k+j/\findM put (L.drop j++T) o b x=findM put lls.flatten 0 (-1) 0) ⟨k,b,x,rfl,he,by omega,a⟩ ?_;rintro j _ g2 w2 C2 hj ⟨o,b,x,rfl,f,a0,a⟩ m;simp only[push_cast];refine zh (λQ=>?_) (λN=>?_)
  ·have p:=q.ext f;simp(disch:=first|(simp only[push_cast])|omega) only[push_cast,p.iaddr,p.load];have hm:L.getD j []∈L:=by rw[k6,K3 (by omega)];exact Gm _
   rw[zG0 (d:=[]) (show j<L.length by omega),Gv,findM_cons] at a;refine look_spec (h.ext f) ((D j (by omega)).ext f) (hl _ (t _ hm)) λw3 b' n y E r=>?_;rw[r] at a;dsimp only at a;simp(disch:=omega) only[push_cast,zJ];have e:=f.trans E;refine zK (λB=>?_) (λB=>?_)
   ·rw[if_pos B] at a;exact m (by omega) _ _ ⟨o+1,_,_,by simp<;>exact⟨rfl,rfl⟩,e,by omega,a⟩
   rw[if_neg (by simp[B])] at a;refine zh (λH=>?_) (λH=>?_)
   ·rw[if_pos (by omega)] at a;exact M w3 _ _ _ e a.symm
   rw[if_neg (by omega)] at a;refine zh (λI=>?_) (λI=>?_)
   ·rw[if_pos (by omega)] at a;refine zh (λhu=>?_) (λhu=>?_)
    ·rw[if_pos hu] at a;exact m (by omega) _ _ ⟨o+1,_,_,by simp<;>exact⟨rfl,rfl⟩,e,by omega,a⟩
    ·rw[if_neg hu] at a;exact m (by omega) _ _ ⟨o+1,_,_,by simp<;>exact⟨rfl,rfl⟩,e,by omega,a⟩
   ·rw[if_neg (by omega)] at a;exact m (by omega) _ _ ⟨o+1,_,_,by simp<;>exact⟨rfl,rfl⟩,e,by omega,a⟩
  ·rw[Gk (show L.length<=j by omega),gX] at a;simp(disch:=omega) only[push_cast,zJ];exact S (by omega) _ _ ⟨o,_,_,by simp<;>exact⟨rfl,rfl⟩,f,by omega,a⟩
 ·rw[Gk (by omega)] at a;exact M w1 _ _ _ he a.symm
theorem sep4 {a b c d:Option Nat}:Sep Fr [a,b,c,d]↔((∀x,a=some x->b≠some x)/\(∀x,a=some x->c≠some x)/\(∀x,a=some x->d≠some x)/\(∀x,b=some x->c≠some x)/\(∀x,b=some x->d≠some x)/\(∀x,c=some x->d≠some x))/\
  (∀x,a=some x->¬Fr x)/\(∀x,b=some x->¬Fr x)/\(∀x,c=some x->¬Fr x)/\(∀x,d=some x->¬Fr x):=by
 unfold Sep;simp only[Pg,gd,gw,or_false,forall_eq_or_imp,forall_eq];constructor
 ·rintro⟨⟨⟨e,a2,a3⟩,⟨b1,b2⟩,c1,-⟩,f1,f2,f3,f4⟩;exact⟨⟨e,a2,a3,b1,b2,c1⟩,f1,f2,f3,f4⟩
 ·rintro⟨⟨e,a2,a3,b1,b2,c1⟩,f1,f2,f3,f4⟩;exact⟨⟨⟨e,a2,a3⟩,⟨b1,b2⟩,c1,λ_ h=>h.elim,List.Pairwise.nil⟩,f1,f2,f3,f4⟩
theorem push_spec {l:Int} {d:Bool} (h:TrailR Fr w bt many put ds vp vpl vl) (a9:l≠0) (hl:l.natAbs<=many) (s:placeOf put l.natAbs=0) (a8:∀b,Fr b->b<w.heap.size)
  (hK:∀i k w',TrailR Fr w' bt many (put++[l]) (ds++[d]) i vpl k->Same (Jg bt vp vpl vl) w w'->(∀b,Jg bt i vpl k b->Jg bt vp vpl vl b\/w.heap.size<=b)->K (.tuple #[]) w'):
  vcall P Yo #[.pointer (some ⟨bt,0,none⟩),.int .i64 l,.bool d] w K:=by
 apply x50;have hf:=h.few;have ai:=h.few';have hlen:=h.len;have ah:=Wm ds;have hc:=List.count_le_length (l:=ds) (a:=true);refine zS (λu w'=>u=[.int .i64 (ds.count true)]/\Ext w w') ?_ ?_
 ·intro C V;have hv:=h.rl.ints;simp(disch:=first|(simp only[push_cast])|omega) only[push_cast,h.blk.ld2,hv.len];refine zh (λa=>zr λw1 n _=>?_) (λa=>V _ _ ⟨?_,Same.refl _ _⟩)
  ·have T:=h.ext n;have O:=T.rl.ints;obtain⟨q,hq⟩:∃q,ds.length=q+1:=⟨ds.length-1,by omega⟩;simp(disch:=first|(simp only[push_cast])|omega) only[push_cast,T.blk.ld2,O.len,true_and];rw[ah,hq,show(((q+1:Nat):Int)-1)=(q:Int) from by omega];simp(disch:=first|(simp only[push_cast])|omega) only[push_cast,zJ,O.iaddr,O.load,true_and];refine V _ _ ⟨?_,n⟩;rw[yS0 (by omega),JE0 (by omega)]
  ·have:ds=[]:=gE (by omega);subst this;rfl
 rintro _ g w1 ⟨rfl,n⟩;refine zS (λu w'=>u=[.int .i64 ((ds.count true+d.toNat:Nat):Int)]/\w'=w1) ?_ ?_
 ·intro C V;cases d
  ·exact V _ _ ⟨rfl,rfl⟩
  ·simp(disch:=omega) only[push_cast,zJ];exact V _ _ ⟨rfl,rfl⟩
 rintro _ g2 _ ⟨rfl,rfl⟩;have T:=h.ext n;have aj:=n.size;simp(disch:=first|(simp only[push_cast])|omega) only[push_cast,T.blk.ld0];obtain⟨⟨s1,s2,s3,s4,s5,s6⟩,f1,f2,f3,f4⟩:=sep4.1 h.sep;refine yK Je YC X7 rfl rfl λb1 w2 aq L av a2=>?_;have h2:=T.ext L;refine h2.rp.app1 xB0 a2 (by omega) (by omega) λi w3 B y ad=>?_;have a3:Blk w3 bt [vp,vpl,vl] zI:=h2.blk.same y λe=>s1 bt rfl e;refine a3.st B.ints.cells1 B.ints.one zm0 rfl λQ D aw a4=>?_;have F:Blk Q bt [i,vpl,vl] zI:=a4;simp(disch:=first|(simp only[push_cast])|omega) only[push_cast,F.ld2];have ak:=L.size;have al:=y.size;have m:∀x,i.ownBlock=some x->vp.ownBlock=some x\/w.heap.size<=x:=λx c=>(ad x c).imp id λh=>by omega
 have l1:=h.blk.lt;have j:∀x,Jg bt vp vpl vl x->x<w.heap.size:=by
  rintro x (rfl|e|e|e)
  ·exact l1
  ·exact h.rp.lt e
  ·exact h.rpl.lt e
  ·exact h.rl.lt e
 have aa:OwnI P zt Q vl (kL ds):=(h2.rl.same y λx c e=>s5 x e c).same D λx c e=>s3 x (by rw[e]) c;have Y:OwnI P zt Q vpl (jT many put):=(h2.rpl.same y λx c e=>s4 x e c).same D λx c e=>s2 x (by rw[e]) c;have af:OwnI P zt Q i (put++[l]):=B.same D λx c e=>by
  rcases m x c with f|f
  ·exact s1 x (by rw[e]) f
  ·have:=j bt (.inl rfl);omega
 refine yK Je YC X7 rfl rfl λb2 w5 ar o ax a5=>?_;refine(aa.ext o).app1 xB0 a5 (by omega) (by omega) λk w6 M z ae=>?_;have a6:Blk w6 bt [i,vpl,vl] zI:=(F.ext o).same z λe=>s3 bt rfl e;refine a6.st M.ints.cells1 M.ints.one zm0 rfl λR A ay a7=>?_;have U:Blk R bt [i,vpl,k] zI:=a7;have am:=o.size;have an:=z.size;have t:∀x,k.ownBlock=some x->vl.ownBlock=some x\/w3.heap.size<=x:=λx c=>(ae x c).imp id λh=>by omega
 have H:∀x,k.ownBlock=some x->vl.ownBlock=some x\/w.heap.size<=x:=λx c=>(t x c).imp id λh=>by omega
 have ag:OwnI P zt R i (put++[l]):=((af.ext o).same z λx c e=>by
  rcases m x c with f|f
  ·exact s5 x f e
  ·have:=j x (.inr (.inr (.inr e)));omega).same A λx c e=>by
  rcases m x c with f|f
  ·exact s1 x (by rw[e]) f
  ·have:=j bt (.inl rfl);omega
 have Z:OwnI P zt R vpl (jT many put):=((Y.ext o).same z λx c e=>s6 x c e).same A λx c e=>s2 x (by rw[e]) c;have ab:OwnI P zt R k (kL (ds++[d])):=by
  rw[levels_snoc];refine M.same A λx c e=>?_;rcases t x c with f|f
  ·exact s3 x (by rw[e]) f
  ·have:=j bt (.inl rfl);omega
 refine zr λw8 p _=>?_;have r:=U.ext p;have W:=ag.ext p;have J:=Z.ext p;have ac:=ab.ext p;have X:=W.ints;have a1:=J.ints;have au:=Jk many put;simp(disch:=first|(simp only[push_cast])|omega) only[push_cast,r.ld0,r.ld1,X.len,true_and];refine variable_spec (by omega) (by omega) ?_;simp(disch:=first|(simp only[push_cast])|omega) only[push_cast,r.ld0,r.ld1,X.len,a1.iaddr,true_and,and_self];refine J.st YC (by omega) λw9 a0 E az=>?_;have N:OwnI P zt w9 vpl (jT many (put++[l])):=by
  rw[qw0 s];simpa using a0
 have I:∀x,i.ownBlock=some x->vpl.ownBlock≠some x:=λx c e=>by
  rcases m x c with f|f
  ·exact s4 x f e
  ·have:=j x (.inr (.inr (.inl e)));omega
 have v:∀x,vpl.ownBlock=some x->k.ownBlock≠some x:=λx c e=>by
  rcases t x e with f|f
  ·exact s6 x c f
  ·have:=j x (.inr (.inr (.inl c)));omega
 have ao:=A.size;have ap:=p.size;have G:∀x,w.heap.size<=x->¬Fr x:=λx c hF=>by have:=a8 x hF;omega
 refine hK i k w9 ⟨r.same E λe=>s2 bt rfl e,W.same E I,N,ac.same E λx c e=>v x e c,?_,by simp[hlen],distinct_snoc h.dis s,?_,h.few⟩ ?_ ?_
 ·rw[sep4];refine⟨⟨?_,s2,?_,I,?_,v⟩,f1,?_,f3,?_⟩
  ·rintro x e S;cases e;rcases m _ S with f|f
   ·exact s1 _ rfl f
   ·have:=j _ (.inl rfl);omega
  ·rintro x e S;cases e;rcases t _ S with f|f
   ·exact s3 _ rfl f
   ·have:=j _ (.inl rfl);omega
  ·intro x e S;have c:=B.lt e;rcases t x S with e3|e3
   ·rcases m x e with f|f
    ·exact s5 x f e3
    ·have:=j x (.inr (.inr (.inr e3)));omega
   ·omega
  ·intro x e;rcases m x e with f|f
   ·exact f2 x f
   ·exact G x f
  ·intro x e;rcases H x e with f|f
   ·exact f4 x f
   ·exact G x f
 ·intro x c;rw[gk,gn] at c;rcases c with c|rfl
  ·exact h.bnd x c
  ·exact⟨a9,hl⟩
 ·have S0:Same (Jg bt vp vpl vl) w w2:=Same.of_ext (n.trans L);have S3:Same (Jg bt vp vpl vl) w2 w3:=y.mono λx _ e=> .inr (.inl e);have S4:Same (Jg bt vp vpl vl) w3 Q:=D.mono λx _ e=> .inl e;have S5:Same (Jg bt vp vpl vl) Q w5:=Same.of_ext o;have S6:Same (Jg bt vp vpl vl) w5 w6:=z.mono λx _ e=> .inr (.inr (.inr e));have S7:Same (Jg bt vp vpl vl) w6 R:=A.mono λx _ e=> .inl e;have S8:Same (Jg bt vp vpl vl) R w8:=Same.of_ext p;have S9:Same (Jg bt vp vpl vl) w8 w9:=E.mono λx _ e=> .inr (.inr (.inl e));exact S0.trans (S3.trans (S4.trans (S5.trans (S6.trans (S7.trans (S8.trans S9))))))
 ·rintro x (e|e|e|e)
  ·exact .inl (.inl e)
  ·exact(m x e).imp (λe=> .inr (.inl e)) id
  ·exact .inl (.inr (.inr (.inl e)))
  ·exact(H x e).imp (λe=> .inr (.inr (.inr e))) id
end
theorem qr0 {α:Type} {xs:List α} {d:α} {i:Nat} (h:i<xs.length):xs.take (i+1)=xs.take i++[xs.getD i d]:=by
 rw[G7];simp[k6,h]
end Go.Proofs.YtokflbdfnbppjaaGreatDoor
namespace Go.Proofs.YtokflbdfnbppjaaGreatDoor
open Go Go.Vc Go.Proofs
section
variable {w:World} {K:Value->World->Prop}
theorem unit_mem {put cl:List Int} {x:Int} (h:M.unitC put cl x):x∈cl/\M.placeOf put x.natAbs=0:=by
 have:x∈cl.filter λl=>decide (M.placeOf put l.natAbs=0):=by rw[h.2];exact gn.2 rfl
 rw[G8,decide_eq_true_eq] at this;exact this
theorem push_int {pv:Value} {xs:List Int} {x:Int} (h:OwnI P zt w pv xs) (n:xs.length<=100000) (i:∀w' c,Same (λb=>pv.ownBlock=some b) w w'->OwnI P zt w' c (xs++[x])->(∀b,c.ownBlock=some b->pv.ownBlock=some b\/w.heap.size<=b)->K c w'):
  vbuildS P zt 1 [(0,.int .i64 x)] w λs w1=>vbi P .append [zt,zt] zt [pv,s] w1 K:=by
 refine xQ Je YC X7 rfl rfl (by decide) λb3 o k a l d=>?_;refine OwnI.app1 (h.ext a) xB0 d (by omega) (by omega) λv4 m f g e=>?_;refine i m v4 ((Same.of_ext a).trans g) f λb j=>?_;rcases e b j with h|h
 ·exact .inl h
 ·exact .inr (by have:=a.size;omega)
end
end Go.Proofs.YtokflbdfnbppjaaGreatDoor
namespace Go.Vc
open Go
section
variable {P:Program} {t:TypeId} {w:World} {v:Value} {vs:List Value} {F:Nat->Prop}
theorem Vals.part (h:Vals F w v vs) (j:vs≠[]) (p:elB P t 1=true) {n:Nat} (r:n<=vs.length):∃v1,(∀(kd:IntKind) (w':World) (K:Value->World->Prop),yQ P t v none (some (.int kd n)) none w' K=K v1 w')/\Vals F w v1 (vs.take n):=by
 obtain⟨hu,hs⟩:=zF0 p;obtain⟨a,c,rfl,l,g,d⟩:=h.shape;obtain⟨b,o,rfl,hF,k,f⟩:=d (by simpa using j);rw[X0] at l f;refine⟨.slice (some ⟨b,o,none⟩) n c,λkd w' K=>yU ?_,⟨some ⟨b,o,none⟩,c,?_,?_,g,λ_=>⟨b,o,rfl,hF,k,λi m=>?_⟩⟩,λx q=>by obtain⟨u,_,rfl⟩:=gm.1 q;rfl⟩
 ·rw[run_sliceAt_slice w' t _ _ _ _ hu,run_slice_h w' t _ _ _ hu kd n (by omega) (by omega),run_sizeOf hs];simp[Result.andThen,sliced];exact λ_=>rfl
 ·simp;omega
 ·simp;omega
 ·simp only[X0,gi] at m;have:=f i (by omega);have e:(List.map (λx=>[x]) (vs.take n)).getD i []=(List.map (λx=>[x]) vs).getD i []:=by
   simp[k6,pN,show i<n by omega]
  rw[e];exact this
theorem Vals.rest (h:Vals F w v vs) (j:vs≠[]) (s:elB P t 1=true) {n:Nat} (z:n<=vs.length):∃v1,(∀(kd:IntKind) (w':World) (K:Value->World->Prop),yQ P t v (some (.int kd n)) none none w' K=K v1 w')/\Vals F w v1 (vs.drop n):=by
 obtain⟨hu,hs⟩:=zF0 s;obtain⟨a,c,rfl,m,p,d⟩:=h.shape;obtain⟨b,o,rfl,hF,l,f⟩:=d (by simpa using j);rw[X0] at m f;refine⟨sliced (some ⟨b,o,none⟩) n vs.length c 1,λkd w' K=>yU ?_,?_⟩
 ·rw[run_sliceAt_slice w' t _ _ _ _ hu,run_slice_l w' t _ _ _ hu kd n (by omega) (by simp;omega),run_sizeOf hs];simp[Result.andThen]
 ·refine⟨⟨_,c-n,rfl|>λ(_:True=True)=>by simp[sliced];rfl,by simp;omega,by omega,λg=>?_⟩,λx y=>by obtain⟨u,_,rfl⟩:=gm.1 y;rfl⟩;have r:n<vs.length:=by
   refine Nat.lt_of_not_le λk=>g ?_;rw[P4 k];rfl
  rw[if_neg (by omega)];refine⟨b,o+n,by simp[xR],hF,l,λi q=>?_⟩;simp only[X0,G1] at q;have:=f (n+i) (by omega);have e:(List.map (λx=>[x]) (vs.drop n)).getD i []=(List.map (λx=>[x]) vs).getD (n+i) []:=by
   simp[k6,pO]
  rw[e,show o+n+i*1=o+(n+i)*1 by omega];exact this
end
end Go.Vc
namespace Go.Proofs.YtokflbdfnbppjaaGreatDoor
open Go Go.Vc Go.Proofs
section
variable {w:World} {K:Value->World->Prop} {D F F' G:Nat->Prop} {dv iv:Value} {ds:List M.Dcl} {ins:List Bool}
def Yg0 (ds:List M.Dcl) (i:Nat):Nat:=M.nIn (ds.take i)
theorem off_succ (a:M.declOk ds=true) {i:Nat} (c:i<ds.length):Yg0 ds (i+1)=Yg0 ds i+(ds.getD i (M.nada,0)).2.toNat:=by
 have g:=M.bits_le a c;have hw:=M.dcl_wide a c;unfold Yg0 M.nIn;have e:M.bits (ds.take (i+1))=M.bits (ds.take i)+(ds.getD i (M.nada,0)).2:=by
  rw[M.take_add c (M.nada,0)];unfold M.bits;rw[gx,Pz];simp
 have f:0<=M.bits (ds.take i):=M.bits_pos' λd b=>M.dpos a d (gZ b);rw[e];omega
theorem Wr0:Yg0 ds ds.length=M.nIn ds:=by unfold Yg0;rw[gC]
theorem off_le (hd : M.declOk ds = true) {i : Nat} (hi : i <= ds.length) : Yg0 ds i <= M.nIn ds := by
  induction h : ds.length - i generalizing i with
  | zero => have : i = ds.length := by omega
            subst this; exact Nat.le_of_eq Wr0
  | succ n ih =>
    have h2 := off_succ hd (show i < ds.length by omega)
    have := ih (i := i + 1) (by omega) (by omega)
    omega
theorem envB_take:∀{ds:List M.Dcl} {ins:List Bool} {i:Nat},(∀d,d∈ds->0<=d.2)->i<ds.length->(M.envB ds ins).getD i 0=(M.msbN ((ins.drop (Yg0 ds i)).take (ds.getD i (M.nada,0)).2.toNat):Int)
 |[],_,_,_,h=>by simp at h
 |d::ds,ins,0,_,_=>by
  have:Yg0 (d::ds) 0=0:=rfl;rw[this];simp[M.envB]
 |d::ds,ins,i+1,c,h=>by
  have f:=c d gg;have a:∀x,x∈ds->0<=x.2:=λx b=>c x (gj _ b);have g:0<=M.bits (ds.take i):=M.bits_pos' λx b=>a x (gZ b);have e:Yg0 (d::ds) (i+1)=d.2.toNat+Yg0 ds i:=by
   unfold Yg0 M.nIn;rw[List.take_succ_cons,M.bits_cons'];omega
  unfold M.envB;rw[GA,envB_take a (by simpa using h),e,GA,<-z0a]
theorem msb_snoc (bs:List Bool) (b:Bool):(M.msbN (bs++[b]):Int)=2*M.msbN bs+M.b2i b:=by
 rw[M.msb_app];cases b<;>simp[M.msbN,M.b2i]<;>omega
theorem BlastEnv_spec (Q:DclsR F w dv ds) (hi:Bools F' w iv ins) (d:M.declOk ds=true) (hl:ins.length=M.nIn ds)
  (hK:∀w' r,Ext w w'->OwnI P zt w' r (M.envB ds ins)->(∀b,r.ownBlock=some b->w.heap.size<=b)->K r w'):vcall P XQ #[dv,iv] w K:=by
 apply ju0;obtain⟨ag,ah⟩:=M.nIn_eq d;have Z:Bools (λx=>x<w.heap.size) w iv ins:=Sl.weaken hi λx _ h=>h;refine zS (λu w'=>u=[]/\Ext w w') (λC S=>?_) ?_
 ·refine DeclOk_spec Q λw1 f=>?_;rw[d];simp(disch:=(simp only[push_cast])) only[push_cast,Pd,(hi.ext f).len];refine bitsOf_spec (Q.ext f) d λw2 W=>?_;simp only[push_cast];refine zh (λh=>absurd (by omega) h) (λ_=>S _ _ ⟨rfl,f.trans W⟩)
 rintro _ _ w1 ⟨rfl,f⟩;simp(disch:=(simp only[push_cast])) only[push_cast,(Q.ext f).len];have h4:=(M.decl_iff.1 d).1;have V:=M.dpos d;have Y:=M.envB_len ds ins;refine vloop_up ds.length (λi u w'=> ∃v r,u=[v,r,.int .i64 i]/\Ext w w'/\Bools (λx=>x<w.heap.size) w' v (ins.drop (Yg0 ds i))/\OwnI P zt w' r ((M.envB ds ins).take i)/\∀b,r.ownBlock=some b->w.heap.size<=b) ⟨iv,_,rfl,f,by simpa[Yg0,M.nIn,M.bits] using Z.ext f,OwnI.nil,λb hb=>by cases hb⟩ ?_;rintro i _ _ w2 C ae ⟨v,r,rfl,E,a6,t,s⟩ S;simp only[push_cast];refine zh (λa=>?_) (λa=>?_)
 ·have p:i<ds.length:=(by omega);have I:=Q.ext E;have aa:=M.dcl_wide d p;have z:=off_succ d p;have ab:=off_le d (i:=i+1) (by omega);have o:(ins.drop (Yg0 ds i)).length=M.nIn ds-Yg0 ds i:=(by rw[G1,hl]);simp(disch:=first|(simp only[push_cast])|omega) only[push_cast,I.iaddr,I.load];refine zD jR λb3 w3 ad X aj R=>?_;refine stDecl R λw4 a5 ak G=>?_;have k:Ext w2 w4:=Ext.then X a5 λy hy=>by subst hy;omega
  have e4:=E.trans k;have O:=a6.ext k;have het:=envB_take (ins:=ins) V p;obtain⟨wd,l⟩:∃wd:Nat,(ds.getD i (M.nada,0)).2=wd:=⟨_,(Int.toNat_of_nonneg (by omega)).symm⟩;rw[l] at aa z het;rw[gl] at z het;simp(disch:=first|(simp only[push_cast])|omega) only[push_cast,G.ld1,l];have J:(ins.drop (Yg0 ds i)).map (λx=>Value.bool x)≠[]:=λh=>by
   have:=congrArg List.length h;rw[X0,o] at this;simp at this;omega
  obtain⟨v5,H,a7⟩:=Vals.part O J Xu0 (n:=wd) (by rw[X0,o];omega);rw[H];have g:Bools (λx=>x<w.heap.size) w4 v5 ((ins.drop (Yg0 ds i)).take wd):=by unfold Bools;rw[Gp];exact a7
  generalize U:(ins.drop (Yg0 ds i)).take wd=bs at g het;have m:bs.length=wd:=by rw[<-U,gi,o];omega
  simp(disch:=(simp only[push_cast])) only[push_cast,g.len,m];refine vloop_up wd (λj u w'=>u=[.int .i64 (M.msbN (bs.take j)),.int .i64 j]/\w'=w4) ⟨rfl,rfl⟩ ?_;rintro j _ _ _ C1 hj ⟨rfl,rfl⟩ T;simp only[push_cast];have af:=M.msb_lt (bs.take j);have ai:2^(bs.take j).length<=2^4:=gO (by omega) (by rw[gi];omega);refine zh (λc=>?_) (λc=>?_)
  ·have a1:j<wd:=(by omega);simp(disch:=first|(simp only[push_cast])|omega) only[push_cast,g.iaddr,gl,g.load,zJ];refine UF ?_;have ac:0<=M.b2i (bs.getD j false)/\M.b2i (bs.getD j false)<=1:=by unfold M.b2i;split<;>omega
   have N:=msb_snoc (bs.take j) (bs.getD j false);rw[<-M.take_add (by omega:j<bs.length) false] at N;simp only[push_cast];rw[<-N,zJ (by omega) (by omega)];exact T a1 _ _ ⟨rfl,rfl⟩
  ·have a2:j=wd:=(by omega);subst a2;rw[<-m,gC];have a4:=t.ext k;refine push_int a4 (by rw[gi];omega) λw6 r6 B L a3=>?_;have lr:∀x,r.ownBlock=some x->x<w2.heap.size:=λx D=>(t.lt D);have q6:=G.same B λe=>by have:=lr _ e;omega
   have a8:=O.same B λx D _ e=>by have:=s x e;omega
   have z24:=k.size;have z2:=E.size;rw[<-het,<-M.take_add (by omega) 0] at L;obtain⟨v7,A,a9⟩:=Vals.rest a8 J Xu0 (n:=bs.length) (by rw[X0,o];omega);simp(disch:=first|(simp only[push_cast])|omega) only[push_cast,q6.ld1,l,m.symm,A];rw[inc64' (by omega)];refine S p _ _ ⟨v7,r6,rfl,Ext.then (E.trans k) B λx D=>s x D,?_,?_,λx D=>?_⟩
   ·rw[z,<-m];have q:=a9;rw[<-pR,z0a] at q;exact q
   ·exact L
   ·rcases a3 x D with e|e
    ·exact s x e
    ·omega
 ·have a0:i=ds.length:=(by omega);subst a0;rw[<-Y,gC] at t;exact hK w2 r E t s
end
end Go.Proofs.YtokflbdfnbppjaaGreatDoor
section
namespace Go.Proofs.YtokflbdfnbppjaaGreatDoor
open Go Go.Vc Go.Proofs
section
open Go.RowKit Go.Extern.Stop Go.Stop Go.Extern
theorem Wy0 (a b : Addr) (w : World) (hne : a ≠ b) {ca cb : Array Value} {ta tb : TypeId} (ha : w.heap[a.block]? = some (.cells ca ta (0, 0))) (hb : w.heap[b.block]? = some (.cells cb tb (0, 0))) :
    Calls Tryz.prog 83 #[.iface 345 (.pointer (some a)), .iface 345 (.pointer (some b))] w λe w' => e = .returned (.bool false) /\ w' = w := by
  obtain ⟨i, hi, hcmp⟩ := pP.1 JO0
  obtain ⟨j, hj, hjs⟩ := pP.1 JM0
  have h8 := @run_callFunc_extern Tryz.prog 106 _ Extern.ReflectliteType.typeOf Tryz.func106 (by kernel_rfl) (by kernel_rfl) (by kernel_rfl) (by kernel_rfl)
  have h32 : ∀ w : World, (callFunc 330 #[.agg #[.pointer (some ⟨11, 345, none⟩)]]).run Tryz.prog w = .ok (Next.value (.bool true)) w := zA0
  have tT := YB0
  have mR := YC0
  have heq := run_eql_iface_ptr_other (P := Tryz.prog) w Tryz.underlying121 Tryz.underlying345 hi hcmp hj (by rw [hjs]; decide) hne ha hb
  have n1 := noIsE
  have n2 := Ju0
  have n3 := Qk0
  go_enter Tryz.func83, Tryz.ntmps83
  go_wp2
  refine wp_loop_rounds 1 ?_
  rw [rounds_succ]
  go_wp2
  go_ret
  exact ⟨rfl, rfl⟩
end
variable {w:World} {K:Value->World->Prop}
theorem Vk0 {a b:Addr} (c:a≠b) {ca cb:Array Value} {ta tb:TypeId} (f:w.heap[a.block]?=some (.cells ca ta (0,0))) (g:w.heap[b.block]?=some (.cells cb tb (0,0))) (d:K (.bool false) w):vcall P qk #[erv a,erv b] w K:=
 ⟨by kernel_rfl,(Wy0 a b w c f g).mono λe w' h=>by obtain⟨rfl,rfl⟩:=h;exact d⟩
end Go.Proofs.YtokflbdfnbppjaaGreatDoor
end
namespace Go.Proofs.YtokflbdfnbppjaaGreatDoor
open Go Go.Vc Go.Proofs Go.M
section
variable {w:World} {K:Value->World->Prop} {F Fr:Nat->Prop} {many bs:Nat} {c:Cnf} {s:Sat} {N:Nat}
structure SV where
 (vc:Value) (bt:Nat) (vp vpl vl vw vr:Value) (ls:List Value)
def SV.tf (σ:SV):Nat->Prop:=Jg σ.bt σ.vp σ.vpl σ.vl
def SV.f3 (σ:SV) (bs b:Nat):Prop:=b=bs\/σ.vw.ownBlock=some b\/σ.vr.ownBlock=some b
def SV.foot (σ:SV) (bs b:Nat):Prop:=σ.tf b\/σ.f3 bs b
structure SR (N:Nat) (Fr:Nat->Prop) (w:World) (bs many:Nat) (c:Cnf) (s:Sat) (σ:SV):Prop where
 blk:Blk w bs [.int .i64 many,σ.vc,.pointer (some ⟨σ.bt,0,none⟩),σ.vw,σ.vr,.int .i64 s.code] zB
 cm:c.many=many
 cl:Lists Fr w σ.vc c.list
 tr:TrailR Fr w σ.bt many s.put (qV s.why) σ.vp σ.vpl σ.vl
 rw:OwnI P zt w σ.vw s.why
 rl:OwnV P yc w σ.vr σ.ls
 lsl:σ.ls.length=s.learned.length
 ll:RowsR N Fr w σ.ls s.learned
 s1:∀x,σ.vw.ownBlock=some x->x≠bs
 s2:∀x,σ.vr.ownBlock=some x->x≠bs
 s3:∀x,σ.vw.ownBlock=some x->σ.vr.ownBlock≠some x
 st:∀x,σ.f3 bs x->¬σ.tf x
 sf:∀x,σ.f3 bs x->¬Fr x
section
variable {σ:SV} {w':World} {S:Nat->Prop}
theorem SR.notF (h:SR N Fr w bs many c s σ) {x:Nat} (a:σ.foot bs x): ¬Fr x:=by
 obtain⟨_,f1,f2,f3,f4⟩:=sep4.1 h.tr.sep;rcases a with(rfl|e|e|e)|e
 ·exact f1 _ rfl
 ·exact f2 _ e
 ·exact f3 _ e
 ·exact f4 _ e
 ·exact h.sf _ e
theorem SR.lt (h:SR N Fr w bs many c s σ) {x:Nat} (a:σ.foot bs x):x<w.heap.size:=by
 rcases a with(rfl|e|e|e)|rfl|e|e
 ·exact h.tr.blk.lt
 ·exact h.tr.rp.lt e
 ·exact h.tr.rpl.lt e
 ·exact h.tr.rl.lt e
 ·exact h.blk.lt
 ·exact h.rw.lt e
 ·exact h.rl.lt e
theorem SR.same (h:SR N Fr w bs many c s σ) (hw:Same S w w') (hs:∀x,σ.foot bs x->¬S x) (hF:∀x,Fr x->x<w.heap.size->¬S x):SR N Fr w' bs many c s σ:=
 ⟨h.blk.same hw (hs _ (.inr (.inl rfl))),h.cm,h.cl.same hw hF,h.tr.same hw λb a=>hs _ (.inl a),h.rw.same hw λb a=>hs _ (.inr (.inr (.inl a))),h.rl.same hw λb a=>hs _ (.inr (.inr (.inr a))),h.lsl,h.ll.same hw hF,h.s1,h.s2,h.s3,h.st,h.sf⟩
theorem SR.ext (h:SR N Fr w bs many c s σ) (hw:Ext w w'):SR N Fr w' bs many c s σ:=h.same hw (λ_ _ h=>h) λ_ _ _ h=>h
theorem SR.lists (h:SR N Fr w bs many c s σ):Vals (λb=>σ.vr.ownBlock=some b) w σ.vr σ.ls:=h.rl.vals
theorem clause_spec {k:Nat} (h:SR N Fr w bs many c s σ) (q:k<c.list.length+s.learned.length) (p:c.list.length+s.learned.length<=1000000)
  (n:∀v w',Ext w w'->Ints Fr w' v (atM c s k)->K v w'):vcall P jg #[.pointer (some ⟨bs,0,none⟩),.int .i64 k] w K:=by
 apply WR;obtain⟨cs,m,b,l⟩:=h.cl;simp(disch:=first|(simp only[push_cast])|omega) only[push_cast,h.blk.ld1,b.len];refine zh (λa=>?_) (λa=>zr λw1 d _=>?_)
 ·simp(disch:=first|(simp only[push_cast])|omega) only[push_cast,h.blk.ld1,b.iaddr,b.load];refine n _ w (Same.refl _ _) ?_;have:=l k (by omega);rwa[atM,Jo (by omega)]
 ·have g:=h.ext d;have e:=b.ext d;obtain⟨j,rfl⟩:∃j,k=cs.length+j:=⟨k-cs.length,by omega⟩;have f:=g.lists;have o:=h.lsl;simp(disch:=first|(simp only[push_cast])|omega) only[push_cast,g.blk.ld1,g.blk.ld4,e.len,true_and];rw[show(cs.length:Int)+j-cs.length=(j:Int) from by omega];simp(disch:=first|(simp only[push_cast])|omega) only[push_cast,zJ,f.iaddr,f.load,true_and];refine n _ w1 d ?_;have:=g.ll.int (i:=j) (by omega);rwa[atM,m,Qo0]
theorem assign_spec {l y:Int} (h:SR N Fr w bs many c s σ) (J:l≠0) (hl:l.natAbs<=many) (r:placeOf s.put l.natAbs=0) (C:∀b,Fr b->b<w.heap.size)
  (X:∀W w',SR N Fr w' bs many c {s with put:=s.put++[l],why:=s.why++[y]} W->Same (σ.foot bs) w w'->(∀b,W.foot bs b->σ.foot bs b\/w.heap.size<=b)->K (.tuple #[]) w'):
  vcall P jh #[.pointer (some ⟨bs,0,none⟩),.int .i64 l,.int .i64 y] w K:=by
 apply WS;simp(disch:=first|(simp only[push_cast])|omega) only[push_cast,h.blk.ld2];refine push_spec (d:=decide (y= -1)) h.tr J hl r C λn m w1 j f D=>?_;have S:=f.size;have t:∀x,σ.f3 bs x->¬Jg σ.bt σ.vp σ.vpl σ.vl x:=λx a=>h.st x a;have B:=h.blk.same f (t bs (.inl rfl));have Q:=h.rw.same f λx a=>t x (.inr (.inl a));have M:=h.rl.same f λx a=>t x (.inr (.inr a));have R:=h.tr.few';have a0:=h.tr.few;have hlen:=h.tr.len;rw[zH0] at hlen;simp(disch:=first|(simp only[push_cast])|omega) only[push_cast,B.ld3];refine yK Je YC X7 rfl rfl λb1 w2 Y i a1 I=>?_;have T:=i.size;refine(Q.ext i).app1 xB0 I (by omega) (by omega) λo w3 z k L=>?_;have U:=k.size;have G:=(B.ext i).same k λe=>h.s1 _ e rfl;have u:∀x,o.ownBlock=some x->σ.vw.ownBlock=some x\/w1.heap.size<=x:=λx a=>(L x a).imp id λh=>by omega
 have Z:=h.lt (.inr (.inl rfl));have p:∀x,o.ownBlock=some x->x≠bs:=λx a e=>by
  rcases u x a with A|A
  ·exact h.s1 x A e
  ·omega
 refine G.st z.ints.cells1 z.ints.one zm0 rfl λV v a2 H=>?_;have O:∀x,Jg σ.bt n σ.vpl m x->x<w1.heap.size:=by
  rintro x (rfl|e|e|e)
  ·exact j.blk.lt
  ·exact j.rp.lt e
  ·exact j.rpl.lt e
  ·exact j.rl.lt e
 have E:∀x,σ.f3 bs x->¬Jg σ.bt n σ.vpl m x:=λx a g=>by
  rcases D x g with e|e
  ·exact h.st x a e
  ·have:=h.lt (.inr a);omega
 have F:Same (σ.f3 bs) w1 V:=(Same.of_ext i).trans ((k.mono λx _ e=> .inr (.inl e)).trans (v.mono λx _ e=> .inl e));have q:∀x,(SV.mk σ.vc σ.bt n σ.vpl m o σ.vr σ.ls).f3 bs x->σ.f3 bs x\/w1.heap.size<=x:=by
  rintro x (e|e|e)
  ·exact .inl (.inl e)
  ·exact(u x e).imp (λe=> .inr (.inl e)) id
  ·exact .inl (.inr (.inr e))
 refine X ⟨σ.vc,σ.bt,n,σ.vpl,m,o,σ.vr,σ.ls⟩ V ⟨H,h.cm,(h.cl.same f ?_).same F ?_,?_,z.same v p,?_,h.lsl,?_,p,h.s2,?_,?_,?_⟩ ?_ ?_
 ·exact λx hF _ g=>h.notF (.inl g) hF
 ·exact λx hF _ g=>h.notF (.inr g) hF
 ·have:=j.same F λx a e=>E x e a;rwa[<-K70] at this
 ·exact((M.ext i).same k λx a e=>h.s3 x e a).same v λx a e=>h.s2 x a e
 ·exact(h.ll.same f λx hF _ g=>h.notF (.inl g) hF).same F λx hF _ g=>h.notF (.inr g) hF
 ·intro x a e;rcases u x a with A|A
  ·exact h.s3 x A e
  ·have:=h.lt (.inr (.inr (.inr e)));omega
 ·intro x a g;rcases q x a with e|e
  ·exact E x e g
  ·have:=O x g;omega
 ·intro x a hF;rcases q x a with e|e
  ·exact h.sf x e hF
  ·have:=C x hF;omega
 ·exact(f.mono λx _ e=> .inl e).trans (F.mono λx _ e=> .inr e)
 ·rintro x (e|e)
  ·exact(D x e).imp (λe=> .inl e) id
  ·exact(q x e).imp (λe=> .inr e) λh=>by omega
theorem pop_take {α:Type} {d:α} {xs:List α} {n:Nat} (h:xs.length=n+1):xs=xs.take n++[xs.getD n d]:=by
 have:=GL n xs;rw[zG0 (d:=d) (show n<xs.length by omega),Gk (show xs.length<=n+1 by omega)] at this;exact this.symm
theorem goBack_spec {L:Int} (h:SR N Fr w bs many c s σ)
  (hK:∀f w' n,n=backN (qV s.why) L s.put.length->SR N Fr w' bs many c {s with put:=s.put.take n,why:=s.why.take n} f->Same (σ.foot bs) w w'->(∀b,f.foot bs b->σ.foot bs b)->K (.tuple #[]) w'):
  vcall P kQ #[.pointer (some ⟨bs,0,none⟩),.int .i64 L] w K:=by
 apply WQ;simp(disch:=first|(simp only[push_cast])|omega) only[push_cast,h.blk.ld2];have aq:=h.tr.few';have ai:=h.tr.few;have hlen:=h.tr.len;rw[zH0] at hlen;refine vloop_up s.put.length (λi u w'=> ∃f,SR N Fr w' bs many c {s with put:=s.put.take (s.put.length-i),why:=s.why.take (s.put.length-i)} f/\f.bt=σ.bt/\Same (σ.foot bs) w w'/\(∀b,f.foot bs b->σ.foot bs b)/\backN (qV s.why) L (s.put.length-i)=backN (qV s.why) L s.put.length) ⟨σ,?_,rfl,Same.refl _ _,λ_ h=>h,by simp⟩ ?_
 ·rw[Nat.sub_zero,gC,<-hlen,gC];exact h
 rintro i u g w1 C hi ⟨f,h1,a4,T,z,U⟩ hC;generalize hn:s.put.length-i=n at*;have W:(s.put.take n).length=n:=by simp;omega
 have ap:(s.why.take n).length=n:=by simp;omega
 have au:(qV (s.why.take n)).length=n:=by rw[zH0];exact ap
 have ah:n=backN (qV s.why) L s.put.length->K (.tuple #[]) w1:=λe=>hK f w1 n e h1 T z;rw[<-a4];refine zS (λu w'=>Ext w1 w'/\∃m,n=m+1/\L<lvl (qV s.why) m) ?_ ?_
 ·intro J hJ;refine zr λw2 t _=>?_;have G:=h1.ext t;have H:Ints _ w2 f.vp (s.put.take n):=G.tr.rp.ints;have a6:Ints _ w2 f.vl (kL (qV (s.why.take n))):=G.tr.rl.ints;have a7:=Wm (qV (s.why.take n));simp(disch:=first|(simp only[push_cast])|omega) only[push_cast,G.tr.blk.ld0,H.len,true_and];have r:n=backN (qV s.why) L s.put.length->K (.tuple #[]) w2:=λe=>hK f w2 n e G (T.trans (Same.of_ext t)) z;refine zh (λa=>?_) (λa=>?_)
  ·obtain⟨m,rfl⟩:∃m,n=m+1:=⟨n-1,by omega⟩;simp(disch:=first|(simp only[push_cast])|omega) only[push_cast,G.tr.blk.ld0,G.tr.blk.ld2,H.len,true_and];rw[W,show(((m+1:Nat):Int)-1)=(m:Int) from by omega];simp(disch:=first|(simp only[push_cast])|omega) only[push_cast,zJ,a6.iaddr,a6.load,true_and];rw[yS0 (by omega),<-YH0,lvl_take (by omega)];refine zh (λb=>hJ _ _ ⟨t,m,rfl,b⟩) (λb=>r ?_);rw[<-U,backN,if_neg b]
  ·refine r ?_;rw[<-U,show n=0 from by omega];rfl
 rintro _ g2 w2 ⟨t,m,rfl,hL⟩;have G:=h1.ext t;have H:OwnI P zt w2 f.vp (s.put.take (m+1)):=G.tr.rp;have a8:=H.ints;simp(disch:=first|(simp only[push_cast])|omega) only[push_cast,G.tr.blk.ld0,a8.len];rw[W,show(((m+1:Nat):Int)-1)=(m:Int) from by omega];simp(disch:=omega) only[push_cast,zJ];refine zr λZ a5 _=>?_;have j:=G.ext a5;have a9:OwnI P zt Z f.vp (s.put.take (m+1)):=j.tr.rp;have R:OwnI P zt Z f.vpl (jT many (s.put.take (m+1))):=j.tr.rpl;have aj:OwnI P zt Z f.vl (kL (qV (s.why.take (m+1)))):=j.tr.rl;have an:OwnI P zt Z f.vw (s.why.take (m+1)):=j.rw;have Q:=a9.ints;have X:=R.ints;have av:=Jk many (s.put.take (m+1));have hm:(s.put.take (m+1)).getD m 0∈s.put.take (m+1):=qU (by omega);have ar:=j.tr.bnd _ hm;simp(disch:=first|(simp only[push_cast])|omega) only[push_cast,j.tr.blk.ld0,j.tr.blk.ld1,Q.iaddr,Q.load,true_and];refine variable_spec (by omega) (by omega) ?_;simp(disch:=first|(simp only[push_cast])|omega) only[push_cast,j.tr.blk.ld1,X.iaddr,true_and,and_self];refine R.st YC (by omega) λw4 aa p aw=>?_;have l:=pop_take (d:=0) W;rw[GC,gJ (by omega:m<=m+1)] at l;generalize hx:(s.put.take (m+1)).getD m 0=x at*;have Y:OwnI P zt w4 f.vpl (jT many (s.put.take m)):=by
  have hd:ja (s.put.take m++[x]):=by rw[<-l];exact j.tr.dis
  rw[<-Za0 (many:=many) hd,<-l];simpa using aa
 obtain⟨⟨t1,t2,t3,t4,t5,t6⟩,f1,f2,f3,f4⟩:=sep4.1 j.tr.sep;have k1:∀y,f.f3 bs y->f.vpl.ownBlock≠some y:=λy k e=>j.st y k (.inr (.inr (.inl e)));have ad:Blk w4 f.bt [f.vp,f.vpl,f.vl] zI:=j.tr.blk.same p λe=>t2 _ rfl e;have a2:Blk w4 bs [.int .i64 many,f.vc,.pointer (some ⟨f.bt,0,none⟩),f.vw,f.vr,.int .i64 s.code] zB:=j.blk.same p λe=>k1 _ (.inl rfl) e;have al:=a9.same p λy k e=>t4 y k e;have ak:=aj.same p λy k e=>t6 y e k;have ao:=an.same p λy k e=>k1 y (.inr (.inl k)) e;have am:=j.rl.same p λy k e=>k1 y (.inr (.inr k)) e;refine zr λw5 o _=>?_;have S:=ad.ext o;have M:=a2.ext o;have I:=al.ext o;have E:=ak.ext o;have A:=ao.ext o;have a7:=Wm (qV (s.why.take (m+1)));simp(disch:=first|(simp only[push_cast])|omega) only[push_cast,S.ld0,S.ld2,M.ld3,I.cut,E.cut,A.cut,true_and];refine S.st (I.taken (n:=m) (by omega)).ints.cells1 (I.taken (n:=m) (by omega)).ints.one zm0 rfl λw6 ab ax ae=>?_
 try simp(disch:=first|(simp only[push_cast])|omega) only[push_cast,E.cut,A.cut,true_and,and_self]
 refine ae.st (E.taken (n:=m) (by omega)).ints.cells1 (E.taken (n:=m) (by omega)).ints.one zm0 rfl λw7 ac ay af=>?_
 try simp(disch:=first|(simp only[push_cast])|omega) only[push_cast,A.cut,true_and,and_self]
 have V:bs≠f.bt:=λe=>j.st bs (.inl rfl) (.inl e);have a3:=(M.same ab V).same ac V;refine a3.st (A.taken (n:=m) (by omega)).ints.cells1 (A.taken (n:=m) (by omega)).ints.one zm0 rfl λw8 F az ag=>?_;have q:Same (· =f.bt) w5 w7:=ab.trans ac;have mv:∀{xs:List Int} {v:Value},OwnI P zt w5 v xs->(∀y,v.ownBlock=some y->y≠f.bt/\y≠bs)->OwnI P zt w8 v xs:=λhv k=>(hv.same q λy e=>(k y e).1).same F λy e=>(k y e).2;have nbt:∀y,f.tf y->y≠bs:=λy k e=>j.st bs (.inl rfl) (e▸k);have hP:=I.taken (n:=m) (by omega);have a0:=E.taken (n:=m) (by rw[a7];omega);have hW:=A.taken (n:=m) (by omega);rw[GC,gJ (by omega:m<=m+1)] at hP hW;rw[levels_take,YH0,GC,gJ (by omega:m<=m+1)] at a0;have a1:Same (σ.foot bs) Z w8:=(p.mono λy _ e=>z _ (.inl (.inr (.inr (.inl e))))).trans ((Same.of_ext o).trans ((q.mono λy _ e=>z _ (.inl (.inl e))).trans (F.mono λy _ e=>z _ (.inr (.inl e)))));have D:Same (f.foot bs) Z w8:=(p.mono λy _ e=>(.inl (.inr (.inr (.inl e))))).trans ((Same.of_ext o).trans ((q.mono λy _ e=>(.inl (.inl e))).trans (F.mono λy _ e=>(.inr (.inl e)))));have O:s.put.length-(i+1)=m:=by omega
 refine hC (by omega) _ _ ⟨⟨f.vc,f.bt,cutV f.vp m,f.vpl,cutV f.vl m,cutV f.vw m,f.vr,f.ls⟩,?_,a4,?_,?_,?_⟩
 ·rw[O];refine⟨ag,j.cm,j.cl.same D λy k _ ht=>j.notF ht k,?_,?_,?_,j.lsl,j.ll.same D λy k _ ht=>j.notF ht k,?_,j.s2,?_,?_,?_⟩
  ·refine⟨(show Blk w7 f.bt [cutV f.vp m,f.vpl,cutV f.vl m] zI from af).same F λe=>V e.symm,mv hP λy e=>?_,mv (Y.ext o) λy e=>?_,mv a0 λy e=>?_,?_,?_,?_,?_,ai⟩
   ·rw[qF] at e;exact⟨λB=>t1 _ rfl (B▸e),nbt y (.inr (.inl e))⟩
   ·exact⟨λB=>t2 _ rfl (B▸e),nbt y (.inr (.inr (.inl e)))⟩
   ·rw[qF] at e;exact⟨λB=>t3 _ rfl (B▸e),nbt y (.inr (.inr (.inr e)))⟩
   ·rw[qF,qF];exact j.tr.sep
   ·show(qV (s.why.take m)).length=(s.put.take m).length;rw[zH0,gi,gi];omega
   ·have:=Ko j.tr.dis m;rwa[GC,gJ (by omega:m<=m+1)] at this
   ·intro y k;refine j.tr.bnd y ?_;show y∈s.put.take (m+1);rw[l];exact Ge _ k
  ·refine mv hW λy e=>?_;rw[qF] at e;exact⟨λB=>j.st y (.inr (.inl e)) (.inl B),j.s1 y e⟩
  ·exact((am.ext o).same q λy e B=>j.st y (.inr (.inr e)) (.inl B)).same F λy e B=>j.s2 y e B
  ·intro y e;rw[qF] at e;exact j.s1 y e
  ·intro y e;rw[qF] at e;exact j.s3 y e
  ·intro y k ht;refine j.st y ?_ ?_
   ·rcases k with e|e|e
    ·exact .inl e
    ·exact .inr (.inl (by rwa[qF] at e))
    ·exact .inr (.inr e)
   ·rcases ht with e|e|e|e
    ·exact .inl e
    ·exact .inr (.inl (by rwa[qF] at e))
    ·exact .inr (.inr (.inl e))
    ·exact .inr (.inr (.inr (by rwa[qF] at e)))
  ·intro y k;refine j.sf y ?_;rcases k with e|e|e
   ·exact .inl e
   ·exact .inr (.inl (by rwa[qF] at e))
   ·exact .inr (.inr e)
 ·exact T.trans ((Same.of_ext (t.trans a5)).trans a1)
 ·intro y k;refine z y ?_;rcases k with(e|e|e|e)|e|e|e
  ·exact .inl (.inl e)
  ·exact .inl (.inr (.inl (by rwa[qF] at e)))
  ·exact .inl (.inr (.inr (.inl e)))
  ·exact .inl (.inr (.inr (.inr (by rwa[qF] at e))))
  ·exact .inr (.inl e)
  ·exact .inr (.inr (.inl (by rwa[qF] at e)))
  ·exact .inr (.inr (.inr e))
 ·rw[O,<-U,backN,if_pos hL]
end
end
section
variable {w:World} {K:Value->World->Prop} {F Fr:Nat->Prop} {many:Nat}
theorem few_ints {ks:List Int} (g:ks.Nodup) (b:∀k,k∈ks->k.natAbs<=700):ks.length<=1401:=by
 have d:(ks.map λk=>(k+701).toNat).Nodup:=by
  unfold List.Nodup;rw[G5];refine(Pn.2 λ{a c} hs=>?_);have e:a∈ks:=hs.subset (by simp);have f:c∈ks:=hs.subset (by simp);have:=b a e;have:=b c f;have i:a≠c:=by
   have:=g.sublist hs;simpa using this
  omega
 have:=nodup_le (m:=1401) d λx j=>by
  obtain⟨k,h,rfl⟩:=gm.1 j;have:=b k h;omega
 simpa using this
theorem greatest_spec {bt b:Nat} {put ks:List Int} {ds:List Bool} {vp vpl vl:Value} (h:TrailR Fr w bt many put ds vp vpl vl) (hm:ISet w b ks) (N:∀k,k∈ks->k.natAbs<=many/\placeOf put k.natAbs≠0)
  (hK:∀w' top v xs,Ext w w'->TopOf put ds ks top xs->OwnI P zt w' v xs->(∀x,v.ownBlock=some x->w.heap.size<=x)->K (.tuple #[.int .i64 (top:Nat),v]) w'):
  vcall P qZ #[.pointer (some ⟨bt,0,none⟩),.map (some b)] w K:=by
 apply Vx;have ad:=h.few;have a8:=h.few';have hlen:=h.len;have a0:=hm.nodup;have af:ks.length<=1401:=few_ints a0 λk M=>by have:=(N k M).1;omega
 refine kB0 j9 hm λr w1 hr J W=>?_;refine vloop_up ks.length (λi u w'=> ∃dn top v xs,dn.length=i/\u=[.int .i64 (top:Nat),v]/\IterR w' r b ks dn/\OwnI P zt w' v xs/\TopOf put ds dn top xs/\Ext w w'/\r<w'.heap.size/\top<=700/\(∀x,v.ownBlock=some x->w.heap.size<=x/\x≠r))
  ⟨[],0,.slice none 0 0,[],rfl,rfl,J,OwnI.nil,⟨by simp,by simp,.inl rfl,pg⟩,W,?_,by omega,λx z=>by cases z⟩ ?_
 ·exact J.lt
 rintro i _ g w2 C hi ⟨dn,top,v,xs,F,rfl,hit,hv,l,he,ae,D,j⟩ U;refine vnext_set hit (λA=>?_) λk x w3 M Z p S ah=>?_
 ·simp only[push_cast];refine hK w2 top v xs he ⟨λk M=>l.le k (A k M),λk=>?_,l.ne,l.nd⟩ hv λx z=>(j x z).1;rw[l.mem];obtain⟨_,_,_,_,_,_,_,_,s,_⟩:=hit;exact⟨λ⟨a,b⟩=>⟨s k a,b⟩,λ⟨a,b⟩=>⟨A k a,b⟩⟩
 have o:Ext w w3:=he.then S λy d=>by subst d;omega
 have a4:=hv.same S λy d=>(j y d).2;simp only[push_cast];refine kD0 p λx'=>?_;simp only[push_cast];obtain⟨X,Y⟩:=N k M;refine level_spec (h.ext o) X Y λw4 n=>?_;have T:=a4.ext n;have m:=p.ext n;have Q:lvl ds (placeOf put k.natAbs-1)=lvM put ds k:=rfl;have O:lvM put ds k<=700:=by have:=lvl_le ds (placeOf put k.natAbs-1);rw[Q] at this;omega
 rw[Q];simp only[push_cast];have G:i<ks.length:=by have:=p.len;simp at this;omega
 have B:∀y,y∈xs->y∈dn:=λy d=>((l.mem y).1 d).1;have ag:xs.length<=i:=by have:=List.Nodup.length_le_of_subset l.nd B;omega
 have a9:=o.size;have aa:=n.size;have R:=m.lt;have a1:k∉xs:=λh=>Z (B k h);have memd:∀y,y∈dn++[k]↔y∈dn\/y=k:=λy=>by simp
 refine zh (λa=>?_) (λa=>?_)
 ·refine yK Je YC X7 rfl rfl λb1 w5 V f a7 E=>?_;refine U G _ _ ⟨dn++[k],lvM put ds k,_,[k],by simp[F],rfl,m.ext f,Blk.own1 (P:=P) (t:=zt) (cs:=[.int .i64 k]) (by rw[ZE0];exact E) (Gg _) rfl rfl (by omega),⟨λy d=>?_,λy=>?_,.inr (by simp),by simp⟩,o.trans (n.trans f),by omega,O,?_⟩
  ·rcases(memd y).1 d with d|rfl
   ·have:=l.le y d;omega
   ·exact gr _
  ·rw[memd,gn];constructor
   ·rintro rfl;exact⟨.inr rfl,rfl⟩
   ·rintro⟨d|rfl,e⟩
    ·have:=l.le y d;omega
    ·rfl
  ·intro x z;have e:b1=x:=gh z;omega
 ·refine zh (λa2=>?_) (λa2=>?_)
  ·refine yK Je YC X7 rfl rfl λb1 w5 V f a7 E=>?_;have a5:=T.ext f;refine a5.app1 xB0 E (by omega) (by omega) λv' w6 a6 H a3=>?_;have ab:=f.size;have ac:=H.size;have I:∀x,v'.ownBlock=some x->w.heap.size<=x/\x≠r:=λx z=>by
    rcases a3 x z with e|e
    ·exact j x e
    ·have:=he.size;constructor<;>omega
   have L:=(m.ext f).same H (λe=>by have:=(j b e).1;have:=hm.lt;omega) λe=>(j r e).2 rfl;have hE:Ext w w6:=Ext.then (o.trans (n.trans f)) H λx z=>(j x z).1;refine U G _ _ ⟨dn++[k],top,v',xs++[k],by simp[F],rfl,L,a6,⟨λy d=>?_,λy=>?_,.inr (by simp),?_⟩,hE,by omega,D,I⟩
   ·rcases(memd y).1 d with d|rfl
    ·exact l.le y d
    ·omega
   ·rw[memd,gk,gn,l.mem];constructor
    ·rintro(⟨q,s⟩|rfl)
     ·exact⟨.inl q,s⟩
     ·exact⟨.inr rfl,by omega⟩
    ·rintro⟨q|q,s⟩
     ·exact .inl ⟨q,s⟩
     ·exact .inr q
   ·rw[Gx];exact⟨l.nd,by simp,λa ha c hc e=>by simp at hc;subst hc;subst e;exact a1 ha⟩
  ·refine U G _ _ ⟨dn++[k],top,v,xs,by simp[F],rfl,m,T,⟨λy d=>?_,λy=>?_,l.ne,l.nd⟩,o.trans n,R,D,j⟩
   ·rcases(memd y).1 d with d|rfl
    ·exact l.le y d
    ·omega
   ·rw[memd,l.mem];constructor
    ·rintro⟨q,s⟩;exact⟨.inl q,s⟩
    ·rintro⟨q|rfl,s⟩
     ·exact⟨q,s⟩
     ·omega
end
section
variable {w:World} {K:Value->World->Prop} {F:Nat->Prop}
def VP0 (a b:Int):Int:=if a<b then-1 else if b<a then 1 else 0
theorem cmpI_pos {a b:Int}:0<VP0 a b↔b<a:=by unfold VP0;split<;>(try split)<;>omega
theorem YD0 {a:Int} (b:K (.bool false) w):vcall P ZV #[.int .i64 a] w K:=by
 apply jv0;simp only[push_cast,ne_eq,not_true_eq_false,decide_false];exact b
theorem jF0 {a b:Int} (c:K (.int .i64 (VP0 a b)) w):vcall P kG #[.int .i64 a,.int .i64 b] w K:=by
 apply xr0;refine YD0 (YD0 ?_);simp only[push_cast];unfold VP0 at c;refine zh (λh=>?_) (λh=>zh (λd=>?_) (λd=>?_))
 ·rwa[if_pos h] at c
 ·rwa[if_neg h,if_pos d] at c
 ·rwa[if_neg h,if_neg d] at c
def FnI (w0:World) (f:Value) (args:Array Value) (b:Int):Prop:=
 ∀(w':World) (K:Value->World->Prop),Ext w0 w'->(∀w'',Ext w' w''->K (.int .i64 b) w'')->vcallv P f args w' K
theorem MaxFunc_Lint {v f : Value} {xs : List Int} {g : Int -> Int} (hx : Ints F w v xs) (hne : xs ≠ []) (hf : ∀ a b, a ∈ xs -> b ∈ xs -> FnI w f #[.int .i64 a, .int .i64 b] (VP0 (g a) (g b)))
    (hK : ∀ w' m, Ext w w' -> m ∈ xs -> (∀ x, x ∈ xs -> g x <= g m) -> K (.int .i64 m) w') : vcall P jc #[v, f] w K := by
  apply Jc; unfold Z2
  have hpos : 0 < xs.length := gG.2 hne
  have hlen : xs.length <= 9223372036854775807 := by obtain ⟨_, _, _, h1, h2, _⟩ := hx.shape; simp at h1; omega
  refine zS (λu w' => Ext w w' /\ w' = w) ?_ ?_
  · intro C hC
    simp (disch := first | (simp only [push_cast]; done) | omega) only [push_cast, hx.len]
    exact zh (λa => by omega) (λa => hC _ _ ⟨Same.refl _ _, rfl⟩)
  rintro _ _ _ ⟨-, rfl⟩
  simp (disch := first | (simp only [push_cast]; done) | omega) only [hx.iaddr, Int.toNat_zero, hx.load]
  refine vloop_up (xs.length - 1) (λi u w' => ∃ m, u = [.int .i64 m, .int .i64 (i + 1 : Nat)] /\ Ext w' w' /\ Ext _ w' /\ m ∈ xs /\ ∀ j, j <= i -> g (xs.getD j 0) <= g m) ⟨xs.getD 0 0, rfl, Same.refl _ _, Same.refl _ _, qU hpos, λj hj => by
    have : j = 0 := by omega
    subst this; exact Pj _⟩ ?_
  rintro i _ _ w1 C hi ⟨m, rfl, -, he, hm, hmax⟩ hC
  have hx1 := hx.ext he
  simp (disch := first | (simp only [push_cast]; done) | omega) only [sl0, sl1, hx1.len, kZ0]
  refine zh (λa => ?_) (λa => ?_)
  · simp (disch := first | (simp only [push_cast]; done) | omega) only [hx1.iaddr, gl, hx1.load]
    have hj : xs.getD (i + 1) 0 ∈ xs := qU (by omega)
    refine hf _ _ hj hm w1 _ he λw2 he2 => ?_
    have hx2 := hx1.ext he2
    have hadd : IntKind.i64.wrap (((i + 1 : Nat) : Int) + 1) = ((i + 1 + 1 : Nat) : Int) := by rw [zJ (by omega) (by omega)]; omega
    simp only [KV0]
    refine zh (λb => ?_) (λb => ?_)
    · simp (disch := first | (simp only [push_cast]; done) | omega) only [hx2.iaddr, gl, hx2.load, qi0, hadd]
      refine hC (by omega) _ _ ⟨_, rfl, Same.refl _ _, he.trans he2, hj, λj hj' => ?_⟩
      have hgt : g m < g (xs.getD (i + 1) 0) := cmpI_pos.1 b
      by_cases e : j = i + 1
      · subst e; exact Pj _
      · have := hmax j (by omega); omega
    · simp only [qi0, hadd]
      refine hC (by omega) _ _ ⟨_, rfl, Same.refl _ _, he.trans he2, hm, λj hj' => ?_⟩
      have hle : g (xs.getD (i + 1) 0) <= g m := Int.not_lt.1 λh => b (cmpI_pos.2 h)
      by_cases e : j = i + 1
      · subst e; exact hle
      · exact hmax j (by omega)
  · refine hK w1 m he hm λx hx' => ?_
    obtain ⟨j, hj, rfl⟩ := gq hx'
    have := hmax j (by omega)
    simpa [k6, hj] using this
end
section
variable {w:World} {K:Value->World->Prop} {Fr:Nat->Prop} {many bs:Nat} {c:Cnf} {s:Sat} {σ:SV} {N:Nat}
theorem learn_2_spec {a b:Int} (d:a.natAbs<=700) (e:b.natAbs<=700) (c:K (.int .i64 (VP0 a.natAbs b.natAbs)) w):vcall P yY #[.int .i64 a,.int .i64 b] w K:=by
 apply VA;exact variable_spec (by omega) (by omega) (variable_spec (by omega) (by omega) (jF0 c))
def plM (put:List Int) (a:Int):Int:=(placeOf put a.natAbs:Int)-1
theorem Yv0 {a b:Int} {p:Nat} {t:TypeId} {r:List Value} (h:SR N Fr w bs many c s σ) (o:Blk w p (.pointer (some ⟨bs,0,none⟩)::r) t) (m:a.natAbs<=many) (n:b.natAbs<=many)
  (l:∀w',Ext w w'->K (.int .i64 (VP0 (plM s.put a) (plM s.put b))) w'):vcall P k7 #[.int .i64 a,.int .i64 b,.pointer (some ⟨p,0,none⟩)] w K:=by
 apply VB;refine zr λw1 d _=>?_;have g:=h.ext d;have f:=o.ext d;simp(disch:=(simp only[push_cast])) only[push_cast,f.ld0,g.blk.ld2,true_and];refine place_spec g.tr m λw2 e=>?_;have k:=g.ext e;have j:=f.ext e;simp(disch:=(simp only[push_cast])) only[push_cast,j.ld0,k.blk.ld2,true_and,and_self];exact place_spec k.tr n λq i=>jF0 (l q (d.trans (e.trans i)))
theorem resolve_1_spec {a:Int} {p:Nat} {t:TypeId} {r:List Value} (h:SR N Fr w bs many c s σ) (g:Blk w p (.pointer (some ⟨bs,0,none⟩)::r) t) (f:a.natAbs<=many) (b:placeOf s.put a.natAbs≠0)
  (e:∀w',Ext w w'->K (.bool (decide (0<lvM s.put (qV s.why) a))) w'):vcall P jr #[.int .i64 a,.pointer (some ⟨p,0,none⟩)] w K:=by
 apply Kr;simp(disch:=(simp only[push_cast])) only[push_cast,g.ld0,h.blk.ld2];refine level_spec h.tr f b λw1 d=>?_;have:=e w1 d;simp only[push_cast];rwa[show decide ((0:Int)<(lvl (qV s.why) (placeOf s.put a.natAbs-1):Nat))=decide (0<lvM s.put (qV s.why) a) from decide_eq_decide.2 (by unfold lvM;omega)]
end
section
variable {w:World} {K:Value->World->Prop}
abbrev U60:={x:Int//x.natAbs<=700}
instance:Inhabited U60:=⟨⟨0,by decide⟩⟩
def litV (x:U60):Value:= .int .i64 x.1
def WY0 (x y:U60):Int:=VP0 x.1.natAbs y.1.natAbs
theorem litC_lt (x y:U60):ltOf WY0 x y=decide (x.1.natAbs<y.1.natAbs):=by
 unfold ltOf WY0 VP0;refine decide_eq_decide.2 ?_;split<;>(try split)<;>omega
theorem litC_swo:Go.Sort.SWO (ltOf WY0) where
 irrefl x:=by rw[litC_lt];simp
 trans x y z a b:=by rw[litC_lt] at*;simp at*;omega
 ntrans x y z a b:=by rw[litC_lt] at*;simp at*;omega
theorem jJ0 (args:Array Value) (w:World):(callFunc yY args).run P w= .ok (.enter yY args) w:=callFunc_run (by kernel_rfl)
theorem Zf0 (blk off size:Nat) (w:World):CmpReads P yY #[] litV WY0 blk off size w:=by
 intro m os dk _ x y;have h:=learn_2_spec (K:=λv w'=>v= .int .i64 (WY0 x y)/\∃q,w'=(sortWorld litV w blk off m dk os).drewN q) (w:=sortWorld litV w blk off m dk os) x.2 y.2 ⟨rfl,0,rfl⟩;refine Calls.mono h.2 λe w' he=>?_;cases e with
 |returned v=>exact⟨by rw[he.1],he.2⟩
 |panicked c=>exact he.elim
 |outgrown=>exact he.elim
theorem SortFunc_learn {v : Value} {xs : List Int} (hv : OwnI P zt w v xs) (hne : xs ≠ []) (hb : ∀ x, x ∈ xs -> x.natAbs <= 700) (hnd : (xs.map Int.natAbs).Nodup)
    (hK : ∀ w' ys, OwnI P zt w' v ys -> Srt ys -> (∀ k, k ∈ ys ↔ k ∈ xs) -> Same (λb => v.ownBlock = some b) w w' -> K (.tuple #[]) w') :
    vcall P kJ #[v, .func (.func yY) #[] #[]] w K := by
  refine ⟨by kernel_rfl, ?_⟩
  have hsm := hv.small
  have hlen : xs.length <= 1401 := few_ints (by
    unfold List.Nodup at hnd ⊢
    rw [G5] at hnd
    exact hnd.imp λh e => h (by rw [e])) hb
  have hrow := Own.row hv
  rcases hrow.2 with ⟨rfl, hn⟩ | ⟨g, cap, cur, rfl, hbg, hg, hnc, hcm, hcs, htake⟩
  · simp at hn; exact absurd hn hne
  let L : List U60 := xs.attach.map λx => ⟨x.1, hb x.1 x.2⟩
  have hL : L.map (·.1) = xs := by
    simp [L]
  let d : Array U60 := L.toArray
  have hds : d.size = xs.length := by simp [d, L]
  have hdj : ∀ j, j < xs.length -> litV d[j]! = .int .i64 (xs.getD j 0) := λj hj => by
    have h1 : (L.map (·.1)).getD j 0 = xs.getD j 0 := by rw [hL]
    simp only [litV]
    rw [<- h1, getElem!_pos d j (by omega)]
    have : j < L.length := by simp [L]; exact hj
    simp [d, k6, this]
  have hH : Go.Sort.Holds litV w g 0 d := by
    intro j hj
    rw [hds] at hj
    have hi' : j < ((xs.map λx => Value.int .i64 x).map λx => [x]).length * 1 := by simpa using hj
    have hc := World.ownsRow.cellAt hrow j hi'
    have hf := World.ownsRow.frozenAt hrow j
    rw [gQ]
    refine ⟨?_, hf⟩
    rw [hc, flat1, hdj j hj]
    simp [k6, hj]
  have hcon := Any.slices_SortFunc YtokflbdfnbppjaaGreatDoor.sortL litV (λ_ => rfl) WY0 litC_swo yY #[] g 0 cap d w jJ0 (Zf0 g 0 d.size w).lays hH (gB.1 hg).1 (by omega)
  have hsz : ((xs.map λx => Value.int .i64 x).map λx => [x]).length = d.size := by simp [hds]
  rw [hsz]
  refine Calls.mono hcon ?_
  rintro e w' ⟨rfl, d', n, os, hp, hs, rfl⟩
  show K _ _
  obtain ⟨hp1, hp2, hp3⟩ := hp
  have hex : d'.toList.Perm L := by
    have e1 : d'.extract 0 d.size = d' := by rw [<- hp1]; simp
    have e2 : d.extract 0 d.size = d := by simp
    rw [e1, e2] at hp3
    exact hp3
  have hmap : (d'.toList.map (·.1)).Perm xs := by rw [<- hL]; exact hex.map _
  have hgl := (gB.1 hg).1
  have hcells : (sortWorld litV w g 0 n d' os).heap[g]? = some (.cells (Go.Sort.putCells litV 0 d' cur) (Wo P zt) (0, 0)) := by
    unfold sortWorld Go.Sort.grow Go.Sort.putRow Go.Sort.mapBlock Go.Sort.ahead
    simp only
    rw [PL (by simpa using hgl)]
    simp [GW, hg, Go.Sort.onCells]
  have hlen' : d'.toList.length = xs.length := by simpa [L] using hex.length_eq
  refine hK _ (d'.toList.map (·.1)) ⟨⟨by rw [flat1]; simp only [X0, pX], .inr ⟨g, cap, _, by simp only [X0, hds, hlen'], hbg, hcells, ?_, hcm, ?_, ?_⟩⟩, λy hy => by obtain ⟨u, _, rfl⟩ := gm.1 hy; rfl⟩ ?_ (λk => hmap.mem_iff) ?_
  · simp only [X0] at hnc ⊢; simp at hlen' ⊢; omega
  · simpa [Go.Sort.putCells] using hcs
  · rw [flat1]
    simp only [X0, pX, hlen']
    refine List.ext_getElem? λi => ?_
    rw [pN]
    split
    · rename_i hi
      have hic : i < cur.size := by simp at hnc; omega
      have hid : i < d'.size := by omega
      simp [Go.Sort.putCells, Array.getElem?_mapIdx, hic, hid, litV]
    · rename_i hi
      symm
      rw [po]
      simp at hlen' ⊢; omega
  · unfold Srt
    rw [G5, Gu]
    intro i j hi hj hij
    have h1 := hs i j (Gg _) hij (by simp at hj; omega)
    rw [litC_lt] at h1
    simp only [decide_eq_false_iff_not, Nat.not_lt] at h1
    simp only [pa] at hi hj
    rw [getElem!_pos d' i hi, getElem!_pos d' j hj] at h1
    simp only [Array.getElem_toList]
    refine Nat.lt_of_le_of_ne h1 λe => ?_
    have hnd2 : ((d'.toList.map (·.1)).map Int.natAbs).Nodup := (hmap.map _).nodup_iff.2 hnd
    unfold List.Nodup at hnd2
    rw [GM, G5, Gu] at hnd2
    have := hnd2 i j (by simpa using hi) (by simpa using hj) hij
    simp at this
    exact this e
  · refine ⟨rfl, rfl, rfl, by simp [sortWorld, Go.Sort.grow, Go.Sort.putRow, Go.Sort.mapBlock, Go.Sort.ahead], λb hb' hne' => ?_⟩
    have hbg' : g ≠ b := λe => hne' (by rw [e]; rfl)
    unfold sortWorld Go.Sort.grow Go.Sort.putRow Go.Sort.mapBlock Go.Sort.ahead
    simp only
    rw [PL (by simpa using hb'), GW, if_neg hbg']
end
section
variable {w:World} {K:Value->World->Prop} {F Fr:Nat->Prop} {many bs:Nat} {c:Cnf} {s:Sat} {σ:SV} {N:Nat}
theorem satOk.many' (h:satOk many c s) (a:c.many=many):many<=700/\c.list.length<=2500:=by
 have:=h.cnf;unfold cnfOk at this;simp only[V0,decide_eq_true_eq] at this;omega
theorem learn_spec {v:Value} {k:Nat} (h:SR N Fr w bs many c s σ) (D:satOk many c s) (a0:c.many=many) (hk:k<c.list.length+s.learned.length) (o:Ints F w v (atM c s k)) (hc:Kz s.put (atM c s k)) (d6:qq0 s.put (qV s.why) (atM c s k)≠0) (c5:∀b,Fr b->b<w.heap.size)
  (hK:∀w' v',Ext w w'->OwnI P zt w' v' (learnM many c s s.put.length (atM c s k))->(∀x,v'.ownBlock=some x->w.heap.size<=x)->K (.tuple #[v',.int .i64 (kO0 s.put (qV s.why) (learnM many c s s.put.length (atM c s k)))]) w'):
  vcall P Zc #[.pointer (some ⟨bs,0,none⟩),v] w K:=by
 apply UX;obtain⟨cn,dc⟩:=satOk.many' D a0;have d2:=D.few;have au:=D.mks;obtain⟨z1,z2,z3,z4⟩:=XT0 D a0 hk hc;have b2:=YJ0 hc;have ca:=clauseOk_srt (D.atOk hk);generalize atM c s k=cl at*;refine jK λp w1 hp cf dp c7=>?_;refine KO0 λbm w2 db bg ac=>?_;have dq:=ac.size;have hlen:cl.length<=9223372036854775807:=by obtain⟨_,_,_,h1,h2,_⟩:=o.shape;simp at h1;omega
 simp(disch:=first|(simp only[push_cast])|omega) only[push_cast,o.len];have c8:Blk w2 p [.pointer (some ⟨bs,0,none⟩)] zM:=c7.ext ac;have keep:∀{w3 w4:World} {S:Nat->Prop},(Ext w w3/\Blk w3 p [.pointer (some ⟨bs,0,none⟩)] zM)->Same S w3 w4->(∀x,S x->w1.heap.size<=x)->(Ext w w4/\Blk w4 p [.pointer (some ⟨bs,0,none⟩)] zM):=by
  rintro w3 w4 S ⟨a,b⟩ hs hS;exact⟨a.then hs λx o=>by have:=hS x o;omega,b.same hs λe=>by have:=hS p e;omega⟩
 refine vloop_up cl.length (λi u w'=> ∃ks,u=[.int .i64 i]/\(Ext w w'/\Blk w' p [.pointer (some ⟨bs,0,none⟩)] zM)/\ISet w' bm ks/\∀x,x∈ks↔x∈cl.take i) ⟨[],rfl,⟨cf.trans ac,c8⟩,bg,by simp⟩ ?_;rintro i _ _ w3 C hi ⟨ks,rfl,M,B,z⟩ hC;simp only[push_cast];refine zh (λa=>?_) (λa=>?_)
 ·have bw:=o.ext M.1;simp(disch:=first|(simp only[push_cast])|omega) only[push_cast,bw.iaddr,bw.load];refine Yi0 j9 B λw4 cj ct dt=>?_;simp(disch:=omega) only[push_cast,zJ];refine hC (by omega) _ _ ⟨_,by simp,keep M ct (λx o=>by omega),cj,λx=>?_⟩;rw[qr0 (d:=0) (by omega),gk,gn,<-z];split
  ·rename_i ap;exact⟨.inl,λe=>e.elim id λe=>e▸ap⟩
  ·rw[gk,gn]
 clear hC;rw[gM (by omega)] at z;clear bg hi a;have bounds:∀{j:List Int},Fls s.put j->∀x,x∈j->x≠0/\x.natAbs<=many/\placeOf s.put x.natAbs≠0:=λhF x o=>by
  have h1:=au.2 _ (hF x o);have h2:=qr (hF x o);rw[GJ] at h2;exact⟨by omega,by omega,h2⟩
 have Z:=h.ext M.1;simp(disch:=(simp only[push_cast])) only[push_cast,M.2.ld0,Z.blk.ld2];refine greatest_spec Z.tr B (λx o=>(bounds b2 x ((z x).1 o)).2) λw4 top v4 xs A bq bu bl=>?_;simp only[push_cast];have al:TopOf s.put (qV s.why) cl top xs:=qp0 z bq;refine Wc (λn u w'=> ∃ks j f top v xs,n=jn s.put j/\u=[v]/\(Ext w w'/\Blk w' p [.pointer (some ⟨bs,0,none⟩)] zM)/\ISet w' bm ks/\(∀x,x∈ks↔x∈j)/\
   Fls s.put j/\Srt j/\TopOf s.put (qV s.why) j top xs/\OwnI P zt w' v xs/\(∀x,v.ownBlock=some x->w.heap.size<=x/\x≠bm/\x≠p)/\jn s.put j<=f/\learnM many c s f j=learnM many c s s.put.length cl) _
  ⟨ks,cl,s.put.length,top,v4,xs,rfl,rfl,keep M (S:=λ_=>False) A (λ_ h=>h.elim),B.ext A,z,b2,ca,al,bu,λx o=>?_,lastPl_le,rfl⟩ ?_
 ·have:=bl x o;have:=B.lt;have:=M.2.lt;have:=M.1.size;exact⟨by omega,by omega,by omega⟩
 clear B z bq al bu bl A Z ks top v4 xs M;clear w3 w4;rintro _ _ _ w3 C ⟨ks,j,f,top,v3,xs,rfl,rfl,M,B,z,hF,hS,ht,a7,bk,dg,ar⟩ hC;have Z:=h.ext M.1;have bx:=a7.ints;have Q:=bounds hF;have t:∀x,x∈xs->x∈j:=λx o=>((ht.mem x).1 o).1;have cz:xs.length<=1401:=few_ints ht.nd λx o=>by have:=Q x (t x o);omega
 have bt:=topOf_tops (put:=s.put) (ds:=qV s.why) (srt_nodup hS);have dm:xs.length=(QH0 s.put (qV s.why) j).length:=Jg0 ht bt;have ay:top=qq0 s.put (qV s.why) j:=topOf_top ht bt;simp(disch:=(simp only[push_cast])) only[push_cast,bx.len];refine zh (λa=>?_) (λa=>?_)
 ·
  have h2:2<=xs.length:=(by omega);have hf:f≠0:=λe=>by
   subst e;have:xs≠[]:=λe=>by subst e;simp at h2
   obtain⟨q,hq⟩:=pr _ this;exact lastPl_pos hF (λe=>by have:=t q hq;rw[e] at this;cases this) (by omega)
  obtain⟨f,rfl⟩:∃f',f=f'+1:=⟨f-1,by omega⟩;rw[learnM,if_neg (by omega)] at ar;obtain⟨k1,k2,k3,k4⟩:=learnS_ok D a0 hF hS (by omega);refine MaxFunc_Lint (g:=plM s.put) bx (λe=>by rw[e] at h2;simp at h2) (λa b ha hb w' K' bb c6=>?_) λw4 m A hm a4=>?_
  ·exact Yv0 (Z.ext bb) (M.2.ext bb) (Q a (t a ha)).2.1 (Q b (t b hb)).2.1 c6
  have bi:=Q m (t m hm);have cr:placeOf s.put m.natAbs=jn s.put j:=lastPl_top ht hm λx o=>by have:=a4 x o;unfold plM at this;omega
  refine X90 j9 (B.ext A) λw5 ck bo du=>?_;have c4:=keep M (S:=λ_=>False) A (λ_ h=>h.elim);have W:=keep c4 bo (λx o=>by omega);refine zr λw6 an _=>?_;have X:=keep W (S:=λ_=>False) an (λ_ h=>h.elim);have aa:=h.ext X.1;have dl:=aa.rw.ints;simp(disch:=(simp only[push_cast])) only[push_cast,X.2.ld0,aa.blk.ld2,aa.blk.ld3,true_and];refine place_spec aa.tr bi.2.1 λw7 H=>?_;have Y:=keep X (S:=λ_=>False) H (λ_ h=>h.elim);have ab:=h.ext Y.1;have am:=ab.rw.ints;obtain⟨q,hq⟩:∃q,jn s.put j=q+1:=⟨jn s.put j-1,by omega⟩;have cs:(placeOf s.put m.natAbs:Int)-1=(q:Int):=(by omega);have di:=D.len;have d3:=placeOf_le s.put m.natAbs;obtain⟨r1,r2,r3,r4,r5,-⟩:=last_reason D hF ht h2 hq;have bn:s.put.getD q 0= -m:=by
   refine ko au.1 (qU r1) (hF m (t m hm)) ?_;have:=(jU bi.2.2).2;rw[cr,hq,GN] at this;rw[this,GJ]
  rw[cs];simp(disch:=first|(simp only[push_cast])|omega) only[push_cast,Y.2.ld0,ab.blk.ld2,ab.blk.ld3,true_and,and_self,am.iaddr,am.load];obtain⟨y,hy⟩:∃y:Nat,s.why.getD q 0=y:=⟨(s.why.getD q 0).toNat,by omega⟩;have az:s.why.getD q 0=(y:Int):=hy;rw[az];refine clause_spec ab (by omega) (by omega) λv8 w8 ao a8=>?_;have V:=keep Y (S:=λ_=>False) ao (λ_ h=>h.elim);have d4:=clauseOk_len (m:=many) (by have:=D.atOk (k:=y) (by omega);rwa[a0] at this);simp(disch:=first|(simp only[push_cast])|omega) only[push_cast,a8.len,true_and];have cm:ISet w8 bm (ks.erase m):=((ck.ext an).ext H).ext ao;have cp:ks.Nodup:=B.nodup;have d7:OwnI P zt w8 v3 xs:=((((a7.ext A).same bo λx o=>(bk x o).2.1).ext an).ext H).ext ao;have hj:Jn many c s j=jK0 many j (atM c s y) (s.put.getD q 0).natAbs:=by
   unfold Jn;rw[hq,GN,az,gl]
  have ch:∀l,l∈Jn many c s j↔(l∈j/\l≠m)\/(l∈atM c s y/\l≠ -m):=λl=>by
   have:=(learn_join D a0 hF ht h2 hq).1 l;rw[az,gl,<-hj,bn,Py] at this;exact this
  refine vloop_up (atM c s y).length (λi u w'=> ∃bz,u=[.int .i64 i]/\(Ext w w'/\Blk w' p [.pointer (some ⟨bs,0,none⟩)] zM)/\Ints Fr w' v8 (atM c s y)/\ISet w' bm bz/\(∀x,x∈bz↔(x∈j/\x≠m)\/(x∈(atM c s y).take i/\x≠ -m)))
   ⟨ks.erase m,rfl,V,a8,cm,λx=>by rw[cp.mem_erase_iff,z];simp[and_comm]⟩ ?_
  rintro i _ _ w9 C9 hi ⟨c0,rfl,O,ae,a3,E⟩ b1;simp only[push_cast];refine zh (λa9=>?_) (λa9=>?_)
  ·simp(disch:=first|(simp only[push_cast])|omega) only[push_cast,ae.iaddr,ae.load];have br:=qr0 (d:=0) (xs:=atM c s y) (show i<(atM c s y).length by omega);have d9:∀x,Fr x->x<w.heap.size->¬(x=bm):=λx _ o e=>(by omega);have G:IntKind.i64.wrap (0-m)= -m:=by rw[zJ (by omega) (by omega)];omega
   have T:IntKind.i64.wrap ((i:Int)+1)=((i+1:Nat):Int):=by rw[zJ (by omega) (by omega)];omega
   simp only[G,T];refine zh (λb9=>?_) (λb9=>?_)
   ·refine Yi0 j9 a3 λc2 bf ak d8=>?_;simp(disch:=omega) only[push_cast,zJ];have a6:Ints Fr c2 v8 (atM c s y):=ae.same ak λx o _ e=>by have:=c5 x o;omega
    refine b1 (by omega) _ _ ⟨_,rfl,keep O ak (λx o=>by omega),a6,bf,λx=>?_⟩;rw[br,gk,gn];split
    ·rename_i ap;rw[E];constructor
     ·rintro(e|⟨G,T⟩)
      ·exact .inl e
      ·exact .inr ⟨.inl G,T⟩
     ·rintro(e|⟨G|G,T⟩)
      ·exact .inl e
      ·exact .inr ⟨G,T⟩
      ·rw[G];exact(E _).1 ap
    ·rw[gk,gn,E];constructor
     ·rintro((e|⟨G,T⟩)|e)
      ·exact .inl e
      ·exact .inr ⟨.inl G,T⟩
      ·exact .inr ⟨.inr e,by rw[e];exact b9⟩
     ·rintro(e|⟨G|G,T⟩)
      ·exact .inl (.inl e)
      ·exact .inl (.inr ⟨G,T⟩)
      ·exact .inr G
   ·refine b1 (by omega) _ _ ⟨_,rfl,O,ae,a3,λx=>?_⟩;rw[br,gk,gn,E];constructor
    ·rintro(e|⟨G,T⟩)
     ·exact .inl e
     ·exact .inr ⟨.inl G,T⟩
    ·rintro(e|⟨G|G,T⟩)
     ·exact .inl e
     ·exact .inr ⟨G,T⟩
     ·exact absurd (by rw[<-G];exact T) b9
  ·rw[gM (by omega)] at E;have R:∀x,x∈c0↔x∈Jn many c s j:=λx=>(by rw[E,ch]);have b4:=h.ext O.1;have cc:=bounds k1;simp(disch:=(simp only[push_cast])) only[push_cast,O.2.ld0,b4.blk.ld2];refine greatest_spec b4.tr a3 (λx o=>(cc x ((R x).1 o)).2) λc2 c1 v10 d1 ag bp a6 bj=>?_;simp only[push_cast];have dx:=O.1.size;have:=a3.lt;have:=O.2.lt;refine hC (jn s.put (Jn many c s j)) _ _ k3 ⟨c0,Jn many c s j,f,c1,v10,d1,rfl,rfl,keep O (S:=λ_=>False) ag (λ_ h=>h.elim),a3.ext ag,R,k1,k2,qp0 R bp,a6,λx o=>?_,by omega,ar⟩;have:=bj x o;exact⟨by omega,by omega,by omega⟩
 ·
  have bc:learnM many c s s.put.length cl=j:=by
   rw[<-ar];cases f with
   |zero=>rfl
   |succ f=>rw[learnM,if_pos (by omega)]
  rw[bc] at hK z1 z2 z3 z4;rw[z3] at ay;have cy:xs.length=1:=by
   have:=ht.ne;rcases this with e|e
   ·omega
   ·have:=gG.2 e;omega
  obtain⟨t0,rfl⟩:=P5.1 cy;have af:∀x,x∈j->(x≠t0↔lvM s.put (qV s.why) x<qq0 s.put (qV s.why) j):=λx o=>by
   have h1:=ht.mem x;have h2:=ht.le x o;rw[gn] at h1;rw[z3];constructor
   ·intro cq;have: ¬lvM s.put (qV s.why) x=top:=λe=>cq (h1.2 ⟨o,e⟩);omega
   ·intro dh e;have:=(h1.1 e).2;omega
  refine kB0 j9 B λr w4 hr cg A=>?_;have df:=few_ints B.nodup λx o=>by have:=Q x ((z x).1 o);omega
  have dr:=M.1.size;have dj:=B.lt;have dk:=M.2.lt;refine vloop_up ks.length (λi u w'=> ∃dn v,dn.length=i/\u=[.int .i64 (Xo0 ((dn.filter λk=>decide (lvM s.put (qV s.why) k<qq0 s.put (qV s.why) j)).map (lvM s.put (qV s.why))):Nat),v]/\(Ext w w'/\Blk w' p [.pointer (some ⟨bs,0,none⟩)] zM)/\IterR w' r bm ks dn/\OwnI P zt w' v dn/\OwnI P zt w' v3 [t0]/\(∀x,v.ownBlock=some x->w3.heap.size<x))
   ⟨[],.slice none 0 0,rfl,rfl,keep M (S:=λ_=>False) A (λ_ h=>h.elim),cg,OwnI.nil,a7.ext A,λx o=>by cases o⟩ ?_
  rintro i _ _ w5 C5 hi ⟨dn,v5,b8,rfl,W,I,bv,cu,L⟩ b0;refine vnext_set I (λb5=>?_) λU x' w6 ci de a2 a5 dv=>?_
  ·
   simp only[push_cast];have a1:∀x,x∈dn↔x∈j:=λx=>⟨λh=>(z x).1 (I.sub h),λh=>b5 x ((z x).2 h)⟩;have ba:dn≠[]:=λe=>by
    have:=(ht.mem t0).1 (by simp);have:=(a1 t0).2 this.1;rw[e] at this;cases this
   have ce:(dn.map Int.natAbs).Nodup:=by
    have h1:=I.nd;unfold List.Nodup at h1⊢;rw[G5];refine Pn.2 λ{a c} hs=>?_;have cb:a≠c:=by
     have:=h1.sublist hs;simpa using this
    have ha:=(a1 a).1 (hs.subset (by simp));have cd:=(a1 c).1 (hs.subset (by simp));intro e;exact cb (by have:=ko au.1 (hF a ha) (hF c cd) (by omega);omega)
   refine SortFunc_learn bv ba (λx o=>by have:=Q x ((a1 x).1 o);omega) ce λw6 zs cw c9 bh a5=>?_;have d0:zs=j:=srt_ext c9 hS λx=>(by rw[bh,a1]);subst d0;have a4:Xo0 ((dn.filter λk=>decide (lvM s.put (qV s.why) k<qq0 s.put (qV s.why) zs)).map (lvM s.put (qV s.why)))=kO0 s.put (qV s.why) zs:=by
    unfold kO0;exact Ql0 λx=>by simp only[gm,G8,bh]
   simp only[push_cast,a4];exact hK w6 v5 (W.1.then a5 λx o=>by have:=L x o;omega) cw λx o=>by have:=L x o;omega
  ·simp only[push_cast];refine kD0 a2 λdy=>?_;simp only[push_cast];refine yK Je YC X7 rfl rfl λb7 w7 da H dw c3=>?_;have dd:=I.lt;have X:=keep W a5 (λx o=>by have:=ac.size;have:=M.1.size;omega);have Y:=keep X (S:=λ_=>False) H (λ_ h=>h.elim);have d5:=W.1.size;have cx:=(bv.same a5 λx o e=>by have:=L x o;omega).ext H;have cv:=(cu.same a5 λx o e=>by have:=bk x o;have:=a7.lt o;omega).ext H;have bd:=a2.ext H;have b6:i<ks.length:=by have:=a2.len;simp at this;omega
   refine cx.app1 xB0 c3 (by omega) (by omega) λv8 w8 a8 av co=>?_;have aj:∀x,v8.ownBlock=some x->w3.heap.size<x:=λx o=>by
    rcases co x o with e|e
    ·exact L x e
    ·have:=A.size;have:=I.lt;omega
   have V:=keep Y av (λx o=>by have:=L x o;omega);have aw:=cv.same av λx o e=>by have:=L x e;have:=a7.lt o;omega
   have ai:=bd.same av (λe=>by have:=L _ e;omega) (λe=>by have:=L _ e;omega);have ax:=aw.ints;have aq:U∈j:=(z U).1 ci;have be:=Q U aq;refine zS (λu w'=>u=[.bool (decide (U≠t0))]/\w'=w8) ?_ ?_
   ·intro J hJ;simp(disch:=first|(simp only[push_cast])|omega) only[push_cast,ax.len,ax.iaddr,ax.load];exact hJ _ _ ⟨rfl,rfl⟩
   rintro _ _ _ ⟨rfl,rfl⟩;simp only[push_cast];have ah:(dn++[U]).filter (λk=>decide (lvM s.put (qV s.why) k<qq0 s.put (qV s.why) j))=dn.filter (λk=>decide (lvM s.put (qV s.why) k<qq0 s.put (qV s.why) j))++(if lvM s.put (qV s.why) U<qq0 s.put (qV s.why) j then[U] else[]):=by
    rw[List.filter_append];simp[List.filter_cons]
   refine zh (λb=>?_) (λb=>?_)
   ·have b3:=h.ext V.1;simp(disch:=(simp only[push_cast])) only[push_cast,V.2.ld0,b3.blk.ld2];refine level_spec b3.tr be.2.1 be.2.2 λw9 ad=>?_;simp only[push_cast];refine b0 b6 _ _ ⟨dn++[U],v8,by simp[b8],?_,keep V (S:=λ_=>False) ad (λ_ h=>h.elim),ai.ext ad,a8.ext ad,aw.ext ad,aj⟩;rw[ah,if_pos ((af U aq).1 b),gx,JC0 _ ([U].map (lvM s.put (qV s.why))) (lvM s.put (qV s.why) U) rfl];simp only[Gd,Value.int.injEq,true_and,and_true];show(max _ ((lvM s.put (qV s.why) U:Nat):Int))=_;omega
   ·refine b0 b6 _ _ ⟨dn++[U],v8,by simp[b8],?_,V,ai,a8,aw,aj⟩;rw[ah,if_neg λe=>b ((af U aq).2 e),gz]
end
section
variable {w:World} {Fr:Nat->Prop} {many:Nat}
theorem TrailR.reframe {a:Nat->Prop} {bt:Nat} {put:List Int} {ds:List Bool} {vp vpl vl:Value} (h:TrailR Fr w bt many put ds vp vpl vl) (b:∀x,Jg bt vp vpl vl x->¬a x):TrailR a w bt many put ds vp vpl vl:=by
 obtain⟨hs,_⟩:=sep4.1 h.sep;exact⟨h.blk,h.rp,h.rpl,h.rl,sep4.2 ⟨hs,λx e=>b x (.inl (gh e).symm),λx e=>b x (.inr (.inl e)),λx e=>b x (.inr (.inr (.inl e))),λx e=>b x (.inr (.inr (.inr e)))⟩,h.len,h.dis,h.bnd,h.few⟩
end
end Go.Proofs.YtokflbdfnbppjaaGreatDoor
