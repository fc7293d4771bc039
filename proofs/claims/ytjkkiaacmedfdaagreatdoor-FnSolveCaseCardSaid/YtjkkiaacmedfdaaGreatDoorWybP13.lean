import Derived.Test.YtjkkiaacmedfdaaGreatDoorWybP12
/- A part of the proof. -/
set_option linter.all false
set_option maxRecDepth 9999
set_option maxHeartbeats 2000000
noncomputable section
namespace Go.Proofs.YtjkkiaacmedfdaaGreatDoor
open Go Go.Vc Go.Proofs
section
variable {w:World} {K:oK} {F F' D G:Nat->Prop}
theorem l8Some_spec {b p:Nat} {v dv:Value} {xs:List Nat} {ds:List M.Dcl} {sort:Int} (h:RdR F w b v xs p) (hF:∀x,F x->x<w.heap.size) (hd:DclsR D w dv ds) (hD:∀x,D x->x≠b) (hD1:∀x,D x->x<w.heap.size) (m:Dok ds) (B:0<=sort) (E:sort<=4)
  (hp:p+200000<1099511627776) (T:yF0 K F w b p 200000 v xs):vcall Wj #[oP b 0,dv,nI sort] w K:=by
 refine zg {loops:=[(2,[7])]} Tryz.func26 ?_;refine Dw.begin h hF hd hD hD1 λw1 Z=>?_;have H:Js 4=25600:=rfl;refine vloop_up 3 (λi u w'=> ∃W,u=[nI (3-(i:Int))]/\Dw F D w b w.heap.size v dv xs ds w' W/\W<=p+25600*i) ⟨p,rfl,Z,oM⟩ ?_;rintro i _ _ w2 C hi ⟨p2,rfl,f,a1⟩ hC;have hold:=f.old;have U:=f.new;simp only[push_cast];refine zb (λa=>?_) (λa=>?_)
 ·refine f.sub (c:=Js 4) (λY J=>l2Term_spec 4 oM f.rd (λx n=>gJ (hF x n) f.same.size) f.dcl hD (λx n=>gJ (hD1 x n) f.same.size) m B E oM oM oM J) λw3 X tv t G N L O l=>?_;obtain⟨cs,rfl,d⟩:=O.cells;have r:=d.weaken (F':=λx=>Nw w.heap.size x/\x<w3.heap.size) λx n hl=>⟨n,hl⟩;refine zj zn λb2 w4 a0 s V h4=>?_;refine stTerm h4 rfl (r.ext s) λw5 Q _ R=>?_;have z:Ext w3 w5:=Ext.then s Q λy hy=>by subst hy;omega
  have I:aggB za cs.length=true:=by rw[zF d];exact zc
  rw[R.ldAgg (t:=za) I];refine spec_TermMany_spec t (d.ext z).term λw6 A=>?_;have g:=z.trans A;have o:=G.ext g;have S:=R.ext A;simp only[push_cast];rw[S.ldAgg (t:=za) I];refine spec_TermSort_spec (dok_sized m) o.dcl (d.ext g).term λw7 k=>?_;have q:=o.ext k;have h7:=S.ext k;have j:C [nI (IntKind.i64.wrap (3-(i:Int)-1))] w7:=by
   rw[zl oM oM,show 3-(i:Int)-1=3-((i+1:Nat):Int) by omega];exact hC oM _ _ ⟨X,rfl,q,oM⟩
  simp only[push_cast];refine zb (λc=>?_) (λc=>?_)
  ·refine zb (λe=>?_) (λe=>?_)
   ·rw[h7.ldAgg (t:=za) I];exact q.fin (p0:=p) oM ((d.ext g).ext k) l T
   ·exact j
  ·exact j
 ·refine f.sub (c:=100) (λY J=>l2Leafy_spec f.rd (λx n=>gJ (hF x n) f.same.size) f.dcl hD m B E oM J) λw3 X tv t G N L O l=>?_;obtain⟨cs,rfl,d⟩:=O.cells;exact G.fin (p0:=p) oM d l T
theorem one_tms {ks:List M.Tm} {css:List (List Value)} (k:css.length=ks.length) (h:∀i,i<ks.length->TmR G w (css.getD i []) (ks.getD i default)):∀y,y∈css->∀c,c∈y->c.oneCell'=true:=λy g c a=>by
 obtain⟨i,hi,rfl⟩:=gu g;have f:=h i oM;rw[q0,gk hi] at f;obtain⟨j,he,b⟩:=f.inv;obtain⟨e,d,_⟩:=b;rw[show css[i]=(some css[i]).getD [] from rfl,he] at a;simp only[gg,gz,Gd] at a;rcases a with rfl|rfl|rfl|rfl|rfl
 ·rfl
 ·rfl
 ·rfl
 ·rfl
 ·exact d.one
abbrev Gl (n:Nat) (w:World) (lv:Value) (x:Nat):Prop:=n<=x/\x<w.heap.size/\lv.ownBlock≠some x
def LstT (n:Nat) (w:World) (lv:Value) (ts:List M.Tm):Prop:= ∃css,Own 0 5 ze w lv css/\css.length=ts.length/\(∀x,lv.ownBlock=some x->n<=x)/\∀i,i<ts.length->TmR (Gl n w lv) w (css.getD i []) (ts.getD i default)
theorem LstT.nil {n b:Nat} (h:Blk w b [] za) (c:n<=b):LstT n w (.slice (some ⟨b,0,none⟩) 0 0) []:=
 ⟨[],Blk.ownk (css:=[]) (by rw[qn];exact h) (by simp) rfl dC,rfl,λx a=>by have e:x=b:=(gd a).symm;omega,λi hi=>by simp at hi⟩
theorem LstT.same {n:Nat} {lv:Value} {ts:List M.Tm} {S:Nat->Prop} {w':World} (h:LstT n w lv ts) (hs:Same S w w') (c:∀x,S x->x<n\/w.heap.size<=x):LstT n w' lv ts:=by
 obtain⟨css,f,g,d,hi⟩:=h;have j:=hs.size;refine⟨css,f.same hs λx a e=>?_,g,d,λi b=>((hi i b).same hs λx a _ e=>?_).weaken λx a _=>⟨a.1,by have:=a.2.1;omega,a.2.2⟩⟩
 ·have:=d x a;have:=f.lt a;rcases c x e with h|h<;>omega
 ·have:=a.1;have:=a.2.1;rcases c x e with h|h<;>omega
theorem LstT.tms {n:Nat} {lv:Value} {ts:List M.Tm} (h:LstT n w lv ts):TmsR (λx=>n<=x) w lv ts:=by
 obtain⟨css,e,c,d,hi⟩:=h;exact⟨css,e.sl.weaken λx b _=>d x b,c,λi a=>(hi i a).weaken λx b _=>b.1⟩
theorem LstT.push {n:Nat} {lv tv:Value} {ts:List M.Tm} {t:M.Tm} (h:LstT n w lv ts) (L:n<=w.heap.size) (H:TermR (Gl n w lv) w tv t) (G:ts.length<=100)
  (F:∀w' c,Same (λx=>n<=x) w w'->(∀x,x<w.heap.size->lv.ownBlock≠some x->w'.heap[x]?=w.heap[x]?)->LstT n w' c (ts++[t])->K c w'):
  vbuildS ze 1 [(0,tv)] w λs w1=>vbi .append [ze,ze] ze [lv,s] w1 K:=by
 obtain⟨css,E,D,k,hi⟩:=h;refine U7 H λw1 sa d I v=>?_;obtain⟨f,u,j,g⟩:=v;have y:f.length=1:=j;refine vappend qg dC (E.ext d) u (one_tms j g) (gO _) oM oM λc w2 A b r=>?_;have J:=b.size;have m:∀x,lv.ownBlock=some x->x<w.heap.size:=λx a=>(E.lt a).2;have C:∀x,(Gl n w lv x\/x=w.heap.size)->lv.ownBlock≠some x:=λx a e=>by
  rcases a with a|a
  ·exact a.2.2 e
  ·have:=m x e;omega
 have o:∀x,(Gl n w lv x\/x=w.heap.size)->Gl n w2 c x:=λx a=>by
  have B:n<=x/\x<w1.heap.size:=by
   rcases a with a|a
   ·exact⟨a.1,by have:=a.2.1;omega⟩
   ·omega
  refine⟨B.1,oM,λe=>?_⟩;rcases r x e with h|h
  ·exact C x a h
  ·omega
 refine F w2 c (((Same.of_ext d).trans (b.mono λx _ a=>k x a))) (λx a z=>?_) ⟨css++f,A,by simp[D,y],λx a=>?_,λi p=>?_⟩
 ·rw[b.block x oM z,d.block x a (λh=>h)]
 ·rcases r x a with h|h
  ·exact k x h
  ·omega
 ·rw[V0] at p;by_cases q:i<ts.length
  ·rw[q0,gI oM,<-q0,q0 (l:=ts++[t]),gI q,<-q0];exact(((hi i q).ext d).same b λx a _ e=>a.2.2 e).weaken λx a _=>o x (.inl a)
  ·have e:i=ts.length:=by simp at p;omega
   subst e;rw[q0,gV oM,D,GP,<-q0,q0 (l:=ts++[t]),gV oM,GP,<-q0];exact((g 0 (by simp)).same b λx a _ e=>C x a e).weaken λx a _=>o x a
theorem same_news {b:Nat} {w1 w2:World} (h:Same (· =b) w w1) (a:Same (λx=>w.heap.size<=x) w1 w2):Same (· =b) w w2:=
 ⟨a.os.trans h.os,a.tape.trans h.tape,a.output.trans h.output,gL h.size a.size,λy d c=>by
  rw[a.block y (gJ d h.size) (λe=>oM)];exact h.block y d c⟩
theorem cost_step {p a b i c:Nat} (d:a<=p+101+c*i) (e:b<=a+c):b<=p+101+c*(i+1):=by
 rw[Nat.mul_succ];omega
theorem l8List_spec {b p:Nat} {v:Value} {xs:List Nat} (h:RdR F w b v xs p) (hF:∀x,F x->x<w.heap.size) (hp:p+3000000<1099511627776)
  (hK:∀w' p' dv lv ds ts,Same (· =b) w w'->RdR F w' b v xs p'->p'<=p+3000000->DclsR (λx=>w.heap.size<=x) w' dv ds->Dsn 9 ds->TmsR (λx=>w.heap.size<=x) w' lv ts->ts.length<=9->K (.tuple #[dv,lv]) w'):vcall Wl #[oP b 0] w K:=by
 refine zg {loops:=[(4,[5,6]),(13,[5])]} Tryz.func25 ?_;have lb:=h.blk.lt;refine l2Decls_spec3 h hF oM λw1 p1 dv ds ai au bv az B bo ah=>?_;have bz:=ai.size;have b4:Dsn 9 ds:=⟨by have:=B.1;omega,(jg0 B).2⟩;have a9:=az.weaken (F':=λx=>w.heap.size<=x/\x<w1.heap.size) λx d A=>⟨d,A⟩;have hlen:=B.1;refine vbuildS_row (xs:=[]) (us:=[]) (k:=5) yi yu zn rfl (by simp) dC λb2 w2 bm Q bw h2=>?_;have c0:=Q.size;have l2:LstT w1.heap.size w2 (.slice (some ⟨b2,0,none⟩) 0 0) []:=LstT.nil h2 oM;refine ints_lit (ns:=[1,2,3,4,2,0,8]) dC λb3 w3 bn L b5=>?_;have c1:=L.size;refine num_spec ((au.ext Q).ext L) b5 (by simp) dC oM (λx d e=>by subst d;omega) λw4 m a4 c2 av hm=>?_;obtain⟨m,rfl,bs⟩:∃m':Nat,m=m'/\m'<=8:=⟨m.toNat,by
  simp only[gg,gz,Gd] at hm;omega,by
  simp only[gg,gz,Gd] at hm;omega⟩
 clear hm;have am:Same (· =b) w1 w4:=((Same.of_ext Q).trans (Same.of_ext L)).trans a4;have l4:LstT w1.heap.size w4 (.slice (some ⟨b2,0,none⟩) 0 0) []:=(l2.same (Same.of_ext L) λx (d:False)=>d.elim).same a4 λx d=> .inl oM;have d4:=((a9.ext Q).ext L).same a4 λx d _ e=>oM
 refine vloop_up m (λi u w'=> ∃lv ts p',u=[lv,nI ((m-i:Nat):Int)]/\Same (· =b) w w'/\w1.heap.size<=w'.heap.size/\RdR F w' b v xs p'/\p'<=p+101+200000*i/\DclsR (λx=>w.heap.size<=x/\x<w1.heap.size) w' dv ds/\LstT w1.heap.size w' lv ts/\ts.length=i/\∀t,t∈ts->t.ks.length<=3)
  ⟨_,[],p1+1,rfl,ai.trans am,am.size,av,oM,d4,l4,rfl,λt ht=>by cases ht⟩ ?_
 rintro i _ _ w5 C hi ⟨lv,ts,p5,rfl,aj,c3,a7,ba,d5,l5,b8,ab⟩ hC;have aq:∀x,F x->x<w5.heap.size:=λx d=>by have:=hF x d;omega
 have hD:∀x,(w.heap.size<=x/\x<w1.heap.size)->x≠b:=λx d e=>oM
 simp only[push_cast];refine zb (λa=>?_) (λa=>?_)
 ·have b6:i<m:=oM;refine l8Some_spec a7 aq d5 hD (λx d=>oM) B oM oM oM λG p6 tv t z q bb be b7=>?_;have bf:=z.size;have O:LstT w1.heap.size G lv ts:=l5.same z λx d=> .inl oM;have E:∀x,lv.ownBlock=some x->x<w5.heap.size:=λx d=>by
   obtain⟨_,ho,_⟩:=l5;exact(ho.lt d).2
  refine LstT.push O oM ((be.weaken (F':=λx=>w5.heap.size<=x/\x<G.heap.size) λx d A=>⟨d,A⟩).weaken λx d _=>⟨oM,d.2,λe=>by have:=E x e;omega⟩) oM λW H f _ l7=>?_;rw[show IntKind.i64.wrap (((m-i:Nat):Int)-1)=((m-(i+1):Nat):Int) by rw[zl oM oM];omega];have D:=f.size;have S:p6<=p+101+200000*(i+1):=cost_step ba bb;refine hC b6 _ _ ⟨H,ts++[t],p6,rfl,same_news (aj.trans z) (f.mono λx _ d=>oM),oM,q.same f oM (λx d _ e=>by have:=hF x d;omega),S,(d5.same z λx d _ e=>oM).same f (λx d _ e=>oM),l7,by simp[b8],λt' bd=>?_⟩;rcases gp.1 bd with h|h
  ·exact ab t' h
  ·rw[gy.1 h];exact b7
 ·refine pick_spec a7 oM oM λG k z bf q hk _=>?_;have O:LstT w1.heap.size G lv ts:=l5.same z λx d=> .inl oM;have d6:=d5.same z λx d _ e=>oM;have s6:=aj.trans z;have Y:∀x,F x->x<G.heap.size:=λx d=>by have:=hF x d;omega
  have s:∀{I:World} {p9:Nat} {al:Value} {ts9:List M.Tm},Same (· =b) w I->RdR F I b v xs p9->p9<=p+3000000->DclsR (λx=>w.heap.size<=x/\x<w1.heap.size) I dv ds->LstT w1.heap.size I al ts9->ts9.length<=9->K (.tuple #[dv,al]) I:=λhs hR ag hd A hn=>
   hK _ _ dv _ ds _ hs hR ag (hd.weaken λx d _=>d.1) b4 (A.tms.weaken λx d _=>oM) hn
  have E:∀x,lv.ownBlock=some x->x<G.heap.size:=λx d=>by
   obtain⟨_,ho,_⟩:=O;exact(ho.lt d).2
  simp only[push_cast];refine zb (λa0=>?_) (λa0=>?_)
  ·have bx:1<=(ds.getD 0 (M.nada,0)).2/\(ds.getD 0 (M.nada,0)).2<=4/\_:=B.2 0 ah;simp(disch:=exact oS) only[push_cast,d6.iaddr,PQ]
   try simp(disch:=exact oS) only[push_cast,PQ,d6.load1]
   refine l2Some_spec q Y d6 hD (λx d=>oM) B oM oM oM λW p7 tv t f r S N _=>?_;have D:=f.size;refine LstT.push (O.same f λx d=> .inl oM) oM ((N.weaken (F':=λx=>G.heap.size<=x/\x<W.heap.size) λx d A=>⟨d,A⟩).weaken λx d _=>⟨oM,d.2,λe=>by have:=E x e;omega⟩) oM λw8 H o _ l8=>?_;exact s (same_news (s6.trans f) (o.mono λx _ d=>oM)) (r.same o oM (λx d _ e=>by have:=hF x d;omega)) oM ((d6.same f λx d _ e=>oM).same o (λx d _ e=>oM)) l8 (by simp;omega)
  refine zb (λa1=>?_) (λa1=>?_)
  ·refine l2Spoil_spec q Y d6 hD (λx d=>oM) B oM λW p7 bl bk f r S b0 ad=>?_;have D:=f.size;have aa:=b0.weaken (F':=λx=>G.heap.size<=x/\x<W.heap.size) λx d A=>⟨d,A⟩;refine l2Spoil_spec2 (n:=7) r (λx d=>by have:=hF x d;omega) aa (λx d e=>oM) (λx d=>d.2) ad oM oM λw8 p8 ao an o Z bc b1 ae=>?_;have T:=o.size;exact hK _ _ ao _ an _ ((s6.trans f).trans o) Z oM (b1.weaken λx d _=>oM) ae (((O.same f λx d=> .inl oM).same o λx d=> .inl oM).tms.weaken λx d _=>oM) oM
  refine zb (λa2=>?_) (λa2=>?_)
  ·refine vloop_up 9 (λj u w'=> ∃H V,u=[H]/\Same (· =b) w w'/\w1.heap.size<=w'.heap.size/\RdR F w' b v xs (p5+1)/\DclsR (λx=>w.heap.size<=x/\x<w1.heap.size) w' dv ds/\LstT w1.heap.size w' H V/\V.length<=9/\j<=V.length) ⟨lv,ts,rfl,s6,oM,q,d6,O,oM,oM⟩ ?_;rintro j _ _ W C' hj ⟨H,V,rfl,f,D,r,d7,l7,b9,bp⟩ ap;simp only[push_cast];rw[l7.tms.len ZF];simp only[push_cast];refine zb (λc=>?_) (λc=>?_)
   ·refine LstT.push l7 oM (t:= .mk 24 0 0 ⟨#[]⟩ []) (TmR.term (QG 24 0 0 _)) oM λw8 bh o _ l8=>?_;have T:=o.size;exact ap oM _ _ ⟨bh,_,rfl,same_news f (o.mono λx _ d=>oM),oM,r.same o oM (λx d _ e=>by have:=hF x d;omega),d7.same o (λx d _ e=>oM),l8,by simp;omega,by simp;omega⟩
   ·exact s f r oM d7 l7 oM
  refine zb (λa3=>?_) (λa3=>?_)
  ·rw[O.tms.len ZF];simp only[push_cast];refine zb (λc=>?_) (λc=>?_)
   ·obtain⟨css,ho,ay,af,a8⟩:=O;have h0:0<ts.length:=oM;have ax:=a8 0 h0;have bq:(ts.getD 0 default).ks.length<=3:=ab _ (by rw[q0,gk h0];exact GO h0);have eg:aggB za 5=true:=zc;have gA:∀{I:World},Own 0 5 ze I lv css->∀{K':oK},K' (.pointer (some (eaddr lv 5 0))) I->y5 ze lv (nI 0) I K':=λR K' ar=>by
     simp(disch:=exact oS) only[push_cast,R.sl.iaddr,PQ];exact ar
    refine gA ho ?_;rw[ho.sl.ldAgg eg oM];have g:∀x,lv.ownBlock=some x->w1.heap.size<=x/\x<G.heap.size:=λx d=>⟨af x d,E x d⟩;have bj:w1.heap.size<=G.heap.size:=oM;have hA:∀{x:Nat} {m:Nat},(Gl w1.heap.size G lv x\/G.heap.size<=x)->x<m->G.heap.size<=m->w1.heap.size<=x/\x<m/\lv.ownBlock≠some x:=λd hm br=>by
     rcases d with d|d
     ·exact⟨d.1,hm,d.2.2⟩
     ·exact⟨oM,hm,λe=>by have:=g _ e;omega⟩
    refine l2Bent_spec q Y ax.term (λx d e=>by have:=d.1;omega) (λx d=>d.2.1) oM oM λW p7 v7 t7 f r S N b9=>?_;have D:=f.size;replace N:TermR (Gl w1.heap.size W lv) W v7 t7:=N.weaken λx d A=>hA d A D;refine l2Bent_spec r (λx d=>by have:=hF x d;omega) N (λx d e=>by have:=d.1;omega) (λx d=>d.2.1) oM oM λw8 p8 v8 t8 o Z bc a5 bt=>?_;have T:=o.size;have hB:∀{x:Nat} {w w':World},G.heap.size<=w.heap.size->w.heap.size<=w'.heap.size->(Gl w1.heap.size w lv x\/w.heap.size<=x)->x<w'.heap.size->Gl w1.heap.size w' lv x:=λh6 hw d hm=>by
     rcases d with d|d
     ·exact⟨d.1,hm,d.2.2⟩
     ·exact⟨oM,hm,λe=>by have:=g _ e;omega⟩
    replace a5:TermR (Gl w1.heap.size w8 lv) w8 v8 t8:=a5.weaken λx d A=>hB D T d A;refine l2Bent_spec Z (λx d=>by have:=hF x d;omega) a5 (λx d e=>by have:=d.1;omega) (λx d=>d.2.1) oM oM λI p9 v9 t9 ak aw ag a6 bu=>?_;have bg:=ak.size;replace a6:TermR (Gl w1.heap.size I lv) I v9 t9:=a6.weaken λx d A=>hB (gL D T) bg d A;obtain⟨X,rfl,J⟩:=a6.cells;have U:=(f.trans o).trans ak;have R:=ho.same U λx d e=>by have:=g x d;omega
    refine gA R ?_;refine own_stEl R oM (zF J) (one_tms (css:=[X]) (ks:=[t9]) rfl (λi hi=>by
     have:i=0:=(by simpa using hi);subst this;exact J) X (by simp)) eg oM λw10 ac y bi=>?_
    refine s (ts9:=ts.set 0 t9) (same_news (s6.trans U) (y.mono λx _ d=>by have:=g x d;omega)) (aw.same y (λe=>by have:=g _ e;omega) (λx d _ e=>by have:=hF x d;have:=g x e;omega)) oM ((d6.same U λx d _ e=>oM).same y (λx d _ e=>by have:=g x e;omega)) ⟨css.set 0 X,ac,by simp[ay],af,λi hi=>?_⟩ (by simp;omega);rw[pg] at hi;rw[q0,PX,q0 (l:=ts.set 0 t9),PX];by_cases e0:0=i
    ·subst e0;rw[X0 rfl,X0 rfl,X0 oM,X0 oM];exact(J.same y λx d _ e=>d.2.2 e).weaken λx d _=>⟨d.1,by have:=d.2.1;omega,d.2.2⟩
    ·rw[y1 e0,y1 e0,<-q0,<-q0];exact(((a8 i hi).same U λx d _ e=>by have:=d.1;omega).same y λx d _ e=>d.2.2 e).weaken λx d _=>⟨d.1,by have:=d.2.1;omega,d.2.2⟩
   ·exact s s6 q oM d6 O oM
  ·exact s s6 q oM d6 O oM
end
section
variable {w:World} {K:oK} {D F F' G Fr Fx Fy X:Nat->Prop} {n N b:Nat} {gs:M.Gs} {v dv tv lv:Value} {ls ls':List Value} {xss yss:List (List Int)} {xs ys:List Int} {ds:List M.Dcl} {t:M.Tm} {ts:List M.Tm} {ar ab:Addr} {k m:Int} {st:Option M.Gs}
theorem lit_row {w2:World} {us:List Int} {xs:List Value} {K:oK} (k:xs=us.map (λx=>nI x)) (f:us.length<=8) (j:RowsR N (λb=>b<w2.heap.size) w2 ls xss) (i:ls.length=xss.length)
  (g:∀w3 v,Ext w2 w3->RowsR N (λb=>b<w3.heap.size) w3 (ls++[v]) (xss++[us])->(∃o l c,v= .slice o l c)->K v w3):vbuildS zi xs.length (xs.zipIdx.map λp=>(p.2,p.1)) w2 K:=by
 refine lit_ints k f λw3 b3 h a m d=>?_;refine g w3 _ a (RowsR.new (j.weaken λb n _ _=>oM) i a d (λb e=>?_) λb e=>d.lt e) ⟨_,_,_,rfl⟩;have:b=b3:=(gd e).symm;omega
theorem lits_fin {w2:World} {xs:List Value} (g:xs.length<=8) (k:xs.length=xss.length) (m:∀x,x∈xs->∃o l c,x= .slice o l c) (f:RowsR N (λb=>b<w2.heap.size) w2 xs xss) (h:∀w' v,Ext w2 w'->Fresh N w' v xs xss->K v w'):
  vbuildS zK xs.length (xs.zipIdx.map λp=>(p.2,p.1)) w2 K:=by
 refine lit_lists m g λw3 b3 j a n d=>?_;have r:=f.nle;refine h w3 _ a ⟨d,k,λb i=>?_,?_⟩
 ·have:b=b3:=(gd i).symm;omega
 ·exact(f.ext a).weaken λb q _ _ e=>by
   have:b3=b:=gd e;omega
theorem gl_xor {a b k:Int} {K:oK} (u:∀w' v ls,Ext w w'->Fresh w.heap.size w' v ls [[a,b,-k],[-a,-b,-k],[-a,b,k],[a,-b,k]]->ls.length=4->K v w'):
  vbuildS zi 3 [(0,nI a),(1,nI b),(2,nI (-k))] w λt1 w1=>vbuildS zi 3 [(0,nI (-a)),(1,nI (-b)),(2,nI (-k))] w1 λt2 w2=>
   vbuildS zi 3 [(0,nI (-a)),(1,nI b),(2,nI k)] w2 λt3 w3=>vbuildS zi 3 [(0,nI a),(1,nI (-b)),(2,nI k)] w3 λt4 A=>vbuildS zK 4 [(0,t1),(1,t2),(2,t3),(3,t4)] A K:=by
 refine lit_row (N:=w.heap.size) (ls:=[]) (xss:=[]) (xs:=[nI a,nI b,nI (-k)]) (us:=[a,b,-k]) rfl (by simp) (RowsR.nil (gx _)) rfl λB v9 o p q=>?_;refine lit_row (xs:=[nI (-a),nI (-b),nI (-k)]) (us:=[-a,-b,-k]) rfl (by simp) p rfl λw10 v10 c h l=>?_;refine lit_row (xs:=[nI (-a),nI b,nI k]) (us:=[-a,b,k]) rfl (by simp) h rfl λy v11 d i m=>?_;refine lit_row (xs:=[nI a,nI (-b),nI k]) (us:=[a,-b,k]) rfl (by simp) i rfl λz v12 e j n=>?_;refine lits_fin (xs:=[v9,v10,v11,v12]) (by simp) rfl (λx t=>?_) j λs r f g=>u s r _ (o.trans (c.trans (d.trans (e.trans f)))) g rfl;simp only[gg,gz,Gd] at t;rcases t with rfl|rfl|rfl|rfl
 ·exact q
 ·exact l
 ·exact m
 ·exact n
theorem gl_and {a b k:Int} {K:oK} (r:∀w' v ls,Ext w w'->Fresh w.heap.size w' v ls [[a,-k],[b,-k],[-a,-b,k]]->ls.length=3->K v w'):
  vbuildS zi 2 [(0,nI a),(1,nI (-k))] w λt1 w1=>vbuildS zi 2 [(0,nI b),(1,nI (-k))] w1 λt2 w2=>
   vbuildS zi 3 [(0,nI (-a)),(1,nI (-b)),(2,nI k)] w2 λt3 w3=>vbuildS zK 3 [(0,t1),(1,t2),(2,t3)] w3 K:=by
 refine lit_row (N:=w.heap.size) (ls:=[]) (xss:=[]) (xs:=[nI a,nI (-k)]) (us:=[a,-k]) rfl (by simp) (RowsR.nil (gx _)) rfl λt v9 l m n=>?_;refine lit_row (xs:=[nI b,nI (-k)]) (us:=[b,-k]) rfl (by simp) m rfl λw10 v10 c g i=>?_;refine lit_row (xs:=[nI (-a),nI (-b),nI k]) (us:=[-a,-b,k]) rfl (by simp) g rfl λs v11 d h j=>?_;refine lits_fin (xs:=[v9,v10,v11]) (by simp) rfl (λx q=>?_) h λp o e f=>r p o _ (l.trans (c.trans (d.trans e))) f rfl;simp only[gg,gz,Gd] at q;rcases q with rfl|rfl|rfl
 ·exact n
 ·exact i
 ·exact j
structure CnfS (N b:Nat) (w:World) (m:Int) (lv:Value) (ls:List Value) (xss:List (List Int)):Prop where
 blk:Blk w b [nI m,lv] zr
 own:OwnV zK w lv ls
 len:ls.length=xss.length
 rows:RowsR N (λx=>lv.ownBlock≠some x/\x≠b) w ls xss
 new:∀x,lv.ownBlock=some x->N<=x/\x≠b
 lo:N<=b
theorem CnfS.ext {w':World} (h:CnfS N b w m lv ls xss) (he:Ext w w'):CnfS N b w' m lv ls xss:=⟨h.blk.ext he,h.own.ext he,h.len,h.rows.ext he,h.new,h.lo⟩
theorem k90 (h:RowsR N Fr w ls xss) (d:ls.length=xss.length):∀u,u∈ls->u.oneCell'=true:=λu hu=>by
 obtain⟨j,b,rfl⟩:=gu hu;have a:=h.own j (by rw[<-d];exact b);obtain⟨o,c,e,_⟩:=a.ints.shape;rw[q0,gk b,Gx] at e;rw[e];rfl
theorem CnfS.add {q:World} {v9:Value} {M:Nat} {K:oK} (h:CnfS N b w m lv ls xss) (he:Ext w q) (n:Fresh M q v9 ls' yss) (V:w.heap.size<=M) (a:ls.length<=100000) (B:ls'.length<=1000)
  (J:∀w' F,Same (λx=>x=b\/lv.ownBlock=some x) q w'->CnfS N b w' m F (ls++ls') (xss++yss)->K undef w'):
  vbi .append [zK,zK] zK [lv,v9] q λt w1=>zS zK (oP b 1) t w1 K:=by
 have z9:=he.size;have Q:=h.blk.lt;have A:∀x,lv.ownBlock=some x->x<w.heap.size:=λx p=>h.own.lt p;refine OwnV.app (us:=ls') (h.own.ext he) Y2 n.own.vals (k90 n.rows n.len) oM oM λv10 w10 g d k=>?_;have T:=d.size;have s:=(h.blk.ext he).same d λe=>(h.new _ e).2 rfl;refine s.st (i:=1) (v:=v10) ?_ ?_ Qj (by rfl) λG f H u=>?_
 ·obtain⟨o,c,e,_⟩:=g.vals.shape;rw[e];rfl
 ·obtain⟨o,c,e,_⟩:=g.vals.shape;rw[e];rfl
 have U:=f.size;have y:=h.rows.ext he;have C:=y.nle;have E:RowsR N (λx=>lv.ownBlock≠some x/\x≠b) q ls' yss:=by
  have a:=n.rows;refine⟨C,a.own,λj x O p=>?_,a.dj⟩;have B:=(a.sub j x O p).2;have:=h.rows.nle;exact⟨⟨λe=>by have:=A x e;omega,λe=>oM⟩,oM⟩
 have D:=y.app h.len E n.len λR S x a B L e=>by
  have:=(h.rows.own R a).lt L;have:=(n.rows.sub S x B e).2;omega
 have l:∀x,v10.ownBlock=some x->N<=x/\x≠b:=λx p=>by
  rcases k x p with r|r
  ·exact h.new x r
  ·exact⟨oM,λe=>oM⟩
 refine J G v10 ((d.mono λx _ h=> .inr h).trans (f.mono λx _ h=> .inl h)) ⟨u,g.same f λx p e=>(l x p).2 e,by rw[V0,V0,h.len,n.len],?_,l,h.lo⟩;have z:=D.weaken (F':=λx=>(lv.ownBlock≠some x/\x≠b)/\x<q.heap.size) λx a _ I=>⟨a,I⟩;refine((z.same d λx a _ e=>a.1.1 e).same f λx a _ e=>a.1.2 e).weaken λx a _ _=>⟨λe=>?_,a.1.2⟩;rcases k x e with r|r
 ·exact a.1.1 r
 ·omega
theorem CnfS.out {b2:Nat} {a0 c0:Value} {K:oK} (h:CnfS N b w m lv ls xss) (p:Blk w b2 [a0,c0] zr) (u:b2<N) (q:∀w',Same (· =b2) w w'->CnfO N w' lv ls ⟨m,xss⟩->K (.agg ⟨[nI m,lv]⟩) w'):
  zu zr (oP b 0) w λt45 g=>zS zr (oP b2 0) t45 g λ_ i=>vlv zr (oP b2 0) i K:=by
 obtain⟨o,c,f,_⟩:=h.own.vals.shape;generalize (ls.map λx=>[x]).length=l at f;subst f;rw[h.blk.ldAgg (t:=zr) zE];refine p.stAgg (cs':=[nI m,.slice o l c]) rfl zE net_one λs d r j=>?_;rw[j.lv (t:=zr) zE];refine q s d ⟨h.own.same d λx k e=>by have:=(h.new x k).1;omega,h.len,λx k=>(h.new x k).1,?_⟩;have a:=(h.rows.weaken (F':=λx=>(Value.slice o l c).ownBlock≠some x/\N<=x) λx a n _=>⟨a.1,n⟩).same d λx a _ e=>by have:=a.2;omega
 exact a.weaken λx a _ _=>a.1
theorem l6Many_spec {x:Value} (e:GatesR Fx w x gs) (j:n<=8) (i:gs.length<=600) (f:∀w',Ext w w'->K (nI (1+n+gs.length:Nat)) w'):vcall Wt #[.agg ⟨[nI n,x]⟩] w K:=by
 refine zg {} Tryz.func130 ?_;obtain⟨o,c,d,_⟩:=e.shape;have hlen:∀(w':World) (K:oK),vbi .len [zA] y2 [x] w' K=K (nI gs.length) w':=λw' K=>by rw[Sl.len e qb,x20]
 generalize (gs.map yj).length=l at d;subst d;refine zm λb1 w1 g b h a=>?_;simp(disch:=exact oS) only[push_cast,a.ld0,a.ld1,hlen,zl];have:=f w1 b;simp only[push_cast] at this;exact this
theorem l6Cnf_spec {x:Value} (L:GatesR Fx w x gs) (hg:M.NetG n gs) (hn:n<=8) (hK:∀w' lv ls,Ext w w'->CnfO w.heap.size w' lv ls (M.netC n gs [])->K (.agg ⟨[nI (1+n+gs.length:Nat),lv]⟩) w'):vcall zh0 #[.agg ⟨[nI n,x]⟩] w K:=by
 refine zg {loops:=[(3,[4])]} Tryz.func97 ?_;have V:=hg.few;have af:=L.shape;obtain⟨o,c,hv,_⟩:=af;have hlen:∀(w':World) (K:oK),vbi .len [zA] y2 [x] w' K=K (nI gs.length) w':=λw' K=>by rw[Sl.len L qb,x20]
 generalize (gs.map yj).length=l at hv;subst hv;refine zm λb1 w1 aj S an a3=>?_;refine zj xq λb2 w2 ak F ao a4=>?_;have e2:=S.trans F;have z:=a3.ext F;rw[z.ldAgg (t:=zx) zY];refine l6Many_spec (Sl.ext L e2) hn V λw3 q=>?_;have e3:=e2.trans q;have z1:=S.size;have z2:=F.size;have z3:=q.size;obtain⟨m,hm⟩:∃m:Int,m=(1+n+gs.length:Nat):=⟨_,rfl⟩;rw[<-hm];refine lit_row (N:=w3.heap.size) (ls:=[]) (xss:=[]) (xs:=[nI 1]) (us:=[1]) rfl (by simp) (RowsR.nil (gx _)) rfl λw4 v4 T ab ac=>?_;refine lits_fin (xs:=[v4]) (xss:=[[1]]) (by simp) rfl (λy s=>by rw[gy.1 s];exact ac) ab λw5 v5 U j=>?_;have z4:=T.size;have z5:=U.size;obtain⟨Q,D,Z,_⟩:=j.own.vals.shape;generalize ([v4].map λx=>[x]).length=O at Z;subst Z;rw[show ∀K:oK,yl zr [(0,nI m),(1,.slice Q O D)] w5 K=K (.agg ⟨[nI m,.slice Q O D]⟩) w5 from λK=>zT QV (us:=[[nI m],[.slice Q O D]]) rfl rfl];refine zj xq λb6 w6 al a7 ap a5=>?_;refine a5.stAgg (cs':=[nI m,.slice Q O D]) rfl zE net_one λw7 ad aq a6=>?_;have E:Ext w5 w7:=Ext.then a7 ad λy s=>by subst s;omega
 have a0:∀b,(Value.slice Q O D).ownBlock=some b->b<w5.heap.size:=λb hb=>j.own.lt hb;have h0:CnfS w3.heap.size b6 w7 m (.slice Q O D) [v4] [[1]]:=
  ⟨a6,j.own.ext E,rfl,((j.rows.weaken (F':=λx=>(Value.slice Q O D).ownBlock≠some x/\x≠b6) λx h1 _ h3=>⟨h1,oM⟩).ext E),λx L=>⟨j.new x L,by have:=a0 x L;omega⟩,oM⟩
 have a2:=T.trans (U.trans E);refine vloop_up gs.length (λi u w'=>u=[nI i]/\Ext w3 w'/\∃lv ls,CnfS w3.heap.size b6 w' m lv ls ([1]::M.gatesC n (gs.take i) 0)) ⟨rfl,a2,_,_,h0⟩ ?_;rintro i _ _ v C hi ⟨rfl,e,lv,ls,A⟩ hC;have d:=(z.ext q).ext e;have r:GatesR Fx v (.slice o l c) gs:=Sl.ext L (e3.trans e);simp(disch:=exact oS) only[push_cast,d.ld0,d.ld1,hlen];refine zb (λa=>?_) (λa=>?_)
 ·have k:i<gs.length:=oM;obtain⟨ha,hb⟩:=gpos hg hn k;have a8:=gatesC_take (n:=n) k;have H:(gs.map yj).getD i []=yj gs[i]:=zR0 k;have J:i<(gs.map yj).length:=by rw[Q1];exact k
  generalize gs[i]=g at*;have l0:∀K:oK,zu Zr (.pointer (some ((eaddr (.slice o l c) 3 i).add 0))) v K=K (.bool g.x) v:=λK=>Sl.ldField r Ya0 J (by rw[H];rfl);have l1:∀K:oK,zu y2 (.pointer (some ((eaddr (.slice o l c) 3 i).add 1))) v K=K (nI g.a) v:=λK=>Sl.ldField r Wh J (by rw[H];rfl);have l2:∀K:oK,zu y2 (.pointer (some ((eaddr (.slice o l c) 3 i).add 2))) v K=K (nI g.b) v:=λK=>Sl.ldField r Wh J (by rw[H];rfl);simp(disch:=first|(simp only[push_cast])|(simp only[Q1];omega)|omega) only[push_cast,d.ld0,d.ld1,r.iaddr,l0,l1,l2,zl];have hk:(2+(n:Int)+i).natAbs<=100000:=oM;have am:ls.length<=2401:=by
   have h1:=Zk n (gs.take i) 0;have h2:(gs.take i).length=i:=by rw[gi];omega
   rw[A.len,gD];omega
  have ar:=e.size;have W:∀{ys:List (List Int)},M.gateC (2+n+i) g=ys->[1]::M.gatesC n (gs.take i) 0++ys=[1]::M.gatesC n (gs.take (i+1)) 0:=λh=>by rw[a8,<-h];rfl
  have fin:∀{p w10:World} {v9:Value} {ls':List Value} {ys:List (List Int)},Ext v p->Fresh v.heap.size p v9 ls' ys->ls'.length<=4->M.gateC (2+n+i) g=ys->vbi .append [zK,zK] zK [lv,v9] p λt w1=>zS zK (oP b6 1) t w1 λ_ a1=>C [nI ((i:Int)+1)] a1:=λ{p w10 v9 ls' ys} f hf h4 ag=>by
   refine A.add f hf (gx _) oM oM λau ai Y B=>?_;refine hC k _ _ ⟨by simp,Ext.then (e.trans f) Y λy s=>?_,ai,ls++ls',?_⟩
   ·rcases s with rfl|s
    ·exact A.lo
    ·exact(A.new y s).1
   ·rw[W ag] at B;exact B
  refine zp (λI=>?_) (λI=>?_)
  ·simp(disch:=exact oS) only[push_cast,A.blk.ld1,neg_wrap ha,neg_wrap hb,neg_wrap hk];simp only[gZ];exact gl_xor λp v9 ah f G h4=>fin (w10:=p) f G oM (by unfold M.gateC;rw[X0 I])
  ·simp(disch:=exact oS) only[push_cast,A.blk.ld1,neg_wrap ha,neg_wrap hb,neg_wrap hk];simp only[gZ];exact gl_and λp v9 ah f G h4=>fin (w10:=p) f G oM (by unfold M.gateC;rw[y1 (by simp[I])])
 ·have a9:i=gs.length:=oM;subst a9;rw[gE] at A;have R:=(a4.ext q).ext e;refine A.out R oM λp ae hO=>?_;have X:Ext w p:=Ext.then (e3.trans e) ae λy s=>by subst s;omega
  rw[hm];refine hK p lv ls X ?_;have h1:=hO.down (M:=w.heap.size) oM;unfold M.netC;have aa:(1+n+gs.length:Int)=m:=by rw[hm];simp
  rw[gH,aa];exact h1
theorem CnfS.of {c:M.Cnf} {K:oK} (h:CnfO N w lv ls c) (n:∀w' b,b=w.heap.size->Ext w w'->CnfS N b w' c.many lv ls c.list->K (oP b 0) w'):
  qo zr w λt4 w1=>zS zr t4 (.agg ⟨[nI c.many,lv]⟩) w1 λ_ w2=>K t4 w2:=by
 obtain⟨o,cc,d,_⟩:=h.lst.vals.shape;generalize (ls.map λx=>[x]).length=l at d;subst d;have t:=h.rows.nle;refine zj xq λb w1 g i q f=>?_;refine f.stAgg (cs':=[nI c.many,.slice o l cc]) rfl zE net_one λw2 k r m=>?_;have a:Ext w w2:=Ext.then i k λy p=>by subst p;omega
 have j:∀x,(Value.slice o l cc).ownBlock=some x->x<w.heap.size:=λx e=>h.lst.lt e;exact n w2 b g a ⟨m,h.lst.ext a,h.len,(h.rows.weaken (F':=λx=>(Value.slice o l cc).ownBlock≠some x/\x≠b) λx f _ s=>⟨f,oM⟩).ext a,λx e=>⟨h.dl x e,by have:=j x e;omega⟩,oM⟩
theorem l8All_spec (l:y30 ds) (q:DclsR Fx w dv ds) (o:TmsR Fy w tv ts) (p:∀w',Ext w w'->K (.bool (Qd ds ts)) w'):vcall z40 #[dv,tv] w K:=by
 refine zg {loops:=[(4,[5])],cuts:=[(8195,[])]} Tryz.func30 ?_;have z:=o.small;have no: ¬(ts.length<=8/\M.declOk ds=true/\∀t,t∈ts->M.tsort ds t=0)->∀w',Ext w w'->K (.bool false) w':=λh w' he=>by
  have:=p w' he;rwa[show Qd ds ts=false by rw[GY];exact λe=>h (all8_iff.1 e)] at this
 refine zq (λu w'=>u=[]/\Ext w w'/\M.declOk ds=true/\ts.length<=8) (λJ y=>?_) ?_
 ·refine spec_DeclOk_spec q l λw1 b=>?_;simp only[push_cast];refine zp (λh=>no (λe=>by rw[e.2.1] at h;cases h) _ b) (λh=>?_);simp only[push_cast,(o.ext b).len];refine zb (λr=>no (λe=>by have:=e.1;omega) _ b) (λr=>y _ _ ⟨rfl,b,by simpa using h,oM⟩)
 rintro _ _ w1 ⟨rfl,b,n,s⟩;refine vloop_up ts.length (λi u w'=>u=[nI i]/\Ext w w'/\∀j,j<i->M.tsort ds (ts.getD j default)=0) ⟨rfl,b,λj m=>absurd m oM⟩ ?_;rintro i _ _ w2 C hi ⟨rfl,c,d⟩ v;have g:=o.ext c;simp only[push_cast,g.len];refine zb (λa=>?_) (λa=>?_)
 ·have f:i<ts.length:=oM;simp(disch:=exact oS) only[push_cast,g.iaddr];refine g.load zc f λx A=>?_;refine spec_TermSort_spec l (q.ext c) A λw3 k=>?_;simp only[push_cast];refine zb (λh=>no (λe=>h (e.2.2 _ (M.getD_mem f _))) _ (c.trans k)) (λh=>?_);rw[inc64' oM];refine v f _ _ ⟨rfl,c.trans k,λj m=>?_⟩;by_cases e:j<i
  ·exact d j e
  ·have:j=i:=oM;subst this;exact Gf h
 ·have:=p w2 c;rwa[all8_iff.2 ⟨s,n,λt hm=>by
   obtain⟨j,m,rfl⟩:=gu hm;have:=d j oM;rwa[q0,gk m] at this⟩] at this
def XY (rs:List (List Int)):List Int:=rs.map λr=>r.getD 0 0
theorem l8Cnf_spec (ad:Qd ds ts=true) (hd:DclsR Fx w dv ds) (ht:TmsR Fy w tv ts)
  (hK:∀w' lv ls,Ext w w'->CnfO w.heap.size w' lv ls (cnfE ds ts).1->K (.tuple #[.agg ⟨[nI (cnfE ds ts).1.many,lv]⟩,.bool (decide ((cnfE ds ts).2=0))]) w'):vcall z30 #[dv,tv] w K:=by
 refine zg {loops:=[(4,[7,8]),(13,[11])]} Tryz.func60 ?_;obtain⟨h8,E,Y⟩:=all8_iff.1 ad;obtain⟨bn,an⟩:=bits_nat E;have ch:=ht.small;refine zj xq λb4 w1 ca a6 bw aj=>?_;refine sbits8_spec (k:=ds.length) E (gx _) (by rw[gE];exact hd.ext a6) λw2 a7=>?_;rw[M.bitT_all,bn];simp only[push_cast,jp0,ZE0];have e2:=a6.trans a7;refine zj xw λL w3 cc ao ci bl=>?_;have ay:MkR (M.bits ds).toNat (λb=>b=L) w3 [nI ((M.bits ds).toNat:Nat),.slice none 0 0,.bool true] (some []):=⟨none,0,0,rfl,GatesR.nil,by simp⟩;refine bl.stAgg (cs':=[nI ((M.bits ds).toNat:Nat),.slice none 0 0,.bool true]) rfl j3 ay.one λw4 bu cj V=>?_;have bj:Ext w2 w4:=Ext.then ao bu λy v=>by subst v;omega
 have z1:=a6.size;have z2:=a7.size;have z3:=ao.size;refine yf xd yZ λb5 w5 cb ap ck bk=>?_;have ah:=bj.trans ap;have e5:=e2.trans ah;have bt:OwnI zi w5 (.slice (some ⟨b5,0,none⟩) 0 0) []:=Blk.own1 (t:=zi) (cs:=[]) (by rw[qL];exact bk) (gO _) rfl rfl oM;have cm:=V.lt;have bf:∀b,(Value.slice (some ⟨b5,0,none⟩) 0 0).ownBlock=some b->b=b5:=λb q=>(gd q).symm;have az:MkR (M.bits ds).toNat (λb=>b=L\/(Value.slice (some ⟨b5,0,none⟩) 0 0).ownBlock=some b) w5 [nI ((M.bits ds).toNat:Nat),.slice none 0 0,.bool true] (some []):=⟨none,0,0,rfl,GatesR.nil,by simp⟩;refine vloop_up ts.length (λi u w'=> ∃mv cs st rs,u=[mv,nI i]/\Ext w2 w'/\Blk w' L cs zB/\MkR (M.bits ds).toNat (λb=>b=L\/mv.ownBlock=some b) w' cs st/\M.Bd.Out (M.bits ds).toNat (M.seqB ((ts.take i).map (M.termB ds))) (some []) st rs/\rs.length=i/\OwnI zi w' mv (XY rs)/\∀b,mv.ownBlock=some b->w2.heap.size<=b/\b≠L)
  ⟨_,_,some [],[],rfl,ah,V.ext ap,az,.inl ⟨[],rfl,rfl⟩,rfl,bt,λb q=>by have:=bf b q;omega⟩ ?_
 rintro i _ _ w6 C hi ⟨mv,cs,st,rs,rfl,O,d,H,m,T,S,R⟩ hC;have e6:=e2.trans O;have ba:=ht.ext e6;simp only[push_cast,ba.len];have z26:=O.size;refine zb (λa=>?_) (λa=>?_)
 ·have D:i<ts.length:=oM;refine yf xd yZ λb7 w7 cd a8 bx am=>?_;refine zd λw8 a9 _=>?_;have s:=a8.trans a9;have cq:=s.size;have bb:=ba.ext s;have ak:=d.ext s;have br:∀{w':World} {cs:List Value},cs.length=3->Blk w' L cs zB->∀K:oK,zu zB (oP L 0) w' K=K (.agg ⟨cs⟩) w':=λh3 h K=>h.ldAgg (t:=zB) (by rw[h3];exact j3);rw[br H.len ak];simp(disch:=exact oS) only[push_cast,bb.iaddr,k6];refine bb.load zc D λx hx=>?_;have hD:∀b,(b=L\/mv.ownBlock=some b)->b<w8.heap.size:=λb q=>q.elim (λe=>by have:=d.lt;omega) λh=>by have:=S.lt h;omega
  obtain⟨af,_,c9⟩:=YO (Y _ (M.getD_mem D default));refine⟨rfl,sdo8_spec E an _ (by rw[af];decide) (H.ext s λb h _=>h) hD (hd.ext (e6.trans s)) hx λw9 a4 bg r zs aq Q bz c7 b1=>?_⟩;have p:=s.trans aq;have z9:=aq.size;have bc:=(out_lens E (by rw[af];decide) b1).1;have bw:zs.length=1:=by rw[bc,af];rfl
  simp only[push_cast,k6,gj];have al:=d.ext p;have bd:=d.lt;refine al.stAgg (cs':=a4) (by rw[Q.len,H.len]) (by rw[Q.len];exact j3) Q.one λw10 n c8 ai=>?_;have J:Ints (New w8) w10 r zs:=bz.same n λb q _ e=>by have:w8.heap.size<=b:=q;omega
  have av:=Q.same n λb q=> .inl q;simp(disch:=exact oS) only[push_cast,k6,gj,J.iaddr,J.load];refine spec_one λbh cn f b0 c5=>?_;have ae:OwnI zi bh mv (XY rs):=((S.ext p).same n λb q e=>(R b q).2 e).ext f;have ax:(XY rs).length=i:=by unfold XY;rw[Q1,T]
  refine ae.app (ys:=[zs.getD 0 0]) xF b0.ints (by simp only[gU];omega) (by simp only[gU];omega) λv12 bi a0 A Z=>?_
  try simp(disch:=omega) only[push_cast,zl]
  have cp:=f.size;have z12:=A.size;have c4:∀b,mv.ownBlock=some b->b<w6.heap.size:=λb q=>S.lt q;have aw:MkR (M.bits ds).toNat (λb=>b=L\/v12.ownBlock=some b) bi a4 bg:=
   (av.ext f λb h _=>h).swap A (λb q=> .inr q) λb q hl=>q.elim .inl λh=>(Z b h).elim .inr λh2=>oM
  refine hC D _ _ ⟨v12,a4,bg,rs++[zs],by simp,?_,((ai.ext f).same A λe=>(R _ e).2 rfl),aw,?_,by rw[V0,T];rfl,?_,λb q=>?_⟩
  ·exact Ext.then ((Ext.then (O.trans p) n λy v=>by subst v;omega).trans f) A λy v=>(R y v).1
  ·rw[M.take_add D default,gC];exact yY0 m b1
  ·unfold XY at a0⊢;rw[gC];exact a0
  ·rcases Z b q with h|h
   ·exact R b h
   ·exact⟨oM,λe=>oM⟩
 ·have D:i=ts.length:=oM;subst D;rw[gE] at m;have U:=aj.ext (a7.trans O);have cl:=aj.lt;have bd:=d.lt;cases st with
  |none=>
   have bo:cs=[nI 0,.slice none 0 0,.bool false]:=H;subst bo;have bs:M.listB ds ts=none:=by
    rcases m with⟨g,q1,q2⟩|⟨q1,q2,_⟩
    ·cases q2
    ·exact q1
   have a5:cnfE ds ts=(⟨0,[]⟩,1):=by unfold cnfE;rw[X0 ad,bs]
   simp(disch:=exact oS) only[push_cast,d.ld1,d.ld2,PL];rw[js0];refine U.stAgg (cs':=[nI 0,.slice none 0 0]) rfl zE net_one λw7 bv bx am=>?_;rw[am.lv (t:=zr) zE];have m:Ext w w7:=Ext.then e6 bv λy v=>by subst v;omega
   have:=hK w7 (.slice none 0 0) [] m;rw[a5] at this;exact this (x90 m.size)
  |some gs=>
   obtain⟨o,l,c,rfl,bp,ce⟩:=H;have a3:M.listB ds ts=some (gs,rs):=by
    rcases m with⟨g,q1,q2⟩|⟨q1,q2,_⟩
    ·cases q2;exact q1
    ·cases q2
   have a2:=M.list_net E (λt ht=>by rw[(YO (Y t ht)).1];decide) a3;have a5:cnfE ds ts=(M.blastC ds gs rs,0):=by unfold cnfE;rw[X0 ad,a3]
   simp(disch:=exact oS) only[push_cast,d.ld1,d.ld2,G7];rw[Blk.ldTake (us:=[nI ((M.bits ds).toNat:Nat),.slice o l c]) (r:=[.bool true]) d zY];refine l6Cnf_spec bp a2.net an λw7 lv ls a8 hO=>?_;refine CnfS.of (c:=M.netC (M.bits ds).toNat gs []) hO λw8 b8 c2 a9 hS=>?_;have cg:=Zk (M.bits ds).toNat gs 0;have c3:=a2.net.few;have c6:(M.netC (M.bits ds).toNat gs []).list.length<=2401:=by
    show([1]::(M.gatesC _ gs 0++[])).length<=2401;rw[gH,gD];omega
   have ac:(M.netC (M.bits ds).toNat gs []).many=(M.blastC ds gs rs).many:=rfl;have ab:(M.netC (M.bits ds).toNat gs []).list++M.rootsC rs=(M.blastC ds gs rs).list:=by
    show([1]::(M.gatesC _ gs 0++[]))++M.rootsC rs=[1]::(M.gatesC _ gs 0++M.rootsC rs);rw[gH];rfl
   generalize M.netC (M.bits ds).toNat gs []=c0 at*;have s:=a8.trans a9;have ax:(XY rs).length=ts.length:=by unfold XY;rw[Q1,T]
   refine vloop_up ts.length (λj u w'=>u=[nI j]/\Ext w6 w'/\∃lv ls,CnfS w6.heap.size b8 w' c0.many lv ls (c0.list++M.rootsC (rs.take j))) ⟨rfl,s,lv,ls,by simpa[M.rootsC] using hS⟩ ?_;rintro j _ _ w9 C2 hj ⟨rfl,p,c1,ag,B⟩ bm;have a1:=(S.ext p).ints;simp only[push_cast,a1.len,ax];refine zb (λa=>?_) (λa=>?_)
   ·have au:j<rs.length:=oM;have aa:(XY rs).getD j 0=(rs.getD j []).getD 0 0:=by
     unfold XY;rw[M.getD_map (λr:List Int=>r.getD 0 0) au 0 []]
    refine zd λw10 F _=>?_;have z:=B.ext F;have I:=a1.ext F;simp(disch:=exact oS) only[push_cast,z.blk.ld1,I.iaddr,I.load,k6];rw[aa];refine lit_row (N:=w10.heap.size) (ls:=[]) (xss:=[]) (xs:=[nI ((rs.getD j []).getD 0 0)]) (us:=[(rs.getD j []).getD 0 0]) rfl (by simp) (RowsR.nil (gx _)) rfl λbh v11 f b2 b3=>?_;simp(disch:=exact oS) only[push_cast,(z.ext f).blk.ld1,k6,gj];refine lits_fin (xs:=[v11]) (xss:=[[(rs.getD j []).getD 0 0]]) (by simp) rfl (λy v=>by rw[gy.1 v];exact b3) b2 λbi v12 G ar=>?_;simp(disch:=exact oS) only[push_cast,((z.ext f).ext G).blk.ld1,k6,gj];have cf:ag.length<=3000:=by
     rw[B.len,V0];unfold M.rootsC;rw[Q1,gi];omega
    refine z.add (f.trans G) ar (gx _) oM (by simp) λco be b9 X=>?_
    try simp(disch:=omega) only[push_cast,zl]
    have z9:=p.size;refine bm oM _ _ ⟨by simp,Ext.then (p.trans (F.trans (f.trans G))) b9 λy v=>?_,be,ag++[v11],?_⟩
    ·rcases v with rfl|v
     ·exact B.lo
     ·exact(B.new y v).1
    ·rw[M.take_add au []];unfold M.rootsC at X⊢;rw[gC,<-Gk];exact X
   ·have bq:j=ts.length:=oM;subst bq;rw[<-T,gE,ab] at B;refine B.out (U.ext p) oM λw10 n W=>?_;have m:Ext w w10:=Ext.then (e6.trans p) n λy v=>by subst v;omega
    have:=hK w10 c1 ag m;rw[a5] at this;rw[ac] at W⊢;exact this ((W.down (by have:=e6.size;omega)))
end
end Go.Proofs.YtjkkiaacmedfdaaGreatDoor
namespace Go.Proofs.YtjkkiaacmedfdaaGreatDoor
open Go Go.Vc Go.Proofs Go.M
section
variable {w:World} {K:oK} {F Fr:Nat->Prop}
def Sep (Fr:Nat->Prop) (os:List (Option Nat)):Prop:=os.Pairwise (λa b=>∀x,a=some x->b≠some x)/\∀o,o∈os->∀x,o=some x->¬Fr x
structure TrailR (Fr:Nat->Prop) (w:World) (bt many:Nat) (put:List Int) (ds:List Bool) (vp vpl vl:Value):Prop where
 blk:Blk w bt [vp,vpl,vl] yB
 rp:OwnI zi w vp put
 rpl:OwnI zi w vpl (places many put)
 rl:OwnI zi w vl (levels ds)
 sep:Sep Fr [some bt,vp.ownBlock,vpl.ownBlock,vl.ownBlock]
 len:ds.length=put.length
 dis:Distinct put
 bnd:∀x,x∈put->x≠0/\x.natAbs<=many
 few:many<=700
def kV (bt:Nat) (vp vpl vl:Value) (b:Nat):Prop:=b=bt\/vp.ownBlock=some b\/vpl.ownBlock=some b\/vl.ownBlock=some b
section
variable {bt many:Nat} {put:List Int} {ds:List Bool} {vp vpl vl:Value}
theorem TrailR.same {S:Nat->Prop} {w':World} (h:TrailR Fr w bt many put ds vp vpl vl) (hw:Same S w w') (hs:∀b,kV bt vp vpl vl b->¬S b):TrailR Fr w' bt many put ds vp vpl vl:=
 ⟨h.blk.same hw (hs _ (.inl rfl)),h.rp.same hw λb a=>hs _ (.inr (.inl a)),h.rpl.same hw λb a=>hs _ (.inr (.inr (.inl a))),h.rl.same hw λb a=>hs _ (.inr (.inr (.inr a))),h.sep,h.len,h.dis,h.bnd,h.few⟩
theorem TrailR.ext {w':World} (h:TrailR Fr w bt many put ds vp vpl vl) (hw:Ext w w'):TrailR Fr w' bt many put ds vp vpl vl:=h.same hw λ_ _ h=>h
theorem nodup_le {m:Nat} {xs:List Nat} (b:xs.Nodup) (a:∀x,x∈xs->1<=x/\x<=m):xs.length<=m:=by
 have:=b.length_le_of_subset (l₂:=(List.range' 1 m)) λx c=>by rw[P0];have:=a x c;omega
 simpa using this
theorem TrailR.few' (h:TrailR Fr w bt many put ds vp vpl vl):put.length<=many:=by
 have:=nodup_le (m:=many) h.dis λx a=>by
  obtain⟨y,b,rfl⟩:=gw.1 a;have:=h.bnd y b;omega
 simpa using this
theorem newTrail_spec (hm:many<=700) (i:∀b,Fr b->b<w.heap.size) (p:∀bt vp vpl vl w',Ext w w'->TrailR Fr w' bt many [] [] vp vpl vl->(∀b,kV bt vp vpl vl b->w.heap.size<=b)->K (oP bt 0) w'):
  vcall Kb #[nI many] w K:=by
 refine zg {} Tryz.func156 ?_;simp(disch:=omega) only[push_cast,zl];rw[show((many:Int)+1)=((many+1:Nat):Int) from by omega];refine vmkS_own (bs:=8) xF qL xx rfl oM oM λv1 w1 g c f=>?_;refine Yc y00 (us:=[[v1]]) (by simp[g.vals.cells1]) rfl ?_;refine ym λb w2 q d _ n=>?_;have m:OwnI zi w2 v1 (places many []):=by rw[xt0];unfold OwnI;rw[GM];exact g.ext d
 refine p b (.slice none 0 0) v1 (.slice none 0 0) w2 (c.trans d) ⟨n,OwnI.nil,m,OwnI.nil,⟨?_,?_⟩,rfl,po,(λx a=>by cases a),hm⟩ ?_
 ·have j:∀x,v1.ownBlock=some x->x<b:=λx a=>by have:=g.lt a;omega
  simp[Value.ownBlock];intro e;have:=j b e;omega
 ·have k:=c.size;intro o l x a hF;have:=i x hF;simp only[gg,gz,Gd] at l;rcases l with rfl|rfl|rfl|rfl
  ·cases a;omega
  ·cases a
  ·have:=f x a;omega
  ·cases a
 ·have k:=c.size;rintro x (rfl|h|h|h)
  ·omega
  ·cases h
  ·exact f x h
  ·cases h
theorem assigned_spec {l:Int} (h:TrailR Fr w bt many put ds vp vpl vl) (e:l.natAbs<=many) (d:∀w',Ext w w'->K (.bool (decide (placeOf put l.natAbs≠0))) w'):
  vcall ZL #[oP bt 0,nI l] w K:=by
 refine zg {} Tryz.func202 ?_;have g:=h.few;refine zd λw1 a _=>?_;have c:=h.ext a;have b:=c.rpl.ints;have f:=kZ many put;simp only[push_cast,c.blk.ld1,k6];refine variable_spec oM oM ?_;simp(disch:=exact oS) only[push_cast,c.blk.ld1,k6,b.iaddr,b.load,gj,places_get e];have:=d w1 a;simpa using this
theorem isTrue_spec {l:Int} (h:TrailR Fr w bt many put ds vp vpl vl) (j:l.natAbs<=many) (g:∀w',Ext w w'->K (.bool (decide (l∈put))) w'):
  vcall X6 #[oP bt 0,nI l] w K:=by
 refine zg {} Tryz.func277 ?_;have o:=h.few;refine zd λw1 b _=>?_;refine assigned_spec (h.ext b) j λw2 c=>zb (λa=>?_) (λa=>?_)
 ·have d:=h.ext (b.trans c);have k:=d.rp.ints;have f:=d.rpl.ints;have m:=kZ many put;have hle:=placeOf_le put l.natAbs;have i:=h.few';simp(disch:=exact oS) only[push_cast,d.blk.ld0,d.blk.ld1,k6];refine variable_spec oM oM ?_;simp(disch:=exact oS) only[push_cast,d.blk.ld0,d.blk.ld1,k6,gj,f.iaddr,f.load,places_get j,zl];obtain⟨q,n⟩:∃q,placeOf put l.natAbs=q+1:=⟨placeOf put l.natAbs-1,oM⟩;rw[n,show(((q+1:Nat):Int)-1)=(q:Int) from by omega];simp(disch:=exact oS) only[push_cast,k6,k.iaddr,k.load];rw[show q=placeOf put l.natAbs-1 from by omega];have:=g w2 (b.trans c);have e:l∈put↔put.getD (placeOf put l.natAbs-1) 0=l:=(mem_iff_place h.dis).trans ⟨λh=>h.2,λh=>⟨a,h⟩⟩;rwa[decide_eq_decide.2 e] at this
 ·have:=g w2 (b.trans c);rwa[gh (λhm=>a (placeOf_ne_zero hm))] at this
theorem place_spec {l:Int} (h:TrailR Fr w bt many put ds vp vpl vl) (f:l.natAbs<=many) (e:∀w',Ext w w'->K (nI ((placeOf put l.natAbs:Int)-1)) w'):
  vcall XG #[oP bt 0,nI l] w K:=by
 refine zg {} Tryz.func279 ?_;have i:=h.few;refine zd λw1 a _=>?_;have c:=h.ext a;have b:=c.rpl.ints;have g:=kZ many put;have hle:=placeOf_le put l.natAbs;have d:=h.few';simp only[push_cast,c.blk.ld1,k6];refine variable_spec oM oM ?_;simp(disch:=exact oS) only[push_cast,c.blk.ld1,k6,b.iaddr,b.load,gj,places_get f,zl];exact e w1 a
theorem level_spec {l:Int} (h:TrailR Fr w bt many put ds vp vpl vl) (i:l.natAbs<=many) (m:placeOf put l.natAbs≠0) (g:∀w',Ext w w'->K (nI (lvl ds (placeOf put l.natAbs-1))) w'):
  vcall XH #[oP bt 0,nI l] w K:=by
 refine zg {} Tryz.func240 ?_;have n:=h.few;have e:=h.few';have hlen:=h.len;have hle:=placeOf_le put l.natAbs;refine zd λw1 a _=>?_;have c:=h.ext a;simp only[push_cast,c.blk.ld2,k6];refine place_spec c i λw2 b=>?_;have d:=c.ext b;have f:=d.rl.ints;have k:=Yi ds;obtain⟨q,j⟩:∃q,placeOf put l.natAbs=q+1:=⟨placeOf put l.natAbs-1,oM⟩;rw[j,show(((q+1:Nat):Int)-1)=(q:Int) from by omega];simp(disch:=exact oS) only[push_cast,d.blk.ld2,k6,f.iaddr,f.load,gj];rw[QF oM,show q=placeOf put l.natAbs-1 from by omega];exact g w2 (a.trans b)
theorem look_spec {v:Value} {c:List Int} {F:Nat->Prop} (h:TrailR Fr w bt many put ds vp vpl vl) (o:Ints F w v c) (r:∀l,l∈c->l.natAbs<=many)
  (q:∀w' b n x,Ext w w'->lookM put c 0 0=(b,n,x)->K (.tuple #[.bool b,nI n,nI x]) w'):
  vcall Qw #[oP bt 0,v] w K:=by
 refine zg {loops:=[(2,[5,6,11])]} Tryz.func237 ?_;simp(disch:=exact oS) only[push_cast,o.len];have hlen:c.length<=9223372036854775807:=by obtain⟨_,_,_,s,A,_⟩:=o.shape;simp at s;omega
 refine vloop_up c.length (λi u w'=> ∃n x,u=[nI (n:Nat),nI x,nI i]/\Ext w w'/\n<=i/\lookM put (c.drop i) n x=lookM put c 0 0) ⟨0,0,rfl,Same.refl _ _,oM,rfl⟩ ?_;rintro i _ g w1 C hi ⟨n,x,rfl,he,B,e⟩ p;simp only[push_cast];refine zb (λz=>?_) (λy=>?_)
 ·have k:=o.ext he;simp(disch:=exact oS) only[push_cast,k.iaddr,k.load];have t:=Z2 (d:=0) (show i<c.length by omega);have hm:c.getD i 0∈c:=getD_meS oM;rw[t,QD] at e;refine isTrue_spec (h.ext he) (r _ hm) λw2 f=>zb (λa=>?_) (λa=>?_)
  ·rw[X0 a] at e;exact q w2 true 0 0 (he.trans f) e.symm
  ·rw[y1 a] at e;refine assigned_spec (h.ext (he.trans f)) (r _ hm) λw3 j=>?_;simp only[push_cast];refine zp (λb=>?_) (λb=>?_)
   ·have m:placeOf put (c.getD i 0).natAbs=0:=(by simpa using b);rw[X0 m] at e;simp(disch:=omega) only[push_cast,zl];exact p oM _ _ ⟨n+1,_,by simp,he.trans (f.trans j),oM,e⟩
   ·have m: ¬placeOf put (c.getD i 0).natAbs=0:=(by simpa using b);rw[y1 m] at e;simp(disch:=omega) only[push_cast,zl];exact p oM _ _ ⟨n,_,by simp,he.trans (f.trans j),oM,e⟩
 ·rw[Gi oM] at e;exact q w1 false n x he e.symm
end
end
section
variable {w:World} {K:oK} {F Fr:Nat->Prop} {bt many:Nat} {put:List Int} {ds:List Bool} {vp vpl vl:Value}
theorem next_spec {v:Value} {vs:List Value} {lls:List (List (List Int))} (h:TrailR Fr w bt many put ds vp vpl vl) (J:Vals F w v vs) (hn:vs.length=lls.length) (hi:∀i,i<lls.length->Lists F w (vs.getD i undef) (lls.getD i []))
  (hl:∀c,c∈lls.flatten->∀l,l∈c->l.natAbs<=many) (a1:lls.flatten.length<=1000000)
  (M:∀w' k u x,Ext w w'->findM put lls.flatten 0 (-1) 0=(k,u,x)->K (.tuple #[nI k,nI u,nI x]) w'):
  vcall Qv #[oP bt 0,v] w K:=by
 refine zg {loops:=[(4,[4,5,6,7,17]),(7,[4,5,6,7,23])]} Tryz.func198 ?_;simp(disch:=exact oS) only[push_cast,J.len];have hlen:vs.length<=9223372036854775807:=by obtain⟨_,_,_,A,R,_⟩:=J.shape;simp at A;omega
 refine vloop_up vs.length (λi u w'=> ∃(k:Nat) (b x:Int),u=[nI (-1),nI b,nI x,nI k,nI i]/\Ext w w'/\k+(lls.drop i).flatten.length=lls.flatten.length/\findM put (lls.drop i).flatten k b x=findM put lls.flatten 0 (-1) 0) ⟨0,-1,0,rfl,Same.refl _ _,by simp,rfl⟩ ?_;rintro i _ g w1 C Y ⟨k,b,x,rfl,he,O,a⟩ S;simp only[push_cast];refine zb (λa0=>?_) (λX=>?_)
 ·have z:=J.ext he;obtain⟨cs,V,q,D⟩:=hi i oM;have s:=q.ext he;simp(disch:=exact oS) only[push_cast,z.iaddr,z.load,s.len];have G:cs.length<=9223372036854775807:=by obtain⟨_,_,_,A,R,_⟩:=q.shape;simp at A;omega
  have W:=Z2 (d:=[]) (show i<lls.length by omega);rw[W,GR] at a O;have t:∀c,c∈lls.getD i []->c∈lls.flatten:=λc U=>List.mem_flatten.2 ⟨_,by rw[q0,gk oM];exact GO _,U⟩;generalize lls.getD i []=L at*;generalize (lls.drop (i+1)).flatten=T at*;rw[V0] at O;refine vloop_up cs.length (λj u w'=> ∃(o:Nat) (b x:Int),u=[nI (-1),nI b,nI x,nI o,nI j]/\Ext w w'/\o=k+j/\findM put (L.drop j++T) o b x=findM put lls.flatten 0 (-1) 0) ⟨k,b,x,rfl,he,oM,a⟩ ?_;rintro j _ g2 w2 C2 hj ⟨o,b,x,rfl,f,Z,a⟩ m;simp only[push_cast];refine zb (λQ=>?_) (λN=>?_)
  ·have p:=q.ext f;simp(disch:=exact oS) only[push_cast,p.iaddr,p.load];have hm:L.getD j []∈L:=by rw[q0,gk oM];exact GO _
   rw[Z2 (d:=[]) (show j<L.length by omega),GL,findM_cons] at a;refine look_spec (h.ext f) ((D j oM).ext f) (hl _ (t _ hm)) λw3 b' n y E r=>?_;rw[r] at a;dsimp only at a;simp(disch:=omega) only[push_cast,zl];have e:=f.trans E;refine zp (λB=>?_) (λB=>?_)
   ·rw[X0 B] at a;exact m oM _ _ ⟨o+1,_,_,by simp<;>exact⟨rfl,rfl⟩,e,oM,a⟩
   rw[y1 (by simp[B])] at a;refine zb (λH=>?_) (λH=>?_)
   ·rw[X0 oM] at a;exact M w3 _ _ _ e a.symm
   rw[y1 oM] at a;refine zb (λI=>?_) (λI=>?_)
   ·rw[X0 oM] at a;refine zb (λhu=>?_) (λhu=>?_)
    ·rw[X0 hu] at a;exact m oM _ _ ⟨o+1,_,_,by simp<;>exact⟨rfl,rfl⟩,e,oM,a⟩
    ·rw[y1 hu] at a;exact m oM _ _ ⟨o+1,_,_,by simp<;>exact⟨rfl,rfl⟩,e,oM,a⟩
   ·rw[y1 oM] at a;exact m oM _ _ ⟨o+1,_,_,by simp<;>exact⟨rfl,rfl⟩,e,oM,a⟩
  ·rw[Gi (show L.length<=j by omega),Gm] at a;simp(disch:=omega) only[push_cast,zl];exact S oM _ _ ⟨o,_,_,by simp<;>exact⟨rfl,rfl⟩,f,oM,a⟩
 ·rw[Gi oM] at a;exact M w1 _ _ _ he a.symm
theorem sep4 {a b c d:Option Nat}:Sep Fr [a,b,c,d]↔((∀x,a=some x->b≠some x)/\(∀x,a=some x->c≠some x)/\(∀x,a=some x->d≠some x)/\(∀x,b=some x->c≠some x)/\(∀x,b=some x->d≠some x)/\(∀x,c=some x->d≠some x))/\
  (∀x,a=some x->¬Fr x)/\(∀x,b=some x->¬Fr x)/\(∀x,c=some x->¬Fr x)/\(∀x,d=some x->¬Fr x):=by
 unfold Sep;simp only[Pd,gg,gz,Gd,forall_eq_or_imp,forall_eq];constructor
 ·rintro⟨⟨⟨e,a2,a3⟩,⟨b1,b2⟩,c1,-⟩,f1,f2,f3,f4⟩;exact⟨⟨e,a2,a3,b1,b2,c1⟩,f1,f2,f3,f4⟩
 ·rintro⟨⟨e,a2,a3,b1,b2,c1⟩,f1,f2,f3,f4⟩;exact⟨⟨⟨e,a2,a3⟩,⟨b1,b2⟩,c1,λ_ h=>h.elim,List.Pairwise.nil⟩,f1,f2,f3,f4⟩
theorem push_spec {l:Int} {d:Bool} (h:TrailR Fr w bt many put ds vp vpl vl) (a9:l≠0) (hl:l.natAbs<=many) (s:placeOf put l.natAbs=0) (a8:∀b,Fr b->b<w.heap.size)
  (hK:∀i k w',TrailR Fr w' bt many (put++[l]) (ds++[d]) i vpl k->Same (kV bt vp vpl vl) w w'->(∀b,kV bt i vpl k b->kV bt vp vpl vl b\/w.heap.size<=b)->K (.tuple #[]) w'):
  vcall Qu #[oP bt 0,nI l,.bool d] w K:=by
 refine zg {cuts:=[(8195,[6]),(16389,[6])]} Tryz.func243 ?_;have hf:=h.few;have ai:=h.few';have hlen:=h.len;have ah:=Yi ds;have hc:=pX (l:=ds) (a:=true);refine zq (λu w'=>u=[nI (ds.count true)]/\Ext w w') ?_ ?_
 ·intro C V;have hv:=h.rl.ints;simp(disch:=exact oS) only[push_cast,h.blk.ld2,hv.len];refine zb (λa=>zd λw1 n _=>?_) (λa=>V _ _ ⟨?_,Same.refl _ _⟩)
  ·have T:=h.ext n;have O:=T.rl.ints;obtain⟨q,hq⟩:∃q,ds.length=q+1:=⟨ds.length-1,oM⟩;simp(disch:=exact oS) only[push_cast,T.blk.ld2,O.len,k6];rw[ah,hq,show(((q+1:Nat):Int)-1)=(q:Int) from by omega];simp(disch:=exact oS) only[push_cast,zl,O.iaddr,O.load,k6];refine V _ _ ⟨?_,n⟩;rw[QF oM,qP0 oM]
  ·have:ds=[]:=gM oM;subst this;rfl
 rintro _ g w1 ⟨rfl,n⟩;refine zq (λu w'=>u=[nI ((ds.count true+d.toNat:Nat):Int)]/\w'=w1) ?_ ?_
 ·intro C V;cases d
  ·exact V _ _ ⟨rfl,rfl⟩
  ·simp(disch:=omega) only[push_cast,zl];exact V _ _ ⟨rfl,rfl⟩
 rintro _ g2 _ ⟨rfl,rfl⟩;have T:=h.ext n;have aj:=n.size;simp(disch:=exact oS) only[push_cast,T.blk.ld0];obtain⟨⟨s1,s2,s3,s4,s5,s6⟩,f1,f2,f3,f4⟩:=sep4.1 h.sep;refine zD xd yZ xx rfl rfl λb1 w2 aq L av a2=>?_;have h2:=T.ext L;refine h2.rp.app1 xF a2 oM oM λi w3 B y ad=>?_;have a3:Blk w3 bt [vp,vpl,vl] yB:=h2.blk.same y λe=>s1 bt rfl e;refine a3.st B.ints.cells1 B.ints.one jc rfl λQ D aw a4=>?_;have F:Blk Q bt [i,vpl,vl] yB:=a4;simp(disch:=exact oS) only[push_cast,F.ld2];have ak:=L.size;have al:=y.size;have m:∀x,i.ownBlock=some x->vp.ownBlock=some x\/w.heap.size<=x:=λx c=>(ad x c).imp id λh=>oM
 have l1:=h.blk.lt;have j:∀x,kV bt vp vpl vl x->x<w.heap.size:=by
  rintro x (rfl|e|e|e)
  ·exact l1
  ·exact h.rp.lt e
  ·exact h.rpl.lt e
  ·exact h.rl.lt e
 have aa:OwnI zi Q vl (levels ds):=(h2.rl.same y λx c e=>s5 x e c).same D λx c e=>s3 x (by rw[e]) c;have Y:OwnI zi Q vpl (places many put):=(h2.rpl.same y λx c e=>s4 x e c).same D λx c e=>s2 x (by rw[e]) c;have af:OwnI zi Q i (put++[l]):=B.same D λx c e=>by
  rcases m x c with f|f
  ·exact s1 x (by rw[e]) f
  ·have:=j bt (.inl rfl);omega
 refine zD xd yZ xx rfl rfl λb2 w5 ar o ax a5=>?_;refine(aa.ext o).app1 xF a5 oM oM λk w6 M z ae=>?_;have a6:Blk w6 bt [i,vpl,vl] yB:=(F.ext o).same z λe=>s3 bt rfl e;refine a6.st M.ints.cells1 M.ints.one jc rfl λR A ay a7=>?_;have U:Blk R bt [i,vpl,k] yB:=a7;have am:=o.size;have an:=z.size;have t:∀x,k.ownBlock=some x->vl.ownBlock=some x\/w3.heap.size<=x:=λx c=>(ae x c).imp id λh=>oM
 have H:∀x,k.ownBlock=some x->vl.ownBlock=some x\/w.heap.size<=x:=λx c=>(t x c).imp id λh=>oM
 have ag:OwnI zi R i (put++[l]):=((af.ext o).same z λx c e=>by
  rcases m x c with f|f
  ·exact s5 x f e
  ·have:=j x (.inr (.inr (.inr e)));omega).same A λx c e=>by
  rcases m x c with f|f
  ·exact s1 x (by rw[e]) f
  ·have:=j bt (.inl rfl);omega
 have Z:OwnI zi R vpl (places many put):=((Y.ext o).same z λx c e=>s6 x c e).same A λx c e=>s2 x (by rw[e]) c;have ab:OwnI zi R k (levels (ds++[d])):=by
  rw[levels_snoc];refine M.same A λx c e=>?_;rcases t x c with f|f
  ·exact s3 x (by rw[e]) f
  ·have:=j bt (.inl rfl);omega
 refine zd λw8 p _=>?_;have r:=U.ext p;have W:=ag.ext p;have J:=Z.ext p;have ac:=ab.ext p;have X:=W.ints;have a1:=J.ints;have au:=kZ many put;simp(disch:=exact oS) only[push_cast,r.ld0,r.ld1,X.len,k6];refine variable_spec oM oM ?_;simp(disch:=exact oS) only[push_cast,r.ld0,r.ld1,X.len,a1.iaddr,k6,gj];refine J.st yZ oM λw9 a0 E az=>?_;have N:OwnI zi w9 vpl (places many (put++[l])):=by
  rw[places_snoc s];simpa using a0
 have I:∀x,i.ownBlock=some x->vpl.ownBlock≠some x:=λx c e=>by
  rcases m x c with f|f
  ·exact s4 x f e
  ·have:=j x (.inr (.inr (.inl e)));omega
 have v:∀x,vpl.ownBlock=some x->k.ownBlock≠some x:=λx c e=>by
  rcases t x e with f|f
  ·exact s6 x c f
  ·have:=j x (.inr (.inr (.inl c)));omega
 have ao:=A.size;have ap:=p.size;have G:∀x,w.heap.size<=x->¬Fr x:=λx c hF=>by have:=a8 x hF;omega
 refine hK i k w9 ⟨r.same E λe=>s2 bt rfl e,W.same E I,N,ac.same E λx c e=>v x e c,?_,by simp[hlen],distinct_snoc h.dis s,?_,h.few⟩ ?_ ?_
 ·rw[sep4];refine⟨⟨?_,s2,?_,I,?_,v⟩,f1,?_,f3,?_⟩
  ·rintro x e S;cases e;rcases m _ S with f|f
   ·exact s1 _ rfl f
   ·have:=j _ (.inl rfl);omega
  ·rintro x e S;cases e;rcases t _ S with f|f
   ·exact s3 _ rfl f
   ·have:=j _ (.inl rfl);omega
  ·intro x e S;have c:=B.lt e;rcases t x S with e3|e3
   ·rcases m x e with f|f
    ·exact s5 x f e3
    ·have:=j x (.inr (.inr (.inr e3)));omega
   ·omega
  ·intro x e;rcases m x e with f|f
   ·exact f2 x f
   ·exact G x f
  ·intro x e;rcases H x e with f|f
   ·exact f4 x f
   ·exact G x f
 ·intro x c;rw[gp,gy] at c;rcases c with c|rfl
  ·exact h.bnd x c
  ·exact⟨a9,hl⟩
 ·have S0:Same (kV bt vp vpl vl) w w2:=Same.of_ext (n.trans L);have S3:Same (kV bt vp vpl vl) w2 w3:=y.mono λx _ e=> .inr (.inl e);have S4:Same (kV bt vp vpl vl) w3 Q:=D.mono λx _ e=> .inl e;have S5:Same (kV bt vp vpl vl) Q w5:=Same.of_ext o;have S6:Same (kV bt vp vpl vl) w5 w6:=z.mono λx _ e=> .inr (.inr (.inr e));have S7:Same (kV bt vp vpl vl) w6 R:=A.mono λx _ e=> .inl e;have S8:Same (kV bt vp vpl vl) R w8:=Same.of_ext p;have S9:Same (kV bt vp vpl vl) w8 w9:=E.mono λx _ e=> .inr (.inr (.inl e));exact S0.trans (S3.trans (S4.trans (S5.trans (S6.trans (S7.trans (S8.trans S9))))))
 ·rintro x (e|e|e|e)
  ·exact .inl (.inl e)
  ·exact(m x e).imp (λe=> .inr (.inl e)) id
  ·exact .inl (.inr (.inr (.inl e)))
  ·exact(H x e).imp (λe=> .inr (.inr (.inr e))) id
end
theorem JL {α:Type} {xs:List α} {d:α} {i:Nat} (h:i<xs.length):xs.take (i+1)=xs.take i++[xs.getD i d]:=by
 rw[pd];simp[q0,h]
end Go.Proofs.YtjkkiaacmedfdaaGreatDoor
namespace Go.Proofs.YtjkkiaacmedfdaaGreatDoor
open Go Go.Vc Go.Proofs
section
variable {w:World} {K:oK}
theorem unit_mem {put cl:List Int} {x:Int} (h:M.unitC put cl x):x∈cl/\M.placeOf put x.natAbs=0:=by
 have:x∈cl.filter λl=>decide (M.placeOf put l.natAbs=0):=by rw[h.2];exact gy.2 rfl
 rw[Px,K3] at this;exact this
theorem cnf_new {N:Nat} {lv:Value} {ls:List Value} {c:M.Cnf} {K:oK} (h:CnfO N w lv ls c) (j:∀w' b,w.heap.size<=b->Ext w w'->Blk w' b [nI c.many,lv] zr->CnfO N w' lv ls c->K (oP b 0) w'):
  qo zr w λt4 w1=>zS zr t4 (.agg ⟨[nI c.many,lv]⟩) w1 λ_ w2=>K t4 w2:=by
 obtain⟨o,cc,d,_⟩:=h.lst.vals.shape;generalize (ls.map λx=>[x]).length=l at d;subst d;refine zj xq λb w1 k e m g=>?_;refine g.stAgg (cs':=[nI c.many,.slice o l cc]) rfl zE net_one λw2 f p i=>?_;have a:Ext w w2:=Ext.then e f λy n=>by subst n;omega
 exact j w2 b oM a i (h.ext a)
theorem push_int {pv:Value} {xs:List Int} {x:Int} (h:OwnI zi w pv xs) (n:xs.length<=100000) (i:∀w' c,Same (λb=>pv.ownBlock=some b) w w'->OwnI zi w' c (xs++[x])->(∀b,c.ownBlock=some b->pv.ownBlock=some b\/w.heap.size<=b)->K c w'):
  vbuildS zi 1 [(0,nI x)] w λs w1=>vbi .append [zi,zi] zi [pv,s] w1 K:=by
 refine xz xd yZ xx rfl rfl dC λb3 w3 k a l d=>?_;refine OwnI.app1 (h.ext a) xF d oM oM λv4 m f g e=>?_;refine i m v4 ((Same.of_ext a).trans g) f λb j=>?_;rcases e b j with h|h
 ·exact .inl h
 ·exact .inr (by have:=a.size;omega)
end
end Go.Proofs.YtjkkiaacmedfdaaGreatDoor
namespace Go.Vc
open Go
section
variable {t:TypeId} {w:World} {v:Value} {vs:List Value} {F:Nat->Prop}
theorem Vals.part (h:Vals F w v vs) (j:vs≠[]) (m:elB t 1=true) {n:Nat} (q:n<=vs.length):∃v1,(∀(kd:IntKind) (w':World) (K:oK),xr t v none (some (.int kd n)) none w' K=K v1 w')/\Vals F w v1 (vs.take n):=by
 obtain⟨hu,hs⟩:=YU m;obtain⟨a,c,rfl,l,g,d⟩:=h.shape;obtain⟨b,o,rfl,hF,k,f⟩:=d (by simpa using j);rw[Q1] at l f;refine⟨.slice (some ⟨b,o,none⟩) n c,λkd w' K=>ya ?_,⟨some ⟨b,o,none⟩,c,?_,?_,g,λ_=>⟨b,o,rfl,hF,k,λi hi=>?_⟩⟩,λx p=>by obtain⟨u,_,rfl⟩:=gw.1 p;rfl⟩
 ·rw[run_sliceAt_slice w' t _ _ _ _ hu,run_slice_h w' t _ _ _ hu kd n oM oM,run_sizeOf hs];simp[Result.andThen,sliced];exact λ_=>rfl
 ·simp;omega
 ·simp;omega
 ·simp only[Q1,gi] at hi;have:=f i oM;have e:(List.map (λx=>[x]) (vs.take n)).getD i []=(List.map (λx=>[x]) vs).getD i []:=by
   simp[q0,PM,show i<n by omega]
  rw[e];exact this
theorem Vals.rest (h:Vals F w v vs) (j:vs≠[]) (r:elB t 1=true) {n:Nat} (y:n<=vs.length):∃v1,(∀(kd:IntKind) (w':World) (K:oK),xr t v (some (.int kd n)) none none w' K=K v1 w')/\Vals F w v1 (vs.drop n):=by
 obtain⟨hu,hs⟩:=YU r;obtain⟨a,c,rfl,m,p,d⟩:=h.shape;obtain⟨b,o,rfl,hF,l,f⟩:=d (by simpa using j);rw[Q1] at m f;refine⟨sliced (some ⟨b,o,none⟩) n vs.length c 1,λkd w' K=>ya ?_,?_⟩
 ·rw[run_sliceAt_slice w' t _ _ _ _ hu,run_slice_l w' t _ _ _ hu kd n oM (by simp;omega),run_sizeOf hs];simp[Result.andThen]
 ·refine⟨⟨_,c-n,rfl|>λ(_:True=True)=>by simp[sliced];rfl,by simp;omega,oM,λg=>?_⟩,λx s=>by obtain⟨u,_,rfl⟩:=gw.1 s;rfl⟩;have q:n<vs.length:=by
   refine Nat.lt_of_not_le λk=>g ?_;rw[Pj k];rfl
  rw[y1 oM];refine⟨b,o+n,by simp[yr],hF,l,λi hi=>?_⟩;simp only[Q1,G5] at hi;have:=f (n+i) oM;have e:(List.map (λx=>[x]) (vs.drop n)).getD i []=(List.map (λx=>[x]) vs).getD (n+i) []:=by
   simp[q0,Pf]
  rw[e,show o+n+i*1=o+(n+i)*1 by omega];exact this
end
end Go.Vc
namespace Go.Proofs.YtjkkiaacmedfdaaGreatDoor
open Go Go.Vc Go.Proofs
section
variable {w:World} {K:oK} {D F F' G:Nat->Prop} {dv iv:Value} {ds:List M.Dcl} {ins:List Bool}
def Jd (ds:List M.Dcl) (i:Nat):Nat:=M.nIn (ds.take i)
theorem off_succ (a:M.declOk ds=true) {i:Nat} (hi:i<ds.length):Jd ds (i+1)=Jd ds i+(ds.getD i (M.nada,0)).2.toNat:=by
 have f:=M.bits_le a hi;have hw:=M.dcl_wide a hi;unfold Jd M.nIn;have e:M.bits (ds.take (i+1))=M.bits (ds.take i)+(ds.getD i (M.nada,0)).2:=by
  rw[M.take_add hi (M.nada,0)];unfold M.bits;rw[gC,List.sum_append];simp
 have c:0<=M.bits (ds.take i):=M.bits_pos' λd b=>M.dpos a d (gS b);rw[e];omega
theorem Zr0:Jd ds ds.length=M.nIn ds:=by unfold Jd;rw[gE]
theorem off_le (hd : M.declOk ds = true) {i : Nat} (hi : i <= ds.length) : Jd ds i <= M.nIn ds := by
  induction h : ds.length - i generalizing i with
  | zero => have : i = ds.length := by omega
            subst this; exact Nat.le_of_eq Zr0
  | succ n ih =>
    have h2 := off_succ hd (show i < ds.length by omega)
    have := ih (i := i + 1) (by omega) (by omega)
    omega
theorem envB_take:∀{ds:List M.Dcl} {ins:List Bool} {i:Nat},(∀d,d∈ds->0<=d.2)->i<ds.length->(M.envB ds ins).getD i 0=(M.msbN ((ins.drop (Jd ds i)).take (ds.getD i (M.nada,0)).2.toNat):Int)
 |[],_,_,_,h=>by simp at h
 |d::ds,ins,0,_,_=>by
  have:Jd (d::ds) 0=0:=rfl;rw[this];simp[M.envB]
 |d::ds,ins,i+1,c,h=>by
  have f:=c d gn;have a:∀x,x∈ds->0<=x.2:=λx b=>c x (gr _ b);have g:0<=M.bits (ds.take i):=M.bits_pos' λx b=>a x (gS b);have e:Jd (d::ds) (i+1)=d.2.toNat+Jd ds i:=by
   unfold Jd M.nIn;rw[List.take_succ_cons,M.bits_cons'];omega
  unfold M.envB;rw[pj,envB_take a (by simpa using h),e,pj,<-z0e]
theorem msb_snoc (bs:List Bool) (b:Bool):(M.msbN (bs++[b]):Int)=2*M.msbN bs+M.b2i b:=by
 rw[M.msb_app];cases b<;>simp[M.msbN,M.b2i]<;>omega
theorem BlastEnv_spec (Q:DclsR F w dv ds) (hi:Bools F' w iv ins) (d:M.declOk ds=true) (hl:ins.length=M.nIn ds)
  (hK:∀w' r,Ext w w'->OwnI zi w' r (M.envB ds ins)->(∀b,r.ownBlock=some b->w.heap.size<=b)->K r w'):vcall Kl #[dv,iv] w K:=by
 refine zg {loops:=[(5,[1,5,23]),(9,[8,32])],cuts:=[(8195,[])]} Tryz.func122 ?_;obtain⟨ag,ah⟩:=M.nIn_eq d;have Z:Bools (λx=>x<w.heap.size) w iv ins:=Sl.weaken hi λx _ h=>h;refine zq (λu w'=>u=[]/\Ext w w') (λC S=>?_) ?_
 ·refine DeclOk_spec Q λw1 f=>?_;rw[d];simp only[push_cast,G7,(hi.ext f).len];refine bitsOf_spec (Q.ext f) d λw2 W=>?_;simp only[push_cast];refine zb (λh=>absurd oM h) (λ_=>S _ _ ⟨rfl,f.trans W⟩)
 rintro _ _ w1 ⟨rfl,f⟩;simp only[push_cast,(Q.ext f).len];have h4:=(M.decl_iff.1 d).1;have V:=M.dpos d;have Y:=M.envB_len ds ins;refine vloop_up ds.length (λi u w'=> ∃v r,u=[v,r,nI i]/\Ext w w'/\Bools (λx=>x<w.heap.size) w' v (ins.drop (Jd ds i))/\OwnI zi w' r ((M.envB ds ins).take i)/\∀b,r.ownBlock=some b->w.heap.size<=b) ⟨iv,_,rfl,f,by simpa[Jd,M.nIn,M.bits] using Z.ext f,OwnI.nil,λb hb=>by cases hb⟩ ?_;rintro i _ _ w2 C ae ⟨v,r,rfl,E,a6,t,s⟩ S;simp only[push_cast];refine zb (λa=>?_) (λa=>?_)
 ·have p:i<ds.length:=oM;have I:=Q.ext E;have aa:=M.dcl_wide d p;have z:=off_succ d p;have ab:=off_le d (i:=i+1) oM;have o:(ins.drop (Jd ds i)).length=M.nIn ds-Jd ds i:=(by rw[G5,hl]);simp(disch:=exact oS) only[push_cast,I.iaddr,I.load];refine zj xy λb3 w3 ad X aj R=>?_;refine stDecl R λw4 a5 ak G=>?_;have k:Ext w2 w4:=Ext.then X a5 λy hy=>by subst hy;omega
  have e4:=E.trans k;have O:=a6.ext k;have het:=envB_take (ins:=ins) V p;obtain⟨wd,l⟩:∃wd:Nat,(ds.getD i (M.nada,0)).2=wd:=⟨_,(PA oM).symm⟩;rw[l] at aa z het;rw[gq] at z het;simp(disch:=exact oS) only[push_cast,G.ld1,l];have J:(ins.drop (Jd ds i)).map (λx=>Value.bool x)≠[]:=λh=>by
   have:=congrArg List.length h;rw[Q1,o] at this;simp at this;omega
  obtain⟨v5,H,a7⟩:=Vals.part O J yA0 (n:=wd) (by rw[Q1,o];omega);rw[H];have g:Bools (λx=>x<w.heap.size) w4 v5 ((ins.drop (Jd ds i)).take wd):=by unfold Bools;rw[GA];exact a7
  generalize U:(ins.drop (Jd ds i)).take wd=bs at g het;have m:bs.length=wd:=by rw[<-U,gi,o];omega
  simp only[push_cast,g.len,m];refine vloop_up wd (λj u w'=>u=[nI (M.msbN (bs.take j)),nI j]/\w'=w4) ⟨rfl,rfl⟩ ?_;rintro j _ _ _ C1 hj ⟨rfl,rfl⟩ T;simp only[push_cast];have af:=M.msb_lt (bs.take j);have ai:2^(bs.take j).length<=2^4:=gQ oM (by rw[gi];omega);refine zb (λc=>?_) (λc=>?_)
  ·have a1:j<wd:=oM;simp(disch:=exact oS) only[push_cast,g.iaddr,gq,g.load,zl];refine X2 ?_;have ac:0<=M.b2i (bs.getD j false)/\M.b2i (bs.getD j false)<=1:=by unfold M.b2i;split<;>omega
   have N:=msb_snoc (bs.take j) (bs.getD j false);rw[<-M.take_add (by omega:j<bs.length) false] at N;simp only[push_cast];rw[<-N,zl oM oM];exact T a1 _ _ ⟨rfl,rfl⟩
  ·have a2:j=wd:=oM;subst a2;rw[<-m,gE];have a4:=t.ext k;refine push_int a4 (by rw[gi];omega) λw6 r6 B L a3=>?_;have lr:∀x,r.ownBlock=some x->x<w2.heap.size:=λx D=>(t.lt D);have q6:=G.same B λe=>by have:=lr _ e;omega
   have a8:=O.same B λx D _ e=>by have:=s x e;omega
   have z24:=k.size;have z2:=E.size;rw[<-het,<-M.take_add oM 0] at L;obtain⟨v7,A,a9⟩:=Vals.rest a8 J yA0 (n:=bs.length) (by rw[Q1,o];omega);simp(disch:=exact oS) only[push_cast,q6.ld1,l,m.symm,A];rw[inc64' oM];refine S p _ _ ⟨v7,r6,rfl,Ext.then (E.trans k) B λx D=>s x D,?_,?_,λx D=>?_⟩
   ·rw[z,<-m];have q:=a9;rw[<-Pc,z0e] at q;exact q
   ·exact L
   ·rcases a3 x D with e|e
    ·exact s x e
    ·omega
 ·have a0:i=ds.length:=oM;subst a0;rw[<-Y,gE] at t;exact hK w2 r E t s
end
end Go.Proofs.YtjkkiaacmedfdaaGreatDoor
section
namespace Go.Proofs.YtjkkiaacmedfdaaGreatDoor
open Go Go.Vc Go.Proofs
section
open Go.RowKit Go.Extern.Stop Go.Stop Go.Extern
theorem Zv0 (a b : Addr) (w : World) (hne : a ≠ b) {ca cb : Array Value} {ta tb : TypeId} (ha : w.heap[a.block]? = some (.cells ca ta (0, 0))) (hb : w.heap[b.block]? = some (.cells cb tb (0, 0))) :
    Calls Tryz.prog 59 #[.iface 388 (.pointer (some a)), .iface 388 (.pointer (some b))] w λe w' => e = .returned (.bool false) /\ w' = w := by
  obtain ⟨i, hi, hcmp⟩ := pM.1 j00
  obtain ⟨j, hj, hjs⟩ := pM.1 qY0
  have h8 := @run_callFunc_extern Tryz.prog 93 _ Extern.ReflectliteType.typeOf Tryz.func93 (by kernel_rfl) (by kernel_rfl) (by kernel_rfl) (by kernel_rfl)
  have h32 : ∀ w : World, (callFunc 397 #[.agg #[.pointer (some ⟨11, 388, none⟩)]]).run Tryz.prog w = .ok (Next.value (.bool true)) w := XW
  have tT := zM0
  have mR := zN0
  have heq := run_eql_iface_ptr_other (P := Tryz.prog) w Tryz.underlying93 Tryz.underlying388 hi hcmp hj (by rw [hjs]; decide) hne ha hb
  have n1 := noIsE
  have n2 := qC0
  have n3 := xv0
  go_enter Tryz.func59, Tryz.ntmps59
  go_wp2
  refine wp_loop_rounds 1 ?_
  rw [rounds_succ]
  go_wp2
  go_ret
  exact ⟨rfl, rfl⟩
end
variable {w:World} {K:oK}
theorem ko0 {a b:Addr} (c:a≠b) {ca cb:Array Value} {ta tb:TypeId} (f:w.heap[a.block]?=some (.cells ca ta (0,0))) (g:w.heap[b.block]?=some (.cells cb tb (0,0))) (d:K (.bool false) w):vcall qf #[erv a,erv b] w K:=
 ⟨rK,(Zv0 a b w c f g).mono λe w' h=>by obtain⟨rfl,rfl⟩:=h;exact d⟩
end Go.Proofs.YtjkkiaacmedfdaaGreatDoor
end
namespace Go.Proofs.YtjkkiaacmedfdaaGreatDoor
open Go Go.Vc Go.Proofs Go.M
section
variable {w:World} {K:oK} {F Fr:Nat->Prop} {many bs:Nat} {c:Cnf} {s:Sat} {N:Nat}
structure SV where
 (vc:Value) (bt:Nat) (vp vpl vl vw vr:Value) (ls:List Value)
def SV.tf (σ:SV):Nat->Prop:=kV σ.bt σ.vp σ.vpl σ.vl
def SV.f3 (σ:SV) (bs b:Nat):Prop:=b=bs\/σ.vw.ownBlock=some b\/σ.vr.ownBlock=some b
def SV.foot (σ:SV) (bs b:Nat):Prop:=σ.tf b\/σ.f3 bs b
structure SR (N:Nat) (Fr:Nat->Prop) (w:World) (bs many:Nat) (c:Cnf) (s:Sat) (σ:SV):Prop where
 blk:Blk w bs [nI many,σ.vc,oP σ.bt 0,σ.vw,σ.vr,nI s.code] yA
 cm:c.many=many
 cl:Lists Fr w σ.vc c.list
 tr:TrailR Fr w σ.bt many s.put (yw s.why) σ.vp σ.vpl σ.vl
 rw:OwnI zi w σ.vw s.why
 rl:OwnV zK w σ.vr σ.ls
 lsl:σ.ls.length=s.learned.length
 ll:RowsR N Fr w σ.ls s.learned
 s1:∀x,σ.vw.ownBlock=some x->x≠bs
 s2:∀x,σ.vr.ownBlock=some x->x≠bs
 s3:∀x,σ.vw.ownBlock=some x->σ.vr.ownBlock≠some x
 st:∀x,σ.f3 bs x->¬σ.tf x
 sf:∀x,σ.f3 bs x->¬Fr x
section
variable {σ:SV} {w':World} {S:Nat->Prop}
theorem SR.notF (h:SR N Fr w bs many c s σ) {x:Nat} (a:σ.foot bs x): ¬Fr x:=by
 obtain⟨_,f1,f2,f3,f4⟩:=sep4.1 h.tr.sep;rcases a with(rfl|e|e|e)|e
 ·exact f1 _ rfl
 ·exact f2 _ e
 ·exact f3 _ e
 ·exact f4 _ e
 ·exact h.sf _ e
theorem SR.lt (h:SR N Fr w bs many c s σ) {x:Nat} (a:σ.foot bs x):x<w.heap.size:=by
 rcases a with(rfl|e|e|e)|rfl|e|e
 ·exact h.tr.blk.lt
 ·exact h.tr.rp.lt e
 ·exact h.tr.rpl.lt e
 ·exact h.tr.rl.lt e
 ·exact h.blk.lt
 ·exact h.rw.lt e
 ·exact h.rl.lt e
theorem SR.same (h:SR N Fr w bs many c s σ) (hw:Same S w w') (hs:∀x,σ.foot bs x->¬S x) (hF:∀x,Fr x->x<w.heap.size->¬S x):SR N Fr w' bs many c s σ:=
 ⟨h.blk.same hw (hs _ (.inr (.inl rfl))),h.cm,h.cl.same hw hF,h.tr.same hw λb a=>hs _ (.inl a),h.rw.same hw λb a=>hs _ (.inr (.inr (.inl a))),h.rl.same hw λb a=>hs _ (.inr (.inr (.inr a))),h.lsl,h.ll.same hw hF,h.s1,h.s2,h.s3,h.st,h.sf⟩
theorem SR.ext (h:SR N Fr w bs many c s σ) (hw:Ext w w'):SR N Fr w' bs many c s σ:=h.same hw (λ_ _ h=>h) λ_ _ _ h=>h
theorem SR.lists (h:SR N Fr w bs many c s σ):Vals (λb=>σ.vr.ownBlock=some b) w σ.vr σ.ls:=h.rl.vals
theorem clause_spec {k:Nat} (h:SR N Fr w bs many c s σ) (q:k<c.list.length+s.learned.length) (p:c.list.length+s.learned.length<=1000000)
  (n:∀v w',Ext w w'->Ints Fr w' v (atM c s k)->K v w'):vcall Yp #[oP bs 0,nI k] w K:=by
 refine zg {} Tryz.func200 ?_;obtain⟨cs,m,b,l⟩:=h.cl;simp(disch:=exact oS) only[push_cast,h.blk.ld1,b.len];refine zb (λa=>?_) (λa=>zd λw1 d _=>?_)
 ·simp(disch:=exact oS) only[push_cast,h.blk.ld1,b.iaddr,b.load];refine n _ w (Same.refl _ _) ?_;have:=l k oM;rwa[atM,getD_app_l oM]
 ·have g:=h.ext d;have e:=b.ext d;obtain⟨j,rfl⟩:∃j,k=cs.length+j:=⟨k-cs.length,oM⟩;have f:=g.lists;have o:=h.lsl;simp(disch:=exact oS) only[push_cast,g.blk.ld1,g.blk.ld4,e.len,k6];rw[show(cs.length:Int)+j-cs.length=(j:Int) from by omega];simp(disch:=exact oS) only[push_cast,zl,f.iaddr,f.load,k6];refine n _ w1 d ?_;have:=g.ll.int (i:=j) oM;rwa[atM,m,getD_app_r]
theorem assign_spec {l y:Int} (h:SR N Fr w bs many c s σ) (J:l≠0) (hl:l.natAbs<=many) (r:placeOf s.put l.natAbs=0) (C:∀b,Fr b->b<w.heap.size)
  (X:∀W w',SR N Fr w' bs many c {s with put:=s.put++[l],why:=s.why++[y]} W->Same (σ.foot bs) w w'->(∀b,W.foot bs b->σ.foot bs b\/w.heap.size<=b)->K (.tuple #[]) w'):
  vcall Yq #[oP bs 0,nI l,nI y] w K:=by
 refine zg {} Tryz.func201 ?_;simp(disch:=exact oS) only[push_cast,h.blk.ld2];refine push_spec (d:=decide (y= -1)) h.tr J hl r C λn m w1 j f D=>?_;have S:=f.size;have t:∀x,σ.f3 bs x->¬kV σ.bt σ.vp σ.vpl σ.vl x:=λx a=>h.st x a;have B:=h.blk.same f (t bs (.inl rfl));have Q:=h.rw.same f λx a=>t x (.inr (.inl a));have M:=h.rl.same f λx a=>t x (.inr (.inr a));have R:=h.tr.few';have a0:=h.tr.few;have hlen:=h.tr.len;rw[jJ] at hlen;simp(disch:=exact oS) only[push_cast,B.ld3];refine zD xd yZ xx rfl rfl λb1 w2 Y i a1 I=>?_;have T:=i.size;refine(Q.ext i).app1 xF I oM oM λo w3 z k L=>?_;have U:=k.size;have G:=(B.ext i).same k λe=>h.s1 _ e rfl;have u:∀x,o.ownBlock=some x->σ.vw.ownBlock=some x\/w1.heap.size<=x:=λx a=>(L x a).imp id λh=>oM
 have Z:=h.lt (.inr (.inl rfl));have p:∀x,o.ownBlock=some x->x≠bs:=λx a e=>by
  rcases u x a with A|A
  ·exact h.s1 x A e
  ·omega
 refine G.st z.ints.cells1 z.ints.one jc rfl λV v a2 H=>?_;have O:∀x,kV σ.bt n σ.vpl m x->x<w1.heap.size:=by
  rintro x (rfl|e|e|e)
  ·exact j.blk.lt
  ·exact j.rp.lt e
  ·exact j.rpl.lt e
  ·exact j.rl.lt e
 have E:∀x,σ.f3 bs x->¬kV σ.bt n σ.vpl m x:=λx a g=>by
  rcases D x g with e|e
  ·exact h.st x a e
  ·have:=h.lt (.inr a);omega
 have F:Same (σ.f3 bs) w1 V:=(Same.of_ext i).trans ((k.mono λx _ e=> .inr (.inl e)).trans (v.mono λx _ e=> .inl e));have q:∀x,(SV.mk σ.vc σ.bt n σ.vpl m o σ.vr σ.ls).f3 bs x->σ.f3 bs x\/w1.heap.size<=x:=by
  rintro x (e|e|e)
  ·exact .inl (.inl e)
  ·exact(u x e).imp (λe=> .inr (.inl e)) id
  ·exact .inl (.inr (.inr e))
 refine X ⟨σ.vc,σ.bt,n,σ.vpl,m,o,σ.vr,σ.ls⟩ V ⟨H,h.cm,(h.cl.same f ?_).same F ?_,?_,z.same v p,?_,h.lsl,?_,p,h.s2,?_,?_,?_⟩ ?_ ?_
 ·exact λx hF _ g=>h.notF (.inl g) hF
 ·exact λx hF _ g=>h.notF (.inr g) hF
 ·have:=j.same F λx a e=>E x e a;rwa[<-jh0] at this
 ·exact((M.ext i).same k λx a e=>h.s3 x e a).same v λx a e=>h.s2 x a e
 ·exact(h.ll.same f λx hF _ g=>h.notF (.inl g) hF).same F λx hF _ g=>h.notF (.inr g) hF
 ·intro x a e;rcases u x a with A|A
  ·exact h.s3 x A e
  ·have:=h.lt (.inr (.inr (.inr e)));omega
 ·intro x a g;rcases q x a with e|e
  ·exact E x e g
  ·have:=O x g;omega
 ·intro x a hF;rcases q x a with e|e
  ·exact h.sf x e hF
  ·have:=C x hF;omega
 ·exact(f.mono λx _ e=> .inl e).trans (F.mono λx _ e=> .inr e)
 ·rintro x (e|e)
  ·exact(D x e).imp (λe=> .inl e) id
  ·exact(q x e).imp (λe=> .inr e) λh=>oM
theorem pop_take {α:Type} {d:α} {xs:List α} {n:Nat} (h:xs.length=n+1):xs=xs.take n++[xs.getD n d]:=by
 have:=pC n xs;rw[Z2 (d:=d) (show n<xs.length by omega),Gi (show xs.length<=n+1 by omega)] at this;exact this.symm
theorem goBack_spec {L:Int} (h:SR N Fr w bs many c s σ)
  (hK:∀f w' n,n=backN (yw s.why) L s.put.length->SR N Fr w' bs many c {s with put:=s.put.take n,why:=s.why.take n} f->Same (σ.foot bs) w w'->(∀b,f.foot bs b->σ.foot bs b)->K (.tuple #[]) w'):
  vcall Yo #[oP bs 0,nI L] w K:=by
 refine zg {loops:=[(1,[])],cuts:=[(8194,[])]} Tryz.func242 ?_;simp(disch:=exact oS) only[push_cast,h.blk.ld2];have ap:=h.tr.few';have ah:=h.tr.few;have hlen:=h.tr.len;rw[jJ] at hlen;refine vloop_up s.put.length (λi u w'=> ∃f,SR N Fr w' bs many c {s with put:=s.put.take (s.put.length-i),why:=s.why.take (s.put.length-i)} f/\f.bt=σ.bt/\Same (σ.foot bs) w w'/\(∀b,f.foot bs b->σ.foot bs b)/\backN (yw s.why) L (s.put.length-i)=backN (yw s.why) L s.put.length) ⟨σ,?_,rfl,Same.refl _ _,λ_ h=>h,by simp⟩ ?_
 ·rw[Nat.sub_zero,gE,<-hlen,gE];exact h
 rintro i u g w1 C hi ⟨f,h1,a3,T,z,U⟩ hC;generalize hn:s.put.length-i=n at*;have W:(s.put.take n).length=n:=by simp;omega
 have ao:(s.why.take n).length=n:=by simp;omega
 have ar:(yw (s.why.take n)).length=n:=by rw[jJ];exact ao
 have ag:n=backN (yw s.why) L s.put.length->K (.tuple #[]) w1:=λe=>hK f w1 n e h1 T z;rw[<-a3];refine zq (λu w'=>Ext w1 w'/\∃m,n=m+1/\L<lvl (yw s.why) m) ?_ ?_
 ·intro J hJ;refine zd λw2 t _=>?_;have G:=h1.ext t;have H:Ints _ w2 f.vp (s.put.take n):=G.tr.rp.ints;have a5:Ints _ w2 f.vl (levels (yw (s.why.take n))):=G.tr.rl.ints;have a6:=Yi (yw (s.why.take n));simp(disch:=exact oS) only[push_cast,G.tr.blk.ld0,H.len,k6];have r:n=backN (yw s.why) L s.put.length->K (.tuple #[]) w2:=λe=>hK f w2 n e G (T.trans (Same.of_ext t)) z;refine zb (λa=>?_) (λa=>?_)
  ·obtain⟨m,rfl⟩:∃m,n=m+1:=⟨n-1,oM⟩;simp(disch:=exact oS) only[push_cast,G.tr.blk.ld0,G.tr.blk.ld2,H.len,k6];rw[W,show(((m+1:Nat):Int)-1)=(m:Int) from by omega];simp(disch:=exact oS) only[push_cast,zl,a5.iaddr,a5.load,k6];rw[QF oM,<-zU0,lvl_take oM];refine zb (λb=>hJ _ _ ⟨t,m,rfl,b⟩) (λb=>r ?_);rw[<-U,backN,y1 b]
  ·refine r ?_;rw[<-U,show n=0 from by omega];rfl
 rintro _ g2 w2 ⟨t,m,rfl,hL⟩;have G:=h1.ext t;have H:OwnI zi w2 f.vp (s.put.take (m+1)):=G.tr.rp;have a7:=H.ints;simp(disch:=exact oS) only[push_cast,G.tr.blk.ld0,a7.len];rw[W,show(((m+1:Nat):Int)-1)=(m:Int) from by omega];simp(disch:=omega) only[push_cast,zl];refine zd λw3 a4 _=>?_;have j:=G.ext a4;have a8:OwnI zi w3 f.vp (s.put.take (m+1)):=j.tr.rp;have R:OwnI zi w3 f.vpl (places many (s.put.take (m+1))):=j.tr.rpl;have ai:OwnI zi w3 f.vl (levels (yw (s.why.take (m+1)))):=j.tr.rl;have am:OwnI zi w3 f.vw (s.why.take (m+1)):=j.rw;have Q:=a8.ints;have X:=R.ints;have au:=kZ many (s.put.take (m+1));have hm:(s.put.take (m+1)).getD m 0∈s.put.take (m+1):=getD_meS oM;have aq:=j.tr.bnd _ hm;simp(disch:=exact oS) only[push_cast,j.tr.blk.ld0,j.tr.blk.ld1,Q.iaddr,Q.load,k6];refine variable_spec oM oM ?_;simp(disch:=exact oS) only[push_cast,j.tr.blk.ld1,X.iaddr,k6,gj];refine R.st yZ oM λw4 a9 p av=>?_;have l:=pop_take (d:=0) W;rw[pw,GF (by omega:m<=m+1)] at l;generalize hx:(s.put.take (m+1)).getD m 0=x at*;have Y:OwnI zi w4 f.vpl (places many (s.put.take m)):=by
  have hd:Distinct (s.put.take m++[x]):=by rw[<-l];exact j.tr.dis
  rw[<-places_unsnoc (many:=many) hd,<-l];simpa using a9
 obtain⟨⟨t1,t2,t3,t4,t5,t6⟩,f1,f2,f3,f4⟩:=sep4.1 j.tr.sep;have k1:∀y,f.f3 bs y->f.vpl.ownBlock≠some y:=λy k e=>j.st y k (.inr (.inr (.inl e)));have ac:Blk w4 f.bt [f.vp,f.vpl,f.vl] yB:=j.tr.blk.same p λe=>t2 _ rfl e;have a1:Blk w4 bs [nI many,f.vc,oP f.bt 0,f.vw,f.vr,nI s.code] yA:=j.blk.same p λe=>k1 _ (.inl rfl) e;have ak:=a8.same p λy k e=>t4 y k e;have aj:=ai.same p λy k e=>t6 y e k;have an:=am.same p λy k e=>k1 y (.inr (.inl k)) e;have al:=j.rl.same p λy k e=>k1 y (.inr (.inr k)) e;refine zd λw5 o _=>?_;have S:=ac.ext o;have M:=a1.ext o;have I:=ak.ext o;have E:=aj.ext o;have A:=an.ext o;have a6:=Yi (yw (s.why.take (m+1)));simp(disch:=exact oS) only[push_cast,S.ld0,S.ld2,M.ld3,I.cut,E.cut,A.cut,k6];refine S.st (I.taken (n:=m) oM).ints.cells1 (I.taken (n:=m) oM).ints.one jc rfl λw6 aa aw ad=>?_
 try simp(disch:=exact oS) only[push_cast,E.cut,A.cut,k6,gj]
 refine ad.st (E.taken (n:=m) oM).ints.cells1 (E.taken (n:=m) oM).ints.one jc rfl λw7 ab ax ae=>?_
 try simp(disch:=exact oS) only[push_cast,A.cut,k6,gj]
 have V:bs≠f.bt:=λe=>j.st bs (.inl rfl) (.inl e);have a2:=(M.same aa V).same ab V;refine a2.st (A.taken (n:=m) oM).ints.cells1 (A.taken (n:=m) oM).ints.one jc rfl λw8 F ay af=>?_;have q:Same (· =f.bt) w5 w7:=aa.trans ab;have mv:∀{xs:List Int} {v:Value},OwnI zi w5 v xs->(∀y,v.ownBlock=some y->y≠f.bt/\y≠bs)->OwnI zi w8 v xs:=λhv k=>(hv.same q λy e=>(k y e).1).same F λy e=>(k y e).2;have nbt:∀y,f.tf y->y≠bs:=λy k e=>j.st bs (.inl rfl) (e▸k);have hP:=I.taken (n:=m) oM;have Z:=E.taken (n:=m) (by rw[a6];omega);have hW:=A.taken (n:=m) oM;rw[pw,GF (by omega:m<=m+1)] at hP hW;rw[levels_take,zU0,pw,GF (by omega:m<=m+1)] at Z;have a0:Same (σ.foot bs) w3 w8:=(p.mono λy _ e=>z _ (.inl (.inr (.inr (.inl e))))).trans ((Same.of_ext o).trans ((q.mono λy _ e=>z _ (.inl (.inl e))).trans (F.mono λy _ e=>z _ (.inr (.inl e)))));have D:Same (f.foot bs) w3 w8:=(p.mono λy _ e=>(.inl (.inr (.inr (.inl e))))).trans ((Same.of_ext o).trans ((q.mono λy _ e=>(.inl (.inl e))).trans (F.mono λy _ e=>(.inr (.inl e)))));have O:s.put.length-(i+1)=m:=oM
 refine hC oM _ _ ⟨⟨f.vc,f.bt,cutV f.vp m,f.vpl,cutV f.vl m,cutV f.vw m,f.vr,f.ls⟩,?_,a3,?_,?_,?_⟩
 ·rw[O];refine⟨af,j.cm,j.cl.same D λy k _ ht=>j.notF ht k,?_,?_,?_,j.lsl,j.ll.same D λy k _ ht=>j.notF ht k,?_,j.s2,?_,?_,?_⟩
  ·refine⟨(show Blk w7 f.bt [cutV f.vp m,f.vpl,cutV f.vl m] yB from ae).same F λe=>V e.symm,mv hP λy e=>?_,mv (Y.ext o) λy e=>?_,mv Z λy e=>?_,?_,?_,?_,?_,ah⟩
   ·rw[xL] at e;exact⟨λB=>t1 _ rfl (B▸e),nbt y (.inr (.inl e))⟩
   ·exact⟨λB=>t2 _ rfl (B▸e),nbt y (.inr (.inr (.inl e)))⟩
   ·rw[xL] at e;exact⟨λB=>t3 _ rfl (B▸e),nbt y (.inr (.inr (.inr e)))⟩
   ·rw[xL,xL];exact j.tr.sep
   ·show(yw (s.why.take m)).length=(s.put.take m).length;rw[jJ,gi,gi];omega
   ·have:=distinct_take j.tr.dis m;rwa[pw,GF (by omega:m<=m+1)] at this
   ·intro y k;refine j.tr.bnd y ?_;show y∈s.put.take (m+1);rw[l];exact Gc _ k
  ·refine mv hW λy e=>?_;rw[xL] at e;exact⟨λB=>j.st y (.inr (.inl e)) (.inl B),j.s1 y e⟩
  ·exact((al.ext o).same q λy e B=>j.st y (.inr (.inr e)) (.inl B)).same F λy e B=>j.s2 y e B
  ·intro y e;rw[xL] at e;exact j.s1 y e
  ·intro y e;rw[xL] at e;exact j.s3 y e
  ·intro y k ht;refine j.st y ?_ ?_
   ·rcases k with e|e|e
    ·exact .inl e
    ·exact .inr (.inl (by rwa[xL] at e))
    ·exact .inr (.inr e)
   ·rcases ht with e|e|e|e
    ·exact .inl e
    ·exact .inr (.inl (by rwa[xL] at e))
    ·exact .inr (.inr (.inl e))
    ·exact .inr (.inr (.inr (by rwa[xL] at e)))
  ·intro y k;refine j.sf y ?_;rcases k with e|e|e
   ·exact .inl e
   ·exact .inr (.inl (by rwa[xL] at e))
   ·exact .inr (.inr e)
 ·exact T.trans ((Same.of_ext (t.trans a4)).trans a0)
 ·intro y k;refine z y ?_;rcases k with(e|e|e|e)|e|e|e
  ·exact .inl (.inl e)
  ·exact .inl (.inr (.inl (by rwa[xL] at e)))
  ·exact .inl (.inr (.inr (.inl e)))
  ·exact .inl (.inr (.inr (.inr (by rwa[xL] at e))))
  ·exact .inr (.inl e)
  ·exact .inr (.inr (.inl (by rwa[xL] at e)))
  ·exact .inr (.inr (.inr e))
 ·rw[O,<-U,backN,X0 hL]
end
end
section
variable {w:World} {K:oK} {F Fr:Nat->Prop} {many:Nat}
theorem few_ints {ks:List Int} (g:ks.Nodup) (b:∀k,k∈ks->k.natAbs<=700):ks.length<=1401:=by
 have d:(ks.map λk=>(k+701).toNat).Nodup:=by
  unfold List.Nodup;rw[pc];refine(Pk.2 λ{a c} hs=>?_);have e:a∈ks:=hs.subset (by simp);have f:c∈ks:=hs.subset (by simp);have:=b a e;have:=b c f;have i:a≠c:=by
   have:=g.sublist hs;simpa using this
  omega
 have:=nodup_le (m:=1401) d λx j=>by
  obtain⟨k,h,rfl⟩:=gw.1 j;have:=b k h;omega
 simpa using this
theorem greatest_spec {bt b:Nat} {put ks:List Int} {ds:List Bool} {vp vpl vl:Value} (h:TrailR Fr w bt many put ds vp vpl vl) (hm:ISet w b ks) (N:∀k,k∈ks->k.natAbs<=many/\placeOf put k.natAbs≠0)
  (hK:∀w' top v xs,Ext w w'->TopOf put ds ks top xs->OwnI zi w' v xs->(∀x,v.ownBlock=some x->w.heap.size<=x)->K (.tuple #[nI (top:Nat),v]) w'):
  vcall ZK #[oP bt 0,.map (some b)] w K:=by
 refine zg {loops:=[(4,[6,7])]} Tryz.func280 ?_;have ad:=h.few;have a8:=h.few';have hlen:=h.len;have a0:=hm.nodup;have af:ks.length<=1401:=few_ints a0 λk M=>by have:=(N k M).1;omega
 refine VR xC hm λr w1 hr J W=>?_;refine vloop_up ks.length (λi u w'=> ∃dn top v xs,dn.length=i/\u=[nI (top:Nat),v]/\IterR w' r b ks dn/\OwnI zi w' v xs/\TopOf put ds dn top xs/\Ext w w'/\r<w'.heap.size/\top<=700/\(∀x,v.ownBlock=some x->w.heap.size<=x/\x≠r))
  ⟨[],0,.slice none 0 0,[],rfl,rfl,J,OwnI.nil,⟨by simp,by simp,.inl rfl,po⟩,W,?_,oM,λx z=>by cases z⟩ ?_
 ·exact J.lt
 rintro i _ g w2 C hi ⟨dn,top,v,xs,F,rfl,hit,hv,l,he,ae,D,j⟩ U;refine vnext_set hit (λA=>?_) λk x w3 M Z p S ah=>?_
 ·simp only[push_cast];refine hK w2 top v xs he ⟨λk M=>l.le k (A k M),λk=>?_,l.ne,l.nd⟩ hv λx z=>(j x z).1;rw[l.mem];obtain⟨_,_,_,_,_,_,_,_,s,_⟩:=hit;exact⟨λ⟨a,b⟩=>⟨s k a,b⟩,λ⟨a,b⟩=>⟨A k a,b⟩⟩
 have o:Ext w w3:=he.then S λy d=>by subst d;omega
 have a4:=hv.same S λy d=>(j y d).2;simp only[push_cast];refine VS p λx'=>?_;simp only[push_cast];obtain⟨X,Y⟩:=N k M;refine level_spec (h.ext o) X Y λw4 n=>?_;have T:=a4.ext n;have m:=p.ext n;have Q:lvl ds (placeOf put k.natAbs-1)=lvM put ds k:=rfl;have O:lvM put ds k<=700:=by have:=lvl_le ds (placeOf put k.natAbs-1);rw[Q] at this;omega
 rw[Q];simp only[push_cast];have G:i<ks.length:=by have:=p.len;simp at this;omega
 have B:∀y,y∈xs->y∈dn:=λy d=>((l.mem y).1 d).1;have ag:xs.length<=i:=by have:=Pt l.nd B;omega
 have a9:=o.size;have aa:=n.size;have R:=m.lt;have a1:k∉xs:=λh=>Z (B k h);have memd:∀y,y∈dn++[k]↔y∈dn\/y=k:=λy=>by simp
 refine zb (λa=>?_) (λa=>?_)
 ·refine zD xd yZ xx rfl rfl λb1 w5 V f a7 E=>?_;refine U G _ _ ⟨dn++[k],lvM put ds k,_,[k],by simp[F],rfl,m.ext f,Blk.own1 (t:=zi) (cs:=[nI k]) (by rw[qL];exact E) (gO _) rfl rfl oM,⟨λy d=>?_,λy=>?_,.inr (by simp),by simp⟩,o.trans (n.trans f),oM,O,?_⟩
  ·rcases(memd y).1 d with d|rfl
   ·have:=l.le y d;omega
   ·exact gx _
  ·rw[memd,gy];constructor
   ·rintro rfl;exact⟨.inr rfl,rfl⟩
   ·rintro⟨d|rfl,e⟩
    ·have:=l.le y d;omega
    ·rfl
  ·intro x z;have e:b1=x:=gd z;omega
 ·refine zb (λa2=>?_) (λa2=>?_)
  ·refine zD xd yZ xx rfl rfl λb1 w5 V f a7 E=>?_;have a5:=T.ext f;refine a5.app1 xF E oM oM λv' w6 a6 H a3=>?_;have ab:=f.size;have ac:=H.size;have I:∀x,v'.ownBlock=some x->w.heap.size<=x/\x≠r:=λx z=>by
    rcases a3 x z with e|e
    ·exact j x e
    ·have:=he.size;constructor<;>omega
   have L:=(m.ext f).same H (λe=>by have:=(j b e).1;have:=hm.lt;omega) λe=>(j r e).2 rfl;have hE:Ext w w6:=Ext.then (o.trans (n.trans f)) H λx z=>(j x z).1;refine U G _ _ ⟨dn++[k],top,v',xs++[k],by simp[F],rfl,L,a6,⟨λy d=>?_,λy=>?_,.inr (by simp),?_⟩,hE,oM,D,I⟩
   ·rcases(memd y).1 d with d|rfl
    ·exact l.le y d
    ·omega
   ·rw[memd,gp,gy,l.mem];constructor
    ·rintro(⟨q,s⟩|rfl)
     ·exact⟨.inl q,s⟩
     ·exact⟨.inr rfl,oM⟩
    ·rintro⟨q|q,s⟩
     ·exact .inl ⟨q,s⟩
     ·exact .inr q
   ·rw[Gw];exact⟨l.nd,by simp,λa ha c hc e=>by simp at hc;subst hc;subst e;exact a1 ha⟩
  ·refine U G _ _ ⟨dn++[k],top,v,xs,by simp[F],rfl,m,T,⟨λy d=>?_,λy=>?_,l.ne,l.nd⟩,o.trans n,R,D,j⟩
   ·rcases(memd y).1 d with d|rfl
    ·exact l.le y d
    ·omega
   ·rw[memd,l.mem];constructor
    ·rintro⟨q,s⟩;exact⟨.inl q,s⟩
    ·rintro⟨q|rfl,s⟩
     ·exact⟨q,s⟩
     ·omega
end
section
variable {w:World} {K:oK} {F:Nat->Prop}
def kN0 (a b:Int):Int:=if a<b then-1 else if b<a then 1 else 0
theorem cmpI_pos {a b:Int}:0<kN0 a b↔b<a:=by unfold kN0;split<;>(try split)<;>omega
theorem zO0 {a:Int} (b:K (.bool false) w):vcall Km #[nI a] w K:=by
 refine zg {} Tryz.func298 ?_;simp only[push_cast,P9,not_true_eq_false,decide_false];exact b
theorem KP {a b:Int} (c:K (nI (kN0 a b)) w):vcall QC #[nI a,nI b] w K:=by
 refine zg {} Tryz.func283 ?_;refine zO0 (zO0 ?_);simp only[push_cast];unfold kN0 at c;refine zb (λh=>?_) (λh=>zb (λd=>?_) (λd=>?_))
 ·rwa[X0 h] at c
 ·rwa[y1 h,X0 d] at c
 ·rwa[y1 h,y1 d] at c
def FnI (w0:World) (f:Value) (args:Array Value) (b:Int):Prop:=
 ∀(w':World) (K:oK),Ext w0 w'->(∀w'',Ext w' w''->K (nI b) w'')->vcallv f args w' K
theorem MaxFunc_Lint {v f:Value} {xs:List Int} {g:Int->Int} (p:Ints F w v xs) (t:xs≠[]) (B:∀a b,a∈xs->b∈xs->FnI w f #[nI a,nI b] (kN0 (g a) (g b)))
  (A:∀w' m,Ext w w'->m∈xs->(∀x,x∈xs->g x<=g m)->K (nI m) w'):vcall kM #[v,f] w K:=by
 refine zg {loops:=[(5,[5,6])],cuts:=[(8195,[])]} Tryz.func281 ?_;have o:0<xs.length:=Gz.2 t;have hlen:xs.length<=9223372036854775807:=by obtain⟨_,_,_,z,E,_⟩:=p.shape;simp at z;omega
 refine zq (λu w'=>Ext w w'/\w'=w) ?_ ?_
 ·intro C r;simp(disch:=exact oS) only[push_cast,p.len];exact zb (λa=>oM) (λa=>r _ _ ⟨Same.refl _ _,rfl⟩)
 rintro _ _ _ ⟨-,rfl⟩;simp(disch:=exact oS) only[p.iaddr,PQ,p.load];refine vloop_up (xs.length-1) (λi u w'=> ∃m,u=[nI m,nI (i+1:Nat)]/\Ext w' w'/\Ext _ w'/\m∈xs/\∀j,j<=i->g (xs.getD j 0)<=g m) ⟨xs.getD 0 0,rfl,Same.refl _ _,Same.refl _ _,getD_meS o,λj n=>by
  have:j=0:=oM;subst this;exact Pw _⟩ ?_
 rintro i _ _ w1 C hi ⟨m,rfl,-,he,hm,c⟩ r;have d:=p.ext he;simp(disch:=exact oS) only[sl0,sl1,d.len,yN0];refine zb (λa=>?_) (λa=>?_)
 ·simp(disch:=exact oS) only[d.iaddr,gq,d.load];have n:xs.getD (i+1) 0∈xs:=getD_meS oM;refine B _ _ n hm w1 _ he λw2 l=>?_;have q:=d.ext l;have k:IntKind.i64.wrap (((i+1:Nat):Int)+1)=((i+1+1:Nat):Int):=by rw[zl oM oM];omega
  simp only[yO0];refine zb (λb=>?_) (λb=>?_)
  ·simp(disch:=exact oS) only[q.iaddr,gq,q.load,Xx,k];refine r oM _ _ ⟨_,rfl,Same.refl _ _,he.trans l,n,λj s=>?_⟩;have D:g m<g (xs.getD (i+1) 0):=cmpI_pos.1 b;by_cases e:j=i+1
   ·subst e;exact Pw _
   ·have:=c j oM;omega
  ·simp only[Xx,k];refine r oM _ _ ⟨_,rfl,Same.refl _ _,he.trans l,hm,λj s=>?_⟩;have hle:g (xs.getD (i+1) 0)<=g m:=Int.not_lt.1 λh=>b (cmpI_pos.2 h);by_cases e:j=i+1
   ·subst e;exact hle
   ·exact c j oM
 ·refine A w1 m he hm λx y=>?_;obtain⟨j,n,rfl⟩:=gu y;have:=c j oM;simpa[q0,n] using this
end
section
variable {w:World} {K:oK} {Fr:Nat->Prop} {many bs:Nat} {c:Cnf} {s:Sat} {σ:SV} {N:Nat}
theorem learn_2_spec {a b:Int} (d:a.natAbs<=700) (e:b.natAbs<=700) (c:K (nI (kN0 a.natAbs b.natAbs)) w):vcall yH #[nI a,nI b] w K:=by
 refine zg {} Tryz.func285 ?_;exact variable_spec oM oM (variable_spec oM oM (KP c))
def plM (put:List Int) (a:Int):Int:=(placeOf put a.natAbs:Int)-1
theorem zH0 {a b:Int} {p:Nat} {t:TypeId} {r:List Value} (h:SR N Fr w bs many c s σ) (o:Blk w p (oP bs 0::r) t) (m:a.natAbs<=many) (n:b.natAbs<=many)
  (l:∀w',Ext w w'->K (nI (kN0 (plM s.put a) (plM s.put b))) w'):vcall ZN #[nI a,nI b,oP p 0] w K:=by
 refine zg {} Tryz.func282 ?_;refine zd λw1 d _=>?_;have g:=h.ext d;have f:=o.ext d;simp only[push_cast,f.ld0,g.blk.ld2,k6];refine place_spec g.tr m λw2 e=>?_;have k:=g.ext e;have j:=f.ext e;simp only[push_cast,j.ld0,k.blk.ld2,k6,gj];exact place_spec k.tr n λw3 i=>KP (l w3 (d.trans (e.trans i)))
theorem resolve_1_spec {a:Int} {p:Nat} {t:TypeId} {r:List Value} (h:SR N Fr w bs many c s σ) (g:Blk w p (oP bs 0::r) t) (f:a.natAbs<=many) (b:placeOf s.put a.natAbs≠0)
  (e:∀w',Ext w w'->K (.bool (decide (0<lvM s.put (yw s.why) a))) w'):vcall Ze #[nI a,oP p 0] w K:=by
 refine zg {} Tryz.func239 ?_;simp only[push_cast,g.ld0,h.blk.ld2];refine level_spec h.tr f b λw1 d=>?_;have:=e w1 d;simp only[push_cast];rwa[show decide ((0:Int)<(lvl (yw s.why) (placeOf s.put a.natAbs-1):Nat))=decide (0<lvM s.put (yw s.why) a) from decide_eq_decide.2 (by unfold lvM;omega)]
end
section
variable {w:World} {K:oK}
abbrev Y00:={x:Int//x.natAbs<=700}
instance:Inhabited Y00:=⟨⟨0,dC⟩⟩
def litV (x:Y00):Value:= nI x.1
def ZQ0 (x y:Y00):Int:=kN0 x.1.natAbs y.1.natAbs
theorem litC_lt (x y:Y00):ltOf ZQ0 x y=decide (x.1.natAbs<y.1.natAbs):=by
 unfold ltOf ZQ0 kN0;refine decide_eq_decide.2 ?_;split<;>(try split)<;>omega
theorem litC_swo:Go.Sort.SWO (ltOf ZQ0) where
 irrefl x:=by rw[litC_lt];simp
 trans x y z a b:=by rw[litC_lt] at*;simp at*;omega
 ntrans x y z a b:=by rw[litC_lt] at*;simp at*;omega
theorem Vo (args:Array Value) (w:World):(callFunc yH args).run P w= .ok (.enter yH args) w:=callFunc_run rK
theorem U6 (blk off size:Nat) (w:World):CmpReads P yH #[] litV ZQ0 blk off size w:=by
 intro m os dk _ x y;have h:=learn_2_spec (K:=λv w'=>v= nI (ZQ0 x y)/\∃q,w'=(sortWorld litV w blk off m dk os).drewN q) (w:=sortWorld litV w blk off m dk os) x.2 y.2 ⟨rfl,0,rfl⟩;refine Calls.mono h.2 λe w' he=>?_;cases e with
 |returned v=>exact⟨by rw[he.1],he.2⟩
 |panicked c=>exact he.elim
 |outgrown=>exact he.elim
theorem SortFunc_learn {v : Value} {xs : List Int} (hv : OwnI zi w v xs) (hne : xs ≠ []) (hb : ∀ x, x ∈ xs -> x.natAbs <= 700) (hnd : (xs.map Int.natAbs).Nodup)
    (hK : ∀ w' ys, OwnI zi w' v ys -> Srt ys -> (∀ k, k ∈ ys ↔ k ∈ xs) -> Same (λb => v.ownBlock = some b) w w' -> K (.tuple #[]) w') :
    vcall km #[v, .func (.func yH) #[] #[]] w K := by
  refine ⟨by kernel_rfl, ?_⟩
  have hsm := hv.small
  have hlen : xs.length <= 1401 := few_ints (by
    unfold List.Nodup at hnd ⊢
    rw [pc] at hnd
    exact hnd.imp λh e => h (by rw [e])) hb
  have hrow := Own.row hv
  rcases hrow.2 with ⟨rfl, hn⟩ | ⟨g, cap, cur, rfl, hbg, hg, hnc, hcm, hcs, htake⟩
  · simp at hn; exact absurd hn hne
  let L : List Y00 := xs.attach.map λx => ⟨x.1, hb x.1 x.2⟩
  have hL : L.map (·.1) = xs := by
    simp [L]
  let d : Array Y00 := L.toArray
  have hds : d.size = xs.length := by simp [d, L]
  have hdj : ∀ j, j < xs.length -> litV d[j]! = .int .i64 (xs.getD j 0) := λj hj => by
    have h1 : (L.map (·.1)).getD j 0 = xs.getD j 0 := by rw [hL]
    simp only [litV]
    rw [<- h1, getElem!_pos d j (by omega)]
    have : j < L.length := by simp [L]; exact hj
    simp [d, q0, this]
  have hH : Go.Sort.Holds litV w g 0 d := by
    intro j hj
    rw [hds] at hj
    have hi' : j < ((xs.map λx => Value.int .i64 x).map λx => [x]).length * 1 := by simpa using hj
    have hc := World.ownsRow.cellAt hrow j hi'
    have hf := World.ownsRow.frozenAt hrow j
    rw [gY]
    refine ⟨?_, hf⟩
    rw [hc, flat1, hdj j hj]
    simp [q0, hj]
  have hcon := Any.slices_SortFunc YtjkkiaacmedfdaaGreatDoor.sortL litV (λ_ => rfl) ZQ0 litC_swo yH #[] g 0 cap d w Vo (U6 g 0 d.size w).lays hH (gG.1 hg).1 (by omega)
  have hsz : ((xs.map λx => Value.int .i64 x).map λx => [x]).length = d.size := by simp [hds]
  rw [hsz]
  refine Calls.mono hcon ?_
  rintro e w' ⟨rfl, d', n, os, hp, hs, rfl⟩
  show K _ _
  obtain ⟨hp1, hp2, hp3⟩ := hp
  have hex : d'.toList.Perm L := by
    have e1 : d'.extract 0 d.size = d' := by rw [<- hp1]; simp
    have e2 : d.extract 0 d.size = d := by simp
    rw [e1, e2] at hp3
    exact hp3
  have hmap : (d'.toList.map (·.1)).Perm xs := by rw [<- hL]; exact hex.map _
  have hgl := (gG.1 hg).1
  have hcells : (sortWorld litV w g 0 n d' os).heap[g]? = some (.cells (Go.Sort.putCells litV 0 d' cur) (YM zi) (0, 0)) := by
    unfold sortWorld Go.Sort.grow Go.Sort.putRow Go.Sort.mapBlock Go.Sort.ahead
    simp only
    rw [PR (by simpa using hgl)]
    simp [G2, hg, Go.Sort.onCells]
  have hlen' : d'.toList.length = xs.length := by simpa [L] using hex.length_eq
  refine hK _ (d'.toList.map (·.1)) ⟨⟨by rw [flat1]; simp only [Q1, pK], .inr ⟨g, cap, _, by simp only [Q1, hds, hlen'], hbg, hcells, ?_, hcm, ?_, ?_⟩⟩, λy hy => by obtain ⟨u, _, rfl⟩ := gw.1 hy; rfl⟩ ?_ (λk => hmap.mem_iff) ?_
  · simp only [Q1] at hnc ⊢; simp at hlen' ⊢; omega
  · simpa [Go.Sort.putCells] using hcs
  · rw [flat1]
    simp only [Q1, pK, hlen']
    refine List.ext_getElem? λi => ?_
    rw [PM]
    split
    · rename_i hi
      have hic : i < cur.size := by simp at hnc; omega
      have hid : i < d'.size := by omega
      simp [Go.Sort.putCells, Array.getElem?_mapIdx, hic, hid, litV]
    · rename_i hi
      symm
      rw [Pm]
      simp at hlen' ⊢; omega
  · unfold Srt
    rw [pc, GD]
    intro i j hi hj hij
    have h1 := hs i j (gO _) hij (by simp at hj; omega)
    rw [litC_lt] at h1
    simp only [decide_eq_false_iff_not, Nat.not_lt] at h1
    simp only [pH] at hi hj
    rw [getElem!_pos d' i hi, getElem!_pos d' j hj] at h1
    simp only [Array.getElem_toList]
    refine Nat.lt_of_le_of_ne h1 λe => ?_
    have hnd2 : ((d'.toList.map (·.1)).map Int.natAbs).Nodup := (hmap.map _).nodup_iff.2 hnd
    unfold List.Nodup at hnd2
    rw [GU, pc, GD] at hnd2
    have := hnd2 i j (by simpa using hi) (by simpa using hj) hij
    simp at this
    exact this e
  · refine ⟨rfl, rfl, rfl, by simp [sortWorld, Go.Sort.grow, Go.Sort.putRow, Go.Sort.mapBlock, Go.Sort.ahead], λb hb' hne' => ?_⟩
    have hbg' : g ≠ b := λe => hne' (by rw [e]; rfl)
    unfold sortWorld Go.Sort.grow Go.Sort.putRow Go.Sort.mapBlock Go.Sort.ahead
    simp only
    rw [PR (by simpa using hb'), G2, y1 hbg']
end
section
variable {w:World} {F:Nat->Prop} {c:Cnf} {s:Sat}
def SatR (F:Nat->Prop) (w:World) (v:Value) (s:Sat):Prop:=
 ∃vp vw vl,v= .agg #[vp,vw,vl,nI s.code]/\Ints F w vp s.put/\Ints F w vw s.why/\Lists F w vl s.learned
theorem SatR.ext {v:Value} {w':World} (h:SatR F w v s) (hw:Ext w w'):SatR F w' v s:=by
 obtain⟨vp,vw,vl,d,a,b,c⟩:=h;exact⟨vp,vw,vl,d,a.ext hw,b.ext hw,c.ext hw⟩
end
end Go.Proofs.YtjkkiaacmedfdaaGreatDoor
end
