import Derived.Test.YtokflbdfnbppjaaGreatDoorWvaP8
/- A part of the proof. -/
set_option linter.all false
namespace Go.Proofs.YtokflbdfnbppjaaGreatDoor
open Go Go.Vc Go.Proofs
section
variable {w:World} {K:Value->World->Prop} {F D G:Nat->Prop}
theorem l2Term_step {d:Nat} (an:d<=9) (hT:∀e,e<d->y90 e):y90 d:=by
 intro w K F D b p v dv xs ds sort deep h hF hd hD hD1 Y l m ap ao hp S;apply ZL0;refine Dw.begin h hF hd hD hD1 λw1 h1=>?_;have a9:=cost_ge d;have G:∀{w2:World} {p2:Nat},Dw F D w b w.heap.size v dv xs ds w2 p2->p2<=p+1->j50 d=100\/0<d->p2+100<=p+j50 d\/d=0->(d=0->p2=p)->
   vcall P jC #[.pointer (some ⟨b,0,none⟩),dv,.int .i64 sort] w2 λt27 ak=>zn P za (.pointer (some ⟨w.heap.size,0,none⟩)) t27 ak λ_ al=>vlv P za (.pointer (some ⟨w.heap.size,0,none⟩)) al λr8 am=>K r8 am:=by
  intro w2 p2 n Z _ T hz;refine n.sub (c:=100) (λK' O=>l2Leafy_spec n.rd (λx M=>gI (hF x M) n.same.size) n.dcl hD Y l m (by rcases T with T|T<;>omega) O) λR p3 tv t y ag ar ht X=>?_;obtain⟨cs,rfl,U⟩:=ht.cells;refine y.fin (p0:=p) (c:=j50 d) ?_ U X S;rcases T with T|T
  ·omega
  ·have:=hz T;omega
 refine zS (λu w'=> ∃p',u=[]/\Dw F D w b w.heap.size v dv xs ds w' p'/\p'<=p+1/\1<=deep) (λC hC=>?_) ?_
 ·simp only[push_cast];refine zh (λa=>?_) (λa=>?_)
  ·refine G h1 (by omega) (by
    by_cases h0:d=0
    ·subst h0;left;rfl
    ·right;omega) ?_ (λ_=>rfl)
   by_cases h0:d=0
   ·exact .inr h0
   ·left;omega
  ·have V:1<=d:=(by omega);have aa:j50 d=4*j50 (d-1):=by
    obtain⟨e,rfl⟩:∃e,d=e+1:=⟨d-1,by omega⟩;exact cost_succ e
   have a4:=cost_ge (d-1);refine zh (λc=>?_) (λc=>?_)
   ·refine h1.pick (by omega) (by omega) λw2 k n av O _=>?_;simp only[push_cast];refine zh (λe=>?_) (λe=>?_)
    ·exact G n (by omega) (.inr (by omega)) (.inl (by omega)) (by omega)
    ·exact hC _ _ ⟨p+1,rfl,n,by omega,by omega⟩
   ·exact hC _ _ ⟨p,rfl,h1,by omega,by omega⟩
 rintro u g w2 ⟨p2,rfl,n,Z,ac⟩;have V:1<=d:=by omega
 obtain⟨J,ab⟩:∃J,d=J+1:=⟨d-1,by omega⟩;have aa:j50 d=4*j50 J:=by rw[ab,cost_succ]
 have a4:=cost_ge J;have e1:IntKind.i64.wrap (deep-1)=deep-1:=zJ (by omega) (by omega);have f:∀{w2:World} {p2:Nat} {s:Int} {K':Value->World->Prop},Dw F D w b w.heap.size v dv xs ds w2 p2->0<=s->s<=4->p2+j50 J<1099511627776->(∀R p3 tv t,Dw F D w b w.heap.size v dv xs ds R p3->Same (· =b) w2 R->p3<=p2+j50 J->TermR (Nw w.heap.size) R tv t->t.ks.length<=3->K' tv R)->
   vcall P yr #[.pointer (some ⟨b,0,none⟩),dv,.int .i64 s,.int .i64 (deep-1)] w2 K':=λn l m Z a8=>
  n.sub (λK' O=>hT J (by omega) n.rd (λx M=>gI (hF x M) n.same.size) n.dcl hD (λx M=>gI (hD1 x M) n.same.size) Y l m (by omega) (by omega) Z O) a8
 refine n.pick (by omega) (by omega) λR k y ag O _=>?_;have aq:=O (by omega);simp only[push_cast,e1];refine zh (λa=>?_) (λa=>?_)
 ·refine f y (by omega) (by omega) (by omega) λw4 p4 N t0 h4 Q ae j _=>?_;refine f h4 l m (by omega) λw5 p5 a7 t1 z H au I _=>?_;refine f z l m (by omega) λw6 p6 aw t2 q r L ah _=>?_;refine kids3 (z.keep (h4.keep j H) r) (z.keep I r) ah λw7 sa B a6 i=>?_;have A:=q.ext B;simp only[push_cast];exact A.fin (p0:=p) (by omega) (TmR.of (t:= .mk 23 0 0 _ [t0,t1,t2]) (q.tms i)) (Gf rfl) S
 refine zh (λa0=>?_) (λa0=>?_)
 ·refine y.sub (c:=2*j50 J+10) (λK' O=>l2Asks_spec (hT J (by omega)) y.rd (λx M=>gI (hF x M) y.same.size) y.dcl hD (λx M=>gI (hD1 x M) y.same.size) Y ac (by omega) (by omega) (by omega) O) λw4 p4 tv t h4 Q ae ht X=>?_;obtain⟨cs,rfl,U⟩:=ht.cells;exact h4.fin (p0:=p) (by omega) U X S
 refine zh (λa1=>?_) (λa1=>?_)
 ·rw[zJ (x:=5-sort) (by omega) (by omega)];refine y.pick (by omega) (by omega) λw4 k4 h4 Q ad a5=>?_;have ai:sort+(k4:Int)<=4:=by
   by_cases hn:1<=5-sort
   ·have:=ad hn;omega
   ·have:=a5 (by omega);omega
  simp only[push_cast];rw[zJ (x:=sort+(k4:Int)) (by omega) (by omega),zJ (x:=sort+(k4:Int)-sort) (by omega) (by omega),zJ (x:=sort+(k4:Int)-sort+1) (by omega) (by omega)];refine h4.pick (by omega) (by omega) λw5 k5 z H o _=>?_;have E:=o (by omega);simp only[push_cast];refine f z (by omega) ai (by omega) λw6 p6 N t0 q r L j _=>?_;refine Xq0 j λw7 sa B a6 i=>?_;have A:=q.ext B;simp only[push_cast];exact A.fin (p0:=p) (by omega) (TmR.of (t:= .mk 22 _ _ _ [t0]) (q.tms i)) (Gf rfl) S
 refine zS (λu w'=>u=[]/\w'=R) (λC hC=>?_) ?_
 ·refine zS (λu w'=>u=[.bool (decide (k=2/\1<sort))]/\w'=R) (λC' a3=>?_) ?_
  ·try simp only[push_cast]
   refine zh (λc=>?_) (λc=>?_)
   ·refine a3 _ _ ⟨?_,rfl⟩;have c':k=2:=(by omega);simp only[c',true_and]
   ·exact a3 _ _ ⟨by rw[decide_eq_false (by omega)],rfl⟩
  rintro u g w4 ⟨rfl,rfl⟩;simp only[push_cast];refine zh (λc=>?_) (λc=>?_)
  ·rw[zJ (x:=sort-1) (by omega) (by omega)];refine y.pick (by omega) (by omega) λw5 k5 z H o _=>?_;have E:=o (by omega)
   try simp only[push_cast]
   rw[zJ (x:=1+(k5:Int)) (by omega) (by omega)];refine f z (by omega) (by omega) (by omega) λw6 p6 N t0 q r L j _=>?_
   try simp only[push_cast]
   rw[zJ (x:=sort-(1+(k5:Int))) (by omega) (by omega)];refine f q (by omega) (by omega) (by omega) λw7 p7 a7 t1 A a2 af I _=>?_;refine kids2 (q.keep j a2) I λw8 sa W aj i=>?_;have h8:=A.ext W;simp only[push_cast];exact h8.fin (p0:=p) (by omega) (TmR.of (t:= .mk 14 0 0 _ [t0,t1]) (A.tms i)) (Gf rfl) S
  ·exact hC _ _ ⟨rfl,rfl⟩
 rintro u g w4 ⟨rfl,rfl⟩
 try simp only[push_cast]
 refine zh (λc=>?_) (λc=>?_)
 ·refine y.pick (by omega) (by omega) λw5 k5 z H o _=>?_;have E:=o (by omega)
  try simp only[push_cast]
  rw[zJ (x:=1+(k5:Int)) (by omega) (by omega)];refine f z l m (by omega) λw6 p6 N t0 q r L j _=>?_;refine Xq0 j λw7 sa B a6 i=>?_;have A:=q.ext B;simp only[push_cast];exact A.fin (p0:=p) (by omega) (TmR.of (t:= .mk _ 0 0 _ [t0]) (q.tms i)) (Gf rfl) S
 ·refine y.pick (by omega) (by omega) λw5 k5 z H o _=>?_;have E:=o (by omega)
  try simp only[push_cast]
  rw[zJ (x:=3+(k5:Int)) (by omega) (by omega)];refine f z l m (by omega) λw6 p6 N t0 q r L j _=>?_;refine f q l m (by omega) λw7 p7 a7 t1 A a2 af I _=>?_;refine kids2 (q.keep j a2) I λw8 sa W aj i=>?_;have h8:=A.ext W;simp only[push_cast];exact h8.fin (p0:=p) (by omega) (TmR.of (t:= .mk _ 0 0 _ [t0,t1]) (A.tms i)) (Gf rfl) S
theorem l2Term_spec:∀d,d<=9->y90 d:=by
 intro d;induction d using Nat.strongRecOn with
 |_ d b=>intro a;exact l2Term_step a λe he=>b e he (by omega)
theorem dok_sized {ds:List M.Dcl} (h:Dok ds):qg0 ds:=λi a=>by have:=(h.2 i a).2.2;omega
end
section
variable {w:World} {K:Value->World->Prop} {F F':Nat->Prop}
theorem strof_spec {b p:Nat} {v vs:Value} {xs:List Nat} {ss:List ByteArray} (h:RdR F w b v xs p) (g:Vals F' w vs (ss.map .string)) (d:ss≠[]) (n:ss.length<=1000) (m:p<1099511627776) (c:∀x,F' x->x≠b)
  (j:∀w' s,Same (· =b) w w'->w'.heap.size=w.heap.size->RdR F w' b v xs (p+1)->s∈ss->K (.string s) w'):vcall P XI #[.pointer (some ⟨b,0,none⟩),vs] w K:=by
 apply j80;have f:=gG.2 d;have t:(ss.map Value.string).length=ss.length:=X0 _;simp(disch:=(simp only[push_cast])) only[push_cast,g.len];refine pick_spec h (by omega) m λw1 k hs q l i _=>?_;have r:=i (by omega);have a:=g.same hs λx o _ e=>c x o e;rw[a.iaddr (by kernel_rfl) (by omega) (by omega),gl,a.load (by kernel_rfl) (by omega),M.getD_map _ (by omega) _ M.nada];exact j w1 _ hs q l (M.getD_mem (by omega) _)
theorem num_lit {b p:Nat} {v:Value} {xs:List Nat} {ns:List Int} (h:RdR F w b v xs p) (a:ns≠[]) (c:ns.length<=1000) (k:p<1099511627776) (i:∀w1 m,Same (· =b) w w1->RdR F w1 b v xs (p+1)->m∈ns->K (.int .i64 m) w1):
  vbuildS P zt ns.length ((ns.map λx=>Value.int .i64 x).zipIdx.map λp=>(p.2,p.1)) w λs w1=>vcall P x7 #[.pointer (some ⟨b,0,none⟩),s] w1 K:=by
 have:=vbuildS_row1 (w:=w) (K:=λs w1=>vcall P x7 #[.pointer (some ⟨b,0,none⟩),s] w1 K) (t:=zt) (xs:=ns.map λx=>Value.int .i64 x) Je YC X7 (λx d=>by obtain⟨y,_,rfl⟩:=gm.1 d;rfl) (by simp;omega) λb2 w' n f o g=>by
  have l:Ints (· =b2) w' (.slice (some ⟨b2,0,none⟩) (ns.map λx=>Value.int .i64 x).length (ns.map λx=>Value.int .i64 x).length) ns:=g.sl1 rfl (by simp;omega);have:=h.blk.lt;refine num_spec (h.ext f) l a c k (λx d e=>by subst d;omega) λw2 m hs q j hm=>?_;exact i w2 m ((Same.of_ext f).trans hs) j hm
 rwa[X0] at this
end
section
variable {w:World} {K:Value->World->Prop} {F D G:Nat->Prop}
theorem ints_lit {ns:List Int} (e:ns.length<=1000) (d:∀b2 w',b2=w.heap.size->Ext w w'->Ints (· =b2) w' (.slice (some ⟨b2,0,none⟩) ns.length ns.length) ns->K (.slice (some ⟨b2,0,none⟩) ns.length ns.length) w'):vbuildS P zt ns.length ((ns.map λx=>Value.int .i64 x).zipIdx.map λp=>(p.2,p.1)) w K:=by
 have:=vbuildS_row1 (w:=w) (K:=K) (t:=zt) (xs:=ns.map λx=>Value.int .i64 x) Je YC X7 (λx f=>by obtain⟨y,_,rfl⟩:=gm.1 f;rfl) (by simp;omega) λb2 w' a b g c=>by
  rw[X0];exact d b2 w' a b (c.sl1 (by simp) (by omega))
 rwa[X0] at this
theorem l2Bent_spec {b p:Nat} {v tv:Value} {xs:List Nat} {t:M.Tm} (h:RdR F w b v xs p) (hF:∀x,F x->x<w.heap.size) (ht:TermR G w tv t) (hG:∀x,G x->x≠b) (L:∀x,G x->x<w.heap.size) (hp:p+10<1099511627776) (c9:t.ks.length<=1000)
  (hK:∀w' p' bd t',Same (· =b) w w'->RdR F w' b v xs p'->p'<=p+10->TermR (λx=>G x\/w.heap.size<=x) w' bd t'->t'.ks.length<=t.ks.length+1->K bd w'):vcall P K6 #[.pointer (some ⟨b,0,none⟩),tv] w K:=by
 apply ZQ0;have lb:=h.blk.lt;obtain⟨kv,rfl,ax⟩:=ht;refine zx λb1 w1 c3 ar c6 h1=>?_;refine zD zH λb2 w2 c4 ab c7 h2=>?_;have q2:=h1.ext ab;refine vbuildS_row (xs:=[]) (us:=[]) (k:=5) xd xn zH rfl (by simp) (by decide) λb3 w3 c5 a8 c8 h3=>?_;have br:Own P 0 5 zb w3 (.slice (some ⟨b3,0,none⟩) 0 0) []:=Blk.ownk (css:=[]) (by rw[Kl];exact h3) (by simp) rfl (by decide);have q3:=q2.ext a8;have r3:=h2.ext a8;have Z:=(ar.trans ab).trans a8;have ay:=ax.ext Z;have bf:=h.ext Z;have ca:=ar.size;have cb:=ab.size;have cc:=a8.size;simp(disch:=(simp only[push_cast])) only[push_cast,q3.ld4];obtain⟨css,bt,ap,ao⟩:=ay;have Q:∀y,y∈css->∀c,c∈y->c.oneCell'=true:=λy hy c S=>by
  obtain⟨i,hi,rfl⟩:=gq hy;have hq:=ao i (by omega);rw[k6,K3 hi] at hq;obtain⟨c0,he,ad⟩:=hq.inv;obtain⟨am,al,_⟩:=ad;rw[show css[i]=(some css[i]).getD [] from rfl,he] at S;simp only[gd,gw,or_false] at S;rcases S with rfl|rfl|rfl|rfl|rfl
  ·rfl
  ·rfl
  ·rfl
  ·rfl
  ·exact al.one
 refine vappend (F:=G) YF (by decide) br bt Q (Gg _) (by simp;omega) (by simp;omega) λov w4 ag bb bo=>?_;replace ag:Own P 0 5 zb w4 ov css:=ag;have cd:=bb.size;have A:Same (· =b3) w3 w4:=bb.mono λx _ d=>(gh d).symm;have hn:∀x,ov.ownBlock=some x->w2.heap.size<=x:=λx d=>by
  rcases bo x d with d|d
  ·have e:x=b3:=(gh d).symm;omega
  ·omega
 have b6:Same (· =b) w w4:=same_new (Same.of_ext Z) A (by omega);have bg:RdR F w4 b v xs p:=bf.new A (by omega) λx d e=>by have:=hF x d;omega
 have q4:=q3.same A (by omega);have r4:=r3.same A (by omega);have az:TmsR G w4 kv t.ks:=(ax.ext Z).same A λx d _ e=>by have:=L x d;omega
 refine pick_spec bg (by omega) (by omega) λw5 c R ce B _ _=>?_;have q5:=q4.same R (by omega);have r5:=r4.same R (by omega);have z:TmsR G w5 kv t.ks:=az.same R λx d _ e=>hG x d e;have n:=b6.trans R;have b0:Own P 0 5 zb w5 ov css:=ag.same R λx d e=>by have:=hn x d;omega
 have c1:=n.size;have T:∀{q:World} {p6:Nat} {cs:List Value} {t':M.Tm},t'.ks.length<=t.ks.length+1->Same (· =b) w q->RdR F q b v xs p6->p6<=p+10->Blk q b1 cs za->Blk q b2 yH0 za->TmR (λx=>G x\/w2.heap.size<=x) q cs t'->
   zf P za (.pointer (some ⟨b1,0,none⟩)) q λt56 W=>zn P za (.pointer (some ⟨b2,0,none⟩)) t56 W λ_ X=>vlv P za (.pointer (some ⟨b2,0,none⟩)) X λr4 Y=>K r4 Y:=by
  intro q p6 cs t' hl hs hR aj hq hr S;rw[hq.ldAgg (t:=za) (by rw[yq S];exact zp)];refine ZB hr rfl S (λx d e=>by rcases d with d|d<;>first|(have:=L x d;omega)|omega) λH E bc bu=>?_;exact hK H p6 _ t' (same_new hs E (by omega)) (hR.new E (by omega) λx d e=>by have:=hF x d;omega) aj (bu.weaken λx d _=>d.imp id λh=>by omega) hl
 have J:∀{q:World} {p6:Nat} {i:Nat} {x:Value} {e:TypeId} {t':M.Tm} {cs':List Value},t'.ks.length<=t.ks.length+1->Same (· =b) w q->RdR F q b v xs p6->p6<=p+10->Blk q b1 [.int .i64 t.op,.int .i64 t.a,.int .i64 t.b,.string t.s,kv] za->Blk q b2 yH0 za->x.cells= #[x]->x.oneCell'=true->jy P e 1=true->i<5->
   [.int .i64 t.op,.int .i64 t.a,.int .i64 t.b,.string t.s,kv].set i x=cs'->(∀H,Same (· =b1) q H->TmR (λx=>G x\/w2.heap.size<=x) H cs' t')->
   zn P e (.pointer (some ⟨b1,i,none⟩)) x q λ_ be=>zf P za (.pointer (some ⟨b1,0,none⟩)) be λt56 W=>zn P za (.pointer (some ⟨b2,0,none⟩)) t56 W λ_ X=>vlv P za (.pointer (some ⟨b2,0,none⟩)) X λr4 Y=>K r4 Y:=by
  intro q p6 i x e t' cs' hl hs hR aj hq hr bw bx hz hi b9 S;refine hq.st bw bx hz (by simp[pW];omega) λH E bc b4=>?_;rw[b9] at b4;exact T hl (same_new hs E (by omega)) (hR.new E (by omega) λx d e=>by have:=hF x d;omega) aj b4 (hr.same E (by omega)) (S H E)
 have D:∀{q H:World},TmsR G q kv t.ks->Same (· =b1) q H->TmsR (λx=>G x\/w2.heap.size<=x) H kv t.ks:=λhk hs=>(hk.same hs λx d _ e=>by have:=L x d;omega).weaken λx d _=> .inl d;simp only[push_cast];refine zh (λa0=>?_) (λa0=>?_)
 ·refine num_lit (ns:=[0,18,28,3,16,25]) B (by simp) (by decide) (by omega) λq m N a6 hm=>?_
  try simp only[push_cast]
  exact J (t':= .mk m t.a t.b t.s t.ks) (PS _) (n.trans N) a6 (by omega) (q5.same N (by omega)) (r5.same N (by omega)) rfl rfl YC (by omega) rfl λH E=>TmR.of (t:= .mk m t.a t.b t.s t.ks) (D (z.same N λx d _ e=>hG x d e) E)
 refine zh (λa1=>?_) (λa1=>?_)
 ·refine zr λq f _=>?_;have q6:=q5.ext f;simp(disch:=(simp only[push_cast])) only[push_cast,q6.ld1,true_and];refine ints_lit (ns:=[1,-1]) (by decide) λb7 H bi g ac=>?_;have q7:=q6.ext g;simp(disch:=(simp only[push_cast])) only[push_cast,q7.ld1,true_and,and_self];have af:=(B.ext f).blk.lt;refine num_spec ((B.ext f).ext g) ac (by simp) (by decide) (by omega) (λx d e=>by subst d;omega) λw8 m j _ aa hm=>?_;have q8:=q7.same j (by omega);simp(disch:=(simp only[push_cast])) only[push_cast,q8.ld1,true_and,and_self];have U:=((n.trans (Same.of_ext f)).trans (Same.of_ext g)).trans j;exact J (t':= .mk t.op (IntKind.i64.wrap (t.a+m)) t.b t.s t.ks) (PS _) U aa (by omega) q8 (((r5.ext f).ext g).same j (by omega)) rfl rfl YC (by omega) rfl λw9 O=>TmR.of (t:= .mk t.op (IntKind.i64.wrap (t.a+m)) t.b t.s t.ks) (D (((z.ext f).ext g).same j λx d _ e=>hG x d e) O)
 refine zh (λa2=>?_) (λa2=>?_)
 ·refine zr λq f _=>?_;have q6:=q5.ext f;simp(disch:=(simp only[push_cast])) only[push_cast,q6.ld2,true_and];refine ints_lit (ns:=[1,-1,16]) (by decide) λb7 H bi g ac=>?_;have q7:=q6.ext g;simp(disch:=(simp only[push_cast])) only[push_cast,q7.ld2,true_and,and_self];have af:=(B.ext f).blk.lt;refine num_spec ((B.ext f).ext g) ac (by simp) (by decide) (by omega) (λx d e=>by subst d;omega) λw8 m j _ aa hm=>?_;have q8:=q7.same j (by omega);simp(disch:=(simp only[push_cast])) only[push_cast,q8.ld2,true_and,and_self];have U:=((n.trans (Same.of_ext f)).trans (Same.of_ext g)).trans j;exact J (t':= .mk t.op t.a (IntKind.i64.wrap (t.b+m)) t.s t.ks) (PS _) U aa (by omega) q8 (((r5.ext f).ext g).same j (by omega)) rfl rfl YC (by omega) rfl λw9 O=>TmR.of (t:= .mk t.op t.a (IntKind.i64.wrap (t.b+m)) t.s t.ks) (D (((z.ext f).ext g).same j λx d _ e=>hG x d e) O)
 refine zh (λa3=>?_) (λa3=>?_)
 ·exact J (t':= .mk t.op t.a t.b ⟨#[113]⟩ t.ks) (PS _) n B (by omega) q5 r5 rfl rfl XB0 (by omega) rfl λw9 O=>TmR.of (t:= .mk t.op t.a t.b ⟨#[113]⟩ t.ks) (D z O)
 refine zh (λa4=>?_) (λa4=>?_)
 ·refine Xq0 (G:=λ_=>False) (t0:= .mk 24 0 0 ⟨#[]⟩ []) (TmR.term (UP 24 0 0 _)) λq sa f bz bl=>?_;obtain⟨I,ba,aq,a9⟩:=bl;have ai:∀y,y∈I->∀c,c∈y->c.oneCell'=true:=λy hy c S=>by
   obtain⟨i,hi,rfl⟩:=gq hy;have hq:=a9 i (by omega);rw[k6,K3 hi] at hq;obtain⟨c0,he,ad⟩:=hq.inv;obtain⟨am,al,_⟩:=ad;rw[show I[i]=(some I[i]).getD [] from rfl,he] at S;simp only[gd,gw,or_false] at S;rcases S with rfl|rfl|rfl|rfl|rfl
   ·rfl
   ·rfl
   ·rfl
   ·rfl
   ·exact al.one
  have bm:I.length=1:=aq;refine vappend YF (by decide) (b0.ext f) ba ai (Gg _) (by omega) (by omega) λV H ah r bp=>?_;have o:=n.trans (Same.of_ext f);have c2:=o.size;have b8:Same (· =b) w H:=⟨r.os.trans o.os,r.tape.trans o.tape,r.output.trans o.output,Ga o.size r.size,λy hy bq=>by
   rw[r.block y (gI hy o.size) (λe=>by have:=hn y e;omega)];exact o.block y hy bq⟩
  have bh:RdR F H b v xs _:=(B.ext f).same r (λe=>by have:=hn b e;omega) λy hy _ e=>by have:=hn y e;have:=hF y hy;omega
  have q7:=(q5.ext f).same r (λe=>by have:=hn b1 e;omega);have r7:=(r5.ext f).same r (λe=>by have:=hn b2 e;omega);have bn:∀x,V.ownBlock=some x->w2.heap.size<=x:=λx d=>by
   rcases bp x d with d|d
   ·exact hn x d
   ·omega
  have ae:TmsR (λx=>G x\/w2.heap.size<=x) H V (t.ks++[.mk 24 0 0 ⟨#[]⟩ []]):=by
   refine⟨css++I,ah.sl.weaken λx d _=> .inr (bn x d),by rw[Q1,Q1,ap,bm];rfl,λi hi=>?_⟩;rw[Q1] at hi;by_cases au:i<t.ks.length
   ·rw[k6,gA (by omega),<-k6,k6 (l:=t.ks++_),gA au,<-k6];exact(((((ao i au).same A λx d _ e=>by have:=L x d;omega).same R λx d _ e=>hG x d e).ext f).same r λx d _ e=>by have:=hn x e;have:=L x d;omega).weaken λx d _=> .inl d
   ·have bk:i=t.ks.length:=by simp at hi;omega
    subst bk;rw[k6,gW (by omega),<-k6,ap,GB,k6 (l:=t.ks++_),gW (by omega),GB];have bv:=a9 0 (by simp);obtain⟨cg,bj,aw⟩:=bv.inv;rw[bj];exact TmR.of (t:= .mk 24 0 0 ⟨#[]⟩ []) ((aw.same r λx d hl e=>by
     rcases d with d|d
     ·exact d.elim
     ·have:=b0.lt e;omega).weaken λx d _=>by
     rcases d with d|d
     ·exact d.elim
     ·right;omega)
  have Q:V.cells= #[V]/\V.oneCell'=true:=⟨ah.sl.cells1,ah.sl.one⟩
  try simp only[push_cast]
  exact J (t':= .mk t.op t.a t.b t.s (t.ks++[.mk 24 0 0 ⟨#[]⟩ []])) (by show(t.ks++[_]).length<=_;rw[Q1];exact gr _) b8 bh (by omega) q7 r7 Q.1 Q.2 qd (by omega) rfl λw9 O=>TmR.of (t:= .mk t.op t.a t.b t.s (t.ks++[.mk 24 0 0 ⟨#[]⟩ []])) (ae.same O λx d _ e=>by
   rcases d with d|d
   ·have:=L x d;omega
   ·omega)
 refine zh (λa5=>?_) (λa5=>?_)
 ·refine vloop_up 7 (λi u w'=> ∃cs t',u=[.int .i64 i]/\Same (· =b) w w'/\RdR F w' b v xs (p+1)/\Blk w' b1 cs za/\Blk w' b2 yH0 za/\TmR (λx=>G x\/w2.heap.size<=x) w' cs t'/\w2.heap.size<=w'.heap.size/\t'.ks.length<=t.ks.length+1) ⟨_,t,rfl,n,B,q5,r5,TmR.of (z.weaken λx d _=> .inl d),by omega,by omega⟩ ?_;rintro i _ _ q C hi ⟨cs,t',rfl,N,a6,ak,b5,a7,bz,af⟩ hC;simp only[push_cast];refine zh (λc=>?_) (λc=>?_)
  ·rw[ak.ldAgg (t:=za) (by rw[yq a7];exact zp)];refine Xq0 a7.term λH sa g bc ae=>?_;simp only[push_cast];have av:TmsR (λx=>G x\/w2.heap.size<=x) H (.slice sa 1 1) [t']:=ae.weaken λx d _=>by
    rcases d with d|d
    ·exact d
    ·right;omega
   have an:TmR (λx=>G x\/w2.heap.size<=x) H [.int .i64 25,.int .i64 0,.int .i64 0,.string ⟨#[]⟩,.slice sa 1 1] (.mk 25 0 0 ⟨#[]⟩ [t']):=TmR.of (t:= .mk 25 0 0 ⟨#[]⟩ [t']) av;refine stTerm (ak.ext g) (yq a7) an λw8 j cf bs=>?_
   try simp only[push_cast]
   rw[inc64' (by omega)];refine hC (by omega) _ _ ⟨_,_,rfl,same_new (N.trans (Same.of_ext g)) j (by omega),(a6.ext g).new j (by omega) λx d e=>by have:=hF x d;omega,bs,(b5.ext g).same j (by omega),an.same j λx d _ e=>by
    rcases d with d|d
    ·have:=L x d;omega
    ·omega,by omega,by show 1<=_;omega⟩
  ·exact T af N a6 (by omega) ak b5 a7
 ·exact T (PS _) n B (by omega) q5 r5 (TmR.of (t:=t) (z.weaken λx d _=> .inl d))
end
theorem dtSize {ds:List M.Dcl} {t:M.Tm}:M.tsort ds t= -1\/(0<=M.tsort ds t/\M.tsort ds t<=4/\M.tsort ds t=M.sortM ds t/\M.fits t=true/\M.declOk ds=true):=by
 unfold M.tsort;split
 ·rename_i h;have:=M.sort_range h.2 t;by_cases e:M.sortM ds t= -1
  ·exact .inl e
  ·exact .inr ⟨by omega,by omega,rfl,h.1,h.2⟩
 ·exact .inl rfl
section
variable {w:World} {F:Nat->Prop}
abbrev Uj0 (o:Int) (ks:List M.Tm):M.Tm:= .mk o 0 0 M.nada ks
theorem Jt0 {o:Int} {a:Option Addr} {l c:Nat} {ks:List M.Tm} (h:TmsR F w (.slice a l c) ks):TermR F w (.agg ⟨[.int .i64 o,.int .i64 0,.int .i64 0,.string ⟨#[]⟩,.slice a l c]⟩) (Uj0 o ks):=⟨_,rfl,h⟩
theorem Yt0 {o:Int}:TermR F w (.agg ⟨[.int .i64 o,.int .i64 0,.int .i64 0,.string ⟨#[]⟩,.slice none 0 0]⟩) (Uj0 o []):=Jt0 TmsR.nil
end
section
variable {w:World} {K:Value->World->Prop} {F D G:Nat->Prop}
theorem flatten_setEl {k:Nat}:∀{xs:List (List Value)} (_:∀x,x∈xs->x.length=k) {i:Nat} {y:List Value},y.length=k->i<xs.length->(xs.set i y).flatten=xs.flatten.take (i*k)++y++xs.flatten.drop (i*k+k)
 |[],_,i,y,_,a=>by simp at a
 |x::r,h,i,y,d,a=>by
  have f:=h x gg;cases i with
  |zero=>
   simp only[ph,GD,P3,PG,gX,gQ];rw[List.drop_append,P4 (by omega),gX,show k-x.length=0 by omega,List.drop_zero]
  |succ i=>
   simp only[PF,GD];have b:(i+1)*k=x.length+i*k:=by rw[G3];omega
   have c:x.length+i*k+k=x.length+(i*k+k):=(by omega);rw[flatten_setEl (λz e=>h z (gj _ e)) d (by simpa using a),b,c,List.take_length_add_append,List.drop_length_add_append];simp only[Gb]
theorem own_stEl {P:Program} {v:Value} {k:Nat} {t e:TypeId} {xs:List (List Value)} {y:List Value} (h:Own P 0 k t w v xs) (L:0<k) (n:y.length=k) (C:∀c,c∈y->c.oneCell'=true) (u:aggB P e k=true) {i:Nat} (A:i<xs.length)
  (D:∀w',Own P 0 k t w' v (xs.set i y)->Same (λb=>v.ownBlock=some b) w w'->w'.heap.size=w.heap.size->K undef w'):zn P e (.pointer (some (eaddr v k i))) (.agg ⟨y⟩) w K:=by
 have F:=flatten_len h.wide;rcases h.row with⟨I,s⟩;rcases s with⟨rfl,M⟩|⟨g,cap,cur,rfl,o,x,j,p,r,f⟩
 ·omega
 ·have G:i*k+k<=xs.length*k:=by rw[<-Nat.succ_mul];exact pC _ A
  have H:xs.length*k<=cap*k:=pC _ j;have d:=run_storeCells_at (P:=P) g (i*k) (Wo P t) y 0 cur w x (by omega) C;have he:eaddr (.slice (some ⟨g,0,none⟩) xs.length cap) k i=⟨g,i*k,none⟩:=by
   simp only[eaddr,gQ]
  rw[he];have E:cur.toList.length=cap*k:=(by simpa using r);have m:(cur.toList.take (i*k+0)++y++cur.toList.drop (i*k+0+y.length)).toArray.size=cap*k:=by
   simp only[G4,Q1,gi,G1];omega
  have a:(cur.toList.take (i*k+0)++y++cur.toList.drop (i*k+0+y.length)).toArray.toList.take (xs.length*k)=(xs.set i y).flatten:=by
   rw[flatten_setEl h.wide n A,<-f,n];simp only[pd];have J:(cur.toList.take (i*k)).length=i*k:=by rw[gi];omega
   rw[List.take_append,List.take_append,gM (l:=List.take (i*k) cur.toList) (by omega),gM (l:=y) (by omega),GC,gJ (by omega),List.drop_take];congr 2;rw[Q1,gi];omega
  refine⟨(),_,?_,D (w.setRow g (cur.toList.take (i*k+0)++y++cur.toList.drop (i*k+0+y.length)).toArray) ⟨?_,?_⟩ ⟨rfl,rfl,rfl,by simp,λq _ B=>setRow_other w g q _ (λe=>B (by rw[e];rfl))⟩ (by simp)⟩
  ·simp only[Instr.storeAt,Instr.sureAddr,Sem.run_bind,Sem.run_pure,Result.andThen_ok,storeVar,Yv u,Value.cells];simp only[G4,n,ne_eq,not_true_eq_false,if_false];rw[n] at d;exact d
  ·rw[gH];refine⟨?_,.inr ⟨g,cap,_,rfl,o,setRow_heap w g _ _ _ _ x,j,p,m,a⟩⟩;rw[<-a,gi];have:=m;simp only[G4] at this;simp only[List.toList_toArray,this];omega
  ·intro z u;obtain⟨q,B,rfl⟩:=gq u;rw[pY];split
   ·exact n
   ·exact h.wide _ (Gm _)
end
section
variable {w:World} {F:Nat->Prop}
theorem tmR_one {cs:List Value} {t:M.Tm} (h:TmR F w cs t):∀c,c∈cs->c.oneCell'=true:=λc e=>by
 obtain⟨f,rfl,d,b,_⟩:=h.inv;obtain⟨a,l,rfl,_⟩:=b.shape;simp only[gd,gw,or_false] at e;rcases e with rfl|rfl|rfl|rfl|rfl<;>rfl
def JT0:M.Tm->Bool:=M.Tm.fold λt xs=>decide (t.ks.length<=1048576)&&xs.all id
theorem WC0 (t:M.Tm):JT0 t=(decide (t.ks.length<=1048576)&&(t.ks.map JT0).all id):=M.Tm.fold_eq _ t
theorem fitB_iff {t:M.Tm}:JT0 t=true↔t.ks.length<=1048576/\∀k,k∈t.ks->JT0 k=true:=by
 rw[WC0,V0,decide_eq_true_eq,gN];refine and_congr_right λ_=>⟨λh k a=>h _ (Gc a),λh y b=>?_⟩;obtain⟨k,a,rfl⟩:=gm.1 b;exact h k a
end
end Go.Proofs.YtokflbdfnbppjaaGreatDoor
section
namespace Go.M
def vecL (w n:Nat):List UInt8:=35::(List.range w).reverse.map λi=>if n/2^i%2=1 then 49 else 48
def digL (n:Int):List UInt8:=[UInt8.ofNat (48+n.toNat)]
def textF (t:Tm) (xs:List (List UInt8)):List UInt8:=
 if t.op=20 then vecL t.a.toNat t.b.toNat else if t.op=21 then t.s.data.toList else if t.op=24 then[116,114,117,101]
 else 40::(wordL t.op++((if t.op=22 then 32::(digL t.a++32::digL t.b) else[])++(xs.flatMap (λx=>32::x)++[41])))
def textL:Tm->List UInt8:=Tm.fold textF
theorem textL_eq (t:Tm):textL t=textF t (t.ks.map textL):=Tm.fold_eq _ t
def Stop (r:List UInt8):Prop:=∀c,r.head?=some c->c=32\/c=41
def KH0 (a:List UInt8):Prop:=∀c,c∈a->c≠32/\c≠41
theorem atom_cancel:∀{a b r s:List UInt8},KH0 a->KH0 b->Stop r->Stop s->a++r=b++s->a=b/\r=s
 |[],[],r,s,_,_,_,_,h=>⟨rfl,h⟩
 |[],y::b,r,s,_,i,k,_,h=>by
  have d:r=y::(b++s):=h;have f:=i y gg;rcases k y (by rw[d];rfl) with e|e
  ·exact absurd e f.1
  ·exact absurd e f.2
 |x::a,[],r,s,g,_,_,hs,h=>by
  have d:s=x::(a++r):=h.symm;have f:=g x gg;rcases hs x (by rw[d];rfl) with e|e
  ·exact absurd e f.1
  ·exact absurd e f.2
 |x::a,y::b,r,s,g,i,k,hs,h=>by
  have d:x::(a++r)=y::(b++s):=h;simp only[Gd] at d;obtain⟨rfl,d⟩:=d;obtain⟨rfl,e⟩:=atom_cancel (λc j=>g c (gj _ j)) (λc j=>i c (gj _ j)) k hs d;exact⟨rfl,e⟩
theorem YD {c:UInt8} {r:List UInt8} (h:c=32\/c=41):Stop (c::r):=λd a=>by
 have:d=c:=by simpa using a.symm
 subst this;exact h
theorem word_free:∀o:Fin 28,KH0 (wordL o):=by unfold KH0;decide+kernel
theorem word_inj:∀o p:Fin 28,wordL o=wordL p->wordL o≠[]->o=p:=by decide+kernel
theorem word_ne:∀o:Fin 28,1<=o.1->(o.1<=17\/o.1=22\/o.1=23\/25<=o.1)->wordL o≠[]:=by decide+kernel
theorem vec_inj:∀w:Fin 5,∀a:Fin 16,∀v:Fin 5,∀b:Fin 16,a.1<2^w.1->b.1<2^v.1->vecL w a=vecL v b->w=v/\a=b:=by decide+kernel
theorem KT0 (w n:Nat):KH0 (vecL w n):=λc a=>by
 unfold vecL at a;rcases gd.1 a with rfl|a
 ·decide
 ·obtain⟨i,_,rfl⟩:=gm.1 a;split<;>decide
theorem dig_inj:∀a b:Fin 4,digL a=digL b->a=b:=by decide+kernel
theorem dig_free:∀a:Fin 4,KH0 (digL a):=by unfold KH0;decide+kernel
section
variable {ds:List Dcl} {t u:Tm}
theorem name_ok (g:declOk ds=true) (hs:sortM ds t≠ -1) (k:t.op=21):t.s.data.toList≠[]/\t.s≠tru/\∀c,c∈t.s.data.toList->97<=c.toNat/\c.toNat<=122:=by
 have h:=name_found hs k;have j:(findD ds t.s).toNat<ds.length:=by have:=(findD_lt ds t.s).2;omega
 have i:=findD_get h;have a:=(decl_iff.1 g).2.1 _ j;unfold dclOk at a;rw[i] at a;simp only[V0,decide_eq_true_eq,nameOk] at a;obtain⟨⟨⟨⟨⟨⟨l,m⟩,b⟩,d⟩,_⟩,_⟩,_⟩:=a;refine⟨λe=>?_,b,λc f=>?_⟩
 ·have:t.s.size=0:=by show t.s.data.size=0;rw[<-pa,e];rfl
  omega
 ·have:=Array.all_eq_true'.1 d c (pA.1 f);simpa using this
theorem right_op (hs:sortM ds t≠ -1):arity t.op=t.ks.length/\plainM t=true/\((1<=t.op/\t.op<=17)\/(20<=t.op/\t.op<=27)):=by
 obtain⟨c,_,_⟩:=sort_parts hs;obtain⟨a,b⟩:=formed_iff.1 c;exact⟨a,b,arity_ops (by omega)⟩
theorem yT0 {o:Int} (h:o=20\/o=21\/o=24):arity o=0:=by unfold arity;rw[if_pos h]
theorem node_arity {o:Int} (h:(1<=o/\o<=17)\/(20<=o/\o<=27)) (a: ¬(o=20\/o=21\/o=24)):1<=arity o:=by
 unfold arity;rw[if_neg a];repeat' split
 all_goals omega
theorem vec_ok (hs:sortM ds t≠ -1) (c:t.op=20):vok t.a t.b=true:=by
 have h:=(sort_parts hs).2.2;rw[h] at hs;unfold sortK at hs;rw[if_pos c] at hs;split at hs
 ·assumption
 ·exact absurd rfl hs
theorem cut_ab (d:declOk ds=true) (hs:sortM ds t≠ -1) (e:t.op=22):0<=t.b/\t.b<=t.a/\t.a<4:=by
 have h:=(sort_parts hs).2.2;have f:(t.ks.map (sortM ds)).getD 0 0<=4:=by
  by_cases c:0<t.ks.length
  ·rw[getD_map _ c 0 default];exact(sort_range d _).2
  ·rw[k6,po (by simpa using c)];simp
 rw[h] at hs;unfold sortK at hs;rw[if_neg (by omega),if_neg (by omega),if_neg (by omega),if_neg (by omega),if_pos e] at hs;split at hs
 ·next h=>omega
 ·exact absurd rfl hs
theorem atom_text (g:declOk ds=true) (hs:sortM ds t≠ -1) (d:t.op=20\/t.op=21\/t.op=24):textL t=textF t []/\KH0 (textL t)/\textL t≠[]/\∀c,(textL t).head?=some c->c≠40:=by
 have h:t.ks=[]:=gE (by have:=(right_op hs).1;rw[yT0 d] at this;omega);have e:textL t=textF t []:=by rw[textL_eq,h];rfl
 refine⟨e,?_⟩;rw[e];unfold textF;rcases d with o|o|o
 ·rw[if_pos o];exact⟨KT0 _ _,by simp[vecL],λc a=>by
   have:c=35:=(by simpa[vecL] using a.symm);subst this;decide⟩
 ·rw[if_neg (by omega),if_pos o];obtain⟨f,i,b⟩:=name_ok g hs o;refine⟨λc a=>?_,f,λc a=>?_⟩
  ·have:=b c a;exact⟨λe=>by subst e;exact absurd this.1 (by decide),λe=>by subst e;exact absurd this.1 (by decide)⟩
  ·have:=b c (List.mem_of_mem_head? a);intro e;subst e;exact absurd this.1 (by decide)
 ·rw[if_neg (by omega),if_neg (by omega),if_pos o];exact⟨by unfold KH0;decide,by decide,λc a=>by
   have:c=116:=(by simpa using a.symm);subst this;decide⟩
theorem Z20 {t u:Tm} (c:t.op=u.op) (d:t.a=u.a) (e:t.b=u.b) (f:t.s=u.s) (g:t.ks=u.ks):t=u:=by
 cases t;cases u;simp only[Tm.op,Tm.a,Tm.b,Tm.s,Tm.ks] at c d e f g;subst c;subst d;subst e;subst f;subst g;rfl
theorem Wj (h:plainM t=true) (c:t.op≠20/\t.op≠22):t.a=0/\t.b=0:=by
 simp only[plainM,V0,gP,decide_eq_true_eq] at h;rcases h.1 with(h|h)|h
 ·exact absurd h c.1
 ·exact absurd h c.2
 ·exact h
theorem yO0 (h:plainM t=true) (a:t.op≠21):t.s=nada:=by
 simp only[plainM,V0,gP,decide_eq_true_eq] at h;exact h.2.resolve_left a
theorem atom_inj (k:declOk ds=true) (hs:sortM ds t≠ -1) (hu:sortM ds u≠ -1) (m:t.op=20\/t.op=21\/t.op=24) (n:u.op=20\/u.op=21\/u.op=24) (h:textL t=textL u):t=u:=by
 have l:t.ks=[]:=gE (by have:=(right_op hs).1;rw[yT0 m] at this;omega);have g:u.ks=[]:=gE (by have:=(right_op hu).1;rw[yT0 n] at this;omega);have f:=(right_op hs).2.1;have d:=(right_op hu).2.1;rw[(atom_text k hs m).1,(atom_text k hu n).1] at h;unfold textF at h;have letter:∀{v:Tm},sortM ds v≠ -1->v.op=21->∀c r,v.s.data.toList=c::r->97<=c.toNat:=λ{v} q i c r e=>((name_ok k q i).2.2 c (by rw[e];exact gg)).1;have notrue:∀{v:Tm},sortM ds v≠ -1->v.op=21->v.s.data.toList=[116,114,117,101]->False:=λ{v} q i e=>(name_ok k q i).2.1 (by
  have:v.s.data= #[116,114,117,101]:=GK.1 e;show v.s=tru;have j:v.s=⟨v.s.data⟩:=rfl;rw[j,this];rfl)
 rcases m with o|o|o<;>rcases n with p|p|p
 ·rw[if_pos o,if_pos p] at h;have v1:=vok_lt (vec_ok hs o);have v2:=vok_lt (vec_ok hu p);have w1:=vok_iff.1 (vec_ok hs o);have w2:=vok_iff.1 (vec_ok hu p);have w:((2^t.a.toNat:Nat):Int)=2^t.a.toNat:=(by simp);have j:((2^u.a.toNat:Nat):Int)=2^u.a.toNat:=(by simp);have:=vec_inj ⟨t.a.toNat,by omega⟩ ⟨t.b.toNat,by omega⟩ ⟨u.a.toNat,by omega⟩ ⟨u.b.toNat,by omega⟩ (by show t.b.toNat<2^t.a.toNat;omega) (by show u.b.toNat<2^u.a.toNat;omega) h;simp only[Fin.mk.injEq] at this;exact Z20 (by omega) (by omega) (by omega) (by rw[yO0 f (by omega),yO0 d (by omega)]) (by rw[l,g])
 ·rw[if_pos o,if_neg (by omega),if_pos p] at h;exact absurd (letter hu p 35 _ h.symm) (by decide)
 ·rw[if_pos o,if_neg (by omega),if_neg (by omega),if_pos p] at h;simp[vecL] at h
 ·rw[if_neg (by omega),if_pos o,if_pos p] at h;exact absurd (letter hs o 35 _ h) (by decide)
 ·rw[if_neg (by omega),if_pos o,if_neg (by omega),if_pos p] at h;obtain⟨x,b1⟩:=Wj f (by omega);obtain⟨a2,b2⟩:=Wj d (by omega);refine Z20 (by omega) (by omega) (by omega) ?_ (by rw[l,g]);have:=GK.1 h;have w:t.s=⟨t.s.data⟩:=rfl;have j:u.s=⟨u.s.data⟩:=rfl;rw[w,j,this]
 ·rw[if_neg (by omega),if_pos o,if_neg (by omega),if_neg (by omega),if_pos p] at h;exact(notrue hs o h).elim
 ·rw[if_neg (by omega),if_neg (by omega),if_pos o,if_pos p] at h;simp[vecL] at h
 ·rw[if_neg (by omega),if_neg (by omega),if_pos o,if_neg (by omega),if_pos p] at h;exact(notrue hu p h.symm).elim
 ·obtain⟨x,b1⟩:=Wj f (by omega);obtain⟨a2,b2⟩:=Wj d (by omega);exact Z20 (by omega) (by omega) (by omega) (by rw[yO0 f (by omega),yO0 d (by omega)]) (by rw[l,g])
theorem kids_inj:∀{ks us:List Tm} {r s:List UInt8},ks.length=us.length->(∀k,k∈ks->∀u,u∈us->∀r s,Stop r->Stop s->textL k++r=textL u++s->k=u/\r=s)->
  (ks.map textL).flatMap (λx=>32::x)++41::r=(us.map textL).flatMap (λx=>32::x)++41::s->ks=us/\r=s
 |[],[],r,s,_,_,h=>by
  have:(41:UInt8)::r=41::s:=h;simp only[Gd,true_and] at this;exact⟨rfl,this⟩
 |[],_::_,_,_,b,_,_=>by simp at b
 |_::_,[],_,_,b,_,_=>by simp at b
 |k::ks,u::us,r,s,b,c,h=>by
  simp only[gS,List.flatMap_cons,Gv,Gb,Gd,true_and] at h;have st:∀(l:List Tm) (r:List UInt8),Stop ((l.map textL).flatMap (λx=>32::x)++41::r):=λl r=>by
   cases l with
   |nil=>exact YD (.inr rfl)
   |cons a l=>exact YD (.inl rfl)
  obtain⟨he,h⟩:=c k gg u gg _ _ (st _ _) (st _ _) h;obtain⟨rfl,e⟩:=kids_inj (by simpa using b) (λk d u hu=>c k (gj _ d) u (gj _ hu)) h;subst he;exact⟨rfl,e⟩
theorem text_inj' (g:declOk ds=true):∀t:Tm,sortM ds t≠ -1->∀u:Tm,sortM ds u≠ -1->∀r s,Stop r->Stop s->textL t++r=textL u++s->t=u/\r=s:=by
 refine Tm.ind λt S hs u hu r s R C h=>?_;obtain⟨ar,pl,op⟩:=right_op hs;obtain⟨H,m,D⟩:=right_op hu;have comp:∀{v:Tm},¬(v.op=20\/v.op=21\/v.op=24)->textL v=40::(wordL v.op++((if v.op=22 then 32::(digL v.a++32::digL v.b) else[])++((v.ks.map textL).flatMap (λx=>32::x)++[41]))):=λ{v} j=>by
  rw[textL_eq];unfold textF;rw[if_neg (λe=>j (.inl e)),if_neg (λe=>j (.inr (.inl e))),if_neg (λe=>j (.inr (.inr e)))]
 by_cases lt:t.op=20\/t.op=21\/t.op=24
 ·obtain⟨_,f1,f2,f3⟩:=atom_text g hs lt;by_cases lu:u.op=20\/u.op=21\/u.op=24
  ·obtain⟨_,g1,g2,g3⟩:=atom_text g hu lu;obtain⟨e,I⟩:=atom_cancel f1 g1 R C h;exact⟨atom_inj g hs hu lt lu e,I⟩
  ·exfalso;rw[comp lu] at h
   match i:textL t,f2 with
   |c::q,_=>
    rw[i] at h;simp only[Gv,Gd] at h;exact f3 c (by rw[i];rfl) h.1
 ·by_cases lu:u.op=20\/u.op=21\/u.op=24
  ·exfalso;obtain⟨_,g1,g2,g3⟩:=atom_text g hu lu;rw[comp lt] at h
   match i:textL u,g2 with
   |c::q,_=>
    rw[i] at h;simp only[Gv,Gd] at h;exact g3 c (by rw[i];rfl) h.1.symm
  ·rw[comp lt,comp lu] at h;simp only[Gv,Gb,Gd,true_and,gX] at h;have na:=node_arity op lt;have V:=node_arity D lu;have kst:∀{l:List Tm} {q:List UInt8},1<=l.length->∃G,(l.map textL).flatMap (λx=>32::x)++41::q=32::G:=λ{l q} z=>by
    cases l with
    |nil=>simp at z
    |cons a l=>exact⟨_,rfl⟩
   have st:∀{v:Tm} {q:List UInt8},1<=v.ks.length->Stop ((if v.op=22 then 32::(digL v.a++32::digL v.b) else[])++((v.ks.map textL).flatMap (λx=>32::x)++41::q)):=λ{v q} z=>by
    split
    ·exact YD (.inl rfl)
    ·obtain⟨G,e⟩:=kst (q:=q) z;rw[gX,e];exact YD (.inl rfl)
   have E:(((⟨t.op.toNat,by omega⟩:Fin 28):Nat):Int)=t.op:=by show((t.op.toNat:Nat):Int)=_;omega
   have F:(((⟨u.op.toNat,by omega⟩:Fin 28):Nat):Int)=u.op:=by show((u.op.toNat:Nat):Int)=_;omega
   have n:=word_free ⟨t.op.toNat,by omega⟩;have o:=word_free ⟨u.op.toNat,by omega⟩;rw[E] at n;rw[F] at o;obtain⟨hw,h⟩:=atom_cancel n o (st (v:=t) (by omega)) (st (v:=u) (by omega)) h;have A:=word_ne ⟨t.op.toNat,by omega⟩ (by show 1<=t.op.toNat;omega) (by show t.op.toNat<=17\/t.op.toNat=22\/t.op.toNat=23\/25<=t.op.toNat;omega);have B:=word_inj ⟨t.op.toNat,by omega⟩ ⟨u.op.toNat,by omega⟩ (by rw[E,F];exact hw) A;have f:t.op=u.op:=by
    have:t.op.toNat=u.op.toNat:=congrArg Fin.val B;omega
   have w:t.a=u.a/\t.b=u.b/\(t.ks.map textL).flatMap (λx=>32::x)++41::r=(u.ks.map textL).flatMap (λx=>32::x)++41::s:=by
    by_cases d:t.op=22
    ·rw[if_pos d,if_pos (by omega)] at h;simp only[Gv,Gb,Gd,true_and] at h;have c1:=cut_ab g hs d;have c2:=cut_ab g hu (by omega);have da:∀{x:Int},0<=x->x<4->KH0 (digL x):=λ{x} L N=>by
      have:=dig_free ⟨x.toNat,by omega⟩;rwa[show(((⟨x.toNat,by omega⟩:Fin 4):Nat):Int)=x by show((x.toNat:Nat):Int)=_;omega] at this
     have di:∀{x y:Int},0<=x->x<4->0<=y->y<4->digL x=digL y->x=y:=λ{x y} L N M O he=>by
      have:=dig_inj ⟨x.toNat,by omega⟩ ⟨y.toNat,by omega⟩ (by
       rw[show(((⟨x.toNat,by omega⟩:Fin 4):Nat):Int)=x by show((x.toNat:Nat):Int)=_;omega,show(((⟨y.toNat,by omega⟩:Fin 4):Nat):Int)=y by show((y.toNat:Nat):Int)=_;omega];exact he)
      have:x.toNat=y.toNat:=congrArg Fin.val this;omega
     obtain⟨J,h⟩:=atom_cancel (da (by omega) (by omega)) (da (by omega) (by omega)) (YD (.inl rfl)) (YD (.inl rfl)) h;simp only[Gd,true_and] at h;obtain⟨X,T⟩:=kst (l:=t.ks) (q:=r) (by omega);obtain⟨Y,U⟩:=kst (l:=u.ks) (q:=s) (by omega);obtain⟨K,h⟩:=atom_cancel (da (by omega) (by omega)) (da (by omega) (by omega)) (by rw[T];exact YD (.inl rfl)) (by rw[U];exact YD (.inl rfl)) h;exact⟨di (by omega) (by omega) (by omega) (by omega) J,di (by omega) (by omega) (by omega) (by omega) K,h⟩
    ·rw[if_neg d,if_neg (by omega)] at h;obtain⟨W,b1⟩:=Wj pl ⟨λe=>lt (.inl e),d⟩;obtain⟨a2,b2⟩:=Wj m ⟨λe=>lu (.inl e),by omega⟩;exact⟨by omega,by omega,h⟩
   obtain⟨P,Q,h⟩:=w;obtain⟨p,e⟩:=kids_inj (by
    have:arity t.op=arity u.op:=(by rw[f]);omega) (λk p v j=>S k p ((sort_parts hs).2.1 k p) v ((sort_parts hu).2.1 v j)) h
   exact⟨Z20 f P Q (by rw[yO0 pl (λe=>lt (.inr (.inl e))),yO0 m (λe=>lu (.inr (.inl e)))]) p,e⟩
theorem text_inj (b:declOk ds=true) (hs:sortM ds t≠ -1) (hu:sortM ds u≠ -1) (h:textL t=textL u):t=u:=
 (text_inj' b t hs u hu [] [] (λc a=>by cases a) (λc a=>by cases a) (by rw[gz,gz];exact h)).1
end
end Go.M
end
namespace Go.Proofs.YtokflbdfnbppjaaGreatDoor
open Go Go.Vc Go.Proofs
section
variable {w:World} {K:Value->World->Prop} {F Fx X Q:Nat->Prop} {n:Nat} {v:Value}
theorem dcl_small {ds:List M.Dcl} (a:M.declOk ds=true) {i:Nat} (d:i<=ds.length):0<=M.bitT ds i/\M.bitT ds i<=16:=by
 have c:=(M.decl_iff.1 a).1;induction i with
 |zero=>exact⟨Pj _,show(0:Int)<=16 by decide⟩
 |succ i b=>
  have:=b (by omega);have hw:=M.dcl_wide a (i:=i) (by omega);rw[M.bitT_succ (by omega)];have key:M.bitT ds i<=4*(i:Int):=by
   clear b this;induction i with
   |zero=>exact Pj _
   |succ j ihj=>
    have hw:=M.dcl_wide a (i:=j) (by omega);have:=ihj (by omega) (M.dcl_wide a (by omega));rw[M.bitT_succ (by omega)];omega
  omega
theorem bitsOf_spec {dv:Value} {ds:List M.Dcl} (l:DclsR Fx w dv ds) (d:M.declOk ds=true) (o:∀w',Ext w w'->K (.int .i64 (M.bits ds)) w'):vcall P ZS #[dv] w K:=by
 apply Y60;simp(disch:=(simp only[push_cast])) only[push_cast,l.len];have k:=(M.decl_iff.1 d).1;refine vloop_up ds.length (λi u w'=>u=[.int .i64 (M.bitT ds i),.int .i64 i]/\Ext w w') ⟨rfl,Same.refl _ _⟩ ?_;rintro i _ _ w2 C q ⟨rfl,c⟩ n;have e:=l.ext c;simp only[push_cast];refine zh (λa=>?_) (λa=>?_)
 ·have b:i<ds.length:=(by omega);simp(disch:=first|(simp only[push_cast])|omega) only[push_cast,e.iaddr,e.load];refine zD jR λb1 x p f s m=>?_;refine stDecl m λv j _ k=>?_;have g:Ext w2 v:=Ext.then f j λy t=>by subst t;omega
  have r:=dcl_small d q;have h:=dcl_small d (i:=i+1) b;rw[M.bitT_succ b] at h;simp(disch:=first|(simp only[push_cast])|omega) only[push_cast,k.ld1,zJ];refine n b _ _ ⟨?_,c.trans g⟩;rw[M.bitT_succ b];simp
 ·have:i=ds.length:=(by omega);subst this;rw[M.bitT_all];exact o w2 c
theorem nameB_take {ds:List M.Dcl} {k j:Nat} {wd top:Int} (c:(j:Int)<wd) (hw:wd=(ds.getD k (M.nada,0)).2) (b:top=2+M.bits (ds.take k)):(M.nameB ds k).take (j+1)=(M.nameB ds k).take j++[top+(wd-1-j)]:=by
 have a:j<(M.nameB ds k).length:=by rw[M.nameB_len];omega
 rw[M.take_add a 0];congr 1;unfold M.nameB;rw[k6,Gn,pc (by omega)];show[2+M.bits (ds.take k)+(ds.getD k (M.nada,0)).2-1-(j:Int)]=[top+(wd-1-(j:Int))];rw[b,hw];congr 1;omega
theorem inputs_spec {bl:Nat} {r:List Value} {dv:Value} {ds:List M.Dcl} {s:ByteArray} {x0:Value} (T:Blk w bl (x0::dv::r) zX) (N:DclsR Fx w dv ds) (f:M.declOk ds=true) (hs:0<=M.findD ds s)
  (L:∀w' r,Ext w w'->OwnI P zc w' r (M.nameB ds (M.findD ds s).toNat)->(∀b,r.ownBlock=some b->w.heap.size<=b)->K r w'):vcall P ki #[.pointer (some ⟨bl,0,none⟩),.string s] w K:=by
 apply VK;simp(disch:=(simp only[push_cast])) only[push_cast,T.ld1,N.len];have h4:=(M.decl_iff.1 f).1;have a1:=M.findD_lt ds s;refine vloop_up ds.length (λi u w'=>u=[.int .i64 (2+M.bitT ds i),.int .i64 i]/\Ext w w'/\i<=(M.findD ds s).toNat) ⟨rfl,Same.refl _ _,Gg _⟩ ?_;rintro i _ _ w2 C Z ⟨rfl,k,a0⟩ U;have q:=N.ext k;simp only[push_cast];have d:i<ds.length:=by omega
 refine zh (λa=>?_) (λa=>by omega);simp(disch:=first|(simp only[push_cast])|omega) only[push_cast,q.iaddr,q.load];refine zD jR λb1 w3 W D a4 S=>?_;refine stDecl S λw4 J _ o=>?_;have t:Ext w2 w4:=Ext.then D J λy hy=>by subst hy;omega
 have a3:=dcl_small f Z;have H:=dcl_small f (i:=i+1) d;rw[M.bitT_succ d] at H;have Q:=M.dcl_wide f d;simp(disch:=first|(simp only[push_cast])|omega) only[push_cast,o.ld0,o.ld1,zJ];refine zh (λe=>?_) (λe=>?_)
 ·have E:i=(M.findD ds s).toNat:=by
   by_cases c:i=(M.findD ds s).toNat
   ·exact c
   ·have R:=M.dcl_apart f (i:=(M.findD ds s).toNat) (j:=i) (by omega) (by omega);exact absurd (e.trans (M.findD_get hs).symm) R
  rw[<-E] at L;have B:M.bitT ds i=M.bits (ds.take i):=rfl;generalize V:(ds.getD i (M.nada,0)).2=wd at*;refine Wc (λm u w'=> ∃j r,u=[r,.int .i64 ((m:Int)-1)]/\(m:Int)+(j:Nat)=wd/\Ext w w'/\OwnI P zc w' r ((M.nameB ds i).take j)/\∀b,r.ownBlock=some b->w.heap.size<=b) wd.toNat
   ⟨0,_,by rw[show((wd.toNat:Nat):Int)=wd by omega],by omega,k.trans t,OwnI.nil,λb p=>by cases p⟩ ?_
  rintro m _ _ w5 C5 ⟨j,r,rfl,a2,v,n,l⟩ A;simp only[push_cast];refine zh (λY=>?_) (λO=>?_)
  ·simp(disch:=omega) only[push_cast,zJ];refine yK xt yN yW rfl rfl λb6 w6 X x a5 z=>?_;have g:=v.trans x;have hz:=g.size;have hle:((M.nameB ds i).take j).length<=16:=by rw[gi,M.nameB_len];omega
   refine(n.ext x).app1 xx z (by omega) (by omega) λr7 w7 G I F=>?_
   try simp(disch:=omega) only[push_cast,zJ]
   refine A (m-1) _ _ (by omega) ⟨j+1,r7,?_,by omega,Ext.then g I λb p=>l b p,?_,λb p=>(F b p).elim (l b) λh=>by omega⟩
   ·rw[show((m-1:Nat):Int)=(m:Int)-1 by omega]
   ·rw[nameB_take (wd:=wd) (top:=2+M.bits (ds.take i)) (by omega) V.symm rfl,<-B];rw[show(2+M.bitT ds i+(wd-1-j))=2+M.bitT ds i+((m:Int)-1) by omega];exact G
  ·rw[gM (by rw[M.nameB_len];omega)] at n;exact L w5 r v n l
 ·refine U d _ _ ⟨?_,k.trans t,?_⟩
  ·rw[M.bitT_succ d];simp;omega
  ·have:i≠(M.findD ds s).toNat:=λh=>e (by rw[h];exact M.findD_get hs);omega
end
end Go.Proofs.YtokflbdfnbppjaaGreatDoor
namespace Go.Proofs.YtokflbdfnbppjaaGreatDoor
open Go Go.Vc Go.Proofs Go.Shelf
section
variable {w:World} {K:Value->World->Prop} {F X Q:Nat->Prop}
def WH0:ByteArray:=⟨#[48,49,50,51,52,53,54,55,56,57,97,98,99,100,101,102,103,104,105,106,107,108,109,110,111,112,113,114,115,116,117,118,119,120,121,122]⟩
theorem digit_text:∀k:Fin 10,(WH0.extract k.1 (k.1+1)).data.toList=M.digL (k.1:Int):=by decide+kernel
theorem Itoa_spec {k:Nat} (c:k<10) (b:∀s:ByteArray,s.data.toList=M.digL (k:Int)->K (.string s) w):vcall P Z0 #[.int .i64 k] w K:=by
 apply k10;apply Kq;apply XB;simp only[push_cast];refine zh (λ_=>?_) (λh=>absurd trivial h);refine zS (λ_ _=>False) ?_ (λ_ _ _ h=>h.elim);intro J d;refine zh (λ_=>?_) (λh=>by omega);refine zh (λ_=>?_) (λh=>by omega);apply Ju;simp(disch:=omega) only[push_cast,zJ];refine zh (λ_=>?_) (λh=>by omega);have a:WH0.size=36:=by decide+kernel
 show yQ P zT (.string WH0) _ _ _ w _;rw[Q60 (by kernel_rfl) (by omega) (by omega) (by rw[a];omega)];rw[show((k:Int)).toNat=k by omega,show((k:Int)+1).toNat=k+1 by omega];exact b _ (digit_text ⟨k,c⟩)
def byV (c:UInt8):Value:= .int .u8 c.toNat
theorem QB0 {v:Value} {l:List UInt8} (h:OwnV P yh w v (l.map byV)) (g:l≠[]):QY P yh zT v w K=K (.string ⟨l.toArray⟩) w:=by
 obtain⟨a,c,k,p,n,d⟩:=(OwnV.vals h).shape;have f:(l.map byV).map (λx=>[x])≠[]:=by simpa using g
 obtain⟨b,o,m,_,_,e⟩:=d f;simp only[X0] at k e;subst m;subst k;refine yU (run_convert_bytes_back w yh zT ky ⟨b,o,none⟩ c l JV (by kernel_rfl) (by kernel_rfl) λj i=>?_);have:=e j i 0 (byV l[j]) (by
  rw[k6,Gn,Gn,K3 i];rfl)
 rw[xR] at this⊢;rw[pX,pd] at this;exact this
def Ke0 (n:Nat) (i:Nat):UInt8:=if n/2^i%2=1 then 49 else 48
theorem bitC_take {wd n j:Nat} (a:j<wd):((List.range wd).reverse.map (Ke0 n)).take (j+1)=((List.range wd).reverse.map (Ke0 n)).take j++[Ke0 n (wd-1-j)]:=by
 have b:j<((List.range wd).reverse.map (Ke0 n)).length:=by simpa using a
 rw[M.take_add b 0];congr 1;rw[k6,Gn,List.getElem?_reverse (by simpa using a),Gy,pc (by omega)];rfl
theorem VecText_spec {wd n:Int} (C:M.vok wd n=true) (hK:∀w' s,Ext w w'->s.data.toList=M.vecL wd.toNat n.toNat->K (.string s) w'):vcall P J9 #[Ye wd n] w K:=by
 apply kn0;obtain⟨U,V,W,X⟩:=M.vok_iff.1 C;have hp:(2:Int)^wd.toNat<=16:=by
  have:=pow4 (k:=wd.toNat) (by omega) (by omega);have e:=kI0 wd.toNat;omega
 refine zx λb1 w1 a0 z aa g=>?_;have y:∀w':World,Blk w' b1 [.int .i64 wd,.int .i64 n] zd->∀K:Value->World->Prop,zf P zd (.pointer (some ⟨b1,0,none⟩)) w' K=K (Ye wd n) w':=λw' hB K=>Blk.ldAgg hB (by exact y7);rw[y w1 g];refine VecOk_spec λw2 o=>?_;rw[C];simp only[push_cast,Pd];refine yK JV (by kernel_rfl) (show xg P ky (.int .u8 0) by unfold xg;kernel_rfl) rfl rfl λb3 w3 a5 A ab I=>?_;have D:=g.ext (o.trans A);have e3:=z.trans (o.trans A);have s1:=z.size;have s2:=o.size;have S:OwnV P yh w3 (.slice (some ⟨b3,0,none⟩) 1 1) ([(35:UInt8)].map byV):=Blk.own1 (P:=P) (t:=yh) (cs:=[byV 35]) (by rw[K50];exact I) (Gg _) rfl rfl (by omega);simp(disch:=first|(simp only[push_cast])|omega) only[push_cast,D.ld0,zJ];refine Wc (λm u w'=> ∃j r,u=[r,.int .i64 ((m:Int)-1)]/\(m:Int)+(j:Nat)=wd/\Ext w w'/\Blk w' b1 [.int .i64 wd,.int .i64 n] zd/\OwnV P yh w' r ((35::((List.range wd.toNat).reverse.map (Ke0 n.toNat)).take j).map byV)/\∀b,r.ownBlock=some b->w1.heap.size<=b) wd.toNat
  ⟨0,_,by rw[show((wd.toNat:Nat):Int)=wd by omega],by omega,e3,D,S,λb l=>by have e:b3=b:=gh l;omega⟩ ?_
 rintro m _ _ Y Z ⟨j,r,rfl,a9,p,i,v,q⟩ L;simp only[push_cast];refine zh (λa7=>?_) (λa8=>?_)
 ·rw[y Y i];rw[show n=((n.toNat:Nat):Int) by omega];refine raw_spec (by omega) λw6 O=>?_;rw[show(m:Int)-1=((m-1:Nat):Int) by omega];refine bit_spec (by omega) (by omega) ?_;have step:∀(x:UInt8) (G:Value->World->Prop),x=Ke0 n.toNat (wd.toNat-1-j)->(∀d a,Ext w a->Blk a b1 [.int .i64 wd,.int .i64 n] zd->OwnV P yh a d ((35::((List.range wd.toNat).reverse.map (Ke0 n.toNat)).take (j+1)).map byV)->(∀b,d.ownBlock=some b->w1.heap.size<=b)->G d a)->
    vbuildS P yh 1 [(0,.int .u8 x.toNat)] w6 λt21 F=>vbi P .append [yh,yh] yh [r,t21] F G:=by
   intro x G hx N;refine yK JV (by kernel_rfl) (show xg P ky (.int .u8 0) by unfold xg;kernel_rfl) rfl rfl λb7 a a6 Q ad J=>?_;have f:=O.trans Q;have hl:((35::((List.range wd.toNat).reverse.map (Ke0 n.toNat)).take j).map byV).length<=20:=by
    simp only[X0,gu,gi,pK,Gy];omega
   refine(v.ext f).app1 Vi0 J rfl (by omega) (by omega) λr8 w8 T E R=>?_;have ac:=p.size;have z67:=f.size;refine N r8 w8 (Ext.then (p.trans f) E λb l=>by have:=q b l;omega) ((i.ext f).same E λl=>by have:=q b1 l;have:=g.lt;omega) ?_ λb l=>(R b l).elim (q b) λh=>by have:=i.lt;omega
   rw[bitC_take (by omega),<-hx,<-Gv,gx];exact T
  have B:wd.toNat-1-j=m-1:=(by omega);have fin:∀d a,Ext w a->Blk a b1 [.int .i64 wd,.int .i64 n] zd->OwnV P yh a d ((35::((List.range wd.toNat).reverse.map (Ke0 n.toNat)).take (j+1)).map byV)->(∀b,d.ownBlock=some b->w1.heap.size<=b)->Z [d,.int .i64 (((m-1:Nat):Int)-1)] a:=λd a U V W X=>
   L (m-1) _ _ (by omega) ⟨j+1,d,rfl,by omega,U,V,W,X⟩
  refine zh (λc=>?_) (λc=>?_)
  ·refine step 49 _ (by rw[B];unfold Ke0;rw[if_pos c]) λd a H a2 a3 a4=>?_;rw[zJ (by omega) (by omega)];exact fin d a H a2 a3 a4
  ·refine step 48 _ (by rw[B];unfold Ke0;rw[if_neg c]) λd a H a2 a3 a4=>?_;rw[zJ (by omega) (by omega)];exact fin d a H a2 a3 a4
 ·rw[gM (by simp;omega)] at v;rw[QB0 v (by simp)];exact hK Y _ p rfl
theorem joinX:Builder.Extra P YtokflbdfnbppjaaGreatDoor.joinL_ren where
 sizeBuilder:=by kernel_rfl
 liesBuilder:=by kernel_rfl
 t5:=by kernel_rfl
 a5:=λw=>by kernel_rfl
 z5:=λw=>by kernel_rfl
 v5:=λw=>by kernel_rfl
 infoByte:=by kernel_rfl
 cellsByte:=by kernel_rfl
 sizeByte:=by kernel_rfl
 neB5:=by decide+kernel
def joinB:List (List UInt8)->List UInt8
 |[]=>[]
 |x::xs=>x++xs.flatMap λy=>32::y
theorem JL0 (xs:List (List UInt8)):Lib.join xs [32]=joinB xs:=by
 unfold Lib.join joinB;induction xs with
 |nil=>rfl
 |cons x xs a=>
  cases xs with
  |nil=>simp[List.intercalate,List.intersperse]
  |cons y ys=>
   simp only[List.intercalate,List.intersperse_cons_cons,GD] at a⊢;rw[a];simp
theorem Join_spec {v:Value} {xs:List ByteArray} (h:OwnV P xf w v (xs.map .string)) (n:2<=xs.length) (y:xs.length<=1000) (g:(joinB (xs.map (·.data.toList))).length<=1000000)
  (q:∀w' s,Ext w w'->s.data.toList=joinB (xs.map (·.data.toList))->K (.string s) w'):vcall P U7 #[v,.string ⟨#[32]⟩] w K:=by
 obtain⟨a,c,m,l,u,d⟩:=(OwnV.vals h).shape;have k:(xs.map Value.string).map (λx=>[x])≠[]:=by intro e;have:=congrArg List.length e;simp only[X0,pw] at this;omega
 obtain⟨b,o,r,_,t,f⟩:=d k;simp only[X0] at m f l;subst r;subst m;refine⟨by kernel_rfl,?_⟩;refine(Any.strings_Join_many YtokflbdfnbppjaaGreatDoor.joinL joinX b o c xs ⟨#[32]⟩ w (λj x g=>?_) t n (by omega) l (by rw[show(⟨#[32]⟩:ByteArray).data.toList=[32] from rfl,JL0];omega)).mono ?_
 ·have i:j<xs.length:=(Gr.1 g).1;have:=f j i 0 (.string x) (by
   rw[k6,Gn,Gn,g];rfl)
  rw[xR,pX,pd] at this;exact this
 ·rintro e w' ⟨rfl,p⟩;refine q w' _ (X00 p) ?_;rw[show(⟨#[32]⟩:ByteArray).data.toList=[32] from rfl,JL0]
end
end Go.Proofs.YtokflbdfnbppjaaGreatDoor
namespace Go.Proofs.YtokflbdfnbppjaaGreatDoor
open Go Go.Vc Go.Proofs
section
variable {w:World} {K:Value->World->Prop} {F X Q:Nat->Prop}
theorem qB0 {s:ByteArray} {m:Value} (c:∀w',Ext w w'->K (.string s) w'):vcall P xc #[.agg ⟨[.string s,m]⟩] w K:=by
 apply xb0;refine zx λb w1 d he e a=>?_;simp(disch:=first|(simp only[push_cast])|omega) only[push_cast,a.ld0];exact c w1 he
theorem word_spec {o:Int} {v:Value} (k:KindR o v) (l:(1<=o/\o<=17)\/(22<=o/\o<=27)) (a:o≠24) (j:∀w' s,Ext w w'->s.data.toList=M.wordL o->K (.string s) w'):vinvoke P v Kh #[] w K:=by
 obtain⟨s,m,r,rfl,e,g,i⟩:=k.word;have hs:s.data.toList=M.wordL o:=by
  rcases i with h|h|h|h
  ·omega
  ·omega
  ·exact absurd h a
  ·exact h
 have fin:vcall P xc #[.agg ⟨[.string s,.int .i64 m]⟩] w K:=qB0 λw' he=>j w' s he hs;unfold kTy;by_cases c:24<=o
 ·obtain⟨f,rfl,_⟩:=g c
  repeat rw[if_neg (by omega)]
  exact yl (Vp _ _ _) fin
 ·have:=e (by omega);subst this;by_cases c1:o<=2
  ·rw[if_pos c1];exact yl (UJ _ _) fin
  rw[if_neg c1];by_cases c2:o<=13
  ·rw[if_pos c2];exact yl (WH _ _) fin
  rw[if_neg c2];by_cases c3:o=14
  ·rw[if_pos c3];exact yl (WE _ _) fin
  rw[if_neg c3];by_cases b:o<=17
  ·rw[if_pos b];exact yl (WB _ _) fin
  rw[if_neg b,if_neg (by omega),if_neg (by omega)];by_cases d:o=22
  ·rw[if_pos d];exact yl (Wy _ _) fin
  rw[if_neg d,if_pos (by omega)];exact yl (UM _ _) fin
theorem wordL_len (o:Int):(M.wordL o).length<=5:=by
 by_cases h:0<=o/\o<28
 ·have a:∀k:Fin 28,(M.wordL (k.1:Int)).length<=5:=(by decide+kernel);have:=a ⟨o.toNat,by omega⟩;rwa[show((o.toNat:Nat):Int)=o by omega] at this
 ·unfold M.wordL
  repeat rw[if_neg (by omega)]
  decide
theorem KU0 (wd n:Nat):(M.vecL wd n).length=wd+1:=by unfold M.vecL;simp
theorem kids_sum {f:M.Tm->Nat} {ks:List M.Tm} {g:M.Tm->List UInt8} (h:∀k,k∈ks->(g k).length+1<=f k):((ks.map g).flatMap (λx=>32::x)).length<=(ks.map f).sum:=by
 induction ks with
 |nil=>simp
 |cons k ks b=>
  have:=h k gg;have:=b λy a=>h y (gj _ a);simp only[gS,List.flatMap_cons,Q1,gu,PX];omega
theorem text_len {ds:List M.Dcl} (i:M.declOk ds=true):∀t,M.sortM ds t≠ -1->(M.textL t).length+1<=20*M.sizeM t:=by
 refine M.Tm.ind λt n hs=>?_;obtain⟨h,v,u⟩:=M.right_op hs;rw[M.sizeM_eq,M.textL_eq];have e:((t.ks.map M.textL).flatMap (λx=>32::x)).length<=(t.ks.map λk=>20*M.sizeM k).sum:=kids_sum λk e=>n k e ((M.sort_parts hs).2.1 k e);have g:(t.ks.map λk=>20*M.sizeM k).sum=20*(t.ks.map M.sizeM).sum:=by
  generalize t.ks=l;induction l with
  |nil=>rfl
  |cons k l ihl=>simp only[gS,PX,ihl];omega
 unfold M.textF;by_cases c:t.op=20
 ·rw[if_pos c,KU0];have:=M.vok_iff.1 (M.vec_ok hs c);omega
 rw[if_neg c];by_cases c:t.op=21
 ·rw[if_pos c];have j:=M.name_found hs c;have m:(M.findD ds t.s).toNat<ds.length:=by have:=(M.findD_lt ds t.s).2;omega
  have d:=(M.decl_iff.1 i).2.1 _ m;unfold M.dclOk at d;rw[M.findD_get j] at d;simp only[V0,decide_eq_true_eq,M.nameOk] at d;obtain⟨⟨⟨⟨⟨⟨o,p⟩,q⟩,r⟩,_⟩,_⟩,_⟩:=d;have:t.s.data.toList.length=t.s.size:=by rw[pa];rfl
  omega
 rw[if_neg c];by_cases c:t.op=24
 ·rw[if_pos c];simp;omega
 rw[if_neg c];have:=wordL_len t.op;have f:(if t.op=22 then(32:UInt8)::(M.digL t.a++32::M.digL t.b) else[]).length<=4:=by
  split
  ·simp[M.digL]
  ·simp
 simp only[gu,Q1,pw];omega
theorem Itoa_int {k:Int} (b:0<=k) (c:k<10) (a:∀s:ByteArray,s.data.toList=M.digL k->K (.string s) w):vcall P Z0 #[.int .i64 k] w K:=by
 obtain⟨j,rfl⟩:∃j:Nat,k=j:=⟨k.toNat,by omega⟩;exact Itoa_spec (by omega) a
theorem textOf_spec {ds:List M.Dcl} (hd:M.declOk ds=true) {kb:Nat}:∀(t:M.Tm),M.sortM ds t≠ -1->M.sizeM t<=1000->∀{w:World} {K:Value->World->Prop} {F:Nat->Prop} {tv:Value},KindsR w kb->TermR F w tv t->
  (∀w' s,Ext w w'->s.data.toList=M.textL t->K (.string s) w')->vcall P Xz #[.map (some kb),tv] w K:=by
 refine M.Tm.ind λt ih hs bf w K F tv hk ht n=>?_;obtain⟨ac,hp,ho⟩:=M.right_op hs;have hlen:=text_len hd t hs;obtain⟨kv,rfl,ae⟩:=ht;apply ZZ0;refine zx λb1 w1 b4 f bh m=>?_;have Y:=hk.ext f;have H:=ae.ext f;rw[M.textL_eq] at n hlen;unfold M.textF at n hlen;simp(disch:=first|(simp only[push_cast])|omega) only[push_cast,m.ld0,m.ld1,m.ld2,m.ld3];refine zh (λc=>?_) (λc=>?_)
 ·rw[if_pos c] at n;have hv:=M.vec_ok hs c;have e:zE P zd [(0,.int .i64 t.a),(1,.int .i64 t.b)] w1=λK=>K (Ye t.a t.b) w1:=by
   funext K;exact yo xs0 (us:=[[.int .i64 t.a],[.int .i64 t.b]]) rfl rfl
  try rw[e]
  exact VecText_spec hv λw2 s B ak=>n w2 s (f.trans B) ak
 rw[if_neg c] at n hlen;refine zh (λc=>?_) (λc=>?_)
 ·rw[if_pos c] at n;exact n w1 _ f rfl
 rw[if_neg c] at n hlen;refine zh (λc=>?_) (λc=>?_)
 ·rw[if_pos c] at n;exact n w1 _ f rfl
 rw[if_neg c] at n hlen;have ai:(1<=t.op/\t.op<=17)\/(22<=t.op/\t.op<=27):=by omega
 refine qD0 (ok:=false) Y (by rw[ac];omega) λbm af=>?_;simp only[gU,if_false];refine word_spec af ai (by omega) λw2 ws B a6=>?_;refine yK V7 (by kernel_rfl) KY rfl rfl λb3 w3 b6 W bi a9=>?_;have O:=B.trans W;have s1:=f.size;have s2:=B.size;have k:=m.ext O;have a2:OwnV P xf w3 (.slice (some ⟨b3,0,none⟩) 1 1) ([ws].map .string):=Blk.own1 (P:=P) (t:=xf) (cs:=[Value.string ws]) (by rw[Qy0];exact a9) (Gg _) rfl rfl (by omega);have be:1<=t.ks.length:=by
  have:=M.node_arity ho (by omega);omega
 have bc:t.ks.length<=3:=by
  have h:M.arity t.op<=3:=by
   unfold M.arity;repeat' split
   all_goals omega
  omega
 refine zS (λu w'=> ∃(wv:Value) (wl:List ByteArray),u=[wv]/\Ext w1 w'/\OwnV P xf w' wv (wl.map .string)/\(∀b,wv.ownBlock=some b->w1.heap.size<=b)/\wl.length<=3/\wl.map (·.data.toList)=M.wordL t.op::(if t.op=22 then[M.digL t.a,M.digL t.b] else[])) ?_ ?_
 ·intro J hJ;simp(disch:=first|(simp only[push_cast])|omega) only[push_cast,k.ld0,k.ld1,k.ld2];refine zh (λz=>?_) (λz=>?_)
  ·obtain⟨b2,ba,b0⟩:=M.cut_ab hd hs z;refine zr λw4 X _=>?_;have p:=k.ext X;simp(disch:=first|(simp only[push_cast])|omega) only[push_cast,p.ld1,p.ld2,true_and];refine Itoa_int (by omega) (by omega) λsa am=>?_;simp(disch:=first|(simp only[push_cast])|omega) only[push_cast,p.ld2,true_and,and_self];refine Itoa_int (by omega) (by omega) λsb an=>?_;refine vbuildS_row1 (xs:=[.string sa,.string sb]) V7 XB0 KY (λx a8=>by
    simp only[gd,gw,or_false] at a8;rcases a8 with rfl|rfl<;>rfl) (by simp) λb5 w5 b8 q bj S=>?_
   have ap:Vals (· =b5) w5 (.slice (some ⟨b5,0,none⟩) 2 2) [.string sa,.string sb]:=S.sl1 rfl (by simp);have Q:=X.trans q;refine(a2.ext Q).app Yw0 ap (λu hu=>by
    simp only[gd,gw,or_false] at hu;rcases hu with rfl|rfl<;>rfl) (by simp) (by simp) λr6 w6 G al E=>?_
   have z35:=Q.size;have z3:=W.size;refine hJ _ _ ⟨r6,[ws,sa,sb],rfl,Ext.then (O.trans Q) al λb A=>by have e:b3=b:=gh A;omega,by simpa using G,λb A=>(E b A).elim (λh=>by have e:b3=b:=gh h;omega) λh=>by omega,by simp,?_⟩;rw[if_pos z];simp[a6,am,an]
  ·exact hJ _ _ ⟨_,[ws],rfl,O,a2,λb A=>by have e:b3=b:=gh A;omega,by simp,by rw[if_neg z];simp[a6]⟩
 rintro _ _ w5 ⟨wv,wl,rfl,q,aj,ah,bg,a7⟩;have S:=m.ext q;have Z:=H.ext q;simp(disch:=first|(simp only[push_cast])|omega) only[push_cast,S.ld4,Z.len];refine vloop_up t.ks.length (λi u w'=> ∃(r:Value) (kl:List ByteArray),u=[r,.int .i64 i]/\Ext w1 w'/\OwnV P xf w' r ((wl++kl).map .string)/\(∀b,r.ownBlock=some b->w1.heap.size<=b)/\kl.map (·.data.toList)=(t.ks.take i).map M.textL) ⟨wv,[],rfl,q,by simpa using aj,ah,rfl⟩ ?_;rintro i _ g w6 C hi ⟨r,kl,rfl,v,G,E,l⟩ hC;have I:=H.ext v;have av:kl.length=i:=by
  have:=congrArg List.length l;simp only[X0,gi] at this;omega
 simp only[push_cast];refine zh (λa=>?_) (λa=>?_)
 ·have d:i<t.ks.length:=(by omega);simp(disch:=first|(simp only[push_cast])|omega) only[push_cast,I.iaddr];refine I.load zp d λx hx=>?_;obtain⟨cx,rfl,T⟩:=hx.cells;refine zD zH λb7 w7 b9 D bk aa=>?_;refine stTerm aa rfl (T.ext D) λw8 aq bl ab=>?_;have R:Ext w6 w8:=Ext.then D aq λy hy=>by subst hy;omega
  have v8:=T.ext R;simp(disch:=(simp only[push_cast])) only[push_cast,ab.ldAgg (t:=za) (by rw[yq T];exact zp)];have L:t.ks.getD i default∈t.ks:=M.getD_mem d _;have ao:M.sizeM (t.ks.getD i default)<=1000:=by
   have h1:=M.szT_succ d;have h2:=M.szT_mono (ks:=t.ks) (i:=i+1) (j:=t.ks.length) d (gr _);have h3:=M.szT_all t;omega
  refine ih _ L ((M.sort_parts hs).2.1 _ L) ao (Y.ext (v.trans R)) v8.term λw9 sk ad a5=>?_;refine yK V7 (by kernel_rfl) KY rfl rfl λaz bn au V ax U=>?_;have o:=R.trans (ad.trans V);have bd:((wl++kl).map Value.string).length<=6:=by rw[X0,Q1];omega
  refine(G.ext o).app1 Yw0 U rfl (by omega) (by omega) λar bo a1 a3 a0=>?_;have z6:=v.size;have ay:=o.size
  try simp(disch:=omega) only[push_cast,zJ]
  refine hC d _ _ ⟨ar,kl++[sk],by simp<;>exact⟨rfl,rfl⟩,Ext.then (v.trans o) a3 λb A=>E b A,?_,λb A=>(a0 b A).elim (E b) λh=>by omega,?_⟩
  ·rw[<-Gb,gx];exact a1
  ·rw[M.take_add d default,gx,gx,l];simp[a5]
 ·have d:i=t.ks.length:=(by omega);subst d;rw[gC] at l;have N:joinB ((wl++kl).map (·.data.toList))=M.wordL t.op++((if t.op=22 then(32:UInt8)::(M.digL t.a++32::M.digL t.b) else[])++(t.ks.map M.textL).flatMap λx=>32::x):=by
   rw[gx,a7,l];show joinB (M.wordL t.op::((if t.op=22 then[M.digL t.a,M.digL t.b] else[])++t.ks.map M.textL))=_;rw[show ∀(x:List UInt8) xs,joinB (x::xs)=x++xs.flatMap (λy=>32::y) from λ_ _=>rfl,List.flatMap_append];split<;>simp
  have ag:2<=(wl++kl).length:=by
   have h1:1<=wl.length:=by
    have:=congrArg List.length a7;simp only[X0,gu] at this;omega
   rw[Q1];omega
  simp only[gu,Q1,pw] at hlen;have bb:(joinB ((wl++kl).map (·.data.toList))).length<=20000:=by
   rw[N];simp only[Q1];omega
  refine Join_spec G ag (by rw[Q1];omega) (by omega) λw7 sj D a4=>?_;have aw:sj.size<=20000:=by
   have:sj.data.toList.length=sj.size:=by rw[pa];rfl
   rw[a4] at this;omega
  have h1:(⟨#[40]⟩:ByteArray).size=1:=(by decide+kernel);have h3:(⟨#[41]⟩:ByteArray).size=1:=(by decide+kernel);have h2:((⟨#[40]⟩:ByteArray)++sj).size=1+sj.size:=(by rw[ByteArray.size_append,h1]);rw[qo0 (by omega),qo0 (by omega)];refine n w7 _ (f.trans (v.trans D)) ?_;rw[ByteArray.data_append,ByteArray.data_append,PB,PB,a4,N];simp
end
end Go.Proofs.YtokflbdfnbppjaaGreatDoor
section
namespace Go.M
theorem node_right {ds:List Dcl} {t:Tm} (s:declOk ds=true) (hs:sortM ds t≠ -1) {L:Nat->Nat} (f:∀i,i<t.ks.length->L i=lenS (sortM ds (kid t i))):
  (1<=t.op->t.op<=2->t.ks.length=1/\1<=L 0/\L 0<=4)/\(3<=t.op->t.op<=13->t.ks.length=2/\L 0=L 1/\1<=L 0/\L 0<=4)/\(t.op=14->t.ks.length=2/\1<=L 0/\1<=L 1/\L 0+L 1<=4)/\
  (15<=t.op->t.op<=17->t.ks.length=2/\L 0=L 1/\1<=L 0/\L 0<=4)/\(t.op=22->t.ks.length=1/\0<=t.b/\t.b<=t.a/\t.a<L 0/\L 0<=4)/\(t.op=23->t.ks.length=3/\L 0=1/\L 1=L 2/\1<=L 1/\L 1<=4)/\
  (25<=t.op->(t.ks.length=if t.op=25 then 1 else 2)/\∀i,i<t.ks.length->L i=1):=by
 obtain⟨p,u,n⟩:=sort_parts hs;simp only[formed,V0,decide_eq_true_eq] at p;obtain⟨d,v⟩:=p;have q:=arity_ops (o:=t.op) (by omega);have g:∀i,i<t.ks.length->(t.ks.map (sortM ds)).getD i 0=sortM ds (kid t i):=λi l=>getD_map _ l _ _;have k:∀i,-1<=sortM ds (kid t i)/\sortM ds (kid t i)<=4:=λi=>sort_range s _;rw[n] at hs;unfold sortK at hs;unfold arity at d;have y:=k 0;have z:=k 1;have A:=k 2;refine⟨λa b=>?_,λa b=>?_,λa=>?_,λa b=>?_,λa=>?_,λa=>?_,λa=>?_⟩
 ·have j:t.ks.length=1:=by rw[if_neg (by omega),if_pos (by omega)] at d;omega
  rw[if_neg (by omega),if_neg (by omega),if_neg (by omega),if_neg (by omega),if_neg (by omega),if_pos (by omega),g 0 (by omega)] at hs;have e:=f 0 (by omega);by_cases c:0<sortM ds (kid t 0)
  ·unfold lenS at e;omega
  ·rw[if_neg c] at hs;exact absurd rfl hs
 ·have j:t.ks.length=2:=by rw[if_neg (by omega),if_neg (by omega),if_neg (by omega),if_neg (by omega),if_pos (by omega)] at d;omega
  rw[if_neg (by omega),if_neg (by omega),if_neg (by omega),if_neg (by omega),if_neg (by omega),if_neg (by omega),if_neg (by omega),if_neg (by omega),g 0 (by omega),g 1 (by omega)] at hs;have e:=f 0 (by omega);have h:=f 1 (by omega);by_cases c:0<sortM ds (kid t 0)/\sortM ds (kid t 0)=sortM ds (kid t 1)
  ·unfold lenS at e h;omega
  ·rw[if_neg c] at hs;exact absurd rfl hs
 ·have j:t.ks.length=2:=by rw[if_neg (by omega),if_neg (by omega),if_neg (by omega),if_neg (by omega),if_pos (by omega)] at d;omega
  rw[if_neg (by omega),if_neg (by omega),if_neg (by omega),if_neg (by omega),if_neg (by omega),if_neg (by omega),if_pos (by omega),g 0 (by omega),g 1 (by omega)] at hs;have e:=f 0 (by omega);have h:=f 1 (by omega);by_cases c:0<sortM ds (kid t 0)/\0<sortM ds (kid t 1)/\sortM ds (kid t 0)+sortM ds (kid t 1)<=4
  ·unfold lenS at e h;omega
  ·rw[if_neg c] at hs;exact absurd rfl hs
 ·have j:t.ks.length=2:=by rw[if_neg (by omega),if_neg (by omega),if_neg (by omega),if_neg (by omega),if_pos (by omega)] at d;omega
  rw[if_neg (by omega),if_neg (by omega),if_neg (by omega),if_neg (by omega),if_neg (by omega),if_neg (by omega),if_neg (by omega),if_pos (by omega),g 0 (by omega),g 1 (by omega)] at hs;have e:=f 0 (by omega);have h:=f 1 (by omega);by_cases c:0<sortM ds (kid t 0)/\sortM ds (kid t 0)=sortM ds (kid t 1)
  ·unfold lenS at e h;omega
  ·rw[if_neg c] at hs;exact absurd rfl hs
 ·have j:t.ks.length=1:=by rw[if_neg (by omega),if_pos (by omega)] at d;omega
  rw[if_neg (by omega),if_neg (by omega),if_neg (by omega),if_neg (by omega),if_pos (by omega),g 0 (by omega)] at hs;have e:=f 0 (by omega);by_cases c:0<=t.b/\t.b<=t.a/\t.a<sortM ds (kid t 0)
  ·unfold lenS at e;omega
  ·rw[if_neg c] at hs;exact absurd rfl hs
 ·have j:t.ks.length=3:=by rw[if_neg (by omega),if_neg (by omega),if_pos (by omega)] at d;omega
  rw[if_neg (by omega),if_neg (by omega),if_neg (by omega),if_pos (by omega),g 0 (by omega),g 1 (by omega),g 2 (by omega)] at hs;have e:=f 0 (by omega);have h:=f 1 (by omega);have r:=f 2 (by omega);by_cases c:sortM ds (kid t 0)=0/\sortM ds (kid t 1)=sortM ds (kid t 2)
  ·unfold lenS at e h r;omega
  ·rw[if_neg c] at hs;exact absurd rfl hs
 ·have j:t.ks.length=if t.op=25 then 1 else 2:=by
   by_cases c:t.op=25
   ·rw[if_neg (by omega),if_pos (by omega)] at d;rw[if_pos c];omega
   ·rw[if_neg (by omega),if_neg (by omega),if_neg (by omega),if_pos (by omega)] at d;rw[if_neg c];omega
  rw[if_neg (by omega),if_neg (by omega),if_pos (by omega)] at hs;by_cases c:(t.ks.map (sortM ds)).any (λx=>decide (x≠0))=true
  ·rw[if_pos c] at hs;exact absurd rfl hs
  ·refine⟨j,λi l=>?_⟩;have e:=f i l;have w:sortM ds (kid t i)=0:=GU λm=>c (GZ.2 ⟨sortM ds (kid t i),gm.2 ⟨_,getD_mem l default,rfl⟩,by simpa using m⟩);rw[w] at e;exact e
end Go.M
end
namespace Go.Proofs.YtokflbdfnbppjaaGreatDoor
open Go Go.Vc Go.Proofs
section
variable {w:World} {K:Value->World->Prop} {F F' X Fk Q:Nat->Prop} {n bc bb:Nat} {gs:M.Gs} {v:Value} {ar ab:Addr}
theorem y70 {a:TypeId} {v:Value} (b:concB P a=true) {xT:TypeId}:YY P (.iface a v) xT a true w K=K (.tuple #[v,.bool true]) w:=by
 refine yU ?_;unfold concB at b;cases hu:P.underlying a with
 |none=>rw[hu] at b;cases b
 |some d=>
  rw[hu] at b;cases d<;>first|(cases b;done)|simp[Instr.typeAssert,run_underlying hu]
theorem jI {a t:TypeId} {v z:Value} (b:concB P a=true) (e:xg P a z) (c:t≠a) {xT:TypeId}:YY P (.iface t v) xT a true w K=K (.tuple #[z,.bool false]) w:=by
 refine yU ?_;unfold concB at b;cases hu:P.underlying a with
 |none=>rw[hu] at b;cases b
 |some d=>
  rw[hu] at b;cases d<;>first|(cases b;done)|simp[Instr.typeAssert,run_underlying hu,c,Wi e,Result.andThen]
structure KidsR (Fk X F:Nat->Prop) (w:World) (kv:Value) (rs:List (List Int)):Prop where
 at_:∃vs:List Value,Vals Fk w kv vs/\vs.length=rs.length/\∀i,i<rs.length->Ints (Off X F) w (vs.getD i undef) (rs.getD i [])
 sm:∀r,r∈rs->SmL r
theorem KidsR.ext {w':World} {kv:Value} {rs:List (List Int)} (h:KidsR Fk X F w kv rs) (he:Ext w w'):KidsR Fk X F w' kv rs:=by
 obtain⟨vs,a,b,c⟩:=h.at_;exact⟨⟨vs,a.ext he,b,λi d=>(c i d).ext he⟩,h.sm⟩
theorem KidsR.sml {kv:Value} {rs:List (List Int)} (h:KidsR Fk X F w kv rs) {i:Nat} (a:i<rs.length):SmL (rs.getD i []):=h.sm _ (M.getD_mem a [])
theorem KidsR.vals {kv:Value} {rs:List (List Int)} (h:KidsR Fk X F w kv rs):∃vs:List Value,(∀(w':World),Ext w w'->∀i,i<rs.length->∀K:Value->World->Prop,zj P zC kv (.int .i64 i) w' K=K (.pointer (some (eaddr kv 1 i))) w'/\zf P zc (.pointer (some (eaddr kv 1 i))) w' K=K (vs.getD i undef) w')/\
  ∀i,i<rs.length->Ints (Off X F) w (vs.getD i undef) (rs.getD i []):=by
 obtain⟨vs,b,d,c⟩:=h.at_;refine⟨vs,λw' he i e K=>?_,c⟩;have a:=b.ext he;refine⟨?_,a.load jI0 (by omega)⟩;rw[a.iaddr j30 (by omega) (by omega),gl]
theorem stKind {b:Nat} {x y:Value} {t0 tk:TypeId} {s:ByteArray} {m:Int} (h:Blk w b [x,y] t0) (e:aggB P tk 2=true) (d:∀w',Same (· =b) w w'->K undef w'):zn P tk (.pointer (some ⟨b,0,none⟩)) (.agg ⟨[.string s,.int .i64 m]⟩) w K:=
 h.stAgg rfl e (by intro v a;simp only[gd,gw,or_false] at a;rcases a with rfl|rfl<;>rfl) λw' c _ _=>d w' c
theorem fixB_at {wd nn:Int} {j:Nat} (a:(j:Int)<wd):(M.fixB wd nn).getD j 0=if nn.toNat/2^j%2=1 then 1 else-1:=by
 unfold M.fixB;rw[k6,Gn,pc (by omega)];rfl
theorem fix_step {wd nn:Int} {j:Nat} (a:(j:Int)<wd):((M.fixB wd nn).take j++List.replicate (wd.toNat-j) (-1)).set j (if nn.toNat/2^j%2=1 then 1 else-1)=(M.fixB wd nn).take (j+1)++List.replicate (wd.toNat-(j+1)) (-1):=by
 have b:((M.fixB wd nn).take j).length=j:=by rw[gi,M.fixB_len];omega
 rw[pS _ _ (by omega),b,GB,show wd.toNat-j=(wd.toNat-(j+1))+1 by omega,PC,ph,M.take_add (by rw[M.fixB_len];omega) 0,fixB_at a,Gb];rfl
theorem SmL.fix {wd nn:Int}:SmL (M.fixB wd nn):=λx a=>by
 unfold M.fixB at a;obtain⟨j,_,rfl⟩:=gm.1 a;split<;>decide
theorem SmL.name {ds:List M.Dcl} {k:Nat} (a:M.declOk ds=true) (b:k<ds.length):SmL (M.nameB ds k):=λx c=>by
 have:=M.name_has (m:=9) a b (by have:=(M.decl_iff.1 a).2.2;omega) x c;obtain⟨d,e,f⟩:=this;unfold Sm;omega
def WS0 (n bb:Nat) (ar ab:Addr) (X F:Nat->Prop) (w:World) (gs:M.Gs) (ds:List M.Dcl) (t:M.Tm) (rs:List (List Int)) (K:Value->World->Prop):Prop:=
 ∀w' F' st' r zs,BdR n bb ar ab X F' w' st'->Mv F w F' w'->Ints (Off X F') w' r zs->SmL zs->M.Bd.Out n (M.nodeB ds t rs) (some gs) st' zs->K r w'
section
variable {bl kb m:Nat} {dv tv kv:Value} {ds:List M.Dcl} {t:M.Tm} {rs:List (List Int)} {G Gt:Nat->Prop}
theorem root_spec (hb:BdR n bb ar ab X F w (some gs)) (hd:M.declOk ds=true) (hs:M.sortM ds t≠ -1) (hB:Blk w bl [.pointer (some ⟨bb,0,none⟩),dv,.map (some kb),.map (some m)] zX) (bv:DclsR G w dv ds) (c0:KindsR w kb) (ht:TermR Gt w tv t)
  (o:KidsR Fk X F w kv rs) (cr:rs.length=t.ks.length) (hlen:∀i,i<t.ks.length->(rs.getD i []).length=M.lenS (M.sortM ds (M.kid t i)))
  (hK:WS0 n bb ar ab X F w gs ds t rs K):vcall P Zk #[.pointer (some ⟨bl,0,none⟩),tv,kv] w K:=by
 obtain⟨tk,rfl,cq⟩:=ht;apply zf0;obtain⟨bs,hp,cf⟩:=M.right_op hs;obtain⟨q1,q2,q3,q4,q5,q6,q7⟩:=M.node_right hd hs (L:=λi=>(rs.getD i []).length) hlen;refine zx λb1 w1 ck bw ct bo=>?_;refine zr λw2 ba _=>?_;have e2:=bw.trans ba;have Z:=hB.ext e2;have U:=bo.ext ba;have z:=hb.ext e2;have b8:=bv.ext e2;simp(disch:=first|(simp only[push_cast])|omega) only[push_cast,Z.ld2,U.ld0,true_and];refine qD0 (ok:=false) (c0.ext e2) (by rw[bs];omega) λcu c1=>⟨rfl,?_⟩;obtain⟨s,mm,r,bd,a7,c9,_⟩:=c1.word;simp only[gU,if_false];rw[bd];have q:∀w3,Ext w2 w3->WS0 n bb ar ab X F w3 gs ds t rs K:=λw3 I w' F' st' r' zs h1 h2 h3 h4 h5=>hK w' F' st' r' zs h1 ((Mv.refl.ext (e2.trans I)).trans h2) h3 h4 h5;obtain⟨vs,T,S⟩:=(o.ext e2).vals;unfold WS0 M.nodeB at q;by_cases ae:t.op=20
 ·have D:kTy t.op=y2:=by rw[ae];rfl
  have:=a7 (by omega);subst this;rw[D,y70 xA];simp only[push_cast];rw[if_pos ae] at q;refine zD xV λb3 w3 a9 I ac N=>?_;refine stKind N jL0 λw4 O=>?_;have p:Ext w2 w4:=Ext.then I O λy hy=>by subst hy;omega
  have ah:=U.ext p;have hv:=M.vec_ok hs ae;obtain⟨v1,v2,v3,v4⟩:=M.vok_iff.1 hv;have cg:(2:Int)^t.a.toNat<=16:=by
   have:=pow4 (k:=t.a.toNat) (by omega) (by omega);have e:=kI0 t.a.toNat;omega
  simp(disch:=first|(simp only[push_cast])|omega) only[push_cast,ah.ld1];rw[show t.a=((t.a.toNat:Nat):Int) by omega];refine offs_spec (by omega) λl ov J ao an=>?_;have d:=p.trans J;have ax:∀(w':World) (K:Value->World->Prop),vbi P .len [zc] ze [ov] w' K=K (.int .i64 t.a.toNat) w':=λw' K=>(by rw[ao.ints.len qo,M.offsL_len]);rw[ax];refine vloop_up t.a.toNat (λj u w'=>u=[.int .i64 j]/\Ext w2 w'/\OwnI P zc w' ov ((M.fixB t.a t.b).take j++List.replicate (t.a.toNat-j) (-1))) ⟨rfl,d,ao⟩ ?_;rintro j _ g w6 C hj ⟨rfl,V,E⟩ hC;have z25:=d.size;have z24:=p.size;simp only[push_cast];refine zh (λc4=>?_) (λcn=>?_)
  ·have br:=U.ext V;simp(disch:=first|(simp only[push_cast])|omega) only[push_cast,br.ld2];rw[ZA XN0 (show QN0 P yy .u64 by unfold QN0;kernel_rfl),show t.b=((t.b.toNat:Nat):Int) by omega,wrapU (by omega)];refine bit_spec (by omega) (by omega) ?_;have be:((M.fixB t.a t.b).take j++List.replicate (t.a.toNat-j) (-1)).length=t.a.toNat:=by
    rw[Q1,gi,M.fixB_len,gF];omega
   refine zh (λc=>?_) (λc=>?_)
   ·rw[E.ints.iaddr xU (by omega) (by rw[be];omega),gl];refine E.st yN (by rw[be];omega) λw7 bf ca cd=>?_;have aa:=fix_step (wd:=t.a) (nn:=t.b) (j:=j) (by omega);rw[if_pos c] at aa;rw[aa] at bf
    try simp(disch:=omega) only[push_cast,zJ]
    exact hC (by omega) _ _ ⟨by simp,Ext.then V ca λb hb=>by have:=an b hb;omega,bf⟩
   ·have aa:=fix_step (wd:=t.a) (nn:=t.b) (j:=j) (by omega);rw[if_neg c] at aa;have az:((M.fixB t.a t.b).take j++List.replicate (t.a.toNat-j) (-1)).set j (-1)=(M.fixB t.a t.b).take j++List.replicate (t.a.toNat-j) (-1):=by
     have hl:((M.fixB t.a t.b).take j).length=j:=by rw[gi,M.fixB_len];omega
     rw[pS _ _ (by omega),hl,GB,show t.a.toNat-j=(t.a.toNat-(j+1))+1 by omega,PC,ph]
    rw[az] at aa;rw[aa] at E
    try simp(disch:=omega) only[push_cast,zJ]
    exact hC (by omega) _ _ ⟨by simp,V,E⟩
  ·have bz:j=t.a.toNat:=(by omega);rw[bz,GB,Pb,gz,gM (by rw[M.fixB_len];exact gr _)] at E;exact q w6 V w6 F (some gs) ov _ (z.ext V) Mv.refl (NewI.of (w:=w2) E (λb hb=>by have:=an b hb;omega) z.lt).ints SmL.fix (M.Bd.Out.ret _ _)
 rw[if_neg ae] at q;by_cases af:t.op=21
 ·have D:kTy t.op=zV:=by rw[af];rfl
  have:=a7 (by omega);subst this;rw[D];simp only[jI xA xV (show zV≠y2 by decide),y70 xC,push_cast];rw[if_pos af] at q;refine zD qc λb3 w3 a9 I ac N=>?_;refine stKind N qN0 λw4 O=>?_;have p:Ext w2 w4:=Ext.then I O λy hy=>by subst hy;omega
  have ah:=U.ext p;have hf:=M.name_found hs af;have c4:=M.findD_lt ds t.s;simp(disch:=first|(simp only[push_cast])|omega) only[push_cast,ah.ld3];refine inputs_spec (Z.ext p) (b8.ext p) hd hf λl r5 J ao an=>?_;have z24:=p.size;exact q l (p.trans J) l F (some gs) r5 _ (z.ext (p.trans J)) Mv.refl (NewI.of (w:=w2) ao (λb hb=>by have:=an b hb;omega) z.lt).ints (SmL.name hd (by omega)) (M.Bd.Out.ret _ _)
 rw[if_neg af] at q;by_cases bn:24<=t.op
 ·have D:kTy t.op=zF:=by
   unfold kTy
   repeat rw[if_neg (by omega)]
  obtain⟨f,rfl,c8⟩:=c9 bn;rw[D];simp only[jI xA xV (show zF≠y2 by decide),jI xC qc (show zF≠zV by decide),jI qu qL (show zF≠zZ by decide),jI je jB (show zF≠y9 by decide),jI jG kZ (show zF≠zY by decide),jI kq XF (show zF≠y3 by decide),jI kp XE (show zF≠y8 by decide),jI XU KZ (show zF≠zR by decide),y70 KA,push_cast];refine zD xS0 λb3 w3 a9 I ac N=>?_;refine N.stAgg (cs':=[.string s,.int .i64 mm,f]) rfl Vv (by intro v hv;simp only[gd,gw,or_false] at hv;rcases hv with rfl|rfl|rfl<;>first|rfl|exact c8) λw4 O _ bp=>?_;have p:Ext w2 w4:=Ext.then I O λy hy=>by subst hy;omega
  have ah:=U.ext p;rw[bp.ldAgg (t:=zF) Vv,ah.ldAgg (t:=za) zp];apply U3;refine zx λb6 w6 cl V ad ch=>?_;refine zx λb7 w7 cm bx cd bq=>?_;have W:Ext w2 w7:=p.trans (V.trans bx);simp(disch:=first|(simp only[push_cast])|omega) only[push_cast,bq.ld0];have fin:∀(Q:World) (F8:Nat->Prop) (ap:Option M.Gs) (x:Int),BdR n bb ar ab X F8 Q ap->Mv F w2 F8 Q->Sm x->M.Bd.Out n (M.nodeB ds t rs) (some gs) ap [x]->vbuildS P zc 1 [(0,.int .i64 x)] Q K:=λQ F8 ap x h8 c5 cc c7=>by
   refine yK xt yN yW rfl rfl λb9 w9 bt ai ce au=>?_;have a6:OwnI P zc w9 (.slice (some ⟨b9,0,none⟩) 1 1) [x]:=Blk.own1 (P:=P) (t:=zc) (cs:=[Value.int .i64 x]) (by rw[qa];exact au) (Gg _) rfl rfl (by omega);exact hK w9 F8 ap _ [x] (h8.ext ai) (((Mv.refl.ext e2).trans c5).ext ai) (NewI.of (w:=Q) a6 (λb hb=>by have e:b9=b:=gh hb;omega) h8.lt).ints (SmL.one cc) c7
  unfold M.nodeB at fin;rw[if_neg ae,if_neg af] at fin;by_cases c:t.op=24
  ·rw[if_pos c] at fin;rw[decide_eq_false (by omega),decide_eq_false (by omega),decide_eq_false (by omega)];simp only[push_cast];exact fin w7 F (some gs) 1 (z.ext W) (Mv.refl.ext W) (by decide) (M.Bd.Out.ret _ _)
  rw[if_neg c] at fin;obtain⟨aw,b5⟩:=q7 (by omega);have co:1<=t.ks.length:=(by split at aw<;>omega);have ci:=b5 0 (by omega);by_cases ag:t.op=25
  ·rw[if_pos ag] at fin;rw[decide_eq_true ag];simp only[push_cast];have A0:∀K:Value->World->Prop,zj P zC kv (.int .i64 0) w7 K=K (.pointer (some (eaddr kv 1 0))) w7:=λK=>(T w7 W 0 (by omega) K).1;have B0:∀K:Value->World->Prop,zf P zc (.pointer (some (eaddr kv 1 0))) w7 K=K (vs.getD 0 undef) w7:=λK=>(T w7 W 0 (by omega) K).2;have R:Ints (Off X F) w7 (vs.getD 0 undef) (rs.getD 0 []):=(S 0 (by omega)).ext W;have S0:=(o.sml (i:=0) (by omega)).get (i:=0) (by omega);unfold Sm at S0;simp(disch:=first|(simp only[push_cast])|omega) only[A0,B0,R.iaddr,R.load,push_cast,zJ,GQ];exact fin w7 F (some gs) _ (z.ext W) (Mv.refl.ext W) (by unfold Sm;rw[GJ];exact S0) (M.Bd.Out.ret _ _)
  rw[if_neg ag] at fin;rw[decide_eq_false ag];have cp:t.ks.length=2:=by rw[if_neg ag] at aw;exact aw
  have cj:=b5 1 (by omega);simp only[push_cast];have two:∀(Q:World),Ext w2 Q->(∀K:Value->World->Prop,zj P zC kv (.int .i64 0) Q K=K (.pointer (some (eaddr kv 1 0))) Q)/\(∀K:Value->World->Prop,zf P zc (.pointer (some (eaddr kv 1 0))) Q K=K (vs.getD 0 undef) Q)/\(∀K:Value->World->Prop,zj P zC kv (.int .i64 1) Q K=K (.pointer (some (eaddr kv 1 1))) Q)/\(∀K:Value->World->Prop,zf P zc (.pointer (some (eaddr kv 1 1))) Q K=K (vs.getD 1 undef) Q)/\Ints (Off X F) Q (vs.getD 0 undef) (rs.getD 0 [])/\Ints (Off X F) Q (vs.getD 1 undef) (rs.getD 1 []):=λQ e8=>
   ⟨λK=>(T Q e8 0 (by omega) K).1,λK=>(T Q e8 0 (by omega) K).2,λK=>(T Q e8 1 (by omega) K).1,λK=>(T Q e8 1 (by omega) K).2,(S 0 (by omega)).ext e8,(S 1 (by omega)).ext e8⟩
  have S0:=(o.sml (i:=0) (by omega)).get (i:=0) (by omega);have S1:=(o.sml (i:=1) (by omega)).get (i:=0) (by omega);by_cases am:t.op=26
  ·rw[if_pos am] at fin;rw[decide_eq_true am];simp only[push_cast];refine zr λQ av _=>?_;have Y:=W.trans av;have aq:=Z.ext Y;obtain⟨A0,B0,A1,B1,R,V1⟩:=two Q Y;simp(disch:=first|(simp only[push_cast])|omega) only[aq.ld0,A0,B0,A1,B1,R.iaddr,R.load,V1.iaddr,V1.load,push_cast,true_and];refine Y1 (z.ext Y) S0 S1 λw9 F9 b2 x h9 ay b0 a6=>fin w9 F9 b2 x h9 ((Mv.refl.ext Y).trans ay) b0 ?_;exact Qw a6 (M.Bd.Out.ret _ _)
  rw[if_neg am,if_pos (by omega)] at fin;rw[decide_eq_false am,decide_eq_true (show t.op=27 by omega)];simp only[push_cast];refine zr λQ av _=>?_;have Y:=W.trans av;have aq:=Z.ext Y;obtain⟨A0,B0,A1,B1,R,V1⟩:=two Q Y;simp(disch:=first|(simp only[push_cast])|omega) only[aq.ld0,A0,B0,A1,B1,R.iaddr,R.load,V1.iaddr,V1.load,push_cast,true_and];exact bor_spec (z.ext Y) S0 S1 λw9 F9 b2 x h9 ay b0 a6=>fin w9 F9 b2 x h9 ((Mv.refl.ext Y).trans ay) b0 (M.Bd.Out.map _ a6)
 rw[if_neg (by omega),if_neg (by omega),if_neg (by omega),if_neg (by omega)] at q;by_cases al:t.op=23
 ·have D:kTy t.op=y9:=by rw[al];rfl
  have:=a7 (by omega);subst this;obtain⟨k1,l0,l1,l2,l3⟩:=q6 al;rw[D];simp only[jI xA xV (show y9≠y2 by decide),jI xC qc (show y9≠zV by decide),jI qu qL (show y9≠zZ by decide),y70 je,push_cast];rw[if_pos al] at q;refine zD jB λb3 w3 a9 I ac N=>?_;refine stKind N Zn0 λw4 O=>?_;have p:Ext w2 w4:=Ext.then I O λy hy=>by subst hy;omega
  refine zr λl J _=>?_;have d:=p.trans J;have B:=U.ext d;have a0:=Z.ext d;have H:=z.ext d;have A0:∀K:Value->World->Prop,zj P zC kv (.int .i64 0) l K=K (.pointer (some (eaddr kv 1 0))) l:=λK=>(T l d 0 (by omega) K).1;have B0:∀K:Value->World->Prop,zf P zc (.pointer (some (eaddr kv 1 0))) l K=K (vs.getD 0 undef) l:=λK=>(T l d 0 (by omega) K).2;have R:Ints (Off X F) l (vs.getD 0 undef) (rs.getD 0 []):=(S 0 (by omega)).ext d;have S0:=o.sml (i:=0) (by omega);have A1:∀K:Value->World->Prop,zj P zC kv (.int .i64 1) l K=K (.pointer (some (eaddr kv 1 1))) l:=λK=>(T l d 1 (by omega) K).1;have B1:∀K:Value->World->Prop,zf P zc (.pointer (some (eaddr kv 1 1))) l K=K (vs.getD 1 undef) l:=λK=>(T l d 1 (by omega) K).2;have V1:Ints (Off X F) l (vs.getD 1 undef) (rs.getD 1 []):=(S 1 (by omega)).ext d;have S1:=o.sml (i:=1) (by omega);have A2:∀K:Value->World->Prop,zj P zC kv (.int .i64 2) l K=K (.pointer (some (eaddr kv 1 2))) l:=λK=>(T l d 2 (by omega) K).1;have B2:∀K:Value->World->Prop,zf P zc (.pointer (some (eaddr kv 1 2))) l K=K (vs.getD 2 undef) l:=λK=>(T l d 2 (by omega) K).2;have V2:Ints (Off X F) l (vs.getD 2 undef) (rs.getD 2 []):=(S 2 (by omega)).ext d;have S2:=o.sml (i:=2) (by omega);simp(disch:=first|(simp only[push_cast])|omega) only[a0.ld0,B.ld0,B.ld1,B.ld2,A0,B0,R.iaddr,R.load,A1,B1,V1.iaddr,V1.load,A2,B2,V2.iaddr,V2.load,push_cast,zJ,true_and];exact choose_spec H ⟨gs,rfl⟩ V1 V2 l1 (by omega) S1 S2 (S0.get (by omega)) λw6 F6 a8 r6 zs h6 a5 aj ad E=>q l d w6 F6 a8 r6 zs h6 a5 aj ad E
 rw[if_neg al] at q;by_cases ak:t.op=22
 ·have D:kTy t.op=zZ:=by rw[ak];rfl
  have:=a7 (by omega);subst this;obtain⟨k1,l0,l1,l2,l3⟩:=q5 ak;rw[D];simp only[jI xA xV (show zZ≠y2 by decide),jI xC qc (show zZ≠zV by decide),y70 qu,push_cast];rw[if_pos ak] at q;refine zD qL λb3 w3 a9 I ac N=>?_;refine stKind N jM0 λw4 O=>?_;have p:Ext w2 w4:=Ext.then I O λy hy=>by subst hy;omega
  refine zr λl J _=>?_;have d:=p.trans J;have B:=U.ext d;have a0:=Z.ext d;have H:=z.ext d;have A0:∀K:Value->World->Prop,zj P zC kv (.int .i64 0) l K=K (.pointer (some (eaddr kv 1 0))) l:=λK=>(T l d 0 (by omega) K).1;have B0:∀K:Value->World->Prop,zf P zc (.pointer (some (eaddr kv 1 0))) l K=K (vs.getD 0 undef) l:=λK=>(T l d 0 (by omega) K).2;have R:Ints (Off X F) l (vs.getD 0 undef) (rs.getD 0 []):=(S 0 (by omega)).ext d;have S0:=o.sml (i:=0) (by omega);simp(disch:=first|(simp only[push_cast])|omega) only[a0.ld0,B.ld0,B.ld1,B.ld2,A0,B0,R.iaddr,R.load,push_cast,zJ,true_and];rw[show t.b=((t.b.toNat:Nat):Int) by omega,show t.a+1=((t.a.toNat+1:Nat):Int) by omega];refine Ints.cutLH R xU (by omega) (by omega) λcv bu=>⟨rfl,?_⟩;refine Clone_signal bu (by rw[gi,G1];omega) λw6 r6 V E c6=>?_;refine q l d w6 F (some gs) r6 _ (H.ext V) (Mv.refl.ext V) (NewI.of (w:=l) E c6 H.lt).ints (λx hx=>S0 x (pD (gZ hx))) ?_;rw[show t.a.toNat+1-t.b.toNat=(t.a-t.b+1).toNat by omega];exact M.Bd.Out.ret _ _
 rw[if_neg ak] at q;by_cases c2:t.op<=2
 ·have D:kTy t.op=zY:=by unfold kTy;rw[if_pos c2]
  have:=a7 (by omega);subst this;obtain⟨k1,l0,l1⟩:=q1 (by omega) c2;rw[D];simp only[jI xA xV (show zY≠y2 by decide),jI xC qc (show zY≠zV by decide),jI qu qL (show zY≠zZ by decide),jI je jB (show zY≠y9 by decide),y70 jG,push_cast];rw[if_pos c2] at q;refine zD kZ λb3 w3 a9 I ac N=>?_;refine stKind N Zm0 λw4 O=>?_;have p:Ext w2 w4:=Ext.then I O λy hy=>by subst hy;omega
  refine zr λl J _=>?_;have d:=p.trans J;have B:=U.ext d;have a0:=Z.ext d;have H:=z.ext d;have A0:∀K:Value->World->Prop,zj P zC kv (.int .i64 0) l K=K (.pointer (some (eaddr kv 1 0))) l:=λK=>(T l d 0 (by omega) K).1;have B0:∀K:Value->World->Prop,zf P zc (.pointer (some (eaddr kv 1 0))) l K=K (vs.getD 0 undef) l:=λK=>(T l d 0 (by omega) K).2;have R:Ints (Off X F) l (vs.getD 0 undef) (rs.getD 0 []):=(S 0 (by omega)).ext d;have S0:=o.sml (i:=0) (by omega);simp(disch:=first|(simp only[push_cast])|omega) only[a0.ld0,B.ld0,B.ld1,B.ld2,A0,B0,R.iaddr,R.load,push_cast,zJ,true_and];exact un_spec H (by omega) R (by omega) S0 λw6 F6 a8 r6 zs h6 a5 aj ad E=>q l d w6 F6 a8 r6 zs h6 a5 aj ad E
 rw[if_neg c2] at q;by_cases b4:15<=t.op
 ·have D:kTy t.op=zR:=by unfold kTy;rw[if_neg (by omega),if_neg (by omega),if_neg (by omega),if_pos (by omega)]
  have:=a7 (by omega);subst this;obtain⟨k1,l0,l1,l2⟩:=q4 b4 (by omega);rw[D];simp only[jI xA xV (show zR≠y2 by decide),jI xC qc (show zR≠zV by decide),jI qu qL (show zR≠zZ by decide),jI je jB (show zR≠y9 by decide),jI jG kZ (show zR≠zY by decide),jI kq XF (show zR≠y3 by decide),jI kp XE (show zR≠y8 by decide),y70 XU,push_cast];rw[if_pos (by omega)] at q;refine zD KZ λb3 w3 a9 I ac N=>?_;refine stKind N jN0 λw4 O=>?_;have p:Ext w2 w4:=Ext.then I O λy hy=>by subst hy;omega
  refine zr λl J _=>?_;have d:=p.trans J;have B:=U.ext d;have a0:=Z.ext d;have H:=z.ext d;have A0:∀K:Value->World->Prop,zj P zC kv (.int .i64 0) l K=K (.pointer (some (eaddr kv 1 0))) l:=λK=>(T l d 0 (by omega) K).1;have B0:∀K:Value->World->Prop,zf P zc (.pointer (some (eaddr kv 1 0))) l K=K (vs.getD 0 undef) l:=λK=>(T l d 0 (by omega) K).2;have R:Ints (Off X F) l (vs.getD 0 undef) (rs.getD 0 []):=(S 0 (by omega)).ext d;have S0:=o.sml (i:=0) (by omega);have A1:∀K:Value->World->Prop,zj P zC kv (.int .i64 1) l K=K (.pointer (some (eaddr kv 1 1))) l:=λK=>(T l d 1 (by omega) K).1;have B1:∀K:Value->World->Prop,zf P zc (.pointer (some (eaddr kv 1 1))) l K=K (vs.getD 1 undef) l:=λK=>(T l d 1 (by omega) K).2;have V1:Ints (Off X F) l (vs.getD 1 undef) (rs.getD 1 []):=(S 1 (by omega)).ext d;have S1:=o.sml (i:=1) (by omega);simp(disch:=first|(simp only[push_cast])|omega) only[a0.ld0,B.ld0,B.ld1,B.ld2,A0,B0,R.iaddr,R.load,A1,B1,V1.iaddr,V1.load,push_cast,zJ,true_and];refine compare_spec H ⟨gs,rfl⟩ b4 (by omega) R V1 l0 l1 (by omega) S0 S1 λw6 F6 a8 x h6 a5 cb E=>?_;refine yK xt yN yW rfl rfl λb9 w9 bt ai ce au=>?_;have a6:OwnI P zc w9 (.slice (some ⟨b9,0,none⟩) 1 1) [x]:=Blk.own1 (P:=P) (t:=zc) (cs:=[Value.int .i64 x]) (by rw[qa];exact au) (Gg _) rfl rfl (by omega);exact q l d w9 F6 a8 _ [x] (h6.ext ai) (a5.ext ai) (NewI.of (w:=w6) a6 (λb hb=>by have e:b9=b:=gh hb;omega) h6.lt).ints (SmL.one cb) (M.Bd.Out.map _ E)
 rw[if_neg (by omega)] at q;have bc:kTy t.op=y3\/kTy t.op=y8:=by
  unfold kTy;rw[if_neg c2];by_cases c:t.op<=13
  ·rw[if_pos c];exact .inl rfl
  ·rw[if_neg c,if_pos (by omega)];exact .inr rfl
 have:=a7 (by omega);subst this;have c3:t.ks.length=2/\(t.op≠14->(rs.getD 0 []).length=(rs.getD 1 []).length)/\(t.op=14->(rs.getD 0 []).length+(rs.getD 1 []).length<=4)/\1<=(rs.getD 0 []).length/\(rs.getD 0 []).length<=4:=by
  by_cases c:t.op=14
  ·obtain⟨a1,a2,a3,a4⟩:=q3 c;exact⟨a1,λh=>absurd c h,λ_=>a4,a2,by omega⟩
  ·obtain⟨a1,a2,a3,a4⟩:=q2 (by omega) (by omega);exact⟨a1,λ_=>a2,λh=>absurd h c,a3,a4⟩
 obtain⟨k1,l0,l1,l2,l3⟩:=c3;have go:yb w2 λA=>zf P y1 (.pointer (some ⟨bl,0,none⟩)) A λt107 bg=>bg=A/\zf P ze (.pointer (some ⟨b1,0,none⟩)) A λt109 bh=>bh=A/\
   zj P zC kv (.int .i64 0) A λt111 bi=>bi=A/\zf P zc t111 A λt112 bj=>bj=A/\zj P zC kv (.int .i64 1) A λt114 bk=>bk=A/\
   zf P zc t114 A λt115 bm=>bm=A/\vcall P jN #[t107,t109,t112,t115] A K:=by
  refine zr λl J _=>?_;have d:=J;have B:=U.ext d;have a0:=Z.ext d;have H:=z.ext d;have A0:∀K:Value->World->Prop,zj P zC kv (.int .i64 0) l K=K (.pointer (some (eaddr kv 1 0))) l:=λK=>(T l d 0 (by omega) K).1;have B0:∀K:Value->World->Prop,zf P zc (.pointer (some (eaddr kv 1 0))) l K=K (vs.getD 0 undef) l:=λK=>(T l d 0 (by omega) K).2;have R:Ints (Off X F) l (vs.getD 0 undef) (rs.getD 0 []):=(S 0 (by omega)).ext d;have S0:=o.sml (i:=0) (by omega);have A1:∀K:Value->World->Prop,zj P zC kv (.int .i64 1) l K=K (.pointer (some (eaddr kv 1 1))) l:=λK=>(T l d 1 (by omega) K).1;have B1:∀K:Value->World->Prop,zf P zc (.pointer (some (eaddr kv 1 1))) l K=K (vs.getD 1 undef) l:=λK=>(T l d 1 (by omega) K).2;have V1:Ints (Off X F) l (vs.getD 1 undef) (rs.getD 1 []):=(S 1 (by omega)).ext d;have S1:=o.sml (i:=1) (by omega);simp(disch:=first|(simp only[push_cast])|omega) only[a0.ld0,B.ld0,A0,B0,A1,B1,push_cast,true_and];exact bin_spec H ⟨gs,rfl⟩ (by omega) (by omega) R V1 l0 l1 l2 (by omega) S0 S1 λw6 F6 a8 r6 zs h6 a5 aj ad E=>q l d w6 F6 a8 r6 zs h6 a5 aj ad E
 rcases bc with D|D
 ·rw[D];simp only[jI xA xV (show y3≠y2 by decide),jI xC qc (show y3≠zV by decide),jI qu qL (show y3≠zZ by decide),jI je jB (show y3≠y9 by decide),jI jG kZ (show y3≠zY by decide),jI kp XE (show y3≠y8 by decide),y70 kq,push_cast];exact go
 ·rw[D];simp only[jI xA xV (show y8≠y2 by decide),jI xC qc (show y8≠zV by decide),jI qu qL (show y8≠zZ by decide),jI je jB (show y8≠y9 by decide),jI jG kZ (show y8≠zY by decide),jI kq XF (show y8≠y3 by decide),y70 kp,push_cast];exact go
end
end
section
variable {w:World} {K:Value->World->Prop} {F F' Q X:Nat->Prop} {n bl bc mb bb kb m:Nat} {gs:M.Gs} {v dv:Value} {ar ab:Addr} {st:Option M.Gs} {ds:List M.Dcl}
def TOut {α:Type} (n:Nat) (p:M.Bd α) (st st':Option M.Gs) (a:α):Prop:=
 (∃gs gs',st=some gs/\st'=some gs'/\p.run n gs=some (gs',a))\/(st'=none/\∀gs,st=some gs->p.run n gs=none)
theorem Out.pre' {α:Type} {p:M.Bd α} {st st':Option M.Gs} {a:α} (h:M.Bd.Out n p st st' a):∀gs',st'=some gs'->∃gs,st=some gs/\gs<+:gs':=λgs' e=>by
 cases st with
 |none=>rw[h.1] at e;cases e
 |some gs=>
  rcases h with⟨g2,c,b⟩|⟨_,b,_⟩
  ·rw[b] at e;cases e;exact⟨gs,rfl,M.Bd.run_pre c⟩
  ·rw[b] at e;cases e
theorem Z70 (ps:List (M.Bd (List Int))) (p:M.Bd (List Int)):∀(gs:M.Gs),(M.seqB (ps++[p])).run n gs=((M.seqB ps).run n gs).bind λr=>(p.run n r.1).map λq=>(q.1,r.2++[q.2]):=by
 induction ps with
 |nil=>
  intro gs;show((p.bind λr=>(M.Bd.ret []:M.Bd (List (List Int))).map (r:: ·))).run n gs=_;rw[M.Bd.run_bind];show _=(p.run n gs).map _;cases p.run n gs<;>rfl
 |cons q ps c=>
  intro gs;show(q.bind λr=>(M.seqB (ps++[p])).map (r:: ·)).run n gs=((q.bind λr=>(M.seqB ps).map (r:: ·)).run n gs).bind _;rw[M.Bd.run_bind,M.Bd.run_bind];cases q.run n gs with
  |none=>rfl
  |some a=>
   show((M.seqB (ps++[p])).bind λx=>M.Bd.ret (a.2::x)).run n a.1=(((M.seqB ps).bind λx=>M.Bd.ret (a.2::x)).run n a.1).bind _;rw[M.Bd.run_bind,M.Bd.run_bind,c];cases (M.seqB ps).run n a.1 with
   |none=>rfl
   |some b=>
    show((p.run n b.1).map _).bind _=(p.run n b.1).map _;cases p.run n b.1<;>rfl
theorem TOut.snoc {ps:List (M.Bd (List Int))} {p:M.Bd (List Int)} {st a st2:Option M.Gs} {rs:List (List Int)} {r:List Int} (h:TOut n (M.seqB ps) st a rs) (d:TOut n p a st2 r):TOut n (M.seqB (ps++[p])) st st2 (rs++[r]):=by
 rcases h with⟨g0,g1,b,a2,a3⟩|⟨b,a2⟩
 ·rcases d with⟨c,g2,b1,b2,b3⟩|⟨b1,b2⟩
  ·rw[a2] at b1;cases b1;exact .inl ⟨g0,g2,b,b2,by rw[Z70,a3];show(p.run n g1).map _=_;rw[b3];rfl⟩
  ·refine .inr ⟨b1,λgs e=>?_⟩;rw[b] at e;cases e;rw[Z70,a3];show(p.run n g1).map _=_;rw[b2 g1 a2];rfl
 ·rcases d with⟨c,g2,b1,b2,b3⟩|⟨b1,b2⟩
  ·rw[b] at b1;cases b1
  ·exact .inr ⟨b1,λgs e=>by rw[Z70,a2 gs e];rfl⟩
theorem TOut.root {t:M.Tm} {st a st2:Option M.Gs} {rs:List (List Int)} {zs:List Int} (h:TOut n (M.seqB (t.ks.map (M.termB ds))) st a rs):(∀b,a=some b->M.Bd.Out n (M.nodeB ds t rs) (some b) st2 zs)->(a=none->st2=none)->TOut n (M.termB ds t) st st2 zs:=λd f=>by
 rcases h with⟨g0,g1,c,a2,a3⟩|⟨c,a2⟩
 ·rcases d g1 a2 with⟨g2,b1,b2⟩|⟨b1,b2,_⟩
  ·exact .inl ⟨g0,g2,c,b2,by rw[M.termB_eq,M.Bd.run_bind,a3];exact b1⟩
  ·refine .inr ⟨b2,λgs e=>?_⟩;rw[c] at e;cases e;rw[M.termB_eq,M.Bd.run_bind,a3];exact b1
 ·exact .inr ⟨f c,λgs e=>by rw[M.termB_eq,M.Bd.run_bind,a2 gs e];rfl⟩
def P1 (m:Nat) (F:Nat->Prop) (b:Nat):Prop:=F b\/b=m
theorem Mv.p1 {w':World} (h:Mv F w F' w'):Mv (P1 m F) w (P1 m F') w':=
 ⟨h.same.mono λ_ _ h=> .inl h,λb a=>a.elim (λa=>(h.new b a).imp .inl id) λa=> .inl (.inr a)⟩
theorem Sl.mvX {k:Nat} {v:Value} {xs:List (List Value)} {w':World} (h:Sl (Off X F) w k v xs) (d:X m) (hm:Mv (P1 m F) w (P1 m F') w'):Sl (Off X F') w' k v xs:=by
 have f:Sl (λb=>Off X F b/\b<w.heap.size) w k v xs:=h.weaken λb a j=>⟨a,j⟩;have g:=f.same hm.same λb a _ c=>c.elim a.1.1 λe=>a.1.2 (e▸d);exact g.weaken λb a _=>⟨λi=>hm.off (λc=>c.elim a.1.1 λe=>a.1.2 (e▸d)) a.2 (.inl i),a.1.2⟩
def MetR (n:Nat) (ds:List M.Dcl) (m:Nat) (X F:Nat->Prop) (w:World) (st:Option M.Gs):Prop:=
 ∃f,MapF .string w m f/\∀p,p∈f->∃(u:M.Tm) (s:ByteArray) (v:Value) (zs:List Int),p=(.string s,v)/\s.data.toList=M.textL u/\M.sortM ds u≠ -1/\Ints (Off X F) w v zs/\SmL zs/\∀gs,st=some gs->(M.termB ds u).run n gs=some (gs,zs)
structure BlR (n bl bb kb m:Nat) (ar ab:Addr) (ds:List M.Dcl) (dv:Value) (X F:Nat->Prop) (w:World) (st:Option M.Gs):Prop where
 bd:BdR n bb ar ab X F w st
 blk:Blk w bl [.pointer (some ⟨bb,0,none⟩),dv,.map (some kb),.map (some m)] zX
 off: ¬F bl/\¬F m/\¬F kb/\bl≠m/\kb≠m
 ext:X m
 dcl:DclsR (Off X F) w dv ds
 kin:KindsR w kb
 met:MetR n ds m X F w st
theorem KindsR.same {w':World} {S:Nat->Prop} (h:KindsR w kb) (hs:Same S w w') (c: ¬S kb):KindsR w' kb:=by
 obtain⟨f,a,b⟩:=h;exact⟨f,a.same hs c,b⟩
theorem KindsR.lt (h:KindsR w kb):kb<w.heap.size:=by obtain⟨f,a,b⟩:=h;exact a.lt
theorem MetR.lt (h:MetR n ds m X F w st):m<w.heap.size:=by obtain⟨f,a,b⟩:=h;exact a.lt
theorem BlR.step {w':World} {st':Option M.Gs} (h:BlR n bl bb kb m ar ab ds dv X F w st) (o:BdR n bb ar ab X F' w' st') (hm:Mv F w F' w') (r:∀gs',st'=some gs'->∃gs,st=some gs/\gs<+:gs'):BlR n bl bb kb m ar ab ds dv X F' w' st':=by
 obtain⟨c,d,g,t,x⟩:=h.off;refine⟨o,h.blk.same hm.same c,⟨hm.off c h.blk.lt,hm.off d h.met.lt,hm.off g h.kin.lt,t,x⟩,h.ext,Sl.mvX h.dcl h.ext hm.p1,h.kin.same hm.same g,?_⟩;obtain⟨f,q,a⟩:=h.met;refine⟨f,q.same hm.same d,λp b=>?_⟩;obtain⟨u,s,v,zs,i,a2,a3,a4,a5,j⟩:=a p b;refine⟨u,s,v,zs,i,a2,a3,Sl.mvX a4 h.ext hm.p1,a5,λgs' e=>?_⟩;obtain⟨gs,k,l⟩:=r gs' e;exact M.Bd.run_again (j gs k) l
theorem BlR.grow {w':World} (h:BlR n bl bb kb m ar ab ds dv X F w st) (he:Ext w w'):BlR n bl bb kb m ar ab ds dv X F w' st:=h.step (h.bd.ext he) (Mv.refl.ext he) λgs e=>⟨gs,e,GR _⟩
theorem BlR.swap {w0 w':World} {t r S Y:Nat->Prop} {o:Option M.Gs} (h:BlR n bl bb kb m ar ab ds dv X F w st) (e:BlR n bl bb kb m ar ab ds dv t r w0 o) (hw:Same S w w') (i:∀b,S b->X b/\w0.heap.size<=b/\¬F b)
  (q:∀b,Y b->b<w'.heap.size/\(b<w.heap.size->X b)) (hm:Y m):BlR n bl bb kb m ar ab ds dv Y F w' st:=by
 have key:∀b,b<w0.heap.size->¬S b:=λb a hs=>by have:=(i b hs).2.1;omega
 have a:=h.bd.upd e.bd.err hw λb a=>(i b a).2;have d:∀b,Off X F b->b<w.heap.size->¬S b:=λb a _ hs=>a.2 (i b hs).1;have cut:∀b,(Off X F b/\b<w.heap.size)->Off Y F b:=λb a=>⟨a.1.1,λA=>a.1.2 ((q b A).2 a.2)⟩;refine⟨⟨a.err,a.blk,a.foot,λb j=>j.elim (λh=>a.lt b (.inl h)) λh=>(q b h).1⟩,h.blk.same hw (key _ e.blk.lt),h.off,hm,?_,h.kin.same hw (key _ e.kin.lt),?_⟩
 ·have g:DclsR (λb=>Off X F b/\b<w.heap.size) w dv ds:=Sl.weaken h.dcl λb a c=>⟨a,c⟩;exact Sl.weaken (Sl.same g hw λb a c=>d b a.1 c) λb a _=>cut b a
 ·obtain⟨f,z,k⟩:=h.met;refine⟨f,z.same hw (key _ e.met.lt),λp l=>?_⟩;obtain⟨u,s,v,zs,x,a2,a3,a4,a5,y⟩:=k p l;have g:Ints (λb=>Off X F b/\b<w.heap.size) w v zs:=Ints.weaken a4 λb a c=>⟨a,c⟩;exact⟨u,s,v,zs,x,a2,a3,Ints.weaken (Ints.same g hw λb a c=>d b a.1 c) λb a _=>cut b a,a5,y⟩
theorem Ints.swap {w':World} {S Y:Nat->Prop} {r:Value} {zs:List Int} (h:Ints (Off X F) w r zs) (hw:Same S w w') (d:∀b,S b->X b) (e:∀b,Y b->b<w.heap.size->X b):Ints (Off Y F) w' r zs:=by
 have c:Ints (λb=>Off X F b/\b<w.heap.size) w r zs:=Ints.weaken h λb a f=>⟨a,f⟩;exact Ints.weaken (Ints.same c hw λb a _ hs=>a.1.2 (d b hs)) λb a _=>⟨a.1.1,λg=>a.1.2 (e b g a.2)⟩
theorem zw0:Ve0 P yn .string zc:=⟨_,X4,by kernel_rfl⟩
theorem BlR.put {s:ByteArray} {t:M.Tm} {r:Value} {zs:List Int} (h:BlR n bl bb kb m ar ab ds dv X F w st) (hs:s.data.toList=M.textL t) (T:M.sortM ds t≠ -1) (R:Ints (Off X F) w r zs) (z:SmL zs)
  (l:∀gs,st=some gs->(M.termB ds t).run n gs=some (gs,zs)) (N:∀w',BlR n bl bb kb m ar ab ds dv X F w' st->Same (· =m) w w'->K undef w'):Ya P yn (.map (some m)) (.string s) r w K:=by
 obtain⟨o1,D,o3,V,W⟩:=h.off;obtain⟨f,C,S⟩:=h.met;refine J30 zw0 C (zB0 s) λw' H q o hw U=>N w' ?_ hw;obtain⟨es,cl,x,_⟩:=C;have i:∀(a:Addr),(∃v,w.cell? a=some v)->a.block≠m:=λa ⟨v,O⟩ e=>by
  simp[World.cell?,e,x] at O
 have d:∀{g:Nat} {a:Addr},Sent w g a->g≠m:=λy=>i _ ⟨_,y.cell⟩;have he:=h.bd.err;have Y:=d he.room;have Z:=d he.bits;have c:∀b,Off X F b->b<w.heap.size->¬(b=m):=λb k _ e=>k.2 (e▸h.ext);obtain⟨bc,J,L⟩:=h.bd.blk;refine⟨⟨⟨he.room.same hw Y,he.bits.same hw Z,he.off⟩,⟨bc,J.same hw λe=>D (e▸h.bd.foot),λgs e=>?_⟩,h.bd.foot,λb k=>by rw[U];exact h.bd.lt b k⟩,h.blk.same hw V,h.off,h.ext,Sl.same h.dcl hw c,h.kin.same hw W,H,q,λp j=>?_⟩
 ·obtain⟨v,mb,Q,I,B⟩:=L gs e;exact⟨v,mb,Q.same hw λb k e=>D (e▸B b k),I,B⟩
 ·rcases o p j with rfl|j
  ·exact⟨t,s,r,zs,rfl,hs,T,Ints.same R hw c,z,l⟩
  ·obtain⟨u,s',v,A,E,a2,a3,a4,a5,G⟩:=S p j;exact⟨u,s',v,A,E,a2,a3,Ints.same a4 hw c,a5,G⟩
structure KidsB (n bl bb kb m:Nat) (ar ab:Addr) (ds:List M.Dcl) (dv:Value) (t:M.Tm) (X F:Nat->Prop) (w:World) (st:Option M.Gs) (i:Nat) (v:Value) (w':World):Prop where
 ex:∃(F1:Nat->Prop) (st1:Option M.Gs) (vs:List Value) (rs:List (List Int)),BlR n bl bb kb m ar ab ds dv (λb=>X b\/v.ownBlock=some b) F1 w' st1/\Mv (P1 m F) w (P1 m F1) w'/\OwnV P zC w' v vs/\(∀b,v.ownBlock=some b->w.heap.size<=b/\¬F1 b)/\
  vs.length=i/\rs.length=i/\(∀j,j<i->Ints (Off (λb=>X b\/v.ownBlock=some b) F1) w' (vs.getD j undef) (rs.getD j []))/\(∀r,r∈rs->SmL r)/\TOut n (M.seqB ((t.ks.take i).map (M.termB ds))) st st1 rs
theorem XX0 {α:Type} {l r:List α} {d:α} {i:Nat} (h:i<l.length):(l++r).getD i d=l.getD i d:=by
 rw[k6,gA h,<-k6]
theorem XY0 {α:Type} {l:List α} {x d:α} {i:Nat} (h:l.length=i):(l++[x]).getD i d=x:=by
 subst h;simp[k6]
theorem TOut.nil:TOut n (M.seqB []) st st []:=by
 cases st with
 |none=>exact .inr ⟨rfl,λgs e=>by cases e⟩
 |some gs=>exact .inl ⟨gs,gs,rfl,rfl,rfl⟩
theorem term_spec (hd:M.declOk ds=true):∀(t:M.Tm),M.sortM ds t≠ -1->M.sizeM t<=1000->∀{w:World} {K:Value->World->Prop} {X F:Nat->Prop} {st:Option M.Gs} {tv:Value},BlR n bl bb kb m ar ab ds dv X F w st->TermR (Off X F) w tv t->
  (∀w' F' st' r zs,BlR n bl bb kb m ar ab ds dv X F' w' st'->Mv (P1 m F) w (P1 m F') w'->Ints (Off X F') w' r zs->SmL zs->TOut n (M.termB ds t) st st' zs->K r w')->
  vcall P jw #[.pointer (some ⟨bl,0,none⟩),tv] w K:=by
 refine M.Tm.ind λt ih hs bs w K X F st tv d ht hK=>?_;obtain⟨kv,rfl,bo⟩:=ht;apply ze0;refine zx λb1 w1 c6 bm c9 b9=>?_;refine zr λw2 ao _=>?_;have e2:=bm.trans ao;have ad:=d.grow e2;have aj:=b9.ext ao;have Z:=bo.ext e2;simp(disch:=first|(simp only[push_cast])|omega) only[push_cast,ad.blk.ld2,aj.ldAgg (t:=za) zp,true_and];refine textOf_spec hd t hs bs ad.kin ⟨kv,rfl,Z⟩ λQ s R b2=>?_;have e3:=e2.trans R;have k:=ad.grow R;have ak:=aj.ext R;have a0:=Z.ext R;simp(disch:=first|(simp only[push_cast])|omega) only[push_cast,k.blk.ld3];obtain⟨f,O,bn⟩:=k.met;by_cases H:∃v,(Value.string s,v)∈f
 ·obtain⟨v,H⟩:=H;rw[zn0 zw0 O (zB0 s) H];simp only[push_cast,if_true];obtain⟨u,s',v',zs,e,a2,a3,a4,a5,a6⟩:=bn _ H;cases e;have:=M.text_inj hd hs a3 (b2.symm.trans a2);subst this;refine hK Q F st v zs k (Mv.refl.ext e3) a4 a5 ?_;cases st with
  |none=>exact .inr ⟨rfl,λgs e=>by cases e⟩
  |some gs=>exact .inl ⟨gs,gs,rfl,rfl,a6 gs rfl⟩
 rw[Yj0 zw0 Zz O (zB0 s) λv hv=>H ⟨v,hv⟩];simp(disch:=first|(simp only[push_cast])|omega) only[push_cast,if_true,ak.ld4,a0.len];have c8:t.ks.length<=3:=by
  obtain⟨c5,hp,ho⟩:=M.right_op hs;have h:M.arity t.op<=3:=by
   unfold M.arity;repeat' split
   all_goals omega
  omega
 have S:∀b,(X b\/(Value.slice none 0 0).ownBlock=some b)->b<Q.heap.size/\(b<Q.heap.size->X b):=λb d=>d.elim (λh=>⟨k.bd.lt b (.inr h),λ_=>h⟩) λh=>by cases h
 have al:=k.swap (Y:=λb=>X b\/(Value.slice none 0 0).ownBlock=some b) k (Same.refl (λ_=>False) Q) (λb d=>d.elim) S (.inl k.ext);have bf:TmsR (λb=>Off X F b/\b<Q.heap.size) Q kv t.ks:=a0.weaken λb d hl=>⟨d,hl⟩;refine vloop_up t.ks.length (λi u w'=> ∃v,u=[v,.int .i64 i]/\KidsB n bl bb kb m ar ab ds dv t X F Q st i v w') ⟨_,rfl,⟨F,st,[],[],al,Mv.refl,OwnV.nil,(λb d=>by cases d),rfl,rfl,λj W=>absurd W (by omega),(λr hr=>by cases hr),TOut.nil⟩⟩ ?_;rintro i _ g w4 C hi ⟨v,rfl,⟨F4,bw,vs,rs,l,A,af,E,b4,ay,hint,b0,L⟩⟩ hC;simp only[push_cast];have l4:=A.same.size;have I:TmsR (λb=>Off X F b/\b<Q.heap.size) w4 kv t.ks:=bf.same A.same λb d _ hp=>hp.elim d.1.1 λe=>d.1.2 (e▸k.ext);have bg:∀b,(Off X F b/\b<Q.heap.size)->Off (λb=>X b\/v.ownBlock=some b) F4 b:=λb d=>⟨λO=>A.off (λhp=>hp.elim d.1.1 λe=>d.1.2 (e▸k.ext)) d.2 (.inl O),λhx=>hx.elim d.1.2 λho=>by have:=(E b ho).1;omega⟩;refine zh (λa=>?_) (λa=>?_)
 ·have p:i<t.ks.length:=(by omega);simp(disch:=first|(simp only[push_cast])|omega) only[push_cast,I.iaddr];refine I.load zp p λx hx=>?_;obtain⟨cx,rfl,ae⟩:=hx.cells;refine zD zH λb7 w7 c7 ap ca ba=>?_;refine stTerm ba rfl (ae.ext ap) λw8 bu cb be=>?_;have D:Ext w4 w8:=Ext.then ap bu λy hy=>by subst hy;omega
  have v8:=ae.ext D;simp(disch:=(simp only[push_cast])) only[push_cast,be.ldAgg (t:=za) (by rw[yq ae];exact zp)];have B:t.ks.getD i default∈t.ks:=M.getD_mem p _;have br:M.sizeM (t.ks.getD i default)<=1000:=by
   have h1:=M.szT_succ p;have h2:=M.szT_mono (ks:=t.ks) (i:=i+1) (j:=t.ks.length) p (gr _);have h3:=M.szT_all t;omega
  have bk:=l.grow D;refine ih _ B ((M.sort_parts hs).2.1 _ B) br bk (v8.term.weaken λb d _=>bg b d) λw9 F9 bx r zs an J ag bv bt=>?_;refine yK V8 Yu Zz rfl (Sl.cells1 ag) λc1 ah bz o c0 ai=>?_;have cc:=D.size;have l9:=J.same.size;have b3:∀b,v.ownBlock=some b->¬P1 m F4 b:=λb d hp=>hp.elim (E b d).2 λe=>by have:=(E b d).1;have:=k.met.lt;omega
  have aw:OwnV P zC ah v vs:=((af.ext D).same J.same b3).ext o;refine aw.app1 qF0 ai (Sl.one ag) (by omega) (by omega) λv11 cd a9 z a7=>?_
  try simp(disch:=omega) only[push_cast,zJ]
  have a8:∀b,v.ownBlock=some b->¬F9 b:=λb d O=>J.off (b3 b d) (by have:=af.lt d;omega) (.inl O);have G:∀b,(X b\/v11.ownBlock=some b)->b<ah.heap.size->(X b\/v.ownBlock=some b):=λb d hl=>d.elim .inl λh=>(a7 b h).elim .inr λh2=>(by omega);have T:∀j,j<i->Ints (Off (λb=>X b\/v.ownBlock=some b) F9) ah (vs.getD j undef) (rs.getD j []):=λj W=>Ints.ext (Sl.mvX (Ints.ext (hint j W) D) (.inl d.ext) J) o;refine hC p _ _ ⟨v11,by simp,⟨F9,bx,vs++[r],rs++[zs],(an.grow o).swap k z (λb d=>⟨.inr d,(E b d).1,a8 b d⟩) (λb d=>⟨?_,G b d⟩) (.inl d.ext),(((A.ext D).trans J).ext o).to z λb d=> .inr (E b d).1,a9,λb d=>?_,by simp[b4],by simp[ay],λj W=>?_,λq hq=>?_,?_⟩⟩
  ·rcases d with h|h
   ·have:=l.bd.lt b (.inr (.inl h));have:=o.size;have:=z.size;omega
   ·exact a9.lt h
  ·rcases a7 b d with h|h
   ·exact⟨(E b h).1,a8 b h⟩
   ·have:=o.size;exact⟨by omega,λO=>by have:=an.bd.lt b (.inl O);omega⟩
  ·by_cases c:j<i
   ·rw[XX0 (by omega),XX0 (by omega)];exact Ints.swap (T j c) z (λb d=> .inr d) G
   ·have:j=i:=(by omega);subst this;rw[XY0 b4,XY0 ay];exact Ints.swap (Ints.ext ag o) z (λb d=> .inr d) G
  ·rcases gk.1 hq with h|h
   ·exact b0 q h
   ·rw[gn.1 h];exact bv
  ·rw[M.take_add p default,gx];exact L.snoc bt
 ·have p:i=t.ks.length:=(by omega);subst p;rw[gC] at L;obtain⟨bc,hB,c4⟩:=l.bd.blk;have back:∀{F5:Nat->Prop} {w5:World} {N:Option M.Gs},BlR n bl bb kb m ar ab ds dv (λb=>X b\/v.ownBlock=some b) F5 w5 N->BlR n bl bb kb m ar ab ds dv X F5 w5 N:=λh=>h.swap h (Same.refl (λ_=>False) _) (λb d=>d.elim) (λb d=>⟨h.bd.lt b (.inr (.inl d)),λ_=> .inl d⟩) k.ext;have m3:Mv (P1 m F) w (P1 m F) Q:=Mv.refl.ext e3;cases bw with
  |none=>
   simp only at hB;simp(disch:=first|(simp only[push_cast])|omega) only[push_cast,l.blk.ld0,hB.ld1,ZD0];have av:Ints (Off X F4) w4 (.slice none 0 0) []:=Ints.weaken (OwnI.nil (P:=P) (t:=zc)).ints λb d _=>(by cases d);exact hK w4 F4 none _ [] (back l) (m3.trans A) av SmL.nil (TOut.root (st2:=none) L (λb8 e=>by cases e) λ_=>rfl)
  |some c3=>
   simp only at hB;simp(disch:=first|(simp only[push_cast])|omega) only[push_cast,l.blk.ld0,hB.ld1,UH];have bh:=ak.same A.same λhp=>hp.elim (λO=>by have:=d.bd.lt _ (.inl O);omega) λe=>by have:=d.met.lt;omega
   simp(disch:=first|(simp only[push_cast])|omega) only[push_cast,bh.ldAgg (t:=za) zp];have U:(M.seqB (t.ks.map (M.termB ds))).Reach rs:=by
    rcases L with⟨c2,g1,a1,a2,a3⟩|⟨a1,_⟩
    ·exact M.Bd.reach_of_run a3
    ·cases a1
   obtain⟨az,bq⟩:=M.seq_reach U;refine root_spec l.bd hd hs l.blk l.dcl l.kin ⟨kv,rfl,I⟩ ⟨⟨vs,af.vals,by omega,λj W=>hint j (by omega)⟩,b0⟩ az (λj W=>?_) λw5 F5 N r zs bi aq bp b6 ax=>?_
   ·have B:t.ks.getD j default∈t.ks:=M.getD_mem W _;have:=M.term_len hd _ ((M.sort_parts hs).2.1 _ B) (bq j W);rw[this];rfl
   have am:=l.step bi aq (Out.pre' ax);have ac:TOut n (M.termB ds t) st N zs:=L.root (λb8 e=>by cases e;exact ax) λe=>(by cases e);have au:Mv (P1 m F) w (P1 m F5) w5:=(m3.trans A).trans aq.p1;have aa:Ints (Off X F5) w5 r zs:=Ints.weaken bp λb d _=>⟨d.1,λhx=>d.2 (.inl hx)⟩;have V:=back am;simp(disch:=first|(simp only[push_cast])|omega) only[push_cast,V.blk.ld3];refine V.put b2 hs aa b6 (λgs e=>?_) λw6 bj b5=>?_
   ·rcases ac with⟨g0,g1,a1,a2,a3⟩|⟨a1,_⟩
    ·rw[a2] at e;cases e;exact M.Bd.run_again a3 (GR _)
    ·rw[a1] at e;cases e
   ·refine hK w6 F5 N r zs bj (au.to b5 λb d=> .inl (.inr d)) ?_ b6 ac;exact Ints.same aa b5 λb d _ e=>d.2 (e▸k.ext)
end
end Go.Proofs.YtokflbdfnbppjaaGreatDoor
