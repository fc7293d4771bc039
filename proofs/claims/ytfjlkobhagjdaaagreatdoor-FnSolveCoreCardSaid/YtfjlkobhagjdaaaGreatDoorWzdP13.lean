import Derived.Test.YtfjlkobhagjdaaaGreatDoorWzdP12
/- A part of the proof. -/
set_option linter.all false
set_option maxRecDepth 9999
set_option maxHeartbeats 2000000
noncomputable section
namespace Go.Proofs.YtfjlkobhagjdaaaGreatDoor
open Go Go.Vc Go.Proofs
section
variable {w:World} {K:oK} {F F' D G:oA}
theorem l3Logic_spec {v:Value} {t:M.Tm} {ds:List M.Dcl} (ht:TermR G w v t) (hs:M.sortM ds t≠ -1) (ag:23<=t.op) (a8:t.ks≠[]) (f:Ys0 K w G (M.logicS t)):vcall Vs #[v] w K:=by
 have hlen:=M.len_of hs;have am:0<t.ks.length:=GF.2 a8;have ae:=M.arity_ops (o:=t.op) oM;have ad:t.op=25->t.ks.length=1:=λh=>by rw[h] at hlen;simp[M.arity] at hlen;omega
 have ac:t.op=23->t.ks.length=3:=λh=>by rw[h] at hlen;simp[M.arity] at hlen;omega
 refine ze {cuts:=[(36874,[]),(65552,[61])]} Tryz.func162 ?_;refine rt_enter (B:=λt3 t4 au=>_) ht λw1 b3 b4 kv rs=>?_;simp(disch:=exact oS) only[push_cast,rs.q.ld4,rs.k.iaddr];refine rs.k.load zc oM λx hx=>?_;obtain⟨c,rfl,hc⟩:=hx.cells;have gc:aggB za c.length=true:=by rw[zR hc];exact zc
 refine zi zp λb5 w2 ah a2 an h5=>?_;refine stTerm h5 rfl (hc.ext a2) λw3 aa ap H=>?_;have Y:Ext w1 w3:=Ext.then a2 aa λy T=>by subst T;omega
 have J:=yc rs Y;have Q:TmR (λx=>G x/\x<w.heap.size) w3 c (M.kid t 0):=hc.ext Y;simp only[push_cast,J.q.ld0];refine zb (λA=>?_) (λA=>?_)
 .obtain⟨ar,rfl,a5⟩:=Q.inv;simp only[push_cast,H.ld0];refine zb (λd=>?_) (λd=>?_)
  .have k0:=M.good_kid hs (i:=0) (by have:=ad A;omega);have aj:(M.kid t 0).ks.length=1:=by have:=M.len_of k0;rw[d] at this;simp[M.arity] at this;omega
   simp(disch:=exact oS) only[push_cast,H.ld4,a5.iaddr];refine a5.load zc oM λy T=>?_;have e:M.logicS t=M.kid (M.kid t 0) 0:=by unfold M.logicS;rw[K3 A,K3 d]
   rw[e] at f;exact rt_give J (qp T) f
  .have e:M.logicS t=t:=by unfold M.logicS;rw[K3 A,X0 d]
   rw[e] at f;rw[J.q.ldAgg (t:=za) zc];exact rt_give J (qp (xQ J)) f
 try simp only[push_cast]
 refine zb (λU=>?_) (λU=>?_)
 .have ak:=ac U;have E:M.logicS t=if M.isM (M.kid t 0) 1=true\/(M.kid t 1=M.kid t 2/\¬M.isM (M.kid t 0) 0=true) then M.kid t 1 else if M.isM (M.kid t 0) 0=true then M.kid t 2 else t:=by unfold M.logicS;rw[X0 A,K3 U]
  have F:∀{w'},RT G w w' b3 b4 kv t->(M.isM (M.kid t 0) 1=true\/(M.kid t 1=M.kid t 2/\¬M.isM (M.kid t 0) 0=true))->∀x,TermR (λx=>G x/\x<w.heap.size) w' x (M.kid t 1)->zI za (ptr b4) x w' λ_ w1=>vlv za (ptr b4) w1 λr w2=>K r w2:=λh hc x hx=>by
   rw[E,K3 hc] at f;exact rt_give h (qp hx) f
  refine zo (λu w'=>u=[]/\Ext w3 w'/\¬(M.isM (M.kid t 0) 1=true\/(M.kid t 1=M.kid t 2/\¬M.isM (M.kid t 0) 0=true))) (λC hC=>?_) ?_
  .refine zd λw4 b _=>?_;have r4:=yc J b;have A4:=H.ext b;have a0:=Q.ext b;simp only[push_cast,A4.ldAgg (t:=za) gc,Q1];refine qh a0.term λw5 p=>?_;have n:=yc r4 p;obtain⟨cks,I,al,S⟩:=n.k;refine zm (λi=>?_) (λi=>?_)
   .simp(disch:=exact oS) only[push_cast,n.q.ld4,I.iaddr,I.ldAgg];exact F n (.inl i) _ (S 1 oM).term
   .simp(disch:=exact oS) only[push_cast,n.q.ld4,I.iaddr,I.ldAgg,Q1];refine spec_TermSame_spec _ (S 1 oM).term (S 2 oM).term λw6 a=>?_;have r6:=yc n a;refine zb (λs=>?_) (λs=>?_)
    .have A6:=A4.ext (p.trans a);simp only[push_cast,A6.ldAgg (t:=za) gc,Q1];refine qh (a0.ext (p.trans a)).term λw7 m=>?_;have r7:=yc r6 m;have s7:=I.ext (a.trans m);simp only[push_cast,Q1];refine zm (λj=>?_) (λj=>?_)
     .rw[gX] at j;simp(disch:=exact oS) only[push_cast,r7.q.ld4,s7.iaddr,s7.ldAgg];exact F r7 (.inr ⟨s,by rw[j];decide⟩) _ ((S 1 oM).ext (a.trans m)).term
     .rw[Gc] at j;exact hC _ _ ⟨rfl,b.trans (p.trans (a.trans m)),λh=>h.elim (λh=>by rw[i] at h;cases h) λh=>h.2 j⟩
    .exact hC _ _ ⟨rfl,b.trans (p.trans a),λh=>h.elim (λh=>by rw[i] at h;cases h) λh=>s h.1⟩
  rintro u g w4 ⟨rfl,b,hn⟩;have r4:=yc J b;rw[(H.ext b).ldAgg (t:=za) gc];refine qh (Q.ext b).term λw5 p=>?_;have n:=yc r4 p;refine zm (λi=>?_) (λi=>?_)
  .simp(disch:=exact oS) only[push_cast,n.q.ld4,n.k.iaddr];refine n.k.load zc oM λy T=>?_;rw[E,X0 hn,K3 i] at f;exact rt_give n (qp T) f
  .rw[E,X0 hn,i,X0 dC] at f;rw[n.q.ldAgg (t:=za) zc];exact rt_give n (qp (xQ n)) f
 have o:t.op=26\/t.op=27:=by
  unfold M.arity at hlen
  repeat' split at hlen
  all_goals omega
 have l2:t.ks.length=2:=by rcases o with e|e<;>rw[e] at hlen<;>simp[M.arity] at hlen<;>omega
 simp(disch:=exact oS) only[push_cast,J.q.ld4,J.k.iaddr];refine J.k.load zc oM λy T=>?_;obtain⟨c',rfl,W⟩:=T.cells;have N:aggB za c'.length=true:=by rw[zR W];exact zc
 refine zi zp λb6 w4 ai b ao h6=>?_;refine stTerm h6 rfl (W.ext b) λw5 ab aq O=>?_;have L:Ext w3 w5:=Ext.then b ab λy T=>by subst T;omega
 have n:=yc J L;have A5:=H.ext L;have R:=Q.ext L;have z:TmR (λx=>G x/\x<w.heap.size) w5 c' (M.kid t 1):=W.ext L;simp only[push_cast,n.q.ld0];refine Xu ?_;generalize V:M.b2i (decide (t.op=26))=one;have af:one=0\/one=1:=by rw[<-V];unfold M.b2i;split<;>omega
 have E:M.logicS t=if M.isM (M.kid t 0) one=true\/M.kid t 0=M.kid t 1 then M.kid t 1 else if M.isM (M.kid t 1) one=true then M.kid t 0 else if M.isM (M.kid t 0) (1-one)=true\/M.isM (M.kid t 1) (1-one)=true then M.boolM (decide (one=0)) else t:=by
  unfold M.logicS;rw[X0 A,X0 U,V]
 refine zo (λu w'=> ∃e:Bool,u=[.bool e]/\Ext w5 w'/\(e=true↔M.isM (M.kid t 0) one=true\/M.kid t 0=M.kid t 1)) (λC hC=>?_) ?_
 .rw[A5.ldAgg (t:=za) gc];refine qh R.term λw6 a=>?_;refine zm (λi=>?_) (λi=>?_)
  .exact hC _ _ ⟨true,rfl,a,⟨λ_=> .inl i,λ_=>rfl⟩⟩
  .try simp only[push_cast]
   rw[(A5.ext a).ldAgg (t:=za) gc,(O.ext a).ldAgg (t:=za) N];refine spec_TermSame_spec _ (R.ext a).term (z.ext a).term λw7 m=>?_;refine hC _ _ ⟨_,rfl,a.trans m,?_⟩;rw[gg];exact⟨.inr,λh=>h.elim (λx=>by rw[i] at x;cases x) id⟩
 rintro u g w6 ⟨e,rfl,a,a4⟩;have r6:=yc n a;refine oZ ?_;refine zm (λi=>?_) (λi=>?_)
 .rw[(O.ext a).ldAgg (t:=za) N];rw[E,K3 (a4.1 i)] at f;exact rt_give r6 (qp (z.ext a).term) f
 have n1: ¬(M.isM (M.kid t 0) one=true\/M.kid t 0=M.kid t 1):=λh=>by have:=a4.2 h;rw[i] at this;cases this
 rw[(O.ext a).ldAgg (t:=za) N];refine qh (z.ext a).term λw7 m=>?_;have r7:=yc r6 m;have D:=a.trans m;refine zm (λj=>?_) (λj=>?_)
 .rw[(A5.ext D).ldAgg (t:=za) gc];rw[E,X0 n1,K3 j] at f;exact rt_give r7 (qp (R.ext D).term) f
 have n2: ¬M.isM (M.kid t 1) one=true:=by rw[j];decide
 have a7:IntKind.i64.wrap (1-one)=1-one:=zj oM oM;rw[(A5.ext D).ldAgg (t:=za) gc];simp only[push_cast,a7];refine qh (R.ext D).term λw8 a3=>?_;have r8:=yc r7 a3;refine zm (λk=>?_) (λk=>?_)
 .try simp only[push_cast]
  refine l3Bool_spec λw9 v9 X a9=>?_;rw[E,X0 n1,X0 n2,K3 (.inl k)] at f;exact rt_give (yc r8 X) (rt_new r8 a9) f
 have Z:=D.trans a3;rw[(O.ext Z).ldAgg (t:=za) N]
 try simp only[push_cast,a7]
 refine qh (z.ext Z).term λw9 X=>?_;have r9:=yc r8 X;refine zm (λl=>?_) (λl=>?_)
 .try simp only[push_cast]
  refine l3Bool_spec λw10 v10 a1 a6=>?_;rw[E,X0 n1,X0 n2,K3 (.inr l)] at f;exact rt_give (yc r9 a1) (rt_new r9 a6) f
 .rw[E,X0 n1,X0 n2,X0 (λh=>h.elim (λh=>by rw[k] at h;cases h) λh=>by rw[l] at h;cases h)] at f;rw[r9.q.ldAgg (t:=za) zc];exact rt_give r9 (qp (xQ r9)) f
theorem l3Two_spec {v:Value} {t:M.Tm} {s:Int} (ht:TermR G w v t) (h2:t.ks.length=2) (Y:Ys0 K w G (M.twoS t s)):vcall zZ0 #[v,nI s] w K:=by
 refine ze {cuts:=[(8197,[]),(36881,[]),(40974,[34]),(61455,[7])]} Tryz.func163 ?_;refine rt_enter (B:=λt3 t4 au=>_) ht λw1 b3 b4 kv rs=>?_;have l4:=rs.r.lt;have ao:=rs.lo;have low:∀{w':World} {cs:List Value} {u:M.Tm},Ext w1 w'->TmR (λx=>(G x/\x<w.heap.size)\/w'.heap.size<=x) w' cs u->True:=λ_ _=>trivial;clear low;refine zo (λu w'=>u=[]/\Ext w1 w'/\¬(M.kid t 0=M.kid t 1/\M.alikeS t s≠t)) (λC hC=>?_) ?_
 .refine zd λw2 a2 _=>?_;have r2:=yc rs a2;obtain⟨cks,m,a6,l⟩:=r2.k;simp(disch:=first|omega|simp only[push_cast]) only[push_cast,r2.q.ld4,m.iaddr,m.ldAgg,Q1];refine spec_TermSame_spec _ (l 0 oM).term (l 1 oM).term λw3 Q=>?_;have X:=yc r2 Q;refine zb (λa=>?_) (λa=>?_)
  .rw[X.q.ldAgg (t:=za) zc];refine l3Alike_spec (xQ X) h2 λw4 rv U n=>?_;have r4:=yc X U;obtain⟨c,rfl,hc⟩:=n.cells;have gc:aggB za c.length=true:=by rw[zR hc];exact zc
   have aq:=X.r.lt;refine zi zp λb5 w5 af R ah h5=>?_;have O:=(hc.weaken (F':=λx=>((G x/\x<w.heap.size)\/b4<x)/\x<w4.heap.size) λb h h'=>⟨h.imp id λh=>oM,h'⟩).ext R;refine stTerm h5 rfl O λw6 S ak h6=>?_;have T:Ext w4 w6:=Ext.then R S λy hy=>by subst hy;omega
   have r6:=yc r4 T;have N:TmR (Qb G w.heap.size b4) w6 c (M.alikeS t s):=(O.same S λx F _ e=>oM).weaken λx F _=>F.1;rw[h6.ldAgg (t:=za) gc,r6.q.ldAgg (t:=za) zc];refine spec_TermSame_spec _ N.term (xQ r6) λw7 p=>?_;have r7:=yc r6 p;refine oZ ?_;refine zm (λd=>?_) (λd=>?_)
   .rw[gX,decide_eq_false_iff_not] at d;rw[(h6.ext p).ldAgg (t:=za) gc];have E:M.twoS t s=M.alikeS t s:=by unfold M.twoS;rw[K3 ⟨a,d⟩]
    rw[E] at Y;exact rt_give r7 (N.ext p).term Y
   .rw[Gc,gg] at d;exact hC _ _ ⟨rfl,a2.trans (Q.trans (U.trans (T.trans p))),λh=>h.2 d⟩
  .exact hC _ _ ⟨rfl,a2.trans Q,λh=>a h.1⟩
 rintro u g w3 ⟨rfl,Q,n1⟩;have X:=yc rs Q;have l3:=X.r.lt;rw[X.q.ldAgg (t:=za) zc];refine l3Right_spec (xQ X) h2 λw4 rv U n=>?_;have r4:=yc X U;obtain⟨c,rfl,hc⟩:=n.cells;have gc:aggB za c.length=true:=by rw[zR hc];exact zc
 refine zi zp λb5 w5 af R ah h5=>?_;have O:=(hc.weaken (F':=λx=>((G x/\x<w.heap.size)\/b4<x)/\x<w4.heap.size) λb h h'=>⟨h.imp id λh=>oM,h'⟩).ext R;refine stTerm h5 rfl O λw6 S ak h6=>?_;have T:Ext w4 w6:=Ext.then R S λy hy=>by subst hy;omega
 have r6:=yc r4 T;have N:TmR (Qb G w.heap.size b4) w6 c (M.rightS t):=(O.same S λx F _ e=>oM).weaken λx F _=>F.1;rw[h6.ldAgg (t:=za) gc,r6.q.ldAgg (t:=za) zc];refine spec_TermSame_spec _ N.term (xQ r6) λw7 p=>?_;have r7:=yc r6 p;refine oZ ?_;refine zm (λd=>?_) (λd=>?_)
 .rw[gX,decide_eq_false_iff_not] at d;rw[(h6.ext p).ldAgg (t:=za) gc];have E:M.twoS t s=M.rightS t:=by unfold M.twoS;rw[X0 n1,K3 d]
  rw[E] at Y;exact rt_give r7 (N.ext p).term Y
 rw[Gc,gg] at d;have E:M.twoS t s=if(t.op=3\/t.op=4\/t.op=5\/t.op=6\/t.op=8)/\M.otherS t (M.rightS (M.swapS t)) then M.rightS (M.swapS t) else t:=by
  unfold M.twoS;rw[X0 n1,X0 (λh=>h d)]
 refine zo (λu w'=>u=[]/\Ext w7 w'/\¬((t.op=3\/t.op=4\/t.op=5\/t.op=6\/t.op=8)/\M.otherS t (M.rightS (M.swapS t)))) (λC hC=>?_) ?_
 .simp only[push_cast,r7.q.ld0];refine zo (λu w'=> ∃b:Bool,u=[.bool b]/\w'=w7/\(b=true↔t.op=3\/t.op=4\/t.op=5\/t.op=6\/t.op=8)) (λD hD=>?_) ?_
  .try simp only[push_cast]
   refine zb (λc=>hD _ _ ⟨_,rfl,rfl,⟨λ_=>oM,λ_=>by rw[gg];exact c⟩⟩) (λc1=>?_);refine zb (λc=>hD _ _ ⟨_,rfl,rfl,⟨λ_=>oM,λ_=>by rw[gg];exact c⟩⟩) (λc2=>?_);refine zb (λc=>hD _ _ ⟨_,rfl,rfl,⟨λ_=>oM,λ_=>by rw[gg];exact c⟩⟩) (λc3=>?_);refine zb (λc=>hD _ _ ⟨_,rfl,rfl,⟨λ_=>oM,λ_=>by rw[gg];exact c⟩⟩) (λc4=>?_);exact hD _ _ ⟨_,rfl,rfl,⟨λh=>by rw[gg] at h;omega,λh=>by rw[gg];omega⟩⟩
  rintro u2 g2 al ⟨b,rfl,rfl,hb⟩;refine oZ ?_;refine zm (λo=>?_) (λo=>hC _ _ ⟨rfl,Same.refl _ _,λh=>by have:=hb.2 h.1;rw[o] at this;cases this⟩);have o':=hb.1 o;have l7:=r7.r.lt;refine zo (λu w'=> ∃b c,u=[ptr b]/\Ext al w'/\Blk w' b c za/\TmR (Qb G w.heap.size b4) w' c (M.rightS (M.swapS t))) (λD hD=>?_) ?_
  .refine zd λw8 A _=>?_;have J:=yc r7 A;have l8:=J.r.lt;obtain⟨cks,m,a6,l⟩:=J.k;simp(disch:=first|omega|simp only[push_cast]) only[push_cast,J.q.ld0,J.q.ld4,m.iaddr,m.ldAgg,Q1];have ar:=A.size;have fin:∀{wa wb:World} {bb:Nat} {z:List Value} {rv:Value},Ext w8 wa->Blk wa bb z za->z.length=5->w8.heap.size<=bb->(∀y,y=bb->TermR (λx=>((G x/\x<w.heap.size)\/b4<x)/\x≠y) wa rv (M.rightS (M.swapS t)))->zI za (ptr bb) rv wa λ_ w'=>D [ptr bb] w':=λ{wa wb bb z rv} aj hB hz an hr=>by
    obtain⟨cr,rfl,a5⟩:=(hr bb rfl).cells;refine stTerm hB hz a5 λw' a7 ap h'=>?_;exact hD _ _ ⟨bb,cr,rfl,A.trans (Ext.then aj a7 λy hy=>by subst hy;omega),h',(a5.same a7 λx F _ e=>F.2 e).weaken λx F _=>F.1⟩
   refine⟨?_,?_,trivial⟩
   .refine kids2 (l 1 oM).term (l 0 oM).term λw9 a9 j ai k9=>?_;have r9:=yc J j;have W:TermR (λz=>(G z/\z<w.heap.size)\/z=w8.heap.size) w9 _ (M.swapS t):=(Kf (o:=t.op) k9:TermR _ w9 _ (kX0 t.op [t.ks.getD 1 default,t.ks.getD 0 default]));simp only[push_cast,r9.q.ld0,Q1,gn];refine⟨?_,?_,trivial⟩
    .refine l3Right_spec W rfl λw10 rv f n=>?_;refine⟨?_,trivial⟩;refine zi zp λa4 I Z i a0 L=>?_;refine⟨?_,trivial⟩;have a8:=j.size;have am:=f.size;refine fin (wb:=I) (j.trans (f.trans i)) L rfl oM λy hy=>((n.weaken (F':=λx=>(((G x/\x<w.heap.size)\/x=w8.heap.size)\/w9.heap.size<=x)/\x<w10.heap.size) λb h h'=>⟨h,h'⟩).ext i).weaken λx F _=>?_;rcases F.1 with(h|h)|h
     .exact⟨.inl h,oM⟩
     .exact⟨.inr oM,oM⟩
     .exact⟨.inr oM,oM⟩
    .refine zi zp λa4 I Z i a0 L=>?_;have H:=yc r9 i;simp only[push_cast,H.q.ld0,Q1,gn];refine⟨?_,trivial⟩;refine l3Right_spec (W.ext i) rfl λw10 rv f n=>?_;refine⟨?_,trivial⟩;have a8:=j.size;refine fin (wb:=I) (j.trans (i.trans f)) (L.ext f) rfl oM λy hy=>n.weaken λx F _=>?_;rcases F with(h|h)|h
     .exact⟨.inl h,oM⟩
     .exact⟨.inr oM,oM⟩
     .exact⟨.inr oM,oM⟩
   .refine zi zp λa4 I Z i a0 L=>?_;have H:=yc J i;have ad:=m.ext i;simp(disch:=first|omega|simp only[push_cast]) only[push_cast,H.q.ld0,H.q.ld4,ad.iaddr,ad.ldAgg,Q1,gn];refine⟨?_,trivial⟩;refine kids2 ((l 1 oM).ext i).term ((l 0 oM).ext i).term λw9 a9 j ai k9=>?_;have r9:=yc H j;have W:TermR (λz=>(G z/\z<w.heap.size)\/z=I.heap.size) w9 _ (M.swapS t):=(Kf (o:=t.op) k9:TermR _ w9 _ (kX0 t.op [t.ks.getD 1 default,t.ks.getD 0 default]));simp only[push_cast,r9.q.ld0,Q1,gn];refine⟨?_,trivial⟩;refine l3Right_spec W rfl λw10 rv f n=>?_;refine⟨?_,trivial⟩;have a8:=j.size;refine fin (wb:=I) (i.trans (j.trans f)) ((L.ext j).ext f) rfl oM λy hy=>n.weaken λx F _=>?_;rcases F with(h|h)|h
    .exact⟨.inl h,oM⟩
    .exact⟨.inr oM,oM⟩
    .exact⟨.inr oM,oM⟩
  rintro u3 g3 w8 ⟨b,cv,rfl,A,hB,a1⟩;have gv:aggB za cv.length=true:=by rw[zR a1];exact zc
  have J:=yc r7 A;generalize hV:M.rightS (M.swapS t)=V at*;have give:∀{w'},Ext w8 w'->M.otherS t V->zt za (ptr b) w' λr w2=>zI za (ptr b4) r w2 λ_ w3=>vlv za (ptr b4) w3 λr w4=>K r w4:=λ{w'} h ho=>by
   rw[(hB.ext h).ldAgg (t:=za) gv];rw[E,K3 ⟨o',ho⟩] at Y;exact rt_give (yc J h) (a1.ext h).term Y
  obtain⟨kvv,rfl,ag⟩:=a1.inv;refine oZ ?_;refine zd λw9 j _=>?_;have r9:=yc J j;have B9:=hB.ext j;have aa:=ag.ext j;simp only[push_cast,B9.ld4,aa.len,Q1];refine zb (λc1=>give j (.inl oM)) (λc1=>?_);have vl:V.ks.length=2:=oM;obtain⟨cks,m,a6,l⟩:=r9.k;obtain⟨vks,vsl,vln,vck⟩:=aa;simp(disch:=first|omega|simp only[push_cast]) only[push_cast,B9.ld4,r9.q.ld4,m.iaddr,m.ldAgg,vsl.iaddr,vsl.ldAgg,Q1];refine spec_TermSame_spec _ (vck 0 oM).term (l 1 oM).term λw10 f=>?_;have a3:=B9.ext f;have ab:=yc r9 f;have ac:=m.ext f;have t10:=vsl.ext f;simp only[push_cast,Q1];refine zm (λc2=>?_) (λc2=>?_)
  .rw[gX,decide_eq_false_iff_not] at c2;exact give (j.trans f) (.inr (.inl c2))
  rw[Gc,gg] at c2;simp(disch:=first|omega|simp only[push_cast]) only[push_cast,a3.ld4,ab.q.ld4,ac.iaddr,ac.ldAgg,t10.iaddr,t10.ldAgg,Q1];refine spec_TermSame_spec _ ((vck 1 oM).ext f).term ((l 0 oM).ext f).term λI i=>?_;have ae:=a3.ext i;have H:=yc ab i;simp only[push_cast,Q1];refine zm (λc3=>?_) (λc3=>?_)
  .rw[gX,decide_eq_false_iff_not] at c3;exact give (j.trans (f.trans i)) (.inr (.inr (.inl c3)))
  rw[Gc,gg] at c3;simp(disch:=first|omega|simp only[push_cast]) only[push_cast,ae.ld0,H.q.ld0,Q1];refine zb (λc4=>give (j.trans (f.trans i)) (.inr (.inr (.inr c4)))) (λc4=>?_);refine hC _ _ ⟨rfl,A.trans (j.trans (f.trans i)),λh=>?_⟩;rcases h.2 with h|h|h|h
  .exact h vl
  .exact h c2
  .exact h c3
  .exact c4 h
 rintro u4 g4 w8 ⟨rfl,A,n3⟩;have J:=yc r7 A;rw[E,X0 n3] at Y;rw[J.q.ldAgg (t:=za) zc];exact rt_give J (qp (xQ J)) Y
theorem l3One_spec {dv v:Value} {t:M.Tm} {ds:List M.Dcl} (I:DclsR F w dv ds) (l:M.declOk ds=true) (ht:TermR G w v t) (hs:M.sortM ds t≠ -1) (e:Ys0 K w G (M.oneT ds t)):vcall y00 #[dv,v] w K:=by
 rw[<-M.oneS_eq l hs] at e;have hlen:=M.len_of hs;refine ze {} Tryz.func131 ?_;refine rt_enter (B:=λt3 t4 a6=>_) ht λw1 b3 b4 kv rs=>?_;rw[rs.q.ldAgg (t:=za) zc];refine l2Sort_spec t (I.ext rs.ext) l (xQ rs) λw2 Q=>?_;have X:=yc rs Q;rw[X.q.ldAgg (t:=za) zc];refine l3All_spec (xQ X) λw3 R=>?_;have d:=yc X R;refine zm (λa=>?_) (λa=>?_)
 .have S:nnB t=true:=by
   have g:=a;unfold M.allFixed at g;simp only[gp,gg,gV] at g;refine nnB_iff.2 ⟨λN=>?_,λk hk=>?_⟩
   .rw[N] at hlen;have h0:t.ks.length=0:=by simp[M.arity] at hlen;omega
    exact g.1 (gQ h0)
   .obtain⟨n,hn⟩:=pj.1 (g.2 k hk);exact nn_fixed hn
  have E:M.oneS ds t=if M.sortM ds t=0 then M.boolM (decide (M.evalM ds (M.zeroE ds) t=1)) else .mk 20 (M.sortM ds t) (M.evalM ds (M.zeroE ds) t) M.nada []:=by unfold M.oneS;rw[K3 a]
  rw[d.q.ldAgg (t:=za) zc];refine y6 x6 yG λb7 J a0 f a4 h7=>?_;have b:=yc d f;refine l2Eval_spec t (H:=F) (I.ext b.ext) (M.zeroE_ok l) (xQ b) (.inr S) hs λZ s=>?_;have p:=yc b s;refine oZ ?_;refine zb (λc=>?_) (λc=>?_)
  .refine l3Bool_spec λw6 v6 u T=>?_;rw[E,K3 c] at e;exact rt_give (yc p u) (rt_new p T) e
  .try simp only[push_cast]
   rw[E,X0 c] at e;exact rt_give p (Q5 20 _ _ _:TmR _ Z _ (.mk 20 (M.sortM ds t) (M.evalM ds (M.zeroE ds) t) M.nada [])).term e
 have na: ¬M.allFixed t=true:=by rw[a];decide
 simp only[push_cast,d.q.ld4,d.k.len];refine zb (λU=>?_) (λU=>?_)
 .rw[d.q.ldAgg (t:=za) zc];have E:M.oneS ds t=t:=by unfold M.oneS;rw[X0 na,K3 (nil_len.1 U)]
  rw[E] at e;exact rt_give d (qp (xQ d)) e
 have j: ¬t.ks=[]:=λh=>U (nil_len.2 h);have a3:0<t.ks.length:=GF.2 j;simp only[push_cast,d.q.ld0];refine zb (λW=>?_) (λW=>?_)
 .rw[d.q.ldAgg (t:=za) zc];have E:M.oneS ds t=M.logicS t:=by unfold M.oneS;rw[X0 na,X0 j,K3 oM]
  rw[E] at e;refine l3Logic_spec (xQ d) hs oM j λJ rv f z=>?_;have b:=yc d f;have l3:=d.r.lt;exact rt_give b (z.weaken λx A _=>A.imp id λh=>oM) e
 have n23: ¬23<=t.op:=oM
 try simp only[push_cast,d.q.ld0]
 refine zb (λm=>?_) (λm=>?_)
 .have hl:t.ks.length=1:=by rw[m] at hlen;simp[M.arity] at hlen;omega
  simp(disch:=first|omega|simp only[push_cast]) only[push_cast,d.q.ld4,d.k.iaddr];refine d.k.load zc oM λx A=>?_;refine l2Sort_spec _ (I.ext d.ext) l A λJ f=>?_;have b:=yc d f;have E:M.oneS ds t=if M.sortM ds t=M.sortM ds (M.kid t 0) then M.kid t 0 else t:=by unfold M.oneS;rw[X0 na,X0 j,X0 n23,K3 m]
  refine oZ ?_;refine zb (λc=>?_) (λc=>?_)
  .simp(disch:=first|omega|simp only[push_cast]) only[push_cast,b.q.ld4,b.k.iaddr];refine b.k.load zc oM λy hy=>?_;rw[E,K3 (show M.sortM ds t=M.sortM ds (M.kid t 0) from c)] at e;exact rt_give b (qp hy) e
  .rw[b.q.ldAgg (t:=za) zc];rw[E,X0 (show¬M.sortM ds t=M.sortM ds (M.kid t 0) from c)] at e;exact rt_give b (qp (xQ b)) e
 simp only[push_cast,d.q.ld4,d.k.len];have Y:=M.arity_ops (o:=t.op) oM;refine zb (λl1=>?_) (λl1=>?_)
 .have V:t.ks.length=1:=oM;have ho:=M.arity_one (o:=t.op) oM;have E:M.oneS ds t=if(M.kid t 0).op=t.op then M.kid (M.kid t 0) 0 else t:=by unfold M.oneS;rw[X0 na,X0 j,X0 n23,X0 m,K3 V]
  refine zd λJ f _=>?_;have b:=yc d f;simp(disch:=first|omega|simp only[push_cast]) only[push_cast,b.q.ld0,b.q.ld4,b.k.iaddr,Q1];rw[tms_op b.k oM];simp(disch:=first|omega|simp only[push_cast]) only[push_cast,b.q.ld0,b.q.ld4,b.k.iaddr,Q1];refine zb (λc=>?_) (λc=>?_)
  .have k0:=M.good_kid hs (i:=0) oM;have a1:(t.ks.getD 0 default).ks.length=1:=by
    have:=M.len_of k0;rw[show(M.kid t 0).op=t.op from c] at this;have L:t.op=1\/t.op=2:=oM;rcases L with o|o<;>rw[o] at this<;>simp[M.arity] at this<;>(unfold M.kid at this;omega)
   refine tms_kids b.k oM λa5 C=>?_;simp(disch:=first|omega|simp only[push_cast]) only[push_cast,C.iaddr];refine C.load zc oM λx A=>?_;rw[E,K3 (show(M.kid t 0).op=t.op from c)] at e;exact rt_give b (qp A) e
  .rw[b.q.ldAgg (t:=za) zc];rw[E,X0 (show¬(M.kid t 0).op=t.op from c)] at e;exact rt_give b (qp (xQ b)) e
 .have l2:t.ks.length=2:=by
   unfold M.arity at hlen
   repeat' split at hlen
   all_goals omega
  have E:M.oneS ds t=M.twoS t (M.sortM ds (M.kid t 0)):=by unfold M.oneS;rw[X0 na,X0 j,X0 n23,X0 m,X0 oM]
  rw[E] at e;refine zd λJ f _=>?_;have b:=yc d f;obtain⟨cks,D,a2,O⟩:=b.k;simp(disch:=first|omega|simp only[push_cast]) only[push_cast,b.q.ld4,b.q.ldAgg (t:=za) zc,D.iaddr,D.ldAgg,Q1];refine l2Sort_spec _ (I.ext b.ext) l (O 0 oM).term λZ s=>?_;have p:=yc b s;simp(disch:=first|omega|simp only[push_cast]) only[push_cast,p.q.ldAgg (t:=za) zc,Q1,gn];refine l3Two_spec (xQ p) l2 λw6 rv u z=>?_;have r6:=yc p u;have l5:=p.r.lt;exact rt_give r6 (z.weaken λx A _=>A.imp id λh=>oM) e
end
section
variable {w:World} {K:oK} {F F' D G:oA}
set_option maxRecDepth 20000 in
theorem l3Fold_spec:∀(t:M.Tm) {w:World} {K:oK} {F G:oA} {dv tv:Value} {ds:List M.Dcl},DclsR F w dv ds->M.declOk ds=true->TermR G w tv t->M.sortM ds t≠ -1->Ys0 K w G (M.foldT ds t)->vcall U1 #[dv,tv] w K:=by
 refine M.Tm.ind λt ih w K F G dv tv ds hd T ht hs hK=>?_;have hlen:=M.len_of hs;have ay:t.ks.length<=3:=by
  unfold M.arity at hlen
  repeat' split at hlen
  all_goals omega
 refine ze {loops:=[(3,[6])]} Tryz.func106 ?_;obtain⟨kv,rfl,ae⟩:=ht;refine zl λb1 w1 ap Y av h1=>?_;refine zi zp λb2 w2 aq Z aw h2=>?_;have az:=Y.size;have q2:=h1.ext Z;simp only[push_cast,q2.ld0,q2.ld1,q2.ld2,q2.ld3];refine zi zp λb3 w3 ar a0 ax h3=>?_;refine stTerm h3 rfl (Q5 t.op t.a t.b t.s:TmR (λ_=>False) w3 _ _) λB a7 b0 h4=>?_;have W:Ext w1 B:=Ext.then (Z.trans a0) a7 λy hy=>by subst hy;omega
 have N:=Y.trans W;have q4:=h1.ext W;have r4:=(h2.ext a0).same a7 oM;have ac:TmsR (λx=>G x/\x<w.heap.size) B kv t.ks:=(ae.weaken λb h X=>⟨h,X⟩).ext N;have an:=N.size;refine vloop_up t.ks.length (λi u w'=>u=[nI i]/\Same (λb=>b=b3) B w'/\∃k css,Blk w' b3 [nI t.op,nI t.a,nI t.b,.string t.s,k] za/\Own 0 5 zk w' k css/\css.length=i/\(∀b,k.ownBlock=some b->B.heap.size<=b)/\
   ∀j,j<i->TmR (λx=>(G x/\x<w.heap.size)\/(B.heap.size<=x/\k.ownBlock≠some x)) w' (css.getD j []) (M.foldT ds (t.ks.getD j default)))
  ⟨rfl,Same.refl _ _,_,[],h4,Own.nil _ _ _ _,rfl,λb h=>(by cases h),λj V=>absurd V oM⟩ ?_
 rintro i _ _ w5 C hi ⟨rfl,d,k,css,h5,v,S,g,E⟩ hC;have b4:=d.size;have O:Ext w w5:=Ext.then N d λy hy=>by subst hy;omega
 have a2:=ac.same d λb f _ e=>oM
 have q5:=q4.same d oM;simp only[push_cast,q5.ld4,a2.len];refine zb (λa=>?_) (λa=>?_)
 .refine zd λw8 o _=>?_;have q8:=q5.ext o;have p8:=h5.ext o;obtain⟨cks,a6,au,hc⟩:=a2.ext o;simp(disch:=exact oS) only[push_cast,q8.ld4,p8.ld4,a6.iaddr,a6.ldAgg,Q1];have I:t.ks.getD i default∈t.ks:=M.getD_mem oM _;have b6:=o.size;refine ih _ I (hd.ext (O.trans o)) T (hc i oM).term ((M.sort_parts hs).2.1 _ I) λw9 rv Q z=>?_;obtain⟨cr,rfl,n⟩:=z.cells;have p9:=p8.ext Q;simp only[push_cast,p9.ld4,Q1,gn];have b7:=Q.size;refine qD yW xq zp rfl (zR n) dC λao w10 ai l aj a9=>?_;have a8:=p9.ext l;simp only[push_cast,a8.ld4,Q1,gn];have D:=o.trans (Q.trans l);have a5:=v.ext D;refine Own.app1k a5 qg dC a9 (zR n) (tmR_one n) oM oM λp b8 J m q=>?_;have ah:=a8.same m (λe=>by have:=g _ e;have:=h5.lt;omega);have al:=m.size
  try simp only[push_cast,Q1]
  have a3:p.cells= #[p]/\p.oneCell'=true:=by
   obtain⟨a,c,rfl,_⟩:=J.sl.shape;exact⟨rfl,rfl⟩
  refine ah.st (i:=4) a3.1 a3.2 xY rfl λA r am L=>?_;replace L:Blk A b3 [nI t.op,nI t.a,nI t.b,.string t.s,p] za:=L;rw[inc64' oM];have ak:=l.size;have H:∀b,p.ownBlock=some b->B.heap.size<=b:=λb f=>by
   rcases q b f with h|h
   .exact g b h
   .omega
  have U:Same (λb=>b=b3\/k.ownBlock=some b) w5 A:=(Same.of_ext D).trans ((m.mono λ_ _ h=> .inr h).trans (r.mono λ_ _ h=> .inl h));have aa:Same (λb=>b=b3) B A:=⟨U.os.trans d.os,U.tape.trans d.tape,U.output.trans d.output,gO d.size U.size,λb f a4=>(U.block b oM (λe=>e.elim a4 λe=>by have:=g b e;omega)).trans (d.block b f a4)⟩;refine hC oM _ _ ⟨rfl,aa,p,css++[cr],L,J.same r (λb f e=>by have:=H b f;omega),by simp[S],H,λj V=>?_⟩;by_cases ej:j<i
  .rw[q0,gN oM,<-q0];refine((E j ej).weaken (F':=λx=>((G x/\x<w.heap.size)\/(B.heap.size<=x/\k.ownBlock≠some x))/\x<w5.heap.size) λb h X=>⟨h,X⟩).same U (λb f _ e=>?_)|>.weaken λb f _=>?_
   .rcases f.1 with h|h
    .rcases e with e|e
     .omega
     .have:=g b e;omega
    .rcases e with e|e
     .omega
     .exact h.2 e
   .rcases f.1 with h|h
    .exact .inl h
    .refine .inr ⟨h.1,λe=>?_⟩;rcases q b e with e|e
     .exact h.2 e
     .omega
  .have:j=i:=oM;subst this;rw[q0,gP oM,S,GK];show TmR _ A cr _;refine(((n.weaken (F':=λx=>((G x/\x<w.heap.size)\/w8.heap.size<=x)/\x<w9.heap.size) λb h X=>⟨h,X⟩).ext l).same m (λb f _ e=>?_)).same r (λb f _ e=>?_)|>.weaken λb f _=>?_
   .have:=g b e;have:=(v.lt e).2;rcases f.1 with h|h<;>omega
   .rcases f.1 with h|h<;>omega
   .rcases f.1 with h|h
    .exact .inl h
    .refine .inr ⟨oM,λe=>?_⟩;rcases q b e with e|e
     .have:=(v.lt e).2;omega
     .omega
 .have ab:i=t.ks.length:=oM;subst ab;rw[h5.ldAgg (t:=za) zc];have ad:TmsR (λx=>(G x/\x<w.heap.size)\/B.heap.size<=x) w5 k (t.ks.map (M.foldT ds)):=by
   refine⟨css,v.sl.weaken λb f _=> .inr (g b f),by rw[S,V0],λj V=>?_⟩;rw[V0] at V;rw[M.getD_map _ V _ default];exact(E j V).weaken λb f _=>f.imp id λh=>h.1
  have R:=M.kids_good T hs;refine l3One_spec (t:=M.remake t (t.ks.map (M.foldT ds))) (hd.ext O) T ⟨k,rfl,ad⟩ (by rw[R.sort];exact hs) λw6 rv a1 z=>?_;rw[<-M.foldT_rem] at z;obtain⟨cr,rfl,n⟩:=z.cells;have r6:=(r4.same d oM).ext a1;refine xG r6 rfl n (λx hx=>by rcases hx with(h|h)|h<;>omega) λw7 ag b5 af=>?_;exact hK _ _ (Ext.then (O.trans a1) ag λy hy=>by subst hy;omega) (af.weaken λx hx _=>by
   rcases hx with(h|h)|h
   .exact .inl h.1
   .exact .inr oM
   .exact .inr oM)
end
theorem zx0 {ds:List M.Dcl} {t:M.Tm} (a:M.declOk ds=true) (b:M.fits t=true):M.tsort ds t=M.sortM ds t:=by unfold M.tsort;rw[K3 ⟨b,a⟩]
theorem Zc0 {ds:List M.Dcl} {t:M.Tm} (a:M.declOk ds=true) (b:M.fits t=true) (hs:M.sortM ds t≠ -1):QV ds t=M.foldT ds t:=by
 unfold QV;rw[X0 (by rw[zx0 a b];exact hs)]
end Go.Proofs.YtfjlkobhagjdaaaGreatDoor
section
namespace Go.M
variable {ds:List Dcl} {env:oI}
def msbN:List Bool->Nat
 |b::bs=>(if b then 2^bs.length else 0)+msbN bs
 |[]=>0
theorem kH (b:Bool) (bs:List Bool):msbN (b::bs)=(if b then 2^bs.length else 0)+msbN bs:=rfl
theorem msb_lt:∀bs:List Bool,msbN bs<2^bs.length
 |[]=>dC
 |b::bs=>by
  have:=msb_lt bs
  grind [kH]
theorem msb_app:∀aa bs:List Bool,msbN (aa++bs)=msbN aa*2^bs.length+msbN bs
 |[],bs=>by simp[msbN]
 |a::aa,bs=>by
  rw[GR,kH,kH,msb_app aa bs,gd,Nat.pow_add,po]
  grind
theorem bits_rev (w a:Nat):(bitsN (w+1) a).reverse=decide (a/2^w%2=1)::(bitsN w a).reverse:=by
 grind [bitsN,List.range_succ]
theorem bits_mod {w a m:Nat} (h:∀i,i<w->a/2^i%2=m/2^i%2):bitsN w a=bitsN w m:=by
 grind [bitsN,List.map_congr_left]
theorem high_bit {w i m k:Nat} (h:i<w):(k*2^w+m)/2^i%2=m/2^i%2:=by
 have e:k*2^w=2^i*(k*(2*2^(w-i-1))):=by
  have:2^w=2^i*(2*2^(w-i-1)):=by rw[<-Nat.pow_succ',<-Nat.pow_add];grind
  grind
 grind [Nat.mul_add_div]
theorem bits_msb:∀bs:List Bool,(bitsN bs.length (msbN bs)).reverse=bs
 |[]=>rfl
 |b::bs=>by
  rw[gH,bits_rev];have a:=msb_lt bs;have e:msbN (b::bs)=(if b then 1 else 0)*2^bs.length+msbN bs:=by rw[kH];grind
  rw[e,bits_mod (λi hi=>high_bit hi),bits_msb bs];congr 1
  grind [Nat.mul_comm,Nat.mul_add_div,Nat.div_eq_of_lt]
theorem msb_bits:∀(w a:Nat),a<2^w->msbN (bitsN w a).reverse=a
 |0,a,h=>by
  have:a=0:=(by simpa using h);subst this;rfl
 |w+1,a,h=>by
  rw[bits_rev];have d:a/2^w<2:=by rw[Nat.div_lt_iff_lt_mul (Nat.two_pow_pos w)];rw[Nat.pow_succ] at h;omega
  have b:=Nat.div_add_mod a (2^w);have f:=pH a (Nat.two_pow_pos w);have e:bitsN w a=bitsN w (a%2^w):=bits_mod λi hi=>by
   have:=high_bit (m:=a%2^w) (k:=a/2^w) hi;rwa[Nat.mul_comm,b] at this
  rw[kH,e,msb_bits w (a%2^w) f,PV,bitsN_len];by_cases c:a/2^w%2=1
  .rw[K3 (by simpa using c)];have:a/2^w=1:=by generalize a/2^w=q at c d;omega
   rw[this,pB] at b;exact b
  .rw[X0 (by simpa using c)];have:a/2^w=0:=by generalize a/2^w=q at c d;omega
   rw[this,Nat.mul_zero] at b;exact b
theorem msb_lex:∀{aa bs:List Bool} {k:Nat},aa.length=bs.length->k<aa.length->(∀j,j<k->aa.getD j false=bs.getD j false)->aa.getD k false=false->bs.getD k false=true->msbN aa<msbN bs
 |[],_,_,_,h,_,_,_=>by simp at h
 |_::_,[],_,h,_,_,_,_=>by simp at h
 |a::aa,b::bs,0,l,_,_,g,i=>by
  have e:a=false:=(by grind);have f:b=true:=(by grind);subst e;subst f;have:=msb_lt aa
  grind [kH]
 |a::aa,b::bs,k+1,l,n,he,g,i=>by
  have d:a=b:=(by simpa using he 0 oM);subst d;have c:aa.length=bs.length:=(by grind);have:=msb_lex (aa:=aa) (bs:=bs) (k:=k) c (by grind) (λj m=>by grind) (by grind) (by grind);rw[kH,kH,c];omega
theorem msb_inj {aa bs:List Bool} (a:aa.length=bs.length) (h:msbN aa=msbN bs):aa=bs:=by
 grind [bits_msb]
def envB:List Dcl->List Bool->oI
 |d::ds,ins=>(msbN (ins.take d.2.toNat):Int)::envB ds (ins.drop d.2.toNat)
 |[],_=>[]
theorem envB_len:∀(ds:List Dcl) (ins:List Bool),(envB ds ins).length=ds.length
 |[],_=>rfl
 |d::ds,ins=>by simp[envB,envB_len ds]
theorem ins_envB:∀{ds:List Dcl} {ins:List Bool},(∀d,d∈ds->0<=d.2)->ins.length=nIn ds->insM ds (envB ds ins)=ins
 |[],ins,_,b=>by
  have:ins=[]:=gQ b;rw[this];rfl
 |d::ds,ins,c,b=>by
  have f:=c d gq;have a:∀x,x∈ds->0<=x.2:=(by grind);have g:=bits_pos' a;have h:nIn (d::ds)=d.2.toNat+nIn ds:=by unfold nIn;rw[bits_cons'];omega
  have e:(ins.take d.2.toNat).length=d.2.toNat:=(by grind);have:=bits_msb (ins.take d.2.toNat);rw[e] at this;unfold envB insM;rw[gu,this,ins_envB a (by grind),pf]
theorem envB_ins:∀{ds:List Dcl} {env:oI},env.length=ds.length->(∀i,i<ds.length->0<=(ds.getD i (nada,0)).2/\0<=env.getD i 0/\env.getD i 0<2^((ds.getD i (nada,0)).2).toNat)->envB ds (insM ds env)=env
 |[],[],_,_=>rfl
 |[],_::_,a,_=>by simp at a
 |_::_,[],a,_=>by simp at a
 |d::ds,n::env,a,h=>by
  have b:=h 0 (by simp);simp only[pA] at b;have c:(bitsN d.2.toNat n.toNat).reverse.length=d.2.toNat:=(by rw[PV,bitsN_len]);have e:((2^d.2.toNat:Nat):Int)=2^d.2.toNat:=(by simp);unfold insM envB;rw[G1 oM,gF oM,List.drop_append_of_le_length oM,Pv oM,Gp,msb_bits _ _ oM,
   envB_ins (by grind) (λi hi=>by simpa using h (i+1) (by grind))]
  grind
theorem env_nums (he:envOk ds env=true):∀i,i<ds.length->0<=(ds.getD i (nada,0)).2/\0<=env.getD i 0/\env.getD i 0<2^((ds.getD i (nada,0)).2).toNat:=λi hi=>by
 have:=vok_iff.1 ((env_ok he).2.2 i hi);omega
theorem za0 (he:envOk ds env=true):envB ds (insM ds env)=env:=envB_ins (env_ok he).2.1 (env_nums he)
theorem envB_vals:∀{ds:List Dcl} {ins:List Bool},ins.length=nIn ds->(∀d,d∈ds->0<=d.2)->∀i,i<ds.length->0<=(envB ds ins).getD i 0/\(envB ds ins).getD i 0<2^((ds.getD i (nada,0)).2).toNat
 |[],_,_,_,i,hi=>by simp at hi
 |d::ds,ins,e,b,0,_=>by
  have a:∀x,x∈ds->0<=x.2:=(by grind);have c:=bits_pos' a
  grind [nIn,bits_cons',msb_lt,List.length_take,envB]
 |d::ds,ins,e,b,i+1,hi=>by
  have a:∀x,x∈ds->0<=x.2:=(by grind);have c:=bits_pos' a;have f:=b d gq;have g:nIn (d::ds)=d.2.toNat+nIn ds:=by unfold nIn;rw[bits_cons'];omega
  have:=envB_vals (ds:=ds) (ins:=ins.drop d.2.toNat) (by grind) a i (by grind);unfold envB
  grind
theorem envB_ok {ins:List Bool} (a:declOk ds=true) (b:ins.length=nIn ds):envOk ds (envB ds ins)=true:=by
 have c:=envB_vals b (dpos a);unfold envOk;simp only[gp,gg,gV,gK]
 grind [envB_len,dcl_wide,vok_iff]
theorem rank_msb:∀{ds:List Dcl} {env:oI},env.length=ds.length->(∀i,i<ds.length->0<=(ds.getD i (nada,0)).2/\0<=env.getD i 0/\env.getD i 0<2^((ds.getD i (nada,0)).2).toNat)->rankE ds env=msbN (insM ds env)
 |[],[],_,_=>rfl
 |[],_::_,b,_=>by simp at b
 |_::_,[],b,_=>by simp at b
 |d::ds,n::env,b,h=>by
  have g:=h 0 (by simp);simp only[pA] at g;have a:env.length=ds.length:=(by grind);have f:∀i,i<ds.length->0<=(ds.getD i (nada,0)).2/\0<=env.getD i 0/\env.getD i 0<2^((ds.getD i (nada,0)).2).toNat:=λi hi=>(by simpa using h (i+1) (by grind));have c:∀x,x∈ds->0<=x.2:=λx k=>by
   grind [List.getElem_of_mem]
  have e:((2^d.2.toNat:Nat):Int)=2^d.2.toNat:=(by simp);have hi:=insM_len a c;have j:=bits_pos' c;unfold rankE insM;rw[msb_app,msb_bits _ _ oM,rank_msb a f,show(insM ds env).length=(bits ds).toNat by omega,Int.natCast_add,Int.natCast_mul,show((n.toNat:Nat):Int)=n by omega];simp
theorem rank_env (he:envOk ds env=true):rankE ds env=msbN (insM ds env):=rank_msb (env_ok he).2.1 (env_nums he)
theorem rank_inj {e:oI} (h:envOk ds env=true) (a:envOk ds e=true) (b:rankE ds env=rankE ds e):env=e:=by
 grind [rank_env,msb_inj,insM_n,za0]
def exK:List Bool->Int->oI
 |b::bs,k=>(if b then-k else k)::exK bs (k+1)
 |[],_=>[]
def exC (ds:List Dcl) (env:oI):oI:=exK (insM ds env) 2
theorem exK_len:∀(bs:List Bool) (k:Int),(exK bs k).length=bs.length
 |[],_=>rfl
 |b::bs,k=>by simp[exK,exK_len bs]
theorem exK_get:∀{bs:List Bool} {k:Int} {i:Nat},i<bs.length->(exK bs k).getD i 0=if bs.getD i false then-(k+i) else k+i
 |[],_,_,h=>by simp at h
 |b::bs,k,0,_=>by simp[exK]
 |b::bs,k,i+1,h=>by
  have:=exK_get (bs:=bs) (k:=k+1) (i:=i) (by grind)
  grind [exK]
theorem exC_ok {m:Nat} (hm:1+(insM ds env).length<=m):yT m (exC ds env)=true:=by
 refine J6.2 λk a=>?_;unfold exC at a⊢;rw[exK_len] at a;have e:=exK_get (k:=2) a;refine⟨?_,?_⟩
 .grind [litOk]
 grind [exK_get]
theorem exC_true {v:Nat->Bool}:clT v (exC ds env)↔insV v (insM ds env).length≠insM ds env:=by
 unfold exC;constructor
 .rintro⟨l,o,a⟩ he;obtain⟨i,hi,rfl⟩:=gx o;have b:i<(insM ds env).length:=(by rwa[exK_len] at hi);have e:=exK_get (k:=2) b;rw[q0,gj hi,Gr] at e;have g:=insV_get (v:=v) (n:=(insM ds env).length) b;rw[he] at g;rw[e,g] at a;unfold litT at a;cases c:v (i+2)
  .rw[c] at a;simp only[Gg,if_false] at a;rw[K3 oM,show((2:Int)+i).natAbs=i+2 by omega,c] at a;cases a
  .rw[c] at a;simp only[if_true] at a;rw[X0 oM,show(-((2:Int)+i)).natAbs=i+2 by omega,c] at a;cases a
 .intro f;have:∃i,i<(insM ds env).length/\v (i+2)≠(insM ds env).getD i false:=Gj λp=>f (by
   refine gW (insV_len _ _) λi j d=>?_;have e:=insV_get (v:=v) (n:=(insM ds env).length) (i:=i) d;rw[q0,gj j,Gr] at e;rw[e];have:=Gj λh=>p ⟨i,d,h⟩;rwa[q0,gj d,Gr] at this)
  obtain⟨i,hi,h⟩:=this;have m:i<(exK (insM ds env) 2).length:=by rw[exK_len];exact hi
  refine⟨(exK (insM ds env) 2).getD i 0,getD_mem m 0,?_⟩;rw[exK_get hi]
  grind [litT]
def jobC (ds:List Dcl) (gs:Gs) (rs:List (oI)) (nots:List (oI)):Cnf:=netC (nIn ds) gs (rootsC rs++nots.map (exC ds))
def searchM (n:Nat) (ds:List Dcl) (c:Cnf):oI×Int:=
 let s:=runM c.many.toNat c n emptyS
 if s.code=1 then(envB ds (insV (wayM s.put) (nIn ds)),1) else if s.code=2 then([],2) else([],3)
def solveM (n:Nat) (ds:List Dcl) (ts:List Tm) (nots:List (oI)):oI×Int:=match listB ds (ts.map (foldT ds)) with
 |none=>([],3)
 |some (gs,rs)=>searchM n ds (jobC ds gs rs nots)
def Sol (ds:List Dcl) (ts:List Tm) (nots:List (oI)) (env:oI):Prop:=envOk ds env=true/\allT ds env ts/\env∉nots
section
variable {ts:List Tm} {gs:Gs} {rs nots:List (oI)}
theorem job_ok (b:declOk ds=true) (h:ListNet ds ts gs rs) (d:∀e,e∈nots->envOk ds e=true) (c:ts.length+nots.length<=90):cnfOk (jobC ds gs rs nots)=true:=by
 refine net_ok (nIn_eq b).2 h.net (by unfold rootsC;rw[gd,V0,V0,h.many];exact c) λcl a=>?_;rcases gr.1 a with a|a
 .exact roots_ok b h cl a
 .obtain⟨e,he,rfl⟩:=gz.1 a;exact exC_ok (by rw[insM_n (d e he)];omega)
theorem job_true (c:declOk ds=true) (hs:∀t,t∈ts->sortM ds t=0) (h:ListSays ds ts gs rs) (j:∀e,e∈nots->envOk ds e=true) {v:Nat->Bool}:
  jU0 v (jobC ds gs rs nots)↔Follows v (nIn ds) gs/\Sol ds ts nots (envB ds (insV v (nIn ds))):=by
 have d:=insV_len v (nIn ds);have hi:=ins_envB (dpos c) d;have he:=envB_ok c d;unfold jobC;rw[net_sat h.net];constructor
 .rintro⟨b,f⟩;refine⟨b,he,(way_true he hs h b hi.symm).1 λcl a=>f cl (gr.2 (.inl a)),λhm=>?_⟩;have:=f _ (gr.2 (.inr (gz.2 ⟨_,hm,rfl⟩)));simp_all[exC_true]
 .rintro⟨b,_,i,hm⟩;refine⟨b,λcl a=>?_⟩;rcases gr.1 a with a|a
  .grind [way_true]
  .obtain⟨e,g,rfl⟩:=gz.1 a
   grind [exC_true,insM_n,za0]
theorem lex_rank {many:Nat} {a b:Nat->Bool} {n:Nat} (hm:1+n<=many) (o:a 1=true) (h:LexLe many a b):msbN (insV a n)<=msbN (insV b n):=by
 have heq:(∀u,1<=u->u<=1+n->a u=b u)->msbN (insV a n)<=msbN (insV b n):=λh=>by
  have:insV a n=insV b n:=by
   grind [insV,List.map_congr_left]
  grind
 rcases h with h|⟨d,f,g,i,l,m⟩
 .grind
 .by_cases c:d<=1+n
  .have e:d≠1:=(by grind);refine Nat.le_of_lt (msb_lex (k:=d-2) (by rw[insV_len,insV_len]) (by rw[insV_len];omega) (λj p=>?_) ?_ ?_)
   .grind [insV_get]
   .grind [insV_get]
   grind [insV_get]
  grind
theorem search_says (n:Nat) (c:declOk ds=true) (hs:∀t,t∈ts->sortM ds t=0) (h:ListSays ds ts gs rs) (i:∀e,e∈nots->envOk ds e=true) (o:ts.length+nots.length<=90):
  ((searchM n ds (jobC ds gs rs nots)).2=1/\Sol ds ts nots (searchM n ds (jobC ds gs rs nots)).1/\∀e,Sol ds ts nots e->rankE ds (searchM n ds (jobC ds gs rs nots)).1<=rankE ds e)\/
  (searchM n ds (jobC ds gs rs nots)=([],2)/\∀e,¬Sol ds ts nots e)\/searchM n ds (jobC ds gs rs nots)=([],3):=by
 have j:=job_ok c h.toListNet i o;have b:(jobC ds gs rs nots).many=((jobC ds gs rs nots).many.toNat:Nat):=by unfold jobC netC;grind
 have g:(jobC ds gs rs nots).many.toNat=1+nIn ds+gs.length:=by unfold jobC netC;grind
 have d:=run_fair b (n:=n) (qo0 (many:=(jobC ds gs rs nots).many.toNat) j);have way:∀e,Sol ds ts nots e->jU0 (wayG (insM ds e) gs) (jobC ds gs rs nots)/\insV (wayG (insM ds e) gs) (nIn ds)=insM ds e:=λe he=>by
  have hi:insV (wayG (insM ds e) gs) (nIn ds)=insM ds e:=by rw[<-insM_n he.1];exact wayG_ins
  refine⟨(job_true c hs h i).2 ⟨zr0 (insM_n he.1),?_⟩,hi⟩;rw[hi,za0 he.1];exact he
 unfold searchM;generalize runM (jobC ds gs rs nots).many.toNat (jobC ds gs rs nots) n emptyS=s at d⊢;simp only;split
 .next l=>
  refine .inl ⟨rfl,?_⟩;have k:=d.least b l;obtain⟨f,a⟩:=(job_true c hs h i).1 k.1;refine⟨a,λe he=>?_⟩;obtain⟨hw,hi⟩:=way e he;have:=lex_rank (n:=nIn ds) oM (by have:=f 0 oM;rw[this];exact XF) (k.2 _ hw);rw[rank_env a.1,rank_env he.1,ins_envB (dpos c) (insV_len _ _)]
  grind
 .split
  .next m=>
   refine .inr (.inl ⟨rfl,λe he=>d.no m _ (way e he).1⟩)
  grind
theorem allT_fold (he:envOk ds env=true) (hs:∀t,t∈ts->sortM ds t=0):allT ds env (ts.map (foldT ds))↔allT ds env ts:=by
 have c:=(env_ok he).1;have b:∀t,t∈ts->evalM ds env (foldT ds t)=evalM ds env t:=λt a=>((fold_good c t (by grind)).eval env he);constructor
 .intro h t a;rw[<-b t a];exact h _ (gz.2 ⟨t,a,rfl⟩)
 .intro h u hu;obtain⟨t,a,rfl⟩:=gz.1 hu;rw[b t a];exact h t a
theorem solve_says (n:Nat) (f:declOk ds=true) (hs:∀t,t∈ts->sortM ds t=0) (j:∀e,e∈nots->envOk ds e=true) (h:ts.length+nots.length<=90):
  ((solveM n ds ts nots).2=1/\Sol ds ts nots (solveM n ds ts nots).1/\∀e,Sol ds ts nots e->rankE ds (solveM n ds ts nots).1<=rankE ds e)\/
  (solveM n ds ts nots=([],2)/\∀e,¬Sol ds ts nots e)\/solveM n ds ts nots=([],3):=by
 have g:∀t,t∈ts.map (foldT ds)->sortM ds t=0:=λu hu=>by
  obtain⟨t,k,rfl⟩:=gz.1 hu;have:=(fold_good f t (by grind)).sort
  grind
 have d:∀e,Sol ds (ts.map (foldT ds)) nots e↔Sol ds ts nots e:=λe=>
  ⟨λ⟨a,b,c⟩=>⟨a,(allT_fold a hs).1 b,c⟩,λ⟨a,b,c⟩=>⟨a,(allT_fold a hs).2 b,c⟩⟩
 unfold solveM;cases i:listB ds (ts.map (foldT ds)) with
 |none=>grind
 |some p=>
  grind [search_says,list_says]
end
end Go.M
end
section
namespace Go.M
variable {ds:List Dcl} {env:oI} {n:Nat} {ts us:List Tm} {nots:List (oI)}
def sorted0 (ds:List Dcl) (ts:List Tm):Prop:=∀t,t∈ts->sortM ds t=0
theorem solve_no (c:declOk ds=true) (hs:sorted0 ds ts) (d:∀e,e∈nots->envOk ds e=true) (b:ts.length+nots.length<=90) (h:(solveM n ds ts nots).2=2):(solveM n ds ts nots).1=[]/\∀e,¬Sol ds ts nots e:=by
 rcases solve_says n c hs d b with⟨a,_⟩|⟨a,a2⟩|a
 .omega
 .grind
 grind
theorem allT_app:allT ds env (ts++us)↔allT ds env ts/\allT ds env us:=by
 grind [allT]
theorem allT_one {t:Tm}:allT ds env [t]↔evalM ds env t=1:=by unfold allT;simp
end Go.M
end
namespace Go.Proofs.YtfjlkobhagjdaaaGreatDoor
open Go Go.Vc Go.Proofs
section
variable {ds:List M.Dcl} {t:M.Tm} {ts:List M.Tm} {nots:List (oI)}
theorem Wo (b:M.declOk ds=true) (h:M.tsort ds t=0):M.tsort ds (M.foldT ds t)=0/\QV ds t=M.foldT ds t:=by
 obtain⟨a,d,f⟩:=XL h;have c:=M.fold_good b t (by rw[a];decide);obtain⟨f1,f2⟩:=M.fits_iff.1 d;have e:M.fits (M.foldT ds t)=true:=M.fits_iff.2 ⟨gO c.size f1,gO c.deep f2⟩;exact⟨by rw[zx0 b e,c.sort,a],Zc0 b d (by rw[a];decide)⟩
theorem Qo (h:Jb ds ts=true):Jb ds (ts.map (M.foldT ds))=true:=by
 obtain⟨b,a,c⟩:=all8_iff.1 h;refine all8_iff.2 ⟨by rw[V0];exact b,a,λu hu=>?_⟩;obtain⟨t,d,rfl⟩:=gz.1 hu;exact(Wo a (c t d)).1
def yI (ds:List M.Dcl) (ts:List M.Tm) (nots:List (oI)):oI×Int:=if Jb ds ts=true then M.solveM 4000 ds ts nots else([],4)
def xc0 (c:M.Cnf) (ds:List M.Dcl) (nots:List (oI)):M.Cnf:=⟨c.many,c.list++nots.map (M.exC ds)⟩
theorem jN0 {gs:M.Gs} {rs:List (oI)}:xc0 (M.blastC ds gs rs) ds nots=M.jobC ds gs rs nots:=by
 show M.Cnf.mk _ _=M.Cnf.mk _ _;congr 1;show([1]::(M.gatesC _ gs 0++M.rootsC rs))++_=[1]::(M.gatesC _ gs 0++(M.rootsC rs++_));simp
theorem QA (h: ¬Jb ds ts=true):yI ds ts nots=([],4):=by unfold yI;rw[X0 h]
theorem K5 (h:Jb ds ts=true) (a:(cnfE ds (ts.map (M.foldT ds))).2≠0):yI ds ts nots=([],3):=by
 unfold yI M.solveM;rw[K3 h];unfold cnfE at a;rw[K3 (Qo h)] at a;cases b:M.listB ds (ts.map (M.foldT ds)) with
 |none=>rfl
 |some r=>rw[b] at a;exact absurd rfl a
theorem jV0 (h:Jb ds ts=true):(cnfE ds ts).2=0\/(cnfE ds ts).2=1:=by
 unfold cnfE;rw[K3 h];cases M.listB ds ts with
 |none=>exact .inr rfl
 |some r=>exact .inl rfl
theorem solveR_run (h:Jb ds ts=true) (b:(cnfE ds (ts.map (M.foldT ds))).2=0) (f:∀e,e∈nots->M.envOk ds e=true) (j:nots.length<=80):
  yI ds ts nots=M.searchM 4000 ds (xc0 (cnfE ds (ts.map (M.foldT ds))).1 ds nots)/\M.cnfOk (xc0 (cnfE ds (ts.map (M.foldT ds))).1 ds nots)=true/\1+M.nIn ds<=(cnfE ds (ts.map (M.foldT ds))).1.many.toNat:=by
 have c:=Qo h;unfold yI M.solveM;rw[K3 h];unfold cnfE at b⊢;rw[K3 c] at b⊢;cases d:M.listB ds (ts.map (M.foldT ds)) with
 |none=>rw[d] at b;exact absurd b (by simp)
 |some r=>
  obtain⟨i,a2,a3⟩:=all8_iff.1 c;have a:=M.list_net a2 (λt g=>by rw[(XL (a3 t g)).1];decide) d;have e:=jN0 (ds:=ds) (nots:=nots) (gs:=r.1) (rs:=r.2);refine⟨by show _=M.searchM 4000 ds (xc0 (M.blastC ds r.1 r.2) ds nots);rw[e],by show M.cnfOk (xc0 (M.blastC ds r.1 r.2) ds nots)=true;rw[e];exact M.job_ok a2 a f oM,?_⟩;show 1+M.nIn ds<=(M.netC _ r.1 (M.rootsC r.2)).many.toNat;unfold M.netC;simp only;omega
end
section
variable {w:World} {K:oK} {F F' D G:oA}
theorem l8Some_spec {b p:Nat} {v dv:Value} {xs:List Nat} {ds:List M.Dcl} {sort:Int} (h:RdR F w b v xs p) (hF:∀x,F x->x<w.heap.size) (hd:DclsR D w dv ds) (hD:∀x,D x->x≠b) (hD1:∀x,D x->x<w.heap.size) (m:Dok ds) (B:0<=sort) (E:sort<=4)
  (hp:p+200000<1099511627776) (U:xj0 K F w b p 200000 v xs):vcall WI #[oP b 0,dv,nI sort] w K:=by
 refine ze {loops:=[(2,[7])]} Tryz.func45 ?_;refine Dw.begin h hF hd hD hD1 λw1 h1=>?_;have H:JH 4=25600:=rfl;refine vloop_up 3 (λi u w'=> ∃X,u=[nI (3-(i:Int))]/\Dw F D w b w.heap.size v dv xs ds w' X/\X<=p+25600*i) ⟨p,rfl,h1,oM⟩ ?_;rintro i _ _ w2 C hi ⟨p2,rfl,f,a1⟩ hC;have hold:=f.old;have V:=f.new;refine oZ ?_;refine zb (λa=>?_) (λa=>?_)
 .refine f.sub (c:=JH 4) (λZ J=>l2Term_spec 4 oM f.rd (λx n=>gM (hF x n) f.same.size) f.dcl hD (λx n=>gM (hD1 x n) f.same.size) m B E oM oM oM J) λR Y tv t G N L O l=>?_;obtain⟨cs,rfl,d⟩:=O.cells;have r:=d.weaken (F':=λx=>Nw w.heap.size x/\x<R.heap.size) λx n hl=>⟨n,hl⟩;refine zi zp λb2 w4 a0 s W h4=>?_;refine stTerm h4 rfl (r.ext s) λw5 Q _ S=>?_;have z:Ext R w5:=Ext.then s Q λy hy=>by subst hy;omega
  have I:aggB za cs.length=true:=by rw[zR d];exact zc
  rw[S.ldAgg (t:=za) I];refine spec_TermMany_spec t (d.ext z).term λw6 A=>?_;have g:=z.trans A;have o:=G.ext g;have T:=S.ext A;refine oZ ?_;rw[T.ldAgg (t:=za) I];refine spec_TermSort_spec (dok_sized m) o.dcl (d.ext g).term λw7 k=>?_;have q:=o.ext k;have h7:=T.ext k;have j:C [nI (IntKind.i64.wrap (3-(i:Int)-1))] w7:=by
   rw[zj oM oM,show 3-(i:Int)-1=3-((i+1:Nat):Int) by omega];exact hC oM _ _ ⟨Y,rfl,q,oM⟩
  refine oZ ?_;refine zb (λc=>?_) (λc=>?_)
  .refine zb (λe=>?_) (λe=>?_)
   .rw[h7.ldAgg (t:=za) I];exact q.fin (p0:=p) oM ((d.ext g).ext k) l U
   .exact j
  .exact j
 .refine f.sub (c:=100) (λZ J=>l2Leafy_spec f.rd (λx n=>gM (hF x n) f.same.size) f.dcl hD m B E oM J) λR Y tv t G N L O l=>?_;obtain⟨cs,rfl,d⟩:=O.cells;exact G.fin (p0:=p) oM d l U
theorem one_tms {ks:List M.Tm} {css:List (List Value)} (k:css.length=ks.length) (h:∀i,i<ks.length->TmR G w (css.getD i []) (ks.getD i default)):∀y,y∈css->∀c,c∈y->c.oneCell'=true:=λy g c a=>by
 obtain⟨i,hi,rfl⟩:=gx g;have f:=h i oM;rw[q0,gj hi] at f;obtain⟨j,he,b⟩:=f.inv;obtain⟨e,d,_⟩:=b;rw[show css[i]=(some css[i]).getD [] from rfl,he] at a;simp only[gm,gC,Gi] at a;rcases a with rfl|rfl|rfl|rfl|rfl
 .rfl
 .rfl
 .rfl
 .rfl
 .exact d.one
abbrev Gl (n:Nat) (w:World) (lv:Value) (x:Nat):Prop:=n<=x/\x<w.heap.size/\lv.ownBlock≠some x
def LstT (n:Nat) (w:World) (lv:Value) (ts:List M.Tm):Prop:= ∃css,Own 0 5 zk w lv css/\css.length=ts.length/\(∀x,lv.ownBlock=some x->n<=x)/\∀i,i<ts.length->TmR (Gl n w lv) w (css.getD i []) (ts.getD i default)
theorem LstT.nil {n b:Nat} (h:Blk w b [] za) (c:n<=b):LstT n w (.slice (some ⟨b,0,none⟩) 0 0) []:=
 ⟨[],Blk.ownk (css:=[]) (by rw[qm];exact h) (by simp) rfl dC,rfl,λx a=>by have e:x=b:=(gh a).symm;omega,λi hi=>by simp at hi⟩
theorem LstT.same {n:Nat} {lv:Value} {ts:List M.Tm} {S:oA} {w':World} (h:LstT n w lv ts) (hs:Same S w w') (c:∀x,S x->x<n\/w.heap.size<=x):LstT n w' lv ts:=by
 obtain⟨css,f,g,d,hi⟩:=h;have j:=hs.size;refine⟨css,f.same hs λx a e=>?_,g,d,λi b=>((hi i b).same hs λx a _ e=>?_).weaken λx a _=>⟨a.1,by have:=a.2.1;omega,a.2.2⟩⟩
 .have:=d x a;have:=f.lt a;rcases c x e with h|h<;>omega
 .have:=a.1;have:=a.2.1;rcases c x e with h|h<;>omega
theorem LstT.tms {n:Nat} {lv:Value} {ts:List M.Tm} (h:LstT n w lv ts):TmsR (λx=>n<=x) w lv ts:=by
 obtain⟨css,e,c,d,hi⟩:=h;exact⟨css,e.sl.weaken λx b _=>d x b,c,λi a=>(hi i a).weaken λx b _=>b.1⟩
theorem LstT.lo {n x:Nat} {lv:Value} {ts:List M.Tm} (h:LstT n w lv ts) (b:lv.ownBlock=some x):n<=x:=by
 obtain⟨_,_,_,a,_⟩:=h;exact a x b
theorem LstT.push {n:Nat} {lv tv:Value} {ts:List M.Tm} {t:M.Tm} (h:LstT n w lv ts) (L:n<=w.heap.size) (H:TermR (Gl n w lv) w tv t) (G:ts.length<=100)
  (F:∀w' c,Same (λx=>n<=x) w w'->(∀x,x<w.heap.size->lv.ownBlock≠some x->w'.heap[x]?=w.heap[x]?)->LstT n w' c (ts++[t])->K c w'):
  vbuildS zk 1 [(0,tv)] w λs w1=>vbi .append [zk,zk] zk [lv,s] w1 K:=by
 obtain⟨css,E,D,k,hi⟩:=h;refine Uz H λw1 sa d I v=>?_;obtain⟨f,u,j,g⟩:=v;have y:f.length=1:=j;refine vappend qg dC (E.ext d) u (one_tms j g) (gS _) oM oM λc w2 A b r=>?_;have J:=b.size;have m:∀x,lv.ownBlock=some x->x<w.heap.size:=λx a=>(E.lt a).2;have C:∀x,(Gl n w lv x\/x=w.heap.size)->lv.ownBlock≠some x:=λx a e=>by
  rcases a with a|a
  .exact a.2.2 e
  .have:=m x e;omega
 have o:∀x,(Gl n w lv x\/x=w.heap.size)->Gl n w2 c x:=λx a=>by
  have B:n<=x/\x<w1.heap.size:=by
   rcases a with a|a
   .exact⟨a.1,by have:=a.2.1;omega⟩
   .omega
  refine⟨B.1,oM,λe=>?_⟩;rcases r x e with h|h
  .exact C x a h
  .omega
 refine F w2 c (((Same.of_ext d).trans (b.mono λx _ a=>k x a))) (λx a z=>?_) ⟨css++f,A,by simp[D,y],λx a=>?_,λi p=>?_⟩
 .rw[b.block x oM z,d.block x a (λh=>h)]
 .rcases r x a with h|h
  .exact k x h
  .omega
 .rw[gd] at p;by_cases q:i<ts.length
  .rw[q0,gN oM,<-q0,q0 (l:=ts++[t]),gN q,<-q0];exact(((hi i q).ext d).same b λx a _ e=>a.2.2 e).weaken λx a _=>o x (.inl a)
  .have e:i=ts.length:=by simp at p;omega
   subst e;rw[q0,gP oM,D,GK,<-q0,q0 (l:=ts++[t]),gP oM,GK,<-q0];exact((g 0 (by simp)).same b λx a _ e=>C x a e).weaken λx a _=>o x a
theorem same_news {b:Nat} {w1 w2:World} (h:Same (· =b) w w1) (a:Same (λx=>w.heap.size<=x) w1 w2):Same (· =b) w w2:=
 ⟨a.os.trans h.os,a.tape.trans h.tape,a.output.trans h.output,gO h.size a.size,λy d c=>by
  rw[a.block y (gM d h.size) (λe=>oM)];exact h.block y d c⟩
theorem cost_step {p a b i c:Nat} (d:a<=p+101+c*i) (e:b<=a+c):b<=p+101+c*(i+1):=by
 rw[Nat.mul_succ];omega
theorem l8List_own {b p:Nat} {v:Value} {xs:List Nat} (h:RdR F w b v xs p) (hF:∀x,F x->x<w.heap.size) (hp:p+3000000<1099511627776)
  (hK:∀w' p' dv lv ds ts n,Same (· =b) w w'->RdR F w' b v xs p'->p'<=p+3000000->w.heap.size<=n->DclsR (λx=>w.heap.size<=x/\lv.ownBlock≠some x) w' dv ds->Dsn 9 ds->LstT n w' lv ts->ts.length<=9->K (.tuple #[dv,lv]) w'):vcall WK #[oP b 0] w K:=by
 refine ze {loops:=[(4,[5,6]),(13,[5])]} Tryz.func41 ?_;have lb:=h.blk.lt;refine l2Decls_spec3 h hF oM λw1 p1 dv ds ai au bv az D bo ah=>?_;have bz:=ai.size;have b4:Dsn 9 ds:=⟨by have:=D.1;omega,(jR0 D).2⟩;have a9:=az.weaken (F':=λx=>w.heap.size<=x/\x<w1.heap.size) λx d B=>⟨d,B⟩;have hlen:=D.1;refine vbuildS_row (xs:=[]) (us:=[]) (k:=5) yW xq zp rfl (by simp) dC λb2 w2 bm Q bw h2=>?_;have c0:=Q.size;have l2:LstT w1.heap.size w2 (.slice (some ⟨b2,0,none⟩) 0 0) []:=LstT.nil h2 oM;refine ints_lit (ns:=[1,2,3,4,2,0,8]) dC λb3 w3 bn L b5=>?_;have c1:=L.size;refine num_spec ((au.ext Q).ext L) b5 (by simp) dC oM (λx d e=>by subst d;omega) λw4 m a4 c2 av hm=>?_;obtain⟨m,rfl,bs⟩:∃m':Nat,m=m'/\m'<=8:=⟨m.toNat,by
  simp only[gm,gC,Gi] at hm;omega,by
  simp only[gm,gC,Gi] at hm;omega⟩
 clear hm;have am:Same (· =b) w1 w4:=((Same.of_ext Q).trans (Same.of_ext L)).trans a4;have l4:LstT w1.heap.size w4 (.slice (some ⟨b2,0,none⟩) 0 0) []:=(l2.same (Same.of_ext L) λx (d:False)=>d.elim).same a4 λx d=> .inl oM;have d4:=((a9.ext Q).ext L).same a4 λx d _ e=>oM
 refine vloop_up m (λi u w'=> ∃lv ts p',u=[lv,nI ((m-i:Nat):Int)]/\Same (· =b) w w'/\w1.heap.size<=w'.heap.size/\RdR F w' b v xs p'/\p'<=p+101+200000*i/\DclsR (λx=>w.heap.size<=x/\x<w1.heap.size) w' dv ds/\LstT w1.heap.size w' lv ts/\ts.length=i/\∀t,t∈ts->t.ks.length<=3)
  ⟨_,[],p1+1,rfl,ai.trans am,am.size,av,oM,d4,l4,rfl,λt ht=>by cases ht⟩ ?_
 rintro i _ _ w5 C hi ⟨lv,ts,p5,rfl,aj,c3,a7,ba,d5,l5,b8,ab⟩ hC;have aq:∀x,F x->x<w5.heap.size:=λx d=>by have:=hF x d;omega
 have hD:∀x,(w.heap.size<=x/\x<w1.heap.size)->x≠b:=λx d e=>oM
 refine oZ ?_;refine zb (λa=>?_) (λa=>?_)
 .have b6:i<m:=oM;refine l8Some_spec a7 aq d5 hD (λx d=>oM) D oM oM oM λG p6 tv t A q bb be b7=>?_;have bf:=A.size;have O:LstT w1.heap.size G lv ts:=l5.same A λx d=> .inl oM;have y:∀x,lv.ownBlock=some x->x<w5.heap.size:=λx d=>by
   obtain⟨_,ho,_⟩:=l5;exact(ho.lt d).2
  refine LstT.push O oM ((be.weaken (F':=λx=>w5.heap.size<=x/\x<G.heap.size) λx d B=>⟨d,B⟩).weaken λx d _=>⟨oM,d.2,λe=>by have:=y x e;omega⟩) oM λW H f _ l7=>?_;rw[show IntKind.i64.wrap (((m-i:Nat):Int)-1)=((m-(i+1):Nat):Int) by rw[zj oM oM];omega];have E:=f.size;have S:p6<=p+101+200000*(i+1):=cost_step ba bb;refine hC b6 _ _ ⟨H,ts++[t],p6,rfl,same_news (aj.trans A) (f.mono λx _ d=>oM),oM,q.same f oM (λx d _ e=>by have:=hF x d;omega),S,(d5.same A λx d _ e=>oM).same f (λx d _ e=>oM),l7,by simp[b8],λt' bd=>?_⟩;rcases gr.1 bd with h|h
  .exact ab t' h
  .rw[gB.1 h];exact b7
 .refine pick_spec a7 oM oM λG k A bf q hk _=>?_;have O:LstT w1.heap.size G lv ts:=l5.same A λx d=> .inl oM;have d6:=d5.same A λx d _ e=>oM;have s6:=aj.trans A;have Y:∀x,F x->x<G.heap.size:=λx d=>by have:=hF x d;omega
  have s:∀{I:World} {p9:Nat} {al:Value} {ts9:List M.Tm},Same (· =b) w I->RdR F I b v xs p9->p9<=p+3000000->DclsR (λx=>w.heap.size<=x/\x<w1.heap.size) I dv ds->LstT w1.heap.size I al ts9->ts9.length<=9->K (.tuple #[dv,al]) I:=λhs hR ag hd B hn=>
   hK _ _ dv _ ds _ w1.heap.size hs hR ag oM (hd.weaken λx d _=>⟨d.1,λe=>by have:=B.lo e;omega⟩) b4 B hn
  have y:∀x,lv.ownBlock=some x->x<G.heap.size:=λx d=>by
   obtain⟨_,ho,_⟩:=O;exact(ho.lt d).2
  refine oZ ?_;refine zb (λa0=>?_) (λa0=>?_)
  .have bx:1<=(ds.getD 0 (M.nada,0)).2/\(ds.getD 0 (M.nada,0)).2<=4/\_:=D.2 0 ah;simp(disch:=exact oS) only[push_cast,d6.iaddr,P6]
   try simp(disch:=exact oS) only[push_cast,P6,d6.load1]
   refine l2Some_spec q Y d6 hD (λx d=>oM) D oM oM oM λW p7 tv t f r S N _=>?_;have E:=f.size;refine LstT.push (O.same f λx d=> .inl oM) oM ((N.weaken (F':=λx=>G.heap.size<=x/\x<W.heap.size) λx d B=>⟨d,B⟩).weaken λx d _=>⟨oM,d.2,λe=>by have:=y x e;omega⟩) oM λw8 H o _ l8=>?_;exact s (same_news (s6.trans f) (o.mono λx _ d=>oM)) (r.same o oM (λx d _ e=>by have:=hF x d;omega)) oM ((d6.same f λx d _ e=>oM).same o (λx d _ e=>oM)) l8 (by simp;omega)
  refine zb (λa1=>?_) (λa1=>?_)
  .refine l2Spoil_spec q Y d6 hD (λx d=>oM) D oM λW p7 bl bk f r S b0 ad=>?_;have E:=f.size;have aa:=b0.weaken (F':=λx=>G.heap.size<=x/\x<W.heap.size) λx d B=>⟨d,B⟩;refine l2Spoil_spec2 (n:=7) r (λx d=>by have:=hF x d;omega) aa (λx d e=>oM) (λx d=>d.2) ad oM oM λw8 p8 ao an o Z bc b1 ae=>?_;have T:=o.size;exact hK _ _ ao _ an _ w1.heap.size ((s6.trans f).trans o) Z oM oM (b1.weaken λx d _=>⟨oM,λe=>by have:=y x e;omega⟩) ae ((O.same f λx d=> .inl oM).same o λx d=> .inl oM) oM
  refine zb (λa2=>?_) (λa2=>?_)
  .refine vloop_up 9 (λj u w'=> ∃H V,u=[H]/\Same (· =b) w w'/\w1.heap.size<=w'.heap.size/\RdR F w' b v xs (p5+1)/\DclsR (λx=>w.heap.size<=x/\x<w1.heap.size) w' dv ds/\LstT w1.heap.size w' H V/\V.length<=9/\j<=V.length) ⟨lv,ts,rfl,s6,oM,q,d6,O,oM,oM⟩ ?_;rintro j _ _ W C' hj ⟨H,V,rfl,f,E,r,d7,l7,b9,bp⟩ ap;refine oZ ?_;rw[l7.tms.len Jh];refine oZ ?_;refine zb (λc=>?_) (λc=>?_)
   .refine LstT.push l7 oM (t:= .mk 24 0 0 ⟨#[]⟩ []) (TmR.term (Q5 24 0 0 _)) oM λw8 bh o _ l8=>?_;have T:=o.size;exact ap oM _ _ ⟨bh,_,rfl,same_news f (o.mono λx _ d=>oM),oM,r.same o oM (λx d _ e=>by have:=hF x d;omega),d7.same o (λx d _ e=>oM),l8,by simp;omega,by simp;omega⟩
   .exact s f r oM d7 l7 oM
  refine zb (λa3=>?_) (λa3=>?_)
  .rw[O.tms.len Jh];refine oZ ?_;refine zb (λc=>?_) (λc=>?_)
   .obtain⟨css,ho,ay,af,a8⟩:=O;have h0:0<ts.length:=oM;have ax:=a8 0 h0;have bq:(ts.getD 0 default).ks.length<=3:=ab _ (by rw[q0,gj h0];exact GY h0);have eg:aggB za 5=true:=zc;have gA:∀{I:World},Own 0 5 zk I lv css->∀{K':oK},K' (oE (eaddr lv 5 0)) I->y2 zk lv (nI 0) I K':=λR K' ar=>by
     simp(disch:=exact oS) only[push_cast,R.sl.iaddr,P6];exact ar
    refine gA ho ?_;rw[ho.sl.ldAgg eg oM];have g:∀x,lv.ownBlock=some x->w1.heap.size<=x/\x<G.heap.size:=λx d=>⟨af x d,y x d⟩;have bj:w1.heap.size<=G.heap.size:=oM;have hA:∀{x:Nat} {m:Nat},(Gl w1.heap.size G lv x\/G.heap.size<=x)->x<m->G.heap.size<=m->w1.heap.size<=x/\x<m/\lv.ownBlock≠some x:=λd hm br=>by
     rcases d with d|d
     .exact⟨d.1,hm,d.2.2⟩
     .exact⟨oM,hm,λe=>by have:=g _ e;omega⟩
    refine l2Bent_spec q Y ax.term (λx d e=>by have:=d.1;omega) (λx d=>d.2.1) oM oM λW p7 v7 t7 f r S N b9=>?_;have E:=f.size;replace N:TermR (Gl w1.heap.size W lv) W v7 t7:=N.weaken λx d B=>hA d B E;refine l2Bent_spec r (λx d=>by have:=hF x d;omega) N (λx d e=>by have:=d.1;omega) (λx d=>d.2.1) oM oM λw8 p8 v8 t8 o Z bc a5 bt=>?_;have T:=o.size;have hB:∀{x:Nat} {w w':World},G.heap.size<=w.heap.size->w.heap.size<=w'.heap.size->(Gl w1.heap.size w lv x\/w.heap.size<=x)->x<w'.heap.size->Gl w1.heap.size w' lv x:=λh6 hw d hm=>by
     rcases d with d|d
     .exact⟨d.1,hm,d.2.2⟩
     .exact⟨oM,hm,λe=>by have:=g _ e;omega⟩
    replace a5:TermR (Gl w1.heap.size w8 lv) w8 v8 t8:=a5.weaken λx d B=>hB E T d B;refine l2Bent_spec Z (λx d=>by have:=hF x d;omega) a5 (λx d e=>by have:=d.1;omega) (λx d=>d.2.1) oM oM λI p9 v9 t9 ak aw ag a6 bu=>?_;have bg:=ak.size;replace a6:TermR (Gl w1.heap.size I lv) I v9 t9:=a6.weaken λx d B=>hB (gO E T) bg d B;obtain⟨X,rfl,J⟩:=a6.cells;have U:=(f.trans o).trans ak;have R:=ho.same U λx d e=>by have:=g x d;omega
    refine gA R ?_;refine own_stEl R oM (zR J) (one_tms (css:=[X]) (ks:=[t9]) rfl (λi hi=>by
     have:i=0:=(by simpa using hi);subst this;exact J) X (by simp)) eg oM λw10 ac z bi=>?_
    refine s (ts9:=ts.set 0 t9) (same_news (s6.trans U) (z.mono λx _ d=>by have:=g x d;omega)) (aw.same z (λe=>by have:=g _ e;omega) (λx d _ e=>by have:=hF x d;have:=g x e;omega)) oM ((d6.same U λx d _ e=>oM).same z (λx d _ e=>by have:=g x e;omega)) ⟨css.set 0 X,ac,by simp[ay],af,λi hi=>?_⟩ (by simp;omega);rw[GQ] at hi;rw[q0,Pu,q0 (l:=ts.set 0 t9),Pu];by_cases e0:0=i
    .subst e0;rw[K3 rfl,K3 rfl,K3 oM,K3 oM];exact(J.same z λx d _ e=>d.2.2 e).weaken λx d _=>⟨d.1,by have:=d.2.1;omega,d.2.2⟩
    .rw[X0 e0,X0 e0,<-q0,<-q0];exact(((a8 i hi).same U λx d _ e=>by have:=d.1;omega).same z λx d _ e=>d.2.2 e).weaken λx d _=>⟨d.1,by have:=d.2.1;omega,d.2.2⟩
   .exact s s6 q oM d6 O oM
  .exact s s6 q oM d6 O oM
end
section
variable {w:World} {K:oK} {D F F' G Fr Fx Fy X:oA} {n N b:Nat} {gs:M.Gs} {v dv tv lv:Value} {ls ls':List Value} {xss yss:List (oI)} {xs ys:oI} {ds:List M.Dcl} {t:M.Tm} {ts:List M.Tm} {ar ab:Addr} {k m:Int} {st:Option M.Gs}
theorem lit_row {w2:World} {us:oI} {xs:List Value} {K:oK} (m:xs=us.map (λx=>nI x)) (g:us.length<=8) (k:RowsR N (λb=>b<w2.heap.size) w2 ls xss) (j:ls.length=xss.length)
  (h:∀a v,Ext w2 a->RowsR N (λb=>b<a.heap.size) a (ls++[v]) (xss++[us])->(∃o l c,v= .slice o l c)->K v a):vbuildS zf xs.length (xs.zipIdx.map λp=>(p.2,p.1)) w2 K:=by
 refine lit_ints m g λa b3 i d n e=>?_;refine h a _ d (RowsR.new (k.weaken λb q _ _=>oM) j d e (λb f=>?_) λb f=>e.lt f) ⟨_,_,_,rfl⟩;have:b=b3:=(gh f).symm;omega
theorem lits_fin {w2:World} {xs:List Value} (g:xs.length<=8) (k:xs.length=xss.length) (m:∀x,x∈xs->∃o l c,x= .slice o l c) (f:RowsR N (λb=>b<w2.heap.size) w2 xs xss) (h:∀w' v,Ext w2 w'->Fresh N w' v xs xss->K v w'):
  vbuildS zJ xs.length (xs.zipIdx.map λp=>(p.2,p.1)) w2 K:=by
 refine lit_lists m g λq b3 j a n d=>?_;have s:=f.nle;refine h q _ a ⟨d,k,λb i=>?_,?_⟩
 .have:b=b3:=(gh i).symm;omega
 .exact(f.ext a).weaken λb r _ _ e=>by
   have:b3=b:=gh e;omega
theorem gl_xor {a b k:Int} {K:oK} (u:∀w' v ls,Ext w w'->Fresh w.heap.size w' v ls [[a,b,-k],[-a,-b,-k],[-a,b,k],[a,-b,k]]->ls.length=4->K v w'):
  vbuildS zf 3 [(0,nI a),(1,nI b),(2,nI (-k))] w λt1 w1=>vbuildS zf 3 [(0,nI (-a)),(1,nI (-b)),(2,nI (-k))] w1 λt2 w2=>
   vbuildS zf 3 [(0,nI (-a)),(1,nI b),(2,nI k)] w2 λt3 A=>vbuildS zf 3 [(0,nI a),(1,nI (-b)),(2,nI k)] A λt4 B=>vbuildS zJ 4 [(0,t1),(1,t2),(2,t3),(3,t4)] B K:=by
 refine lit_row (N:=w.heap.size) (ls:=[]) (xss:=[]) (xs:=[nI a,nI b,nI (-k)]) (us:=[a,b,-k]) rfl (by simp) (RowsR.nil (gy _)) rfl λC v9 o p q=>?_;refine lit_row (xs:=[nI (-a),nI (-b),nI (-k)]) (us:=[-a,-b,-k]) rfl (by simp) p rfl λw10 v10 c h l=>?_;refine lit_row (xs:=[nI (-a),nI b,nI k]) (us:=[-a,b,k]) rfl (by simp) h rfl λy v11 d i m=>?_;refine lit_row (xs:=[nI a,nI (-b),nI k]) (us:=[a,-b,k]) rfl (by simp) i rfl λz v12 e j n=>?_;refine lits_fin (xs:=[v9,v10,v11,v12]) (by simp) rfl (λx t=>?_) j λs r f g=>u s r _ (o.trans (c.trans (d.trans (e.trans f)))) g rfl;simp only[gm,gC,Gi] at t;rcases t with rfl|rfl|rfl|rfl
 .exact q
 .exact l
 .exact m
 .exact n
theorem gl_and {a b k:Int} {K:oK} (r:∀w' v ls,Ext w w'->Fresh w.heap.size w' v ls [[a,-k],[b,-k],[-a,-b,k]]->ls.length=3->K v w'):
  vbuildS zf 2 [(0,nI a),(1,nI (-k))] w λt1 w1=>vbuildS zf 2 [(0,nI b),(1,nI (-k))] w1 λt2 w2=>
   vbuildS zf 3 [(0,nI (-a)),(1,nI (-b)),(2,nI k)] w2 λt3 t=>vbuildS zJ 3 [(0,t1),(1,t2),(2,t3)] t K:=by
 refine lit_row (N:=w.heap.size) (ls:=[]) (xss:=[]) (xs:=[nI a,nI (-k)]) (us:=[a,-k]) rfl (by simp) (RowsR.nil (gy _)) rfl λu v9 l m n=>?_;refine lit_row (xs:=[nI b,nI (-k)]) (us:=[b,-k]) rfl (by simp) m rfl λw10 v10 c g i=>?_;refine lit_row (xs:=[nI (-a),nI (-b),nI k]) (us:=[-a,-b,k]) rfl (by simp) g rfl λs v11 d h j=>?_;refine lits_fin (xs:=[v9,v10,v11]) (by simp) rfl (λx q=>?_) h λp o e f=>r p o _ (l.trans (c.trans (d.trans e))) f rfl;simp only[gm,gC,Gi] at q;rcases q with rfl|rfl|rfl
 .exact n
 .exact i
 .exact j
structure CnfS (N b:Nat) (w:World) (m:Int) (lv:Value) (ls:List Value) (xss:List (oI)):Prop where
 blk:Blk w b [nI m,lv] zq
 own:OwnV zJ w lv ls
 len:ls.length=xss.length
 rows:RowsR N (λx=>lv.ownBlock≠some x/\x≠b) w ls xss
 new:∀x,lv.ownBlock=some x->N<=x/\x≠b
 lo:N<=b
theorem CnfS.ext {w':World} (h:CnfS N b w m lv ls xss) (he:Ext w w'):CnfS N b w' m lv ls xss:=⟨h.blk.ext he,h.own.ext he,h.len,h.rows.ext he,h.new,h.lo⟩
theorem kP0 (h:RowsR N Fr w ls xss) (d:ls.length=xss.length):∀u,u∈ls->u.oneCell'=true:=λu hu=>by
 obtain⟨j,b,rfl⟩:=gx hu;have a:=h.own j (by rw[<-d];exact b);obtain⟨o,c,e,_⟩:=a.ints.shape;rw[q0,gj b,Gr] at e;rw[e];rfl
theorem CnfS.add {q:World} {v9:Value} {M:Nat} {K:oK} (h:CnfS N b w m lv ls xss) (he:Ext w q) (n:Fresh M q v9 ls' yss) (V:w.heap.size<=M) (a:ls.length<=100000) (B:ls'.length<=1000)
  (J:∀w' F,Same (λx=>x=b\/lv.ownBlock=some x) q w'->CnfS N b w' m F (ls++ls') (xss++yss)->K undef w'):
  vbi .append [zJ,zJ] zJ [lv,v9] q λt w1=>zI zJ (oP b 1) t w1 K:=by
 have z9:=he.size;have Q:=h.blk.lt;have A:∀x,lv.ownBlock=some x->x<w.heap.size:=λx p=>h.own.lt p;refine OwnV.app (us:=ls') (h.own.ext he) Y6 n.own.vals (kP0 n.rows n.len) oM oM λv10 w10 g d k=>?_;have T:=d.size;have s:=(h.blk.ext he).same d λe=>(h.new _ e).2 rfl;refine s.st (i:=1) (v:=v10) ?_ ?_ Qv (by rfl) λG f H u=>?_
 .obtain⟨o,c,e,_⟩:=g.vals.shape;rw[e];rfl
 .obtain⟨o,c,e,_⟩:=g.vals.shape;rw[e];rfl
 have U:=f.size;have y:=h.rows.ext he;have C:=y.nle;have E:RowsR N (λx=>lv.ownBlock≠some x/\x≠b) q ls' yss:=by
  have a:=n.rows;refine⟨C,a.own,λj x O p=>?_,a.dj⟩;have B:=(a.sub j x O p).2;have:=h.rows.nle;exact⟨⟨λe=>by have:=A x e;omega,λe=>oM⟩,oM⟩
 have D:=y.app h.len E n.len λR S x a B L e=>by
  have:=(h.rows.own R a).lt L;have:=(n.rows.sub S x B e).2;omega
 have l:∀x,v10.ownBlock=some x->N<=x/\x≠b:=λx p=>by
  rcases k x p with r|r
  .exact h.new x r
  .exact⟨oM,λe=>oM⟩
 refine J G v10 ((d.mono λx _ h=> .inr h).trans (f.mono λx _ h=> .inl h)) ⟨u,g.same f λx p e=>(l x p).2 e,by rw[gd,gd,h.len,n.len],?_,l,h.lo⟩;have z:=D.weaken (F':=λx=>(lv.ownBlock≠some x/\x≠b)/\x<q.heap.size) λx a _ I=>⟨a,I⟩;refine((z.same d λx a _ e=>a.1.1 e).same f λx a _ e=>a.1.2 e).weaken λx a _ _=>⟨λe=>?_,a.1.2⟩;rcases k x e with r|r
 .exact a.1.1 r
 .omega
theorem CnfS.out {b2:Nat} {a0 c0:Value} {K:oK} (h:CnfS N b w m lv ls xss) (p:Blk w b2 [a0,c0] zq) (u:b2<N) (q:∀w',Same (· =b2) w w'->CnfO N w' lv ls ⟨m,xss⟩->K (.agg ⟨[nI m,lv]⟩) w'):
  zt zq (oP b 0) w λt45 g=>zI zq (oP b2 0) t45 g λ_ i=>vlv zq (oP b2 0) i K:=by
 obtain⟨o,c,f,_⟩:=h.own.vals.shape;generalize (ls.map λx=>[x]).length=l at f;subst f;rw[h.blk.ldAgg (t:=zq) zD];refine p.stAgg (cs':=[nI m,.slice o l c]) rfl zD net_one λs d r j=>?_;rw[j.lv (t:=zq) zD];refine q s d ⟨h.own.same d λx k e=>by have:=(h.new x k).1;omega,h.len,λx k=>(h.new x k).1,?_⟩;have a:=(h.rows.weaken (F':=λx=>(Value.slice o l c).ownBlock≠some x/\N<=x) λx a n _=>⟨a.1,n⟩).same d λx a _ e=>by have:=a.2;omega
 exact a.weaken λx a _ _=>a.1
theorem l6Many_spec {x:Value} (e:GatesR Fx w x gs) (j:n<=8) (i:gs.length<=600) (f:∀w',Ext w w'->K (nI (1+n+gs.length:Nat)) w'):vcall WS #[.agg ⟨[nI n,x]⟩] w K:=by
 refine ze {} Tryz.func130 ?_;obtain⟨o,c,d,_⟩:=e.shape;have hlen:∀(w':World) (K:oK),vbi .len [zz] zV [x] w' K=K (nI gs.length) w':=λw' K=>by rw[Sl.len e qa,xF0]
 generalize (gs.map yf).length=l at d;subst d;refine zl λb1 w1 g b h a=>?_;simp(disch:=exact oS) only[push_cast,a.ld0,a.ld1,hlen,zj];have:=f w1 b;simp only[push_cast] at this;exact this
theorem l6Cnf_spec {x:Value} (L:GatesR Fx w x gs) (hg:M.NetG n gs) (hn:n<=8) (hK:∀w' lv ls,Ext w w'->CnfO w.heap.size w' lv ls (M.netC n gs [])->K (.agg ⟨[nI (1+n+gs.length:Nat),lv]⟩) w'):vcall zT0 #[.agg ⟨[nI n,x]⟩] w K:=by
 refine ze {loops:=[(3,[4])]} Tryz.func105 ?_;have V:=hg.few;have af:=L.shape;obtain⟨o,c,hv,_⟩:=af;have hlen:∀(w':World) (K:oK),vbi .len [zz] zV [x] w' K=K (nI gs.length) w':=λw' K=>by rw[Sl.len L qa,xF0]
 generalize (gs.map yf).length=l at hv;subst hv;refine zl λb1 w1 aj S an a3=>?_;refine zi xp λb2 w2 ak F ao a4=>?_;have e2:=S.trans F;have z:=a3.ext F;rw[z.ldAgg (t:=zw) zY];refine l6Many_spec (Sl.ext L e2) hn V λw3 q=>?_;have e3:=e2.trans q;have z1:=S.size;have z2:=F.size;have z3:=q.size;obtain⟨m,hm⟩:∃m:Int,m=(1+n+gs.length:Nat):=⟨_,rfl⟩;rw[<-hm];refine lit_row (N:=w3.heap.size) (ls:=[]) (xss:=[]) (xs:=[nI 1]) (us:=[1]) rfl (by simp) (RowsR.nil (gy _)) rfl λw4 v4 T ab ac=>?_;refine lits_fin (xs:=[v4]) (xss:=[[1]]) (by simp) rfl (λy s=>by rw[gB.1 s];exact ac) ab λw5 v5 U j=>?_;have z4:=T.size;have z5:=U.size;obtain⟨Q,D,Z,_⟩:=j.own.vals.shape;generalize ([v4].map λx=>[x]).length=O at Z;subst Z;rw[show ∀K:oK,yl zq [(0,nI m),(1,.slice Q O D)] w5 K=K (.agg ⟨[nI m,.slice Q O D]⟩) w5 from λK=>zS J9 (us:=[[nI m],[.slice Q O D]]) rfl rfl];refine zi xp λb6 w6 al a7 ap a5=>?_;refine a5.stAgg (cs':=[nI m,.slice Q O D]) rfl zD net_one λw7 ad aq a6=>?_;have E:Ext w5 w7:=Ext.then a7 ad λy s=>by subst s;omega
 have a0:∀b,(Value.slice Q O D).ownBlock=some b->b<w5.heap.size:=λb hb=>j.own.lt hb;have h0:CnfS w3.heap.size b6 w7 m (.slice Q O D) [v4] [[1]]:=
  ⟨a6,j.own.ext E,rfl,((j.rows.weaken (F':=λx=>(Value.slice Q O D).ownBlock≠some x/\x≠b6) λx h1 _ h3=>⟨h1,oM⟩).ext E),λx L=>⟨j.new x L,by have:=a0 x L;omega⟩,oM⟩
 have a2:=T.trans (U.trans E);refine vloop_up gs.length (λi u w'=>u=[nI i]/\Ext w3 w'/\∃lv ls,CnfS w3.heap.size b6 w' m lv ls ([1]::M.gatesC n (gs.take i) 0)) ⟨rfl,a2,_,_,h0⟩ ?_;rintro i _ _ v C hi ⟨rfl,e,lv,ls,A⟩ hC;have d:=(z.ext q).ext e;have r:GatesR Fx v (.slice o l c) gs:=Sl.ext L (e3.trans e);simp(disch:=exact oS) only[push_cast,d.ld0,d.ld1,hlen];refine zb (λa=>?_) (λa=>?_)
 .have k:i<gs.length:=oM;obtain⟨ha,hb⟩:=gpos hg hn k;have a8:=gatesC_take (n:=n) k;have H:(gs.map yf).getD i []=yf gs[i]:=yw0 k;have J:i<(gs.map yf).length:=by rw[V0];exact k
  generalize gs[i]=g at*;have l0:∀K:oK,zt xC (.pointer (some ((eaddr (.slice o l c) 3 i).add 0))) v K=K (.bool g.x) v:=λK=>Sl.ldField r ZK0 J (by rw[H];rfl);have l1:∀K:oK,zt zV (.pointer (some ((eaddr (.slice o l c) 3 i).add 1))) v K=K (nI g.a) v:=λK=>Sl.ldField r WF J (by rw[H];rfl);have l2:∀K:oK,zt zV (.pointer (some ((eaddr (.slice o l c) 3 i).add 2))) v K=K (nI g.b) v:=λK=>Sl.ldField r WF J (by rw[H];rfl);simp(disch:=first|(simp only[push_cast])|(simp only[V0];omega)|omega) only[push_cast,d.ld0,d.ld1,r.iaddr,l0,l1,l2,zj];have hk:(2+(n:Int)+i).natAbs<=100000:=oM;have am:ls.length<=2401:=by
   have h1:=Zp n (gs.take i) 0;have h2:(gs.take i).length=i:=by rw[gi];omega
   rw[A.len,gH];omega
  have ar:=e.size;have W:∀{ys:List (oI)},M.gateC (2+n+i) g=ys->[1]::M.gatesC n (gs.take i) 0++ys=[1]::M.gatesC n (gs.take (i+1)) 0:=λh=>by rw[a8,<-h];rfl
  have fin:∀{p w10:World} {v9:Value} {ls':List Value} {ys:List (oI)},Ext v p->Fresh v.heap.size p v9 ls' ys->ls'.length<=4->M.gateC (2+n+i) g=ys->vbi .append [zJ,zJ] zJ [lv,v9] p λt w1=>zI zJ (oP b6 1) t w1 λ_ a1=>C [nI ((i:Int)+1)] a1:=λ{p w10 v9 ls' ys} f hf h4 ag=>by
   refine A.add f hf (gy _) oM oM λau ai Y B=>?_;refine hC k _ _ ⟨by simp,Ext.then (e.trans f) Y λy s=>?_,ai,ls++ls',?_⟩
   .rcases s with rfl|s
    .exact A.lo
    .exact(A.new y s).1
   .rw[W ag] at B;exact B
  refine zm (λI=>?_) (λI=>?_)
  .simp(disch:=exact oS) only[push_cast,A.blk.ld1,neg_wrap ha,neg_wrap hb,neg_wrap hk];simp only[Gf];exact gl_xor λp v9 ah f G h4=>fin (w10:=p) f G oM (by unfold M.gateC;rw[K3 I])
  .simp(disch:=exact oS) only[push_cast,A.blk.ld1,neg_wrap ha,neg_wrap hb,neg_wrap hk];simp only[Gf];exact gl_and λp v9 ah f G h4=>fin (w10:=p) f G oM (by unfold M.gateC;rw[X0 (by simp[I])])
 .have a9:i=gs.length:=oM;subst a9;rw[gG] at A;have R:=(a4.ext q).ext e;refine A.out R oM λp ae hO=>?_;have X:Ext w p:=Ext.then (e3.trans e) ae λy s=>by subst s;omega
  rw[hm];refine hK p lv ls X ?_;have h1:=hO.down (M:=w.heap.size) oM;unfold M.netC;have aa:(1+n+gs.length:Int)=m:=by rw[hm];simp
  rw[gI,aa];exact h1
theorem CnfS.of {c:M.Cnf} {K:oK} (h:CnfO N w lv ls c) (n:∀w' b,b=w.heap.size->Ext w w'->CnfS N b w' c.many lv ls c.list->K (oP b 0) w'):
  xU zq w λt4 w1=>zI zq t4 (.agg ⟨[nI c.many,lv]⟩) w1 λ_ w2=>K t4 w2:=by
 obtain⟨o,cc,d,_⟩:=h.lst.vals.shape;generalize (ls.map λx=>[x]).length=l at d;subst d;have t:=h.rows.nle;refine zi xp λb w1 g i q f=>?_;refine f.stAgg (cs':=[nI c.many,.slice o l cc]) rfl zD net_one λw2 k r m=>?_;have a:Ext w w2:=Ext.then i k λy p=>by subst p;omega
 have j:∀x,(Value.slice o l cc).ownBlock=some x->x<w.heap.size:=λx e=>h.lst.lt e;exact n w2 b g a ⟨m,h.lst.ext a,h.len,(h.rows.weaken (F':=λx=>(Value.slice o l cc).ownBlock≠some x/\x≠b) λx f _ s=>⟨f,oM⟩).ext a,λx e=>⟨h.dl x e,by have:=j x e;omega⟩,oM⟩
theorem l8All_spec (l:zl0 ds) (q:DclsR Fx w dv ds) (o:TmsR Fy w tv ts) (p:∀w',Ext w w'->K (.bool (Jb ds ts)) w'):vcall zI0 #[dv,tv] w K:=by
 refine ze {loops:=[(4,[5])],cuts:=[(8195,[])]} Tryz.func65 ?_;have z:=o.small;have no: ¬(ts.length<=8/\M.declOk ds=true/\∀t,t∈ts->M.tsort ds t=0)->∀w',Ext w w'->K (.bool false) w':=λh w' he=>by
  have:=p w' he;rwa[show Jb ds ts=false by rw[G0];exact λe=>h (all8_iff.1 e)] at this
 refine zo (λu w'=>u=[]/\Ext w w'/\M.declOk ds=true/\ts.length<=8) (λJ y=>?_) ?_
 .refine spec_DeclOk_spec q l λw1 b=>?_;refine oZ ?_;refine zm (λh=>no (λe=>by rw[e.2.1] at h;cases h) _ b) (λh=>?_);simp only[push_cast,(o.ext b).len];refine zb (λr=>no (λe=>by have:=e.1;omega) _ b) (λr=>y _ _ ⟨rfl,b,by simpa using h,oM⟩)
 rintro _ _ w1 ⟨rfl,b,n,s⟩;refine vloop_up ts.length (λi u w'=>u=[nI i]/\Ext w w'/\∀j,j<i->M.tsort ds (ts.getD j default)=0) ⟨rfl,b,λj m=>absurd m oM⟩ ?_;rintro i _ _ w2 C hi ⟨rfl,c,d⟩ v;have g:=o.ext c;simp only[push_cast,g.len];refine zb (λa=>?_) (λa=>?_)
 .have f:i<ts.length:=oM;simp(disch:=exact oS) only[push_cast,g.iaddr];refine g.load zc f λx A=>?_;refine spec_TermSort_spec l (q.ext c) A λB k=>?_;refine oZ ?_;refine zb (λh=>no (λe=>h (e.2.2 _ (M.getD_mem f _))) _ (c.trans k)) (λh=>?_);rw[inc64' oM];refine v f _ _ ⟨rfl,c.trans k,λj m=>?_⟩;by_cases e:j<i
  .exact d j e
  .have:j=i:=oM;subst this;exact Gj h
 .have:=p w2 c;rwa[all8_iff.2 ⟨s,n,λt hm=>by
   obtain⟨j,m,rfl⟩:=gx hm;have:=d j oM;rwa[q0,gj m] at this⟩] at this
def Qa (rs:List (oI)):oI:=rs.map λr=>r.getD 0 0
theorem l8Cnf_spec (ad:Jb ds ts=true) (hd:DclsR Fx w dv ds) (ht:TmsR Fy w tv ts)
  (hK:∀w' lv ls,Ext w w'->CnfO w.heap.size w' lv ls (cnfE ds ts).1->K (.tuple #[.agg ⟨[nI (cnfE ds ts).1.many,lv]⟩,.bool (decide ((cnfE ds ts).2=0))]) w'):vcall zH0 #[dv,tv] w K:=by
 refine ze {loops:=[(4,[7,8]),(13,[11])]} Tryz.func83 ?_;obtain⟨h8,E,Y⟩:=all8_iff.1 ad;obtain⟨bn,an⟩:=bits_nat E;have ch:=ht.small;refine zi xp λb4 w1 ca a6 bw aj=>?_;refine sbits8_spec (k:=ds.length) E (gy _) (by rw[gG];exact hd.ext a6) λw2 a7=>?_;rw[M.bitT_all,bn];simp only[push_cast,k20,Yo0];have e2:=a6.trans a7;refine zi xx λL w3 cc ao ci bl=>?_;have ay:MkR (M.bits ds).toNat (λb=>b=L) w3 [nI ((M.bits ds).toNat:Nat),oN,.bool true] (some []):=⟨none,0,0,rfl,GatesR.nil,by simp⟩;refine bl.stAgg (cs':=[nI ((M.bits ds).toNat:Nat),oN,.bool true]) rfl j4 ay.one λw4 bu cj V=>?_;have bj:Ext w2 w4:=Ext.then ao bu λy v=>by subst v;omega
 have z1:=a6.size;have z2:=a7.size;have z3:=ao.size;refine y6 x6 yG λb5 w5 cb ap ck bk=>?_;have ah:=bj.trans ap;have e5:=e2.trans ah;have bt:OwnI zf w5 (.slice (some ⟨b5,0,none⟩) 0 0) []:=Blk.own1 (t:=zf) (cs:=[]) (by rw[qu];exact bk) (gS _) rfl rfl oM;have cm:=V.lt;have bf:∀b,(Value.slice (some ⟨b5,0,none⟩) 0 0).ownBlock=some b->b=b5:=λb q=>(gh q).symm;have az:MkR (M.bits ds).toNat (λb=>b=L\/(Value.slice (some ⟨b5,0,none⟩) 0 0).ownBlock=some b) w5 [nI ((M.bits ds).toNat:Nat),oN,.bool true] (some []):=⟨none,0,0,rfl,GatesR.nil,by simp⟩;refine vloop_up ts.length (λi u w'=> ∃mv cs st rs,u=[mv,nI i]/\Ext w2 w'/\Blk w' L cs zA/\MkR (M.bits ds).toNat (λb=>b=L\/mv.ownBlock=some b) w' cs st/\M.Bd.Out (M.bits ds).toNat (M.seqB ((ts.take i).map (M.termB ds))) (some []) st rs/\rs.length=i/\OwnI zf w' mv (Qa rs)/\∀b,mv.ownBlock=some b->w2.heap.size<=b/\b≠L)
  ⟨_,_,some [],[],rfl,ah,V.ext ap,az,.inl ⟨[],rfl,rfl⟩,rfl,bt,λb q=>by have:=bf b q;omega⟩ ?_
 rintro i _ _ w6 C hi ⟨mv,cs,st,rs,rfl,O,d,H,m,T,S,R⟩ hC;have e6:=e2.trans O;have ba:=ht.ext e6;simp only[push_cast,ba.len];have z26:=O.size;refine zb (λa=>?_) (λa=>?_)
 .have D:i<ts.length:=oM;refine y6 x6 yG λb7 w7 cd a8 bx am=>?_;refine zd λw8 a9 _=>?_;have s:=a8.trans a9;have cq:=s.size;have bb:=ba.ext s;have ak:=d.ext s;have br:∀{w':World} {cs:List Value},cs.length=3->Blk w' L cs zA->∀K:oK,zt zA (oP L 0) w' K=K (.agg ⟨cs⟩) w':=λh3 h K=>h.ldAgg (t:=zA) (by rw[h3];exact j4);rw[br H.len ak];simp(disch:=exact oS) only[push_cast,bb.iaddr,Q1];refine bb.load zc D λx hx=>?_;have hD:∀b,(b=L\/mv.ownBlock=some b)->b<w8.heap.size:=λb q=>q.elim (λe=>by have:=d.lt;omega) λh=>by have:=S.lt h;omega
  obtain⟨af,_,c9⟩:=XL (Y _ (M.getD_mem D default));refine⟨rfl,sdo8_spec E an _ (by rw[af];decide) (H.ext s λb h _=>h) hD (hd.ext (e6.trans s)) hx λw9 a4 bg r zs aq Q bz c7 b1=>?_⟩;have p:=s.trans aq;have z9:=aq.size;have bc:=(out_lens E (by rw[af];decide) b1).1;have bw:zs.length=1:=by rw[bc,af];rfl
  simp only[push_cast,Q1,gn];have al:=d.ext p;have bd:=d.lt;refine al.stAgg (cs':=a4) (by rw[Q.len,H.len]) (by rw[Q.len];exact j4) Q.one λw10 n c8 ai=>?_;have J:Ints (New w8) w10 r zs:=bz.same n λb q _ e=>by have:w8.heap.size<=b:=q;omega
  have av:=Q.same n λb q=> .inl q;simp(disch:=exact oS) only[push_cast,Q1,gn,J.iaddr,J.load];refine spec_one λbh cn f b0 c5=>?_;have ae:OwnI zf bh mv (Qa rs):=((S.ext p).same n λb q e=>(R b q).2 e).ext f;have ax:(Qa rs).length=i:=by unfold Qa;rw[V0,T]
  refine ae.app (ys:=[zs.getD 0 0]) xt b0.ints (by simp only[Ga];omega) (by simp only[Ga];omega) λv12 bi a0 A Z=>?_
  try simp(disch:=omega) only[push_cast,zj]
  have cp:=f.size;have z12:=A.size;have c4:∀b,mv.ownBlock=some b->b<w6.heap.size:=λb q=>S.lt q;have aw:MkR (M.bits ds).toNat (λb=>b=L\/v12.ownBlock=some b) bi a4 bg:=
   (av.ext f λb h _=>h).swap A (λb q=> .inr q) λb q hl=>q.elim .inl λh=>(Z b h).elim .inr λh2=>oM
  refine hC D _ _ ⟨v12,a4,bg,rs++[zs],by simp,?_,((ai.ext f).same A λe=>(R _ e).2 rfl),aw,?_,by rw[gd,T];rfl,?_,λb q=>?_⟩
  .exact Ext.then ((Ext.then (O.trans p) n λy v=>by subst v;omega).trans f) A λy v=>(R y v).1
  .rw[M.take_add D default,gD];exact xA0 m b1
  .unfold Qa at a0⊢;rw[gD];exact a0
  .rcases Z b q with h|h
   .exact R b h
   .exact⟨oM,λe=>oM⟩
 .have D:i=ts.length:=oM;subst D;rw[gG] at m;have U:=aj.ext (a7.trans O);have cl:=aj.lt;have bd:=d.lt;cases st with
  |none=>
   have bo:cs=[nI 0,oN,.bool false]:=H;subst bo;have bs:M.listB ds ts=none:=by
    rcases m with⟨g,q1,q2⟩|⟨q1,q2,_⟩
    .cases q2
    .exact q1
   have a5:cnfE ds ts=(⟨0,[]⟩,1):=by unfold cnfE;rw[K3 ad,bs]
   simp(disch:=exact oS) only[push_cast,d.ld1,d.ld2,Pt];rw[k50];refine U.stAgg (cs':=[nI 0,oN]) rfl zD net_one λw7 bv bx am=>?_;rw[am.lv (t:=zq) zD];have m:Ext w w7:=Ext.then e6 bv λy v=>by subst v;omega
   have:=hK w7 (oN) [] m;rw[a5] at this;exact this (xL0 m.size)
  |some gs=>
   obtain⟨o,l,c,rfl,bp,ce⟩:=H;have a3:M.listB ds ts=some (gs,rs):=by
    rcases m with⟨g,q1,q2⟩|⟨q1,q2,_⟩
    .cases q2;exact q1
    .cases q2
   have a2:=M.list_net E (λt ht=>by rw[(XL (Y t ht)).1];decide) a3;have a5:cnfE ds ts=(M.blastC ds gs rs,0):=by unfold cnfE;rw[K3 ad,a3]
   simp(disch:=exact oS) only[push_cast,d.ld1,d.ld2,GW];rw[Blk.ldTake (us:=[nI ((M.bits ds).toNat:Nat),.slice o l c]) (r:=[.bool true]) d zY];refine l6Cnf_spec bp a2.net an λw7 lv ls a8 hO=>?_;refine CnfS.of (c:=M.netC (M.bits ds).toNat gs []) hO λw8 b8 c2 a9 hS=>?_;have cg:=Zp (M.bits ds).toNat gs 0;have c3:=a2.net.few;have c6:(M.netC (M.bits ds).toNat gs []).list.length<=2401:=by
    show([1]::(M.gatesC _ gs 0++[])).length<=2401;rw[gI,gH];omega
   have ac:(M.netC (M.bits ds).toNat gs []).many=(M.blastC ds gs rs).many:=rfl;have ab:(M.netC (M.bits ds).toNat gs []).list++M.rootsC rs=(M.blastC ds gs rs).list:=by
    show([1]::(M.gatesC _ gs 0++[]))++M.rootsC rs=[1]::(M.gatesC _ gs 0++M.rootsC rs);rw[gI];rfl
   generalize M.netC (M.bits ds).toNat gs []=c0 at*;have s:=a8.trans a9;have ax:(Qa rs).length=ts.length:=by unfold Qa;rw[V0,T]
   refine vloop_up ts.length (λj u w'=>u=[nI j]/\Ext w6 w'/\∃lv ls,CnfS w6.heap.size b8 w' c0.many lv ls (c0.list++M.rootsC (rs.take j))) ⟨rfl,s,lv,ls,by simpa[M.rootsC] using hS⟩ ?_;rintro j _ _ w9 C2 hj ⟨rfl,p,c1,ag,B⟩ bm;have a1:=(S.ext p).ints;simp only[push_cast,a1.len,ax];refine zb (λa=>?_) (λa=>?_)
   .have au:j<rs.length:=oM;have aa:(Qa rs).getD j 0=(rs.getD j []).getD 0 0:=by
     unfold Qa;rw[M.getD_map (λr:oI=>r.getD 0 0) au 0 []]
    refine zd λw10 F _=>?_;have z:=B.ext F;have I:=a1.ext F;simp(disch:=exact oS) only[push_cast,z.blk.ld1,I.iaddr,I.load,Q1];rw[aa];refine lit_row (N:=w10.heap.size) (ls:=[]) (xss:=[]) (xs:=[nI ((rs.getD j []).getD 0 0)]) (us:=[(rs.getD j []).getD 0 0]) rfl (by simp) (RowsR.nil (gy _)) rfl λbh v11 f b2 b3=>?_;simp(disch:=exact oS) only[push_cast,(z.ext f).blk.ld1,Q1,gn];refine lits_fin (xs:=[v11]) (xss:=[[(rs.getD j []).getD 0 0]]) (by simp) rfl (λy v=>by rw[gB.1 v];exact b3) b2 λbi v12 G ar=>?_;simp(disch:=exact oS) only[push_cast,((z.ext f).ext G).blk.ld1,Q1,gn];have cf:ag.length<=3000:=by
     rw[B.len,gd];unfold M.rootsC;rw[V0,gi];omega
    refine z.add (f.trans G) ar (gy _) oM (by simp) λco be b9 X=>?_
    try simp(disch:=omega) only[push_cast,zj]
    have z9:=p.size;refine bm oM _ _ ⟨by simp,Ext.then (p.trans (F.trans (f.trans G))) b9 λy v=>?_,be,ag++[v11],?_⟩
    .rcases v with rfl|v
     .exact B.lo
     .exact(B.new y v).1
    .rw[M.take_add au []];unfold M.rootsC at X⊢;rw[gD,<-gY];exact X
   .have bq:j=ts.length:=oM;subst bq;rw[<-T,gG,ab] at B;refine B.out (U.ext p) oM λw10 n W=>?_;have m:Ext w w10:=Ext.then (e6.trans p) n λy v=>by subst v;omega
    have:=hK w10 c1 ag m;rw[a5] at this;rw[ac] at W⊢;exact this ((W.down (by have:=e6.size;omega)))
end
end Go.Proofs.YtfjlkobhagjdaaaGreatDoor
namespace Go.Proofs.YtfjlkobhagjdaaaGreatDoor
open Go Go.Vc Go.Proofs Go.M
section
variable {w:World} {K:oK} {F Fr:oA}
def Sep (Fr:oA) (os:List (Option Nat)):Prop:=os.Pairwise (λa b=>∀x,a=some x->b≠some x)/\∀o,o∈os->∀x,o=some x->¬Fr x
structure TrailR (Fr:oA) (w:World) (bt many:Nat) (put:oI) (ds:List Bool) (vp vpl vl:Value):Prop where
 blk:Blk w bt [vp,vpl,vl] yu
 rp:OwnI zf w vp put
 rpl:OwnI zf w vpl (places many put)
 rl:OwnI zf w vl (levels ds)
 sep:Sep Fr [some bt,vp.ownBlock,vpl.ownBlock,vl.ownBlock]
 len:ds.length=put.length
 dis:Distinct put
 bnd:∀x,x∈put->x≠0/\x.natAbs<=many
 few:many<=700
def kY (bt:Nat) (vp vpl vl:Value) (b:Nat):Prop:=b=bt\/vp.ownBlock=some b\/vpl.ownBlock=some b\/vl.ownBlock=some b
section
variable {bt many:Nat} {put:oI} {ds:List Bool} {vp vpl vl:Value}
theorem TrailR.same {S:oA} {w':World} (h:TrailR Fr w bt many put ds vp vpl vl) (hw:Same S w w') (hs:∀b,kY bt vp vpl vl b->¬S b):TrailR Fr w' bt many put ds vp vpl vl:=
 ⟨h.blk.same hw (hs _ (.inl rfl)),h.rp.same hw λb a=>hs _ (.inr (.inl a)),h.rpl.same hw λb a=>hs _ (.inr (.inr (.inl a))),h.rl.same hw λb a=>hs _ (.inr (.inr (.inr a))),h.sep,h.len,h.dis,h.bnd,h.few⟩
theorem TrailR.ext {w':World} (h:TrailR Fr w bt many put ds vp vpl vl) (hw:Ext w w'):TrailR Fr w' bt many put ds vp vpl vl:=h.same hw λ_ _ h=>h
theorem nodup_le {m:Nat} {xs:List Nat} (b:xs.Nodup) (a:∀x,x∈xs->1<=x/\x<=m):xs.length<=m:=by
 have:=b.length_le_of_subset (l₂:=(List.range' 1 m)) λx c=>by rw[pZ];have:=a x c;omega
 simpa using this
theorem TrailR.few' (h:TrailR Fr w bt many put ds vp vpl vl):put.length<=many:=by
 have:=nodup_le (m:=many) h.dis λx a=>by
  obtain⟨y,b,rfl⟩:=gz.1 a;have:=h.bnd y b;omega
 simpa using this
theorem newTrail_spec (hm:many<=700) (i:∀b,Fr b->b<w.heap.size) (p:∀bt vp vpl vl w',Ext w w'->TrailR Fr w' bt many [] [] vp vpl vl->(∀b,kY bt vp vpl vl b->w.heap.size<=b)->K (oP bt 0) w'):
  vcall Kt #[nI many] w K:=by
 refine ze {} Tryz.func175 ?_;simp(disch:=omega) only[push_cast,zj];rw[show((many:Int)+1)=((many+1:Nat):Int) from by omega];refine vmkS_own (bs:=8) xt qu xn rfl oM oM λv1 w1 g c f=>?_;refine Yi yG0 (us:=[[v1]]) (by simp[g.vals.cells1]) rfl ?_;refine ye λb w2 q d _ n=>?_;have m:OwnI zf w2 v1 (places many []):=by rw[q40];unfold OwnI;rw[GP];exact g.ext d
 refine p b (oN) v1 (oN) w2 (c.trans d) ⟨n,OwnI.nil,m,OwnI.nil,⟨?_,?_⟩,rfl,pF,(λx a=>by cases a),hm⟩ ?_
 .have j:∀x,v1.ownBlock=some x->x<b:=λx a=>by have:=g.lt a;omega
  simp[Value.ownBlock];intro e;have:=j b e;omega
 .have k:=c.size;intro o l x a hF;have:=i x hF;simp only[gm,gC,Gi] at l;rcases l with rfl|rfl|rfl|rfl
  .cases a;omega
  .cases a
  .have:=f x a;omega
  .cases a
 .have k:=c.size;rintro x (rfl|h|h|h)
  .omega
  .cases h
  .exact f x h
  .cases h
theorem assigned_spec {l:Int} (h:TrailR Fr w bt many put ds vp vpl vl) (e:l.natAbs<=many) (d:∀w',Ext w w'->K (.bool (decide (placeOf put l.natAbs≠0))) w'):
  vcall ZP #[oP bt 0,nI l] w K:=by
 refine ze {} Tryz.func211 ?_;have g:=h.few;refine zd λw1 a _=>?_;have c:=h.ext a;have b:=c.rpl.ints;have f:=Z2 many put;simp only[push_cast,c.blk.ld1,Q1];refine variable_spec oM oM ?_;simp(disch:=exact oS) only[push_cast,c.blk.ld1,Q1,b.iaddr,b.load,gn,places_get e];have:=d w1 a;simpa using this
theorem isTrue_spec {l:Int} (h:TrailR Fr w bt many put ds vp vpl vl) (j:l.natAbs<=many) (g:∀w',Ext w w'->K (.bool (decide (l∈put))) w'):
  vcall Xd #[oP bt 0,nI l] w K:=by
 refine ze {} Tryz.func285 ?_;have o:=h.few;refine zd λw1 b _=>?_;refine assigned_spec (h.ext b) j λw2 c=>zb (λa=>?_) (λa=>?_)
 .have d:=h.ext (b.trans c);have k:=d.rp.ints;have f:=d.rpl.ints;have m:=Z2 many put;have hle:=placeOf_le put l.natAbs;have i:=h.few';simp(disch:=exact oS) only[push_cast,d.blk.ld0,d.blk.ld1,Q1];refine variable_spec oM oM ?_;simp(disch:=exact oS) only[push_cast,d.blk.ld0,d.blk.ld1,Q1,gn,f.iaddr,f.load,places_get j,zj];obtain⟨q,n⟩:∃q,placeOf put l.natAbs=q+1:=⟨placeOf put l.natAbs-1,oM⟩;rw[n,show(((q+1:Nat):Int)-1)=(q:Int) from by omega];simp(disch:=exact oS) only[push_cast,Q1,k.iaddr,k.load];rw[show q=placeOf put l.natAbs-1 from by omega];have:=g w2 (b.trans c);have e:l∈put↔put.getD (placeOf put l.natAbs-1) 0=l:=(mem_iff_place h.dis).trans ⟨λh=>h.2,λh=>⟨a,h⟩⟩;rwa[decide_eq_decide.2 e] at this
 .have:=g w2 (b.trans c);rwa[gk (λhm=>a (placeOf_ne_zero hm))] at this
theorem place_spec {l:Int} (h:TrailR Fr w bt many put ds vp vpl vl) (f:l.natAbs<=many) (e:∀w',Ext w w'->K (nI ((placeOf put l.natAbs:Int)-1)) w'):
  vcall XP #[oP bt 0,nI l] w K:=by
 refine ze {} Tryz.func286 ?_;have i:=h.few;refine zd λw1 a _=>?_;have c:=h.ext a;have b:=c.rpl.ints;have g:=Z2 many put;have hle:=placeOf_le put l.natAbs;have d:=h.few';simp only[push_cast,c.blk.ld1,Q1];refine variable_spec oM oM ?_;simp(disch:=exact oS) only[push_cast,c.blk.ld1,Q1,b.iaddr,b.load,gn,places_get f,zj];exact e w1 a
theorem level_spec {l:Int} (h:TrailR Fr w bt many put ds vp vpl vl) (i:l.natAbs<=many) (m:placeOf put l.natAbs≠0) (g:∀w',Ext w w'->K (nI (lvl ds (placeOf put l.natAbs-1))) w'):
  vcall XQ #[oP bt 0,nI l] w K:=by
 refine ze {} Tryz.func247 ?_;have n:=h.few;have e:=h.few';have hlen:=h.len;have hle:=placeOf_le put l.natAbs;refine zd λw1 a _=>?_;have c:=h.ext a;simp only[push_cast,c.blk.ld2,Q1];refine place_spec c i λw2 b=>?_;have d:=c.ext b;have f:=d.rl.ints;have k:=Yn ds;obtain⟨q,j⟩:∃q,placeOf put l.natAbs=q+1:=⟨placeOf put l.natAbs-1,oM⟩;rw[j,show(((q+1:Nat):Int)-1)=(q:Int) from by omega];simp(disch:=exact oS) only[push_cast,d.blk.ld2,Q1,f.iaddr,f.load,gn];rw[QT oM,show q=placeOf put l.natAbs-1 from by omega];exact g w2 (a.trans b)
theorem look_spec {v:Value} {c:oI} {F:oA} (h:TrailR Fr w bt many put ds vp vpl vl) (o:Ints F w v c) (r:∀l,l∈c->l.natAbs<=many)
  (q:∀w' b n x,Ext w w'->lookM put c 0 0=(b,n,x)->K (.tuple #[.bool b,nI n,nI x]) w'):
  vcall QI #[oP bt 0,v] w K:=by
 refine ze {loops:=[(2,[5,6,11])]} Tryz.func244 ?_;simp(disch:=exact oS) only[push_cast,o.len];have hlen:c.length<=9223372036854775807:=by obtain⟨_,_,_,s,A,_⟩:=o.shape;simp at s;omega
 refine vloop_up c.length (λi u w'=> ∃n x,u=[nI (n:Nat),nI x,nI i]/\Ext w w'/\n<=i/\lookM put (c.drop i) n x=lookM put c 0 0) ⟨0,0,rfl,Same.refl _ _,oM,rfl⟩ ?_;rintro i _ g w1 C hi ⟨n,x,rfl,he,B,e⟩ p;refine oZ ?_;refine zb (λz=>?_) (λy=>?_)
 .have k:=o.ext he;simp(disch:=exact oS) only[push_cast,k.iaddr,k.load];have t:=Z5 (d:=0) (show i<c.length by omega);have hm:c.getD i 0∈c:=getD_meS oM;rw[t,QR] at e;refine isTrue_spec (h.ext he) (r _ hm) λw2 f=>zb (λa=>?_) (λa=>?_)
  .rw[K3 a] at e;exact q w2 true 0 0 (he.trans f) e.symm
  .rw[X0 a] at e;refine assigned_spec (h.ext (he.trans f)) (r _ hm) λD j=>?_;refine oZ ?_;refine zm (λb=>?_) (λb=>?_)
   .have m:placeOf put (c.getD i 0).natAbs=0:=(by simpa using b);rw[K3 m] at e;simp(disch:=omega) only[push_cast,zj];exact p oM _ _ ⟨n+1,_,by simp,he.trans (f.trans j),oM,e⟩
   .have m: ¬placeOf put (c.getD i 0).natAbs=0:=(by simpa using b);rw[X0 m] at e;simp(disch:=omega) only[push_cast,zj];exact p oM _ _ ⟨n,_,by simp,he.trans (f.trans j),oM,e⟩
 .rw[Gm oM] at e;exact q w1 false n x he e.symm
end
end
section
variable {w:World} {K:oK} {F Fr:oA} {bt many:Nat} {put:oI} {ds:List Bool} {vp vpl vl:Value}
theorem next_spec {v:Value} {vs:List Value} {lls:List (List (oI))} (h:TrailR Fr w bt many put ds vp vpl vl) (J:Vals F w v vs) (hn:vs.length=lls.length) (hi:∀i,i<lls.length->Lists F w (vs.getD i undef) (lls.getD i []))
  (hl:∀c,c∈lls.flatten->∀l,l∈c->l.natAbs<=many) (a1:lls.flatten.length<=1000000)
  (M:∀w' k u x,Ext w w'->findM put lls.flatten 0 (-1) 0=(k,u,x)->K (.tuple #[nI k,nI u,nI x]) w'):
  vcall QH #[oP bt 0,v] w K:=by
 refine ze {loops:=[(4,[4,5,6,7,17]),(7,[4,5,6,7,23])]} Tryz.func207 ?_;simp(disch:=exact oS) only[push_cast,J.len];have hlen:vs.length<=9223372036854775807:=by obtain⟨_,_,_,A,R,_⟩:=J.shape;simp at A;omega
 refine vloop_up vs.length (λi u w'=> ∃(k:Nat) (b x:Int),u=[nI (-1),nI b,nI x,nI k,nI i]/\Ext w w'/\k+(lls.drop i).flatten.length=lls.flatten.length/\findM put (lls.drop i).flatten k b x=findM put lls.flatten 0 (-1) 0) ⟨0,-1,0,rfl,Same.refl _ _,by simp,rfl⟩ ?_;rintro i _ g w1 C Y ⟨k,b,x,rfl,he,O,a⟩ S;refine oZ ?_;refine zb (λa0=>?_) (λX=>?_)
 .have z:=J.ext he;obtain⟨cs,V,q,D⟩:=hi i oM;have s:=q.ext he;simp(disch:=exact oS) only[push_cast,z.iaddr,z.load,s.len];have G:cs.length<=9223372036854775807:=by obtain⟨_,_,_,A,R,_⟩:=q.shape;simp at A;omega
  have W:=Z5 (d:=[]) (show i<lls.length by omega);rw[W,GZ] at a O;have t:∀c,c∈lls.getD i []->c∈lls.flatten:=λc U=>List.mem_flatten.2 ⟨_,by rw[q0,gj oM];exact GY _,U⟩;generalize lls.getD i []=L at*;generalize (lls.drop (i+1)).flatten=T at*;rw[gd] at O;refine vloop_up cs.length (λj u w'=> ∃(o:Nat) (b x:Int),u=[nI (-1),nI b,nI x,nI o,nI j]/\Ext w w'/\o=k+j/\findM put (L.drop j++T) o b x=findM put lls.flatten 0 (-1) 0) ⟨k,b,x,rfl,he,oM,a⟩ ?_;rintro j _ g2 w2 C2 hj ⟨o,b,x,rfl,f,Z,a⟩ m;refine oZ ?_;refine zb (λQ=>?_) (λN=>?_)
  .have p:=q.ext f;simp(disch:=exact oS) only[push_cast,p.iaddr,p.load];have hm:L.getD j []∈L:=by rw[q0,gj oM];exact GY _
   rw[Z5 (d:=[]) (show j<L.length by omega),GR,findM_cons] at a;refine look_spec (h.ext f) ((D j oM).ext f) (hl _ (t _ hm)) λw3 b' n y E r=>?_;rw[r] at a;dsimp only at a;simp(disch:=omega) only[push_cast,zj];have e:=f.trans E;refine zm (λB=>?_) (λB=>?_)
   .rw[K3 B] at a;exact m oM _ _ ⟨o+1,_,_,by simp<;>exact⟨rfl,rfl⟩,e,oM,a⟩
   rw[X0 (by simp[B])] at a;refine zb (λH=>?_) (λH=>?_)
   .rw[K3 oM] at a;exact M w3 _ _ _ e a.symm
   rw[X0 oM] at a;refine zb (λI=>?_) (λI=>?_)
   .rw[K3 oM] at a;refine zb (λhu=>?_) (λhu=>?_)
    .rw[K3 hu] at a;exact m oM _ _ ⟨o+1,_,_,by simp<;>exact⟨rfl,rfl⟩,e,oM,a⟩
    .rw[X0 hu] at a;exact m oM _ _ ⟨o+1,_,_,by simp<;>exact⟨rfl,rfl⟩,e,oM,a⟩
   .rw[X0 oM] at a;exact m oM _ _ ⟨o+1,_,_,by simp<;>exact⟨rfl,rfl⟩,e,oM,a⟩
  .rw[Gm (show L.length<=j by omega),Gp] at a;simp(disch:=omega) only[push_cast,zj];exact S oM _ _ ⟨o,_,_,by simp<;>exact⟨rfl,rfl⟩,f,oM,a⟩
 .rw[Gm oM] at a;exact M w1 _ _ _ he a.symm
theorem sep4 {a b c d:Option Nat}:Sep Fr [a,b,c,d]↔((∀x,a=some x->b≠some x)/\(∀x,a=some x->c≠some x)/\(∀x,a=some x->d≠some x)/\(∀x,b=some x->c≠some x)/\(∀x,b=some x->d≠some x)/\(∀x,c=some x->d≠some x))/\
  (∀x,a=some x->¬Fr x)/\(∀x,b=some x->¬Fr x)/\(∀x,c=some x->¬Fr x)/\(∀x,d=some x->¬Fr x):=by
 unfold Sep;simp only[Pm,gm,gC,Gi,forall_eq_or_imp,forall_eq];constructor
 .rintro⟨⟨⟨e,a2,a3⟩,⟨b1,b2⟩,c1,-⟩,f1,f2,f3,f4⟩;exact⟨⟨e,a2,a3,b1,b2,c1⟩,f1,f2,f3,f4⟩
 .rintro⟨⟨e,a2,a3,b1,b2,c1⟩,f1,f2,f3,f4⟩;exact⟨⟨⟨e,a2,a3⟩,⟨b1,b2⟩,c1,λ_ h=>h.elim,List.Pairwise.nil⟩,f1,f2,f3,f4⟩
theorem push_spec {l:Int} {d:Bool} (h:TrailR Fr w bt many put ds vp vpl vl) (a9:l≠0) (hl:l.natAbs<=many) (s:placeOf put l.natAbs=0) (a8:∀b,Fr b->b<w.heap.size)
  (hK:∀i k w',TrailR Fr w' bt many (put++[l]) (ds++[d]) i vpl k->Same (kY bt vp vpl vl) w w'->(∀b,kY bt i vpl k b->kY bt vp vpl vl b\/w.heap.size<=b)->K (.tuple #[]) w'):
  vcall QG #[oP bt 0,nI l,.bool d] w K:=by
 refine ze {cuts:=[(8195,[6]),(16389,[6])]} Tryz.func250 ?_;have hf:=h.few;have ai:=h.few';have hlen:=h.len;have ah:=Yn ds;have hc:=Pd (l:=ds) (a:=true);refine zo (λu w'=>u=[nI (ds.count true)]/\Ext w w') ?_ ?_
 .intro C V;have hv:=h.rl.ints;simp(disch:=exact oS) only[push_cast,h.blk.ld2,hv.len];refine zb (λa=>zd λw1 n _=>?_) (λa=>V _ _ ⟨?_,Same.refl _ _⟩)
  .have T:=h.ext n;have O:=T.rl.ints;obtain⟨q,hq⟩:∃q,ds.length=q+1:=⟨ds.length-1,oM⟩;simp(disch:=exact oS) only[push_cast,T.blk.ld2,O.len,Q1];rw[ah,hq,show(((q+1:Nat):Int)-1)=(q:Int) from by omega];simp(disch:=exact oS) only[push_cast,zj,O.iaddr,O.load,Q1];refine V _ _ ⟨?_,n⟩;rw[QT oM,jq0 oM]
  .have:ds=[]:=gQ oM;subst this;rfl
 rintro _ g w1 ⟨rfl,n⟩;refine zo (λu w'=>u=[nI ((ds.count true+d.toNat:Nat):Int)]/\w'=w1) ?_ ?_
 .intro C V;cases d
  .exact V _ _ ⟨rfl,rfl⟩
  .simp(disch:=omega) only[push_cast,zj];exact V _ _ ⟨rfl,rfl⟩
 rintro _ g2 _ ⟨rfl,rfl⟩;have T:=h.ext n;have aj:=n.size;simp(disch:=exact oS) only[push_cast,T.blk.ld0];obtain⟨⟨s1,s2,s3,s4,s5,s6⟩,f1,f2,f3,f4⟩:=sep4.1 h.sep;refine zC x6 yG xn rfl rfl λb1 w2 aq L av a2=>?_;have h2:=T.ext L;refine h2.rp.app1 xt a2 oM oM λi w3 B y ad=>?_;have a3:Blk w3 bt [vp,vpl,vl] yu:=h2.blk.same y λe=>s1 bt rfl e;refine a3.st B.ints.cells1 B.ints.one qR rfl λQ D aw a4=>?_;have F:Blk Q bt [i,vpl,vl] yu:=a4;simp(disch:=exact oS) only[push_cast,F.ld2];have ak:=L.size;have al:=y.size;have m:∀x,i.ownBlock=some x->vp.ownBlock=some x\/w.heap.size<=x:=λx c=>(ad x c).imp id λh=>oM
 have l1:=h.blk.lt;have j:∀x,kY bt vp vpl vl x->x<w.heap.size:=by
  rintro x (rfl|e|e|e)
  .exact l1
  .exact h.rp.lt e
  .exact h.rpl.lt e
  .exact h.rl.lt e
 have aa:OwnI zf Q vl (levels ds):=(h2.rl.same y λx c e=>s5 x e c).same D λx c e=>s3 x (by rw[e]) c;have Y:OwnI zf Q vpl (places many put):=(h2.rpl.same y λx c e=>s4 x e c).same D λx c e=>s2 x (by rw[e]) c;have af:OwnI zf Q i (put++[l]):=B.same D λx c e=>by
  rcases m x c with f|f
  .exact s1 x (by rw[e]) f
  .have:=j bt (.inl rfl);omega
 refine zC x6 yG xn rfl rfl λb2 w5 ar o ax a5=>?_;refine(aa.ext o).app1 xt a5 oM oM λk w6 M z ae=>?_;have a6:Blk w6 bt [i,vpl,vl] yu:=(F.ext o).same z λe=>s3 bt rfl e;refine a6.st M.ints.cells1 M.ints.one qR rfl λR A ay a7=>?_;have U:Blk R bt [i,vpl,k] yu:=a7;have am:=o.size;have an:=z.size;have t:∀x,k.ownBlock=some x->vl.ownBlock=some x\/w3.heap.size<=x:=λx c=>(ae x c).imp id λh=>oM
 have H:∀x,k.ownBlock=some x->vl.ownBlock=some x\/w.heap.size<=x:=λx c=>(t x c).imp id λh=>oM
 have ag:OwnI zf R i (put++[l]):=((af.ext o).same z λx c e=>by
  rcases m x c with f|f
  .exact s5 x f e
  .have:=j x (.inr (.inr (.inr e)));omega).same A λx c e=>by
  rcases m x c with f|f
  .exact s1 x (by rw[e]) f
  .have:=j bt (.inl rfl);omega
 have Z:OwnI zf R vpl (places many put):=((Y.ext o).same z λx c e=>s6 x c e).same A λx c e=>s2 x (by rw[e]) c;have ab:OwnI zf R k (levels (ds++[d])):=by
  rw[levels_snoc];refine M.same A λx c e=>?_;rcases t x c with f|f
  .exact s3 x (by rw[e]) f
  .have:=j bt (.inl rfl);omega
 refine zd λw8 p _=>?_;have r:=U.ext p;have W:=ag.ext p;have J:=Z.ext p;have ac:=ab.ext p;have X:=W.ints;have a1:=J.ints;have au:=Z2 many put;simp(disch:=exact oS) only[push_cast,r.ld0,r.ld1,X.len,Q1];refine variable_spec oM oM ?_;simp(disch:=exact oS) only[push_cast,r.ld0,r.ld1,X.len,a1.iaddr,Q1,gn];refine J.st yG oM λw9 a0 E az=>?_;have N:OwnI zf w9 vpl (places many (put++[l])):=by
  rw[places_snoc s];simpa using a0
 have I:∀x,i.ownBlock=some x->vpl.ownBlock≠some x:=λx c e=>by
  rcases m x c with f|f
  .exact s4 x f e
  .have:=j x (.inr (.inr (.inl e)));omega
 have v:∀x,vpl.ownBlock=some x->k.ownBlock≠some x:=λx c e=>by
  rcases t x e with f|f
  .exact s6 x c f
  .have:=j x (.inr (.inr (.inl c)));omega
 have ao:=A.size;have ap:=p.size;have G:∀x,w.heap.size<=x->¬Fr x:=λx c hF=>by have:=a8 x hF;omega
 refine hK i k w9 ⟨r.same E λe=>s2 bt rfl e,W.same E I,N,ac.same E λx c e=>v x e c,?_,by simp[hlen],distinct_snoc h.dis s,?_,h.few⟩ ?_ ?_
 .rw[sep4];refine⟨⟨?_,s2,?_,I,?_,v⟩,f1,?_,f3,?_⟩
  .rintro x e S;cases e;rcases m _ S with f|f
   .exact s1 _ rfl f
   .have:=j _ (.inl rfl);omega
  .rintro x e S;cases e;rcases t _ S with f|f
   .exact s3 _ rfl f
   .have:=j _ (.inl rfl);omega
  .intro x e S;have c:=B.lt e;rcases t x S with e3|e3
   .rcases m x e with f|f
    .exact s5 x f e3
    .have:=j x (.inr (.inr (.inr e3)));omega
   .omega
  .intro x e;rcases m x e with f|f
   .exact f2 x f
   .exact G x f
  .intro x e;rcases H x e with f|f
   .exact f4 x f
   .exact G x f
 .intro x c;rw[gr,gB] at c;rcases c with c|rfl
  .exact h.bnd x c
  .exact⟨a9,hl⟩
 .have S0:Same (kY bt vp vpl vl) w w2:=Same.of_ext (n.trans L);have S3:Same (kY bt vp vpl vl) w2 w3:=y.mono λx _ e=> .inr (.inl e);have S4:Same (kY bt vp vpl vl) w3 Q:=D.mono λx _ e=> .inl e;have S5:Same (kY bt vp vpl vl) Q w5:=Same.of_ext o;have S6:Same (kY bt vp vpl vl) w5 w6:=z.mono λx _ e=> .inr (.inr (.inr e));have S7:Same (kY bt vp vpl vl) w6 R:=A.mono λx _ e=> .inl e;have S8:Same (kY bt vp vpl vl) R w8:=Same.of_ext p;have S9:Same (kY bt vp vpl vl) w8 w9:=E.mono λx _ e=> .inr (.inr (.inl e));exact S0.trans (S3.trans (S4.trans (S5.trans (S6.trans (S7.trans (S8.trans S9))))))
 .rintro x (e|e|e|e)
  .exact .inl (.inl e)
  .exact(m x e).imp (λe=> .inr (.inl e)) id
  .exact .inl (.inr (.inr (.inl e)))
  .exact(H x e).imp (λe=> .inr (.inr (.inr e))) id
end
theorem K4 {α:Type} {xs:List α} {d:α} {i:Nat} (h:i<xs.length):xs.take (i+1)=xs.take i++[xs.getD i d]:=by
 rw[pz];simp[q0,h]
end Go.Proofs.YtfjlkobhagjdaaaGreatDoor
namespace Go.Proofs.YtfjlkobhagjdaaaGreatDoor
open Go Go.Vc Go.Proofs
section
variable {w:World} {K:oK}
theorem unit_mem {put cl:oI} {x:Int} (h:M.unitC put cl x):x∈cl/\M.placeOf put x.natAbs=0:=by
 have:x∈cl.filter λl=>decide (M.placeOf put l.natAbs=0):=by rw[h.2];exact gB.2 rfl
 rw[PM,gg] at this;exact this
theorem cnf_new {N:Nat} {lv:Value} {ls:List Value} {c:M.Cnf} {K:oK} (h:CnfO N w lv ls c) (j:∀w' b,w.heap.size<=b->Ext w w'->Blk w' b [nI c.many,lv] zq->CnfO N w' lv ls c->K (oP b 0) w'):
  xU zq w λt4 w1=>zI zq t4 (.agg ⟨[nI c.many,lv]⟩) w1 λ_ w2=>K t4 w2:=by
 obtain⟨o,cc,d,_⟩:=h.lst.vals.shape;generalize (ls.map λx=>[x]).length=l at d;subst d;refine zi xp λb w1 k e m g=>?_;refine g.stAgg (cs':=[nI c.many,.slice o l cc]) rfl zD net_one λw2 f p i=>?_;have a:Ext w w2:=Ext.then e f λy n=>by subst n;omega
 exact j w2 b oM a i (h.ext a)
theorem push_int {pv:Value} {xs:oI} {x:Int} (h:OwnI zf w pv xs) (n:xs.length<=100000) (i:∀w' c,Same (λb=>pv.ownBlock=some b) w w'->OwnI zf w' c (xs++[x])->(∀b,c.ownBlock=some b->pv.ownBlock=some b\/w.heap.size<=b)->K c w'):
  vbuildS zf 1 [(0,nI x)] w λs w1=>vbi .append [zf,zf] zf [pv,s] w1 K:=by
 refine qD x6 yG xn rfl rfl dC λb3 o k a l d=>?_;refine OwnI.app1 (h.ext a) xt d oM oM λv4 m f g e=>?_;refine i m v4 ((Same.of_ext a).trans g) f λb j=>?_;rcases e b j with h|h
 .exact .inl h
 .exact .inr (by have:=a.size;omega)
end
end Go.Proofs.YtfjlkobhagjdaaaGreatDoor
namespace Go.Vc
open Go
section
variable {t:TypeId} {w:World} {v:Value} {vs:List Value} {F:oA}
theorem Vals.part (h:Vals F w v vs) (j:vs≠[]) (m:elB t 1=true) {n:Nat} (q:n<=vs.length):∃v1,(∀(kd:IntKind) (w':World) (K:oK),yH t v none (some (.int kd n)) none w' K=K v1 w')/\Vals F w v1 (vs.take n):=by
 obtain⟨hu,hs⟩:=Zv m;obtain⟨a,c,rfl,l,g,d⟩:=h.shape;obtain⟨b,o,rfl,hF,k,f⟩:=d (by simpa using j);rw[V0] at l f;refine⟨.slice (some ⟨b,o,none⟩) n c,λkd w' K=>y1 ?_,⟨some ⟨b,o,none⟩,c,?_,?_,g,λ_=>⟨b,o,rfl,hF,k,λi hi=>?_⟩⟩,λx p=>by obtain⟨u,_,rfl⟩:=gz.1 p;rfl⟩
 .rw[run_sliceAt_slice w' t _ _ _ _ hu,run_slice_h w' t _ _ _ hu kd n oM oM,run_sizeOf hs];simp[Result.andThen,sliced];exact λ_=>rfl
 .simp;omega
 .simp;omega
 .simp only[V0,gi] at hi;have:=f i oM;have e:(List.map (λx=>[x]) (vs.take n)).getD i []=(List.map (λx=>[x]) vs).getD i []:=by
   simp[q0,P4,show i<n by omega]
  rw[e];exact this
theorem Vals.rest (h:Vals F w v vs) (j:vs≠[]) (r:elB t 1=true) {n:Nat} (y:n<=vs.length):∃v1,(∀(kd:IntKind) (w':World) (K:oK),yH t v (some (.int kd n)) none none w' K=K v1 w')/\Vals F w v1 (vs.drop n):=by
 obtain⟨hu,hs⟩:=Zv r;obtain⟨a,c,rfl,m,p,d⟩:=h.shape;obtain⟨b,o,rfl,hF,l,f⟩:=d (by simpa using j);rw[V0] at m f;refine⟨sliced (some ⟨b,o,none⟩) n vs.length c 1,λkd w' K=>y1 ?_,?_⟩
 .rw[run_sliceAt_slice w' t _ _ _ _ hu,run_slice_l w' t _ _ _ hu kd n oM (by simp;omega),run_sizeOf hs];simp[Result.andThen]
 .refine⟨⟨_,c-n,rfl|>λ(_:True=True)=>by simp[sliced];rfl,by simp;omega,oM,λg=>?_⟩,λx s=>by obtain⟨u,_,rfl⟩:=gz.1 s;rfl⟩;have q:n<vs.length:=by
   refine Nat.lt_of_not_le λk=>g ?_;rw[Pv k];rfl
  rw[X0 oM];refine⟨b,o+n,by simp[ym],hF,l,λi hi=>?_⟩;simp only[V0,GS] at hi;have:=f (n+i) oM;have e:(List.map (λx=>[x]) (vs.drop n)).getD i []=(List.map (λx=>[x]) vs).getD (n+i) []:=by
   simp[q0,G5]
  rw[e,show o+n+i*1=o+(n+i)*1 by omega];exact this
end
end Go.Vc
end
