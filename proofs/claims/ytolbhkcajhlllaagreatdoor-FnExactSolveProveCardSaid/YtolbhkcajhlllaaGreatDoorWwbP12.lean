import Derived.Test.YtolbhkcajhlllaaGreatDoorWwbP11
import Derived.Test.YtolbhkcajhlllaaGreatDoorWwbP10
/- A part of the proof. -/
set_option linter.all false
set_option maxRecDepth 9999
set_option maxHeartbeats 2000000
noncomputable section
namespace Go.Proofs.YtolbhkcajhlllaaGreatDoor
open Go Go.Vc Go.Proofs
section
variable {w:World} {K:oK} {F F' D G:Nat->Prop}
theorem l3Logic_spec {v:Value} {t:M.Tm} {ds:List M.Dcl} (ht:TermR G w v t) (hs:M.sortM ds t≠ -1) (ag:23<=t.op) (a8:t.ks≠[]) (f:ZX0 K w G (M.logicS t)):vcall KM #[v] w K:=by
 have hlen:=M.len_of hs;have am:0<t.ks.length:=Gx.2 a8;have ae:=M.arity_ops (o:=t.op) oM;have ad:t.op=25->t.ks.length=1:=λh=>by rw[h] at hlen;simp[M.arity] at hlen;omega
 have ac:t.op=23->t.ks.length=3:=λh=>by rw[h] at hlen;simp[M.arity] at hlen;omega
 refine ze {ord:=[oz 8 (oR 18) [(3,[7,8,9,10]),(4,[7,8,9,10]),(5,[7,8,9,10]),(6,[7,8,9,10])]],cuts:=[(36874,[]),(65552,[61])]} Tryz.func148 ?_;refine rt_enter (B:=λt3 t4 au=>_) ht λw1 b3 b4 kv rs=>?_;simp(disch:=first|omega|simp only[push_cast]) only[push_cast,rs.q.ld4,rs.k.iaddr];refine rs.k.load zc oM λx hx=>?_;obtain⟨c,rfl,hc⟩:=hx.cells;have gc:aggB za c.length=true:=by rw[zQ hc];exact zc
 refine zj zn λb5 w2 ah a2 an h5=>?_;refine stTerm h5 rfl (hc.ext a2) λw3 aa ap H=>?_;have Y:Ext w1 w3:=Ext.then a2 aa λy T=>by subst T;omega
 have J:=yh rs Y;have Q:TmR (λx=>G x/\x<w.heap.size) w3 c (M.kid t 0):=hc.ext Y;simp only[push_cast,J.q.ld0];refine zb (λA=>?_) (λA=>?_)
 ·obtain⟨ar,rfl,a5⟩:=Q.inv;simp only[push_cast,H.ld0];refine zb (λd=>?_) (λd=>?_)
  ·have k0:=M.good_kid hs (i:=0) (by have:=ad A;omega);have aj:(M.kid t 0).ks.length=1:=by have:=M.len_of k0;rw[d] at this;simp[M.arity] at this;omega
   simp(disch:=first|omega|simp only[push_cast]) only[push_cast,H.ld4,a5.iaddr];refine a5.load zc oM λy T=>?_;have e:M.logicS t=M.kid (M.kid t 0) 0:=by unfold M.logicS;rw[if_pos A,if_pos d]
   rw[e] at f;exact rt_give J (qq T) f
  ·have e:M.logicS t=t:=by unfold M.logicS;rw[if_pos A,if_neg d]
   rw[e] at f;rw[J.q.ldAgg (t:=za) zc];exact rt_give J (qq (xU J)) f
 try simp only[push_cast]
 refine zb (λU=>?_) (λU=>?_)
 ·have ak:=ac U;have E:M.logicS t=if M.isM (M.kid t 0) 1=true\/(M.kid t 1=M.kid t 2/\¬M.isM (M.kid t 0) 0=true) then M.kid t 1 else if M.isM (M.kid t 0) 0=true then M.kid t 2 else t:=by unfold M.logicS;rw[if_neg A,if_pos U]
  have F:∀{w'},RT G w w' b3 b4 kv t->(M.isM (M.kid t 0) 1=true\/(M.kid t 1=M.kid t 2/\¬M.isM (M.kid t 0) 0=true))->∀x,TermR (λx=>G x/\x<w.heap.size) w' x (M.kid t 1)->zU za (ptr b4) x w' λ_ w1=>vlv za (ptr b4) w1 λr w2=>K r w2:=λh hc x hx=>by
   rw[E,if_pos hc] at f;exact rt_give h (qq hx) f
  refine zp (λu w'=>u=[]/\Ext w3 w'/\¬(M.isM (M.kid t 0) 1=true\/(M.kid t 1=M.kid t 2/\¬M.isM (M.kid t 0) 0=true))) (λC hC=>?_) ?_
  ·refine zd λw4 b _=>?_;have r4:=yh J b;have A4:=H.ext b;have a0:=Q.ext b;simp only[push_cast,A4.ldAgg (t:=za) gc,true_and];refine qg a0.term λw5 p=>?_;have n:=yh r4 p;obtain⟨cks,I,al,S⟩:=n.k;refine zo (λi=>?_) (λi=>?_)
   ·simp(disch:=first|omega|simp only[push_cast]) only[push_cast,n.q.ld4,I.iaddr,I.ldAgg];exact F n (.inl i) _ (S 1 oM).term
   ·simp(disch:=first|omega|simp only[push_cast]) only[push_cast,n.q.ld4,I.iaddr,I.ldAgg,true_and];refine spec_TermSame_spec _ (S 1 oM).term (S 2 oM).term λw6 a=>?_;have r6:=yh n a;refine zb (λs=>?_) (λs=>?_)
    ·have A6:=A4.ext (p.trans a);simp only[push_cast,A6.ldAgg (t:=za) gc,true_and];refine qg (a0.ext (p.trans a)).term λw7 m=>?_;have r7:=yh r6 m;have s7:=I.ext (a.trans m);simp only[push_cast,true_and];refine zo (λj=>?_) (λj=>?_)
     ·rw[gN] at j;simp(disch:=first|omega|simp only[push_cast]) only[push_cast,r7.q.ld4,s7.iaddr,s7.ldAgg];exact F r7 (.inr ⟨s,by rw[j];decide⟩) _ ((S 1 oM).ext (a.trans m)).term
     ·rw[gM] at j;exact hC _ _ ⟨rfl,b.trans (p.trans (a.trans m)),λh=>h.elim (λh=>by rw[i] at h;cases h) λh=>h.2 j⟩
    ·exact hC _ _ ⟨rfl,b.trans (p.trans a),λh=>h.elim (λh=>by rw[i] at h;cases h) λh=>s h.1⟩
  rintro u g w4 ⟨rfl,b,hn⟩;have r4:=yh J b;rw[(H.ext b).ldAgg (t:=za) gc];refine qg (Q.ext b).term λw5 p=>?_;have n:=yh r4 p;refine zo (λi=>?_) (λi=>?_)
  ·simp(disch:=first|omega|simp only[push_cast]) only[push_cast,n.q.ld4,n.k.iaddr];refine n.k.load zc oM λy T=>?_;rw[E,if_neg hn,if_pos i] at f;exact rt_give n (qq T) f
  ·rw[E,if_neg hn,i,if_neg dC] at f;rw[n.q.ldAgg (t:=za) zc];exact rt_give n (qq (xU n)) f
 have o:t.op=26\/t.op=27:=by
  unfold M.arity at hlen
  repeat' split at hlen
  all_goals omega
 have l2:t.ks.length=2:=by rcases o with e|e<;>rw[e] at hlen<;>simp[M.arity] at hlen<;>omega
 simp(disch:=first|omega|simp only[push_cast]) only[push_cast,J.q.ld4,J.k.iaddr];refine J.k.load zc oM λy T=>?_;obtain⟨c',rfl,W⟩:=T.cells;have N:aggB za c'.length=true:=by rw[zQ W];exact zc
 refine zj zn λb6 w4 ai b ao h6=>?_;refine stTerm h6 rfl (W.ext b) λw5 ab aq O=>?_;have L:Ext w3 w5:=Ext.then b ab λy T=>by subst T;omega
 have n:=yh J L;have A5:=H.ext L;have R:=Q.ext L;have z:TmR (λx=>G x/\x<w.heap.size) w5 c' (M.kid t 1):=W.ext L;simp only[push_cast,n.q.ld0];refine Xa ?_;generalize V:M.b2i (decide (t.op=26))=one;have af:one=0\/one=1:=by rw[<-V];unfold M.b2i;split<;>omega
 have E:M.logicS t=if M.isM (M.kid t 0) one=true\/M.kid t 0=M.kid t 1 then M.kid t 1 else if M.isM (M.kid t 1) one=true then M.kid t 0 else if M.isM (M.kid t 0) (1-one)=true\/M.isM (M.kid t 1) (1-one)=true then M.boolM (decide (one=0)) else t:=by
  unfold M.logicS;rw[if_neg A,if_neg U,V]
 refine zp (λu w'=> ∃e:Bool,u=[.bool e]/\Ext w5 w'/\(e=true↔M.isM (M.kid t 0) one=true\/M.kid t 0=M.kid t 1)) (λC hC=>?_) ?_
 ·rw[A5.ldAgg (t:=za) gc];refine qg R.term λw6 a=>?_;refine zo (λi=>?_) (λi=>?_)
  ·exact hC _ _ ⟨true,rfl,a,⟨λ_=> .inl i,λ_=>rfl⟩⟩
  ·try simp only[push_cast]
   rw[(A5.ext a).ldAgg (t:=za) gc,(O.ext a).ldAgg (t:=za) N];refine spec_TermSame_spec _ (R.ext a).term (z.ext a).term λw7 m=>?_;refine hC _ _ ⟨_,rfl,a.trans m,?_⟩;rw[decide_eq_true_eq];exact⟨.inr,λh=>h.elim (λx=>by rw[i] at x;cases x) id⟩
 rintro u g w6 ⟨e,rfl,a,a4⟩;have r6:=yh n a;simp only[push_cast];refine zo (λi=>?_) (λi=>?_)
 ·rw[(O.ext a).ldAgg (t:=za) N];rw[E,if_pos (a4.1 i)] at f;exact rt_give r6 (qq (z.ext a).term) f
 have n1: ¬(M.isM (M.kid t 0) one=true\/M.kid t 0=M.kid t 1):=λh=>by have:=a4.2 h;rw[i] at this;cases this
 rw[(O.ext a).ldAgg (t:=za) N];refine qg (z.ext a).term λw7 m=>?_;have r7:=yh r6 m;have D:=a.trans m;refine zo (λj=>?_) (λj=>?_)
 ·rw[(A5.ext D).ldAgg (t:=za) gc];rw[E,if_neg n1,if_pos j] at f;exact rt_give r7 (qq (R.ext D).term) f
 have n2: ¬M.isM (M.kid t 1) one=true:=by rw[j];decide
 have a7:IntKind.i64.wrap (1-one)=1-one:=zl oM oM;rw[(A5.ext D).ldAgg (t:=za) gc];simp only[push_cast,a7];refine qg (R.ext D).term λw8 a3=>?_;have r8:=yh r7 a3;refine zo (λk=>?_) (λk=>?_)
 ·try simp only[push_cast]
  refine l3Bool_spec λw9 v9 X a9=>?_;rw[E,if_neg n1,if_neg n2,if_pos (.inl k)] at f;exact rt_give (yh r8 X) (rt_new r8 a9) f
 have Z:=D.trans a3;rw[(O.ext Z).ldAgg (t:=za) N]
 try simp only[push_cast,a7]
 refine qg (z.ext Z).term λw9 X=>?_;have r9:=yh r8 X;refine zo (λl=>?_) (λl=>?_)
 ·try simp only[push_cast]
  refine l3Bool_spec λw10 v10 a1 a6=>?_;rw[E,if_neg n1,if_neg n2,if_pos (.inr l)] at f;exact rt_give (yh r9 a1) (rt_new r9 a6) f
 ·rw[E,if_neg n1,if_neg n2,if_neg (λh=>h.elim (λh=>by rw[k] at h;cases h) λh=>by rw[l] at h;cases h)] at f;rw[r9.q.ldAgg (t:=za) zc];exact rt_give r9 (qq (xU r9)) f
theorem l3Two_spec {v:Value} {t:M.Tm} {s:Int} (ht:TermR G w v t) (h2:t.ks.length=2) (Y:ZX0 K w G (M.twoS t s)):vcall zn0 #[v,nI s] w K:=by
 refine ze {ord:=[oz 1 (oR 9) [(0,[4,5,6,7]),(1,[4,5,6,7]),(2,[4,5,6,7]),(3,[4,5,6,7])],oz 15 (oR 35) [(5,[9,10,11,12]),(6,[9,10,11,12]),(7,[9,10,11,12]),(8,[9,10,11,12]),(17,[21,22,23,24]),(18,[21,22,23,24]),(19,[21,22,23,24]),(20,[21,22,23,24]),(29,[31,32]),(30,[31,32])]],cuts:=[(8197,[]),(36881,[]),(40974,[34]),(61455,[7])],trees:=[(14,(.st 0 (.st 1 (.st 2 (.st 3 (.st 4 (.st 5 (.st 6 (.st 7 (.st 8 (.st 9 (.alt 10 (.st 11 (.alt 12 (.alt 13 (.alt 14 .nil .no) .no) (.alt 13 (.alt 12 (.alt 14 .nil .no) .no) .no))) (.alt 13 (.alt 10 (.st 11 (.alt 12 (.alt 14 .nil .no) .no)) .no) .no)))))))))))),[(0,[1,11,12,14]),(1,[11,12,14]),(2,[3,4,5,10,11,12,14]),(3,[4,5,10,11,12,14]),(4,[5,10,11,12,14]),(5,[10,11,12,14]),(6,[7,8,9,10,11,12,14]),(7,[8,9,10,11,12,14]),(8,[9,10,11,12,14]),(9,[10,11,12,14]),(10,[11,12,14]),(11,[12,14]),(12,[14]),(13,[14])])]} Tryz.func149 ?_;refine rt_enter (B:=λt3 t4 au=>_) ht λw1 b3 b4 kv rs=>?_;have l4:=rs.r.lt;have ao:=rs.lo;have low:∀{w':World} {cs:List Value} {u:M.Tm},Ext w1 w'->TmR (λx=>(G x/\x<w.heap.size)\/w'.heap.size<=x) w' cs u->True:=λ_ _=>trivial;clear low;refine zp (λu w'=>u=[]/\Ext w1 w'/\¬(M.kid t 0=M.kid t 1/\M.alikeS t s≠t)) (λC hC=>?_) ?_
 ·refine zd λw2 a2 _=>?_;have r2:=yh rs a2;obtain⟨cks,m,a6,l⟩:=r2.k;simp(disch:=first|omega|simp only[push_cast]) only[push_cast,r2.q.ld4,m.iaddr,m.ldAgg,true_and];refine spec_TermSame_spec _ (l 0 oM).term (l 1 oM).term λw3 Q=>?_;have X:=yh r2 Q;refine zb (λa=>?_) (λa=>?_)
  ·rw[X.q.ldAgg (t:=za) zc];refine l3Alike_spec (xU X) h2 λw4 rv U n=>?_;have r4:=yh X U;obtain⟨c,rfl,hc⟩:=n.cells;have gc:aggB za c.length=true:=by rw[zQ hc];exact zc
   have aq:=X.r.lt;refine zj zn λb5 w5 af R ah h5=>?_;have O:=(hc.weaken (F':=λx=>((G x/\x<w.heap.size)\/b4<x)/\x<w4.heap.size) λb h h'=>⟨h.imp id λh=>oM,h'⟩).ext R;refine stTerm h5 rfl O λw6 S ak h6=>?_;have T:Ext w4 w6:=Ext.then R S λy hy=>by subst hy;omega
   have r6:=yh r4 T;have N:TmR (Qb G w.heap.size b4) w6 c (M.alikeS t s):=(O.same S λx F _ e=>oM).weaken λx F _=>F.1;rw[h6.ldAgg (t:=za) gc,r6.q.ldAgg (t:=za) zc];refine spec_TermSame_spec _ N.term (xU r6) λw7 p=>?_;have r7:=yh r6 p;simp only[push_cast];refine zo (λd=>?_) (λd=>?_)
   ·rw[gN,decide_eq_false_iff_not] at d;rw[(h6.ext p).ldAgg (t:=za) gc];have E:M.twoS t s=M.alikeS t s:=by unfold M.twoS;rw[if_pos ⟨a,d⟩]
    rw[E] at Y;exact rt_give r7 (N.ext p).term Y
   ·rw[gM,decide_eq_true_eq] at d;exact hC _ _ ⟨rfl,a2.trans (Q.trans (U.trans (T.trans p))),λh=>h.2 d⟩
  ·exact hC _ _ ⟨rfl,a2.trans Q,λh=>a h.1⟩
 rintro u g w3 ⟨rfl,Q,n1⟩;have X:=yh rs Q;have l3:=X.r.lt;rw[X.q.ldAgg (t:=za) zc];refine l3Right_spec (xU X) h2 λw4 rv U n=>?_;have r4:=yh X U;obtain⟨c,rfl,hc⟩:=n.cells;have gc:aggB za c.length=true:=by rw[zQ hc];exact zc
 refine zj zn λb5 w5 af R ah h5=>?_;have O:=(hc.weaken (F':=λx=>((G x/\x<w.heap.size)\/b4<x)/\x<w4.heap.size) λb h h'=>⟨h.imp id λh=>oM,h'⟩).ext R;refine stTerm h5 rfl O λw6 S ak h6=>?_;have T:Ext w4 w6:=Ext.then R S λy hy=>by subst hy;omega
 have r6:=yh r4 T;have N:TmR (Qb G w.heap.size b4) w6 c (M.rightS t):=(O.same S λx F _ e=>oM).weaken λx F _=>F.1;rw[h6.ldAgg (t:=za) gc,r6.q.ldAgg (t:=za) zc];refine spec_TermSame_spec _ N.term (xU r6) λw7 p=>?_;have r7:=yh r6 p;simp only[push_cast];refine zo (λd=>?_) (λd=>?_)
 ·rw[gN,decide_eq_false_iff_not] at d;rw[(h6.ext p).ldAgg (t:=za) gc];have E:M.twoS t s=M.rightS t:=by unfold M.twoS;rw[if_neg n1,if_pos d]
  rw[E] at Y;exact rt_give r7 (N.ext p).term Y
 rw[gM,decide_eq_true_eq] at d;have E:M.twoS t s=if(t.op=3\/t.op=4\/t.op=5\/t.op=6\/t.op=8)/\M.otherS t (M.rightS (M.swapS t)) then M.rightS (M.swapS t) else t:=by
  unfold M.twoS;rw[if_neg n1,if_neg (λh=>h d)]
 refine zp (λu w'=>u=[]/\Ext w7 w'/\¬((t.op=3\/t.op=4\/t.op=5\/t.op=6\/t.op=8)/\M.otherS t (M.rightS (M.swapS t)))) (λC hC=>?_) ?_
 ·simp only[push_cast,r7.q.ld0];refine zp (λu w'=> ∃b:Bool,u=[.bool b]/\w'=w7/\(b=true↔t.op=3\/t.op=4\/t.op=5\/t.op=6\/t.op=8)) (λD hD=>?_) ?_
  ·try simp only[push_cast]
   refine zb (λc=>hD _ _ ⟨_,rfl,rfl,⟨λ_=>oM,λ_=>by rw[decide_eq_true_eq];exact c⟩⟩) (λc1=>?_);refine zb (λc=>hD _ _ ⟨_,rfl,rfl,⟨λ_=>oM,λ_=>by rw[decide_eq_true_eq];exact c⟩⟩) (λc2=>?_);refine zb (λc=>hD _ _ ⟨_,rfl,rfl,⟨λ_=>oM,λ_=>by rw[decide_eq_true_eq];exact c⟩⟩) (λc3=>?_);refine zb (λc=>hD _ _ ⟨_,rfl,rfl,⟨λ_=>oM,λ_=>by rw[decide_eq_true_eq];exact c⟩⟩) (λc4=>?_);exact hD _ _ ⟨_,rfl,rfl,⟨λh=>by rw[decide_eq_true_eq] at h;omega,λh=>by rw[decide_eq_true_eq];omega⟩⟩
  rintro u2 g2 al ⟨b,rfl,rfl,hb⟩;simp only[push_cast];refine zo (λo=>?_) (λo=>hC _ _ ⟨rfl,Same.refl _ _,λh=>by have:=hb.2 h.1;rw[o] at this;cases this⟩);have o':=hb.1 o;have l7:=r7.r.lt;refine zp (λu w'=> ∃b c,u=[ptr b]/\Ext al w'/\Blk w' b c za/\TmR (Qb G w.heap.size b4) w' c (M.rightS (M.swapS t))) (λD hD=>?_) ?_
  ·refine zd λw8 A _=>?_;have J:=yh r7 A;have l8:=J.r.lt;obtain⟨cks,m,a6,l⟩:=J.k;simp(disch:=first|omega|simp only[push_cast]) only[push_cast,J.q.ld0,J.q.ld4,m.iaddr,m.ldAgg,true_and];have ar:=A.size;have fin:∀{wa wb:World} {bb:Nat} {z:List Value} {rv:Value},Ext w8 wa->Blk wa bb z za->z.length=5->w8.heap.size<=bb->(∀y,y=bb->TermR (λx=>((G x/\x<w.heap.size)\/b4<x)/\x≠y) wa rv (M.rightS (M.swapS t)))->zU za (ptr bb) rv wa λ_ w'=>D [ptr bb] w':=λ{wa wb bb z rv} aj hB hz an hr=>by
    obtain⟨cr,rfl,a5⟩:=(hr bb rfl).cells;refine stTerm hB hz a5 λw' a7 ap h'=>?_;exact hD _ _ ⟨bb,cr,rfl,A.trans (Ext.then aj a7 λy hy=>by subst hy;omega),h',(a5.same a7 λx F _ e=>F.2 e).weaken λx F _=>F.1⟩
   refine⟨?_,?_,trivial⟩
   ·refine kids2 (l 1 oM).term (l 0 oM).term λw9 a9 j ai k9=>?_;have r9:=yh J j;have W:TermR (λz=>(G z/\z<w.heap.size)\/z=w8.heap.size) w9 _ (M.swapS t):=(JG (o:=t.op) k9:TermR _ w9 _ (km0 t.op [t.ks.getD 1 default,t.ks.getD 0 default]));simp only[push_cast,r9.q.ld0,true_and,and_self];refine⟨?_,?_,trivial⟩
    ·refine l3Right_spec W rfl λw10 rv f n=>?_;refine⟨?_,trivial⟩;refine zj zn λa4 I Z i a0 L=>?_;refine⟨?_,trivial⟩;have a8:=j.size;have am:=f.size;refine fin (wb:=I) (j.trans (f.trans i)) L rfl oM λy hy=>((n.weaken (F':=λx=>(((G x/\x<w.heap.size)\/x=w8.heap.size)\/w9.heap.size<=x)/\x<w10.heap.size) λb h h'=>⟨h,h'⟩).ext i).weaken λx F _=>?_;rcases F.1 with(h|h)|h
     ·exact⟨.inl h,oM⟩
     ·exact⟨.inr oM,oM⟩
     ·exact⟨.inr oM,oM⟩
    ·refine zj zn λa4 I Z i a0 L=>?_;have H:=yh r9 i;simp only[push_cast,H.q.ld0,true_and,and_self];refine⟨?_,trivial⟩;refine l3Right_spec (W.ext i) rfl λw10 rv f n=>?_;refine⟨?_,trivial⟩;have a8:=j.size;refine fin (wb:=I) (j.trans (i.trans f)) (L.ext f) rfl oM λy hy=>n.weaken λx F _=>?_;rcases F with(h|h)|h
     ·exact⟨.inl h,oM⟩
     ·exact⟨.inr oM,oM⟩
     ·exact⟨.inr oM,oM⟩
   ·refine zj zn λa4 I Z i a0 L=>?_;have H:=yh J i;have ad:=m.ext i;simp(disch:=first|omega|simp only[push_cast]) only[push_cast,H.q.ld0,H.q.ld4,ad.iaddr,ad.ldAgg,true_and,and_self];refine⟨?_,trivial⟩;refine kids2 ((l 1 oM).ext i).term ((l 0 oM).ext i).term λw9 a9 j ai k9=>?_;have r9:=yh H j;have W:TermR (λz=>(G z/\z<w.heap.size)\/z=I.heap.size) w9 _ (M.swapS t):=(JG (o:=t.op) k9:TermR _ w9 _ (km0 t.op [t.ks.getD 1 default,t.ks.getD 0 default]));simp only[push_cast,r9.q.ld0,true_and,and_self];refine⟨?_,trivial⟩;refine l3Right_spec W rfl λw10 rv f n=>?_;refine⟨?_,trivial⟩;have a8:=j.size;refine fin (wb:=I) (i.trans (j.trans f)) ((L.ext j).ext f) rfl oM λy hy=>n.weaken λx F _=>?_;rcases F with(h|h)|h
    ·exact⟨.inl h,oM⟩
    ·exact⟨.inr oM,oM⟩
    ·exact⟨.inr oM,oM⟩
  rintro u3 g3 w8 ⟨b,cv,rfl,A,hB,a1⟩;have gv:aggB za cv.length=true:=by rw[zQ a1];exact zc
  have J:=yh r7 A;generalize hV:M.rightS (M.swapS t)=V at*;have give:∀{w'},Ext w8 w'->M.otherS t V->zt za (ptr b) w' λr w2=>zU za (ptr b4) r w2 λ_ w3=>vlv za (ptr b4) w3 λr w4=>K r w4:=λ{w'} h ho=>by
   rw[(hB.ext h).ldAgg (t:=za) gv];rw[E,if_pos ⟨o',ho⟩] at Y;exact rt_give (yh J h) (a1.ext h).term Y
  obtain⟨kvv,rfl,ag⟩:=a1.inv;simp only[push_cast];refine zd λw9 j _=>?_;have r9:=yh J j;have B9:=hB.ext j;have aa:=ag.ext j;simp only[push_cast,B9.ld4,aa.len,true_and];refine zb (λc1=>give j (.inl oM)) (λc1=>?_);have vl:V.ks.length=2:=oM;obtain⟨cks,m,a6,l⟩:=r9.k;obtain⟨vks,vsl,vln,vck⟩:=aa;simp(disch:=first|omega|simp only[push_cast]) only[push_cast,B9.ld4,r9.q.ld4,m.iaddr,m.ldAgg,vsl.iaddr,vsl.ldAgg,true_and];refine spec_TermSame_spec _ (vck 0 oM).term (l 1 oM).term λw10 f=>?_;have a3:=B9.ext f;have ab:=yh r9 f;have ac:=m.ext f;have t10:=vsl.ext f;simp only[push_cast,true_and];refine zo (λc2=>?_) (λc2=>?_)
  ·rw[gN,decide_eq_false_iff_not] at c2;exact give (j.trans f) (.inr (.inl c2))
  rw[gM,decide_eq_true_eq] at c2;simp(disch:=first|omega|simp only[push_cast]) only[push_cast,a3.ld4,ab.q.ld4,ac.iaddr,ac.ldAgg,t10.iaddr,t10.ldAgg,true_and];refine spec_TermSame_spec _ ((vck 1 oM).ext f).term ((l 0 oM).ext f).term λI i=>?_;have ae:=a3.ext i;have H:=yh ab i;simp only[push_cast,true_and];refine zo (λc3=>?_) (λc3=>?_)
  ·rw[gN,decide_eq_false_iff_not] at c3;exact give (j.trans (f.trans i)) (.inr (.inr (.inl c3)))
  rw[gM,decide_eq_true_eq] at c3;simp(disch:=first|omega|simp only[push_cast]) only[push_cast,ae.ld0,H.q.ld0,true_and];refine zb (λc4=>give (j.trans (f.trans i)) (.inr (.inr (.inr c4)))) (λc4=>?_);refine hC _ _ ⟨rfl,A.trans (j.trans (f.trans i)),λh=>?_⟩;rcases h.2 with h|h|h|h
  ·exact h vl
  ·exact h c2
  ·exact h c3
  ·exact c4 h
 rintro u4 g4 w8 ⟨rfl,A,n3⟩;have J:=yh r7 A;rw[E,if_neg n3] at Y;rw[J.q.ldAgg (t:=za) zc];exact rt_give J (qq (xU J)) Y
theorem l3One_spec {dv v:Value} {t:M.Tm} {ds:List M.Dcl} (I:DclsR F w dv ds) (l:M.declOk ds=true) (ht:TermR G w v t) (hs:M.sortM ds t≠ -1) (e:ZX0 K w G (M.oneT ds t)):vcall zo0 #[dv,v] w K:=by
 rw[<-M.oneS_eq l hs] at e;have hlen:=M.len_of hs;refine ze {ord:=[oz 16 (oR 8) [(0,[5,6]),(1,[5,6]),(2,[5,6]),(3,[5,6]),(4,[5,6])],oz 19 (oR 9) [(0,[1,2,3,4,5,6]),(1,[2,3,4,5])]]} Tryz.func104 ?_;refine rt_enter (B:=λt3 t4 a6=>_) ht λw1 b3 b4 kv rs=>?_;rw[rs.q.ldAgg (t:=za) zc];refine l2Sort_spec t (I.ext rs.ext) l (xU rs) λw2 Q=>?_;have X:=yh rs Q;rw[X.q.ldAgg (t:=za) zc];refine l3All_spec (xU X) λw3 R=>?_;have d:=yh X R;refine zo (λa=>?_) (λa=>?_)
 ·have S:nnB t=true:=by
   have g:=a;unfold M.allFixed at g;simp only[gg,decide_eq_true_eq,gZ] at g;refine nnB_iff.2 ⟨λN=>?_,λk hk=>?_⟩
   ·rw[N] at hlen;have h0:t.ks.length=0:=by simp[M.arity] at hlen;omega
    exact g.1 (gD h0)
   ·obtain⟨n,hn⟩:=GO.1 (g.2 k hk);exact nn_fixed hn
  have E:M.oneS ds t=if M.sortM ds t=0 then M.boolM (decide (M.evalM ds (M.zeroE ds) t=1)) else .mk 20 (M.sortM ds t) (M.evalM ds (M.zeroE ds) t) M.nada []:=by unfold M.oneS;rw[if_pos a]
  rw[d.q.ldAgg (t:=za) zc];refine yg xw yT λb7 J a0 f a4 h7=>?_;have b:=yh d f;refine l2Eval_spec t (H:=F) (I.ext b.ext) (M.zeroE_ok l) (xU b) (.inr S) hs λZ s=>?_;have p:=yh b s;simp only[push_cast];refine zb (λc=>?_) (λc=>?_)
  ·refine l3Bool_spec λw6 v6 u T=>?_;rw[E,if_pos c] at e;exact rt_give (yh p u) (rt_new p T) e
  ·try simp only[push_cast]
   rw[E,if_neg c] at e;exact rt_give p (zI0 20 _ _ _:TmR _ Z _ (.mk 20 (M.sortM ds t) (M.evalM ds (M.zeroE ds) t) M.nada [])).term e
 have na: ¬M.allFixed t=true:=by rw[a];decide
 simp only[push_cast,d.q.ld4,d.k.len];refine zb (λU=>?_) (λU=>?_)
 ·rw[d.q.ldAgg (t:=za) zc];have E:M.oneS ds t=t:=by unfold M.oneS;rw[if_neg na,if_pos (nil_len.1 U)]
  rw[E] at e;exact rt_give d (qq (xU d)) e
 have j: ¬t.ks=[]:=λh=>U (nil_len.2 h);have a3:0<t.ks.length:=Gx.2 j;simp only[push_cast,d.q.ld0];refine zb (λW=>?_) (λW=>?_)
 ·rw[d.q.ldAgg (t:=za) zc];have E:M.oneS ds t=M.logicS t:=by unfold M.oneS;rw[if_neg na,if_neg j,if_pos oM]
  rw[E] at e;refine l3Logic_spec (xU d) hs oM j λJ rv f z=>?_;have b:=yh d f;have l3:=d.r.lt;exact rt_give b (z.weaken λx A _=>A.imp id λh=>oM) e
 have n23: ¬23<=t.op:=oM
 try simp only[push_cast,d.q.ld0]
 refine zb (λm=>?_) (λm=>?_)
 ·have hl:t.ks.length=1:=by rw[m] at hlen;simp[M.arity] at hlen;omega
  simp(disch:=first|omega|simp only[push_cast]) only[push_cast,d.q.ld4,d.k.iaddr];refine d.k.load zc oM λx A=>?_;refine l2Sort_spec _ (I.ext d.ext) l A λJ f=>?_;have b:=yh d f;have E:M.oneS ds t=if M.sortM ds t=M.sortM ds (M.kid t 0) then M.kid t 0 else t:=by unfold M.oneS;rw[if_neg na,if_neg j,if_neg n23,if_pos m]
  simp only[push_cast];refine zb (λc=>?_) (λc=>?_)
  ·simp(disch:=first|omega|simp only[push_cast]) only[push_cast,b.q.ld4,b.k.iaddr];refine b.k.load zc oM λy hy=>?_;rw[E,if_pos (show M.sortM ds t=M.sortM ds (M.kid t 0) from c)] at e;exact rt_give b (qq hy) e
  ·rw[b.q.ldAgg (t:=za) zc];rw[E,if_neg (show¬M.sortM ds t=M.sortM ds (M.kid t 0) from c)] at e;exact rt_give b (qq (xU b)) e
 simp only[push_cast,d.q.ld4,d.k.len];have Y:=M.arity_ops (o:=t.op) oM;refine zb (λl1=>?_) (λl1=>?_)
 ·have V:t.ks.length=1:=oM;have ho:=M.arity_one (o:=t.op) oM;have E:M.oneS ds t=if(M.kid t 0).op=t.op then M.kid (M.kid t 0) 0 else t:=by unfold M.oneS;rw[if_neg na,if_neg j,if_neg n23,if_neg m,if_pos V]
  refine zd λJ f _=>?_;have b:=yh d f;simp(disch:=first|omega|simp only[push_cast]) only[push_cast,b.q.ld0,b.q.ld4,b.k.iaddr,true_and];rw[tms_op b.k oM];simp(disch:=first|omega|simp only[push_cast]) only[push_cast,b.q.ld0,b.q.ld4,b.k.iaddr,true_and];refine zb (λc=>?_) (λc=>?_)
  ·have k0:=M.good_kid hs (i:=0) oM;have a1:(t.ks.getD 0 default).ks.length=1:=by
    have:=M.len_of k0;rw[show(M.kid t 0).op=t.op from c] at this;have L:t.op=1\/t.op=2:=oM;rcases L with o|o<;>rw[o] at this<;>simp[M.arity] at this<;>(unfold M.kid at this;omega)
   refine tms_kids b.k oM λa5 C=>?_;simp(disch:=first|omega|simp only[push_cast]) only[push_cast,C.iaddr];refine C.load zc oM λx A=>?_;rw[E,if_pos (show(M.kid t 0).op=t.op from c)] at e;exact rt_give b (qq A) e
  ·rw[b.q.ldAgg (t:=za) zc];rw[E,if_neg (show¬(M.kid t 0).op=t.op from c)] at e;exact rt_give b (qq (xU b)) e
 ·have l2:t.ks.length=2:=by
   unfold M.arity at hlen
   repeat' split at hlen
   all_goals omega
  have E:M.oneS ds t=M.twoS t (M.sortM ds (M.kid t 0)):=by unfold M.oneS;rw[if_neg na,if_neg j,if_neg n23,if_neg m,if_neg oM]
  rw[E] at e;refine zd λJ f _=>?_;have b:=yh d f;obtain⟨cks,D,a2,O⟩:=b.k;simp(disch:=first|omega|simp only[push_cast]) only[push_cast,b.q.ld4,b.q.ldAgg (t:=za) zc,D.iaddr,D.ldAgg,true_and];refine l2Sort_spec _ (I.ext b.ext) l (O 0 oM).term λZ s=>?_;have p:=yh b s;simp(disch:=first|omega|simp only[push_cast]) only[push_cast,p.q.ldAgg (t:=za) zc,true_and,and_self];refine l3Two_spec (xU p) l2 λw6 rv u z=>?_;have r6:=yh p u;have l5:=p.r.lt;exact rt_give r6 (z.weaken λx A _=>A.imp id λh=>oM) e
end
section
variable {w:World} {K:oK} {F F' D G:Nat->Prop}
set_option maxRecDepth 20000 in
theorem l3Fold_spec:∀(t:M.Tm) {w:World} {K:oK} {F G:Nat->Prop} {dv tv:Value} {ds:List M.Dcl},DclsR F w dv ds->M.declOk ds=true->TermR G w tv t->M.sortM ds t≠ -1->ZX0 K w G (M.foldT ds t)->vcall Wu #[dv,tv] w K:=by
 refine M.Tm.ind λt ih w K F G dv tv ds hd T ht hs hK=>?_;have hlen:=M.len_of hs;have ay:t.ks.length<=3:=by
  unfold M.arity at hlen
  repeat' split at hlen
  all_goals omega
 refine ze {ord:=[oz 5 (oR 13) [(0,[2,3,4,5,6,7,8,9]),(1,[2,3,4,5,6,7,8,9]),(2,[3,4,5,6,7]),(3,[5]),(4,[5])]],loops:=[(3,[6])]} Tryz.func73 ?_;obtain⟨kv,rfl,ae⟩:=ht;refine zi λb1 w1 ap Y av h1=>?_;refine zj zn λb2 w2 aq Z aw h2=>?_;have az:=Y.size;have q2:=h1.ext Z;simp only[push_cast,q2.ld0,q2.ld1,q2.ld2,q2.ld3];refine zj zn λb3 w3 ar a0 ax h3=>?_;refine stTerm h3 rfl (zI0 t.op t.a t.b t.s:TmR (λ_=>False) w3 _ _) λB a7 b0 h4=>?_;have W:Ext w1 B:=Ext.then (Z.trans a0) a7 λy hy=>by subst hy;omega
 have N:=Y.trans W;have q4:=h1.ext W;have r4:=(h2.ext a0).same a7 oM;have ac:TmsR (λx=>G x/\x<w.heap.size) B kv t.ks:=(ae.weaken λb h X=>⟨h,X⟩).ext N;have an:=N.size;refine vloop_up t.ks.length (λi u w'=>u=[nI i]/\Same (λb=>b=b3) B w'/\∃k css,Blk w' b3 [nI t.op,nI t.a,nI t.b,.string t.s,k] za/\Own 0 5 zk w' k css/\css.length=i/\(∀b,k.ownBlock=some b->B.heap.size<=b)/\
   ∀j,j<i->TmR (λx=>(G x/\x<w.heap.size)\/(B.heap.size<=x/\k.ownBlock≠some x)) w' (css.getD j []) (M.foldT ds (t.ks.getD j default)))
  ⟨rfl,Same.refl _ _,_,[],h4,Own.nil _ _ _ _,rfl,λb h=>(by cases h),λj V=>absurd V oM⟩ ?_
 rintro i _ _ w5 C hi ⟨rfl,d,k,css,h5,v,S,g,E⟩ hC;have b4:=d.size;have O:Ext w w5:=Ext.then N d λy hy=>by subst hy;omega
 have a2:=ac.same d λb f _ e=>oM
 have q5:=q4.same d oM;simp only[push_cast,q5.ld4,a2.len];refine zb (λa=>?_) (λa=>?_)
 ·refine zd λw8 o _=>?_;have q8:=q5.ext o;have p8:=h5.ext o;obtain⟨cks,a6,au,hc⟩:=a2.ext o;simp(disch:=first|omega|simp only[push_cast]) only[push_cast,q8.ld4,p8.ld4,a6.iaddr,a6.ldAgg,true_and];have I:t.ks.getD i default∈t.ks:=M.getD_mem oM _;have b6:=o.size;refine ih _ I (hd.ext (O.trans o)) T (hc i oM).term ((M.sort_parts hs).2.1 _ I) λw9 rv Q z=>?_;obtain⟨cr,rfl,n⟩:=z.cells;have p9:=p8.ext Q;simp only[push_cast,p9.ld4,true_and,and_self];have b7:=Q.size;refine xt yp yB zn rfl (zQ n) dC λao w10 ai l aj a9=>?_;have a8:=p9.ext l;simp only[push_cast,a8.ld4,true_and,and_self];have D:=o.trans (Q.trans l);have a5:=v.ext D;refine Own.app1k a5 qz dC a9 (zQ n) (tmR_one n) oM oM λp b8 J m q=>?_;have ah:=a8.same m (λe=>by have:=g _ e;have:=h5.lt;omega);have al:=m.size
  try simp only[push_cast,true_and]
  have a3:p.cells= #[p]/\p.oneCell'=true:=by
   obtain⟨a,c,rfl,_⟩:=J.sl.shape;exact⟨rfl,rfl⟩
  refine ah.st (i:=4) a3.1 a3.2 xI rfl λA r am L=>?_;replace L:Blk A b3 [nI t.op,nI t.a,nI t.b,.string t.s,p] za:=L;rw[inc64' oM];have ak:=l.size;have H:∀b,p.ownBlock=some b->B.heap.size<=b:=λb f=>by
   rcases q b f with h|h
   ·exact g b h
   ·omega
  have U:Same (λb=>b=b3\/k.ownBlock=some b) w5 A:=(Same.of_ext D).trans ((m.mono λ_ _ h=> .inr h).trans (r.mono λ_ _ h=> .inl h));have aa:Same (λb=>b=b3) B A:=⟨U.os.trans d.os,U.tape.trans d.tape,U.output.trans d.output,gK d.size U.size,λb f a4=>(U.block b oM (λe=>e.elim a4 λe=>by have:=g b e;omega)).trans (d.block b f a4)⟩;refine hC oM _ _ ⟨rfl,aa,p,css++[cr],L,J.same r (λb f e=>by have:=H b f;omega),by simp[S],H,λj V=>?_⟩;by_cases ej:j<i
  ·rw[y3,Gd oM,<-y3];refine((E j ej).weaken (F':=λx=>((G x/\x<w.heap.size)\/(B.heap.size<=x/\k.ownBlock≠some x))/\x<w5.heap.size) λb h X=>⟨h,X⟩).same U (λb f _ e=>?_)|>.weaken λb f _=>?_
   ·rcases f.1 with h|h
    ·rcases e with e|e
     ·omega
     ·have:=g b e;omega
    ·rcases e with e|e
     ·omega
     ·exact h.2 e
   ·rcases f.1 with h|h
    ·exact .inl h
    ·refine .inr ⟨h.1,λe=>?_⟩;rcases q b e with e|e
     ·exact h.2 e
     ·omega
  ·have:j=i:=oM;subst this;rw[y3,Gr oM,S,pb];show TmR _ A cr _;refine(((n.weaken (F':=λx=>((G x/\x<w.heap.size)\/w8.heap.size<=x)/\x<w9.heap.size) λb h X=>⟨h,X⟩).ext l).same m (λb f _ e=>?_)).same r (λb f _ e=>?_)|>.weaken λb f _=>?_
   ·have:=g b e;have:=(v.lt e).2;rcases f.1 with h|h<;>omega
   ·rcases f.1 with h|h<;>omega
   ·rcases f.1 with h|h
    ·exact .inl h
    ·refine .inr ⟨oM,λe=>?_⟩;rcases q b e with e|e
     ·have:=(v.lt e).2;omega
     ·omega
 ·have ab:i=t.ks.length:=oM;subst ab;rw[h5.ldAgg (t:=za) zc];have ad:TmsR (λx=>(G x/\x<w.heap.size)\/B.heap.size<=x) w5 k (t.ks.map (M.foldT ds)):=by
   refine⟨css,v.sl.weaken λb f _=> .inr (g b f),by rw[S,y4],λj V=>?_⟩;rw[y4] at V;rw[M.getD_map _ V _ default];exact(E j V).weaken λb f _=>f.imp id λh=>h.1
  have R:=M.kids_good T hs;refine l3One_spec (t:=M.remake t (t.ks.map (M.foldT ds))) (hd.ext O) T ⟨k,rfl,ad⟩ (by rw[R.sort];exact hs) λw6 rv a1 z=>?_;rw[<-M.foldT_rem] at z;obtain⟨cr,rfl,n⟩:=z.cells;have r6:=(r4.same d oM).ext a1;refine qc r6 rfl n (λx hx=>by rcases hx with(h|h)|h<;>omega) λw7 ag b5 af=>?_;exact hK _ _ (Ext.then (O.trans a1) ag λy hy=>by subst hy;omega) (af.weaken λx hx _=>by
   rcases hx with(h|h)|h
   ·exact .inl h.1
   ·exact .inr oM
   ·exact .inr oM)
end
theorem UQ {ds:List M.Dcl} {t:M.Tm} (a:M.declOk ds=true) (b:M.fits t=true):M.tsort ds t=M.sortM ds t:=by unfold M.tsort;rw[if_pos ⟨b,a⟩]
theorem kB0 {ds:List M.Dcl} {t:M.Tm} (a:M.declOk ds=true) (b:M.fits t=true) (hs:M.sortM ds t≠ -1):Qu ds t=M.foldT ds t:=by
 unfold Qu;rw[if_neg (by rw[UQ a b];exact hs)]
end Go.Proofs.YtolbhkcajhlllaaGreatDoor
section
namespace Go.M
variable {ds:List Dcl} {env:List Int}
def msbN:List Bool->Nat
 |b::bs=>(if b then 2^bs.length else 0)+msbN bs
 |[]=>0
theorem WY (b:Bool) (bs:List Bool):msbN (b::bs)=(if b then 2^bs.length else 0)+msbN bs:=rfl
theorem msb_lt:∀bs:List Bool,msbN bs<2^bs.length
 |[]=>dC
 |b::bs=>by
  have:=msb_lt bs
  grind [WY]
theorem msb_app:∀aa bs:List Bool,msbN (aa++bs)=msbN aa*2^bs.length+msbN bs
 |[],bs=>by simp[msbN]
 |a::aa,bs=>by
  rw[Gv,WY,WY,msb_app aa bs,K3,Nat.pow_add,GS]
  grind
def envB:List Dcl->List Bool->List Int
 |d::ds,ins=>(msbN (ins.take d.2.toNat):Int)::envB ds (ins.drop d.2.toNat)
 |[],_=>[]
theorem envB_len:∀(ds:List Dcl) (ins:List Bool),(envB ds ins).length=ds.length
 |[],_=>rfl
 |d::ds,ins=>by simp[envB,envB_len ds]
def exK:List Bool->Int->List Int
 |b::bs,k=>(if b then-k else k)::exK bs (k+1)
 |[],_=>[]
def exC (ds:List Dcl) (env:List Int):List Int:=exK (insM ds env) 2
theorem exK_len:∀(bs:List Bool) (k:Int),(exK bs k).length=bs.length
 |[],_=>rfl
 |b::bs,k=>by simp[exK,exK_len bs]
theorem exK_get:∀{bs:List Bool} {k:Int} {i:Nat},i<bs.length->(exK bs k).getD i 0=if bs.getD i false then-(k+i) else k+i
 |[],_,_,h=>by simp at h
 |b::bs,k,0,_=>by simp[exK]
 |b::bs,k,i+1,h=>by
  have:=exK_get (bs:=bs) (k:=k+1) (i:=i) (by grind)
  grind [exK]
theorem exC_ok {m:Nat} (hm:1+(insM ds env).length<=m):yZ m (exC ds env)=true:=by
 refine QD.2 λk a=>?_;unfold exC at a⊢;rw[exK_len] at a;have e:=exK_get (k:=2) a;refine⟨?_,?_⟩
 ·grind [litOk]
 grind [exK_get]
def jobC (ds:List Dcl) (gs:Gs) (rs:List (List Int)) (nots:List (List Int)):Cnf:=netC (nIn ds) gs (rootsC rs++nots.map (exC ds))
def searchM (n:Nat) (ds:List Dcl) (c:Cnf):List Int×Int:=
 let s:=runM c.many.toNat c n emptyS
 if s.code=1 then(envB ds (insV (wayM s.put) (nIn ds)),1) else if s.code=2 then([],2) else([],3)
def solveM (n:Nat) (ds:List Dcl) (ts:List Tm) (nots:List (List Int)):List Int×Int:=match listB ds (ts.map (foldT ds)) with
 |none=>([],3)
 |some (gs,rs)=>searchM n ds (jobC ds gs rs nots)
section
variable {ts:List Tm} {gs:Gs} {rs nots:List (List Int)}
theorem job_ok (b:declOk ds=true) (h:ListNet ds ts gs rs) (d:∀e,e∈nots->envOk ds e=true) (c:ts.length+nots.length<=90):cnfOk (jobC ds gs rs nots)=true:=by
 refine net_ok (nIn_eq b).2 h.net (by unfold rootsC;rw[K3,y4,y4,h.many];exact c) λcl a=>?_;rcases gj.1 a with a|a
 ·exact roots_ok b h cl a
 ·obtain⟨e,he,rfl⟩:=gr.1 a;exact exC_ok (by rw[insM_n (d e he)];omega)
end
end Go.M
end
namespace Go.Proofs.YtolbhkcajhlllaaGreatDoor
open Go Go.Vc Go.Proofs
section
variable {ds:List M.Dcl} {t:M.Tm} {ts:List M.Tm} {nots:List (List Int)}
theorem VU (b:M.declOk ds=true) (h:M.tsort ds t=0):M.tsort ds (M.foldT ds t)=0/\Qu ds t=M.foldT ds t:=by
 obtain⟨a,d,f⟩:=Jy h;have c:=M.fold_good b t (by rw[a];decide);obtain⟨f1,f2⟩:=M.fits_iff.1 d;have e:M.fits (M.foldT ds t)=true:=M.fits_iff.2 ⟨gK c.size f1,gK c.deep f2⟩;exact⟨by rw[UQ b e,c.sort,a],kB0 b d (by rw[a];decide)⟩
theorem XX (h:VW ds ts=true):VW ds (ts.map (M.foldT ds))=true:=by
 obtain⟨b,a,c⟩:=all8_iff.1 h;refine all8_iff.2 ⟨by rw[y4];exact b,a,λu hu=>?_⟩;obtain⟨t,d,rfl⟩:=gr.1 hu;exact(VU a (c t d)).1
def qy (ds:List M.Dcl) (ts:List M.Tm) (nots:List (List Int)):List Int×Int:=if VW ds ts=true then M.solveM 4000 ds ts nots else([],4)
def yA0 (c:M.Cnf) (ds:List M.Dcl) (nots:List (List Int)):M.Cnf:=⟨c.many,c.list++nots.map (M.exC ds)⟩
theorem j80 {gs:M.Gs} {rs:List (List Int)}:yA0 (M.blastC ds gs rs) ds nots=M.jobC ds gs rs nots:=by
 show M.Cnf.mk _ _=M.Cnf.mk _ _;congr 1;show([1]::(M.gatesC _ gs 0++M.rootsC rs))++_=[1]::(M.gatesC _ gs 0++(M.rootsC rs++_));simp
theorem Q8 (h: ¬VW ds ts=true):qy ds ts nots=([],4):=by unfold qy;rw[if_neg h]
theorem Jw (h:VW ds ts=true) (a:(cnfE ds (ts.map (M.foldT ds))).2≠0):qy ds ts nots=([],3):=by
 unfold qy M.solveM;rw[if_pos h];unfold cnfE at a;rw[if_pos (XX h)] at a;cases b:M.listB ds (ts.map (M.foldT ds)) with
 |none=>rfl
 |some r=>rw[b] at a;exact absurd rfl a
theorem je0 (h:VW ds ts=true):(cnfE ds ts).2=0\/(cnfE ds ts).2=1:=by
 unfold cnfE;rw[if_pos h];cases M.listB ds ts with
 |none=>exact .inr rfl
 |some r=>exact .inl rfl
theorem solveR_run (h:VW ds ts=true) (b:(cnfE ds (ts.map (M.foldT ds))).2=0) (f:∀e,e∈nots->M.envOk ds e=true) (j:nots.length<=80):
  qy ds ts nots=M.searchM 4000 ds (yA0 (cnfE ds (ts.map (M.foldT ds))).1 ds nots)/\M.cnfOk (yA0 (cnfE ds (ts.map (M.foldT ds))).1 ds nots)=true/\1+M.nIn ds<=(cnfE ds (ts.map (M.foldT ds))).1.many.toNat:=by
 have c:=XX h;unfold qy M.solveM;rw[if_pos h];unfold cnfE at b⊢;rw[if_pos c] at b⊢;cases d:M.listB ds (ts.map (M.foldT ds)) with
 |none=>rw[d] at b;exact absurd b (by simp)
 |some r=>
  obtain⟨i,a2,a3⟩:=all8_iff.1 c;have a:=M.list_net a2 (λt g=>by rw[(Jy (a3 t g)).1];decide) d;have e:=j80 (ds:=ds) (nots:=nots) (gs:=r.1) (rs:=r.2);refine⟨by show _=M.searchM 4000 ds (yA0 (M.blastC ds r.1 r.2) ds nots);rw[e],by show M.cnfOk (yA0 (M.blastC ds r.1 r.2) ds nots)=true;rw[e];exact M.job_ok a2 a f oM,?_⟩;show 1+M.nIn ds<=(M.netC _ r.1 (M.rootsC r.2)).many.toNat;unfold M.netC;simp only;omega
end
section
variable {w:World} {G:Nat->Prop}
theorem one_tms {ks:List M.Tm} {css:List (List Value)} (k:css.length=ks.length) (h:∀i,i<ks.length->TmR G w (css.getD i []) (ks.getD i default)):∀y,y∈css->∀c,c∈y->c.oneCell'=true:=λy g c a=>by
 obtain⟨i,hi,rfl⟩:=gm g;have f:=h i oM;rw[y3,V0 hi] at f;obtain⟨j,he,b⟩:=f.inv;obtain⟨e,d,_⟩:=b;rw[show css[i]=(some css[i]).getD [] from rfl,he] at a;simp only[gd,gq,or_false] at a;rcases a with rfl|rfl|rfl|rfl|rfl
 ·rfl
 ·rfl
 ·rfl
 ·rfl
 ·exact d.one
end
section
variable {w:World} {K:oK} {D F F' G Fr Fx Fy X:Nat->Prop} {n N b:Nat} {gs:M.Gs} {v dv tv lv:Value} {ls ls':List Value} {xss yss:List (List Int)} {xs ys:List Int} {ds:List M.Dcl} {t:M.Tm} {ts:List M.Tm} {ar ab:Addr} {k m:Int} {st:Option M.Gs}
theorem lit_row {w2:World} {us:List Int} {xs:List Value} {K:oK} (k:xs=us.map (λx=>nI x)) (f:us.length<=8) (j:RowsR N (λb=>b<w2.heap.size) w2 ls xss) (i:ls.length=xss.length)
  (g:∀w3 v,Ext w2 w3->RowsR N (λb=>b<w3.heap.size) w3 (ls++[v]) (xss++[us])->(∃o l c,v= .slice o l c)->K v w3):vbuildS zh xs.length (xs.zipIdx.map λp=>(p.2,p.1)) w2 K:=by
 refine lit_ints k f λw3 b3 h a m d=>?_;refine g w3 _ a (RowsR.new (j.weaken λb n _ _=>oM) i a d (λb e=>?_) λb e=>d.lt e) ⟨_,_,_,rfl⟩;have:b=b3:=(X0 e).symm;omega
theorem lits_fin {w2:World} {xs:List Value} (g:xs.length<=8) (k:xs.length=xss.length) (m:∀x,x∈xs->∃o l c,x= .slice o l c) (f:RowsR N (λb=>b<w2.heap.size) w2 xs xss) (h:∀w' v,Ext w2 w'->Fresh N w' v xs xss->K v w'):
  vbuildS zI xs.length (xs.zipIdx.map λp=>(p.2,p.1)) w2 K:=by
 refine lit_lists m g λw3 b3 j a n d=>?_;have r:=f.nle;refine h w3 _ a ⟨d,k,λb i=>?_,?_⟩
 ·have:b=b3:=(X0 i).symm;omega
 ·exact(f.ext a).weaken λb q _ _ e=>by
   have:b3=b:=X0 e;omega
theorem gl_xor {a b k:Int} {K:oK} (u:∀w' v ls,Ext w w'->Fresh w.heap.size w' v ls [[a,b,-k],[-a,-b,-k],[-a,b,k],[a,-b,k]]->ls.length=4->K v w'):
  vbuildS zh 3 [(0,nI a),(1,nI b),(2,nI (-k))] w λt1 w1=>vbuildS zh 3 [(0,nI (-a)),(1,nI (-b)),(2,nI (-k))] w1 λt2 w2=>
   vbuildS zh 3 [(0,nI (-a)),(1,nI b),(2,nI k)] w2 λt3 w3=>vbuildS zh 3 [(0,nI a),(1,nI (-b)),(2,nI k)] w3 λt4 A=>vbuildS zI 4 [(0,t1),(1,t2),(2,t3),(3,t4)] A K:=by
 refine lit_row (N:=w.heap.size) (ls:=[]) (xss:=[]) (xs:=[nI a,nI b,nI (-k)]) (us:=[a,b,-k]) rfl (by simp) (RowsR.nil (gu _)) rfl λB v9 o p q=>?_;refine lit_row (xs:=[nI (-a),nI (-b),nI (-k)]) (us:=[-a,-b,-k]) rfl (by simp) p rfl λw10 v10 c h l=>?_;refine lit_row (xs:=[nI (-a),nI b,nI k]) (us:=[-a,b,k]) rfl (by simp) h rfl λy v11 d i m=>?_;refine lit_row (xs:=[nI a,nI (-b),nI k]) (us:=[a,-b,k]) rfl (by simp) i rfl λz v12 e j n=>?_;refine lits_fin (xs:=[v9,v10,v11,v12]) (by simp) rfl (λx t=>?_) j λs r f g=>u s r _ (o.trans (c.trans (d.trans (e.trans f)))) g rfl;simp only[gd,gq,or_false] at t;rcases t with rfl|rfl|rfl|rfl
 ·exact q
 ·exact l
 ·exact m
 ·exact n
theorem gl_and {a b k:Int} {K:oK} (r:∀w' v ls,Ext w w'->Fresh w.heap.size w' v ls [[a,-k],[b,-k],[-a,-b,k]]->ls.length=3->K v w'):
  vbuildS zh 2 [(0,nI a),(1,nI (-k))] w λt1 w1=>vbuildS zh 2 [(0,nI b),(1,nI (-k))] w1 λt2 w2=>
   vbuildS zh 3 [(0,nI (-a)),(1,nI (-b)),(2,nI k)] w2 λt3 w3=>vbuildS zI 3 [(0,t1),(1,t2),(2,t3)] w3 K:=by
 refine lit_row (N:=w.heap.size) (ls:=[]) (xss:=[]) (xs:=[nI a,nI (-k)]) (us:=[a,-k]) rfl (by simp) (RowsR.nil (gu _)) rfl λt v9 l m n=>?_;refine lit_row (xs:=[nI b,nI (-k)]) (us:=[b,-k]) rfl (by simp) m rfl λw10 v10 c g i=>?_;refine lit_row (xs:=[nI (-a),nI (-b),nI k]) (us:=[-a,-b,k]) rfl (by simp) g rfl λs v11 d h j=>?_;refine lits_fin (xs:=[v9,v10,v11]) (by simp) rfl (λx q=>?_) h λp o e f=>r p o _ (l.trans (c.trans (d.trans e))) f rfl;simp only[gd,gq,or_false] at q;rcases q with rfl|rfl|rfl
 ·exact n
 ·exact i
 ·exact j
structure CnfS (N b:Nat) (w:World) (m:Int) (lv:Value) (ls:List Value) (xss:List (List Int)):Prop where
 blk:Blk w b [nI m,lv] zq
 own:OwnV zI w lv ls
 len:ls.length=xss.length
 rows:RowsR N (λx=>lv.ownBlock≠some x/\x≠b) w ls xss
 new:∀x,lv.ownBlock=some x->N<=x/\x≠b
 lo:N<=b
theorem CnfS.ext {w':World} (h:CnfS N b w m lv ls xss) (he:Ext w w'):CnfS N b w' m lv ls xss:=⟨h.blk.ext he,h.own.ext he,h.len,h.rows.ext he,h.new,h.lo⟩
theorem kf0 (h:RowsR N Fr w ls xss) (d:ls.length=xss.length):∀u,u∈ls->u.oneCell'=true:=λu hu=>by
 obtain⟨j,b,rfl⟩:=gm hu;have a:=h.own j (by rw[<-d];exact b);obtain⟨o,c,e,_⟩:=a.ints.shape;rw[y3,V0 b,GH] at e;rw[e];rfl
theorem CnfS.add {q:World} {v9:Value} {M:Nat} {K:oK} (h:CnfS N b w m lv ls xss) (he:Ext w q) (n:Fresh M q v9 ls' yss) (V:w.heap.size<=M) (a:ls.length<=100000) (B:ls'.length<=1000)
  (J:∀w' F,Same (λx=>x=b\/lv.ownBlock=some x) q w'->CnfS N b w' m F (ls++ls') (xss++yss)->K undef w'):
  vbi .append [zI,zI] zI [lv,v9] q λt w1=>zU zI (oP b 1) t w1 K:=by
 have z9:=he.size;have Q:=h.blk.lt;have A:∀x,lv.ownBlock=some x->x<w.heap.size:=λx p=>h.own.lt p;refine OwnV.app (us:=ls') (h.own.ext he) ZR n.own.vals (kf0 n.rows n.len) oM oM λv10 w10 g d k=>?_;have T:=d.size;have s:=(h.blk.ext he).same d λe=>(h.new _ e).2 rfl;refine s.st (i:=1) (v:=v10) ?_ ?_ Q2 (by rfl) λG f H u=>?_
 ·obtain⟨o,c,e,_⟩:=g.vals.shape;rw[e];rfl
 ·obtain⟨o,c,e,_⟩:=g.vals.shape;rw[e];rfl
 have U:=f.size;have y:=h.rows.ext he;have C:=y.nle;have E:RowsR N (λx=>lv.ownBlock≠some x/\x≠b) q ls' yss:=by
  have a:=n.rows;refine⟨C,a.own,λj x O p=>?_,a.dj⟩;have B:=(a.sub j x O p).2;have:=h.rows.nle;exact⟨⟨λe=>by have:=A x e;omega,λe=>oM⟩,oM⟩
 have D:=y.app h.len E n.len λR S x a B L e=>by
  have:=(h.rows.own R a).lt L;have:=(n.rows.sub S x B e).2;omega
 have l:∀x,v10.ownBlock=some x->N<=x/\x≠b:=λx p=>by
  rcases k x p with r|r
  ·exact h.new x r
  ·exact⟨oM,λe=>oM⟩
 refine J G v10 ((d.mono λx _ h=> .inr h).trans (f.mono λx _ h=> .inl h)) ⟨u,g.same f λx p e=>(l x p).2 e,by rw[K3,K3,h.len,n.len],?_,l,h.lo⟩;have z:=D.weaken (F':=λx=>(lv.ownBlock≠some x/\x≠b)/\x<q.heap.size) λx a _ I=>⟨a,I⟩;refine((z.same d λx a _ e=>a.1.1 e).same f λx a _ e=>a.1.2 e).weaken λx a _ _=>⟨λe=>?_,a.1.2⟩;rcases k x e with r|r
 ·exact a.1.1 r
 ·omega
theorem CnfS.out {b2:Nat} {a0 c0:Value} {K:oK} (h:CnfS N b w m lv ls xss) (p:Blk w b2 [a0,c0] zq) (u:b2<N) (q:∀w',Same (· =b2) w w'->CnfO N w' lv ls ⟨m,xss⟩->K (.agg ⟨[nI m,lv]⟩) w'):
  zt zq (oP b 0) w λt45 g=>zU zq (oP b2 0) t45 g λ_ i=>vlv zq (oP b2 0) i K:=by
 obtain⟨o,c,f,_⟩:=h.own.vals.shape;generalize (ls.map λx=>[x]).length=l at f;subst f;rw[h.blk.ldAgg (t:=zq) zD];refine p.stAgg (cs':=[nI m,.slice o l c]) rfl zD net_one λs d r j=>?_;rw[j.lv (t:=zq) zD];refine q s d ⟨h.own.same d λx k e=>by have:=(h.new x k).1;omega,h.len,λx k=>(h.new x k).1,?_⟩;have a:=(h.rows.weaken (F':=λx=>(Value.slice o l c).ownBlock≠some x/\N<=x) λx a n _=>⟨a.1,n⟩).same d λx a _ e=>by have:=a.2;omega
 exact a.weaken λx a _ _=>a.1
theorem l6Many_spec {x:Value} (e:GatesR Fx w x gs) (j:n<=8) (i:gs.length<=600) (f:∀w',Ext w w'->K (nI (1+n+gs.length:Nat)) w'):vcall Wl #[.agg ⟨[nI n,x]⟩] w K:=by
 refine ze {} Tryz.func103 ?_;obtain⟨o,c,d,_⟩:=e.shape;have hlen:∀(w':World) (K:oK),vbi .len [zz] zV [x] w' K=K (nI gs.length) w':=λw' K=>by rw[Sl.len e qa,yX0]
 generalize (gs.map ym).length=l at d;subst d;refine zi λb1 w1 g b h a=>?_;simp(disch:=first|omega|simp only[push_cast]) only[push_cast,a.ld0,a.ld1,hlen,zl];have:=f w1 b;simp only[push_cast] at this;exact this
theorem l6Cnf_spec {x:Value} (L:GatesR Fx w x gs) (hg:M.NetG n gs) (hn:n<=8) (hK:∀w' lv ls,Ext w w'->CnfO w.heap.size w' lv ls (M.netC n gs [])->K (.agg ⟨[nI (1+n+gs.length:Nat),lv]⟩) w'):vcall zh0 #[.agg ⟨[nI n,x]⟩] w K:=by
 refine ze {loops:=[(3,[4])]} Tryz.func72 ?_;have V:=hg.few;have af:=L.shape;obtain⟨o,c,hv,_⟩:=af;have hlen:∀(w':World) (K:oK),vbi .len [zz] zV [x] w' K=K (nI gs.length) w':=λw' K=>by rw[Sl.len L qa,yX0]
 generalize (gs.map ym).length=l at hv;subst hv;refine zi λb1 w1 aj S an a3=>?_;refine zj xp λb2 w2 ak F ao a4=>?_;have e2:=S.trans F;have z:=a3.ext F;rw[z.ldAgg (t:=zw) zY];refine l6Many_spec (Sl.ext L e2) hn V λw3 q=>?_;have e3:=e2.trans q;have z1:=S.size;have z2:=F.size;have z3:=q.size;obtain⟨m,hm⟩:∃m:Int,m=(1+n+gs.length:Nat):=⟨_,rfl⟩;rw[<-hm];refine lit_row (N:=w3.heap.size) (ls:=[]) (xss:=[]) (xs:=[nI 1]) (us:=[1]) rfl (by simp) (RowsR.nil (gu _)) rfl λw4 v4 T ab ac=>?_;refine lits_fin (xs:=[v4]) (xss:=[[1]]) (by simp) rfl (λy s=>by rw[gn.1 s];exact ac) ab λw5 v5 U j=>?_;have z4:=T.size;have z5:=U.size;obtain⟨Q,D,Z,_⟩:=j.own.vals.shape;generalize ([v4].map λx=>[x]).length=O at Z;subst Z;rw[show ∀K:oK,yC zq [(0,nI m),(1,.slice Q O D)] w5 K=K (.agg ⟨[nI m,.slice Q O D]⟩) w5 from λK=>zT QG (us:=[[nI m],[.slice Q O D]]) rfl rfl];refine zj xp λb6 w6 al a7 ap a5=>?_;refine a5.stAgg (cs':=[nI m,.slice Q O D]) rfl zD net_one λw7 ad aq a6=>?_;have E:Ext w5 w7:=Ext.then a7 ad λy s=>by subst s;omega
 have a0:∀b,(Value.slice Q O D).ownBlock=some b->b<w5.heap.size:=λb hb=>j.own.lt hb;have h0:CnfS w3.heap.size b6 w7 m (.slice Q O D) [v4] [[1]]:=
  ⟨a6,j.own.ext E,rfl,((j.rows.weaken (F':=λx=>(Value.slice Q O D).ownBlock≠some x/\x≠b6) λx h1 _ h3=>⟨h1,oM⟩).ext E),λx L=>⟨j.new x L,by have:=a0 x L;omega⟩,oM⟩
 have a2:=T.trans (U.trans E);refine vloop_up gs.length (λi u w'=>u=[nI i]/\Ext w3 w'/\∃lv ls,CnfS w3.heap.size b6 w' m lv ls ([1]::M.gatesC n (gs.take i) 0)) ⟨rfl,a2,_,_,h0⟩ ?_;rintro i _ _ v C hi ⟨rfl,e,lv,ls,A⟩ hC;have d:=(z.ext q).ext e;have r:GatesR Fx v (.slice o l c) gs:=Sl.ext L (e3.trans e);simp(disch:=first|omega|simp only[push_cast]) only[push_cast,d.ld0,d.ld1,hlen];refine zb (λa=>?_) (λa=>?_)
 ·have k:i<gs.length:=oM;obtain⟨ha,hb⟩:=gpos hg hn k;have a8:=gatesC_take (n:=n) k;have H:(gs.map ym).getD i []=ym gs[i]:=zS0 k;have J:i<(gs.map ym).length:=by rw[y4];exact k
  generalize gs[i]=g at*;have l0:∀K:oK,zt Y0 (.pointer (some ((eaddr (.slice o l c) 3 i).add 0))) v K=K (.bool g.x) v:=λK=>Sl.ldField r Yo0 J (by rw[H];rfl);have l1:∀K:oK,zt zV (.pointer (some ((eaddr (.slice o l c) 3 i).add 1))) v K=K (nI g.a) v:=λK=>Sl.ldField r Wa J (by rw[H];rfl);have l2:∀K:oK,zt zV (.pointer (some ((eaddr (.slice o l c) 3 i).add 2))) v K=K (nI g.b) v:=λK=>Sl.ldField r Wa J (by rw[H];rfl);simp(disch:=first|(simp only[push_cast])|(simp only[y4];omega)|omega) only[push_cast,d.ld0,d.ld1,r.iaddr,l0,l1,l2,zl];have hk:(2+(n:Int)+i).natAbs<=100000:=oM;have am:ls.length<=2401:=by
   have h1:=Z9 n (gs.take i) 0;have h2:(gs.take i).length=i:=by rw[gh];omega
   rw[A.len,gz];omega
  have ar:=e.size;have W:∀{ys:List (List Int)},M.gateC (2+n+i) g=ys->[1]::M.gatesC n (gs.take i) 0++ys=[1]::M.gatesC n (gs.take (i+1)) 0:=λh=>by rw[a8,<-h];rfl
  have fin:∀{p w10:World} {v9:Value} {ls':List Value} {ys:List (List Int)},Ext v p->Fresh v.heap.size p v9 ls' ys->ls'.length<=4->M.gateC (2+n+i) g=ys->vbi .append [zI,zI] zI [lv,v9] p λt w1=>zU zI (oP b6 1) t w1 λ_ a1=>C [nI ((i:Int)+1)] a1:=λ{p w10 v9 ls' ys} f hf h4 ag=>by
   refine A.add f hf (gu _) oM oM λau ai Y B=>?_;refine hC k _ _ ⟨by simp,Ext.then (e.trans f) Y λy s=>?_,ai,ls++ls',?_⟩
   ·rcases s with rfl|s
    ·exact A.lo
    ·exact(A.new y s).1
   ·rw[W ag] at B;exact B
  refine zo (λI=>?_) (λI=>?_)
  ·simp(disch:=first|omega|simp only[push_cast]) only[push_cast,A.blk.ld1,neg_wrap ha,neg_wrap hb,neg_wrap hk];simp only[gJ];exact gl_xor λp v9 ah f G h4=>fin (w10:=p) f G oM (by unfold M.gateC;rw[if_pos I])
  ·simp(disch:=first|omega|simp only[push_cast]) only[push_cast,A.blk.ld1,neg_wrap ha,neg_wrap hb,neg_wrap hk];simp only[gJ];exact gl_and λp v9 ah f G h4=>fin (w10:=p) f G oM (by unfold M.gateC;rw[if_neg (by simp[I])])
 ·have a9:i=gs.length:=oM;subst a9;rw[gw] at A;have R:=(a4.ext q).ext e;refine A.out R oM λp ae hO=>?_;have X:Ext w p:=Ext.then (e3.trans e) ae λy s=>by subst s;omega
  rw[hm];refine hK p lv ls X ?_;have h1:=hO.down (M:=w.heap.size) oM;unfold M.netC;have aa:(1+n+gs.length:Int)=m:=by rw[hm];simp
  rw[gC,aa];exact h1
theorem CnfS.of {c:M.Cnf} {K:oK} (h:CnfO N w lv ls c) (n:∀w' b,b=w.heap.size->Ext w w'->CnfS N b w' c.many lv ls c.list->K (oP b 0) w'):
  qp zq w λt4 w1=>zU zq t4 (.agg ⟨[nI c.many,lv]⟩) w1 λ_ w2=>K t4 w2:=by
 obtain⟨o,cc,d,_⟩:=h.lst.vals.shape;generalize (ls.map λx=>[x]).length=l at d;subst d;have t:=h.rows.nle;refine zj xp λb w1 g i q f=>?_;refine f.stAgg (cs':=[nI c.many,.slice o l cc]) rfl zD net_one λw2 k r m=>?_;have a:Ext w w2:=Ext.then i k λy p=>by subst p;omega
 have j:∀x,(Value.slice o l cc).ownBlock=some x->x<w.heap.size:=λx e=>h.lst.lt e;exact n w2 b g a ⟨m,h.lst.ext a,h.len,(h.rows.weaken (F':=λx=>(Value.slice o l cc).ownBlock≠some x/\x≠b) λx f _ s=>⟨f,oM⟩).ext a,λx e=>⟨h.dl x e,by have:=j x e;omega⟩,oM⟩
theorem l8All_spec (l:Ji ds) (q:DclsR Fx w dv ds) (o:TmsR Fy w tv ts) (p:∀w',Ext w w'->K (.bool (VW ds ts)) w'):vcall z40 #[dv,tv] w K:=by
 refine ze {loops:=[(4,[5])],cuts:=[(8195,[])]} Tryz.func29 ?_;have z:=o.small;have no: ¬(ts.length<=8/\M.declOk ds=true/\∀t,t∈ts->M.tsort ds t=0)->∀w',Ext w w'->K (.bool false) w':=λh w' he=>by
  have:=p w' he;rwa[show VW ds ts=false by rw[GI];exact λe=>h (all8_iff.1 e)] at this
 refine zp (λu w'=>u=[]/\Ext w w'/\M.declOk ds=true/\ts.length<=8) (λJ y=>?_) ?_
 ·refine spec_DeclOk_spec q l λw1 b=>?_;simp only[push_cast];refine zo (λh=>no (λe=>by rw[e.2.1] at h;cases h) _ b) (λh=>?_);simp only[push_cast,(o.ext b).len];refine zb (λr=>no (λe=>by have:=e.1;omega) _ b) (λr=>y _ _ ⟨rfl,b,by simpa using h,oM⟩)
 rintro _ _ w1 ⟨rfl,b,n,s⟩;refine vloop_up ts.length (λi u w'=>u=[nI i]/\Ext w w'/\∀j,j<i->M.tsort ds (ts.getD j default)=0) ⟨rfl,b,λj m=>absurd m oM⟩ ?_;rintro i _ _ w2 C hi ⟨rfl,c,d⟩ v;have g:=o.ext c;simp only[push_cast,g.len];refine zb (λa=>?_) (λa=>?_)
 ·have f:i<ts.length:=oM;simp(disch:=first|omega|simp only[push_cast]) only[push_cast,g.iaddr];refine g.load zc f λx A=>?_;refine spec_TermSort_spec l (q.ext c) A λw3 k=>?_;simp only[push_cast];refine zb (λh=>no (λe=>h (e.2.2 _ (M.getD_mem f _))) _ (c.trans k)) (λh=>?_);rw[inc64' oM];refine v f _ _ ⟨rfl,c.trans k,λj m=>?_⟩;by_cases e:j<i
  ·exact d j e
  ·have:j=i:=oM;subst this;exact Gm h
 ·have:=p w2 c;rwa[all8_iff.2 ⟨s,n,λt hm=>by
   obtain⟨j,m,rfl⟩:=gm hm;have:=d j oM;rwa[y3,V0 m] at this⟩] at this
def XK (rs:List (List Int)):List Int:=rs.map λr=>r.getD 0 0
theorem l8Cnf_spec (ad:VW ds ts=true) (hd:DclsR Fx w dv ds) (ht:TmsR Fy w tv ts)
  (hK:∀w' lv ls,Ext w w'->CnfO w.heap.size w' lv ls (cnfE ds ts).1->K (.tuple #[.agg ⟨[nI (cnfE ds ts).1.many,lv]⟩,.bool (decide ((cnfE ds ts).2=0))]) w'):vcall z30 #[dv,tv] w K:=by
 refine ze {ord:=[oz 7 (oR 12) [(0,[1,2,3,4,5]),(1,[2,3,4,5]),(2,[3]),(8,[9]),(9,[10])],oz 15 (oR 11) [(0,[2,3,4,5,6,7]),(1,[2,3,4,5,6,7]),(2,[3])]],loops:=[(4,[7,8]),(13,[11])]} Tryz.func45 ?_;obtain⟨h8,E,Y⟩:=all8_iff.1 ad;obtain⟨bn,an⟩:=bits_nat E;have ch:=ht.small;refine zj xp λb4 w1 ca a6 bw aj=>?_;refine sbits8_spec (k:=ds.length) E (gu _) (by rw[gw];exact hd.ext a6) λw2 a7=>?_;rw[M.bitT_all,bn];simp only[push_cast,jj0,ZT0];have e2:=a6.trans a7;refine zj xy λL w3 cc ao ci bl=>?_;have ay:MkR (M.bits ds).toNat (λb=>b=L) w3 [nI ((M.bits ds).toNat:Nat),.slice none 0 0,.bool true] (some []):=⟨none,0,0,rfl,GatesR.nil,by simp⟩;refine bl.stAgg (cs':=[nI ((M.bits ds).toNat:Nat),.slice none 0 0,.bool true]) rfl qZ ay.one λw4 bu cj V=>?_;have bj:Ext w2 w4:=Ext.then ao bu λy v=>by subst v;omega
 have z1:=a6.size;have z2:=a7.size;have z3:=ao.size;refine yg xw yT λb5 w5 cb ap ck bk=>?_;have ah:=bj.trans ap;have e5:=e2.trans ah;have bt:OwnI zh w5 (.slice (some ⟨b5,0,none⟩) 0 0) []:=Blk.own1 (t:=zh) (cs:=[]) (by rw[qL];exact bk) (gP _) rfl rfl oM;have cm:=V.lt;have bf:∀b,(Value.slice (some ⟨b5,0,none⟩) 0 0).ownBlock=some b->b=b5:=λb q=>(X0 q).symm;have az:MkR (M.bits ds).toNat (λb=>b=L\/(Value.slice (some ⟨b5,0,none⟩) 0 0).ownBlock=some b) w5 [nI ((M.bits ds).toNat:Nat),.slice none 0 0,.bool true] (some []):=⟨none,0,0,rfl,GatesR.nil,by simp⟩;refine vloop_up ts.length (λi u w'=> ∃mv cs st rs,u=[mv,nI i]/\Ext w2 w'/\Blk w' L cs zA/\MkR (M.bits ds).toNat (λb=>b=L\/mv.ownBlock=some b) w' cs st/\M.Bd.Out (M.bits ds).toNat (M.seqB ((ts.take i).map (M.termB ds))) (some []) st rs/\rs.length=i/\OwnI zh w' mv (XK rs)/\∀b,mv.ownBlock=some b->w2.heap.size<=b/\b≠L)
  ⟨_,_,some [],[],rfl,ah,V.ext ap,az,.inl ⟨[],rfl,rfl⟩,rfl,bt,λb q=>by have:=bf b q;omega⟩ ?_
 rintro i _ _ w6 C hi ⟨mv,cs,st,rs,rfl,O,d,H,m,T,S,R⟩ hC;have e6:=e2.trans O;have ba:=ht.ext e6;simp only[push_cast,ba.len];have z26:=O.size;refine zb (λa=>?_) (λa=>?_)
 ·have D:i<ts.length:=oM;refine yg xw yT λb7 w7 cd a8 bx am=>?_;refine zd λw8 a9 _=>?_;have s:=a8.trans a9;have cq:=s.size;have bb:=ba.ext s;have ak:=d.ext s;have br:∀{w':World} {cs:List Value},cs.length=3->Blk w' L cs zA->∀K:oK,zt zA (oP L 0) w' K=K (.agg ⟨cs⟩) w':=λh3 h K=>h.ldAgg (t:=zA) (by rw[h3];exact qZ);rw[br H.len ak];simp(disch:=first|omega|simp only[push_cast]) only[push_cast,bb.iaddr,true_and];refine bb.load zc D λx hx=>?_;have hD:∀b,(b=L\/mv.ownBlock=some b)->b<w8.heap.size:=λb q=>q.elim (λe=>by have:=d.lt;omega) λh=>by have:=S.lt h;omega
  obtain⟨af,_,c9⟩:=Jy (Y _ (M.getD_mem D default));refine⟨rfl,sdo8_spec E an _ (by rw[af];decide) (H.ext s λb h _=>h) hD (hd.ext (e6.trans s)) hx λw9 a4 bg r zs aq Q bz c7 b1=>?_⟩;have p:=s.trans aq;have z9:=aq.size;have bc:=(out_lens E (by rw[af];decide) b1).1;have bw:zs.length=1:=by rw[bc,af];rfl
  simp only[push_cast,true_and,and_self];have al:=d.ext p;have bd:=d.lt;refine al.stAgg (cs':=a4) (by rw[Q.len,H.len]) (by rw[Q.len];exact qZ) Q.one λw10 n c8 ai=>?_;have J:Ints (New w8) w10 r zs:=bz.same n λb q _ e=>by have:w8.heap.size<=b:=q;omega
  have av:=Q.same n λb q=> .inl q;simp(disch:=first|omega|simp only[push_cast]) only[push_cast,true_and,and_self,J.iaddr,J.load];refine spec_one λbh cn f b0 c5=>?_;have ae:OwnI zh bh mv (XK rs):=((S.ext p).same n λb q e=>(R b q).2 e).ext f;have ax:(XK rs).length=i:=by unfold XK;rw[y4,T]
  refine ae.app (ys:=[zs.getD 0 0]) xE b0.ints (by simp only[gS];omega) (by simp only[gS];omega) λv12 bi a0 A Z=>?_
  try simp(disch:=omega) only[push_cast,zl]
  have cp:=f.size;have z12:=A.size;have c4:∀b,mv.ownBlock=some b->b<w6.heap.size:=λb q=>S.lt q;have aw:MkR (M.bits ds).toNat (λb=>b=L\/v12.ownBlock=some b) bi a4 bg:=
   (av.ext f λb h _=>h).swap A (λb q=> .inr q) λb q hl=>q.elim .inl λh=>(Z b h).elim .inr λh2=>oM
  refine hC D _ _ ⟨v12,a4,bg,rs++[zs],by simp,?_,((ai.ext f).same A λe=>(R _ e).2 rfl),aw,?_,by rw[K3,T];rfl,?_,λb q=>?_⟩
  ·exact Ext.then ((Ext.then (O.trans p) n λy v=>by subst v;omega).trans f) A λy v=>(R y v).1
  ·rw[M.take_add D default,gx];exact yU0 m b1
  ·unfold XK at a0⊢;rw[gx];exact a0
  ·rcases Z b q with h|h
   ·exact R b h
   ·exact⟨oM,λe=>oM⟩
 ·have D:i=ts.length:=oM;subst D;rw[gw] at m;have U:=aj.ext (a7.trans O);have cl:=aj.lt;have bd:=d.lt;cases st with
  |none=>
   have bo:cs=[nI 0,.slice none 0 0,.bool false]:=H;subst bo;have bs:M.listB ds ts=none:=by
    rcases m with⟨g,q1,q2⟩|⟨q1,q2,_⟩
    ·cases q2
    ·exact q1
   have a5:cnfE ds ts=(⟨0,[]⟩,1):=by unfold cnfE;rw[if_pos ad,bs]
   simp(disch:=first|omega|simp only[push_cast]) only[push_cast,d.ld1,d.ld2,Pv];rw[jm0];refine U.stAgg (cs':=[nI 0,.slice none 0 0]) rfl zD net_one λw7 bv bx am=>?_;rw[am.lv (t:=zq) zD];have m:Ext w w7:=Ext.then e6 bv λy v=>by subst v;omega
   have:=hK w7 (.slice none 0 0) [] m;rw[a5] at this;exact this (x30 m.size)
  |some gs=>
   obtain⟨o,l,c,rfl,bp,ce⟩:=H;have a3:M.listB ds ts=some (gs,rs):=by
    rcases m with⟨g,q1,q2⟩|⟨q1,q2,_⟩
    ·cases q2;exact q1
    ·cases q2
   have a2:=M.list_net E (λt ht=>by rw[(Jy (Y t ht)).1];decide) a3;have a5:cnfE ds ts=(M.blastC ds gs rs,0):=by unfold cnfE;rw[if_pos ad,a3]
   simp(disch:=first|omega|simp only[push_cast]) only[push_cast,d.ld1,d.ld2,Gc];rw[Blk.ldTake (us:=[nI ((M.bits ds).toNat:Nat),.slice o l c]) (r:=[.bool true]) d zY];refine l6Cnf_spec bp a2.net an λw7 lv ls a8 hO=>?_;refine CnfS.of (c:=M.netC (M.bits ds).toNat gs []) hO λw8 b8 c2 a9 hS=>?_;have cg:=Z9 (M.bits ds).toNat gs 0;have c3:=a2.net.few;have c6:(M.netC (M.bits ds).toNat gs []).list.length<=2401:=by
    show([1]::(M.gatesC _ gs 0++[])).length<=2401;rw[gC,gz];omega
   have ac:(M.netC (M.bits ds).toNat gs []).many=(M.blastC ds gs rs).many:=rfl;have ab:(M.netC (M.bits ds).toNat gs []).list++M.rootsC rs=(M.blastC ds gs rs).list:=by
    show([1]::(M.gatesC _ gs 0++[]))++M.rootsC rs=[1]::(M.gatesC _ gs 0++M.rootsC rs);rw[gC];rfl
   generalize M.netC (M.bits ds).toNat gs []=c0 at*;have s:=a8.trans a9;have ax:(XK rs).length=ts.length:=by unfold XK;rw[y4,T]
   refine vloop_up ts.length (λj u w'=>u=[nI j]/\Ext w6 w'/\∃lv ls,CnfS w6.heap.size b8 w' c0.many lv ls (c0.list++M.rootsC (rs.take j))) ⟨rfl,s,lv,ls,by simpa[M.rootsC] using hS⟩ ?_;rintro j _ _ w9 C2 hj ⟨rfl,p,c1,ag,B⟩ bm;have a1:=(S.ext p).ints;simp only[push_cast,a1.len,ax];refine zb (λa=>?_) (λa=>?_)
   ·have au:j<rs.length:=oM;have aa:(XK rs).getD j 0=(rs.getD j []).getD 0 0:=by
     unfold XK;rw[M.getD_map (λr:List Int=>r.getD 0 0) au 0 []]
    refine zd λw10 F _=>?_;have z:=B.ext F;have I:=a1.ext F;simp(disch:=first|omega|simp only[push_cast]) only[push_cast,z.blk.ld1,I.iaddr,I.load,true_and];rw[aa];refine lit_row (N:=w10.heap.size) (ls:=[]) (xss:=[]) (xs:=[nI ((rs.getD j []).getD 0 0)]) (us:=[(rs.getD j []).getD 0 0]) rfl (by simp) (RowsR.nil (gu _)) rfl λbh v11 f b2 b3=>?_;simp(disch:=first|omega|simp only[push_cast]) only[push_cast,(z.ext f).blk.ld1,true_and,and_self];refine lits_fin (xs:=[v11]) (xss:=[[(rs.getD j []).getD 0 0]]) (by simp) rfl (λy v=>by rw[gn.1 v];exact b3) b2 λbi v12 G ar=>?_;simp(disch:=first|omega|simp only[push_cast]) only[push_cast,((z.ext f).ext G).blk.ld1,true_and,and_self];have cf:ag.length<=3000:=by
     rw[B.len,K3];unfold M.rootsC;rw[y4,gh];omega
    refine z.add (f.trans G) ar (gu _) oM (by simp) λco be b9 X=>?_
    try simp(disch:=omega) only[push_cast,zl]
    have z9:=p.size;refine bm oM _ _ ⟨by simp,Ext.then (p.trans (F.trans (f.trans G))) b9 λy v=>?_,be,ag++[v11],?_⟩
    ·rcases v with rfl|v
     ·exact B.lo
     ·exact(B.new y v).1
    ·rw[M.take_add au []];unfold M.rootsC at X⊢;rw[gx,<-gY];exact X
   ·have bq:j=ts.length:=oM;subst bq;rw[<-T,gw,ab] at B;refine B.out (U.ext p) oM λw10 n W=>?_;have m:Ext w w10:=Ext.then (e6.trans p) n λy v=>by subst v;omega
    have:=hK w10 c1 ag m;rw[a5] at this;rw[ac] at W⊢;exact this ((W.down (by have:=e6.size;omega)))
end
end Go.Proofs.YtolbhkcajhlllaaGreatDoor
namespace Go.Proofs.YtolbhkcajhlllaaGreatDoor
open Go Go.Vc Go.Proofs Go.M
section
variable {w:World} {K:oK} {F Fr:Nat->Prop}
def Sep (Fr:Nat->Prop) (os:List (Option Nat)):Prop:=os.Pairwise (λa b=>∀x,a=some x->b≠some x)/\∀o,o∈os->∀x,o=some x->¬Fr x
structure TrailR (Fr:Nat->Prop) (w:World) (bt many:Nat) (put:List Int) (ds:List Bool) (vp vpl vl:Value):Prop where
 blk:Blk w bt [vp,vpl,vl] yD
 rp:OwnI zh w vp put
 rpl:OwnI zh w vpl (places many put)
 rl:OwnI zh w vl (levels ds)
 sep:Sep Fr [some bt,vp.ownBlock,vpl.ownBlock,vl.ownBlock]
 len:ds.length=put.length
 dis:Distinct put
 bnd:∀x,x∈put->x≠0/\x.natAbs<=many
 few:many<=700
def kK (bt:Nat) (vp vpl vl:Value) (b:Nat):Prop:=b=bt\/vp.ownBlock=some b\/vpl.ownBlock=some b\/vl.ownBlock=some b
section
variable {bt many:Nat} {put:List Int} {ds:List Bool} {vp vpl vl:Value}
theorem TrailR.same {S:Nat->Prop} {w':World} (h:TrailR Fr w bt many put ds vp vpl vl) (hw:Same S w w') (hs:∀b,kK bt vp vpl vl b->¬S b):TrailR Fr w' bt many put ds vp vpl vl:=
 ⟨h.blk.same hw (hs _ (.inl rfl)),h.rp.same hw λb a=>hs _ (.inr (.inl a)),h.rpl.same hw λb a=>hs _ (.inr (.inr (.inl a))),h.rl.same hw λb a=>hs _ (.inr (.inr (.inr a))),h.sep,h.len,h.dis,h.bnd,h.few⟩
theorem TrailR.ext {w':World} (h:TrailR Fr w bt many put ds vp vpl vl) (hw:Ext w w'):TrailR Fr w' bt many put ds vp vpl vl:=h.same hw λ_ _ h=>h
theorem nodup_le {m:Nat} {xs:List Nat} (b:xs.Nodup) (a:∀x,x∈xs->1<=x/\x<=m):xs.length<=m:=by
 have:=b.length_le_of_subset (l₂:=(List.range' 1 m)) λx c=>by rw[List.mem_range'_1];have:=a x c;omega
 simpa using this
theorem TrailR.few' (h:TrailR Fr w bt many put ds vp vpl vl):put.length<=many:=by
 have:=nodup_le (m:=many) h.dis λx a=>by
  obtain⟨y,b,rfl⟩:=gr.1 a;have:=h.bnd y b;omega
 simpa using this
theorem newTrail_spec (hm:many<=700) (i:∀b,Fr b->b<w.heap.size) (p:∀bt vp vpl vl w',Ext w w'->TrailR Fr w' bt many [] [] vp vpl vl->(∀b,kK bt vp vpl vl b->w.heap.size<=b)->K (oP bt 0) w'):
  vcall JV #[nI many] w K:=by
 refine ze {} Tryz.func160 ?_;simp(disch:=omega) only[push_cast,zl];rw[show((many:Int)+1)=((many+1:Nat):Int) from by omega];refine vmkS_own (bs:=8) xE qL xH rfl oM oM λv1 w1 g c f=>?_;refine Q4 y10 (us:=[[v1]]) (by simp[g.vals.cells1]) rfl ?_;refine yq λb w2 q d _ n=>?_;have m:OwnI zh w2 v1 (places many []):=by rw[xk0];unfold OwnI;rw[GF];exact g.ext d
 refine p b (.slice none 0 0) v1 (.slice none 0 0) w2 (c.trans d) ⟨n,OwnI.nil,m,OwnI.nil,⟨?_,?_⟩,rfl,G4,(λx a=>by cases a),hm⟩ ?_
 ·have j:∀x,v1.ownBlock=some x->x<b:=λx a=>by have:=g.lt a;omega
  simp[Value.ownBlock];intro e;have:=j b e;omega
 ·have k:=c.size;intro o l x a hF;have:=i x hF;simp only[gd,gq,or_false] at l;rcases l with rfl|rfl|rfl|rfl
  ·cases a;omega
  ·cases a
  ·have:=f x a;omega
  ·cases a
 ·have k:=c.size;rintro x (rfl|h|h|h)
  ·omega
  ·cases h
  ·exact f x h
  ·cases h
theorem assigned_spec {l:Int} (h:TrailR Fr w bt many put ds vp vpl vl) (e:l.natAbs<=many) (d:∀w',Ext w w'->K (.bool (decide (placeOf put l.natAbs≠0))) w'):
  vcall ZB #[oP bt 0,nI l] w K:=by
 refine ze {ord:=[oz 1 (oR 10) [(0,[4,5]),(1,[4,5]),(2,[4,5]),(3,[4,5])]]} Tryz.func206 ?_;have g:=h.few;refine zd λw1 a _=>?_;have c:=h.ext a;have b:=c.rpl.ints;have f:=kO many put;simp only[push_cast,c.blk.ld1,true_and];refine variable_spec oM oM ?_;simp(disch:=first|omega|simp only[push_cast]) only[push_cast,c.blk.ld1,true_and,b.iaddr,b.load,and_self,places_get e];have:=d w1 a;simpa using this
theorem isTrue_spec {l:Int} (h:TrailR Fr w bt many put ds vp vpl vl) (j:l.natAbs<=many) (g:∀w',Ext w w'->K (.bool (decide (l∈put))) w'):
  vcall YT #[oP bt 0,nI l] w K:=by
 refine ze {ord:=[oz 1 [0,1,2,3,4,5,6,7,8,9,10,11,12,19,13,14,15,16,17,18,20,21,22] [(0,[1]),(4,[8,9,10,11,12,19,13,14,15,16]),(5,[8,9,10,11,12,19,13,14,15,16]),(6,[8,9,10,11,12,19,13,14,15,16]),(7,[8,9,10,11,12,19,13,14,15,16]),(8,[12,19,13]),(9,[12,19,13]),(10,[12,19,13]),(11,[12,19,13]),(12,[19]),(19,[13,14,15,16,17,18])]]} Tryz.func278 ?_;have o:=h.few;refine zd λw1 b _=>?_;refine assigned_spec (h.ext b) j λw2 c=>zb (λa=>?_) (λa=>?_)
 ·have d:=h.ext (b.trans c);have k:=d.rp.ints;have f:=d.rpl.ints;have m:=kO many put;have hle:=placeOf_le put l.natAbs;have i:=h.few';simp(disch:=first|omega|simp only[push_cast]) only[push_cast,d.blk.ld0,d.blk.ld1,true_and];refine variable_spec oM oM ?_;simp(disch:=first|omega|simp only[push_cast]) only[push_cast,d.blk.ld0,d.blk.ld1,true_and,and_self,f.iaddr,f.load,places_get j,zl];obtain⟨q,n⟩:∃q,placeOf put l.natAbs=q+1:=⟨placeOf put l.natAbs-1,oM⟩;rw[n,show(((q+1:Nat):Int)-1)=(q:Int) from by omega];simp(disch:=first|omega|simp only[push_cast]) only[push_cast,true_and,k.iaddr,k.load];rw[show q=placeOf put l.natAbs-1 from by omega];have:=g w2 (b.trans c);have e:l∈put↔put.getD (placeOf put l.natAbs-1) 0=l:=(mem_iff_place h.dis).trans ⟨λh=>h.2,λh=>⟨a,h⟩⟩;rwa[decide_eq_decide.2 e] at this
 ·have:=g w2 (b.trans c);rwa[decide_eq_false (λhm=>a (placeOf_ne_zero hm))] at this
theorem place_spec {l:Int} (h:TrailR Fr w bt many put ds vp vpl vl) (f:l.natAbs<=many) (e:∀w',Ext w w'->K (nI ((placeOf put l.natAbs:Int)-1)) w'):
  vcall Xu #[oP bt 0,nI l] w K:=by
 refine ze {ord:=[oz 1 (oR 10) [(0,[4,5]),(1,[4,5]),(2,[4,5]),(3,[4,5])]]} Tryz.func280 ?_;have i:=h.few;refine zd λw1 a _=>?_;have c:=h.ext a;have b:=c.rpl.ints;have g:=kO many put;have hle:=placeOf_le put l.natAbs;have d:=h.few';simp only[push_cast,c.blk.ld1,true_and];refine variable_spec oM oM ?_;simp(disch:=first|omega|simp only[push_cast]) only[push_cast,c.blk.ld1,true_and,b.iaddr,b.load,and_self,places_get f,zl];exact e w1 a
theorem level_spec {l:Int} (h:TrailR Fr w bt many put ds vp vpl vl) (i:l.natAbs<=many) (m:placeOf put l.natAbs≠0) (g:∀w',Ext w w'->K (nI (lvl ds (placeOf put l.natAbs-1))) w'):
  vcall Xv #[oP bt 0,nI l] w K:=by
 refine ze {ord:=[oz 1 (oR 10) [(0,[4,5,6]),(1,[4,5,6]),(2,[4,5,6]),(3,[4,5,6]),(4,[5])]]} Tryz.func243 ?_;have n:=h.few;have e:=h.few';have hlen:=h.len;have hle:=placeOf_le put l.natAbs;refine zd λw1 a _=>?_;have c:=h.ext a;simp only[push_cast,c.blk.ld2,true_and];refine place_spec c i λw2 b=>?_;have d:=c.ext b;have f:=d.rl.ints;have k:=Y7 ds;obtain⟨q,j⟩:∃q,placeOf put l.natAbs=q+1:=⟨placeOf put l.natAbs-1,oM⟩;rw[j,show(((q+1:Nat):Int)-1)=(q:Int) from by omega];simp(disch:=first|omega|simp only[push_cast]) only[push_cast,d.blk.ld2,true_and,f.iaddr,f.load,and_self];rw[Qs oM,show q=placeOf put l.natAbs-1 from by omega];exact g w2 (a.trans b)
theorem look_spec {v:Value} {c:List Int} {F:Nat->Prop} (h:TrailR Fr w bt many put ds vp vpl vl) (o:Ints F w v c) (r:∀l,l∈c->l.natAbs<=many)
  (q:∀w' b n x,Ext w w'->lookM put c 0 0=(b,n,x)->K (.tuple #[.bool b,nI n,nI x]) w'):
  vcall Qi #[oP bt 0,v] w K:=by
 refine ze {loops:=[(2,[5,6,11])]} Tryz.func240 ?_;simp(disch:=first|omega|simp only[push_cast]) only[push_cast,o.len];have hlen:c.length<=9223372036854775807:=by obtain⟨_,_,_,s,A,_⟩:=o.shape;simp at s;omega
 refine vloop_up c.length (λi u w'=> ∃n x,u=[nI (n:Nat),nI x,nI i]/\Ext w w'/\n<=i/\lookM put (c.drop i) n x=lookM put c 0 0) ⟨0,0,rfl,Same.refl _ _,oM,rfl⟩ ?_;rintro i _ g w1 C hi ⟨n,x,rfl,he,B,e⟩ p;simp only[push_cast];refine zb (λz=>?_) (λy=>?_)
 ·have k:=o.ext he;simp(disch:=first|omega|simp only[push_cast]) only[push_cast,k.iaddr,k.load];have t:=kS (d:=0) (show i<c.length by omega);have hm:c.getD i 0∈c:=getD_meS oM;rw[t,Qq] at e;refine isTrue_spec (h.ext he) (r _ hm) λw2 f=>zb (λa=>?_) (λa=>?_)
  ·rw[if_pos a] at e;exact q w2 true 0 0 (he.trans f) e.symm
  ·rw[if_neg a] at e;refine assigned_spec (h.ext (he.trans f)) (r _ hm) λw3 j=>?_;simp only[push_cast];refine zo (λb=>?_) (λb=>?_)
   ·have m:placeOf put (c.getD i 0).natAbs=0:=(by simpa using b);rw[if_pos m] at e;simp(disch:=omega) only[push_cast,zl];exact p oM _ _ ⟨n+1,_,by simp,he.trans (f.trans j),oM,e⟩
   ·have m: ¬placeOf put (c.getD i 0).natAbs=0:=(by simpa using b);rw[if_neg m] at e;simp(disch:=omega) only[push_cast,zl];exact p oM _ _ ⟨n,_,by simp,he.trans (f.trans j),oM,e⟩
 ·rw[gU oM] at e;exact q w1 false n x he e.symm
end
end
section
variable {w:World} {K:oK} {F Fr:Nat->Prop} {bt many:Nat} {put:List Int} {ds:List Bool} {vp vpl vl:Value}
theorem next_spec {v:Value} {vs:List Value} {lls:List (List (List Int))} (h:TrailR Fr w bt many put ds vp vpl vl) (J:Vals F w v vs) (hn:vs.length=lls.length) (hi:∀i,i<lls.length->Lists F w (vs.getD i undef) (lls.getD i []))
  (hl:∀c,c∈lls.flatten->∀l,l∈c->l.natAbs<=many) (a1:lls.flatten.length<=1000000)
  (M:∀w' k u x,Ext w w'->findM put lls.flatten 0 (-1) 0=(k,u,x)->K (.tuple #[nI k,nI u,nI x]) w'):
  vcall Qh #[oP bt 0,v] w K:=by
 refine ze {loops:=[(4,[4,5,6,7,17]),(7,[4,5,6,7,23])]} Tryz.func202 ?_;simp(disch:=first|omega|simp only[push_cast]) only[push_cast,J.len];have hlen:vs.length<=9223372036854775807:=by obtain⟨_,_,_,A,R,_⟩:=J.shape;simp at A;omega
 refine vloop_up vs.length (λi u w'=> ∃(k:Nat) (b x:Int),u=[nI (-1),nI b,nI x,nI k,nI i]/\Ext w w'/\k+(lls.drop i).flatten.length=lls.flatten.length/\findM put (lls.drop i).flatten k b x=findM put lls.flatten 0 (-1) 0) ⟨0,-1,0,rfl,Same.refl _ _,by simp,rfl⟩ ?_;rintro i _ g w1 C Y ⟨k,b,x,rfl,he,O,a⟩ S;simp only[push_cast];refine zb (λa0=>?_) (λX=>?_)
 ·have z:=J.ext he;obtain⟨cs,V,q,D⟩:=hi i oM;have s:=q.ext he;simp(disch:=first|omega|simp only[push_cast]) only[push_cast,z.iaddr,z.load,s.len];have G:cs.length<=9223372036854775807:=by obtain⟨_,_,_,A,R,_⟩:=q.shape;simp at A;omega
  have W:=kS (d:=[]) (show i<lls.length by omega);rw[W,GC] at a O;have t:∀c,c∈lls.getD i []->c∈lls.flatten:=λc U=>List.mem_flatten.2 ⟨_,by rw[y3,V0 oM];exact G2 _,U⟩;generalize lls.getD i []=L at*;generalize (lls.drop (i+1)).flatten=T at*;rw[K3] at O;refine vloop_up cs.length (λj u w'=> ∃(o:Nat) (b x:Int),u=[nI (-1),nI b,nI x,nI o,nI j]/\Ext w w'/\o=k+j/\findM put (L.drop j++T) o b x=findM put lls.flatten 0 (-1) 0) ⟨k,b,x,rfl,he,oM,a⟩ ?_;rintro j _ g2 w2 C2 hj ⟨o,b,x,rfl,f,Z,a⟩ m;simp only[push_cast];refine zb (λQ=>?_) (λN=>?_)
  ·have p:=q.ext f;simp(disch:=first|omega|simp only[push_cast]) only[push_cast,p.iaddr,p.load];have hm:L.getD j []∈L:=by rw[y3,V0 oM];exact G2 _
   rw[kS (d:=[]) (show j<L.length by omega),Gv,findM_cons] at a;refine look_spec (h.ext f) ((D j oM).ext f) (hl _ (t _ hm)) λw3 b' n y E r=>?_;rw[r] at a;dsimp only at a;simp(disch:=omega) only[push_cast,zl];have e:=f.trans E;refine zo (λB=>?_) (λB=>?_)
   ·rw[if_pos B] at a;exact m oM _ _ ⟨o+1,_,_,by simp<;>exact⟨rfl,rfl⟩,e,oM,a⟩
   rw[if_neg (by simp[B])] at a;refine zb (λH=>?_) (λH=>?_)
   ·rw[if_pos oM] at a;exact M w3 _ _ _ e a.symm
   rw[if_neg oM] at a;refine zb (λI=>?_) (λI=>?_)
   ·rw[if_pos oM] at a;refine zb (λhu=>?_) (λhu=>?_)
    ·rw[if_pos hu] at a;exact m oM _ _ ⟨o+1,_,_,by simp<;>exact⟨rfl,rfl⟩,e,oM,a⟩
    ·rw[if_neg hu] at a;exact m oM _ _ ⟨o+1,_,_,by simp<;>exact⟨rfl,rfl⟩,e,oM,a⟩
   ·rw[if_neg oM] at a;exact m oM _ _ ⟨o+1,_,_,by simp<;>exact⟨rfl,rfl⟩,e,oM,a⟩
  ·rw[gU (show L.length<=j by omega),Ga] at a;simp(disch:=omega) only[push_cast,zl];exact S oM _ _ ⟨o,_,_,by simp<;>exact⟨rfl,rfl⟩,f,oM,a⟩
 ·rw[gU oM] at a;exact M w1 _ _ _ he a.symm
theorem sep4 {a b c d:Option Nat}:Sep Fr [a,b,c,d]↔((∀x,a=some x->b≠some x)/\(∀x,a=some x->c≠some x)/\(∀x,a=some x->d≠some x)/\(∀x,b=some x->c≠some x)/\(∀x,b=some x->d≠some x)/\(∀x,c=some x->d≠some x))/\
  (∀x,a=some x->¬Fr x)/\(∀x,b=some x->¬Fr x)/\(∀x,c=some x->¬Fr x)/\(∀x,d=some x->¬Fr x):=by
 unfold Sep;simp only[pP,gd,gq,or_false,forall_eq_or_imp,forall_eq];constructor
 ·rintro⟨⟨⟨e,a2,a3⟩,⟨b1,b2⟩,c1,-⟩,f1,f2,f3,f4⟩;exact⟨⟨e,a2,a3,b1,b2,c1⟩,f1,f2,f3,f4⟩
 ·rintro⟨⟨e,a2,a3,b1,b2,c1⟩,f1,f2,f3,f4⟩;exact⟨⟨⟨e,a2,a3⟩,⟨b1,b2⟩,c1,λ_ h=>h.elim,List.Pairwise.nil⟩,f1,f2,f3,f4⟩
theorem push_spec {l:Int} {d:Bool} (h:TrailR Fr w bt many put ds vp vpl vl) (a9:l≠0) (hl:l.natAbs<=many) (s:placeOf put l.natAbs=0) (a8:∀b,Fr b->b<w.heap.size)
  (hK:∀i k w',TrailR Fr w' bt many (put++[l]) (ds++[d]) i vpl k->Same (kK bt vp vpl vl) w w'->(∀b,kK bt i vpl k b->kK bt vp vpl vl b\/w.heap.size<=b)->K (.tuple #[]) w'):
  vcall Qg #[oP bt 0,nI l,.bool d] w K:=by
 refine ze {ord:=[oz 2 (oR 13) [(0,[4,5,6,7,8,9]),(1,[4,5,6,7,8,9]),(2,[4,5,6,7,8,9]),(3,[4,5,6,7,8,9])],oz 7 [0,1,2,3,4,6,7,8,9,10,5,11,12] [(0,[4,6,7,8,9,10,5]),(1,[4,6,7,8,9,10,5]),(2,[4,6,7,8,9,10,5]),(3,[4,6,7,8,9,10,5]),(4,[6,7,8,9,10]),(6,[5]),(7,[5]),(8,[5]),(9,[5]),(10,[5])]],cuts:=[(8195,[6]),(16389,[6])]} Tryz.func246 ?_;have hf:=h.few;have ai:=h.few';have hlen:=h.len;have ah:=Y7 ds;have hc:=pI (l:=ds) (a:=true);refine zp (λu w'=>u=[nI (ds.count true)]/\Ext w w') ?_ ?_
 ·intro C V;have hv:=h.rl.ints;simp(disch:=first|omega|simp only[push_cast]) only[push_cast,h.blk.ld2,hv.len];refine zb (λa=>zd λw1 n _=>?_) (λa=>V _ _ ⟨?_,Same.refl _ _⟩)
  ·have T:=h.ext n;have O:=T.rl.ints;obtain⟨q,hq⟩:∃q,ds.length=q+1:=⟨ds.length-1,oM⟩;simp(disch:=first|omega|simp only[push_cast]) only[push_cast,T.blk.ld2,O.len,true_and];rw[ah,hq,show(((q+1:Nat):Int)-1)=(q:Int) from by omega];simp(disch:=first|omega|simp only[push_cast]) only[push_cast,zl,O.iaddr,O.load,true_and];refine V _ _ ⟨?_,n⟩;rw[Qs oM,qI0 oM]
  ·have:ds=[]:=gD oM;subst this;rfl
 rintro _ g w1 ⟨rfl,n⟩;refine zp (λu w'=>u=[nI ((ds.count true+d.toNat:Nat):Int)]/\w'=w1) ?_ ?_
 ·intro C V;cases d
  ·exact V _ _ ⟨rfl,rfl⟩
  ·simp(disch:=omega) only[push_cast,zl];exact V _ _ ⟨rfl,rfl⟩
 rintro _ g2 _ ⟨rfl,rfl⟩;have T:=h.ext n;have aj:=n.size;simp(disch:=first|omega|simp only[push_cast]) only[push_cast,T.blk.ld0];obtain⟨⟨s1,s2,s3,s4,s5,s6⟩,f1,f2,f3,f4⟩:=sep4.1 h.sep;refine zC xw yT xH rfl rfl λb1 w2 aq L av a2=>?_;have h2:=T.ext L;refine h2.rp.app1 xE a2 oM oM λi w3 B y ad=>?_;have a3:Blk w3 bt [vp,vpl,vl] yD:=h2.blk.same y λe=>s1 bt rfl e;refine a3.st B.ints.cells1 B.ints.one ja rfl λQ D aw a4=>?_;have F:Blk Q bt [i,vpl,vl] yD:=a4;simp(disch:=first|omega|simp only[push_cast]) only[push_cast,F.ld2];have ak:=L.size;have al:=y.size;have m:∀x,i.ownBlock=some x->vp.ownBlock=some x\/w.heap.size<=x:=λx c=>(ad x c).imp id λh=>oM
 have l1:=h.blk.lt;have j:∀x,kK bt vp vpl vl x->x<w.heap.size:=by
  rintro x (rfl|e|e|e)
  ·exact l1
  ·exact h.rp.lt e
  ·exact h.rpl.lt e
  ·exact h.rl.lt e
 have aa:OwnI zh Q vl (levels ds):=(h2.rl.same y λx c e=>s5 x e c).same D λx c e=>s3 x (by rw[e]) c;have Y:OwnI zh Q vpl (places many put):=(h2.rpl.same y λx c e=>s4 x e c).same D λx c e=>s2 x (by rw[e]) c;have af:OwnI zh Q i (put++[l]):=B.same D λx c e=>by
  rcases m x c with f|f
  ·exact s1 x (by rw[e]) f
  ·have:=j bt (.inl rfl);omega
 refine zC xw yT xH rfl rfl λb2 w5 ar o ax a5=>?_;refine(aa.ext o).app1 xE a5 oM oM λk w6 M z ae=>?_;have a6:Blk w6 bt [i,vpl,vl] yD:=(F.ext o).same z λe=>s3 bt rfl e;refine a6.st M.ints.cells1 M.ints.one ja rfl λR A ay a7=>?_;have U:Blk R bt [i,vpl,k] yD:=a7;have am:=o.size;have an:=z.size;have t:∀x,k.ownBlock=some x->vl.ownBlock=some x\/w3.heap.size<=x:=λx c=>(ae x c).imp id λh=>oM
 have H:∀x,k.ownBlock=some x->vl.ownBlock=some x\/w.heap.size<=x:=λx c=>(t x c).imp id λh=>oM
 have ag:OwnI zh R i (put++[l]):=((af.ext o).same z λx c e=>by
  rcases m x c with f|f
  ·exact s5 x f e
  ·have:=j x (.inr (.inr (.inr e)));omega).same A λx c e=>by
  rcases m x c with f|f
  ·exact s1 x (by rw[e]) f
  ·have:=j bt (.inl rfl);omega
 have Z:OwnI zh R vpl (places many put):=((Y.ext o).same z λx c e=>s6 x c e).same A λx c e=>s2 x (by rw[e]) c;have ab:OwnI zh R k (levels (ds++[d])):=by
  rw[levels_snoc];refine M.same A λx c e=>?_;rcases t x c with f|f
  ·exact s3 x (by rw[e]) f
  ·have:=j bt (.inl rfl);omega
 refine zd λw8 p _=>?_;have r:=U.ext p;have W:=ag.ext p;have J:=Z.ext p;have ac:=ab.ext p;have X:=W.ints;have a1:=J.ints;have au:=kO many put;simp(disch:=first|omega|simp only[push_cast]) only[push_cast,r.ld0,r.ld1,X.len,true_and];refine variable_spec oM oM ?_;simp(disch:=first|omega|simp only[push_cast]) only[push_cast,r.ld0,r.ld1,X.len,a1.iaddr,true_and,and_self];refine J.st yT oM λw9 a0 E az=>?_;have N:OwnI zh w9 vpl (places many (put++[l])):=by
  rw[places_snoc s];simpa using a0
 have I:∀x,i.ownBlock=some x->vpl.ownBlock≠some x:=λx c e=>by
  rcases m x c with f|f
  ·exact s4 x f e
  ·have:=j x (.inr (.inr (.inl e)));omega
 have v:∀x,vpl.ownBlock=some x->k.ownBlock≠some x:=λx c e=>by
  rcases t x e with f|f
  ·exact s6 x c f
  ·have:=j x (.inr (.inr (.inl c)));omega
 have ao:=A.size;have ap:=p.size;have G:∀x,w.heap.size<=x->¬Fr x:=λx c hF=>by have:=a8 x hF;omega
 refine hK i k w9 ⟨r.same E λe=>s2 bt rfl e,W.same E I,N,ac.same E λx c e=>v x e c,?_,by simp[hlen],distinct_snoc h.dis s,?_,h.few⟩ ?_ ?_
 ·rw[sep4];refine⟨⟨?_,s2,?_,I,?_,v⟩,f1,?_,f3,?_⟩
  ·rintro x e S;cases e;rcases m _ S with f|f
   ·exact s1 _ rfl f
   ·have:=j _ (.inl rfl);omega
  ·rintro x e S;cases e;rcases t _ S with f|f
   ·exact s3 _ rfl f
   ·have:=j _ (.inl rfl);omega
  ·intro x e S;have c:=B.lt e;rcases t x S with e3|e3
   ·rcases m x e with f|f
    ·exact s5 x f e3
    ·have:=j x (.inr (.inr (.inr e3)));omega
   ·omega
  ·intro x e;rcases m x e with f|f
   ·exact f2 x f
   ·exact G x f
  ·intro x e;rcases H x e with f|f
   ·exact f4 x f
   ·exact G x f
 ·intro x c;rw[gj,gn] at c;rcases c with c|rfl
  ·exact h.bnd x c
  ·exact⟨a9,hl⟩
 ·have S0:Same (kK bt vp vpl vl) w w2:=Same.of_ext (n.trans L);have S3:Same (kK bt vp vpl vl) w2 w3:=y.mono λx _ e=> .inr (.inl e);have S4:Same (kK bt vp vpl vl) w3 Q:=D.mono λx _ e=> .inl e;have S5:Same (kK bt vp vpl vl) Q w5:=Same.of_ext o;have S6:Same (kK bt vp vpl vl) w5 w6:=z.mono λx _ e=> .inr (.inr (.inr e));have S7:Same (kK bt vp vpl vl) w6 R:=A.mono λx _ e=> .inl e;have S8:Same (kK bt vp vpl vl) R w8:=Same.of_ext p;have S9:Same (kK bt vp vpl vl) w8 w9:=E.mono λx _ e=> .inr (.inr (.inl e));exact S0.trans (S3.trans (S4.trans (S5.trans (S6.trans (S7.trans (S8.trans S9))))))
 ·rintro x (e|e|e|e)
  ·exact .inl (.inl e)
  ·exact(m x e).imp (λe=> .inr (.inl e)) id
  ·exact .inl (.inr (.inr (.inl e)))
  ·exact(H x e).imp (λe=> .inr (.inr (.inr e))) id
end
theorem Jv {α:Type} {xs:List α} {d:α} {i:Nat} (h:i<xs.length):xs.take (i+1)=xs.take i++[xs.getD i d]:=by
 rw[GY];simp[y3,h]
end Go.Proofs.YtolbhkcajhlllaaGreatDoor
namespace Go.Proofs.YtolbhkcajhlllaaGreatDoor
open Go Go.Vc Go.Proofs
section
variable {w:World} {K:oK}
theorem unit_mem {put cl:List Int} {x:Int} (h:M.unitC put cl x):x∈cl/\M.placeOf put x.natAbs=0:=by
 have:x∈cl.filter λl=>decide (M.placeOf put l.natAbs=0):=by rw[h.2];exact gn.2 rfl
 rw[Pk,decide_eq_true_eq] at this;exact this
theorem cnf_new {N:Nat} {lv:Value} {ls:List Value} {c:M.Cnf} {K:oK} (h:CnfO N w lv ls c) (j:∀w' b,w.heap.size<=b->Ext w w'->Blk w' b [nI c.many,lv] zq->CnfO N w' lv ls c->K (oP b 0) w'):
  qp zq w λt4 w1=>zU zq t4 (.agg ⟨[nI c.many,lv]⟩) w1 λ_ w2=>K t4 w2:=by
 obtain⟨o,cc,d,_⟩:=h.lst.vals.shape;generalize (ls.map λx=>[x]).length=l at d;subst d;refine zj xp λb w1 k e m g=>?_;refine g.stAgg (cs':=[nI c.many,.slice o l cc]) rfl zD net_one λw2 f p i=>?_;have a:Ext w w2:=Ext.then e f λy n=>by subst n;omega
 exact j w2 b oM a i (h.ext a)
theorem push_int {pv:Value} {xs:List Int} {x:Int} (h:OwnI zh w pv xs) (n:xs.length<=100000) (i:∀w' c,Same (λb=>pv.ownBlock=some b) w w'->OwnI zh w' c (xs++[x])->(∀b,c.ownBlock=some b->pv.ownBlock=some b\/w.heap.size<=b)->K c w'):
  vbuildS zh 1 [(0,nI x)] w λs w1=>vbi .append [zh,zh] zh [pv,s] w1 K:=by
 refine xt xw yT xH rfl rfl dC λb3 w3 k a l d=>?_;refine OwnI.app1 (h.ext a) xE d oM oM λv4 m f g e=>?_;refine i m v4 ((Same.of_ext a).trans g) f λb j=>?_;rcases e b j with h|h
 ·exact .inl h
 ·exact .inr (by have:=a.size;omega)
end
end Go.Proofs.YtolbhkcajhlllaaGreatDoor
namespace Go.Vc
open Go
section
variable {t:TypeId} {w:World} {v:Value} {vs:List Value} {F:Nat->Prop}
theorem Vals.part (h:Vals F w v vs) (j:vs≠[]) (m:elB t 1=true) {n:Nat} (q:n<=vs.length):∃v1,(∀(kd:IntKind) (w':World) (K:oK),xu t v none (some (.int kd n)) none w' K=K v1 w')/\Vals F w v1 (vs.take n):=by
 obtain⟨hu,hs⟩:=YJ m;obtain⟨a,c,rfl,l,g,d⟩:=h.shape;obtain⟨b,o,rfl,hF,k,f⟩:=d (by simpa using j);rw[y4] at l f;refine⟨.slice (some ⟨b,o,none⟩) n c,λkd w' K=>y9 ?_,⟨some ⟨b,o,none⟩,c,?_,?_,g,λ_=>⟨b,o,rfl,hF,k,λi hi=>?_⟩⟩,λx p=>by obtain⟨u,_,rfl⟩:=gr.1 p;rfl⟩
 ·rw[run_sliceAt_slice w' t _ _ _ _ hu,run_slice_h w' t _ _ _ hu kd n oM oM,run_sizeOf hs];simp[Result.andThen,sliced];exact λ_=>rfl
 ·simp;omega
 ·simp;omega
 ·simp only[y4,gh] at hi;have:=f i oM;have e:(List.map (λx=>[x]) (vs.take n)).getD i []=(List.map (λx=>[x]) vs).getD i []:=by
   simp[y3,List.getElem?_take,show i<n by omega]
  rw[e];exact this
theorem Vals.rest (h:Vals F w v vs) (j:vs≠[]) (r:elB t 1=true) {n:Nat} (y:n<=vs.length):∃v1,(∀(kd:IntKind) (w':World) (K:oK),xu t v (some (.int kd n)) none none w' K=K v1 w')/\Vals F w v1 (vs.drop n):=by
 obtain⟨hu,hs⟩:=YJ r;obtain⟨a,c,rfl,m,p,d⟩:=h.shape;obtain⟨b,o,rfl,hF,l,f⟩:=d (by simpa using j);rw[y4] at m f;refine⟨sliced (some ⟨b,o,none⟩) n vs.length c 1,λkd w' K=>y9 ?_,?_⟩
 ·rw[run_sliceAt_slice w' t _ _ _ _ hu,run_slice_l w' t _ _ _ hu kd n oM (by simp;omega),run_sizeOf hs];simp[Result.andThen]
 ·refine⟨⟨_,c-n,rfl|>λ(_:True=True)=>by simp[sliced];rfl,by simp;omega,oM,λg=>?_⟩,λx s=>by obtain⟨u,_,rfl⟩:=gr.1 s;rfl⟩;have q:n<vs.length:=by
   refine Nat.lt_of_not_le λk=>g ?_;rw[PG k];rfl
  rw[if_neg oM];refine⟨b,o+n,by simp[yx],hF,l,λi hi=>?_⟩;simp only[y4,GN] at hi;have:=f (n+i) oM;have e:(List.map (λx=>[x]) (vs.drop n)).getD i []=(List.map (λx=>[x]) vs).getD (n+i) []:=by
   simp[y3,pS]
  rw[e,show o+n+i*1=o+(n+i)*1 by omega];exact this
end
end Go.Vc
namespace Go.Proofs.YtolbhkcajhlllaaGreatDoor
open Go Go.Vc Go.Proofs
section
variable {w:World} {K:oK} {D F F' G:Nat->Prop} {dv iv:Value} {ds:List M.Dcl} {ins:List Bool}
def QX (ds:List M.Dcl) (i:Nat):Nat:=M.nIn (ds.take i)
theorem off_succ (a:M.declOk ds=true) {i:Nat} (hi:i<ds.length):QX ds (i+1)=QX ds i+(ds.getD i (M.nada,0)).2.toNat:=by
 have f:=M.bits_le a hi;have hw:=M.dcl_wide a hi;unfold QX M.nIn;have e:M.bits (ds.take (i+1))=M.bits (ds.take i)+(ds.getD i (M.nada,0)).2:=by
  rw[M.take_add hi (M.nada,0)];unfold M.bits;rw[gx,List.sum_append];simp
 have c:0<=M.bits (ds.take i):=M.bits_pos' λd b=>M.dpos a d (gX b);rw[e];omega
theorem ZE0:QX ds ds.length=M.nIn ds:=by unfold QX;rw[gw]
theorem off_le (hd : M.declOk ds = true) {i : Nat} (hi : i <= ds.length) : QX ds i <= M.nIn ds := by
  induction h : ds.length - i generalizing i with
  | zero => have : i = ds.length := by omega
            subst this; exact Nat.le_of_eq ZE0
  | succ n ih =>
    have h2 := off_succ hd (show i < ds.length by omega)
    have := ih (i := i + 1) (by omega) (by omega)
    omega
theorem envB_take:∀{ds:List M.Dcl} {ins:List Bool} {i:Nat},(∀d,d∈ds->0<=d.2)->i<ds.length->(M.envB ds ins).getD i 0=(M.msbN ((ins.drop (QX ds i)).take (ds.getD i (M.nada,0)).2.toNat):Int)
 |[],_,_,_,h=>by simp at h
 |d::ds,ins,0,_,_=>by
  have:QX (d::ds) 0=0:=rfl;rw[this];simp[M.envB]
 |d::ds,ins,i+1,c,h=>by
  have f:=c d gi;have a:∀x,x∈ds->0<=x.2:=λx b=>c x (gk _ b);have g:0<=M.bits (ds.take i):=M.bits_pos' λx b=>a x (gX b);have e:QX (d::ds) (i+1)=d.2.toNat+QX ds i:=by
   unfold QX M.nIn;rw[Pq,M.bits_cons'];omega
  unfold M.envB;rw[pg,envB_take a (by simpa using h),e,pg,<-PM]
theorem msb_snoc (bs:List Bool) (b:Bool):(M.msbN (bs++[b]):Int)=2*M.msbN bs+M.b2i b:=by
 rw[M.msb_app];cases b<;>simp[M.msbN,M.b2i]<;>omega
theorem BlastEnv_spec (Q:DclsR F w dv ds) (hi:Bools F' w iv ins) (d:M.declOk ds=true) (hl:ins.length=M.nIn ds)
  (hK:∀w' r,Ext w w'->OwnI zh w' r (M.envB ds ins)->(∀b,r.ownBlock=some b->w.heap.size<=b)->K r w'):vcall K8 #[dv,iv] w K:=by
 refine ze {loops:=[(5,[1,5,23]),(9,[8,32])],cuts:=[(8195,[])]} Tryz.func110 ?_;obtain⟨ag,ah⟩:=M.nIn_eq d;have Z:Bools (λx=>x<w.heap.size) w iv ins:=Sl.weaken hi λx _ h=>h;refine zp (λu w'=>u=[]/\Ext w w') (λC S=>?_) ?_
 ·refine DeclOk_spec Q λw1 f=>?_;rw[d];simp only[push_cast,Gc,(hi.ext f).len];refine bitsOf_spec (Q.ext f) d λw2 W=>?_;simp only[push_cast];refine zb (λh=>absurd oM h) (λ_=>S _ _ ⟨rfl,f.trans W⟩)
 rintro _ _ w1 ⟨rfl,f⟩;simp only[push_cast,(Q.ext f).len];have h4:=(M.decl_iff.1 d).1;have V:=M.dpos d;have Y:=M.envB_len ds ins;refine vloop_up ds.length (λi u w'=> ∃v r,u=[v,r,nI i]/\Ext w w'/\Bools (λx=>x<w.heap.size) w' v (ins.drop (QX ds i))/\OwnI zh w' r ((M.envB ds ins).take i)/\∀b,r.ownBlock=some b->w.heap.size<=b) ⟨iv,_,rfl,f,by simpa[QX,M.nIn,M.bits] using Z.ext f,OwnI.nil,λb hb=>by cases hb⟩ ?_;rintro i _ _ w2 C ae ⟨v,r,rfl,E,a6,t,s⟩ S;simp only[push_cast];refine zb (λa=>?_) (λa=>?_)
 ·have p:i<ds.length:=oM;have I:=Q.ext E;have aa:=M.dcl_wide d p;have z:=off_succ d p;have ab:=off_le d (i:=i+1) oM;have o:(ins.drop (QX ds i)).length=M.nIn ds-QX ds i:=(by rw[GN,hl]);simp(disch:=first|omega|simp only[push_cast]) only[push_cast,I.iaddr,I.load];refine zj xZ λb3 w3 ad X aj R=>?_;refine stDecl R λw4 a5 ak G=>?_;have k:Ext w2 w4:=Ext.then X a5 λy hy=>by subst hy;omega
  have e4:=E.trans k;have O:=a6.ext k;have het:=envB_take (ins:=ins) V p;obtain⟨wd,l⟩:∃wd:Nat,(ds.getD i (M.nada,0)).2=wd:=⟨_,(Int.toNat_of_nonneg oM).symm⟩;rw[l] at aa z het;rw[gl] at z het;simp(disch:=first|omega|simp only[push_cast]) only[push_cast,G.ld1,l];have J:(ins.drop (QX ds i)).map (λx=>Value.bool x)≠[]:=λh=>by
   have:=congrArg List.length h;rw[y4,o] at this;simp at this;omega
  obtain⟨v5,H,a7⟩:=Vals.part O J yC0 (n:=wd) (by rw[y4,o];omega);rw[H];have g:Bools (λx=>x<w.heap.size) w4 v5 ((ins.drop (QX ds i)).take wd):=by unfold Bools;rw[Gz];exact a7
  generalize U:(ins.drop (QX ds i)).take wd=bs at g het;have m:bs.length=wd:=by rw[<-U,gh,o];omega
  simp only[push_cast,g.len,m];refine vloop_up wd (λj u w'=>u=[nI (M.msbN (bs.take j)),nI j]/\w'=w4) ⟨rfl,rfl⟩ ?_;rintro j _ _ _ C1 hj ⟨rfl,rfl⟩ T;simp only[push_cast];have af:=M.msb_lt (bs.take j);have ai:2^(bs.take j).length<=2^4:=Gb oM (by rw[gh];omega);refine zb (λc=>?_) (λc=>?_)
  ·have a1:j<wd:=oM;simp(disch:=first|omega|simp only[push_cast]) only[push_cast,g.iaddr,gl,g.load,zl];refine YP ?_;have ac:0<=M.b2i (bs.getD j false)/\M.b2i (bs.getD j false)<=1:=by unfold M.b2i;split<;>omega
   have N:=msb_snoc (bs.take j) (bs.getD j false);rw[<-M.take_add (by omega:j<bs.length) false] at N;simp only[push_cast];rw[<-N,zl oM oM];exact T a1 _ _ ⟨rfl,rfl⟩
  ·have a2:j=wd:=oM;subst a2;rw[<-m,gw];have a4:=t.ext k;refine push_int a4 (by rw[gh];omega) λw6 r6 B L a3=>?_;have lr:∀x,r.ownBlock=some x->x<w2.heap.size:=λx D=>(t.lt D);have q6:=G.same B λe=>by have:=lr _ e;omega
   have a8:=O.same B λx D _ e=>by have:=s x e;omega
   have z24:=k.size;have z2:=E.size;rw[<-het,<-M.take_add oM 0] at L;obtain⟨v7,A,a9⟩:=Vals.rest a8 J yC0 (n:=bs.length) (by rw[y4,o];omega);simp(disch:=first|omega|simp only[push_cast]) only[push_cast,q6.ld1,l,m.symm,A];rw[inc64' oM];refine S p _ _ ⟨v7,r6,rfl,Ext.then (E.trans k) B λx D=>s x D,?_,?_,λx D=>?_⟩
   ·rw[z,<-m];have q:=a9;rw[<-Pf,PM] at q;exact q
   ·exact L
   ·rcases a3 x D with e|e
    ·exact s x e
    ·omega
 ·have a0:i=ds.length:=oM;subst a0;rw[<-Y,gw] at t;exact hK w2 r E t s
end
end Go.Proofs.YtolbhkcajhlllaaGreatDoor
section
namespace Go.Proofs.YtolbhkcajhlllaaGreatDoor
open Go Go.Vc Go.Proofs
section
open Go.RowKit Go.Extern.Stop Go.Stop Go.Extern
theorem ZI0 (a b : Addr) (w : World) (hne : a ≠ b) {ca cb : Array Value} {ta tb : TypeId} (ha : w.heap[a.block]? = some (.cells ca ta (0, 0))) (hb : w.heap[b.block]? = some (.cells cb tb (0, 0))) :
    Calls Tryz.prog 49 #[.iface 392 (.pointer (some a)), .iface 392 (.pointer (some b))] w λe w' => e = .returned (.bool false) /\ w' = w := by
  obtain ⟨i, hi, hcmp⟩ := pr.1 qT0
  obtain ⟨j, hj, hjs⟩ := pr.1 qR0
  have h8 := @run_callFunc_extern Tryz.prog 81 _ Extern.ReflectliteType.typeOf Tryz.func81 (by kernel_rfl) (by kernel_rfl) (by kernel_rfl) (by kernel_rfl)
  have h32 : ∀ w : World, (callFunc 400 #[.agg #[.pointer (some ⟨11, 392, none⟩)]]).run Tryz.prog w = .ok (Next.value (.bool true)) w := XI
  have tT := zO0
  have mR := zP0
  have heq := run_eql_iface_ptr_other (P := Tryz.prog) w Tryz.underlying89 Tryz.underlying392 hi hcmp hj (by rw [hjs]; decide) hne ha hb
  have n1 := noIsE
  have n2 := qv0
  have n3 := xm0
  go_enter Tryz.func49, Tryz.ntmps49
  go_wp2
  refine wp_loop_rounds 1 ?_
  rw [rounds_succ]
  go_wp2
  go_ret
  exact ⟨rfl, rfl⟩
end
variable {w:World} {K:oK}
theorem ku0 {a b:Addr} (c:a≠b) {ca cb:Array Value} {ta tb:TypeId} (f:w.heap[a.block]?=some (.cells ca ta (0,0))) (g:w.heap[b.block]?=some (.cells cb tb (0,0))) (d:K (.bool false) w):vcall qf #[erv a,erv b] w K:=
 ⟨rK,(ZI0 a b w c f g).mono λe w' h=>by obtain⟨rfl,rfl⟩:=h;exact d⟩
end Go.Proofs.YtolbhkcajhlllaaGreatDoor
end
namespace Go.Proofs.YtolbhkcajhlllaaGreatDoor
open Go Go.Vc Go.Proofs Go.M
section
variable {w:World} {K:oK} {F Fr:Nat->Prop} {many bs:Nat} {c:Cnf} {s:Sat} {N:Nat}
structure SV where
 (vc:Value) (bt:Nat) (vp vpl vl vw vr:Value) (ls:List Value)
def SV.tf (σ:SV):Nat->Prop:=kK σ.bt σ.vp σ.vpl σ.vl
def SV.f3 (σ:SV) (bs b:Nat):Prop:=b=bs\/σ.vw.ownBlock=some b\/σ.vr.ownBlock=some b
def SV.foot (σ:SV) (bs b:Nat):Prop:=σ.tf b\/σ.f3 bs b
structure SR (N:Nat) (Fr:Nat->Prop) (w:World) (bs many:Nat) (c:Cnf) (s:Sat) (σ:SV):Prop where
 blk:Blk w bs [nI many,σ.vc,oP σ.bt 0,σ.vw,σ.vr,nI s.code] yA
 cm:c.many=many
 cl:Lists Fr w σ.vc c.list
 tr:TrailR Fr w σ.bt many s.put (yE s.why) σ.vp σ.vpl σ.vl
 rw:OwnI zh w σ.vw s.why
 rl:OwnV zI w σ.vr σ.ls
 lsl:σ.ls.length=s.learned.length
 ll:RowsR N Fr w σ.ls s.learned
 s1:∀x,σ.vw.ownBlock=some x->x≠bs
 s2:∀x,σ.vr.ownBlock=some x->x≠bs
 s3:∀x,σ.vw.ownBlock=some x->σ.vr.ownBlock≠some x
 st:∀x,σ.f3 bs x->¬σ.tf x
 sf:∀x,σ.f3 bs x->¬Fr x
section
variable {σ:SV} {w':World} {S:Nat->Prop}
theorem SR.notF (h:SR N Fr w bs many c s σ) {x:Nat} (a:σ.foot bs x): ¬Fr x:=by
 obtain⟨_,f1,f2,f3,f4⟩:=sep4.1 h.tr.sep;rcases a with(rfl|e|e|e)|e
 ·exact f1 _ rfl
 ·exact f2 _ e
 ·exact f3 _ e
 ·exact f4 _ e
 ·exact h.sf _ e
theorem SR.lt (h:SR N Fr w bs many c s σ) {x:Nat} (a:σ.foot bs x):x<w.heap.size:=by
 rcases a with(rfl|e|e|e)|rfl|e|e
 ·exact h.tr.blk.lt
 ·exact h.tr.rp.lt e
 ·exact h.tr.rpl.lt e
 ·exact h.tr.rl.lt e
 ·exact h.blk.lt
 ·exact h.rw.lt e
 ·exact h.rl.lt e
theorem SR.same (h:SR N Fr w bs many c s σ) (hw:Same S w w') (hs:∀x,σ.foot bs x->¬S x) (hF:∀x,Fr x->x<w.heap.size->¬S x):SR N Fr w' bs many c s σ:=
 ⟨h.blk.same hw (hs _ (.inr (.inl rfl))),h.cm,h.cl.same hw hF,h.tr.same hw λb a=>hs _ (.inl a),h.rw.same hw λb a=>hs _ (.inr (.inr (.inl a))),h.rl.same hw λb a=>hs _ (.inr (.inr (.inr a))),h.lsl,h.ll.same hw hF,h.s1,h.s2,h.s3,h.st,h.sf⟩
theorem SR.ext (h:SR N Fr w bs many c s σ) (hw:Ext w w'):SR N Fr w' bs many c s σ:=h.same hw (λ_ _ h=>h) λ_ _ _ h=>h
theorem SR.lists (h:SR N Fr w bs many c s σ):Vals (λb=>σ.vr.ownBlock=some b) w σ.vr σ.ls:=h.rl.vals
theorem clause_spec {k:Nat} (h:SR N Fr w bs many c s σ) (q:k<c.list.length+s.learned.length) (p:c.list.length+s.learned.length<=1000000)
  (n:∀v w',Ext w w'->Ints Fr w' v (atM c s k)->K v w'):vcall Yf #[oP bs 0,nI k] w K:=by
 refine ze {ord:=[oz 3 (oR 15) [(0,[4,5,6,7,8,9,10,11]),(1,[4,5,6,7,8,9,10,11]),(2,[4,5,6,7,8,9,10,11]),(3,[4,5,6,7,8,9,10,11]),(4,[5,6,7,8,9,10])]]} Tryz.func204 ?_;obtain⟨cs,m,b,l⟩:=h.cl;simp(disch:=first|omega|simp only[push_cast]) only[push_cast,h.blk.ld1,b.len];refine zb (λa=>?_) (λa=>zd λw1 d _=>?_)
 ·simp(disch:=first|omega|simp only[push_cast]) only[push_cast,h.blk.ld1,b.iaddr,b.load];refine n _ w (Same.refl _ _) ?_;have:=l k oM;rwa[atM,getD_app_l oM]
 ·have g:=h.ext d;have e:=b.ext d;obtain⟨j,rfl⟩:∃j,k=cs.length+j:=⟨k-cs.length,oM⟩;have f:=g.lists;have o:=h.lsl;simp(disch:=first|omega|simp only[push_cast]) only[push_cast,g.blk.ld1,g.blk.ld4,e.len,true_and];rw[show(cs.length:Int)+j-cs.length=(j:Int) from by omega];simp(disch:=first|omega|simp only[push_cast]) only[push_cast,zl,f.iaddr,f.load,true_and];refine n _ w1 d ?_;have:=g.ll.int (i:=j) oM;rwa[atM,m,getD_app_r]
theorem assign_spec {l y:Int} (h:SR N Fr w bs many c s σ) (J:l≠0) (hl:l.natAbs<=many) (r:placeOf s.put l.natAbs=0) (C:∀b,Fr b->b<w.heap.size)
  (X:∀W w',SR N Fr w' bs many c {s with put:=s.put++[l],why:=s.why++[y]} W->Same (σ.foot bs) w w'->(∀b,W.foot bs b->σ.foot bs b\/w.heap.size<=b)->K (.tuple #[]) w'):
  vcall Yg #[oP bs 0,nI l,nI y] w K:=by
 refine ze {} Tryz.func205 ?_;simp(disch:=first|omega|simp only[push_cast]) only[push_cast,h.blk.ld2];refine push_spec (d:=decide (y= -1)) h.tr J hl r C λn m w1 j f D=>?_;have S:=f.size;have t:∀x,σ.f3 bs x->¬kK σ.bt σ.vp σ.vpl σ.vl x:=λx a=>h.st x a;have B:=h.blk.same f (t bs (.inl rfl));have Q:=h.rw.same f λx a=>t x (.inr (.inl a));have M:=h.rl.same f λx a=>t x (.inr (.inr a));have R:=h.tr.few';have a0:=h.tr.few;have hlen:=h.tr.len;rw[ky] at hlen;simp(disch:=first|omega|simp only[push_cast]) only[push_cast,B.ld3];refine zC xw yT xH rfl rfl λb1 w2 Y i a1 I=>?_;have T:=i.size;refine(Q.ext i).app1 xE I oM oM λo w3 z k L=>?_;have U:=k.size;have G:=(B.ext i).same k λe=>h.s1 _ e rfl;have u:∀x,o.ownBlock=some x->σ.vw.ownBlock=some x\/w1.heap.size<=x:=λx a=>(L x a).imp id λh=>oM
 have Z:=h.lt (.inr (.inl rfl));have p:∀x,o.ownBlock=some x->x≠bs:=λx a e=>by
  rcases u x a with A|A
  ·exact h.s1 x A e
  ·omega
 refine G.st z.ints.cells1 z.ints.one ja rfl λV v a2 H=>?_;have O:∀x,kK σ.bt n σ.vpl m x->x<w1.heap.size:=by
  rintro x (rfl|e|e|e)
  ·exact j.blk.lt
  ·exact j.rp.lt e
  ·exact j.rpl.lt e
  ·exact j.rl.lt e
 have E:∀x,σ.f3 bs x->¬kK σ.bt n σ.vpl m x:=λx a g=>by
  rcases D x g with e|e
  ·exact h.st x a e
  ·have:=h.lt (.inr a);omega
 have F:Same (σ.f3 bs) w1 V:=(Same.of_ext i).trans ((k.mono λx _ e=> .inr (.inl e)).trans (v.mono λx _ e=> .inl e));have q:∀x,(SV.mk σ.vc σ.bt n σ.vpl m o σ.vr σ.ls).f3 bs x->σ.f3 bs x\/w1.heap.size<=x:=by
  rintro x (e|e|e)
  ·exact .inl (.inl e)
  ·exact(u x e).imp (λe=> .inr (.inl e)) id
  ·exact .inl (.inr (.inr e))
 refine X ⟨σ.vc,σ.bt,n,σ.vpl,m,o,σ.vr,σ.ls⟩ V ⟨H,h.cm,(h.cl.same f ?_).same F ?_,?_,z.same v p,?_,h.lsl,?_,p,h.s2,?_,?_,?_⟩ ?_ ?_
 ·exact λx hF _ g=>h.notF (.inl g) hF
 ·exact λx hF _ g=>h.notF (.inr g) hF
 ·have:=j.same F λx a e=>E x e a;rwa[<-jc0] at this
 ·exact((M.ext i).same k λx a e=>h.s3 x e a).same v λx a e=>h.s2 x a e
 ·exact(h.ll.same f λx hF _ g=>h.notF (.inl g) hF).same F λx hF _ g=>h.notF (.inr g) hF
 ·intro x a e;rcases u x a with A|A
  ·exact h.s3 x A e
  ·have:=h.lt (.inr (.inr (.inr e)));omega
 ·intro x a g;rcases q x a with e|e
  ·exact E x e g
  ·have:=O x g;omega
 ·intro x a hF;rcases q x a with e|e
  ·exact h.sf x e hF
  ·have:=C x hF;omega
 ·exact(f.mono λx _ e=> .inl e).trans (F.mono λx _ e=> .inr e)
 ·rintro x (e|e)
  ·exact(D x e).imp (λe=> .inl e) id
  ·exact(q x e).imp (λe=> .inr e) λh=>oM
theorem pop_take {α:Type} {d:α} {xs:List α} {n:Nat} (h:xs.length=n+1):xs=xs.take n++[xs.getD n d]:=by
 have:=pA n xs;rw[kS (d:=d) (show n<xs.length by omega),gU (show xs.length<=n+1 by omega)] at this;exact this.symm
theorem goBack_spec {L:Int} (h:SR N Fr w bs many c s σ)
  (hK:∀f w' n,n=backN (yE s.why) L s.put.length->SR N Fr w' bs many c {s with put:=s.put.take n,why:=s.why.take n} f->Same (σ.foot bs) w w'->(∀b,f.foot bs b->σ.foot bs b)->K (.tuple #[]) w'):
  vcall Ye #[oP bs 0,nI L] w K:=by
 refine ze {ord:=[oz 1 (oR 22) [(7,[11,12,13,14,15,16,19]),(8,[11,12,13,14,15,16,19]),(9,[11,12,13,14,15,16,19]),(10,[11,12,13,14,15,16,19]),(11,[19]),(12,[19]),(13,[19]),(14,[19]),(15,[19]),(16,[19]),(17,[19]),(18,[19])],oz 3 (oR 14) [(0,[4,5,6,7,8,9,10,11]),(1,[4,5,6,7,8,9,10,11]),(2,[4,5,6,7,8,9,10,11]),(3,[4,5,6,7,8,9,10,11]),(4,[8]),(5,[8]),(6,[8]),(7,[8])],oz 4 (oR 30) [(0,[1,2,3,4,5,6,7,8,9,10,11,12,13,14,15,16,17,18,19,20]),(1,[2,3,4,5,6,7,8,9,10,11,12,13,14,15,16,17,18,19,20,21,22,23]),(2,[3,4,5,6,7,8,9,10,11,12,13,14,15,16,17,18,19,20,21,22,23,24,25,26]),(3,[7,9,10,11,12,13,14,15,16,17,18,19,20]),(4,[7,9,10,11,12,13,14,15,16,17,18,19,20]),(5,[7,9,10,11,12,13,14,15,16,17,18,19,20]),(6,[7,9,10,11,12,13,14,15,16,17,18,19,20]),(7,[9,10,11,12,13,14,15,16,17,18,19,20]),(8,[9,10,11,12,13,14,15,16,17,18,19,20]),(9,[13,15,16,17,18,19,20]),(10,[13,15,16,17,18,19,20]),(11,[13,15,16,17,18,19,20]),(12,[13,15,16,17,18,19,20]),(13,[15,16,17,18,19,20,21,22,23]),(14,[15,16,17,18,19,20,21,22,23]),(15,[19]),(16,[19]),(17,[19]),(18,[19]),(19,[21,22,23,24,25,26]),(20,[21,22,23,24,25,26])]],loops:=[(1,[])],cuts:=[(8194,[])]} Tryz.func245 ?_;simp(disch:=first|omega|simp only[push_cast]) only[push_cast,h.blk.ld2];have ap:=h.tr.few';have ah:=h.tr.few;have hlen:=h.tr.len;rw[ky] at hlen;refine vloop_up s.put.length (λi u w'=> ∃f,SR N Fr w' bs many c {s with put:=s.put.take (s.put.length-i),why:=s.why.take (s.put.length-i)} f/\f.bt=σ.bt/\Same (σ.foot bs) w w'/\(∀b,f.foot bs b->σ.foot bs b)/\backN (yE s.why) L (s.put.length-i)=backN (yE s.why) L s.put.length) ⟨σ,?_,rfl,Same.refl _ _,λ_ h=>h,by simp⟩ ?_
 ·rw[Nat.sub_zero,gw,<-hlen,gw];exact h
 rintro i u g w1 C hi ⟨f,h1,a3,T,z,U⟩ hC;generalize hn:s.put.length-i=n at*;have W:(s.put.take n).length=n:=by simp;omega
 have ao:(s.why.take n).length=n:=by simp;omega
 have ar:(yE (s.why.take n)).length=n:=by rw[ky];exact ao
 have ag:n=backN (yE s.why) L s.put.length->K (.tuple #[]) w1:=λe=>hK f w1 n e h1 T z;rw[<-a3];refine zp (λu w'=>Ext w1 w'/\∃m,n=m+1/\L<lvl (yE s.why) m) ?_ ?_
 ·intro J hJ;refine zd λw2 t _=>?_;have G:=h1.ext t;have H:Ints _ w2 f.vp (s.put.take n):=G.tr.rp.ints;have a5:Ints _ w2 f.vl (levels (yE (s.why.take n))):=G.tr.rl.ints;have a6:=Y7 (yE (s.why.take n));simp(disch:=first|omega|simp only[push_cast]) only[push_cast,G.tr.blk.ld0,H.len,true_and];have r:n=backN (yE s.why) L s.put.length->K (.tuple #[]) w2:=λe=>hK f w2 n e G (T.trans (Same.of_ext t)) z;refine zb (λa=>?_) (λa=>?_)
  ·obtain⟨m,rfl⟩:∃m,n=m+1:=⟨n-1,oM⟩;simp(disch:=first|omega|simp only[push_cast]) only[push_cast,G.tr.blk.ld0,G.tr.blk.ld2,H.len,true_and];rw[W,show(((m+1:Nat):Int)-1)=(m:Int) from by omega];simp(disch:=first|omega|simp only[push_cast]) only[push_cast,zl,a5.iaddr,a5.load,true_and];rw[Qs oM,<-zV0,lvl_take oM];refine zb (λb=>hJ _ _ ⟨t,m,rfl,b⟩) (λb=>r ?_);rw[<-U,backN,if_neg b]
  ·refine r ?_;rw[<-U,show n=0 from by omega];rfl
 rintro _ g2 w2 ⟨t,m,rfl,hL⟩;have G:=h1.ext t;have H:OwnI zh w2 f.vp (s.put.take (m+1)):=G.tr.rp;have a7:=H.ints;simp(disch:=first|omega|simp only[push_cast]) only[push_cast,G.tr.blk.ld0,a7.len];rw[W,show(((m+1:Nat):Int)-1)=(m:Int) from by omega];simp(disch:=omega) only[push_cast,zl];refine zd λw3 a4 _=>?_;have j:=G.ext a4;have a8:OwnI zh w3 f.vp (s.put.take (m+1)):=j.tr.rp;have R:OwnI zh w3 f.vpl (places many (s.put.take (m+1))):=j.tr.rpl;have ai:OwnI zh w3 f.vl (levels (yE (s.why.take (m+1)))):=j.tr.rl;have am:OwnI zh w3 f.vw (s.why.take (m+1)):=j.rw;have Q:=a8.ints;have X:=R.ints;have au:=kO many (s.put.take (m+1));have hm:(s.put.take (m+1)).getD m 0∈s.put.take (m+1):=getD_meS oM;have aq:=j.tr.bnd _ hm;simp(disch:=first|omega|simp only[push_cast]) only[push_cast,j.tr.blk.ld0,j.tr.blk.ld1,Q.iaddr,Q.load,true_and];refine variable_spec oM oM ?_;simp(disch:=first|omega|simp only[push_cast]) only[push_cast,j.tr.blk.ld1,X.iaddr,true_and,and_self];refine R.st yT oM λw4 a9 p av=>?_;have l:=pop_take (d:=0) W;rw[ph,Gy (by omega:m<=m+1)] at l;generalize hx:(s.put.take (m+1)).getD m 0=x at*;have Y:OwnI zh w4 f.vpl (places many (s.put.take m)):=by
  have hd:Distinct (s.put.take m++[x]):=by rw[<-l];exact j.tr.dis
  rw[<-places_unsnoc (many:=many) hd,<-l];simpa using a9
 obtain⟨⟨t1,t2,t3,t4,t5,t6⟩,f1,f2,f3,f4⟩:=sep4.1 j.tr.sep;have k1:∀y,f.f3 bs y->f.vpl.ownBlock≠some y:=λy k e=>j.st y k (.inr (.inr (.inl e)));have ac:Blk w4 f.bt [f.vp,f.vpl,f.vl] yD:=j.tr.blk.same p λe=>t2 _ rfl e;have a1:Blk w4 bs [nI many,f.vc,oP f.bt 0,f.vw,f.vr,nI s.code] yA:=j.blk.same p λe=>k1 _ (.inl rfl) e;have ak:=a8.same p λy k e=>t4 y k e;have aj:=ai.same p λy k e=>t6 y e k;have an:=am.same p λy k e=>k1 y (.inr (.inl k)) e;have al:=j.rl.same p λy k e=>k1 y (.inr (.inr k)) e;refine zd λw5 o _=>?_;have S:=ac.ext o;have M:=a1.ext o;have I:=ak.ext o;have E:=aj.ext o;have A:=an.ext o;have a6:=Y7 (yE (s.why.take (m+1)));simp(disch:=first|omega|simp only[push_cast]) only[push_cast,S.ld0,S.ld2,M.ld3,I.cut,E.cut,A.cut,true_and];refine S.st (I.taken (n:=m) oM).ints.cells1 (I.taken (n:=m) oM).ints.one ja rfl λw6 aa aw ad=>?_
 try simp(disch:=first|omega|simp only[push_cast]) only[push_cast,E.cut,A.cut,true_and,and_self]
 refine ad.st (E.taken (n:=m) oM).ints.cells1 (E.taken (n:=m) oM).ints.one ja rfl λw7 ab ax ae=>?_
 try simp(disch:=first|omega|simp only[push_cast]) only[push_cast,A.cut,true_and,and_self]
 have V:bs≠f.bt:=λe=>j.st bs (.inl rfl) (.inl e);have a2:=(M.same aa V).same ab V;refine a2.st (A.taken (n:=m) oM).ints.cells1 (A.taken (n:=m) oM).ints.one ja rfl λw8 F ay af=>?_;have q:Same (· =f.bt) w5 w7:=aa.trans ab;have mv:∀{xs:List Int} {v:Value},OwnI zh w5 v xs->(∀y,v.ownBlock=some y->y≠f.bt/\y≠bs)->OwnI zh w8 v xs:=λhv k=>(hv.same q λy e=>(k y e).1).same F λy e=>(k y e).2;have nbt:∀y,f.tf y->y≠bs:=λy k e=>j.st bs (.inl rfl) (e▸k);have hP:=I.taken (n:=m) oM;have Z:=E.taken (n:=m) (by rw[a6];omega);have hW:=A.taken (n:=m) oM;rw[ph,Gy (by omega:m<=m+1)] at hP hW;rw[levels_take,zV0,ph,Gy (by omega:m<=m+1)] at Z;have a0:Same (σ.foot bs) w3 w8:=(p.mono λy _ e=>z _ (.inl (.inr (.inr (.inl e))))).trans ((Same.of_ext o).trans ((q.mono λy _ e=>z _ (.inl (.inl e))).trans (F.mono λy _ e=>z _ (.inr (.inl e)))));have D:Same (f.foot bs) w3 w8:=(p.mono λy _ e=>(.inl (.inr (.inr (.inl e))))).trans ((Same.of_ext o).trans ((q.mono λy _ e=>(.inl (.inl e))).trans (F.mono λy _ e=>(.inr (.inl e)))));have O:s.put.length-(i+1)=m:=oM
 refine hC oM _ _ ⟨⟨f.vc,f.bt,cutV f.vp m,f.vpl,cutV f.vl m,cutV f.vw m,f.vr,f.ls⟩,?_,a3,?_,?_,?_⟩
 ·rw[O];refine⟨af,j.cm,j.cl.same D λy k _ ht=>j.notF ht k,?_,?_,?_,j.lsl,j.ll.same D λy k _ ht=>j.notF ht k,?_,j.s2,?_,?_,?_⟩
  ·refine⟨(show Blk w7 f.bt [cutV f.vp m,f.vpl,cutV f.vl m] yD from ae).same F λe=>V e.symm,mv hP λy e=>?_,mv (Y.ext o) λy e=>?_,mv Z λy e=>?_,?_,?_,?_,?_,ah⟩
   ·rw[xL] at e;exact⟨λB=>t1 _ rfl (B▸e),nbt y (.inr (.inl e))⟩
   ·exact⟨λB=>t2 _ rfl (B▸e),nbt y (.inr (.inr (.inl e)))⟩
   ·rw[xL] at e;exact⟨λB=>t3 _ rfl (B▸e),nbt y (.inr (.inr (.inr e)))⟩
   ·rw[xL,xL];exact j.tr.sep
   ·show(yE (s.why.take m)).length=(s.put.take m).length;rw[ky,gh,gh];omega
   ·have:=distinct_take j.tr.dis m;rwa[ph,Gy (by omega:m<=m+1)] at this
   ·intro y k;refine j.tr.bnd y ?_;show y∈s.put.take (m+1);rw[l];exact gO _ k
  ·refine mv hW λy e=>?_;rw[xL] at e;exact⟨λB=>j.st y (.inr (.inl e)) (.inl B),j.s1 y e⟩
  ·exact((al.ext o).same q λy e B=>j.st y (.inr (.inr e)) (.inl B)).same F λy e B=>j.s2 y e B
  ·intro y e;rw[xL] at e;exact j.s1 y e
  ·intro y e;rw[xL] at e;exact j.s3 y e
  ·intro y k ht;refine j.st y ?_ ?_
   ·rcases k with e|e|e
    ·exact .inl e
    ·exact .inr (.inl (by rwa[xL] at e))
    ·exact .inr (.inr e)
   ·rcases ht with e|e|e|e
    ·exact .inl e
    ·exact .inr (.inl (by rwa[xL] at e))
    ·exact .inr (.inr (.inl e))
    ·exact .inr (.inr (.inr (by rwa[xL] at e)))
  ·intro y k;refine j.sf y ?_;rcases k with e|e|e
   ·exact .inl e
   ·exact .inr (.inl (by rwa[xL] at e))
   ·exact .inr (.inr e)
 ·exact T.trans ((Same.of_ext (t.trans a4)).trans a0)
 ·intro y k;refine z y ?_;rcases k with(e|e|e|e)|e|e|e
  ·exact .inl (.inl e)
  ·exact .inl (.inr (.inl (by rwa[xL] at e)))
  ·exact .inl (.inr (.inr (.inl e)))
  ·exact .inl (.inr (.inr (.inr (by rwa[xL] at e))))
  ·exact .inr (.inl e)
  ·exact .inr (.inr (.inl (by rwa[xL] at e)))
  ·exact .inr (.inr (.inr e))
 ·rw[O,<-U,backN,if_pos hL]
end
end
section
variable {w:World} {K:oK} {F Fr:Nat->Prop} {many:Nat}
theorem few_ints {ks:List Int} (g:ks.Nodup) (b:∀k,k∈ks->k.natAbs<=700):ks.length<=1401:=by
 have d:(ks.map λk=>(k+701).toNat).Nodup:=by
  unfold List.Nodup;rw[GX];refine(pX.2 λ{a c} hs=>?_);have e:a∈ks:=hs.subset (by simp);have f:c∈ks:=hs.subset (by simp);have:=b a e;have:=b c f;have i:a≠c:=by
   have:=g.sublist hs;simpa using this
  omega
 have:=nodup_le (m:=1401) d λx j=>by
  obtain⟨k,h,rfl⟩:=gr.1 j;have:=b k h;omega
 simpa using this
theorem greatest_spec {bt b:Nat} {put ks:List Int} {ds:List Bool} {vp vpl vl:Value} (h:TrailR Fr w bt many put ds vp vpl vl) (hm:ISet w b ks) (N:∀k,k∈ks->k.natAbs<=many/\placeOf put k.natAbs≠0)
  (hK:∀w' top v xs,Ext w w'->TopOf put ds ks top xs->OwnI zh w' v xs->(∀x,v.ownBlock=some x->w.heap.size<=x)->K (.tuple #[nI (top:Nat),v]) w'):
  vcall ZA #[oP bt 0,.map (some b)] w K:=by
 refine ze {loops:=[(4,[6,7])]} Tryz.func281 ?_;have ad:=h.few;have a8:=h.few';have hlen:=h.len;have a0:=hm.nodup;have af:ks.length<=1401:=few_ints a0 λk M=>by have:=(N k M).1;omega
 refine VJ xB hm λr w1 hr J W=>?_;refine vloop_up ks.length (λi u w'=> ∃dn top v xs,dn.length=i/\u=[nI (top:Nat),v]/\IterR w' r b ks dn/\OwnI zh w' v xs/\TopOf put ds dn top xs/\Ext w w'/\r<w'.heap.size/\top<=700/\(∀x,v.ownBlock=some x->w.heap.size<=x/\x≠r))
  ⟨[],0,.slice none 0 0,[],rfl,rfl,J,OwnI.nil,⟨by simp,by simp,.inl rfl,G4⟩,W,?_,oM,λx z=>by cases z⟩ ?_
 ·exact J.lt
 rintro i _ g w2 C hi ⟨dn,top,v,xs,F,rfl,hit,hv,l,he,ae,D,j⟩ U;refine vnext_set hit (λA=>?_) λk x w3 M Z p S ah=>?_
 ·simp only[push_cast];refine hK w2 top v xs he ⟨λk M=>l.le k (A k M),λk=>?_,l.ne,l.nd⟩ hv λx z=>(j x z).1;rw[l.mem];obtain⟨_,_,_,_,_,_,_,_,s,_⟩:=hit;exact⟨λ⟨a,b⟩=>⟨s k a,b⟩,λ⟨a,b⟩=>⟨A k a,b⟩⟩
 have o:Ext w w3:=he.then S λy d=>by subst d;omega
 have a4:=hv.same S λy d=>(j y d).2;simp only[push_cast];refine VK p λx'=>?_;simp only[push_cast];obtain⟨X,Y⟩:=N k M;refine level_spec (h.ext o) X Y λw4 n=>?_;have T:=a4.ext n;have m:=p.ext n;have Q:lvl ds (placeOf put k.natAbs-1)=lvM put ds k:=rfl;have O:lvM put ds k<=700:=by have:=lvl_le ds (placeOf put k.natAbs-1);rw[Q] at this;omega
 rw[Q];simp only[push_cast];have G:i<ks.length:=by have:=p.len;simp at this;omega
 have B:∀y,y∈xs->y∈dn:=λy d=>((l.mem y).1 d).1;have ag:xs.length<=i:=by have:=List.Nodup.length_le_of_subset l.nd B;omega
 have a9:=o.size;have aa:=n.size;have R:=m.lt;have a1:k∉xs:=λh=>Z (B k h);have memd:∀y,y∈dn++[k]↔y∈dn\/y=k:=λy=>by simp
 refine zb (λa=>?_) (λa=>?_)
 ·refine zC xw yT xH rfl rfl λb1 w5 V f a7 E=>?_;refine U G _ _ ⟨dn++[k],lvM put ds k,_,[k],by simp[F],rfl,m.ext f,Blk.own1 (t:=zh) (cs:=[nI k]) (by rw[qL];exact E) (gP _) rfl rfl oM,⟨λy d=>?_,λy=>?_,.inr (by simp),by simp⟩,o.trans (n.trans f),oM,O,?_⟩
  ·rcases(memd y).1 d with d|rfl
   ·have:=l.le y d;omega
   ·exact gu _
  ·rw[memd,gn];constructor
   ·rintro rfl;exact⟨.inr rfl,rfl⟩
   ·rintro⟨d|rfl,e⟩
    ·have:=l.le y d;omega
    ·rfl
  ·intro x z;have e:b1=x:=X0 z;omega
 ·refine zb (λa2=>?_) (λa2=>?_)
  ·refine zC xw yT xH rfl rfl λb1 w5 V f a7 E=>?_;have a5:=T.ext f;refine a5.app1 xE E oM oM λv' w6 a6 H a3=>?_;have ab:=f.size;have ac:=H.size;have I:∀x,v'.ownBlock=some x->w.heap.size<=x/\x≠r:=λx z=>by
    rcases a3 x z with e|e
    ·exact j x e
    ·have:=he.size;constructor<;>omega
   have L:=(m.ext f).same H (λe=>by have:=(j b e).1;have:=hm.lt;omega) λe=>(j r e).2 rfl;have hE:Ext w w6:=Ext.then (o.trans (n.trans f)) H λx z=>(j x z).1;refine U G _ _ ⟨dn++[k],top,v',xs++[k],by simp[F],rfl,L,a6,⟨λy d=>?_,λy=>?_,.inr (by simp),?_⟩,hE,oM,D,I⟩
   ·rcases(memd y).1 d with d|rfl
    ·exact l.le y d
    ·omega
   ·rw[memd,gj,gn,l.mem];constructor
    ·rintro(⟨q,s⟩|rfl)
     ·exact⟨.inl q,s⟩
     ·exact⟨.inr rfl,oM⟩
    ·rintro⟨q|q,s⟩
     ·exact .inl ⟨q,s⟩
     ·exact .inr q
   ·rw[Gi];exact⟨l.nd,by simp,λa ha c hc e=>by simp at hc;subst hc;subst e;exact a1 ha⟩
  ·refine U G _ _ ⟨dn++[k],top,v,xs,by simp[F],rfl,m,T,⟨λy d=>?_,λy=>?_,l.ne,l.nd⟩,o.trans n,R,D,j⟩
   ·rcases(memd y).1 d with d|rfl
    ·exact l.le y d
    ·omega
   ·rw[memd,l.mem];constructor
    ·rintro⟨q,s⟩;exact⟨.inl q,s⟩
    ·rintro⟨q|rfl,s⟩
     ·exact⟨q,s⟩
     ·omega
end
end Go.Proofs.YtolbhkcajhlllaaGreatDoor
end
