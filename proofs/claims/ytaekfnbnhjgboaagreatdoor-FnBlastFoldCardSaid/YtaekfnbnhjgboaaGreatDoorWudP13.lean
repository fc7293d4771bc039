import Derived.Test.YtaekfnbnhjgboaaGreatDoorWudP12
import Derived.Test.YtaekfnbnhjgboaaGreatDoorWudP6
import Derived.OpenVars
import Derived.MakeChecks
import Derived.Stop.LaidErr
import Derived.Stop.LaidTwo
/- A part of the proof. -/
set_option linter.unusedVariables false
set_option linter.unusedSimpArgs false
set_option linter.unnecessarySimpa false
set_option linter.unusedSectionVars false
section
namespace Go.Proofs.YtaekfnbnhjgboaaGreatDoor
open Go Go.Vc Go.Proofs
variable {w:World} {K:Value→World→Prop} {F F' D G:Nat→Prop}
theorem j7 {o:Option M.Tm} {u:M.Tm} (b:yV0 K w G o) (e:o=some u):∀w' rv,Ext w w'→TermR (fun x=>G x∨w.heap.size≤x) w' rv u→K (.tuple #[rv,.bool true]) w':=fun w' rv a c=>by
 subst e;exact b w' rv u a c fun x d=>Option.some.inj d
theorem Yn {o:Option M.Tm} (b:yV0 K w G o) (e:o=none) {u:M.Tm}:∀w' rv,Ext w w'→TermR (fun x=>G x∨w.heap.size≤x) w' rv u→K (.tuple #[rv,.bool false]) w':=fun w' rv a c=>by
 subst e;exact b w' rv u a c fun x d=>by cases d
theorem Zb0 {o:Option M.Tm} {u:M.Tm} {b:Bool} (a:yV0 K w G o) (e:o=if b=true then some u else none):∀w' rv,Ext w w'→TermR (fun x=>G x∨w.heap.size≤x) w' rv u→K (.tuple #[rv,.bool b]) w':=by
 cases b
 ·exact Yn a (by rw[e];rfl)
 ·exact j7 a (by rw[e];rfl)
theorem intsL {xs:List Int} (d:xs.length≤100) (c:∀w' v,Ext w w'→Ints (fun _=>True) w' v xs→K v w'):vbuildS PP zj (xs.map fun x=>Value.int .i64 x).length ((xs.map fun x=>Value.int .i64 x).zipIdx.map fun p=>(p.2,p.1)) w K:=by
 refine vbuildS_row1 ZP km ZO (fun x e=>by obtain⟨y,_,rfl⟩:=List.mem_map.1 e;rfl) (by rw[List.length_map];omega) fun b w' f he hs a=>?_
 rw[List.length_map]
 have o:OwnI PP zj w' (.slice (some ⟨b,0,none⟩) xs.length xs.length) xs:=Blk.own1 (P:=PP) (t:=zj) (by rw[UL];exact a) (Nat.zero_le _) (by simp) (by simp) (by omega)
 exact c w' _ he (o.ints.weaken fun _ _ _=>trivial)
theorem branches_spec {dv tv:Value} {mb:Nat} {ds:List M.Dcl} {t:M.Tm} (W:DclsR F w dv ds) (hm:KindsR w mb) (Y:M.declOk ds=true) (Z:TermR G w tv t) (hs:M.sortM ds t≠ -1) (p:yV0 K w G (M.ruleB t)):vcall PP qe #[kO dv mb,tv] w K:=by
 apply QW
 refine rs_enter (B:=fun t2 t3 t4 a1=>_) W hm Z fun U b2 b3 b4 kv rs=>?_
 have hlen:=M.len_of hs
 have v:t.op=25→t.ks.length=1:=fun h=>by rw[h] at hlen;simp[M.arity] at hlen;omega
 have s:t.op=23→t.ks.length=3:=fun h=>by rw[h] at hlen;simp[M.arity] at hlen;omega
 refine zI (fun u w'=>u=[]∧Ext U w'∧t.op=23∧M.isM (M.kid t 0) 1=false∧M.isM (M.kid t 0) 0=false) (fun C V=>?_) ?_
 ·refine zI (fun u w'=> ∃b:Bool,u=[.bool b]∧w'=U∧(b=true↔t.op=25∧(M.kid t 0).op=25)) (fun D hD=>?_) ?_
  ·simp(disch:=(simp only[push_cast];done)) only[push_cast,rs.q.ld0]
   refine zh (fun a=>?_) (fun a=>?_)
   ·have:=v a
    simp(disch:=first|(simp only[push_cast];done)|omega) only[push_cast,rs.q.ld4,rs.k.iaddr]
    rw[tms_op rs.k (by omega)]
    simp only[push_cast]
    exact hD _ _ ⟨_,rfl,rfl,by rw[decide_eq_true_eq];exact⟨fun h=>⟨a,h⟩,fun h=>h.2⟩⟩
   ·exact hD _ _ ⟨false,rfl,rfl,⟨fun h=>(by cases h),fun h=>absurd h.1 a⟩⟩
  rintro u1 g1 w2 ⟨b,rfl,rfl,O⟩
  simp only[push_cast]
  refine y3 (fun c=>?_) (fun c=>?_)
  ·obtain⟨R,S⟩:=O.1 c
   have P:=v R
   have k0:=M.good_kid hs (i:=0) (by omega)
   have I:(M.kid t 0).ks.length=1:=by have:=M.len_of k0;rw[S] at this;simp[M.arity] at this;omega
   simp(disch:=first|(simp only[push_cast];done)|omega) only[push_cast,rs.q.ld4,rs.k.iaddr]
   refine tms_kids rs.k (by omega) fun a0 r=>?_
   have Q:(t.ks.getD 0 default).ks.length=1:=I
   simp(disch:=first|(simp only[push_cast];done)|omega) only[push_cast,r.iaddr]
   refine r.load zu (by omega) fun x L=>?_
   exact yQ rs (rs_kid rs L) (j7 p (by unfold M.ruleB;rw[if_pos ⟨R,S⟩];rfl))
  have nb: ¬(t.op=25∧(M.kid t 0).op=25):=fun h=>by have:=O.2 h;rw[c] at this;cases this
  simp(disch:=(simp only[push_cast];done)) only[push_cast,rs.q.ld0]
  refine zh (fun a=>?_) (fun a=>?_)
  ·try simp only[push_cast]
   exact yQ rs Qg (Yn p (by unfold M.ruleB;rw[if_neg nb,if_pos a]))
  have m:t.op=23:=by omega
  have P:=s m
  simp(disch:=first|(simp only[push_cast];done)|omega) only[push_cast,rs.q.ld4,rs.k.iaddr]
  refine rs.k.load zu (by omega) fun x L=>?_
  refine ZM L fun w3 l=>?_
  have j:=yj rs l
  simp(disch:=first|(simp only[push_cast];done)|omega) only[push_cast,j.q.ld4,j.k.iaddr]
  refine y3 (fun d=>?_) (fun d=>?_)
  ·refine j.k.load zu (by omega) fun y N=>?_
   exact yQ j (rs_kid j N) (j7 p (by unfold M.ruleB;rw[if_neg nb,if_neg a];exact if_pos d))
  refine j.k.load zu (by omega) fun y N=>?_
  refine ZM N fun w4 f=>?_
  have n:=yj j f
  simp(disch:=first|(simp only[push_cast];done)|omega) only[push_cast,n.q.ld4,n.k.iaddr]
  refine y3 (fun e=>?_) (fun e=>?_)
  ·refine n.k.load zu (by omega) fun z hz=>?_
   refine yQ n (rs_kid n hz) (j7 p ?_)
   unfold M.ruleB
   rw[if_neg nb,if_neg a,if_neg (by rw[show M.isM (M.kid t 0) 1=false from d];decide)]
   exact if_pos e
  exact V _ _ ⟨rfl,l.trans f,m,d,e⟩
 rintro u g w2 ⟨rfl,E,m,i1,i0⟩
 have P:=s m
 refine zr fun w3 l _=>?_
 have j:=yj rs (E.trans l)
 obtain⟨css,o,X,A⟩:=j.k
 simp(disch:=first|(simp only[push_cast];done)|omega) only[push_cast,j.q.ld4,o.iaddr,o.ldAgg,true_and]
 refine TermSame_spec _ (A 1 (by omega)).term (A 2 (by omega)).term fun w4 f=>?_
 have n:=yj j f
 have sl4:=o.ext f
 simp(disch:=first|(simp only[push_cast];done)|omega) only[push_cast,n.q.ld4,sl4.iaddr,sl4.ldAgg,true_and,and_self]
 refine chosen_spec ((A 1 (by omega)).ext f).term fun w5 v5 H J=>?_
 have T:=yj n H
 simp only[push_cast,true_and]
 refine yQ T (rs_kid T J) (Zb0 p ?_)
 unfold M.ruleB
 rw[if_neg (by omega),if_neg (by omega),if_neg (by rw[i1];decide),if_neg (by rw[i0];decide)]
 simp only[decide_eq_true_eq]
 rfl
theorem layers_spec {dv tv:Value} {mb:Nat} {ds:List M.Dcl} {t:M.Tm} (L:DclsR F w dv ds) (hm:KindsR w mb) (A:M.declOk ds=true) (Q:TermR G w tv t) (hs:M.sortM ds t≠ -1) (y:yV0 K w G (M.ruleL ds t)):vcall PP qu #[kO dv mb,tv] w K:=by
 apply KJ
 refine rs_enter (B:=fun t2 t3 t4 X=>_) L hm Q fun T b2 b3 b4 kv rs=>?_
 have hlen:=M.len_of hs
 simp(disch:=(simp only[push_cast];done)) only[push_cast,rs.q.ld0]
 refine zh (fun a=>?_) (fun a=>?_)
 ·have N:t.ks.length=1:=by rw[a] at hlen;simp[M.arity] at hlen;omega
  refine zr fun U H _=>?_
  have n:=yj rs H
  obtain⟨css,r,P,E⟩:=n.k
  simp(disch:=first|(simp only[push_cast];done)|omega) only[push_cast,n.q.ld1,n.q.ld2,n.q.ld4,n.f.ldAgg (t:=zG) qN,r.iaddr,r.ldAgg,true_and]
  refine zh (fun b=>?_) (fun b=>?_)
  ·refine ZN n.d n.m A (E 0 (by omega)).term fun V l=>?_
   have j:=yj n l
   have sl3:=r.ext l
   have hw:=M.sort_range A (M.kid t 0)
   simp(disch:=first|(simp only[push_cast];done)|omega) only[push_cast,j.q.ld1,j.q.ld4,sl3.iaddr,sl3.ldAgg,true_and,and_self]
   rw[show t.ks.getD 0 default=M.kid t 0 from rfl,show IntKind.i64.wrap (M.sortM ds (M.kid t 0)-1)=M.sortM ds (M.kid t 0)-1 from zE (by omega) (by omega)]
   refine chosen_spec ((E 0 (by omega)).ext l).term fun W v5 p s=>?_
   have C:=yj j p
   simp only[push_cast,true_and]
   refine yQ C (rs_kid C s) (Zb0 y ?_)
   unfold M.ruleL
   rw[if_pos a]
   by_cases e:t.a=M.sortM ds (M.kid t 0)-1
   ·rw[if_pos ⟨b,e⟩,if_pos (decide_eq_true e)];rfl
   ·rw[if_neg (fun x=>e x.2),if_neg (by rw[decide_eq_false e];decide)]
  ·refine chosen_spec (E 0 (by omega)).term fun W v5 p s=>?_
   have C:=yj n p
   simp only[push_cast,true_and]
   refine yQ C (rs_kid C s) (Zb0 y ?_)
   unfold M.ruleL
   rw[if_pos a,if_neg (fun x=>b x.1)];rfl
 have nothing: ¬((t.op=1∨t.op=2)∧(M.kid t 0).op=t.op)→M.ruleL ds t=none:=fun h=>by unfold M.ruleL;rw[if_neg a,if_neg h]
 refine zI (fun u w'=> ∃b:Bool,u=[.bool b]∧w'=T∧(b=true↔t.op=1∨t.op=2)) (fun D hD=>?_) ?_
 ·try simp only[push_cast]
  refine zh (fun b=>?_) (fun b=>?_)
  ·exact hD _ _ ⟨_,rfl,rfl,by rw[decide_eq_true_eq];exact⟨.inl,fun h=>by omega⟩⟩
  ·exact hD _ _ ⟨_,rfl,rfl,by rw[decide_eq_true_eq];exact⟨.inr,fun h=>by omega⟩⟩
 rintro u g U ⟨b,rfl,rfl,J⟩
 simp only[push_cast]
 refine y3 (fun c=>?_) (fun c=>?_)
 ·have v:=J.1 c
  have N:t.ks.length=1:=by rcases v with e|e<;>rw[e] at hlen<;>simp[M.arity] at hlen<;>omega
  refine zr fun V l _=>?_
  have j:=yj rs l
  simp(disch:=first|(simp only[push_cast];done)|omega) only[push_cast,j.q.ld0,j.q.ld4,j.k.iaddr,true_and]
  rw[tms_op j.k (by omega)]
  simp(disch:=first|(simp only[push_cast];done)|omega) only[push_cast,j.q.ld0,j.q.ld4,j.k.iaddr,true_and]
  refine zh (fun e=>?_) (fun e=>?_)
  ·have k0:=M.good_kid hs (i:=0) (by omega)
   have O:(t.ks.getD 0 default).ks.length=1:=by
    have:=M.len_of k0
    rw[show(M.kid t 0).op=t.op from e] at this
    rcases v with o|o<;>rw[o] at this<;>simp[M.arity] at this<;>(unfold M.kid at this;omega)
   refine tms_kids j.k (by omega) fun S z=>?_
   simp(disch:=first|(simp only[push_cast];done)|omega) only[push_cast,z.iaddr]
   refine z.load zu (by omega) fun x R=>?_
   exact yQ j (rs_kid j R) (j7 y (by unfold M.ruleL;rw[if_neg a];exact if_pos ⟨v,e⟩))
  ·try simp only[push_cast]
   exact yQ j Qg (Yn y (nothing fun h=>e h.2))
 ·have I: ¬(t.op=1∨t.op=2):=fun h=>by have:=J.2 h;rw[c] at this;cases this
  try simp only[push_cast]
  exact yQ rs Qg (Yn y (nothing fun h=>I h.1))
theorem twins_spec {dv tv:Value} {mb:Nat} {ds:List M.Dcl} {t:M.Tm} (U:DclsR F w dv ds) (hm:KindsR w mb) (L:M.declOk ds=true) (Y:TermR G w tv t) (hs:M.sortM ds t≠ -1) (p:yV0 K w G (M.ruleW ds t)):vcall PP qI #[kO dv mb,tv] w K:=by
 apply VX
 refine rs_enter (B:=fun t2 t3 t4 a0=>_) U hm Y fun O b2 b3 b4 kv rs=>?_
 have no:∀w',RS G w w' b2 b3 b4 dv kv mb ds t→¬(t.ks.length=2∧M.kid t 0=M.kid t 1)→zl PP z7 (ptr b4) (.agg ⟨zL0⟩) w' fun _ O=>vlv PP z7 (ptr b4) O fun r E=>K (.tuple #[r,.bool false]) E:=fun w' N h=>
  yQ N Qg (Yn p (by unfold M.ruleW;rw[if_neg h]))
 refine zI (fun u w'=>u=[]∧Ext O w'∧t.ks.length=2∧M.kid t 0=M.kid t 1) (fun C T=>?_) ?_
 ·refine zr fun E n _=>?_
  have j:=yj rs n
  obtain⟨css,y,X,R⟩:=j.k
  simp(disch:=first|(simp only[push_cast];done)|omega) only[push_cast,j.q.ld4,j.k.len,true_and]
  refine zh (fun a=>?_) (fun a=>?_)
  ·try simp only[push_cast]
   exact no _ j fun h=>a (by rw[h.1];rfl)
  have J:t.ks.length=2:=by omega
  simp(disch:=first|(simp only[push_cast];done)|omega) only[push_cast,j.q.ld4,y.iaddr,y.ldAgg,true_and]
  refine TermSame_spec _ (R 0 (by omega)).term (R 1 (by omega)).term fun H i=>?_
  have r4:=yj j i
  simp only[push_cast,true_and]
  refine y3 (fun b=>?_) (fun b=>?_)
  ·rw[Bool.not_eq_true',decide_eq_false_iff_not] at b
   try simp only[push_cast]
   exact no _ r4 fun h=>b h.2
  ·rw[Bool.not_eq_false',decide_eq_true_eq] at b
   exact T _ _ ⟨rfl,n.trans i,J,b⟩
 rintro u g E ⟨rfl,n,J,V⟩
 have j:=yj rs n
 have W:M.ruleW ds t=if t.op=3∨t.op=4 then some (M.kid t 0) else if t.op=5∨t.op=7 then some (M.constM (M.sortM ds t) 0) else if t.op=15 then some (M.constM 0 1) else if t.op=16∨t.op=17 then some (M.constM 0 0) else none:=by
  unfold M.ruleW;rw[if_pos ⟨J,V⟩]
 simp(disch:=(simp only[push_cast];done)) only[push_cast,j.q.ld0]
 refine zI (fun u w'=> ∃b:Bool,u=[.bool b]∧w'=E∧(b=true↔t.op=3∨t.op=4)) (fun D hD=>?_) ?_
 ·try simp only[push_cast]
  refine zh (fun b=>?_) (fun b=>?_)
  ·exact hD _ _ ⟨_,rfl,rfl,by rw[decide_eq_true_eq];exact⟨.inl,fun h=>by omega⟩⟩
  ·exact hD _ _ ⟨_,rfl,rfl,by rw[decide_eq_true_eq];exact⟨.inr,fun h=>by omega⟩⟩
 rintro u1 g1 P ⟨b,rfl,rfl,Q⟩
 simp only[push_cast]
 refine y3 (fun c=>?_) (fun c=>?_)
 ·simp(disch:=first|(simp only[push_cast];done)|omega) only[push_cast,j.q.ld4,j.k.iaddr]
  refine j.k.load zu (by omega) fun x Z=>?_
  exact yQ j (rs_kid j Z) (j7 p (by rw[W,if_pos (Q.1 c)];rfl))
 have z: ¬(t.op=3∨t.op=4):=fun h=>by have:=Q.2 h;rw[c] at this;cases this
 refine zI (fun u w'=> ∃b:Bool,u=[.bool b]∧w'=P∧(b=true↔t.op=5∨t.op=7)) (fun D hD=>?_) ?_
 ·try simp only[push_cast]
  refine zh (fun b=>?_) (fun b=>?_)
  ·exact hD _ _ ⟨_,rfl,rfl,by rw[decide_eq_true_eq];exact⟨.inl,fun h=>by omega⟩⟩
  ·exact hD _ _ ⟨_,rfl,rfl,by rw[decide_eq_true_eq];exact⟨.inr,fun h=>by omega⟩⟩
 rintro u2 g2 S ⟨b',rfl,rfl,s⟩
 simp only[push_cast]
 refine y3 (fun I=>?_) (fun I=>?_)
 ·rw[j.f.ldAgg (t:=zG) qN,j.q.ldAgg (t:=z7) zu]
  refine ZN j.d j.m L ⟨kv,rfl,j.k⟩ fun w3 v=>?_
  refine constant_spec fun H v4 i l=>?_
  exact yQ (yj j (v.trans i)) (rs_new (yj j v) i l) (j7 p (by rw[W,if_neg z,if_pos (s.1 I)]))
 have A: ¬(t.op=5∨t.op=7):=fun h=>by have:=s.2 h;rw[I] at this;cases this
 try simp only[push_cast]
 refine zh (fun e=>?_) (fun e=>?_)
 ·refine constant_spec fun H v4 i l=>?_
  exact yQ (yj j i) (rs_new j i l) (j7 p (by rw[W,if_neg z,if_neg A,if_pos e]))
 by_cases o:t.op=16
 ·simp only[o,decide_true,push_cast]
  refine constant_spec fun H v4 i l=>?_
  exact yQ (yj j i) (rs_new j i l) (j7 p (by rw[W,if_neg z,if_neg A,if_neg e,if_pos (.inl o)]))
 ·simp only[o,decide_false,push_cast]
  refine zh (fun f=>?_) (fun f=>?_)
  ·refine constant_spec fun H v4 i l=>?_
   exact yQ (yj j i) (rs_new j i l) (j7 p (by rw[W,if_neg z,if_neg A,if_neg e,if_pos (.inr f)]))
  ·try simp only[push_cast]
   exact yQ j Qg (Yn p (by rw[W,if_neg z,if_neg A,if_neg e,if_neg (by omega)]))
end Go.Proofs.YtaekfnbnhjgboaaGreatDoor
end
section
namespace Go.Proofs.YtaekfnbnhjgboaaGreatDoor
open Go Go.Vc Go.Proofs
variable {w:World} {K:Value→World→Prop} {F F' D G:Nat→Prop}
def TwoV (G:Nat→Prop) (w0 w':World) (t:M.Tm) (u:List Value):Prop:= ∃b b' c c',u=[ptr b,ptr b']∧Blk w' b c z7∧TmR (fun x=>G x∧x<w0.heap.size) w' c (M.kid t 0)∧Blk w' b' c' z7∧TmR (fun x=>G x∧x<w0.heap.size) w' c' (M.kid t 1)
theorem kh0 {w0 e:World} {b2 b3 b4 mb:Nat} {dv kv:Value} {ds:List M.Dcl} {t:M.Tm} {C:List Value→World→Prop} (rs:RS G w0 e b2 b3 b4 dv kv mb ds t) (h:2≤t.ks.length) (i:∀u w',Ext e w'→TwoV G w0 w' t u→C u w'):UB (ptr b3) e C:=
 pairReg_ok rs.q rs.k h fun w' b f c g he j l a d=>i _ _ he ⟨b,f,c,g,rfl,j,l,a,d⟩
theorem truths_spec {dv tv:Value} {mb:Nat} {ds:List M.Dcl} {t:M.Tm} (hd:DclsR F w dv ds) (hm:KindsR w mb) (ht:TermR G w tv t) (hs:M.sortM ds t≠ -1) (y:yV0 K w G (M.ruleT t)):vcall PP qt #[kO dv mb,tv] w K:=by
 apply KI
 refine rs_enter (B:=fun t2 t3 t4 a0=>_) hd hm ht fun w1 b2 b3 b4 kv rs=>?_
 have hlen:=M.len_of hs
 rw[rs.q.ldAgg (t:=z7) zu]
 refine intsL (xs:=[26,27]) (by decide) fun w2 av P hav=>?_
 have r2:=yj rs P
 refine among_spec (t:=t) (F:=fun x=>G x∧x<w.heap.size) ⟨kv,rfl,r2.k⟩ hav (by decide) fun w3 Q=>?_
 have N:=yj r2 Q
 have r:t.op∈[(26:Int),27]↔t.op=26∨t.op=27:=by simp
 simp only[push_cast]
 refine y3 (fun a=>?_) (fun a=>?_)
 ·rw[Bool.not_eq_true',decide_eq_false_iff_not,r] at a
  try simp only[push_cast]
  exact yQ N Qg (Yn y (by unfold M.ruleT;rw[if_neg a]))
 rw[Bool.not_eq_false',decide_eq_true_eq,r] at a
 have h2:t.ks.length=2:=by rcases a with e|e<;>rw[e] at hlen<;>simp[M.arity] at hlen<;>omega
 refine zI (fun u w'=>u=[.int .i64 (M.neutral t.op),.int .i64 (1-M.neutral t.op)]∧w'=w3) (fun C J=>?_) ?_
 ·simp(disch:=(simp only[push_cast];done)) only[push_cast,N.q.ld0]
  refine zh (fun b=>?_) (fun b=>?_)
  ·refine J _ _ ⟨?_,rfl⟩
   unfold M.neutral;rw[if_neg (by omega)];rfl
  ·refine J _ _ ⟨?_,rfl⟩
   unfold M.neutral;rw[if_pos (by omega)];rfl
 rintro u g X ⟨rfl,rfl⟩
 refine zI (fun u w'=>Ext X w'∧TwoV G w w' t u) (fun C J=>?_) ?_
 ·have reg:=kh0 (C:=C) N (by omega) fun u w' he h=>J u w' ⟨he,h⟩
  unfold UB at reg
  simp only[push_cast] at reg
  exact reg
 rintro u1 g1 w4 ⟨R,b,b',c,c',rfl,L,z,n,l⟩
 have r4:=yj N R
 have gc:aggB PP z7 c.length=true:=by rw[yp z];exact zu
 have m:aggB PP z7 c'.length=true:=by rw[yp l];exact zu
 have T:M.ruleT t=if M.isM (M.kid t 0) (M.neutral t.op)=true∨M.kid t 0=M.kid t 1 then some (M.kid t 1) else if M.isM (M.kid t 1) (M.neutral t.op)=true then some (M.kid t 0) else if M.isM (M.kid t 0) (1-M.neutral t.op)=true∨M.isM (M.kid t 1) (1-M.neutral t.op)=true then some (M.constM 0 (1-M.neutral t.op)) else none:=by
  unfold M.ruleT;rw[if_pos a]
 refine zI (fun u w'=>u=[]∧Ext w4 w'∧¬(M.isM (M.kid t 0) (M.neutral t.op)=true∨M.kid t 0=M.kid t 1)∧¬M.isM (M.kid t 1) (M.neutral t.op)=true) (fun D hD=>?_) ?_
 ·refine zI (fun u w'=> ∃e:Bool,u=[.bool e]∧Ext w4 w'∧(e=true↔M.isM (M.kid t 0) (M.neutral t.op)=true∨M.kid t 0=M.kid t 1)) (fun E Y=>?_) ?_
  ·simp only[push_cast]
   rw[L.ldAgg (t:=z7) gc]
   refine ZM z.term fun w5 d=>?_
   refine y3 (fun i=>?_) (fun i=>?_)
   ·exact Y _ _ ⟨true,rfl,d,⟨fun _=> .inl i,fun _=>rfl⟩⟩
   ·try simp only[push_cast]
    rw[(L.ext d).ldAgg (t:=z7) gc,(n.ext d).ldAgg (t:=z7) m]
    refine TermSame_spec _ (z.ext d).term (l.ext d).term fun w6 f=>?_
    refine Y _ _ ⟨_,rfl,d.trans f,?_⟩
    rw[decide_eq_true_eq]
    exact⟨.inr,fun h=>h.elim (fun x=>by rw[i] at x;cases x) id⟩
  rintro u2 g2 w5 ⟨e,rfl,d,A⟩
  have I:=yj r4 d
  simp only[push_cast]
  refine y3 (fun i=>?_) (fun i=>?_)
  ·try simp only[push_cast]
   rw[(n.ext d).ldAgg (t:=z7) m]
   exact yQ I (rs_kid I (l.ext d).term) (j7 y (by rw[T,if_pos (A.1 i)]))
  have H: ¬(M.isM (M.kid t 0) (M.neutral t.op)=true∨M.kid t 0=M.kid t 1):=fun h=>by have:=A.2 h;rw[i] at this;cases this
  try simp only[push_cast]
  rw[(n.ext d).ldAgg (t:=z7) m]
  refine ZM (l.ext d).term fun w6 f=>?_
  have v:=yj I f
  refine y3 (fun j=>?_) (fun j=>?_)
  ·try simp only[push_cast]
   rw[(L.ext (d.trans f)).ldAgg (t:=z7) gc]
   exact yQ v (rs_kid v (z.ext (d.trans f)).term) (j7 y (by rw[T,if_neg H,if_pos j]))
  ·exact hD _ _ ⟨rfl,d.trans f,H,by rw[j];decide⟩
 rintro u2 g2 w5 ⟨rfl,d,H,Z⟩
 have I:=yj r4 d
 simp only[push_cast]
 rw[(L.ext d).ldAgg (t:=z7) gc]
 refine ZM (z.ext d).term fun w6 f=>?_
 have v:=yj I f
 refine y3 (fun i=>?_) (fun i=>?_)
 ·refine constant_spec fun w7 v7 o U=>?_
  have O:=yj v o
  refine chosen_spec (rs_new v o U) fun w8 v8 p s=>?_
  have W:=yj O p
  simp only[push_cast]
  exact yQ W s (j7 y (by rw[T,if_neg H,if_neg Z,if_pos (.inl i)]))
 ·try simp only[push_cast]
  rw[(n.ext (d.trans f)).ldAgg (t:=z7) m]
  refine ZM (l.ext (d.trans f)).term fun w7 o=>?_
  have O:=yj v o
  refine constant_spec fun w8 v8 p s=>?_
  have W:=yj O p
  refine chosen_spec (rs_new O p s) fun w9 v9 S V=>?_
  have r9:=yj W S
  simp only[push_cast]
  refine yQ r9 V (Zb0 y ?_)
  rw[T,if_neg H,if_neg Z]
  by_cases j:M.isM (M.kid t 1) (1-M.neutral t.op)=true
  ·rw[if_pos (.inr j),if_pos j]
  ·rw[if_neg (fun h=>h.elim (fun x=>by rw[i] at x;cases x) j),if_neg j]
theorem seconds_spec {dv tv:Value} {mb:Nat} {ds:List M.Dcl} {t:M.Tm} (hd:DclsR F w dv ds) (hm:KindsR w mb) (ht:TermR G w tv t) (J:yV0 K w G (M.ruleS t)):vcall PP ql #[kO dv mb,tv] w K:=by
 apply JG
 refine rs_enter (B:=fun t2 t3 t4 a0=>_) hd hm ht fun w1 b2 b3 b4 kv rs=>?_
 simp(disch:=(simp only[push_cast];done)) only[push_cast,rs.q.ld4,rs.k.len]
 refine zh (fun a=>?_) (fun a=>?_)
 ·try simp only[push_cast]
  exact yQ rs Qg (Yn J (by unfold M.ruleS;rw[if_neg (by omega)]))
 have h2:t.ks.length=2:=by omega
 refine zI (fun u w'=>Ext w1 w'∧TwoV G w w' t u) (fun C hC=>?_) ?_
 ·have reg:=kh0 (C:=C) rs (by omega) fun u w' he h=>hC u w' ⟨he,h⟩
  unfold UB at reg
  simp only[push_cast] at reg
  exact reg
 rintro u1 g1 Y ⟨S,b,b',c,c',rfl,W,R,p,m⟩
 have U:=yj rs S
 have gc:aggB PP z7 c.length=true:=by rw[yp R];exact zu
 have n:aggB PP z7 c'.length=true:=by rw[yp m];exact zu
 have T:M.ruleS t=if M.isM (M.kid t 1) 0=true∧(t.op=4∨t.op=5∨t.op=6∨t.op=7∨t.op=11∨t.op=12∨t.op=13) then some (M.kid t 0) else if M.isM (M.kid t 1) 0=true∧(t.op=3∨t.op=8) then some (M.kid t 1) else if M.isM (M.kid t 1) 1=true∧t.op=8 then some (M.kid t 0) else none:=by
  unfold M.ruleS;rw[if_pos h2]
 refine zI (fun u w'=>u=[]∧Ext Y w'∧¬(M.isM (M.kid t 1) 0=true∧(t.op=4∨t.op=5∨t.op=6∨t.op=7∨t.op=11∨t.op=12∨t.op=13))∧¬(M.isM (M.kid t 1) 0=true∧(t.op=3∨t.op=8))) (fun D hD=>?_) ?_
 ·refine zI (fun u w'=> ∃e:Bool,u=[.bool e]∧Ext Y w'∧(e=true↔M.isM (M.kid t 1) 0=true∧(t.op=4∨t.op=5∨t.op=6∨t.op=7∨t.op=11∨t.op=12∨t.op=13))) (fun E V=>?_) ?_
  ·simp only[push_cast]
   rw[p.ldAgg (t:=z7) n]
   refine ZM m.term fun Z d=>?_
   have s:=yj U d
   refine y3 (fun i=>?_) (fun i=>?_)
   ·try simp only[push_cast]
    rw[s.q.ldAgg (t:=z7) zu]
    refine intsL (xs:=[4,5,6,7,11,12,13]) (by decide) fun w6 av f hav=>?_
    have H:=yj s f
    refine among_spec (t:=t) (F:=fun x=>G x∧x<w.heap.size) ⟨kv,rfl,H.k⟩ hav (by decide) fun w7 g=>?_
    refine V _ _ ⟨_,rfl,d.trans (f.trans g),?_⟩
    rw[decide_eq_true_eq]
    simp only[List.mem_cons,List.not_mem_nil,or_false]
    exact⟨fun h=>⟨i,h⟩,fun h=>h.2⟩
   ·exact V _ _ ⟨false,rfl,d,⟨fun h=>(by cases h),fun h=>(by rw[i] at h;cases h.1)⟩⟩
  rintro u2 g2 Z ⟨e,rfl,d,Q⟩
  have s:=yj U d
  simp only[push_cast]
  refine y3 (fun i=>?_) (fun i=>?_)
  ·try simp only[push_cast]
   rw[(W.ext d).ldAgg (t:=z7) gc]
   exact yQ s (rs_kid s (R.ext d).term) (j7 J (by rw[T,if_pos (Q.1 i)]))
  have A:=fun h=>(show False by have:=Q.2 h;rw[i] at this;cases this)
  try simp only[push_cast]
  rw[(p.ext d).ldAgg (t:=z7) n]
  refine ZM (m.ext d).term fun w6 f=>?_
  have H:=yj s f
  refine y3 (fun j=>?_) (fun j=>?_)
  ·try simp only[push_cast]
   rw[H.q.ldAgg (t:=z7) zu]
   refine intsL (xs:=[3,8]) (by decide) fun w7 av g hav=>?_
   have I:=yj H g
   refine among_spec (t:=t) (F:=fun x=>G x∧x<w.heap.size) ⟨kv,rfl,I.k⟩ hav (by decide) fun w8 l=>?_
   have v:=yj I l
   have y:=d.trans (f.trans (g.trans l))
   have r:t.op∈[(3:Int),8]↔t.op=3∨t.op=8:=by simp
   refine zh (fun o=>?_) (fun o=>?_)
   ·try simp only[push_cast]
    rw[(p.ext y).ldAgg (t:=z7) n]
    exact yQ v (rs_kid v (m.ext y).term) (j7 J (by rw[T,if_neg A,if_pos ⟨j,r.1 o⟩]))
   ·exact hD _ _ ⟨rfl,y,A,fun h=>o (r.2 h.2)⟩
  ·exact hD _ _ ⟨rfl,d.trans f,A,fun h=>by rw[j] at h;cases h.1⟩
 rintro u2 g2 Z ⟨rfl,d,A,X⟩
 have s:=yj U d
 refine zr fun w6 f _=>?_
 have H:=yj s f
 have L:=W.ext (d.trans f)
 have N:=p.ext (d.trans f)
 have O:=R.ext (d.trans f)
 have P:=m.ext (d.trans f)
 simp only[push_cast,L.ldAgg (t:=z7) gc,N.ldAgg (t:=z7) n,true_and]
 refine ZM P.term fun w7 g=>?_
 have I:=yj H g
 simp only[push_cast,(L.ext g).ldAgg (t:=z7) gc,true_and,and_self]
 refine y3 (fun i=>?_) (fun i=>?_)
 ·simp(disch:=(simp only[push_cast];done)) only[push_cast,I.q.ld0,true_and]
  refine chosen_spec (O.ext g).term fun w8 v8 l z=>?_
  have v:=yj I l
  simp only[push_cast,true_and]
  refine yQ v (rs_kid v z) (Zb0 J ?_)
  rw[T,if_neg A,if_neg X]
  by_cases o:t.op=8
  ·rw[if_pos ⟨i,o⟩,if_pos (decide_eq_true o)]
  ·rw[if_neg (fun h=>o h.2),if_neg (by rw[decide_eq_false o];decide)]
 ·refine chosen_spec (O.ext g).term fun w8 v8 l z=>?_
  have v:=yj I l
  simp only[push_cast,true_and]
  refine yQ v (rs_kid v z) (Yn J ?_)
  rw[T,if_neg A,if_neg X,if_neg (fun h=>by rw[i] at h;cases h.1)]
theorem firsts_spec {dv tv:Value} {mb:Nat} {ds:List M.Dcl} {t:M.Tm} (hd:DclsR F w dv ds) (hm:KindsR w mb) (ht:TermR G w tv t) (L:yV0 K w G (M.ruleF t)):vcall PP qw #[kO dv mb,tv] w K:=by
 apply KK
 refine rs_enter (B:=fun t2 t3 t4 a0=>_) hd hm ht fun w1 b2 b3 b4 kv rs=>?_
 simp(disch:=(simp only[push_cast];done)) only[push_cast,rs.q.ld4,rs.k.len]
 refine zh (fun a=>?_) (fun a=>?_)
 ·try simp only[push_cast]
  exact yQ rs Qg (Yn L (by unfold M.ruleF;rw[if_neg (by omega)]))
 have h2:t.ks.length=2:=by omega
 refine zI (fun u w'=>Ext w1 w'∧TwoV G w w' t u) (fun C hC=>?_) ?_
 ·have reg:=kh0 (C:=C) rs (by omega) fun u w' he h=>hC u w' ⟨he,h⟩
  unfold UB at reg
  simp only[push_cast] at reg
  exact reg
 rintro u1 g1 Y ⟨U,b,b',c,c',rfl,Q,O,N,z⟩
 have V:=yj rs U
 have gc:aggB PP z7 c.length=true:=by rw[yp O];exact zu
 have y:aggB PP z7 c'.length=true:=by rw[yp z];exact zu
 have T:M.ruleF t=if M.isM (M.kid t 0) 0=true∧(t.op=4∨t.op=5∨t.op=6) then some (M.kid t 1) else if M.isM (M.kid t 0) 0=true∧(t.op=3∨t.op=8) then some (M.kid t 0) else if M.isM (M.kid t 0) 1=true∧t.op=8 then some (M.kid t 1) else none:=by
  unfold M.ruleF;rw[if_pos h2]
 refine zI (fun u w'=>u=[]∧Ext Y w'∧¬(M.isM (M.kid t 0) 0=true∧(t.op=4∨t.op=5∨t.op=6))∧¬(M.isM (M.kid t 0) 0=true∧(t.op=3∨t.op=8))) (fun D hD=>?_) ?_
 ·refine zI (fun u w'=> ∃e:Bool,u=[.bool e]∧Ext Y w'∧(e=true↔M.isM (M.kid t 0) 0=true∧(t.op=4∨t.op=5∨t.op=6))) (fun E W=>?_) ?_
  ·simp only[push_cast]
   rw[Q.ldAgg (t:=z7) gc]
   refine ZM O.term fun Z d=>?_
   have r:=yj V d
   refine y3 (fun i=>?_) (fun i=>?_)
   ·try simp only[push_cast]
    rw[r.q.ldAgg (t:=z7) zu]
    refine intsL (xs:=[4,5,6]) (by decide) fun w6 av f hav=>?_
    have I:=yj r f
    refine among_spec (t:=t) (F:=fun x=>G x∧x<w.heap.size) ⟨kv,rfl,I.k⟩ hav (by decide) fun w7 g=>?_
    refine W _ _ ⟨_,rfl,d.trans (f.trans g),?_⟩
    rw[decide_eq_true_eq]
    simp only[List.mem_cons,List.not_mem_nil,or_false]
    exact⟨fun h=>⟨i,h⟩,fun h=>h.2⟩
   ·exact W _ _ ⟨false,rfl,d,⟨fun h=>(by cases h),fun h=>(by rw[i] at h;cases h.1)⟩⟩
  rintro u2 g2 Z ⟨e,rfl,d,P⟩
  have r:=yj V d
  simp only[push_cast]
  refine y3 (fun i=>?_) (fun i=>?_)
  ·try simp only[push_cast]
   rw[(N.ext d).ldAgg (t:=z7) y]
   exact yQ r (rs_kid r (z.ext d).term) (j7 L (by rw[T,if_pos (P.1 i)]))
  have H:=fun h=>(show False by have:=P.2 h;rw[i] at this;cases this)
  try simp only[push_cast]
  rw[(Q.ext d).ldAgg (t:=z7) gc]
  refine ZM (O.ext d).term fun w6 f=>?_
  have I:=yj r f
  refine y3 (fun j=>?_) (fun j=>?_)
  ·try simp only[push_cast]
   rw[I.q.ldAgg (t:=z7) zu]
   refine intsL (xs:=[3,8]) (by decide) fun w7 av g hav=>?_
   have J:=yj I g
   refine among_spec (t:=t) (F:=fun x=>G x∧x<w.heap.size) ⟨kv,rfl,J.k⟩ hav (by decide) fun w8 l=>?_
   have s:=yj J l
   have v:=d.trans (f.trans (g.trans l))
   have p:t.op∈[(3:Int),8]↔t.op=3∨t.op=8:=by simp
   refine zh (fun o=>?_) (fun o=>?_)
   ·try simp only[push_cast]
    rw[(Q.ext v).ldAgg (t:=z7) gc]
    exact yQ s (rs_kid s (O.ext v).term) (j7 L (by rw[T,if_neg H,if_pos ⟨j,p.1 o⟩]))
   ·exact hD _ _ ⟨rfl,v,H,fun h=>o (p.2 h.2)⟩
  ·exact hD _ _ ⟨rfl,d.trans f,H,fun h=>by rw[j] at h;cases h.1⟩
 rintro u2 g2 Z ⟨rfl,d,H,X⟩
 have r:=yj V d
 refine zr fun w6 f _=>?_
 have I:=yj r f
 have R:=Q.ext (d.trans f)
 have m:=N.ext (d.trans f)
 have S:=O.ext (d.trans f)
 have n:=z.ext (d.trans f)
 simp only[push_cast,R.ldAgg (t:=z7) gc,m.ldAgg (t:=z7) y,true_and]
 refine ZM S.term fun w7 g=>?_
 have J:=yj I g
 simp only[push_cast,(m.ext g).ldAgg (t:=z7) y,true_and,and_self]
 refine y3 (fun i=>?_) (fun i=>?_)
 ·simp(disch:=(simp only[push_cast];done)) only[push_cast,J.q.ld0,true_and]
  refine chosen_spec (n.ext g).term fun w8 v8 l A=>?_
  have s:=yj J l
  simp only[push_cast,true_and]
  refine yQ s (rs_kid s A) (Zb0 L ?_)
  rw[T,if_neg H,if_neg X]
  by_cases o:t.op=8
  ·rw[if_pos ⟨i,o⟩,if_pos (decide_eq_true o)]
  ·rw[if_neg (fun h=>o h.2),if_neg (by rw[decide_eq_false o];decide)]
 ·refine chosen_spec (n.ext g).term fun w8 v8 l A=>?_
  have s:=yj J l
  simp only[push_cast,true_and]
  refine yQ s (rs_kid s A) (Yn L ?_)
  rw[T,if_neg H,if_neg X,if_neg (fun h=>by rw[i] at h;cases h.1)]
end Go.Proofs.YtaekfnbnhjgboaaGreatDoor
end
section
namespace Go.Proofs.YtaekfnbnhjgboaaGreatDoor
open Go Go.Vc Go.Proofs
variable {w:World} {K:Value→World→Prop} {F F' D G:Nat→Prop}
def fsL (dv:Value) (mb:Nat):List Value:=[qJ,qe,qt,qu,qI,ql,qw].map fun n=> .func (.func n) #[kO dv mb] #[]
theorem Z90 {dv:Value} {mb:Nat} (e:∀w' v,Ext w w'→Vals (fun _=>True) w' v (fsL dv mb)→K v w'):vcall PP jR #[kO dv mb] w K:=by
 apply VY
 refine zy fun b1 j f a g c=>?_
 simp(disch:=(simp only[push_cast];done)) only[push_cast,c.ldAgg (t:=zG) qN]
 refine vbuildS_row1 (xs:=fsL dv mb) kY (by simp only[push_cast]) (z:= .nilFunc) (by unfold yT;kernel_rfl) (fun x h=>by obtain⟨y,_,rfl⟩:=List.mem_map.1 h;rfl) (by show 7≤16777216;decide) fun b w' i he hs d=>?_
 have o:OwnV PP y1 w' (.slice (some ⟨b,0,none⟩) (fsL dv mb).length (fsL dv mb).length) (fsL dv mb):=Blk.own1 (P:=PP) (t:=y1) (by rw[kP];exact d) (Nat.zero_le _) rfl rfl (by show 7≤9223372036854775807;decide)
 exact e w' _ (a.trans he) (OwnV.vals o|>.weaken fun _ _ _=>trivial)
def rl (ds:List M.Dcl) (t:M.Tm) (i:Nat):Option M.Tm:=[M.ruleX ds t,M.ruleB t,M.ruleT t,M.ruleL ds t,M.ruleW ds t,M.ruleS t,M.ruleF t].getD i none
theorem callRule {dv tv:Value} {mb:Nat} {ds:List M.Dcl} {t:M.Tm} {i:Nat} (hi:i<7) (c:DclsR F w dv ds) (hm:KindsR w mb) (a:M.declOk ds=true) (d:TermR G w tv t) (hs:M.sortM ds t≠ -1) (b:yV0 K w G (rl ds t i)):vcallv PP ((fsL dv mb).getD i undef) #[tv] w K:=by
 match i,hi with
 |0,_=>exact fixed_spec c hm a d hs b
 |1,_=>exact branches_spec c hm a d hs b
 |2,_=>exact truths_spec c hm d hs b
 |3,_=>exact layers_spec c hm a d hs b
 |4,_=>exact twins_spec c hm a d hs b
 |5,_=>exact seconds_spec c hm d b
 |6,_=>exact firsts_spec c hm d b
theorem rl_none {ds:List M.Dcl} {t:M.Tm} (h:∀j,j<7→rl ds t j=none):M.ruleA ds t=none:=by
 have a:M.ruleX ds t=none:=h 0 (by omega)
 have b:M.ruleB t=none:=h 1 (by omega)
 have c:M.ruleT t=none:=h 2 (by omega)
 have d:M.ruleL ds t=none:=h 3 (by omega)
 have e:M.ruleW ds t=none:=h 4 (by omega)
 have f:M.ruleS t=none:=h 5 (by omega)
 have g:M.ruleF t=none:=h 6 (by omega)
 unfold M.ruleA
 rw[a,b,c,d,e,f,g];rfl
theorem rl_some {ds:List M.Dcl} {t u:M.Tm} {i:Nat} (hi:i<7) (h:∀j,j<i→rl ds t j=none) (hu:rl ds t i=some u):M.ruleA ds t=some u:=by
 have g:∀j,j<i→rl ds t j=none:=h
 unfold M.ruleA
 match i,hi with
 |0,_=>rw[show M.ruleX ds t=some u from hu];rfl
 |1,_=>rw[show M.ruleX ds t=none from g 0 (by omega),show M.ruleB t=some u from hu];rfl
 |2,_=>rw[show M.ruleX ds t=none from g 0 (by omega),show M.ruleB t=none from g 1 (by omega),show M.ruleT t=some u from hu];rfl
 |3,_=>rw[show M.ruleX ds t=none from g 0 (by omega),show M.ruleB t=none from g 1 (by omega),show M.ruleT t=none from g 2 (by omega),show M.ruleL ds t=some u from hu];rfl
 |4,_=>rw[show M.ruleX ds t=none from g 0 (by omega),show M.ruleB t=none from g 1 (by omega),show M.ruleT t=none from g 2 (by omega),show M.ruleL ds t=none from g 3 (by omega),show M.ruleW ds t=some u from hu];rfl
 |5,_=>rw[show M.ruleX ds t=none from g 0 (by omega),show M.ruleB t=none from g 1 (by omega),show M.ruleT t=none from g 2 (by omega),show M.ruleL ds t=none from g 3 (by omega),show M.ruleW ds t=none from g 4 (by omega),show M.ruleS t=some u from hu];rfl
 |6,_=>rw[show M.ruleX ds t=none from g 0 (by omega),show M.ruleB t=none from g 1 (by omega),show M.ruleT t=none from g 2 (by omega),show M.ruleL ds t=none from g 3 (by omega),show M.ruleW ds t=none from g 4 (by omega),show M.ruleS t=none from g 5 (by omega),show M.ruleF t=some u from hu];rfl
theorem one_spec {dv tv:Value} {mb:Nat} {ds:List M.Dcl} {t:M.Tm} (hd:DclsR F w dv ds) (hm:KindsR w mb) (R:M.declOk ds=true) (ht:TermR G w tv t) (hs:M.sortM ds t≠ -1) (O:∀w' rv,Ext w w'→TermR (fun x=>G x∨w.heap.size≤x) w' rv (M.oneT ds t)→K rv w'):vcall PP Zd #[kO dv mb,tv] w K:=by
 apply US
 refine rs_enter (B:=fun t2 t3 t4 a3=>_) hd hm ht fun w1 b2 b3 b4 kv rs=>?_
 rw[rs.f.ldAgg (t:=zG) qN]
 refine Z90 fun w2 fv P J=>?_
 have r2:=yj rs P
 simp(disch:=(simp only[push_cast];done)) only[push_cast,J.len]
 have V:(fsL dv mb).length=7:=rfl
 rw[V]
 refine vloop_up 7 (fun i u w'=>u=[.int .i64 i]∧Ext w2 w'∧∀j,j<i→rl ds t j=none) ⟨rfl,Same.refl _ _,fun j Q=>absurd Q (by omega)⟩ ?_
 rintro i _ _ W C hi ⟨rfl,p,g⟩ hC
 have c:=yj r2 p
 have f3:=J.ext p
 simp only[push_cast]
 refine zh (fun a=>?_) (fun a=>?_)
 ·have L:i<7:=by omega
  simp(disch:=first|(simp only[push_cast];done)|(rw[V];omega)|omega) only[push_cast,f3.iaddr,f3.load,c.q.ldAgg (t:=z7) zu]
  refine callRule (G:=fun x=>G x∧x<w.heap.size) L c.d c.m R ⟨kv,rfl,c.k⟩ hs fun X rv u H hu s=>?_
  have r4:=yj c H
  simp only[push_cast]
  obtain⟨cu,rfl,o⟩:=hu.cells
  refine zz zO fun b5 w5 a0 I a1 h5=>?_
  have D:=(o.weaken (F':=fun x=>((G x∧x<w.heap.size)∨W.heap.size≤x)∧x<X.heap.size) fun b h Z=>⟨h,Z⟩).ext I
  refine stTerm h5 rfl D fun Y S a2 h6=>?_
  have n:Ext X Y:=Ext.then I S fun y N=>by subst N;omega
  have U:=yj r4 n
  have E:TmR (fun x=>(G x∧x<w.heap.size)∨W.heap.size≤x) Y cu u:=o.ext n
  cases e:rl ds t i with
  |none=>
   simp only[push_cast,Option.isSome_none]
   rw[inc64' (by omega)]
   refine hC (by omega) _ _ ⟨rfl,p.trans (H.trans n),fun j Q=>?_⟩
   by_cases ej:j<i
   ·exact g j ej
   ·have:j=i:=by omega
    subst this;exact e
  |some x=>
   simp only[push_cast,Option.isSome_some]
   rw[h6.ldAgg (t:=z7) (by rw[yp o];exact zu)]
   have A:=s x e
   subst A
   have l4:=c.r.lt
   refine jw U.r rfl E (fun x A=>by have:=c.lo;omega) fun w7 z T v=>?_
   have l:M.oneT ds t=u:=by unfold M.oneT;rw[rl_some L g e];rfl
   rw[l] at O
   refine O _ _ (Ext.then U.ext z fun y N=>by subst N;exact U.lo) (v.weaken fun x A _=>?_)
   have:=c.ext.size
   rcases A with h|h
   ·exact .inl h.1
   ·exact .inr (by omega)
 ·rw[c.q.ldAgg (t:=z7) zu]
  have l:M.oneT ds t=t:=by unfold M.oneT;rw[rl_none fun j Q=>g j (by omega)];rfl
  rw[l] at O
  refine jw c.r rfl (TmR.of (t:=t) c.k) (fun x A=>by have:=c.lo;omega) fun w7 z T v=>?_
  exact O _ _ (Ext.then c.ext z fun y N=>by subst N;exact c.lo) (v.weaken fun x A _=> .inl A.1)
theorem fold_spec:∀(t:M.Tm) {w:World} {K:Value→World→Prop} {F G:Nat→Prop} {dv tv:Value} {mb:Nat} {ds:List M.Dcl},DclsR F w dv ds→KindsR w mb→M.declOk ds=true→TermR G w tv t→M.sortM ds t≠ -1→(∀w' rv,Ext w w'→TermR (fun x=>G x∨w.heap.size≤x) w' rv (M.foldT ds t)→K rv w')→vcall PP j1 #[kO dv mb,tv] w K:=by
 refine M.Tm.ind fun t ih w K F G dv tv mb ds hd hm V ht hs hK=>?_
 have hlen:=M.len_of hs
 have b7:t.ks.length≤3:=by
  unfold M.arity at hlen
  repeat' split at hlen
  all_goals omega
 apply WE
 obtain⟨kv,rfl,ah⟩:=ht
 refine zy fun b1 w1 av a2 az h1=>?_
 refine zy fun b2 w2 aw a3 b0 h2=>?_
 refine zz zO fun b3 w3 ax R b4 h3=>?_
 have b8:=a2.size
 have q3:=h2.ext R
 have f3:=(h1.ext a3).ext R
 have a0:=a2.trans (a3.trans R)
 have af:TmsR (fun x=>G x∧x<w.heap.size) w3 kv t.ks:=(ah.weaken fun b h h'=>⟨h,h'⟩).ext a0
 simp(disch:=(simp only[push_cast];done)) only[push_cast,q3.ld4]
 refine q3.st (i:=4) rfl rfl Zp rfl fun H D b9 h4=>?_
 replace h4:Blk H b2 [.int .i64 t.op,.int .i64 t.a,.int .i64 t.b,.string t.s,.slice none 0 0] z7:=h4
 have a1:Ext w H:=Ext.then a0 D fun y X=>by subst X;omega
 have a5:=af.same D fun b d _ e=>by omega
 have f4:=f3.same D (by omega)
 have r4:=h3.same D (by omega)
 simp(disch:=(simp only[push_cast];done)) only[push_cast,a5.len]
 refine vloop_up t.ks.length (fun i u w'=>u=[.int .i64 i]∧Same (fun b=>b=b2) H w'∧∃k css,Blk w' b2 [.int .i64 t.op,.int .i64 t.a,.int .i64 t.b,.string t.s,k] z7∧Own PP 0 5 za w' k css∧css.length=i∧(∀b,k.ownBlock=some b→H.heap.size≤b)∧
   ∀j,j<i→TmR (fun x=>(G x∧x<w.heap.size)∨(H.heap.size≤x∧k.ownBlock≠some x)) w' (css.getD j []) (M.foldT ds (t.ks.getD j default)))
  ⟨rfl,Same.refl _ _,_,[],h4,Own.nil _ _ _ _ _,rfl,fun b h=>(by cases h),fun j Z=>absurd Z (by omega)⟩ ?_
 rintro i _ _ w5 C hi ⟨rfl,f,k,css,h5,A,U,g,J⟩ hC
 have ba:=f.size
 have q:Ext w w5:=Ext.then a1 f fun y X=>by subst X;omega
 have a6:=a5.same f fun b d _ e=>by omega
 have f5:=f4.same f (by omega)
 simp only[push_cast]
 refine zh (fun a=>?_) (fun a=>?_)
 ·simp(disch:=first|(simp only[push_cast];done)|omega) only[push_cast,a6.iaddr]
  refine a6.load zu (by omega) fun x hx=>?_
  obtain⟨cx,rfl,Q⟩:=hx.cells
  refine zz zO fun b6 w6 ay r b5 h6=>?_
  refine stTerm h6 rfl (Q.ext r) fun w7 W aj h7=>?_
  have ab:Ext w5 w7:=Ext.then r W fun y X=>by subst X;omega
  refine zr fun w8 a4 _=>?_
  have l:=ab.trans a4
  have q8:=h5.ext l
  have f8:=f5.ext l
  have v8:=h7.ext a4
  simp(disch:=(simp only[push_cast];done)) only[push_cast,q8.ld4,f8.ldAgg (t:=zG) qN,v8.ldAgg (t:=z7) (by rw[yp Q];exact zu),true_and]
  have N:t.ks.getD i default∈t.ks:=M.getD_mem (by omega) _
  refine ih _ N (hd.ext (q.trans l)) (hm.ext (q.trans l)) V (Q.ext l).term ((M.sort_parts hs).2.1 _ N) fun w9 rv S B=>?_
  obtain⟨cr,rfl,o⟩:=B.cells
  have q9:=q8.ext S
  simp(disch:=(simp only[push_cast];done)) only[push_cast,q9.ld4,true_and,and_self]
  have ar:=l.size
  have bb:=S.size
  refine YY X1 Q9 zO rfl (yp o) (by decide) fun au bc al m am ac=>?_
  have aa:=q9.ext m
  simp(disch:=(simp only[push_cast];done)) only[push_cast,aa.ld4,true_and,and_self]
  have I:=l.trans (S.trans m)
  have a9:=A.ext I
  refine Own.app1k a9 X8 (by decide) ac (yp o) (tmR_one o) (by omega) (by omega) fun p bd O n v=>?_
  have ak:=aa.same n (fun e=>by have:=g _ e;have:=h5.lt;omega)
  have ao:=n.size
  try simp only[push_cast,true_and]
  have a7:p.cells= #[p]∧p.oneCell'=true:=by
   obtain⟨a,c,rfl,_⟩:=O.sl.shape
   exact⟨rfl,rfl⟩
  refine ak.st (i:=4) a7.1 a7.2 Zp rfl fun E z ap P=>?_
  replace P:Blk E b2 [.int .i64 t.op,.int .i64 t.a,.int .i64 t.b,.string t.s,p] z7:=P
  rw[inc64' (by omega)]
  have an:=m.size
  have L:∀b,p.ownBlock=some b→H.heap.size≤b:=fun b d=>by
   rcases v b d with h|h
   ·exact g b h
   ·omega
  have Y:Same (fun b=>b=b2∨k.ownBlock=some b) w5 E:=(Same.of_ext I).trans ((n.mono fun _ _ h=> .inr h).trans (z.mono fun _ _ h=> .inl h))
  have ad:Same (fun b=>b=b2) H E:=⟨Y.os.trans f.os,Y.tape.trans f.tape,Y.output.trans f.output,Nat.le_trans f.size Y.size,fun b d a8=>(Y.block b (by omega) (fun e=>e.elim a8 fun e=>by have:=g b e;omega)).trans (f.block b d a8)⟩
  refine hC (by omega) _ _ ⟨rfl,ad,p,css++[cr],P,O.same z (fun b d e=>by have:=L b d;omega),by simp[U],L,fun j Z=>?_⟩
  by_cases ej:j<i
  ·rw[List.getD_eq_getElem?_getD,List.getElem?_append_left (by omega),←List.getD_eq_getElem?_getD]
   refine((J j ej).weaken (F':=fun x=>((G x∧x<w.heap.size)∨(H.heap.size≤x∧k.ownBlock≠some x))∧x<w5.heap.size) fun b h h'=>⟨h,h'⟩).same Y (fun b d _ e=>?_)|>.weaken fun b d _=>?_
   ·rcases d.1 with h|h
    ·rcases e with e|e
     ·omega
     ·have:=g b e;omega
    ·rcases e with e|e
     ·omega
     ·exact h.2 e
   ·rcases d.1 with h|h
    ·exact .inl h
    ·refine .inr ⟨h.1,fun e=>?_⟩
     rcases v b e with e|e
     ·exact h.2 e
     ·omega
  ·have:j=i:=by omega
   subst this
   rw[List.getD_eq_getElem?_getD,List.getElem?_append_right (by omega),U,Nat.sub_self]
   show TmR _ E cr _
   refine(((o.weaken (F':=fun x=>((G x∧x<w.heap.size)∨w8.heap.size≤x)∧x<w9.heap.size) fun b h h'=>⟨h,h'⟩).ext m).same n (fun b d _ e=>?_)).same z (fun b d _ e=>?_)|>.weaken fun b d _=>?_
   ·have:=g b e
    have:=(A.lt e).2
    rcases d.1 with h|h<;>omega
   ·rcases d.1 with h|h<;>omega
   ·rcases d.1 with h|h
    ·exact .inl h
    ·refine .inr ⟨by omega,fun e=>?_⟩
     rcases v b e with e|e
     ·have:=(A.lt e).2;omega
     ·omega
 ·have ae:i=t.ks.length:=by omega
  subst ae
  rw[f5.ldAgg (t:=zG) qN,h5.ldAgg (t:=z7) zu]
  have ag:TmsR (fun x=>(G x∧x<w.heap.size)∨H.heap.size≤x) w5 k (t.ks.map (M.foldT ds)):=by
   refine⟨css,A.sl.weaken fun b d _=> .inr (g b d),by rw[U,List.length_map],fun j Z=>?_⟩
   rw[List.length_map] at Z
   rw[M.getD_map _ Z _ default]
   exact(J j Z).weaken fun b d _=>d.imp id fun h=>h.1
  have T:=M.kids_good V hs
  refine one_spec (t:=M.remake t (t.ks.map (M.foldT ds))) (hd.ext q) (hm.ext q) V ⟨k,rfl,ag⟩ (by rw[T.sort];exact hs) fun w6 rv r B=>?_
  rw[←M.foldT_rem] at B
  obtain⟨cr,rfl,o⟩:=B.cells
  have r6:=(r4.same f (by omega)).ext r
  have:=r4.lt
  refine jw r6 rfl o (fun x hx=>by rcases hx with(h|h)|h<;>omega) fun w7 W aj ai=>?_
  have aq:=a1.size
  exact hK _ _ (Ext.then (q.trans r) W fun y X=>by subst X;omega) (ai.weaken fun x hx _=>by
   rcases hx with(h|h)|h
   ·exact .inl h.1
   ·exact .inr (by omega)
   ·exact .inr (by omega))
end Go.Proofs.YtaekfnbnhjgboaaGreatDoor
end
section
namespace Go.Proofs.YtaekfnbnhjgboaaGreatDoor
open Go Go.Vc Go.Proofs
variable {w:World} {K:Value→World→Prop} {F F' D G:Nat→Prop}
inductive TmO (w:World):(Nat→Prop)→List Value→M.Tm→Prop
 |mk {D:Nat→Prop} {kv:Value} {t:M.Tm} (css:List (List Value)) (Ds:Nat→Nat→Prop) (own:Own PP 0 5 za w kv css) (hl:css.length=t.ks.length)
   (hb:∀b,kv.ownBlock=some b→D b∧∀i,i<t.ks.length→¬Ds i b) (hd:∀i j b,i<j→j<t.ks.length→Ds i b→¬Ds j b) (hs:∀i b,i<t.ks.length→Ds i b→D b)
   (hk:∀i,i<t.ks.length→TmO w (Ds i) (css.getD i []) (t.ks.getD i default)):TmO w D [.int .i64 t.op,.int .i64 t.a,.int .i64 t.b,.string t.s,kv] t
theorem ki0 {cs:List Value} {t:M.Tm} (h:TmO w D cs t):∃(kv:Value) (css:List (List Value)) (Ds:Nat→Nat→Prop),cs=[.int .i64 t.op,.int .i64 t.a,.int .i64 t.b,.string t.s,kv]∧Own PP 0 5 za w kv css∧css.length=t.ks.length∧
  (∀b,kv.ownBlock=some b→D b∧∀i,i<t.ks.length→¬Ds i b)∧(∀i j b,i<j→j<t.ks.length→Ds i b→¬Ds j b)∧(∀i b,i<t.ks.length→Ds i b→D b)∧∀i,i<t.ks.length→TmO w (Ds i) (css.getD i []) (t.ks.getD i default):=by
 cases h with
 |mk css Ds own f c d hs e=>exact⟨_,css,Ds,rfl,own,f,c,d,hs,e⟩
theorem Xg0:∀(t:M.Tm) {D:Nat→Prop} {cs:List Value},TmO w D cs t→TmR D w cs t:=by
 refine M.Tm.ind fun t f D cs h=>?_
 obtain⟨kv,css,Ds,rfl,own,e,c,g,hs,d⟩:=ki0 h
 exact TmR.of ⟨css,own.sl.weaken fun b a _=>(c b a).1,e,fun i hi=>(f _ (M.getD_mem hi _) (d i hi)).weaken fun b a _=>hs i b hi a⟩
theorem Wk {S:Nat→Prop} {w w':World} (hw:Same S w w'):∀(t:M.Tm) {D:Nat→Prop} {cs:List Value},TmO w D cs t→(∀b,D b→¬S b)→TmO w' D cs t:=by
 refine M.Tm.ind fun t k D cs h d=>?_
 obtain⟨kv,css,Ds,rfl,own,j,c,f,hs,g⟩:=ki0 h
 exact .mk css Ds (own.same hw fun b e=>d b (c b e).1) j c f hs fun i hi=>k _ (M.getD_mem hi _) (g i hi) fun b a=>d b (hs i b hi a)
theorem Qo0 {w':World} {cs:List Value} {t:M.Tm} (h:TmO w D cs t) (hw:Ext w w'):TmO w' D cs t:=Wk hw t h fun _ _ h=>h
theorem XJ {cs:List Value} {t:M.Tm} (h:TmO w D cs t) (a:∀b,D b→F b):TmO w F cs t:=by
 obtain⟨kv,css,Ds,rfl,own,f,c,d,hs,e⟩:=ki0 h
 exact .mk css Ds own f (fun b h=>⟨a b (c b h).1,(c b h).2⟩) d (fun i b hi h=>a b (hs i b hi h)) e
structure Grow (lo:Nat) (w:World) (kv:Value) (css:List (List Value)) (us:List M.Tm) (Ds:Nat→Nat→Prop):Prop where
 own:Own PP 0 5 za w kv css
 len:css.length=us.length
 blk:∀b,kv.ownBlock=some b→lo≤b∧∀j,j<us.length→¬Ds j b
 dis:∀j k b,j<k→k<us.length→Ds j b→¬Ds k b
 sub:∀j b,j<us.length→Ds j b→lo≤b∧b<w.heap.size
 kid:∀j,j<us.length→TmO w (Ds j) (css.getD j []) (us.getD j default)
theorem XB0 (lo:Nat) (w:World):Grow lo w (.slice none 0 0) [] [] fun _ _=>False:=
 ⟨Own.nil _ _ _ _ _,rfl,fun b h=>(by cases h),fun j k b _ c=>absurd c (by simp),fun j b a=>absurd a (by simp),fun j a=>absurd a (by simp)⟩
theorem jw0 {S:Nat→Prop} {lo:Nat} {kv:Value} {w':World} {css:List (List Value)} {us:List M.Tm} {Ds:Nat→Nat→Prop} (h:Grow lo w kv css us Ds) (hw:Same S w w') (hs:∀b,lo≤b→¬S b):Grow lo w' kv css us Ds:=
 ⟨h.own.same hw fun b a=>hs b (h.blk b a).1,h.len,h.blk,h.dis,fun j b c a=>⟨(h.sub j b c a).1,Nat.lt_of_lt_of_le (h.sub j b c a).2 hw.size⟩,fun j c=>Wk hw _ (h.kid j c) fun b a=>hs b (h.sub j b c a).1⟩
theorem grow_push {lo s:Nat} {kv:Value} {F y z o:World} {css:List (List Value)} {us:List M.Tm} {Ds:Nat→Nat→Prop} {cr:List Value} {u:M.Tm} (h:Grow lo F kv css us Ds) (G:Ext F y) (H:Ext y z) (R:lo≤y.heap.size)
  (J:TmO z (fun b=>y.heap.size≤b∧b<z.heap.size) cr u) (q:Ext z o) (B:Blk o s cr z7) (S:us.length≤1048576)
  (P:∀d g A,Grow lo g d (css++[cr]) (us++[u]) A→Same (fun b=>kv.ownBlock=some b) o g→d.cells= #[d]→d.oneCell'=true→K d g):
  vbi PP .append [za,za] za [kv,.slice (some ⟨s,0,none⟩) 1 1] o K:=by
 have v:=Xg0 _ J
 have t:=G.trans (H.trans q)
 have g10:=jw0 h t fun b _ h=>h
 have T:=G.size
 have U:=H.size
 have L:=q.size
 have I:=h.len
 refine Own.app1k g10.own X8 (by decide) B (yp v) (tmR_one v) (by omega) (by omega) fun d g p f x=>?_
 have N:=f.size
 have w:d.cells= #[d]∧d.oneCell'=true:=by
  obtain⟨a,c,rfl,_⟩:=p.sl.shape
  exact⟨rfl,rfl⟩
 have hold:∀b,kv.ownBlock=some b→b<F.heap.size:=fun b i=>(h.own.lt i).2
 refine P d g (fun j b=>(j=us.length∧y.heap.size≤b∧b<z.heap.size)∨(j<us.length∧Ds j b)) ⟨p,by simp[I],fun b i=>?_,fun j k b D Q r E=>?_,fun j b r i=>?_,fun j r=>?_⟩ f w.1 w.2
 ·rcases x b i with e|e
  ·refine⟨(h.blk b e).1,fun j r C=>?_⟩
   rcases C with⟨_,m,_⟩|⟨m,n⟩
   ·have:=hold b e;omega
   ·exact(h.blk b e).2 j m n
  ·refine⟨by omega,fun j r C=>?_⟩
   rcases C with⟨_,_,m⟩|⟨m,n⟩
   ·omega
   ·have:=(h.sub j b m n).2;omega
 ·rw[List.length_append,List.length_singleton] at Q
  rcases r with⟨m,n,O⟩|⟨m,n⟩
  ·omega
  ·rcases E with⟨g1,g2,g3⟩|⟨g1,g2⟩
   ·have:=(h.sub j b m n).2;omega
   ·exact h.dis j k b D g1 n g2
 ·rcases i with⟨m,n,O⟩|⟨m,n⟩
  ·exact⟨by omega,by omega⟩
  ·have:=h.sub j b m n;exact⟨this.1,by omega⟩
 ·rw[List.length_append,List.length_singleton] at r
  by_cases e:j<us.length
  ·rw[List.getD_eq_getElem?_getD,List.getElem?_append_left (by omega),←List.getD_eq_getElem?_getD,List.getD_eq_getElem?_getD (l:=us++[u]),List.getElem?_append_left e,←List.getD_eq_getElem?_getD]
   refine XJ (Wk f _ (g10.kid j e) fun b i hs=>(h.blk b hs).2 j e i) fun b i=> .inr ⟨e,i⟩
  ·have:j=us.length:=by omega
   subst this
   rw[List.getD_eq_getElem?_getD,List.getElem?_append_right (by omega),I,Nat.sub_self,List.getD_eq_getElem?_getD (l:=us++[u]),List.getElem?_append_right (Nat.le_refl _),Nat.sub_self]
   show TmO g _ cr u
   refine XJ (Wk f _ (Qo0 J q) fun b i hs=>by have:=hold b hs;omega) fun b i=> .inl ⟨rfl,i⟩
theorem Yr0 {lo:Nat} {kv:Value} {css:List (List Value)} {t:M.Tm} {Ds:Nat→Nat→Prop} (h:Grow lo w kv css t.ks Ds):TmO w (fun b=>lo≤b∧b<w.heap.size) [.int .i64 t.op,.int .i64 t.a,.int .i64 t.b,.string t.s,kv] t:=
 .mk css Ds h.own h.len (fun b c=>⟨⟨(h.blk b c).1,(h.own.lt c).2⟩,(h.blk b c).2⟩) h.dis (fun i b hi c=>h.sub i b hi c) h.kid
theorem retO {b:Nat} {cs cs':List Value} {t:TypeId} {t':M.Tm} {K:Value→World→Prop} (h:Blk w b cs t) (i:cs.length=5) (d:TmO w G cs' t') (c:∀x,G x→x≠b) (g:∀w',Same (· =b) w w'→w'.heap.size=w.heap.size→TmO w' G cs' t'→K (.agg ⟨cs'⟩) w'):
  zl PP z7 (.pointer (some ⟨b,0,none⟩)) (.agg ⟨cs'⟩) w fun _ k=>vlv PP z7 (.pointer (some ⟨b,0,none⟩)) k fun r l=>K r l:=
 jw h i (Xg0 _ d) c fun w' hw j _=>g w' hw j (Wk hw _ d fun f a e=>c f a e)
theorem ZZ0 {us:List M.Tm} {i:Nat} (h:i<us.length):us.take i++[us.getD i default]=us.take (i+1):=(M.take_add h default).symm
theorem copyTerm_spec:∀(t:M.Tm) {w:World} {K:Value→World→Prop} {F:Nat→Prop} {v:Value},TermR F w v t→QX0 t=true→(∀w' cs,Ext w w'→TmO w' (fun b=>w.heap.size≤b∧b<w'.heap.size) cs t→K (.agg ⟨cs⟩) w')→vcall PP kC #[v] w K:=by
 refine M.Tm.ind fun t ih w K F v ht J hK=>?_
 obtain⟨f1,f2⟩:=fitB_iff.1 J
 apply yJ0
 obtain⟨kv,rfl,a1⟩:=ht
 refine zy fun b1 w1 ae E ah h1=>?_
 refine zz zO fun b2 w2 af G ai h2=>?_
 have ak:=E.size
 have q2:=h1.ext G
 have z:=E.trans G
 have a0:TmsR (fun x=>x<w.heap.size) w2 kv t.ks:=(a1.weaken fun b _ h'=>h').ext z
 simp(disch:=(simp only[push_cast];done)) only[push_cast,q2.ld4]
 refine q2.st (i:=4) rfl rfl Zp rfl fun R p al V=>?_
 replace V:Blk R b1 [.int .i64 t.op,.int .i64 t.a,.int .i64 t.b,.string t.s,.slice none 0 0] z7:=V
 have A:Ext w R:=Ext.then z p fun y q=>by subst q;omega
 have L:=a0.same p fun b D _ e=>by omega
 have r4:=h2.same p (by omega)
 simp(disch:=(simp only[push_cast];done)) only[push_cast,L.len]
 refine vloop_up t.ks.length (fun i u w'=>u=[.int .i64 i]∧Same (fun b=>b=b1) R w'∧∃g css Ds,Blk w' b1 [.int .i64 t.op,.int .i64 t.a,.int .i64 t.b,.string t.s,g] z7∧Grow R.heap.size w' g css (t.ks.take i) Ds)
  ⟨rfl,Same.refl _ _,_,[],_,V,XB0 _ _⟩ ?_
 rintro i _ _ w5 C hi ⟨rfl,c,g,css,Ds,h5,g5⟩ hC
 have am:=c.size
 have ab:=A.size
 have W:Ext w w5:=Ext.then A c fun y q=>by subst q;omega
 have N:=L.same c fun b D _ e=>by omega
 simp only[push_cast]
 refine zh (fun a=>?_) (fun a=>?_)
 ·simp(disch:=first|(simp only[push_cast];done)|omega) only[push_cast,N.iaddr]
  refine N.load zu (by omega) fun x hx=>?_
  obtain⟨cx,rfl,n⟩:=hx.cells
  refine zz zO fun b6 w6 ag H aj h6=>?_
  refine stTerm h6 rfl (n.ext H) fun w7 a4 ao h7=>?_
  have T:Ext w5 w7:=Ext.then H a4 fun y q=>by subst q;omega
  refine zr fun w8 I _=>?_
  have d:=T.trans I
  have q8:=h5.ext d
  have v8:=h7.ext I
  simp(disch:=(simp only[push_cast];done)) only[push_cast,q8.ld4,v8.ldAgg (t:=z7) (by rw[yp n];exact zu),true_and]
  have j:t.ks.getD i default∈t.ks:=M.getD_mem (by omega) _
  have ac:=d.size
  refine ih _ j (n.ext d).term (f2 _ j) fun w9 cr o hr=>?_
  have q9:=q8.ext o
  simp(disch:=(simp only[push_cast];done)) only[push_cast,q9.ld4,true_and,and_self]
  have Y:=Xg0 _ hr
  refine YY X1 Q9 zO rfl (yp Y) (by decide) fun ad ap a8 f a9 U=>?_
  have Q:=q9.ext f
  simp(disch:=(simp only[push_cast];done)) only[push_cast,Q.ld4,true_and,and_self]
  refine grow_push g5 d o (by omega) hr f U (by rw[List.length_take];omega) fun P aq S g11 k a5 a6=>?_
  have a7:=Q.same k (fun e=>by have:=(g5.blk _ e).1;omega)
  try simp only[push_cast,true_and]
  refine a7.st (i:=4) a5 a6 Zp rfl fun r l aa m=>?_
  replace m:Blk r b1 [.int .i64 t.op,.int .i64 t.a,.int .i64 t.b,.string t.s,P] z7:=m
  rw[inc64' (by omega)]
  have B:Same (fun b=>b=b1∨g.ownBlock=some b) w5 r:=(Same.of_ext (d.trans (o.trans f))).trans ((k.mono fun _ _ h=> .inr h).trans (l.mono fun _ _ h=> .inl h))
  have X:Same (fun b=>b=b1) R r:=⟨B.os.trans c.os,B.tape.trans c.tape,B.output.trans c.output,Nat.le_trans c.size B.size,fun b D O=>(B.block b (by omega) (fun e=>e.elim O fun e=>by have:=(g5.blk b e).1;omega)).trans (c.block b D O)⟩
  rw[ZZ0 (by omega)] at g11
  exact hC (by omega) _ _ ⟨rfl,X,P,_,S,m,jw0 g11 l fun b D e=>by omega⟩
 ·have Z:i=t.ks.length:=by omega
  subst Z
  rw[List.take_length] at g5
  rw[h5.ldAgg (t:=z7) zu]
  refine retO (r4.same c (by omega)) rfl (Yr0 g5) (fun x hx=>by omega) fun w6 a3 an a2=>?_
  exact hK _ _ (Ext.then W a3 fun y q=>by subst q;omega) (XJ a2 fun b D=>⟨by omega,by omega⟩)
theorem fit_size:∀t:M.Tm,M.sizeM t≤1000→QX0 t=true:=by
 refine M.Tm.ind fun t c h=>?_
 have b:∀i,i<t.ks.length→M.sizeM (M.kid t i)+1≤M.sizeM t:=fun i hi=>(M.kid_size hi).1
 have d:t.ks.length≤M.sizeM t:=by
  have:=M.szT_all t
  have mono:∀i,i≤t.ks.length→i≤M.szT t.ks i:=fun i=>by
   induction i with
   |zero=>intro _;exact Nat.zero_le _
   |succ i ihi=>
    intro hi
    have:=ihi (by omega)
    have:=M.szT_succ (ks:=t.ks) (i:=i) (by omega)
    have:=(M.size_pos (t:=t.ks.getD i default)).1
    omega
  have:=mono t.ks.length (Nat.le_refl _)
  omega
 refine fitB_iff.2 ⟨by omega,fun k a=>?_⟩
 obtain⟨i,hi,rfl⟩:=List.getElem_of_mem a
 have:=b i hi
 unfold M.kid at this
 rw[List.getD_eq_getElem?_getD,List.getElem?_eq_getElem hi] at this
 exact c _ a (by simp only[Option.getD_some] at this;omega)
def XF0 (ds:List M.Dcl) (t:M.Tm):M.Tm:=if M.tsort ds t= -1 then .mk 0 0 0 M.nada [] else M.foldT ds t
theorem zeroO:TmO w D zL0 (.mk 0 0 0 M.nada []):=
 TmO.mk (t:= .mk 0 0 0 M.nada []) [] (fun _ _=>False) (Own.nil _ _ _ _ _) rfl (fun b h=>(by cases h)) (fun i j b _ a=>absurd a (by show¬j<0;omega)) (fun i b hi=>absurd hi (by show¬i<0;omega)) (fun i hi=>absurd hi (by show¬i<0;omega))
theorem small_of {ds:List M.Dcl} {t:M.Tm} (h:M.tsort ds t≠ -1):M.declOk ds=true∧M.sortM ds t≠ -1∧M.sizeM t≤20:=by
 rcases dtSize (ds:=ds) (t:=t) with e|⟨c,d,f,a,b⟩
 ·exact absurd e h
 ·exact⟨b,by omega,(M.fits_iff.1 a).1⟩
theorem YG0 {a:Option Addr} {l c mb:Nat}:zC PP zG [(0,.slice a l c),(1,.map (some mb))] w K=K (kO (.slice a l c) mb) w:=ye jd0 (us:=[[.slice a l c],[.map (some mb)]]) rfl rfl
theorem TermFold_spec {dv tv:Value} {ds:List M.Dcl} {t:M.Tm} (s:DclsR F w dv ds) (C:TermR G w tv t) (m:∀w' cs,Ext w w'→TmO w' (fun b=>w.heap.size≤b∧b<w'.heap.size) cs (XF0 ds t)→K (.agg ⟨cs⟩) w'):vcall PP Yt #[dv,tv] w K:=by
 apply yQ0
 obtain⟨ct,rfl,r⟩:=C.cells
 have u:aggB PP z7 ct.length=true:=by rw[yp r];exact zu
 refine zy fun b1 w1 V n X T=>?_
 refine zz zO fun b2 w2 W o Y U=>?_
 have Q:=T.ext o
 have g:=n.trans o
 have a0:=n.size
 rw[Q.ldAgg (t:=z7) u]
 refine TermSort_spec (s.ext g) (C.ext g) fun w3 d=>?_
 have k:=g.trans d
 have S:=U.ext d
 have a1:=d.size
 simp only[push_cast]
 unfold XF0 at m
 refine zh (fun a=>?_) (fun a=>?_)
 ·rw[if_pos a] at m
  try simp only[push_cast]
  refine retO (G:=fun _=>False) S rfl zeroO (fun x N=>N.elim) fun w4 D I v=>?_
  exact m _ _ (Ext.then k D fun y H=>by subst H;omega) (XJ v fun b J=>J.elim)
 ·rw[if_neg a] at m
  obtain⟨q,hs,Z⟩:=small_of a
  refine zr fun w4 e _=>?_
  have R:=Q.ext (d.trans e)
  simp only[push_cast,R.ldAgg (t:=z7) u,true_and]
  refine xW0 fun w5 mb f hm=>?_
  have q5:=R.ext f
  have c:=k.trans (e.trans f)
  obtain⟨da,dc,rfl,_⟩:=s.shape
  rw[List.length_map] at*
  simp only[push_cast,q5.ldAgg (t:=z7) u,true_and,and_self,YG0]
  refine fold_spec t (G:=fun x=>x<w.heap.size) (s.ext c) hm q ((C.weaken fun b _ h=>h).ext c) hs fun w6 rv i B=>?_
  have l:=c.trans i
  have j:=M.fold_good q t hs
  have L:=j.size
  refine copyTerm_spec _ B (fit_size _ (by omega)) fun w7 cs p z=>?_
  have a2:=c.size
  have a3:=l.size
  have r7:=S.ext (e.trans (f.trans (i.trans p)))
  have I:=e.size
  have O:=f.size
  have P:=i.size
  refine retO r7 rfl z (fun x N=>by omega) fun w8 E a4 A=>?_
  exact m _ _ (Ext.then (l.trans p) E fun y H=>by subst H;omega) (XJ A fun b J=>⟨by omega,by omega⟩)
end Go.Proofs.YtaekfnbnhjgboaaGreatDoor
end
section
namespace Go.M
open Go.Vc
section
variable {ds:List Dcl} {t:Tm}
def Q50 (t v:Tm):Prop:=v.ks.length≠2∨kid v 0≠kid t 1∨kid v 1≠kid t 0∨v.op≠t.op
instance (t v:Tm):Decidable (Q50 t v):=by unfold Q50;infer_instance
end
end Go.M
end
section
namespace Go.Proofs.YtaekfnbnhjgboaaGreatDoor
open Go Go.Vc Go.Proofs
variable {w:World} {K:Value→World→Prop} {F F' D G:Nat→Prop}
section
variable {w0 w':World} {b3 b4:Nat} {kv:Value} {t:M.Tm}
end
theorem l3False_spec (i:∀w' v,Ext w w'→TermR (fun b=>w.heap.size≤b) w' v M.flsT→K v w'):vcall PP Xv #[] w K:=by
 apply xl0
 refine zz zO fun b1 B k d m g=>?_
 simp only[push_cast]
 refine js0 (J7 (o:=24) (F:=fun _=>False)) fun A a c n u=>?_
 simp only[push_cast]
 have l:TmR (fun b=>b≠b1∧w.heap.size≤b) A _ M.flsT:=(TmR.of (t:=M.flsT) u).weaken fun z r _=>by
  rcases r with h|h
  ·exact h.elim
  ·exact⟨by omega,by omega⟩
 refine jw (g.ext c) rfl l (fun x p=>p.1) fun C f s e=>?_
 exact i _ _ (Ext.then (d.trans c) f fun y q=>by subst q;omega) (e.weaken fun b j _=>j.2)
@[push_cast] theorem bd_T2 (o a:Int):zC PP z7 [(0,.int .i64 o),(1,.int .i64 a)] w K=K (.agg ⟨[.int .i64 o,.int .i64 a,.int .i64 0,.string ⟨#[]⟩,.slice none 0 0]⟩) w:=ye jp (us:=[[.int .i64 o],[.int .i64 a]]) rfl rfl
theorem l3Zero_spec {s:Int} (f:∀w' v,Ext w w'→TermR (fun b=>w.heap.size≤b) w' v (.mk 20 s 0 M.nada [])→K v w'):vcall PP kp #[.int .i64 s] w K:=by
 apply qK0
 refine zz zO fun b1 m h a i e=>?_
 simp only[push_cast]
 refine jw e rfl (jp0 20 s 0 _:TmR (fun _=>False) m _ _) (fun x j=>j.elim) fun n d l c=>?_
 exact f _ _ (Ext.then a d fun y k=>by subst k;omega) (c.weaken fun b g _=>g.elim)
end Go.Proofs.YtaekfnbnhjgboaaGreatDoor
end
section
namespace Go.Proofs.YtaekfnbnhjgboaaGreatDoor
open Go Go.Vc Go.Proofs
variable {w:World} {K:Value→World→Prop} {F F' D G:Nat→Prop}
@[push_cast] theorem bd_T14 (o x:Int) (a:Option Addr) (l c:Nat):zC PP z7 [(0,.int .i64 o),(1,.int .i64 x),(4,.slice a l c)] w K=K (.agg ⟨[.int .i64 o,.int .i64 x,.int .i64 0,.string ⟨#[]⟩,.slice a l c]⟩) w:=ye jp (us:=[[.int .i64 o],[.int .i64 x],[.slice a l c]]) rfl rfl
structure DS (F G:Nat→Prop) (w0:World) (b b1 b2:Nat) (v:Value) (xs:List Nat) (cs:List Value) (t:M.Tm) (w:World) (p:Nat):Prop where
 same:Same (· =b) w0 w
 rd:RdR F w b v xs p
 var:Blk w b1 cs z7
 res:Blk w b2 zL0 z7
 trm:TmR G w cs t
section
variable {w0 w':World} {b b1 b2 p:Nat} {v:Value} {xs:List Nat} {cs:List Value} {t:M.Tm}
theorem qy (h:DS F G w0 b b1 b2 v xs cs t w p) (he:Ext w w'):DS F G w0 b b1 b2 v xs cs t w' p:=⟨h.same.trans (Same.of_ext he),h.rd.ext he,h.var.ext he,h.res.ext he,h.trm.ext he⟩
theorem Ye (h:DS F G w0 b b1 b2 v xs cs t w p):ze PP z7 (ptr b1) w K=K (.agg ⟨cs⟩) w:=h.var.ldAgg (by rw[yp h.trm];exact zu)
abbrev Qd (G:Nat→Prop) (n b2:Nat) (x:Nat):Prop:=G x∨(n≤x∧x≠b2)
theorem Z1 (h:DS F G w0 b b1 b2 v xs cs t w p):TermR (Qd G w0.heap.size b2) w (.agg ⟨cs⟩) t:=h.trm.term.weaken fun x a _=> .inl a
theorem ds_new (h:DS F G w0 b b1 b2 v xs cs t w p) {rv:Value} {u:M.Tm} (hu:TermR (fun x=>w.heap.size≤x) w' rv u):TermR (Qd G w0.heap.size b2) w' rv u:=hu.weaken fun x a _=> .inr ⟨by have:=h.same.size;omega,by have:=h.res.lt;omega⟩
theorem ds_k1 (h:DS F G w0 b b1 b2 v xs cs t w p) {v0:Value} {t0:M.Tm} (c:TermR (Qd G w0.heap.size b2) w v0 t0) (d:∀w' a,Ext w w'→TmsR (Qd G w0.heap.size b2) w' (.slice a 1 1) [t0]→K (.slice a 1 1) w'):vbuildS PP za 1 [(0,v0)] w K:=
 js0 c fun w' a he _ f=>d w' a he (f.weaken fun x g _=>g.elim id fun e=> .inr ⟨by have:=h.same.size;omega,by have:=h.res.lt;omega⟩)
theorem ds_k2 (h:DS F G w0 b b1 b2 v xs cs t w p) {v0 v1:Value} {t0 t1:M.Tm} (c:TermR (Qd G w0.heap.size b2) w v0 t0) (d:TermR (Qd G w0.heap.size b2) w v1 t1) (f:∀w' a,Ext w w'→TmsR (Qd G w0.heap.size b2) w' (.slice a 2 2) [t0,t1]→K (.slice a 2 2) w'):vbuildS PP za 2 [(0,v0),(1,v1)] w K:=
 kids2 c d fun w' a he _ g=>f w' a he (g.weaken fun x i _=>i.elim id fun e=> .inr ⟨by have:=h.same.size;omega,by have:=h.res.lt;omega⟩)
theorem ds_k3 (h:DS F G w0 b b1 b2 v xs cs t w p) {v0 v1 v2:Value} {t0 t1 t2:M.Tm} (c:TermR (Qd G w0.heap.size b2) w v0 t0) (d:TermR (Qd G w0.heap.size b2) w v1 t1) (f:TermR (Qd G w0.heap.size b2) w v2 t2) (g:∀w' a,Ext w w'→TmsR (Qd G w0.heap.size b2) w' (.slice a 3 3) [t0,t1,t2]→K (.slice a 3 3) w'):vbuildS PP za 3 [(0,v0),(1,v1),(2,v2)] w K:=
 kids3 c d f fun w' a he _ i=>g w' a he (i.weaken fun x j _=>j.elim id fun e=> .inr ⟨by have:=h.same.size;omega,by have:=h.res.lt;omega⟩)
theorem ds_pick {n:Int} (h:DS F G w0 b b1 b2 v xs cs t w p) (i:n≤1099511627776) (j:p<1099511627776) (f:b≠b1) (g:b≠b2) (c:∀x,G x→x≠b)
  (d:∀w' (k:Nat),DS F G w0 b b1 b2 v xs cs t w' (p+1)→Same (· =b) w w'→w'.heap.size=w.heap.size→(1≤n→(k:Int)<n)→K (.int .i64 k) w'):vcall PP zB #[.pointer (some ⟨b,0,none⟩),.int .i64 n] w K:=
 pick_spec h.rd i j fun w' k hs o l a _=>d w' k ⟨h.same.trans hs,l,h.var.same hs (by omega),h.res.same hs (by omega),h.trm.same hs fun x m _ e=>c x m e⟩ hs o a
abbrev Jz0 (K:Value→World→Prop) (F G:Nat→Prop) (w:World) (b p:Nat) (v:Value) (xs:List Nat):Prop:=∀w' p' tv t,Same (· =b) w w'→RdR F w' b v xs p'→p'≤p+10→TermR (fun x=>G x∨w.heap.size≤x) w' tv t→t.ks.length≤3→K tv w'
theorem ds_give {p0:Nat} {rv:Value} {u:M.Tm} (h:DS F G w0 b b1 b2 v xs cs t w p) (hF:∀x,F x→x<w0.heap.size) (i:∀x,G x→x<w0.heap.size) (s:b<w0.heap.size) (f:w0.heap.size≤b2) (m:p≤p0+10) (hu:TermR (Qd G w0.heap.size b2) w rv u) (l:u.ks.length≤3) (j:Jz0 K F G w0 b p0 v xs):
  zl PP z7 (ptr b2) rv w fun _ o=>vlv PP z7 (ptr b2) o fun r q=>K r q:=by
 obtain⟨c,rfl,k⟩:=hu.cells
 refine jw h.res rfl k (fun x a=>by
  rcases a with a|a;·have:=i x a;omega
  ·exact a.2) fun y d n g=>?_
 exact j _ p _ _ (same_new h.same d f) (h.rd.new d (by omega) fun x a e=>by have:=hF x a;omega) m (g.weaken fun x a _=>a.imp id fun h=>h.1) l
end
theorem l3Dull_spec {b p:Nat} {v dv tv:Value} {xs:List Nat} {ds:List M.Dcl} {t:M.Tm} (h:RdR F w b v xs p) (hF:∀x,F x→x<w.heap.size) (hd:DclsR D w dv ds) (P:M.declOk ds=true) (ht:TermR G w tv t) (hG:∀x,G x→x≠b) (W:∀x,G x→x<w.heap.size) (hp:p+10<1099511627776)
  (hK:Jz0 K F G w b p v xs):vcall PP Qo #[.pointer (some ⟨b,0,none⟩),dv,tv] w K:=by
 apply qL0
 have lb:=h.blk.lt
 obtain⟨cs,rfl,Y⟩:=ht.cells
 refine zy fun b1 w1 ah Z ak h1=>?_
 refine zz zO fun b2 w2 ai O al h2=>?_
 have H:=Z.trans O
 have d2:DS F G w b b1 b2 v xs cs t w2 p:=⟨Same.of_ext H,h.ext H,h1.ext O,h2,Y.ext H⟩
 rw[Ye d2]
 refine l2Sort_spec t (hd.ext H) P d2.trm.term fun w3 a0=>?_
 have d3:=qy d2 a0
 have a2:=M.sort_range P t
 generalize M.sortM ds t=s at a2
 have pk:∀{w':World} {q:Nat} {n:Int} {K':Value→World→Prop},DS F G w b b1 b2 v xs cs t w' q→n≤1099511627776→q≤p+5→(∀w'' (k:Nat),DS F G w b b1 b2 v xs cs t w'' (q+1)→Same (· =b) w' w''→w''.heap.size=w'.heap.size→(1≤n→(k:Int)<n)→K' (.int .i64 k) w'')→vcall PP zB #[.pointer (some ⟨b,0,none⟩),.int .i64 n] w' K':=
  fun d S hq X=>ds_pick d S (by omega) (by omega) (by omega) hG X
 have gv:∀{w':World} {q:Nat} {rv:Value} {u:M.Tm},DS F G w b b1 b2 v xs cs t w' q→q≤p+10→TermR (Qd G w.heap.size b2) w' rv u→u.ks.length≤3→zl PP z7 (ptr b2) rv w' fun _ w1=>vlv PP z7 (ptr b2) w1 fun r w2=>K r w2:=
  fun d hq hu hl=>ds_give d hF W lb (by omega) hq hu hl hK
 refine pk d3 (by decide) (by omega) fun U k d4 am an hk=>?_
 have aj:=hk (by decide)
 simp only[push_cast]
 refine zh (fun c0=>?_) (fun c0=>?_)
 ·refine zI (fun u w'=>u=[]∧w'=U) (fun C hC=>?_) ?_
  ·refine zI (fun u w'=> ∃e:Bool,u=[.bool e]∧w'=U) (fun E hE=>?_) ?_
   ·try simp only[push_cast]
    refine zh (fun _=>hE _ _ ⟨_,rfl,rfl⟩) (fun _=>hE _ _ ⟨_,rfl,rfl⟩)
   rintro u g ag ⟨e,rfl,rfl⟩
   simp only[push_cast]
   refine y3 (fun _=>?_) (fun _=>?_)
   ·rw[Ye d4]
    refine ds_k1 d4 (Z1 d4) fun c a5 a m=>?_
    simp only[push_cast]
    refine ds_k1 (qy d4 a) (xZ (o:=25) m) fun I a6 f R=>?_
    simp only[push_cast]
    exact gv (qy (qy d4 a) f) (by omega) (xZ (o:=25) R) (by show 1≤3;decide)
   ·try simp only[push_cast]
    refine zh (fun _=>?_) (fun _=>?_)
    ·rw[Ye d4]
     try simp only[push_cast]
     refine ds_k2 d4 (Z1 d4) (J7 (o:=24)) fun c a5 a m=>?_
     simp only[push_cast]
     exact gv (qy d4 a) (by omega) (xZ (o:=26) m) (by show 2≤3;decide)
    try simp only[push_cast]
    refine zh (fun _=>?_) (fun _=>?_)
    ·refine zr fun c a _=>?_
     have d5:=qy d4 a
     rw[Ye d5]
     refine⟨rfl,?_⟩
     refine l3False_spec fun I v6 f a3=>?_
     have d6:=qy d5 f
     rw[Ye d6]
     refine⟨⟨rfl,rfl⟩,?_⟩
     refine ds_k2 d6 (ds_new d5 a3) (Z1 d6) fun N a7 i k7=>?_
     simp only[push_cast,true_and]
     exact gv (qy d6 i) (by omega) (xZ (o:=27) k7) (by show 2≤3;decide)
    try simp only[push_cast]
    refine zh (fun _=>?_) (fun _=>hC _ _ ⟨rfl,rfl⟩)
    rw[Ye d4,Ye d4]
    refine ds_k2 d4 (Z1 d4) (Z1 d4) fun c a5 a m=>?_
    simp only[push_cast]
    exact gv (qy d4 a) (by omega) (xZ (o:=27) m) (by show 2≤3;decide)
  rintro u g ag ⟨rfl,rfl⟩
  rw[Ye d4,Ye d4,Ye d4]
  refine ds_k3 d4 (Z1 d4) (Z1 d4) (Z1 d4) fun c a5 a m=>?_
  simp only[push_cast]
  exact gv (qy d4 a) (by omega) (xZ (o:=23) m) (by show 3≤3;decide)
 try simp only[push_cast]
 refine zh (fun _=>?_) (fun _=>?_)
 ·rw[Ye d4]
  refine ds_k1 d4 (Z1 d4) fun c a5 a m=>?_
  simp only[push_cast]
  refine ds_k1 (qy d4 a) (xZ (o:=2) m) fun I a6 f R=>?_
  simp only[push_cast]
  exact gv (qy (qy d4 a) f) (by omega) (xZ (o:=2) R) (by show 1≤3;decide)
 try simp only[push_cast]
 refine zh (fun _=>?_) (fun _=>?_)
 ·refine zr fun c a _=>?_
  have d5:=qy d4 a
  rw[Ye d5]
  refine⟨rfl,?_⟩
  refine pk d5 (by decide) (by omega) fun I j d6 Q J hj=>?_
  rw[Ye d6]
  refine⟨⟨rfl,rfl⟩,?_⟩
  simp only[push_cast,true_and]
  refine l3Zero_spec fun N v7 i y=>?_
  have d7:=qy d6 i
  rw[Ye d7]
  simp only[push_cast,true_and,and_self]
  refine ds_k2 d7 (Z1 d7) (ds_new d6 y) fun B V l L=>?_
  simp only[push_cast,true_and,and_self]
  exact gv (qy d7 l) (by omega) (xZ L) (by show 2≤3;decide)
 try simp only[push_cast]
 refine zh (fun _=>?_) (fun _=>?_)
 ·refine zr fun c a _=>?_
  have d5:=qy d4 a
  rw[Ye d5]
  refine⟨rfl,?_⟩
  refine pk d5 (by decide) (by omega) fun I j d6 Q J hj=>?_
  rw[Ye d6]
  refine⟨⟨rfl,rfl⟩,?_⟩
  simp only[push_cast,true_and]
  refine l3Zero_spec fun N v7 i y=>?_
  have d7:=qy d6 i
  rw[Ye d7]
  simp only[push_cast,true_and,and_self]
  refine ds_k2 d7 (ds_new d6 y) (Z1 d7) fun B V l L=>?_
  simp only[push_cast,true_and,and_self]
  exact gv (qy d7 l) (by omega) (xZ L) (by show 2≤3;decide)
 have two:∀{n:Int} {base:Int},n≤1099511627776→y0 U fun c=>ze PP z7 (ptr b1) c fun t81 I=>I=c∧ze PP z7 (ptr b1) c fun t82 N=>N=c∧
   (vcall PP zB #[ptr b,.int .i64 n] c fun t79 B=>(ze PP z7 (ptr b1) B fun v x=>v=t82∧x=B)∧(ze PP z7 (ptr b1) B fun v x=>v=t81∧x=B)∧
    zq PP .add zd true (.int .i64 base) t79 B fun t80 w9=>w9=B∧
    (vbuildS PP za 2 [(0,t81),(1,t82)] B fun t83 z=>(zq PP .add zd true (.int .i64 base) t79 z fun v x=>v=t80∧x=z)∧
     zC PP z7 [(0,t80),(4,t83)] z fun t84 a4=>a4=z∧
     (zl PP z7 (ptr b2) t84 z fun _ a9=>vlv PP z7 (ptr b2) a9 fun r aa=>K r aa)∧True)∧True)∧
   (vbuildS PP za 2 [(0,t81),(1,t82)] c fun t83 ab=>
    (vcall PP zB #[ptr b,.int .i64 n] ab fun t79 A=>
     zq PP .add zd true (.int .i64 base) t79 A fun t80 ac=>ac=A∧
     zC PP z7 [(0,t80),(4,t83)] A fun t84 ad=>ad=A∧
     (zl PP z7 (ptr b2) t84 A fun _ ae=>vlv PP z7 (ptr b2) ae fun r af=>K r af)∧True)∧True)∧True:=fun{n base} S=>by
  refine zr fun c a _=>?_
  have d5:=qy d4 a
  rw[Ye d5]
  refine⟨rfl,?_⟩
  rw[Ye d5]
  refine⟨rfl,?_,?_,trivial⟩
  ·refine pk d5 S (by omega) fun I j d6 Q J hj=>?_
   rw[Ye d6]
   refine⟨⟨rfl,rfl⟩,⟨rfl,rfl⟩,?_⟩
   simp only[push_cast,true_and]
   refine⟨?_,trivial⟩
   refine ds_k2 d6 (Z1 d6) (Z1 d6) fun B V l L=>?_
   simp only[push_cast,true_and,and_self]
   refine⟨?_,trivial⟩
   exact gv (qy d6 l) (by omega) (xZ L) (by show 2≤3;decide)
  ·refine ds_k2 d5 (Z1 d5) (Z1 d5) fun I a6 f R=>?_
   refine⟨?_,trivial⟩
   have l2:=d5.res.lt
   have J:=f.size
   refine pk (qy d5 f) S (by omega) fun N j d7 a1 ao hj=>?_
   simp only[push_cast,true_and]
   refine⟨?_,trivial⟩
   refine gv d7 (by omega) (xZ (R.same a1 fun x T _ e=>?_)) (by show 2≤3;decide)
   rcases T with T|T
   ·exact hG x T e
   ·omega
 try simp only[push_cast]
 refine zh (fun _=>?_) (fun _=>?_)
 ·have:=two (n:=11) (base:=3) (by decide)
  try simp only[push_cast] at this
  exact this
 try simp only[push_cast]
 refine zh (fun _=>?_) (fun _=>?_)
 ·have:=two (n:=3) (base:=15) (by decide)
  try simp only[push_cast] at this
  exact this
 clear two
 try simp only[push_cast]
 refine zh (fun _=>?_) (fun _=>?_)
 ·rw[Ye d4]
  refine ds_k1 d4 (Z1 d4) fun c a5 a m=>?_
  simp only[push_cast]
  exact gv (u:= .mk 22 _ 0 M.nada [t]) (qy d4 a) (by omega) ⟨_,rfl,m⟩ (by show 1≤3;decide)
 try simp only[push_cast]
 refine zh (fun _=>?_) (fun _=>?_)
 ·rw[Ye d4]
  have lf:TermR (Qd G w.heap.size b2) U (.agg ⟨[.int .i64 20,.int .i64 s,.int .i64 1,.string ⟨#[]⟩,.slice none 0 0]⟩) (.mk 20 s 1 M.nada []):=⟨.slice none 0 0,rfl,TmsR.nil⟩
  refine ds_k2 d4 lf (Z1 d4) fun c a5 a m=>?_
  simp only[push_cast]
  exact gv (qy d4 a) (by omega) (xZ (o:=8) m) (by show 2≤3;decide)
 ·refine zr fun c a _=>?_
  have d5:=qy d4 a
  try simp only[push_cast,true_and]
  rw[Ye d5]
  refine⟨rfl,?_⟩
  refine l3Zero_spec fun N v7 i y=>?_
  have d7:=qy d5 i
  rw[Ye d7]
  refine⟨⟨rfl,rfl⟩,?_⟩
  try simp only[push_cast,true_and,and_self]
  refine ds_k3 d7 (J7 (o:=24)) (Z1 d7) (ds_new d5 y) fun B V l L=>?_
  simp only[push_cast,true_and]
  exact gv (qy d7 l) (by omega) (xZ (o:=23) L) (by show 3≤3;decide)
theorem l3Draw_spec {b p:Nat} {v:Value} {xs:List Nat} (h:RdR F w b v xs p) (hF:∀x,F x→x<w.heap.size) (hp:p+300100<1099511627776)
  (hK:∀w' p' dv tv ds t,Same (· =b) w w'→RdR F w' b v xs p'→p'≤p+300100→DclsR (fun x=>w.heap.size≤x) w' dv ds→Dsm ds→TermR (fun x=>w.heap.size≤x) w' tv t→K (.tuple #[dv,tv]) w'):vcall PP Qp #[.pointer (some ⟨b,0,none⟩)] w K:=by
 apply qM0
 have lb:=h.blk.lt
 refine zz zO fun b1 w1 bs R c0 h1=>?_
 have aw:=h.ext R
 have c2:=R.size
 refine qk0 aw (fun x d=>by have:=hF x d;omega) (by omega) fun w2 p2 dv ds V ax bw b4 S b7=>?_
 have h2:=h1.same V (by omega)
 have c3:=V.size
 have aa:=b4.weaken (F':=fun x=>w1.heap.size≤x∧x<w2.heap.size) fun x d G=>⟨d,G⟩
 refine ints_lit (ns:=[0,0,1,2,3,4]) (by decide) fun b3 w3 bt E b8=>?_
 have c4:=E.size
 refine num_spec (ax.ext E) b8 (by simp) (by decide) (by omega) (fun x d e=>by subst d;omega) fun Z m W c5 ay hm=>?_
 have af:0≤m∧m≤4:=by
  simp only[List.mem_cons,List.not_mem_nil,or_false] at hm
  omega
 have ab:=(aa.ext E).same W fun x d _ e=>by omega
 have h4:=(h2.ext E).same W (by omega)
 refine l2Some_spec ay (fun x d=>by have:=hF x d;omega) ab (fun x d e=>by omega) (fun x d=>by omega) S af.1 af.2 (by omega) fun w5 p5 tv t H az bx bc b9=>?_
 have b5:=ab.same H fun x d _ e=>by omega
 have h5:=h4.same H (by omega)
 have c6:=H.size
 obtain⟨cs,rfl,a7⟩:=bc.cells
 have D:=a7.weaken (F':=fun x=>Z.heap.size≤x∧x<w5.heap.size) fun x d G=>⟨d,G⟩
 refine zz zO fun P w6 bu ac c1 h6=>?_
 refine stTerm h6 rfl (D.ext ac) fun w7 bd c7 h7=>?_
 have A:Ext w5 w7:=Ext.then ac bd fun y hy=>by subst hy;omega
 have b0:=az.ext A
 refine pick_spec b0 (by decide) (by omega) fun w8 k B ca b2 hk _=>?_
 have bv:=hk (by decide)
 have bp:=A.size
 have bq:=B.size
 have d8:=(b5.ext A).same B fun x d _ e=>by omega
 have r8:=(h5.ext A).same B (by omega)
 have t8:=h7.same B (by omega)
 have c8:TmR (fun x=>Z.heap.size≤x∧x≠P) w8 cs t:=(((D.ext A).same B fun x d _ e=>by omega).weaken fun x d _=>⟨d.1,by omega⟩)
 have bg:Same (· =b) w w8:=(((((Same.of_ext R).trans V).trans (Same.of_ext E)).trans W).trans H).trans ((Same.of_ext A).trans B)
 refine vloop_up k (fun i u w'=> ∃c u' p',u=[.int .i64 ((k-i:Nat):Int)]∧Same (· =b) w w'∧RdR F w' b v xs p'∧p'≤p5+1+10*i∧w8.heap.size≤w'.heap.size∧DclsR (fun x=>w1.heap.size≤x∧x<w2.heap.size) w' dv ds∧Blk w' b1 zL0 z7∧Blk w' P c z7∧TmR (fun x=>Z.heap.size≤x∧x≠P) w' c u'∧u'.ks.length≤3)
  ⟨cs,t,p5+1,rfl,bg,b2,by omega,Nat.le_refl _,d8,r8,t8,c8,b9⟩ ?_
 rintro i _ _ w9 C hi ⟨c,u',p9,rfl,s9,a5,bz,bm,d9,r9,t9,c9,ba⟩ hC
 have gc:aggB PP z7 c.length=true:=by rw[yp c9];exact zu
 simp only[push_cast]
 refine zh (fun a=>?_) (fun a=>?_)
 ·have ad:i<k:=by omega
  rw[t9.ldAgg (t:=z7) gc]
  have a0:=c9.weaken (F':=fun x=>(Z.heap.size≤x∧x≠P)∧x<w9.heap.size) fun x d G=>⟨d,G⟩
  refine l3Dull_spec a5 (fun x d=>by have:=hF x d;omega) d9 b7 a0.term (fun x d e=>by omega) (fun x d=>d.2) (by omega) fun X ak rv an j J bj bb ae=>?_
  obtain⟨cr,rfl,a6⟩:=bb.cells
  have ah:=j.size
  have d10:=d9.same j fun x d _ e=>by omega
  have al:=r9.same j (by omega)
  have t10:=t9.same j (by omega)
  have Q:=a0.same j fun x d _ e=>by omega
  have gr:aggB PP z7 cr.length=true:=by rw[yp a6];exact zu
  refine zz zO fun br bh bi M l ar=>?_
  have L:=(a6.weaken (F':=fun x=>(((Z.heap.size≤x∧x≠P)∧x<w9.heap.size)∨w9.heap.size≤x)∧x<X.heap.size) fun x d G=>⟨d,G⟩).ext M
  refine stTerm ar rfl L fun I N ai a2=>?_
  have a1:Ext X I:=Ext.then M N fun y hy=>by subst hy;omega
  rw[a2.ldAgg (t:=z7) gr]
  have o:TmR (fun x=>Z.heap.size≤x∧x≠P) I cr an:=(L.same N fun x d _ e=>by omega).weaken fun x d _=>by
   rcases d.1 with h|h
   ·exact h.1
   ·exact⟨by omega,by omega⟩
  refine spec_TermSort_spec (dsm_sized (dok_dsm S)) (d10.ext a1) o.term fun Y r=>?_
  have f:=a1.trans r
  have aj:=f.size
  have O:IntKind.i64.wrap (((k-i:Nat):Int)-1)=((k-(i+1):Nat):Int):=by rw[zE (by omega) (by omega)];omega
  have am:Same (· =b) w Y:=(s9.trans j).trans (Same.of_ext f)
  simp only[push_cast]
  refine zh (fun _=>?_) (fun _=>?_)
  ·rw[(a2.ext r).ldAgg (t:=z7) gr]
   refine stTerm (t10.ext f) (yp c9) (o.ext r) fun cd n bo av=>?_
   rw[O]
   refine hC ad _ _ ⟨cr,an,ak,rfl,same_new am n (by omega),(J.ext f).new n (by omega) (fun x d e=>by have:=hF x d;omega),by omega,by omega,(d10.ext f).same n fun x d _ e=>by omega,(al.ext f).same n (by omega),av,(o.ext r).same n (fun x d _ e=>d.2 e),ae⟩
  ·rw[O]
   exact hC ad _ _ ⟨c,u',ak,rfl,am,J.ext f,by omega,by omega,d10.ext f,al.ext f,t10.ext f,(Q.ext f).weaken fun x d _=>d.1,ba⟩
 ·refine zr fun X g _=>?_
  have t10:=t9.ext g
  rw[t10.ldAgg (t:=z7) gc]
  refine⟨rfl,?_⟩
  have ah:=g.size
  have d10:=d9.ext g
  have Q:=(c9.weaken (F':=fun x=>(Z.heap.size≤x∧x≠P)∧x<w9.heap.size) fun x d G=>⟨d,G⟩).ext g
  refine l2Spoil_spec (a5.ext g) (fun x d=>by have:=hF x d;omega) d10 (fun x d e=>by omega) (fun x d=>by omega) S (by omega) fun bh cb aq ap l a3 bk a8 T=>?_
  have t11:=t10.same l (by omega)
  rw[t11.ldAgg (t:=z7) gc]
  refine⟨⟨rfl,rfl⟩,?_⟩
  have bn:=l.size
  have ao:=Q.same l fun x d _ e=>by omega
  refine l2Bent_spec a3 (fun x d=>by have:=hF x d;omega) ao.term (fun x d e=>by omega) (fun x d=>by omega) (by omega) (by omega) fun I be cc t' s a4 bl ag _=>?_
  have a9:=a8.same s fun x d _ e=>by omega
  have bf:=((r9.ext g).same l (by omega)).same s (by omega)
  obtain⟨cs',rfl,q⟩:=ag.cells
  have U:Same (· =b) w I:=(s9.trans (Same.of_ext g)).trans (l.trans s)
  have ai:=s.size
  refine stTerm bf rfl q fun Y z aj au=>?_
  rw[au.lv (by rw[yp q];exact zu)]
  refine hK Y be aq _ ap t' (same_new U z (by omega)) (a4.new z (by omega) fun x d e=>by have:=hF x d;omega) (by omega) ((a9.same z fun x d _ e=>by omega).weaken fun x d _=>by omega) T ((q.same z fun x d _ e=>by omega).term.weaken fun x d _=>by omega)
theorem DrawTermFold_spec {v:Value} {xs:List Nat} (a:Bytes F w v xs) (hF:∀b,F b→b<w.heap.size)
  (r:∀w' dv tv ds t,Ext w w'→DclsR (fun x=>w.heap.size≤x) w' dv ds→Dsm ds→TermR (fun x=>w.heap.size≤x) w' tv t→K (.tuple #[dv,tv]) w'):vcall PP jN #[v] w K:=by
 apply VS
 refine zz zO fun b1 O z f D o=>?_
 have E:=f.size
 refine l12Open_spec (a.ext f) (fun b y=>by have:=hF b y;omega) fun L b v' ys g c A=>?_
 have G:=g.size
 have lb:=c.blk.lt
 refine l3Draw_spec (F:=fun x=>F x∧x<L.heap.size) ⟨c.blk,⟨c.bytes.1.weaken fun x a B=>⟨a,B⟩,c.bytes.2⟩,fun h=>c.apart h.1,c.few⟩ (fun x a=>a.2) (by omega) fun P N dv tv ds t i s C k l m=>?_
 have H:=i.size
 have J:=(o.ext g).same i (by omega)
 obtain⟨cs,rfl,d⟩:=m.cells
 simp only[push_cast]
 refine stTerm J rfl d fun n j I p=>?_
 rw[p.lv (by rw[yp d];exact zu)]
 have u:Ext w n:=by
  have q:Same (fun x=>w.heap.size≤x) w n:=(((Same.of_ext f).trans (Same.of_ext g)).trans (i.mono fun x _ a=>by subst a;omega)).trans (j.mono fun x _ a=>by subst a;omega)
  exact q.mono fun x a M=>by omega
 exact r n dv _ ds t u ((k.same j fun x a _ e=>by omega).weaken fun x a _=>by omega) l ((d.same j fun x a _ e=>by omega).term.weaken fun x a _=>by omega)
end Go.Proofs.YtaekfnbnhjgboaaGreatDoor
end
section
namespace Go.Proofs.YtaekfnbnhjgboaaGreatDoor
open Go Go.Vc Go.Proofs
variable {w:World} {K:Value→World→Prop} {F F' D G:Nat→Prop}
theorem ZY0 {ds:List M.Dcl} {t:M.Tm} (a:M.declOk ds=true) (b:M.fits t=true):M.tsort ds t=M.sortM ds t:=by unfold M.tsort;rw[if_pos ⟨b,a⟩]
theorem XE0 {ds:List M.Dcl} {t:M.Tm} (a:M.declOk ds=true) (b:M.fits t=true) (hs:M.sortM ds t≠ -1):XF0 ds t=M.foldT ds t:=by
 unfold XF0;rw[if_neg (by rw[ZY0 a b];exact hs)]
end Go.Proofs.YtaekfnbnhjgboaaGreatDoor
end
section
namespace Go.Proofs.YtaekfnbnhjgboaaGreatDoor
open Go Go.Vc Go.Proofs
variable {w:World} {K:Value→World→Prop} {D F F' G Fx Fy:Nat→Prop} {n m:Nat} {gs hs:M.Gs} {v xv yv dv tv:Value} {xs ys env:List Int} {bs ins:List Bool} {ds:List M.Dcl} {t:M.Tm} {ar ab:Addr}
theorem wpHash_spec {v:Value} {xs:List Nat} (d:Bytes F w v xs) (n:xs.length≤1048576) (g:∀h:Int,0≤h→h≤1048576→K (.int .i64 h) w):vcall PP Y8 #[v] w K:=by
 apply qX0
 simp(disch:=(simp only[push_cast];done)) only[push_cast,d.len]
 refine vloop_up xs.length (fun i u w'=> ∃h:Int,u=[.int .i64 h,.int .i64 i]∧w'=w∧0≤h∧h≤1048576) ⟨_,rfl,rfl,by omega,by omega⟩ ?_
 rintro i _ _ _ C hi ⟨h,rfl,rfl,e,f⟩ k
 rename_i w
 refine zI (fun u w'=>u=[]∧w'=w∧i<xs.length∧i<40) (fun J l=>?_) ?_
 ·simp(disch:=(simp only[push_cast];done)) only[push_cast,d.len]
  refine zh (fun a=>?_) (fun _=>g h e f)
  exact zh (fun b=>l _ _ ⟨rfl,rfl,by omega,by omega⟩) (fun _=>g h e f)
 rintro _ _ _ ⟨rfl,rfl,c,j⟩
 have m:xs.getD i 0<256:=d.2 _ (M.getD_mem c 0)
 simp(disch:=first|(simp only[push_cast];done)|omega) only[push_cast,d.iaddr,Int.toNat_natCast,d.load,j6 qc0 ym0]
 rw[zE (x:=h*7) (by omega) (by omega),zE (x:=((xs.getD i 0:Nat):Int)) (by omega) (by omega),zE (x:=h*7+((xs.getD i 0:Nat):Int)) (by omega) (by omega),YZ (by decide)]
 rw[Int.tmod_eq_emod_of_nonneg (by omega),inc64' (by omega)]
 exact k c _ _ ⟨_,rfl,rfl,by omega,by omega⟩
theorem hash_env {dv yv:Value} {ys:List Nat} {i:Nat} (n:DclsR F w dv ds) (a:M.declOk ds=true) (q:Bytes F' w yv ys) (o:ys.length≤1048576) (hi:i≤1000)
  (m:∀w' ev env,Ext w w'→OwnI PP zj w' ev env→M.envOk ds env=true→K (.tuple #[ev,.bool true]) w'):
  vcall PP Y8 #[yv] w fun t80 d=>zq PP .add zd false t80 (.int .i64 (IntKind.i64.wrap (53*i))) d fun t83 e=>zq PP .rem zd false t83 (.int .i64 (qj0 ds)) e fun t85 f=>vcall PP Yd #[dv,t85] f K:=by
 refine wpHash_spec q o fun h r s=>?_
 have g:=bits_all a 0
 have t:=pow8 (b:=M.bits ds) (by omega) g.2.2
 have k:qj0 ds=2^(M.bits ds).toNat:=by unfold qj0;rw[if_pos a]
 simp(disch:=omega) only[push_cast,zE]
 rw[YZ (by omega),Int.tmod_eq_emod_of_nonneg (by omega)]
 have l:=Int.emod_nonneg (h+53*(i:Int)) (b:=qj0 ds) (by omega)
 have p:=Int.emod_lt_of_pos (h+53*(i:Int)) (b:=qj0 ds) (by omega)
 exact EnvAll_spec n a l (by omega) fun w' ev env he j _ c _=>m w' ev env he j c
end Go.Proofs.YtaekfnbnhjgboaaGreatDoor
end
section
namespace Go.Proofs.YtaekfnbnhjgboaaGreatDoor
open Go Go.Vc Go.Proofs
variable {w:World} {K:Value→World→Prop} {D F F' G Fx Fy:Nat→Prop} {n m:Nat} {gs hs:M.Gs} {v xv yv dv tv:Value} {xs ys env:List Int} {bs ins:List Bool} {ds:List M.Dcl} {t:M.Tm} {ar ab:Addr}
theorem FnBlastFold_spec {v v':Value} {xs ys:List Nat} (hx:Bytes F w v xs) (hy:Bytes F' w v' ys) (a8:Errs (fun _=>False) w ar ab) (hK:∀w',Ext w w'→K (.bool true) w'):vcall PP X4 #[v,v'] w K:=by
 apply Wz
 refine zI (fun u w'=>u=[]∧w'=w∧ys.length≤1048576) (fun C hC=>?_) ?_
 ·simp(disch:=(simp only[push_cast];done)) only[push_cast,hx.len,hy.len]
  refine zh (fun _=>hK w (Same.refl _ _)) (fun _=>?_)
  exact zh (fun _=>hK w (Same.refl _ _)) (fun _=>hC _ _ ⟨rfl,rfl,by omega⟩)
 rintro _ _ _ ⟨rfl,rfl,an⟩
 rename_i w
 refine DrawTermFold_spec hx.below (fun b hb=>hb) fun w1 dv tv ds t ax hd bc ht=>?_
 obtain⟨cs,rfl,a7⟩:=ht.cells
 simp only[push_cast]
 refine term_new (a7.weaken (F':=fun _=>True) fun _ _ _=>trivial) fun w2 b2 bo I h2 Z=>?_
 have hg:aggB PP z7 cs.length=true:=by rw[yp a7];exact zu
 have e2:=ax.trans I
 rw[h2.ldAgg (t:=z7) hg]
 refine Blast_spec (hd.ext I) Z.term (a8.ext0 e2) fun w3 gv lv ay b5 b9 _ _=>?_
 simp only[push_cast]
 refine net_new b5 fun w4 b4 bp a9 h4 b7=>?_
 have E:=ay.trans a9
 rw[(h2.ext E).ldAgg (t:=z7) hg]
 refine spec_Blast_spec (dsm_sized bc) (hd.ext (I.trans E)) (Z.ext E).term fun w5 bm bh az b8 ba _ _=>?_
 simp only[push_cast]
 refine net_new b8 fun w6 b6 bq aa h6 ad=>?_
 have H:=az.trans aa
 have G:=E.trans H
 have e6:Ext w w6:=e2.trans G
 have s:=hd.ext (I.trans G)
 have av:=h2.ext G
 have aw:=Z.ext G
 have Y:=h4.ext H
 have B:=b9.ints.ext (a9.trans H)
 have af:=ba.ints.ext aa
 have a1:OwnG w6 gv (blastR ds t).2.1:=Own.ext b7 H
 have bl:=jx0 ds t
 have a3:=sigs_few ds t
 have e:∀{w':World} {b:Nat} {t:M.Tm} {gv:Value} {K:Value→World→Prop},Blk w' b [.int .i64 (blastR ds t).1,gv] zg→ze PP zg (.pointer (some ⟨b,0,none⟩)) w' K=K (.agg ⟨[.int .i64 (blastR ds t).1,gv]⟩) w':=fun h=>h.ldAgg (t:=zg) y5
 have same:∀{w7:World},Ext w6 w7→ze PP zg (.pointer (some ⟨b4,0,none⟩)) w7 fun t58 ao=>ze PP zg (.pointer (some ⟨b6,0,none⟩)) ao fun t59 ap=>vcall PP qp #[t58,t59] ap fun t60 U=>vif t60 (vcall PP qH #[lv,bh] U fun t64 aq=>K t64 aq) (K (.bool false) U):=fun{w7} d=>by
  rw[e (Y.ext d),e (h6.ext d)]
  refine zf0 (Sl.ext (Own.sl a1) d) (Sl.ext (Own.sl ad) d) (by omega) fun w8 l=>?_
  rw[decide_eq_true ⟨rfl,rfl⟩]
  simp only[push_cast]
  refine wpInts_spec (B.ext (d.trans l)) (af.ext (d.trans l)) fun w9 a0=>?_
  rw[decide_eq_true rfl]
  exact hK _ (e6.trans (d.trans (l.trans a0)))
 refine zI (fun u w'=>u=[]∧Ext w6 w'∧M.tsort ds t≠ -1∧(blastR ds t).1=M.nIn ds∧M.blastB ds t=some ((blastR ds t).2.1,(blastR ds t).2.2)) (fun C hC=>?_) ?_
 ·rw[e Y,e h6]
  refine zf0 (Own.sl a1) (Own.sl ad) (by omega) fun w7 d=>?_
  rw[decide_eq_true ⟨rfl,rfl⟩]
  simp only[push_cast,Bool.not_true]
  refine wpInts_spec (B.ext d) (af.ext d) fun w8 l=>?_
  have j:=d.trans l
  rw[decide_eq_true rfl]
  simp(disch:=(simp only[push_cast];done)) only[push_cast,Bool.not_true,(B.ext j).len]
  refine zh (fun _=>same j) (fun h0=>?_)
  rcases YA ds t with⟨V,c2,c3⟩|c
  ·rw[V] at h0;exact absurd rfl h0
  ·exact hC _ _ ⟨rfl,j,c⟩
 rintro _ _ w7 ⟨rfl,d,bf,hn,T⟩
 obtain⟨ac,k,hs,bn⟩:=Qc bf
 obtain⟨q1,q2,q3,q4⟩:=M.blast_says k hs T
 obtain⟨br,ai⟩:=M.nIn_eq k
 have A:=M.fold_good k t hs
 have b3:=XE0 k ac hs
 rw[(av.ext d).ldAgg (t:=z7) hg]
 refine TermFold_spec (s.ext d) (aw.ext d).term fun w8 cu l al=>?_
 have j:=d.trans l
 rw[b3] at al
 refine Blast_spec (s.ext j) (Xg0 _ al).term (a8.ext0 (e6.trans j)) fun w9 mv sv a0 bb be _ _=>?_
 simp only[push_cast]
 refine net_new bb fun bi au bk P a6 ag=>?_
 have m:=j.trans (a0.trans P)
 have a4:=be.ints.ext P
 have b1:=jx0 ds (M.foldT ds t)
 have a2:=sigs_few ds (M.foldT ds t)
 simp(disch:=(simp only[push_cast];done)) only[push_cast,(B.ext m).len,a4.len]
 refine zh (fun bs=>?_) (fun heq=>?_)
 ·try simp(disch:=(simp only[push_cast];done)) only[push_cast,a4.len]
  rcases YA ds (M.foldT ds t) with⟨V,_⟩|⟨V,c2,c3⟩
  ·rw[V,decide_eq_true (by simp)]
   exact hK _ (e6.trans m)
  ·exfalso
   obtain⟨_,_,L,_⟩:=Qc V
   have h3:=(M.blast_says k L c3).2.2.1
   rw[A.sort] at h3
   omega
 ·have hc:M.tsort ds (M.foldT ds t)≠ -1∧(blastR ds (M.foldT ds t)).1=M.nIn ds∧M.blastB ds (M.foldT ds t)=some ((blastR ds (M.foldT ds t)).2.1,(blastR ds (M.foldT ds t)).2.2):=by
   rcases YA ds (M.foldT ds t) with⟨V,_⟩|c
   ·exfalso
    rw[V] at heq
    unfold M.lenS at q3
    simp at heq
    rw[q3] at heq
    omega
   ·exact c
  obtain⟨ak,ah,D⟩:=hc
  obtain⟨_,_,L,_⟩:=Qc ak
  obtain⟨r1,r2,r3,r4⟩:=M.blast_says k L D
  refine EnvMany_spec (s.ext m) fun bu Q=>?_
  have a5:=m.trans Q
  refine vloop_up 16 (fun i u w'=>u=[.int .i64 i]∧Ext w6 w'∧Ext bi w') ⟨rfl,a5,Q⟩ ?_
  rintro i _ _ bv C hi ⟨rfl,n,W⟩ hC
  simp only[push_cast]
  refine zh (fun a=>?_) (fun a=>hK _ (e6.trans n))
  refine hash_env (i:=i) (s.ext n) k (hy.ext (e6.trans n)) an (by omega) fun bw ev env R b0 g=>?_
  have N:=n.trans R
  have X:=W.trans R
  simp only[push_cast]
  refine BlastIns_spec (s.ext N) b0.ints g fun bx iv S ae _=>?_
  have J:=M.insM_n g
  refine zr fun bz o _=>?_
  have q:=N.trans (S.trans o)
  have p:=X.trans (S.trans o)
  simp only[e (Y.ext q),e (a6.ext p),true_and]
  rw[hn,ah]
  refine NetVals_spec (Sl.ext (Own.sl a1) q) q1 ai (ae.bools.ext o) J fun bj rv y bd _=>?_
  have bg:(M.valsG (true::M.insM ds env) (blastR ds t).2.1).length=1+M.nIn ds+(blastR ds t).2.1.length:=by rw[M.valsG_len,List.length_cons,J];omega
  have O:=q.trans y
  have f:=p.trans y
  have r:Blk bj au [.int .i64 (M.nIn ds:Nat),mv] zg:=by rw[←ah];exact a6.ext f
  simp only[r.ldAgg (t:=zg) y5,true_and,and_self]
  refine BitsVal_spec bd.bools (B.ext O) (by omega) a3 (fun x hx=>by rw[bg];exact q2 x hx) ?_
  simp only[r.ldAgg (t:=zg) y5,true_and,and_self]
  refine NetVals_spec (Sl.ext (Own.sl ag) f) r1 ai (ae.bools.ext (o.trans y)) J fun c0 bt z aj _=>?_
  have am:(M.valsG (true::M.insM ds env) (blastR ds (M.foldT ds t)).2.1).length=1+M.nIn ds+(blastR ds (M.foldT ds t)).2.1.length:=by rw[M.valsG_len,List.length_cons,J];omega
  refine BitsVal_spec aj.bools (a4.ext (f.trans z)) (by omega) a2 (fun x hx=>by rw[am];exact r2 x hx) ?_
  rw[M.blast_num hs T g,M.blast_num L D g,A.eval env g]
  simp only[push_cast,true_and]
  refine zh (fun h=>absurd rfl h) (fun _=>?_)
  rw[inc64' (by omega)]
  exact hC (by omega) _ _ ⟨rfl,O.trans z,f.trans z⟩
end Go.Proofs.YtaekfnbnhjgboaaGreatDoor
end
section
namespace Go.Proofs.YtaekfnbnhjgboaaGreatDoor
open Go Go.Vc Go.Proofs
open Go.RowKit
theorem laid_at {l:List (String×DataW Unit)} {W:World} (h:laidMet PP l W):∀k,laidMet PP (l.drop k) W
 |0=>h
 |k+1=>by
  have a:=laid_at h k
  rw[←List.tail_drop]
  cases b:l.drop k with
  |nil=>rw[b] at a;exact a
  |cons x r=>rw[b] at a;exact a.tail
theorem ji0: "*" ++ "errors.errorString" = "*errors.errorString" :=by decide
theorem Xi0 (u:TypeId) (h:PP.typeName? 3 u=some "*errors.errorString"):u=xA:=
 typeName_ptr_named (nm:= "errors.errorString") (by rw[ji0];kernel_rfl) (by kernel_rfl) (by decide) u (by rw[ji0];exact h)
def ifaceB (P:Program) (t:TypeId):Bool:=match P.underlying t with
 |some (.interface _)=>true
 |_=>false
theorem XA0 {P:Program} {t:TypeId} (h:ifaceB P t=true):∃ms,P.underlying t=some (.interface ms):=by
 unfold ifaceB at h
 split at h
 ·exact⟨_,by assumption⟩
 ·cases h
theorem Z80:∃ms,PP.underlying yS=some (.interface ms):=XA0 (by kernel_rfl)
def fieldB (P:Program) (t u:TypeId):Bool:=match P.underlying t with
 |some (.struct fs)=>match fs.toList with
  |[f]=>decide (f.type=u)&&decide (f.offset=0)
  |_=>false
 |_=>false
theorem XI0 {P:Program} {t u:TypeId} (h:fieldB P t u=true):∃f,P.underlying t=some (.struct #[f])∧f.type=u∧f.offset=0:=by
 unfold fieldB at h
 split at h
 ·rename_i fs a
  split at h
  ·rename_i f b
   simp only[Bool.and_eq_true,decide_eq_true_eq] at h
   refine⟨f,?_,h⟩
   rw[a]
   congr 2
   exact Array.toList_inj.1 (by simpa using b)
  ·cases h
 ·cases h
theorem Xj0:PP.underlying xA=some (.pointer 396):=by kernel_rfl
theorem kj0:∃f,PP.underlying 396=some (.struct #[f])∧f.type=zM∧f.offset=0:=XI0 (by kernel_rfl)
theorem kk0:PP.underlying zM=some .string:=by kernel_rfl
theorem QW0:PP.cellsOf 396=1∧PP.cellsOf zM=1:=⟨by kernel_rfl,by kernel_rfl⟩
theorem Y30 {n:String} {text:List UInt8} {r l:List (String×DataW Unit)} {W:World} {g:Nat} (h:laidMet PP l W) (k:Nat) (j:l.drop k=(n,.iface "*errors.errorString" (.ptr (.agg [.lit (.string text)])))::r)
  (c:PP.globalNamed n=some g) (m:(PP.globals[g]?).map (·.type)=some yS):∃a,Sent W g a:=by
 have b:=laid_at h k
 rw[j] at b
 obtain⟨ms,hi⟩:=Z80
 obtain⟨f,d,e,i⟩:=kj0
 obtain⟨a,s,o,_⟩:=laid_sentinel b c m hi Xi0 Xj0 d e i kk0 QW0.1 QW0.2
 exact⟨a,by unfold Sent;simpa using World.var?_cell c o 0⟩
theorem vars_len {H:Type} {enc:TypeId×Value→H} {P:Program} {w:World} {sp:Nat→Bool}:∀{ns:List String} {gs:List (DataW H)} {ps:List MemPlace},DataW.TrodVars enc P w sp ns gs ps→gs.length=ns.length
 |[],[],_,_=>rfl
 |[],_::_,_,h=>h.elim
 |_::_,[],_,h=>h.elim
 |_::_,_::_,_,⟨_,_,_,_,_,_,_,_,_,_,hs,_⟩=>by rw[List.length_cons,List.length_cons,vars_len hs]
theorem vlist2 {α:Type} {l:List α} (h:l.length=2):∃a b,l=[a,b]:=by
 match l,h with
 |[a,b],_=>exact⟨a,b,rfl⟩
end Go.Proofs.YtaekfnbnhjgboaaGreatDoor
end
