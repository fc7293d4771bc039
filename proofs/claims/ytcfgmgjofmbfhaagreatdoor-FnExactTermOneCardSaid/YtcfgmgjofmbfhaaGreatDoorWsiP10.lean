import Derived.Test.YtcfgmgjofmbfhaaGreatDoorWsiP9
import Derived.Test.YtcfgmgjofmbfhaaGreatDoorWsiP2
import Derived.WalkKit
import Derived.ProofKit
import Derived.OpenShut
import Derived.ShutString
import Derived.ChangeOld
import Derived.Below
import Derived.Deep.Slices
/- A part of the proof: Tl, Dp, Dq, Dr, Wa, Wb, We, Rw, Xe, Xf. -/
set_option linter.unusedVariables false
set_option linter.unusedSimpArgs false
set_option linter.unnecessarySimpa false
set_option linter.unusedSectionVars false
section
namespace Go.Proofs.YtcfgmgjofmbfhaaGreatDoor
open Go Go.Vc Go.Proofs
variable {w : World} {K : Value → World → Prop} {F G : Nat → Prop}
theorem l2Arity_spec {o : Int} (hK : K (.int .i64 (M.arity o)) w) : vcall PP n_spec_l2Arity #[.int .i64 o] w K := by
  apply c_spec_l2Arity; unfold F_spec_l2Arity
  have hK' : ∀ c, M.arity o = c → K (.int .i64 c) w := fun c e => e ▸ hK
  refine vjoin_of (fun u w' => u = [.bool (decide (o = 20 ∨ o = 21 ∨ o = 24))] ∧ w' = w) (fun C hC => ?_) ?_
  · simp only [push_cast]
    refine vif_dec (fun a => ?_) (fun a => ?_)
    · exact hC _ _ ⟨by rw [decide_eq_true a, decide_eq_true (.inl a)], rfl⟩
    refine vif_dec (fun b => ?_) (fun b => ?_)
    · exact hC _ _ ⟨by rw [decide_eq_true b, decide_eq_true (.inr (.inl b))], rfl⟩
    · refine hC _ _ ⟨?_, rfl⟩
      by_cases c : o = 24
      · rw [decide_eq_true c, decide_eq_true (.inr (.inr c))]
      · rw [decide_eq_false c, decide_eq_false (by omega)]
  · rintro u g w1 ⟨rfl, rfl⟩
    simp only [push_cast]
    repeat' first
      | exact hK' _ (by unfold M.arity; repeat' split
                        all_goals omega)
      | refine vif_dec (fun _ => ?_) (fun _ => ?_)
theorem l2Plain_spec {v : Value} {t : M.Tm} (ht : TermR F w v t) (hK : ∀ w', Ext w w' → K (.bool (M.formed t)) w') : vcall PP n_spec_l2Plain #[v] w K := by
  apply c_spec_l2Plain; unfold F_spec_l2Plain
  obtain ⟨ksv, rfl, hks⟩ := ht
  refine vbox_agg fun b1 w1 hb1 he1 hs1 h1 => ?_
  have hk := hK _ he1
  have hno : M.plainM t = false → K (.bool false) w1 := fun h => by
    unfold M.formed at hk
    rwa [h, Bool.and_false] at hk
  unfold M.plainM at hno
  refine vjoin_of (fun u w' => u = [] ∧ w' = w1 ∧ (decide (t.op = 21) || decide (t.s = M.nada)) = true) (fun C hC => ?_) ?_
  · simp (disch := (simp only [push_cast]; done)) only [push_cast, h1.ld0, h1.ld3]
    refine vif_dec (fun a => ?_) (fun a => ?_)
    · refine vif_dec (fun b => ?_) (fun b => ?_)
      · exact hno (by rw [decide_eq_false a, show decide (t.s = M.nada) = false from decide_eq_false b]; simp)
      · exact hC _ _ ⟨rfl, rfl, by rw [show decide (t.s = M.nada) = true from decide_eq_true (Classical.not_not.1 b)]; simp⟩
    · exact hC _ _ ⟨rfl, rfl, by rw [decide_eq_true (Classical.not_not.1 a)]; simp⟩
  rintro u g w2 ⟨rfl, rfl, hn⟩
  rw [hn, Bool.and_true] at hno
  refine vjoin_of (fun u w' => u = [] ∧ w' = w2 ∧ (decide (t.op = 20) || decide (t.op = 22) || (decide (t.a = 0) && decide (t.b = 0))) = true) (fun C hC => ?_) ?_
  · simp (disch := (simp only [push_cast]; done)) only [push_cast, h1.ld0, h1.ld1, h1.ld2]
    refine vif_dec (fun a => ?_) (fun a => ?_)
    · refine vif_dec (fun b => ?_) (fun b => ?_)
      · refine vif_dec (fun c => ?_) (fun c => ?_)
        · exact hno (by rw [decide_eq_false a, decide_eq_false b, decide_eq_false c]; simp)
        refine vif_dec (fun d => ?_) (fun d => ?_)
        · exact hno (by rw [decide_eq_false a, decide_eq_false b, decide_eq_false d]; simp)
        · exact hC _ _ ⟨rfl, rfl, by rw [decide_eq_true (Classical.not_not.1 c), decide_eq_true (Classical.not_not.1 d)]; simp⟩
      · exact hC _ _ ⟨rfl, rfl, by rw [decide_eq_true (Classical.not_not.1 b)]; simp⟩
    · exact hC _ _ ⟨rfl, rfl, by rw [decide_eq_true (Classical.not_not.1 a)]; simp⟩
  rintro u g w3 ⟨rfl, rfl, hm⟩
  refine vdraw_ext fun w4 he4 _ => ?_
  have h4 := h1.ext he4
  have hks4 := hks.ext (he1.trans he4)
  simp (disch := (simp only [push_cast]; done)) only [push_cast, h4.ld0, h4.ld4, hks4.len, true_and]
  refine l2Arity_spec ?_
  simp (disch := (simp only [push_cast]; done)) only [push_cast, h4.ld4, hks4.len, true_and, and_self]
  have := hK _ (he1.trans he4)
  have e : M.formed t = decide ((t.ks.length : Int) = M.arity t.op) := by
    unfold M.formed M.plainM
    rw [hm, hn]
    simp only [Bool.and_true]
    by_cases h : M.arity t.op = t.ks.length
    · rw [decide_eq_true h, decide_eq_true h.symm]
    · rw [decide_eq_false h, decide_eq_false (fun x => h x.symm)]
  rwa [e] at this
theorem l2One_spec {v : Value} {t : M.Tm} {a : Int} (ht : TermR F w v t) (hr : -1 ≤ a ∧ a ≤ 4) (hK : ∀ w', Ext w w' → K (.int .i64 (M.oneM t a)) w') : vcall PP n_spec_l2One #[v, .int .i64 a] w K := by
  apply c_spec_l2One; unfold F_spec_l2One
  obtain ⟨ksv, rfl, hks⟩ := ht
  refine vbox_agg fun b1 w1 hb1 he1 hs1 h1 => ?_
  have hk : ∀ c, M.oneM t a = c → K (.int .i64 c) w1 := fun c e => e ▸ hK _ he1
  unfold M.oneM at hk
  refine vjoin_of (fun u w' => u = [.bool (decide (t.op = 25 ∧ a = 0))] ∧ w' = w1) (fun C hC => ?_) ?_
  · simp (disch := (simp only [push_cast]; done)) only [push_cast, h1.ld0]
    refine vif_dec (fun b => ?_) (fun b => ?_)
    · refine hC _ _ ⟨?_, rfl⟩
      simp only [b, true_and]
    · exact hC _ _ ⟨by rw [decide_eq_false (fun h => b h.1)], rfl⟩
  rintro u g w2 ⟨rfl, rfl⟩
  simp only [push_cast]
  refine vif_dec (fun b => ?_) (fun b => ?_)
  · exact hk _ (by rw [if_pos b.1, if_pos b.2])
  refine vjoin_of (fun u w' => u = [.bool (decide (t.op = 25 ∨ a < 1))] ∧ w' = w2) (fun C hC => ?_) ?_
  · simp (disch := (simp only [push_cast]; done)) only [push_cast, h1.ld0]
    refine vif_dec (fun c => ?_) (fun c => ?_)
    · exact hC _ _ ⟨by rw [decide_eq_true (.inl c)], rfl⟩
    · refine hC _ _ ⟨?_, rfl⟩
      simp only [c, false_or]
  rintro u g w3 ⟨rfl, rfl⟩
  simp only [push_cast]
  refine vif_dec (fun c => ?_) (fun c => ?_)
  · exact hk _ (by repeat' split
                   all_goals omega)
  simp (disch := (simp only [push_cast]; done)) only [push_cast, h1.ld0]
  refine vif_dec (fun d => ?_) (fun d => ?_)
  · refine vjoin_of (fun u w' => u = [.bool (decide (0 ≤ t.b ∧ t.b ≤ t.a ∧ t.a < a))] ∧ w' = w3) (fun C hC => ?_) ?_
    · simp (disch := (simp only [push_cast]; done)) only [push_cast, h1.ld1, h1.ld2]
      refine vif_dec (fun e => ?_) (fun e => ?_)
      · refine vif_dec (fun f => ?_) (fun f => ?_)
        · refine hC _ _ ⟨?_, rfl⟩
          simp only [e, f, true_and]
        · exact hC _ _ ⟨by rw [decide_eq_false (fun h => f h.2.1)], rfl⟩
      · exact hC _ _ ⟨by rw [decide_eq_false (fun h => e h.1)], rfl⟩
    rintro u g w4 ⟨rfl, rfl⟩
    simp only [push_cast]
    refine vif_dec (fun e => ?_) (fun e => ?_)
    · simp (disch := (simp only [push_cast]; done)) only [push_cast, h1.ld1, h1.ld2]
      rw [wrap64 (x := t.a - t.b) (by omega) (by omega), wrap64 (by omega) (by omega)]
      exact hk _ (by rw [if_neg (by omega), if_neg (by omega), if_pos d, if_pos e])
    · exact hk _ (by rw [if_neg (by omega), if_neg (by omega), if_pos d, if_neg e])
  · exact hk _ (by rw [if_neg (by omega), if_neg (by omega), if_neg d])
theorem l2Both_spec {o a b : Int} (hr : -1 ≤ a ∧ a ≤ 4) (hr' : -1 ≤ b ∧ b ≤ 4) (hK : K (.int .i64 (M.bothM o a b)) w) : vcall PP n_spec_l2Both #[.int .i64 o, .int .i64 a, .int .i64 b] w K := by
  apply c_spec_l2Both; unfold F_spec_l2Both
  have hk : ∀ c, M.bothM o a b = c → K (.int .i64 c) w := fun c e => e ▸ hK
  unfold M.bothM at hk
  refine vjoin_of (fun u w' => u = [.bool (decide (o = 26 ∨ o = 27))] ∧ w' = w) (fun C hC => ?_) ?_
  · simp only [push_cast]
    refine vif_dec (fun c => ?_) (fun c => ?_)
    · exact hC _ _ ⟨by rw [decide_eq_true (.inl c)], rfl⟩
    · refine hC _ _ ⟨?_, rfl⟩
      simp only [c, false_or]
  rintro u g w2 ⟨rfl, rfl⟩
  simp only [push_cast]
  refine vif_dec (fun c => ?_) (fun c => ?_)
  · repeat' first
      | exact hk _ (by repeat' split
                       all_goals omega)
      | refine vif_dec (fun _ => ?_) (fun _ => ?_)
  refine vjoin_of (fun u w' => u = [.bool (decide (a < 1 ∨ b < 1))] ∧ w' = w2) (fun C hC => ?_) ?_
  · try simp only [push_cast]
    refine vif_dec (fun d => ?_) (fun d => ?_)
    · exact hC _ _ ⟨by rw [decide_eq_true (.inl d)], rfl⟩
    · refine hC _ _ ⟨?_, rfl⟩
      simp only [d, false_or]
  rintro u g w3 ⟨rfl, rfl⟩
  have e1 : IntKind.i64.wrap (a + b) = a + b := wrap64 (by omega) (by omega)
  simp only [push_cast, e1]
  repeat' first
    | exact hk _ (by repeat' split
                     all_goals omega)
    | refine vif_dec (fun _ => ?_) (fun _ => ?_)
theorem l2Sort_spec : ∀ (t : M.Tm) {w : World} {K : Value → World → Prop} {F G : Nat → Prop} {dv v : Value} {ds : List M.Dcl}, DclsR F w dv ds → M.declOk ds = true → TermR G w v t → (∀ w', Ext w w' → K (.int .i64 (M.sortM ds t)) w') → vcall PP n_spec_l2Sort #[dv, v] w K := by
  refine M.Tm.ind fun t ih w K F G dv v ds hd hok ht hK => ?_
  apply c_spec_l2Sort; unfold F_spec_l2Sort
  obtain ⟨ksv, rfl, hks⟩ := ht
  refine vbox_agg fun b1 w1 hb1 he1 hs1 h1 => ?_
  have hk : ∀ c w', M.sortM ds t = c → Ext w w' → K (.int .i64 c) w' := fun c w' e he => e ▸ hK _ he
  rw [h1.ldAgg (t := T_impl_Term) g_impl_Term]
  refine l2Plain_spec (F := G) (t := t) ⟨ksv, rfl, hks.ext he1⟩ fun w2 he2 => ?_
  have hE := he1.trans he2
  have h2 := h1.ext he2
  simp only [push_cast]
  refine vif_bool (fun a => ?_) (fun a => ?_)
  · exact hk _ _ (M.sort_bad (by rw [Bool.not_eq_true]; simpa using a)) hE
  have hf : M.formed t = true := by simpa using a
  have har := (M.formed_iff.1 hf).1
  have hd2 := hd.ext hE
  simp (disch := (simp only [push_cast]; done)) only [push_cast, h2.ld0]
  refine vif_dec (fun c20 => ?_) (fun c20 => ?_)
  · have hl : t.ks.length = 0 := by rw [c20] at har; simp [M.arity] at har; omega
    have hs := M.sort_leaf (ds := ds) hf hl
    simp (disch := (simp only [push_cast]; done)) only [push_cast, h2.ld1, h2.ld2]
    refine spec_VecOk_spec fun w3 he3 => ?_
    have h3 := h2.ext he3
    refine vif_bool (fun b => ?_) (fun b => ?_)
    · simp (disch := (simp only [push_cast]; done)) only [push_cast, h3.ld1]
      exact hk _ _ (by rw [hs]; unfold M.sortK; rw [if_pos c20, if_pos b]) (hE.trans he3)
    · exact hk _ _ (by rw [hs]; unfold M.sortK; rw [if_pos c20, b]; rfl) (hE.trans he3)
  refine vif_dec (fun c21 => ?_) (fun c21 => ?_)
  · have hl : t.ks.length = 0 := by rw [c21] at har; simp [M.arity] at har; omega
    have hs := M.sort_leaf (ds := ds) hf hl
    have hfd := M.findD_lt ds t.s
    simp (disch := (simp only [push_cast]; done)) only [push_cast, h2.ld3]
    refine l2Find_spec hd2 ?_
    try simp only [push_cast]
    refine vif_dec (fun b => ?_) (fun b => ?_)
    · exact hk _ _ (by rw [hs]; unfold M.sortK; rw [if_neg c20, if_pos c21, if_pos b]) hE
    · try simp (disch := first | (simp only [push_cast]; done) | omega) only [push_cast, hd2.iaddr]
      try simp (disch := first | (simp only [push_cast]; done) | omega) only [push_cast, hd2.load1]
      exact hk _ _ (by rw [hs]; unfold M.sortK; rw [if_neg c20, if_pos c21, if_neg b]) hE
  refine vif_dec (fun c24 => ?_) (fun c24 => ?_)
  · have hl : t.ks.length = 0 := by rw [c24] at har; simp [M.arity] at har; omega
    have hs := M.sort_leaf (ds := ds) hf hl
    exact hk _ _ (by rw [hs]; unfold M.sortK; rw [if_neg c20, if_neg c21, if_pos (by omega)]; rfl) hE
  have hlen : t.ks.length = 1 ∨ t.ks.length = 2 ∨ t.ks.length = 3 := by
    have h0 : M.arity t.op ≠ 0 := fun h => by have := M.arity_zero h; omega
    have h4 : M.arity t.op ≤ 3 := by
      unfold M.arity
      repeat' split
      all_goals omega
    omega
  have hks2 := hks.ext hE
  simp (disch := first | (simp only [push_cast]; done) | omega) only [push_cast, h2.ld4, hks2.iaddr]
  refine hks2.load g_impl_Term (by omega) fun x0 hx0 => ?_
  refine ih (M.kid t 0) (M.kid_mem (by omega)) hd2 hok hx0 fun w3 he3 => ?_
  have h3 := h2.ext he3
  have hE3 := hE.trans he3
  have hks3 := hks.ext hE3
  have hr0 := M.sort_range hok (M.kid t 0)
  simp (disch := first | (simp only [push_cast]; done) | omega) only [push_cast, h3.ld4, hks3.len]
  refine vif_dec (fun l1 => ?_) (fun l1 => ?_)
  · rw [h3.ldAgg (t := T_impl_Term) g_impl_Term]
    refine l2One_spec (F := G) (t := t) ⟨ksv, rfl, hks3⟩ hr0 fun w4 he4 => ?_
    exact hk _ _ (M.sort_one hok hf (by omega)) (hE3.trans he4)
  simp (disch := first | (simp only [push_cast]; done) | omega) only [push_cast, h3.ld4, hks3.iaddr]
  refine hks3.load g_impl_Term (by omega) fun x1 hx1 => ?_
  refine ih (M.kid t 1) (M.kid_mem (by omega)) (hd.ext hE3) hok hx1 fun w4 he4 => ?_
  have h4 := h3.ext he4
  have hE4 := hE3.trans he4
  have hks4 := hks.ext hE4
  have hr1 := M.sort_range hok (M.kid t 1)
  simp (disch := first | (simp only [push_cast]; done) | omega) only [push_cast, h4.ld4, h4.ld0, hks4.len]
  refine vif_dec (fun l2 => ?_) (fun l2 => ?_)
  · refine l2Both_spec hr0 hr1 ?_
    exact hk _ _ (M.sort_two hok hf (by omega)) hE4
  have hs3 := M.sort_three (ds := ds) hf (by omega)
  refine vif_dec (fun z => ?_) (fun z => ?_)
  · exact hk _ _ (by rw [hs3, if_pos (.inl z)]) hE4
  simp (disch := first | (simp only [push_cast]; done) | omega) only [push_cast, h4.ld4, hks4.iaddr]
  refine hks4.load g_impl_Term (by omega) fun x2 hx2 => ?_
  refine ih (M.kid t 2) (M.kid_mem (by omega)) (hd.ext hE4) hok hx2 fun w5 he5 => ?_
  simp only [push_cast]
  refine vif_dec (fun z2 => ?_) (fun z2 => ?_)
  · exact hk _ _ (by rw [hs3, if_pos (.inr z2)]) (hE4.trans he5)
  · exact hk _ _ (by rw [hs3, if_neg (fun h => h.elim z z2)]) (hE4.trans he5)
def Sized (ds : List M.Dcl) : Prop := ∀ i, i < ds.length → (ds.getD i dcl0).1.size ≤ 9223372036854775807
theorem spec_TermSort_spec {dv v : Value} {ds : List M.Dcl} {t : M.Tm} (hsz : Sized ds) (hd : DclsR F w dv ds) (ht : TermR G w v t) (hK : ∀ w', Ext w w' → K (.int .i64 (M.tsort ds t)) w') : vcall PP n_spec_TermSort #[dv, v] w K := by
  apply c_spec_TermSort; unfold F_spec_TermSort
  obtain ⟨cs, rfl, hcs⟩ := ht.cells
  refine vbox_agg fun b1 w1 hb1 he1 hs1 h1 => ?_
  rw [h1.ldAgg (t := T_impl_Term) (by rw [tmR_len hcs]; exact g_impl_Term)]
  refine spec_TermMany_spec t (hcs.ext he1).term fun w2 he2 => ?_
  simp only [push_cast]
  have hE2 := he1.trans he2
  refine spec_DeclOk_spec (hd.ext hE2) hsz fun w3 he3 => ?_
  have hE3 := hE2.trans he3
  have hk := hK w3 hE3
  unfold M.tsort at hk
  simp only [push_cast]
  refine vif_bool (fun a => ?_) (fun a => ?_)
  · rwa [if_neg (fun h => by rw [h.2] at a; cases a)] at hk
  rw [Bool.not_eq_false'] at a
  refine vif_dec (fun b => ?_) (fun b => ?_)
  · rw [if_neg (fun h => by
      have h1 := M.fits_iff.1 h.1
      unfold M.manyM at b
      rw [if_pos h.1] at b; omega)] at hk
    exact hk
  have hf : M.fits t = true := by
    by_cases h : M.fits t = true
    · exact h
    · unfold M.manyM at b
      rw [if_neg h] at b; omega
  refine vif_dec (fun c => ?_) (fun c => ?_)
  · unfold M.lvlM at c
    rw [if_pos hf] at c
    have := M.fits_iff.1 hf
    omega
  have h3 := (h1.ext he2).ext he3
  rw [h3.ldAgg (t := T_impl_Term) (by rw [tmR_len hcs]; exact g_impl_Term)]
  refine l2Sort_spec t (hd.ext hE3) a (hcs.ext hE3).term fun w4 he4 => ?_
  have := hK w4 (hE3.trans he4)
  unfold M.tsort at this
  rwa [if_pos ⟨hf, a⟩] at this
theorem l2Bool_spec {b : Bool} (hK : K (.int .i64 (M.b2i b)) w) : vcall PP n_spec_l2Bool #[.bool b] w K := by
  apply c_spec_l2Bool; unfold F_spec_l2Bool
  refine vif_bool (fun h => ?_) (fun h => ?_) <;> subst h <;> exact hK
def EnvX (H : Nat → Prop) (w : World) (ev : Value) (env : List Int) (t : M.Tm) : Prop := Ints H w ev env ∨ nnB t = true
theorem envX_ext {H : Nat → Prop} {ev : Value} {env : List Int} {t : M.Tm} {w w' : World} (h : EnvX H w ev env t) (he : Ext w w') : EnvX H w' ev env t := h.imp (fun h => h.ext he) id
theorem envX_kid {H : Nat → Prop} {ev : Value} {env : List Int} {t k : M.Tm} (h : EnvX H w ev env t) (hk : k ∈ t.ks) : EnvX H w ev env k := h.imp id fun h => (nnB_iff.1 h).2 k hk
theorem envX_ints {H : Nat → Prop} {ev : Value} {env : List Int} {t : M.Tm} (h : EnvX H w ev env t) (ho : t.op = 21) : Ints H w ev env := h.elim id fun h => absurd ho (nnB_iff.1 h).1
def EvalOk (t : M.Tm) : Prop := ∀ {w : World} {K : Value → World → Prop} {F G H : Nat → Prop} {dv v ev : Value} {ds : List M.Dcl} {env : List Int}, DclsR F w dv ds → M.envOk ds env = true → TermR G w v t → EnvX H w ev env t → M.sortM ds t ≠ -1 → (∀ w', Ext w w' → K (.int .i64 (M.evalM ds env t)) w') → vcall PP n_spec_l2Eval #[dv, v, ev] w K
theorem l2Vec_spec {t : M.Tm} (ih : EvalOk t) {H : Nat → Prop} {dv v ev : Value} {ds : List M.Dcl} {env : List Int} (hd : DclsR F w dv ds) (he : M.envOk ds env = true) (ht : TermR G w v t) (hx : EnvX H w ev env t) (hs : M.sortM ds t ≠ -1) (hK : ∀ w', Ext w w' → K (VecV (M.sortM ds t) (M.evalM ds env t)) w') : vcall PP n_spec_l2Vec #[dv, v, ev] w K := by
  apply c_spec_l2Vec; unfold F_spec_l2Vec
  obtain ⟨cs, rfl, hcs⟩ := ht.cells
  refine vbox_agg fun b1 w1 hb1 he1 hs1 h1 => ?_
  refine valloc_agg zr_impl_Vec fun b2 w2 hb2 he2 hs2 h2 => ?_
  refine vdraw_ext fun w3 he3 _ => ?_
  have q3 := (h1.ext he2).ext he3
  have hE3 := (he1.trans he2).trans he3
  have hg : aggB PP T_impl_Term cs.length = true := by rw [tmR_len hcs]; exact g_impl_Term
  rw [q3.ldAgg (t := T_impl_Term) hg]
  refine ⟨rfl, ?_⟩
  rw [q3.ldAgg (t := T_impl_Term) hg]
  refine ⟨rfl, l2Sort_spec t (hd.ext hE3) (M.env_ok he).1 (hcs.ext hE3).term fun w4 he4 => ?_⟩
  rw [(q3.ext he4).ldAgg (t := T_impl_Term) hg]
  have hE4 := hE3.trans he4
  refine ⟨⟨rfl, rfl⟩, ih (hd.ext hE4) he (hcs.ext hE4).term (envX_ext hx hE4) hs fun w5 he5 => ?_⟩
  simp only [push_cast, true_and]
  refine stVec (((h2.ext he3).ext he4).ext he5) fun w6 hw6 _ h6 => ?_
  rw [h6.lv (by kernel_rfl)]
  exact hK _ (Ext.then (hE4.trans he5) hw6 fun y hy => by subst hy; have := he1.size; omega)
theorem l2Do_spec {t : M.Tm} (ih : ∀ k, k ∈ t.ks → EvalOk k) {H : Nat → Prop} {dv v ev : Value} {ds : List M.Dcl} {env : List Int} (hd : DclsR F w dv ds) (he : M.envOk ds env = true) (ht : TermR G w v t) (hx : EnvX H w ev env t) (hs : M.sortM ds t ≠ -1)
    (ho : (1 ≤ t.op ∧ t.op ≤ 17) ∨ t.op = 22) (hK : ∀ w', Ext w w' → K (.int .i64 (M.evalM ds env t)) w') : vcall PP n_spec_l2Do #[dv, v, ev] w K := by
  apply c_spec_l2Do; unfold F_spec_l2Do
  obtain ⟨ksv, rfl, hks⟩ := ht
  have hkl : 1 ≤ t.ks.length := by
    rcases (by omega : t.op = 22 ∨ (t.op = 1 ∨ t.op = 2) ∨ (3 ≤ t.op ∧ t.op ≤ 14) ∨ (15 ≤ t.op ∧ t.op ≤ 17)) with h | h | h | h
    · have := (M.eval_cut he hs h).1; omega
    · have := (M.eval_un he hs h).1; omega
    · have := (M.eval_bin he hs h.1 h.2).1; omega
    · have := (M.eval_cmp he hs h.1 h.2).1; omega
  refine vbox_agg fun b1 w1 hb1 he1 hs1 h1 => ?_
  have hks1 := hks.ext he1
  simp (disch := first | (simp only [push_cast]; done) | omega) only [push_cast, h1.ld4, hks1.iaddr]
  refine hks1.load g_impl_Term (by omega) fun x0 hx0 => ?_
  refine l2Vec_spec (ih (M.kid t 0) (M.kid_mem (by omega))) (hd.ext he1) he hx0 (envX_kid (envX_ext hx he1) (M.kid_mem (by omega))) (M.good_kid hs (by omega)) fun w2 he2 => ?_
  refine valloc_agg zr_impl_Vec fun b2 w3 hb2 he3 hs3 h3 => ?_
  refine stVec h3 fun w4 hw4 _ h4 => ?_
  have hz1 := he1.size
  have hz2 := he2.size
  have hE4 : Ext w w4 := Ext.then ((he1.trans he2).trans he3) hw4 fun y hy => by subst hy; omega
  have hl1 := h1.lt
  have q4 := ((h1.ext he2).ext he3).same hw4 (by omega)
  simp (disch := (simp only [push_cast]; done)) only [push_cast, q4.ld0]
  refine vif_dec (fun c22 => ?_) (fun c22 => ?_)
  · obtain ⟨hl, hv, hev⟩ := M.eval_cut he hs c22
    simp (disch := (simp only [push_cast]; done)) only [push_cast, h4.ldAgg (t := T_impl_Vec) g_impl_Vec, q4.ld1, q4.ld2]
    refine spec_VecCut_spec fun w5 he5 => ?_
    simp only [push_cast]
    refine valloc_agg zr_impl_Vec fun b3 w6 hb3 he6 hs6 h6 => ?_
    refine stVec h6 fun w7 hw7 _ h7 => ?_
    simp (disch := (simp only [push_cast]; done)) only [push_cast, h7.ld1]
    have := hK w7 (Ext.then ((hE4.trans he5).trans he6) hw7 fun y hy => by subst hy; have := (hE4.trans he5).size; omega)
    rwa [hev] at this
  have hks4 := hks.ext hE4
  simp (disch := (simp only [push_cast]; done)) only [push_cast, q4.ld4, hks4.len]
  refine vif_dec (fun l1 => ?_) (fun l1 => ?_)
  · have hop : t.op = 1 ∨ t.op = 2 := by
      rcases (by omega : (t.op = 1 ∨ t.op = 2) ∨ (3 ≤ t.op ∧ t.op ≤ 14) ∨ (15 ≤ t.op ∧ t.op ≤ 17)) with h | h | h
      · exact h
      · have := (M.eval_bin he hs h.1 h.2).1; omega
      · have := (M.eval_cmp he hs h.1 h.2).1; omega
    obtain ⟨hl, hv, hev⟩ := M.eval_un he hs hop
    simp (disch := (simp only [push_cast]; done)) only [push_cast, h4.ldAgg (t := T_impl_Vec) g_impl_Vec, q4.ld0]
    refine spec_VecUn_spec fun w5 he5 => ?_
    simp only [push_cast]
    refine valloc_agg zr_impl_Vec fun b3 w6 hb3 he6 hs6 h6 => ?_
    refine stVec h6 fun w7 hw7 _ h7 => ?_
    simp (disch := (simp only [push_cast]; done)) only [push_cast, h7.ld1]
    have := hK w7 (Ext.then ((hE4.trans he5).trans he6) hw7 fun y hy => by subst hy; have := (hE4.trans he5).size; omega)
    rwa [hev] at this
  have hop : 3 ≤ t.op ∧ t.op ≤ 17 := by
    rcases (by omega : (t.op = 1 ∨ t.op = 2) ∨ (3 ≤ t.op ∧ t.op ≤ 17)) with h | h
    · have := (M.eval_un he hs h).1; omega
    · exact h
  have hl2 : t.ks.length = 2 := by
    rcases (by omega : (3 ≤ t.op ∧ t.op ≤ 14) ∨ (15 ≤ t.op ∧ t.op ≤ 17)) with h | h
    · exact (M.eval_bin he hs h.1 h.2).1
    · exact (M.eval_cmp he hs h.1 h.2).1
  simp (disch := first | (simp only [push_cast]; done) | omega) only [push_cast, q4.ld4, hks4.iaddr]
  refine hks4.load g_impl_Term (by omega) fun x1 hx1 => ?_
  refine l2Vec_spec (ih (M.kid t 1) (M.kid_mem (by omega))) (hd.ext hE4) he hx1 (envX_kid (envX_ext hx hE4) (M.kid_mem (by omega))) (M.good_kid hs (by omega)) fun w5 he5 => ?_
  refine valloc_agg zr_impl_Vec fun b3 w6 hb3 he6 hs6 h6 => ?_
  refine stVec h6 fun w7 hw7 _ h7 => ?_
  have hz4 := hE4.size
  have hz5 := he5.size
  have hE7 : Ext w w7 := Ext.then ((hE4.trans he5).trans he6) hw7 fun y hy => by subst hy; omega
  have hl4 := h4.lt
  have hl4' := q4.lt
  have q7 := ((q4.ext he5).ext he6).same hw7 (by omega)
  have p7 := ((h4.ext he5).ext he6).same hw7 (by omega)
  simp (disch := (simp only [push_cast]; done)) only [push_cast, q7.ld0]
  refine vif_dec (fun c15 => ?_) (fun c15 => ?_)
  · obtain ⟨_, _, _, hev⟩ := M.eval_cmp he hs (by omega) hop.2
    simp (disch := (simp only [push_cast]; done)) only [push_cast, p7.ldAgg (t := T_impl_Vec) g_impl_Vec, h7.ldAgg (t := T_impl_Vec) g_impl_Vec, q7.ld0]
    refine spec_VecCmp_spec fun w8 he8 => ?_
    simp only [push_cast]
    refine l2Bool_spec ?_
    have := hK _ (hE7.trans he8)
    rwa [hev] at this
  · obtain ⟨_, _, _, hev⟩ := M.eval_bin he hs hop.1 (by omega)
    simp (disch := (simp only [push_cast]; done)) only [push_cast, p7.ldAgg (t := T_impl_Vec) g_impl_Vec, h7.ldAgg (t := T_impl_Vec) g_impl_Vec, q7.ld0]
    refine spec_VecBin_spec fun w8 he8 => ?_
    simp only [push_cast]
    refine valloc_agg zr_impl_Vec fun b4 w9 hb4 he9 hs9 h9 => ?_
    refine stVec h9 fun w10 hw10 _ h10 => ?_
    simp (disch := (simp only [push_cast]; done)) only [push_cast, h10.ld1]
    have := hK w10 (Ext.then ((hE7.trans he8).trans he9) hw10 fun y hy => by subst hy; have := (hE7.trans he8).size; omega)
    rwa [hev] at this
theorem l2Eval_spec : ∀ (t : M.Tm), EvalOk t := by
  refine M.Tm.ind fun t ih => ?_
  intro w K F G H dv v ev ds env hd he ht hx hs hK
  apply c_spec_l2Eval; unfold F_spec_l2Eval
  obtain ⟨ksv, rfl, hks⟩ := ht
  refine vbox_agg fun b1 w1 hb1 he1 hs1 h1 => ?_
  have hks1 := hks.ext he1
  have hk : ∀ c w', M.evalM ds env t = c → Ext w w' → K (.int .i64 c) w' := fun c w' e he => e ▸ hK _ he
  have hops := M.arity_ops (o := t.op) (by have := (M.formed_iff.1 (M.sort_parts hs).1).1; omega)
  simp (disch := (simp only [push_cast]; done)) only [push_cast, h1.ld0]
  refine vif_dec (fun c20 => ?_) (fun c20 => ?_)
  · simp (disch := (simp only [push_cast]; done)) only [push_cast, h1.ld2]
    exact hk _ _ (by rw [M.eval_leaf (.inl c20), if_pos c20]) he1
  refine vif_dec (fun c21 => ?_) (fun c21 => ?_)
  · have hfd := M.findD_lt ds t.s
    have hf0 := M.name_found hs c21
    have hel := (M.env_ok he).2.1
    have hx1 := (envX_ints hx c21).ext he1
    simp (disch := (simp only [push_cast]; done)) only [push_cast, h1.ld3]
    refine l2Find_spec (hd.ext he1) ?_
    simp (disch := first | (simp only [push_cast]; done) | omega) only [push_cast, hx1.iaddr, hx1.load]
    exact hk _ _ (by rw [M.eval_leaf (.inr (.inl c21)), if_neg c20, if_pos c21]) he1
  refine vif_dec (fun c24 => ?_) (fun c24 => ?_)
  · exact hk _ _ (by rw [M.eval_leaf (.inr (.inr c24)), if_neg c20, if_neg c21]) he1
  refine vif_dec (fun c25 => ?_) (fun c25 => ?_)
  · obtain ⟨hl, hb, hev⟩ := M.eval_no he hs c25
    simp (disch := first | (simp only [push_cast]; done) | omega) only [push_cast, h1.ld4, hks1.iaddr]
    refine hks1.load g_impl_Term (by omega) fun x0 hx0 => ?_
    refine ih (M.kid t 0) (M.kid_mem (by omega)) (hd.ext he1) he hx0 (envX_kid (envX_ext hx he1) (M.kid_mem (by omega))) (M.good_kid hs (by omega)) fun w2 he2 => ?_
    simp only [push_cast]
    have hb2 := M.inS_zero hb
    rw [wrap64 (by omega) (by omega)]
    exact hk _ _ hev (he1.trans he2)
  refine vif_dec (fun c26 => ?_) (fun c26 => ?_)
  · obtain ⟨hl, hb, hb', hev⟩ := M.eval_two he hs (.inl c26)
    rw [if_pos c26] at hev
    refine vdraw_ext fun w2 he2 _ => ?_
    have h2 := h1.ext he2
    have hE2 := he1.trans he2
    have hks2 := hks.ext hE2
    simp (disch := first | (simp only [push_cast]; done) | omega) only [push_cast, h2.ld4, hks2.iaddr, true_and]
    obtain ⟨css, hsl, hcl, hci⟩ := hks2
    rw [hsl.ldAgg g_impl_Term (i := 0) (by omega)]
    simp only [true_and]
    rw [hsl.ldAgg g_impl_Term (i := 1) (by omega)]
    simp only [true_and]
    refine ih (M.kid t 0) (M.kid_mem (by omega)) (hd.ext hE2) he (hci 0 (by omega)).term (envX_kid (envX_ext hx hE2) (M.kid_mem (by omega))) (M.good_kid hs (by omega)) fun w3 he3 => ?_
    have h3 := h2.ext he3
    have hks3 := hks.ext (hE2.trans he3)
    have hsl3 := hsl.ext he3
    simp (disch := first | (simp only [push_cast]; done) | omega) only [push_cast, h3.ld4, hks3.iaddr, true_and]
    rw [hsl3.ldAgg g_impl_Term (i := 1) (by omega)]
    refine ⟨⟨rfl, rfl⟩, ?_⟩
    try simp only [true_and, and_self]
    refine ih (M.kid t 1) (M.kid_mem (by omega)) (hd.ext (hE2.trans he3)) he ((hci 1 (by omega)).ext he3).term (envX_kid (envX_ext hx (hE2.trans he3)) (M.kid_mem (by omega))) (M.good_kid hs (by omega)) fun w4 he4 => ?_
    simp only [push_cast, true_and]
    have e : IntKind.i64.wrap (M.evalM ds env (M.kid t 0) * M.evalM ds env (M.kid t 1)) = M.evalM ds env (M.kid t 0) * M.evalM ds env (M.kid t 1) := by
      rcases M.inS_zero hb with e | e <;> rcases M.inS_zero hb' with e' | e' <;> rw [e, e'] <;> rfl
    rw [e]
    exact hk _ _ hev ((hE2.trans he3).trans he4)
  refine vif_dec (fun c27 => ?_) (fun c27 => ?_)
  · obtain ⟨hl, hb, hb', hev⟩ := M.eval_two he hs (.inr c27)
    rw [if_neg c26] at hev
    refine vdraw_ext fun w2 he2 _ => ?_
    have h2 := h1.ext he2
    have hE2 := he1.trans he2
    have hks2 := hks.ext hE2
    simp (disch := first | (simp only [push_cast]; done) | omega) only [push_cast, h2.ld4, hks2.iaddr, true_and]
    obtain ⟨css, hsl, hcl, hci⟩ := hks2
    rw [hsl.ldAgg g_impl_Term (i := 0) (by omega)]
    simp only [true_and]
    rw [hsl.ldAgg g_impl_Term (i := 1) (by omega)]
    simp only [true_and]
    refine ih (M.kid t 0) (M.kid_mem (by omega)) (hd.ext hE2) he (hci 0 (by omega)).term (envX_kid (envX_ext hx hE2) (M.kid_mem (by omega))) (M.good_kid hs (by omega)) fun w3 he3 => ?_
    have h3 := h2.ext he3
    have hks3 := hks.ext (hE2.trans he3)
    have hsl3 := hsl.ext he3
    simp (disch := first | (simp only [push_cast]; done) | omega) only [push_cast, h3.ld4, hks3.iaddr, true_and]
    rw [hsl3.ldAgg g_impl_Term (i := 1) (by omega)]
    refine ⟨⟨rfl, rfl⟩, ?_⟩
    try simp only [true_and, and_self]
    refine ih (M.kid t 1) (M.kid_mem (by omega)) (hd.ext (hE2.trans he3)) he ((hci 1 (by omega)).ext he3).term (envX_kid (envX_ext hx (hE2.trans he3)) (M.kid_mem (by omega))) (M.good_kid hs (by omega)) fun w4 he4 => ?_
    refine l1Max_spec ?_
    exact hk _ _ hev ((hE2.trans he3).trans he4)
  refine vif_dec (fun c23 => ?_) (fun c23 => ?_)
  · obtain ⟨hl, hb, hev⟩ := M.eval_if he hs c23
    simp (disch := first | (simp only [push_cast]; done) | omega) only [push_cast, h1.ld4, hks1.iaddr]
    refine hks1.load g_impl_Term (by omega) fun x0 hx0 => ?_
    refine ih (M.kid t 0) (M.kid_mem (by omega)) (hd.ext he1) he hx0 (envX_kid (envX_ext hx he1) (M.kid_mem (by omega))) (M.good_kid hs (by omega)) fun w2 he2 => ?_
    have h2 := h1.ext he2
    have hE2 := he1.trans he2
    have hks2 := hks.ext hE2
    simp only [push_cast]
    refine vif_dec (fun b => ?_) (fun b => ?_)
    · rw [if_pos b] at hev
      simp (disch := first | (simp only [push_cast]; done) | omega) only [push_cast, h2.ld4, hks2.iaddr]
      refine hks2.load g_impl_Term (by omega) fun x1 hx1 => ?_
      refine ih (M.kid t 1) (M.kid_mem (by omega)) (hd.ext hE2) he hx1 (envX_kid (envX_ext hx hE2) (M.kid_mem (by omega))) (M.good_kid hs (by omega)) fun w3 he3 => ?_
      exact hk _ _ hev (hE2.trans he3)
    · rw [if_neg b] at hev
      simp (disch := first | (simp only [push_cast]; done) | omega) only [push_cast, h2.ld4, hks2.iaddr]
      refine hks2.load g_impl_Term (by omega) fun x1 hx1 => ?_
      refine ih (M.kid t 2) (M.kid_mem (by omega)) (hd.ext hE2) he hx1 (envX_kid (envX_ext hx hE2) (M.kid_mem (by omega))) (M.good_kid hs (by omega)) fun w3 he3 => ?_
      exact hk _ _ hev (hE2.trans he3)
  · rw [h1.ldAgg (t := T_impl_Term) g_impl_Term]
    refine l2Do_spec (G := G) (t := t) (fun k hk => ih k hk) (hd.ext he1) he ⟨ksv, rfl, hks1⟩ (envX_ext hx he1) hs (by omega) fun w2 he2 => ?_
    exact hK _ (he1.trans he2)
end Go.Proofs.YtcfgmgjofmbfhaaGreatDoor
end
section
namespace Go.Proofs.YtcfgmgjofmbfhaaGreatDoor
open Go Go.Vc Go.Proofs
variable {w : World} {K : Value → World → Prop} {F Fr F' : Nat → Prop}
def Bytes (F : Nat → Prop) (w : World) (v : Value) (xs : List Nat) : Prop := Vals F w v (xs.map fun x => Value.int .u8 (x : Nat)) ∧ ∀ x, x ∈ xs → x < 256
theorem Bytes.same {S : Nat → Prop} {w' : World} {v : Value} {xs : List Nat} (h : Bytes F w v xs) (hw : Same S w w') (hs : ∀ b, F b → b < w.heap.size → ¬ S b) : Bytes F w' v xs := ⟨h.1.same hw hs, h.2⟩
theorem Bytes.ext {w' : World} {v : Value} {xs : List Nat} (h : Bytes F w v xs) (hw : Ext w w') : Bytes F w' v xs := ⟨h.1.ext hw, h.2⟩
theorem Bytes.load {v : Value} {xs : List Nat} (h : Bytes F w v xs) {e : TypeId} (he : oneB PP e = true) {i : Nat} (hi : i < xs.length) : vload PP e (.pointer (some (eaddr v 1 i))) w K = K (.int .u8 (xs.getD i 0 : Nat)) w := by
  rw [Vals.load h.1 he (by simpa using hi)]
  simp [List.getD_eq_getElem?_getD, hi]
theorem Bytes.len {w' : World} {v : Value} {xs : List Nat} (h : Bytes F w v xs) {t : TypeId} (ht : isSl PP t = true) (ty : TypeId) : vbi PP .len [t] ty [v] w' K = K (.int .i64 xs.length) w' := by
  have := Vals.len (K := K) (w' := w') h.1 ht ty; rwa [List.length_map] at this
theorem Bytes.iaddr {w' : World} {v : Value} {xs : List Nat} (h : Bytes F w v xs) {t : TypeId} (ht : elB PP t 1 = true) {kd : IntKind} {i : Int} (h0 : 0 ≤ i) (h1 : i < xs.length) :
    viaddr PP t v (.int kd i) w' K = K (.pointer (some (eaddr v 1 i.toNat))) w' := Vals.iaddr h.1 ht h0 (by simpa using h1)
theorem Bytes.small {v : Value} {xs : List Nat} (h : Bytes F w v xs) : xs.length ≤ 9223372036854775807 := by
  obtain ⟨_, _, _, h1, h2, _⟩ := h.1.shape; simp at h1; omega
structure RdR (F : Nat → Prop) (w : World) (b : Nat) (v : Value) (xs : List Nat) (p : Nat) : Prop where
  blk : Blk w b [v, .int .i64 p] T_spec_l12Rd
  bytes : Bytes F w v xs
  apart : ¬ F b
  few : xs.length ≤ 2000
theorem RdR.same {S : Nat → Prop} {w' : World} {b p : Nat} {v : Value} {xs : List Nat} (h : RdR F w b v xs p) (hw : Same S w w') (hb : ¬ S b) (hs : ∀ b, F b → b < w.heap.size → ¬ S b) : RdR F w' b v xs p :=
  ⟨h.blk.same hw hb, h.bytes.same hw hs, h.apart, h.few⟩
theorem RdR.ext {w' : World} {b p : Nat} {v : Value} {xs : List Nat} (h : RdR F w b v xs p) (hw : Ext w w') : RdR F w' b v xs p := h.same hw id fun _ _ _ h => h
theorem pick_spec {b p : Nat} {v : Value} {xs : List Nat} {n : Int} (h : RdR F w b v xs p) (hn : n ≤ 1099511627776) (hp : p < 1099511627776)
    (hK : ∀ w' (k : Nat), Same (· = b) w w' → w'.heap.size = w.heap.size → RdR F w' b v xs (p + 1) → (1 ≤ n → (k : Int) < n) → (n < 1 → k = 0) → K (.int .i64 k) w') : vcall PP n_spec_l12Rd_pick #[.pointer (some ⟨b, 0, none⟩), .int .i64 n] w K := by
  apply c_spec_l12Rd_pick; unfold F_spec_l12Rd_pick
  have hfew := h.few
  simp (disch := (simp only [push_cast]; done)) only [push_cast, h.blk.ld1]
  have hinc : IntKind.i64.wrap ((p : Int) + 1) = ((p + 1 : Nat) : Int) := by rw [wrap64 (by omega) (by omega)]; omega
  rw [hinc]
  refine h.blk.st rfl rfl z_int rfl fun w1 hs1 hz1 hB1 => ?_
  have B1 : Blk w1 b [v, .int .i64 (p + 1 : Nat)] T_spec_l12Rd := hB1
  have hR : RdR F w1 b v xs (p + 1) := ⟨B1, h.bytes.same hs1 fun x hx _ e => h.apart (e ▸ hx), h.apart, h.few⟩
  have hx := hR.bytes
  refine vjoin_of (fun _ w' => w' = w1 ∧ 1 ≤ n ∧ xs.length ≠ 0) ?_ ?_
  · intro J hJ
    refine vif_dec (fun a => ?_) (fun a => ?_)
    · exact hK w1 0 hs1 hz1 hR (fun h => by omega) fun _ => rfl
    · simp (disch := (simp only [push_cast]; done)) only [push_cast, B1.ld0, hx.len]
      refine vif_dec (fun a2 => ?_) (fun a2 => ?_)
      · exact hK w1 0 hs1 hz1 hR (fun h => by omega) fun _ => rfl
      · exact hJ _ _ ⟨rfl, by omega, by omega⟩
  rintro _ _ _ ⟨rfl, h1, hne⟩
  simp (disch := (simp only [push_cast]; done)) only [B1.ld0, B1.ld1, vnil_ptr, fa_spec_l12Rd_0, fa_spec_l12Rd_1, addr_add, Nat.zero_add, vbin_sub, hx.len]
  rw [show ((p + 1 : Nat) : Int) - 1 = (p : Int) from by omega, wrap64 (by omega) (by omega)]
  simp only [vbin_lss]
  have hget : ∀ i, i < xs.length → xs.getD i 0 < 256 := fun i hi => hx.2 _ (by rw [List.getD_eq_getElem?_getD, List.getElem?_eq_getElem hi]; exact List.getElem_mem hi)
  have hmod : ∀ x : Nat, ((x : Int).tmod n) = ((x % n.toNat : Nat) : Int) ∧ ((x % n.toNat : Nat) : Int) < n := fun x => by
    obtain ⟨m, rfl⟩ : ∃ m : Nat, n = m := ⟨n.toNat, by omega⟩
    rw [Int.toNat_natCast]
    exact ⟨rfl, by have := Nat.mod_lt x (show 0 < m by omega); omega⟩
  refine vif_dec (fun a => ?_) (fun a => ?_)
  · simp (disch := first | (simp only [push_cast]; done) | omega) only [B1.ld0, hx.iaddr, Int.toNat_natCast, hx.load, vconv_int sm_uint8 ik_int]
    have hb := hget p (by omega)
    rw [wrap64 (by omega) (by omega), vbin_rem (by omega)]
    obtain ⟨m1, m2⟩ := hmod (xs.getD p 0)
    rw [m1]
    exact hK _ _ hs1 hz1 hR (fun _ => m2) fun h => by omega
  · refine vdraw_ext fun w2 he2 hheap => ?_
    have B2 := B1.ext he2
    have hx2 := hx.ext he2
    have hl0 : (xs.length : Int) ≠ 0 := by omega
    have e1 : ((p : Int).tmod xs.length) = ((p % xs.length : Nat) : Int) := by rw [Int.tmod_eq_emod_of_nonneg (by omega)]; rfl
    have l1 : p % xs.length < xs.length := Nat.mod_lt _ (by omega)
    have e2 : IntKind.i64.wrap ((p : Int) * 7) = ((p * 7 : Nat) : Int) := by rw [wrap64 (by omega) (by omega)]; omega
    have e3 : IntKind.i64.wrap (((p * 7 : Nat) : Int) + 3) = ((p * 7 + 3 : Nat) : Int) := by rw [wrap64 (by omega) (by omega)]; omega
    have e4 : (((p * 7 + 3 : Nat) : Int).tmod xs.length) = (((p * 7 + 3) % xs.length : Nat) : Int) := by rw [Int.tmod_eq_emod_of_nonneg (by omega)]; rfl
    have l2 : (p * 7 + 3) % xs.length < xs.length := Nat.mod_lt _ (by omega)
    have b1 := hget _ l1
    have b2 := hget _ l2
    generalize hx1 : xs.getD (p % xs.length) 0 = x1 at b1
    generalize hx2' : xs.getD ((p * 7 + 3) % xs.length) 0 = x2 at b2
    have e5 : IntKind.i64.wrap ((x1 : Nat) : Int) = ((x1 : Nat) : Int) := wrap64 (by omega) (by omega)
    have e6 : IntKind.i64.wrap ((x2 : Nat) : Int) = ((x2 : Nat) : Int) := wrap64 (by omega) (by omega)
    have e7 : IntKind.i64.wrap (((x1 : Nat) : Int) * 131) = ((x1 * 131 : Nat) : Int) := by rw [wrap64 (by omega) (by omega)]; omega
    have e8 : IntKind.i64.wrap (((x2 : Nat) : Int) * 1117) = ((x2 * 1117 : Nat) : Int) := by rw [wrap64 (by omega) (by omega)]; omega
    have e9 : IntKind.i64.wrap (((x1 * 131 : Nat) : Int) + ((x2 * 1117 : Nat) : Int)) = ((x1 * 131 + x2 * 1117 : Nat) : Int) := by rw [wrap64 (by omega) (by omega)]; omega
    have e10 : IntKind.i64.wrap ((p : Int) * 29) = ((p * 29 : Nat) : Int) := by rw [wrap64 (by omega) (by omega)]; omega
    have e11 : IntKind.i64.wrap (((x1 * 131 + x2 * 1117 : Nat) : Int) + ((p * 29 : Nat) : Int)) = ((x1 * 131 + x2 * 1117 + p * 29 : Nat) : Int) := by rw [wrap64 (by omega) (by omega)]; omega
    obtain ⟨Q, hQ⟩ : ∃ Q, Q = p / xs.length := ⟨_, rfl⟩
    have hq : Q ≤ p := by rw [hQ]; exact Nat.div_le_self _ _
    have e12 : IntKind.i64.wrap ((p : Int).tdiv xs.length) = ((Q : Nat) : Int) := by
      have : (p : Int).tdiv xs.length = (Q : Int) := by rw [hQ]; rfl
      rw [this]; exact wrap64 (by omega) (by omega)
    have e13 : IntKind.i64.wrap (((Q : Nat) : Int) * 53) = ((Q * 53 : Nat) : Int) := by rw [wrap64 (by omega) (by omega)]; omega
    have e14 : IntKind.i64.wrap (((x1 * 131 + x2 * 1117 + p * 29 : Nat) : Int) + ((Q * 53 : Nat) : Int)) = ((x1 * 131 + x2 * 1117 + p * 29 + Q * 53 : Nat) : Int) := by rw [wrap64 (by omega) (by omega)]; omega
    simp (disch := first | (simp only [push_cast]; done) | omega) only [B2.ld0, vnil_ptr, fa_spec_l12Rd_0, addr_add, Nat.zero_add, true_and, hx2.len, vbin_rem hl0, vbin_quo hl0, vbin_mul, vbin_add, e1, e2, e3, e4, e12, hx2.iaddr, Int.toNat_natCast, hx2.load, hx1, hx2', vconv_int sm_uint8 ik_int, e5, e6, e7, e8, e9, e10, e11, e13, e14]
    have hX : x1 * 131 + x2 * 1117 + p * 29 + Q * 53 < 9223372036854775808 := by omega
    generalize x1 * 131 + x2 * 1117 + p * 29 + Q * 53 = X at hX ⊢
    have e15 : IntKind.i64.wrap ((X : Int).tdiv 64) = ((X / 64 : Nat) : Int) := by
      have : (X : Int).tdiv 64 = ((X / 64 : Nat) : Int) := rfl
      rw [this]; exact wrap64 (by omega) (by omega)
    rw [vbin_quo (by omega), e15, vbin_xor64 hX (by omega), vbin_rem (by omega)]
    obtain ⟨m1, m2⟩ := hmod (X ^^^ X / 64)
    rw [m1]
    exact hK _ _ (hs1.trans (Same.of_ext he2)) (by rw [hheap]; exact hz1) (hR.ext he2) (fun _ => m2) fun h => by omega
end Go.Proofs.YtcfgmgjofmbfhaaGreatDoor
end
section
namespace Go.Proofs.YtcfgmgjofmbfhaaGreatDoor
open Go Go.Vc Go.Proofs
variable {w : World} {K : Value → World → Prop} {F F' D : Nat → Prop}
@[push_cast] theorem bd_Decl (s : ByteArray) (n : Int) : vbuild PP T_impl_Decl [(0, .string s), (1, .int .i64 n)] w K = K (.agg ⟨[.string s, .int .i64 n]⟩) w := vbuild_eq b_impl_Decl (us := [[.string s], [.int .i64 n]]) rfl rfl
@[push_cast] theorem bd_T3 (o a b : Int) : vbuild PP T_impl_Term [(0, .int .i64 o), (1, .int .i64 a), (2, .int .i64 b)] w K = K (.agg ⟨[.int .i64 o, .int .i64 a, .int .i64 b, .string ⟨#[]⟩, .slice none 0 0]⟩) w := vbuild_eq b_impl_Term (us := [[.int .i64 o], [.int .i64 a], [.int .i64 b]]) rfl rfl
@[push_cast] theorem bd_T1 (o : Int) : vbuild PP T_impl_Term [(0, .int .i64 o)] w K = K (.agg ⟨[.int .i64 o, .int .i64 0, .int .i64 0, .string ⟨#[]⟩, .slice none 0 0]⟩) w := vbuild_eq b_impl_Term (us := [[.int .i64 o]]) rfl rfl
@[push_cast] theorem bd_Tn (o : Int) (s : ByteArray) : vbuild PP T_impl_Term [(0, .int .i64 o), (3, .string s)] w K = K (.agg ⟨[.int .i64 o, .int .i64 0, .int .i64 0, .string s, .slice none 0 0]⟩) w := vbuild_eq b_impl_Term (us := [[.int .i64 o], [.string s]]) rfl rfl
@[push_cast] theorem bd_Tk (o : Int) (a : Option Addr) (l c : Nat) : vbuild PP T_impl_Term [(0, .int .i64 o), (4, .slice a l c)] w K = K (.agg ⟨[.int .i64 o, .int .i64 0, .int .i64 0, .string ⟨#[]⟩, .slice a l c]⟩) w := vbuild_eq b_impl_Term (us := [[.int .i64 o], [.slice a l c]]) rfl rfl
@[push_cast] theorem bd_Tc (o x y : Int) (a : Option Addr) (l c : Nat) : vbuild PP T_impl_Term [(0, .int .i64 o), (1, .int .i64 x), (2, .int .i64 y), (4, .slice a l c)] w K = K (.agg ⟨[.int .i64 o, .int .i64 x, .int .i64 y, .string ⟨#[]⟩, .slice a l c]⟩) w := vbuild_eq b_impl_Term (us := [[.int .i64 o], [.int .i64 x], [.int .i64 y], [.slice a l c]]) rfl rfl
theorem retTerm {b : Nat} {cs cs' : List Value} {t : TypeId} {G : Nat → Prop} {t' : M.Tm} (h : Blk w b cs t) (hl : cs.length = 5) (hc : TmR G w cs' t') (hG : ∀ x, G x → x ≠ b) (hK : ∀ w', Same (· = b) w w' → w'.heap.size = w.heap.size → TermR G w' (.agg ⟨cs'⟩) t' → K (.agg ⟨cs'⟩) w') :
    vstore PP T_impl_Term (.pointer (some ⟨b, 0, none⟩)) (.agg ⟨cs'⟩) w fun _ w1 => vlv PP T_impl_Term (.pointer (some ⟨b, 0, none⟩)) w1 fun r w2 => K r w2 := by
  refine stTerm h hl hc fun w' hw' hz' h' => ?_
  rw [h'.lv (by rw [tmR_len hc]; exact g_impl_Term)]
  exact hK w' hw' hz' (hc.same hw' fun x hx _ e => hG x hx e).term
theorem leafR {G : Nat → Prop} (o a b : Int) (s : ByteArray) : TmR G w [.int .i64 o, .int .i64 a, .int .i64 b, .string s, .slice none 0 0] (.mk o a b s []) := TmR.of (t := .mk o a b s []) TmsR.nil
abbrev DrawT (K : Value → World → Prop) (F : Nat → Prop) (w : World) (b p c : Nat) (v : Value) (xs : List Nat) : Prop := ∀ w' p' tv t, Same (· = b) w w' → RdR F w' b v xs p' → p' ≤ p + c → TermR (fun x => w.heap.size ≤ x) w' tv t → t.ks.length ≤ 3 → K tv w'
theorem same_new {b b2 : Nat} {w w1 w2 : World} (h : Same (· = b) w w1) (h2 : Same (· = b2) w1 w2) (hb : w.heap.size ≤ b2) : Same (· = b) w w2 :=
  ⟨h2.os.trans h.os, h2.tape.trans h.tape, h2.output.trans h.output, Nat.le_trans h.size h2.size, fun x hx hne => by
    rw [h2.block x (Nat.lt_of_lt_of_le hx h.size) (fun e => by subst e; omega)]; exact h.block x hx hne⟩
theorem RdR.new {b b2 p : Nat} {v : Value} {xs : List Nat} {w1 : World} (h : RdR F w b v xs p) (hs : Same (· = b2) w w1) (hb : b ≠ b2) (hF : ∀ x, F x → x ≠ b2) : RdR F w1 b v xs p := h.same hs hb fun x hx _ e => hF x hx e
end Go.Proofs.YtcfgmgjofmbfhaaGreatDoor
end
section
namespace Go.Proofs.YtcfgmgjofmbfhaaGreatDoor
open Go Go.Vc Go.Proofs
variable {w : World} {K : Value → World → Prop} {F F' D G : Nat → Prop}
theorem kidsL {css : List (List Value)} {ts : List M.Tm} (hl : css.length = ts.length) (hsm : css.length ≤ 100) (h : ∀ i, i < ts.length → TmR G w (css.getD i []) (ts.getD i default))
    (hK : ∀ w' a, Ext w w' → w'.heap.size = w.heap.size + 1 → TmsR (fun z => G z ∨ z = w.heap.size) w' (.slice a css.length css.length) ts → K (.slice a css.length css.length) w') :
    vbuildS PP T_Limpl_Term (css.map fun c => Value.agg ⟨c⟩).length ((css.map fun c => Value.agg ⟨c⟩).zipIdx.map fun p => (p.2, p.1)) w K := by
  have hwd : ∀ u, u ∈ css → u.length = 5 := fun u hu => by
    obtain ⟨i, hi, rfl⟩ := List.getElem_of_mem hu
    have := tmR_len (h i (by omega))
    rwa [List.getD_eq_getElem?_getD, List.getElem?_eq_getElem hi] at this
  refine vbuildS_row (us := css) (k := 5) u_Limpl_Term z_impl_Term zr_impl_Term (by rw [List.map_map]; rfl) hwd (by rw [List.length_map]; omega) fun b w' hb he hs hB => ?_
  rw [List.length_map]
  refine hK w' _ he hs ⟨css, ?_, hl, fun i hi => ((h i hi).ext he).weaken fun x hx _ => .inl hx⟩
  have ho : Own PP 0 5 T_Limpl_Term w' (.slice (some ⟨b, 0, none⟩) css.length css.length) css := Blk.ownk (by rw [eo_Limpl_Term]; exact hB) hwd rfl (by omega)
  exact ho.sl.weaken fun x hx _ => .inr (by have e : x = b := (Option.some.inj hx).symm; omega)
theorem kids1 {v0 : Value} {t0 : M.Tm} (h0 : TermR G w v0 t0) (hK : ∀ w' a, Ext w w' → w'.heap.size = w.heap.size + 1 → TmsR (fun z => G z ∨ z = w.heap.size) w' (.slice a 1 1) [t0] → K (.slice a 1 1) w') : vbuildS PP T_Limpl_Term 1 [(0, v0)] w K := by
  obtain ⟨c0, rfl, q0⟩ := h0.cells
  refine kidsL (css := [c0]) (ts := [t0]) rfl (by simp) (fun i hi => ?_) hK
  have : i = 0 := by simpa using hi
  subst this; exact q0
theorem kids2 {v0 v1 : Value} {t0 t1 : M.Tm} (h0 : TermR G w v0 t0) (h1 : TermR G w v1 t1) (hK : ∀ w' a, Ext w w' → w'.heap.size = w.heap.size + 1 → TmsR (fun z => G z ∨ z = w.heap.size) w' (.slice a 2 2) [t0, t1] → K (.slice a 2 2) w') : vbuildS PP T_Limpl_Term 2 [(0, v0), (1, v1)] w K := by
  obtain ⟨c0, rfl, q0⟩ := h0.cells
  obtain ⟨c1, rfl, q1⟩ := h1.cells
  refine kidsL (css := [c0, c1]) (ts := [t0, t1]) rfl (by simp) (fun i hi => ?_) hK
  match i, hi with
  | 0, _ => exact q0
  | 1, _ => exact q1
abbrev zeroT : List Value := [.int .i64 0, .int .i64 0, .int .i64 0, .string ⟨#[]⟩, .slice none 0 0]
structure Dw (F D : Nat → Prop) (w0 : World) (b b1 : Nat) (v dv : Value) (xs : List Nat) (ds : List M.Dcl) (w : World) (p : Nat) : Prop where
  same : Same (· = b) w0 w
  rd : RdR F w b v xs p
  var : Blk w b1 zeroT T_impl_Term
  dcl : DclsR D w dv ds
  old : b < w0.heap.size
  new : b1 = w0.heap.size
  size : b1 < w.heap.size
  hF : ∀ x, F x → x < w0.heap.size
  hD : ∀ x, D x → x ≠ b
  hD1 : ∀ x, D x → x < w0.heap.size
section
variable {w0 : World} {b b1 p : Nat} {v dv : Value} {xs : List Nat} {ds : List M.Dcl}
theorem Dw.step {w1 : World} {p1 : Nat} (h : Dw F D w0 b b1 v dv xs ds w p) (hs : Same (· = b) w w1) (hR : RdR F w1 b v xs p1) : Dw F D w0 b b1 v dv xs ds w1 p1 :=
  ⟨h.same.trans hs, hR, h.var.same hs (by have := h.old; have := h.new; omega), h.dcl.same hs fun x hx _ e => h.hD x hx e, h.old, h.new, Nat.lt_of_lt_of_le h.size hs.size, h.hF, h.hD, h.hD1⟩
theorem Dw.ext {w1 : World} (h : Dw F D w0 b b1 v dv xs ds w p) (he : Ext w w1) : Dw F D w0 b b1 v dv xs ds w1 p := h.step (Same.of_ext he) (h.rd.ext he)
abbrev Nw (b1 : Nat) (x : Nat) : Prop := b1 < x
theorem Dw.fin {c : Nat} {cs : List Value} {t : M.Tm} (h : Dw F D w0 b b1 v dv xs ds w p) {p0 : Nat} (hp : p ≤ p0 + c) (ht : TmR (Nw b1) w cs t) (hk3 : t.ks.length ≤ 3) (hK : DrawT K F w0 b p0 c v xs) :
    vstore PP T_impl_Term (.pointer (some ⟨b1, 0, none⟩)) (.agg ⟨cs⟩) w fun _ w1 => vlv PP T_impl_Term (.pointer (some ⟨b1, 0, none⟩)) w1 fun r w2 => K r w2 := by
  have := h.old
  have := h.new
  refine retTerm h.var rfl ht (fun x hx e => by subst e; exact Nat.lt_irrefl _ hx) fun w3 hs3 hz3 ht3 => ?_
  exact hK w3 p _ t (same_new h.same hs3 (by omega)) (h.rd.new hs3 (by omega) fun x hx e => by have := h.hF x hx; omega) hp (ht3.weaken fun x hx _ => by have hx' : b1 < x := hx; omega) hk3
theorem Dw.pick {n : Int} (h : Dw F D w0 b b1 v dv xs ds w p) (hn : n ≤ 1099511627776) (hp : p < 1099511627776) (hK : ∀ w1 (k : Nat), Dw F D w0 b b1 v dv xs ds w1 (p + 1) → Same (· = b) w w1 → (1 ≤ n → (k : Int) < n) → (n < 1 → k = 0) → K (.int .i64 k) w1) : vcall PP n_spec_l12Rd_pick #[.pointer (some ⟨b, 0, none⟩), .int .i64 n] w K :=
  pick_spec h.rd hn hp fun w1 k hs hz hR h1 h2 => hK w1 k (h.step hs hR) hs h1 h2
theorem Dw.sub {g : Nat} {args : Array Value} {c : Nat} (h : Dw F D w0 b b1 v dv xs ds w p) (hc : ∀ K', DrawT K' F w b p c v xs → vcall PP g args w K') (hK : ∀ w1 p1 tv t, Dw F D w0 b b1 v dv xs ds w1 p1 → Same (· = b) w w1 → p1 ≤ p + c → TermR (Nw b1) w1 tv t → t.ks.length ≤ 3 → K tv w1) : vcall PP g args w K :=
  hc K fun w1 p1 tv t hs hR hp ht hk3 => hK w1 p1 tv t (h.step hs hR) hs hp (ht.weaken fun x hx _ => by have := h.size; show b1 < x; omega) hk3
end
end Go.Proofs.YtcfgmgjofmbfhaaGreatDoor
end
section
namespace Go.Proofs.YtcfgmgjofmbfhaaGreatDoor
open Go Go.Vc Go.Proofs
variable {w : World} {K : Value → World → Prop} {F F' D G : Nat → Prop}
end Go.Proofs.YtcfgmgjofmbfhaaGreatDoor
end
section
namespace Go.Proofs.YtcfgmgjofmbfhaaGreatDoor
open Go Go.Vc Go.Proofs
variable {w : World} {K : Value → World → Prop} {F F' D G : Nat → Prop}
end Go.Proofs.YtcfgmgjofmbfhaaGreatDoor
end
section
namespace Go.Proofs.YtcfgmgjofmbfhaaGreatDoor
open Go Go.Vc Go.Proofs
variable {w : World} {K : Value → World → Prop} {F F' D G : Nat → Prop}
end Go.Proofs.YtcfgmgjofmbfhaaGreatDoor
end
section
namespace Go.Proofs.YtcfgmgjofmbfhaaGreatDoor
open Go Go.Vc Go.Proofs
variable {w : World} {K : Value → World → Prop} {F F' D G : Nat → Prop}
end Go.Proofs.YtcfgmgjofmbfhaaGreatDoor
end
section
namespace Go.Proofs.YtcfgmgjofmbfhaaGreatDoor
open Go Go.Vc Go.Proofs
variable {w : World} {K : Value → World → Prop} {F F' D G : Nat → Prop}
theorem run_eqb (x y : Bool) : (Op.equal T_bool (.bool x) (.bool y)).run PP w = .ok (x == y) w := by
  have hu : PP.underlying T_bool = some .bool := by kernel_rfl
  have : ∀ d, (Op.equalIn (d + 1) T_bool (.bool x) (.bool y)).run PP w = .ok (x == y) w := fun d => by
    rw [Op.equalIn, Sem.run_bind, run_underlying hu]; rfl
  exact this 9999
@[push_cast] theorem vbin_neb (b : Bool) (x y : Bool) : vbin PP .neq T_bool b (.bool x) (.bool y) w K = K (.bool (x != y)) w :=
  vbin_run rfl (by simp [binOp, run_eqb, Result.andThen, bne])
@[push_cast] theorem vbin_eqb (b : Bool) (x y : Bool) : vbin PP .eql T_bool b (.bool x) (.bool y) w K = K (.bool (x == y)) w :=
  vbin_run rfl (by simp [binOp, run_eqb, Result.andThen])
theorem dtSize {ds : List M.Dcl} {t : M.Tm} : M.tsort ds t = -1 ∨ (0 ≤ M.tsort ds t ∧ M.tsort ds t ≤ 4 ∧ M.tsort ds t = M.sortM ds t ∧ M.fits t = true ∧ M.declOk ds = true) := by
  unfold M.tsort
  split
  · rename_i h
    have := M.sort_range h.2 t
    by_cases e : M.sortM ds t = -1
    · exact .inl e
    · exact .inr ⟨by omega, by omega, rfl, h.1, h.2⟩
  · exact .inl rfl
end Go.Proofs.YtcfgmgjofmbfhaaGreatDoor
end
section
namespace Go.Proofs.YtcfgmgjofmbfhaaGreatDoor
open Go Go.Vc Go.Proofs
variable {w : World} {K : Value → World → Prop} {F F' D G : Nat → Prop}
abbrev nodeM (o : Int) (ks : List M.Tm) : M.Tm := .mk o 0 0 M.nada ks
theorem node_term {o : Int} {a : Option Addr} {l c : Nat} {ks : List M.Tm} (h : TmsR F w (.slice a l c) ks) : TermR F w (.agg ⟨[.int .i64 o, .int .i64 0, .int .i64 0, .string ⟨#[]⟩, .slice a l c]⟩) (nodeM o ks) := ⟨_, rfl, h⟩
theorem node_leaf {o : Int} : TermR F w (.agg ⟨[.int .i64 o, .int .i64 0, .int .i64 0, .string ⟨#[]⟩, .slice none 0 0]⟩) (nodeM o []) := node_term TmsR.nil
end Go.Proofs.YtcfgmgjofmbfhaaGreatDoor
end
section
namespace Go.Proofs.YtcfgmgjofmbfhaaGreatDoor
open Go Go.Vc Go.Proofs
variable {w : World} {K : Value → World → Prop} {F F' D G : Nat → Prop}
end Go.Proofs.YtcfgmgjofmbfhaaGreatDoor
end
section
namespace Go.Proofs.YtcfgmgjofmbfhaaGreatDoor
open Go Go.Vc Go.Proofs
variable {w : World} {K : Value → World → Prop} {F F' D G : Nat → Prop}
end Go.Proofs.YtcfgmgjofmbfhaaGreatDoor
end
section
namespace Go.Proofs.YtcfgmgjofmbfhaaGreatDoor
open Go Go.Vc Go.Proofs
variable {w : World} {K : Value → World → Prop} {F F' D G : Nat → Prop}
theorem flatten_setEl {k : Nat} : ∀ {xs : List (List Value)} (_ : ∀ x, x ∈ xs → x.length = k) {i : Nat} {y : List Value}, y.length = k → i < xs.length → (xs.set i y).flatten = xs.flatten.take (i * k) ++ y ++ xs.flatten.drop (i * k + k)
  | [], _, i, y, _, hi => by simp at hi
  | x :: r, h, i, y, hy, hi => by
    have hx := h x List.mem_cons_self
    cases i with
    | zero =>
      simp only [List.set_cons_zero, List.flatten_cons, Nat.zero_mul, List.take_zero, List.nil_append, Nat.zero_add]
      rw [List.drop_append, List.drop_of_length_le (by omega), List.nil_append, show k - x.length = 0 by omega, List.drop_zero]
    | succ i =>
      simp only [List.set_cons_succ, List.flatten_cons]
      have e0 : (i + 1) * k = x.length + i * k := by rw [Nat.add_mul]; omega
      have e1 : x.length + i * k + k = x.length + (i * k + k) := by omega
      rw [flatten_setEl (fun z hz => h z (List.mem_cons_of_mem _ hz)) hy (by simpa using hi), e0, e1, List.take_length_add_append, List.drop_length_add_append]
      simp only [List.append_assoc]
theorem own_stEl {P : Program} {v : Value} {k : Nat} {t e : TypeId} {xs : List (List Value)} {y : List Value} (h : Own P 0 k t w v xs) (hk : 0 < k) (hy : y.length = k) (h1 : ∀ c, c ∈ y → c.oneCell' = true) (hz : aggB P e k = true) {i : Nat} (hi : i < xs.length)
    (hK : ∀ w', Own P 0 k t w' v (xs.set i y) → Same (fun b => v.ownBlock = some b) w w' → w'.heap.size = w.heap.size → K undef w') : vstore P e (.pointer (some (eaddr v k i))) (.agg ⟨y⟩) w K := by
  have hfl := flatten_len h.wide
  rcases h.row with ⟨hr1, hr2⟩
  rcases hr2 with ⟨rfl, hn⟩ | ⟨g, cap, cur, rfl, hbg, hg, hnc, hcm, hcs, htake⟩
  · omega
  · have hik : i * k + k ≤ xs.length * k := by rw [← Nat.succ_mul]; exact Nat.mul_le_mul_right _ hi
    have hlk : xs.length * k ≤ cap * k := Nat.mul_le_mul_right _ hnc
    have hrun := run_storeCells_at (P := P) g (i * k) (elOf P t) y 0 cur w hg (by omega) h1
    have he : eaddr (.slice (some ⟨g, 0, none⟩) xs.length cap) k i = ⟨g, i * k, none⟩ := by
      simp only [eaddr, Nat.zero_add]
    rw [he]
    have hcl : cur.toList.length = cap * k := by simpa using hcs
    have hsz : (cur.toList.take (i * k + 0) ++ y ++ cur.toList.drop (i * k + 0 + y.length)).toArray.size = cap * k := by
      simp only [List.size_toArray, List.length_append, List.length_take, List.length_drop]
      omega
    have hnew : (cur.toList.take (i * k + 0) ++ y ++ cur.toList.drop (i * k + 0 + y.length)).toArray.toList.take (xs.length * k) = (xs.set i y).flatten := by
      rw [flatten_setEl h.wide hy hi, ← htake, hy]
      simp only [Nat.add_zero]
      have e1 : (cur.toList.take (i * k)).length = i * k := by rw [List.length_take]; omega
      rw [List.take_append, List.take_append, List.take_of_length_le (l := List.take (i * k) cur.toList) (by omega), List.take_of_length_le (l := y) (by omega), List.take_take, Nat.min_eq_left (by omega), List.drop_take]
      congr 2
      rw [List.length_append, List.length_take]
      omega
    refine ⟨(), _, ?_, hK (w.setRow g (cur.toList.take (i * k + 0) ++ y ++ cur.toList.drop (i * k + 0 + y.length)).toArray) ⟨?_, ?_⟩ ⟨rfl, rfl, rfl, by simp, fun q _ hq => setRow_other w g q _ (fun e => hq (by rw [e]; rfl))⟩ (by simp)⟩
    · simp only [Instr.storeAt, Instr.sureAddr, Sem.run_bind, Sem.run_pure, Result.andThen_ok, storeVar, run_sizeOf_agg hz, Value.cells]
      simp only [List.size_toArray, hy, ne_eq, not_true_eq_false, if_false]
      rw [hy] at hrun
      exact hrun
    · rw [List.length_set]
      refine ⟨?_, .inr ⟨g, cap, _, rfl, hbg, setRow_heap w g _ _ _ _ hg, hnc, hcm, hsz, hnew⟩⟩
      rw [← hnew, List.length_take]
      have := hsz
      simp only [List.size_toArray] at this
      simp only [List.toList_toArray, this]
      omega
    · intro z hz
      obtain ⟨q, hq, rfl⟩ := List.getElem_of_mem hz
      rw [List.getElem_set]
      split
      · exact hy
      · exact h.wide _ (List.getElem_mem _)
end Go.Proofs.YtcfgmgjofmbfhaaGreatDoor
end
section
namespace Go.Proofs.YtcfgmgjofmbfhaaGreatDoor
open Go Go.Vc Go.Proofs
open Go.ChangeShapes Go.WideShapes Go.ChangeAt Go.RowKit
theorem row_own : ownKnob PP.godebug = none := by kernel_rfl
theorem row_laidOut : laidOutB PP = true := by kernel_rfl
theorem ext_below {w w' : World} (h : Ext w w') : Below w.heap.size w w' := ⟨h.os, h.tape, h.output, h.size, fun k hk => h.block k hk id⟩
end Go.Proofs.YtcfgmgjofmbfhaaGreatDoor
end
section
namespace Go.Proofs.YtcfgmgjofmbfhaaGreatDoor
open Go Go.Vc Go.Proofs
open Go.ChangeShapes Go.WideShapes Go.ChangeAt Go.RowKit
variable {w : World} {K : Value → World → Prop} {F F' D G : Nat → Prop}
theorem list2 {α : Type} {l : List α} (h : l.length = 2) : ∃ a b, l = [a, b] := by
  match l, h with
  | [a, b], _ => exact ⟨a, b, rfl⟩
theorem list5 {α : Type} {l : List α} (h : l.length = 5) : ∃ a b c d e, l = [a, b, c, d, e] := by
  match l, h with
  | [a, b, c, d, e], _ => exact ⟨a, b, c, d, e, rfl⟩
theorem sl_of {w : World} {x : Addr} {k len cap : Nat} {css : List (List Value)} (hk : 0 < k) (hl : len ≤ cap) (hm : cap ≤ maxLen) (hn : css.length = len) (hw : ∀ c, c ∈ css → c.length = k)
    (hcell : ∀ i, i < len → ∀ j, j < k → w.cell? (x.add (i * k + j)) = (css.getD i [])[j]?) : Sl (fun _ => True) w k (.slice (some x) len cap) css := by
  subst hn
  refine ⟨⟨some x, cap, rfl, hl, by unfold maxLen at hm; exact hm, fun hne => ?_⟩, hw⟩
  have hlen : 0 < css.length := List.length_pos_iff.2 hne
  obtain ⟨b, off, spot⟩ := x
  have hw0 : (css.getD 0 []).length = k := hw _ (M.getD_mem hlen _)
  have hc0 := hcell 0 hlen 0 hk
  rw [List.getElem?_eq_getElem (by omega : 0 < (css.getD 0 []).length)] at hc0
  have hspot : spot = none := by simpa [Addr.add] using World.cell?_spot hc0
  subst hspot
  rw [addr_add] at hc0
  refine ⟨b, off, rfl, trivial, World.block_lt_of_cell? w _ hc0, fun i hi j v hv => ?_⟩
  have hwi : (css.getD i []).length = k := hw _ (M.getD_mem hi _)
  have hj : j < k := by rw [← hwi]; exact (List.getElem?_eq_some_iff.1 hv).1
  have hc := hcell i hi j hj
  rw [addr_add] at hc
  rw [addr_add, ← hv, ← hc, Nat.add_assoc]
section
variable {H : Type} {enc : TypeId × Value → H} {W : World} {cs : List Value} {x : DataW H × List MemPlace} {held : Bool} {fuel : Nat}
theorem us_string : PP.underlying T_string = some .string := by kernel_rfl
theorem sdDecl : PP.underlying T_laws_Decl = some (.struct #[⟨"Name", T_string, 0, false, "", "", 0⟩, ⟨"Wide", T_int, 1, false, "", "", 16⟩]) := by kernel_rfl
theorem sdTerm : PP.underlying T_laws_Term = some (.struct #[⟨"Op", T_int, 0, false, "", "", 0⟩, ⟨"A", T_int, 1, false, "", "", 8⟩, ⟨"B", T_int, 2, false, "", "", 16⟩, ⟨"Name", T_string, 3, false, "", "", 24⟩, ⟨"Kids", T_Llaws_Term, 4, false, "", "", 40⟩]) := by kernel_rfl
theorem c1_int : PP.cellsOf T_int = 1 := by kernel_rfl
theorem c1_string : PP.cellsOf T_string = 1 := by kernel_rfl
theorem c1_Ls : PP.cellsOf T_Llaws_Term = 1 := by kernel_rfl
theorem c2_Decl : PP.cellsOf T_laws_Decl = 2 := by kernel_rfl
theorem c5_Term : PP.cellsOf T_laws_Term = 5 := by kernel_rfl
def strOk : M.Tm → Bool := M.Tm.fold fun t xs => decide (t.s.size ≤ 9223372036854775807) && xs.all id
theorem strOk_eq (t : M.Tm) : strOk t = (decide (t.s.size ≤ 9223372036854775807) && (t.ks.map strOk).all id) := M.Tm.fold_eq _ t
theorem strOk_iff {t : M.Tm} : strOk t = true ↔ t.s.size ≤ 9223372036854775807 ∧ ∀ k, k ∈ t.ks → strOk k = true := by
  rw [strOk_eq, Bool.and_eq_true, decide_eq_true_eq, List.all_eq_true]
  refine and_congr_right fun _ => ⟨fun h k hk => h _ (List.mem_map_of_mem hk), fun h y hy => ?_⟩
  obtain ⟨k, hk, rfl⟩ := List.mem_map.1 hy
  exact h k hk
theorem decl_in (h : DataW.trod enc PP W 0 (fun _ => true) held fuel T_laws_Decl cs = some x) : ∃ d : M.Dcl, cs = [.string d.1, .int .i64 d.2] ∧ d.1.size ≤ 9223372036854775807 := by
  obtain ⟨xs, n, _, _, hl, hlen, hf⟩ := DataW.trod_struct sdDecl h
  rw [c2_Decl] at hl
  obtain ⟨c0, c1, rfl⟩ := list2 hl
  obtain ⟨y0, y1, rfl⟩ := list2 (α := DataW H × List MemPlace) hlen
  · · have h0 := hf 0 ⟨"Name", T_string, 0, false, "", "", 0⟩ rfl
      have h1 := hf 1 ⟨"Wide", T_int, 1, false, "", "", 16⟩ rfl
      simp only [c1_int, c1_string, List.drop_zero, List.take_succ_cons, List.take_zero, List.drop_succ_cons, List.getElem?_cons_zero, List.getElem?_cons_succ] at h0 h1
      obtain ⟨s, e0, _, hs⟩ := DataW.trod_string us_string h0
      obtain ⟨n, e1, _, _⟩ := DataW.trod_int ik_int h1
      simp only [List.cons.injEq, and_true] at e0 e1
      subst e0 e1
      exact ⟨(s, n), rfl, by simpa [maxLen] using hs⟩
theorem each_in {α : Type} [Inhabited α] {e k : Nat} {R : List Value → α → Prop} {a : Addr} {len cap n : Nat} {elems : List (DataW H × List MemPlace)} (ce : PP.cellsOf e = k) (hk : 0 < k) (hl : len ≤ cap) (hm : cap ≤ maxLen) (hn : elems.length = len)
    (hel : ∀ i, i < len → (W.cells? 0 (a.add (i * PP.cellsOf e)) (PP.cellsOf e)).bind (DataW.trod enc PP W 0 (fun _ => true) held n e) = elems[i]?)
    (hone : ∀ cs x, DataW.trod enc PP W 0 (fun _ => true) held n e cs = some x → ∃ y, R cs y) :
    ∃ (css : List (List Value)) (ys : List α), Sl (fun _ => True) W k (.slice (some a) len cap) css ∧ css.length = len ∧ ys.length = len ∧ ∀ i, i < len → R (css.getD i []) (ys.getD i default) := by
  have each : ∀ i, i < len → ∃ q : List Value × α, W.cells? 0 (a.add (i * k)) k = some q.1 ∧ R q.1 q.2 := fun i hi => by
    have h := hel i hi
    rw [List.getElem?_eq_getElem (by omega), ce] at h
    obtain ⟨cs', h1, h2⟩ := Option.bind_eq_some_iff.1 h
    obtain ⟨y, hy⟩ := hone _ _ h2
    exact ⟨(cs', y), h1, hy⟩
  obtain ⟨q, hq⟩ := Go.Deep.choose_lt each
  refine ⟨(List.range len).map fun i => (q i).1, (List.range len).map fun i => (q i).2, ?_, by simp, by simp, fun i hi => ?_⟩
  · refine sl_of hk hl hm (by simp) (fun c hc => ?_) fun i hi j hj => ?_
    · obtain ⟨i, hi, rfl⟩ := List.mem_map.1 hc
      exact (World.cells?_some (hq i (List.mem_range.1 hi)).1).2.1
    · have hc := (World.cells?_some (hq i hi).1).2.2 j hj
      rw [Go.Deep.add_add] at hc
      rw [hc]
      simp [List.getD_eq_getElem?_getD, hi]
  · have := (hq i hi).2
    simpa [List.getD_eq_getElem?_getD, hi] using this
theorem decls_in (h : DataW.trod enc PP W 0 (fun _ => true) held fuel T_Llaws_Decl cs = some x) : ∃ v ds, cs = [v] ∧ DclsR (fun _ => True) W v ds ∧ Sized ds := by
  rcases DataW.trod_slice u_Llaws_Decl h with ⟨rfl, _⟩ | ⟨a, len, cap, elems, rest, n, _, rfl, _, _, hl, hm, hn, hel, _, _⟩
  · exact ⟨_, [], rfl, ⟨⟨none, 0, rfl, by simp, by simp, fun h => absurd rfl h⟩, by simp⟩, fun i hi => absurd hi (by simp)⟩
  · obtain ⟨css, ys, hs, h1, h2, h3⟩ := each_in (α := M.Dcl) (R := fun cs d => cs = [.string d.1, .int .i64 d.2] ∧ d.1.size ≤ 9223372036854775807) c2_Decl (by decide) hl hm hn hel fun cs x hx => decl_in hx
    refine ⟨_, ys, rfl, ?_, fun i hi => ?_⟩
    · have e : css = ys.map fun d => [Value.string d.1, Value.int .i64 d.2] := by
        refine List.ext_getElem (by simp; omega) fun i g1 g2 => ?_
        have := (h3 i (by omega)).1
        rw [List.getD_eq_getElem?_getD, List.getElem?_eq_getElem g1, List.getD_eq_getElem?_getD, List.getElem?_eq_getElem (by omega)] at this
        simpa using this
      rw [e] at hs
      exact hs
    · have := (h3 i (by omega)).2
      rw [List.getD_eq_getElem?_getD, List.getElem?_eq_getElem hi] at this ⊢
      simpa using this
theorem term_in : ∀ (fuel : Nat) {cs : List Value} {x : DataW H × List MemPlace}, DataW.trod enc PP W 0 (fun _ => true) held fuel T_laws_Term cs = some x → ∃ t : M.Tm, TmR (fun _ => True) W cs t ∧ strOk t = true := by
  intro fuel
  induction fuel using Nat.strongRecOn with
  | _ fuel ih =>
  intro cs x h
  obtain ⟨xs, n, hfu, _, hl, hlen, hf⟩ := DataW.trod_struct sdTerm h
  rw [c5_Term] at hl
  obtain ⟨c0, c1, c2, c3, c4, rfl⟩ := list5 hl
  clear hl
  obtain ⟨y0, y1, y2, y3, y4, rfl⟩ := list5 (α := DataW H × List MemPlace) hlen
  · · have h0 := hf 0 ⟨"Op", T_int, 0, false, "", "", 0⟩ rfl
      have h1 := hf 1 ⟨"A", T_int, 1, false, "", "", 8⟩ rfl
      have h2 := hf 2 ⟨"B", T_int, 2, false, "", "", 16⟩ rfl
      have h3 := hf 3 ⟨"Name", T_string, 3, false, "", "", 24⟩ rfl
      have h4 := hf 4 ⟨"Kids", T_Llaws_Term, 4, false, "", "", 40⟩ rfl
      simp only [c1_int, c1_string, c1_Ls, List.drop_zero, List.take_succ_cons, List.take_zero, List.drop_succ_cons, List.getElem?_cons_zero, List.getElem?_cons_succ] at h0 h1 h2 h3 h4
      obtain ⟨o, e0, _, _⟩ := DataW.trod_int ik_int h0
      obtain ⟨p, e1, _, _⟩ := DataW.trod_int ik_int h1
      obtain ⟨q, e2, _, _⟩ := DataW.trod_int ik_int h2
      obtain ⟨s, e3, _, hs⟩ := DataW.trod_string us_string h3
      simp only [List.cons.injEq, and_true] at e0 e1 e2 e3
      subst e0 e1 e2 e3
      have hs' : s.size ≤ 9223372036854775807 := by simpa [maxLen] using hs
      rcases DataW.trod_slice u_Llaws_Term h4 with ⟨e4, _⟩ | ⟨a, len, cap, elems, rest, m, hm', e4, _, _, hl, hm, hn, hel, _, _⟩
      · simp only [List.cons.injEq, and_true] at e4
        subst e4
        exact ⟨.mk o p q s [], leafR o p q s, strOk_iff.2 ⟨hs', fun k hk => by cases hk⟩⟩
      · simp only [List.cons.injEq, and_true] at e4
        subst e4
        obtain ⟨css, ys, hsl, g1, g2, g3⟩ := each_in (α := M.Tm) (R := fun cs t => TmR (fun _ => True) W cs t ∧ strOk t = true) c5_Term (by decide) hl hm hn hel fun cs x hx => ih m (by omega) hx
        refine ⟨.mk o p q s ys, TmR.of (t := .mk o p q s ys) ⟨css, hsl, by show css.length = ys.length; omega, fun i hi => ?_⟩, strOk_iff.2 ⟨hs', fun k hk => ?_⟩⟩
        · have hi' : i < ys.length := hi
          exact (g3 i (by omega)).1
        · obtain ⟨i, hi, rfl⟩ := List.getElem_of_mem hk
          have hi' : i < ys.length := hi
          have := (g3 i (by omega)).2
          rwa [List.getD_eq_getElem?_getD, List.getElem?_eq_getElem hi'] at this
end
end Go.Proofs.YtcfgmgjofmbfhaaGreatDoor
end
section
namespace Go.Proofs.YtcfgmgjofmbfhaaGreatDoor
open Go Go.Vc Go.Proofs
variable {w : World} {K : Value → World → Prop} {F F' D G : Nat → Prop}
theorem getD_set {α : Type} {xs : List α} {i j : Nat} {x d : α} (hi : i < xs.length) : (xs.set i x).getD j d = if i = j then x else xs.getD j d := by
  simp only [List.getD_eq_getElem?_getD, List.getElem?_set]
  by_cases e : i = j
  · subst e; simp [hi]
  · simp [e]
theorem vmkS_agg {P : Program} {bs n k : Nat} {t : TypeId} {cs : List Value} {k1 k2 : IntKind} (hT : elZ P t k bs = true) (hk : 0 < k) (hz : zeroB P (elOf P t) (.agg ⟨cs⟩)) (h48 : bs * n ≤ 281474976710656) (h63 : n ≤ 9223372036854775807)
    (hK : ∀ v' w', Own P 0 k t w' v' (List.replicate n cs) → Ext w w' → (∀ b, v'.ownBlock = some b → w.heap.size ≤ b) → K v' w') : vmkS P t (.int k1 n) (.int k2 n) w K := by
  obtain ⟨hu, i, z', hi, hz', hsz, hby, hzs⟩ := elZ_eq hT
  have : z' = .agg ⟨cs⟩ := by
    unfold zeroB at hz; rw [hi] at hz; simp only [hz', Option.some.injEq] at hz; exact hz
  subst this
  subst hby
  have hcl : cs.length = k := hzs
  obtain ⟨w', hr, hown, hgr⟩ := run_make_full (P := P) w 0 t (elOf P t) i _ k hu hi hz' hsz k1 k2 n h48 (by simpa [maxLen] using h63) (by omega)
  have hw : ∀ x, x ∈ List.replicate n cs → x.length = k := fun x hx => by rw [List.eq_of_mem_replicate hx]; exact hcl
  refine ⟨_, w', hr, hK _ w' ⟨?_, hw⟩ ((Same.of_grown hgr).mono fun _ _ h => by cases h) fun b hb => by cases hb; exact Nat.le_refl _⟩
  have e : (madeCells (Value.agg ⟨cs⟩).cells (n * k)).toList = (List.replicate n cs).flatten := by
    refine List.ext_getElem (by rw [flatten_len hw]; simp [madeCells]) fun j h1 h2 => ?_
    have hj : j < n * k := by rw [flatten_len hw, List.length_replicate] at h2; exact h2
    have hq : j / k < n := Nat.div_lt_of_lt_mul (by rw [Nat.mul_comm]; exact hj)
    have hr' := Nat.mod_lt j hk
    have hf := flatten_get hw (i := j / k) (j := j % k) (by simpa using hq) hr'
    have hjk : j / k * k + j % k = j := by rw [Nat.mul_comm]; exact Nat.div_add_mod j k
    rw [hjk, List.getElem?_eq_getElem h2] at hf
    have hg : (List.replicate n cs).getD (j / k) [] = cs := by simp [List.getD_eq_getElem?_getD, hq]
    rw [hg, List.getElem?_eq_getElem (by omega)] at hf
    rw [Option.some.inj hf]
    simp [madeCells, Value.cells, hcl, hr']
  rw [List.length_replicate]
  rw [e] at hown
  exact hown
theorem szDecl_spec {s : ByteArray} {n left : Int} (h0 : 0 ≤ left) (h1 : left ≤ 1048576) (hs : s.size ≤ 9223372036854775807) (hK : ∀ w' r, Ext w w' → (r = -1 ∨ 0 ≤ r ∧ r ≤ left ∧ (s.size : Int) ≤ left) → K (.int .i64 r) w') : vcall PP n_laws_szDecl #[.agg ⟨[.string s, .int .i64 n]⟩, .int .i64 left] w K := by
  apply c_laws_szDecl; unfold F_laws_szDecl
  refine vbox_agg fun b1 w1 hb1 he1 hs1 q1 => ?_
  simp (disch := first | (simp only [push_cast]; done) | exact us_string) only [push_cast, q1.ld0, vlen_str]
  rw [show IntKind.i64.wrap (left - (s.size : Int)) = left - s.size from wrap64 (by omega) (by omega)]
  refine vif_dec (fun a => ?_) (fun a => ?_)
  · exact hK _ _ he1 (.inl rfl)
  · exact hK _ _ he1 (.inr (by omega))
theorem szDeclS_spec {v : Value} {ds : List M.Dcl} {left : Int} (h0 : 0 ≤ left) (h1 : left ≤ 1048576) (hz : Sized ds) (hd : DclsR F w v ds) (hK : ∀ w' r, Ext w w' → (r = -1 ∨ 0 ≤ r ∧ r ≤ left ∧ (ds.length : Int) ≤ left) → K (.int .i64 r) w') : vcall PP n_laws_szDeclS #[v, .int .i64 left] w K := by
  apply c_laws_szDeclS; unfold F_laws_szDeclS
  have hsm := hd.small
  simp (disch := (simp only [push_cast]; done)) only [push_cast, hd.len]
  rw [show IntKind.i64.wrap (left - (ds.length : Int)) = left - ds.length from wrap64 (by omega) (by omega)]
  refine vif_dec (fun a => hK _ _ (Same.refl _ _) (.inl rfl)) (fun a => ?_)
  refine vloop_up ds.length (fun i u w' => ∃ r : Int, u = [.int .i64 r, .int .i64 i] ∧ Ext w w' ∧ 0 ≤ r ∧ r ≤ left) ⟨_, rfl, Same.refl _ _, by omega, by omega⟩ ?_
  rintro i _ _ w1 C hi ⟨r, rfl, he, r0, r1⟩ hC
  have hd1 := hd.ext he
  simp (disch := first | (simp only [push_cast]; done) | omega) only [push_cast, hd1.len]
  refine vif_dec (fun c => ?_) (fun c => ?_)
  · simp (disch := first | (simp only [push_cast]; done) | omega) only [push_cast, hd1.iaddr, hd1.load]
    refine szDecl_spec r0 (by omega) (hz i (by omega)) fun w2 r2 he2 hr2 => ?_
    simp only [push_cast]
    refine vif_dec (fun d => hK _ _ (he.trans he2) (.inl rfl)) (fun d => ?_)
    rw [inc64' (by omega)]
    exact hC (by omega) _ _ ⟨r2, rfl, he.trans he2, by omega, by omega⟩
  · exact hK _ _ he (.inr (by omega))
def fitB : M.Tm → Bool := M.Tm.fold fun t xs => decide (t.ks.length ≤ 1048576) && xs.all id
theorem fitB_eq (t : M.Tm) : fitB t = (decide (t.ks.length ≤ 1048576) && (t.ks.map fitB).all id) := M.Tm.fold_eq _ t
theorem fitB_iff {t : M.Tm} : fitB t = true ↔ t.ks.length ≤ 1048576 ∧ ∀ k, k ∈ t.ks → fitB k = true := by
  rw [fitB_eq, Bool.and_eq_true, decide_eq_true_eq, List.all_eq_true]
  refine and_congr_right fun _ => ⟨fun h k hk => h _ (List.mem_map_of_mem hk), fun h y hy => ?_⟩
  obtain ⟨k, hk, rfl⟩ := List.mem_map.1 hy
  exact h k hk
abbrev SzT (t : M.Tm) : Prop := ∀ {w : World} {K : Value → World → Prop} {F : Nat → Prop} {v : Value} {left : Int}, TermR F w v t → strOk t = true → 0 ≤ left → left ≤ 1048576 → (∀ w' r, Ext w w' → (r = -1 ∨ 0 ≤ r ∧ r + M.sizeM t ≤ left + 1 ∧ fitB t = true) → K (.int .i64 r) w') → vcall PP n_laws_szTerm #[v, .int .i64 left] w K
theorem szTermS_of {ks : List M.Tm} (ih : ∀ k, k ∈ ks → SzT k) {v : Value} {left : Int} (hk : TmsR F w v ks) (hs : ∀ k, k ∈ ks → strOk k = true) (h0 : 0 ≤ left) (h1 : left ≤ 1048576)
    (hK : ∀ w' r, Ext w w' → (r = -1 ∨ 0 ≤ r ∧ r + M.szT ks ks.length ≤ left ∧ (ks.length : Int) ≤ left ∧ ∀ k, k ∈ ks → fitB k = true) → K (.int .i64 r) w') : vcall PP n_laws_szTermS #[v, .int .i64 left] w K := by
  apply c_laws_szTermS; unfold F_laws_szTermS
  have hsm := hk.small
  simp (disch := (simp only [push_cast]; done)) only [push_cast, hk.len]
  rw [show IntKind.i64.wrap (left - (ks.length : Int)) = left - ks.length from wrap64 (by omega) (by omega)]
  refine vif_dec (fun a => hK _ _ (Same.refl _ _) (.inl rfl)) (fun a => ?_)
  refine vloop_up ks.length (fun i u w' => ∃ r : Int, u = [.int .i64 r, .int .i64 i] ∧ Ext w w' ∧ 0 ≤ r ∧ r + M.szT ks i ≤ left - ks.length + i ∧ ∀ j, j < i → fitB (ks.getD j default) = true) ⟨_, rfl, Same.refl _ _, by omega, by show _ + ((0 : Nat) : Int) ≤ _; omega, fun j hj => absurd hj (by omega)⟩ ?_
  rintro i _ _ w1 C hi ⟨r, rfl, he, r0, r1, hp⟩ hC
  have hk1 := hk.ext he
  simp (disch := first | (simp only [push_cast]; done) | omega) only [push_cast, hk1.len]
  refine vif_dec (fun c => ?_) (fun c => ?_)
  · have hmem : ks.getD i default ∈ ks := M.getD_mem (by omega) _
    simp (disch := first | (simp only [push_cast]; done) | omega) only [push_cast, hk1.iaddr]
    refine hk1.load g_laws_Term (by omega) fun x hx => ?_
    refine ih _ hmem hx (hs _ hmem) r0 (by omega) fun w2 r2 he2 hr2 => ?_
    simp only [push_cast]
    refine vif_dec (fun d => hK _ _ (he.trans he2) (.inl rfl)) (fun d => ?_)
    rw [inc64' (by omega)]
    rcases hr2 with h | ⟨g0, g1, g2⟩
    · omega
    have hsz := M.szT_succ (ks := ks) (i := i) (by omega)
    refine hC (by omega) _ _ ⟨r2, rfl, he.trans he2, g0, by omega, fun j hj => ?_⟩
    by_cases e : j < i
    · exact hp j e
    · have : j = i := by omega
      subst this; exact g2
  · have hi' : i = ks.length := by omega
    subst hi'
    refine hK _ _ he (.inr ⟨r0, by omega, by omega, fun k hk => ?_⟩)
    obtain ⟨j, hj, rfl⟩ := List.getElem_of_mem hk
    have := hp j (by omega)
    rwa [List.getD_eq_getElem?_getD, List.getElem?_eq_getElem hj] at this
theorem szTerm_spec : ∀ t : M.Tm, SzT t := by
  refine M.Tm.ind fun t ih => ?_
  intro w K F v left ht hs h0 h1 hK
  apply c_laws_szTerm; unfold F_laws_szTerm
  obtain ⟨kv, rfl, hks⟩ := ht
  obtain ⟨s1, s2⟩ := strOk_iff.1 hs
  refine vbox_agg fun b1 w1 hb1 he1 hs1 q1 => ?_
  simp (disch := first | (simp only [push_cast]; done) | exact us_string) only [push_cast, q1.ld3, q1.ld4, vlen_str]
  rw [show IntKind.i64.wrap (left - (t.s.size : Int)) = left - t.s.size from wrap64 (by omega) (by omega)]
  refine vif_dec (fun a => hK _ _ he1 (.inl rfl)) (fun a => ?_)
  refine szTermS_of ih (hks.ext he1) s2 (by omega) (by omega) fun w2 r he2 hr => ?_
  simp only [push_cast]
  refine vif_dec (fun d => hK _ _ (he1.trans he2) (.inl rfl)) (fun d => ?_)
  rcases hr with h | ⟨g0, g1, g2, g3⟩
  · omega
  have hsz := M.szT_all t
  exact hK _ _ (he1.trans he2) (.inr ⟨g0, by omega, fitB_iff.2 ⟨by omega, g3⟩⟩)
theorem toDecl_spec {s : ByteArray} {n : Int} (hK : ∀ w', Ext w w' → K (.agg ⟨[.string s, .int .i64 n]⟩) w') : vcall PP n_laws_toDecl #[.agg ⟨[.string s, .int .i64 n]⟩] w K := by
  apply c_laws_toDecl; unfold F_laws_toDecl
  refine vbox_agg fun b1 w1 hb1 he1 hs1 h1 => ?_
  refine valloc_agg zr_impl_Decl fun b2 w2 hb2 he2 hs2 h2 => ?_
  refine valloc_agg zr_impl_Decl fun b3 w3 hb3 he3 hs3 h3 => ?_
  have q1 := (h1.ext he2).ext he3
  simp (disch := (simp only [push_cast]; done)) only [push_cast, q1.ld0]
  refine h3.st (i := 0) rfl rfl z_string rfl fun w4 hw4 hz4 h4 => ?_
  have q4 := q1.same hw4 (by omega)
  simp (disch := (simp only [push_cast]; done)) only [push_cast, q4.ld1]
  refine h4.st (i := 1) rfl rfl z_int rfl fun w5 hw5 hz5 h5 => ?_
  replace h5 : Blk w5 b3 [.string s, .int .i64 n] T_impl_Decl := h5
  rw [h5.ldAgg (t := T_impl_Decl) g_impl_Decl]
  have h25 : Same (fun b => b = b3) w3 w5 := hw4.trans hw5
  have h2' := (h2.ext he3).same h25 (by omega)
  refine stDecl h2' fun w6 hw6 hz6 h6 => ?_
  rw [h6.lv (t := T_impl_Decl) g_impl_Decl]
  refine hK _ (Ext.then (Ext.then ((he1.trans he2).trans he3) h25 fun y hy => by subst hy; omega) hw6 fun y hy => by subst hy; omega)
theorem toDeclS_own {v : Value} {ds : List M.Dcl} (hd : DclsR F w v ds) (hsm : ds.length ≤ 1048576) (hK : ∀ w' v', Ext w w' → Own PP 0 2 T_Limpl_Decl w' v' (ds.map fun d => [Value.string d.1, Value.int .i64 d.2]) → (∀ b, v'.ownBlock = some b → w.heap.size ≤ b) → K v' w') : vcall PP n_laws_toDeclS #[v] w K := by
  apply c_laws_toDeclS; unfold F_laws_toDeclS
  simp (disch := (simp only [push_cast]; done)) only [push_cast, hd.len]
  refine vmkS_agg (cs := [.string ⟨#[]⟩, .int .i64 0]) l_Limpl_Decl (by decide) (by rw [eo_Limpl_Decl]; exact zr_impl_Decl) (by omega) (by omega) fun v1 w1 hv1 he1 hn1 => ?_
  refine vloop_up ds.length (fun i u w' => u = [.int .i64 i] ∧ Ext w w' ∧ ∃ css, css.length = ds.length ∧ Own PP 0 2 T_Limpl_Decl w' v1 css ∧ ∀ j, j < i → css.getD j [] = [.string (ds.getD j dcl0).1, .int .i64 (ds.getD j dcl0).2]) ⟨rfl, he1, _, by simp, hv1, by omega⟩ ?_
  rintro i _ _ w2 C hi ⟨rfl, he2, css, hl, hv2, hp⟩ hC
  have hd2 := hd.ext he2
  simp (disch := (simp only [push_cast]; done)) only [push_cast, hd2.len]
  refine vif_dec (fun a => ?_) (fun a => ?_)
  · simp (disch := first | (simp only [push_cast]; done) | omega) only [push_cast, hd2.iaddr, hd2.load]
    refine toDecl_spec fun w3 he3 => ?_
    have hv3 := hv2.ext he3
    have hvi := hv3.sl
    simp (disch := first | (simp only [push_cast]; done) | omega) only [push_cast, hvi.iaddr]
    refine own_stEl hv3 (by decide) rfl (by intro v hv; simp only [List.mem_cons, List.not_mem_nil, or_false] at hv; rcases hv with rfl | rfl <;> rfl) g_impl_Decl (by omega) fun w4 hv4 hw4 hz4 => ?_
    rw [inc64' (by omega)]
    refine hC (by omega) _ _ ⟨rfl, Ext.then (he2.trans he3) hw4 fun b hb => hn1 b hb, _, by rw [List.length_set]; exact hl, hv4, fun j hj => ?_⟩
    rw [getD_set (by omega)]
    by_cases e : i = j
    · subst e; rw [if_pos rfl]
    · rw [if_neg e]; exact hp j (by omega)
  · have e : css = ds.map fun d => [Value.string d.1, Value.int .i64 d.2] := by
      refine List.ext_getElem (by simp; omega) fun j g1 g2 => ?_
      have := hp j (by omega)
      rw [List.getD_eq_getElem?_getD, List.getElem?_eq_getElem g1, List.getD_eq_getElem?_getD, List.getElem?_eq_getElem (by omega)] at this
      simpa using this
    subst e
    exact hK w2 v1 he2 hv2 fun b hb => hn1 b hb
theorem toDeclS_spec {v : Value} {ds : List M.Dcl} (hd : DclsR F w v ds) (hsm : ds.length ≤ 1048576) (hK : ∀ w' v', Ext w w' → DclsR (fun b => w.heap.size ≤ b) w' v' ds → K v' w') : vcall PP n_laws_toDeclS #[v] w K :=
  toDeclS_own hd hsm fun w' v' he ho hb => hK w' v' he (ho.sl.weaken fun b h _ => hb b h)
abbrev CpT (t : M.Tm) : Prop := ∀ {w : World} {K : Value → World → Prop} {F : Nat → Prop} {v : Value}, TermR F w v t → fitB t = true → (∀ w' v', Ext w w' → TermR (fun b => w.heap.size ≤ b) w' v' t → K v' w') → vcall PP n_laws_toTerm #[v] w K
theorem tmR_one {cs : List Value} {t : M.Tm} (h : TmR F w cs t) : ∀ c, c ∈ cs → c.oneCell' = true := fun c hc => by
  obtain ⟨kv', rfl, css', hs', _⟩ := h.inv
  obtain ⟨a, l, rfl, _⟩ := hs'.shape
  simp only [List.mem_cons, List.not_mem_nil, or_false] at hc
  rcases hc with rfl | rfl | rfl | rfl | rfl <;> rfl
theorem toTermS_of {ks : List M.Tm} (ih : ∀ k, k ∈ ks → CpT k) {v : Value} (hk : TmsR F w v ks) (hsm : ks.length ≤ 1048576) (hf : ∀ k, k ∈ ks → fitB k = true)
    (hK : ∀ w' v', Ext w w' → TmsR (fun b => w.heap.size ≤ b) w' v' ks → K v' w') : vcall PP n_laws_toTermS #[v] w K := by
  apply c_laws_toTermS; unfold F_laws_toTermS
  simp (disch := (simp only [push_cast]; done)) only [push_cast, hk.len]
  refine vmkS_agg (cs := zeroT) l_Limpl_Term (by decide) (by rw [eo_Limpl_Term]; exact zr_impl_Term) (by omega) (by omega) fun v1 w1 hv1 he1 hn1 => ?_
  have hz1 := he1.size
  refine vloop_up ks.length (fun i u w' => u = [.int .i64 i] ∧ Ext w w' ∧ ∃ css, css.length = ks.length ∧ Own PP 0 5 T_Limpl_Term w' v1 css ∧ ∀ j, j < i → TmR (fun b => w.heap.size ≤ b ∧ v1.ownBlock ≠ some b) w' (css.getD j []) (ks.getD j default)) ⟨rfl, he1, _, by simp, hv1, by omega⟩ ?_
  rintro i _ _ w2 C hi ⟨rfl, he2, css, hl, hv2, hp⟩ hC
  have hk2 := hk.ext he2
  have hz2 := he2.size
  simp (disch := (simp only [push_cast]; done)) only [push_cast, hk2.len]
  refine vif_dec (fun a => ?_) (fun a => ?_)
  · have hmem : ks.getD i default ∈ ks := M.getD_mem (by omega) _
    simp (disch := first | (simp only [push_cast]; done) | omega) only [push_cast, hk2.iaddr]
    refine hk2.load g_laws_Term (by omega) fun x hx => ?_
    refine ih _ hmem hx (hf _ hmem) fun w3 v3 he3 ht3 => ?_
    obtain ⟨c3, rfl, hc3⟩ := ht3.cells
    have hv3 := hv2.ext he3
    have hvi := hv3.sl
    simp (disch := first | (simp only [push_cast]; done) | omega) only [push_cast, hvi.iaddr]
    have hlt : ∀ b, v1.ownBlock = some b → b < w2.heap.size := fun b hb => (hv2.lt hb).2
    refine own_stEl hv3 (by decide) (tmR_len hc3) (tmR_one hc3) g_impl_Term (by omega) fun w4 hv4 hw4 hz4 => ?_
    rw [inc64' (by omega)]
    refine hC (by omega) _ _ ⟨rfl, Ext.then (he2.trans he3) hw4 fun b hb => hn1 b hb, _, by rw [List.length_set]; exact hl, hv4, fun j hj => ?_⟩
    rw [getD_set (by omega)]
    by_cases e : i = j
    · subst e; rw [if_pos rfl]
      refine (hc3.weaken (F' := fun b => w.heap.size ≤ b ∧ v1.ownBlock ≠ some b) fun b hb _ => ⟨by omega, fun e => by have := hlt b e; omega⟩).same hw4 fun b hb _ e => hb.2 e
    · rw [if_neg e]; exact ((hp j (by omega)).ext he3).same hw4 fun b hb _ e => hb.2 e
  · exact hK w2 v1 he2 ⟨css, hv2.sl.weaken fun b hb _ => hn1 b hb, hl, fun j hj => (hp j (by omega)).weaken fun b hb _ => hb.1⟩
theorem toTerm_spec : ∀ t : M.Tm, CpT t := by
  refine M.Tm.ind fun t ih => ?_
  intro w K F v ht hf hK
  apply c_laws_toTerm; unfold F_laws_toTerm
  obtain ⟨kv, rfl, hks⟩ := ht
  obtain ⟨f1, f2⟩ := fitB_iff.1 hf
  refine vbox_agg fun b1 w1 hb1 he1 hs1 h1 => ?_
  refine valloc_agg zr_impl_Term fun b2 w2 hb2 he2 hs2 h2 => ?_
  refine valloc_agg zr_impl_Term fun b3 w3 hb3 he3 hs3 h3 => ?_
  have q3 := (h1.ext he2).ext he3
  simp (disch := (simp only [push_cast]; done)) only [push_cast, q3.ld0]
  refine h3.st (i := 0) rfl rfl z_int rfl fun w4 hw4 hz4 h4 => ?_
  have q4 := q3.same hw4 (by omega)
  simp (disch := (simp only [push_cast]; done)) only [push_cast, q4.ld1]
  refine h4.st (i := 1) rfl rfl z_int rfl fun w5 hw5 hz5 h5 => ?_
  have q5 := q4.same hw5 (by omega)
  simp (disch := (simp only [push_cast]; done)) only [push_cast, q5.ld2]
  refine h5.st (i := 2) rfl rfl z_int rfl fun w6 hw6 hz6 h6 => ?_
  have q6 := q5.same hw6 (by omega)
  simp (disch := (simp only [push_cast]; done)) only [push_cast, q6.ld3]
  refine h6.st (i := 3) rfl rfl z_string rfl fun w7 hw7 hz7 h7 => ?_
  have q7 := q6.same hw7 (by omega)
  simp (disch := (simp only [push_cast]; done)) only [push_cast, q7.ld4]
  have h37 : Same (fun b => b = b3) w3 w7 := hw4.trans (hw5.trans (hw6.trans hw7))
  have he13 := (he1.trans he2).trans he3
  have he7 : Ext w w7 := Ext.then he13 h37 fun y hy => by subst hy; omega
  refine toTermS_of ih (hks.ext he7) f1 f2 fun w8 kv' he8 hk8 => ?_
  have h8 := h7.ext he8
  have hkc : kv'.cells = #[kv'] ∧ kv'.oneCell' = true := by
    obtain ⟨css, hs, _⟩ := hk8
    obtain ⟨a, c, rfl, _⟩ := hs.shape
    exact ⟨rfl, rfl⟩
  have hz8 := he8.size
  have hz37 := h37.size
  try simp only [push_cast]
  refine h8.st (i := 4) hkc.1 hkc.2 z_Limpl_Term rfl fun w9 hw9 hz9 h9 => ?_
  replace h9 : Blk w9 b3 [.int .i64 t.op, .int .i64 t.a, .int .i64 t.b, .string t.s, kv'] T_impl_Term := h9
  rw [h9.ldAgg (t := T_impl_Term) g_impl_Term]
  have hk9 : TmsR (fun b => w7.heap.size ≤ b) w9 kv' t.ks := hk8.same hw9 fun b hb _ e => by omega
  have h2' := (((h2.ext he3).same h37 (by omega)).ext he8).same hw9 (by omega)
  refine retTerm h2' rfl (TmR.of (t := t) hk9) (fun x hx => by omega) fun w10 hw10 hz10 ht10 => ?_
  exact hK _ _ (Ext.then (Ext.then (he7.trans he8) hw9 fun y hy => by subst hy; omega) hw10 fun y hy => by subst hy; omega) (ht10.weaken fun b hb _ => by have := he7.size; omega)
theorem eqDecl_same {s : ByteArray} {n : Int} (hK : ∀ w', Ext w w' → K (.bool true) w') : vcall PP n_laws_eqDecl #[.agg ⟨[.string s, .int .i64 n]⟩, .agg ⟨[.string s, .int .i64 n]⟩] w K := by
  apply c_laws_eqDecl; unfold F_laws_eqDecl
  refine vbox_agg fun b1 w1 hb1 he1 hs1 h1 => ?_
  refine vbox_agg fun b2 w2 hb2 he2 hs2 h2 => ?_
  have q1 := h1.ext he2
  simp (disch := (simp only [push_cast]; done)) only [push_cast, q1.ld0, h2.ld0, q1.ld1, h2.ld1]
  refine vif_dec (fun h => absurd rfl h) (fun _ => ?_)
  try simp (disch := (simp only [push_cast]; done)) only [push_cast, q1.ld0, h2.ld0, q1.ld1, h2.ld1]
  refine vif_dec (fun h => absurd rfl h) (fun _ => ?_)
  exact hK _ (he1.trans he2)
theorem eqDeclS_same {va vb : Value} {ds : List M.Dcl} (ha : DclsR F w va ds) (hb : DclsR F' w vb ds) (hK : ∀ w', Ext w w' → K (.bool true) w') : vcall PP n_laws_eqDeclS #[va, vb] w K := by
  apply c_laws_eqDeclS; unfold F_laws_eqDeclS
  have hla := ha.small
  simp (disch := (simp only [push_cast]; done)) only [push_cast, ha.len, hb.len]
  refine vif_dec (fun h => absurd rfl h) (fun h => ?_)
  refine vloop_up ds.length (fun i u w' => u = [.int .i64 i] ∧ Ext w w') ⟨rfl, Same.refl _ _⟩ ?_
  rintro i _ _ w1 C hi ⟨rfl, he⟩ hC
  have ha1 := ha.ext he
  have hb1 := hb.ext he
  simp (disch := (simp only [push_cast]; done)) only [push_cast, ha1.len]
  refine vif_dec (fun h2 => ?_) (fun h2 => ?_)
  · refine vdraw_ext fun w2 he2 _ => ?_
    have ha2 := ha1.ext he2
    have hb2 := hb1.ext he2
    simp (disch := first | (simp only [push_cast]; done) | omega) only [push_cast, ha2.iaddr, ha2.load, hb2.iaddr, hb2.load, true_and]
    refine eqDecl_same fun w3 he3 => ?_
    simp only [push_cast, Bool.not_true, true_and]
    rw [inc64' (by omega)]
    exact hC (by omega) _ _ ⟨rfl, he.trans (he2.trans he3)⟩
  · exact hK w1 he
abbrev EqT (t : M.Tm) : Prop := ∀ {w : World} {K : Value → World → Prop} {F G : Nat → Prop} {va vb : Value}, TermR F w va t → TermR G w vb t → (∀ w', Ext w w' → K (.bool true) w') → vcall PP n_laws_eqTerm #[va, vb] w K
theorem eqTermS_of {ks : List M.Tm} (ih : ∀ k, k ∈ ks → EqT k) {va vb : Value} (ha : TmsR F w va ks) (hb : TmsR F' w vb ks) (hK : ∀ w', Ext w w' → K (.bool true) w') : vcall PP n_laws_eqTermS #[va, vb] w K := by
  apply c_laws_eqTermS; unfold F_laws_eqTermS
  have hla := ha.small
  simp (disch := (simp only [push_cast]; done)) only [push_cast, ha.len, hb.len]
  refine vif_dec (fun h => absurd rfl h) (fun h => ?_)
  refine vloop_up ks.length (fun i u w' => u = [.int .i64 i] ∧ Ext w w') ⟨rfl, Same.refl _ _⟩ ?_
  rintro i _ _ w1 C hi ⟨rfl, he⟩ hC
  have ha1 := ha.ext he
  have hb1 := hb.ext he
  simp (disch := (simp only [push_cast]; done)) only [push_cast, ha1.len]
  refine vif_dec (fun h2 => ?_) (fun h2 => ?_)
  · refine vdraw_ext fun w2 he2 _ => ?_
    obtain ⟨cssa, sa, la, ka⟩ := ha1.ext he2
    obtain ⟨cssb, sb, lb, kb⟩ := hb1.ext he2
    have hmem : ks.getD i default ∈ ks := M.getD_mem (by omega) _
    have ga : aggB PP T_impl_Term 5 = true := g_impl_Term
    simp (disch := first | (simp only [push_cast]; done) | omega) only [push_cast, sa.iaddr, sa.ldAgg, sb.iaddr, sb.ldAgg, true_and]
    refine ih _ hmem (ka i (by omega)).term (kb i (by omega)).term fun w3 he3 => ?_
    simp only [push_cast, Bool.not_true, true_and]
    rw [inc64' (by omega)]
    exact hC (by omega) _ _ ⟨rfl, he.trans (he2.trans he3)⟩
  · exact hK w1 he
theorem eqTerm_same : ∀ t : M.Tm, EqT t := by
  refine M.Tm.ind fun t ih => ?_
  intro w K F G va vb ha hb hK
  apply c_laws_eqTerm; unfold F_laws_eqTerm
  obtain ⟨kva, rfl, hka⟩ := ha
  obtain ⟨kvb, rfl, hkb⟩ := hb
  refine vbox_agg fun b1 w1 hb1 he1 hs1 h1 => ?_
  refine vbox_agg fun b2 w2 hb2 he2 hs2 h2 => ?_
  have q1 := h1.ext he2
  simp (disch := (simp only [push_cast]; done)) only [push_cast, q1.ld0, h2.ld0, q1.ld1, h2.ld1, q1.ld2, h2.ld2, q1.ld3, h2.ld3, q1.ld4, h2.ld4]
  refine vif_dec (fun h => absurd rfl h) (fun _ => ?_)
  refine vif_dec (fun h => absurd rfl h) (fun _ => ?_)
  refine vif_dec (fun h => absurd rfl h) (fun _ => ?_)
  refine vif_dec (fun h => absurd rfl h) (fun _ => ?_)
  have hE := he1.trans he2
  refine eqTermS_of ih (hka.ext hE) (hkb.ext hE) fun w3 he3 => ?_
  simp only [push_cast, Bool.not_true]
  exact hK _ (hE.trans he3)
end Go.Proofs.YtcfgmgjofmbfhaaGreatDoor
end
