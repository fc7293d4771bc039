/- Contracts of chapter 4 of the program: clauses. -/
import Derived.Test.YtpihgpfebhegmaaLa
import Derived.Test.YtpihgpfebhegmaaM4
set_option linter.unusedVariables false
set_option linter.unusedSimpArgs false
set_option linter.unnecessarySimpa false
set_option linter.unusedSectionVars false
namespace Go.Proofs.Ytpihgpfebhegmaa
open Go Go.Vc Go.Proofs Go.M
variable {w : World} {K : Value → World → Prop} {F : Nat → Prop}

theorem of_spec {l m : Int} (h0 : 0 ≤ m) (h1 : m ≤ 9223372036854775807) (hK : K (.bool (litOk m l)) w) : vcall PP n_impl_literal_of #[.int .i64 l, .int .i64 m] w K := by
  unfold litOk at hK
  apply c_impl_literal_of; unfold F_impl_literal_of
  simp (disch := omega) only [push_cast, wrap64]
  refine vif_dec (fun a => ?_) (fun a => ?_)
  · refine vif_dec (fun b => ?_) (fun b => ?_)
    · rwa [show decide (l ≤ m) = decide (l ≠ 0 ∧ -m ≤ l ∧ l ≤ m) from decide_eq_decide.2 (by omega)]
    · rwa [decide_eq_false (by omega)] at hK
  · rwa [decide_eq_false (by omega)] at hK
theorem variable_spec {l : Int} (h0 : -9223372036854775807 ≤ l) (h1 : l ≤ 9223372036854775807) (hK : K (.int .i64 l.natAbs) w) : vcall PP n_impl_literal_variable #[.int .i64 l] w K := by
  apply c_impl_literal_variable; unfold F_impl_literal_variable
  simp (disch := omega) only [push_cast]
  refine vif_dec (fun a => ?_) (fun a => ?_)
  · simp (disch := omega) only [push_cast, wrap64]
    rwa [show 0 - l = (l.natAbs : Int) from by omega]
  · rwa [show l = (l.natAbs : Int) from by omega] 
theorem clauseOk_spec {v : Value} {xs : List Int} (hx : Ints F w v xs) {m : Int} (h0 : 0 ≤ m) (h1 : m ≤ 9223372036854775807) (hK : K (.bool (clauseOk m xs)) w) :
    vcall PP n_impl_clauseOk #[v, .int .i64 m] w K := by
  apply c_impl_clauseOk; unfold F_impl_clauseOk
  simp (disch := first | (simp only [push_cast]; done) | omega) only [push_cast, hx.len]
  have hlen : xs.length ≤ 9223372036854775807 := by obtain ⟨_, _, _, h1, h2, _⟩ := hx.shape; simp at h1; omega
  refine vloop_up xs.length (fun i u w' => u = [.int .i64 i] ∧ w' = w ∧ ∀ k, k < i → (litOk m (xs.getD k 0) && (k == 0 || decide ((xs.getD (k - 1) 0).natAbs < (xs.getD k 0).natAbs))) = true) ⟨rfl, rfl, by omega⟩ ?_
  rintro i _ g _ C hi ⟨rfl, rfl, hp⟩ hC
  simp only [push_cast]
  refine vif_dec (fun hlt => ?_) (fun hge => ?_)
  · simp (disch := first | (simp only [push_cast]; done) | omega) only [push_cast, hx.iaddr, hx.load]
    refine of_spec h0 h1 ?_
    simp only [push_cast]
    refine vif_bool (fun a => ?_) (fun a => ?_)
    · have a' : litOk m (xs.getD i 0) = false := by simpa using a
      rwa [clauseOk, allI_false (k := i) (by omega) (by rw [a']; rfl)] at hK
    · have a' : litOk m (xs.getD i 0) = true := by simpa using a
      have hm : xs.getD i 0 ≠ 0 ∧ -m ≤ xs.getD i 0 ∧ xs.getD i 0 ≤ m := by simpa only [litOk, decide_eq_true_eq] using a'
      refine vif_dec (fun b => ?_) (fun b => ?_)
      · obtain ⟨j, rfl⟩ : ∃ j, i = j + 1 := ⟨i - 1, by omega⟩
        have hprev := hp j (by omega)
        have hm' : xs.getD j 0 ≠ 0 ∧ -m ≤ xs.getD j 0 ∧ xs.getD j 0 ≤ m := by
          have := (Bool.and_eq_true _ _ ▸ hprev).1
          simpa only [litOk, decide_eq_true_eq] using this
        rw [show (((j + 1 : Nat) : Int) - 1) = (j : Int) from by omega]
        simp (disch := first | (simp only [push_cast]; done) | omega) only [push_cast, wrap64, hx.iaddr, hx.load]
        refine variable_spec (by omega) (by omega) ?_
        refine variable_spec (by omega) (by omega) ?_
        simp only [vbin_geq]
        refine vif_dec (fun c => ?_) (fun c => ?_)
        · rwa [clauseOk, allI_false (k := j + 1) (by omega) ?_] at hK
          rw [a', Bool.true_and, decide_eq_false (by simp only [Nat.add_sub_cancel]; omega)]; rfl
        · refine hC (by omega) _ _ ⟨by simp, rfl, fun k hk => ?_⟩
          by_cases h : k = j + 1
          · subst h; rw [a', Bool.true_and, decide_eq_true (by simp only [Nat.add_sub_cancel]; omega)]; simp
          · exact hp k (by omega)
      · simp (disch := omega) only [push_cast, wrap64]
        refine hC (by omega) _ _ ⟨by simp, rfl, fun k hk => ?_⟩
        by_cases h : k = i
        · have : k = 0 := by omega
          subst this; rw [← h] at a'; rw [a']; rfl
        · exact hp k (by omega)
  · rwa [clauseOk, allI_true (fun k hk => hp k (by omega))] at hK

/-- A formula in memory. -/
def CnfR (F : Nat → Prop) (w : World) (v : Value) (c : Cnf) : Prop := ∃ lv, v = .agg #[.int .i64 c.many, lv] ∧ Lists F w lv c.list
theorem CnfR.ext {v : Value} {c : Cnf} {w' : World} (h : CnfR F w v c) (hw : Ext w w') : CnfR F w' v c := by
  obtain ⟨lv, hv, hl⟩ := h; exact ⟨lv, hv, hl.ext hw⟩

theorem CnfOk_1_spec {v : Value} {xs : List Int} {b : Nat} {r : List Value} {t : TypeId} {m : Int} (hx : Ints F w v xs) (hb : Blk w b (.int .i64 m :: r) t)  (h0 : 0 ≤ m) (h1 : m ≤ 9223372036854775807)
    (hK : K (.bool (!clauseOk m xs)) w) : vcall PP n_impl_CnfOk_1 #[v, .pointer (some ⟨b, 0, none⟩)] w K := by
  apply c_impl_CnfOk_1; unfold F_impl_CnfOk_1
  simp (disch := (simp only [push_cast]; done)) only [push_cast, hb.ld0]
  refine clauseOk_spec hx h0 h1 ?_
  simp only [push_cast]
  exact hK
theorem CnfOk_spec {v : Value} {c : Cnf} (hc : CnfR F w v c) (hm : -9223372036854775808 ≤ c.many) (hm' : c.many ≤ 9223372036854775807) (hK : ∀ w', Ext w w' → K (.bool (cnfOk c)) w') : vcall PP n_impl_CnfOk #[v] w K := by
  apply c_impl_CnfOk; unfold F_impl_CnfOk
  obtain ⟨lv, rfl, hl⟩ := hc
  obtain ⟨vs, hvl, hvs, hi⟩ := hl
  refine vbox_new fun b w1 hb he hs hB => ?_
  simp only [push_cast] at hB
  have hK1 := hK w1 he
  have hvs1 := hvs.ext he
  simp (disch := (simp only [push_cast]; done)) only [push_cast, hB.ld0, hB.ld1, hvs1.len]
  refine vif_dec (fun a => ?_) (fun a => ?_)
  · rwa [cnfOk, decide_eq_false (by omega : ¬ 0 ≤ c.many), Bool.false_and, Bool.false_and, Bool.false_and] at hK1
  refine vif_dec (fun a2 => ?_) (fun a2 => ?_)
  · rwa [cnfOk, decide_eq_false (by omega : ¬ c.many ≤ 700), Bool.and_false, Bool.false_and, Bool.false_and] at hK1
  refine vif_dec (fun a3 => ?_) (fun a3 => ?_)
  · rwa [cnfOk, decide_eq_false (by omega : ¬ c.list.length ≤ 2500), Bool.and_false, Bool.false_and] at hK1
  refine ContainsFunc_LLint_Lint (p := fun k => !clauseOk c.many (c.list.getD k [])) hvs1 (fun i hi' w' K he' hK' => ?_) fun w2 he2 => ?_
  · simp only [push_cast]
    exact CnfOk_1_spec ((hi i (by omega)).ext (he.trans he')) (hB.ext he') (by omega) (by omega) (hK' _ (Same.refl _ _))
  · simp only [push_cast]
    have e : (!(List.range vs.length).any fun k => !clauseOk c.many (c.list.getD k [])) = cnfOk c := by
      rw [cnfOk, decide_eq_true (by omega : 0 ≤ c.many), decide_eq_true (by omega : c.many ≤ 700), decide_eq_true (by omega : c.list.length ≤ 2500), hvl, allI]
      rw [List.not_any_eq_all_not]; simp
    rw [e]
    exact hK w2 (he.trans he2)
end Go.Proofs.Ytpihgpfebhegmaa
