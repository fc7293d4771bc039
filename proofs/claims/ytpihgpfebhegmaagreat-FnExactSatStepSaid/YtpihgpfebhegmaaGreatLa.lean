/- Contracts of package slices' functions, at the types that the program uses. -/
import Derived.Test.YtpihgpfebhegmaaGreatF0
import Derived.Test.YtpihgpfebhegmaaGreatF1
import Derived.Test.YtpihgpfebhegmaaGreatF2
import Derived.Test.YtpihgpfebhegmaaGreatF3
set_option linter.unusedVariables false
set_option linter.unusedSimpArgs false
set_option linter.unnecessarySimpa false
set_option linter.unusedSectionVars false
namespace Go.Proofs.YtpihgpfebhegmaaGreat
open Go Go.Vc Go.Proofs
variable {w : World} {K : Value → World → Prop} {F : Nat → Prop}

theorem IndexFunc_Lint_int {v f : Value} {vs : List Value} {p : Nat → Bool} (hx : Vals F w v vs) (hf : ∀ i, i < vs.length → FnB PP w f #[vs.getD i undef] (p i))
    (hK : ∀ w', Ext w w' → K (.int .i64 (idxI vs.length p)) w') : vcall PP n_slices_IndexFunc_Lint_int #[v, f] w K := by
  apply c_slices_IndexFunc_Lint_int
  unfold F_slices_IndexFunc_Lint_int
  simp (disch := first | (simp only [push_cast]; done) | omega) only [push_cast, hx.len]
  have hlen : vs.length ≤ 9223372036854775807 := by obtain ⟨_, _, _, h1, h2, _⟩ := hx.shape; simp at h1; omega
  refine vloop_up vs.length (fun i u w' => u = [.int .i64 i] ∧ Ext w w' ∧ ∀ j, j < i → p j = false) ⟨rfl, Same.refl _ _, by omega⟩ ?_
  rintro i _ g w1 C hi ⟨rfl, he, hp⟩ hC
  simp only [push_cast]
  refine vif_dec (fun hlt => ?_) (fun hge => ?_)
  · have hx1 := hx.ext he
    simp (disch := first | (simp only [push_cast]; done) | omega) only [push_cast, hx1.iaddr, hx1.load]
    refine hf i (by omega) w1 _ he fun w2 he2 => vif_bool (fun hb => ?_) (fun hb => ?_)
    · have := hK w2 (he.trans he2)
      rwa [idxI_some (by omega) hb hp] at this
    · simp (disch := omega) only [push_cast, wrap64]
      exact hC (by omega) _ _ ⟨by simp, he.trans he2, fun j hj => by
        by_cases h : j = i
        · subst h; exact hb
        · exact hp j (by omega)⟩
  · have := hK w1 he
    rwa [idxI_none (fun j hj => hp j (by omega))] at this
theorem ContainsFunc_Lint_int {v f : Value} {vs : List Value} {p : Nat → Bool} (hx : Vals F w v vs) (hf : ∀ i, i < vs.length → FnB PP w f #[vs.getD i undef] (p i))
    (hK : ∀ w', Ext w w' → K (.bool ((List.range vs.length).any p)) w') : vcall PP n_slices_ContainsFunc_Lint_int #[v, f] w K := by
  apply c_slices_ContainsFunc_Lint_int
  unfold F_slices_ContainsFunc_Lint_int
  refine IndexFunc_Lint_int hx hf fun w' he => ?_
  simp only [push_cast, idxI_nonneg]
  exact hK w' he
theorem IndexFunc_LLint_Lint {v f : Value} {vs : List Value} {p : Nat → Bool} (hx : Vals F w v vs) (hf : ∀ i, i < vs.length → FnB PP w f #[vs.getD i undef] (p i))
    (hK : ∀ w', Ext w w' → K (.int .i64 (idxI vs.length p)) w') : vcall PP n_slices_IndexFunc_LLint_Lint #[v, f] w K := by
  apply c_slices_IndexFunc_LLint_Lint
  unfold F_slices_IndexFunc_LLint_Lint
  simp (disch := first | (simp only [push_cast]; done) | omega) only [push_cast, hx.len]
  have hlen : vs.length ≤ 9223372036854775807 := by obtain ⟨_, _, _, h1, h2, _⟩ := hx.shape; simp at h1; omega
  refine vloop_up vs.length (fun i u w' => u = [.int .i64 i] ∧ Ext w w' ∧ ∀ j, j < i → p j = false) ⟨rfl, Same.refl _ _, by omega⟩ ?_
  rintro i _ g w1 C hi ⟨rfl, he, hp⟩ hC
  simp only [push_cast]
  refine vif_dec (fun hlt => ?_) (fun hge => ?_)
  · have hx1 := hx.ext he
    simp (disch := first | (simp only [push_cast]; done) | omega) only [push_cast, hx1.iaddr, hx1.load]
    refine hf i (by omega) w1 _ he fun w2 he2 => vif_bool (fun hb => ?_) (fun hb => ?_)
    · have := hK w2 (he.trans he2)
      rwa [idxI_some (by omega) hb hp] at this
    · simp (disch := omega) only [push_cast, wrap64]
      exact hC (by omega) _ _ ⟨by simp, he.trans he2, fun j hj => by
        by_cases h : j = i
        · subst h; exact hb
        · exact hp j (by omega)⟩
  · have := hK w1 he
    rwa [idxI_none (fun j hj => hp j (by omega))] at this
theorem ContainsFunc_LLint_Lint {v f : Value} {vs : List Value} {p : Nat → Bool} (hx : Vals F w v vs) (hf : ∀ i, i < vs.length → FnB PP w f #[vs.getD i undef] (p i))
    (hK : ∀ w', Ext w w' → K (.bool ((List.range vs.length).any p)) w') : vcall PP n_slices_ContainsFunc_LLint_Lint #[v, f] w K := by
  apply c_slices_ContainsFunc_LLint_Lint
  unfold F_slices_ContainsFunc_LLint_Lint
  refine IndexFunc_LLint_Lint hx hf fun w' he => ?_
  simp only [push_cast, idxI_nonneg]
  exact hK w' he
theorem Index_Lint {v : Value} {xs : List Int} {x : Int} (hx : Ints F w v xs) (hK : K (.int .i64 (idxI xs.length fun i => xs.getD i 0 == x)) w) : vcall PP n_slices_Index_Lint_int #[v, .int .i64 x] w K := by
  apply c_slices_Index_Lint_int
  unfold F_slices_Index_Lint_int
  simp (disch := first | (simp only [push_cast]; done) | omega) only [push_cast, hx.len]
  have hlen : xs.length ≤ 9223372036854775807 := by obtain ⟨_, _, _, h1, h2, _⟩ := hx.shape; simp at h1; omega
  refine vloop_up xs.length (fun i u w' => u = [.int .i64 i] ∧ w' = w ∧ ∀ j, j < i → (xs.getD j 0 == x) = false) ⟨rfl, rfl, by omega⟩ ?_
  rintro i _ g w1 C hi ⟨rfl, rfl, hp⟩ hC
  simp only [push_cast]
  refine vif_dec (fun hlt => ?_) (fun hge => ?_)
  · simp (disch := first | (simp only [push_cast]; done) | omega) only [push_cast, hx.iaddr, hx.load]
    refine vif_dec (fun hb => ?_) (fun hb => ?_)
    · rwa [idxI_some (i := i) (by omega) (by simp [hb]) hp] at hK
    · simp (disch := omega) only [push_cast, wrap64]
      exact hC (by omega) _ _ ⟨by simp, rfl, fun j hj => by
        by_cases h : j = i
        · subst h; simp; exact fun e => hb e.symm
        · exact hp j (by omega)⟩
  · rwa [idxI_none (fun j hj => hp j (by omega))] at hK
theorem Contains_Lint {v : Value} {xs : List Int} {x : Int} (hx : Ints F w v xs) (hK : K (.bool (decide (x ∈ xs))) w) : vcall PP n_slices_Contains_Lint_int #[v, .int .i64 x] w K := by
  apply c_slices_Contains_Lint_int
  unfold F_slices_Contains_Lint_int
  refine Index_Lint hx ?_
  simp only [push_cast, idxI_nonneg]
  have : ((List.range xs.length).any fun i => xs.getD i 0 == x) = decide (x ∈ xs) := by
    rw [Bool.eq_iff_iff]
    simp only [List.any_eq_true, List.mem_range, beq_iff_eq, decide_eq_true_eq]
    constructor
    · rintro ⟨i, hi, rfl⟩; simp [List.getD_eq_getElem?_getD, hi]
    · intro h; obtain ⟨i, hi, rfl⟩ := List.getElem_of_mem h; exact ⟨i, hi, by simp [List.getD_eq_getElem?_getD, hi]⟩
  rw [this]; exact hK
theorem Equal_Lint {F' : Nat → Prop} {v v' : Value} {xs ys : List Int} (hx : Ints F w v xs) (hy : Ints F' w v' ys) (hK : ∀ w', Ext w w' → K (.bool (decide (xs = ys))) w') : vcall PP n_slices_Equal_Lint_int #[v, v'] w K := by
  apply c_slices_Equal_Lint_int
  unfold F_slices_Equal_Lint_int
  simp (disch := first | (simp only [push_cast]; done) | omega) only [push_cast, hx.len, hy.len]
  have hlen : xs.length ≤ 9223372036854775807 := by obtain ⟨_, _, _, h1, h2, _⟩ := hx.shape; simp at h1; omega
  refine vif_dec (fun hne => ?_) (fun heq => ?_)
  · have := hK w (Same.refl _ _)
    rwa [decide_eq_false (fun e => hne (by rw [e]))] at this
  · refine vloop_up xs.length (fun i u w' => u = [.int .i64 i] ∧ Ext w w' ∧ ∀ j, j < i → xs.getD j 0 = ys.getD j 0) ⟨rfl, Same.refl _ _, by omega⟩ ?_
    rintro i _ g w1 C hi ⟨rfl, he, hp⟩ hC
    simp only [push_cast]
    refine vif_dec (fun hlt => vdraw_ext fun w2 he2 _ => ?_) (fun hge => ?_)
    · have hx1 := hx.ext (he.trans he2)
      have hy1 := hy.ext (he.trans he2)
      simp (disch := first | (simp only [push_cast]; done) | omega) only [push_cast, hx1.iaddr, hx1.load, hy1.iaddr, hy1.load, true_and]
      refine vif_dec (fun hb => ?_) (fun hb => ?_)
      · have := hK w2 (he.trans he2)
        rwa [decide_eq_false (fun e => hb (by rw [e]))] at this
      · simp (disch := omega) only [push_cast, wrap64]
        exact hC (by omega) _ _ ⟨by simp, he.trans he2, fun j hj => by
          by_cases h : j = i
          · subst h; omega
          · exact hp j (by omega)⟩
    · have := hK w1 he
      rwa [decide_eq_true (List.ext_getElem (by omega) fun j h1 h2 => by have := hp j (by omega); simpa [List.getD_eq_getElem?_getD, h1, h2] using this)] at this
end Go.Proofs.YtpihgpfebhegmaaGreat
