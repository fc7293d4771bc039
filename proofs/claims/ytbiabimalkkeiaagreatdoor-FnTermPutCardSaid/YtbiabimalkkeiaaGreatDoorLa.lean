/- Contracts of package slices' functions, at the types that the program uses. -/
import Derived.Test.YtbiabimalkkeiaaGreatDoorF0
import Derived.Test.YtbiabimalkkeiaaGreatDoorF1
import Derived.Test.YtbiabimalkkeiaaGreatDoorF2
import Derived.Test.YtbiabimalkkeiaaGreatDoorF3
import Derived.Test.YtbiabimalkkeiaaGreatDoorF4
set_option linter.unusedVariables false
set_option linter.unusedSimpArgs false
set_option linter.unnecessarySimpa false
set_option linter.unusedSectionVars false
namespace Go.Proofs.YtbiabimalkkeiaaGreatDoor
open Go Go.Vc Go.Proofs
variable {w : World} {K : Value → World → Prop} {F : Nat → Prop}

theorem IndexFunc_Lint_int {v f : Value} {vs : List Value} {p : Nat → Bool} (hx : Vals F w v vs) (hf : ∀ i, i < vs.length → FnB PP w f #[vs.getD i undef] (p i))
    (hK : ∀ w', Ext w w' → K (.int .i64 (idxI vs.length p)) w') : vcall PP n_slices_IndexFunc_Lint_int #[v, f] w K := by
  apply c_slices_IndexFunc_Lint_int
  unfold F_slices_IndexFunc_Lint_int
  simp (disch := first | (simp only [push_cast]; done) | omega) only [push_cast, hx.len]
  have hlen : vs.length ≤ 9223372036854775807 := by obtain ⟨_, _, _, h1, h2, _⟩ := hx.shape; simp at h1; omega
  refine vloop_up vs.length (fun i u w' => u = [.int .i64 i] ∧ Ext w w' ∧ ∀ j, j < i → p j = false) ⟨rfl, Same.refl _ _, by omega⟩ ?_
  rintro i _ g w1 C hi ⟨rfl, he, hp⟩ hC
  simp only [push_cast]
  refine vif_dec (fun hlt => ?_) (fun hge => ?_)
  · have hx1 := hx.ext he
    simp (disch := first | (simp only [push_cast]; done) | omega) only [push_cast, hx1.iaddr, hx1.load]
    refine hf i (by omega) w1 _ he fun w2 he2 => vif_bool (fun hb => ?_) (fun hb => ?_)
    · have := hK w2 (he.trans he2)
      rwa [idxI_some (by omega) hb hp] at this
    · simp (disch := omega) only [push_cast, wrap64]
      exact hC (by omega) _ _ ⟨by simp, he.trans he2, fun j hj => by
        by_cases h : j = i
        · subst h; exact hb
        · exact hp j (by omega)⟩
  · have := hK w1 he
    rwa [idxI_none (fun j hj => hp j (by omega))] at this
theorem ContainsFunc_Lint_int {v f : Value} {vs : List Value} {p : Nat → Bool} (hx : Vals F w v vs) (hf : ∀ i, i < vs.length → FnB PP w f #[vs.getD i undef] (p i))
    (hK : ∀ w', Ext w w' → K (.bool ((List.range vs.length).any p)) w') : vcall PP n_slices_ContainsFunc_Lint_int #[v, f] w K := by
  apply c_slices_ContainsFunc_Lint_int
  unfold F_slices_ContainsFunc_Lint_int
  refine IndexFunc_Lint_int hx hf fun w' he => ?_
  simp only [push_cast, idxI_nonneg]
  exact hK w' he
end Go.Proofs.YtbiabimalkkeiaaGreatDoor
