/- Contracts of chapter 5: the closures of learning and resolving. -/
import Derived.Test.YtpihgpfebhegmaaLf
import Derived.Test.YtpihgpfebhegmaaLg
set_option linter.unusedVariables false
set_option linter.unusedSimpArgs false
set_option linter.unnecessarySimpa false
set_option linter.unusedSectionVars false
namespace Go.Proofs.Ytpihgpfebhegmaa
open Go Go.Vc Go.Proofs Go.M
variable {w : World} {K : Value → World → Prop} {F Fr : Nat → Prop} {many bs : Nat} {c : Cnf} {s : Sat} {σ : SV}
theorem learn_2_spec {a b : Int} (ha : a.natAbs ≤ 700) (hb : b.natAbs ≤ 700) (hK : K (.int .i64 (cmpI a.natAbs b.natAbs)) w) : vcall PP n_impl_search_learn_2 #[.int .i64 a, .int .i64 b] w K := by
  apply c_impl_search_learn_2; unfold F_impl_search_learn_2
  exact variable_spec (by omega) (by omega) (variable_spec (by omega) (by omega) (Compare_int hK))
/-- The place of a literal on the trail, from 0; -1 if it is not there. -/
def plM (put : List Int) (a : Int) : Int := (placeOf put a.natAbs : Int) - 1
theorem learn_1_spec {a b : Int} {p : Nat} {t : TypeId} {r : List Value} (h : SR Fr w bs many c s σ) (hp : Blk w p (.pointer (some ⟨bs, 0, none⟩) :: r) t) (ha : a.natAbs ≤ many) (hb : b.natAbs ≤ many)
    (hK : ∀ w', Ext w w' → K (.int .i64 (cmpI (plM s.put a) (plM s.put b))) w') : vcall PP n_impl_search_learn_1 #[.int .i64 a, .int .i64 b, .pointer (some ⟨p, 0, none⟩)] w K := by
  apply c_impl_search_learn_1; unfold F_impl_search_learn_1
  refine vdraw_ext fun w1 he1 _ => ?_
  have h1 := h.ext he1
  have hp1 := hp.ext he1
  simp (disch := (simp only [push_cast]; done)) only [push_cast, hp1.ld0, h1.blk.ld2, true_and]
  refine place_spec h1.tr ha fun w2 he2 => ?_
  have h2 := h1.ext he2
  have hp2 := hp1.ext he2
  simp (disch := (simp only [push_cast]; done)) only [push_cast, hp2.ld0, h2.blk.ld2, true_and, and_self]
  exact place_spec h2.tr hb fun w3 he3 => Compare_int (hK w3 (he1.trans (he2.trans he3)))
theorem resolve_1_spec {a : Int} {p : Nat} {t : TypeId} {r : List Value} (h : SR Fr w bs many c s σ) (hp : Blk w p (.pointer (some ⟨bs, 0, none⟩) :: r) t) (ha : a.natAbs ≤ many) (ha2 : placeOf s.put a.natAbs ≠ 0)
    (hK : ∀ w', Ext w w' → K (.bool (decide (0 < lvM s.put (decs s.why) a))) w') : vcall PP n_impl_search_resolve_1 #[.int .i64 a, .pointer (some ⟨p, 0, none⟩)] w K := by
  apply c_impl_search_resolve_1; unfold F_impl_search_resolve_1
  simp (disch := (simp only [push_cast]; done)) only [push_cast, hp.ld0, h.blk.ld2]
  refine level_spec h.tr ha ha2 fun w1 he1 => ?_
  have := hK w1 he1
  simp only [push_cast]
  rwa [show decide ((0 : Int) < (lvl (decs s.why) (placeOf s.put a.natAbs - 1) : Nat)) = decide (0 < lvM s.put (decs s.why) a) from decide_eq_decide.2 (by unfold lvM; omega)]
end Go.Proofs.Ytpihgpfebhegmaa
