/- The plain mathematics of the reference's search: signs of variables. No program in sight. -/
import Derived.Test.YtpihgpfebhegmaaM8
set_option linter.unusedVariables false
set_option linter.unusedSimpArgs false
set_option linter.unnecessarySimpa false
set_option linter.unusedSectionVars false
namespace Go.M
theorem take_snoc' {α : Type} {xs : List α} {d : α} {i : Nat} (h : i < xs.length) : xs.take (i + 1) = xs.take i ++ [xs.getD i d] := by
  rw [List.take_add_one]; simp [List.getD_eq_getElem?_getD, h]
/-- The sign of a variable on a trail. -/
def sgnV (put : List Int) (v : Nat) : Int := if (v : Int) ∈ put then 1 else if -(v : Int) ∈ put then -1 else 0
def signs (many : Nat) (put : List Int) : List Int := (List.range (many + 1)).map (sgnV put)
theorem signs_len (many : Nat) (put : List Int) : (signs many put).length = many + 1 := by simp [signs]
theorem signs_get {many : Nat} {put : List Int} {v : Nat} (h : v ≤ many) : (signs many put).getD v 0 = sgnV put v := by
  simp [signs, List.getD_eq_getElem?_getD, show v < many + 1 by omega]
theorem signs_nil (many : Nat) : signs many [] = List.replicate (many + 1) 0 := by
  refine List.ext_getElem (by simp [signs]) fun i h1 h2 => ?_
  simp [signs, sgnV]
theorem mem_place {put : List Int} {l : Int} (h : l ∈ put ∨ -l ∈ put) : placeOf put l.natAbs ≠ 0 := by
  rcases h with h | h
  · exact placeOf_ne_zero h
  · have := placeOf_ne_zero h; rwa [Int.natAbs_neg] at this
theorem place_mem {put : List Int} {l : Int} (h : placeOf put l.natAbs ≠ 0) : l ∈ put ∨ -l ∈ put := by
  by_cases hl : l ∈ put
  · exact .inl hl
  · exact .inr (false_of h hl)
theorem signs_snoc {many : Nat} {put : List Int} {l : Int} (h0 : l ≠ 0) (h : placeOf put l.natAbs = 0) : signs many (put ++ [l]) = (signs many put).set l.natAbs (if 0 < l then 1 else -1) := by
  refine List.ext_getElem (by simp [signs]) fun i h1 h2 => ?_
  rw [List.getElem_set]
  simp only [signs, List.getElem_map, List.getElem_range, sgnV, List.mem_append, List.mem_singleton]
  have hn : ¬ (l ∈ put ∨ -l ∈ put) := fun e => mem_place e h
  by_cases hi : l.natAbs = i
  · rw [if_pos hi]
    by_cases hp : 0 < l
    · rw [if_pos hp, if_pos (.inr (by omega))]
    · rw [if_neg hp, if_neg ?_, if_pos (.inr (by omega))]
      rintro (e | e)
      · exact hn (.inr (by rwa [show -l = (i : Int) from by omega]))
      · omega
  · rw [if_neg hi]
    have e1 : ¬ (i : Int) = l := by omega
    have e2 : ¬ -(i : Int) = l := by omega
    simp only [e1, e2, or_false]
/-- The sign of a literal. -/
def sgnL (put : List Int) (m : Int) : Int := if m ∈ put then 1 else if placeOf put m.natAbs = 0 then 0 else -1
theorem sgn_pos {many : Nat} {put : List Int} (hm : marksOk many put) {m : Int} (h : 0 < m) : sgnV put m.natAbs = sgnL put m := by
  unfold sgnV sgnL
  rw [show ((m.natAbs : Nat) : Int) = m from by omega]
  by_cases h1 : m ∈ put
  · rw [if_pos h1, if_pos h1]
  rw [if_neg h1, if_neg h1]
  by_cases h2 : -m ∈ put
  · rw [if_pos h2, if_neg (mem_place (.inr h2))]
  · rw [if_neg h2, if_pos (Decidable.byContradiction fun h3 => (place_mem h3).elim h1 h2)]
theorem sgn_neg {many : Nat} {put : List Int} (hm : marksOk many put) {m : Int} (h : m < 0) : -(sgnV put m.natAbs) = sgnL put m := by
  unfold sgnV sgnL
  rw [show ((m.natAbs : Nat) : Int) = -m from by omega, Int.neg_neg]
  by_cases h2 : -m ∈ put
  · rw [if_pos h2, if_neg (fun h1 => hm.neg h1 h2), if_neg (mem_place (.inr h2))]
  rw [if_neg h2]
  by_cases h1 : m ∈ put
  · rw [if_pos h1, if_pos h1]; rfl
  · rw [if_neg h1, if_neg h1, if_pos (Decidable.byContradiction fun h3 => (place_mem h3).elim h1 h2)]; rfl
theorem sgnL_range (put : List Int) (m : Int) : -1 ≤ sgnL put m ∧ sgnL put m ≤ 1 := by
  unfold sgnL; split <;> (try split) <;> omega
theorem sgnV_range (put : List Int) (m : Nat) : -1 ≤ sgnV put m ∧ sgnV put m ≤ 1 := by
  unfold sgnV; split <;> (try split) <;> omega
end Go.M
