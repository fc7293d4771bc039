/- Rows: what slices of numbers, and slices of these, that came in tell a walk. -/
import Derived.Test.YtpihgpfebhegmaaGreatRw
import Derived.Test.YtpihgpfebhegmaaGreatLb
import Derived.Deep.Matrix
import Derived.Lib.SmallJoins
set_option linter.unusedVariables false
set_option linter.unusedSimpArgs false
set_option linter.unnecessarySimpa false
set_option linter.unusedSectionVars false
namespace Go.Proofs.YtpihgpfebhegmaaGreat
open Go Go.Vc Go.Proofs
open Go.ChangeShapes Go.WideShapes Go.ChangeAt Go.RowKit
theorem i64_wf {n : Int} (h : (Lit.int .i64 n).wf = true) : -9223372036854775808 ≤ n ∧ n ≤ 9223372036854775807 := by
  simp only [Lit.wf, Bool.and_eq_true, decide_eq_true_eq] at h
  have h1 : IntKind.i64.min = -9223372036854775808 := by decide
  have h2 : IntKind.i64.max = 9223372036854775807 := by decide
  omega
theorem ints_nil (w : World) : Ints (fun _ => True) w (.slice none 0 0) [] := ⟨⟨none, 0, rfl, by simp, by simp, fun h => absurd rfl h⟩, by simp⟩
/-- Cells behind an address, as values. -/
theorem vals_of {w : World} {x : Addr} {len cap : Nat} {vs : List Value} (hl : len ≤ cap) (hm : cap ≤ maxLen) (hz : len ≤ vs.length) (hcell : ∀ i, i < len → w.cell? (x.add i) = some (vs.getD i undef)) :
    Vals (fun _ => True) w (.slice (some x) len cap) (vs.take len) := by
  refine ⟨⟨some x, cap, ?_, ?_, by unfold maxLen at hm; exact hm, fun hne => ?_⟩, fun y hy => by obtain ⟨u, _, rfl⟩ := List.mem_map.1 hy; rfl⟩
  · simp only [List.length_map, List.length_take]; rw [Nat.min_eq_left (by omega)]
  · simp only [List.length_map, List.length_take]; omega
  · have hlen : 0 < len := by
      refine Nat.pos_of_ne_zero fun e => hne ?_
      subst e; simp
    obtain ⟨b, off, spot⟩ := x
    have hc0 := hcell 0 (by omega)
    have hspot : spot = none := by simpa [Addr.add] using World.cell?_spot hc0
    subst hspot
    refine ⟨b, off, rfl, trivial, World.block_lt_of_cell? w _ hc0, fun i hi => ?_⟩
    simp only [List.length_map, List.length_take] at hi
    intro j v hv
    have hg : ((vs.take len).map fun x => [x]).getD i [] = [vs.getD i undef] := by
      simp [List.getD_eq_getElem?_getD, List.getElem?_take, show i < len by omega, show i < vs.length by omega]
    rw [hg] at hv
    have hj : j = 0 := by
      cases j with
      | zero => rfl
      | succ j => simp at hv
    subst hj
    simp only [List.getElem?_cons_zero, Option.some.injEq] at hv
    subst hv
    have hc := hcell i (by omega)
    rw [addr_add] at hc
    rw [addr_add, Nat.add_zero, Nat.mul_one]
    exact hc
theorem ints_of {w : World} {x : Addr} {len cap : Nat} {zs : List Int} (hl : len ≤ cap) (hm : cap ≤ maxLen) (hz : zs.length = cap) (hcell : ∀ i, i < cap → w.cell? (x.add i) = some (.int .i64 (zs.getD i 0))) : Ints (fun _ => True) w (.slice (some x) len cap) (zs.take len) := by
  have := vals_of (w := w) (x := x) (vs := zs.map fun x => Value.int .i64 x) hl hm (by simp; omega) fun i hi => by
    rw [hcell i (by omega)]
    simp [List.getD_eq_getElem?_getD, show i < zs.length by omega]
  rwa [← List.map_take] at this
section
variable {H : Type} {enc : TypeId × Value → H} {W : World} {fuel : Nat} {cs : List Value} {x : DataW H × List MemPlace} {held : Bool}
theorem ints_in (h : DataW.trod enc PP W 0 (fun _ => true) held fuel T_Lint cs = some x) : ∃ v zs, cs = [v] ∧ Ints (fun _ => True) W v zs := by
  rcases open_ints u_Lint ik_int (by kernel_rfl) h with ⟨rfl, _⟩ | ⟨a, l, c, zs, rfl, _, hl, hm, hz, _, hcell, hwz⟩
  · exact ⟨_, [], rfl, ints_nil W⟩
  · have hz' : zs.length = c := by simpa using hz
    exact ⟨_, _, rfl, ints_of hl hm hz' fun i hi => hcell i (by omega)⟩
theorem lists_in (h : DataW.trod enc PP W 0 (fun _ => true) held fuel T_LLint cs = some x) : ∃ v zs, cs = [v] ∧ Lists (fun _ => True) W v zs := by
  rcases Go.Deep.open_int_rows u_LLint u_Lint ik_int (by kernel_rfl) (by kernel_rfl) h with ⟨rfl, _⟩ | ⟨a, l, c, A, L, C, Z, rfl, _, hl, hm, _, hr⟩
  · exact ⟨_, [], rfl, [], rfl, ⟨⟨none, 0, rfl, by simp, by simp, fun h => absurd rfl h⟩, by simp⟩, fun i hi => absurd hi (by simp)⟩
  · refine ⟨_, (List.range l).map fun r => (Z r).take (L r), rfl, (List.range l).map fun r => Value.slice (A r) (L r) (C r), by simp, ?_, fun i hi => ?_⟩
    · have := vals_of (w := W) (x := a) (len := l) (cap := c) (vs := (List.range l).map fun r => Value.slice (A r) (L r) (C r)) hl hm (by simp) fun i hi => by
        rw [(hr i (by omega)).1]
        simp [List.getD_eq_getElem?_getD, hi]
      rwa [List.take_of_length_le (by simp)] at this
    · simp only [List.length_map, List.length_range] at hi
      obtain ⟨_, h1, h2, h3, h4, h5, h6⟩ := hr i (by omega)
      have g1 : ((List.range l).map fun r => Value.slice (A r) (L r) (C r)).getD i undef = .slice (A i) (L i) (C i) := by simp [List.getD_eq_getElem?_getD, hi]
      have g2 : ((List.range l).map fun r => (Z r).take (L r)).getD i [] = (Z i).take (L i) := by simp [List.getD_eq_getElem?_getD, hi]
      rw [g1, g2]
      rcases hA : A i with _ | a'
      · have hc0 := h5 hA
        have hl0 : L i = 0 := by omega
        rw [hl0, hc0]
        exact ints_nil W
      · exact ints_of h1 h2 h3 (h6 a' hA).2
end
end Go.Proofs.YtpihgpfebhegmaaGreat
