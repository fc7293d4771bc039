/- Rows: what a slice of bytes that came in tells a walk. -/
import Derived.Test.YtpihgpfebhegmaaNm
import Derived.WalkKit
import Derived.ProofKit
import Derived.OpenShut
import Derived.ShutString
import Derived.ChangeOld
import Derived.Below
set_option linter.unusedVariables false
set_option linter.unusedSimpArgs false
set_option linter.unnecessarySimpa false
set_option linter.unusedSectionVars false
namespace Go.Proofs.Ytpihgpfebhegmaa
open Go Go.Vc Go.Proofs
open Go.ChangeShapes Go.WideShapes Go.ChangeAt Go.RowKit
theorem row_own : ownKnob PP.godebug = none := by kernel_rfl
theorem row_laidOut : laidOutB PP = true := by kernel_rfl
theorem ext_below {w w' : World} (h : Ext w w') : Below w.heap.size w w' := ⟨h.os, h.tape, h.output, h.size, fun k hk => h.block k hk id⟩
theorem u8_wf {n : Int} (h : (Lit.int .u8 n).wf = true) : 0 ≤ n ∧ n < 256 := by
  simp only [Lit.wf, Bool.and_eq_true, decide_eq_true_eq] at h
  have h1 : IntKind.u8.min = 0 := by decide
  have h2 : IntKind.u8.max = 255 := by decide
  omega
/-- A slice of bytes. -/
def BytesR (w : World) (v : Value) (xs : List Nat) : Prop := Vals (fun _ => True) w v (xs.map fun x => Value.int .u8 (x : Nat)) ∧ ∀ x, x ∈ xs → x < 256
theorem bytes_nil (w : World) : BytesR w (.slice none 0 0) [] := ⟨⟨⟨none, 0, rfl, by simp, by simp, fun h => absurd rfl h⟩, by simp⟩, by simp⟩
theorem bytes_of {w : World} {x : Addr} {len cap : Nat} {zs : List Int} (hl : len ≤ cap) (hm : cap ≤ maxLen) (hz : zs.length = cap) (hcell : ∀ i, i < zs.length → w.cell? (x.add i) = some (.int .u8 (zs.getD i 0))) (hwz : ∀ n, n ∈ zs → (Lit.int .u8 n).wf = true) :
    BytesR w (.slice (some x) len cap) ((zs.take len).map Int.toNat) := by
  have hmem : ∀ n, n ∈ zs.take len → 0 ≤ n ∧ n < 256 := fun n hn => u8_wf (hwz n (List.mem_of_mem_take hn))
  refine ⟨⟨⟨some x, cap, ?_, ?_, by unfold maxLen at hm; exact hm, fun hne => ?_⟩, fun y hy => by obtain ⟨u, _, rfl⟩ := List.mem_map.1 hy; rfl⟩, fun y hy => ?_⟩
  · simp only [List.length_map, List.length_take]; rw [Nat.min_eq_left (by omega)]
  · simp only [List.length_map, List.length_take]; omega
  · have hlen : 0 < len := by
      refine Nat.pos_of_ne_zero fun e => hne ?_
      subst e; simp
    obtain ⟨b, off, spot⟩ := x
    have hc0 := hcell 0 (by omega)
    have hspot : spot = none := by simpa [Addr.add] using World.cell?_spot hc0
    subst hspot
    refine ⟨b, off, rfl, trivial, World.block_lt_of_cell? w _ hc0, fun i hi => ?_⟩
    simp only [List.length_map, List.length_take] at hi
    intro j v hv
    have hit : i < (zs.take len).length := by simp only [List.length_take]; omega
    have hg : ((((zs.take len).map Int.toNat).map fun x => Value.int .u8 (x : Nat)).map fun x => [x]).getD i [] = [Value.int .u8 (((zs.take len)[i].toNat : Nat) : Int)] := by
      simp [List.getD_eq_getElem?_getD, hi]
    rw [hg] at hv
    have hj : j = 0 := by
      cases j with
      | zero => rfl
      | succ j => simp at hv
    subst hj
    simp only [List.getElem?_cons_zero, Option.some.injEq] at hv
    subst hv
    have hi2 : i < zs.length := by omega
    have hc := hcell i hi2
    have hmi := hmem _ (List.getElem_mem hit)
    have e1 : zs.getD i 0 = (zs.take len)[i] := by simp [List.getD_eq_getElem?_getD, hi2]
    rw [e1, addr_add] at hc
    rw [Int.toNat_of_nonneg hmi.1, addr_add, Nat.add_zero, Nat.mul_one]
    exact hc
  · obtain ⟨n, hn, rfl⟩ := List.mem_map.1 hy
    have := hmem n hn
    omega
end Go.Proofs.Ytpihgpfebhegmaa
