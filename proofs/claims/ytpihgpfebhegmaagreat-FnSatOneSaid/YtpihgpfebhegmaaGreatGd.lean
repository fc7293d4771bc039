/- The law FnSatLess: fewer clauses admit an earlier model. -/
import Derived.Test.YtpihgpfebhegmaaGreatGc
set_option linter.unusedVariables false
set_option linter.unusedSimpArgs false
set_option linter.unnecessarySimpa false
set_option linter.unusedSectionVars false
namespace Go.Vc
open Go
variable {P : Program} {t : TypeId} {w : World} {v : Value} {vs : List Value} {F : Nat → Prop}
theorem Vals.part (h : Vals F w v vs) (hne : vs ≠ []) (ht : elB P t 1 = true) {n : Nat} (hn : n ≤ vs.length) : ∃ v1, (∀ (kd : IntKind) (w' : World) (K : Value → World → Prop), vslice P t v none (some (.int kd n)) none w' K = K v1 w') ∧ Vals F w v1 (vs.take n) := by
  obtain ⟨hu, hs⟩ := elB_el ht
  obtain ⟨a, c, rfl, hc, hcm, hcell⟩ := h.shape
  obtain ⟨b, o, rfl, hF, hb, hcl⟩ := hcell (by simpa using hne)
  rw [List.length_map] at hc hcl
  refine ⟨.slice (some ⟨b, o, none⟩) n c, fun kd w' K => vrun_eq ?_, ⟨some ⟨b, o, none⟩, c, ?_, ?_, hcm, fun _ => ⟨b, o, rfl, hF, hb, fun i hi => ?_⟩⟩, fun x hx => by obtain ⟨u, _, rfl⟩ := List.mem_map.1 hx; rfl⟩
  · rw [run_sliceAt_slice w' t _ _ _ _ hu, run_slice_h w' t _ _ _ hu kd n (by omega) (by omega), run_sizeOf hs]
    simp [Result.andThen, sliced]
    exact fun _ => rfl
  · simp; omega
  · simp; omega
  · simp only [List.length_map, List.length_take] at hi
    have := hcl i (by omega)
    have e : (List.map (fun x => [x]) (vs.take n)).getD i [] = (List.map (fun x => [x]) vs).getD i [] := by
      simp [List.getD_eq_getElem?_getD, List.getElem?_take, show i < n by omega]
    rw [e]; exact this
theorem Vals.rest (h : Vals F w v vs) (hne : vs ≠ []) (ht : elB P t 1 = true) {n : Nat} (hn : n ≤ vs.length) : ∃ v1, (∀ (kd : IntKind) (w' : World) (K : Value → World → Prop), vslice P t v (some (.int kd n)) none none w' K = K v1 w') ∧ Vals F w v1 (vs.drop n) := by
  obtain ⟨hu, hs⟩ := elB_el ht
  obtain ⟨a, c, rfl, hc, hcm, hcell⟩ := h.shape
  obtain ⟨b, o, rfl, hF, hb, hcl⟩ := hcell (by simpa using hne)
  rw [List.length_map] at hc hcl
  refine ⟨sliced (some ⟨b, o, none⟩) n vs.length c 1, fun kd w' K => vrun_eq ?_, ?_⟩
  · rw [run_sliceAt_slice w' t _ _ _ _ hu, run_slice_l w' t _ _ _ hu kd n (by omega) (by simp; omega), run_sizeOf hs]
    simp [Result.andThen]
  · refine ⟨⟨_, c - n, rfl |> fun (_ : True = True) => by simp [sliced]; rfl, by simp; omega, by omega, fun hne2 => ?_⟩, fun x hx => by obtain ⟨u, _, rfl⟩ := List.mem_map.1 hx; rfl⟩
    have hlt : n < vs.length := by
      refine Nat.lt_of_not_le fun h2 => hne2 ?_
      rw [List.drop_of_length_le h2]; rfl
    rw [if_neg (by omega)]
    refine ⟨b, o + n, by simp [addr_add], hF, hb, fun i hi => ?_⟩
    simp only [List.length_map, List.length_drop] at hi
    have := hcl (n + i) (by omega)
    have e : (List.map (fun x => [x]) (vs.drop n)).getD i [] = (List.map (fun x => [x]) vs).getD (n + i) [] := by
      simp [List.getD_eq_getElem?_getD, List.getElem?_drop]
    rw [e, show o + n + i * 1 = o + (n + i) * 1 by omega]; exact this
end Go.Vc
namespace Go.Proofs.YtpihgpfebhegmaaGreat
open Go Go.Vc Go.Proofs Go.M
variable {w : World} {K : Value → World → Prop} {F Fr F' : Nat → Prop} {c : Cnf} {s : Sat}
theorem valsM_get {many j : Nat} {put : List Int} (h : j < many) : (valsM many put).getD j false = wayM put (j + 1) := by
  unfold valsM wayM
  rw [List.getD_eq_getElem?_getD, List.getElem?_map, List.getElem?_range h]
  rfl
theorem valsM_len (many : Nat) (put : List Int) : (valsM many put).length = many := by simp [valsM]
end Go.Proofs.YtpihgpfebhegmaaGreat
