/- PROVED: whatever arguments it is given, the law FnExactTermRead returns true (the program's TermRead returns what the reference's returns), and its arguments read afterwards as they read before. No condition. -/
import Derived.Test.YtaemeijeaajoeaaGreatDoorWrbP2
import Derived.Test.YtaemeijeaajoeaaGreatDoorRows
import Derived.Test.YtaemeijeaajoeaaGreatDoorCards
import Derived.Test.YtaemeijeaajoeaaGreatDoorTie
import Derived.SevenTiedAt
import Derived.LaidMore
import Derived.Lay
import Derived.Test.YtaemeijeaajoeaaGreatDoorWrbP6
set_option linter.unusedVariables false
set_option linter.unusedSimpArgs false
set_option linter.unnecessarySimpa false
set_option linter.unusedSectionVars false
namespace Go.Proofs.YtaemeijeaajoeaaGreatDoor.fnExactTermRead
open Go Go.Vc Go.Proofs
open Go.ChangeShapes Go.WideShapes Go.ChangeAt Go.RowKit
theorem walk (W : World) (v0 v1 : Value) (y0 : List M.Dcl) (h0 : DclsR (fun _ => True) W v0 y0) (z0 : J6 y0) (y1 : ByteArray) (h1 : v1 = .string y1) (sy : SynR W) : Calls PP 3 #[v0, v1] W fun e w' => e = .returned (.bool true) ∧ Below W.heap.size W w' := by
  subst h1
  have := FnExactTermRead_spec (w := W) (K := fun v w' => v = .bool true ∧ Ext W w') h0 z0 (s := y1) sy fun w' he => ⟨rfl, he⟩
  refine Calls.mono this.2 fun e w' he => ?_
  cases e with
  | returned v => exact ⟨by rw [he.1], V4 he.2⟩
  | panicked c => exact he.elim
  | outgrown => exact he.elim
set_option maxRecDepth 100000 in
theorem lifted (os : Os) (started : os.Started) (H : Type) (enc : TypeId × Value → H) :
    ReturnsInHanded {} Tryz.checked os 3 .any (fun w args => (Rows.fnExactTermReadSpec.pre enc Tryz.prog Tryz.f3 Rows.fnExactTermReadRow.domain false w args ∧ laidMetH Tryz.prog Rows.fnExactTermReadRow.laid w) ∧ sizedMet enc Tryz.prog Tryz.f3 (OpenSpec.ofChange Rows.fnExactTermReadSpec) false w args) (Rows.fnExactTermReadSpec.post enc Tryz.prog Tryz.f3 false true false false) := by
  refine returnsInHanded_of_change_and (C := Tryz.checked) (X := fun w _ => laidMetH Tryz.prog Rows.fnExactTermReadRow.laid w) (fun _ _ _ hh h => h.of_heap hh) Wt started (by kernel_rfl) Tryz.func3
    (ChangeSpec.witness_shaped (enc := enc) (C := Tryz.checked) (os := os) (X := fun w _ => laidMetH Tryz.prog Rows.fnExactTermReadRow.laid w) false (World.laidAll Tryz.prog os Rows.fnExactTermReadRow.laid) #[.slice none 0 0, .string ⟨#[]⟩] 8 (World.laidAll_os _ _ _)
      (World.shaped_of_ZipB (by kernel_rfl) (by kernel_rfl)) (by kernel_rfl) (by kernel_rfl) (by kernel_rfl)
      (by rw [MakeChecks.laidMetH_plain _ _ _ (by kernel_rfl)]; exact laidMet_laidAll _ (by kernel_rfl) (by kernel_rfl))) ?_
  intro W base args ds gs before hval0 hW hcnd _ hL _
  have hval : ∀ (j : Nat) t v, Tryz.f3.params[j]? = some t → args[j]? = some v → Value.okWide Tryz.prog W .any base t v := hval0
  have hW' := hW
  obtain ⟨p, q, hA0, hV, rfl, hfz, hnd⟩ := hW
  have hA : DataW.TrodAll enc Tryz.prog W 0 (fun _ => true) true Tryz.f3.params.toList args.toList ds p := hA0
  rw [Tryz.params3] at hA hval
  obtain ⟨v0, vs0, d0, ds0, p0, q0, hargs0, rfl, rfl, h0, r0⟩ := trodAll_cons hA
  obtain ⟨v1, vs1, d1, ds1, p1, q1, hargs1, rfl, rfl, h1, r1⟩ := trodAll_cons r0
  obtain ⟨rfl, rfl, rfl⟩ := trodAll_nil r1
  obtain rfl : args = #[v0, v1] := by cases args; simp_all
  obtain ⟨rfl, rfl⟩ := trodVars_none hV
  have hL' : laidMet PP Rows.fnExactTermReadRow.laid W := by rw [← MakeChecks.laidMetH_plain _ _ _ (by kernel_rfl)]; exact hL
  have sy : SynR W := U0 hL' 5 4 rfl rfl (by kernel_rfl) (by kernel_rfl) (by kernel_rfl) (by kernel_rfl)
  have k0 := h0
  have lt0 : ∀ x ∈ p0, x.block < W.heap.size := by obtain ⟨m, hm⟩ := k0; exact DataW.trod_lt m _ _ _ hm
  have k1 := h1
  have lt1 : ∀ x ∈ p1, x.block < W.heap.size := by obtain ⟨m, hm⟩ := k1; exact DataW.trod_lt m _ _ _ hm
  obtain ⟨y0, g0, z0⟩ : ∃ dd, DclsR (fun _ => True) W v0 dd ∧ J6 dd := by
    obtain ⟨a, l, c, rfl⟩ := okWide_slice YA (hval 0 ye v0 rfl rfl)
    obtain ⟨fuel, hf⟩ := h0
    obtain ⟨v, dd, e, hd, hz⟩ := decls_in (cs := [.slice a l c]) (by simp [Value.cells] at hf; exact hf)
    simp only [List.cons.injEq, and_true] at e
    subst e
    exact ⟨dd, hd, hz⟩
  obtain ⟨y1, g1⟩ : ∃ s, v1 = .string s := okWide_string ZS (hval 1 zc v1 rfl rfl)
  clear hA0 hval0
  refine (walk W _ _ y0 g0 z0 y1 g1 sy).mono fun e W' ⟨he, bel⟩ => ?_
  subst he
  exact ⟨_, rfl, _, _, _, [], _, [], hW', trodAll_mk1 (shut_bool (show PP.underlying xj = some .bool by kernel_rfl) _), (trodAll_cons_mk (Below.trod Zt (by kernel_rfl) (of_decide_eq_true (by kernel_rfl)) k0 bel lt0) (trodAll_cons_mk (Below.trod Zt (by kernel_rfl) (of_decide_eq_true (by kernel_rfl)) k1 bel lt1) trodAll_mk0)), rfl, bel.frame _, fun h => by cases h⟩
theorem f_func : Tryz.prog.funcNamed Rows.fnExactTermReadRow.func = some 3 := by kernel_rfl
theorem f_instance : Tryz.f3.isInstance Tryz.prog Rows.fnExactTermReadRow.origin Rows.fnExactTermReadRow.targs := of_decide_eq_true (by kernel_rfl)
theorem f_wrapper : Tryz.f3.isWrapper Tryz.prog Rows.fnExactTermReadRow.wrapper Rows.fnExactTermReadRow.mainSum := by
  unfold Func.isWrapper; first | (rw [if_pos (by decide +kernel)]; kernel_rfl) | (rw [if_neg (by decide +kernel)]; exact ⟨rfl, rfl⟩)
theorem said : Rows.FnExactTermReadSaid :=
  OpenClaim.holds_of_wide 3 Tryz.f3 rfl rfl rfl rfl rfl rfl rfl ⟨rfl, rfl, rfl, rfl, rfl⟩ rfl rfl rfl rfl rfl f_func Tryz.func3 (KU Zt VH f_inPlace f_unfollowed f_recurses f_named f_rest)
    f_instance f_wrapper (fun os started H enc _ => lifted os started H enc)
theorem f_text : Rows.fnExactTermReadRow.wfByText (OpenSpec.ofChange Rows.fnExactTermReadSpec) = true := by kernel_rfl
theorem f_main : Tryz.prog.mainIs = some (Rows.fnExactTermReadCard.stood.harness.1, Rows.fnExactTermReadCard.stood.harness.2.toList) := by kernel_rfl
theorem f_looks : Rows.fnExactTermReadCard.stood.looks = Tryz.prog.looks [] := by kernel_rfl
theorem none_goes {P : Program} (h : P.funcs.any Func.goes = false) (c : OpenClaim) : false = c.goesBy P := by
  have h1 : ∀ (g : Nat), (P.funcs[g]?).any Func.goes = false := fun g => by
    rw [Array.any_eq_false] at h
    cases hg : P.funcs[g]? with
    | none => rfl
    | some fn =>
      obtain ⟨hl, rfl⟩ := Array.getElem?_eq_some_iff.1 hg
      simpa using h g hl
  have h2 : ∀ f, P.goes f = false := fun f => by
    unfold Program.goes
    simp [h1, h]
  unfold OpenClaim.goesBy Program.goesAt Program.goesFrom
  cases P.funcNamed c.func <;> cases c.start <;> simp [h2]
theorem f_goes : false = Rows.fnExactTermReadRow.goesBy Tryz.prog := none_goes (by kernel_rfl) _
theorem f_stand : ([ye, zc].all fun u => !Tryz.prog.wantsStandIn u) = true := by kernel_rfl
theorem proved : Rows.FnExactTermReadCardSaid :=
  Claim7.holds_tied_plain_at .later [] _ _ _ _ said (fun _ h => by cases h) f_text (fun _ h => by cases h) fnExactTermRead_row_tie rfl ⟨rfl, rfl⟩ f_main rfl
    (fun f fn hf hfn => by
      obtain rfl : f = 3 := Option.some.inj (f_func.symm.trans hf) |>.symm
      obtain rfl : fn = Tryz.f3 := (Option.some.inj (Tryz.func3.symm.trans hfn)).symm
      exact ⟨f_looks, fun j t ht => by
        rw [Tryz.params3] at ht
        have hm : t ∈ [ye, zc] := by simpa using Array.mem_of_getElem? ht
        exact (show Tryz.prog.wantsStandIn t = false by simpa using List.all_eq_true.1 f_stand t hm)⟩)
    f_goes
#print axioms proved
end Go.Proofs.YtaemeijeaajoeaaGreatDoor.fnExactTermRead
