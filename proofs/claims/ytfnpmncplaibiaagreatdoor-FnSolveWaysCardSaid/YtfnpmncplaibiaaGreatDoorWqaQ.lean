/- PROVED: whatever bytes it is given, the law FnSolveWays returns true (All models are enumerated in order), and its arguments read afterwards as they read before. No condition. -/
import Derived.Test.YtfnpmncplaibiaaGreatDoorWqaP3
import Derived.Test.YtfnpmncplaibiaaGreatDoorRows
import Derived.Test.YtfnpmncplaibiaaGreatDoorCards
import Derived.Test.YtfnpmncplaibiaaGreatDoorTie
import Derived.SevenTiedAt
import Derived.LaidMore
import Derived.Lay
import Derived.Test.YtfnpmncplaibiaaGreatDoorWqaP16
import Derived.Test.YtfnpmncplaibiaaGreatDoorWqaP2
set_option linter.unusedVariables false
set_option linter.unusedSimpArgs false
set_option linter.unnecessarySimpa false
set_option linter.unusedSectionVars false
namespace Go.Proofs.YtfnpmncplaibiaaGreatDoor.fnSolveWays
open Go Go.Vc Go.Proofs
open Go.ChangeShapes Go.WideShapes Go.ChangeAt Go.RowKit
theorem walk (W : World) (v0 : Value) (x0 : List Nat) (h0 : xT0 W v0 x0) (a_t a_n a_m a_r a_b : Addr) (er : Er W a_t a_n a_m a_r a_b) : Calls P 4 #[v0] W fun e w' => e = .returned (.bool true) ∧ Below W.heap.size W w' := by
  have := FnSolveWays_spec (w := W) (K := fun v w' => v = .bool true ∧ Ext W w') (F := fun _ => True) h0 er fun w' he => ⟨rfl, he⟩
  refine Calls.mono this.2 fun e w' he => ?_
  cases e with
  | returned v => exact ⟨by rw [he.1], jI0 he.2⟩
  | panicked c => exact he.elim
  | outgrown => exact he.elim
set_option maxRecDepth 100000 in
theorem lifted (os : Os) (started : os.Started) (H : Type) (enc : TypeId × Value → H) :
    ReturnsInHanded {} Tryz.checked os 4 .any (fun w args => (Rows.fnSolveWaysSpec.pre enc Tryz.prog Tryz.f4 Rows.fnSolveWaysRow.domain false w args ∧ laidMetH Tryz.prog Rows.fnSolveWaysRow.laid w) ∧ sizedMet enc Tryz.prog Tryz.f4 (OpenSpec.ofChange Rows.fnSolveWaysSpec) false w args) (Rows.fnSolveWaysSpec.post enc Tryz.prog Tryz.f4 false true false false) := by
  refine returnsInHanded_of_change_and (C := Tryz.checked) (X := fun w _ => laidMetH Tryz.prog Rows.fnSolveWaysRow.laid w) (fun _ _ _ hh h => h.of_heap hh) Y00 started (by kernel_rfl) Tryz.func4
    (ChangeSpec.witness_shaped (enc := enc) (C := Tryz.checked) (os := os) (X := fun w _ => laidMetH Tryz.prog Rows.fnSolveWaysRow.laid w) false (World.laidAll Tryz.prog os Rows.fnSolveWaysRow.laid) #[.slice none 0 0] 8 (World.laidAll_os _ _ _)
      (World.shaped_of_ZipB (by kernel_rfl) (by kernel_rfl)) (by kernel_rfl) (by kernel_rfl) (by kernel_rfl)
      (by rw [MakeChecks.laidMetH_plain _ _ _ (by kernel_rfl)]; exact laidMet_laidAll _ (by kernel_rfl) (by kernel_rfl))) ?_
  intro W base args ds gs before hval0 hW hcnd _ hL _
  have hval : ∀ (j : Nat) t v, Tryz.f4.params[j]? = some t → args[j]? = some v → Value.okWide Tryz.prog W .any base t v := hval0
  have hW' := hW
  obtain ⟨p, q, hA0, hV, rfl, hfz, hnd⟩ := hW
  have hA : DataW.TrodAll enc Tryz.prog W 0 (fun _ => true) true Tryz.f4.params.toList args.toList ds p := hA0
  rw [Tryz.params4] at hA hval
  obtain ⟨v0, vs0, d0, ds0, p0, q0, hargs0, rfl, rfl, h0, r0⟩ := trodAll_cons hA
  obtain ⟨rfl, rfl, rfl⟩ := trodAll_nil r0
  obtain rfl : args = #[v0] := by cases args; simp_all
  have hL' : laidMet P Rows.fnSolveWaysRow.laid W := by rw [← MakeChecks.laidMetH_plain _ _ _ (by kernel_rfl)]; exact hL
  obtain ⟨g_errTerms, g_errNo, g_errMuch, g_errRoom, g_errBits, rfl⟩ := vlist5 (vars_len hV)
  obtain ⟨a_t, a_n, a_m, a_r, a_b, er⟩ := er_of hL' 4 rfl (by kernel_rfl) (by kernel_rfl) (by kernel_rfl) (by kernel_rfl) (by kernel_rfl) (by kernel_rfl) (by kernel_rfl) (by kernel_rfl) (by kernel_rfl) (by kernel_rfl)
  obtain ⟨a0, len0, cap0, rfl⟩ := okWide_slice XV (hval 0 40 v0 rfl rfl)
  have k0 := h0
  have lt0 : ∀ x ∈ p0, x.block < W.heap.size := by obtain ⟨m, hm⟩ := k0; exact DataW.trod_lt m _ _ _ hm
  obtain ⟨z0, w0⟩ : ∃ zs, xT0 W (.slice a0 len0 cap0) zs := by
    obtain ⟨fuel, hf⟩ := h0
    rcases open_ints XV kZ0 (by kernel_rfl) hf with ⟨hcs, _⟩ | ⟨x, l, c, zs, hcs, _, hl, hm, hz, _, hcell, hwz⟩
    · simp [Value.cells] at hcs
      obtain ⟨rfl, rfl, rfl⟩ := hcs
      exact ⟨[], jT0 W⟩
    · simp [Value.cells] at hcs
      obtain ⟨rfl, rfl, rfl⟩ := hcs
      exact ⟨_, bytes_of hl hm (by simpa using hz) hcell hwz⟩
  clear hA0 hval0
  refine (walk W _ z0 w0 a_t a_n a_m a_r a_b er).mono fun e W' ⟨he, bel⟩ => ?_
  subst he
  exact ⟨_, rfl, _, _, _, _, _, _, hW', trodAll_mk1 (shut_bool (show P.underlying xH = some .bool by kernel_rfl) _), (trodAll_cons_mk (Below.trod Xm (by kernel_rfl) (of_decide_eq_true (by kernel_rfl)) k0 bel lt0) trodAll_mk0), Below.trodVars Xm bel (by kernel_rfl) hV, bel.frame _, fun h => by cases h⟩
theorem f_func : Tryz.prog.funcNamed Rows.fnSolveWaysRow.func = some 4 := by kernel_rfl
theorem f_instance : Tryz.f4.isInstance Tryz.prog Rows.fnSolveWaysRow.origin Rows.fnSolveWaysRow.targs := of_decide_eq_true (by kernel_rfl)
theorem f_wrapper : Tryz.f4.isWrapper Tryz.prog Rows.fnSolveWaysRow.wrapper Rows.fnSolveWaysRow.mainSum := by
  unfold Func.isWrapper; first | (rw [if_pos (by decide +kernel)]; kernel_rfl) | (rw [if_neg (by decide +kernel)]; exact ⟨rfl, rfl⟩)
theorem said : Rows.FnSolveWaysSaid :=
  OpenClaim.holds_of_wide 4 Tryz.f4 rfl rfl rfl rfl rfl rfl rfl ⟨rfl, rfl, rfl, rfl, rfl⟩ rfl rfl rfl rfl rfl f_func Tryz.func4 (jt0 Xm kI0 f_inPlace f_unfollowed f_recurses f_named f_rest)
    f_instance f_wrapper (fun os started H enc _ => lifted os started H enc)
theorem f_text : Rows.fnSolveWaysRow.wfByText (OpenSpec.ofChange Rows.fnSolveWaysSpec) = true := by kernel_rfl
theorem f_main : Tryz.prog.mainIs = some (Rows.fnSolveWaysCard.stood.harness.1, Rows.fnSolveWaysCard.stood.harness.2.toList) := by kernel_rfl
theorem f_looks : Rows.fnSolveWaysCard.stood.looks = Tryz.prog.looks [] := by kernel_rfl
theorem none_goes {P : Program} (h : P.funcs.any Func.goes = false) (c : OpenClaim) : false = c.goesBy P := by
  have h1 : ∀ (g : Nat), (P.funcs[g]?).any Func.goes = false := fun g => by
    rw [Array.any_eq_false] at h
    cases hg : P.funcs[g]? with
    | none => rfl
    | some fn =>
      obtain ⟨hl, rfl⟩ := Array.getElem?_eq_some_iff.1 hg
      simpa using h g hl
  have h2 : ∀ f, P.goes f = false := fun f => by
    unfold Program.goes
    simp [h1, h]
  unfold OpenClaim.goesBy Program.goesAt Program.goesFrom
  cases P.funcNamed c.func <;> cases c.start <;> simp [h2]
theorem f_goes : false = Rows.fnSolveWaysRow.goesBy Tryz.prog := none_goes (by kernel_rfl) _
theorem f_stand : ([40].all fun u => !Tryz.prog.wantsStandIn u) = true := by kernel_rfl
theorem proved : Rows.FnSolveWaysCardSaid :=
  Claim7.holds_tied_plain_at .later [] _ _ _ _ said (fun _ h => by cases h) f_text (fun _ h => by cases h) fnSolveWays_row_tie rfl ⟨rfl, rfl⟩ f_main rfl
    (fun f fn hf hfn => by
      obtain rfl : f = 4 := Option.some.inj (f_func.symm.trans hf) |>.symm
      obtain rfl : fn = Tryz.f4 := (Option.some.inj (Tryz.func4.symm.trans hfn)).symm
      exact ⟨f_looks, fun j t ht => by
        rw [Tryz.params4] at ht
        have hm : t ∈ [40] := by simpa using Array.mem_of_getElem? ht
        exact (show Tryz.prog.wantsStandIn t = false by simpa using List.all_eq_true.1 f_stand t hm)⟩)
    f_goes
#print axioms proved
end Go.Proofs.YtfnpmncplaibiaaGreatDoor.fnSolveWays
