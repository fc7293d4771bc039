/- PROVED: whatever bytes it is given, the law FnSolveFold returns true (Simplification does not change answers), and its arguments read afterwards as they read before. No condition. -/
import Derived.Test.YtolbhkcajhlllaaGreatDoorWwcP3
import Derived.Test.YtolbhkcajhlllaaGreatDoorRows
import Derived.Test.YtolbhkcajhlllaaGreatDoorCards
import Derived.Test.YtolbhkcajhlllaaGreatDoorTie
import Derived.SevenTiedAt
import Derived.LaidMore
import Derived.Lay
import Derived.Test.YtolbhkcajhlllaaGreatDoorWwcP14
import Derived.Test.YtolbhkcajhlllaaGreatDoorWwcP2
set_option linter.unusedVariables false
set_option linter.unusedSimpArgs false
set_option linter.unnecessarySimpa false
set_option linter.unusedSectionVars false
namespace Go.Proofs.YtolbhkcajhlllaaGreatDoor.fnSolveFold
open Go Go.Vc Go.Proofs
open Go.ChangeShapes Go.WideShapes Go.ChangeAt Go.RowKit
theorem walk (W : World) (v0 : Value) (x0 : List Nat) (h0 : yU0 W v0 x0) (a_t a_n a_m a_r a_b : Addr) (er : Er W a_t a_n a_m a_r a_b) : Calls P 5 #[v0] W fun e w' => e = .returned (.bool true) ∧ Below W.heap.size W w' := by
  have := FnSolveFold_spec (w := W) (K := fun v w' => v = .bool true ∧ Ext W w') (F := fun _ => True) h0 er fun w' he => ⟨rfl, he⟩
  refine Calls.mono this.2 fun e w' he => ?_
  cases e with
  | returned v => exact ⟨by rw [he.1], qP0 he.2⟩
  | panicked c => exact he.elim
  | outgrown => exact he.elim
set_option maxRecDepth 100000 in
theorem lifted (os : Os) (started : os.Started) (H : Type) (enc : TypeId × Value → H) :
    ReturnsInHanded {} Tryz.checked os 5 .any (fun w args => (Rows.fnSolveFoldSpec.pre enc Tryz.prog Tryz.f5 Rows.fnSolveFoldRow.domain false w args ∧ laidMetH Tryz.prog Rows.fnSolveFoldRow.laid w) ∧ sizedMet enc Tryz.prog Tryz.f5 (OpenSpec.ofChange Rows.fnSolveFoldSpec) false w args) (Rows.fnSolveFoldSpec.post enc Tryz.prog Tryz.f5 false true false false) := by
  refine returnsInHanded_of_change_and (C := Tryz.checked) (X := fun w _ => laidMetH Tryz.prog Rows.fnSolveFoldRow.laid w) (fun _ _ _ hh h => h.of_heap hh) kY0 started (by kernel_rfl) Tryz.func5
    (ChangeSpec.witness_shaped (enc := enc) (C := Tryz.checked) (os := os) (X := fun w _ => laidMetH Tryz.prog Rows.fnSolveFoldRow.laid w) false (World.laidAll Tryz.prog os Rows.fnSolveFoldRow.laid) #[.slice none 0 0] 8 (World.laidAll_os _ _ _)
      (World.shaped_of_ZipB (by kernel_rfl) (by kernel_rfl)) (by kernel_rfl) (by kernel_rfl) (by kernel_rfl)
      (by rw [MakeChecks.laidMetH_plain _ _ _ (by kernel_rfl)]; exact laidMet_laidAll _ (by kernel_rfl) (by kernel_rfl))) ?_
  intro W base args ds gs before hval0 hW hcnd _ hL _
  have hval : ∀ (j : Nat) t v, Tryz.f5.params[j]? = some t → args[j]? = some v → Value.okWide Tryz.prog W .any base t v := hval0
  have hW' := hW
  obtain ⟨p, q, hA0, hV, rfl, hfz, hnd⟩ := hW
  have hA : DataW.TrodAll enc Tryz.prog W 0 (fun _ => true) true Tryz.f5.params.toList args.toList ds p := hA0
  rw [Tryz.params5] at hA hval
  obtain ⟨v0, vs0, d0, ds0, p0, q0, hargs0, rfl, rfl, h0, r0⟩ := trodAll_cons hA
  obtain ⟨rfl, rfl, rfl⟩ := trodAll_nil r0
  obtain rfl : args = #[v0] := by cases args; simp_all
  have hL' : laidMet P Rows.fnSolveFoldRow.laid W := by rw [← MakeChecks.laidMetH_plain _ _ _ (by kernel_rfl)]; exact hL
  obtain ⟨g_errTerms, g_errNo, g_errMuch, g_errRoom, g_errBits, rfl⟩ := vlist5 (vars_len hV)
  obtain ⟨a_t, a_n, a_m, a_r, a_b, er⟩ := er_of hL' 4 rfl (by kernel_rfl) (by kernel_rfl) (by kernel_rfl) (by kernel_rfl) (by kernel_rfl) (by kernel_rfl) (by kernel_rfl) (by kernel_rfl) (by kernel_rfl) (by kernel_rfl)
  obtain ⟨a0, len0, cap0, rfl⟩ := okWide_slice Xi (hval 0 50 v0 rfl rfl)
  have k0 := h0
  have lt0 : ∀ x ∈ p0, x.block < W.heap.size := by obtain ⟨m, hm⟩ := k0; exact DataW.trod_lt m _ _ _ hm
  obtain ⟨z0, w0⟩ : ∃ zs, yU0 W (.slice a0 len0 cap0) zs := by
    obtain ⟨fuel, hf⟩ := h0
    rcases open_ints Xi k20 (by kernel_rfl) hf with ⟨hcs, _⟩ | ⟨x, l, c, zs, hcs, _, hl, hm, hz, _, hcell, hwz⟩
    · simp [Value.cells] at hcs
      obtain ⟨rfl, rfl, rfl⟩ := hcs
      exact ⟨[], qZ0 W⟩
    · simp [Value.cells] at hcs
      obtain ⟨rfl, rfl, rfl⟩ := hcs
      exact ⟨_, bytes_of hl hm (by simpa using hz) hcell hwz⟩
  clear hA0 hval0
  refine (walk W _ z0 w0 a_t a_n a_m a_r a_b er).mono fun e W' ⟨he, bel⟩ => ?_
  subst he
  exact ⟨_, rfl, _, _, _, _, _, _, hW', trodAll_mk1 (shut_bool (show P.underlying ZY = some .bool by kernel_rfl) _), (trodAll_cons_mk (Below.trod YM (by kernel_rfl) (of_decide_eq_true (by kernel_rfl)) k0 bel lt0) trodAll_mk0), Below.trodVars YM bel (by kernel_rfl) hV, bel.frame _, fun h => by cases h⟩
theorem f_func : Tryz.prog.funcNamed Rows.fnSolveFoldRow.func = some 5 := by kernel_rfl
theorem f_instance : Tryz.f5.isInstance Tryz.prog Rows.fnSolveFoldRow.origin Rows.fnSolveFoldRow.targs := of_decide_eq_true (by kernel_rfl)
theorem f_wrapper : Tryz.f5.isWrapper Tryz.prog Rows.fnSolveFoldRow.wrapper Rows.fnSolveFoldRow.mainSum := by
  unfold Func.isWrapper; first | (rw [if_pos (by decide +kernel)]; kernel_rfl) | (rw [if_neg (by decide +kernel)]; exact ⟨rfl, rfl⟩)
theorem said : Rows.FnSolveFoldSaid :=
  OpenClaim.holds_of_wide 5 Tryz.f5 rfl rfl rfl rfl rfl rfl rfl ⟨rfl, rfl, rfl, rfl, rfl⟩ rfl rfl rfl rfl rfl f_func Tryz.func5 (qy0 YM jM0 f_inPlace f_unfollowed f_recurses f_named f_rest)
    f_instance f_wrapper (fun os started H enc _ => lifted os started H enc)
theorem f_text : Rows.fnSolveFoldRow.wfByText (OpenSpec.ofChange Rows.fnSolveFoldSpec) = true := by kernel_rfl
theorem f_main : Tryz.prog.mainIs = some (Rows.fnSolveFoldCard.stood.harness.1, Rows.fnSolveFoldCard.stood.harness.2.toList) := by kernel_rfl
theorem f_looks : Rows.fnSolveFoldCard.stood.looks = Tryz.prog.looks [] := by kernel_rfl
theorem f_goes : false = Rows.fnSolveFoldRow.goesBy Tryz.prog := by kernel_rfl
theorem f_stand : ([50].all fun u => !Tryz.prog.wantsStandIn u) = true := by kernel_rfl
theorem proved : Rows.FnSolveFoldCardSaid :=
  Claim7.holds_tied_plain_at .later [] _ _ _ _ said (fun _ h => by cases h) f_text (fun _ h => by cases h) fnSolveFold_row_tie rfl ⟨rfl, rfl⟩ f_main rfl
    (fun f fn hf hfn => by
      obtain rfl : f = 5 := Option.some.inj (f_func.symm.trans hf) |>.symm
      obtain rfl : fn = Tryz.f5 := (Option.some.inj (Tryz.func5.symm.trans hfn)).symm
      exact ⟨f_looks, fun j t ht => by
        rw [Tryz.params5] at ht
        have hm : t ∈ [50] := by simpa using Array.mem_of_getElem? ht
        exact (show Tryz.prog.wantsStandIn t = false by simpa using List.all_eq_true.1 f_stand t hm)⟩)
    f_goes
#print axioms proved
end Go.Proofs.YtolbhkcajhlllaaGreatDoor.fnSolveFold
