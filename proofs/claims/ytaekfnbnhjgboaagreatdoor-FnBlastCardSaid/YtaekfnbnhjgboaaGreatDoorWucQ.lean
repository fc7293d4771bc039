/- PROVED: whatever bytes it is given, the law FnBlast returns true (bit-blasting preserves meaning), and its arguments read afterwards as they read before. No condition. -/
import Derived.Test.YtaekfnbnhjgboaaGreatDoorRows
import Derived.Test.YtaekfnbnhjgboaaGreatDoorCards
import Derived.Test.YtaekfnbnhjgboaaGreatDoorTie
import Derived.SevenTiedAt
import Derived.LaidMore
import Derived.Lay
import Derived.Test.YtaekfnbnhjgboaaGreatDoorWucP13
import Derived.Test.YtaekfnbnhjgboaaGreatDoorWucP9
set_option linter.unusedVariables false
set_option linter.unusedSimpArgs false
set_option linter.unnecessarySimpa false
set_option linter.unusedSectionVars false
namespace Go.Proofs.YtaekfnbnhjgboaaGreatDoor.fnBlast
open Go Go.Vc Go.Proofs
open Go.ChangeShapes Go.WideShapes Go.ChangeAt Go.RowKit
theorem walk (W : World) (v0 v1 : Value) (x0 x1 : List Nat) (h0 : yi0 W v0 x0) (h1 : yi0 W v1 x1) (a_errRoom : Addr) (s_errRoom : Sent W qs a_errRoom) (a_errBits : Addr) (s_errBits : Sent W yP a_errBits) : Calls PP 6 #[v0, v1] W fun e w' => e = .returned (.bool true) ∧ Below W.heap.size W w' := by
  have := FnBlast_spec (w := W) (K := fun v w' => v = .bool true ∧ Ext W w') (F := fun _ => True) (F' := fun _ => True) h0 h1 ⟨s_errRoom, s_errBits, id, id⟩  fun w' he => ⟨rfl, he⟩
  refine Calls.mono this.2 fun e w' he => ?_
  cases e with
  | returned v => exact ⟨by rw [he.1], kw0 he.2⟩
  | panicked c => exact he.elim
  | outgrown => exact he.elim
set_option maxRecDepth 100000 in
theorem lifted (os : Os) (started : os.Started) (H : Type) (enc : TypeId × Value → H) :
    ReturnsInHanded {} Tryz.checked os 6 .any (fun w args => (Rows.fnBlastSpec.pre enc Tryz.prog Tryz.f6 Rows.fnBlastRow.domain false w args ∧ laidMetH Tryz.prog Rows.fnBlastRow.laid w) ∧ sizedMet enc Tryz.prog Tryz.f6 (OpenSpec.ofChange Rows.fnBlastSpec) false w args) (Rows.fnBlastSpec.post enc Tryz.prog Tryz.f6 false true false false) := by
  refine returnsInHanded_of_change_and (C := Tryz.checked) (X := fun w _ => laidMetH Tryz.prog Rows.fnBlastRow.laid w) (fun _ _ _ hh h => h.of_heap hh) Yv0 started (by kernel_rfl) Tryz.func6
    (ChangeSpec.witness_shaped (enc := enc) (C := Tryz.checked) (os := os) (X := fun w _ => laidMetH Tryz.prog Rows.fnBlastRow.laid w) false (World.laidAll Tryz.prog os Rows.fnBlastRow.laid) #[.slice none 0 0, .slice none 0 0] 8 (World.laidAll_os _ _ _)
      (World.shaped_of_ZipB (by kernel_rfl) (by kernel_rfl)) (by kernel_rfl) (by kernel_rfl) (by kernel_rfl)
      (by rw [MakeChecks.laidMetH_plain _ _ _ (by kernel_rfl)]; exact laidMet_laidAll _ (by kernel_rfl) (by kernel_rfl))) ?_
  intro W base args ds gs before hval0 hW hcnd _ hL _
  have hval : ∀ (j : Nat) t v, Tryz.f6.params[j]? = some t → args[j]? = some v → Value.okWide Tryz.prog W .any base t v := hval0
  have hW' := hW
  obtain ⟨p, q, hA0, hV, rfl, hfz, hnd⟩ := hW
  have hA : DataW.TrodAll enc Tryz.prog W 0 (fun _ => true) true Tryz.f6.params.toList args.toList ds p := hA0
  rw [Tryz.params6] at hA hval
  obtain ⟨v0, vs0, d0, ds0, p0, q0, hargs0, rfl, rfl, h0, r0⟩ := trodAll_cons hA
  obtain ⟨v1, vs1, d1, ds1, p1, q1, hargs1, rfl, rfl, h1, r1⟩ := trodAll_cons r0
  obtain ⟨rfl, rfl, rfl⟩ := trodAll_nil r1
  obtain rfl : args = #[v0, v1] := by cases args; simp_all
  have hL' : laidMet PP Rows.fnBlastRow.laid W := by rw [← MakeChecks.laidMetH_plain _ _ _ (by kernel_rfl)]; exact hL
  obtain ⟨g_errRoom, g_errBits, rfl⟩ := vlist2 (vars_len hV)
  obtain ⟨a_errRoom, s_errRoom⟩ := k50 hL' 4 rfl (g := qs) (by kernel_rfl) (by kernel_rfl)
  obtain ⟨a_errBits, s_errBits⟩ := k50 hL' 5 rfl (g := yP) (by kernel_rfl) (by kernel_rfl)
  obtain ⟨a0, len0, cap0, rfl⟩ := okWide_slice YT (hval 0 22 v0 rfl rfl)
  have k0 := h0
  have lt0 : ∀ x ∈ p0, x.block < W.heap.size := by obtain ⟨m, hm⟩ := k0; exact DataW.trod_lt m _ _ _ hm
  obtain ⟨z0, w0⟩ : ∃ zs, yi0 W (.slice a0 len0 cap0) zs := by
    obtain ⟨fuel, hf⟩ := h0
    rcases open_ints YT qY0 (by kernel_rfl) hf with ⟨hcs, _⟩ | ⟨x, l, c, zs, hcs, _, hl, hm, hz, _, hcell, hwz⟩
    · simp [Value.cells] at hcs
      obtain ⟨rfl, rfl, rfl⟩ := hcs
      exact ⟨[], qg0 W⟩
    · simp [Value.cells] at hcs
      obtain ⟨rfl, rfl, rfl⟩ := hcs
      exact ⟨_, bytes_of hl hm (by simpa using hz) hcell hwz⟩
  obtain ⟨a1, len1, cap1, rfl⟩ := okWide_slice YT (hval 1 22 v1 rfl rfl)
  have k1 := h1
  have lt1 : ∀ x ∈ p1, x.block < W.heap.size := by obtain ⟨m, hm⟩ := k1; exact DataW.trod_lt m _ _ _ hm
  obtain ⟨z1, w1⟩ : ∃ zs, yi0 W (.slice a1 len1 cap1) zs := by
    obtain ⟨fuel, hf⟩ := h1
    rcases open_ints YT qY0 (by kernel_rfl) hf with ⟨hcs, _⟩ | ⟨x, l, c, zs, hcs, _, hl, hm, hz, _, hcell, hwz⟩
    · simp [Value.cells] at hcs
      obtain ⟨rfl, rfl, rfl⟩ := hcs
      exact ⟨[], qg0 W⟩
    · simp [Value.cells] at hcs
      obtain ⟨rfl, rfl, rfl⟩ := hcs
      exact ⟨_, bytes_of hl hm (by simpa using hz) hcell hwz⟩
  clear hA0 hval0
  refine (walk W _ _ z0 z1 w0 w1 a_errRoom s_errRoom a_errBits s_errBits).mono fun e W' ⟨he, bel⟩ => ?_
  subst he
  exact ⟨_, rfl, _, _, _, _, _, _, hW', trodAll_mk1 (shut_bool (show PP.underlying xm = some .bool by kernel_rfl) _), (trodAll_cons_mk (Below.trod YW (by kernel_rfl) (of_decide_eq_true (by kernel_rfl)) k0 bel lt0) (trodAll_cons_mk (Below.trod YW (by kernel_rfl) (of_decide_eq_true (by kernel_rfl)) k1 bel lt1) trodAll_mk0)), Below.trodVars YW bel (by kernel_rfl) hV, bel.frame _, fun h => by cases h⟩
theorem f_inPlace : (Rows.fnBlastRow.inPlace == Tryz.prog.inPlace 6) = true := by kernel_rfl
theorem f_unfollowed : (Rows.fnBlastRow.unfollowed == Tryz.prog.unfollowed 6) = true := by kernel_rfl
theorem f_recurses : (Rows.fnBlastRow.recurses == Tryz.prog.recurses 6) = true := by kernel_rfl
theorem f_named : (Rows.fnBlastRow.named == Tryz.prog.varsNamed 6) = true := by kernel_rfl
theorem f_rest : restFacts Tryz.prog 6 Tryz.f6 Rows.fnBlastSpec Rows.fnBlastRow = true := by kernel_rfl
theorem f_func : Tryz.prog.funcNamed Rows.fnBlastRow.func = some 6 := by kernel_rfl
theorem f_instance : Tryz.f6.isInstance Tryz.prog Rows.fnBlastRow.origin Rows.fnBlastRow.targs := of_decide_eq_true (by kernel_rfl)
theorem f_wrapper : Tryz.f6.isWrapper Tryz.prog Rows.fnBlastRow.wrapper Rows.fnBlastRow.mainSum := by
  unfold Func.isWrapper; first | (rw [if_pos (by decide +kernel)]; kernel_rfl) | (rw [if_neg (by decide +kernel)]; exact ⟨rfl, rfl⟩)
theorem said : Rows.FnBlastSaid :=
  OpenClaim.holds_of_wide 6 Tryz.f6 rfl rfl rfl rfl rfl rfl rfl ⟨rfl, rfl, rfl, rfl, rfl⟩ rfl rfl rfl rfl rfl f_func Tryz.func6 (km0 YW Zn0 f_inPlace f_unfollowed f_recurses f_named f_rest)
    f_instance f_wrapper (fun os started H enc _ => lifted os started H enc)
theorem f_text : Rows.fnBlastRow.wfByText (OpenSpec.ofChange Rows.fnBlastSpec) = true := by kernel_rfl
theorem f_main : Tryz.prog.mainIs = some (Rows.fnBlastCard.stood.harness.1, Rows.fnBlastCard.stood.harness.2.toList) := by kernel_rfl
theorem f_looks : Rows.fnBlastCard.stood.looks = Tryz.prog.looks [] := by kernel_rfl
theorem f_goes : false = Rows.fnBlastRow.goesBy Tryz.prog := by kernel_rfl
theorem f_stand : ([22, 22].all fun u => !Tryz.prog.wantsStandIn u) = true := by kernel_rfl
theorem proved : Rows.FnBlastCardSaid :=
  Claim7.holds_tied_plain_at .later [] _ _ _ _ said (fun _ h => by cases h) f_text (fun _ h => by cases h) fnBlast_row_tie rfl ⟨rfl, rfl⟩ f_main rfl
    (fun f fn hf hfn => by
      obtain rfl : f = 6 := Option.some.inj (f_func.symm.trans hf) |>.symm
      obtain rfl : fn = Tryz.f6 := (Option.some.inj (Tryz.func6.symm.trans hfn)).symm
      exact ⟨f_looks, fun j t ht => by
        rw [Tryz.params6] at ht
        have hm : t ∈ [22, 22] := by simpa using Array.mem_of_getElem? ht
        exact (show Tryz.prog.wantsStandIn t = false by simpa using List.all_eq_true.1 f_stand t hm)⟩)
    f_goes
#print axioms proved
end Go.Proofs.YtaekfnbnhjgboaaGreatDoor.fnBlast
