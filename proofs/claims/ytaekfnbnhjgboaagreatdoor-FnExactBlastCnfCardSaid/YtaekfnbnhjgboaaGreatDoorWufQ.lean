/- PROVED: whatever arguments it is given, the law FnExactBlastCnf returns true (the program's BlastCnf returns what the reference's returns), and its arguments read afterwards as they read before. No condition. -/
import Derived.Test.YtaekfnbnhjgboaaGreatDoorRows
import Derived.Test.YtaekfnbnhjgboaaGreatDoorCards
import Derived.Test.YtaekfnbnhjgboaaGreatDoorTie
import Derived.SevenTiedAt
import Derived.LaidMore
import Derived.Lay
import Derived.Test.YtaekfnbnhjgboaaGreatDoorWufP11
import Derived.Test.YtaekfnbnhjgboaaGreatDoorWufP7
set_option linter.unusedVariables false
set_option linter.unusedSimpArgs false
set_option linter.unnecessarySimpa false
set_option linter.unusedSectionVars false
namespace Go.Proofs.YtaekfnbnhjgboaaGreatDoor.fnExactBlastCnf
open Go Go.Vc Go.Proofs
open Go.ChangeShapes Go.WideShapes Go.ChangeAt Go.RowKit
theorem walk (W : World) (v0 v1 : Value) (y0 : List M.Dcl) (h0 : DclsR (fun _ => True) W v0 y0) (z0 : qz0 y0) (y1 : List M.Tm) (h1 : TmsR (fun _ => True) W v1 y1) (z1 : ∀ k, k ∈ y1 → Wa k = true) (a_errTerms : Addr) (s_errTerms : Sent W yy a_errTerms) (a_errRoom : Addr) (s_errRoom : Sent W xy a_errRoom) (a_errBits : Addr) (s_errBits : Sent W yV a_errBits) : Calls PP 5 #[v0, v1] W fun e w' => e = .returned (.bool true) ∧ Below W.heap.size W w' := by
  have := FnExactBlastCnf_spec (w := W) (K := fun v w' => v = .bool true ∧ Ext W w') h0 z0 h1 z1 ⟨s_errRoom, s_errBits, id, id⟩ s_errTerms fun w' he => ⟨rfl, he⟩
  refine Calls.mono this.2 fun e w' he => ?_
  cases e with
  | returned v => exact ⟨by rw [he.1], kG0 he.2⟩
  | panicked c => exact he.elim
  | outgrown => exact he.elim
set_option maxRecDepth 100000 in
theorem lifted (os : Os) (started : os.Started) (H : Type) (enc : TypeId × Value → H) :
    ReturnsInHanded {} Tryz.checked os 5 .any (fun w args => (Rows.fnExactBlastCnfSpec.pre enc Tryz.prog Tryz.f5 Rows.fnExactBlastCnfRow.domain false w args ∧ laidMetH Tryz.prog Rows.fnExactBlastCnfRow.laid w) ∧ sizedMet enc Tryz.prog Tryz.f5 (OpenSpec.ofChange Rows.fnExactBlastCnfSpec) false w args) (Rows.fnExactBlastCnfSpec.post enc Tryz.prog Tryz.f5 false true false false) := by
  refine returnsInHanded_of_change_and (C := Tryz.checked) (X := fun w _ => laidMetH Tryz.prog Rows.fnExactBlastCnfRow.laid w) (fun _ _ _ hh h => h.of_heap hh) YR0 started (by kernel_rfl) Tryz.func5
    (ChangeSpec.witness_shaped (enc := enc) (C := Tryz.checked) (os := os) (X := fun w _ => laidMetH Tryz.prog Rows.fnExactBlastCnfRow.laid w) false (World.laidAll Tryz.prog os Rows.fnExactBlastCnfRow.laid) #[.slice none 0 0, .slice none 0 0] 8 (World.laidAll_os _ _ _)
      (World.shaped_of_ZipB (by kernel_rfl) (by kernel_rfl)) (by kernel_rfl) (by kernel_rfl) (by kernel_rfl)
      (by rw [MakeChecks.laidMetH_plain _ _ _ (by kernel_rfl)]; exact laidMet_laidAll _ (by kernel_rfl) (by kernel_rfl))) ?_
  intro W base args ds gs before hval0 hW hcnd _ hL _
  have hval : ∀ (j : Nat) t v, Tryz.f5.params[j]? = some t → args[j]? = some v → Value.okWide Tryz.prog W .any base t v := hval0
  have hW' := hW
  obtain ⟨p, q, hA0, hV, rfl, hfz, hnd⟩ := hW
  have hA : DataW.TrodAll enc Tryz.prog W 0 (fun _ => true) true Tryz.f5.params.toList args.toList ds p := hA0
  rw [Tryz.params5] at hA hval
  obtain ⟨v0, vs0, d0, ds0, p0, q0, hargs0, rfl, rfl, h0, r0⟩ := trodAll_cons hA
  obtain ⟨v1, vs1, d1, ds1, p1, q1, hargs1, rfl, rfl, h1, r1⟩ := trodAll_cons r0
  obtain ⟨rfl, rfl, rfl⟩ := trodAll_nil r1
  obtain rfl : args = #[v0, v1] := by cases args; simp_all
  have hL' : laidMet PP Rows.fnExactBlastCnfRow.laid W := by rw [← MakeChecks.laidMetH_plain _ _ _ (by kernel_rfl)]; exact hL
  obtain ⟨g_errTerms, g_errRoom, g_errBits, rfl⟩ := vlist3 (vars_len hV)
  obtain ⟨a_errTerms, s_errTerms⟩ := qG0 hL' 6 rfl (g := yy) (by kernel_rfl) (by kernel_rfl)
  obtain ⟨a_errRoom, s_errRoom⟩ := qG0 hL' 4 rfl (g := xy) (by kernel_rfl) (by kernel_rfl)
  obtain ⟨a_errBits, s_errBits⟩ := qG0 hL' 5 rfl (g := yV) (by kernel_rfl) (by kernel_rfl)
  have k0 := h0
  have lt0 : ∀ x ∈ p0, x.block < W.heap.size := by obtain ⟨m, hm⟩ := k0; exact DataW.trod_lt m _ _ _ hm
  have k1 := h1
  have lt1 : ∀ x ∈ p1, x.block < W.heap.size := by obtain ⟨m, hm⟩ := k1; exact DataW.trod_lt m _ _ _ hm
  obtain ⟨y0, g0, z0⟩ : ∃ dd, DclsR (fun _ => True) W v0 dd ∧ qz0 dd := by
    obtain ⟨a, l, c, rfl⟩ := okWide_slice WM (hval 0 xe v0 rfl rfl)
    obtain ⟨fuel, hf⟩ := h0
    obtain ⟨v, dd, e, hd, hz⟩ := decls_in (cs := [.slice a l c]) (by simpa [Value.cells] using hf)
    simp only [List.cons.injEq, and_true] at e
    subst e
    exact ⟨dd, hd, hz⟩
  obtain ⟨y1, g1, z1⟩ : ∃ ks, TmsR (fun _ => True) W v1 ks ∧ ∀ k, k ∈ ks → Wa k = true := by
    obtain ⟨a, l, c, rfl⟩ := okWide_slice XT (hval 1 yr v1 rfl rfl)
    obtain ⟨fuel, hf⟩ := h1
    obtain ⟨v, ks, e, hd, hz⟩ := terms_in (cs := [.slice a l c]) (by simpa [Value.cells] using hf)
    simp only [List.cons.injEq, and_true] at e
    subst e
    exact ⟨ks, hd, hz⟩
  clear hA0 hval0
  refine (walk W _ _ y0 g0 z0 y1 g1 z1 a_errTerms s_errTerms a_errRoom s_errRoom a_errBits s_errBits).mono fun e W' ⟨he, bel⟩ => ?_
  subst he
  exact ⟨_, rfl, _, _, _, _, _, _, hW', trodAll_mk1 (shut_bool (show PP.underlying kO = some .bool by kernel_rfl) _), (trodAll_cons_mk (Below.trod X8 (by kernel_rfl) (of_decide_eq_true (by kernel_rfl)) k0 bel lt0) (trodAll_cons_mk (Below.trod X8 (by kernel_rfl) (of_decide_eq_true (by kernel_rfl)) k1 bel lt1) trodAll_mk0)), Below.trodVars X8 bel (by kernel_rfl) hV, bel.frame _, fun h => by cases h⟩
theorem f_inPlace : (Rows.fnExactBlastCnfRow.inPlace == Tryz.prog.inPlace 5) = true := by kernel_rfl
theorem f_unfollowed : (Rows.fnExactBlastCnfRow.unfollowed == Tryz.prog.unfollowed 5) = true := by kernel_rfl
theorem f_recurses : (Rows.fnExactBlastCnfRow.recurses == Tryz.prog.recurses 5) = true := by kernel_rfl
theorem f_named : (Rows.fnExactBlastCnfRow.named == Tryz.prog.varsNamed 5) = true := by kernel_rfl
theorem f_rest : restFacts Tryz.prog 5 Tryz.f5 Rows.fnExactBlastCnfSpec Rows.fnExactBlastCnfRow = true := by kernel_rfl
theorem f_func : Tryz.prog.funcNamed Rows.fnExactBlastCnfRow.func = some 5 := by kernel_rfl
theorem f_instance : Tryz.f5.isInstance Tryz.prog Rows.fnExactBlastCnfRow.origin Rows.fnExactBlastCnfRow.targs := of_decide_eq_true (by kernel_rfl)
theorem f_wrapper : Tryz.f5.isWrapper Tryz.prog Rows.fnExactBlastCnfRow.wrapper Rows.fnExactBlastCnfRow.mainSum := by
  unfold Func.isWrapper; first | (rw [if_pos (by decide +kernel)]; kernel_rfl) | (rw [if_neg (by decide +kernel)]; exact ⟨rfl, rfl⟩)
theorem said : Rows.FnExactBlastCnfSaid :=
  OpenClaim.holds_of_wide 5 Tryz.f5 rfl rfl rfl rfl rfl rfl rfl ⟨rfl, rfl, rfl, rfl, rfl⟩ rfl rfl rfl rfl rfl f_func Tryz.func5 (kv0 X8 ZI0 f_inPlace f_unfollowed f_recurses f_named f_rest)
    f_instance f_wrapper (fun os started H enc _ => lifted os started H enc)
theorem f_text : Rows.fnExactBlastCnfRow.wfByText (OpenSpec.ofChange Rows.fnExactBlastCnfSpec) = true := by kernel_rfl
theorem f_main : Tryz.prog.mainIs = some (Rows.fnExactBlastCnfCard.stood.harness.1, Rows.fnExactBlastCnfCard.stood.harness.2.toList) := by kernel_rfl
theorem f_looks : Rows.fnExactBlastCnfCard.stood.looks = Tryz.prog.looks [] := by kernel_rfl
theorem f_goes : false = Rows.fnExactBlastCnfRow.goesBy Tryz.prog := by kernel_rfl
theorem f_stand : ([xe, yr].all fun u => !Tryz.prog.wantsStandIn u) = true := by kernel_rfl
theorem proved : Rows.FnExactBlastCnfCardSaid :=
  Claim7.holds_tied_plain_at .later [] _ _ _ _ said (fun _ h => by cases h) f_text (fun _ h => by cases h) fnExactBlastCnf_row_tie rfl ⟨rfl, rfl⟩ f_main rfl
    (fun f fn hf hfn => by
      obtain rfl : f = 5 := Option.some.inj (f_func.symm.trans hf) |>.symm
      obtain rfl : fn = Tryz.f5 := (Option.some.inj (Tryz.func5.symm.trans hfn)).symm
      exact ⟨f_looks, fun j t ht => by
        rw [Tryz.params5] at ht
        have hm : t ∈ [xe, yr] := by simpa using Array.mem_of_getElem? ht
        exact (show Tryz.prog.wantsStandIn t = false by simpa using List.all_eq_true.1 f_stand t hm)⟩)
    f_goes
#print axioms proved
end Go.Proofs.YtaekfnbnhjgboaaGreatDoor.fnExactBlastCnf
