/- PROVED: whatever arguments it is given, the law FnExactSolveWays returns true (the program's SolveWays returns what the reference's returns), and its arguments read afterwards as they read before. No condition. -/
import Derived.Test.YtfnpmncplaibiaaGreatDoorWqbP3
import Derived.Test.YtfnpmncplaibiaaGreatDoorRows
import Derived.Test.YtfnpmncplaibiaaGreatDoorCards
import Derived.Test.YtfnpmncplaibiaaGreatDoorTie
import Derived.SevenTiedAt
import Derived.LaidMore
import Derived.Lay
import Derived.Test.YtfnpmncplaibiaaGreatDoorWqbP15
import Derived.Test.YtfnpmncplaibiaaGreatDoorWqbP2
set_option linter.unusedVariables false
set_option linter.unusedSimpArgs false
set_option linter.unnecessarySimpa false
set_option linter.unusedSectionVars false
namespace Go.Proofs.YtfnpmncplaibiaaGreatDoor.fnExactSolveWays
open Go Go.Vc Go.Proofs
open Go.ChangeShapes Go.WideShapes Go.ChangeAt Go.RowKit
theorem walk (W : World) (v0 v1 v2 : Value) (y0 : List M.Dcl) (h0 : DclsR (fun _ => True) W v0 y0) (z0 : JX y0) (y1 : List M.Tm) (h1 : TmsR (fun _ => True) W v1 y1) (z1 : ∀ k, k ∈ y1 → QH k = true) (y2 : Int) (h2 : v2 = .int .i64 y2) (z2 : -9223372036854775808 ≤ y2 ∧ y2 ≤ 9223372036854775807) (a_t a_n a_m a_r a_b : Addr) (er : Er W a_t a_n a_m a_r a_b) : Calls P 3 #[v0, v1, v2] W fun e w' => e = .returned (.bool true) ∧ Below W.heap.size W w' := by
  have := FnExactSolveWays_spec (w := W) (K := fun v w' => v = .bool true ∧ Ext W w') h0 z0 h1 z1 h2 z2 er fun w' he => ⟨rfl, he⟩
  refine Calls.mono this.2 fun e w' he => ?_
  cases e with
  | returned v => exact ⟨by rw [he.1], jO0 he.2⟩
  | panicked c => exact he.elim
  | outgrown => exact he.elim
set_option maxRecDepth 100000 in
theorem lifted (os : Os) (started : os.Started) (H : Type) (enc : TypeId × Value → H) :
    ReturnsInHanded {} Tryz.checked os 3 .any (fun w args => (Rows.fnExactSolveWaysSpec.pre enc Tryz.prog Tryz.f3 Rows.fnExactSolveWaysRow.domain false w args ∧ laidMetH Tryz.prog Rows.fnExactSolveWaysRow.laid w) ∧ sizedMet enc Tryz.prog Tryz.f3 (OpenSpec.ofChange Rows.fnExactSolveWaysSpec) false w args) (Rows.fnExactSolveWaysSpec.post enc Tryz.prog Tryz.f3 false true false false) := by
  refine returnsInHanded_of_change_and (C := Tryz.checked) (X := fun w _ => laidMetH Tryz.prog Rows.fnExactSolveWaysRow.laid w) (fun _ _ _ hh h => h.of_heap hh) Yk0 started (by kernel_rfl) Tryz.func3
    (ChangeSpec.witness_shaped (enc := enc) (C := Tryz.checked) (os := os) (X := fun w _ => laidMetH Tryz.prog Rows.fnExactSolveWaysRow.laid w) false (World.laidAll Tryz.prog os Rows.fnExactSolveWaysRow.laid) #[.slice none 0 0, .slice none 0 0, .int .i64 0] 8 (World.laidAll_os _ _ _)
      (World.shaped_of_ZipB (by kernel_rfl) (by kernel_rfl)) (by kernel_rfl) (by kernel_rfl) (by kernel_rfl)
      (by rw [MakeChecks.laidMetH_plain _ _ _ (by kernel_rfl)]; exact laidMet_laidAll _ (by kernel_rfl) (by kernel_rfl))) ?_
  intro W base args ds gs before hval0 hW hcnd _ hL _
  have hval : ∀ (j : Nat) t v, Tryz.f3.params[j]? = some t → args[j]? = some v → Value.okWide Tryz.prog W .any base t v := hval0
  have hW' := hW
  obtain ⟨p, q, hA0, hV, rfl, hfz, hnd⟩ := hW
  have hA : DataW.TrodAll enc Tryz.prog W 0 (fun _ => true) true Tryz.f3.params.toList args.toList ds p := hA0
  rw [Tryz.params3] at hA hval
  obtain ⟨v0, vs0, d0, ds0, p0, q0, hargs0, rfl, rfl, h0, r0⟩ := trodAll_cons hA
  obtain ⟨v1, vs1, d1, ds1, p1, q1, hargs1, rfl, rfl, h1, r1⟩ := trodAll_cons r0
  obtain ⟨v2, vs2, d2, ds2, p2, q2, hargs2, rfl, rfl, h2, r2⟩ := trodAll_cons r1
  obtain ⟨rfl, rfl, rfl⟩ := trodAll_nil r2
  obtain rfl : args = #[v0, v1, v2] := by cases args; simp_all
  have hL' : laidMet P Rows.fnExactSolveWaysRow.laid W := by rw [← MakeChecks.laidMetH_plain _ _ _ (by kernel_rfl)]; exact hL
  obtain ⟨g_errTerms, g_errNo, g_errMuch, g_errRoom, g_errBits, rfl⟩ := vlist5 (vars_len hV)
  obtain ⟨a_t, a_n, a_m, a_r, a_b, er⟩ := er_of hL' 4 rfl (by kernel_rfl) (by kernel_rfl) (by kernel_rfl) (by kernel_rfl) (by kernel_rfl) (by kernel_rfl) (by kernel_rfl) (by kernel_rfl) (by kernel_rfl) (by kernel_rfl)
  have k0 := h0
  have lt0 : ∀ x ∈ p0, x.block < W.heap.size := by obtain ⟨m, hm⟩ := k0; exact DataW.trod_lt m _ _ _ hm
  have k1 := h1
  have lt1 : ∀ x ∈ p1, x.block < W.heap.size := by obtain ⟨m, hm⟩ := k1; exact DataW.trod_lt m _ _ _ hm
  have k2 := h2
  have lt2 : ∀ x ∈ p2, x.block < W.heap.size := by obtain ⟨m, hm⟩ := k2; exact DataW.trod_lt m _ _ _ hm
  obtain ⟨y0, g0, z0⟩ : ∃ dd, DclsR (fun _ => True) W v0 dd ∧ JX dd := by
    obtain ⟨a, l, c, rfl⟩ := okWide_slice Jm (hval 0 qn v0 rfl rfl)
    obtain ⟨fuel, hf⟩ := h0
    obtain ⟨v, dd, e, hd, hz⟩ := decls_in (cs := [.slice a l c]) (by simp [Value.cells] at hf; exact hf)
    simp only [List.cons.injEq, and_true] at e
    subst e
    exact ⟨dd, hd, hz⟩
  obtain ⟨y1, g1, z1⟩ : ∃ ks, TmsR (fun _ => True) W v1 ks ∧ ∀ k, k ∈ ks → QH k = true := by
    obtain ⟨a, l, c, rfl⟩ := okWide_slice ZW (hval 1 xc v1 rfl rfl)
    obtain ⟨fuel, hf⟩ := h1
    obtain ⟨v, ks, e, hd, hz⟩ := terms_in (cs := [.slice a l c]) (by simp [Value.cells] at hf; exact hf)
    simp only [List.cons.injEq, and_true] at e
    subst e
    exact ⟨ks, hd, hz⟩
  obtain ⟨y2, g2, z2⟩ : ∃ n : Int, v2 = .int .i64 n ∧ (-9223372036854775808 ≤ n ∧ n ≤ 9223372036854775807) := by
    obtain ⟨n, e, hn⟩ := open_int Qo (hval 2 zE v2 rfl rfl) h2
    have hw := i64_wf (n := n) (by first | exact hn | exact hn.1 | exact hn.2 | exact hn.2.1 | exact hn.2.2 | exact hn.2.2.1)
    exact ⟨n, e, hw⟩
  clear hA0 hval0
  refine (walk W _ _ _ y0 g0 z0 y1 g1 z1 y2 g2 z2 a_t a_n a_m a_r a_b er).mono fun e W' ⟨he, bel⟩ => ?_
  subst he
  exact ⟨_, rfl, _, _, _, _, _, _, hW', trodAll_mk1 (shut_bool (show P.underlying Yu = some .bool by kernel_rfl) _), (trodAll_cons_mk (Below.trod kj (by kernel_rfl) (of_decide_eq_true (by kernel_rfl)) k0 bel lt0) (trodAll_cons_mk (Below.trod kj (by kernel_rfl) (of_decide_eq_true (by kernel_rfl)) k1 bel lt1) (trodAll_cons_mk (Below.trod kj (by kernel_rfl) (of_decide_eq_true (by kernel_rfl)) k2 bel lt2) trodAll_mk0))), Below.trodVars kj bel (by kernel_rfl) hV, bel.frame _, fun h => by cases h⟩
theorem f_func : Tryz.prog.funcNamed Rows.fnExactSolveWaysRow.func = some 3 := by kernel_rfl
theorem f_instance : Tryz.f3.isInstance Tryz.prog Rows.fnExactSolveWaysRow.origin Rows.fnExactSolveWaysRow.targs := of_decide_eq_true (by kernel_rfl)
theorem f_wrapper : Tryz.f3.isWrapper Tryz.prog Rows.fnExactSolveWaysRow.wrapper Rows.fnExactSolveWaysRow.mainSum := by
  unfold Func.isWrapper; first | (rw [if_pos (by decide +kernel)]; kernel_rfl) | (rw [if_neg (by decide +kernel)]; exact ⟨rfl, rfl⟩)
theorem said : Rows.FnExactSolveWaysSaid :=
  OpenClaim.holds_of_wide 3 Tryz.f3 rfl rfl rfl rfl rfl rfl rfl ⟨rfl, rfl, rfl, rfl, rfl⟩ rfl rfl rfl rfl rfl f_func Tryz.func3 (jz0 kj kU0 f_inPlace f_unfollowed f_recurses f_named f_rest)
    f_instance f_wrapper (fun os started H enc _ => lifted os started H enc)
theorem f_text : Rows.fnExactSolveWaysRow.wfByText (OpenSpec.ofChange Rows.fnExactSolveWaysSpec) = true := by kernel_rfl
theorem f_main : Tryz.prog.mainIs = some (Rows.fnExactSolveWaysCard.stood.harness.1, Rows.fnExactSolveWaysCard.stood.harness.2.toList) := by kernel_rfl
theorem f_looks : Rows.fnExactSolveWaysCard.stood.looks = Tryz.prog.looks [] := by kernel_rfl
theorem none_goes {P : Program} (h : P.funcs.any Func.goes = false) (c : OpenClaim) : false = c.goesBy P := by
  have h1 : ∀ (g : Nat), (P.funcs[g]?).any Func.goes = false := fun g => by
    rw [Array.any_eq_false] at h
    cases hg : P.funcs[g]? with
    | none => rfl
    | some fn =>
      obtain ⟨hl, rfl⟩ := Array.getElem?_eq_some_iff.1 hg
      simpa using h g hl
  have h2 : ∀ f, P.goes f = false := fun f => by
    unfold Program.goes
    simp [h1, h]
  unfold OpenClaim.goesBy Program.goesAt Program.goesFrom
  cases P.funcNamed c.func <;> cases c.start <;> simp [h2]
theorem f_goes : false = Rows.fnExactSolveWaysRow.goesBy Tryz.prog := none_goes (by kernel_rfl) _
theorem f_stand : ([qn, xc, zE].all fun u => !Tryz.prog.wantsStandIn u) = true := by kernel_rfl
theorem proved : Rows.FnExactSolveWaysCardSaid :=
  Claim7.holds_tied_plain_at .later [] _ _ _ _ said (fun _ h => by cases h) f_text (fun _ h => by cases h) fnExactSolveWays_row_tie rfl ⟨rfl, rfl⟩ f_main rfl
    (fun f fn hf hfn => by
      obtain rfl : f = 3 := Option.some.inj (f_func.symm.trans hf) |>.symm
      obtain rfl : fn = Tryz.f3 := (Option.some.inj (Tryz.func3.symm.trans hfn)).symm
      exact ⟨f_looks, fun j t ht => by
        rw [Tryz.params3] at ht
        have hm : t ∈ [qn, xc, zE] := by simpa using Array.mem_of_getElem? ht
        exact (show Tryz.prog.wantsStandIn t = false by simpa using List.all_eq_true.1 f_stand t hm)⟩)
    f_goes
#print axioms proved
end Go.Proofs.YtfnpmncplaibiaaGreatDoor.fnExactSolveWays
