/- PROVED: whatever formula and state of a search it is given, the law FnExactSatStep returns true (the program's SatStep returns what the reference's returns), and its arguments read afterwards as they read before. No condition. -/
import Derived.Test.YtpihgpfebhegmaaGreatRows
import Derived.Test.YtpihgpfebhegmaaGreatXa
import Derived.Test.YtpihgpfebhegmaaGreatRy
set_option linter.unusedVariables false
set_option linter.unusedSimpArgs false
set_option linter.unnecessarySimpa false
set_option linter.unusedSectionVars false
namespace Go.Proofs.YtpihgpfebhegmaaGreat.fnExactSatStep
open Go Go.Vc Go.Proofs Go.M
open Go.ChangeShapes Go.WideShapes Go.ChangeAt Go.RowKit
theorem sdCnf : PP.underlying T_laws_Cnf = some (.struct #[⟨"Many", T_int, 0, false, "", "", 0⟩, ⟨"List", T_LLint, 1, false, "", "", 8⟩]) := by kernel_rfl
theorem sdSat : PP.underlying T_laws_Sat = some (.struct #[⟨"Put", T_Lint, 0, false, "", "", 0⟩, ⟨"Why", T_Lint, 1, false, "", "", 24⟩, ⟨"Learned", T_LLint, 2, false, "", "", 48⟩, ⟨"Code", T_int, 3, false, "", "", 72⟩]) := by kernel_rfl
theorem walk (W : World) (v0 v1 : Value) (c : Cnf) (s : Sat) (h0 : CnfR (fun _ => True) W v0 c) (h1 : SatR (fun _ => True) W v1 s) (m0 : -9223372036854775808 ≤ c.many) (m1 : c.many ≤ 9223372036854775807) : Calls PP 6 #[v0, v1] W fun e w' => e = .returned (.bool true) ∧ Below W.heap.size W w' := by
  have := FnExactSatStep_spec (w := W) (K := fun v w' => v = .bool true ∧ Ext W w') h0 h1 m0 m1 fun w' he => ⟨rfl, he⟩
  refine Calls.mono this.2 fun e w' he => ?_
  cases e with
  | returned v => exact ⟨by rw [he.1], ext_below he.2⟩
  | panicked c => exact he.elim
  | outgrown => exact he.elim
set_option maxRecDepth 100000 in
theorem lifted (os : Os) (started : os.Started) (H : Type) (enc : TypeId × Value → H) :
    ReturnsInHanded {} Tryz.checked os 6 .any (Rows.fnExactSatStepSpec.pre6 enc Tryz.prog Tryz.f6 Rows.fnExactSatStepRow.domain false) (Rows.fnExactSatStepSpec.post enc Tryz.prog Tryz.f6 false true false false) := by
  refine returnsInHanded_of_change (C := Tryz.checked) row_own started (by kernel_rfl) Tryz.func6
    (ChangeSpec.witness6 (enc := enc) (C := Tryz.checked) false ⟨#[], #[.agg #[.int .i64 0, .slice none 0 0], .agg #[.slice none 0 0, .slice none 0 0, .slice none 0 0, .int .i64 0]], []⟩ 8 (by kernel_rfl) (by kernel_rfl) (by kernel_rfl) (by kernel_rfl)) ?_
  intro W base args ds gs before hval0 hW hcnd _
  have hval : ∀ (j : Nat) t v, Tryz.f6.params[j]? = some t → args[j]? = some v → Value.okWide Tryz.prog W .any base t v := hval0
  have hW' := hW
  obtain ⟨p, q, hA0, hV, rfl, hfz, hnd⟩ := hW
  have hA : DataW.TrodAll enc Tryz.prog W 0 (fun _ => true) true Tryz.f6.params.toList args.toList ds p := hA0
  rw [Tryz.params6] at hA hval
  obtain ⟨v0, vs0, d0, ds0, p0, q0, hargs0, rfl, rfl, h0, r0⟩ := trodAll_cons hA
  obtain ⟨v1, vs1, d1, ds1, p1, q1, hargs1, rfl, rfl, h1, r1⟩ := trodAll_cons r0
  obtain ⟨rfl, rfl, rfl⟩ := trodAll_nil r1
  obtain rfl : args = #[v0, v1] := by cases args; simp_all
  obtain ⟨rfl, rfl⟩ := trodVars_none hV
  have k0 := h0
  have lt0 : ∀ x ∈ p0, x.block < W.heap.size := by obtain ⟨m, hm⟩ := k0; exact DataW.trod_lt m _ _ _ hm
  have k1 := h1
  have lt1 : ∀ x ∈ p1, x.block < W.heap.size := by obtain ⟨m, hm⟩ := k1; exact DataW.trod_lt m _ _ _ hm
  obtain ⟨c, w0, m0, m1⟩ : ∃ c, CnfR (fun _ => True) W v0 c ∧ -9223372036854775808 ≤ c.many ∧ c.many ≤ 9223372036854775807 := by
    obtain ⟨c0, c1, y0, y1, m, rfl, _, _, hy0, hy1⟩ := Go.Joins.open_agg2 (t := T_laws_Cnf) sdCnf (by kernel_rfl) (by kernel_rfl) (hval 0 T_laws_Cnf v0 rfl rfl) h0
    obtain ⟨n, e0, _, wn⟩ := DataW.trod_int ik_int hy0
    obtain ⟨v, zs, e1, hz⟩ := lists_in hy1
    simp only [List.cons.injEq, and_true] at e0 e1
    subst e0 e1
    have := i64_wf wn
    exact ⟨⟨n, zs⟩, ⟨_, rfl, hz⟩, this.1, this.2⟩
  obtain ⟨s, w1⟩ : ∃ s, SatR (fun _ => True) W v1 s := by
    obtain ⟨c0, c1, c2, c3, y0, y1, y2, y3, m, rfl, _, _, hy0, hy1, hy2, hy3⟩ := Go.Joins.open_agg4 (t := T_laws_Sat) sdSat (by kernel_rfl) (by kernel_rfl) (hval 1 T_laws_Sat v1 rfl rfl) h1
    obtain ⟨u0, z0, e0, g0⟩ := ints_in hy0
    obtain ⟨u1, z1, e1, g1⟩ := ints_in hy1
    obtain ⟨u2, z2, e2, g2⟩ := lists_in hy2
    obtain ⟨n, e3, _, _⟩ := DataW.trod_int ik_int hy3
    simp only [List.cons.injEq, and_true] at e0 e1 e2 e3
    subst e0 e1 e2 e3
    exact ⟨⟨z0, z1, z2, n⟩, _, _, _, rfl, g0, g1, g2⟩
  clear hA0 hval0
  refine (walk W _ _ c s w0 w1 m0 m1).mono fun e W' ⟨he, bel⟩ => ?_
  subst he
  exact ⟨_, rfl, _, _, _, [], _, [], hW', trodAll_mk1 (shut_bool (show PP.underlying T_bool = some .bool by kernel_rfl) _), (trodAll_cons_mk (Below.trod row_laidOut (by kernel_rfl) (of_decide_eq_true (by kernel_rfl)) k0 bel lt0) (trodAll_cons_mk (Below.trod row_laidOut (by kernel_rfl) (of_decide_eq_true (by kernel_rfl)) k1 bel lt1) trodAll_mk0)), rfl, bel.frame _, fun h => by cases h⟩
theorem proved : Rows.FnExactSatStepSaid :=
  OpenClaim.holds_of_wide 6 Tryz.f6 rfl rfl rfl rfl rfl rfl rfl ⟨rfl, rfl, rfl, rfl, rfl⟩ rfl rfl rfl rfl rfl (by kernel_rfl) Tryz.func6 (by kernel_rfl)
    (of_decide_eq_true (by kernel_rfl)) (by unfold Func.isWrapper; first | (rw [if_pos (by decide +kernel)]; kernel_rfl) | (rw [if_neg (by decide +kernel)]; exact ⟨rfl, rfl⟩))
    (fun os started H enc _ => lifted os started H enc)
#print axioms proved
end Go.Proofs.YtpihgpfebhegmaaGreat.fnExactSatStep
