/- PROVED: whatever declarations, term and environment it is given, the law FnExactTermEval returns true (the program's TermEval returns what the reference's returns), and its arguments read afterwards as they read before. No condition. -/
import Derived.Test.YtbiabimalkkeiaaGreatDoorRows
import Derived.Test.YtbiabimalkkeiaaGreatDoorCards
import Derived.Test.YtbiabimalkkeiaaGreatDoorTie
import Derived.SevenTiedAt
import Derived.LaidMore
import Derived.Lay
import Derived.Test.YtbiabimalkkeiaaGreatDoorXf
set_option linter.unusedVariables false
set_option linter.unusedSimpArgs false
set_option linter.unnecessarySimpa false
set_option linter.unusedSectionVars false
namespace Go.Proofs.YtbiabimalkkeiaaGreatDoor.fnExactTermEval
open Go Go.Vc Go.Proofs
open Go.ChangeShapes Go.WideShapes Go.ChangeAt Go.RowKit
theorem walk (W : World) (v0 v1 v2 : Value) (ds : List M.Dcl) (t : M.Tm) (env : List Int) (h0 : DclsR (fun _ => True) W v0 ds) (hz : Sized ds) (h1 : TermR (fun _ => True) W v1 t) (hs : strOk t = true) (h2 : Ints (fun _ => True) W v2 env) : Calls PP 3 #[v0, v1, v2] W fun e w' => e = .returned (.bool true) ∧ Below W.heap.size W w' := by
  have := FnExactTermEval_spec (w := W) (K := fun v w' => v = .bool true ∧ Ext W w') h0 hz h1 hs h2 fun w' he => ⟨rfl, he⟩
  refine Calls.mono this.2 fun e w' he => ?_
  cases e with
  | returned v => exact ⟨by rw [he.1], ext_below he.2⟩
  | panicked c => exact he.elim
  | outgrown => exact he.elim
set_option maxRecDepth 100000 in
theorem lifted (os : Os) (started : os.Started) (H : Type) (enc : TypeId × Value → H) :
    ReturnsInHanded {} Tryz.checked os 3 .any (fun w args => (Rows.fnExactTermEvalSpec.pre enc Tryz.prog Tryz.f3 Rows.fnExactTermEvalRow.domain false w args ∧ laidMetH Tryz.prog Rows.fnExactTermEvalRow.laid w) ∧ sizedMet enc Tryz.prog Tryz.f3 (OpenSpec.ofChange Rows.fnExactTermEvalSpec) false w args) (Rows.fnExactTermEvalSpec.post enc Tryz.prog Tryz.f3 false true false false) := by
  refine returnsInHanded_of_change_and (C := Tryz.checked) (X := fun w _ => laidMetH Tryz.prog Rows.fnExactTermEvalRow.laid w) (fun _ _ _ hh h => h.of_heap hh) row_own started (by kernel_rfl) Tryz.func3
    (ChangeSpec.witness_shaped (enc := enc) (C := Tryz.checked) (os := os) (X := fun w _ => laidMetH Tryz.prog Rows.fnExactTermEvalRow.laid w) false (World.laidAll Tryz.prog os Rows.fnExactTermEvalRow.laid) #[.slice none 0 0, .agg #[.int .i64 0, .int .i64 0, .int .i64 0, .string ⟨#[]⟩, .slice none 0 0], .slice none 0 0] 8 (World.laidAll_os _ _ _)
      (World.shaped_of_ZipB (by kernel_rfl) (by kernel_rfl)) (by kernel_rfl) (by kernel_rfl) (by kernel_rfl)
      (by rw [MakeChecks.laidMetH_plain _ _ _ (by kernel_rfl)]; exact laidMet_laidAll _ (by kernel_rfl) (by kernel_rfl))) ?_
  intro W base args ds gs before hval0 hW hcnd _ hL _
  have hval : ∀ (j : Nat) t v, Tryz.f3.params[j]? = some t → args[j]? = some v → Value.okWide Tryz.prog W .any base t v := hval0
  have hW' := hW
  obtain ⟨p, q, hA0, hV, rfl, hfz, hnd⟩ := hW
  have hA : DataW.TrodAll enc Tryz.prog W 0 (fun _ => true) true Tryz.f3.params.toList args.toList ds p := hA0
  rw [Tryz.params3] at hA hval
  obtain ⟨v0, vs0, d0, ds0, p0, q0, hargs0, rfl, rfl, h0, r0⟩ := trodAll_cons hA
  obtain ⟨v1, vs1, d1, ds1, p1, q1, hargs1, rfl, rfl, h1, r1⟩ := trodAll_cons r0
  obtain ⟨v2, vs2, d2, ds2, p2, q2, hargs2, rfl, rfl, h2, r2⟩ := trodAll_cons r1
  obtain ⟨rfl, rfl, rfl⟩ := trodAll_nil r2
  obtain rfl : args = #[v0, v1, v2] := by cases args; simp_all
  obtain ⟨rfl, rfl⟩ := trodVars_none hV
  have k0 := h0
  have lt0 : ∀ x ∈ p0, x.block < W.heap.size := by obtain ⟨m, hm⟩ := k0; exact DataW.trod_lt m _ _ _ hm
  have k1 := h1
  have lt1 : ∀ x ∈ p1, x.block < W.heap.size := by obtain ⟨m, hm⟩ := k1; exact DataW.trod_lt m _ _ _ hm
  have k2 := h2
  have lt2 : ∀ x ∈ p2, x.block < W.heap.size := by obtain ⟨m, hm⟩ := k2; exact DataW.trod_lt m _ _ _ hm
  obtain ⟨dd, g0, gz⟩ : ∃ dd, DclsR (fun _ => True) W v0 dd ∧ Sized dd := by
    obtain ⟨a, l, c, rfl⟩ := okWide_slice u_Llaws_Decl (hval 0 T_Llaws_Decl v0 rfl rfl)
    obtain ⟨fuel, hf⟩ := h0
    obtain ⟨v, dd, e, hd, hz⟩ := decls_in (cs := [.slice a l c]) (by simpa [Value.cells] using hf)
    simp only [List.cons.injEq, and_true] at e
    subst e
    exact ⟨dd, hd, hz⟩
  obtain ⟨t, g1, gs⟩ : ∃ t, TermR (fun _ => True) W v1 t ∧ strOk t = true := by
    obtain ⟨cs, rfl, hsz⟩ := okWide_struct sdTerm (hval 1 T_laws_Term v1 rfl rfl)
    obtain ⟨fuel, hf⟩ := h1
    obtain ⟨t, ht, hs⟩ := term_in fuel (cs := cs.toList) hf
    exact ⟨t, ht.term, hs⟩
  obtain ⟨env, g2⟩ : ∃ env, Ints (fun _ => True) W v2 env := by
    obtain ⟨a, l, c, rfl⟩ := okWide_slice u_Lint (hval 2 T_Lint v2 rfl rfl)
    obtain ⟨fuel, hf⟩ := h2
    obtain ⟨v, env, e, hd⟩ := ints_in (cs := [.slice a l c]) (by simpa [Value.cells] using hf)
    simp only [List.cons.injEq, and_true] at e
    subst e
    exact ⟨env, hd⟩
  clear hA0 hval0
  refine (walk W _ _ _ dd t env g0 gz g1 gs g2).mono fun e W' ⟨he, bel⟩ => ?_
  subst he
  exact ⟨_, rfl, _, _, _, [], _, [], hW', trodAll_mk1 (shut_bool (show PP.underlying T_bool = some .bool by kernel_rfl) _), (trodAll_cons_mk (Below.trod row_laidOut (by kernel_rfl) (of_decide_eq_true (by kernel_rfl)) k0 bel lt0) (trodAll_cons_mk (Below.trod row_laidOut (by kernel_rfl) (of_decide_eq_true (by kernel_rfl)) k1 bel lt1) (trodAll_cons_mk (Below.trod row_laidOut (by kernel_rfl) (of_decide_eq_true (by kernel_rfl)) k2 bel lt2) trodAll_mk0))), rfl, bel.frame _, fun h => by cases h⟩
theorem said : Rows.FnExactTermEvalSaid :=
  OpenClaim.holds_of_wide 3 Tryz.f3 rfl rfl rfl rfl rfl rfl rfl ⟨rfl, rfl, rfl, rfl, rfl⟩ rfl rfl rfl rfl rfl (by kernel_rfl) Tryz.func3 (by kernel_rfl)
    (of_decide_eq_true (by kernel_rfl)) (by unfold Func.isWrapper; first | (rw [if_pos (by decide +kernel)]; kernel_rfl) | (rw [if_neg (by decide +kernel)]; exact ⟨rfl, rfl⟩))
    (fun os started H enc _ => lifted os started H enc)
theorem proved : Rows.FnExactTermEvalCardSaid :=
  Claim7.holds_tied_plain_at .later [] _ _ _ _ said (fun _ h => by cases h) (by kernel_rfl) (fun _ h => by cases h) fnExactTermEval_row_tie rfl ⟨rfl, rfl⟩ (by kernel_rfl) rfl
    (fun f fn hf hfn => by
      obtain rfl : f = 3 := Option.some.inj ((show Tryz.prog.funcNamed Rows.fnExactTermEvalRow.func = some 3 by kernel_rfl).symm.trans hf) |>.symm
      obtain rfl : fn = Tryz.f3 := (Option.some.inj (Tryz.func3.symm.trans hfn)).symm
      exact ⟨by kernel_rfl, fun j t ht => by
        rw [Tryz.params3] at ht
        have hm : t ∈ [T_Llaws_Decl, T_laws_Term, T_Lint] := by simpa using Array.mem_of_getElem? ht
        have hall : ([T_Llaws_Decl, T_laws_Term, T_Lint].all fun u => !Tryz.prog.wantsStandIn u) = true := by kernel_rfl
        exact (show Tryz.prog.wantsStandIn t = false by simpa using List.all_eq_true.1 hall t hm)⟩)
    (by kernel_rfl)
#print axioms proved
end Go.Proofs.YtbiabimalkkeiaaGreatDoor.fnExactTermEval
