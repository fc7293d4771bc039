/- The laws on terms: FnTermSort. -/
import Derived.Test.YtbiabimalkkeiaaGreatDoorDv
set_option linter.unusedVariables false
set_option linter.unusedSimpArgs false
set_option linter.unnecessarySimpa false
set_option linter.unusedSectionVars false
namespace Go.Proofs.YtbiabimalkkeiaaGreatDoor
open Go Go.Vc Go.Proofs
variable {w : World} {K : Value → World → Prop} {F F' D G : Nat → Prop}
theorem run_eqb (x y : Bool) : (Op.equal T_bool (.bool x) (.bool y)).run PP w = .ok (x == y) w := by
  have hu : PP.underlying T_bool = some .bool := by kernel_rfl
  have : ∀ d, (Op.equalIn (d + 1) T_bool (.bool x) (.bool y)).run PP w = .ok (x == y) w := fun d => by
    rw [Op.equalIn, Sem.run_bind, run_underlying hu]; rfl
  exact this 9999
@[push_cast] theorem vbin_neb (b : Bool) (x y : Bool) : vbin PP .neq T_bool b (.bool x) (.bool y) w K = K (.bool (x != y)) w :=
  vbin_run rfl (by simp [binOp, run_eqb, Result.andThen, bne])
@[push_cast] theorem vbin_eqb (b : Bool) (x y : Bool) : vbin PP .eql T_bool b (.bool x) (.bool y) w K = K (.bool (x == y)) w :=
  vbin_run rfl (by simp [binOp, run_eqb, Result.andThen])
theorem Bytes.below {v : Value} {xs : List Nat} (h : Bytes F w v xs) : Bytes (fun b => b < w.heap.size) w v xs := ⟨h.1.weaken fun _ _ hl => hl, h.2⟩
theorem dtSize {ds : List M.Dcl} {t : M.Tm} : M.tsort ds t = -1 ∨ (0 ≤ M.tsort ds t ∧ M.tsort ds t ≤ 4 ∧ M.tsort ds t = M.sortM ds t ∧ M.fits t = true ∧ M.declOk ds = true) := by
  unfold M.tsort
  split
  · rename_i h
    have := M.sort_range h.2 t
    by_cases e : M.sortM ds t = -1
    · exact .inl e
    · exact .inr ⟨by omega, by omega, rfl, h.1, h.2⟩
  · exact .inl rfl
theorem tok_parts {ds : List M.Dcl} {t : M.Tm} {env : List Int} (h : M.tok ds t env = true) : M.envOk ds env = true ∧ M.sortM ds t ≠ -1 ∧ M.tsort ds t = M.sortM ds t ∧ M.fits t = true ∧ M.teval ds t env = M.evalM ds env t := by
  have hh := h
  unfold M.tok at h
  simp only [Bool.and_eq_true, decide_eq_true_eq] at h
  rcases dtSize (ds := ds) (t := t) with e | ⟨h1, h2, h3, h4, h5⟩
  · exact absurd e h.1
  · refine ⟨h.2, by omega, h3, h4, ?_⟩
    unfold M.teval; rw [if_pos hh]
theorem tok_of {ds : List M.Dcl} {t : M.Tm} {env : List Int} (he : M.envOk ds env = true) (hs : M.sortM ds t ≠ -1) (hf : M.fits t = true) : M.tok ds t env = true := by
  unfold M.tok M.tsort
  rw [if_pos ⟨hf, (M.env_ok he).1⟩, he, decide_eq_true hs]; rfl
theorem FnTermSort_spec {v : Value} {xs : List Nat} (hx : Bytes F w v xs) (hK : ∀ w', Ext w w' → K (.bool true) w') : vcall PP n_laws_FnTermSort #[v] w K := by
  apply c_laws_FnTermSort; unfold F_laws_FnTermSort
  simp (disch := (simp only [push_cast]; done)) only [push_cast, hx.len]
  refine vif_dec (fun _ => hK w (Same.refl _ _)) (fun _ => ?_)
  refine DrawTermEval_spec hx.below (fun b hb => hb) fun w1 dv tv ev ds t env he1 hd hok ht hi => ?_
  obtain ⟨cs, rfl, hcs⟩ := ht.cells
  simp only [push_cast]
  refine valloc_agg zr_impl_Term fun b2 w2 hb2 he2 hs2 h2 => ?_
  have hcs' := hcs.weaken (F' := fun x => x < w1.heap.size) fun x _ hl => hl
  refine stTerm h2 rfl (hcs'.ext he2) fun w3 hw3 _ h3 => ?_
  have he3 : Ext w1 w3 := Ext.then he2 hw3 fun y hy => by subst hy; omega
  have hg : aggB PP T_impl_Term cs.length = true := by rw [tmR_len hcs]; exact g_impl_Term
  have hE3 := he1.trans he3
  rw [h3.ldAgg (t := T_impl_Term) hg]
  refine TermSort_spec (hd.ext he3) (hcs.ext he3).term fun w4 he4 => ?_
  have h4 := h3.ext he4
  rw [h4.ldAgg (t := T_impl_Term) hg]
  have hE4 := he3.trans he4
  refine TermEval_spec (hd.ext hE4) (hcs.ext hE4).term (hi.ext hE4) fun w5 he5 => ?_
  simp only [push_cast]
  have h5 := h4.ext he5
  have hE5 := hE4.trans he5
  rw [h5.ldAgg (t := T_impl_Term) hg]
  refine spec_TermEval_spec (dsm_sized hok) (hd.ext hE5) (hcs.ext hE5).term (hi.ext hE5) fun w6 he6 => ?_
  simp only [push_cast]
  have h6 := h5.ext he6
  have hE6 := hE5.trans he6
  have hr := dtSize (ds := ds) (t := t)
  refine vjoin_of (fun u w' => u = [] ∧ Ext w w') (fun C hC => ?_) ?_
  · rw [h6.ldAgg (t := T_impl_Term) hg]
    refine spec_TermSort_spec (dsm_sized hok) (hd.ext hE6) (hcs.ext hE6).term fun w7 he7 => ?_
    have hE7 := hE6.trans he7
    simp only [push_cast]
    refine vif_dec (fun a => absurd rfl a) (fun _ => ?_)
    try simp only [push_cast]
    refine vif_dec (fun a => absurd rfl a) (fun _ => ?_)
    rw [bne_self_eq_false]
    try simp only [push_cast]
    refine vif_dec (fun a => ?_) (fun a => ?_)
    · refine EnvOk_spec (hd.ext hE7) (hi.ext hE7) fun w8 he8 => ?_
      have e : M.tok ds t env = M.envOk ds env := by
        unfold M.tok
        rw [show decide (M.tsort ds t ≠ -1) = true from decide_eq_true (by omega), Bool.true_and]
      simp only [push_cast, e, bne_self_eq_false]
      exact hC _ _ ⟨rfl, he1.trans (hE7.trans he8)⟩
    · have e : M.tok ds t env = false := by
        unfold M.tok
        rw [show decide (M.tsort ds t ≠ -1) = false from decide_eq_false (fun h => h (by omega)), Bool.false_and]
      simp only [push_cast, e, bne_self_eq_false]
      exact hC _ _ ⟨rfl, he1.trans hE7⟩
  · rintro u g w7 ⟨rfl, hE7⟩
    try simp only [push_cast]
    refine vif_bool (fun a => ?_) (fun a => ?_)
    · have e : M.tok ds t env = false := by simpa using a
      have e2 : M.teval ds t env = 0 := by unfold M.teval; rw [e]; rfl
      rw [e2]
      exact hK _ hE7
    · rw [Bool.not_eq_false'] at a
      obtain ⟨he, hs, hts, hf, hev⟩ := tok_parts a
      have hin := M.eval_in he t hs
      rw [hev, hts]
      refine vif_dec (fun c => ?_) (fun c => ?_)
      · rw [c] at hin
        rcases M.inS_zero hin with z | z
        · rw [z]
          simp only [decide_true, vif_t]
          exact hK _ hE7
        · rw [z]
          refine vif_dec (fun d => absurd d (by decide)) (fun _ => ?_)
          exact hK _ hE7
      · have hv := M.inS_pos hin (by omega)
        refine VecOk_spec fun w8 he8 => ?_
        rw [hv]
        exact hK _ (hE7.trans he8)
end Go.Proofs.YtbiabimalkkeiaaGreatDoor
