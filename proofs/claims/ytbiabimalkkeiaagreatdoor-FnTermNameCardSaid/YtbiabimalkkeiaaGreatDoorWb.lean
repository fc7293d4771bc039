/- The laws on terms: FnTermLogic. -/
import Derived.Test.YtbiabimalkkeiaaGreatDoorWa
set_option linter.unusedVariables false
set_option linter.unusedSimpArgs false
set_option linter.unnecessarySimpa false
set_option linter.unusedSectionVars false
namespace Go.Proofs.YtbiabimalkkeiaaGreatDoor
open Go Go.Vc Go.Proofs
variable {w : World} {K : Value → World → Prop} {F F' D G : Nat → Prop}
/-- A term without a name and numbers. -/
abbrev nodeM (o : Int) (ks : List M.Tm) : M.Tm := .mk o 0 0 M.nada ks
theorem tok_sort {ds : List M.Dcl} {t : M.Tm} {env : List Int} (h : M.tok ds t env = true) : M.envOk ds env = true ∧ M.sortM ds t ≠ -1 ∧ M.teval ds t env = M.evalM ds env t := by
  obtain ⟨h1, h2, _, _, h5⟩ := tok_parts h
  exact ⟨h1, h2, h5⟩
theorem logic_ab {ds : List M.Dcl} {t u : M.Tm} {env : List Int} (hx : M.tok ds (nodeM 25 [nodeM 26 [t, u]]) env = true) (hy : M.tok ds (nodeM 27 [nodeM 25 [t], nodeM 25 [u]]) env = true) :
    M.teval ds (nodeM 25 [nodeM 26 [t, u]]) env = M.teval ds (nodeM 27 [nodeM 25 [t], nodeM 25 [u]]) env := by
  obtain ⟨he, hs, hv⟩ := tok_sort hx
  obtain ⟨_, hs', hv'⟩ := tok_sort hy
  rw [hv, hv']
  obtain ⟨_, i1, e1⟩ := M.eval_no he hs rfl
  have k1 := M.good_kid hs (i := 0) (by show 0 < 1; omega)
  obtain ⟨_, i2, i3, e2⟩ := M.eval_two he k1 (.inl rfl)
  obtain ⟨_, j1, j2, f1⟩ := M.eval_two he hs' (.inr rfl)
  have l1 := M.good_kid hs' (i := 0) (by show 0 < 2; omega)
  have l2 := M.good_kid hs' (i := 1) (by show 1 < 2; omega)
  obtain ⟨_, _, g1⟩ := M.eval_no he l1 rfl
  obtain ⟨_, _, g2⟩ := M.eval_no he l2 rfl
  rw [e1, e2, f1, g1, g2, if_pos (show (M.kid (nodeM 25 [nodeM 26 [t, u]]) 0).op = 26 from rfl), if_neg (show ¬ (nodeM 27 [nodeM 25 [t], nodeM 25 [u]]).op = 26 from fun e => absurd (show (27 : Int) = 26 from e) (by decide))]
  have a0 : M.kid (M.kid (nodeM 25 [nodeM 26 [t, u]]) 0) 0 = t := rfl
  have a1 : M.kid (M.kid (nodeM 25 [nodeM 26 [t, u]]) 0) 1 = u := rfl
  have a2 : M.kid (M.kid (nodeM 27 [nodeM 25 [t], nodeM 25 [u]]) 0) 0 = t := rfl
  have a3 : M.kid (M.kid (nodeM 27 [nodeM 25 [t], nodeM 25 [u]]) 1) 0 = u := rfl
  rw [a0] at i2; rw [a1] at i3
  rw [a0, a1, a2, a3]
  rcases M.inS_zero i2 with p | p <;> rcases M.inS_zero i3 with q | q <;> rw [p, q] <;> rfl
theorem logic_c {ds : List M.Dcl} {t : M.Tm} {env : List Int} (ht : M.tok ds t env = true) (hz : M.tok ds (nodeM 23 [t, nodeM 24 [], nodeM 25 [nodeM 24 []]]) env = true) :
    M.teval ds (nodeM 23 [t, nodeM 24 [], nodeM 25 [nodeM 24 []]]) env = M.teval ds t env := by
  obtain ⟨he, hs, hv⟩ := tok_sort hz
  obtain ⟨_, _, hv'⟩ := tok_sort ht
  rw [hv, hv']
  obtain ⟨_, i1, e1⟩ := M.eval_if he hs rfl
  have l2 := M.good_kid hs (i := 2) (by show 2 < 3; omega)
  obtain ⟨_, _, g2⟩ := M.eval_no he l2 rfl
  have b0 : M.kid (nodeM 23 [t, nodeM 24 [], nodeM 25 [nodeM 24 []]]) 0 = t := rfl
  have b1 : M.evalM ds env (M.kid (nodeM 23 [t, nodeM 24 [], nodeM 25 [nodeM 24 []]]) 1) = 1 := by rw [M.eval_leaf (.inr (.inr rfl))]; rfl
  have b2 : M.evalM ds env (M.kid (M.kid (nodeM 23 [t, nodeM 24 [], nodeM 25 [nodeM 24 []]]) 2) 0) = 1 := by rw [M.eval_leaf (.inr (.inr rfl))]; rfl
  rw [b0] at i1
  rw [e1, g2, b0, b1, b2]
  rcases M.inS_zero i1 with p | p <;> rw [p] <;> rfl
theorem anyT {v : Value} {t : M.Tm} (h : TermR F w v t) : TermR (fun _ => True) w v t := h.weaken fun _ _ _ => trivial
theorem node_term {o : Int} {a : Option Addr} {l c : Nat} {ks : List M.Tm} (h : TmsR F w (.slice a l c) ks) : TermR F w (.agg ⟨[.int .i64 o, .int .i64 0, .int .i64 0, .string ⟨#[]⟩, .slice a l c]⟩) (nodeM o ks) := ⟨_, rfl, h⟩
theorem node_leaf {o : Int} : TermR F w (.agg ⟨[.int .i64 o, .int .i64 0, .int .i64 0, .string ⟨#[]⟩, .slice none 0 0]⟩) (nodeM o []) := node_term TmsR.nil
theorem FnTermLogic_spec {v v' : Value} {xs xs' : List Nat} (hx : Bytes F w v xs) (hx' : Bytes F' w v' xs') (hK : ∀ w', Ext w w' → K (.bool true) w') : vcall PP n_laws_FnTermLogic #[v, v'] w K := by
  apply c_laws_FnTermLogic; unfold F_laws_FnTermLogic
  refine vjoin_of (fun u w' => u = [] ∧ w' = w) (fun C hC => ?_) ?_
  · simp (disch := (simp only [push_cast]; done)) only [push_cast, hx.len, hx'.len]
    refine vif_dec (fun _ => hK w (Same.refl _ _)) (fun _ => ?_)
    refine vif_dec (fun _ => hK w (Same.refl _ _)) (fun _ => ?_)
    exact hC _ _ ⟨rfl, rfl⟩
  rintro u0 g w0 ⟨rfl, rfl⟩
  refine DrawTermEval_spec hx.below (fun b hb => hb) fun w1 dv tv ev ds t env he1 hd hok ht hi => ?_
  obtain ⟨cs, rfl, hcs⟩ := ht.cells
  simp only [push_cast]
  refine valloc_agg zr_impl_Term fun b2 w2 hb2 he2 hs2 h2 => ?_
  have hcs' := hcs.weaken (F' := fun x => x < w1.heap.size) fun x _ hl => hl
  refine stTerm h2 rfl (hcs'.ext he2) fun w3 hw3 hz3 h3 => ?_
  have he3 : Ext w1 w3 := Ext.then he2 hw3 fun y hy => by subst hy; omega
  have hE3 := he1.trans he3
  have hg : aggB PP T_impl_Term cs.length = true := by rw [tmR_len hcs]; exact g_impl_Term
  refine DrawTermSort_spec (hx'.ext hE3).below (fun b hb => hb) fun w4 _ uv _ u he4 _ _ hu => ?_
  obtain ⟨cu, rfl, hcu⟩ := hu.cells
  simp only [push_cast]
  refine valloc_agg zr_impl_Term fun b5 w5 hb5 he5 hs5 h5 => ?_
  have hcu' := hcu.weaken (F' := fun x => x < w4.heap.size) fun x _ hl => hl
  refine stTerm h5 rfl (hcu'.ext he5) fun w6 hw6 hz6 h6 => ?_
  have he6 : Ext w4 w6 := Ext.then he5 hw6 fun y hy => by subst hy; omega
  have hgu : aggB PP T_impl_Term cu.length = true := by rw [tmR_len hcu]; exact g_impl_Term
  have hE6 := hE3.trans (he4.trans he6)
  have ht6 := anyT (hcs.ext (he3.trans (he4.trans he6))).term
  have hd6 := hd.ext (he3.trans (he4.trans he6))
  have hi6 := hi.ext (he3.trans (he4.trans he6))
  have hu6 := anyT (hcu.ext he6).term
  have r6 := h3.ext (he4.trans he6)
  clear hcs' hcu' h2 h3 h5 hi hd
  rw [r6.ldAgg (t := T_impl_Term) hg]
  refine TermEval_spec hd6 ht6 hi6 fun w7 he7 => ?_
  simp only [push_cast]
  rw [(r6.ext he7).ldAgg (t := T_impl_Term) hg]
  refine spec_TermEval_spec (dsm_sized hok) (hd6.ext he7) (ht6.ext he7) (hi6.ext he7) fun w8 he8 => ?_
  simp only [push_cast]
  have hE8 := he7.trans he8
  refine vjoin_of (fun u w' => u = [] ∧ Ext w6 w' ∧ M.tok ds t env = true) (fun C hC => ?_) ?_
  · rw [bne_self_eq_false]
    simp only [push_cast, beq_self_eq_true]
    refine vif_bool (fun _ => hK _ (hE6.trans hE8)) (fun a => ?_)
    rw [Bool.not_eq_false'] at a
    rw [(r6.ext hE8).ldAgg (t := T_impl_Term) hg]
    refine TermSort_spec (hd6.ext hE8) (ht6.ext hE8) fun w9 he9 => ?_
    have hE9 := hE8.trans he9
    simp only [push_cast]
    refine vif_dec (fun _ => hK _ (hE6.trans hE9)) (fun _ => ?_)
    rw [(h6.ext hE9).ldAgg (t := T_impl_Term) hgu]
    refine TermSort_spec (hd6.ext hE9) (hu6.ext hE9) fun w10 he10 => ?_
    have hE10 := hE9.trans he10
    simp only [push_cast]
    refine vif_dec (fun _ => hK _ (hE6.trans hE10)) (fun _ => ?_)
    exact hC _ _ ⟨rfl, hE10, a⟩
  rintro u1 g w9 ⟨rfl, hE9, htok⟩
  rw [(r6.ext hE9).ldAgg (t := T_impl_Term) hg]
  refine kids1 (ht6.ext hE9) fun w10 a10 he10 _ k10 => ?_
  simp only [push_cast]
  have n10 := (anyT (node_term (o := 25) k10))
  obtain ⟨cn, en, hcn⟩ := n10.cells
  rw [en]
  refine valloc_agg zr_impl_Term fun b11 w11 hb11 he11 hs11 h11 => ?_
  have hcn' := hcn.weaken (F' := fun x => x < w10.heap.size) fun x _ hl => hl
  refine stTerm h11 rfl (hcn'.ext he11) fun w12 hw12 hz12 h12 => ?_
  have he12 : Ext w10 w12 := Ext.then he11 hw12 fun y hy => by subst hy; omega
  have hgn : aggB PP T_impl_Term cn.length = true := by rw [tmR_len hcn]; exact g_impl_Term
  have hE12 := hE9.trans (he10.trans he12)
  have hn12 := n10.ext he12
  rw [en] at hn12
  rw [(r6.ext hE12).ldAgg (t := T_impl_Term) hg]
  rw [(h6.ext hE12).ldAgg (t := T_impl_Term) hgu]
  refine kids2 (ht6.ext hE12) (hu6.ext hE12) fun w13 a13 he13 _ k13 => ?_
  simp only [push_cast]
  refine kids1 (anyT (node_term (o := 26) k13)) fun w14 a14 he14 _ k14 => ?_
  simp only [push_cast]
  have hE14 := hE12.trans (he13.trans he14)
  refine TermEval_spec (hd6.ext hE14) (anyT (node_term (o := 25) k14)) (hi6.ext hE14) fun w15 he15 => ?_
  simp only [push_cast]
  have hE15 := hE14.trans he15
  have e1215 := (he13.trans he14).trans he15
  rw [(h12.ext e1215).ldAgg (t := T_impl_Term) hgn]
  rw [(h6.ext hE15).ldAgg (t := T_impl_Term) hgu]
  refine kids1 (hu6.ext hE15) fun w16 a16 he16 _ k16 => ?_
  simp only [push_cast]
  refine kids2 ((hn12.ext e1215).ext he16) (anyT (node_term (o := 25) k16)) fun w17 a17 he17 _ k17 => ?_
  simp only [push_cast]
  have hE17 := hE15.trans (he16.trans he17)
  refine TermEval_spec (hd6.ext hE17) (anyT (node_term (o := 27) k17)) (hi6.ext hE17) fun w18 he18 => ?_
  simp only [push_cast]
  have hE18 := hE17.trans he18
  rw [(r6.ext hE18).ldAgg (t := T_impl_Term) hg]
  refine kids1 (node_leaf (o := 24) (F := fun _ => True)) fun w19 a19 he19 _ k19 => ?_
  simp only [push_cast]
  have hE19 := hE18.trans he19
  refine kids3 (ht6.ext hE19) node_leaf (anyT (node_term (o := 25) k19)) fun w20 a20 he20 _ k20 => ?_
  simp only [push_cast]
  have hE20 := hE19.trans he20
  refine TermEval_spec (hd6.ext hE20) (anyT (node_term (o := 23) k20)) (hi6.ext hE20) fun w21 he21 => ?_
  simp only [push_cast]
  have fin : Ext w0 w21 := hE6.trans (hE20.trans he21)
  have last : ∀ B : Prop, (M.tok ds (nodeM 23 [t, nodeM 24 [], nodeM 25 [nodeM 24 []]]) env = true → B) → B ∨ M.tok ds (nodeM 23 [t, nodeM 24 [], nodeM 25 [nodeM 24 []]]) env = false := fun B h => by
    cases e : M.tok ds (nodeM 23 [t, nodeM 24 [], nodeM 25 [nodeM 24 []]]) env
    · exact .inr rfl
    · exact .inl (h e)
  have tail : vif (.bool (!M.tok ds (nodeM 23 [t, nodeM 24 [], nodeM 25 [nodeM 24 []]]) env)) (K (.bool true) w21) (K (.bool (decide (M.teval ds (nodeM 23 [t, nodeM 24 [], nodeM 25 [nodeM 24 []]]) env = M.teval ds t env))) w21) := by
    refine vif_bool (fun _ => hK _ fin) (fun a => ?_)
    rw [Bool.not_eq_false'] at a
    rw [decide_eq_true (logic_c htok a)]
    exact hK _ fin
  clear last
  refine vif_bool (fun _ => tail) (fun a => ?_)
  refine vif_bool (fun _ => tail) (fun b => ?_)
  rw [Bool.not_eq_false'] at a b
  refine vif_dec (fun _ => tail) (fun c => absurd (logic_ab a b) c)
end Go.Proofs.YtbiabimalkkeiaaGreatDoor
