import Derived.Test.YtcfgmgjofmbfhaaGreatDoorWsgP11
/- A part of the proof: Yd, Ye, Yf, M26, Yg. -/
set_option linter.unusedVariables false
set_option linter.unusedSimpArgs false
set_option linter.unnecessarySimpa false
set_option linter.unusedSectionVars false
section
namespace Go.Proofs.YtcfgmgjofmbfhaaGreatDoor
open Go Go.Vc Go.Proofs
variable {w : World} {K : Value → World → Prop} {F F' D G : Nat → Prop}
def TwoV (G : Nat → Prop) (w0 w' : World) (t : M.Tm) (u : List Value) : Prop := ∃ b b' c c', u = [ptr b, ptr b'] ∧ Blk w' b c T_impl_Term ∧ TmR (fun x => G x ∧ x < w0.heap.size) w' c (M.kid t 0) ∧ Blk w' b' c' T_impl_Term ∧ TmR (fun x => G x ∧ x < w0.heap.size) w' c' (M.kid t 1)
theorem twoV_of {w0 w1 : World} {b2 b3 b4 mb : Nat} {dv kv : Value} {ds : List M.Dcl} {t : M.Tm} {C : List Value → World → Prop} (rs : RS G w0 w1 b2 b3 b4 dv kv mb ds t) (h2 : 2 ≤ t.ks.length) (hC : ∀ u w', Ext w1 w' → TwoV G w0 w' t u → C u w') : pairReg (ptr b3) w1 C :=
  pairReg_ok rs.q rs.k h2 fun w' b b' c c' he hb hc hb' hc' => hC _ _ he ⟨b, b', c, c', rfl, hb, hc, hb', hc'⟩
theorem truths_spec {dv tv : Value} {mb : Nat} {ds : List M.Dcl} {t : M.Tm} (hd : DclsR F w dv ds) (hm : KindsR w mb) (ht : TermR G w tv t) (hs : M.sortM ds t ≠ -1) (hK : RuleK K w G (M.ruleT t)) : vcall PP n_impl_folder_truths #[folderV dv mb, tv] w K := by
  apply c_impl_folder_truths; unfold F_impl_folder_truths
  refine rs_enter (B := fun t2 t3 t4 w_3 => _) hd hm ht fun w1 b2 b3 b4 kv rs => ?_
  have hlen := M.len_of hs
  rw [rs.q.ldAgg (t := T_impl_Term) g_impl_Term]
  refine intsL (xs := [26, 27]) (by decide) fun w2 av he2 hav => ?_
  have r2 := rs_ext rs he2
  refine among_spec (t := t) (F := fun x => G x ∧ x < w.heap.size) ⟨kv, rfl, r2.k⟩ hav (by decide) fun w3 he3 => ?_
  have r3 := rs_ext r2 he3
  have hmem : t.op ∈ [(26 : Int), 27] ↔ t.op = 26 ∨ t.op = 27 := by simp
  simp only [push_cast]
  refine vif_bool (fun a => ?_) (fun a => ?_)
  · rw [Bool.not_eq_true', decide_eq_false_iff_not, hmem] at a
    try simp only [push_cast]
    exact rs_give r3 rs_zero (rk_none hK (by unfold M.ruleT; rw [if_neg a]))
  rw [Bool.not_eq_false', decide_eq_true_eq, hmem] at a
  have h2 : t.ks.length = 2 := by rcases a with e | e <;> rw [e] at hlen <;> simp [M.arity] at hlen <;> omega
  refine vjoin_of (fun u w' => u = [.int .i64 (M.neutral t.op), .int .i64 (1 - M.neutral t.op)] ∧ w' = w3) (fun C hC => ?_) ?_
  · simp (disch := (simp only [push_cast]; done)) only [push_cast, r3.q.ld0]
    refine vif_dec (fun b => ?_) (fun b => ?_)
    · refine hC _ _ ⟨?_, rfl⟩
      unfold M.neutral; rw [if_neg (by omega)]; rfl
    · refine hC _ _ ⟨?_, rfl⟩
      unfold M.neutral; rw [if_pos (by omega)]; rfl
  rintro u g w3' ⟨rfl, rfl⟩
  refine vjoin_of (fun u w' => Ext w3' w' ∧ TwoV G w w' t u) (fun C hC => ?_) ?_
  · have reg := twoV_of (C := C) r3 (by omega) fun u w' he h => hC u w' ⟨he, h⟩
    unfold pairReg at reg
    simp only [push_cast] at reg
    exact reg
  rintro u1 g1 w4 ⟨he4, b, b', c, c', rfl, hb, hc, hb', hc'⟩
  have r4 := rs_ext r3 he4
  have gc : aggB PP T_impl_Term c.length = true := by rw [tmR_len hc]; exact g_impl_Term
  have gc' : aggB PP T_impl_Term c'.length = true := by rw [tmR_len hc']; exact g_impl_Term
  have T : M.ruleT t = if M.isM (M.kid t 0) (M.neutral t.op) = true ∨ M.kid t 0 = M.kid t 1 then some (M.kid t 1) else if M.isM (M.kid t 1) (M.neutral t.op) = true then some (M.kid t 0) else if M.isM (M.kid t 0) (1 - M.neutral t.op) = true ∨ M.isM (M.kid t 1) (1 - M.neutral t.op) = true then some (M.constM 0 (1 - M.neutral t.op)) else none := by
    unfold M.ruleT; rw [if_pos a]
  refine vjoin_of (fun u w' => u = [] ∧ Ext w4 w' ∧ ¬ (M.isM (M.kid t 0) (M.neutral t.op) = true ∨ M.kid t 0 = M.kid t 1) ∧ ¬ M.isM (M.kid t 1) (M.neutral t.op) = true) (fun D hD => ?_) ?_
  · refine vjoin_of (fun u w' => ∃ e : Bool, u = [.bool e] ∧ Ext w4 w' ∧ (e = true ↔ M.isM (M.kid t 0) (M.neutral t.op) = true ∨ M.kid t 0 = M.kid t 1)) (fun E hE => ?_) ?_
    · simp only [push_cast]
      rw [hb.ldAgg (t := T_impl_Term) gc]
      refine is_spec hc.term fun w5 he5 => ?_
      refine vif_bool (fun i => ?_) (fun i => ?_)
      · exact hE _ _ ⟨true, rfl, he5, ⟨fun _ => .inl i, fun _ => rfl⟩⟩
      · try simp only [push_cast]
        rw [(hb.ext he5).ldAgg (t := T_impl_Term) gc, (hb'.ext he5).ldAgg (t := T_impl_Term) gc']
        refine TermSame_spec _ (hc.ext he5).term (hc'.ext he5).term fun w6 he6 => ?_
        refine hE _ _ ⟨_, rfl, he5.trans he6, ?_⟩
        rw [decide_eq_true_eq]
        exact ⟨.inr, fun h => h.elim (fun x => by rw [i] at x; cases x) id⟩
    rintro u2 g2 w5 ⟨e, rfl, he5, hee⟩
    have r5 := rs_ext r4 he5
    simp only [push_cast]
    refine vif_bool (fun i => ?_) (fun i => ?_)
    · try simp only [push_cast]
      rw [(hb'.ext he5).ldAgg (t := T_impl_Term) gc']
      exact rs_give r5 (rs_kid r5 (hc'.ext he5).term) (rk_some hK (by rw [T, if_pos (hee.1 i)]))
    have n1 : ¬ (M.isM (M.kid t 0) (M.neutral t.op) = true ∨ M.kid t 0 = M.kid t 1) := fun h => by have := hee.2 h; rw [i] at this; cases this
    try simp only [push_cast]
    rw [(hb'.ext he5).ldAgg (t := T_impl_Term) gc']
    refine is_spec (hc'.ext he5).term fun w6 he6 => ?_
    have r6 := rs_ext r5 he6
    refine vif_bool (fun j => ?_) (fun j => ?_)
    · try simp only [push_cast]
      rw [(hb.ext (he5.trans he6)).ldAgg (t := T_impl_Term) gc]
      exact rs_give r6 (rs_kid r6 (hc.ext (he5.trans he6)).term) (rk_some hK (by rw [T, if_neg n1, if_pos j]))
    · exact hD _ _ ⟨rfl, he5.trans he6, n1, by rw [j]; decide⟩
  rintro u2 g2 w5 ⟨rfl, he5, n1, n2⟩
  have r5 := rs_ext r4 he5
  simp only [push_cast]
  rw [(hb.ext he5).ldAgg (t := T_impl_Term) gc]
  refine is_spec (hc.ext he5).term fun w6 he6 => ?_
  have r6 := rs_ext r5 he6
  refine vif_bool (fun i => ?_) (fun i => ?_)
  · refine constant_spec fun w7 v7 he7 hv7 => ?_
    have r7 := rs_ext r6 he7
    refine chosen_spec (rs_new r6 he7 hv7) fun w8 v8 he8 hv8 => ?_
    have r8 := rs_ext r7 he8
    simp only [push_cast]
    exact rs_give r8 hv8 (rk_some hK (by rw [T, if_neg n1, if_neg n2, if_pos (.inl i)]))
  · try simp only [push_cast]
    rw [(hb'.ext (he5.trans he6)).ldAgg (t := T_impl_Term) gc']
    refine is_spec (hc'.ext (he5.trans he6)).term fun w7 he7 => ?_
    have r7 := rs_ext r6 he7
    refine constant_spec fun w8 v8 he8 hv8 => ?_
    have r8 := rs_ext r7 he8
    refine chosen_spec (rs_new r7 he8 hv8) fun w9 v9 he9 hv9 => ?_
    have r9 := rs_ext r8 he9
    simp only [push_cast]
    refine rs_give r9 hv9 (rk_if hK ?_)
    rw [T, if_neg n1, if_neg n2]
    by_cases j : M.isM (M.kid t 1) (1 - M.neutral t.op) = true
    · rw [if_pos (.inr j), if_pos j]
    · rw [if_neg (fun h => h.elim (fun x => by rw [i] at x; cases x) j), if_neg j]
theorem seconds_spec {dv tv : Value} {mb : Nat} {ds : List M.Dcl} {t : M.Tm} (hd : DclsR F w dv ds) (hm : KindsR w mb) (ht : TermR G w tv t) (hK : RuleK K w G (M.ruleS t)) : vcall PP n_impl_folder_seconds #[folderV dv mb, tv] w K := by
  apply c_impl_folder_seconds; unfold F_impl_folder_seconds
  refine rs_enter (B := fun t2 t3 t4 w_3 => _) hd hm ht fun w1 b2 b3 b4 kv rs => ?_
  simp (disch := (simp only [push_cast]; done)) only [push_cast, rs.q.ld4, rs.k.len]
  refine vif_dec (fun a => ?_) (fun a => ?_)
  · try simp only [push_cast]
    exact rs_give rs rs_zero (rk_none hK (by unfold M.ruleS; rw [if_neg (by omega)]))
  have h2 : t.ks.length = 2 := by omega
  refine vjoin_of (fun u w' => Ext w1 w' ∧ TwoV G w w' t u) (fun C hC => ?_) ?_
  · have reg := twoV_of (C := C) rs (by omega) fun u w' he h => hC u w' ⟨he, h⟩
    unfold pairReg at reg
    simp only [push_cast] at reg
    exact reg
  rintro u1 g1 w4 ⟨he4, b, b', c, c', rfl, hb, hc, hb', hc'⟩
  have r4 := rs_ext rs he4
  have gc : aggB PP T_impl_Term c.length = true := by rw [tmR_len hc]; exact g_impl_Term
  have gc' : aggB PP T_impl_Term c'.length = true := by rw [tmR_len hc']; exact g_impl_Term
  have T : M.ruleS t = if M.isM (M.kid t 1) 0 = true ∧ (t.op = 4 ∨ t.op = 5 ∨ t.op = 6 ∨ t.op = 7 ∨ t.op = 11 ∨ t.op = 12 ∨ t.op = 13) then some (M.kid t 0) else if M.isM (M.kid t 1) 0 = true ∧ (t.op = 3 ∨ t.op = 8) then some (M.kid t 1) else if M.isM (M.kid t 1) 1 = true ∧ t.op = 8 then some (M.kid t 0) else none := by
    unfold M.ruleS; rw [if_pos h2]
  refine vjoin_of (fun u w' => u = [] ∧ Ext w4 w' ∧ ¬ (M.isM (M.kid t 1) 0 = true ∧ (t.op = 4 ∨ t.op = 5 ∨ t.op = 6 ∨ t.op = 7 ∨ t.op = 11 ∨ t.op = 12 ∨ t.op = 13)) ∧ ¬ (M.isM (M.kid t 1) 0 = true ∧ (t.op = 3 ∨ t.op = 8))) (fun D hD => ?_) ?_
  · refine vjoin_of (fun u w' => ∃ e : Bool, u = [.bool e] ∧ Ext w4 w' ∧ (e = true ↔ M.isM (M.kid t 1) 0 = true ∧ (t.op = 4 ∨ t.op = 5 ∨ t.op = 6 ∨ t.op = 7 ∨ t.op = 11 ∨ t.op = 12 ∨ t.op = 13))) (fun E hE => ?_) ?_
    · simp only [push_cast]
      rw [hb'.ldAgg (t := T_impl_Term) gc']
      refine is_spec hc'.term fun w5 he5 => ?_
      have r5 := rs_ext r4 he5
      refine vif_bool (fun i => ?_) (fun i => ?_)
      · try simp only [push_cast]
        rw [r5.q.ldAgg (t := T_impl_Term) g_impl_Term]
        refine intsL (xs := [4, 5, 6, 7, 11, 12, 13]) (by decide) fun w6 av he6 hav => ?_
        have r6 := rs_ext r5 he6
        refine among_spec (t := t) (F := fun x => G x ∧ x < w.heap.size) ⟨kv, rfl, r6.k⟩ hav (by decide) fun w7 he7 => ?_
        refine hE _ _ ⟨_, rfl, he5.trans (he6.trans he7), ?_⟩
        rw [decide_eq_true_eq]
        simp only [List.mem_cons, List.not_mem_nil, or_false]
        exact ⟨fun h => ⟨i, h⟩, fun h => h.2⟩
      · exact hE _ _ ⟨false, rfl, he5, ⟨fun h => (by cases h), fun h => (by rw [i] at h; cases h.1)⟩⟩
    rintro u2 g2 w5 ⟨e, rfl, he5, hee⟩
    have r5 := rs_ext r4 he5
    simp only [push_cast]
    refine vif_bool (fun i => ?_) (fun i => ?_)
    · try simp only [push_cast]
      rw [(hb.ext he5).ldAgg (t := T_impl_Term) gc]
      exact rs_give r5 (rs_kid r5 (hc.ext he5).term) (rk_some hK (by rw [T, if_pos (hee.1 i)]))
    have n1 := fun h => (show False by have := hee.2 h; rw [i] at this; cases this)
    try simp only [push_cast]
    rw [(hb'.ext he5).ldAgg (t := T_impl_Term) gc']
    refine is_spec (hc'.ext he5).term fun w6 he6 => ?_
    have r6 := rs_ext r5 he6
    refine vif_bool (fun j => ?_) (fun j => ?_)
    · try simp only [push_cast]
      rw [r6.q.ldAgg (t := T_impl_Term) g_impl_Term]
      refine intsL (xs := [3, 8]) (by decide) fun w7 av he7 hav => ?_
      have r7 := rs_ext r6 he7
      refine among_spec (t := t) (F := fun x => G x ∧ x < w.heap.size) ⟨kv, rfl, r7.k⟩ hav (by decide) fun w8 he8 => ?_
      have r8 := rs_ext r7 he8
      have e58 := he5.trans (he6.trans (he7.trans he8))
      have hmem : t.op ∈ [(3 : Int), 8] ↔ t.op = 3 ∨ t.op = 8 := by simp
      refine vif_dec (fun o => ?_) (fun o => ?_)
      · try simp only [push_cast]
        rw [(hb'.ext e58).ldAgg (t := T_impl_Term) gc']
        exact rs_give r8 (rs_kid r8 (hc'.ext e58).term) (rk_some hK (by rw [T, if_neg n1, if_pos ⟨j, hmem.1 o⟩]))
      · exact hD _ _ ⟨rfl, e58, n1, fun h => o (hmem.2 h.2)⟩
    · exact hD _ _ ⟨rfl, he5.trans he6, n1, fun h => by rw [j] at h; cases h.1⟩
  rintro u2 g2 w5 ⟨rfl, he5, n1, n2⟩
  have r5 := rs_ext r4 he5
  refine vdraw_ext fun w6 he6 _ => ?_
  have r6 := rs_ext r5 he6
  have hb6 := hb.ext (he5.trans he6)
  have hb6' := hb'.ext (he5.trans he6)
  have hc6 := hc.ext (he5.trans he6)
  have hc6' := hc'.ext (he5.trans he6)
  simp only [push_cast, hb6.ldAgg (t := T_impl_Term) gc, hb6'.ldAgg (t := T_impl_Term) gc', true_and]
  refine is_spec hc6'.term fun w7 he7 => ?_
  have r7 := rs_ext r6 he7
  simp only [push_cast, (hb6.ext he7).ldAgg (t := T_impl_Term) gc, true_and, and_self]
  refine vif_bool (fun i => ?_) (fun i => ?_)
  · simp (disch := (simp only [push_cast]; done)) only [push_cast, r7.q.ld0, true_and]
    refine chosen_spec (hc6.ext he7).term fun w8 v8 he8 hv8 => ?_
    have r8 := rs_ext r7 he8
    simp only [push_cast, true_and]
    refine rs_give r8 (rs_kid r8 hv8) (rk_if hK ?_)
    rw [T, if_neg n1, if_neg n2]
    by_cases o : t.op = 8
    · rw [if_pos ⟨i, o⟩, if_pos (decide_eq_true o)]
    · rw [if_neg (fun h => o h.2), if_neg (by rw [decide_eq_false o]; decide)]
  · refine chosen_spec (hc6.ext he7).term fun w8 v8 he8 hv8 => ?_
    have r8 := rs_ext r7 he8
    simp only [push_cast, true_and]
    refine rs_give r8 (rs_kid r8 hv8) (rk_none hK ?_)
    rw [T, if_neg n1, if_neg n2, if_neg (fun h => by rw [i] at h; cases h.1)]
theorem firsts_spec {dv tv : Value} {mb : Nat} {ds : List M.Dcl} {t : M.Tm} (hd : DclsR F w dv ds) (hm : KindsR w mb) (ht : TermR G w tv t) (hK : RuleK K w G (M.ruleF t)) : vcall PP n_impl_folder_firsts #[folderV dv mb, tv] w K := by
  apply c_impl_folder_firsts; unfold F_impl_folder_firsts
  refine rs_enter (B := fun t2 t3 t4 w_3 => _) hd hm ht fun w1 b2 b3 b4 kv rs => ?_
  simp (disch := (simp only [push_cast]; done)) only [push_cast, rs.q.ld4, rs.k.len]
  refine vif_dec (fun a => ?_) (fun a => ?_)
  · try simp only [push_cast]
    exact rs_give rs rs_zero (rk_none hK (by unfold M.ruleF; rw [if_neg (by omega)]))
  have h2 : t.ks.length = 2 := by omega
  refine vjoin_of (fun u w' => Ext w1 w' ∧ TwoV G w w' t u) (fun C hC => ?_) ?_
  · have reg := twoV_of (C := C) rs (by omega) fun u w' he h => hC u w' ⟨he, h⟩
    unfold pairReg at reg
    simp only [push_cast] at reg
    exact reg
  rintro u1 g1 w4 ⟨he4, b, b', c, c', rfl, hb, hc, hb', hc'⟩
  have r4 := rs_ext rs he4
  have gc : aggB PP T_impl_Term c.length = true := by rw [tmR_len hc]; exact g_impl_Term
  have gc' : aggB PP T_impl_Term c'.length = true := by rw [tmR_len hc']; exact g_impl_Term
  have T : M.ruleF t = if M.isM (M.kid t 0) 0 = true ∧ (t.op = 4 ∨ t.op = 5 ∨ t.op = 6) then some (M.kid t 1) else if M.isM (M.kid t 0) 0 = true ∧ (t.op = 3 ∨ t.op = 8) then some (M.kid t 0) else if M.isM (M.kid t 0) 1 = true ∧ t.op = 8 then some (M.kid t 1) else none := by
    unfold M.ruleF; rw [if_pos h2]
  refine vjoin_of (fun u w' => u = [] ∧ Ext w4 w' ∧ ¬ (M.isM (M.kid t 0) 0 = true ∧ (t.op = 4 ∨ t.op = 5 ∨ t.op = 6)) ∧ ¬ (M.isM (M.kid t 0) 0 = true ∧ (t.op = 3 ∨ t.op = 8))) (fun D hD => ?_) ?_
  · refine vjoin_of (fun u w' => ∃ e : Bool, u = [.bool e] ∧ Ext w4 w' ∧ (e = true ↔ M.isM (M.kid t 0) 0 = true ∧ (t.op = 4 ∨ t.op = 5 ∨ t.op = 6))) (fun E hE => ?_) ?_
    · simp only [push_cast]
      rw [hb.ldAgg (t := T_impl_Term) gc]
      refine is_spec hc.term fun w5 he5 => ?_
      have r5 := rs_ext r4 he5
      refine vif_bool (fun i => ?_) (fun i => ?_)
      · try simp only [push_cast]
        rw [r5.q.ldAgg (t := T_impl_Term) g_impl_Term]
        refine intsL (xs := [4, 5, 6]) (by decide) fun w6 av he6 hav => ?_
        have r6 := rs_ext r5 he6
        refine among_spec (t := t) (F := fun x => G x ∧ x < w.heap.size) ⟨kv, rfl, r6.k⟩ hav (by decide) fun w7 he7 => ?_
        refine hE _ _ ⟨_, rfl, he5.trans (he6.trans he7), ?_⟩
        rw [decide_eq_true_eq]
        simp only [List.mem_cons, List.not_mem_nil, or_false]
        exact ⟨fun h => ⟨i, h⟩, fun h => h.2⟩
      · exact hE _ _ ⟨false, rfl, he5, ⟨fun h => (by cases h), fun h => (by rw [i] at h; cases h.1)⟩⟩
    rintro u2 g2 w5 ⟨e, rfl, he5, hee⟩
    have r5 := rs_ext r4 he5
    simp only [push_cast]
    refine vif_bool (fun i => ?_) (fun i => ?_)
    · try simp only [push_cast]
      rw [(hb'.ext he5).ldAgg (t := T_impl_Term) gc']
      exact rs_give r5 (rs_kid r5 (hc'.ext he5).term) (rk_some hK (by rw [T, if_pos (hee.1 i)]))
    have n1 := fun h => (show False by have := hee.2 h; rw [i] at this; cases this)
    try simp only [push_cast]
    rw [(hb.ext he5).ldAgg (t := T_impl_Term) gc]
    refine is_spec (hc.ext he5).term fun w6 he6 => ?_
    have r6 := rs_ext r5 he6
    refine vif_bool (fun j => ?_) (fun j => ?_)
    · try simp only [push_cast]
      rw [r6.q.ldAgg (t := T_impl_Term) g_impl_Term]
      refine intsL (xs := [3, 8]) (by decide) fun w7 av he7 hav => ?_
      have r7 := rs_ext r6 he7
      refine among_spec (t := t) (F := fun x => G x ∧ x < w.heap.size) ⟨kv, rfl, r7.k⟩ hav (by decide) fun w8 he8 => ?_
      have r8 := rs_ext r7 he8
      have e58 := he5.trans (he6.trans (he7.trans he8))
      have hmem : t.op ∈ [(3 : Int), 8] ↔ t.op = 3 ∨ t.op = 8 := by simp
      refine vif_dec (fun o => ?_) (fun o => ?_)
      · try simp only [push_cast]
        rw [(hb.ext e58).ldAgg (t := T_impl_Term) gc]
        exact rs_give r8 (rs_kid r8 (hc.ext e58).term) (rk_some hK (by rw [T, if_neg n1, if_pos ⟨j, hmem.1 o⟩]))
      · exact hD _ _ ⟨rfl, e58, n1, fun h => o (hmem.2 h.2)⟩
    · exact hD _ _ ⟨rfl, he5.trans he6, n1, fun h => by rw [j] at h; cases h.1⟩
  rintro u2 g2 w5 ⟨rfl, he5, n1, n2⟩
  have r5 := rs_ext r4 he5
  refine vdraw_ext fun w6 he6 _ => ?_
  have r6 := rs_ext r5 he6
  have hb6 := hb.ext (he5.trans he6)
  have hb6' := hb'.ext (he5.trans he6)
  have hc6 := hc.ext (he5.trans he6)
  have hc6' := hc'.ext (he5.trans he6)
  simp only [push_cast, hb6.ldAgg (t := T_impl_Term) gc, hb6'.ldAgg (t := T_impl_Term) gc', true_and]
  refine is_spec hc6.term fun w7 he7 => ?_
  have r7 := rs_ext r6 he7
  simp only [push_cast, (hb6'.ext he7).ldAgg (t := T_impl_Term) gc', true_and, and_self]
  refine vif_bool (fun i => ?_) (fun i => ?_)
  · simp (disch := (simp only [push_cast]; done)) only [push_cast, r7.q.ld0, true_and]
    refine chosen_spec (hc6'.ext he7).term fun w8 v8 he8 hv8 => ?_
    have r8 := rs_ext r7 he8
    simp only [push_cast, true_and]
    refine rs_give r8 (rs_kid r8 hv8) (rk_if hK ?_)
    rw [T, if_neg n1, if_neg n2]
    by_cases o : t.op = 8
    · rw [if_pos ⟨i, o⟩, if_pos (decide_eq_true o)]
    · rw [if_neg (fun h => o h.2), if_neg (by rw [decide_eq_false o]; decide)]
  · refine chosen_spec (hc6'.ext he7).term fun w8 v8 he8 hv8 => ?_
    have r8 := rs_ext r7 he8
    simp only [push_cast, true_and]
    refine rs_give r8 (rs_kid r8 hv8) (rk_none hK ?_)
    rw [T, if_neg n1, if_neg n2, if_neg (fun h => by rw [i] at h; cases h.1)]
end Go.Proofs.YtcfgmgjofmbfhaaGreatDoor
end
section
namespace Go.Proofs.YtcfgmgjofmbfhaaGreatDoor
open Go Go.Vc Go.Proofs
variable {w : World} {K : Value → World → Prop} {F F' D G : Nat → Prop}
def fsL (dv : Value) (mb : Nat) : List Value := [n_impl_folder_fixed, n_impl_folder_branches, n_impl_folder_truths, n_impl_folder_layers, n_impl_folder_twins, n_impl_folder_seconds, n_impl_folder_firsts].map fun n => .func (.func n) #[folderV dv mb] #[]
theorem rules_spec {dv : Value} {mb : Nat} (hK : ∀ w' v, Ext w w' → Vals (fun _ => True) w' v (fsL dv mb) → K v w') : vcall PP n_impl_folder_rules #[folderV dv mb] w K := by
  apply c_impl_folder_rules; unfold F_impl_folder_rules
  refine vbox_agg fun b1 w1 hb1 he1 hs1 h1 => ?_
  simp (disch := (simp only [push_cast]; done)) only [push_cast, h1.ldAgg (t := T_impl_folder) g_impl_folder]
  refine vbuildS_row1 (xs := fsL dv mb) u_Lfunc_impl_Term_impl_Term_bool (by simp only [push_cast]) (z := .nilFunc) (by unfold zeroB; kernel_rfl) (fun x hx => by obtain ⟨y, _, rfl⟩ := List.mem_map.1 hx; rfl) (by show 7 ≤ 16777216; decide) fun b w' hb he hs hB => ?_
  have o : OwnV PP T_Lfunc_impl_Term_impl_Term_bool w' (.slice (some ⟨b, 0, none⟩) (fsL dv mb).length (fsL dv mb).length) (fsL dv mb) := Blk.own1 (P := PP) (t := T_Lfunc_impl_Term_impl_Term_bool) (by rw [eo_Lfunc_impl_Term_impl_Term_bool]; exact hB) (Nat.zero_le _) rfl rfl (by show 7 ≤ 9223372036854775807; decide)
  exact hK w' _ (he1.trans he) (OwnV.vals o |>.weaken fun _ _ _ => trivial)
def rl (ds : List M.Dcl) (t : M.Tm) (i : Nat) : Option M.Tm := [M.ruleX ds t, M.ruleB t, M.ruleT t, M.ruleL ds t, M.ruleW ds t, M.ruleS t, M.ruleF t].getD i none
theorem callRule {dv tv : Value} {mb : Nat} {ds : List M.Dcl} {t : M.Tm} {i : Nat} (hi : i < 7) (hd : DclsR F w dv ds) (hm : KindsR w mb) (hok : M.declOk ds = true) (ht : TermR G w tv t) (hs : M.sortM ds t ≠ -1) (hK : RuleK K w G (rl ds t i)) : vcallv PP ((fsL dv mb).getD i undef) #[tv] w K := by
  match i, hi with
  | 0, _ => exact fixed_spec hd hm hok ht hs hK
  | 1, _ => exact branches_spec hd hm hok ht hs hK
  | 2, _ => exact truths_spec hd hm ht hs hK
  | 3, _ => exact layers_spec hd hm hok ht hs hK
  | 4, _ => exact twins_spec hd hm hok ht hs hK
  | 5, _ => exact seconds_spec hd hm ht hK
  | 6, _ => exact firsts_spec hd hm ht hK
theorem rl_none {ds : List M.Dcl} {t : M.Tm} (h : ∀ j, j < 7 → rl ds t j = none) : M.ruleA ds t = none := by
  have h0 : M.ruleX ds t = none := h 0 (by omega)
  have h1 : M.ruleB t = none := h 1 (by omega)
  have h2 : M.ruleT t = none := h 2 (by omega)
  have h3 : M.ruleL ds t = none := h 3 (by omega)
  have h4 : M.ruleW ds t = none := h 4 (by omega)
  have h5 : M.ruleS t = none := h 5 (by omega)
  have h6 : M.ruleF t = none := h 6 (by omega)
  unfold M.ruleA
  rw [h0, h1, h2, h3, h4, h5, h6]; rfl
theorem rl_some {ds : List M.Dcl} {t u : M.Tm} {i : Nat} (hi : i < 7) (h : ∀ j, j < i → rl ds t j = none) (hu : rl ds t i = some u) : M.ruleA ds t = some u := by
  have g : ∀ j, j < i → rl ds t j = none := h
  unfold M.ruleA
  match i, hi with
  | 0, _ => rw [show M.ruleX ds t = some u from hu]; rfl
  | 1, _ => rw [show M.ruleX ds t = none from g 0 (by omega), show M.ruleB t = some u from hu]; rfl
  | 2, _ => rw [show M.ruleX ds t = none from g 0 (by omega), show M.ruleB t = none from g 1 (by omega), show M.ruleT t = some u from hu]; rfl
  | 3, _ => rw [show M.ruleX ds t = none from g 0 (by omega), show M.ruleB t = none from g 1 (by omega), show M.ruleT t = none from g 2 (by omega), show M.ruleL ds t = some u from hu]; rfl
  | 4, _ => rw [show M.ruleX ds t = none from g 0 (by omega), show M.ruleB t = none from g 1 (by omega), show M.ruleT t = none from g 2 (by omega), show M.ruleL ds t = none from g 3 (by omega), show M.ruleW ds t = some u from hu]; rfl
  | 5, _ => rw [show M.ruleX ds t = none from g 0 (by omega), show M.ruleB t = none from g 1 (by omega), show M.ruleT t = none from g 2 (by omega), show M.ruleL ds t = none from g 3 (by omega), show M.ruleW ds t = none from g 4 (by omega), show M.ruleS t = some u from hu]; rfl
  | 6, _ => rw [show M.ruleX ds t = none from g 0 (by omega), show M.ruleB t = none from g 1 (by omega), show M.ruleT t = none from g 2 (by omega), show M.ruleL ds t = none from g 3 (by omega), show M.ruleW ds t = none from g 4 (by omega), show M.ruleS t = none from g 5 (by omega), show M.ruleF t = some u from hu]; rfl
theorem one_spec {dv tv : Value} {mb : Nat} {ds : List M.Dcl} {t : M.Tm} (hd : DclsR F w dv ds) (hm : KindsR w mb) (hok : M.declOk ds = true) (ht : TermR G w tv t) (hs : M.sortM ds t ≠ -1) (hK : ∀ w' rv, Ext w w' → TermR (fun x => G x ∨ w.heap.size ≤ x) w' rv (M.oneT ds t) → K rv w') : vcall PP n_impl_folder_one #[folderV dv mb, tv] w K := by
  apply c_impl_folder_one; unfold F_impl_folder_one
  refine rs_enter (B := fun t2 t3 t4 w_3 => _) hd hm ht fun w1 b2 b3 b4 kv rs => ?_
  rw [rs.f.ldAgg (t := T_impl_folder) g_impl_folder]
  refine rules_spec fun w2 fv he2 hfv => ?_
  have r2 := rs_ext rs he2
  simp (disch := (simp only [push_cast]; done)) only [push_cast, hfv.len]
  have h7 : (fsL dv mb).length = 7 := rfl
  rw [h7]
  refine vloop_up 7 (fun i u w' => u = [.int .i64 i] ∧ Ext w2 w' ∧ ∀ j, j < i → rl ds t j = none) ⟨rfl, Same.refl _ _, fun j hj => absurd hj (by omega)⟩ ?_
  rintro i _ _ w3 C hi ⟨rfl, he3, hall⟩ hC
  have r3 := rs_ext r2 he3
  have f3 := hfv.ext he3
  simp only [push_cast]
  refine vif_dec (fun a => ?_) (fun a => ?_)
  · have hi7 : i < 7 := by omega
    simp (disch := first | (simp only [push_cast]; done) | (rw [h7]; omega) | omega) only [push_cast, f3.iaddr, f3.load, r3.q.ldAgg (t := T_impl_Term) g_impl_Term]
    refine callRule (G := fun x => G x ∧ x < w.heap.size) hi7 r3.d r3.m hok ⟨kv, rfl, r3.k⟩ hs fun w4 rv u he4 hu hsome => ?_
    have r4 := rs_ext r3 he4
    simp only [push_cast]
    obtain ⟨cu, rfl, hcu⟩ := hu.cells
    refine valloc_agg zr_impl_Term fun b5 w5 hb5 he5 hs5 h5 => ?_
    have hcu5 := (hcu.weaken (F' := fun x => ((G x ∧ x < w.heap.size) ∨ w3.heap.size ≤ x) ∧ x < w4.heap.size) fun b h h' => ⟨h, h'⟩).ext he5
    refine stTerm h5 rfl hcu5 fun w6 hw6 hz6 h6 => ?_
    have e46 : Ext w4 w6 := Ext.then he5 hw6 fun y hy => by subst hy; omega
    have r6 := rs_ext r4 e46
    have hcu6 : TmR (fun x => (G x ∧ x < w.heap.size) ∨ w3.heap.size ≤ x) w6 cu u := hcu.ext e46
    cases e : rl ds t i with
    | none =>
      simp only [push_cast, Option.isSome_none]
      rw [inc64' (by omega)]
      refine hC (by omega) _ _ ⟨rfl, he3.trans (he4.trans e46), fun j hj => ?_⟩
      by_cases ej : j < i
      · exact hall j ej
      · have : j = i := by omega
        subst this; exact e
    | some x =>
      simp only [push_cast, Option.isSome_some]
      rw [h6.ldAgg (t := T_impl_Term) (by rw [tmR_len hcu]; exact g_impl_Term)]
      have hx := hsome x e
      subst hx
      have l4 := r3.r.lt
      refine retTerm r6.r rfl hcu6 (fun x hx => by have := r3.lo; omega) fun w7 hw7 hz7 ht7 => ?_
      have hone : M.oneT ds t = u := by unfold M.oneT; rw [rl_some hi7 hall e]; rfl
      rw [hone] at hK
      refine hK _ _ (Ext.then r6.ext hw7 fun y hy => by subst hy; exact r6.lo) (ht7.weaken fun x hx _ => ?_)
      have := r3.ext.size
      rcases hx with h | h
      · exact .inl h.1
      · exact .inr (by omega)
  · rw [r3.q.ldAgg (t := T_impl_Term) g_impl_Term]
    have hone : M.oneT ds t = t := by unfold M.oneT; rw [rl_none fun j hj => hall j (by omega)]; rfl
    rw [hone] at hK
    refine retTerm r3.r rfl (TmR.of (t := t) r3.k) (fun x hx => by have := r3.lo; omega) fun w7 hw7 hz7 ht7 => ?_
    exact hK _ _ (Ext.then r3.ext hw7 fun y hy => by subst hy; exact r3.lo) (ht7.weaken fun x hx _ => .inl hx.1)
theorem fold_spec : ∀ (t : M.Tm) {w : World} {K : Value → World → Prop} {F G : Nat → Prop} {dv tv : Value} {mb : Nat} {ds : List M.Dcl}, DclsR F w dv ds → KindsR w mb → M.declOk ds = true → TermR G w tv t → M.sortM ds t ≠ -1 → (∀ w' rv, Ext w w' → TermR (fun x => G x ∨ w.heap.size ≤ x) w' rv (M.foldT ds t) → K rv w') → vcall PP n_impl_folder_fold #[folderV dv mb, tv] w K := by
  refine M.Tm.ind fun t ih w K F G dv tv mb ds hd hm hok ht hs hK => ?_
  have hlen := M.len_of hs
  have hsm : t.ks.length ≤ 3 := by
    unfold M.arity at hlen
    repeat' split at hlen
    all_goals omega
  apply c_impl_folder_fold; unfold F_impl_folder_fold
  obtain ⟨kv, rfl, hks⟩ := ht
  refine vbox_agg fun b1 w1 hb1 he1 hs1 h1 => ?_
  refine vbox_agg fun b2 w2 hb2 he2 hs2 h2 => ?_
  refine valloc_agg zr_impl_Term fun b3 w3 hb3 he3 hs3 h3 => ?_
  have hz1 := he1.size
  have q3 := h2.ext he3
  have f3 := (h1.ext he2).ext he3
  have hE3 := he1.trans (he2.trans he3)
  have hk3 : TmsR (fun x => G x ∧ x < w.heap.size) w3 kv t.ks := (hks.weaken fun b h h' => ⟨h, h'⟩).ext hE3
  simp (disch := (simp only [push_cast]; done)) only [push_cast, q3.ld4]
  refine q3.st (i := 4) rfl rfl z_Limpl_Term rfl fun w4 hw4 hz4 h4 => ?_
  replace h4 : Blk w4 b2 [.int .i64 t.op, .int .i64 t.a, .int .i64 t.b, .string t.s, .slice none 0 0] T_impl_Term := h4
  have hE4 : Ext w w4 := Ext.then hE3 hw4 fun y hy => by subst hy; omega
  have hk4 := hk3.same hw4 fun b hb _ e => by omega
  have f4 := f3.same hw4 (by omega)
  have r4 := h3.same hw4 (by omega)
  simp (disch := (simp only [push_cast]; done)) only [push_cast, hk4.len]
  refine vloop_up t.ks.length (fun i u w' => u = [.int .i64 i] ∧ Same (fun b => b = b2) w4 w' ∧ ∃ kv' css, Blk w' b2 [.int .i64 t.op, .int .i64 t.a, .int .i64 t.b, .string t.s, kv'] T_impl_Term ∧ Own PP 0 5 T_Limpl_Term w' kv' css ∧ css.length = i ∧ (∀ b, kv'.ownBlock = some b → w4.heap.size ≤ b) ∧
      ∀ j, j < i → TmR (fun x => (G x ∧ x < w.heap.size) ∨ (w4.heap.size ≤ x ∧ kv'.ownBlock ≠ some x)) w' (css.getD j []) (M.foldT ds (t.ks.getD j default)))
    ⟨rfl, Same.refl _ _, _, [], h4, Own.nil _ _ _ _ _, rfl, fun b h => (by cases h), fun j hj => absurd hj (by omega)⟩ ?_
  rintro i _ _ w5 C hi ⟨rfl, hs5, kv', css, h5, ho5, hl5, hlo5, hkk5⟩ hC
  have hz5 := hs5.size
  have hE5 : Ext w w5 := Ext.then hE4 hs5 fun y hy => by subst hy; omega
  have hk5 := hk4.same hs5 fun b hb _ e => by omega
  have f5 := f4.same hs5 (by omega)
  simp only [push_cast]
  refine vif_dec (fun a => ?_) (fun a => ?_)
  · simp (disch := first | (simp only [push_cast]; done) | omega) only [push_cast, hk5.iaddr]
    refine hk5.load g_impl_Term (by omega) fun x hx => ?_
    obtain ⟨cx, rfl, hcx⟩ := hx.cells
    refine valloc_agg zr_impl_Term fun b6 w6 hb6 he6 hs6 h6 => ?_
    refine stTerm h6 rfl (hcx.ext he6) fun w7 hw7 hz7 h7 => ?_
    have e57 : Ext w5 w7 := Ext.then he6 hw7 fun y hy => by subst hy; omega
    refine vdraw_ext fun w8 he8 _ => ?_
    have e58 := e57.trans he8
    have q8 := h5.ext e58
    have f8 := f5.ext e58
    have v8 := h7.ext he8
    simp (disch := (simp only [push_cast]; done)) only [push_cast, q8.ld4, f8.ldAgg (t := T_impl_folder) g_impl_folder, v8.ldAgg (t := T_impl_Term) (by rw [tmR_len hcx]; exact g_impl_Term), true_and]
    have hmem : t.ks.getD i default ∈ t.ks := M.getD_mem (by omega) _
    refine ih _ hmem (hd.ext (hE5.trans e58)) (hm.ext (hE5.trans e58)) hok (hcx.ext e58).term ((M.sort_parts hs).2.1 _ hmem) fun w9 rv he9 hrv => ?_
    obtain ⟨cr, rfl, hcr⟩ := hrv.cells
    have q9 := q8.ext he9
    simp (disch := (simp only [push_cast]; done)) only [push_cast, q9.ld4, true_and, and_self]
    have hz58 := e58.size
    have hz9 := he9.size
    refine vbuildS1 u_Limpl_Term z_impl_Term zr_impl_Term rfl (tmR_len hcr) (by decide) fun b10 w10 hb10 he10 hs10 h10 => ?_
    have q10 := q9.ext he10
    simp (disch := (simp only [push_cast]; done)) only [push_cast, q10.ld4, true_and, and_self]
    have e510 := e58.trans (he9.trans he10)
    have ho10 := ho5.ext e510
    refine Own.app1k ho10 l_Limpl_Term (by decide) h10 (tmR_len hcr) (tmR_one hcr) (by omega) (by omega) fun kv2 w11 ho11 hw11 hn11 => ?_
    have q11 := q10.same hw11 (fun e => by have := hlo5 _ e; have := h5.lt; omega)
    have hz11 := hw11.size
    try simp only [push_cast, true_and]
    have hkc : kv2.cells = #[kv2] ∧ kv2.oneCell' = true := by
      obtain ⟨a, c, rfl, _⟩ := ho11.sl.shape
      exact ⟨rfl, rfl⟩
    refine q11.st (i := 4) hkc.1 hkc.2 z_Limpl_Term rfl fun w12 hw12 hz12 h12 => ?_
    replace h12 : Blk w12 b2 [.int .i64 t.op, .int .i64 t.a, .int .i64 t.b, .string t.s, kv2] T_impl_Term := h12
    rw [inc64' (by omega)]
    have hz10 := he10.size
    have hkv2 : ∀ b, kv2.ownBlock = some b → w4.heap.size ≤ b := fun b hb => by
      rcases hn11 b hb with h | h
      · exact hlo5 b h
      · omega
    have hS : Same (fun b => b = b2 ∨ kv'.ownBlock = some b) w5 w12 := (Same.of_ext e510).trans ((hw11.mono fun _ _ h => .inr h).trans (hw12.mono fun _ _ h => .inl h))
    have hS4 : Same (fun b => b = b2) w4 w12 := ⟨hS.os.trans hs5.os, hS.tape.trans hs5.tape, hS.output.trans hs5.output, Nat.le_trans hs5.size hS.size, fun b hb hne => (hS.block b (by omega) (fun e => e.elim hne fun e => by have := hlo5 b e; omega)).trans (hs5.block b hb hne)⟩
    refine hC (by omega) _ _ ⟨rfl, hS4, kv2, css ++ [cr], h12, ho11.same hw12 (fun b hb e => by have := hkv2 b hb; omega), by simp [hl5], hkv2, fun j hj => ?_⟩
    by_cases ej : j < i
    · rw [List.getD_eq_getElem?_getD, List.getElem?_append_left (by omega), ← List.getD_eq_getElem?_getD]
      refine ((hkk5 j ej).weaken (F' := fun x => ((G x ∧ x < w.heap.size) ∨ (w4.heap.size ≤ x ∧ kv'.ownBlock ≠ some x)) ∧ x < w5.heap.size) fun b h h' => ⟨h, h'⟩).same hS (fun b hb _ e => ?_) |>.weaken fun b hb _ => ?_
      · rcases hb.1 with h | h
        · rcases e with e | e
          · omega
          · have := hlo5 b e; omega
        · rcases e with e | e
          · omega
          · exact h.2 e
      · rcases hb.1 with h | h
        · exact .inl h
        · refine .inr ⟨h.1, fun e => ?_⟩
          rcases hn11 b e with e | e
          · exact h.2 e
          · omega
    · have : j = i := by omega
      subst this
      rw [List.getD_eq_getElem?_getD, List.getElem?_append_right (by omega), hl5, Nat.sub_self]
      show TmR _ w12 cr _
      refine (((hcr.weaken (F' := fun x => ((G x ∧ x < w.heap.size) ∨ w8.heap.size ≤ x) ∧ x < w9.heap.size) fun b h h' => ⟨h, h'⟩).ext he10).same hw11 (fun b hb _ e => ?_)).same hw12 (fun b hb _ e => ?_) |>.weaken fun b hb _ => ?_
      · have := hlo5 b e
        have := (ho5.lt e).2
        rcases hb.1 with h | h <;> omega
      · rcases hb.1 with h | h <;> omega
      · rcases hb.1 with h | h
        · exact .inl h
        · refine .inr ⟨by omega, fun e => ?_⟩
          rcases hn11 b e with e | e
          · have := (ho5.lt e).2; omega
          · omega
  · have hi' : i = t.ks.length := by omega
    subst hi'
    rw [f5.ldAgg (t := T_impl_folder) g_impl_folder, h5.ldAgg (t := T_impl_Term) g_impl_Term]
    have hkk : TmsR (fun x => (G x ∧ x < w.heap.size) ∨ w4.heap.size ≤ x) w5 kv' (t.ks.map (M.foldT ds)) := by
      refine ⟨css, ho5.sl.weaken fun b hb _ => .inr (hlo5 b hb), by rw [hl5, List.length_map], fun j hj => ?_⟩
      rw [List.length_map] at hj
      rw [M.getD_map _ hj _ default]
      exact (hkk5 j hj).weaken fun b hb _ => hb.imp id fun h => h.1
    have hgood := M.kids_good hok hs
    refine one_spec (t := M.remake t (t.ks.map (M.foldT ds))) (hd.ext hE5) (hm.ext hE5) hok ⟨kv', rfl, hkk⟩ (by rw [hgood.sort]; exact hs) fun w6 rv he6 hrv => ?_
    rw [← M.foldT_rem] at hrv
    obtain ⟨cr, rfl, hcr⟩ := hrv.cells
    have r6 := (r4.same hs5 (by omega)).ext he6
    have := r4.lt
    refine retTerm r6 rfl hcr (fun x hx => by rcases hx with (h | h) | h <;> omega) fun w7 hw7 hz7 ht7 => ?_
    have hz4' := hE4.size
    exact hK _ _ (Ext.then (hE5.trans he6) hw7 fun y hy => by subst hy; omega) (ht7.weaken fun x hx _ => by
      rcases hx with (h | h) | h
      · exact .inl h.1
      · exact .inr (by omega)
      · exact .inr (by omega))
end Go.Proofs.YtcfgmgjofmbfhaaGreatDoor
end
section
namespace Go.Proofs.YtcfgmgjofmbfhaaGreatDoor
open Go Go.Vc Go.Proofs
variable {w : World} {K : Value → World → Prop} {F F' D G : Nat → Prop}
inductive TmO (w : World) : (Nat → Prop) → List Value → M.Tm → Prop
  | mk {D : Nat → Prop} {kv : Value} {t : M.Tm} (css : List (List Value)) (Ds : Nat → Nat → Prop) (own : Own PP 0 5 T_Limpl_Term w kv css) (hl : css.length = t.ks.length)
      (hb : ∀ b, kv.ownBlock = some b → D b ∧ ∀ i, i < t.ks.length → ¬ Ds i b) (hd : ∀ i j b, i < j → j < t.ks.length → Ds i b → ¬ Ds j b) (hs : ∀ i b, i < t.ks.length → Ds i b → D b)
      (hk : ∀ i, i < t.ks.length → TmO w (Ds i) (css.getD i []) (t.ks.getD i default)) : TmO w D [.int .i64 t.op, .int .i64 t.a, .int .i64 t.b, .string t.s, kv] t
theorem tmO_inv {cs : List Value} {t : M.Tm} (h : TmO w D cs t) : ∃ (kv : Value) (css : List (List Value)) (Ds : Nat → Nat → Prop), cs = [.int .i64 t.op, .int .i64 t.a, .int .i64 t.b, .string t.s, kv] ∧ Own PP 0 5 T_Limpl_Term w kv css ∧ css.length = t.ks.length ∧
    (∀ b, kv.ownBlock = some b → D b ∧ ∀ i, i < t.ks.length → ¬ Ds i b) ∧ (∀ i j b, i < j → j < t.ks.length → Ds i b → ¬ Ds j b) ∧ (∀ i b, i < t.ks.length → Ds i b → D b) ∧ ∀ i, i < t.ks.length → TmO w (Ds i) (css.getD i []) (t.ks.getD i default) := by
  cases h with
  | mk css Ds own hl hb hd hs hk => exact ⟨_, css, Ds, rfl, own, hl, hb, hd, hs, hk⟩
theorem tmO_R : ∀ (t : M.Tm) {D : Nat → Prop} {cs : List Value}, TmO w D cs t → TmR D w cs t := by
  refine M.Tm.ind fun t ih D cs h => ?_
  obtain ⟨kv, css, Ds, rfl, own, hl, hb, hd, hs, hk⟩ := tmO_inv h
  exact TmR.of ⟨css, own.sl.weaken fun b hb' _ => (hb b hb').1, hl, fun i hi => (ih _ (M.getD_mem hi _) (hk i hi)).weaken fun b hb' _ => hs i b hi hb'⟩
theorem tmO_same {S : Nat → Prop} {w w' : World} (hw : Same S w w') : ∀ (t : M.Tm) {D : Nat → Prop} {cs : List Value}, TmO w D cs t → (∀ b, D b → ¬ S b) → TmO w' D cs t := by
  refine M.Tm.ind fun t ih D cs h hn => ?_
  obtain ⟨kv, css, Ds, rfl, own, hl, hb, hd, hs, hk⟩ := tmO_inv h
  exact .mk css Ds (own.same hw fun b h' => hn b (hb b h').1) hl hb hd hs fun i hi => ih _ (M.getD_mem hi _) (hk i hi) fun b hb' => hn b (hs i b hi hb')
theorem tmO_ext {w' : World} {cs : List Value} {t : M.Tm} (h : TmO w D cs t) (hw : Ext w w') : TmO w' D cs t := tmO_same hw t h fun _ _ h => h
theorem tmO_weaken {cs : List Value} {t : M.Tm} (h : TmO w D cs t) (hd' : ∀ b, D b → F b) : TmO w F cs t := by
  obtain ⟨kv, css, Ds, rfl, own, hl, hb, hd, hs, hk⟩ := tmO_inv h
  exact .mk css Ds own hl (fun b h => ⟨hd' b (hb b h).1, (hb b h).2⟩) hd (fun i b hi h => hd' b (hs i b hi h)) hk
structure Grow (lo : Nat) (w : World) (kv : Value) (css : List (List Value)) (us : List M.Tm) (Ds : Nat → Nat → Prop) : Prop where
  own : Own PP 0 5 T_Limpl_Term w kv css
  len : css.length = us.length
  blk : ∀ b, kv.ownBlock = some b → lo ≤ b ∧ ∀ j, j < us.length → ¬ Ds j b
  dis : ∀ j k b, j < k → k < us.length → Ds j b → ¬ Ds k b
  sub : ∀ j b, j < us.length → Ds j b → lo ≤ b ∧ b < w.heap.size
  kid : ∀ j, j < us.length → TmO w (Ds j) (css.getD j []) (us.getD j default)
theorem grow_nil (lo : Nat) (w : World) : Grow lo w (.slice none 0 0) [] [] fun _ _ => False :=
  ⟨Own.nil _ _ _ _ _, rfl, fun b h => (by cases h), fun j k b _ hk => absurd hk (by simp), fun j b hj => absurd hj (by simp), fun j hj => absurd hj (by simp)⟩
theorem grow_same {S : Nat → Prop} {lo : Nat} {kv : Value} {w' : World} {css : List (List Value)} {us : List M.Tm} {Ds : Nat → Nat → Prop} (h : Grow lo w kv css us Ds) (hw : Same S w w') (hs : ∀ b, lo ≤ b → ¬ S b) : Grow lo w' kv css us Ds :=
  ⟨h.own.same hw fun b hb => hs b (h.blk b hb).1, h.len, h.blk, h.dis, fun j b hj hb => ⟨(h.sub j b hj hb).1, Nat.lt_of_lt_of_le (h.sub j b hj hb).2 hw.size⟩, fun j hj => tmO_same hw _ (h.kid j hj) fun b hb => hs b (h.sub j b hj hb).1⟩
theorem grow_push {lo b10 : Nat} {kv : Value} {w5 w8 w9 w10 : World} {css : List (List Value)} {us : List M.Tm} {Ds : Nat → Nat → Prop} {cr : List Value} {u : M.Tm} (h : Grow lo w5 kv css us Ds) (e8 : Ext w5 w8) (e9 : Ext w8 w9) (hlo : lo ≤ w8.heap.size)
    (hr : TmO w9 (fun b => w8.heap.size ≤ b ∧ b < w9.heap.size) cr u) (e10 : Ext w9 w10) (h10 : Blk w10 b10 cr T_impl_Term) (hsm : us.length ≤ 1048576)
    (hK : ∀ kv2 w11 Ds2, Grow lo w11 kv2 (css ++ [cr]) (us ++ [u]) Ds2 → Same (fun b => kv.ownBlock = some b) w10 w11 → kv2.cells = #[kv2] → kv2.oneCell' = true → K kv2 w11) :
    vbi PP .append [T_Limpl_Term, T_Limpl_Term] T_Limpl_Term [kv, .slice (some ⟨b10, 0, none⟩) 1 1] w10 K := by
  have hcr := tmO_R _ hr
  have e510 := e8.trans (e9.trans e10)
  have g10 := grow_same h e510 fun b _ h => h
  have hz8 := e8.size
  have hz9 := e9.size
  have hz10 := e10.size
  have hl := h.len
  refine Own.app1k g10.own l_Limpl_Term (by decide) h10 (tmR_len hcr) (tmR_one hcr) (by omega) (by omega) fun kv2 w11 ho11 hw11 hn11 => ?_
  have hz11 := hw11.size
  have hkc : kv2.cells = #[kv2] ∧ kv2.oneCell' = true := by
    obtain ⟨a, c, rfl, _⟩ := ho11.sl.shape
    exact ⟨rfl, rfl⟩
  have hold : ∀ b, kv.ownBlock = some b → b < w5.heap.size := fun b hb => (h.own.lt hb).2
  refine hK kv2 w11 (fun j b => (j = us.length ∧ w8.heap.size ≤ b ∧ b < w9.heap.size) ∨ (j < us.length ∧ Ds j b)) ⟨ho11, by simp [hl], fun b hb => ?_, fun j k b hjk hk hj hk' => ?_, fun j b hj hb => ?_, fun j hj => ?_⟩ hw11 hkc.1 hkc.2
  · rcases hn11 b hb with e | e
    · refine ⟨(h.blk b e).1, fun j hj hd => ?_⟩
      rcases hd with ⟨_, h1, _⟩ | ⟨h1, h2⟩
      · have := hold b e; omega
      · exact (h.blk b e).2 j h1 h2
    · refine ⟨by omega, fun j hj hd => ?_⟩
      rcases hd with ⟨_, _, h1⟩ | ⟨h1, h2⟩
      · omega
      · have := (h.sub j b h1 h2).2; omega
  · rw [List.length_append, List.length_singleton] at hk
    rcases hj with ⟨h1, h2, h3⟩ | ⟨h1, h2⟩
    · omega
    · rcases hk' with ⟨g1, g2, g3⟩ | ⟨g1, g2⟩
      · have := (h.sub j b h1 h2).2; omega
      · exact h.dis j k b hjk g1 h2 g2
  · rcases hb with ⟨h1, h2, h3⟩ | ⟨h1, h2⟩
    · exact ⟨by omega, by omega⟩
    · have := h.sub j b h1 h2; exact ⟨this.1, by omega⟩
  · rw [List.length_append, List.length_singleton] at hj
    by_cases e : j < us.length
    · rw [List.getD_eq_getElem?_getD, List.getElem?_append_left (by omega), ← List.getD_eq_getElem?_getD, List.getD_eq_getElem?_getD (l := us ++ [u]), List.getElem?_append_left e, ← List.getD_eq_getElem?_getD]
      refine tmO_weaken (tmO_same hw11 _ (g10.kid j e) fun b hb hs => (h.blk b hs).2 j e hb) fun b hb => .inr ⟨e, hb⟩
    · have : j = us.length := by omega
      subst this
      rw [List.getD_eq_getElem?_getD, List.getElem?_append_right (by omega), hl, Nat.sub_self, List.getD_eq_getElem?_getD (l := us ++ [u]), List.getElem?_append_right (Nat.le_refl _), Nat.sub_self]
      show TmO w11 _ cr u
      refine tmO_weaken (tmO_same hw11 _ (tmO_ext hr e10) fun b hb hs => by have := hold b hs; omega) fun b hb => .inl ⟨rfl, hb⟩
theorem grow_done {lo : Nat} {kv : Value} {css : List (List Value)} {t : M.Tm} {Ds : Nat → Nat → Prop} (h : Grow lo w kv css t.ks Ds) : TmO w (fun b => lo ≤ b ∧ b < w.heap.size) [.int .i64 t.op, .int .i64 t.a, .int .i64 t.b, .string t.s, kv] t :=
  .mk css Ds h.own h.len (fun b hb => ⟨⟨(h.blk b hb).1, (h.own.lt hb).2⟩, (h.blk b hb).2⟩) h.dis (fun i b hi hb => h.sub i b hi hb) h.kid
theorem retO {b : Nat} {cs cs' : List Value} {t : TypeId} {t' : M.Tm} {K : Value → World → Prop} (h : Blk w b cs t) (hl : cs.length = 5) (hc : TmO w G cs' t') (hG : ∀ x, G x → x ≠ b) (hK : ∀ w', Same (· = b) w w' → w'.heap.size = w.heap.size → TmO w' G cs' t' → K (.agg ⟨cs'⟩) w') :
    vstore PP T_impl_Term (.pointer (some ⟨b, 0, none⟩)) (.agg ⟨cs'⟩) w fun _ w1 => vlv PP T_impl_Term (.pointer (some ⟨b, 0, none⟩)) w1 fun r w2 => K r w2 :=
  retTerm h hl (tmO_R _ hc) hG fun w' hw hz _ => hK w' hw hz (tmO_same hw _ hc fun b' hb' e => hG b' hb' e)
theorem take_snoc {us : List M.Tm} {i : Nat} (h : i < us.length) : us.take i ++ [us.getD i default] = us.take (i + 1) := (M.take_add h default).symm
theorem copyTerm_spec : ∀ (t : M.Tm) {w : World} {K : Value → World → Prop} {F : Nat → Prop} {v : Value}, TermR F w v t → fitB t = true → (∀ w' cs, Ext w w' → TmO w' (fun b => w.heap.size ≤ b ∧ b < w'.heap.size) cs t → K (.agg ⟨cs⟩) w') → vcall PP n_impl_copyTerm #[v] w K := by
  refine M.Tm.ind fun t ih w K F v ht hfit hK => ?_
  obtain ⟨f1, f2⟩ := fitB_iff.1 hfit
  apply c_impl_copyTerm; unfold F_impl_copyTerm
  obtain ⟨kv, rfl, hks⟩ := ht
  refine vbox_agg fun b1 w1 hb1 he1 hs1 h1 => ?_
  refine valloc_agg zr_impl_Term fun b2 w2 hb2 he2 hs2 h2 => ?_
  have hz1 := he1.size
  have q2 := h1.ext he2
  have hE2 := he1.trans he2
  have hk2 : TmsR (fun x => x < w.heap.size) w2 kv t.ks := (hks.weaken fun b _ h' => h').ext hE2
  simp (disch := (simp only [push_cast]; done)) only [push_cast, q2.ld4]
  refine q2.st (i := 4) rfl rfl z_Limpl_Term rfl fun w4 hw4 hz4 h4 => ?_
  replace h4 : Blk w4 b1 [.int .i64 t.op, .int .i64 t.a, .int .i64 t.b, .string t.s, .slice none 0 0] T_impl_Term := h4
  have hE4 : Ext w w4 := Ext.then hE2 hw4 fun y hy => by subst hy; omega
  have hk4 := hk2.same hw4 fun b hb _ e => by omega
  have r4 := h2.same hw4 (by omega)
  simp (disch := (simp only [push_cast]; done)) only [push_cast, hk4.len]
  refine vloop_up t.ks.length (fun i u w' => u = [.int .i64 i] ∧ Same (fun b => b = b1) w4 w' ∧ ∃ kv' css Ds, Blk w' b1 [.int .i64 t.op, .int .i64 t.a, .int .i64 t.b, .string t.s, kv'] T_impl_Term ∧ Grow w4.heap.size w' kv' css (t.ks.take i) Ds)
    ⟨rfl, Same.refl _ _, _, [], _, h4, grow_nil _ _⟩ ?_
  rintro i _ _ w5 C hi ⟨rfl, hs5, kv', css, Ds, h5, g5⟩ hC
  have hz5 := hs5.size
  have hz4' := hE4.size
  have hE5 : Ext w w5 := Ext.then hE4 hs5 fun y hy => by subst hy; omega
  have hk5 := hk4.same hs5 fun b hb _ e => by omega
  simp only [push_cast]
  refine vif_dec (fun a => ?_) (fun a => ?_)
  · simp (disch := first | (simp only [push_cast]; done) | omega) only [push_cast, hk5.iaddr]
    refine hk5.load g_impl_Term (by omega) fun x hx => ?_
    obtain ⟨cx, rfl, hcx⟩ := hx.cells
    refine valloc_agg zr_impl_Term fun b6 w6 hb6 he6 hs6 h6 => ?_
    refine stTerm h6 rfl (hcx.ext he6) fun w7 hw7 hz7 h7 => ?_
    have e57 : Ext w5 w7 := Ext.then he6 hw7 fun y hy => by subst hy; omega
    refine vdraw_ext fun w8 he8 _ => ?_
    have e58 := e57.trans he8
    have q8 := h5.ext e58
    have v8 := h7.ext he8
    simp (disch := (simp only [push_cast]; done)) only [push_cast, q8.ld4, v8.ldAgg (t := T_impl_Term) (by rw [tmR_len hcx]; exact g_impl_Term), true_and]
    have hmem : t.ks.getD i default ∈ t.ks := M.getD_mem (by omega) _
    have hz58 := e58.size
    refine ih _ hmem (hcx.ext e58).term (f2 _ hmem) fun w9 cr he9 hr => ?_
    have q9 := q8.ext he9
    simp (disch := (simp only [push_cast]; done)) only [push_cast, q9.ld4, true_and, and_self]
    have hcr := tmO_R _ hr
    refine vbuildS1 u_Limpl_Term z_impl_Term zr_impl_Term rfl (tmR_len hcr) (by decide) fun b10 w10 hb10 he10 hs10 h10 => ?_
    have q10 := q9.ext he10
    simp (disch := (simp only [push_cast]; done)) only [push_cast, q10.ld4, true_and, and_self]
    refine grow_push g5 e58 he9 (by omega) hr he10 h10 (by rw [List.length_take]; omega) fun kv2 w11 Ds2 g11 hw11 kc1 kc2 => ?_
    have q11 := q10.same hw11 (fun e => by have := (g5.blk _ e).1; omega)
    try simp only [push_cast, true_and]
    refine q11.st (i := 4) kc1 kc2 z_Limpl_Term rfl fun w12 hw12 hz12 h12 => ?_
    replace h12 : Blk w12 b1 [.int .i64 t.op, .int .i64 t.a, .int .i64 t.b, .string t.s, kv2] T_impl_Term := h12
    rw [inc64' (by omega)]
    have hS : Same (fun b => b = b1 ∨ kv'.ownBlock = some b) w5 w12 := (Same.of_ext (e58.trans (he9.trans he10))).trans ((hw11.mono fun _ _ h => .inr h).trans (hw12.mono fun _ _ h => .inl h))
    have hS4 : Same (fun b => b = b1) w4 w12 := ⟨hS.os.trans hs5.os, hS.tape.trans hs5.tape, hS.output.trans hs5.output, Nat.le_trans hs5.size hS.size, fun b hb hne => (hS.block b (by omega) (fun e => e.elim hne fun e => by have := (g5.blk b e).1; omega)).trans (hs5.block b hb hne)⟩
    rw [take_snoc (by omega)] at g11
    exact hC (by omega) _ _ ⟨rfl, hS4, kv2, _, Ds2, h12, grow_same g11 hw12 fun b hb e => by omega⟩
  · have hi' : i = t.ks.length := by omega
    subst hi'
    rw [List.take_length] at g5
    rw [h5.ldAgg (t := T_impl_Term) g_impl_Term]
    refine retO (r4.same hs5 (by omega)) rfl (grow_done g5) (fun x hx => by omega) fun w6 hw6 hz6 ho6 => ?_
    exact hK _ _ (Ext.then hE5 hw6 fun y hy => by subst hy; omega) (tmO_weaken ho6 fun b hb => ⟨by omega, by omega⟩)
@[push_cast] theorem bd_T4 (o a b : Int) (s : ByteArray) : vbuild PP T_impl_Term [(0, .int .i64 o), (1, .int .i64 a), (2, .int .i64 b), (3, .string s)] w K = K (.agg ⟨[.int .i64 o, .int .i64 a, .int .i64 b, .string s, .slice none 0 0]⟩) w := vbuild_eq b_impl_Term (us := [[.int .i64 o], [.int .i64 a], [.int .i64 b], [.string s]]) rfl rfl
theorem l3Copy_spec : ∀ (t : M.Tm) {w : World} {K : Value → World → Prop} {F : Nat → Prop} {v : Value}, TermR F w v t → fitB t = true → (∀ w' cs, Ext w w' → TmO w' (fun b => w.heap.size ≤ b ∧ b < w'.heap.size) cs t → K (.agg ⟨cs⟩) w') → vcall PP n_spec_l3Copy #[v] w K := by
  refine M.Tm.ind fun t ih w K F v ht hfit hK => ?_
  obtain ⟨f1, f2⟩ := fitB_iff.1 hfit
  apply c_spec_l3Copy; unfold F_spec_l3Copy
  obtain ⟨kv, rfl, hks⟩ := ht
  refine vbox_agg fun b1 w1 hb1 he1 hs1 h1 => ?_
  refine valloc_agg zr_impl_Term fun b2 w2 hb2 he2 hs2 h2 => ?_
  have hz1 := he1.size
  have q2 := h1.ext he2
  simp (disch := (simp only [push_cast]; done)) only [push_cast, q2.ld0, q2.ld1, q2.ld2, q2.ld3]
  refine valloc_agg zr_impl_Term fun b3 w3 hb3 he3 hs3 h3 => ?_
  refine stTerm h3 rfl (leafR t.op t.a t.b t.s : TmR (fun _ => False) w3 _ _) fun w4 hw4 hz4 h4 => ?_
  have e14 : Ext w1 w4 := Ext.then (he2.trans he3) hw4 fun y hy => by subst hy; omega
  have hE4 := he1.trans e14
  have q4 := h1.ext e14
  have r4 := (h2.ext he3).same hw4 (by omega)
  have hk4 : TmsR (fun x => x < w.heap.size) w4 kv t.ks := (hks.weaken fun b _ h' => h').ext hE4
  have hsm := hks.small
  refine vloop_up t.ks.length (fun i u w' => u = [.int .i64 i] ∧ Same (fun b => b = b3) w4 w' ∧ ∃ kv' css Ds, Blk w' b3 [.int .i64 t.op, .int .i64 t.a, .int .i64 t.b, .string t.s, kv'] T_impl_Term ∧ Grow w4.heap.size w' kv' css (t.ks.take i) Ds)
    ⟨rfl, Same.refl _ _, _, [], _, h4, grow_nil _ _⟩ ?_
  rintro i _ _ w5 C hi ⟨rfl, hs5, kv', css, Ds, h5, g5⟩ hC
  have hz5 := hs5.size
  have hz4' := hE4.size
  have hE5 : Ext w w5 := Ext.then hE4 hs5 fun y hy => by subst hy; omega
  have hk5 := hk4.same hs5 fun b hb _ e => by omega
  have q5 := q4.same hs5 (by omega)
  simp (disch := (simp only [push_cast]; done)) only [push_cast, q5.ld4, hk5.len]
  refine vif_dec (fun a => ?_) (fun a => ?_)
  · refine vdraw_ext fun w8 he8 _ => ?_
    have q8 := q5.ext he8
    have p8 := h5.ext he8
    obtain ⟨cks, hsl, hln, hc⟩ := hk5.ext he8
    simp (disch := first | (simp only [push_cast]; done) | omega) only [push_cast, q8.ld4, p8.ld4, hsl.iaddr, hsl.ldAgg, true_and]
    have hmem : t.ks.getD i default ∈ t.ks := M.getD_mem (by omega) _
    have hz8 := he8.size
    refine ih _ hmem (hc i (by omega)).term (f2 _ hmem) fun w9 cr he9 hr => ?_
    have p9 := p8.ext he9
    simp (disch := (simp only [push_cast]; done)) only [push_cast, p9.ld4, true_and, and_self]
    have hcr := tmO_R _ hr
    refine vbuildS1 u_Limpl_Term z_impl_Term zr_impl_Term rfl (tmR_len hcr) (by decide) fun b10 w10 hb10 he10 hs10 h10 => ?_
    have p10 := p9.ext he10
    simp (disch := (simp only [push_cast]; done)) only [push_cast, p10.ld4, true_and, and_self]
    refine grow_push g5 he8 he9 (by omega) hr he10 h10 (by rw [List.length_take]; omega) fun kv2 w11 Ds2 g11 hw11 kc1 kc2 => ?_
    have p11 := p10.same hw11 (fun e => by have := (g5.blk _ e).1; omega)
    try simp only [push_cast, true_and]
    refine p11.st (i := 4) kc1 kc2 z_Limpl_Term rfl fun w12 hw12 hz12 h12 => ?_
    replace h12 : Blk w12 b3 [.int .i64 t.op, .int .i64 t.a, .int .i64 t.b, .string t.s, kv2] T_impl_Term := h12
    rw [inc64' (by omega)]
    have hS : Same (fun b => b = b3 ∨ kv'.ownBlock = some b) w5 w12 := (Same.of_ext (he8.trans (he9.trans he10))).trans ((hw11.mono fun _ _ h => .inr h).trans (hw12.mono fun _ _ h => .inl h))
    have hS4 : Same (fun b => b = b3) w4 w12 := ⟨hS.os.trans hs5.os, hS.tape.trans hs5.tape, hS.output.trans hs5.output, Nat.le_trans hs5.size hS.size, fun b hb hne => (hS.block b (by omega) (fun e => e.elim hne fun e => by have := (g5.blk b e).1; omega)).trans (hs5.block b hb hne)⟩
    rw [take_snoc (by omega)] at g11
    exact hC (by omega) _ _ ⟨rfl, hS4, kv2, _, Ds2, h12, grow_same g11 hw12 fun b hb e => by omega⟩
  · have hi' : i = t.ks.length := by omega
    subst hi'
    rw [List.take_length] at g5
    rw [h5.ldAgg (t := T_impl_Term) g_impl_Term]
    refine retO (r4.same hs5 (by omega)) rfl (grow_done g5) (fun x hx => by omega) fun w6 hw6 hz6 ho6 => ?_
    exact hK _ _ (Ext.then hE5 hw6 fun y hy => by subst hy; omega) (tmO_weaken ho6 fun b hb => ⟨by omega, by omega⟩)
theorem fit_size : ∀ t : M.Tm, M.sizeM t ≤ 1000 → fitB t = true := by
  refine M.Tm.ind fun t ih h => ?_
  have hk : ∀ i, i < t.ks.length → M.sizeM (M.kid t i) + 1 ≤ M.sizeM t := fun i hi => (M.kid_size hi).1
  have hl : t.ks.length ≤ M.sizeM t := by
    have := M.szT_all t
    have mono : ∀ i, i ≤ t.ks.length → i ≤ M.szT t.ks i := fun i => by
      induction i with
      | zero => intro _; exact Nat.zero_le _
      | succ i ihi =>
        intro hi
        have := ihi (by omega)
        have := M.szT_succ (ks := t.ks) (i := i) (by omega)
        have := (M.size_pos (t := t.ks.getD i default)).1
        omega
    have := mono t.ks.length (Nat.le_refl _)
    omega
  refine fitB_iff.2 ⟨by omega, fun k hk' => ?_⟩
  obtain ⟨i, hi, rfl⟩ := List.getElem_of_mem hk'
  have := hk i hi
  unfold M.kid at this
  rw [List.getD_eq_getElem?_getD, List.getElem?_eq_getElem hi] at this
  exact ih _ hk' (by simp only [Option.getD_some] at this; omega)
def oneA (ds : List M.Dcl) (t : M.Tm) : M.Tm := if M.tsort ds t = -1 then .mk 0 0 0 M.nada [] else M.oneT ds t
def foldA (ds : List M.Dcl) (t : M.Tm) : M.Tm := if M.tsort ds t = -1 then .mk 0 0 0 M.nada [] else M.foldT ds t
theorem zeroO : TmO w D zeroT (.mk 0 0 0 M.nada []) :=
  TmO.mk (t := .mk 0 0 0 M.nada []) [] (fun _ _ => False) (Own.nil _ _ _ _ _) rfl (fun b h => (by cases h)) (fun i j b _ hj => absurd hj (by show ¬ j < 0; omega)) (fun i b hi => absurd hi (by show ¬ i < 0; omega)) (fun i hi => absurd hi (by show ¬ i < 0; omega))
theorem small_of {ds : List M.Dcl} {t : M.Tm} (h : M.tsort ds t ≠ -1) : M.declOk ds = true ∧ M.sortM ds t ≠ -1 ∧ M.sizeM t ≤ 20 := by
  rcases dtSize (ds := ds) (t := t) with e | ⟨h1, h2, h3, h4, h5⟩
  · exact absurd e h
  · exact ⟨h5, by omega, (M.fits_iff.1 h4).1⟩
theorem bd_folder {a : Option Addr} {l c mb : Nat} : vbuild PP T_impl_folder [(0, .slice a l c), (1, .map (some mb))] w K = K (folderV (.slice a l c) mb) w := vbuild_eq b_impl_folder (us := [[.slice a l c], [.map (some mb)]]) rfl rfl
theorem TermOne_spec {dv tv : Value} {ds : List M.Dcl} {t : M.Tm} (hd : DclsR F w dv ds) (ht : TermR G w tv t) (hK : ∀ w' cs, Ext w w' → TmO w' (fun b => w.heap.size ≤ b ∧ b < w'.heap.size) cs (oneA ds t) → K (.agg ⟨cs⟩) w') : vcall PP n_impl_TermOne #[dv, tv] w K := by
  apply c_impl_TermOne; unfold F_impl_TermOne
  obtain ⟨ct, rfl, hct⟩ := ht.cells
  have hg : aggB PP T_impl_Term ct.length = true := by rw [tmR_len hct]; exact g_impl_Term
  refine vbox_agg fun b1 w1 hb1 he1 hs1 h1 => ?_
  refine valloc_agg zr_impl_Term fun b2 w2 hb2 he2 hs2 h2 => ?_
  have q2 := h1.ext he2
  have hE2 := he1.trans he2
  have hz1 := he1.size
  rw [q2.ldAgg (t := T_impl_Term) hg]
  refine TermSort_spec (hd.ext hE2) (ht.ext hE2) fun w3 he3 => ?_
  have hE3 := hE2.trans he3
  have r3 := h2.ext he3
  have hz3 := he3.size
  simp only [push_cast]
  unfold oneA at hK
  refine vif_dec (fun a => ?_) (fun a => ?_)
  · rw [if_pos a] at hK
    try simp only [push_cast]
    refine retO (G := fun _ => False) r3 rfl zeroO (fun x hx => hx.elim) fun w4 hw4 hz4 ho4 => ?_
    exact hK _ _ (Ext.then hE3 hw4 fun y hy => by subst hy; omega) (tmO_weaken ho4 fun b hb => hb.elim)
  · rw [if_neg a] at hK
    obtain ⟨hok, hs, hsz⟩ := small_of a
    refine vdraw_ext fun w4 he4 _ => ?_
    have q4 := q2.ext (he3.trans he4)
    simp only [push_cast, q4.ldAgg (t := T_impl_Term) hg, true_and]
    refine kinds_spec fun w5 mb he5 hm => ?_
    have q5 := q4.ext he5
    have hE5 := hE3.trans (he4.trans he5)
    obtain ⟨da, dc, rfl, _⟩ := hd.shape
    rw [List.length_map] at *
    simp only [push_cast, q5.ldAgg (t := T_impl_Term) hg, true_and, and_self, bd_folder]
    refine one_spec (G := fun x => x < w.heap.size) (hd.ext hE5) hm hok ((ht.weaken fun b _ h => h).ext hE5) hs fun w6 rv he6 hrv => ?_
    have hE6 := hE5.trans he6
    have hone := M.one_good' hok hs
    refine copyTerm_spec _ hrv (fit_size _ (by omega)) fun w7 cs he7 ho7 => ?_
    have hz5 := hE5.size
    have hz6 := hE6.size
    have r7 := r3.ext (he4.trans (he5.trans (he6.trans he7)))
    have hz4 := he4.size
    have hz5' := he5.size
    have hz6' := he6.size
    refine retO r7 rfl ho7 (fun x hx => by omega) fun w8 hw8 hz8 ho8 => ?_
    exact hK _ _ (Ext.then (hE6.trans he7) hw8 fun y hy => by subst hy; omega) (tmO_weaken ho8 fun b hb => ⟨by omega, by omega⟩)
theorem TermFold_spec {dv tv : Value} {ds : List M.Dcl} {t : M.Tm} (hd : DclsR F w dv ds) (ht : TermR G w tv t) (hK : ∀ w' cs, Ext w w' → TmO w' (fun b => w.heap.size ≤ b ∧ b < w'.heap.size) cs (foldA ds t) → K (.agg ⟨cs⟩) w') : vcall PP n_impl_TermFold #[dv, tv] w K := by
  apply c_impl_TermFold; unfold F_impl_TermFold
  obtain ⟨ct, rfl, hct⟩ := ht.cells
  have hg : aggB PP T_impl_Term ct.length = true := by rw [tmR_len hct]; exact g_impl_Term
  refine vbox_agg fun b1 w1 hb1 he1 hs1 h1 => ?_
  refine valloc_agg zr_impl_Term fun b2 w2 hb2 he2 hs2 h2 => ?_
  have q2 := h1.ext he2
  have hE2 := he1.trans he2
  have hz1 := he1.size
  rw [q2.ldAgg (t := T_impl_Term) hg]
  refine TermSort_spec (hd.ext hE2) (ht.ext hE2) fun w3 he3 => ?_
  have hE3 := hE2.trans he3
  have r3 := h2.ext he3
  have hz3 := he3.size
  simp only [push_cast]
  unfold foldA at hK
  refine vif_dec (fun a => ?_) (fun a => ?_)
  · rw [if_pos a] at hK
    try simp only [push_cast]
    refine retO (G := fun _ => False) r3 rfl zeroO (fun x hx => hx.elim) fun w4 hw4 hz4 ho4 => ?_
    exact hK _ _ (Ext.then hE3 hw4 fun y hy => by subst hy; omega) (tmO_weaken ho4 fun b hb => hb.elim)
  · rw [if_neg a] at hK
    obtain ⟨hok, hs, hsz⟩ := small_of a
    refine vdraw_ext fun w4 he4 _ => ?_
    have q4 := q2.ext (he3.trans he4)
    simp only [push_cast, q4.ldAgg (t := T_impl_Term) hg, true_and]
    refine kinds_spec fun w5 mb he5 hm => ?_
    have q5 := q4.ext he5
    have hE5 := hE3.trans (he4.trans he5)
    obtain ⟨da, dc, rfl, _⟩ := hd.shape
    rw [List.length_map] at *
    simp only [push_cast, q5.ldAgg (t := T_impl_Term) hg, true_and, and_self, bd_folder]
    refine fold_spec t (G := fun x => x < w.heap.size) (hd.ext hE5) hm hok ((ht.weaken fun b _ h => h).ext hE5) hs fun w6 rv he6 hrv => ?_
    have hE6 := hE5.trans he6
    have hgood := M.fold_good hok t hs
    have hsz2 := hgood.size
    refine copyTerm_spec _ hrv (fit_size _ (by omega)) fun w7 cs he7 ho7 => ?_
    have hz5 := hE5.size
    have hz6 := hE6.size
    have r7 := r3.ext (he4.trans (he5.trans (he6.trans he7)))
    have hz4 := he4.size
    have hz5' := he5.size
    have hz6' := he6.size
    refine retO r7 rfl ho7 (fun x hx => by omega) fun w8 hw8 hz8 ho8 => ?_
    exact hK _ _ (Ext.then (hE6.trans he7) hw8 fun y hy => by subst hy; omega) (tmO_weaken ho8 fun b hb => ⟨by omega, by omega⟩)
end Go.Proofs.YtcfgmgjofmbfhaaGreatDoor
end
section
namespace Go.M
open Go.Vc
section
variable {ds : List Dcl} {t : Tm}
def boolM (b : Bool) : Tm := if b = true then truT else flsT
def logicS (t : Tm) : Tm :=
  if t.op = 25 then (if (kid t 0).op = 25 then kid (kid t 0) 0 else t)
  else if t.op = 23 then (if isM (kid t 0) 1 = true ∨ (kid t 1 = kid t 2 ∧ ¬ isM (kid t 0) 0 = true) then kid t 1 else if isM (kid t 0) 0 = true then kid t 2 else t)
  else if isM (kid t 0) (b2i (decide (t.op = 26))) = true ∨ kid t 0 = kid t 1 then kid t 1
  else if isM (kid t 1) (b2i (decide (t.op = 26))) = true then kid t 0
  else if isM (kid t 0) (1 - b2i (decide (t.op = 26))) = true ∨ isM (kid t 1) (1 - b2i (decide (t.op = 26))) = true then boolM (decide (b2i (decide (t.op = 26)) = 0)) else t
def rightS (t : Tm) : Tm :=
  if t.op = 4 ∨ t.op = 5 ∨ t.op = 6 ∨ t.op = 7 ∨ t.op = 11 ∨ t.op = 12 ∨ t.op = 13 then (if isM (kid t 1) 0 = true then kid t 0 else t)
  else if t.op = 3 then (if isM (kid t 1) 0 = true then kid t 1 else t)
  else if t.op = 8 then (if isM (kid t 1) 0 = true then kid t 1 else if isM (kid t 1) 1 = true then kid t 0 else t) else t
def alikeS (t : Tm) (w : Int) : Tm :=
  if t.op = 3 ∨ t.op = 4 then kid t 0 else if t.op = 5 ∨ t.op = 7 then .mk 20 w 0 nada [] else if t.op = 15 then truT else if t.op = 16 ∨ t.op = 17 then flsT else t
def swapS (t : Tm) : Tm := .mk t.op 0 0 nada [kid t 1, kid t 0]
def otherS (t v : Tm) : Prop := v.ks.length ≠ 2 ∨ kid v 0 ≠ kid t 1 ∨ kid v 1 ≠ kid t 0 ∨ v.op ≠ t.op
instance (t v : Tm) : Decidable (otherS t v) := by unfold otherS; infer_instance
def twoS (t : Tm) (w : Int) : Tm :=
  if kid t 0 = kid t 1 ∧ alikeS t w ≠ t then alikeS t w
  else if rightS t ≠ t then rightS t
  else if (t.op = 3 ∨ t.op = 4 ∨ t.op = 5 ∨ t.op = 6 ∨ t.op = 8) ∧ otherS t (rightS (swapS t)) then rightS (swapS t) else t
def oneS (ds : List Dcl) (t : Tm) : Tm :=
  if allFixed t = true then (if sortM ds t = 0 then boolM (decide (evalM ds (zeroE ds) t = 1)) else .mk 20 (sortM ds t) (evalM ds (zeroE ds) t) nada [])
  else if t.ks = [] then t
  else if 23 ≤ t.op then logicS t
  else if t.op = 22 then (if sortM ds t = sortM ds (kid t 0) then kid t 0 else t)
  else if t.ks.length = 1 then (if (kid t 0).op = t.op then kid (kid t 0) 0 else t)
  else twoS t (sortM ds (kid t 0))
theorem kid_ne {i : Nat} (h : i < t.ks.length) : kid t i ≠ t := fun e => by
  have := (kid_size h).1
  rw [e] at this
  omega
theorem X_none (h : ¬ allFixed t = true) : ruleX ds t = none := by unfold ruleX; rw [if_neg h]
theorem B_none (h1 : t.op ≠ 25) (h2 : t.op ≠ 23) : ruleB t = none := by unfold ruleB; rw [if_neg (fun x => h1 x.1), if_pos h2]
theorem T_none (h : ¬ (t.op = 26 ∨ t.op = 27)) : ruleT t = none := by unfold ruleT; rw [if_neg h]
theorem L_none (h1 : t.op ≠ 22) (h2 : ¬ (t.op = 1 ∨ t.op = 2)) : ruleL ds t = none := by unfold ruleL; rw [if_neg h1, if_neg (fun x => h2 x.1)]
theorem W_none (h : t.ks.length ≠ 2) : ruleW ds t = none := by unfold ruleW; rw [if_neg (fun x => h x.1)]
theorem S_none (h : t.ks.length ≠ 2) : ruleS t = none := by unfold ruleS; rw [if_neg h]
theorem F_none (h : t.ks.length ≠ 2) : ruleF t = none := by unfold ruleF; rw [if_neg h]
theorem none_or {α : Type} {b : Option α} : ((none : Option α) <|> b) = b := rfl
theorem or_none {α : Type} {a : Option α} : (a <|> (none : Option α)) = a := by cases a <;> rfl
theorem logic_eq (hs : sortM ds t ≠ -1) (ha : ¬ allFixed t = true) (h23 : 23 ≤ t.op) (hne : t.ks ≠ []) : logicS t = oneT ds t := by
  have hl := len_of hs
  have hlp : 0 < t.ks.length := List.length_pos_iff.2 hne
  have hops := arity_ops (o := t.op) (by omega)
  unfold oneT ruleA
  rw [X_none ha, none_or]
  by_cases o25 : t.op = 25
  · have l1 : t.ks.length = 1 := by rw [o25] at hl; simp [arity] at hl; omega
    rw [T_none (by omega), L_none (by omega) (by omega), W_none (by omega), S_none (by omega), F_none (by omega)]
    simp only [or_none]
    unfold logicS ruleB
    rw [if_pos o25]
    by_cases k : (kid t 0).op = 25
    · rw [if_pos k, if_pos ⟨o25, k⟩]; rfl
    · rw [if_neg k, if_neg (fun x => k x.2), if_pos (by omega)]; rfl
  by_cases o23 : t.op = 23
  · have l3 : t.ks.length = 3 := by rw [o23] at hl; simp [arity] at hl; omega
    rw [T_none (by omega), L_none (by omega) (by omega), W_none (by omega), S_none (by omega), F_none (by omega)]
    simp only [or_none]
    unfold logicS ruleB
    rw [if_neg o25, if_pos o23, if_neg (show ¬ (t.op = 25 ∧ (kid t 0).op = 25) from fun x => o25 x.1), if_neg (show ¬ t.op ≠ 23 from fun x => x o23)]
    by_cases i1 : isM (kid t 0) 1 = true
    · rw [if_pos (.inl i1), if_pos i1]; rfl
    · rw [if_neg i1]
      by_cases i0 : isM (kid t 0) 0 = true
      · rw [if_neg (fun x => x.elim i1 fun x => x.2 i0), if_pos i0, if_pos i0]; rfl
      · rw [if_neg i0, if_neg i0]
        by_cases e : kid t 1 = kid t 2
        · rw [if_pos (.inr ⟨e, i0⟩), if_pos e]; rfl
        · rw [if_neg (fun x => x.elim i1 fun x => e x.1), if_neg e]; rfl
  have o : t.op = 26 ∨ t.op = 27 := by
    unfold arity at hl
    repeat' split at hl
    all_goals omega
  have l2 : t.ks.length = 2 := by rcases o with e | e <;> rw [e] at hl <;> simp [arity] at hl <;> omega
  have hb : b2i (decide (t.op = 26)) = neutral t.op := by
    unfold neutral b2i
    by_cases e : t.op = 26
    · rw [decide_eq_true e, if_pos rfl, if_pos e]
    · rw [decide_eq_false e, if_neg (by decide), if_neg e]
  have hbool : boolM (decide (neutral t.op = 0)) = constM 0 (1 - neutral t.op) := by
    unfold neutral
    rcases o with e | e
    · rw [if_pos e]; rfl
    · rw [if_neg (by omega)]; rfl
  rw [B_none o25 o23, none_or]
  unfold logicS
  rw [if_neg o25, if_neg o23, hb, hbool]
  have tail : ruleT t = none → (ruleL ds t <|> ruleW ds t <|> ruleS t <|> ruleF t) = none := fun hT => by
    have hk : kid t 0 ≠ kid t 1 := fun e => by
      unfold ruleT at hT
      rw [if_pos o, if_pos (.inr e)] at hT; cases hT
    rw [L_none (by omega) (by omega)]
    have w : ruleW ds t = none := by unfold ruleW; rw [if_neg (fun x => hk x.2)]
    have s : ruleS t = none := by unfold ruleS; rw [if_pos l2, if_neg (by omega), if_neg (by omega), if_neg (by omega)]
    have f : ruleF t = none := by unfold ruleF; rw [if_pos l2, if_neg (by omega), if_neg (by omega), if_neg (by omega)]
    rw [w, s, f]; rfl
  cases hT : ruleT t with
  | none =>
    rw [none_or, tail hT]
    unfold ruleT at hT
    rw [if_pos o] at hT
    split at hT
    · cases hT
    · rename_i c1
      rw [if_neg c1]
      split at hT
      · cases hT
      · rename_i c2
        rw [if_neg c2]
        split at hT
        · cases hT
        · rename_i c3
          rw [if_neg c3]; rfl
  | some u =>
    have : (some u <|> (ruleL ds t <|> ruleW ds t <|> ruleS t <|> ruleF t)) = some u := rfl
    rw [this]
    unfold ruleT at hT
    rw [if_pos o] at hT
    split at hT
    · rename_i c1
      rw [if_pos c1]; exact Option.some.inj hT
    · rename_i c1
      rw [if_neg c1]
      split at hT
      · rename_i c2
        rw [if_pos c2]; exact Option.some.inj hT
      · rename_i c2
        rw [if_neg c2]
        split at hT
        · rename_i c3
          rw [if_pos c3]; exact Option.some.inj hT
        · cases hT
theorem right_eq (l2 : t.ks.length = 2) : (ruleS t = none ∧ rightS t = t) ∨ (ruleS t = some (rightS t) ∧ rightS t ≠ t) := by
  have k0 := kid_ne (t := t) (i := 0) (by omega)
  have k1 := kid_ne (t := t) (i := 1) (by omega)
  unfold ruleS rightS
  rw [if_pos l2]
  by_cases o4 : t.op = 4 ∨ t.op = 5 ∨ t.op = 6 ∨ t.op = 7 ∨ t.op = 11 ∨ t.op = 12 ∨ t.op = 13
  · have n1 : ¬ (isM (kid t 1) 0 = true ∧ (t.op = 3 ∨ t.op = 8)) := fun x => by omega
    have n2 : ¬ (isM (kid t 1) 1 = true ∧ t.op = 8) := fun x => by omega
    rw [if_neg n1, if_neg n2, if_pos o4]
    by_cases i0 : isM (kid t 1) 0 = true
    · rw [if_pos ⟨i0, o4⟩, if_pos i0]; exact .inr ⟨rfl, k0⟩
    · rw [if_neg (fun x => i0 x.1), if_neg i0]; exact .inl ⟨rfl, rfl⟩
  · rw [if_neg (show ¬ (isM (kid t 1) 0 = true ∧ _) from fun x => o4 x.2), if_neg o4]
    by_cases o3 : t.op = 3
    · have n2 : ¬ (isM (kid t 1) 1 = true ∧ t.op = 8) := fun x => by omega
      rw [if_neg n2, if_pos o3]
      by_cases i0 : isM (kid t 1) 0 = true
      · rw [if_pos ⟨i0, .inl o3⟩, if_pos i0]; exact .inr ⟨rfl, k1⟩
      · rw [if_neg (fun x => i0 x.1), if_neg i0]; exact .inl ⟨rfl, rfl⟩
    · rw [if_neg o3]
      by_cases o8 : t.op = 8
      · rw [if_pos o8]
        by_cases i0 : isM (kid t 1) 0 = true
        · rw [if_pos ⟨i0, .inr o8⟩, if_pos i0]; exact .inr ⟨rfl, k1⟩
        · rw [if_neg (show ¬ (isM (kid t 1) 0 = true ∧ _) from fun x => i0 x.1), if_neg i0]
          by_cases i1 : isM (kid t 1) 1 = true
          · rw [if_pos ⟨i1, o8⟩, if_pos i1]; exact .inr ⟨rfl, k0⟩
          · rw [if_neg (fun x => i1 x.1), if_neg i1]; exact .inl ⟨rfl, rfl⟩
      · have n1 : ¬ (isM (kid t 1) 0 = true ∧ (t.op = 3 ∨ t.op = 8)) := fun x => by omega
        rw [if_neg n1, if_neg (fun x => o8 x.2), if_neg o8]; exact .inl ⟨rfl, rfl⟩
theorem other_kid {i : Nat} (hi : i = 0 ∨ i = 1) (l2 : t.ks.length = 2) : otherS t (kid t i) := by
  by_cases h : (kid t i).ks.length = 2
  · rcases hi with rfl | rfl
    · exact .inr (.inr (.inl (fun e => kid_ne (t := kid t 0) (i := 1) (by omega) e)))
    · exact .inr (.inl (fun e => kid_ne (t := kid t 1) (i := 0) (by omega) e))
  · exact .inl h
theorem left_eq (l2 : t.ks.length = 2) : ruleF t = if (t.op = 3 ∨ t.op = 4 ∨ t.op = 5 ∨ t.op = 6 ∨ t.op = 8) ∧ otherS t (rightS (swapS t)) then some (rightS (swapS t)) else none := by
  have sw : ∀ i, kid (swapS t) i = [kid t 1, kid t 0].getD i default := fun i => rfl
  have s0 : kid (swapS t) 0 = kid t 1 := rfl
  have s1 : kid (swapS t) 1 = kid t 0 := rfl
  have so : (swapS t).op = t.op := rfl
  have self : ¬ otherS t (swapS t) := fun h => by
    rcases h with h | h | h | h
    · exact h rfl
    · exact h rfl
    · exact h rfl
    · exact h rfl
  have k0 := other_kid (t := t) (i := 0) (.inl rfl) l2
  have k1 := other_kid (t := t) (i := 1) (.inr rfl) l2
  unfold ruleF
  rw [if_pos l2]
  by_cases o4 : t.op = 4 ∨ t.op = 5 ∨ t.op = 6
  · have o : t.op = 3 ∨ t.op = 4 ∨ t.op = 5 ∨ t.op = 6 ∨ t.op = 8 := by omega
    have n1 : ¬ (isM (kid t 0) 0 = true ∧ (t.op = 3 ∨ t.op = 8)) := fun x => by omega
    have n2 : ¬ (isM (kid t 0) 1 = true ∧ t.op = 8) := fun x => by omega
    have r : rightS (swapS t) = if isM (kid t 0) 0 = true then kid t 1 else swapS t := by
      unfold rightS
      rw [s0, s1, so, if_pos (show t.op = 4 ∨ t.op = 5 ∨ t.op = 6 ∨ t.op = 7 ∨ t.op = 11 ∨ t.op = 12 ∨ t.op = 13 by omega)]
    rw [if_neg n1, if_neg n2, r]
    by_cases i0 : isM (kid t 0) 0 = true
    · rw [if_pos i0, if_pos ⟨i0, o4⟩, if_pos ⟨o, k1⟩]
    · rw [if_neg i0, if_neg (fun x => i0 x.1), if_neg (fun x => self x.2)]
  · rw [if_neg (show ¬ (isM (kid t 0) 0 = true ∧ _) from fun x => o4 x.2)]
    by_cases o3 : t.op = 3
    · have o : t.op = 3 ∨ t.op = 4 ∨ t.op = 5 ∨ t.op = 6 ∨ t.op = 8 := by omega
      have n2 : ¬ (isM (kid t 0) 1 = true ∧ t.op = 8) := fun x => by omega
      have r : rightS (swapS t) = if isM (kid t 0) 0 = true then kid t 0 else swapS t := by
        unfold rightS
        rw [s0, s1, so, if_neg (show ¬ (t.op = 4 ∨ t.op = 5 ∨ t.op = 6 ∨ t.op = 7 ∨ t.op = 11 ∨ t.op = 12 ∨ t.op = 13) by omega), if_pos o3]
      rw [if_neg n2, r]
      by_cases i0 : isM (kid t 0) 0 = true
      · rw [if_pos i0, if_pos ⟨i0, .inl o3⟩, if_pos ⟨o, k0⟩]
      · rw [if_neg i0, if_neg (fun x => i0 x.1), if_neg (fun x => self x.2)]
    · by_cases o8 : t.op = 8
      · have o : t.op = 3 ∨ t.op = 4 ∨ t.op = 5 ∨ t.op = 6 ∨ t.op = 8 := by omega
        have r : rightS (swapS t) = if isM (kid t 0) 0 = true then kid t 0 else if isM (kid t 0) 1 = true then kid t 1 else swapS t := by
          unfold rightS
          rw [s0, s1, so, if_neg (show ¬ (t.op = 4 ∨ t.op = 5 ∨ t.op = 6 ∨ t.op = 7 ∨ t.op = 11 ∨ t.op = 12 ∨ t.op = 13) by omega), if_neg o3, if_pos o8]
        rw [r]
        by_cases i0 : isM (kid t 0) 0 = true
        · rw [if_pos i0, if_pos ⟨i0, .inr o8⟩, if_pos ⟨o, k0⟩]
        · rw [if_neg i0, if_neg (show ¬ (isM (kid t 0) 0 = true ∧ _) from fun x => i0 x.1)]
          by_cases i1 : isM (kid t 0) 1 = true
          · rw [if_pos i1, if_pos ⟨i1, o8⟩, if_pos ⟨o, k1⟩]
          · rw [if_neg i1, if_neg (fun x => i1 x.1), if_neg (fun x => self x.2)]
      · have n1 : ¬ (isM (kid t 0) 0 = true ∧ (t.op = 3 ∨ t.op = 8)) := fun x => by omega
        rw [if_neg n1, if_neg (fun x => o8 x.2), if_neg (fun x => by omega)]
theorem two_eq (hd : declOk ds = true) (hs : sortM ds t ≠ -1) (ha : ¬ allFixed t = true) (l2 : t.ks.length = 2) (h22 : t.op < 22) : twoS t (sortM ds (kid t 0)) = oneT ds t := by
  have hl := len_of hs
  have ho := arity_two (o := t.op) (by omega)
  have o3 : 3 ≤ t.op ∧ t.op ≤ 17 := by omega
  have ne : ∀ {u : Tm}, u.op = 20 ∨ u.op = 24 ∨ u.op = 25 → u ≠ t := fun {u} h e => by rw [e] at h; omega
  have hW : (ruleW ds t = none ∧ ¬ (kid t 0 = kid t 1 ∧ alikeS t (sortM ds (kid t 0)) ≠ t)) ∨ (ruleW ds t = some (alikeS t (sortM ds (kid t 0))) ∧ kid t 0 = kid t 1 ∧ alikeS t (sortM ds (kid t 0)) ≠ t) := by
    by_cases hk : kid t 0 = kid t 1
    · unfold ruleW alikeS
      rw [if_pos ⟨l2, hk⟩]
      by_cases c1 : t.op = 3 ∨ t.op = 4
      · rw [if_pos c1, if_pos c1]; exact .inr ⟨rfl, hk, kid_ne (by omega)⟩
      rw [if_neg c1, if_neg c1]
      by_cases c2 : t.op = 5 ∨ t.op = 7
      · obtain ⟨s0, _, ev⟩ := bin_parts hd hs l2 (by omega) (by omega)
        have hv := vok_lt (ev _ (zeroE_ok hd)).1
        rw [if_pos c2, if_pos c2, s0]
        refine .inr ⟨?_, hk, ne (.inl rfl)⟩
        unfold constM
        rw [if_pos (by omega)]
      rw [if_neg c2, if_neg c2]
      by_cases c3 : t.op = 15
      · rw [if_pos c3, if_pos c3]; exact .inr ⟨rfl, hk, ne (.inr (.inl rfl))⟩
      rw [if_neg c3, if_neg c3]
      by_cases c4 : t.op = 16 ∨ t.op = 17
      · rw [if_pos c4, if_pos c4]; exact .inr ⟨rfl, hk, ne (.inr (.inr rfl))⟩
      rw [if_neg c4, if_neg c4]
      exact .inl ⟨rfl, fun x => x.2 rfl⟩
    · exact .inl ⟨by unfold ruleW; rw [if_neg (fun x => hk x.2)], fun x => hk x.1⟩
  unfold oneT ruleA
  rw [X_none ha, B_none (by omega) (by omega), T_none (by omega), L_none (by omega) (by omega)]
  simp only [none_or]
  unfold twoS
  rcases hW with ⟨w1, w2⟩ | ⟨w1, w2⟩
  · rw [if_neg w2, w1, none_or]
    rcases right_eq (t := t) l2 with ⟨s1, s2⟩ | ⟨s1, s2⟩
    · rw [if_neg (fun x => x s2), s1, none_or, left_eq l2]
      by_cases c : (t.op = 3 ∨ t.op = 4 ∨ t.op = 5 ∨ t.op = 6 ∨ t.op = 8) ∧ otherS t (rightS (swapS t))
      · rw [if_pos c, if_pos c]; rfl
      · rw [if_neg c, if_neg c]; rfl
    · rw [if_pos s2, s1]; rfl
  · rw [if_pos w2, w1]; rfl
theorem oneS_eq (hd : declOk ds = true) (hs : sortM ds t ≠ -1) : oneS ds t = oneT ds t := by
  have hl := len_of hs
  unfold oneS
  by_cases ha : allFixed t = true
  · have hin := eval_in (zeroE_ok hd) t hs
    have h1 : oneT ds t = constM (sortM ds t) (evalM ds (zeroE ds) t) := by
      unfold oneT ruleA ruleX
      rw [if_pos ha]; rfl
    rw [if_pos ha, h1]
    unfold constM boolM
    rcases hin with h | h
    · rw [if_pos h.1, if_neg (show ¬ 0 < sortM ds t by omega)]
      by_cases e : evalM ds (zeroE ds) t = 1
      · rw [if_pos e, decide_eq_true e, if_pos rfl]
      · rw [if_neg e, decide_eq_false e, if_neg (by decide)]
    · have := vok_lt h
      rw [if_neg (by omega), if_pos (by omega)]
  rw [if_neg ha]
  by_cases hks : t.ks = []
  · rw [if_pos hks, leaf_one hks (arity_zero (o := t.op) (by rw [hl, hks]; rfl))]
  rw [if_neg hks]
  have hlp : 0 < t.ks.length := List.length_pos_iff.2 hks
  by_cases h23 : 23 ≤ t.op
  · rw [if_pos h23]; exact logic_eq hs ha h23 hks
  rw [if_neg h23]
  by_cases h22 : t.op = 22
  · have l1 : t.ks.length = 1 := by rw [h22] at hl; simp [arity] at hl; omega
    have s0 := sort_one hd (sort_parts hs).1 l1
    have hs' := hs
    rw [s0] at hs'
    have g := one_good (by omega) hs'
    have g3 := g.2.2 h22
    have st : sortM ds t = t.a - t.b + 1 := by
      rw [s0]; unfold oneM
      rw [if_neg (by omega), if_neg (by have := g.2.1 (by omega); omega), if_pos h22, if_pos g3]
    rw [if_pos h22]
    unfold oneT ruleA
    rw [X_none ha, B_none (by omega) (by omega), T_none (by omega), W_none (by omega), S_none (by omega), F_none (by omega)]
    simp only [none_or, or_none]
    unfold ruleL
    rw [if_pos h22]
    by_cases c : sortM ds t = sortM ds (kid t 0)
    · rw [if_pos c, if_pos (by omega)]; rfl
    · rw [if_neg c, if_neg (by omega)]; rfl
  rw [if_neg h22]
  have hops := arity_ops (o := t.op) (by omega)
  by_cases l1 : t.ks.length = 1
  · have ho := arity_one (o := t.op) (by omega)
    rw [if_pos l1]
    unfold oneT ruleA
    rw [X_none ha, B_none (by omega) (by omega), T_none (by omega), W_none (by omega), S_none (by omega), F_none (by omega)]
    simp only [none_or, or_none]
    unfold ruleL
    rw [if_neg h22]
    by_cases c : (kid t 0).op = t.op
    · rw [if_pos c, if_pos ⟨by omega, c⟩]; rfl
    · rw [if_neg c, if_neg (fun x => c x.2)]; rfl
  rw [if_neg l1]
  have l2 : t.ks.length = 2 := by
    unfold arity at hl
    repeat' split at hl
    all_goals omega
  exact two_eq hd hs ha l2 (by omega)
end
end Go.M
end
section
namespace Go.Proofs.YtcfgmgjofmbfhaaGreatDoor
open Go Go.Vc Go.Proofs
variable {w : World} {K : Value → World → Prop} {F F' D G : Nat → Prop}
def Qb (G : Nat → Prop) (n b4 : Nat) (x : Nat) : Prop := (G x ∧ x < n) ∨ b4 < x
structure RT (G : Nat → Prop) (w0 w : World) (b3 b4 : Nat) (kv : Value) (t : M.Tm) : Prop where
  ext : Ext w0 w
  q : Blk w b3 [.int .i64 t.op, .int .i64 t.a, .int .i64 t.b, .string t.s, kv] T_impl_Term
  r : Blk w b4 zeroT T_impl_Term
  k : TmsR (fun x => G x ∧ x < w0.heap.size) w kv t.ks
  lo : w0.heap.size ≤ b4
section
variable {w0 w' : World} {b3 b4 : Nat} {kv : Value} {t : M.Tm}
theorem rt_ext (h : RT G w0 w b3 b4 kv t) (he : Ext w w') : RT G w0 w' b3 b4 kv t := ⟨h.ext.trans he, h.q.ext he, h.r.ext he, h.k.ext he, h.lo⟩
theorem rt_enter {tv : Value} {B : Value → Value → World → Prop} (ht : TermR G w tv t) (hK : ∀ w' b3 b4 kv, RT G w w' b3 b4 kv t → B (ptr b3) (ptr b4) w') :
    vbox PP T_impl_Term tv w fun t3 w_2 => valloc PP T_impl_Term w_2 fun t4 w_3 => B t3 t4 w_3 := by
  obtain ⟨kv, rfl, hks⟩ := ht
  refine vbox_agg fun b2 w2 hb2 he2 hs2 h2 => ?_
  refine valloc_agg zr_impl_Term fun b3 w3 hb3 he3 hs3 h3 => ?_
  have hE := he2.trans he3
  exact hK _ _ _ kv ⟨hE, h2.ext he3, h3, (hks.weaken fun b h h' => ⟨h, h'⟩).ext hE, by omega⟩
abbrev OutK (K : Value → World → Prop) (w : World) (G : Nat → Prop) (u : M.Tm) : Prop := ∀ w' rv, Ext w w' → TermR (fun x => G x ∨ w.heap.size ≤ x) w' rv u → K rv w'
theorem rt_give (h : RT G w0 w b3 b4 kv t) {rv : Value} {u : M.Tm} (hu : TermR (Qb G w0.heap.size b4) w rv u) (hK : OutK K w0 G u) :
    vstore PP T_impl_Term (ptr b4) rv w fun _ w1 => vlv PP T_impl_Term (ptr b4) w1 fun r w2 => K r w2 := by
  obtain ⟨cs, rfl, hcs⟩ := hu.cells
  have hlo := h.lo
  refine retTerm h.r rfl hcs (fun x hx => by rcases hx with h | h <;> omega) fun w3 hw3 hz3 ht3 => ?_
  exact hK _ _ (Ext.then h.ext hw3 fun y hy => by subst hy; exact h.lo) (ht3.weaken fun x hx _ => by
    rcases hx with h | h
    · exact .inl h.1
    · exact .inr (by omega))
theorem rt_kid {n : Nat} {rv : Value} {u : M.Tm} (hu : TermR (fun x => G x ∧ x < n) w' rv u) : TermR (Qb G n b4) w' rv u := hu.weaken fun x hx _ => .inl hx
theorem rt_new (h : RT G w0 w b3 b4 kv t) {rv : Value} {u : M.Tm} (hu : TermR (fun x => w.heap.size ≤ x) w' rv u) : TermR (Qb G w0.heap.size b4) w' rv u := hu.weaken fun x hx _ => .inr (by have := h.r.lt; omega)
theorem rt_self (h : RT G w0 w b3 b4 kv t) : TermR (fun x => G x ∧ x < w0.heap.size) w (.agg ⟨[.int .i64 t.op, .int .i64 t.a, .int .i64 t.b, .string t.s, kv]⟩) t := ⟨kv, rfl, h.k⟩
end
theorem spec_TermSame_spec : ∀ (t : M.Tm) {w : World} {K : Value → World → Prop} {F G : Nat → Prop} {va vb : Value} {u : M.Tm}, TermR F w va t → TermR G w vb u → (∀ w', Ext w w' → K (.bool (decide (t = u))) w') → vcall PP n_spec_TermSame #[va, vb] w K := by
  refine M.Tm.ind fun t ih w K F G va vb u ha hb hK => ?_
  apply c_spec_TermSame; unfold F_spec_TermSame
  obtain ⟨kva, rfl, hka⟩ := ha
  obtain ⟨kvb, rfl, hkb⟩ := hb
  refine vbox_agg fun b1 w1 hb1 he1 hs1 h1 => ?_
  refine vbox_agg fun b2 w2 hb2 he2 hs2 h2 => ?_
  have q1 := h1.ext he2
  have hE := he1.trans he2
  have no : ∀ w', Ext w w' → t ≠ u → K (.bool false) w' := fun w' h hn => by
    have := hK w' h
    rwa [decide_eq_false hn] at this
  refine vjoin_of (fun x w' => x = [] ∧ w' = w2 ∧ t.op = u.op ∧ t.a = u.a ∧ t.b = u.b ∧ t.s = u.s ∧ t.ks.length = u.ks.length) (fun C hC => ?_) ?_
  · simp (disch := (simp only [push_cast]; done)) only [push_cast, q1.ld0, h2.ld0, q1.ld1, h2.ld1, q1.ld2, h2.ld2, q1.ld3, h2.ld3, q1.ld4, h2.ld4, (hka.ext hE).len, (hkb.ext hE).len]
    refine vif_dec (fun e => no _ hE fun h => e (by rw [h])) (fun e1 => ?_)
    refine vif_dec (fun e => no _ hE fun h => e (by rw [h])) (fun e2 => ?_)
    refine vif_dec (fun e => no _ hE fun h => e (by rw [h])) (fun e3 => ?_)
    refine vif_dec (fun e => no _ hE fun h => e (by rw [h])) (fun e4 => ?_)
    refine vif_dec (fun e => no _ hE fun h => e (by rw [h])) (fun e5 => ?_)
    exact hC _ _ ⟨rfl, rfl, by omega, by omega, by omega, by simpa using e4, by omega⟩
  rintro x g w2' ⟨rfl, rfl, e1, e2, e3, e4, el⟩
  have hsm := hka.small
  refine vloop_up t.ks.length (fun i x w' => x = [.int .i64 i] ∧ Ext w2' w' ∧ ∀ j, j < i → t.ks.getD j default = u.ks.getD j default) ⟨rfl, Same.refl _ _, fun j hj => absurd hj (by omega)⟩ ?_
  rintro i _ _ w3 C hi ⟨rfl, he3, hall⟩ hC
  have hE3 := hE.trans he3
  have ha3 := hka.ext hE3
  have p3 := q1.ext he3
  simp (disch := first | (simp only [push_cast]; done) | omega) only [push_cast, p3.ld4, ha3.len]
  refine vif_dec (fun a => ?_) (fun a => ?_)
  · refine vdraw_ext fun w4 he4 _ => ?_
    have hE4 := hE3.trans he4
    have p4 := p3.ext he4
    have r4 := h2.ext (he3.trans he4)
    obtain ⟨ca, sa, la, ka⟩ := hka.ext hE4
    obtain ⟨cb, sb, lb, kb⟩ := hkb.ext hE4
    simp (disch := first | (simp only [push_cast]; done) | omega) only [push_cast, p4.ld4, r4.ld4, sa.iaddr, sa.ldAgg, sb.iaddr, sb.ldAgg, true_and]
    refine ih _ (M.getD_mem (by omega) _) (ka i (by omega)).term (kb i (by omega)).term fun w8 he8 => ?_
    simp only [push_cast, true_and]
    refine vif_bool (fun b => ?_) (fun b => ?_)
    · rw [Bool.not_eq_true', decide_eq_false_iff_not] at b
      exact no _ (hE4.trans he8) fun h => b (by rw [h])
    · rw [Bool.not_eq_false', decide_eq_true_eq] at b
      rw [inc64' (by omega)]
      refine hC (by omega) _ _ ⟨rfl, he3.trans (he4.trans he8), fun j hj => ?_⟩
      by_cases e : j < i
      · exact hall j e
      · have : j = i := by omega
        subst this; exact b
  · have : t = u := M.tm_ext e1 e2 e3 e4 (List.ext_getElem el fun j h1 h2 => by
      have := hall j (by omega)
      rwa [List.getD_eq_getElem?_getD, List.getElem?_eq_getElem h1, List.getD_eq_getElem?_getD, List.getElem?_eq_getElem h2] at this)
    have := hK w3 hE3
    rwa [decide_eq_true ‹t = u›] at this
theorem l3False_spec (hK : ∀ w' v, Ext w w' → TermR (fun b => w.heap.size ≤ b) w' v M.flsT → K v w') : vcall PP n_spec_l3False #[] w K := by
  apply c_spec_l3False; unfold F_spec_l3False
  refine valloc_agg zr_impl_Term fun b1 w1 hb1 he1 hs1 h1 => ?_
  simp only [push_cast]
  refine kids1 (node_leaf (o := 24) (F := fun _ => False)) fun w2 a he2 hs2 k2 => ?_
  simp only [push_cast]
  have hn : TmR (fun b => b ≠ b1 ∧ w.heap.size ≤ b) w2 _ M.flsT := (TmR.of (t := M.flsT) k2).weaken fun z hz _ => by
    rcases hz with h | h
    · exact h.elim
    · exact ⟨by omega, by omega⟩
  refine retTerm (h1.ext he2) rfl hn (fun x hx => hx.1) fun w3 hw3 hz3 ht3 => ?_
  exact hK _ _ (Ext.then (he1.trans he2) hw3 fun y hy => by subst hy; omega) (ht3.weaken fun b hb _ => hb.2)
theorem l3Bool_spec {b : Bool} (hK : ∀ w' v, Ext w w' → TermR (fun b => w.heap.size ≤ b) w' v (M.boolM b) → K v w') : vcall PP n_spec_l3Bool #[.bool b] w K := by
  apply c_spec_l3Bool; unfold F_spec_l3Bool
  refine valloc_agg zr_impl_Term fun b1 w1 hb1 he1 hs1 h1 => ?_
  refine vif_bool (fun a => ?_) (fun a => ?_)
  · subst a
    simp only [push_cast]
    refine retTerm h1 rfl (leafR 24 0 0 _ : TmR (fun _ => False) w1 _ _) (fun x hx => hx.elim) fun w3 hw3 hz3 ht3 => ?_
    exact hK _ _ (Ext.then he1 hw3 fun y hy => by subst hy; omega) (ht3.weaken fun b hb _ => hb.elim)
  · subst a
    refine l3False_spec fun w2 v he2 ht2 => ?_
    obtain ⟨cs, rfl, hcs⟩ := ht2.cells
    refine retTerm (h1.ext he2) rfl hcs (fun x hx => by omega) fun w3 hw3 hz3 ht3 => ?_
    exact hK _ _ (Ext.then (he1.trans he2) hw3 fun y hy => by subst hy; omega) (ht3.weaken fun b hb _ => by have := he1.size; omega)
@[push_cast] theorem bd_T2 (o a : Int) : vbuild PP T_impl_Term [(0, .int .i64 o), (1, .int .i64 a)] w K = K (.agg ⟨[.int .i64 o, .int .i64 a, .int .i64 0, .string ⟨#[]⟩, .slice none 0 0]⟩) w := vbuild_eq b_impl_Term (us := [[.int .i64 o], [.int .i64 a]]) rfl rfl
theorem l3Zero_spec {s : Int} (hK : ∀ w' v, Ext w w' → TermR (fun b => w.heap.size ≤ b) w' v (.mk 20 s 0 M.nada []) → K v w') : vcall PP n_spec_l3Zero #[.int .i64 s] w K := by
  apply c_spec_l3Zero; unfold F_spec_l3Zero
  refine valloc_agg zr_impl_Term fun b1 w1 hb1 he1 hs1 h1 => ?_
  simp only [push_cast]
  refine retTerm h1 rfl (leafR 20 s 0 _ : TmR (fun _ => False) w1 _ _) (fun x hx => hx.elim) fun w3 hw3 hz3 ht3 => ?_
  exact hK _ _ (Ext.then he1 hw3 fun y hy => by subst hy; omega) (ht3.weaken fun b hb _ => hb.elim)
theorem spec_TermFixed_spec {v : Value} {t : M.Tm} (ht : TermR F w v t) (hK : ∀ w', Ext w w' → K (.tuple #[.int .i64 ((M.fixedM t).getD 0), .bool (M.fixedM t).isSome]) w') : vcall PP n_spec_TermFixed #[v] w K := by
  apply c_spec_TermFixed; unfold F_spec_TermFixed
  have ht' := ht
  obtain ⟨kv, rfl, hks⟩ := ht
  refine vbox_agg fun b1 w1 hb1 he1 hs1 h1 => ?_
  have out : ∀ w' o, Ext w w' → M.fixedM t = o → K (.tuple #[.int .i64 (o.getD 0), .bool o.isSome]) w' := fun w' o h e => by rw [← e]; exact hK w' h
  rw [h1.ldAgg (t := T_impl_Term) g_impl_Term]
  simp only [push_cast]
  refine spec_TermSame_spec t (ht'.ext he1) (node_leaf (o := 24) (F := fun _ => False)) fun w3 he3 => ?_
  have hE3 := he1.trans he3
  refine vif_dec (fun d => ?_) (fun d => ?_)
  · exact out w3 (some 1) hE3 (if_pos d)
  have d' : ¬ t = M.truT := d
  refine vdraw_ext fun w4 he4 _ => ?_
  have hE4 := hE3.trans he4
  have q4 := h1.ext (he3.trans he4)
  simp (disch := (simp only [push_cast]; done)) only [push_cast, q4.ldAgg (t := T_impl_Term) g_impl_Term, true_and]
  refine l3False_spec fun w5 fv he5 hf5 => ?_
  have q5 := q4.ext he5
  simp (disch := (simp only [push_cast]; done)) only [push_cast, q5.ldAgg (t := T_impl_Term) g_impl_Term, true_and, and_self]
  refine spec_TermSame_spec t (ht'.ext (hE4.trans he5)) hf5 fun w6 he6 => ?_
  have hE6 := hE4.trans (he5.trans he6)
  have q6 := q5.ext he6
  refine vif_dec (fun f => ?_) (fun f => ?_)
  · refine out w6 (some 0) hE6 ?_
    unfold M.fixedM
    rw [if_neg d', if_pos f]
  have f' : ¬ t = M.flsT := f
  have no : ∀ w', Ext w w' → ¬ (t.op = 20 ∧ t.ks = [] ∧ t.s = M.nada ∧ M.vok t.a t.b = true) → K (.tuple #[.int .i64 0, .bool false]) w' := fun w' h hn => out w' none h (by unfold M.fixedM; rw [if_neg d', if_neg f', if_neg hn])
  simp (disch := (simp only [push_cast]; done)) only [push_cast, q6.ld0]
  refine vif_dec (fun c1 => ?_) (fun c1 => no _ hE6 fun h => c1 h.1)
  simp (disch := (simp only [push_cast]; done)) only [push_cast, q6.ld4, (hks.ext hE6).len]
  refine vif_dec (fun c2 => ?_) (fun c2 => no _ hE6 fun h => c2 (nil_len.2 h.2.1))
  try simp (disch := (simp only [push_cast]; done)) only [push_cast, q6.ld3]
  refine vif_dec (fun c3 => ?_) (fun c3 => no _ hE6 fun h => c3 h.2.2.1)
  try simp (disch := (simp only [push_cast]; done)) only [push_cast, q6.ld1, q6.ld2]
  refine spec_VecOk_spec fun w7 he7 => ?_
  have q7 := q6.ext he7
  refine vif_bool (fun c4 => ?_) (fun c4 => no _ (hE6.trans he7) fun h => by rw [h.2.2.2] at c4; cases c4)
  simp (disch := (simp only [push_cast]; done)) only [push_cast, q7.ld2]
  refine out w7 (some t.b) (hE6.trans he7) ?_
  rw [fixed_vec c1, if_pos ⟨nil_len.1 c2, c3, c4⟩]
theorem l3Is_spec {v : Value} {t : M.Tm} {n : Int} (ht : TermR F w v t) (hK : ∀ w', Ext w w' → K (.bool (M.isM t n)) w') : vcall PP n_spec_l3Is #[v, .int .i64 n] w K := by
  apply c_spec_l3Is; unfold F_spec_l3Is
  obtain ⟨cs, rfl, hcs⟩ := ht.cells
  refine vbox_agg fun b1 w1 hb1 he1 hs1 h1 => ?_
  rw [h1.ldAgg (t := T_impl_Term) (by rw [tmR_len hcs]; exact g_impl_Term)]
  refine spec_TermFixed_spec (hcs.ext he1).term fun w2 he2 => ?_
  have := hK w2 (he1.trans he2)
  unfold M.isM at this
  simp only [push_cast]
  cases e : M.fixedM t with
  | none => rw [e] at this; exact this
  | some m =>
    rw [e] at this
    simp only [Option.some.injEq] at this
    exact this
theorem l3All_spec {v : Value} {t : M.Tm} (ht : TermR F w v t) (hK : ∀ w', Ext w w' → K (.bool (M.allFixed t)) w') : vcall PP n_spec_l3All #[v] w K := by
  apply c_spec_l3All; unfold F_spec_l3All
  obtain ⟨kv, rfl, hks⟩ := ht
  refine vbox_agg fun b1 w1 hb1 he1 hs1 h1 => ?_
  have hsm := hks.small
  refine vloop_up t.ks.length (fun i u w' => u = [.int .i64 i] ∧ Ext w1 w' ∧ ∀ j, j < i → (M.fixedM (t.ks.getD j default)).isSome = true) ⟨rfl, Same.refl _ _, fun j hj => absurd hj (by omega)⟩ ?_
  rintro i _ _ w3 C hi ⟨rfl, he3, hall⟩ hC
  have hE3 := he1.trans he3
  have q3 := h1.ext he3
  have hk3 := hks.ext hE3
  simp (disch := (simp only [push_cast]; done)) only [push_cast, q3.ld4, hk3.len]
  refine vif_dec (fun b => ?_) (fun b => ?_)
  · simp (disch := first | (simp only [push_cast]; done) | omega) only [push_cast, hk3.iaddr]
    refine hk3.load g_impl_Term (by omega) fun x hx => ?_
    refine spec_TermFixed_spec hx fun w6 he6 => ?_
    simp only [push_cast]
    refine vif_bool (fun c => ?_) (fun c => ?_)
    · rw [Bool.not_eq_true'] at c
      have : M.allFixed t = false := by
        unfold M.allFixed
        rw [Bool.and_eq_false_iff]
        right
        rw [List.all_eq_false]
        exact ⟨_, M.getD_mem (l := t.ks) (i := i) (by omega) default, by rw [c]; decide⟩
      have h := hK w6 (hE3.trans he6)
      rwa [this] at h
    · rw [Bool.not_eq_false'] at c
      rw [inc64' (by omega)]
      refine hC (by omega) _ _ ⟨rfl, he3.trans he6, fun j hj => ?_⟩
      by_cases e : j < i
      · exact hall j e
      · have : j = i := by omega
        subst this; exact c
  · try simp (disch := (simp only [push_cast]; done)) only [push_cast, q3.ld4, hk3.len]
    have : M.allFixed t = decide (0 < (t.ks.length : Int)) := by
      unfold M.allFixed
      have ha : (t.ks.all fun k => (M.fixedM k).isSome) = true := by
        rw [List.all_eq_true]
        intro k hk
        obtain ⟨j, hj, rfl⟩ := List.getElem_of_mem hk
        have := hall j (by omega)
        rwa [List.getD_eq_getElem?_getD, List.getElem?_eq_getElem hj] at this
      rw [ha, Bool.and_true]
      have e : (t.ks ≠ []) ↔ 0 < (t.ks.length : Int) := by rw [← List.length_pos_iff]; omega
      exact decide_eq_decide.2 e
    have h := hK w3 hE3
    rwa [this] at h
theorem l3Right_spec {v : Value} {t : M.Tm} (ht : TermR G w v t) (h2 : t.ks.length = 2) (hK : OutK K w G (M.rightS t)) : vcall PP n_spec_l3Right #[v] w K := by
  apply c_spec_l3Right; unfold F_spec_l3Right
  refine rt_enter (B := fun t3 t4 w_3 => _) ht fun w1 b3 b4 kv rs => ?_
  simp (disch := first | (simp only [push_cast]; done) | omega) only [push_cast, rs.q.ld4, rs.k.iaddr]
  refine rs.k.load g_impl_Term (by omega) fun x hx => ?_
  obtain ⟨c, rfl, hc⟩ := hx.cells
  refine valloc_agg zr_impl_Term fun b5 w2 hb5 he2 hs2 h5 => ?_
  refine stTerm h5 rfl (hc.ext he2) fun w3 hw3 hz3 h5' => ?_
  have e13 : Ext w1 w3 := Ext.then he2 hw3 fun y hy => by subst hy; omega
  have r3 := rt_ext rs e13
  simp (disch := first | (simp only [push_cast]; done) | omega) only [push_cast, r3.q.ld4, r3.k.iaddr]
  refine r3.k.load g_impl_Term (by omega) fun y hy => ?_
  obtain ⟨c', rfl, hc'⟩ := hy.cells
  refine valloc_agg zr_impl_Term fun b6 w4 hb6 he4 hs4 h6 => ?_
  refine stTerm h6 rfl (hc'.ext he4) fun w5 hw5 hz5 h6' => ?_
  have e35 : Ext w3 w5 := Ext.then he4 hw5 fun y hy => by subst hy; omega
  have r5 := rt_ext r3 e35
  have A5 := h5'.ext e35
  have gc : aggB PP T_impl_Term c.length = true := by rw [tmR_len hc]; exact g_impl_Term
  have gc' : aggB PP T_impl_Term c'.length = true := by rw [tmR_len hc']; exact g_impl_Term
  have hc5 : TmR (fun x => G x ∧ x < w.heap.size) w5 c (M.kid t 0) := hc.ext (e13.trans e35)
  have hc5' : TmR (fun x => G x ∧ x < w.heap.size) w5 c' (M.kid t 1) := hc'.ext e35
  simp (disch := (simp only [push_cast]; done)) only [push_cast, r5.q.ld0]
  refine vjoin_of (fun u w' => ∃ b : Bool, u = [.bool b] ∧ w' = w5 ∧ (b = true ↔ t.op = 4 ∨ t.op = 5 ∨ t.op = 6 ∨ t.op = 7 ∨ t.op = 11 ∨ t.op = 12 ∨ t.op = 13)) (fun D hD => ?_) ?_
  · try simp only [push_cast]
    refine vif_dec (fun c => hD _ _ ⟨_, rfl, rfl, ⟨fun _ => by omega, fun _ => by rw [decide_eq_true_eq]; exact c⟩⟩) (fun c1 => ?_)
    refine vif_dec (fun c => hD _ _ ⟨_, rfl, rfl, ⟨fun _ => by omega, fun _ => by rw [decide_eq_true_eq]; exact c⟩⟩) (fun c2 => ?_)
    refine vif_dec (fun c => hD _ _ ⟨_, rfl, rfl, ⟨fun _ => by omega, fun _ => by rw [decide_eq_true_eq]; exact c⟩⟩) (fun c3 => ?_)
    refine vif_dec (fun c => hD _ _ ⟨_, rfl, rfl, ⟨fun _ => by omega, fun _ => by rw [decide_eq_true_eq]; exact c⟩⟩) (fun c4 => ?_)
    refine vif_dec (fun c => hD _ _ ⟨_, rfl, rfl, ⟨fun _ => by omega, fun _ => by rw [decide_eq_true_eq]; exact c⟩⟩) (fun c5 => ?_)
    refine vif_dec (fun c => hD _ _ ⟨_, rfl, rfl, ⟨fun _ => by omega, fun _ => by rw [decide_eq_true_eq]; exact c⟩⟩) (fun c6 => ?_)
    exact hD _ _ ⟨_, rfl, rfl, ⟨fun h => by rw [decide_eq_true_eq] at h; omega, fun h => by rw [decide_eq_true_eq]; omega⟩⟩
  rintro u g w5' ⟨b, rfl, rfl, hb⟩
  simp only [push_cast]
  have self : ∀ {w'}, RT G w w' b3 b4 kv t → M.rightS t = t → vload PP T_impl_Term (ptr b3) w' fun r w2 => vstore PP T_impl_Term (ptr b4) r w2 fun _ w3 => vlv PP T_impl_Term (ptr b4) w3 fun r w4 => K r w4 := fun {w'} h e => by
    rw [h.q.ldAgg (t := T_impl_Term) g_impl_Term]
    rw [e] at hK
    exact rt_give h (rt_kid (rt_self h)) hK
  refine vif_bool (fun o => ?_) (fun o => ?_)
  · have o4 := hb.1 o
    rw [h6'.ldAgg (t := T_impl_Term) gc']
    refine l3Is_spec hc5'.term fun w6 he6 => ?_
    have r6 := rt_ext r5 he6
    have e : M.rightS t = if M.isM (M.kid t 1) 0 = true then M.kid t 0 else t := by unfold M.rightS; rw [if_pos o4]
    refine vif_bool (fun i => ?_) (fun i => ?_)
    · rw [(A5.ext he6).ldAgg (t := T_impl_Term) gc]
      rw [e, if_pos i] at hK
      exact rt_give r6 (rt_kid (hc5.ext he6).term) hK
    · exact self r6 (by rw [e, i]; rfl)
  have no4 : ¬ (t.op = 4 ∨ t.op = 5 ∨ t.op = 6 ∨ t.op = 7 ∨ t.op = 11 ∨ t.op = 12 ∨ t.op = 13) := fun h => by have := hb.2 h; rw [o] at this; cases this
  try simp only [push_cast]
  refine vif_dec (fun o3 => ?_) (fun o3 => ?_)
  · rw [h6'.ldAgg (t := T_impl_Term) gc']
    refine l3Is_spec hc5'.term fun w6 he6 => ?_
    have r6 := rt_ext r5 he6
    have e : M.rightS t = if M.isM (M.kid t 1) 0 = true then M.kid t 1 else t := by unfold M.rightS; rw [if_neg no4, if_pos o3]
    refine vif_bool (fun i => ?_) (fun i => ?_)
    · rw [(h6'.ext he6).ldAgg (t := T_impl_Term) gc']
      rw [e, if_pos i] at hK
      exact rt_give r6 (rt_kid (hc5'.ext he6).term) hK
    · exact self r6 (by rw [e, i]; rfl)
  try simp only [push_cast]
  refine vif_dec (fun o8 => ?_) (fun o8 => ?_)
  · rw [h6'.ldAgg (t := T_impl_Term) gc']
    refine l3Is_spec hc5'.term fun w6 he6 => ?_
    have r6 := rt_ext r5 he6
    have e : M.rightS t = if M.isM (M.kid t 1) 0 = true then M.kid t 1 else if M.isM (M.kid t 1) 1 = true then M.kid t 0 else t := by unfold M.rightS; rw [if_neg no4, if_neg o3, if_pos o8]
    refine vif_bool (fun i => ?_) (fun i => ?_)
    · rw [(h6'.ext he6).ldAgg (t := T_impl_Term) gc']
      rw [e, if_pos i] at hK
      exact rt_give r6 (rt_kid (hc5'.ext he6).term) hK
    · rw [(h6'.ext he6).ldAgg (t := T_impl_Term) gc']
      refine l3Is_spec (hc5'.ext he6).term fun w7 he7 => ?_
      have r7 := rt_ext r6 he7
      refine vif_bool (fun j => ?_) (fun j => ?_)
      · rw [(A5.ext (he6.trans he7)).ldAgg (t := T_impl_Term) gc]
        rw [e, i, if_neg (by decide), if_pos j] at hK
        exact rt_give r7 (rt_kid (hc5.ext (he6.trans he7)).term) hK
      · exact self r7 (by rw [e, i, j]; rfl)
  · exact self r5 (by unfold M.rightS; rw [if_neg no4, if_neg o3, if_neg o8])
theorem l3Alike_spec {v : Value} {t : M.Tm} {s : Int} (ht : TermR G w v t) (h2 : t.ks.length = 2) (hK : OutK K w G (M.alikeS t s)) : vcall PP n_spec_l3Alike #[v, .int .i64 s] w K := by
  apply c_spec_l3Alike; unfold F_spec_l3Alike
  refine rt_enter (B := fun t3 t4 w_3 => _) ht fun w1 b3 b4 kv rs => ?_
  simp (disch := (simp only [push_cast]; done)) only [push_cast, rs.q.ld0]
  refine vjoin_of (fun u w' => ∃ b : Bool, u = [.bool b] ∧ w' = w1 ∧ (b = true ↔ t.op = 3 ∨ t.op = 4)) (fun D hD => ?_) ?_
  · try simp only [push_cast]
    refine vif_dec (fun c => hD _ _ ⟨_, rfl, rfl, ⟨fun _ => by omega, fun _ => by rw [decide_eq_true_eq]; exact c⟩⟩) (fun c1 => ?_)
    exact hD _ _ ⟨_, rfl, rfl, ⟨fun h => by rw [decide_eq_true_eq] at h; omega, fun h => by rw [decide_eq_true_eq]; omega⟩⟩
  rintro u g w1' ⟨b, rfl, rfl, hb⟩
  simp only [push_cast]
  refine vif_bool (fun o => ?_) (fun o => ?_)
  · simp (disch := first | (simp only [push_cast]; done) | omega) only [push_cast, rs.q.ld4, rs.k.iaddr]
    refine rs.k.load g_impl_Term (by omega) fun x hx => ?_
    have e : M.alikeS t s = M.kid t 0 := by unfold M.alikeS; rw [if_pos (hb.1 o)]
    rw [e] at hK
    exact rt_give rs (rt_kid hx) hK
  have n1 : ¬ (t.op = 3 ∨ t.op = 4) := fun h => by have := hb.2 h; rw [o] at this; cases this
  refine vjoin_of (fun u w' => ∃ b : Bool, u = [.bool b] ∧ w' = w1' ∧ (b = true ↔ t.op = 5 ∨ t.op = 7)) (fun D hD => ?_) ?_
  · try simp only [push_cast]
    refine vif_dec (fun c => hD _ _ ⟨_, rfl, rfl, ⟨fun _ => by omega, fun _ => by rw [decide_eq_true_eq]; exact c⟩⟩) (fun c1 => ?_)
    exact hD _ _ ⟨_, rfl, rfl, ⟨fun h => by rw [decide_eq_true_eq] at h; omega, fun h => by rw [decide_eq_true_eq]; omega⟩⟩
  rintro u2 g2 w1'' ⟨b', rfl, rfl, hb'⟩
  simp only [push_cast]
  refine vif_bool (fun o => ?_) (fun o => ?_)
  · have e : M.alikeS t s = .mk 20 s 0 M.nada [] := by unfold M.alikeS; rw [if_neg n1, if_pos (hb'.1 o)]
    rw [e] at hK
    refine l3Zero_spec fun w2 v2 he2 hv2 => ?_
    exact rt_give (rt_ext rs he2) (rt_new rs hv2) hK
  have n2 : ¬ (t.op = 5 ∨ t.op = 7) := fun h => by have := hb'.2 h; rw [o] at this; cases this
  try simp only [push_cast]
  refine vif_dec (fun o15 => ?_) (fun o15 => ?_)
  · have e : M.alikeS t s = M.boolM true := by unfold M.alikeS; rw [if_neg n1, if_neg n2, if_pos o15]; rfl
    rw [e] at hK
    refine l3Bool_spec fun w2 v2 he2 hv2 => ?_
    exact rt_give (rt_ext rs he2) (rt_new rs hv2) hK
  by_cases h16 : t.op = 16
  · have e : M.alikeS t s = M.boolM false := by unfold M.alikeS; rw [if_neg n1, if_neg n2, if_neg o15, if_pos (.inl h16)]; rfl
    rw [e] at hK
    simp only [h16, decide_true, push_cast]
    refine l3Bool_spec fun w2 v2 he2 hv2 => ?_
    exact rt_give (rt_ext rs he2) (rt_new rs hv2) hK
  · simp only [h16, decide_false, push_cast]
    refine vif_dec (fun f => ?_) (fun f => ?_)
    · have e : M.alikeS t s = M.boolM false := by unfold M.alikeS; rw [if_neg n1, if_neg n2, if_neg o15, if_pos (.inr f)]; rfl
      rw [e] at hK
      refine l3Bool_spec fun w2 v2 he2 hv2 => ?_
      exact rt_give (rt_ext rs he2) (rt_new rs hv2) hK
    · have e : M.alikeS t s = t := by unfold M.alikeS; rw [if_neg n1, if_neg n2, if_neg o15, if_neg (by omega)]
      rw [e] at hK
      rw [rs.q.ldAgg (t := T_impl_Term) g_impl_Term]
      exact rt_give rs (rt_kid (rt_self rs)) hK
end Go.Proofs.YtcfgmgjofmbfhaaGreatDoor
end
