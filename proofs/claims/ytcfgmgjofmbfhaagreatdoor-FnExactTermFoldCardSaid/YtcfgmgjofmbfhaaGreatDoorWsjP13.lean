import Derived.Test.YtcfgmgjofmbfhaaGreatDoorWsjP12
/- A part of the proof: Yh, Yi, Xi. -/
set_option linter.unusedVariables false
set_option linter.unusedSimpArgs false
set_option linter.unnecessarySimpa false
set_option linter.unusedSectionVars false
section
namespace Go.Proofs.YtcfgmgjofmbfhaaGreatDoor
open Go Go.Vc Go.Proofs
variable {w : World} {K : Value → World → Prop} {F F' D G : Nat → Prop}
theorem l3Logic_spec {v : Value} {t : M.Tm} {ds : List M.Dcl} (ht : TermR G w v t) (hs : M.sortM ds t ≠ -1) (h23 : 23 ≤ t.op) (hne : t.ks ≠ []) (hK : OutK K w G (M.logicS t)) : vcall PP n_spec_l3Logic #[v] w K := by
  have hlen := M.len_of hs
  have hlp : 0 < t.ks.length := List.length_pos_iff.2 hne
  have hops := M.arity_ops (o := t.op) (by omega)
  have l25 : t.op = 25 → t.ks.length = 1 := fun h => by rw [h] at hlen; simp [M.arity] at hlen; omega
  have l23 : t.op = 23 → t.ks.length = 3 := fun h => by rw [h] at hlen; simp [M.arity] at hlen; omega
  apply c_spec_l3Logic; unfold F_spec_l3Logic
  refine rt_enter (B := fun t3 t4 w_3 => _) ht fun w1 b3 b4 kv rs => ?_
  simp (disch := first | (simp only [push_cast]; done) | omega) only [push_cast, rs.q.ld4, rs.k.iaddr]
  refine rs.k.load g_impl_Term (by omega) fun x hx => ?_
  obtain ⟨c, rfl, hc⟩ := hx.cells
  have gc : aggB PP T_impl_Term c.length = true := by rw [tmR_len hc]; exact g_impl_Term
  refine valloc_agg zr_impl_Term fun b5 w2 hb5 he2 hs2 h5 => ?_
  refine stTerm h5 rfl (hc.ext he2) fun w3 hw3 hz3 h5' => ?_
  have e13 : Ext w1 w3 := Ext.then he2 hw3 fun y hy => by subst hy; omega
  have r3 := rt_ext rs e13
  have hc3 : TmR (fun x => G x ∧ x < w.heap.size) w3 c (M.kid t 0) := hc.ext e13
  simp (disch := (simp only [push_cast]; done)) only [push_cast, r3.q.ld0]
  refine vif_dec (fun o25 => ?_) (fun o25 => ?_)
  · obtain ⟨kv0, rfl, hk0⟩ := hc3.inv
    simp (disch := (simp only [push_cast]; done)) only [push_cast, h5'.ld0]
    refine vif_dec (fun d => ?_) (fun d => ?_)
    · have k0 := M.good_kid hs (i := 0) (by have := l25 o25; omega)
      have hl2 : (M.kid t 0).ks.length = 1 := by have := M.len_of k0; rw [d] at this; simp [M.arity] at this; omega
      simp (disch := first | (simp only [push_cast]; done) | omega) only [push_cast, h5'.ld4, hk0.iaddr]
      refine hk0.load g_impl_Term (by omega) fun y hy => ?_
      have e : M.logicS t = M.kid (M.kid t 0) 0 := by unfold M.logicS; rw [if_pos o25, if_pos d]
      rw [e] at hK
      exact rt_give r3 (rt_kid hy) hK
    · have e : M.logicS t = t := by unfold M.logicS; rw [if_pos o25, if_neg d]
      rw [e] at hK
      rw [r3.q.ldAgg (t := T_impl_Term) g_impl_Term]
      exact rt_give r3 (rt_kid (rt_self r3)) hK
  try simp only [push_cast]
  refine vif_dec (fun o23 => ?_) (fun o23 => ?_)
  · have hl3 := l23 o23
    have E : M.logicS t = if M.isM (M.kid t 0) 1 = true ∨ (M.kid t 1 = M.kid t 2 ∧ ¬ M.isM (M.kid t 0) 0 = true) then M.kid t 1 else if M.isM (M.kid t 0) 0 = true then M.kid t 2 else t := by unfold M.logicS; rw [if_neg o25, if_pos o23]
    have give1 : ∀ {w'}, RT G w w' b3 b4 kv t → (M.isM (M.kid t 0) 1 = true ∨ (M.kid t 1 = M.kid t 2 ∧ ¬ M.isM (M.kid t 0) 0 = true)) → ∀ x, TermR (fun x => G x ∧ x < w.heap.size) w' x (M.kid t 1) → vstore PP T_impl_Term (ptr b4) x w' fun _ w1 => vlv PP T_impl_Term (ptr b4) w1 fun r w2 => K r w2 := fun h hc x hx => by
      rw [E, if_pos hc] at hK
      exact rt_give h (rt_kid hx) hK
    refine vjoin_of (fun u w' => u = [] ∧ Ext w3 w' ∧ ¬ (M.isM (M.kid t 0) 1 = true ∨ (M.kid t 1 = M.kid t 2 ∧ ¬ M.isM (M.kid t 0) 0 = true))) (fun C hC => ?_) ?_
    · refine vdraw_ext fun w4 he4 _ => ?_
      have r4 := rt_ext r3 he4
      have A4 := h5'.ext he4
      have hc4 := hc3.ext he4
      simp (disch := (simp only [push_cast]; done)) only [push_cast, A4.ldAgg (t := T_impl_Term) gc, true_and]
      refine l3Is_spec hc4.term fun w5 he5 => ?_
      have r5 := rt_ext r4 he5
      obtain ⟨cks, hsl, hln, hck⟩ := r5.k
      refine vif_bool (fun i => ?_) (fun i => ?_)
      · simp (disch := first | (simp only [push_cast]; done) | omega) only [push_cast, r5.q.ld4, hsl.iaddr, hsl.ldAgg]
        exact give1 r5 (.inl i) _ (hck 1 (by omega)).term
      · simp (disch := first | (simp only [push_cast]; done) | omega) only [push_cast, r5.q.ld4, hsl.iaddr, hsl.ldAgg, true_and]
        refine spec_TermSame_spec _ (hck 1 (by omega)).term (hck 2 (by omega)).term fun w6 he6 => ?_
        have r6 := rt_ext r5 he6
        refine vif_dec (fun s => ?_) (fun s => ?_)
        · have A6 := A4.ext (he5.trans he6)
          simp (disch := (simp only [push_cast]; done)) only [push_cast, A6.ldAgg (t := T_impl_Term) gc, true_and]
          refine l3Is_spec (hc4.ext (he5.trans he6)).term fun w7 he7 => ?_
          have r7 := rt_ext r6 he7
          have s7 := hsl.ext (he6.trans he7)
          simp only [push_cast, true_and]
          refine vif_bool (fun j => ?_) (fun j => ?_)
          · rw [Bool.not_eq_true'] at j
            simp (disch := first | (simp only [push_cast]; done) | omega) only [push_cast, r7.q.ld4, s7.iaddr, s7.ldAgg]
            exact give1 r7 (.inr ⟨s, by rw [j]; decide⟩) _ ((hck 1 (by omega)).ext (he6.trans he7)).term
          · rw [Bool.not_eq_false'] at j
            exact hC _ _ ⟨rfl, he4.trans (he5.trans (he6.trans he7)), fun h => h.elim (fun h => by rw [i] at h; cases h) fun h => h.2 j⟩
        · exact hC _ _ ⟨rfl, he4.trans (he5.trans he6), fun h => h.elim (fun h => by rw [i] at h; cases h) fun h => s h.1⟩
    rintro u g w4 ⟨rfl, he4, hn⟩
    have r4 := rt_ext r3 he4
    rw [(h5'.ext he4).ldAgg (t := T_impl_Term) gc]
    refine l3Is_spec (hc3.ext he4).term fun w5 he5 => ?_
    have r5 := rt_ext r4 he5
    refine vif_bool (fun i => ?_) (fun i => ?_)
    · simp (disch := first | (simp only [push_cast]; done) | omega) only [push_cast, r5.q.ld4, r5.k.iaddr]
      refine r5.k.load g_impl_Term (by omega) fun y hy => ?_
      rw [E, if_neg hn, if_pos i] at hK
      exact rt_give r5 (rt_kid hy) hK
    · rw [E, if_neg hn, i, if_neg (by decide)] at hK
      rw [r5.q.ldAgg (t := T_impl_Term) g_impl_Term]
      exact rt_give r5 (rt_kid (rt_self r5)) hK
  have o : t.op = 26 ∨ t.op = 27 := by
    unfold M.arity at hlen
    repeat' split at hlen
    all_goals omega
  have l2 : t.ks.length = 2 := by rcases o with e | e <;> rw [e] at hlen <;> simp [M.arity] at hlen <;> omega
  simp (disch := first | (simp only [push_cast]; done) | omega) only [push_cast, r3.q.ld4, r3.k.iaddr]
  refine r3.k.load g_impl_Term (by omega) fun y hy => ?_
  obtain ⟨c', rfl, hc'⟩ := hy.cells
  have gc' : aggB PP T_impl_Term c'.length = true := by rw [tmR_len hc']; exact g_impl_Term
  refine valloc_agg zr_impl_Term fun b6 w4 hb6 he4 hs4 h6 => ?_
  refine stTerm h6 rfl (hc'.ext he4) fun w5 hw5 hz5 h6' => ?_
  have e35 : Ext w3 w5 := Ext.then he4 hw5 fun y hy => by subst hy; omega
  have r5 := rt_ext r3 e35
  have A5 := h5'.ext e35
  have hc5 := hc3.ext e35
  have hc5' : TmR (fun x => G x ∧ x < w.heap.size) w5 c' (M.kid t 1) := hc'.ext e35
  simp (disch := (simp only [push_cast]; done)) only [push_cast, r5.q.ld0]
  refine l2Bool_spec ?_
  generalize hone : M.b2i (decide (t.op = 26)) = one
  have h01 : one = 0 ∨ one = 1 := by rw [← hone]; unfold M.b2i; split <;> omega
  have E : M.logicS t = if M.isM (M.kid t 0) one = true ∨ M.kid t 0 = M.kid t 1 then M.kid t 1 else if M.isM (M.kid t 1) one = true then M.kid t 0 else if M.isM (M.kid t 0) (1 - one) = true ∨ M.isM (M.kid t 1) (1 - one) = true then M.boolM (decide (one = 0)) else t := by
    unfold M.logicS; rw [if_neg o25, if_neg o23, hone]
  refine vjoin_of (fun u w' => ∃ e : Bool, u = [.bool e] ∧ Ext w5 w' ∧ (e = true ↔ M.isM (M.kid t 0) one = true ∨ M.kid t 0 = M.kid t 1)) (fun C hC => ?_) ?_
  · rw [A5.ldAgg (t := T_impl_Term) gc]
    refine l3Is_spec hc5.term fun w6 he6 => ?_
    refine vif_bool (fun i => ?_) (fun i => ?_)
    · exact hC _ _ ⟨true, rfl, he6, ⟨fun _ => .inl i, fun _ => rfl⟩⟩
    · try simp only [push_cast]
      rw [(A5.ext he6).ldAgg (t := T_impl_Term) gc, (h6'.ext he6).ldAgg (t := T_impl_Term) gc']
      refine spec_TermSame_spec _ (hc5.ext he6).term (hc5'.ext he6).term fun w7 he7 => ?_
      refine hC _ _ ⟨_, rfl, he6.trans he7, ?_⟩
      rw [decide_eq_true_eq]
      exact ⟨.inr, fun h => h.elim (fun x => by rw [i] at x; cases x) id⟩
  rintro u g w6 ⟨e, rfl, he6, hee⟩
  have r6 := rt_ext r5 he6
  simp only [push_cast]
  refine vif_bool (fun i => ?_) (fun i => ?_)
  · rw [(h6'.ext he6).ldAgg (t := T_impl_Term) gc']
    rw [E, if_pos (hee.1 i)] at hK
    exact rt_give r6 (rt_kid (hc5'.ext he6).term) hK
  have n1 : ¬ (M.isM (M.kid t 0) one = true ∨ M.kid t 0 = M.kid t 1) := fun h => by have := hee.2 h; rw [i] at this; cases this
  rw [(h6'.ext he6).ldAgg (t := T_impl_Term) gc']
  refine l3Is_spec (hc5'.ext he6).term fun w7 he7 => ?_
  have r7 := rt_ext r6 he7
  have e57 := he6.trans he7
  refine vif_bool (fun j => ?_) (fun j => ?_)
  · rw [(A5.ext e57).ldAgg (t := T_impl_Term) gc]
    rw [E, if_neg n1, if_pos j] at hK
    exact rt_give r7 (rt_kid (hc5.ext e57).term) hK
  have n2 : ¬ M.isM (M.kid t 1) one = true := by rw [j]; decide
  have hw1 : IntKind.i64.wrap (1 - one) = 1 - one := wrap64 (by omega) (by omega)
  rw [(A5.ext e57).ldAgg (t := T_impl_Term) gc]
  simp only [push_cast, hw1]
  refine l3Is_spec (hc5.ext e57).term fun w8 he8 => ?_
  have r8 := rt_ext r7 he8
  refine vif_bool (fun k => ?_) (fun k => ?_)
  · try simp only [push_cast]
    refine l3Bool_spec fun w9 v9 he9 hv9 => ?_
    rw [E, if_neg n1, if_neg n2, if_pos (.inl k)] at hK
    exact rt_give (rt_ext r8 he9) (rt_new r8 hv9) hK
  have e58 := e57.trans he8
  rw [(h6'.ext e58).ldAgg (t := T_impl_Term) gc']
  try simp only [push_cast, hw1]
  refine l3Is_spec (hc5'.ext e58).term fun w9 he9 => ?_
  have r9 := rt_ext r8 he9
  refine vif_bool (fun l => ?_) (fun l => ?_)
  · try simp only [push_cast]
    refine l3Bool_spec fun w10 v10 he10 hv10 => ?_
    rw [E, if_neg n1, if_neg n2, if_pos (.inr l)] at hK
    exact rt_give (rt_ext r9 he10) (rt_new r9 hv10) hK
  · rw [E, if_neg n1, if_neg n2, if_neg (fun h => h.elim (fun h => by rw [k] at h; cases h) fun h => by rw [l] at h; cases h)] at hK
    rw [r9.q.ldAgg (t := T_impl_Term) g_impl_Term]
    exact rt_give r9 (rt_kid (rt_self r9)) hK
theorem l3Two_spec {v : Value} {t : M.Tm} {s : Int} (ht : TermR G w v t) (h2 : t.ks.length = 2) (hK : OutK K w G (M.twoS t s)) : vcall PP n_spec_l3Two #[v, .int .i64 s] w K := by
  apply c_spec_l3Two; unfold F_spec_l3Two
  refine rt_enter (B := fun t3 t4 w_3 => _) ht fun w1 b3 b4 kv rs => ?_
  have l4 := rs.r.lt
  have hlo := rs.lo
  have low : ∀ {w' : World} {cs : List Value} {u : M.Tm}, Ext w1 w' → TmR (fun x => (G x ∧ x < w.heap.size) ∨ w'.heap.size ≤ x) w' cs u → True := fun _ _ => trivial
  clear low
  refine vjoin_of (fun u w' => u = [] ∧ Ext w1 w' ∧ ¬ (M.kid t 0 = M.kid t 1 ∧ M.alikeS t s ≠ t)) (fun C hC => ?_) ?_
  · refine vdraw_ext fun w2 he2 _ => ?_
    have r2 := rt_ext rs he2
    obtain ⟨cks, hsl, hln, hck⟩ := r2.k
    simp (disch := first | (simp only [push_cast]; done) | omega) only [push_cast, r2.q.ld4, hsl.iaddr, hsl.ldAgg, true_and]
    refine spec_TermSame_spec _ (hck 0 (by omega)).term (hck 1 (by omega)).term fun w3 he3 => ?_
    have r3 := rt_ext r2 he3
    refine vif_dec (fun a => ?_) (fun a => ?_)
    · rw [r3.q.ldAgg (t := T_impl_Term) g_impl_Term]
      refine l3Alike_spec (rt_self r3) h2 fun w4 rv he4 hrv => ?_
      have r4 := rt_ext r3 he4
      obtain ⟨c, rfl, hc⟩ := hrv.cells
      have gc : aggB PP T_impl_Term c.length = true := by rw [tmR_len hc]; exact g_impl_Term
      have hz3 := r3.r.lt
      refine valloc_agg zr_impl_Term fun b5 w5 hb5 he5 hs5 h5 => ?_
      have hcw := (hc.weaken (F' := fun x => ((G x ∧ x < w.heap.size) ∨ b4 < x) ∧ x < w4.heap.size) fun b h h' => ⟨h.imp id fun h => (by omega), h'⟩).ext he5
      refine stTerm h5 rfl hcw fun w6 hw6 hz6 h6 => ?_
      have e46 : Ext w4 w6 := Ext.then he5 hw6 fun y hy => by subst hy; omega
      have r6 := rt_ext r4 e46
      have hc6 : TmR (Qb G w.heap.size b4) w6 c (M.alikeS t s) := (hcw.same hw6 fun x hx _ e => by omega).weaken fun x hx _ => hx.1
      rw [h6.ldAgg (t := T_impl_Term) gc, r6.q.ldAgg (t := T_impl_Term) g_impl_Term]
      refine spec_TermSame_spec _ hc6.term (rt_self r6) fun w7 he7 => ?_
      have r7 := rt_ext r6 he7
      simp only [push_cast]
      refine vif_bool (fun d => ?_) (fun d => ?_)
      · rw [Bool.not_eq_true', decide_eq_false_iff_not] at d
        rw [(h6.ext he7).ldAgg (t := T_impl_Term) gc]
        have E : M.twoS t s = M.alikeS t s := by unfold M.twoS; rw [if_pos ⟨a, d⟩]
        rw [E] at hK
        exact rt_give r7 (hc6.ext he7).term hK
      · rw [Bool.not_eq_false', decide_eq_true_eq] at d
        exact hC _ _ ⟨rfl, he2.trans (he3.trans (he4.trans (e46.trans he7))), fun h => h.2 d⟩
    · exact hC _ _ ⟨rfl, he2.trans he3, fun h => a h.1⟩
  rintro u g w3 ⟨rfl, he3, n1⟩
  have r3 := rt_ext rs he3
  have l3 := r3.r.lt
  rw [r3.q.ldAgg (t := T_impl_Term) g_impl_Term]
  refine l3Right_spec (rt_self r3) h2 fun w4 rv he4 hrv => ?_
  have r4 := rt_ext r3 he4
  obtain ⟨c, rfl, hc⟩ := hrv.cells
  have gc : aggB PP T_impl_Term c.length = true := by rw [tmR_len hc]; exact g_impl_Term
  refine valloc_agg zr_impl_Term fun b5 w5 hb5 he5 hs5 h5 => ?_
  have hcw := (hc.weaken (F' := fun x => ((G x ∧ x < w.heap.size) ∨ b4 < x) ∧ x < w4.heap.size) fun b h h' => ⟨h.imp id fun h => (by omega), h'⟩).ext he5
  refine stTerm h5 rfl hcw fun w6 hw6 hz6 h6 => ?_
  have e46 : Ext w4 w6 := Ext.then he5 hw6 fun y hy => by subst hy; omega
  have r6 := rt_ext r4 e46
  have hc6 : TmR (Qb G w.heap.size b4) w6 c (M.rightS t) := (hcw.same hw6 fun x hx _ e => by omega).weaken fun x hx _ => hx.1
  rw [h6.ldAgg (t := T_impl_Term) gc, r6.q.ldAgg (t := T_impl_Term) g_impl_Term]
  refine spec_TermSame_spec _ hc6.term (rt_self r6) fun w7 he7 => ?_
  have r7 := rt_ext r6 he7
  simp only [push_cast]
  refine vif_bool (fun d => ?_) (fun d => ?_)
  · rw [Bool.not_eq_true', decide_eq_false_iff_not] at d
    rw [(h6.ext he7).ldAgg (t := T_impl_Term) gc]
    have E : M.twoS t s = M.rightS t := by unfold M.twoS; rw [if_neg n1, if_pos d]
    rw [E] at hK
    exact rt_give r7 (hc6.ext he7).term hK
  rw [Bool.not_eq_false', decide_eq_true_eq] at d
  have E : M.twoS t s = if (t.op = 3 ∨ t.op = 4 ∨ t.op = 5 ∨ t.op = 6 ∨ t.op = 8) ∧ M.otherS t (M.rightS (M.swapS t)) then M.rightS (M.swapS t) else t := by
    unfold M.twoS; rw [if_neg n1, if_neg (fun h => h d)]
  refine vjoin_of (fun u w' => u = [] ∧ Ext w7 w' ∧ ¬ ((t.op = 3 ∨ t.op = 4 ∨ t.op = 5 ∨ t.op = 6 ∨ t.op = 8) ∧ M.otherS t (M.rightS (M.swapS t)))) (fun C hC => ?_) ?_
  · simp (disch := (simp only [push_cast]; done)) only [push_cast, r7.q.ld0]
    refine vjoin_of (fun u w' => ∃ b : Bool, u = [.bool b] ∧ w' = w7 ∧ (b = true ↔ t.op = 3 ∨ t.op = 4 ∨ t.op = 5 ∨ t.op = 6 ∨ t.op = 8)) (fun D hD => ?_) ?_
    · try simp only [push_cast]
      refine vif_dec (fun c => hD _ _ ⟨_, rfl, rfl, ⟨fun _ => by omega, fun _ => by rw [decide_eq_true_eq]; exact c⟩⟩) (fun c1 => ?_)
      refine vif_dec (fun c => hD _ _ ⟨_, rfl, rfl, ⟨fun _ => by omega, fun _ => by rw [decide_eq_true_eq]; exact c⟩⟩) (fun c2 => ?_)
      refine vif_dec (fun c => hD _ _ ⟨_, rfl, rfl, ⟨fun _ => by omega, fun _ => by rw [decide_eq_true_eq]; exact c⟩⟩) (fun c3 => ?_)
      refine vif_dec (fun c => hD _ _ ⟨_, rfl, rfl, ⟨fun _ => by omega, fun _ => by rw [decide_eq_true_eq]; exact c⟩⟩) (fun c4 => ?_)
      exact hD _ _ ⟨_, rfl, rfl, ⟨fun h => by rw [decide_eq_true_eq] at h; omega, fun h => by rw [decide_eq_true_eq]; omega⟩⟩
    rintro u2 g2 w7' ⟨b, rfl, rfl, hb⟩
    simp only [push_cast]
    refine vif_bool (fun o => ?_) (fun o => hC _ _ ⟨rfl, Same.refl _ _, fun h => by have := hb.2 h.1; rw [o] at this; cases this⟩)
    have o' := hb.1 o
    have l7 := r7.r.lt
    refine vjoin_of (fun u w' => ∃ b c, u = [ptr b] ∧ Ext w7' w' ∧ Blk w' b c T_impl_Term ∧ TmR (Qb G w.heap.size b4) w' c (M.rightS (M.swapS t))) (fun D hD => ?_) ?_
    · refine vdraw_ext fun w8 he8 _ => ?_
      have r8 := rt_ext r7 he8
      have l8 := r8.r.lt
      obtain ⟨cks, hsl, hln, hck⟩ := r8.k
      simp (disch := first | (simp only [push_cast]; done) | omega) only [push_cast, r8.q.ld0, r8.q.ld4, hsl.iaddr, hsl.ldAgg, true_and]
      have hz8 := he8.size
      have fin : ∀ {wa wb : World} {bb : Nat} {z : List Value} {rv : Value}, Ext w8 wa → Blk wa bb z T_impl_Term → z.length = 5 → w8.heap.size ≤ bb → (∀ y, y = bb → TermR (fun x => ((G x ∧ x < w.heap.size) ∨ b4 < x) ∧ x ≠ y) wa rv (M.rightS (M.swapS t))) → vstore PP T_impl_Term (ptr bb) rv wa fun _ w' => D [ptr bb] w' := fun {wa wb bb z rv} hwa hB hz hbb hr => by
        obtain ⟨cr, rfl, hcr⟩ := (hr bb rfl).cells
        refine stTerm hB hz hcr fun w' hw' hz' h' => ?_
        exact hD _ _ ⟨bb, cr, rfl, he8.trans (Ext.then hwa hw' fun y hy => by subst hy; omega), h', (hcr.same hw' fun x hx _ e => hx.2 e).weaken fun x hx _ => hx.1⟩
      refine ⟨?_, ?_, trivial⟩
      · refine kids2 (hck 1 (by omega)).term (hck 0 (by omega)).term fun w9 a9 he9 hs9 k9 => ?_
        have r9 := rt_ext r8 he9
        have hsw : TermR (fun z => (G z ∧ z < w.heap.size) ∨ z = w8.heap.size) w9 _ (M.swapS t) := (node_term (o := t.op) k9 : TermR _ w9 _ (nodeM t.op [t.ks.getD 1 default, t.ks.getD 0 default]))
        simp (disch := (simp only [push_cast]; done)) only [push_cast, r9.q.ld0, true_and, and_self]
        refine ⟨?_, ?_, trivial⟩
        · refine l3Right_spec hsw rfl fun w10 rv he10 hrv => ?_
          refine ⟨?_, trivial⟩
          refine valloc_agg zr_impl_Term fun b11 w11 hb11 he11 hs11 h11 => ?_
          refine ⟨?_, trivial⟩
          have hz9 := he9.size
          have hz10 := he10.size
          refine fin (wb := w11) (he9.trans (he10.trans he11)) h11 rfl (by omega) fun y hy => ((hrv.weaken (F' := fun x => (((G x ∧ x < w.heap.size) ∨ x = w8.heap.size) ∨ w9.heap.size ≤ x) ∧ x < w10.heap.size) fun b h h' => ⟨h, h'⟩).ext he11).weaken fun x hx _ => ?_
          rcases hx.1 with (h | h) | h
          · exact ⟨.inl h, by omega⟩
          · exact ⟨.inr (by omega), by omega⟩
          · exact ⟨.inr (by omega), by omega⟩
        · refine valloc_agg zr_impl_Term fun b11 w11 hb11 he11 hs11 h11 => ?_
          have r11 := rt_ext r9 he11
          simp (disch := (simp only [push_cast]; done)) only [push_cast, r11.q.ld0, true_and, and_self]
          refine ⟨?_, trivial⟩
          refine l3Right_spec (hsw.ext he11) rfl fun w10 rv he10 hrv => ?_
          refine ⟨?_, trivial⟩
          have hz9 := he9.size
          refine fin (wb := w11) (he9.trans (he11.trans he10)) (h11.ext he10) rfl (by omega) fun y hy => hrv.weaken fun x hx _ => ?_
          rcases hx with (h | h) | h
          · exact ⟨.inl h, by omega⟩
          · exact ⟨.inr (by omega), by omega⟩
          · exact ⟨.inr (by omega), by omega⟩
      · refine valloc_agg zr_impl_Term fun b11 w11 hb11 he11 hs11 h11 => ?_
        have r11 := rt_ext r8 he11
        have s11 := hsl.ext he11
        simp (disch := first | (simp only [push_cast]; done) | omega) only [push_cast, r11.q.ld0, r11.q.ld4, s11.iaddr, s11.ldAgg, true_and, and_self]
        refine ⟨?_, trivial⟩
        refine kids2 ((hck 1 (by omega)).ext he11).term ((hck 0 (by omega)).ext he11).term fun w9 a9 he9 hs9 k9 => ?_
        have r9 := rt_ext r11 he9
        have hsw : TermR (fun z => (G z ∧ z < w.heap.size) ∨ z = w11.heap.size) w9 _ (M.swapS t) := (node_term (o := t.op) k9 : TermR _ w9 _ (nodeM t.op [t.ks.getD 1 default, t.ks.getD 0 default]))
        simp (disch := (simp only [push_cast]; done)) only [push_cast, r9.q.ld0, true_and, and_self]
        refine ⟨?_, trivial⟩
        refine l3Right_spec hsw rfl fun w10 rv he10 hrv => ?_
        refine ⟨?_, trivial⟩
        have hz9 := he9.size
        refine fin (wb := w11) (he11.trans (he9.trans he10)) ((h11.ext he9).ext he10) rfl (by omega) fun y hy => hrv.weaken fun x hx _ => ?_
        rcases hx with (h | h) | h
        · exact ⟨.inl h, by omega⟩
        · exact ⟨.inr (by omega), by omega⟩
        · exact ⟨.inr (by omega), by omega⟩
    rintro u3 g3 w8 ⟨b, cv, rfl, he8, hB, hcv⟩
    have gv : aggB PP T_impl_Term cv.length = true := by rw [tmR_len hcv]; exact g_impl_Term
    have r8 := rt_ext r7 he8
    generalize hV : M.rightS (M.swapS t) = V at *
    have give : ∀ {w'}, Ext w8 w' → M.otherS t V → vload PP T_impl_Term (ptr b) w' fun r w2 => vstore PP T_impl_Term (ptr b4) r w2 fun _ w3 => vlv PP T_impl_Term (ptr b4) w3 fun r w4 => K r w4 := fun {w'} h ho => by
      rw [(hB.ext h).ldAgg (t := T_impl_Term) gv]
      rw [E, if_pos ⟨o', ho⟩] at hK
      exact rt_give (rt_ext r8 h) (hcv.ext h).term hK
    obtain ⟨kvv, rfl, hkv⟩ := hcv.inv
    simp only [push_cast]
    refine vdraw_ext fun w9 he9 _ => ?_
    have r9 := rt_ext r8 he9
    have B9 := hB.ext he9
    have kv9 := hkv.ext he9
    simp (disch := (simp only [push_cast]; done)) only [push_cast, B9.ld4, kv9.len, true_and]
    refine vif_dec (fun c1 => give he9 (.inl (by omega))) (fun c1 => ?_)
    have vl : V.ks.length = 2 := by omega
    obtain ⟨cks, hsl, hln, hck⟩ := r9.k
    obtain ⟨vks, vsl, vln, vck⟩ := kv9
    simp (disch := first | (simp only [push_cast]; done) | omega) only [push_cast, B9.ld4, r9.q.ld4, hsl.iaddr, hsl.ldAgg, vsl.iaddr, vsl.ldAgg, true_and]
    refine spec_TermSame_spec _ (vck 0 (by omega)).term (hck 1 (by omega)).term fun w10 he10 => ?_
    have B10 := B9.ext he10
    have r10 := rt_ext r9 he10
    have s10 := hsl.ext he10
    have t10 := vsl.ext he10
    simp only [push_cast, true_and]
    refine vif_bool (fun c2 => ?_) (fun c2 => ?_)
    · rw [Bool.not_eq_true', decide_eq_false_iff_not] at c2
      exact give (he9.trans he10) (.inr (.inl c2))
    rw [Bool.not_eq_false', decide_eq_true_eq] at c2
    simp (disch := first | (simp only [push_cast]; done) | omega) only [push_cast, B10.ld4, r10.q.ld4, s10.iaddr, s10.ldAgg, t10.iaddr, t10.ldAgg, true_and]
    refine spec_TermSame_spec _ ((vck 1 (by omega)).ext he10).term ((hck 0 (by omega)).ext he10).term fun w11 he11 => ?_
    have B11 := B10.ext he11
    have r11 := rt_ext r10 he11
    simp only [push_cast, true_and]
    refine vif_bool (fun c3 => ?_) (fun c3 => ?_)
    · rw [Bool.not_eq_true', decide_eq_false_iff_not] at c3
      exact give (he9.trans (he10.trans he11)) (.inr (.inr (.inl c3)))
    rw [Bool.not_eq_false', decide_eq_true_eq] at c3
    simp (disch := first | (simp only [push_cast]; done) | omega) only [push_cast, B11.ld0, r11.q.ld0, true_and]
    refine vif_dec (fun c4 => give (he9.trans (he10.trans he11)) (.inr (.inr (.inr c4)))) (fun c4 => ?_)
    refine hC _ _ ⟨rfl, he8.trans (he9.trans (he10.trans he11)), fun h => ?_⟩
    rcases h.2 with h | h | h | h
    · exact h vl
    · exact h c2
    · exact h c3
    · exact c4 h
  rintro u4 g4 w8 ⟨rfl, he8, n3⟩
  have r8 := rt_ext r7 he8
  rw [E, if_neg n3] at hK
  rw [r8.q.ldAgg (t := T_impl_Term) g_impl_Term]
  exact rt_give r8 (rt_kid (rt_self r8)) hK
theorem l3One_spec {dv v : Value} {t : M.Tm} {ds : List M.Dcl} (hd : DclsR F w dv ds) (hok : M.declOk ds = true) (ht : TermR G w v t) (hs : M.sortM ds t ≠ -1) (hK : OutK K w G (M.oneT ds t)) : vcall PP n_spec_l3One #[dv, v] w K := by
  rw [← M.oneS_eq hok hs] at hK
  have hlen := M.len_of hs
  apply c_spec_l3One; unfold F_spec_l3One
  refine rt_enter (B := fun t3 t4 w_3 => _) ht fun w1 b3 b4 kv rs => ?_
  rw [rs.q.ldAgg (t := T_impl_Term) g_impl_Term]
  refine l2Sort_spec t (hd.ext rs.ext) hok (rt_self rs) fun w2 he2 => ?_
  have r2 := rt_ext rs he2
  rw [r2.q.ldAgg (t := T_impl_Term) g_impl_Term]
  refine l3All_spec (rt_self r2) fun w3 he3 => ?_
  have r3 := rt_ext r2 he3
  refine vif_bool (fun a => ?_) (fun a => ?_)
  · have hnn : nnB t = true := by
      have hall := a
      unfold M.allFixed at hall
      simp only [Bool.and_eq_true, decide_eq_true_eq, List.all_eq_true] at hall
      refine nnB_iff.2 ⟨fun h21 => ?_, fun k hk => ?_⟩
      · rw [h21] at hlen
        have h0 : t.ks.length = 0 := by simp [M.arity] at hlen; omega
        exact hall.1 (List.eq_nil_of_length_eq_zero h0)
      · obtain ⟨n, hn⟩ := Option.isSome_iff_exists.1 (hall.2 k hk)
        exact nn_fixed hn
    have E : M.oneS ds t = if M.sortM ds t = 0 then M.boolM (decide (M.evalM ds (M.zeroE ds) t = 1)) else .mk 20 (M.sortM ds t) (M.evalM ds (M.zeroE ds) t) M.nada [] := by unfold M.oneS; rw [if_pos a]
    rw [r3.q.ldAgg (t := T_impl_Term) g_impl_Term]
    refine vbuildS_nil u_Lint z_int fun b7 w4 hb7 he4 hs4 h7 => ?_
    have r4 := rt_ext r3 he4
    refine l2Eval_spec t (H := F) (hd.ext r4.ext) (M.zeroE_ok hok) (rt_self r4) (.inr hnn) hs fun w5 he5 => ?_
    have r5 := rt_ext r4 he5
    simp only [push_cast]
    refine vif_dec (fun c => ?_) (fun c => ?_)
    · refine l3Bool_spec fun w6 v6 he6 hv6 => ?_
      rw [E, if_pos c] at hK
      exact rt_give (rt_ext r5 he6) (rt_new r5 hv6) hK
    · try simp only [push_cast]
      rw [E, if_neg c] at hK
      exact rt_give r5 (leafR 20 _ _ _ : TmR _ w5 _ (.mk 20 (M.sortM ds t) (M.evalM ds (M.zeroE ds) t) M.nada [])).term hK
  have na : ¬ M.allFixed t = true := by rw [a]; decide
  simp (disch := (simp only [push_cast]; done)) only [push_cast, r3.q.ld4, r3.k.len]
  refine vif_dec (fun l0 => ?_) (fun l0 => ?_)
  · rw [r3.q.ldAgg (t := T_impl_Term) g_impl_Term]
    have E : M.oneS ds t = t := by unfold M.oneS; rw [if_neg na, if_pos (nil_len.1 l0)]
    rw [E] at hK
    exact rt_give r3 (rt_kid (rt_self r3)) hK
  have hne : ¬ t.ks = [] := fun h => l0 (nil_len.2 h)
  have hlp : 0 < t.ks.length := List.length_pos_iff.2 hne
  simp (disch := (simp only [push_cast]; done)) only [push_cast, r3.q.ld0]
  refine vif_dec (fun o23 => ?_) (fun o23 => ?_)
  · rw [r3.q.ldAgg (t := T_impl_Term) g_impl_Term]
    have E : M.oneS ds t = M.logicS t := by unfold M.oneS; rw [if_neg na, if_neg hne, if_pos (by omega)]
    rw [E] at hK
    refine l3Logic_spec (rt_self r3) hs (by omega) hne fun w4 rv he4 hrv => ?_
    have r4 := rt_ext r3 he4
    have l3 := r3.r.lt
    exact rt_give r4 (hrv.weaken fun x hx _ => hx.imp id fun h => (by omega)) hK
  have n23 : ¬ 23 ≤ t.op := by omega
  try simp (disch := (simp only [push_cast]; done)) only [push_cast, r3.q.ld0]
  refine vif_dec (fun o22 => ?_) (fun o22 => ?_)
  · have hl : t.ks.length = 1 := by rw [o22] at hlen; simp [M.arity] at hlen; omega
    simp (disch := first | (simp only [push_cast]; done) | omega) only [push_cast, r3.q.ld4, r3.k.iaddr]
    refine r3.k.load g_impl_Term (by omega) fun x hx => ?_
    refine l2Sort_spec _ (hd.ext r3.ext) hok hx fun w4 he4 => ?_
    have r4 := rt_ext r3 he4
    have E : M.oneS ds t = if M.sortM ds t = M.sortM ds (M.kid t 0) then M.kid t 0 else t := by unfold M.oneS; rw [if_neg na, if_neg hne, if_neg n23, if_pos o22]
    simp only [push_cast]
    refine vif_dec (fun c => ?_) (fun c => ?_)
    · simp (disch := first | (simp only [push_cast]; done) | omega) only [push_cast, r4.q.ld4, r4.k.iaddr]
      refine r4.k.load g_impl_Term (by omega) fun y hy => ?_
      rw [E, if_pos (show M.sortM ds t = M.sortM ds (M.kid t 0) from c)] at hK
      exact rt_give r4 (rt_kid hy) hK
    · rw [r4.q.ldAgg (t := T_impl_Term) g_impl_Term]
      rw [E, if_neg (show ¬ M.sortM ds t = M.sortM ds (M.kid t 0) from c)] at hK
      exact rt_give r4 (rt_kid (rt_self r4)) hK
  simp (disch := (simp only [push_cast]; done)) only [push_cast, r3.q.ld4, r3.k.len]
  have hops := M.arity_ops (o := t.op) (by omega)
  refine vif_dec (fun l1 => ?_) (fun l1 => ?_)
  · have l1' : t.ks.length = 1 := by omega
    have ho := M.arity_one (o := t.op) (by omega)
    have E : M.oneS ds t = if (M.kid t 0).op = t.op then M.kid (M.kid t 0) 0 else t := by unfold M.oneS; rw [if_neg na, if_neg hne, if_neg n23, if_neg o22, if_pos l1']
    refine vdraw_ext fun w4 he4 _ => ?_
    have r4 := rt_ext r3 he4
    simp (disch := first | (simp only [push_cast]; done) | omega) only [push_cast, r4.q.ld0, r4.q.ld4, r4.k.iaddr, true_and]
    rw [tms_op r4.k (by omega)]
    simp (disch := first | (simp only [push_cast]; done) | omega) only [push_cast, r4.q.ld0, r4.q.ld4, r4.k.iaddr, true_and]
    refine vif_dec (fun c => ?_) (fun c => ?_)
    · have k0 := M.good_kid hs (i := 0) (by omega)
      have hl2 : (t.ks.getD 0 default).ks.length = 1 := by
        have := M.len_of k0
        rw [show (M.kid t 0).op = t.op from c] at this
        have h12 : t.op = 1 ∨ t.op = 2 := by omega
        rcases h12 with o | o <;> rw [o] at this <;> simp [M.arity] at this <;> (unfold M.kid at this; omega)
      refine tms_kids r4.k (by omega) fun kv' hk' => ?_
      simp (disch := first | (simp only [push_cast]; done) | omega) only [push_cast, hk'.iaddr]
      refine hk'.load g_impl_Term (by omega) fun x hx => ?_
      rw [E, if_pos (show (M.kid t 0).op = t.op from c)] at hK
      exact rt_give r4 (rt_kid hx) hK
    · rw [r4.q.ldAgg (t := T_impl_Term) g_impl_Term]
      rw [E, if_neg (show ¬ (M.kid t 0).op = t.op from c)] at hK
      exact rt_give r4 (rt_kid (rt_self r4)) hK
  · have l2 : t.ks.length = 2 := by
      unfold M.arity at hlen
      repeat' split at hlen
      all_goals omega
    have E : M.oneS ds t = M.twoS t (M.sortM ds (M.kid t 0)) := by unfold M.oneS; rw [if_neg na, if_neg hne, if_neg n23, if_neg o22, if_neg (by omega)]
    rw [E] at hK
    refine vdraw_ext fun w4 he4 _ => ?_
    have r4 := rt_ext r3 he4
    obtain ⟨cks, hsl, hln, hck⟩ := r4.k
    simp (disch := first | (simp only [push_cast]; done) | omega) only [push_cast, r4.q.ld4, r4.q.ldAgg (t := T_impl_Term) g_impl_Term, hsl.iaddr, hsl.ldAgg, true_and]
    refine l2Sort_spec _ (hd.ext r4.ext) hok (hck 0 (by omega)).term fun w5 he5 => ?_
    have r5 := rt_ext r4 he5
    simp (disch := first | (simp only [push_cast]; done) | omega) only [push_cast, r5.q.ldAgg (t := T_impl_Term) g_impl_Term, true_and, and_self]
    refine l3Two_spec (rt_self r5) l2 fun w6 rv he6 hrv => ?_
    have r6 := rt_ext r5 he6
    have l5 := r5.r.lt
    exact rt_give r6 (hrv.weaken fun x hx _ => hx.imp id fun h => (by omega)) hK
end Go.Proofs.YtcfgmgjofmbfhaaGreatDoor
end
section
namespace Go.Proofs.YtcfgmgjofmbfhaaGreatDoor
open Go Go.Vc Go.Proofs
variable {w : World} {K : Value → World → Prop} {F F' D G : Nat → Prop}
theorem l3Fold_spec : ∀ (t : M.Tm) {w : World} {K : Value → World → Prop} {F G : Nat → Prop} {dv tv : Value} {ds : List M.Dcl}, DclsR F w dv ds → M.declOk ds = true → TermR G w tv t → M.sortM ds t ≠ -1 → OutK K w G (M.foldT ds t) → vcall PP n_spec_l3Fold #[dv, tv] w K := by
  refine M.Tm.ind fun t ih w K F G dv tv ds hd hok ht hs hK => ?_
  have hlen := M.len_of hs
  have hsm : t.ks.length ≤ 3 := by
    unfold M.arity at hlen
    repeat' split at hlen
    all_goals omega
  apply c_spec_l3Fold; unfold F_spec_l3Fold
  obtain ⟨kv, rfl, hks⟩ := ht
  refine vbox_agg fun b1 w1 hb1 he1 hs1 h1 => ?_
  refine valloc_agg zr_impl_Term fun b2 w2 hb2 he2 hs2 h2 => ?_
  have hz1 := he1.size
  have q2 := h1.ext he2
  simp (disch := (simp only [push_cast]; done)) only [push_cast, q2.ld0, q2.ld1, q2.ld2, q2.ld3]
  refine valloc_agg zr_impl_Term fun b3 w3 hb3 he3 hs3 h3 => ?_
  refine stTerm h3 rfl (leafR t.op t.a t.b t.s : TmR (fun _ => False) w3 _ _) fun w4 hw4 hz4 h4 => ?_
  have e14 : Ext w1 w4 := Ext.then (he2.trans he3) hw4 fun y hy => by subst hy; omega
  have hE4 := he1.trans e14
  have q4 := h1.ext e14
  have r4 := (h2.ext he3).same hw4 (by omega)
  have hk4 : TmsR (fun x => G x ∧ x < w.heap.size) w4 kv t.ks := (hks.weaken fun b h h' => ⟨h, h'⟩).ext hE4
  have hz4' := hE4.size
  refine vloop_up t.ks.length (fun i u w' => u = [.int .i64 i] ∧ Same (fun b => b = b3) w4 w' ∧ ∃ kv' css, Blk w' b3 [.int .i64 t.op, .int .i64 t.a, .int .i64 t.b, .string t.s, kv'] T_impl_Term ∧ Own PP 0 5 T_Limpl_Term w' kv' css ∧ css.length = i ∧ (∀ b, kv'.ownBlock = some b → w4.heap.size ≤ b) ∧
      ∀ j, j < i → TmR (fun x => (G x ∧ x < w.heap.size) ∨ (w4.heap.size ≤ x ∧ kv'.ownBlock ≠ some x)) w' (css.getD j []) (M.foldT ds (t.ks.getD j default)))
    ⟨rfl, Same.refl _ _, _, [], h4, Own.nil _ _ _ _ _, rfl, fun b h => (by cases h), fun j hj => absurd hj (by omega)⟩ ?_
  rintro i _ _ w5 C hi ⟨rfl, hs5, kv', css, h5, ho5, hl5, hlo5, hkk5⟩ hC
  have hz5 := hs5.size
  have hE5 : Ext w w5 := Ext.then hE4 hs5 fun y hy => by subst hy; omega
  have hk5 := hk4.same hs5 fun b hb _ e => by omega
  have q5 := q4.same hs5 (by omega)
  simp (disch := (simp only [push_cast]; done)) only [push_cast, q5.ld4, hk5.len]
  refine vif_dec (fun a => ?_) (fun a => ?_)
  · refine vdraw_ext fun w8 he8 _ => ?_
    have q8 := q5.ext he8
    have p8 := h5.ext he8
    obtain ⟨cks, hsl, hln, hc⟩ := hk5.ext he8
    simp (disch := first | (simp only [push_cast]; done) | omega) only [push_cast, q8.ld4, p8.ld4, hsl.iaddr, hsl.ldAgg, true_and]
    have hmem : t.ks.getD i default ∈ t.ks := M.getD_mem (by omega) _
    have hz8 := he8.size
    refine ih _ hmem (hd.ext (hE5.trans he8)) hok (hc i (by omega)).term ((M.sort_parts hs).2.1 _ hmem) fun w9 rv he9 hrv => ?_
    obtain ⟨cr, rfl, hcr⟩ := hrv.cells
    have p9 := p8.ext he9
    simp (disch := (simp only [push_cast]; done)) only [push_cast, p9.ld4, true_and, and_self]
    have hz9 := he9.size
    refine vbuildS1 u_Limpl_Term z_impl_Term zr_impl_Term rfl (tmR_len hcr) (by decide) fun b10 w10 hb10 he10 hs10 h10 => ?_
    have p10 := p9.ext he10
    simp (disch := (simp only [push_cast]; done)) only [push_cast, p10.ld4, true_and, and_self]
    have e510 := he8.trans (he9.trans he10)
    have ho10 := ho5.ext e510
    refine Own.app1k ho10 l_Limpl_Term (by decide) h10 (tmR_len hcr) (tmR_one hcr) (by omega) (by omega) fun kv2 w11 ho11 hw11 hn11 => ?_
    have q11 := p10.same hw11 (fun e => by have := hlo5 _ e; have := h5.lt; omega)
    have hz11 := hw11.size
    try simp only [push_cast, true_and]
    have hkc : kv2.cells = #[kv2] ∧ kv2.oneCell' = true := by
      obtain ⟨a, c, rfl, _⟩ := ho11.sl.shape
      exact ⟨rfl, rfl⟩
    refine q11.st (i := 4) hkc.1 hkc.2 z_Limpl_Term rfl fun w12 hw12 hz12 h12 => ?_
    replace h12 : Blk w12 b3 [.int .i64 t.op, .int .i64 t.a, .int .i64 t.b, .string t.s, kv2] T_impl_Term := h12
    rw [inc64' (by omega)]
    have hz10 := he10.size
    have hkv2 : ∀ b, kv2.ownBlock = some b → w4.heap.size ≤ b := fun b hb => by
      rcases hn11 b hb with h | h
      · exact hlo5 b h
      · omega
    have hS : Same (fun b => b = b3 ∨ kv'.ownBlock = some b) w5 w12 := (Same.of_ext e510).trans ((hw11.mono fun _ _ h => .inr h).trans (hw12.mono fun _ _ h => .inl h))
    have hS4 : Same (fun b => b = b3) w4 w12 := ⟨hS.os.trans hs5.os, hS.tape.trans hs5.tape, hS.output.trans hs5.output, Nat.le_trans hs5.size hS.size, fun b hb hne => (hS.block b (by omega) (fun e => e.elim hne fun e => by have := hlo5 b e; omega)).trans (hs5.block b hb hne)⟩
    refine hC (by omega) _ _ ⟨rfl, hS4, kv2, css ++ [cr], h12, ho11.same hw12 (fun b hb e => by have := hkv2 b hb; omega), by simp [hl5], hkv2, fun j hj => ?_⟩
    by_cases ej : j < i
    · rw [List.getD_eq_getElem?_getD, List.getElem?_append_left (by omega), ← List.getD_eq_getElem?_getD]
      refine ((hkk5 j ej).weaken (F' := fun x => ((G x ∧ x < w.heap.size) ∨ (w4.heap.size ≤ x ∧ kv'.ownBlock ≠ some x)) ∧ x < w5.heap.size) fun b h h' => ⟨h, h'⟩).same hS (fun b hb _ e => ?_) |>.weaken fun b hb _ => ?_
      · rcases hb.1 with h | h
        · rcases e with e | e
          · omega
          · have := hlo5 b e; omega
        · rcases e with e | e
          · omega
          · exact h.2 e
      · rcases hb.1 with h | h
        · exact .inl h
        · refine .inr ⟨h.1, fun e => ?_⟩
          rcases hn11 b e with e | e
          · exact h.2 e
          · omega
    · have : j = i := by omega
      subst this
      rw [List.getD_eq_getElem?_getD, List.getElem?_append_right (by omega), hl5, Nat.sub_self]
      show TmR _ w12 cr _
      refine (((hcr.weaken (F' := fun x => ((G x ∧ x < w.heap.size) ∨ w8.heap.size ≤ x) ∧ x < w9.heap.size) fun b h h' => ⟨h, h'⟩).ext he10).same hw11 (fun b hb _ e => ?_)).same hw12 (fun b hb _ e => ?_) |>.weaken fun b hb _ => ?_
      · have := hlo5 b e
        have := (ho5.lt e).2
        rcases hb.1 with h | h <;> omega
      · rcases hb.1 with h | h <;> omega
      · rcases hb.1 with h | h
        · exact .inl h
        · refine .inr ⟨by omega, fun e => ?_⟩
          rcases hn11 b e with e | e
          · have := (ho5.lt e).2; omega
          · omega
  · have hi' : i = t.ks.length := by omega
    subst hi'
    rw [h5.ldAgg (t := T_impl_Term) g_impl_Term]
    have hkk : TmsR (fun x => (G x ∧ x < w.heap.size) ∨ w4.heap.size ≤ x) w5 kv' (t.ks.map (M.foldT ds)) := by
      refine ⟨css, ho5.sl.weaken fun b hb _ => .inr (hlo5 b hb), by rw [hl5, List.length_map], fun j hj => ?_⟩
      rw [List.length_map] at hj
      rw [M.getD_map _ hj _ default]
      exact (hkk5 j hj).weaken fun b hb _ => hb.imp id fun h => h.1
    have hgood := M.kids_good hok hs
    refine l3One_spec (t := M.remake t (t.ks.map (M.foldT ds))) (hd.ext hE5) hok ⟨kv', rfl, hkk⟩ (by rw [hgood.sort]; exact hs) fun w6 rv he6 hrv => ?_
    rw [← M.foldT_rem] at hrv
    obtain ⟨cr, rfl, hcr⟩ := hrv.cells
    have r6 := (r4.same hs5 (by omega)).ext he6
    refine retTerm r6 rfl hcr (fun x hx => by rcases hx with (h | h) | h <;> omega) fun w7 hw7 hz7 ht7 => ?_
    exact hK _ _ (Ext.then (hE5.trans he6) hw7 fun y hy => by subst hy; omega) (ht7.weaken fun x hx _ => by
      rcases hx with (h | h) | h
      · exact .inl h.1
      · exact .inr (by omega)
      · exact .inr (by omega))
theorem spec_TermFold_spec {dv tv : Value} {ds : List M.Dcl} {t : M.Tm} (hz : Sized ds) (hd : DclsR F w dv ds) (ht : TermR G w tv t) (hK : ∀ w' cs, Ext w w' → TmO w' (fun b => w.heap.size ≤ b ∧ b < w'.heap.size) cs (foldA ds t) → K (.agg ⟨cs⟩) w') : vcall PP n_spec_TermFold #[dv, tv] w K := by
  apply c_spec_TermFold; unfold F_spec_TermFold
  obtain ⟨ct, rfl, hct⟩ := ht.cells
  have hg : aggB PP T_impl_Term ct.length = true := by rw [tmR_len hct]; exact g_impl_Term
  refine vbox_agg fun b1 w1 hb1 he1 hs1 h1 => ?_
  refine valloc_agg zr_impl_Term fun b2 w2 hb2 he2 hs2 h2 => ?_
  have q2 := h1.ext he2
  have hE2 := he1.trans he2
  have hz1 := he1.size
  rw [q2.ldAgg (t := T_impl_Term) hg]
  refine spec_TermSort_spec hz (hd.ext hE2) (ht.ext hE2) fun w3 he3 => ?_
  have hE3 := hE2.trans he3
  have r3 := h2.ext he3
  have hz3 := he3.size
  simp only [push_cast]
  unfold foldA at hK
  have hr := dtSize (ds := ds) (t := t)
  refine vif_dec (fun a => ?_) (fun a => ?_)
  · rw [if_pos (show M.tsort ds t = -1 by omega)] at hK
    try simp only [push_cast]
    refine retO (G := fun _ => False) r3 rfl zeroO (fun x hx => hx.elim) fun w4 hw4 hz4 ho4 => ?_
    exact hK _ _ (Ext.then hE3 hw4 fun y hy => by subst hy; omega) (tmO_weaken ho4 fun b hb => hb.elim)
  · have a' : M.tsort ds t ≠ -1 := by omega
    rw [if_neg a'] at hK
    obtain ⟨hok, hs, hsz⟩ := small_of a'
    rw [(q2.ext he3).ldAgg (t := T_impl_Term) hg]
    refine l3Fold_spec t (G := fun x => x < w.heap.size) (hd.ext hE3) hok ((ht.weaken fun b _ h => h).ext hE3) hs fun w6 rv he6 hrv => ?_
    have hE6 := hE3.trans he6
    have hgood := (M.fold_good hok t hs).size
    refine l3Copy_spec _ hrv (fit_size _ (by omega)) fun w7 cs he7 ho7 => ?_
    have hz6 := he6.size
    refine retO (r3.ext (he6.trans he7)) rfl ho7 (fun x hx => by omega) fun w8 hw8 hz8 ho8 => ?_
    exact hK _ _ (Ext.then (hE6.trans he7) hw8 fun y hy => by subst hy; omega) (tmO_weaken ho8 fun b hb => ⟨by omega, by omega⟩)
end Go.Proofs.YtcfgmgjofmbfhaaGreatDoor
end
section
namespace Go.Proofs.YtcfgmgjofmbfhaaGreatDoor
open Go Go.Vc Go.Proofs
variable {w : World} {K : Value → World → Prop} {F F' D G : Nat → Prop}
abbrev ForDT (n : Nat) (ds : List M.Dcl) (t A : M.Tm) : Prop := ∀ {w : World} {K : Value → World → Prop} {F G : Nat → Prop} {dv tv : Value}, DclsR F w dv ds → TermR G w tv t → (∀ w' cs, Ext w w' → TmO w' (fun b => w.heap.size ≤ b ∧ b < w'.heap.size) cs A → K (.agg ⟨cs⟩) w') → vcall PP n #[dv, tv] w K
def Left (w : World) (A : M.Tm) (u : List Value) (w' : World) : Prop := ∃ b cs, u = [.pointer (some ⟨b, 0, none⟩)] ∧ Ext w w' ∧ w.heap.size ≤ b ∧ b < w'.heap.size ∧ Blk w' b cs T_impl_Term ∧ TmO w' (fun x => w.heap.size ≤ x ∧ x < w'.heap.size ∧ x ≠ b) cs A
theorem left_last {n b : Nat} {A : M.Tm} {cs : List Value} {w0 w1 w2 : World} {C : List Value → World → Prop} (he : Ext w0 w1) (hb : w0.heap.size ≤ b) (hl : b < w1.heap.size) (h2 : Blk w2 b zeroT T_impl_Term) (he2 : Ext w1 w2) (hc : TmO w2 (fun x => w1.heap.size ≤ x ∧ x < w2.heap.size) cs A)
    (hC : ∀ u w, Left w0 A u w → C u w) : vstore PP T_impl_Term (.pointer (some ⟨b, 0, none⟩)) (.agg ⟨cs⟩) w2 fun _ w => C [.pointer (some ⟨b, 0, none⟩)] w := by
  have hz2 := he2.size
  have hz1 := he.size
  refine stTerm h2 rfl (tmO_R _ hc) fun w3 hw3 hz3 h3 => ?_
  refine hC _ _ ⟨b, cs, rfl, Ext.then (he.trans he2) hw3 fun y hy => by subst hy; omega, hb, by omega, h3, tmO_weaken (tmO_same hw3 _ hc fun x hx e => by omega) fun x hx => by omega⟩
theorem region4 {n b3 : Nat} {cs : List Value} {dv : Value} {ds : List M.Dcl} {t A : M.Tm} {C : List Value → World → Prop} (hS : ForDT n ds t A) (h3 : Blk w b3 cs T_laws_Term) (hd : DclsR F w dv ds) (hdl : ds.length ≤ 1048576) (ht : TermR F' w (.agg ⟨cs⟩) t) (hf : fitB t = true)
    (hC : ∀ u w', Left w A u w' → C u w') :
    vdraw w fun w_8 =>
        vload PP T_laws_Term (.pointer (some ⟨b3, 0, none⟩)) w_8 fun t26 w_9 => w_9 = w_8 ∧
        (vcall PP n_laws_toDeclS #[dv] w_8 fun t25 w_10 => (vload PP T_laws_Term (.pointer (some ⟨b3, 0, none⟩)) w_10 fun v x => v = t26 ∧ x = w_10) ∧
          (vcall PP n_laws_toTerm #[t26] w_10 fun t27 w_11 =>
            (vcall PP n #[t25, t27] w_11 fun t28 w_12 =>
              (valloc PP T_impl_Term w_12 fun t6 w_13 =>
                (vstore PP T_impl_Term t6 t28 w_13 fun _ w_14 =>
                  C [t6] w_14) ∧
                True) ∧
              True) ∧
            (valloc PP T_impl_Term w_11 fun t6_1 w_15 =>
              (vcall PP n #[t25, t27] w_15 fun t28_1 w_16 =>
                (vstore PP T_impl_Term t6_1 t28_1 w_16 fun _ w_17 =>
                  C [t6_1] w_17) ∧
                True) ∧
              True) ∧
            True) ∧
          (valloc PP T_impl_Term w_10 fun t6_2 w_18 => (vload PP T_laws_Term (.pointer (some ⟨b3, 0, none⟩)) w_18 fun v x => v = t26 ∧ x = w_18) ∧
            (vcall PP n_laws_toTerm #[t26] w_18 fun t27_1 w_19 =>
              (vcall PP n #[t25, t27_1] w_19 fun t28_2 w_20 =>
                (vstore PP T_impl_Term t6_2 t28_2 w_20 fun _ w_21 =>
                  C [t6_2] w_21) ∧
                True) ∧
              True) ∧
            True) ∧
          True) ∧
        (valloc PP T_impl_Term w_8 fun t6_3 w_22 => (vload PP T_laws_Term (.pointer (some ⟨b3, 0, none⟩)) w_22 fun v x => v = t26 ∧ x = w_22) ∧
          (vcall PP n_laws_toDeclS #[dv] w_22 fun t25_1 w_23 => (vload PP T_laws_Term (.pointer (some ⟨b3, 0, none⟩)) w_23 fun v x => v = t26 ∧ x = w_23) ∧
            (vcall PP n_laws_toTerm #[t26] w_23 fun t27_2 w_24 =>
              (vcall PP n #[t25_1, t27_2] w_24 fun t28_3 w_25 =>
                (vstore PP T_impl_Term t6_3 t28_3 w_25 fun _ w_26 =>
                  C [t6_3] w_26) ∧
                True) ∧
              True) ∧
            True) ∧
          True) ∧
        True := by
  have hg : aggB PP T_laws_Term cs.length = true := by
    obtain ⟨c', e, hc⟩ := ht.cells
    simp only [Value.agg.injEq, Array.mk.injEq] at e
    subst e
    rw [tmR_len hc]; exact g_laws_Term
  refine vdraw_ext fun w1 he1 _ => ?_
  have q1 := h3.ext he1
  have hz1 := he1.size
  simp only [q1.ldAgg (t := T_laws_Term) hg, true_and]
  refine ⟨?_, ?_, trivial⟩
  · refine toDeclS_spec (hd.ext he1) hdl fun w2 dv2 he2 hd2 => ?_
    have q2 := q1.ext he2
    have hz2 := he2.size
    simp only [q2.ldAgg (t := T_laws_Term) hg, true_and, and_self]
    refine ⟨?_, ?_, trivial⟩
    · refine toTerm_own t (ht.ext (he1.trans he2)) hf fun w3 c3 he3 hc3 => ?_
      have ht3 := (tmO_R _ hc3).term
      have hz3 := he3.size
      refine ⟨?_, ?_, trivial⟩
      · refine hS (hd2.ext he3) ht3 fun w4 c4 he4 hc4 => ⟨?_, trivial⟩
        have hz4 := he4.size
        refine valloc_agg zr_impl_Term fun b5 w5 hb5 he5 hs5 h5 => ⟨?_, trivial⟩
        have hc5 := tmO_ext hc4 he5
        have hE := he1.trans (he2.trans (he3.trans he4))
        refine stTerm h5 rfl (tmO_R _ hc5) fun w6 hw6 hz6 h6 => ?_
        exact hC _ _ ⟨b5, c4, rfl, Ext.then (hE.trans he5) hw6 fun y hy => by subst hy; omega, by omega, by omega, h6, tmO_weaken (tmO_same hw6 _ hc5 fun x hx e => by omega) fun x hx => by omega⟩
      · refine valloc_agg zr_impl_Term fun b5 w5 hb5 he5 hs5 h5 => ⟨?_, trivial⟩
        refine hS (hd2.ext (he3.trans he5)) (ht3.ext he5) fun w4 c4 he4 hc4 => ⟨?_, trivial⟩
        exact left_last (n := 0) (he1.trans (he2.trans (he3.trans he5))) (by omega) (by omega) (h5.ext he4) he4 hc4 hC
    · refine valloc_agg zr_impl_Term fun b5 w5 hb5 he5 hs5 h5 => ?_
      have q5 := q2.ext he5
      simp only [q5.ldAgg (t := T_laws_Term) hg, true_and, and_self, and_true]
      refine toTerm_own t (ht.ext (he1.trans (he2.trans he5))) hf fun w3 c3 he3 hc3 => ?_
      have hz3 := he3.size
      have ht3 := (tmO_R _ hc3).term
      refine hS (hd2.ext (he5.trans he3)) ht3 fun w4 c4 he4 hc4 => ?_
      exact left_last (n := 0) (he1.trans (he2.trans (he5.trans he3))) (by omega) (by omega) ((h5.ext he3).ext he4) he4 hc4 hC
  · refine valloc_agg zr_impl_Term fun b5 w5 hb5 he5 hs5 h5 => ?_
    have q5 := q1.ext he5
    simp only [q5.ldAgg (t := T_laws_Term) hg, true_and, and_self, and_true]
    refine toDeclS_spec (hd.ext (he1.trans he5)) hdl fun w2 dv2 he2 hd2 => ?_
    have q2 := q5.ext he2
    have hz2 := he2.size
    simp only [q2.ldAgg (t := T_laws_Term) hg, true_and, and_self, and_true]
    refine toTerm_own t (ht.ext (he1.trans (he5.trans he2))) hf fun w3 c3 he3 hc3 => ?_
    have hz3 := he3.size
    have ht3 := (tmO_R _ hc3).term
    refine hS (hd2.ext he3) ht3 fun w4 c4 he4 hc4 => ?_
    exact left_last (n := 0) (he1.trans (he5.trans (he2.trans he3))) (by omega) (by omega) (((h5.ext he2).ext he3).ext he4) he4 hc4 hC
theorem size_foldA (ds : List M.Dcl) (t : M.Tm) : M.sizeM (foldA ds t) ≤ 1000 := by
  unfold foldA
  split
  · rw [M.sizeM_eq]; show 1 + 0 ≤ _; omega
  · next h =>
    obtain ⟨hok, hs, hsz⟩ := small_of h
    have := (M.fold_good hok t hs).size
    omega
theorem FnExactTermFold_spec {dv tv : Value} {ds : List M.Dcl} {t : M.Tm} (hd : DclsR F w dv ds) (hz : Sized ds) (ht : TermR F' w tv t) (hs : strOk t = true) (hK : ∀ w', Ext w w' → K (.bool true) w') : vcall PP n_laws_FnExactTermFold #[dv, tv] w K := by
  have hSpec : ForDT n_spec_TermFold ds t (foldA ds t) := fun h1 h2 h3 => spec_TermFold_spec hz h1 h2 h3
  have hImpl : ForDT n_impl_TermFold ds t (foldA ds t) := fun h1 h2 h3 => TermFold_spec h1 h2 h3
  have hsz := size_foldA ds t
  have hpos := (M.size_pos (t := foldA ds t)).1
  have hpos' := (M.size_pos (t := t)).1
  generalize foldA ds t = A at hSpec hImpl hsz hpos
  apply c_laws_FnExactTermFold; unfold F_laws_FnExactTermFold
  obtain ⟨cs, rfl, hcs⟩ := ht.cells
  have hg : aggB PP T_laws_Term cs.length = true := by rw [tmR_len hcs]; exact g_laws_Term
  refine vbox_agg fun b1 w1 hb1 he1 hs1 h1 => ?_
  refine szDeclS_spec (by decide) (by decide) hz (hd.ext he1) fun w2 r he2 hr => ?_
  simp only [push_cast]
  have hE2 := he1.trans he2
  refine vif_dec (fun _ => hK _ hE2) (fun c => ?_)
  rcases hr with h | ⟨r0, r1, r2⟩
  · omega
  rw [(h1.ext he2).ldAgg (t := T_laws_Term) hg]
  refine szTerm_spec t (ht.ext hE2) hs r0 r1 fun w3 r' he3 hr' => ?_
  simp only [push_cast]
  have hE3 := hE2.trans he3
  refine vif_dec (fun _ => hK _ hE3) (fun c' => ?_)
  rcases hr' with h | ⟨r0', r1', hfit⟩
  · omega
  have hdl : ds.length ≤ 1048576 := by omega
  have q3 := h1.ext (he2.trans he3)
  have hz2 := he2.size
  have hz3 := he3.size
  refine vjoin_of (Left w3 A) (fun C hC => ?_) ?_
  · exact region4 hSpec q3 (hd.ext hE3) hdl (ht.ext hE3) hfit hC
  rintro _ _ w4 ⟨bu, c0, rfl, he4, hbu, hbu', hblk0, ho0⟩
  simp only [push_cast]
  have hE4 := hE3.trans he4
  have hz4 := he4.size
  refine toDeclS_own (hd.ext hE4) hdl fun w5 x0 he5 hx0 hx0b => ?_
  have hE5 := hE4.trans he5
  have q5 := (q3.ext he4).ext he5
  have hz5 := he5.size
  have hx0l : ∀ b, x0.ownBlock = some b → b < w5.heap.size := fun b hb => (hx0.lt hb).2
  rw [q5.ldAgg (t := T_laws_Term) hg]
  refine toTerm_own t (ht.ext hE5) hfit fun w6 c6 he6 ho6 => ?_
  have hE6 := hE5.trans he6
  have hz6 := he6.size
  have hr6 := tmO_R _ ho6
  have hg6 : aggB PP T_impl_Term c6.length = true := by rw [tmR_len hr6]; exact g_impl_Term
  refine valloc_agg zr_impl_Term fun b7 w7 hb7 he7 hs7 h7 => ?_
  refine stTerm h7 rfl (hr6.ext he7) fun w8 hw8 hz8 h8 => ?_
  have he68 : Ext w6 w8 := Ext.then he7 hw8 fun y hy => by subst hy; omega
  have hE8 := hE6.trans he68
  have hz68 := he68.size
  have ho68 := tmO_ext ho6 he68
  rw [h8.ldAgg (t := T_impl_Term) hg6]
  refine hImpl (hx0.sl.ext (he6.trans he68)) (hr6.ext he68).term fun w9 c9 he9 ho9 => ?_
  have hE9 := hE8.trans he9
  have hz9 := he9.size
  have hr9 := tmO_R _ ho9
  have hg9 : aggB PP T_impl_Term c9.length = true := by rw [tmR_len hr9]; exact g_impl_Term
  have hg0 : aggB PP T_impl_Term c0.length = true := by rw [tmR_len (tmO_R _ ho0)]; exact g_impl_Term
  refine valloc_agg zr_impl_Term fun b10 w10 hb10 he10 hs10 h10 => ?_
  refine stTerm h10 rfl (hr9.ext he10) fun w11 hw11 hz11 h11 => ?_
  have he911 : Ext w9 w11 := Ext.then he10 hw11 fun y hy => by subst hy; omega
  have hE11 := hE9.trans he911
  have hz911 := he911.size
  have he411 : Ext w4 w11 := he5.trans (he6.trans (he68.trans (he9.trans he911)))
  rw [h11.ldAgg (t := T_impl_Term) hg9, (hblk0.ext he411).ldAgg (t := T_impl_Term) hg0]
  refine eqTerm_same A (hr9.ext he911).term ((tmO_R _ ho0).ext he411).term fun w12 he12 => ?_
  simp only [push_cast, Bool.not_true]
  have hE12 := hE11.trans he12
  refine toDeclS_spec (hd.ext hE12) hdl fun w13 dv13 he13 hd13 => ?_
  have hE13 := hE12.trans he13
  have he513 : Ext w5 w13 := he6.trans (he68.trans (he9.trans (he911.trans (he12.trans he13))))
  refine eqDeclS_same (ds := ds) (hx0.sl.ext he513) hd13 fun w14 he14 => ?_
  simp only [push_cast, Bool.not_true]
  have hE14 := hE13.trans he14
  refine vdraw_ext fun w15 he15 _ => ?_
  have hE15 := hE14.trans he15
  have he815 : Ext w8 w15 := he9.trans (he911.trans (he12.trans (he13.trans (he14.trans he15))))
  have he515 : Ext w5 w15 := he513.trans (he14.trans he15)
  simp only [(h8.ext he815).ldAgg (t := T_impl_Term) hg6, (q5.ext he515).ldAgg (t := T_laws_Term) hg, true_and]
  refine toTerm_spec t (ht.ext hE15) hfit fun w16 v16 he16 ht16 => ?_
  simp only [(h8.ext (he815.trans he16)).ldAgg (t := T_impl_Term) hg6, true_and, and_self]
  have hE16 := hE15.trans he16
  refine eqTerm_same t (hr6.ext (he68.trans (he815.trans he16))).term ht16 fun w17 he17 => ?_
  simp only [push_cast, Bool.not_true, true_and]
  have hE17 := hE16.trans he17
  have he517 : Ext w5 w17 := he515.trans (he16.trans he17)
  have he817 : Ext w8 w17 := he815.trans (he16.trans he17)
  have he1117 : Ext w11 w17 := he12.trans (he13.trans (he14.trans (he15.trans (he16.trans he17))))
  have hz817 := he817.size
  have hz1117 := he1117.size
  refine markDeclS_spec (hx0.ext he517) (by decide) (by rw [List.length_map]; omega) fun w18 hw18 => ?_
  rw [List.length_map]
  have hz18 := hw18.size
  have h8' := (h8.ext he817).same hw18 (fun e => by have := hx0l _ e; omega)
  have ho6' := tmO_same hw18 _ (tmO_ext ho68 he817) fun b hb e => by have := hx0l _ e; omega
  rw [h8'.ldAgg (t := T_impl_Term) hg6]
  refine markTerm_spec ho6' (by omega) (by omega) (fun b hb => by omega) fun w19 u6 hw19 ho19 hH19 => ?_
  have hz19 := hw19.size
  have hS19 : Same (fun b => x0.ownBlock = some b ∨ (w5.heap.size ≤ b ∧ b < w6.heap.size)) w17 w19 := (hw18.mono fun _ _ h => .inl h).trans (hw19.mono fun _ _ h => .inr h)
  have hE19 : Ext w w19 := Ext.then hE17 hS19 fun y hy => by
    rcases hy with hy | hy
    · have := hx0b y hy; omega
    · omega
  have h0' := ((hblk0.ext he411).ext he1117).same hS19 (fun e => by
    rcases e with e | e
    · have := hx0b _ e; omega
    · omega)
  have ho0' := tmO_same hS19 _ (tmO_ext (tmO_ext ho0 he411) he1117) fun b hb e => by
    rcases e with e | e
    · have := hx0b _ e; omega
    · omega
  have h11' := (h11.ext he1117).same hS19 (fun e => by
    rcases e with e | e
    · have := hx0l _ e; omega
    · omega)
  have ho9' := tmO_same hS19 _ (tmO_ext (tmO_ext ho9 he911) he1117) fun b hb e => by
    rcases e with e | e
    · have := hx0l _ e; omega
    · omega
  have q1' := (q5.ext he517).same hS19 (fun e => by
    rcases e with e | e
    · have := hx0b _ e; omega
    · omega)
  refine vjoin_of (fun u w' => u = [] ∧ Ext w19 w') (fun C hC => ?_) ?_
  · simp only [push_cast]
    refine vif_dec (fun a => by omega) (fun _ => ?_)
    rw [h11'.ldAgg (t := T_impl_Term) hg9, h0'.ldAgg (t := T_impl_Term) hg0]
    refine eqTerm_same A (tmO_R _ ho9').term (tmO_R _ ho0').term fun w20 he20 => ?_
    simp only [push_cast, Bool.not_true]
    exact hC _ _ ⟨rfl, he20⟩
  rintro _ _ w20 ⟨rfl, he20⟩
  have hE20 := hE19.trans he20
  have hz20 := he20.size
  rw [(h11'.ext he20).ldAgg (t := T_impl_Term) hg9]
  refine markTerm_spec (k := 1) (tmO_ext ho9' he20) (by decide) (by omega) (fun b hb => by omega) fun w21 u9 hw21 ho21 hH21 => ?_
  have hz21 := hw21.size
  have hE21 : Ext w w21 := Ext.then hE20 hw21 fun y hy => by omega
  have h21 := (h11'.ext he20).same hw21 (by omega)
  have h0'' := (h0'.ext he20).same hw21 (by omega)
  have ho0'' := tmO_same hw21 _ (tmO_ext ho0' he20) fun b hb e => by omega
  have q1'' := (q1'.ext he20).same hw21 (by omega)
  have hr21 := tmO_R _ ho21
  rw [h21.ldAgg (t := T_impl_Term) hg9]
  refine heldTerm_spec hr21.term hH21 (by decide) (by omega) fun w22 he22 => ?_
  simp only [push_cast]
  have hE22 := hE21.trans he22
  refine vif_dec (fun a => by omega) (fun _ => ?_)
  refine vif_dec (fun a => absurd rfl a) (fun _ => ?_)
  refine vjoin_of (Left w22 A) (fun C hC => ?_) ?_
  · exact region4 hImpl (q1''.ext he22) (hd.ext hE22) hdl (ht.ext hE22) hfit hC
  rintro _ _ w23 ⟨bh, ch, rfl, he23, hbh, hbh', hblkh, hoh⟩
  simp only [push_cast]
  have hgh : aggB PP T_impl_Term ch.length = true := by rw [tmR_len (tmO_R _ hoh)]; exact g_impl_Term
  have hE23 := hE22.trans he23
  rw [hblkh.ldAgg (t := T_impl_Term) hgh, (h0''.ext (he22.trans he23)).ldAgg (t := T_impl_Term) hg0]
  refine eqTerm_same A (tmO_R _ hoh).term ((tmO_R _ ho0'').ext (he22.trans he23)).term fun w24 he24 => ?_
  simp only [push_cast, Bool.not_true]
  rw [(h21.ext (he22.trans (he23.trans he24))).ldAgg (t := T_impl_Term) hg9]
  refine heldTerm_spec (hr21.ext (he22.trans (he23.trans he24))).term hH21 (by decide) (by omega) fun w25 he25 => ?_
  simp only [push_cast]
  refine vif_dec (fun a => by omega) (fun _ => ?_)
  refine vif_dec (fun a => absurd rfl a) (fun _ => ?_)
  exact hK _ (hE23.trans (he24.trans he25))
end Go.Proofs.YtcfgmgjofmbfhaaGreatDoor
end
