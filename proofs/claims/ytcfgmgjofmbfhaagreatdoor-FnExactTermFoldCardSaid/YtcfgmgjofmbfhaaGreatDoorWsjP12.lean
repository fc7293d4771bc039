import Derived.Test.YtcfgmgjofmbfhaaGreatDoorWsjP11
/- A part of the proof: Ye, Yf, Xg, Xh, M26, Yg. -/
set_option linter.unusedVariables false
set_option linter.unusedSimpArgs false
set_option linter.unnecessarySimpa false
set_option linter.unusedSectionVars false
section
namespace Go.Proofs.YtcfgmgjofmbfhaaGreatDoor
open Go Go.Vc Go.Proofs
variable {w : World} {K : Value → World → Prop} {F F' D G : Nat → Prop}
def fsL (dv : Value) (mb : Nat) : List Value := [n_impl_folder_fixed, n_impl_folder_branches, n_impl_folder_truths, n_impl_folder_layers, n_impl_folder_twins, n_impl_folder_seconds, n_impl_folder_firsts].map fun n => .func (.func n) #[folderV dv mb] #[]
theorem rules_spec {dv : Value} {mb : Nat} (hK : ∀ w' v, Ext w w' → Vals (fun _ => True) w' v (fsL dv mb) → K v w') : vcall PP n_impl_folder_rules #[folderV dv mb] w K := by
  apply c_impl_folder_rules; unfold F_impl_folder_rules
  refine vbox_agg fun b1 w1 hb1 he1 hs1 h1 => ?_
  simp (disch := (simp only [push_cast]; done)) only [push_cast, h1.ldAgg (t := T_impl_folder) g_impl_folder]
  refine vbuildS_row1 (xs := fsL dv mb) u_Lfunc_impl_Term_impl_Term_bool (by simp only [push_cast]) (z := .nilFunc) (by unfold zeroB; kernel_rfl) (fun x hx => by obtain ⟨y, _, rfl⟩ := List.mem_map.1 hx; rfl) (by show 7 ≤ 16777216; decide) fun b w' hb he hs hB => ?_
  have o : OwnV PP T_Lfunc_impl_Term_impl_Term_bool w' (.slice (some ⟨b, 0, none⟩) (fsL dv mb).length (fsL dv mb).length) (fsL dv mb) := Blk.own1 (P := PP) (t := T_Lfunc_impl_Term_impl_Term_bool) (by rw [eo_Lfunc_impl_Term_impl_Term_bool]; exact hB) (Nat.zero_le _) rfl rfl (by show 7 ≤ 9223372036854775807; decide)
  exact hK w' _ (he1.trans he) (OwnV.vals o |>.weaken fun _ _ _ => trivial)
def rl (ds : List M.Dcl) (t : M.Tm) (i : Nat) : Option M.Tm := [M.ruleX ds t, M.ruleB t, M.ruleT t, M.ruleL ds t, M.ruleW ds t, M.ruleS t, M.ruleF t].getD i none
theorem callRule {dv tv : Value} {mb : Nat} {ds : List M.Dcl} {t : M.Tm} {i : Nat} (hi : i < 7) (hd : DclsR F w dv ds) (hm : KindsR w mb) (hok : M.declOk ds = true) (ht : TermR G w tv t) (hs : M.sortM ds t ≠ -1) (hK : RuleK K w G (rl ds t i)) : vcallv PP ((fsL dv mb).getD i undef) #[tv] w K := by
  match i, hi with
  | 0, _ => exact fixed_spec hd hm hok ht hs hK
  | 1, _ => exact branches_spec hd hm hok ht hs hK
  | 2, _ => exact truths_spec hd hm ht hs hK
  | 3, _ => exact layers_spec hd hm hok ht hs hK
  | 4, _ => exact twins_spec hd hm hok ht hs hK
  | 5, _ => exact seconds_spec hd hm ht hK
  | 6, _ => exact firsts_spec hd hm ht hK
theorem rl_none {ds : List M.Dcl} {t : M.Tm} (h : ∀ j, j < 7 → rl ds t j = none) : M.ruleA ds t = none := by
  have h0 : M.ruleX ds t = none := h 0 (by omega)
  have h1 : M.ruleB t = none := h 1 (by omega)
  have h2 : M.ruleT t = none := h 2 (by omega)
  have h3 : M.ruleL ds t = none := h 3 (by omega)
  have h4 : M.ruleW ds t = none := h 4 (by omega)
  have h5 : M.ruleS t = none := h 5 (by omega)
  have h6 : M.ruleF t = none := h 6 (by omega)
  unfold M.ruleA
  rw [h0, h1, h2, h3, h4, h5, h6]; rfl
theorem rl_some {ds : List M.Dcl} {t u : M.Tm} {i : Nat} (hi : i < 7) (h : ∀ j, j < i → rl ds t j = none) (hu : rl ds t i = some u) : M.ruleA ds t = some u := by
  have g : ∀ j, j < i → rl ds t j = none := h
  unfold M.ruleA
  match i, hi with
  | 0, _ => rw [show M.ruleX ds t = some u from hu]; rfl
  | 1, _ => rw [show M.ruleX ds t = none from g 0 (by omega), show M.ruleB t = some u from hu]; rfl
  | 2, _ => rw [show M.ruleX ds t = none from g 0 (by omega), show M.ruleB t = none from g 1 (by omega), show M.ruleT t = some u from hu]; rfl
  | 3, _ => rw [show M.ruleX ds t = none from g 0 (by omega), show M.ruleB t = none from g 1 (by omega), show M.ruleT t = none from g 2 (by omega), show M.ruleL ds t = some u from hu]; rfl
  | 4, _ => rw [show M.ruleX ds t = none from g 0 (by omega), show M.ruleB t = none from g 1 (by omega), show M.ruleT t = none from g 2 (by omega), show M.ruleL ds t = none from g 3 (by omega), show M.ruleW ds t = some u from hu]; rfl
  | 5, _ => rw [show M.ruleX ds t = none from g 0 (by omega), show M.ruleB t = none from g 1 (by omega), show M.ruleT t = none from g 2 (by omega), show M.ruleL ds t = none from g 3 (by omega), show M.ruleW ds t = none from g 4 (by omega), show M.ruleS t = some u from hu]; rfl
  | 6, _ => rw [show M.ruleX ds t = none from g 0 (by omega), show M.ruleB t = none from g 1 (by omega), show M.ruleT t = none from g 2 (by omega), show M.ruleL ds t = none from g 3 (by omega), show M.ruleW ds t = none from g 4 (by omega), show M.ruleS t = none from g 5 (by omega), show M.ruleF t = some u from hu]; rfl
theorem one_spec {dv tv : Value} {mb : Nat} {ds : List M.Dcl} {t : M.Tm} (hd : DclsR F w dv ds) (hm : KindsR w mb) (hok : M.declOk ds = true) (ht : TermR G w tv t) (hs : M.sortM ds t ≠ -1) (hK : ∀ w' rv, Ext w w' → TermR (fun x => G x ∨ w.heap.size ≤ x) w' rv (M.oneT ds t) → K rv w') : vcall PP n_impl_folder_one #[folderV dv mb, tv] w K := by
  apply c_impl_folder_one; unfold F_impl_folder_one
  refine rs_enter (B := fun t2 t3 t4 w_3 => _) hd hm ht fun w1 b2 b3 b4 kv rs => ?_
  rw [rs.f.ldAgg (t := T_impl_folder) g_impl_folder]
  refine rules_spec fun w2 fv he2 hfv => ?_
  have r2 := rs_ext rs he2
  simp (disch := (simp only [push_cast]; done)) only [push_cast, hfv.len]
  have h7 : (fsL dv mb).length = 7 := rfl
  rw [h7]
  refine vloop_up 7 (fun i u w' => u = [.int .i64 i] ∧ Ext w2 w' ∧ ∀ j, j < i → rl ds t j = none) ⟨rfl, Same.refl _ _, fun j hj => absurd hj (by omega)⟩ ?_
  rintro i _ _ w3 C hi ⟨rfl, he3, hall⟩ hC
  have r3 := rs_ext r2 he3
  have f3 := hfv.ext he3
  simp only [push_cast]
  refine vif_dec (fun a => ?_) (fun a => ?_)
  · have hi7 : i < 7 := by omega
    simp (disch := first | (simp only [push_cast]; done) | (rw [h7]; omega) | omega) only [push_cast, f3.iaddr, f3.load, r3.q.ldAgg (t := T_impl_Term) g_impl_Term]
    refine callRule (G := fun x => G x ∧ x < w.heap.size) hi7 r3.d r3.m hok ⟨kv, rfl, r3.k⟩ hs fun w4 rv u he4 hu hsome => ?_
    have r4 := rs_ext r3 he4
    simp only [push_cast]
    obtain ⟨cu, rfl, hcu⟩ := hu.cells
    refine valloc_agg zr_impl_Term fun b5 w5 hb5 he5 hs5 h5 => ?_
    have hcu5 := (hcu.weaken (F' := fun x => ((G x ∧ x < w.heap.size) ∨ w3.heap.size ≤ x) ∧ x < w4.heap.size) fun b h h' => ⟨h, h'⟩).ext he5
    refine stTerm h5 rfl hcu5 fun w6 hw6 hz6 h6 => ?_
    have e46 : Ext w4 w6 := Ext.then he5 hw6 fun y hy => by subst hy; omega
    have r6 := rs_ext r4 e46
    have hcu6 : TmR (fun x => (G x ∧ x < w.heap.size) ∨ w3.heap.size ≤ x) w6 cu u := hcu.ext e46
    cases e : rl ds t i with
    | none =>
      simp only [push_cast, Option.isSome_none]
      rw [inc64' (by omega)]
      refine hC (by omega) _ _ ⟨rfl, he3.trans (he4.trans e46), fun j hj => ?_⟩
      by_cases ej : j < i
      · exact hall j ej
      · have : j = i := by omega
        subst this; exact e
    | some x =>
      simp only [push_cast, Option.isSome_some]
      rw [h6.ldAgg (t := T_impl_Term) (by rw [tmR_len hcu]; exact g_impl_Term)]
      have hx := hsome x e
      subst hx
      have l4 := r3.r.lt
      refine retTerm r6.r rfl hcu6 (fun x hx => by have := r3.lo; omega) fun w7 hw7 hz7 ht7 => ?_
      have hone : M.oneT ds t = u := by unfold M.oneT; rw [rl_some hi7 hall e]; rfl
      rw [hone] at hK
      refine hK _ _ (Ext.then r6.ext hw7 fun y hy => by subst hy; exact r6.lo) (ht7.weaken fun x hx _ => ?_)
      have := r3.ext.size
      rcases hx with h | h
      · exact .inl h.1
      · exact .inr (by omega)
  · rw [r3.q.ldAgg (t := T_impl_Term) g_impl_Term]
    have hone : M.oneT ds t = t := by unfold M.oneT; rw [rl_none fun j hj => hall j (by omega)]; rfl
    rw [hone] at hK
    refine retTerm r3.r rfl (TmR.of (t := t) r3.k) (fun x hx => by have := r3.lo; omega) fun w7 hw7 hz7 ht7 => ?_
    exact hK _ _ (Ext.then r3.ext hw7 fun y hy => by subst hy; exact r3.lo) (ht7.weaken fun x hx _ => .inl hx.1)
theorem fold_spec : ∀ (t : M.Tm) {w : World} {K : Value → World → Prop} {F G : Nat → Prop} {dv tv : Value} {mb : Nat} {ds : List M.Dcl}, DclsR F w dv ds → KindsR w mb → M.declOk ds = true → TermR G w tv t → M.sortM ds t ≠ -1 → (∀ w' rv, Ext w w' → TermR (fun x => G x ∨ w.heap.size ≤ x) w' rv (M.foldT ds t) → K rv w') → vcall PP n_impl_folder_fold #[folderV dv mb, tv] w K := by
  refine M.Tm.ind fun t ih w K F G dv tv mb ds hd hm hok ht hs hK => ?_
  have hlen := M.len_of hs
  have hsm : t.ks.length ≤ 3 := by
    unfold M.arity at hlen
    repeat' split at hlen
    all_goals omega
  apply c_impl_folder_fold; unfold F_impl_folder_fold
  obtain ⟨kv, rfl, hks⟩ := ht
  refine vbox_agg fun b1 w1 hb1 he1 hs1 h1 => ?_
  refine vbox_agg fun b2 w2 hb2 he2 hs2 h2 => ?_
  refine valloc_agg zr_impl_Term fun b3 w3 hb3 he3 hs3 h3 => ?_
  have hz1 := he1.size
  have q3 := h2.ext he3
  have f3 := (h1.ext he2).ext he3
  have hE3 := he1.trans (he2.trans he3)
  have hk3 : TmsR (fun x => G x ∧ x < w.heap.size) w3 kv t.ks := (hks.weaken fun b h h' => ⟨h, h'⟩).ext hE3
  simp (disch := (simp only [push_cast]; done)) only [push_cast, q3.ld4]
  refine q3.st (i := 4) rfl rfl z_Limpl_Term rfl fun w4 hw4 hz4 h4 => ?_
  replace h4 : Blk w4 b2 [.int .i64 t.op, .int .i64 t.a, .int .i64 t.b, .string t.s, .slice none 0 0] T_impl_Term := h4
  have hE4 : Ext w w4 := Ext.then hE3 hw4 fun y hy => by subst hy; omega
  have hk4 := hk3.same hw4 fun b hb _ e => by omega
  have f4 := f3.same hw4 (by omega)
  have r4 := h3.same hw4 (by omega)
  simp (disch := (simp only [push_cast]; done)) only [push_cast, hk4.len]
  refine vloop_up t.ks.length (fun i u w' => u = [.int .i64 i] ∧ Same (fun b => b = b2) w4 w' ∧ ∃ kv' css, Blk w' b2 [.int .i64 t.op, .int .i64 t.a, .int .i64 t.b, .string t.s, kv'] T_impl_Term ∧ Own PP 0 5 T_Limpl_Term w' kv' css ∧ css.length = i ∧ (∀ b, kv'.ownBlock = some b → w4.heap.size ≤ b) ∧
      ∀ j, j < i → TmR (fun x => (G x ∧ x < w.heap.size) ∨ (w4.heap.size ≤ x ∧ kv'.ownBlock ≠ some x)) w' (css.getD j []) (M.foldT ds (t.ks.getD j default)))
    ⟨rfl, Same.refl _ _, _, [], h4, Own.nil _ _ _ _ _, rfl, fun b h => (by cases h), fun j hj => absurd hj (by omega)⟩ ?_
  rintro i _ _ w5 C hi ⟨rfl, hs5, kv', css, h5, ho5, hl5, hlo5, hkk5⟩ hC
  have hz5 := hs5.size
  have hE5 : Ext w w5 := Ext.then hE4 hs5 fun y hy => by subst hy; omega
  have hk5 := hk4.same hs5 fun b hb _ e => by omega
  have f5 := f4.same hs5 (by omega)
  simp only [push_cast]
  refine vif_dec (fun a => ?_) (fun a => ?_)
  · simp (disch := first | (simp only [push_cast]; done) | omega) only [push_cast, hk5.iaddr]
    refine hk5.load g_impl_Term (by omega) fun x hx => ?_
    obtain ⟨cx, rfl, hcx⟩ := hx.cells
    refine valloc_agg zr_impl_Term fun b6 w6 hb6 he6 hs6 h6 => ?_
    refine stTerm h6 rfl (hcx.ext he6) fun w7 hw7 hz7 h7 => ?_
    have e57 : Ext w5 w7 := Ext.then he6 hw7 fun y hy => by subst hy; omega
    refine vdraw_ext fun w8 he8 _ => ?_
    have e58 := e57.trans he8
    have q8 := h5.ext e58
    have f8 := f5.ext e58
    have v8 := h7.ext he8
    simp (disch := (simp only [push_cast]; done)) only [push_cast, q8.ld4, f8.ldAgg (t := T_impl_folder) g_impl_folder, v8.ldAgg (t := T_impl_Term) (by rw [tmR_len hcx]; exact g_impl_Term), true_and]
    have hmem : t.ks.getD i default ∈ t.ks := M.getD_mem (by omega) _
    refine ih _ hmem (hd.ext (hE5.trans e58)) (hm.ext (hE5.trans e58)) hok (hcx.ext e58).term ((M.sort_parts hs).2.1 _ hmem) fun w9 rv he9 hrv => ?_
    obtain ⟨cr, rfl, hcr⟩ := hrv.cells
    have q9 := q8.ext he9
    simp (disch := (simp only [push_cast]; done)) only [push_cast, q9.ld4, true_and, and_self]
    have hz58 := e58.size
    have hz9 := he9.size
    refine vbuildS1 u_Limpl_Term z_impl_Term zr_impl_Term rfl (tmR_len hcr) (by decide) fun b10 w10 hb10 he10 hs10 h10 => ?_
    have q10 := q9.ext he10
    simp (disch := (simp only [push_cast]; done)) only [push_cast, q10.ld4, true_and, and_self]
    have e510 := e58.trans (he9.trans he10)
    have ho10 := ho5.ext e510
    refine Own.app1k ho10 l_Limpl_Term (by decide) h10 (tmR_len hcr) (tmR_one hcr) (by omega) (by omega) fun kv2 w11 ho11 hw11 hn11 => ?_
    have q11 := q10.same hw11 (fun e => by have := hlo5 _ e; have := h5.lt; omega)
    have hz11 := hw11.size
    try simp only [push_cast, true_and]
    have hkc : kv2.cells = #[kv2] ∧ kv2.oneCell' = true := by
      obtain ⟨a, c, rfl, _⟩ := ho11.sl.shape
      exact ⟨rfl, rfl⟩
    refine q11.st (i := 4) hkc.1 hkc.2 z_Limpl_Term rfl fun w12 hw12 hz12 h12 => ?_
    replace h12 : Blk w12 b2 [.int .i64 t.op, .int .i64 t.a, .int .i64 t.b, .string t.s, kv2] T_impl_Term := h12
    rw [inc64' (by omega)]
    have hz10 := he10.size
    have hkv2 : ∀ b, kv2.ownBlock = some b → w4.heap.size ≤ b := fun b hb => by
      rcases hn11 b hb with h | h
      · exact hlo5 b h
      · omega
    have hS : Same (fun b => b = b2 ∨ kv'.ownBlock = some b) w5 w12 := (Same.of_ext e510).trans ((hw11.mono fun _ _ h => .inr h).trans (hw12.mono fun _ _ h => .inl h))
    have hS4 : Same (fun b => b = b2) w4 w12 := ⟨hS.os.trans hs5.os, hS.tape.trans hs5.tape, hS.output.trans hs5.output, Nat.le_trans hs5.size hS.size, fun b hb hne => (hS.block b (by omega) (fun e => e.elim hne fun e => by have := hlo5 b e; omega)).trans (hs5.block b hb hne)⟩
    refine hC (by omega) _ _ ⟨rfl, hS4, kv2, css ++ [cr], h12, ho11.same hw12 (fun b hb e => by have := hkv2 b hb; omega), by simp [hl5], hkv2, fun j hj => ?_⟩
    by_cases ej : j < i
    · rw [List.getD_eq_getElem?_getD, List.getElem?_append_left (by omega), ← List.getD_eq_getElem?_getD]
      refine ((hkk5 j ej).weaken (F' := fun x => ((G x ∧ x < w.heap.size) ∨ (w4.heap.size ≤ x ∧ kv'.ownBlock ≠ some x)) ∧ x < w5.heap.size) fun b h h' => ⟨h, h'⟩).same hS (fun b hb _ e => ?_) |>.weaken fun b hb _ => ?_
      · rcases hb.1 with h | h
        · rcases e with e | e
          · omega
          · have := hlo5 b e; omega
        · rcases e with e | e
          · omega
          · exact h.2 e
      · rcases hb.1 with h | h
        · exact .inl h
        · refine .inr ⟨h.1, fun e => ?_⟩
          rcases hn11 b e with e | e
          · exact h.2 e
          · omega
    · have : j = i := by omega
      subst this
      rw [List.getD_eq_getElem?_getD, List.getElem?_append_right (by omega), hl5, Nat.sub_self]
      show TmR _ w12 cr _
      refine (((hcr.weaken (F' := fun x => ((G x ∧ x < w.heap.size) ∨ w8.heap.size ≤ x) ∧ x < w9.heap.size) fun b h h' => ⟨h, h'⟩).ext he10).same hw11 (fun b hb _ e => ?_)).same hw12 (fun b hb _ e => ?_) |>.weaken fun b hb _ => ?_
      · have := hlo5 b e
        have := (ho5.lt e).2
        rcases hb.1 with h | h <;> omega
      · rcases hb.1 with h | h <;> omega
      · rcases hb.1 with h | h
        · exact .inl h
        · refine .inr ⟨by omega, fun e => ?_⟩
          rcases hn11 b e with e | e
          · have := (ho5.lt e).2; omega
          · omega
  · have hi' : i = t.ks.length := by omega
    subst hi'
    rw [f5.ldAgg (t := T_impl_folder) g_impl_folder, h5.ldAgg (t := T_impl_Term) g_impl_Term]
    have hkk : TmsR (fun x => (G x ∧ x < w.heap.size) ∨ w4.heap.size ≤ x) w5 kv' (t.ks.map (M.foldT ds)) := by
      refine ⟨css, ho5.sl.weaken fun b hb _ => .inr (hlo5 b hb), by rw [hl5, List.length_map], fun j hj => ?_⟩
      rw [List.length_map] at hj
      rw [M.getD_map _ hj _ default]
      exact (hkk5 j hj).weaken fun b hb _ => hb.imp id fun h => h.1
    have hgood := M.kids_good hok hs
    refine one_spec (t := M.remake t (t.ks.map (M.foldT ds))) (hd.ext hE5) (hm.ext hE5) hok ⟨kv', rfl, hkk⟩ (by rw [hgood.sort]; exact hs) fun w6 rv he6 hrv => ?_
    rw [← M.foldT_rem] at hrv
    obtain ⟨cr, rfl, hcr⟩ := hrv.cells
    have r6 := (r4.same hs5 (by omega)).ext he6
    have := r4.lt
    refine retTerm r6 rfl hcr (fun x hx => by rcases hx with (h | h) | h <;> omega) fun w7 hw7 hz7 ht7 => ?_
    have hz4' := hE4.size
    exact hK _ _ (Ext.then (hE5.trans he6) hw7 fun y hy => by subst hy; omega) (ht7.weaken fun x hx _ => by
      rcases hx with (h | h) | h
      · exact .inl h.1
      · exact .inr (by omega)
      · exact .inr (by omega))
end Go.Proofs.YtcfgmgjofmbfhaaGreatDoor
end
section
namespace Go.Proofs.YtcfgmgjofmbfhaaGreatDoor
open Go Go.Vc Go.Proofs
variable {w : World} {K : Value → World → Prop} {F F' D G : Nat → Prop}
inductive TmO (w : World) : (Nat → Prop) → List Value → M.Tm → Prop
  | mk {D : Nat → Prop} {kv : Value} {t : M.Tm} (css : List (List Value)) (Ds : Nat → Nat → Prop) (own : Own PP 0 5 T_Limpl_Term w kv css) (hl : css.length = t.ks.length)
      (hb : ∀ b, kv.ownBlock = some b → D b ∧ ∀ i, i < t.ks.length → ¬ Ds i b) (hd : ∀ i j b, i < j → j < t.ks.length → Ds i b → ¬ Ds j b) (hs : ∀ i b, i < t.ks.length → Ds i b → D b)
      (hk : ∀ i, i < t.ks.length → TmO w (Ds i) (css.getD i []) (t.ks.getD i default)) : TmO w D [.int .i64 t.op, .int .i64 t.a, .int .i64 t.b, .string t.s, kv] t
theorem tmO_inv {cs : List Value} {t : M.Tm} (h : TmO w D cs t) : ∃ (kv : Value) (css : List (List Value)) (Ds : Nat → Nat → Prop), cs = [.int .i64 t.op, .int .i64 t.a, .int .i64 t.b, .string t.s, kv] ∧ Own PP 0 5 T_Limpl_Term w kv css ∧ css.length = t.ks.length ∧
    (∀ b, kv.ownBlock = some b → D b ∧ ∀ i, i < t.ks.length → ¬ Ds i b) ∧ (∀ i j b, i < j → j < t.ks.length → Ds i b → ¬ Ds j b) ∧ (∀ i b, i < t.ks.length → Ds i b → D b) ∧ ∀ i, i < t.ks.length → TmO w (Ds i) (css.getD i []) (t.ks.getD i default) := by
  cases h with
  | mk css Ds own hl hb hd hs hk => exact ⟨_, css, Ds, rfl, own, hl, hb, hd, hs, hk⟩
theorem tmO_R : ∀ (t : M.Tm) {D : Nat → Prop} {cs : List Value}, TmO w D cs t → TmR D w cs t := by
  refine M.Tm.ind fun t ih D cs h => ?_
  obtain ⟨kv, css, Ds, rfl, own, hl, hb, hd, hs, hk⟩ := tmO_inv h
  exact TmR.of ⟨css, own.sl.weaken fun b hb' _ => (hb b hb').1, hl, fun i hi => (ih _ (M.getD_mem hi _) (hk i hi)).weaken fun b hb' _ => hs i b hi hb'⟩
theorem tmO_same {S : Nat → Prop} {w w' : World} (hw : Same S w w') : ∀ (t : M.Tm) {D : Nat → Prop} {cs : List Value}, TmO w D cs t → (∀ b, D b → ¬ S b) → TmO w' D cs t := by
  refine M.Tm.ind fun t ih D cs h hn => ?_
  obtain ⟨kv, css, Ds, rfl, own, hl, hb, hd, hs, hk⟩ := tmO_inv h
  exact .mk css Ds (own.same hw fun b h' => hn b (hb b h').1) hl hb hd hs fun i hi => ih _ (M.getD_mem hi _) (hk i hi) fun b hb' => hn b (hs i b hi hb')
theorem tmO_ext {w' : World} {cs : List Value} {t : M.Tm} (h : TmO w D cs t) (hw : Ext w w') : TmO w' D cs t := tmO_same hw t h fun _ _ h => h
theorem tmO_weaken {cs : List Value} {t : M.Tm} (h : TmO w D cs t) (hd' : ∀ b, D b → F b) : TmO w F cs t := by
  obtain ⟨kv, css, Ds, rfl, own, hl, hb, hd, hs, hk⟩ := tmO_inv h
  exact .mk css Ds own hl (fun b h => ⟨hd' b (hb b h).1, (hb b h).2⟩) hd (fun i b hi h => hd' b (hs i b hi h)) hk
structure Grow (lo : Nat) (w : World) (kv : Value) (css : List (List Value)) (us : List M.Tm) (Ds : Nat → Nat → Prop) : Prop where
  own : Own PP 0 5 T_Limpl_Term w kv css
  len : css.length = us.length
  blk : ∀ b, kv.ownBlock = some b → lo ≤ b ∧ ∀ j, j < us.length → ¬ Ds j b
  dis : ∀ j k b, j < k → k < us.length → Ds j b → ¬ Ds k b
  sub : ∀ j b, j < us.length → Ds j b → lo ≤ b ∧ b < w.heap.size
  kid : ∀ j, j < us.length → TmO w (Ds j) (css.getD j []) (us.getD j default)
theorem grow_nil (lo : Nat) (w : World) : Grow lo w (.slice none 0 0) [] [] fun _ _ => False :=
  ⟨Own.nil _ _ _ _ _, rfl, fun b h => (by cases h), fun j k b _ hk => absurd hk (by simp), fun j b hj => absurd hj (by simp), fun j hj => absurd hj (by simp)⟩
theorem grow_same {S : Nat → Prop} {lo : Nat} {kv : Value} {w' : World} {css : List (List Value)} {us : List M.Tm} {Ds : Nat → Nat → Prop} (h : Grow lo w kv css us Ds) (hw : Same S w w') (hs : ∀ b, lo ≤ b → ¬ S b) : Grow lo w' kv css us Ds :=
  ⟨h.own.same hw fun b hb => hs b (h.blk b hb).1, h.len, h.blk, h.dis, fun j b hj hb => ⟨(h.sub j b hj hb).1, Nat.lt_of_lt_of_le (h.sub j b hj hb).2 hw.size⟩, fun j hj => tmO_same hw _ (h.kid j hj) fun b hb => hs b (h.sub j b hj hb).1⟩
theorem grow_push {lo b10 : Nat} {kv : Value} {w5 w8 w9 w10 : World} {css : List (List Value)} {us : List M.Tm} {Ds : Nat → Nat → Prop} {cr : List Value} {u : M.Tm} (h : Grow lo w5 kv css us Ds) (e8 : Ext w5 w8) (e9 : Ext w8 w9) (hlo : lo ≤ w8.heap.size)
    (hr : TmO w9 (fun b => w8.heap.size ≤ b ∧ b < w9.heap.size) cr u) (e10 : Ext w9 w10) (h10 : Blk w10 b10 cr T_impl_Term) (hsm : us.length ≤ 1048576)
    (hK : ∀ kv2 w11 Ds2, Grow lo w11 kv2 (css ++ [cr]) (us ++ [u]) Ds2 → Same (fun b => kv.ownBlock = some b) w10 w11 → kv2.cells = #[kv2] → kv2.oneCell' = true → K kv2 w11) :
    vbi PP .append [T_Limpl_Term, T_Limpl_Term] T_Limpl_Term [kv, .slice (some ⟨b10, 0, none⟩) 1 1] w10 K := by
  have hcr := tmO_R _ hr
  have e510 := e8.trans (e9.trans e10)
  have g10 := grow_same h e510 fun b _ h => h
  have hz8 := e8.size
  have hz9 := e9.size
  have hz10 := e10.size
  have hl := h.len
  refine Own.app1k g10.own l_Limpl_Term (by decide) h10 (tmR_len hcr) (tmR_one hcr) (by omega) (by omega) fun kv2 w11 ho11 hw11 hn11 => ?_
  have hz11 := hw11.size
  have hkc : kv2.cells = #[kv2] ∧ kv2.oneCell' = true := by
    obtain ⟨a, c, rfl, _⟩ := ho11.sl.shape
    exact ⟨rfl, rfl⟩
  have hold : ∀ b, kv.ownBlock = some b → b < w5.heap.size := fun b hb => (h.own.lt hb).2
  refine hK kv2 w11 (fun j b => (j = us.length ∧ w8.heap.size ≤ b ∧ b < w9.heap.size) ∨ (j < us.length ∧ Ds j b)) ⟨ho11, by simp [hl], fun b hb => ?_, fun j k b hjk hk hj hk' => ?_, fun j b hj hb => ?_, fun j hj => ?_⟩ hw11 hkc.1 hkc.2
  · rcases hn11 b hb with e | e
    · refine ⟨(h.blk b e).1, fun j hj hd => ?_⟩
      rcases hd with ⟨_, h1, _⟩ | ⟨h1, h2⟩
      · have := hold b e; omega
      · exact (h.blk b e).2 j h1 h2
    · refine ⟨by omega, fun j hj hd => ?_⟩
      rcases hd with ⟨_, _, h1⟩ | ⟨h1, h2⟩
      · omega
      · have := (h.sub j b h1 h2).2; omega
  · rw [List.length_append, List.length_singleton] at hk
    rcases hj with ⟨h1, h2, h3⟩ | ⟨h1, h2⟩
    · omega
    · rcases hk' with ⟨g1, g2, g3⟩ | ⟨g1, g2⟩
      · have := (h.sub j b h1 h2).2; omega
      · exact h.dis j k b hjk g1 h2 g2
  · rcases hb with ⟨h1, h2, h3⟩ | ⟨h1, h2⟩
    · exact ⟨by omega, by omega⟩
    · have := h.sub j b h1 h2; exact ⟨this.1, by omega⟩
  · rw [List.length_append, List.length_singleton] at hj
    by_cases e : j < us.length
    · rw [List.getD_eq_getElem?_getD, List.getElem?_append_left (by omega), ← List.getD_eq_getElem?_getD, List.getD_eq_getElem?_getD (l := us ++ [u]), List.getElem?_append_left e, ← List.getD_eq_getElem?_getD]
      refine tmO_weaken (tmO_same hw11 _ (g10.kid j e) fun b hb hs => (h.blk b hs).2 j e hb) fun b hb => .inr ⟨e, hb⟩
    · have : j = us.length := by omega
      subst this
      rw [List.getD_eq_getElem?_getD, List.getElem?_append_right (by omega), hl, Nat.sub_self, List.getD_eq_getElem?_getD (l := us ++ [u]), List.getElem?_append_right (Nat.le_refl _), Nat.sub_self]
      show TmO w11 _ cr u
      refine tmO_weaken (tmO_same hw11 _ (tmO_ext hr e10) fun b hb hs => by have := hold b hs; omega) fun b hb => .inl ⟨rfl, hb⟩
theorem grow_done {lo : Nat} {kv : Value} {css : List (List Value)} {t : M.Tm} {Ds : Nat → Nat → Prop} (h : Grow lo w kv css t.ks Ds) : TmO w (fun b => lo ≤ b ∧ b < w.heap.size) [.int .i64 t.op, .int .i64 t.a, .int .i64 t.b, .string t.s, kv] t :=
  .mk css Ds h.own h.len (fun b hb => ⟨⟨(h.blk b hb).1, (h.own.lt hb).2⟩, (h.blk b hb).2⟩) h.dis (fun i b hi hb => h.sub i b hi hb) h.kid
theorem retO {b : Nat} {cs cs' : List Value} {t : TypeId} {t' : M.Tm} {K : Value → World → Prop} (h : Blk w b cs t) (hl : cs.length = 5) (hc : TmO w G cs' t') (hG : ∀ x, G x → x ≠ b) (hK : ∀ w', Same (· = b) w w' → w'.heap.size = w.heap.size → TmO w' G cs' t' → K (.agg ⟨cs'⟩) w') :
    vstore PP T_impl_Term (.pointer (some ⟨b, 0, none⟩)) (.agg ⟨cs'⟩) w fun _ w1 => vlv PP T_impl_Term (.pointer (some ⟨b, 0, none⟩)) w1 fun r w2 => K r w2 :=
  retTerm h hl (tmO_R _ hc) hG fun w' hw hz _ => hK w' hw hz (tmO_same hw _ hc fun b' hb' e => hG b' hb' e)
theorem take_snoc {us : List M.Tm} {i : Nat} (h : i < us.length) : us.take i ++ [us.getD i default] = us.take (i + 1) := (M.take_add h default).symm
theorem copyTerm_spec : ∀ (t : M.Tm) {w : World} {K : Value → World → Prop} {F : Nat → Prop} {v : Value}, TermR F w v t → fitB t = true → (∀ w' cs, Ext w w' → TmO w' (fun b => w.heap.size ≤ b ∧ b < w'.heap.size) cs t → K (.agg ⟨cs⟩) w') → vcall PP n_impl_copyTerm #[v] w K := by
  refine M.Tm.ind fun t ih w K F v ht hfit hK => ?_
  obtain ⟨f1, f2⟩ := fitB_iff.1 hfit
  apply c_impl_copyTerm; unfold F_impl_copyTerm
  obtain ⟨kv, rfl, hks⟩ := ht
  refine vbox_agg fun b1 w1 hb1 he1 hs1 h1 => ?_
  refine valloc_agg zr_impl_Term fun b2 w2 hb2 he2 hs2 h2 => ?_
  have hz1 := he1.size
  have q2 := h1.ext he2
  have hE2 := he1.trans he2
  have hk2 : TmsR (fun x => x < w.heap.size) w2 kv t.ks := (hks.weaken fun b _ h' => h').ext hE2
  simp (disch := (simp only [push_cast]; done)) only [push_cast, q2.ld4]
  refine q2.st (i := 4) rfl rfl z_Limpl_Term rfl fun w4 hw4 hz4 h4 => ?_
  replace h4 : Blk w4 b1 [.int .i64 t.op, .int .i64 t.a, .int .i64 t.b, .string t.s, .slice none 0 0] T_impl_Term := h4
  have hE4 : Ext w w4 := Ext.then hE2 hw4 fun y hy => by subst hy; omega
  have hk4 := hk2.same hw4 fun b hb _ e => by omega
  have r4 := h2.same hw4 (by omega)
  simp (disch := (simp only [push_cast]; done)) only [push_cast, hk4.len]
  refine vloop_up t.ks.length (fun i u w' => u = [.int .i64 i] ∧ Same (fun b => b = b1) w4 w' ∧ ∃ kv' css Ds, Blk w' b1 [.int .i64 t.op, .int .i64 t.a, .int .i64 t.b, .string t.s, kv'] T_impl_Term ∧ Grow w4.heap.size w' kv' css (t.ks.take i) Ds)
    ⟨rfl, Same.refl _ _, _, [], _, h4, grow_nil _ _⟩ ?_
  rintro i _ _ w5 C hi ⟨rfl, hs5, kv', css, Ds, h5, g5⟩ hC
  have hz5 := hs5.size
  have hz4' := hE4.size
  have hE5 : Ext w w5 := Ext.then hE4 hs5 fun y hy => by subst hy; omega
  have hk5 := hk4.same hs5 fun b hb _ e => by omega
  simp only [push_cast]
  refine vif_dec (fun a => ?_) (fun a => ?_)
  · simp (disch := first | (simp only [push_cast]; done) | omega) only [push_cast, hk5.iaddr]
    refine hk5.load g_impl_Term (by omega) fun x hx => ?_
    obtain ⟨cx, rfl, hcx⟩ := hx.cells
    refine valloc_agg zr_impl_Term fun b6 w6 hb6 he6 hs6 h6 => ?_
    refine stTerm h6 rfl (hcx.ext he6) fun w7 hw7 hz7 h7 => ?_
    have e57 : Ext w5 w7 := Ext.then he6 hw7 fun y hy => by subst hy; omega
    refine vdraw_ext fun w8 he8 _ => ?_
    have e58 := e57.trans he8
    have q8 := h5.ext e58
    have v8 := h7.ext he8
    simp (disch := (simp only [push_cast]; done)) only [push_cast, q8.ld4, v8.ldAgg (t := T_impl_Term) (by rw [tmR_len hcx]; exact g_impl_Term), true_and]
    have hmem : t.ks.getD i default ∈ t.ks := M.getD_mem (by omega) _
    have hz58 := e58.size
    refine ih _ hmem (hcx.ext e58).term (f2 _ hmem) fun w9 cr he9 hr => ?_
    have q9 := q8.ext he9
    simp (disch := (simp only [push_cast]; done)) only [push_cast, q9.ld4, true_and, and_self]
    have hcr := tmO_R _ hr
    refine vbuildS1 u_Limpl_Term z_impl_Term zr_impl_Term rfl (tmR_len hcr) (by decide) fun b10 w10 hb10 he10 hs10 h10 => ?_
    have q10 := q9.ext he10
    simp (disch := (simp only [push_cast]; done)) only [push_cast, q10.ld4, true_and, and_self]
    refine grow_push g5 e58 he9 (by omega) hr he10 h10 (by rw [List.length_take]; omega) fun kv2 w11 Ds2 g11 hw11 kc1 kc2 => ?_
    have q11 := q10.same hw11 (fun e => by have := (g5.blk _ e).1; omega)
    try simp only [push_cast, true_and]
    refine q11.st (i := 4) kc1 kc2 z_Limpl_Term rfl fun w12 hw12 hz12 h12 => ?_
    replace h12 : Blk w12 b1 [.int .i64 t.op, .int .i64 t.a, .int .i64 t.b, .string t.s, kv2] T_impl_Term := h12
    rw [inc64' (by omega)]
    have hS : Same (fun b => b = b1 ∨ kv'.ownBlock = some b) w5 w12 := (Same.of_ext (e58.trans (he9.trans he10))).trans ((hw11.mono fun _ _ h => .inr h).trans (hw12.mono fun _ _ h => .inl h))
    have hS4 : Same (fun b => b = b1) w4 w12 := ⟨hS.os.trans hs5.os, hS.tape.trans hs5.tape, hS.output.trans hs5.output, Nat.le_trans hs5.size hS.size, fun b hb hne => (hS.block b (by omega) (fun e => e.elim hne fun e => by have := (g5.blk b e).1; omega)).trans (hs5.block b hb hne)⟩
    rw [take_snoc (by omega)] at g11
    exact hC (by omega) _ _ ⟨rfl, hS4, kv2, _, Ds2, h12, grow_same g11 hw12 fun b hb e => by omega⟩
  · have hi' : i = t.ks.length := by omega
    subst hi'
    rw [List.take_length] at g5
    rw [h5.ldAgg (t := T_impl_Term) g_impl_Term]
    refine retO (r4.same hs5 (by omega)) rfl (grow_done g5) (fun x hx => by omega) fun w6 hw6 hz6 ho6 => ?_
    exact hK _ _ (Ext.then hE5 hw6 fun y hy => by subst hy; omega) (tmO_weaken ho6 fun b hb => ⟨by omega, by omega⟩)
@[push_cast] theorem bd_T4 (o a b : Int) (s : ByteArray) : vbuild PP T_impl_Term [(0, .int .i64 o), (1, .int .i64 a), (2, .int .i64 b), (3, .string s)] w K = K (.agg ⟨[.int .i64 o, .int .i64 a, .int .i64 b, .string s, .slice none 0 0]⟩) w := vbuild_eq b_impl_Term (us := [[.int .i64 o], [.int .i64 a], [.int .i64 b], [.string s]]) rfl rfl
theorem l3Copy_spec : ∀ (t : M.Tm) {w : World} {K : Value → World → Prop} {F : Nat → Prop} {v : Value}, TermR F w v t → fitB t = true → (∀ w' cs, Ext w w' → TmO w' (fun b => w.heap.size ≤ b ∧ b < w'.heap.size) cs t → K (.agg ⟨cs⟩) w') → vcall PP n_spec_l3Copy #[v] w K := by
  refine M.Tm.ind fun t ih w K F v ht hfit hK => ?_
  obtain ⟨f1, f2⟩ := fitB_iff.1 hfit
  apply c_spec_l3Copy; unfold F_spec_l3Copy
  obtain ⟨kv, rfl, hks⟩ := ht
  refine vbox_agg fun b1 w1 hb1 he1 hs1 h1 => ?_
  refine valloc_agg zr_impl_Term fun b2 w2 hb2 he2 hs2 h2 => ?_
  have hz1 := he1.size
  have q2 := h1.ext he2
  simp (disch := (simp only [push_cast]; done)) only [push_cast, q2.ld0, q2.ld1, q2.ld2, q2.ld3]
  refine valloc_agg zr_impl_Term fun b3 w3 hb3 he3 hs3 h3 => ?_
  refine stTerm h3 rfl (leafR t.op t.a t.b t.s : TmR (fun _ => False) w3 _ _) fun w4 hw4 hz4 h4 => ?_
  have e14 : Ext w1 w4 := Ext.then (he2.trans he3) hw4 fun y hy => by subst hy; omega
  have hE4 := he1.trans e14
  have q4 := h1.ext e14
  have r4 := (h2.ext he3).same hw4 (by omega)
  have hk4 : TmsR (fun x => x < w.heap.size) w4 kv t.ks := (hks.weaken fun b _ h' => h').ext hE4
  have hsm := hks.small
  refine vloop_up t.ks.length (fun i u w' => u = [.int .i64 i] ∧ Same (fun b => b = b3) w4 w' ∧ ∃ kv' css Ds, Blk w' b3 [.int .i64 t.op, .int .i64 t.a, .int .i64 t.b, .string t.s, kv'] T_impl_Term ∧ Grow w4.heap.size w' kv' css (t.ks.take i) Ds)
    ⟨rfl, Same.refl _ _, _, [], _, h4, grow_nil _ _⟩ ?_
  rintro i _ _ w5 C hi ⟨rfl, hs5, kv', css, Ds, h5, g5⟩ hC
  have hz5 := hs5.size
  have hz4' := hE4.size
  have hE5 : Ext w w5 := Ext.then hE4 hs5 fun y hy => by subst hy; omega
  have hk5 := hk4.same hs5 fun b hb _ e => by omega
  have q5 := q4.same hs5 (by omega)
  simp (disch := (simp only [push_cast]; done)) only [push_cast, q5.ld4, hk5.len]
  refine vif_dec (fun a => ?_) (fun a => ?_)
  · refine vdraw_ext fun w8 he8 _ => ?_
    have q8 := q5.ext he8
    have p8 := h5.ext he8
    obtain ⟨cks, hsl, hln, hc⟩ := hk5.ext he8
    simp (disch := first | (simp only [push_cast]; done) | omega) only [push_cast, q8.ld4, p8.ld4, hsl.iaddr, hsl.ldAgg, true_and]
    have hmem : t.ks.getD i default ∈ t.ks := M.getD_mem (by omega) _
    have hz8 := he8.size
    refine ih _ hmem (hc i (by omega)).term (f2 _ hmem) fun w9 cr he9 hr => ?_
    have p9 := p8.ext he9
    simp (disch := (simp only [push_cast]; done)) only [push_cast, p9.ld4, true_and, and_self]
    have hcr := tmO_R _ hr
    refine vbuildS1 u_Limpl_Term z_impl_Term zr_impl_Term rfl (tmR_len hcr) (by decide) fun b10 w10 hb10 he10 hs10 h10 => ?_
    have p10 := p9.ext he10
    simp (disch := (simp only [push_cast]; done)) only [push_cast, p10.ld4, true_and, and_self]
    refine grow_push g5 he8 he9 (by omega) hr he10 h10 (by rw [List.length_take]; omega) fun kv2 w11 Ds2 g11 hw11 kc1 kc2 => ?_
    have p11 := p10.same hw11 (fun e => by have := (g5.blk _ e).1; omega)
    try simp only [push_cast, true_and]
    refine p11.st (i := 4) kc1 kc2 z_Limpl_Term rfl fun w12 hw12 hz12 h12 => ?_
    replace h12 : Blk w12 b3 [.int .i64 t.op, .int .i64 t.a, .int .i64 t.b, .string t.s, kv2] T_impl_Term := h12
    rw [inc64' (by omega)]
    have hS : Same (fun b => b = b3 ∨ kv'.ownBlock = some b) w5 w12 := (Same.of_ext (he8.trans (he9.trans he10))).trans ((hw11.mono fun _ _ h => .inr h).trans (hw12.mono fun _ _ h => .inl h))
    have hS4 : Same (fun b => b = b3) w4 w12 := ⟨hS.os.trans hs5.os, hS.tape.trans hs5.tape, hS.output.trans hs5.output, Nat.le_trans hs5.size hS.size, fun b hb hne => (hS.block b (by omega) (fun e => e.elim hne fun e => by have := (g5.blk b e).1; omega)).trans (hs5.block b hb hne)⟩
    rw [take_snoc (by omega)] at g11
    exact hC (by omega) _ _ ⟨rfl, hS4, kv2, _, Ds2, h12, grow_same g11 hw12 fun b hb e => by omega⟩
  · have hi' : i = t.ks.length := by omega
    subst hi'
    rw [List.take_length] at g5
    rw [h5.ldAgg (t := T_impl_Term) g_impl_Term]
    refine retO (r4.same hs5 (by omega)) rfl (grow_done g5) (fun x hx => by omega) fun w6 hw6 hz6 ho6 => ?_
    exact hK _ _ (Ext.then hE5 hw6 fun y hy => by subst hy; omega) (tmO_weaken ho6 fun b hb => ⟨by omega, by omega⟩)
theorem fit_size : ∀ t : M.Tm, M.sizeM t ≤ 1000 → fitB t = true := by
  refine M.Tm.ind fun t ih h => ?_
  have hk : ∀ i, i < t.ks.length → M.sizeM (M.kid t i) + 1 ≤ M.sizeM t := fun i hi => (M.kid_size hi).1
  have hl : t.ks.length ≤ M.sizeM t := by
    have := M.szT_all t
    have mono : ∀ i, i ≤ t.ks.length → i ≤ M.szT t.ks i := fun i => by
      induction i with
      | zero => intro _; exact Nat.zero_le _
      | succ i ihi =>
        intro hi
        have := ihi (by omega)
        have := M.szT_succ (ks := t.ks) (i := i) (by omega)
        have := (M.size_pos (t := t.ks.getD i default)).1
        omega
    have := mono t.ks.length (Nat.le_refl _)
    omega
  refine fitB_iff.2 ⟨by omega, fun k hk' => ?_⟩
  obtain ⟨i, hi, rfl⟩ := List.getElem_of_mem hk'
  have := hk i hi
  unfold M.kid at this
  rw [List.getD_eq_getElem?_getD, List.getElem?_eq_getElem hi] at this
  exact ih _ hk' (by simp only [Option.getD_some] at this; omega)
def foldA (ds : List M.Dcl) (t : M.Tm) : M.Tm := if M.tsort ds t = -1 then .mk 0 0 0 M.nada [] else M.foldT ds t
theorem zeroO : TmO w D zeroT (.mk 0 0 0 M.nada []) :=
  TmO.mk (t := .mk 0 0 0 M.nada []) [] (fun _ _ => False) (Own.nil _ _ _ _ _) rfl (fun b h => (by cases h)) (fun i j b _ hj => absurd hj (by show ¬ j < 0; omega)) (fun i b hi => absurd hi (by show ¬ i < 0; omega)) (fun i hi => absurd hi (by show ¬ i < 0; omega))
theorem small_of {ds : List M.Dcl} {t : M.Tm} (h : M.tsort ds t ≠ -1) : M.declOk ds = true ∧ M.sortM ds t ≠ -1 ∧ M.sizeM t ≤ 20 := by
  rcases dtSize (ds := ds) (t := t) with e | ⟨h1, h2, h3, h4, h5⟩
  · exact absurd e h
  · exact ⟨h5, by omega, (M.fits_iff.1 h4).1⟩
theorem bd_folder {a : Option Addr} {l c mb : Nat} : vbuild PP T_impl_folder [(0, .slice a l c), (1, .map (some mb))] w K = K (folderV (.slice a l c) mb) w := vbuild_eq b_impl_folder (us := [[.slice a l c], [.map (some mb)]]) rfl rfl
theorem TermFold_spec {dv tv : Value} {ds : List M.Dcl} {t : M.Tm} (hd : DclsR F w dv ds) (ht : TermR G w tv t) (hK : ∀ w' cs, Ext w w' → TmO w' (fun b => w.heap.size ≤ b ∧ b < w'.heap.size) cs (foldA ds t) → K (.agg ⟨cs⟩) w') : vcall PP n_impl_TermFold #[dv, tv] w K := by
  apply c_impl_TermFold; unfold F_impl_TermFold
  obtain ⟨ct, rfl, hct⟩ := ht.cells
  have hg : aggB PP T_impl_Term ct.length = true := by rw [tmR_len hct]; exact g_impl_Term
  refine vbox_agg fun b1 w1 hb1 he1 hs1 h1 => ?_
  refine valloc_agg zr_impl_Term fun b2 w2 hb2 he2 hs2 h2 => ?_
  have q2 := h1.ext he2
  have hE2 := he1.trans he2
  have hz1 := he1.size
  rw [q2.ldAgg (t := T_impl_Term) hg]
  refine TermSort_spec (hd.ext hE2) (ht.ext hE2) fun w3 he3 => ?_
  have hE3 := hE2.trans he3
  have r3 := h2.ext he3
  have hz3 := he3.size
  simp only [push_cast]
  unfold foldA at hK
  refine vif_dec (fun a => ?_) (fun a => ?_)
  · rw [if_pos a] at hK
    try simp only [push_cast]
    refine retO (G := fun _ => False) r3 rfl zeroO (fun x hx => hx.elim) fun w4 hw4 hz4 ho4 => ?_
    exact hK _ _ (Ext.then hE3 hw4 fun y hy => by subst hy; omega) (tmO_weaken ho4 fun b hb => hb.elim)
  · rw [if_neg a] at hK
    obtain ⟨hok, hs, hsz⟩ := small_of a
    refine vdraw_ext fun w4 he4 _ => ?_
    have q4 := q2.ext (he3.trans he4)
    simp only [push_cast, q4.ldAgg (t := T_impl_Term) hg, true_and]
    refine kinds_spec fun w5 mb he5 hm => ?_
    have q5 := q4.ext he5
    have hE5 := hE3.trans (he4.trans he5)
    obtain ⟨da, dc, rfl, _⟩ := hd.shape
    rw [List.length_map] at *
    simp only [push_cast, q5.ldAgg (t := T_impl_Term) hg, true_and, and_self, bd_folder]
    refine fold_spec t (G := fun x => x < w.heap.size) (hd.ext hE5) hm hok ((ht.weaken fun b _ h => h).ext hE5) hs fun w6 rv he6 hrv => ?_
    have hE6 := hE5.trans he6
    have hgood := M.fold_good hok t hs
    have hsz2 := hgood.size
    refine copyTerm_spec _ hrv (fit_size _ (by omega)) fun w7 cs he7 ho7 => ?_
    have hz5 := hE5.size
    have hz6 := hE6.size
    have r7 := r3.ext (he4.trans (he5.trans (he6.trans he7)))
    have hz4 := he4.size
    have hz5' := he5.size
    have hz6' := he6.size
    refine retO r7 rfl ho7 (fun x hx => by omega) fun w8 hw8 hz8 ho8 => ?_
    exact hK _ _ (Ext.then (hE6.trans he7) hw8 fun y hy => by subst hy; omega) (tmO_weaken ho8 fun b hb => ⟨by omega, by omega⟩)
end Go.Proofs.YtcfgmgjofmbfhaaGreatDoor
end
section
namespace Go.Proofs.YtcfgmgjofmbfhaaGreatDoor
open Go Go.Vc Go.Proofs
variable {w : World} {K : Value → World → Prop} {F F' D G : Nat → Prop}
def TmsO (w : World) (D : Nat → Prop) (kv : Value) (us : List M.Tm) (css : List (List Value)) (Ds : Nat → Nat → Prop) : Prop :=
  Own PP 0 5 T_Limpl_Term w kv css ∧ css.length = us.length ∧ (∀ b, kv.ownBlock = some b → D b ∧ ∀ i, i < us.length → ¬ Ds i b) ∧ (∀ i j b, i < j → j < us.length → Ds i b → ¬ Ds j b) ∧ (∀ i b, i < us.length → Ds i b → D b) ∧
  ∀ i, i < us.length → TmO w (Ds i) (css.getD i []) (us.getD i default)
theorem tmO_of {kv : Value} {t : M.Tm} {css : List (List Value)} {Ds : Nat → Nat → Prop} (h : TmsO w D kv t.ks css Ds) : TmO w D [.int .i64 t.op, .int .i64 t.a, .int .i64 t.b, .string t.s, kv] t := by
  obtain ⟨h1, h2, h3, h4, h5, h6⟩ := h
  exact .mk css Ds h1 h2 h3 h4 h5 h6
theorem tmO_parts {cs : List Value} {t : M.Tm} (h : TmO w D cs t) : ∃ kv css Ds, cs = [.int .i64 t.op, .int .i64 t.a, .int .i64 t.b, .string t.s, kv] ∧ TmsO w D kv t.ks css Ds := by
  obtain ⟨kv, css, Ds, h0, h1, h2, h3, h4, h5, h6⟩ := tmO_inv h
  exact ⟨kv, css, Ds, h0, h1, h2, h3, h4, h5, h6⟩
theorem tmsO_same {S : Nat → Prop} {w' : World} {kv : Value} {us : List M.Tm} {css : List (List Value)} {Ds : Nat → Nat → Prop} (h : TmsO w D kv us css Ds) (hw : Same S w w') (hs : ∀ b, D b → ¬ S b) : TmsO w' D kv us css Ds := by
  obtain ⟨h1, h2, h3, h4, h5, h6⟩ := h
  exact ⟨h1.same hw fun b hb => hs b (h3 b hb).1, h2, h3, h4, h5, fun i hi => tmO_same hw _ (h6 i hi) fun b hb => hs b (h5 i b hi hb)⟩
abbrev CpO (t : M.Tm) : Prop := ∀ {w : World} {K : Value → World → Prop} {F : Nat → Prop} {v : Value}, TermR F w v t → fitB t = true → (∀ w' cs, Ext w w' → TmO w' (fun b => w.heap.size ≤ b ∧ b < w'.heap.size) cs t → K (.agg ⟨cs⟩) w') → vcall PP n_laws_toTerm #[v] w K
theorem toTermS_own {ks : List M.Tm} (ih : ∀ k, k ∈ ks → CpO k) {v : Value} (hk : TmsR F w v ks) (hsm : ks.length ≤ 1048576) (hf : ∀ k, k ∈ ks → fitB k = true)
    (hK : ∀ w' v' css Ds, Ext w w' → TmsO w' (fun b => w.heap.size ≤ b ∧ b < w'.heap.size) v' ks css Ds → K v' w') : vcall PP n_laws_toTermS #[v] w K := by
  apply c_laws_toTermS; unfold F_laws_toTermS
  simp (disch := (simp only [push_cast]; done)) only [push_cast, hk.len]
  refine vmkS_agg (cs := zeroT) l_Limpl_Term (by decide) (by rw [eo_Limpl_Term]; exact zr_impl_Term) (by omega) (by omega) fun v1 w1 hv1 he1 hn1 => ?_
  have hz1 := he1.size
  have hlt1 : ∀ b, v1.ownBlock = some b → b < w1.heap.size := fun b hb => (hv1.lt hb).2
  refine vloop_up ks.length (fun i u w' => u = [.int .i64 i] ∧ Ext w w' ∧ w1.heap.size ≤ w'.heap.size ∧ ∃ (css : List (List Value)) (Ds : Nat → Nat → Prop), css.length = ks.length ∧ Own PP 0 5 T_Limpl_Term w' v1 css ∧
      (∀ j b, j < i → Ds j b → w1.heap.size ≤ b ∧ b < w'.heap.size) ∧ (∀ j k b, j < k → k < i → Ds j b → ¬ Ds k b) ∧ ∀ j, j < i → TmO w' (Ds j) (css.getD j []) (ks.getD j default))
    ⟨rfl, he1, Nat.le_refl _, _, fun _ _ => False, by simp, hv1, by omega, by omega, by omega⟩ ?_
  rintro i _ _ w2 C hi ⟨rfl, he2, hz2, css, Ds, hl, hv2, hsub, hdis, hp⟩ hC
  have hk2 := hk.ext he2
  simp (disch := (simp only [push_cast]; done)) only [push_cast, hk2.len]
  refine vif_dec (fun a => ?_) (fun a => ?_)
  · have hmem : ks.getD i default ∈ ks := M.getD_mem (by omega) _
    simp (disch := first | (simp only [push_cast]; done) | omega) only [push_cast, hk2.iaddr]
    refine hk2.load g_laws_Term (by omega) fun x hx => ?_
    refine ih _ hmem hx (hf _ hmem) fun w3 c3 he3 hc3 => ?_
    have hr3 := tmO_R _ hc3
    have hv3 := hv2.ext he3
    have hvi := hv3.sl
    have hz3 := he3.size
    simp (disch := first | (simp only [push_cast]; done) | omega) only [push_cast, hvi.iaddr]
    refine own_stEl hv3 (by decide) (tmR_len hr3) (tmR_one hr3) g_impl_Term (by omega) fun w4 hv4 hw4 hz4 => ?_
    rw [inc64' (by omega)]
    refine hC (by omega) _ _ ⟨rfl, Ext.then (he2.trans he3) hw4 fun b hb => hn1 b hb, by omega, css.set i c3, fun j b => (j < i ∧ Ds j b) ∨ (j = i ∧ w2.heap.size ≤ b ∧ b < w3.heap.size), by rw [List.length_set]; exact hl, hv4, fun j b hj hb => ?_, fun j k b hjk hk h1 h2 => ?_, fun j hj => ?_⟩
    · rcases hb with ⟨h1, h2⟩ | ⟨h1, h2, h3⟩
      · have := hsub j b h1 h2; omega
      · omega
    · rcases h1 with ⟨h1, h3⟩ | ⟨h1, h3, h4⟩
      · rcases h2 with ⟨h5, h6⟩ | ⟨h5, h6, h7⟩
        · exact hdis j k b hjk h5 h3 h6
        · have := hsub j b h1 h3; omega
      · omega
    · rw [getD_set (by omega)]
      by_cases e : i = j
      · subst e; rw [if_pos rfl]
        exact tmO_weaken (tmO_same hw4 _ hc3 fun b hb e => by have := hlt1 b e; omega) fun b hb => .inr ⟨rfl, hb⟩
      · rw [if_neg e]
        exact tmO_weaken (tmO_same hw4 _ (tmO_ext (hp j (by omega)) he3) fun b hb e => by have := hlt1 b e; have := hsub j b (by omega) hb; omega) fun b hb => .inl ⟨by omega, hb⟩
  · have hi' : i = ks.length := by omega
    subst hi'
    refine hK w2 v1 css Ds he2 ⟨hv2, hl, fun b hb => ⟨⟨hn1 b hb, by have := hlt1 b hb; omega⟩, fun j hj hd => by have := hlt1 b hb; have := hsub j b hj hd; omega⟩, hdis, fun j b hj hb => by have := hsub j b hj hb; omega, hp⟩
theorem toTerm_own : ∀ t : M.Tm, CpO t := by
  refine M.Tm.ind fun t ih => ?_
  intro w K F v ht hf hK
  apply c_laws_toTerm; unfold F_laws_toTerm
  obtain ⟨kv, rfl, hks⟩ := ht
  obtain ⟨f1, f2⟩ := fitB_iff.1 hf
  refine vbox_agg fun b1 w1 hb1 he1 hs1 h1 => ?_
  refine valloc_agg zr_impl_Term fun b2 w2 hb2 he2 hs2 h2 => ?_
  refine valloc_agg zr_impl_Term fun b3 w3 hb3 he3 hs3 h3 => ?_
  have q3 := (h1.ext he2).ext he3
  simp (disch := (simp only [push_cast]; done)) only [push_cast, q3.ld0]
  refine h3.st (i := 0) rfl rfl z_int rfl fun w4 hw4 hz4 h4 => ?_
  have q4 := q3.same hw4 (by omega)
  simp (disch := (simp only [push_cast]; done)) only [push_cast, q4.ld1]
  refine h4.st (i := 1) rfl rfl z_int rfl fun w5 hw5 hz5 h5 => ?_
  have q5 := q4.same hw5 (by omega)
  simp (disch := (simp only [push_cast]; done)) only [push_cast, q5.ld2]
  refine h5.st (i := 2) rfl rfl z_int rfl fun w6 hw6 hz6 h6 => ?_
  have q6 := q5.same hw6 (by omega)
  simp (disch := (simp only [push_cast]; done)) only [push_cast, q6.ld3]
  refine h6.st (i := 3) rfl rfl z_string rfl fun w7 hw7 hz7 h7 => ?_
  have q7 := q6.same hw7 (by omega)
  simp (disch := (simp only [push_cast]; done)) only [push_cast, q7.ld4]
  have h37 : Same (fun b => b = b3) w3 w7 := hw4.trans (hw5.trans (hw6.trans hw7))
  have he13 := (he1.trans he2).trans he3
  have he7 : Ext w w7 := Ext.then he13 h37 fun y hy => by subst hy; omega
  refine toTermS_own ih (hks.ext he7) f1 f2 fun w8 kv' css Ds he8 hk8 => ?_
  have h8 := h7.ext he8
  have hkc : kv'.cells = #[kv'] ∧ kv'.oneCell' = true := by
    obtain ⟨a, c, rfl, _⟩ := hk8.1.sl.shape
    exact ⟨rfl, rfl⟩
  have hz8 := he8.size
  have hz37 := h37.size
  try simp only [push_cast]
  refine h8.st (i := 4) hkc.1 hkc.2 z_Limpl_Term rfl fun w9 hw9 hz9 h9 => ?_
  replace h9 : Blk w9 b3 [.int .i64 t.op, .int .i64 t.a, .int .i64 t.b, .string t.s, kv'] T_impl_Term := h9
  rw [h9.ldAgg (t := T_impl_Term) g_impl_Term]
  have hk9 := tmsO_same hk8 hw9 fun b hb e => by omega
  have h2' := (((h2.ext he3).same h37 (by omega)).ext he8).same hw9 (by omega)
  refine retO h2' rfl (tmO_of (t := t) hk9) (fun x hx => by omega) fun w10 hw10 hz10 ht10 => ?_
  exact hK _ _ (Ext.then (Ext.then (he7.trans he8) hw9 fun y hy => by subst hy; omega) hw10 fun y hy => by subst hy; omega) (tmO_weaken ht10 fun b hb => by have := he7.size; omega)
def digs : Nat → Nat → ByteArray → ByteArray
  | 0, _, acc => acc
  | f + 1, k, acc => if 0 < k then digs f (k / 10) (strOfNums [((48 + k % 10 : Nat) : Int)] ++ acc) else acc
def mtext (k : Nat) : ByteArray := if k = 0 then ⟨#[109, 48]⟩ else ⟨#[109]⟩ ++ digs (k + 1) k ⟨#[]⟩
theorem markText_spec {k : Nat} (h : k < 4611686018427387904) (hK : ∀ w', Ext w w' → K (.string (mtext k)) w') : vcall PP n_laws_markText #[.int .i64 k] w K := by
  apply c_laws_markText; unfold F_laws_markText
  simp only [push_cast]
  refine vif_dec (fun a => ?_) (fun a => ?_)
  · have e : mtext k = ⟨#[109, 48]⟩ := by unfold mtext; rw [if_pos (by omega)]
    rw [e] at hK
    exact hK _ (Same.refl _ _)
  have e : mtext k = ⟨#[109]⟩ ++ digs (k + 1) k ⟨#[]⟩ := by unfold mtext; rw [if_neg (by omega)]
  rw [e] at hK
  refine vloop_of (fun n u w' => ∃ (j : Nat) (acc : ByteArray) (f : Nat), u = [.int .i64 j, .string acc] ∧ n = j ∧ j ≤ k ∧ j < f ∧ acc.size + j ≤ k ∧ Ext w w' ∧ digs f j acc = digs (k + 1) k ⟨#[]⟩) k
    ⟨k, _, k + 1, rfl, rfl, Nat.le_refl _, by omega, by simp [ByteArray.size], Same.refl _ _, rfl⟩ ?_
  rintro n _ _ w1 C ⟨j, acc, f, rfl, rfl, hjk, hjf, hsz, he, hd⟩ hC
  simp only [push_cast]
  refine vif_dec (fun c => ?_) (fun c => ?_)
  · rw [vbin_rem (by decide), show (n : Int).tmod 10 = ((n % 10 : Nat) : Int) from by rw [Int.tmod_eq_emod_of_nonneg (by omega)]; omega, vbin_add]
    rw [show IntKind.i64.wrap (48 + ((n % 10 : Nat) : Int)) = ((48 + n % 10 : Nat) : Int) from by rw [wrap64 (by omega) (by omega)]; omega]
    rw [vconv_int sm_int ik_uint8, show IntKind.u8.wrap ((48 + n % 10 : Nat) : Int) = ((48 + n % 10 : Nat) : Int) from by show ((48 + n % 10 : Nat) : Int) % 256 = _; omega]
    refine vbuildS1 (k := 1) (y := [.int .u8 ((48 + n % 10 : Nat) : Int)]) u_Luint8 z_uint8 zr_uint8 rfl rfl (by decide) fun b2 w2 hb2 he2 hs2 h2 => ?_
    have hc : ∀ K' : Value → World → Prop, vconv PP T_Luint8 T_string (.slice (some ⟨b2, 0, none⟩) 1 1) w2 K' = K' (.string (strOfNums [((48 + n % 10 : Nat) : Int)])) w2 := fun K' =>
      vrun_eq (run_convert_bytes_arg w2 T_Luint8 T_uint8 u_Luint8 (by kernel_rfl) b2 0 1 1 [((48 + n % 10 : Nat) : Int)] rfl (fun i hi => by
        have : i = 0 := by omega
        subst this
        exact h2.cell (i := 0) rfl) T_string us_string)
    rw [hc, vbin_stradd (by rw [strOfNums_size]; show 1 + _ ≤ _; omega), vbin_quo (by decide), show (n : Int).tdiv 10 = ((n / 10 : Nat) : Int) from by rw [Int.tdiv_eq_ediv_of_nonneg (by omega)]; omega, wrap64 (by omega) (by omega)]
    obtain ⟨f, rfl⟩ : ∃ f', f = f' + 1 := ⟨f - 1, by omega⟩
    refine hC (n / 10) _ _ (by omega) ⟨n / 10, _, f, rfl, rfl, by omega, by omega, ?_, he.trans he2, ?_⟩
    · rw [ByteArray.size_append, strOfNums_size]
      show 1 + acc.size + n / 10 ≤ k
      omega
    · rw [← hd]
      show _ = if 0 < n then _ else _
      rw [if_pos (by omega)]
  · have h0 : n = 0 := by omega
    subst h0
    obtain ⟨f, rfl⟩ : ∃ f', f = f' + 1 := ⟨f - 1, by omega⟩
    have : acc = digs (k + 1) k ⟨#[]⟩ := by
      rw [← hd]
      show _ = if 0 < 0 then _ else acc
      rw [if_neg (by omega)]
    subst this
    rw [vbin_stradd (by show 1 + _ ≤ _; omega)]
    exact hK _ he
theorem markText_int {k : Int} (h0 : 0 ≤ k) (h : k < 4611686018427387904) (hK : ∀ w', Ext w w' → K (.string (mtext k.toNat)) w') : vcall PP n_laws_markText #[.int .i64 k] w K := by
  obtain ⟨n, rfl⟩ : ∃ n : Nat, k = n := ⟨k.toNat, by omega⟩
  exact markText_spec (by omega) hK
theorem inc_wrap {k : Int} (h0 : 0 ≤ k) (h : k < 4611686018427387904) : IntKind.i64.wrap (k + 1) = k + 1 := wrap64 (by omega) (by omega)
theorem markDeclS_spec {v : Value} {css : List (List Value)} {k : Int} (ho : Own PP 0 2 T_Limpl_Decl w v css) (h0 : 0 ≤ k) (hk : k + 2 * css.length < 4611686018427387904)
    (hK : ∀ w', Same (fun b => v.ownBlock = some b) w w' → K (.int .i64 (k + 2 * css.length)) w') : vcall PP n_laws_markDeclS #[v, .int .i64 k] w K := by
  apply c_laws_markDeclS; unfold F_laws_markDeclS
  refine vloop_up css.length (fun i u w' => u = [.int .i64 (k + 2 * i), .int .i64 i] ∧ Same (fun b => v.ownBlock = some b) w w' ∧ ∃ css', css'.length = css.length ∧ Own PP 0 2 T_Limpl_Decl w' v css') ⟨by simp, Same.refl _ _, css, rfl, ho⟩ ?_
  rintro i _ _ w1 C hi ⟨rfl, hs1, css1, hl1, ho1⟩ hC
  have hsl := ho1.sl
  simp (disch := (simp only [push_cast]; done)) only [push_cast, hsl.len, hl1]
  refine vif_dec (fun a => ?_) (fun a => ?_)
  · refine markText_int (by omega) (by omega) fun w2 he2 => ?_
    have ho2 := ho1.ext he2
    have hs2 := ho2.sl
    simp (disch := first | (simp only [push_cast]; done) | omega) only [push_cast, hs2.iaddr]
    refine Own.stCell ho2 rfl rfl z_string (i := i) (j := 0) (by omega) (by decide) fun w3 ho3 hw3 hz3 => ?_
    rw [inc_wrap (by omega) (by omega)]
    refine Own.stCell ho3 rfl rfl z_int (i := i) (j := 1) (by rw [List.length_set]; omega) (by decide) fun w4 ho4 hw4 hz4 => ?_
    rw [inc_wrap (by omega) (by omega), inc64' (by omega)]
    refine hC (by omega) _ _ ⟨by rw [show k + 2 * (i : Int) + 1 + 1 = k + 2 * ((i + 1 : Nat) : Int) by omega], hs1.trans ((Same.of_ext he2).trans (hw3.trans hw4)), _, by rw [List.length_set, List.length_set]; exact hl1, ho4⟩
  · have : i = css.length := by omega
    subst this
    exact hK _ hs1
end Go.Proofs.YtcfgmgjofmbfhaaGreatDoor
end
section
namespace Go.Proofs.YtcfgmgjofmbfhaaGreatDoor
open Go Go.Vc Go.Proofs
variable {w : World} {K : Value → World → Prop} {F F' D G : Nat → Prop}
inductive Held : List M.Tm → Int → Int → Prop
  | nil (k : Int) : Held [] k k
  | cons {t : M.Tm} {us : List M.Tm} {k m n : Int} : t.op = k → t.a = k + 1 → t.b = k + 2 → t.s = mtext (k + 3).toNat → Held t.ks (k + 4) m → Held us m n → Held (t :: us) k n
theorem held_le {us : List M.Tm} {k n : Int} (h : Held us k n) : k ≤ n := by
  induction h with
  | nil => exact Int.le_refl _
  | cons _ _ _ _ _ _ h1 h2 => omega
theorem held_snoc {us : List M.Tm} {k m n : Int} {t : M.Tm} (h : Held us k m) (h1 : t.op = m) (h2 : t.a = m + 1) (h3 : t.b = m + 2) (h4 : t.s = mtext (m + 3).toNat) (h5 : Held t.ks (m + 4) n) : Held (us ++ [t]) k n := by
  induction h with
  | nil k => exact .cons h1 h2 h3 h4 h5 (.nil _)
  | cons a b c d e _ _ ih => exact .cons a b c d e (ih h1 h2 h3 h4 h5)
theorem held_nil {k n : Int} (h : Held [] k n) : k = n := by cases h; rfl
theorem held_cons {t : M.Tm} {us : List M.Tm} {k n : Int} (h : Held (t :: us) k n) : t.op = k ∧ t.a = k + 1 ∧ t.b = k + 2 ∧ t.s = mtext (k + 3).toNat ∧ ∃ m, Held t.ks (k + 4) m ∧ Held us m n := by
  cases h with
  | cons a b c d e f => exact ⟨a, b, c, d, _, e, f⟩
abbrev MarkT (t : M.Tm) : Prop := ∀ {w : World} {K : Value → World → Prop} {D : Nat → Prop} {kv : Value} {css : List (List Value)} {Ds : Nat → Nat → Prop} {k : Int}, TmsO w D kv t.ks css Ds → 0 ≤ k → k + 4 * M.szT t.ks t.ks.length < 4611686018427387904 →
  (∀ w' us css', Same D w w' → TmsO w' D kv us css' Ds → us.length = t.ks.length → Held us k (k + 4 * M.szT t.ks t.ks.length) → K (.int .i64 (k + 4 * M.szT t.ks t.ks.length)) w') → vcall PP n_laws_markTermS #[kv, .int .i64 k] w K
theorem take_set {us : List M.Tm} {i : Nat} {u : M.Tm} (h : i < us.length) : (us.set i u).take (i + 1) = us.take i ++ [u] := by
  rw [M.take_add (by rw [List.length_set]; exact h) default, List.take_set_of_le (Nat.le_refl _), getD_set h, if_pos rfl]
theorem markTermS_spec : ∀ t : M.Tm, MarkT t := by
  refine M.Tm.ind fun t ih => ?_
  intro w K D kv css Ds k h h0 hk hK
  apply c_laws_markTermS; unfold F_laws_markTermS
  refine vloop_up t.ks.length (fun i u w' => u = [.int .i64 (k + 4 * M.szT t.ks i), .int .i64 i] ∧ Same D w w' ∧ ∃ us css', us.length = t.ks.length ∧ TmsO w' D kv us css' Ds ∧ Held (us.take i) k (k + 4 * M.szT t.ks i) ∧ ∀ j, i ≤ j → us.getD j default = t.ks.getD j default)
    ⟨by show _ = [Value.int .i64 (k + 4 * ((0 : Nat) : Int)), _]; simp, Same.refl _ _, t.ks, css, rfl, h, by rw [List.take_zero]; show Held [] k (k + 4 * ((0 : Nat) : Int)); simpa using Held.nil k, fun j _ => rfl⟩ ?_
  rintro i _ _ w1 C hi ⟨rfl, hs1, us, css1, hlu, hT, hH, hrest⟩ hC
  have hT' := hT
  obtain ⟨own1, hl1, hb1, hd1, hsub1, hkid1⟩ := hT'
  have hsl1 := own1.sl
  have hsm1 := hsl1.small
  simp (disch := (simp only [push_cast]; done)) only [push_cast, hsl1.len, hl1, hlu]
  refine vif_dec (fun a => ?_) (fun a => ?_)
  · have hi' : i < t.ks.length := by omega
    have hsz := M.szT_succ hi'
    have hmono := M.szT_mono (ks := t.ks) (i := i + 1) (j := t.ks.length) (by omega) (Nat.le_refl _)
    have hsx := M.szT_all (t.ks.getD i default)
    obtain ⟨m, hm⟩ : ∃ m : Int, m = k + 4 * M.szT t.ks i := ⟨_, rfl⟩
    have hm0 : 0 ≤ m := by omega
    have hm1 : m + 10 + 4 * M.szT (t.ks.getD i default).ks (t.ks.getD i default).ks.length < 4611686018427387914 := by omega
    have hnext : m + 4 + 4 * M.szT (t.ks.getD i default).ks (t.ks.getD i default).ks.length = k + 4 * M.szT t.ks (i + 1) := by omega
    simp only [← hm]
    simp (disch := first | (simp only [push_cast]; done) | omega) only [push_cast, hsl1.iaddr]
    have hix := hkid1 i (by omega)
    rw [hrest i (Nat.le_refl _)] at hix
    obtain ⟨kvi, cssi, Dsi, ei, hp⟩ := tmO_parts hix
    refine Own.stCell own1 rfl rfl z_int (i := i) (j := 0) (by omega) (by decide) fun w2 own2 hw2 hz2 => ?_
    rw [ei] at own2
    rw [inc_wrap (by omega) (by omega)]
    refine Own.stCell own2 rfl rfl z_int (i := i) (j := 1) (by rw [List.length_set]; omega) (by decide) fun w3 own3 hw3 hz3 => ?_
    rw [getD_set (by omega), if_pos rfl, List.set_set] at own3
    rw [inc_wrap (by omega) (by omega)]
    refine Own.stCell own3 rfl rfl z_int (i := i) (j := 2) (by rw [List.length_set]; omega) (by decide) fun w4 own4 hw4 hz4 => ?_
    rw [getD_set (by omega), if_pos rfl, List.set_set] at own4
    rw [inc_wrap (by omega) (by omega), show m + 1 + 1 = m + 2 by omega, show m + 2 + 1 = m + 3 by omega]
    refine markText_int (by omega) (by omega) fun w5 he5 => ?_
    have own5 := own4.ext he5
    refine Own.stCell own5 rfl rfl z_string (i := i) (j := 3) (by rw [List.length_set]; omega) (by decide) fun w6 own6 hw6 hz6 => ?_
    rw [getD_set (by omega), if_pos rfl, List.set_set] at own6
    rw [inc_wrap (by omega) (by omega), show m + 3 + 1 = m + 4 by omega]
    rw [show m + 1 + 1 = m + 2 by omega] at own6
    replace own6 : Own PP 0 5 T_Limpl_Term w6 kv (css1.set i [.int .i64 m, .int .i64 (m + 1), .int .i64 (m + 2), .string (mtext (m + 3).toNat), kvi]) := own6
    have hl6 : i < (css1.set i [Value.int .i64 m, .int .i64 (m + 1), .int .i64 (m + 2), .string (mtext (m + 3).toNat), kvi]).length := by rw [List.length_set]; omega
    rw [Sl.ldField own6.sl o_Limpl_Term hl6 (x := kvi) (j := 4) (by rw [getD_set (by omega), if_pos rfl]; rfl)]
    have h16 : Same (fun b => kv.ownBlock = some b) w1 w6 := hw2.trans (hw3.trans (hw4.trans ((Same.of_ext he5).trans hw6)))
    have hp6 := tmsO_same hp h16 fun b hb e => (hb1 b e).2 i (by omega) hb
    have hmem : t.ks.getD i default ∈ t.ks := M.getD_mem hi' _
    refine ih _ hmem hp6 (by omega) (by omega) fun w7 ui cssi' hs7 hp7 hlu7 hH7 => ?_
    rw [hnext] at hH7 ⊢
    rw [inc64' (by omega)]
    have hD7 : Same D w1 w7 := (h16.mono fun b _ e => (hb1 b e).1).trans (hs7.mono fun b _ e => hsub1 i b (by omega) e)
    have h17 : Same (fun b => kv.ownBlock = some b ∨ Ds i b) w1 w7 := (h16.mono fun b _ e => .inl e).trans (hs7.mono fun b _ e => .inr e)
    refine hC (by omega) _ _ ⟨rfl, hs1.trans hD7, us.set i (.mk m (m + 1) (m + 2) (mtext (m + 3).toNat) ui), css1.set i [.int .i64 m, .int .i64 (m + 1), .int .i64 (m + 2), .string (mtext (m + 3).toNat), kvi], by rw [List.length_set]; exact hlu, ⟨own6.same hs7 fun b hb e => (hb1 b hb).2 i (by omega) e, by rw [List.length_set, List.length_set]; exact hl1, ?_, ?_, ?_, fun j hj => ?_⟩, ?_, fun j hj => ?_⟩
    · rw [List.length_set]; exact hb1
    · rw [List.length_set]; exact hd1
    · rw [List.length_set]; exact hsub1
    · rw [List.length_set] at hj
      rw [getD_set (by omega), getD_set (by omega)]
      by_cases e : i = j
      · subst e
        rw [if_pos rfl, if_pos rfl]
        exact tmO_of (t := .mk m (m + 1) (m + 2) (mtext (m + 3).toNat) ui) hp7
      · rw [if_neg e, if_neg e]
        refine tmO_same h17 _ (hkid1 j hj) fun b hb hs => ?_
        rcases hs with hs | hs
        · exact (hb1 b hs).2 j hj hb
        · rcases Nat.lt_or_gt_of_ne e with h | h
          · exact hd1 i j b h hj hs hb
          · exact hd1 j i b h (by omega) hb hs
    · rw [take_set (by omega)]
      rw [← hm] at hH
      exact held_snoc hH rfl rfl rfl rfl hH7
    · rw [getD_set (by omega), if_neg (by omega)]
      exact hrest j (by omega)
  · have hi' : i = t.ks.length := by omega
    subst hi'
    rw [← hlu, List.take_length, hlu] at hH
    exact hK _ us css1 hs1 hT hlu hH
abbrev HeldT (t : M.Tm) : Prop := ∀ {w : World} {K : Value → World → Prop} {F : Nat → Prop} {kv : Value} {k n : Int}, TmsR F w kv t.ks → Held t.ks k n → 0 ≤ k → n < 4611686018427387904 → (∀ w', Ext w w' → K (.int .i64 n) w') → vcall PP n_laws_heldTermS #[kv, .int .i64 k] w K
theorem heldTermS_spec : ∀ t : M.Tm, HeldT t := by
  refine M.Tm.ind fun t ih => ?_
  intro w K F kv k n hks hH h0 hn hK
  apply c_laws_heldTermS; unfold F_laws_heldTermS
  have hsm := hks.small
  refine vloop_up t.ks.length (fun i u w' => ∃ m : Int, u = [.int .i64 m, .int .i64 i] ∧ Ext w w' ∧ 0 ≤ m ∧ Held (t.ks.drop i) m n) ⟨k, rfl, Same.refl _ _, h0, hH⟩ ?_
  rintro i _ _ w1 C hi ⟨m, rfl, he, hm0, hH1⟩ hC
  have hk1 := hks.ext he
  simp (disch := (simp only [push_cast]; done)) only [push_cast, hk1.len]
  refine vif_dec (fun a => ?_) (fun a => ?_)
  · have hi' : i < t.ks.length := by omega
    have hmem : t.ks.getD i default ∈ t.ks := M.getD_mem hi' _
    have ed : t.ks.drop i = t.ks.getD i default :: t.ks.drop (i + 1) := by
      rw [List.drop_eq_getElem_cons hi', List.getD_eq_getElem?_getD, List.getElem?_eq_getElem hi']; rfl
    rw [ed] at hH1
    obtain ⟨q1, q2, q3, q4, m', q5, q6⟩ := held_cons hH1
    have l1 := held_le q5
    have l2 := held_le q6
    obtain ⟨css, hsl, hln, hc⟩ := hk1
    obtain ⟨kvi, ei, hki⟩ := (hc i hi').inv
    have hsl' : i < css.length := by omega
    have g0 := fun (w' : World) (he' : Ext w1 w') (K' : Value → World → Prop) => Sl.ldField (K := K') (hsl.ext he') o_int hsl' (x := .int .i64 (t.ks.getD i default).op) (j := 0) (by rw [ei]; rfl)
    have g1 := fun (w' : World) (he' : Ext w1 w') (K' : Value → World → Prop) => Sl.ldField (K := K') (hsl.ext he') o_int hsl' (x := .int .i64 (t.ks.getD i default).a) (j := 1) (by rw [ei]; rfl)
    have g2 := fun (w' : World) (he' : Ext w1 w') (K' : Value → World → Prop) => Sl.ldField (K := K') (hsl.ext he') o_int hsl' (x := .int .i64 (t.ks.getD i default).b) (j := 2) (by rw [ei]; rfl)
    have g3 := fun (w' : World) (he' : Ext w1 w') (K' : Value → World → Prop) => Sl.ldField (K := K') (hsl.ext he') o_string hsl' (x := .string (t.ks.getD i default).s) (j := 3) (by rw [ei]; rfl)
    have g4 := fun (w' : World) (he' : Ext w1 w') (K' : Value → World → Prop) => Sl.ldField (K := K') (hsl.ext he') o_Limpl_Term hsl' (x := kvi) (j := 4) (by rw [ei]; rfl)
    simp (disch := first | (simp only [push_cast]; done) | omega) only [push_cast, hsl.iaddr]
    rw [g0 _ (Same.refl _ _)]
    simp only [push_cast, q1]
    refine vif_dec (fun h => absurd rfl h) (fun _ => ?_)
    rw [inc_wrap (by omega) (by omega), g1 _ (Same.refl _ _)]
    simp only [push_cast, q2]
    refine vif_dec (fun h => absurd rfl h) (fun _ => ?_)
    rw [inc_wrap (by omega) (by omega), g2 _ (Same.refl _ _), show m + 1 + 1 = m + 2 by omega]
    simp only [push_cast, q3]
    refine vif_dec (fun h => absurd rfl h) (fun _ => ?_)
    rw [inc_wrap (by omega) (by omega), show m + 2 + 1 = m + 3 by omega]
    refine vdraw_ext fun w2 he2 _ => ?_
    simp (disch := first | (simp only [push_cast]; done) | omega) only [push_cast, hsl.iaddr, g3 _ he2, true_and]
    refine markText_int (by omega) (by omega) fun w3 he3 => ?_
    simp (disch := first | (simp only [push_cast]; done) | omega) only [push_cast, hsl.iaddr, g3 _ (he2.trans he3), true_and, and_self, q4]
    refine vif_dec (fun h => absurd rfl h) (fun _ => ?_)
    rw [inc_wrap (by omega) (by omega), g4 _ (he2.trans he3), show m + 3 + 1 = m + 4 by omega]
    refine ih _ hmem (hki.ext (he2.trans he3)) q5 (by omega) (by omega) fun w4 he4 => ?_
    simp only [push_cast]
    refine vif_dec (fun h => by omega) (fun _ => ?_)
    rw [inc64' (by omega)]
    exact hC (by omega) _ _ ⟨m', rfl, he.trans (he2.trans (he3.trans he4)), by omega, q6⟩
  · have : i = t.ks.length := by omega
    subst this
    rw [List.drop_length] at hH1
    rw [held_nil hH1]
    exact hK _ he
theorem markTerm_spec {t : M.Tm} {cs : List Value} {k : Int} (h : TmO w D cs t) (h0 : 0 ≤ k) (hk : k + 4 * M.sizeM t < 4611686018427387904) (hD : ∀ b, D b → b < w.heap.size)
    (hK : ∀ w' u, Same D w w' → TmO w' D cs u → Held u.ks k (k + 4 * (M.sizeM t - 1)) → K (.int .i64 (k + 4 * (M.sizeM t - 1))) w') : vcall PP n_laws_markTerm #[.agg ⟨cs⟩, .int .i64 k] w K := by
  apply c_laws_markTerm; unfold F_laws_markTerm
  obtain ⟨kv, css, Ds, rfl, hp⟩ := tmO_parts h
  refine vbox_agg fun b1 w1 hb1 he1 hs1 h1 => ?_
  simp (disch := (simp only [push_cast]; done)) only [push_cast, h1.ld4]
  have hsz := M.szT_all t
  have e : (k + 4 * M.szT t.ks t.ks.length : Int) = k + 4 * (M.sizeM t - 1) := by omega
  refine markTermS_spec t (tmsO_same hp he1 fun b _ h => h) h0 (by omega) fun w2 us css' hw2 hp2 hlu hH => ?_
  rw [e] at hH ⊢
  exact hK _ (.mk t.op t.a t.b t.s us) ((Same.of_ext he1).trans hw2) (tmO_of (t := .mk t.op t.a t.b t.s us) hp2) hH
theorem heldTerm_spec {t : M.Tm} {v : Value} {k n : Int} (h : TermR F w v t) (hH : Held t.ks k n) (h0 : 0 ≤ k) (hn : n < 4611686018427387904) (hK : ∀ w', Ext w w' → K (.int .i64 n) w') : vcall PP n_laws_heldTerm #[v, .int .i64 k] w K := by
  apply c_laws_heldTerm; unfold F_laws_heldTerm
  obtain ⟨kv, rfl, hks⟩ := h
  have hl := held_le hH
  refine vbox_agg fun b1 w1 hb1 he1 hs1 h1 => ?_
  simp (disch := (simp only [push_cast]; done)) only [push_cast, h1.ld4]
  refine heldTermS_spec t (hks.ext he1) hH h0 hn fun w2 he2 => ?_
  simp only [push_cast]
  refine vif_dec (fun h => by omega) (fun _ => ?_)
  exact hK _ (he1.trans he2)
end Go.Proofs.YtcfgmgjofmbfhaaGreatDoor
end
section
namespace Go.M
open Go.Vc
section
variable {ds : List Dcl} {t : Tm}
def boolM (b : Bool) : Tm := if b = true then truT else flsT
def logicS (t : Tm) : Tm :=
  if t.op = 25 then (if (kid t 0).op = 25 then kid (kid t 0) 0 else t)
  else if t.op = 23 then (if isM (kid t 0) 1 = true ∨ (kid t 1 = kid t 2 ∧ ¬ isM (kid t 0) 0 = true) then kid t 1 else if isM (kid t 0) 0 = true then kid t 2 else t)
  else if isM (kid t 0) (b2i (decide (t.op = 26))) = true ∨ kid t 0 = kid t 1 then kid t 1
  else if isM (kid t 1) (b2i (decide (t.op = 26))) = true then kid t 0
  else if isM (kid t 0) (1 - b2i (decide (t.op = 26))) = true ∨ isM (kid t 1) (1 - b2i (decide (t.op = 26))) = true then boolM (decide (b2i (decide (t.op = 26)) = 0)) else t
def rightS (t : Tm) : Tm :=
  if t.op = 4 ∨ t.op = 5 ∨ t.op = 6 ∨ t.op = 7 ∨ t.op = 11 ∨ t.op = 12 ∨ t.op = 13 then (if isM (kid t 1) 0 = true then kid t 0 else t)
  else if t.op = 3 then (if isM (kid t 1) 0 = true then kid t 1 else t)
  else if t.op = 8 then (if isM (kid t 1) 0 = true then kid t 1 else if isM (kid t 1) 1 = true then kid t 0 else t) else t
def alikeS (t : Tm) (w : Int) : Tm :=
  if t.op = 3 ∨ t.op = 4 then kid t 0 else if t.op = 5 ∨ t.op = 7 then .mk 20 w 0 nada [] else if t.op = 15 then truT else if t.op = 16 ∨ t.op = 17 then flsT else t
def swapS (t : Tm) : Tm := .mk t.op 0 0 nada [kid t 1, kid t 0]
def otherS (t v : Tm) : Prop := v.ks.length ≠ 2 ∨ kid v 0 ≠ kid t 1 ∨ kid v 1 ≠ kid t 0 ∨ v.op ≠ t.op
instance (t v : Tm) : Decidable (otherS t v) := by unfold otherS; infer_instance
def twoS (t : Tm) (w : Int) : Tm :=
  if kid t 0 = kid t 1 ∧ alikeS t w ≠ t then alikeS t w
  else if rightS t ≠ t then rightS t
  else if (t.op = 3 ∨ t.op = 4 ∨ t.op = 5 ∨ t.op = 6 ∨ t.op = 8) ∧ otherS t (rightS (swapS t)) then rightS (swapS t) else t
def oneS (ds : List Dcl) (t : Tm) : Tm :=
  if allFixed t = true then (if sortM ds t = 0 then boolM (decide (evalM ds (zeroE ds) t = 1)) else .mk 20 (sortM ds t) (evalM ds (zeroE ds) t) nada [])
  else if t.ks = [] then t
  else if 23 ≤ t.op then logicS t
  else if t.op = 22 then (if sortM ds t = sortM ds (kid t 0) then kid t 0 else t)
  else if t.ks.length = 1 then (if (kid t 0).op = t.op then kid (kid t 0) 0 else t)
  else twoS t (sortM ds (kid t 0))
theorem kid_ne {i : Nat} (h : i < t.ks.length) : kid t i ≠ t := fun e => by
  have := (kid_size h).1
  rw [e] at this
  omega
theorem X_none (h : ¬ allFixed t = true) : ruleX ds t = none := by unfold ruleX; rw [if_neg h]
theorem B_none (h1 : t.op ≠ 25) (h2 : t.op ≠ 23) : ruleB t = none := by unfold ruleB; rw [if_neg (fun x => h1 x.1), if_pos h2]
theorem T_none (h : ¬ (t.op = 26 ∨ t.op = 27)) : ruleT t = none := by unfold ruleT; rw [if_neg h]
theorem L_none (h1 : t.op ≠ 22) (h2 : ¬ (t.op = 1 ∨ t.op = 2)) : ruleL ds t = none := by unfold ruleL; rw [if_neg h1, if_neg (fun x => h2 x.1)]
theorem W_none (h : t.ks.length ≠ 2) : ruleW ds t = none := by unfold ruleW; rw [if_neg (fun x => h x.1)]
theorem S_none (h : t.ks.length ≠ 2) : ruleS t = none := by unfold ruleS; rw [if_neg h]
theorem F_none (h : t.ks.length ≠ 2) : ruleF t = none := by unfold ruleF; rw [if_neg h]
theorem none_or {α : Type} {b : Option α} : ((none : Option α) <|> b) = b := rfl
theorem or_none {α : Type} {a : Option α} : (a <|> (none : Option α)) = a := by cases a <;> rfl
theorem logic_eq (hs : sortM ds t ≠ -1) (ha : ¬ allFixed t = true) (h23 : 23 ≤ t.op) (hne : t.ks ≠ []) : logicS t = oneT ds t := by
  have hl := len_of hs
  have hlp : 0 < t.ks.length := List.length_pos_iff.2 hne
  have hops := arity_ops (o := t.op) (by omega)
  unfold oneT ruleA
  rw [X_none ha, none_or]
  by_cases o25 : t.op = 25
  · have l1 : t.ks.length = 1 := by rw [o25] at hl; simp [arity] at hl; omega
    rw [T_none (by omega), L_none (by omega) (by omega), W_none (by omega), S_none (by omega), F_none (by omega)]
    simp only [or_none]
    unfold logicS ruleB
    rw [if_pos o25]
    by_cases k : (kid t 0).op = 25
    · rw [if_pos k, if_pos ⟨o25, k⟩]; rfl
    · rw [if_neg k, if_neg (fun x => k x.2), if_pos (by omega)]; rfl
  by_cases o23 : t.op = 23
  · have l3 : t.ks.length = 3 := by rw [o23] at hl; simp [arity] at hl; omega
    rw [T_none (by omega), L_none (by omega) (by omega), W_none (by omega), S_none (by omega), F_none (by omega)]
    simp only [or_none]
    unfold logicS ruleB
    rw [if_neg o25, if_pos o23, if_neg (show ¬ (t.op = 25 ∧ (kid t 0).op = 25) from fun x => o25 x.1), if_neg (show ¬ t.op ≠ 23 from fun x => x o23)]
    by_cases i1 : isM (kid t 0) 1 = true
    · rw [if_pos (.inl i1), if_pos i1]; rfl
    · rw [if_neg i1]
      by_cases i0 : isM (kid t 0) 0 = true
      · rw [if_neg (fun x => x.elim i1 fun x => x.2 i0), if_pos i0, if_pos i0]; rfl
      · rw [if_neg i0, if_neg i0]
        by_cases e : kid t 1 = kid t 2
        · rw [if_pos (.inr ⟨e, i0⟩), if_pos e]; rfl
        · rw [if_neg (fun x => x.elim i1 fun x => e x.1), if_neg e]; rfl
  have o : t.op = 26 ∨ t.op = 27 := by
    unfold arity at hl
    repeat' split at hl
    all_goals omega
  have l2 : t.ks.length = 2 := by rcases o with e | e <;> rw [e] at hl <;> simp [arity] at hl <;> omega
  have hb : b2i (decide (t.op = 26)) = neutral t.op := by
    unfold neutral b2i
    by_cases e : t.op = 26
    · rw [decide_eq_true e, if_pos rfl, if_pos e]
    · rw [decide_eq_false e, if_neg (by decide), if_neg e]
  have hbool : boolM (decide (neutral t.op = 0)) = constM 0 (1 - neutral t.op) := by
    unfold neutral
    rcases o with e | e
    · rw [if_pos e]; rfl
    · rw [if_neg (by omega)]; rfl
  rw [B_none o25 o23, none_or]
  unfold logicS
  rw [if_neg o25, if_neg o23, hb, hbool]
  have tail : ruleT t = none → (ruleL ds t <|> ruleW ds t <|> ruleS t <|> ruleF t) = none := fun hT => by
    have hk : kid t 0 ≠ kid t 1 := fun e => by
      unfold ruleT at hT
      rw [if_pos o, if_pos (.inr e)] at hT; cases hT
    rw [L_none (by omega) (by omega)]
    have w : ruleW ds t = none := by unfold ruleW; rw [if_neg (fun x => hk x.2)]
    have s : ruleS t = none := by unfold ruleS; rw [if_pos l2, if_neg (by omega), if_neg (by omega), if_neg (by omega)]
    have f : ruleF t = none := by unfold ruleF; rw [if_pos l2, if_neg (by omega), if_neg (by omega), if_neg (by omega)]
    rw [w, s, f]; rfl
  cases hT : ruleT t with
  | none =>
    rw [none_or, tail hT]
    unfold ruleT at hT
    rw [if_pos o] at hT
    split at hT
    · cases hT
    · rename_i c1
      rw [if_neg c1]
      split at hT
      · cases hT
      · rename_i c2
        rw [if_neg c2]
        split at hT
        · cases hT
        · rename_i c3
          rw [if_neg c3]; rfl
  | some u =>
    have : (some u <|> (ruleL ds t <|> ruleW ds t <|> ruleS t <|> ruleF t)) = some u := rfl
    rw [this]
    unfold ruleT at hT
    rw [if_pos o] at hT
    split at hT
    · rename_i c1
      rw [if_pos c1]; exact Option.some.inj hT
    · rename_i c1
      rw [if_neg c1]
      split at hT
      · rename_i c2
        rw [if_pos c2]; exact Option.some.inj hT
      · rename_i c2
        rw [if_neg c2]
        split at hT
        · rename_i c3
          rw [if_pos c3]; exact Option.some.inj hT
        · cases hT
theorem right_eq (l2 : t.ks.length = 2) : (ruleS t = none ∧ rightS t = t) ∨ (ruleS t = some (rightS t) ∧ rightS t ≠ t) := by
  have k0 := kid_ne (t := t) (i := 0) (by omega)
  have k1 := kid_ne (t := t) (i := 1) (by omega)
  unfold ruleS rightS
  rw [if_pos l2]
  by_cases o4 : t.op = 4 ∨ t.op = 5 ∨ t.op = 6 ∨ t.op = 7 ∨ t.op = 11 ∨ t.op = 12 ∨ t.op = 13
  · have n1 : ¬ (isM (kid t 1) 0 = true ∧ (t.op = 3 ∨ t.op = 8)) := fun x => by omega
    have n2 : ¬ (isM (kid t 1) 1 = true ∧ t.op = 8) := fun x => by omega
    rw [if_neg n1, if_neg n2, if_pos o4]
    by_cases i0 : isM (kid t 1) 0 = true
    · rw [if_pos ⟨i0, o4⟩, if_pos i0]; exact .inr ⟨rfl, k0⟩
    · rw [if_neg (fun x => i0 x.1), if_neg i0]; exact .inl ⟨rfl, rfl⟩
  · rw [if_neg (show ¬ (isM (kid t 1) 0 = true ∧ _) from fun x => o4 x.2), if_neg o4]
    by_cases o3 : t.op = 3
    · have n2 : ¬ (isM (kid t 1) 1 = true ∧ t.op = 8) := fun x => by omega
      rw [if_neg n2, if_pos o3]
      by_cases i0 : isM (kid t 1) 0 = true
      · rw [if_pos ⟨i0, .inl o3⟩, if_pos i0]; exact .inr ⟨rfl, k1⟩
      · rw [if_neg (fun x => i0 x.1), if_neg i0]; exact .inl ⟨rfl, rfl⟩
    · rw [if_neg o3]
      by_cases o8 : t.op = 8
      · rw [if_pos o8]
        by_cases i0 : isM (kid t 1) 0 = true
        · rw [if_pos ⟨i0, .inr o8⟩, if_pos i0]; exact .inr ⟨rfl, k1⟩
        · rw [if_neg (show ¬ (isM (kid t 1) 0 = true ∧ _) from fun x => i0 x.1), if_neg i0]
          by_cases i1 : isM (kid t 1) 1 = true
          · rw [if_pos ⟨i1, o8⟩, if_pos i1]; exact .inr ⟨rfl, k0⟩
          · rw [if_neg (fun x => i1 x.1), if_neg i1]; exact .inl ⟨rfl, rfl⟩
      · have n1 : ¬ (isM (kid t 1) 0 = true ∧ (t.op = 3 ∨ t.op = 8)) := fun x => by omega
        rw [if_neg n1, if_neg (fun x => o8 x.2), if_neg o8]; exact .inl ⟨rfl, rfl⟩
theorem other_kid {i : Nat} (hi : i = 0 ∨ i = 1) (l2 : t.ks.length = 2) : otherS t (kid t i) := by
  by_cases h : (kid t i).ks.length = 2
  · rcases hi with rfl | rfl
    · exact .inr (.inr (.inl (fun e => kid_ne (t := kid t 0) (i := 1) (by omega) e)))
    · exact .inr (.inl (fun e => kid_ne (t := kid t 1) (i := 0) (by omega) e))
  · exact .inl h
theorem left_eq (l2 : t.ks.length = 2) : ruleF t = if (t.op = 3 ∨ t.op = 4 ∨ t.op = 5 ∨ t.op = 6 ∨ t.op = 8) ∧ otherS t (rightS (swapS t)) then some (rightS (swapS t)) else none := by
  have sw : ∀ i, kid (swapS t) i = [kid t 1, kid t 0].getD i default := fun i => rfl
  have s0 : kid (swapS t) 0 = kid t 1 := rfl
  have s1 : kid (swapS t) 1 = kid t 0 := rfl
  have so : (swapS t).op = t.op := rfl
  have self : ¬ otherS t (swapS t) := fun h => by
    rcases h with h | h | h | h
    · exact h rfl
    · exact h rfl
    · exact h rfl
    · exact h rfl
  have k0 := other_kid (t := t) (i := 0) (.inl rfl) l2
  have k1 := other_kid (t := t) (i := 1) (.inr rfl) l2
  unfold ruleF
  rw [if_pos l2]
  by_cases o4 : t.op = 4 ∨ t.op = 5 ∨ t.op = 6
  · have o : t.op = 3 ∨ t.op = 4 ∨ t.op = 5 ∨ t.op = 6 ∨ t.op = 8 := by omega
    have n1 : ¬ (isM (kid t 0) 0 = true ∧ (t.op = 3 ∨ t.op = 8)) := fun x => by omega
    have n2 : ¬ (isM (kid t 0) 1 = true ∧ t.op = 8) := fun x => by omega
    have r : rightS (swapS t) = if isM (kid t 0) 0 = true then kid t 1 else swapS t := by
      unfold rightS
      rw [s0, s1, so, if_pos (show t.op = 4 ∨ t.op = 5 ∨ t.op = 6 ∨ t.op = 7 ∨ t.op = 11 ∨ t.op = 12 ∨ t.op = 13 by omega)]
    rw [if_neg n1, if_neg n2, r]
    by_cases i0 : isM (kid t 0) 0 = true
    · rw [if_pos i0, if_pos ⟨i0, o4⟩, if_pos ⟨o, k1⟩]
    · rw [if_neg i0, if_neg (fun x => i0 x.1), if_neg (fun x => self x.2)]
  · rw [if_neg (show ¬ (isM (kid t 0) 0 = true ∧ _) from fun x => o4 x.2)]
    by_cases o3 : t.op = 3
    · have o : t.op = 3 ∨ t.op = 4 ∨ t.op = 5 ∨ t.op = 6 ∨ t.op = 8 := by omega
      have n2 : ¬ (isM (kid t 0) 1 = true ∧ t.op = 8) := fun x => by omega
      have r : rightS (swapS t) = if isM (kid t 0) 0 = true then kid t 0 else swapS t := by
        unfold rightS
        rw [s0, s1, so, if_neg (show ¬ (t.op = 4 ∨ t.op = 5 ∨ t.op = 6 ∨ t.op = 7 ∨ t.op = 11 ∨ t.op = 12 ∨ t.op = 13) by omega), if_pos o3]
      rw [if_neg n2, r]
      by_cases i0 : isM (kid t 0) 0 = true
      · rw [if_pos i0, if_pos ⟨i0, .inl o3⟩, if_pos ⟨o, k0⟩]
      · rw [if_neg i0, if_neg (fun x => i0 x.1), if_neg (fun x => self x.2)]
    · by_cases o8 : t.op = 8
      · have o : t.op = 3 ∨ t.op = 4 ∨ t.op = 5 ∨ t.op = 6 ∨ t.op = 8 := by omega
        have r : rightS (swapS t) = if isM (kid t 0) 0 = true then kid t 0 else if isM (kid t 0) 1 = true then kid t 1 else swapS t := by
          unfold rightS
          rw [s0, s1, so, if_neg (show ¬ (t.op = 4 ∨ t.op = 5 ∨ t.op = 6 ∨ t.op = 7 ∨ t.op = 11 ∨ t.op = 12 ∨ t.op = 13) by omega), if_neg o3, if_pos o8]
        rw [r]
        by_cases i0 : isM (kid t 0) 0 = true
        · rw [if_pos i0, if_pos ⟨i0, .inr o8⟩, if_pos ⟨o, k0⟩]
        · rw [if_neg i0, if_neg (show ¬ (isM (kid t 0) 0 = true ∧ _) from fun x => i0 x.1)]
          by_cases i1 : isM (kid t 0) 1 = true
          · rw [if_pos i1, if_pos ⟨i1, o8⟩, if_pos ⟨o, k1⟩]
          · rw [if_neg i1, if_neg (fun x => i1 x.1), if_neg (fun x => self x.2)]
      · have n1 : ¬ (isM (kid t 0) 0 = true ∧ (t.op = 3 ∨ t.op = 8)) := fun x => by omega
        rw [if_neg n1, if_neg (fun x => o8 x.2), if_neg (fun x => by omega)]
theorem two_eq (hd : declOk ds = true) (hs : sortM ds t ≠ -1) (ha : ¬ allFixed t = true) (l2 : t.ks.length = 2) (h22 : t.op < 22) : twoS t (sortM ds (kid t 0)) = oneT ds t := by
  have hl := len_of hs
  have ho := arity_two (o := t.op) (by omega)
  have o3 : 3 ≤ t.op ∧ t.op ≤ 17 := by omega
  have ne : ∀ {u : Tm}, u.op = 20 ∨ u.op = 24 ∨ u.op = 25 → u ≠ t := fun {u} h e => by rw [e] at h; omega
  have hW : (ruleW ds t = none ∧ ¬ (kid t 0 = kid t 1 ∧ alikeS t (sortM ds (kid t 0)) ≠ t)) ∨ (ruleW ds t = some (alikeS t (sortM ds (kid t 0))) ∧ kid t 0 = kid t 1 ∧ alikeS t (sortM ds (kid t 0)) ≠ t) := by
    by_cases hk : kid t 0 = kid t 1
    · unfold ruleW alikeS
      rw [if_pos ⟨l2, hk⟩]
      by_cases c1 : t.op = 3 ∨ t.op = 4
      · rw [if_pos c1, if_pos c1]; exact .inr ⟨rfl, hk, kid_ne (by omega)⟩
      rw [if_neg c1, if_neg c1]
      by_cases c2 : t.op = 5 ∨ t.op = 7
      · obtain ⟨s0, _, ev⟩ := bin_parts hd hs l2 (by omega) (by omega)
        have hv := vok_lt (ev _ (zeroE_ok hd)).1
        rw [if_pos c2, if_pos c2, s0]
        refine .inr ⟨?_, hk, ne (.inl rfl)⟩
        unfold constM
        rw [if_pos (by omega)]
      rw [if_neg c2, if_neg c2]
      by_cases c3 : t.op = 15
      · rw [if_pos c3, if_pos c3]; exact .inr ⟨rfl, hk, ne (.inr (.inl rfl))⟩
      rw [if_neg c3, if_neg c3]
      by_cases c4 : t.op = 16 ∨ t.op = 17
      · rw [if_pos c4, if_pos c4]; exact .inr ⟨rfl, hk, ne (.inr (.inr rfl))⟩
      rw [if_neg c4, if_neg c4]
      exact .inl ⟨rfl, fun x => x.2 rfl⟩
    · exact .inl ⟨by unfold ruleW; rw [if_neg (fun x => hk x.2)], fun x => hk x.1⟩
  unfold oneT ruleA
  rw [X_none ha, B_none (by omega) (by omega), T_none (by omega), L_none (by omega) (by omega)]
  simp only [none_or]
  unfold twoS
  rcases hW with ⟨w1, w2⟩ | ⟨w1, w2⟩
  · rw [if_neg w2, w1, none_or]
    rcases right_eq (t := t) l2 with ⟨s1, s2⟩ | ⟨s1, s2⟩
    · rw [if_neg (fun x => x s2), s1, none_or, left_eq l2]
      by_cases c : (t.op = 3 ∨ t.op = 4 ∨ t.op = 5 ∨ t.op = 6 ∨ t.op = 8) ∧ otherS t (rightS (swapS t))
      · rw [if_pos c, if_pos c]; rfl
      · rw [if_neg c, if_neg c]; rfl
    · rw [if_pos s2, s1]; rfl
  · rw [if_pos w2, w1]; rfl
theorem oneS_eq (hd : declOk ds = true) (hs : sortM ds t ≠ -1) : oneS ds t = oneT ds t := by
  have hl := len_of hs
  unfold oneS
  by_cases ha : allFixed t = true
  · have hin := eval_in (zeroE_ok hd) t hs
    have h1 : oneT ds t = constM (sortM ds t) (evalM ds (zeroE ds) t) := by
      unfold oneT ruleA ruleX
      rw [if_pos ha]; rfl
    rw [if_pos ha, h1]
    unfold constM boolM
    rcases hin with h | h
    · rw [if_pos h.1, if_neg (show ¬ 0 < sortM ds t by omega)]
      by_cases e : evalM ds (zeroE ds) t = 1
      · rw [if_pos e, decide_eq_true e, if_pos rfl]
      · rw [if_neg e, decide_eq_false e, if_neg (by decide)]
    · have := vok_lt h
      rw [if_neg (by omega), if_pos (by omega)]
  rw [if_neg ha]
  by_cases hks : t.ks = []
  · rw [if_pos hks, leaf_one hks (arity_zero (o := t.op) (by rw [hl, hks]; rfl))]
  rw [if_neg hks]
  have hlp : 0 < t.ks.length := List.length_pos_iff.2 hks
  by_cases h23 : 23 ≤ t.op
  · rw [if_pos h23]; exact logic_eq hs ha h23 hks
  rw [if_neg h23]
  by_cases h22 : t.op = 22
  · have l1 : t.ks.length = 1 := by rw [h22] at hl; simp [arity] at hl; omega
    have s0 := sort_one hd (sort_parts hs).1 l1
    have hs' := hs
    rw [s0] at hs'
    have g := one_good (by omega) hs'
    have g3 := g.2.2 h22
    have st : sortM ds t = t.a - t.b + 1 := by
      rw [s0]; unfold oneM
      rw [if_neg (by omega), if_neg (by have := g.2.1 (by omega); omega), if_pos h22, if_pos g3]
    rw [if_pos h22]
    unfold oneT ruleA
    rw [X_none ha, B_none (by omega) (by omega), T_none (by omega), W_none (by omega), S_none (by omega), F_none (by omega)]
    simp only [none_or, or_none]
    unfold ruleL
    rw [if_pos h22]
    by_cases c : sortM ds t = sortM ds (kid t 0)
    · rw [if_pos c, if_pos (by omega)]; rfl
    · rw [if_neg c, if_neg (by omega)]; rfl
  rw [if_neg h22]
  have hops := arity_ops (o := t.op) (by omega)
  by_cases l1 : t.ks.length = 1
  · have ho := arity_one (o := t.op) (by omega)
    rw [if_pos l1]
    unfold oneT ruleA
    rw [X_none ha, B_none (by omega) (by omega), T_none (by omega), W_none (by omega), S_none (by omega), F_none (by omega)]
    simp only [none_or, or_none]
    unfold ruleL
    rw [if_neg h22]
    by_cases c : (kid t 0).op = t.op
    · rw [if_pos c, if_pos ⟨by omega, c⟩]; rfl
    · rw [if_neg c, if_neg (fun x => c x.2)]; rfl
  rw [if_neg l1]
  have l2 : t.ks.length = 2 := by
    unfold arity at hl
    repeat' split at hl
    all_goals omega
  exact two_eq hd hs ha l2 (by omega)
end
end Go.M
end
section
namespace Go.Proofs.YtcfgmgjofmbfhaaGreatDoor
open Go Go.Vc Go.Proofs
variable {w : World} {K : Value → World → Prop} {F F' D G : Nat → Prop}
def Qb (G : Nat → Prop) (n b4 : Nat) (x : Nat) : Prop := (G x ∧ x < n) ∨ b4 < x
structure RT (G : Nat → Prop) (w0 w : World) (b3 b4 : Nat) (kv : Value) (t : M.Tm) : Prop where
  ext : Ext w0 w
  q : Blk w b3 [.int .i64 t.op, .int .i64 t.a, .int .i64 t.b, .string t.s, kv] T_impl_Term
  r : Blk w b4 zeroT T_impl_Term
  k : TmsR (fun x => G x ∧ x < w0.heap.size) w kv t.ks
  lo : w0.heap.size ≤ b4
section
variable {w0 w' : World} {b3 b4 : Nat} {kv : Value} {t : M.Tm}
theorem rt_ext (h : RT G w0 w b3 b4 kv t) (he : Ext w w') : RT G w0 w' b3 b4 kv t := ⟨h.ext.trans he, h.q.ext he, h.r.ext he, h.k.ext he, h.lo⟩
theorem rt_enter {tv : Value} {B : Value → Value → World → Prop} (ht : TermR G w tv t) (hK : ∀ w' b3 b4 kv, RT G w w' b3 b4 kv t → B (ptr b3) (ptr b4) w') :
    vbox PP T_impl_Term tv w fun t3 w_2 => valloc PP T_impl_Term w_2 fun t4 w_3 => B t3 t4 w_3 := by
  obtain ⟨kv, rfl, hks⟩ := ht
  refine vbox_agg fun b2 w2 hb2 he2 hs2 h2 => ?_
  refine valloc_agg zr_impl_Term fun b3 w3 hb3 he3 hs3 h3 => ?_
  have hE := he2.trans he3
  exact hK _ _ _ kv ⟨hE, h2.ext he3, h3, (hks.weaken fun b h h' => ⟨h, h'⟩).ext hE, by omega⟩
abbrev OutK (K : Value → World → Prop) (w : World) (G : Nat → Prop) (u : M.Tm) : Prop := ∀ w' rv, Ext w w' → TermR (fun x => G x ∨ w.heap.size ≤ x) w' rv u → K rv w'
theorem rt_give (h : RT G w0 w b3 b4 kv t) {rv : Value} {u : M.Tm} (hu : TermR (Qb G w0.heap.size b4) w rv u) (hK : OutK K w0 G u) :
    vstore PP T_impl_Term (ptr b4) rv w fun _ w1 => vlv PP T_impl_Term (ptr b4) w1 fun r w2 => K r w2 := by
  obtain ⟨cs, rfl, hcs⟩ := hu.cells
  have hlo := h.lo
  refine retTerm h.r rfl hcs (fun x hx => by rcases hx with h | h <;> omega) fun w3 hw3 hz3 ht3 => ?_
  exact hK _ _ (Ext.then h.ext hw3 fun y hy => by subst hy; exact h.lo) (ht3.weaken fun x hx _ => by
    rcases hx with h | h
    · exact .inl h.1
    · exact .inr (by omega))
theorem rt_kid {n : Nat} {rv : Value} {u : M.Tm} (hu : TermR (fun x => G x ∧ x < n) w' rv u) : TermR (Qb G n b4) w' rv u := hu.weaken fun x hx _ => .inl hx
theorem rt_new (h : RT G w0 w b3 b4 kv t) {rv : Value} {u : M.Tm} (hu : TermR (fun x => w.heap.size ≤ x) w' rv u) : TermR (Qb G w0.heap.size b4) w' rv u := hu.weaken fun x hx _ => .inr (by have := h.r.lt; omega)
theorem rt_self (h : RT G w0 w b3 b4 kv t) : TermR (fun x => G x ∧ x < w0.heap.size) w (.agg ⟨[.int .i64 t.op, .int .i64 t.a, .int .i64 t.b, .string t.s, kv]⟩) t := ⟨kv, rfl, h.k⟩
end
theorem spec_TermSame_spec : ∀ (t : M.Tm) {w : World} {K : Value → World → Prop} {F G : Nat → Prop} {va vb : Value} {u : M.Tm}, TermR F w va t → TermR G w vb u → (∀ w', Ext w w' → K (.bool (decide (t = u))) w') → vcall PP n_spec_TermSame #[va, vb] w K := by
  refine M.Tm.ind fun t ih w K F G va vb u ha hb hK => ?_
  apply c_spec_TermSame; unfold F_spec_TermSame
  obtain ⟨kva, rfl, hka⟩ := ha
  obtain ⟨kvb, rfl, hkb⟩ := hb
  refine vbox_agg fun b1 w1 hb1 he1 hs1 h1 => ?_
  refine vbox_agg fun b2 w2 hb2 he2 hs2 h2 => ?_
  have q1 := h1.ext he2
  have hE := he1.trans he2
  have no : ∀ w', Ext w w' → t ≠ u → K (.bool false) w' := fun w' h hn => by
    have := hK w' h
    rwa [decide_eq_false hn] at this
  refine vjoin_of (fun x w' => x = [] ∧ w' = w2 ∧ t.op = u.op ∧ t.a = u.a ∧ t.b = u.b ∧ t.s = u.s ∧ t.ks.length = u.ks.length) (fun C hC => ?_) ?_
  · simp (disch := (simp only [push_cast]; done)) only [push_cast, q1.ld0, h2.ld0, q1.ld1, h2.ld1, q1.ld2, h2.ld2, q1.ld3, h2.ld3, q1.ld4, h2.ld4, (hka.ext hE).len, (hkb.ext hE).len]
    refine vif_dec (fun e => no _ hE fun h => e (by rw [h])) (fun e1 => ?_)
    refine vif_dec (fun e => no _ hE fun h => e (by rw [h])) (fun e2 => ?_)
    refine vif_dec (fun e => no _ hE fun h => e (by rw [h])) (fun e3 => ?_)
    refine vif_dec (fun e => no _ hE fun h => e (by rw [h])) (fun e4 => ?_)
    refine vif_dec (fun e => no _ hE fun h => e (by rw [h])) (fun e5 => ?_)
    exact hC _ _ ⟨rfl, rfl, by omega, by omega, by omega, by simpa using e4, by omega⟩
  rintro x g w2' ⟨rfl, rfl, e1, e2, e3, e4, el⟩
  have hsm := hka.small
  refine vloop_up t.ks.length (fun i x w' => x = [.int .i64 i] ∧ Ext w2' w' ∧ ∀ j, j < i → t.ks.getD j default = u.ks.getD j default) ⟨rfl, Same.refl _ _, fun j hj => absurd hj (by omega)⟩ ?_
  rintro i _ _ w3 C hi ⟨rfl, he3, hall⟩ hC
  have hE3 := hE.trans he3
  have ha3 := hka.ext hE3
  have p3 := q1.ext he3
  simp (disch := first | (simp only [push_cast]; done) | omega) only [push_cast, p3.ld4, ha3.len]
  refine vif_dec (fun a => ?_) (fun a => ?_)
  · refine vdraw_ext fun w4 he4 _ => ?_
    have hE4 := hE3.trans he4
    have p4 := p3.ext he4
    have r4 := h2.ext (he3.trans he4)
    obtain ⟨ca, sa, la, ka⟩ := hka.ext hE4
    obtain ⟨cb, sb, lb, kb⟩ := hkb.ext hE4
    simp (disch := first | (simp only [push_cast]; done) | omega) only [push_cast, p4.ld4, r4.ld4, sa.iaddr, sa.ldAgg, sb.iaddr, sb.ldAgg, true_and]
    refine ih _ (M.getD_mem (by omega) _) (ka i (by omega)).term (kb i (by omega)).term fun w8 he8 => ?_
    simp only [push_cast, true_and]
    refine vif_bool (fun b => ?_) (fun b => ?_)
    · rw [Bool.not_eq_true', decide_eq_false_iff_not] at b
      exact no _ (hE4.trans he8) fun h => b (by rw [h])
    · rw [Bool.not_eq_false', decide_eq_true_eq] at b
      rw [inc64' (by omega)]
      refine hC (by omega) _ _ ⟨rfl, he3.trans (he4.trans he8), fun j hj => ?_⟩
      by_cases e : j < i
      · exact hall j e
      · have : j = i := by omega
        subst this; exact b
  · have : t = u := M.tm_ext e1 e2 e3 e4 (List.ext_getElem el fun j h1 h2 => by
      have := hall j (by omega)
      rwa [List.getD_eq_getElem?_getD, List.getElem?_eq_getElem h1, List.getD_eq_getElem?_getD, List.getElem?_eq_getElem h2] at this)
    have := hK w3 hE3
    rwa [decide_eq_true ‹t = u›] at this
theorem l3False_spec (hK : ∀ w' v, Ext w w' → TermR (fun b => w.heap.size ≤ b) w' v M.flsT → K v w') : vcall PP n_spec_l3False #[] w K := by
  apply c_spec_l3False; unfold F_spec_l3False
  refine valloc_agg zr_impl_Term fun b1 w1 hb1 he1 hs1 h1 => ?_
  simp only [push_cast]
  refine kids1 (node_leaf (o := 24) (F := fun _ => False)) fun w2 a he2 hs2 k2 => ?_
  simp only [push_cast]
  have hn : TmR (fun b => b ≠ b1 ∧ w.heap.size ≤ b) w2 _ M.flsT := (TmR.of (t := M.flsT) k2).weaken fun z hz _ => by
    rcases hz with h | h
    · exact h.elim
    · exact ⟨by omega, by omega⟩
  refine retTerm (h1.ext he2) rfl hn (fun x hx => hx.1) fun w3 hw3 hz3 ht3 => ?_
  exact hK _ _ (Ext.then (he1.trans he2) hw3 fun y hy => by subst hy; omega) (ht3.weaken fun b hb _ => hb.2)
theorem l3Bool_spec {b : Bool} (hK : ∀ w' v, Ext w w' → TermR (fun b => w.heap.size ≤ b) w' v (M.boolM b) → K v w') : vcall PP n_spec_l3Bool #[.bool b] w K := by
  apply c_spec_l3Bool; unfold F_spec_l3Bool
  refine valloc_agg zr_impl_Term fun b1 w1 hb1 he1 hs1 h1 => ?_
  refine vif_bool (fun a => ?_) (fun a => ?_)
  · subst a
    simp only [push_cast]
    refine retTerm h1 rfl (leafR 24 0 0 _ : TmR (fun _ => False) w1 _ _) (fun x hx => hx.elim) fun w3 hw3 hz3 ht3 => ?_
    exact hK _ _ (Ext.then he1 hw3 fun y hy => by subst hy; omega) (ht3.weaken fun b hb _ => hb.elim)
  · subst a
    refine l3False_spec fun w2 v he2 ht2 => ?_
    obtain ⟨cs, rfl, hcs⟩ := ht2.cells
    refine retTerm (h1.ext he2) rfl hcs (fun x hx => by omega) fun w3 hw3 hz3 ht3 => ?_
    exact hK _ _ (Ext.then (he1.trans he2) hw3 fun y hy => by subst hy; omega) (ht3.weaken fun b hb _ => by have := he1.size; omega)
@[push_cast] theorem bd_T2 (o a : Int) : vbuild PP T_impl_Term [(0, .int .i64 o), (1, .int .i64 a)] w K = K (.agg ⟨[.int .i64 o, .int .i64 a, .int .i64 0, .string ⟨#[]⟩, .slice none 0 0]⟩) w := vbuild_eq b_impl_Term (us := [[.int .i64 o], [.int .i64 a]]) rfl rfl
theorem l3Zero_spec {s : Int} (hK : ∀ w' v, Ext w w' → TermR (fun b => w.heap.size ≤ b) w' v (.mk 20 s 0 M.nada []) → K v w') : vcall PP n_spec_l3Zero #[.int .i64 s] w K := by
  apply c_spec_l3Zero; unfold F_spec_l3Zero
  refine valloc_agg zr_impl_Term fun b1 w1 hb1 he1 hs1 h1 => ?_
  simp only [push_cast]
  refine retTerm h1 rfl (leafR 20 s 0 _ : TmR (fun _ => False) w1 _ _) (fun x hx => hx.elim) fun w3 hw3 hz3 ht3 => ?_
  exact hK _ _ (Ext.then he1 hw3 fun y hy => by subst hy; omega) (ht3.weaken fun b hb _ => hb.elim)
theorem spec_TermFixed_spec {v : Value} {t : M.Tm} (ht : TermR F w v t) (hK : ∀ w', Ext w w' → K (.tuple #[.int .i64 ((M.fixedM t).getD 0), .bool (M.fixedM t).isSome]) w') : vcall PP n_spec_TermFixed #[v] w K := by
  apply c_spec_TermFixed; unfold F_spec_TermFixed
  have ht' := ht
  obtain ⟨kv, rfl, hks⟩ := ht
  refine vbox_agg fun b1 w1 hb1 he1 hs1 h1 => ?_
  have out : ∀ w' o, Ext w w' → M.fixedM t = o → K (.tuple #[.int .i64 (o.getD 0), .bool o.isSome]) w' := fun w' o h e => by rw [← e]; exact hK w' h
  rw [h1.ldAgg (t := T_impl_Term) g_impl_Term]
  simp only [push_cast]
  refine spec_TermSame_spec t (ht'.ext he1) (node_leaf (o := 24) (F := fun _ => False)) fun w3 he3 => ?_
  have hE3 := he1.trans he3
  refine vif_dec (fun d => ?_) (fun d => ?_)
  · exact out w3 (some 1) hE3 (if_pos d)
  have d' : ¬ t = M.truT := d
  refine vdraw_ext fun w4 he4 _ => ?_
  have hE4 := hE3.trans he4
  have q4 := h1.ext (he3.trans he4)
  simp (disch := (simp only [push_cast]; done)) only [push_cast, q4.ldAgg (t := T_impl_Term) g_impl_Term, true_and]
  refine l3False_spec fun w5 fv he5 hf5 => ?_
  have q5 := q4.ext he5
  simp (disch := (simp only [push_cast]; done)) only [push_cast, q5.ldAgg (t := T_impl_Term) g_impl_Term, true_and, and_self]
  refine spec_TermSame_spec t (ht'.ext (hE4.trans he5)) hf5 fun w6 he6 => ?_
  have hE6 := hE4.trans (he5.trans he6)
  have q6 := q5.ext he6
  refine vif_dec (fun f => ?_) (fun f => ?_)
  · refine out w6 (some 0) hE6 ?_
    unfold M.fixedM
    rw [if_neg d', if_pos f]
  have f' : ¬ t = M.flsT := f
  have no : ∀ w', Ext w w' → ¬ (t.op = 20 ∧ t.ks = [] ∧ t.s = M.nada ∧ M.vok t.a t.b = true) → K (.tuple #[.int .i64 0, .bool false]) w' := fun w' h hn => out w' none h (by unfold M.fixedM; rw [if_neg d', if_neg f', if_neg hn])
  simp (disch := (simp only [push_cast]; done)) only [push_cast, q6.ld0]
  refine vif_dec (fun c1 => ?_) (fun c1 => no _ hE6 fun h => c1 h.1)
  simp (disch := (simp only [push_cast]; done)) only [push_cast, q6.ld4, (hks.ext hE6).len]
  refine vif_dec (fun c2 => ?_) (fun c2 => no _ hE6 fun h => c2 (nil_len.2 h.2.1))
  try simp (disch := (simp only [push_cast]; done)) only [push_cast, q6.ld3]
  refine vif_dec (fun c3 => ?_) (fun c3 => no _ hE6 fun h => c3 h.2.2.1)
  try simp (disch := (simp only [push_cast]; done)) only [push_cast, q6.ld1, q6.ld2]
  refine spec_VecOk_spec fun w7 he7 => ?_
  have q7 := q6.ext he7
  refine vif_bool (fun c4 => ?_) (fun c4 => no _ (hE6.trans he7) fun h => by rw [h.2.2.2] at c4; cases c4)
  simp (disch := (simp only [push_cast]; done)) only [push_cast, q7.ld2]
  refine out w7 (some t.b) (hE6.trans he7) ?_
  rw [fixed_vec c1, if_pos ⟨nil_len.1 c2, c3, c4⟩]
theorem l3Is_spec {v : Value} {t : M.Tm} {n : Int} (ht : TermR F w v t) (hK : ∀ w', Ext w w' → K (.bool (M.isM t n)) w') : vcall PP n_spec_l3Is #[v, .int .i64 n] w K := by
  apply c_spec_l3Is; unfold F_spec_l3Is
  obtain ⟨cs, rfl, hcs⟩ := ht.cells
  refine vbox_agg fun b1 w1 hb1 he1 hs1 h1 => ?_
  rw [h1.ldAgg (t := T_impl_Term) (by rw [tmR_len hcs]; exact g_impl_Term)]
  refine spec_TermFixed_spec (hcs.ext he1).term fun w2 he2 => ?_
  have := hK w2 (he1.trans he2)
  unfold M.isM at this
  simp only [push_cast]
  cases e : M.fixedM t with
  | none => rw [e] at this; exact this
  | some m =>
    rw [e] at this
    simp only [Option.some.injEq] at this
    exact this
theorem l3All_spec {v : Value} {t : M.Tm} (ht : TermR F w v t) (hK : ∀ w', Ext w w' → K (.bool (M.allFixed t)) w') : vcall PP n_spec_l3All #[v] w K := by
  apply c_spec_l3All; unfold F_spec_l3All
  obtain ⟨kv, rfl, hks⟩ := ht
  refine vbox_agg fun b1 w1 hb1 he1 hs1 h1 => ?_
  have hsm := hks.small
  refine vloop_up t.ks.length (fun i u w' => u = [.int .i64 i] ∧ Ext w1 w' ∧ ∀ j, j < i → (M.fixedM (t.ks.getD j default)).isSome = true) ⟨rfl, Same.refl _ _, fun j hj => absurd hj (by omega)⟩ ?_
  rintro i _ _ w3 C hi ⟨rfl, he3, hall⟩ hC
  have hE3 := he1.trans he3
  have q3 := h1.ext he3
  have hk3 := hks.ext hE3
  simp (disch := (simp only [push_cast]; done)) only [push_cast, q3.ld4, hk3.len]
  refine vif_dec (fun b => ?_) (fun b => ?_)
  · simp (disch := first | (simp only [push_cast]; done) | omega) only [push_cast, hk3.iaddr]
    refine hk3.load g_impl_Term (by omega) fun x hx => ?_
    refine spec_TermFixed_spec hx fun w6 he6 => ?_
    simp only [push_cast]
    refine vif_bool (fun c => ?_) (fun c => ?_)
    · rw [Bool.not_eq_true'] at c
      have : M.allFixed t = false := by
        unfold M.allFixed
        rw [Bool.and_eq_false_iff]
        right
        rw [List.all_eq_false]
        exact ⟨_, M.getD_mem (l := t.ks) (i := i) (by omega) default, by rw [c]; decide⟩
      have h := hK w6 (hE3.trans he6)
      rwa [this] at h
    · rw [Bool.not_eq_false'] at c
      rw [inc64' (by omega)]
      refine hC (by omega) _ _ ⟨rfl, he3.trans he6, fun j hj => ?_⟩
      by_cases e : j < i
      · exact hall j e
      · have : j = i := by omega
        subst this; exact c
  · try simp (disch := (simp only [push_cast]; done)) only [push_cast, q3.ld4, hk3.len]
    have : M.allFixed t = decide (0 < (t.ks.length : Int)) := by
      unfold M.allFixed
      have ha : (t.ks.all fun k => (M.fixedM k).isSome) = true := by
        rw [List.all_eq_true]
        intro k hk
        obtain ⟨j, hj, rfl⟩ := List.getElem_of_mem hk
        have := hall j (by omega)
        rwa [List.getD_eq_getElem?_getD, List.getElem?_eq_getElem hj] at this
      rw [ha, Bool.and_true]
      have e : (t.ks ≠ []) ↔ 0 < (t.ks.length : Int) := by rw [← List.length_pos_iff]; omega
      exact decide_eq_decide.2 e
    have h := hK w3 hE3
    rwa [this] at h
theorem l3Right_spec {v : Value} {t : M.Tm} (ht : TermR G w v t) (h2 : t.ks.length = 2) (hK : OutK K w G (M.rightS t)) : vcall PP n_spec_l3Right #[v] w K := by
  apply c_spec_l3Right; unfold F_spec_l3Right
  refine rt_enter (B := fun t3 t4 w_3 => _) ht fun w1 b3 b4 kv rs => ?_
  simp (disch := first | (simp only [push_cast]; done) | omega) only [push_cast, rs.q.ld4, rs.k.iaddr]
  refine rs.k.load g_impl_Term (by omega) fun x hx => ?_
  obtain ⟨c, rfl, hc⟩ := hx.cells
  refine valloc_agg zr_impl_Term fun b5 w2 hb5 he2 hs2 h5 => ?_
  refine stTerm h5 rfl (hc.ext he2) fun w3 hw3 hz3 h5' => ?_
  have e13 : Ext w1 w3 := Ext.then he2 hw3 fun y hy => by subst hy; omega
  have r3 := rt_ext rs e13
  simp (disch := first | (simp only [push_cast]; done) | omega) only [push_cast, r3.q.ld4, r3.k.iaddr]
  refine r3.k.load g_impl_Term (by omega) fun y hy => ?_
  obtain ⟨c', rfl, hc'⟩ := hy.cells
  refine valloc_agg zr_impl_Term fun b6 w4 hb6 he4 hs4 h6 => ?_
  refine stTerm h6 rfl (hc'.ext he4) fun w5 hw5 hz5 h6' => ?_
  have e35 : Ext w3 w5 := Ext.then he4 hw5 fun y hy => by subst hy; omega
  have r5 := rt_ext r3 e35
  have A5 := h5'.ext e35
  have gc : aggB PP T_impl_Term c.length = true := by rw [tmR_len hc]; exact g_impl_Term
  have gc' : aggB PP T_impl_Term c'.length = true := by rw [tmR_len hc']; exact g_impl_Term
  have hc5 : TmR (fun x => G x ∧ x < w.heap.size) w5 c (M.kid t 0) := hc.ext (e13.trans e35)
  have hc5' : TmR (fun x => G x ∧ x < w.heap.size) w5 c' (M.kid t 1) := hc'.ext e35
  simp (disch := (simp only [push_cast]; done)) only [push_cast, r5.q.ld0]
  refine vjoin_of (fun u w' => ∃ b : Bool, u = [.bool b] ∧ w' = w5 ∧ (b = true ↔ t.op = 4 ∨ t.op = 5 ∨ t.op = 6 ∨ t.op = 7 ∨ t.op = 11 ∨ t.op = 12 ∨ t.op = 13)) (fun D hD => ?_) ?_
  · try simp only [push_cast]
    refine vif_dec (fun c => hD _ _ ⟨_, rfl, rfl, ⟨fun _ => by omega, fun _ => by rw [decide_eq_true_eq]; exact c⟩⟩) (fun c1 => ?_)
    refine vif_dec (fun c => hD _ _ ⟨_, rfl, rfl, ⟨fun _ => by omega, fun _ => by rw [decide_eq_true_eq]; exact c⟩⟩) (fun c2 => ?_)
    refine vif_dec (fun c => hD _ _ ⟨_, rfl, rfl, ⟨fun _ => by omega, fun _ => by rw [decide_eq_true_eq]; exact c⟩⟩) (fun c3 => ?_)
    refine vif_dec (fun c => hD _ _ ⟨_, rfl, rfl, ⟨fun _ => by omega, fun _ => by rw [decide_eq_true_eq]; exact c⟩⟩) (fun c4 => ?_)
    refine vif_dec (fun c => hD _ _ ⟨_, rfl, rfl, ⟨fun _ => by omega, fun _ => by rw [decide_eq_true_eq]; exact c⟩⟩) (fun c5 => ?_)
    refine vif_dec (fun c => hD _ _ ⟨_, rfl, rfl, ⟨fun _ => by omega, fun _ => by rw [decide_eq_true_eq]; exact c⟩⟩) (fun c6 => ?_)
    exact hD _ _ ⟨_, rfl, rfl, ⟨fun h => by rw [decide_eq_true_eq] at h; omega, fun h => by rw [decide_eq_true_eq]; omega⟩⟩
  rintro u g w5' ⟨b, rfl, rfl, hb⟩
  simp only [push_cast]
  have self : ∀ {w'}, RT G w w' b3 b4 kv t → M.rightS t = t → vload PP T_impl_Term (ptr b3) w' fun r w2 => vstore PP T_impl_Term (ptr b4) r w2 fun _ w3 => vlv PP T_impl_Term (ptr b4) w3 fun r w4 => K r w4 := fun {w'} h e => by
    rw [h.q.ldAgg (t := T_impl_Term) g_impl_Term]
    rw [e] at hK
    exact rt_give h (rt_kid (rt_self h)) hK
  refine vif_bool (fun o => ?_) (fun o => ?_)
  · have o4 := hb.1 o
    rw [h6'.ldAgg (t := T_impl_Term) gc']
    refine l3Is_spec hc5'.term fun w6 he6 => ?_
    have r6 := rt_ext r5 he6
    have e : M.rightS t = if M.isM (M.kid t 1) 0 = true then M.kid t 0 else t := by unfold M.rightS; rw [if_pos o4]
    refine vif_bool (fun i => ?_) (fun i => ?_)
    · rw [(A5.ext he6).ldAgg (t := T_impl_Term) gc]
      rw [e, if_pos i] at hK
      exact rt_give r6 (rt_kid (hc5.ext he6).term) hK
    · exact self r6 (by rw [e, i]; rfl)
  have no4 : ¬ (t.op = 4 ∨ t.op = 5 ∨ t.op = 6 ∨ t.op = 7 ∨ t.op = 11 ∨ t.op = 12 ∨ t.op = 13) := fun h => by have := hb.2 h; rw [o] at this; cases this
  try simp only [push_cast]
  refine vif_dec (fun o3 => ?_) (fun o3 => ?_)
  · rw [h6'.ldAgg (t := T_impl_Term) gc']
    refine l3Is_spec hc5'.term fun w6 he6 => ?_
    have r6 := rt_ext r5 he6
    have e : M.rightS t = if M.isM (M.kid t 1) 0 = true then M.kid t 1 else t := by unfold M.rightS; rw [if_neg no4, if_pos o3]
    refine vif_bool (fun i => ?_) (fun i => ?_)
    · rw [(h6'.ext he6).ldAgg (t := T_impl_Term) gc']
      rw [e, if_pos i] at hK
      exact rt_give r6 (rt_kid (hc5'.ext he6).term) hK
    · exact self r6 (by rw [e, i]; rfl)
  try simp only [push_cast]
  refine vif_dec (fun o8 => ?_) (fun o8 => ?_)
  · rw [h6'.ldAgg (t := T_impl_Term) gc']
    refine l3Is_spec hc5'.term fun w6 he6 => ?_
    have r6 := rt_ext r5 he6
    have e : M.rightS t = if M.isM (M.kid t 1) 0 = true then M.kid t 1 else if M.isM (M.kid t 1) 1 = true then M.kid t 0 else t := by unfold M.rightS; rw [if_neg no4, if_neg o3, if_pos o8]
    refine vif_bool (fun i => ?_) (fun i => ?_)
    · rw [(h6'.ext he6).ldAgg (t := T_impl_Term) gc']
      rw [e, if_pos i] at hK
      exact rt_give r6 (rt_kid (hc5'.ext he6).term) hK
    · rw [(h6'.ext he6).ldAgg (t := T_impl_Term) gc']
      refine l3Is_spec (hc5'.ext he6).term fun w7 he7 => ?_
      have r7 := rt_ext r6 he7
      refine vif_bool (fun j => ?_) (fun j => ?_)
      · rw [(A5.ext (he6.trans he7)).ldAgg (t := T_impl_Term) gc]
        rw [e, i, if_neg (by decide), if_pos j] at hK
        exact rt_give r7 (rt_kid (hc5.ext (he6.trans he7)).term) hK
      · exact self r7 (by rw [e, i, j]; rfl)
  · exact self r5 (by unfold M.rightS; rw [if_neg no4, if_neg o3, if_neg o8])
theorem l3Alike_spec {v : Value} {t : M.Tm} {s : Int} (ht : TermR G w v t) (h2 : t.ks.length = 2) (hK : OutK K w G (M.alikeS t s)) : vcall PP n_spec_l3Alike #[v, .int .i64 s] w K := by
  apply c_spec_l3Alike; unfold F_spec_l3Alike
  refine rt_enter (B := fun t3 t4 w_3 => _) ht fun w1 b3 b4 kv rs => ?_
  simp (disch := (simp only [push_cast]; done)) only [push_cast, rs.q.ld0]
  refine vjoin_of (fun u w' => ∃ b : Bool, u = [.bool b] ∧ w' = w1 ∧ (b = true ↔ t.op = 3 ∨ t.op = 4)) (fun D hD => ?_) ?_
  · try simp only [push_cast]
    refine vif_dec (fun c => hD _ _ ⟨_, rfl, rfl, ⟨fun _ => by omega, fun _ => by rw [decide_eq_true_eq]; exact c⟩⟩) (fun c1 => ?_)
    exact hD _ _ ⟨_, rfl, rfl, ⟨fun h => by rw [decide_eq_true_eq] at h; omega, fun h => by rw [decide_eq_true_eq]; omega⟩⟩
  rintro u g w1' ⟨b, rfl, rfl, hb⟩
  simp only [push_cast]
  refine vif_bool (fun o => ?_) (fun o => ?_)
  · simp (disch := first | (simp only [push_cast]; done) | omega) only [push_cast, rs.q.ld4, rs.k.iaddr]
    refine rs.k.load g_impl_Term (by omega) fun x hx => ?_
    have e : M.alikeS t s = M.kid t 0 := by unfold M.alikeS; rw [if_pos (hb.1 o)]
    rw [e] at hK
    exact rt_give rs (rt_kid hx) hK
  have n1 : ¬ (t.op = 3 ∨ t.op = 4) := fun h => by have := hb.2 h; rw [o] at this; cases this
  refine vjoin_of (fun u w' => ∃ b : Bool, u = [.bool b] ∧ w' = w1' ∧ (b = true ↔ t.op = 5 ∨ t.op = 7)) (fun D hD => ?_) ?_
  · try simp only [push_cast]
    refine vif_dec (fun c => hD _ _ ⟨_, rfl, rfl, ⟨fun _ => by omega, fun _ => by rw [decide_eq_true_eq]; exact c⟩⟩) (fun c1 => ?_)
    exact hD _ _ ⟨_, rfl, rfl, ⟨fun h => by rw [decide_eq_true_eq] at h; omega, fun h => by rw [decide_eq_true_eq]; omega⟩⟩
  rintro u2 g2 w1'' ⟨b', rfl, rfl, hb'⟩
  simp only [push_cast]
  refine vif_bool (fun o => ?_) (fun o => ?_)
  · have e : M.alikeS t s = .mk 20 s 0 M.nada [] := by unfold M.alikeS; rw [if_neg n1, if_pos (hb'.1 o)]
    rw [e] at hK
    refine l3Zero_spec fun w2 v2 he2 hv2 => ?_
    exact rt_give (rt_ext rs he2) (rt_new rs hv2) hK
  have n2 : ¬ (t.op = 5 ∨ t.op = 7) := fun h => by have := hb'.2 h; rw [o] at this; cases this
  try simp only [push_cast]
  refine vif_dec (fun o15 => ?_) (fun o15 => ?_)
  · have e : M.alikeS t s = M.boolM true := by unfold M.alikeS; rw [if_neg n1, if_neg n2, if_pos o15]; rfl
    rw [e] at hK
    refine l3Bool_spec fun w2 v2 he2 hv2 => ?_
    exact rt_give (rt_ext rs he2) (rt_new rs hv2) hK
  by_cases h16 : t.op = 16
  · have e : M.alikeS t s = M.boolM false := by unfold M.alikeS; rw [if_neg n1, if_neg n2, if_neg o15, if_pos (.inl h16)]; rfl
    rw [e] at hK
    simp only [h16, decide_true, push_cast]
    refine l3Bool_spec fun w2 v2 he2 hv2 => ?_
    exact rt_give (rt_ext rs he2) (rt_new rs hv2) hK
  · simp only [h16, decide_false, push_cast]
    refine vif_dec (fun f => ?_) (fun f => ?_)
    · have e : M.alikeS t s = M.boolM false := by unfold M.alikeS; rw [if_neg n1, if_neg n2, if_neg o15, if_pos (.inr f)]; rfl
      rw [e] at hK
      refine l3Bool_spec fun w2 v2 he2 hv2 => ?_
      exact rt_give (rt_ext rs he2) (rt_new rs hv2) hK
    · have e : M.alikeS t s = t := by unfold M.alikeS; rw [if_neg n1, if_neg n2, if_neg o15, if_neg (by omega)]
      rw [e] at hK
      rw [rs.q.ldAgg (t := T_impl_Term) g_impl_Term]
      exact rt_give rs (rt_kid (rt_self rs)) hK
end Go.Proofs.YtcfgmgjofmbfhaaGreatDoor
end
