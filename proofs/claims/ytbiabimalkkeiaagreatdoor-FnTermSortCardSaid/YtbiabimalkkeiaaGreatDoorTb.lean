/- Contracts of the program's bit vectors: what the operations answer. -/
import Derived.Test.YtbiabimalkkeiaaGreatDoorTa
set_option linter.unusedVariables false
set_option linter.unusedSimpArgs false
set_option linter.unnecessarySimpa false
set_option linter.unusedSectionVars false
namespace Go.Proofs.YtbiabimalkkeiaaGreatDoor
open Go Go.Vc Go.Proofs
variable {w : World} {K : Value → World → Prop} {F : Nat → Prop}

theorem VecSigned_spec {wd n : Int} (hK : ∀ w', Ext w w' → K (.int .i64 (if M.vok wd n = true then M.sgn wd n else 0)) w') : vcall PP n_impl_VecSigned #[VecV wd n] w K := by
  apply c_impl_VecSigned; unfold F_impl_VecSigned
  refine vbox_agg fun b1 w1 hb1 he1 hs1 h1 => ?_
  simp (disch := (simp only [push_cast]; done)) only [push_cast, h1.ldAgg (t := T_impl_Vec) g_impl_Vec]
  refine VecOk_spec fun w2 he2 => ?_
  have h2 := h1.ext he2
  simp only [push_cast]
  refine vif_bool (fun hv => ?_) (fun hv => ?_)
  · have := hK w2 (he1.trans he2)
    rwa [if_neg (by simpa using hv)] at this
  · rw [Bool.not_eq_false'] at hv
    rw [if_pos hv] at hK
    obtain ⟨k, a, rfl, rfl, k1, k4, ha⟩ := M.vok_nat hv
    have hp := pow4 k1 k4
    refine vdraw_ext fun w3 he3 _ => ?_
    have h3 := h2.ext he3
    have e1 : IntKind.i64.wrap ((k : Int) - 1) = ((k - 1 : Nat) : Int) := by rw [wrap64 (by omega) (by omega)]; omega
    simp (disch := (simp only [push_cast]; done)) only [push_cast, h3.ldAgg (t := T_impl_Vec) g_impl_Vec, h3.ld0, true_and, e1]
    refine raw_spec (by omega) fun w4 he4 => ?_
    have h4 := h3.ext he4
    simp (disch := (simp only [push_cast]; done)) only [push_cast, h4.ld0, true_and, e1, and_self]
    refine bit_spec (by omega) (by omega) ?_
    rw [top_bit k1 k4 ha]
    have hx := (natPow k).symm
    have hy : (2 : Int) ^ ((k : Int).toNat - 1) = ((2 ^ (k - 1) : Nat) : Int) := by simp
    have hq : 2 ^ (k - 1) < 2 ^ k := Nat.pow_lt_pow_right (by omega) (by omega)
    refine vif_dec (fun a1 => ?_) (fun a1 => ?_)
    · refine vdraw_ext fun w5 he5 _ => ?_
      have h5 := h4.ext he5
      simp (disch := (simp only [push_cast]; done)) only [push_cast, h5.ld0, h5.ld1, true_and]
      rw [show (1 : Int) = ((1 : Nat) : Int) from rfl, vbin_shlI (by omega) (by omega), Nat.one_mul]
      refine ⟨rfl, ?_⟩
      rw [vbin_sub, wrap64 (by omega) (by omega)]
      refine ⟨rfl, ?_⟩
      have := hK w5 ((((he1.trans he2).trans he3).trans he4).trans he5)
      unfold M.sgn at this
      rw [if_neg (by rw [hy]; omega), Int.toNat_natCast, hx] at this
      exact this
    · simp (disch := (simp only [push_cast]; done)) only [push_cast, h4.ld1]
      have := hK w4 (((he1.trans he2).trans he3).trans he4)
      unfold M.sgn at this
      rw [if_pos (by rw [hy]; omega)] at this
      exact this
theorem VecUn_spec {op wd n : Int} (hK : ∀ w', Ext w w' → K (.tuple #[VecV (M.vecUn op wd n).1.1 (M.vecUn op wd n).1.2, .bool (M.vecUn op wd n).2]) w') : vcall PP n_impl_VecUn #[.int .i64 op, VecV wd n] w K := by
  apply c_impl_VecUn; unfold F_impl_VecUn
  refine vbox_agg fun b1 w1 hb1 he1 hs1 h1 => ?_
  refine valloc_agg zr_impl_Vec fun b2 w2 hb2 he2 hs2 g2 => ?_
  have h2 := h1.ext he2
  simp (disch := (simp only [push_cast]; done)) only [push_cast, h2.ldAgg (t := T_impl_Vec) g_impl_Vec]
  refine VecOk_spec fun w3 he3 => ?_
  have h3 := h2.ext he3
  have g3 := g2.ext he3
  have hE := (he1.trans he2).trans he3
  have hnew : ∀ w4 w5, Ext w3 w4 → Same (· = b2) w4 w5 → Ext w w5 := fun w4 w5 h h' => Ext.then (hE.trans h) h' fun y hy => by subst hy; have := he1.size; omega
  simp only [push_cast]
  unfold M.vecUn at hK
  refine vif_bool (fun hv => ?_) (fun hv => ?_)
  · refine stVec g3 fun w4 hw4 _ g4 => ?_
    rw [g4.lv (by kernel_rfl)]
    have := hK w4 (hnew _ _ (Same.refl _ _) hw4)
    rwa [if_neg (by simp at hv; simp [hv])] at this
  · rw [Bool.not_eq_false'] at hv
    obtain ⟨k, a, rfl, rfl, k1, k4, ha⟩ := M.vok_nat hv
    have hp := pow4 k1 k4
    refine vif_dec (fun a1 => ?_) (fun a1 => ?_)
    · subst a1
      refine vdraw_ext fun w4 he4 _ => ?_
      have h4 := h3.ext he4
      simp (disch := (simp only [push_cast]; done)) only [push_cast, h4.ldAgg (t := T_impl_Vec) g_impl_Vec, true_and]
      refine raw_spec (by omega) fun w5 he5 => ?_
      have h5 := h4.ext he5
      have g5 := (g3.ext he4).ext he5
      simp (disch := (simp only [push_cast]; done)) only [push_cast, h5.ldAgg (t := T_impl_Vec) g_impl_Vec, true_and, and_self]
      rw [vun_xorU (by omega)]
      refine ⟨rfl, vec_spec (by omega) k1 k4 fun w6 he6 => ?_⟩
      refine stVec (g5.ext he6) fun w7 hw7 _ g7 => ?_
      rw [g7.lv (by kernel_rfl)]
      have := hK w7 (hnew _ _ ((he4.trans he5).trans he6) hw7)
      rw [if_pos ⟨hv, .inl rfl⟩, M.unM_not k1 k4 ha] at this
      exact this
    refine vif_dec (fun a2 => ?_) (fun a2 => ?_)
    · subst a2
      refine vdraw_ext fun w4 he4 _ => ?_
      have h4 := h3.ext he4
      simp (disch := (simp only [push_cast]; done)) only [push_cast, h4.ldAgg (t := T_impl_Vec) g_impl_Vec, true_and]
      refine raw_spec (by omega) fun w5 he5 => ?_
      have h5 := h4.ext he5
      have g5 := (g3.ext he4).ext he5
      have e : IntKind.u64.wrap (0 - (a : Int)) = ((if a = 0 then 0 else 18446744073709551616 - a : Nat) : Int) := by
        simp only [IntKind.wrap, IntKind.bits, IntKind.signed, Bool.false_and, Bool.false_eq_true, if_false]
        split <;> omega
      simp (disch := (simp only [push_cast]; done)) only [push_cast, h5.ldAgg (t := T_impl_Vec) g_impl_Vec, true_and, and_self]
      rw [e]
      refine vec_spec (by split <;> omega) k1 k4 fun w6 he6 => ?_
      refine stVec (g5.ext he6) fun w7 hw7 _ g7 => ?_
      rw [g7.lv (by kernel_rfl)]
      have := hK w7 (hnew _ _ ((he4.trans he5).trans he6) hw7)
      rw [if_pos ⟨hv, .inr rfl⟩, M.unM_neg k1 k4 ha] at this
      exact this
    · refine stVec g3 fun w4 hw4 _ g4 => ?_
      rw [g4.lv (by kernel_rfl)]
      have := hK w4 (hnew _ _ (Same.refl _ _) hw4)
      rwa [if_neg (fun h => h.2.elim a1 a2)] at this
theorem binaries_spec (hK : ∀ w', Ext w w' → K (.agg ⟨[.nilFunc, .nilFunc, .nilFunc, .func (.func n_impl_binaries_1) #[] #[], .func (.func n_impl_binaries_2) #[] #[], .func (.func n_impl_binaries_3) #[] #[], .func (.func n_impl_binaries_4) #[] #[], .func (.func n_impl_binaries_5) #[] #[], .func (.func n_impl_binaries_6) #[] #[], .func (.func n_impl_binaries_7) #[] #[], .func (.func n_impl_binaries_8) #[] #[], .func (.func n_impl_binaries_9) #[] #[], .func (.func n_impl_binaries_10) #[] #[], .func (.func n_impl_binaries_11) #[] #[]]⟩) w') : vcall PP n_impl_binaries #[] w K := by
  apply c_impl_binaries; unfold F_impl_binaries
  have hz : zeroB PP T_A_14_func_impl_Vec_impl_Vec_impl_raw (.agg ⟨[.nilFunc, .nilFunc, .nilFunc, .nilFunc, .nilFunc, .nilFunc, .nilFunc, .nilFunc, .nilFunc, .nilFunc, .nilFunc, .nilFunc, .nilFunc, .nilFunc]⟩) := by unfold zeroB; kernel_rfl
  refine valloc_agg hz fun b1 w1 hb1 he1 hs1 h1 => ?_
  refine ⟨_, w1, run_build (P := PP) w1 _ _ ⟨[.nilFunc, .nilFunc, .nilFunc, .func (.func n_impl_binaries_1) #[] #[], .func (.func n_impl_binaries_2) #[] #[], .func (.func n_impl_binaries_3) #[] #[], .func (.func n_impl_binaries_4) #[] #[], .func (.func n_impl_binaries_5) #[] #[], .func (.func n_impl_binaries_6) #[] #[], .func (.func n_impl_binaries_7) #[] #[], .func (.func n_impl_binaries_8) #[] #[], .func (.func n_impl_binaries_9) #[] #[], .func (.func n_impl_binaries_10) #[] #[], .func (.func n_impl_binaries_11) #[] #[]]⟩ (by kernel_rfl), ?_⟩
  refine h1.stAgg rfl (by kernel_rfl) (by intro v hv; simp only [List.mem_cons, List.not_mem_nil, or_false] at hv; rcases hv with rfl | rfl | rfl | rfl | rfl | rfl | rfl | rfl | rfl | rfl | rfl | rfl | rfl | rfl <;> rfl) fun w2 hw2 _ h2 => ?_
  rw [h2.lv (by kernel_rfl)]
  exact hK _ (Ext.then he1 hw2 fun y hy => by subst hy; omega)
theorem bin_all {op k a b : Nat} (h3 : 3 ≤ op) (h13 : op ≤ 13) (k1 : 1 ≤ k) (k4 : k ≤ 4) (ha : a < 2 ^ k) (hb : b < 2 ^ k) {K : Value → World → Prop} {w w0 : World} (hw : w0 = w) (hK : OpR K w op k a b) {N : Value → World → Prop}
    (hN : ∀ x, vcallv PP x #[VecV k a, VecV k b] w K → N x w) :
    vindex PP T_A_14_func_impl_Vec_impl_Vec_impl_raw (.agg ⟨[.nilFunc, .nilFunc, .nilFunc, .func (.func n_impl_binaries_1) #[] #[], .func (.func n_impl_binaries_2) #[] #[], .func (.func n_impl_binaries_3) #[] #[], .func (.func n_impl_binaries_4) #[] #[], .func (.func n_impl_binaries_5) #[] #[], .func (.func n_impl_binaries_6) #[] #[], .func (.func n_impl_binaries_7) #[] #[], .func (.func n_impl_binaries_8) #[] #[], .func (.func n_impl_binaries_9) #[] #[], .func (.func n_impl_binaries_10) #[] #[], .func (.func n_impl_binaries_11) #[] #[]]⟩) (.int .i64 op) w N := by
  rcases (by omega : op = 3 ∨ op = 4 ∨ op = 5 ∨ op = 6 ∨ op = 7 ∨ op = 8 ∨ op = 9 ∨ op = 10 ∨ op = 11 ∨ op = 12 ∨ op = 13) with rfl | rfl | rfl | rfl | rfl | rfl | rfl | rfl | rfl | rfl | rfl
  · exact ⟨.func (.func n_impl_binaries_1) #[] #[], w, by kernel_rfl, hN (.func (.func n_impl_binaries_1) #[] #[]) (binaries_1_spec k1 k4 ha hb hK)⟩
  · exact ⟨.func (.func n_impl_binaries_2) #[] #[], w, by kernel_rfl, hN (.func (.func n_impl_binaries_2) #[] #[]) (binaries_2_spec k1 k4 ha hb hK)⟩
  · exact ⟨.func (.func n_impl_binaries_3) #[] #[], w, by kernel_rfl, hN (.func (.func n_impl_binaries_3) #[] #[]) (binaries_3_spec k1 k4 ha hb hK)⟩
  · exact ⟨.func (.func n_impl_binaries_4) #[] #[], w, by kernel_rfl, hN (.func (.func n_impl_binaries_4) #[] #[]) (binaries_4_spec k1 k4 ha hb hK)⟩
  · exact ⟨.func (.func n_impl_binaries_5) #[] #[], w, by kernel_rfl, hN (.func (.func n_impl_binaries_5) #[] #[]) (binaries_5_spec k1 k4 ha hb hK)⟩
  · exact ⟨.func (.func n_impl_binaries_6) #[] #[], w, by kernel_rfl, hN (.func (.func n_impl_binaries_6) #[] #[]) (binaries_6_spec k1 k4 ha hb hK)⟩
  · exact ⟨.func (.func n_impl_binaries_7) #[] #[], w, by kernel_rfl, hN (.func (.func n_impl_binaries_7) #[] #[]) (binaries_7_spec k1 k4 ha hb hK)⟩
  · exact ⟨.func (.func n_impl_binaries_8) #[] #[], w, by kernel_rfl, hN (.func (.func n_impl_binaries_8) #[] #[]) (binaries_8_spec k1 k4 ha hb hK)⟩
  · exact ⟨.func (.func n_impl_binaries_9) #[] #[], w, by kernel_rfl, hN (.func (.func n_impl_binaries_9) #[] #[]) (binaries_9_spec k1 k4 ha hb hK)⟩
  · exact ⟨.func (.func n_impl_binaries_10) #[] #[], w, by kernel_rfl, hN (.func (.func n_impl_binaries_10) #[] #[]) (binaries_10_spec k1 k4 ha hb hK)⟩
  · exact ⟨.func (.func n_impl_binaries_11) #[] #[], w, by kernel_rfl, hN (.func (.func n_impl_binaries_11) #[] #[]) (binaries_11_spec k1 k4 ha hb hK)⟩
theorem VecBin_spec {op wd n v m : Int} (hK : ∀ w', Ext w w' → K (.tuple #[VecV (M.vecBin op wd n v m).1.1 (M.vecBin op wd n v m).1.2, .bool (M.vecBin op wd n v m).2]) w') : vcall PP n_impl_VecBin #[.int .i64 op, VecV wd n, VecV v m] w K := by
  apply c_impl_VecBin; unfold F_impl_VecBin
  refine vbox_agg fun b1 w1 hb1 he1 hs1 h1 => ?_
  refine vbox_agg fun b2 w2 hb2 he2 hs2 g2 => ?_
  refine valloc_agg zr_impl_Vec fun b3 w3 hb3 he3 hs3 r3 => ?_
  have hE := (he1.trans he2).trans he3
  have hz1 := he1.size
  have hz2 := he2.size
  have h3 := (h1.ext he2).ext he3
  have g3 := g2.ext he3
  have hnew : ∀ w4 w5, Ext w3 w4 → Same (· = b3) w4 w5 → Ext w w5 := fun w4 w5 h h' => Ext.then (hE.trans h) h' fun y hy => by subst hy; omega
  have hno : (M.vecBin op wd n v m) = ((0, 0), false) → ∀ w4, Ext w3 w4 → vstore PP T_impl_Vec (.pointer (some ⟨b3, 0, none⟩)) (VecV 0 0) w4 fun _ w5 => vlv PP T_impl_Vec (.pointer (some ⟨b3, 0, none⟩)) w5 fun r w6 => K (.tuple #[r, .bool false]) w6 := by
    intro e w4 he4
    refine stVec (r3.ext he4) fun w5 hw5 _ r5 => ?_
    rw [r5.lv (by kernel_rfl)]
    have := hK w5 (hnew _ _ he4 hw5)
    rwa [e] at this
  refine vjoin_of (fun u w4 => u = [] ∧ Ext w3 w4 ∧ M.vok wd n = true ∧ M.vok v m = true) (fun C hC => ?_) ?_
  · simp (disch := (simp only [push_cast]; done)) only [push_cast, h3.ldAgg (t := T_impl_Vec) g_impl_Vec]
    refine VecOk_spec fun w4 he4 => ?_
    have g4 := g3.ext he4
    simp only [push_cast]
    refine vif_bool (fun hv => hno ?_ _ he4) (fun hv => ?_)
    · unfold M.vecBin; rw [if_neg (by simp at hv; simp [hv])]
    · simp (disch := (simp only [push_cast]; done)) only [push_cast, g4.ldAgg (t := T_impl_Vec) g_impl_Vec]
      refine VecOk_spec fun w5 he5 => ?_
      simp only [push_cast]
      refine vif_bool (fun hv2 => hno ?_ _ (he4.trans he5)) (fun hv2 => ?_)
      · unfold M.vecBin; rw [if_neg (by simp at hv2; simp [hv2])]
      · exact hC _ _ ⟨rfl, he4.trans he5, by simpa using hv, by simpa using hv2⟩
  · rintro u g w4 ⟨rfl, he4, hv1, hv2⟩
    have h4 := h3.ext he4
    have g4 := g3.ext he4
    have r4 := r3.ext he4
    obtain ⟨k, a, rfl, rfl, k1, k4, ha⟩ := M.vok_nat hv1
    obtain ⟨l, b, rfl, rfl, l1, l4, hb⟩ := M.vok_nat hv2
    have ha16 := pow16 k4 ha
    have hb16 := pow16 l4 hb
    unfold M.vecBin at hK hno
    rw [if_pos ⟨hv1, hv2⟩] at hK hno
    simp only [push_cast]
    refine vif_dec (fun a1 => ?_) (fun a1 => ?_)
    · rw [if_pos a1] at hK hno
      refine vdraw_ext fun w5 he5 _ => ?_
      have h5 := h4.ext he5
      have g5 := g4.ext he5
      have r5 := r4.ext he5
      have hm : a * 2 ^ l ≤ 524288 := shl_small ha16 (by omega)
      have e1 : IntKind.i64.wrap ((k : Int) + (l : Int)) = ((k + l : Nat) : Int) := by rw [wrap64 (by omega) (by omega)]; omega
      have eS : ∀ (w : World) (K : Value → World → Prop), vbin PP .shl T_int false (.int .i64 (a : Int)) (.int .i64 (l : Int)) w K = K (.int .i64 (a * 2 ^ l : Nat)) w := fun w K => vbin_shlI (by omega) (by omega)
      have eO : ∀ (w : World) (K : Value → World → Prop), vbin PP .or T_int false (.int .i64 ((a * 2 ^ l : Nat) : Int)) (.int .i64 (b : Int)) w K = K (.int .i64 (a * 2 ^ l ||| b : Nat)) w := fun w K => vbin_orI (by omega) (by omega)
      have eC := M.cat_or l4 k4 ha hb
      obtain ⟨q, hq⟩ : ∃ q, q = a * 2 ^ l := ⟨_, rfl⟩
      obtain ⟨z, hz⟩ : ∃ z, z = q ||| b := ⟨_, rfl⟩
      rw [← hq] at eS eO eC
      rw [← hz] at eO eC
      simp (disch := (simp only [push_cast]; done)) only [push_cast, h5.ld0, h5.ld1, g5.ld0, g5.ld1, true_and, e1, eS, eO]
      refine valloc_agg zr_impl_Vec fun b4 w6 hb4 he6 hs6 p6 => ?_
      have h6 := h5.ext he6
      have g6 := g5.ext he6
      have r6 := r5.ext he6
      simp (disch := (simp only [push_cast]; done)) only [push_cast, h6.ld0, h6.ld1, g6.ld0, g6.ld1, true_and, e1, eS, eO, and_self]
      refine stVec p6 fun w7 hw7 _ p7 => ?_
      have hb34 : b3 ≠ b4 := by have := r5.lt; omega
      have r7 := r6.same hw7 hb34
      have he7 : Ext w3 w7 := Ext.then ((he4.trans he5).trans he6) hw7 fun y hy => by subst hy; have := (he4.trans he5).size; omega
      simp (disch := (simp only [push_cast]; done)) only [push_cast, p7.ld0]
      refine vif_dec (fun a2 => hno ?_ _ he7) (fun a2 => ?_)
      · rw [if_neg (by omega)]
      · simp (disch := (simp only [push_cast]; done)) only [push_cast, p7.ldAgg (t := T_impl_Vec) g_impl_Vec]
        refine stVec r7 fun w8 hw8 _ r8 => ?_
        rw [r8.lv (by kernel_rfl)]
        have := hK w8 (hnew _ _ he7 hw8)
        rw [if_pos (by omega), ← eC] at this
        exact this
    · rw [if_neg a1] at hK hno
      refine vjoin_of (fun u w5 => u = [] ∧ w5 = w4 ∧ 3 ≤ op ∧ op ≤ 13 ∧ (k : Int) = l) (fun C hC => ?_) ?_
      · refine vif_dec (fun a2 => hno (by rw [if_neg (by omega)]) _ he4) (fun a2 => ?_)
        refine vif_dec (fun a3 => hno (by rw [if_neg (by omega)]) _ he4) (fun a3 => ?_)
        simp (disch := (simp only [push_cast]; done)) only [push_cast, h4.ld0, g4.ld0]
        refine vif_dec (fun a4 => hno (by rw [if_neg (by omega)]) _ he4) (fun a4 => ?_)
        exact hC _ _ ⟨rfl, rfl, by omega, by omega, by omega⟩
      · rintro u g w5 ⟨rfl, rfl, c3, c13, ckl⟩
        have : l = k := by omega
        subst this
        refine vdraw_ext fun w6 he6 _ => ?_
        have h6 := h4.ext he6
        have g6 := g4.ext he6
        simp (disch := (simp only [push_cast]; done)) only [push_cast, h6.ldAgg (t := T_impl_Vec) g_impl_Vec, g6.ldAgg (t := T_impl_Vec) g_impl_Vec, true_and]
        refine binaries_spec fun w7 he7 => ?_
        have h7 := h6.ext he7
        have g7 := g6.ext he7
        simp (disch := (simp only [push_cast]; done)) only [push_cast, h7.ldAgg (t := T_impl_Vec) g_impl_Vec, g7.ldAgg (t := T_impl_Vec) g_impl_Vec, true_and, and_self]
        obtain ⟨o, rfl⟩ : ∃ o : Nat, op = o := ⟨op.toNat, by omega⟩
        refine bin_all (by omega) (by omega) l1 l4 ha hb rfl ?_ fun x hx => ⟨rfl, hx⟩
        intro w8 r he8 hr hrm
        have h8 := h7.ext he8
        simp (disch := (simp only [push_cast]; done)) only [push_cast, h8.ldAgg (t := T_impl_Vec) g_impl_Vec, true_and, and_self]
        refine vec_spec hr l1 l4 fun w9 he9 => ?_
        have r9 := (((r4.ext he6).ext he7).ext he8).ext he9
        refine stVec r9 fun w10 hw10 _ r10 => ?_
        rw [r10.lv (by kernel_rfl)]
        have := hK w10 (hnew _ _ ((((he4.trans he6).trans he7).trans he8).trans he9) hw10)
        rw [if_pos ⟨c3, c13, rfl⟩] at this
        rw [hrm]
        exact this
theorem eqVec {a b c d : Int} {t : Bool} : vbin PP .eql T_impl_Vec t (VecV a b) (VecV c d) w K = K (.bool (decide (a = c ∧ b = d))) w := by
  refine vbin_run (run_eqGuard_agg w _ _ _ _ _ _ (by kernel_rfl)) ?_
  have h0 : (PP.fieldsOf T_impl_Vec).toList = [(PP.fieldsOf T_impl_Vec).getD 0 default, (PP.fieldsOf T_impl_Vec).getD 1 default] := by kernel_rfl
  have n0 : ((PP.fieldsOf T_impl_Vec).getD 0 default).name ≠ "_" := by decide +kernel
  have n1 : ((PP.fieldsOf T_impl_Vec).getD 1 default).name ≠ "_" := by decide +kernel
  have i0 : PP.underlying ((PP.fieldsOf T_impl_Vec).getD 0 default).type = some (.int .i64) := by kernel_rfl
  have i1 : PP.underlying ((PP.fieldsOf T_impl_Vec).getD 1 default).type = some (.int .i64) := by kernel_rfl
  have p0 : ∀ x y : Value, (part ((PP.fieldsOf T_impl_Vec).getD 0 default).type ⟨[x, y]⟩ ((PP.fieldsOf T_impl_Vec).getD 0 default).offset).run PP w = .ok x w := fun x y => by kernel_rfl
  have p1 : ∀ x y : Value, (part ((PP.fieldsOf T_impl_Vec).getD 1 default).type ⟨[x, y]⟩ ((PP.fieldsOf T_impl_Vec).getD 1 default).offset).run PP w = .ok y w := fun x y => by kernel_rfl
  have hE : (Op.equalIn 10000 T_impl_Vec (VecV a b) (VecV c d)).run PP w = .ok (decide (a = c ∧ b = d)) w := by
    rw [run_equalIn_struct w 9999 T_impl_Vec _ _ (by kernel_rfl) (by kernel_rfl), h0]
    generalize (PP.fieldsOf T_impl_Vec).getD 0 default = f0 at n0 i0 p0 ⊢
    generalize (PP.fieldsOf T_impl_Vec).getD 1 default = f1 at n1 i1 p1 ⊢
    simp only [Op.eqFields, if_pos n0, if_pos n1, Sem.run_bind, p0, p1, Result.andThen_ok, run_equalIn_int w 9998 _ _ _ _ _ i0, run_equalIn_int w 9998 _ _ _ _ _ i1]
    by_cases e1 : a = c
    · by_cases e2 : b = d
      · subst e1; subst e2; simp [run_equalIn_int w 9998 _ _ _ _ _ i1, p1]
      · subst e1; simp [run_equalIn_int w 9998 _ _ _ _ _ i1, p1, e2]
    · simp [e1]
  rw [run_eql_struct, hE]
  rfl
theorem VecCmp_spec {op wd n v m : Int} (hK : ∀ w', Ext w w' → K (.tuple #[.bool (M.vecCmp op wd n v m).1, .bool (M.vecCmp op wd n v m).2]) w') : vcall PP n_impl_VecCmp #[.int .i64 op, VecV wd n, VecV v m] w K := by
  apply c_impl_VecCmp; unfold F_impl_VecCmp
  refine vbox_agg fun b1 w1 hb1 he1 hs1 h1 => ?_
  refine vbox_agg fun b2 w2 hb2 he2 hs2 g2 => ?_
  have hE := he1.trans he2
  have h3 := h1.ext he2
  have hno : (M.vecCmp op wd n v m) = (false, false) → ∀ w4, Ext w2 w4 → K (.tuple #[.bool false, .bool false]) w4 := by
    intro e w4 he4
    have := hK w4 (hE.trans he4)
    rwa [e] at this
  refine vjoin_of (fun u w4 => u = [] ∧ Ext w2 w4 ∧ M.vok wd n = true ∧ M.vok v m = true ∧ wd = v) (fun C hC => ?_) ?_
  · simp (disch := (simp only [push_cast]; done)) only [push_cast, h3.ldAgg (t := T_impl_Vec) g_impl_Vec]
    refine VecOk_spec fun w4 he4 => ?_
    have g4 := g2.ext he4
    simp only [push_cast]
    refine vif_bool (fun hv => hno ?_ _ he4) (fun hv => ?_)
    · unfold M.vecCmp; rw [if_neg (by simp at hv; simp [hv])]
    · simp (disch := (simp only [push_cast]; done)) only [push_cast, g4.ldAgg (t := T_impl_Vec) g_impl_Vec]
      refine VecOk_spec fun w5 he5 => ?_
      have g5 := g4.ext he5
      have h5 := (h3.ext he4).ext he5
      simp only [push_cast]
      refine vif_bool (fun hv2 => hno ?_ _ (he4.trans he5)) (fun hv2 => ?_)
      · unfold M.vecCmp; rw [if_neg (by simp at hv2; simp [hv2])]
      · simp (disch := (simp only [push_cast]; done)) only [push_cast, h5.ld0, g5.ld0]
        refine vif_dec (fun a1 => hno ?_ _ (he4.trans he5)) (fun a1 => ?_)
        · unfold M.vecCmp; rw [if_neg (fun h => a1 h.2.2.1)]
        · exact hC _ _ ⟨rfl, he4.trans he5, by simpa using hv, by simpa using hv2, by omega⟩
  · rintro u g w4 ⟨rfl, he4, hv1, hv2, rfl⟩
    have h4 := h3.ext he4
    have g4 := g2.ext he4
    unfold M.vecCmp at hK hno
    simp only [push_cast]
    refine vif_dec (fun a1 => ?_) (fun a1 => ?_)
    · subst a1
      simp (disch := (simp only [push_cast]; done)) only [push_cast, h4.ldAgg (t := T_impl_Vec) g_impl_Vec, g4.ldAgg (t := T_impl_Vec) g_impl_Vec]
      rw [eqVec]
      have := hK w4 (hE.trans he4)
      rw [if_pos ⟨hv1, hv2, rfl, by omega, by omega⟩] at this
      simp only [M.cmpM, if_true] at this
      simp only [true_and]
      exact this
    refine vif_dec (fun a2 => ?_) (fun a2 => ?_)
    · subst a2
      simp (disch := (simp only [push_cast]; done)) only [push_cast, h4.ld1, g4.ld1]
      have := hK w4 (hE.trans he4)
      rw [if_pos ⟨hv1, hv2, rfl, by omega, by omega⟩] at this
      exact this
    refine vif_dec (fun a3 => ?_) (fun a3 => ?_)
    · subst a3
      refine vdraw_ext fun w5 he5 _ => ?_
      have h5 := h4.ext he5
      have g5 := g4.ext he5
      simp (disch := (simp only [push_cast]; done)) only [push_cast, h5.ldAgg (t := T_impl_Vec) g_impl_Vec, g5.ldAgg (t := T_impl_Vec) g_impl_Vec, true_and]
      refine VecSigned_spec fun w6 he6 => ?_
      have g6 := g5.ext he6
      simp (disch := (simp only [push_cast]; done)) only [push_cast, g6.ldAgg (t := T_impl_Vec) g_impl_Vec, true_and, and_self]
      refine VecSigned_spec fun w7 he7 => ?_
      simp only [push_cast, if_pos hv1, if_pos hv2, true_and]
      have := hK w7 (((hE.trans he4).trans he5).trans (he6.trans he7))
      rw [if_pos ⟨hv1, hv2, rfl, by omega, by omega⟩] at this
      exact this
    · exact hno (by rw [if_neg (fun h => by omega)]) _ he4
theorem VecCut_spec {wd n hi lo : Int} (hK : ∀ w', Ext w w' → K (.tuple #[VecV (M.vecCut wd n hi lo).1.1 (M.vecCut wd n hi lo).1.2, .bool (M.vecCut wd n hi lo).2]) w') : vcall PP n_impl_VecCut #[VecV wd n, .int .i64 hi, .int .i64 lo] w K := by
  apply c_impl_VecCut; unfold F_impl_VecCut
  refine vbox_agg fun b1 w1 hb1 he1 hs1 h1 => ?_
  refine valloc_agg zr_impl_Vec fun b3 w3 hb3 he3 hs3 r3 => ?_
  have hE := he1.trans he3
  have hz1 := he1.size
  have h3 := h1.ext he3
  have hnew : ∀ w4 w5, Ext w3 w4 → Same (· = b3) w4 w5 → Ext w w5 := fun w4 w5 h h' => Ext.then (hE.trans h) h' fun y hy => by subst hy; omega
  have hno : (M.vecCut wd n hi lo) = ((0, 0), false) → ∀ w4, Ext w3 w4 → vstore PP T_impl_Vec (.pointer (some ⟨b3, 0, none⟩)) (VecV 0 0) w4 fun _ w5 => vlv PP T_impl_Vec (.pointer (some ⟨b3, 0, none⟩)) w5 fun r w6 => K (.tuple #[r, .bool false]) w6 := by
    intro e w4 he4
    refine stVec (r3.ext he4) fun w5 hw5 _ r5 => ?_
    rw [r5.lv (by kernel_rfl)]
    have := hK w5 (hnew _ _ he4 hw5)
    rwa [e] at this
  unfold M.vecCut at hK hno
  refine vjoin_of (fun u w4 => u = [] ∧ Ext w3 w4 ∧ M.vok wd n = true ∧ 0 ≤ lo ∧ lo ≤ hi ∧ hi < wd) (fun C hC => ?_) ?_
  · simp (disch := (simp only [push_cast]; done)) only [push_cast, h3.ldAgg (t := T_impl_Vec) g_impl_Vec]
    refine VecOk_spec fun w4 he4 => ?_
    have h4 := h3.ext he4
    simp only [push_cast]
    refine vif_bool (fun hv => hno ?_ _ he4) (fun hv => ?_)
    · rw [if_neg (by simp at hv; simp [hv])]
    refine vif_dec (fun a1 => hno (if_neg (by omega)) _ he4) (fun a1 => ?_)
    refine vif_dec (fun a2 => hno (if_neg (by omega)) _ he4) (fun a2 => ?_)
    simp (disch := (simp only [push_cast]; done)) only [push_cast, h4.ld0]
    refine vif_dec (fun a3 => hno (if_neg (by omega)) _ he4) (fun a3 => ?_)
    exact hC _ _ ⟨rfl, he4, by simpa using hv, by omega, by omega, by omega⟩
  · rintro u g w4 ⟨rfl, he4, hv, c1, c2, c3⟩
    have h4 := h3.ext he4
    have r4 := r3.ext he4
    obtain ⟨k, a, rfl, rfl, k1, k4, ha⟩ := M.vok_nat hv
    obtain ⟨l, rfl⟩ : ∃ l : Nat, lo = l := ⟨lo.toNat, by omega⟩
    obtain ⟨t, ht⟩ : ∃ t : Nat, hi - (l : Int) + 1 = t := ⟨(hi - l + 1).toNat, by omega⟩
    have ha16 := pow16 k4 ha
    have e1 : IntKind.i64.wrap (IntKind.i64.wrap (hi - (l : Int)) + 1) = (t : Int) := by rw [wrap64 (x := hi - l) (by omega) (by omega), wrap64 (by omega) (by omega)]; omega
    simp (disch := (simp only [push_cast]; done)) only [push_cast, h4.ldAgg (t := T_impl_Vec) g_impl_Vec, e1]
    refine raw_spec (by omega) fun w5 he5 => ?_
    have hd := Nat.div_le_self a (2 ^ l)
    rw [vbin_shrU (by omega)]
    refine cut_spec (by omega) (by omega) (by omega) ?_
    have hm := Nat.mod_le (a / 2 ^ l) (2 ^ t)
    have hres : M.cutM (a : Int) hi (l : Int) = ((a / 2 ^ l % 2 ^ t : Nat) : Int) := by
      unfold M.cutM
      rw [ht]
      simp
    rw [if_pos ⟨hv, c1, c2, c3⟩] at hK
    simp only [hres, ht] at hK
    obtain ⟨z, hz⟩ : ∃ z, z = a / 2 ^ l % 2 ^ t := ⟨_, rfl⟩
    rw [← hz] at hm hK ⊢
    rw [vconv_int sm_impl_raw ik_int, wrapN (by omega)]
    simp only [push_cast]
    refine stVec (r4.ext he5) fun w6 hw6 _ r6 => ?_
    rw [r6.lv (by kernel_rfl)]
    exact hK w6 (hnew _ _ (he4.trans he5) hw6)
end Go.Proofs.YtbiabimalkkeiaaGreatDoor
