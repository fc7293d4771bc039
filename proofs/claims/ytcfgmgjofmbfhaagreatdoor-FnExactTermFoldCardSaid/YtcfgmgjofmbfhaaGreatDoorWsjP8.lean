import Derived.Test.YtcfgmgjofmbfhaaGreatDoorWsjP7
import Derived.Test.YtcfgmgjofmbfhaaGreatDoorWsjP3
import Derived.Test.YtcfgmgjofmbfhaaGreatDoorWsjP4
import Derived.Test.YtcfgmgjofmbfhaaGreatDoorWsjP5
import Derived.Test.YtcfgmgjofmbfhaaGreatDoorWsjP6
/- A part of the proof: Tb, La, Tc, Ti, Tj, Td. -/
set_option linter.unusedVariables false
set_option linter.unusedSimpArgs false
set_option linter.unnecessarySimpa false
set_option linter.unusedSectionVars false
section
namespace Go.Proofs.YtcfgmgjofmbfhaaGreatDoor
open Go Go.Vc Go.Proofs
variable {w : World} {K : Value → World → Prop} {F : Nat → Prop}
theorem VecSigned_spec {wd n : Int} (hK : ∀ w', Ext w w' → K (.int .i64 (if M.vok wd n = true then M.sgn wd n else 0)) w') : vcall PP n_impl_VecSigned #[VecV wd n] w K := by
  apply c_impl_VecSigned; unfold F_impl_VecSigned
  refine vbox_agg fun b1 w1 hb1 he1 hs1 h1 => ?_
  simp (disch := (simp only [push_cast]; done)) only [push_cast, h1.ldAgg (t := T_impl_Vec) g_impl_Vec]
  refine VecOk_spec fun w2 he2 => ?_
  have h2 := h1.ext he2
  simp only [push_cast]
  refine vif_bool (fun hv => ?_) (fun hv => ?_)
  · have := hK w2 (he1.trans he2)
    rwa [if_neg (by simpa using hv)] at this
  · rw [Bool.not_eq_false'] at hv
    rw [if_pos hv] at hK
    obtain ⟨k, a, rfl, rfl, k1, k4, ha⟩ := M.vok_nat hv
    have hp := pow4 k1 k4
    refine vdraw_ext fun w3 he3 _ => ?_
    have h3 := h2.ext he3
    have e1 : IntKind.i64.wrap ((k : Int) - 1) = ((k - 1 : Nat) : Int) := by rw [wrap64 (by omega) (by omega)]; omega
    simp (disch := (simp only [push_cast]; done)) only [push_cast, h3.ldAgg (t := T_impl_Vec) g_impl_Vec, h3.ld0, true_and, e1]
    refine raw_spec (by omega) fun w4 he4 => ?_
    have h4 := h3.ext he4
    simp (disch := (simp only [push_cast]; done)) only [push_cast, h4.ld0, true_and, e1, and_self]
    refine bit_spec (by omega) (by omega) ?_
    rw [top_bit k1 k4 ha]
    have hx := (natPow k).symm
    have hy : (2 : Int) ^ ((k : Int).toNat - 1) = ((2 ^ (k - 1) : Nat) : Int) := by simp
    have hq : 2 ^ (k - 1) < 2 ^ k := Nat.pow_lt_pow_right (by omega) (by omega)
    refine vif_dec (fun a1 => ?_) (fun a1 => ?_)
    · refine vdraw_ext fun w5 he5 _ => ?_
      have h5 := h4.ext he5
      simp (disch := (simp only [push_cast]; done)) only [push_cast, h5.ld0, h5.ld1, true_and]
      rw [show (1 : Int) = ((1 : Nat) : Int) from rfl, vbin_shlI (by omega) (by omega), Nat.one_mul]
      refine ⟨rfl, ?_⟩
      rw [vbin_sub, wrap64 (by omega) (by omega)]
      refine ⟨rfl, ?_⟩
      have := hK w5 ((((he1.trans he2).trans he3).trans he4).trans he5)
      unfold M.sgn at this
      rw [if_neg (by rw [hy]; omega), Int.toNat_natCast, hx] at this
      exact this
    · simp (disch := (simp only [push_cast]; done)) only [push_cast, h4.ld1]
      have := hK w4 (((he1.trans he2).trans he3).trans he4)
      unfold M.sgn at this
      rw [if_pos (by rw [hy]; omega)] at this
      exact this
theorem VecUn_spec {op wd n : Int} (hK : ∀ w', Ext w w' → K (.tuple #[VecV (M.vecUn op wd n).1.1 (M.vecUn op wd n).1.2, .bool (M.vecUn op wd n).2]) w') : vcall PP n_impl_VecUn #[.int .i64 op, VecV wd n] w K := by
  apply c_impl_VecUn; unfold F_impl_VecUn
  refine vbox_agg fun b1 w1 hb1 he1 hs1 h1 => ?_
  refine valloc_agg zr_impl_Vec fun b2 w2 hb2 he2 hs2 g2 => ?_
  have h2 := h1.ext he2
  simp (disch := (simp only [push_cast]; done)) only [push_cast, h2.ldAgg (t := T_impl_Vec) g_impl_Vec]
  refine VecOk_spec fun w3 he3 => ?_
  have h3 := h2.ext he3
  have g3 := g2.ext he3
  have hE := (he1.trans he2).trans he3
  have hnew : ∀ w4 w5, Ext w3 w4 → Same (· = b2) w4 w5 → Ext w w5 := fun w4 w5 h h' => Ext.then (hE.trans h) h' fun y hy => by subst hy; have := he1.size; omega
  simp only [push_cast]
  unfold M.vecUn at hK
  refine vif_bool (fun hv => ?_) (fun hv => ?_)
  · refine stVec g3 fun w4 hw4 _ g4 => ?_
    rw [g4.lv (by kernel_rfl)]
    have := hK w4 (hnew _ _ (Same.refl _ _) hw4)
    rwa [if_neg (by simp at hv; simp [hv])] at this
  · rw [Bool.not_eq_false'] at hv
    obtain ⟨k, a, rfl, rfl, k1, k4, ha⟩ := M.vok_nat hv
    have hp := pow4 k1 k4
    refine vif_dec (fun a1 => ?_) (fun a1 => ?_)
    · subst a1
      refine vdraw_ext fun w4 he4 _ => ?_
      have h4 := h3.ext he4
      simp (disch := (simp only [push_cast]; done)) only [push_cast, h4.ldAgg (t := T_impl_Vec) g_impl_Vec, true_and]
      refine raw_spec (by omega) fun w5 he5 => ?_
      have h5 := h4.ext he5
      have g5 := (g3.ext he4).ext he5
      simp (disch := (simp only [push_cast]; done)) only [push_cast, h5.ldAgg (t := T_impl_Vec) g_impl_Vec, true_and, and_self]
      rw [vun_xorU (by omega)]
      refine ⟨rfl, vec_spec (by omega) k1 k4 fun w6 he6 => ?_⟩
      refine stVec (g5.ext he6) fun w7 hw7 _ g7 => ?_
      rw [g7.lv (by kernel_rfl)]
      have := hK w7 (hnew _ _ ((he4.trans he5).trans he6) hw7)
      rw [if_pos ⟨hv, .inl rfl⟩, M.unM_not k1 k4 ha] at this
      exact this
    refine vif_dec (fun a2 => ?_) (fun a2 => ?_)
    · subst a2
      refine vdraw_ext fun w4 he4 _ => ?_
      have h4 := h3.ext he4
      simp (disch := (simp only [push_cast]; done)) only [push_cast, h4.ldAgg (t := T_impl_Vec) g_impl_Vec, true_and]
      refine raw_spec (by omega) fun w5 he5 => ?_
      have h5 := h4.ext he5
      have g5 := (g3.ext he4).ext he5
      have e : IntKind.u64.wrap (0 - (a : Int)) = ((if a = 0 then 0 else 18446744073709551616 - a : Nat) : Int) := by
        simp only [IntKind.wrap, IntKind.bits, IntKind.signed, Bool.false_and, Bool.false_eq_true, if_false]
        split <;> omega
      simp (disch := (simp only [push_cast]; done)) only [push_cast, h5.ldAgg (t := T_impl_Vec) g_impl_Vec, true_and, and_self]
      rw [e]
      refine vec_spec (by split <;> omega) k1 k4 fun w6 he6 => ?_
      refine stVec (g5.ext he6) fun w7 hw7 _ g7 => ?_
      rw [g7.lv (by kernel_rfl)]
      have := hK w7 (hnew _ _ ((he4.trans he5).trans he6) hw7)
      rw [if_pos ⟨hv, .inr rfl⟩, M.unM_neg k1 k4 ha] at this
      exact this
    · refine stVec g3 fun w4 hw4 _ g4 => ?_
      rw [g4.lv (by kernel_rfl)]
      have := hK w4 (hnew _ _ (Same.refl _ _) hw4)
      rwa [if_neg (fun h => h.2.elim a1 a2)] at this
theorem binaries_spec (hK : ∀ w', Ext w w' → K (.agg ⟨[.nilFunc, .nilFunc, .nilFunc, .func (.func n_impl_binaries_1) #[] #[], .func (.func n_impl_binaries_2) #[] #[], .func (.func n_impl_binaries_3) #[] #[], .func (.func n_impl_binaries_4) #[] #[], .func (.func n_impl_binaries_5) #[] #[], .func (.func n_impl_binaries_6) #[] #[], .func (.func n_impl_binaries_7) #[] #[], .func (.func n_impl_binaries_8) #[] #[], .func (.func n_impl_binaries_9) #[] #[], .func (.func n_impl_binaries_10) #[] #[], .func (.func n_impl_binaries_11) #[] #[]]⟩) w') : vcall PP n_impl_binaries #[] w K := by
  apply c_impl_binaries; unfold F_impl_binaries
  have hz : zeroB PP T_A_14_func_impl_Vec_impl_Vec_impl_raw (.agg ⟨[.nilFunc, .nilFunc, .nilFunc, .nilFunc, .nilFunc, .nilFunc, .nilFunc, .nilFunc, .nilFunc, .nilFunc, .nilFunc, .nilFunc, .nilFunc, .nilFunc]⟩) := by unfold zeroB; kernel_rfl
  refine valloc_agg hz fun b1 w1 hb1 he1 hs1 h1 => ?_
  refine ⟨_, w1, run_build (P := PP) w1 _ _ ⟨[.nilFunc, .nilFunc, .nilFunc, .func (.func n_impl_binaries_1) #[] #[], .func (.func n_impl_binaries_2) #[] #[], .func (.func n_impl_binaries_3) #[] #[], .func (.func n_impl_binaries_4) #[] #[], .func (.func n_impl_binaries_5) #[] #[], .func (.func n_impl_binaries_6) #[] #[], .func (.func n_impl_binaries_7) #[] #[], .func (.func n_impl_binaries_8) #[] #[], .func (.func n_impl_binaries_9) #[] #[], .func (.func n_impl_binaries_10) #[] #[], .func (.func n_impl_binaries_11) #[] #[]]⟩ (by kernel_rfl), ?_⟩
  refine h1.stAgg rfl (by kernel_rfl) (by intro v hv; simp only [List.mem_cons, List.not_mem_nil, or_false] at hv; rcases hv with rfl | rfl | rfl | rfl | rfl | rfl | rfl | rfl | rfl | rfl | rfl | rfl | rfl | rfl <;> rfl) fun w2 hw2 _ h2 => ?_
  rw [h2.lv (by kernel_rfl)]
  exact hK _ (Ext.then he1 hw2 fun y hy => by subst hy; omega)
theorem bin_all {op k a b : Nat} (h3 : 3 ≤ op) (h13 : op ≤ 13) (k1 : 1 ≤ k) (k4 : k ≤ 4) (ha : a < 2 ^ k) (hb : b < 2 ^ k) {K : Value → World → Prop} {w w0 : World} (hw : w0 = w) (hK : OpR K w op k a b) {N : Value → World → Prop}
    (hN : ∀ x, vcallv PP x #[VecV k a, VecV k b] w K → N x w) :
    vindex PP T_A_14_func_impl_Vec_impl_Vec_impl_raw (.agg ⟨[.nilFunc, .nilFunc, .nilFunc, .func (.func n_impl_binaries_1) #[] #[], .func (.func n_impl_binaries_2) #[] #[], .func (.func n_impl_binaries_3) #[] #[], .func (.func n_impl_binaries_4) #[] #[], .func (.func n_impl_binaries_5) #[] #[], .func (.func n_impl_binaries_6) #[] #[], .func (.func n_impl_binaries_7) #[] #[], .func (.func n_impl_binaries_8) #[] #[], .func (.func n_impl_binaries_9) #[] #[], .func (.func n_impl_binaries_10) #[] #[], .func (.func n_impl_binaries_11) #[] #[]]⟩) (.int .i64 op) w N := by
  rcases (by omega : op = 3 ∨ op = 4 ∨ op = 5 ∨ op = 6 ∨ op = 7 ∨ op = 8 ∨ op = 9 ∨ op = 10 ∨ op = 11 ∨ op = 12 ∨ op = 13) with rfl | rfl | rfl | rfl | rfl | rfl | rfl | rfl | rfl | rfl | rfl
  · exact ⟨.func (.func n_impl_binaries_1) #[] #[], w, by kernel_rfl, hN (.func (.func n_impl_binaries_1) #[] #[]) (binaries_1_spec k1 k4 ha hb hK)⟩
  · exact ⟨.func (.func n_impl_binaries_2) #[] #[], w, by kernel_rfl, hN (.func (.func n_impl_binaries_2) #[] #[]) (binaries_2_spec k1 k4 ha hb hK)⟩
  · exact ⟨.func (.func n_impl_binaries_3) #[] #[], w, by kernel_rfl, hN (.func (.func n_impl_binaries_3) #[] #[]) (binaries_3_spec k1 k4 ha hb hK)⟩
  · exact ⟨.func (.func n_impl_binaries_4) #[] #[], w, by kernel_rfl, hN (.func (.func n_impl_binaries_4) #[] #[]) (binaries_4_spec k1 k4 ha hb hK)⟩
  · exact ⟨.func (.func n_impl_binaries_5) #[] #[], w, by kernel_rfl, hN (.func (.func n_impl_binaries_5) #[] #[]) (binaries_5_spec k1 k4 ha hb hK)⟩
  · exact ⟨.func (.func n_impl_binaries_6) #[] #[], w, by kernel_rfl, hN (.func (.func n_impl_binaries_6) #[] #[]) (binaries_6_spec k1 k4 ha hb hK)⟩
  · exact ⟨.func (.func n_impl_binaries_7) #[] #[], w, by kernel_rfl, hN (.func (.func n_impl_binaries_7) #[] #[]) (binaries_7_spec k1 k4 ha hb hK)⟩
  · exact ⟨.func (.func n_impl_binaries_8) #[] #[], w, by kernel_rfl, hN (.func (.func n_impl_binaries_8) #[] #[]) (binaries_8_spec k1 k4 ha hb hK)⟩
  · exact ⟨.func (.func n_impl_binaries_9) #[] #[], w, by kernel_rfl, hN (.func (.func n_impl_binaries_9) #[] #[]) (binaries_9_spec k1 k4 ha hb hK)⟩
  · exact ⟨.func (.func n_impl_binaries_10) #[] #[], w, by kernel_rfl, hN (.func (.func n_impl_binaries_10) #[] #[]) (binaries_10_spec k1 k4 ha hb hK)⟩
  · exact ⟨.func (.func n_impl_binaries_11) #[] #[], w, by kernel_rfl, hN (.func (.func n_impl_binaries_11) #[] #[]) (binaries_11_spec k1 k4 ha hb hK)⟩
theorem VecBin_spec {op wd n v m : Int} (hK : ∀ w', Ext w w' → K (.tuple #[VecV (M.vecBin op wd n v m).1.1 (M.vecBin op wd n v m).1.2, .bool (M.vecBin op wd n v m).2]) w') : vcall PP n_impl_VecBin #[.int .i64 op, VecV wd n, VecV v m] w K := by
  apply c_impl_VecBin; unfold F_impl_VecBin
  refine vbox_agg fun b1 w1 hb1 he1 hs1 h1 => ?_
  refine vbox_agg fun b2 w2 hb2 he2 hs2 g2 => ?_
  refine valloc_agg zr_impl_Vec fun b3 w3 hb3 he3 hs3 r3 => ?_
  have hE := (he1.trans he2).trans he3
  have hz1 := he1.size
  have hz2 := he2.size
  have h3 := (h1.ext he2).ext he3
  have g3 := g2.ext he3
  have hnew : ∀ w4 w5, Ext w3 w4 → Same (· = b3) w4 w5 → Ext w w5 := fun w4 w5 h h' => Ext.then (hE.trans h) h' fun y hy => by subst hy; omega
  have hno : (M.vecBin op wd n v m) = ((0, 0), false) → ∀ w4, Ext w3 w4 → vstore PP T_impl_Vec (.pointer (some ⟨b3, 0, none⟩)) (VecV 0 0) w4 fun _ w5 => vlv PP T_impl_Vec (.pointer (some ⟨b3, 0, none⟩)) w5 fun r w6 => K (.tuple #[r, .bool false]) w6 := by
    intro e w4 he4
    refine stVec (r3.ext he4) fun w5 hw5 _ r5 => ?_
    rw [r5.lv (by kernel_rfl)]
    have := hK w5 (hnew _ _ he4 hw5)
    rwa [e] at this
  refine vjoin_of (fun u w4 => u = [] ∧ Ext w3 w4 ∧ M.vok wd n = true ∧ M.vok v m = true) (fun C hC => ?_) ?_
  · simp (disch := (simp only [push_cast]; done)) only [push_cast, h3.ldAgg (t := T_impl_Vec) g_impl_Vec]
    refine VecOk_spec fun w4 he4 => ?_
    have g4 := g3.ext he4
    simp only [push_cast]
    refine vif_bool (fun hv => hno ?_ _ he4) (fun hv => ?_)
    · unfold M.vecBin; rw [if_neg (by simp at hv; simp [hv])]
    · simp (disch := (simp only [push_cast]; done)) only [push_cast, g4.ldAgg (t := T_impl_Vec) g_impl_Vec]
      refine VecOk_spec fun w5 he5 => ?_
      simp only [push_cast]
      refine vif_bool (fun hv2 => hno ?_ _ (he4.trans he5)) (fun hv2 => ?_)
      · unfold M.vecBin; rw [if_neg (by simp at hv2; simp [hv2])]
      · exact hC _ _ ⟨rfl, he4.trans he5, by simpa using hv, by simpa using hv2⟩
  · rintro u g w4 ⟨rfl, he4, hv1, hv2⟩
    have h4 := h3.ext he4
    have g4 := g3.ext he4
    have r4 := r3.ext he4
    obtain ⟨k, a, rfl, rfl, k1, k4, ha⟩ := M.vok_nat hv1
    obtain ⟨l, b, rfl, rfl, l1, l4, hb⟩ := M.vok_nat hv2
    have ha16 := pow16 k4 ha
    have hb16 := pow16 l4 hb
    unfold M.vecBin at hK hno
    rw [if_pos ⟨hv1, hv2⟩] at hK hno
    simp only [push_cast]
    refine vif_dec (fun a1 => ?_) (fun a1 => ?_)
    · rw [if_pos a1] at hK hno
      refine vdraw_ext fun w5 he5 _ => ?_
      have h5 := h4.ext he5
      have g5 := g4.ext he5
      have r5 := r4.ext he5
      have hm : a * 2 ^ l ≤ 524288 := shl_small ha16 (by omega)
      have e1 : IntKind.i64.wrap ((k : Int) + (l : Int)) = ((k + l : Nat) : Int) := by rw [wrap64 (by omega) (by omega)]; omega
      have eS : ∀ (w : World) (K : Value → World → Prop), vbin PP .shl T_int false (.int .i64 (a : Int)) (.int .i64 (l : Int)) w K = K (.int .i64 (a * 2 ^ l : Nat)) w := fun w K => vbin_shlI (by omega) (by omega)
      have eO : ∀ (w : World) (K : Value → World → Prop), vbin PP .or T_int false (.int .i64 ((a * 2 ^ l : Nat) : Int)) (.int .i64 (b : Int)) w K = K (.int .i64 (a * 2 ^ l ||| b : Nat)) w := fun w K => vbin_orI (by omega) (by omega)
      have eC := M.cat_or l4 k4 ha hb
      obtain ⟨q, hq⟩ : ∃ q, q = a * 2 ^ l := ⟨_, rfl⟩
      obtain ⟨z, hz⟩ : ∃ z, z = q ||| b := ⟨_, rfl⟩
      rw [← hq] at eS eO eC
      rw [← hz] at eO eC
      simp (disch := (simp only [push_cast]; done)) only [push_cast, h5.ld0, h5.ld1, g5.ld0, g5.ld1, true_and, e1, eS, eO]
      refine valloc_agg zr_impl_Vec fun b4 w6 hb4 he6 hs6 p6 => ?_
      have h6 := h5.ext he6
      have g6 := g5.ext he6
      have r6 := r5.ext he6
      simp (disch := (simp only [push_cast]; done)) only [push_cast, h6.ld0, h6.ld1, g6.ld0, g6.ld1, true_and, e1, eS, eO, and_self]
      refine stVec p6 fun w7 hw7 _ p7 => ?_
      have hb34 : b3 ≠ b4 := by have := r5.lt; omega
      have r7 := r6.same hw7 hb34
      have he7 : Ext w3 w7 := Ext.then ((he4.trans he5).trans he6) hw7 fun y hy => by subst hy; have := (he4.trans he5).size; omega
      simp (disch := (simp only [push_cast]; done)) only [push_cast, p7.ld0]
      refine vif_dec (fun a2 => hno ?_ _ he7) (fun a2 => ?_)
      · rw [if_neg (by omega)]
      · simp (disch := (simp only [push_cast]; done)) only [push_cast, p7.ldAgg (t := T_impl_Vec) g_impl_Vec]
        refine stVec r7 fun w8 hw8 _ r8 => ?_
        rw [r8.lv (by kernel_rfl)]
        have := hK w8 (hnew _ _ he7 hw8)
        rw [if_pos (by omega), ← eC] at this
        exact this
    · rw [if_neg a1] at hK hno
      refine vjoin_of (fun u w5 => u = [] ∧ w5 = w4 ∧ 3 ≤ op ∧ op ≤ 13 ∧ (k : Int) = l) (fun C hC => ?_) ?_
      · refine vif_dec (fun a2 => hno (by rw [if_neg (by omega)]) _ he4) (fun a2 => ?_)
        refine vif_dec (fun a3 => hno (by rw [if_neg (by omega)]) _ he4) (fun a3 => ?_)
        simp (disch := (simp only [push_cast]; done)) only [push_cast, h4.ld0, g4.ld0]
        refine vif_dec (fun a4 => hno (by rw [if_neg (by omega)]) _ he4) (fun a4 => ?_)
        exact hC _ _ ⟨rfl, rfl, by omega, by omega, by omega⟩
      · rintro u g w5 ⟨rfl, rfl, c3, c13, ckl⟩
        have : l = k := by omega
        subst this
        refine vdraw_ext fun w6 he6 _ => ?_
        have h6 := h4.ext he6
        have g6 := g4.ext he6
        simp (disch := (simp only [push_cast]; done)) only [push_cast, h6.ldAgg (t := T_impl_Vec) g_impl_Vec, g6.ldAgg (t := T_impl_Vec) g_impl_Vec, true_and]
        refine binaries_spec fun w7 he7 => ?_
        have h7 := h6.ext he7
        have g7 := g6.ext he7
        simp (disch := (simp only [push_cast]; done)) only [push_cast, h7.ldAgg (t := T_impl_Vec) g_impl_Vec, g7.ldAgg (t := T_impl_Vec) g_impl_Vec, true_and, and_self]
        obtain ⟨o, rfl⟩ : ∃ o : Nat, op = o := ⟨op.toNat, by omega⟩
        refine bin_all (by omega) (by omega) l1 l4 ha hb rfl ?_ fun x hx => ⟨rfl, hx⟩
        intro w8 r he8 hr hrm
        have h8 := h7.ext he8
        simp (disch := (simp only [push_cast]; done)) only [push_cast, h8.ldAgg (t := T_impl_Vec) g_impl_Vec, true_and, and_self]
        refine vec_spec hr l1 l4 fun w9 he9 => ?_
        have r9 := (((r4.ext he6).ext he7).ext he8).ext he9
        refine stVec r9 fun w10 hw10 _ r10 => ?_
        rw [r10.lv (by kernel_rfl)]
        have := hK w10 (hnew _ _ ((((he4.trans he6).trans he7).trans he8).trans he9) hw10)
        rw [if_pos ⟨c3, c13, rfl⟩] at this
        rw [hrm]
        exact this
theorem eqVec {a b c d : Int} {t : Bool} : vbin PP .eql T_impl_Vec t (VecV a b) (VecV c d) w K = K (.bool (decide (a = c ∧ b = d))) w := by
  refine vbin_run (run_eqGuard_agg w _ _ _ _ _ _ (by kernel_rfl)) ?_
  have h0 : (PP.fieldsOf T_impl_Vec).toList = [(PP.fieldsOf T_impl_Vec).getD 0 default, (PP.fieldsOf T_impl_Vec).getD 1 default] := by kernel_rfl
  have n0 : ((PP.fieldsOf T_impl_Vec).getD 0 default).name ≠ "_" := by decide +kernel
  have n1 : ((PP.fieldsOf T_impl_Vec).getD 1 default).name ≠ "_" := by decide +kernel
  have i0 : PP.underlying ((PP.fieldsOf T_impl_Vec).getD 0 default).type = some (.int .i64) := by kernel_rfl
  have i1 : PP.underlying ((PP.fieldsOf T_impl_Vec).getD 1 default).type = some (.int .i64) := by kernel_rfl
  have p0 : ∀ x y : Value, (part ((PP.fieldsOf T_impl_Vec).getD 0 default).type ⟨[x, y]⟩ ((PP.fieldsOf T_impl_Vec).getD 0 default).offset).run PP w = .ok x w := fun x y => by kernel_rfl
  have p1 : ∀ x y : Value, (part ((PP.fieldsOf T_impl_Vec).getD 1 default).type ⟨[x, y]⟩ ((PP.fieldsOf T_impl_Vec).getD 1 default).offset).run PP w = .ok y w := fun x y => by kernel_rfl
  have hE : (Op.equalIn 10000 T_impl_Vec (VecV a b) (VecV c d)).run PP w = .ok (decide (a = c ∧ b = d)) w := by
    rw [run_equalIn_struct w 9999 T_impl_Vec _ _ (by kernel_rfl) (by kernel_rfl), h0]
    generalize (PP.fieldsOf T_impl_Vec).getD 0 default = f0 at n0 i0 p0 ⊢
    generalize (PP.fieldsOf T_impl_Vec).getD 1 default = f1 at n1 i1 p1 ⊢
    simp only [Op.eqFields, if_pos n0, if_pos n1, Sem.run_bind, p0, p1, Result.andThen_ok, run_equalIn_int w 9998 _ _ _ _ _ i0, run_equalIn_int w 9998 _ _ _ _ _ i1]
    by_cases e1 : a = c
    · by_cases e2 : b = d
      · subst e1; subst e2; simp [run_equalIn_int w 9998 _ _ _ _ _ i1, p1]
      · subst e1; simp [run_equalIn_int w 9998 _ _ _ _ _ i1, p1, e2]
    · simp [e1]
  rw [run_eql_struct, hE]
  rfl
theorem VecCmp_spec {op wd n v m : Int} (hK : ∀ w', Ext w w' → K (.tuple #[.bool (M.vecCmp op wd n v m).1, .bool (M.vecCmp op wd n v m).2]) w') : vcall PP n_impl_VecCmp #[.int .i64 op, VecV wd n, VecV v m] w K := by
  apply c_impl_VecCmp; unfold F_impl_VecCmp
  refine vbox_agg fun b1 w1 hb1 he1 hs1 h1 => ?_
  refine vbox_agg fun b2 w2 hb2 he2 hs2 g2 => ?_
  have hE := he1.trans he2
  have h3 := h1.ext he2
  have hno : (M.vecCmp op wd n v m) = (false, false) → ∀ w4, Ext w2 w4 → K (.tuple #[.bool false, .bool false]) w4 := by
    intro e w4 he4
    have := hK w4 (hE.trans he4)
    rwa [e] at this
  refine vjoin_of (fun u w4 => u = [] ∧ Ext w2 w4 ∧ M.vok wd n = true ∧ M.vok v m = true ∧ wd = v) (fun C hC => ?_) ?_
  · simp (disch := (simp only [push_cast]; done)) only [push_cast, h3.ldAgg (t := T_impl_Vec) g_impl_Vec]
    refine VecOk_spec fun w4 he4 => ?_
    have g4 := g2.ext he4
    simp only [push_cast]
    refine vif_bool (fun hv => hno ?_ _ he4) (fun hv => ?_)
    · unfold M.vecCmp; rw [if_neg (by simp at hv; simp [hv])]
    · simp (disch := (simp only [push_cast]; done)) only [push_cast, g4.ldAgg (t := T_impl_Vec) g_impl_Vec]
      refine VecOk_spec fun w5 he5 => ?_
      have g5 := g4.ext he5
      have h5 := (h3.ext he4).ext he5
      simp only [push_cast]
      refine vif_bool (fun hv2 => hno ?_ _ (he4.trans he5)) (fun hv2 => ?_)
      · unfold M.vecCmp; rw [if_neg (by simp at hv2; simp [hv2])]
      · simp (disch := (simp only [push_cast]; done)) only [push_cast, h5.ld0, g5.ld0]
        refine vif_dec (fun a1 => hno ?_ _ (he4.trans he5)) (fun a1 => ?_)
        · unfold M.vecCmp; rw [if_neg (fun h => a1 h.2.2.1)]
        · exact hC _ _ ⟨rfl, he4.trans he5, by simpa using hv, by simpa using hv2, by omega⟩
  · rintro u g w4 ⟨rfl, he4, hv1, hv2, rfl⟩
    have h4 := h3.ext he4
    have g4 := g2.ext he4
    unfold M.vecCmp at hK hno
    simp only [push_cast]
    refine vif_dec (fun a1 => ?_) (fun a1 => ?_)
    · subst a1
      simp (disch := (simp only [push_cast]; done)) only [push_cast, h4.ldAgg (t := T_impl_Vec) g_impl_Vec, g4.ldAgg (t := T_impl_Vec) g_impl_Vec]
      rw [eqVec]
      have := hK w4 (hE.trans he4)
      rw [if_pos ⟨hv1, hv2, rfl, by omega, by omega⟩] at this
      simp only [M.cmpM, if_true] at this
      simp only [true_and]
      exact this
    refine vif_dec (fun a2 => ?_) (fun a2 => ?_)
    · subst a2
      simp (disch := (simp only [push_cast]; done)) only [push_cast, h4.ld1, g4.ld1]
      have := hK w4 (hE.trans he4)
      rw [if_pos ⟨hv1, hv2, rfl, by omega, by omega⟩] at this
      exact this
    refine vif_dec (fun a3 => ?_) (fun a3 => ?_)
    · subst a3
      refine vdraw_ext fun w5 he5 _ => ?_
      have h5 := h4.ext he5
      have g5 := g4.ext he5
      simp (disch := (simp only [push_cast]; done)) only [push_cast, h5.ldAgg (t := T_impl_Vec) g_impl_Vec, g5.ldAgg (t := T_impl_Vec) g_impl_Vec, true_and]
      refine VecSigned_spec fun w6 he6 => ?_
      have g6 := g5.ext he6
      simp (disch := (simp only [push_cast]; done)) only [push_cast, g6.ldAgg (t := T_impl_Vec) g_impl_Vec, true_and, and_self]
      refine VecSigned_spec fun w7 he7 => ?_
      simp only [push_cast, if_pos hv1, if_pos hv2, true_and]
      have := hK w7 (((hE.trans he4).trans he5).trans (he6.trans he7))
      rw [if_pos ⟨hv1, hv2, rfl, by omega, by omega⟩] at this
      exact this
    · exact hno (by rw [if_neg (fun h => by omega)]) _ he4
theorem VecCut_spec {wd n hi lo : Int} (hK : ∀ w', Ext w w' → K (.tuple #[VecV (M.vecCut wd n hi lo).1.1 (M.vecCut wd n hi lo).1.2, .bool (M.vecCut wd n hi lo).2]) w') : vcall PP n_impl_VecCut #[VecV wd n, .int .i64 hi, .int .i64 lo] w K := by
  apply c_impl_VecCut; unfold F_impl_VecCut
  refine vbox_agg fun b1 w1 hb1 he1 hs1 h1 => ?_
  refine valloc_agg zr_impl_Vec fun b3 w3 hb3 he3 hs3 r3 => ?_
  have hE := he1.trans he3
  have hz1 := he1.size
  have h3 := h1.ext he3
  have hnew : ∀ w4 w5, Ext w3 w4 → Same (· = b3) w4 w5 → Ext w w5 := fun w4 w5 h h' => Ext.then (hE.trans h) h' fun y hy => by subst hy; omega
  have hno : (M.vecCut wd n hi lo) = ((0, 0), false) → ∀ w4, Ext w3 w4 → vstore PP T_impl_Vec (.pointer (some ⟨b3, 0, none⟩)) (VecV 0 0) w4 fun _ w5 => vlv PP T_impl_Vec (.pointer (some ⟨b3, 0, none⟩)) w5 fun r w6 => K (.tuple #[r, .bool false]) w6 := by
    intro e w4 he4
    refine stVec (r3.ext he4) fun w5 hw5 _ r5 => ?_
    rw [r5.lv (by kernel_rfl)]
    have := hK w5 (hnew _ _ he4 hw5)
    rwa [e] at this
  unfold M.vecCut at hK hno
  refine vjoin_of (fun u w4 => u = [] ∧ Ext w3 w4 ∧ M.vok wd n = true ∧ 0 ≤ lo ∧ lo ≤ hi ∧ hi < wd) (fun C hC => ?_) ?_
  · simp (disch := (simp only [push_cast]; done)) only [push_cast, h3.ldAgg (t := T_impl_Vec) g_impl_Vec]
    refine VecOk_spec fun w4 he4 => ?_
    have h4 := h3.ext he4
    simp only [push_cast]
    refine vif_bool (fun hv => hno ?_ _ he4) (fun hv => ?_)
    · rw [if_neg (by simp at hv; simp [hv])]
    refine vif_dec (fun a1 => hno (if_neg (by omega)) _ he4) (fun a1 => ?_)
    refine vif_dec (fun a2 => hno (if_neg (by omega)) _ he4) (fun a2 => ?_)
    simp (disch := (simp only [push_cast]; done)) only [push_cast, h4.ld0]
    refine vif_dec (fun a3 => hno (if_neg (by omega)) _ he4) (fun a3 => ?_)
    exact hC _ _ ⟨rfl, he4, by simpa using hv, by omega, by omega, by omega⟩
  · rintro u g w4 ⟨rfl, he4, hv, c1, c2, c3⟩
    have h4 := h3.ext he4
    have r4 := r3.ext he4
    obtain ⟨k, a, rfl, rfl, k1, k4, ha⟩ := M.vok_nat hv
    obtain ⟨l, rfl⟩ : ∃ l : Nat, lo = l := ⟨lo.toNat, by omega⟩
    obtain ⟨t, ht⟩ : ∃ t : Nat, hi - (l : Int) + 1 = t := ⟨(hi - l + 1).toNat, by omega⟩
    have ha16 := pow16 k4 ha
    have e1 : IntKind.i64.wrap (IntKind.i64.wrap (hi - (l : Int)) + 1) = (t : Int) := by rw [wrap64 (x := hi - l) (by omega) (by omega), wrap64 (by omega) (by omega)]; omega
    simp (disch := (simp only [push_cast]; done)) only [push_cast, h4.ldAgg (t := T_impl_Vec) g_impl_Vec, e1]
    refine raw_spec (by omega) fun w5 he5 => ?_
    have hd := Nat.div_le_self a (2 ^ l)
    rw [vbin_shrU (by omega)]
    refine cut_spec (by omega) (by omega) (by omega) ?_
    have hm := Nat.mod_le (a / 2 ^ l) (2 ^ t)
    have hres : M.cutM (a : Int) hi (l : Int) = ((a / 2 ^ l % 2 ^ t : Nat) : Int) := by
      unfold M.cutM
      rw [ht]
      simp
    rw [if_pos ⟨hv, c1, c2, c3⟩] at hK
    simp only [hres, ht] at hK
    obtain ⟨z, hz⟩ : ∃ z, z = a / 2 ^ l % 2 ^ t := ⟨_, rfl⟩
    rw [← hz] at hm hK ⊢
    rw [vconv_int sm_impl_raw ik_int, wrapN (by omega)]
    simp only [push_cast]
    refine stVec (r4.ext he5) fun w6 hw6 _ r6 => ?_
    rw [r6.lv (by kernel_rfl)]
    exact hK w6 (hnew _ _ (he4.trans he5) hw6)
end Go.Proofs.YtcfgmgjofmbfhaaGreatDoor
end
section
namespace Go.Proofs.YtcfgmgjofmbfhaaGreatDoor
open Go Go.Vc Go.Proofs
variable {w : World} {K : Value → World → Prop} {F : Nat → Prop}
theorem IndexFunc_Lint_int {v f : Value} {vs : List Value} {p : Nat → Bool} (hx : Vals F w v vs) (hf : ∀ i, i < vs.length → FnB PP w f #[vs.getD i undef] (p i))
    (hK : ∀ w', Ext w w' → K (.int .i64 (idxI vs.length p)) w') : vcall PP n_slices_IndexFunc_Lint_int #[v, f] w K := by
  apply c_slices_IndexFunc_Lint_int
  unfold F_slices_IndexFunc_Lint_int
  simp (disch := first | (simp only [push_cast]; done) | omega) only [push_cast, hx.len]
  have hlen : vs.length ≤ 9223372036854775807 := by obtain ⟨_, _, _, h1, h2, _⟩ := hx.shape; simp at h1; omega
  refine vloop_up vs.length (fun i u w' => u = [.int .i64 i] ∧ Ext w w' ∧ ∀ j, j < i → p j = false) ⟨rfl, Same.refl _ _, by omega⟩ ?_
  rintro i _ g w1 C hi ⟨rfl, he, hp⟩ hC
  simp only [push_cast]
  refine vif_dec (fun hlt => ?_) (fun hge => ?_)
  · have hx1 := hx.ext he
    simp (disch := first | (simp only [push_cast]; done) | omega) only [push_cast, hx1.iaddr, hx1.load]
    refine hf i (by omega) w1 _ he fun w2 he2 => vif_bool (fun hb => ?_) (fun hb => ?_)
    · have := hK w2 (he.trans he2)
      rwa [idxI_some (by omega) hb hp] at this
    · simp (disch := omega) only [push_cast, wrap64]
      exact hC (by omega) _ _ ⟨by simp, he.trans he2, fun j hj => by
        by_cases h : j = i
        · subst h; exact hb
        · exact hp j (by omega)⟩
  · have := hK w1 he
    rwa [idxI_none (fun j hj => hp j (by omega))] at this
theorem ContainsFunc_Lint_int {v f : Value} {vs : List Value} {p : Nat → Bool} (hx : Vals F w v vs) (hf : ∀ i, i < vs.length → FnB PP w f #[vs.getD i undef] (p i))
    (hK : ∀ w', Ext w w' → K (.bool ((List.range vs.length).any p)) w') : vcall PP n_slices_ContainsFunc_Lint_int #[v, f] w K := by
  apply c_slices_ContainsFunc_Lint_int
  unfold F_slices_ContainsFunc_Lint_int
  refine IndexFunc_Lint_int hx hf fun w' he => ?_
  simp only [push_cast, idxI_nonneg]
  exact hK w' he
end Go.Proofs.YtcfgmgjofmbfhaaGreatDoor
end
section
namespace Go.Proofs.YtcfgmgjofmbfhaaGreatDoor
open Go Go.Vc Go.Proofs
variable {w : World} {K : Value → World → Prop} {F G : Nat → Prop}
@[push_cast] theorem tn0 : (0 : Int).toNat = 0 := rfl
@[push_cast] theorem tn1 : (1 : Int).toNat = 1 := rfl
@[push_cast] theorem tn2 : (2 : Int).toNat = 2 := rfl
theorem any_range {α : Type} (xs : List α) (d : α) (p : α → Bool) : (List.range xs.length).any (fun i => p (xs.getD i d)) = xs.any p := by
  rw [Bool.eq_iff_iff, List.any_eq_true, List.any_eq_true]
  constructor
  · rintro ⟨i, hi, hp⟩
    exact ⟨_, M.getD_mem (List.mem_range.1 hi) d, hp⟩
  · rintro ⟨x, hx, hp⟩
    obtain ⟨i, hi, rfl⟩ := List.getElem_of_mem hx
    exact ⟨i, List.mem_range.2 hi, by rw [List.getD_eq_getElem?_getD, List.getElem?_eq_getElem hi]; exact hp⟩
abbrev DclV (d : M.Dcl) : Value := .agg ⟨[.string d.1, .int .i64 d.2]⟩
abbrev dcl0 : M.Dcl := (M.nada, 0)
theorem IndexFunc_Decl {v f : Value} {ds : List M.Dcl} {p : Nat → Bool} (hx : DclsR F w v ds) (hf : ∀ i, i < ds.length → FnB PP w f #[DclV (ds.getD i dcl0)] (p i))
    (hK : ∀ w', Ext w w' → K (.int .i64 (idxI ds.length p)) w') : vcall PP n_slices_IndexFunc_Limpl_Decl_impl_Decl #[v, f] w K := by
  apply c_slices_IndexFunc_Limpl_Decl_impl_Decl
  unfold F_slices_IndexFunc_Limpl_Decl_impl_Decl
  simp (disch := first | (simp only [push_cast]; done) | omega) only [push_cast, hx.len]
  have hlen := hx.small
  refine vloop_up ds.length (fun i u w' => u = [.int .i64 i] ∧ Ext w w' ∧ ∀ j, j < i → p j = false) ⟨rfl, Same.refl _ _, by omega⟩ ?_
  rintro i _ g w1 C hi ⟨rfl, he, hp⟩ hC
  simp only [push_cast]
  refine vif_dec (fun hlt => ?_) (fun hge => ?_)
  · have hx1 := hx.ext he
    simp (disch := first | (simp only [push_cast]; done) | omega) only [push_cast, hx1.iaddr, hx1.load]
    refine hf i (by omega) w1 _ he fun w2 he2 => vif_bool (fun hb => ?_) (fun hb => ?_)
    · have := hK w2 (he.trans he2)
      rwa [idxI_some (by omega) hb hp] at this
    · rw [inc64' (by omega)]
      exact hC (by omega) _ _ ⟨rfl, he.trans he2, fun j hj => by
        by_cases h : j = i
        · subst h; exact hb
        · exact hp j (by omega)⟩
  · have := hK w1 he
    rwa [idxI_none (fun j hj => hp j (by omega))] at this
theorem ContainsFunc_Decl {v f : Value} {ds : List M.Dcl} {p : Nat → Bool} (hx : DclsR F w v ds) (hf : ∀ i, i < ds.length → FnB PP w f #[DclV (ds.getD i dcl0)] (p i))
    (hK : ∀ w', Ext w w' → K (.bool ((List.range ds.length).any p)) w') : vcall PP n_slices_ContainsFunc_Limpl_Decl_impl_Decl #[v, f] w K := by
  apply c_slices_ContainsFunc_Limpl_Decl_impl_Decl
  unfold F_slices_ContainsFunc_Limpl_Decl_impl_Decl
  refine IndexFunc_Decl hx hf fun w' he => ?_
  simp only [push_cast, idxI_nonneg]
  exact hK w' he
theorem number_spec {b : Bool} (hK : K (.int .i64 (M.b2i b)) w) : vcall PP n_impl_number #[.bool b] w K := by
  apply c_impl_number; unfold F_impl_number
  refine vif_bool (fun h => ?_) (fun h => ?_) <;> subst h <;> exact hK
theorem sorted_spec {b : Bool} {s : Int} (hK : K (.int .i64 (if b = true then s else -1)) w) : vcall PP n_impl_sorted #[.bool b, .int .i64 s] w K := by
  apply c_impl_sorted; unfold F_impl_sorted
  refine vif_bool (fun h => ?_) (fun h => ?_) <;> subst h <;> exact hK
theorem sorted_dec {p : Prop} [Decidable p] {s : Int} (hK : K (.int .i64 (if p then s else -1)) w) : vcall PP n_impl_sorted #[.bool (decide p), .int .i64 s] w K :=
  sorted_spec (by simpa using hK)
theorem sorted_no {s : Int} (hK : K (.int .i64 (-1)) w) : vcall PP n_impl_sorted #[.bool false, .int .i64 s] w K := sorted_spec hK
theorem kids_spec {s : ByteArray} {n : Int} (hK : ∀ w', Ext w w' → K (.int .i64 n) w') : vcall PP n_impl_named_kids #[.agg ⟨[.string s, .int .i64 n]⟩] w K := by
  apply c_impl_named_kids; unfold F_impl_named_kids
  refine vbox_agg fun b1 w1 hb1 he1 hs1 h1 => ?_
  simp (disch := (simp only [push_cast]; done)) only [push_cast, h1.ld1]
  exact hK _ he1
abbrev KV (s : ByteArray) (n : Int) : Value := .agg ⟨[.string s, .int .i64 n]⟩
theorem unKind_sort_spec {s : ByteArray} {n : Int} {dv tv kv : Value} {t : M.Tm} {xs : List Int} (ht : TermR F w tv t) (hx : Ints G w kv xs) (hl : xs.length = 1)
    (hK : ∀ w', Ext w w' → K (.int .i64 (if 0 < xs.getD 0 0 then xs.getD 0 0 else -1)) w') : vcall PP n_impl_unKind_sort #[KV s n, dv, tv, kv] w K := by
  apply c_impl_unKind_sort; unfold F_impl_unKind_sort
  obtain ⟨ksv, rfl, hks⟩ := ht
  refine vbox_agg fun b1 w1 hb1 he1 hs1 h1 => ?_
  refine vbox_agg fun b2 w2 hb2 he2 hs2 h2 => ?_
  refine vdraw_ext fun w3 he3 _ => ?_
  have hx3 := hx.ext ((he1.trans he2).trans he3)
  simp (disch := first | (simp only [push_cast]; done) | omega) only [push_cast, hx3.iaddr, hx3.load, true_and]
  exact sorted_dec (hK _ ((he1.trans he2).trans he3))
theorem binKind_sort_spec {s : ByteArray} {n : Int} {dv tv kv : Value} {t : M.Tm} {xs : List Int} (ht : TermR F w tv t) (hx : Ints G w kv xs) (hl : xs.length = 2)
    (hK : ∀ w', Ext w w' → K (.int .i64 (if 0 < xs.getD 0 0 ∧ xs.getD 0 0 = xs.getD 1 0 then xs.getD 0 0 else -1)) w') : vcall PP n_impl_binKind_sort #[KV s n, dv, tv, kv] w K := by
  apply c_impl_binKind_sort; unfold F_impl_binKind_sort
  obtain ⟨ksv, rfl, hks⟩ := ht
  refine vbox_agg fun b1 w1 hb1 he1 hs1 h1 => ?_
  refine vbox_agg fun b2 w2 hb2 he2 hs2 h2 => ?_
  refine vdraw_ext fun w3 he3 _ => ?_
  have hx3 := hx.ext ((he1.trans he2).trans he3)
  have hk := hK _ ((he1.trans he2).trans he3)
  simp (disch := first | (simp only [push_cast]; done) | omega) only [push_cast, hx3.iaddr, hx3.load, true_and]
  refine vif_dec (fun a => ?_) (fun a => ?_)
  · refine sorted_dec ?_
    simpa only [a, true_and] using hk
  · refine sorted_no ?_
    simpa only [a, false_and, if_false] using hk
theorem cmpKind_sort_spec {s : ByteArray} {n : Int} {dv tv kv : Value} {t : M.Tm} {xs : List Int} (ht : TermR F w tv t) (hx : Ints G w kv xs) (hl : xs.length = 2)
    (hK : ∀ w', Ext w w' → K (.int .i64 (if 0 < xs.getD 0 0 ∧ xs.getD 0 0 = xs.getD 1 0 then 0 else -1)) w') : vcall PP n_impl_cmpKind_sort #[KV s n, dv, tv, kv] w K := by
  apply c_impl_cmpKind_sort; unfold F_impl_cmpKind_sort
  obtain ⟨ksv, rfl, hks⟩ := ht
  refine vbox_agg fun b1 w1 hb1 he1 hs1 h1 => ?_
  refine vbox_agg fun b2 w2 hb2 he2 hs2 h2 => ?_
  refine vdraw_ext fun w3 he3 _ => ?_
  have hx3 := hx.ext ((he1.trans he2).trans he3)
  have hk := hK _ ((he1.trans he2).trans he3)
  simp (disch := first | (simp only [push_cast]; done) | omega) only [push_cast, hx3.iaddr, hx3.load, true_and]
  refine vif_dec (fun a => ?_) (fun a => ?_)
  · refine sorted_dec ?_
    simpa only [a, true_and] using hk
  · refine sorted_no ?_
    simpa only [a, false_and, if_false] using hk
theorem catKind_sort_spec {s : ByteArray} {n : Int} {dv tv kv : Value} {t : M.Tm} {xs : List Int} (ht : TermR F w tv t) (hx : Ints G w kv xs) (hl : xs.length = 2) (hr : ∀ i, -1 ≤ xs.getD i 0 ∧ xs.getD i 0 ≤ 4)
    (hK : ∀ w', Ext w w' → K (.int .i64 (if 0 < xs.getD 0 0 ∧ 0 < xs.getD 1 0 ∧ xs.getD 0 0 + xs.getD 1 0 ≤ 4 then xs.getD 0 0 + xs.getD 1 0 else -1)) w') : vcall PP n_impl_catKind_sort #[KV s n, dv, tv, kv] w K := by
  apply c_impl_catKind_sort; unfold F_impl_catKind_sort
  obtain ⟨ksv, rfl, hks⟩ := ht
  refine vbox_agg fun b1 w1 hb1 he1 hs1 h1 => ?_
  refine vbox_agg fun b2 w2 hb2 he2 hs2 h2 => ?_
  refine vdraw_ext fun w3 he3 _ => ?_
  have hx3 := hx.ext ((he1.trans he2).trans he3)
  have hk := hK _ ((he1.trans he2).trans he3)
  have r0 := hr 0
  have r1 := hr 1
  have e1 : IntKind.i64.wrap (xs.getD 0 0 + xs.getD 1 0) = xs.getD 0 0 + xs.getD 1 0 := wrap64 (by omega) (by omega)
  simp (disch := first | (simp only [push_cast]; done) | omega) only [push_cast, hx3.iaddr, hx3.load, true_and, e1]
  refine vif_dec (fun a => ?_) (fun a => ?_)
  · refine vif_dec (fun b => ?_) (fun b => ?_)
    · refine sorted_dec ?_
      simpa only [a, b, true_and] using hk
    · refine sorted_no ?_
      simpa only [b, false_and, and_false, if_false] using hk
  · refine sorted_no ?_
    simpa only [a, false_and, if_false] using hk
theorem ifKind_sort_spec {s : ByteArray} {n : Int} {dv tv kv : Value} {t : M.Tm} {xs : List Int} (ht : TermR F w tv t) (hx : Ints G w kv xs) (hl : xs.length = 3)
    (hK : ∀ w', Ext w w' → K (.int .i64 (if xs.getD 0 0 = 0 ∧ xs.getD 1 0 = xs.getD 2 0 then xs.getD 1 0 else -1)) w') : vcall PP n_impl_ifKind_sort #[KV s n, dv, tv, kv] w K := by
  apply c_impl_ifKind_sort; unfold F_impl_ifKind_sort
  obtain ⟨ksv, rfl, hks⟩ := ht
  refine vbox_agg fun b1 w1 hb1 he1 hs1 h1 => ?_
  refine vbox_agg fun b2 w2 hb2 he2 hs2 h2 => ?_
  refine vdraw_ext fun w3 he3 _ => ?_
  have hx3 := hx.ext ((he1.trans he2).trans he3)
  have hk := hK _ ((he1.trans he2).trans he3)
  simp (disch := first | (simp only [push_cast]; done) | omega) only [push_cast, hx3.iaddr, hx3.load, true_and]
  refine vif_dec (fun a => ?_) (fun a => ?_)
  · refine sorted_dec ?_
    simpa only [a, true_and] using hk
  · refine sorted_no ?_
    simpa only [a, false_and, if_false] using hk
theorem vecKind_sort_spec {s : ByteArray} {n : Int} {dv tv kv : Value} {t : M.Tm} (ht : TermR F w tv t)
    (hK : ∀ w', Ext w w' → K (.int .i64 (if M.vok t.a t.b = true then t.a else -1)) w') : vcall PP n_impl_vecKind_sort #[KV s n, dv, tv, kv] w K := by
  apply c_impl_vecKind_sort; unfold F_impl_vecKind_sort
  obtain ⟨ksv, rfl, hks⟩ := ht
  refine vbox_agg fun b1 w1 hb1 he1 hs1 h1 => ?_
  refine vbox_agg fun b2 w2 hb2 he2 hs2 h2 => ?_
  refine vdraw_ext fun w3 he3 _ => ?_
  have h3 := h2.ext he3
  simp (disch := first | (simp only [push_cast]; done) | omega) only [push_cast, h3.ld1, h3.ld2, true_and]
  refine VecOk_spec fun w4 he4 => ?_
  have h4 := h3.ext he4
  simp (disch := first | (simp only [push_cast]; done) | omega) only [push_cast, h4.ld1, true_and, and_self]
  exact sorted_spec (hK _ (((he1.trans he2).trans he3).trans he4))
theorem cutKind_sort_spec {s : ByteArray} {n : Int} {dv tv kv : Value} {t : M.Tm} {xs : List Int} (ht : TermR F w tv t) (hx : Ints G w kv xs) (hl : xs.length = 1) (hr : ∀ i, -1 ≤ xs.getD i 0 ∧ xs.getD i 0 ≤ 4)
    (hK : ∀ w', Ext w w' → K (.int .i64 (if 0 ≤ t.b ∧ t.b ≤ t.a ∧ t.a < xs.getD 0 0 then t.a - t.b + 1 else -1)) w') : vcall PP n_impl_cutKind_sort #[KV s n, dv, tv, kv] w K := by
  apply c_impl_cutKind_sort; unfold F_impl_cutKind_sort
  obtain ⟨ksv, rfl, hks⟩ := ht
  refine vbox_agg fun b1 w1 hb1 he1 hs1 h1 => ?_
  refine vbox_agg fun b2 w2 hb2 he2 hs2 h2 => ?_
  refine vdraw_ext fun w3 he3 _ => ?_
  have hx3 := hx.ext ((he1.trans he2).trans he3)
  have h3 := h2.ext he3
  have hk := hK _ ((he1.trans he2).trans he3)
  have r0 := hr 0
  simp (disch := first | (simp only [push_cast]; done) | omega) only [push_cast, h3.ld1, h3.ld2, hx3.iaddr, hx3.load, true_and]
  refine vif_dec (fun a => ?_) (fun a => ?_)
  · refine vif_dec (fun b => ?_) (fun b => ?_)
    · by_cases c : t.a < xs.getD 0 0
      · have e1 : IntKind.i64.wrap (IntKind.i64.wrap (t.a - t.b) + 1) = t.a - t.b + 1 := by rw [wrap64 (x := t.a - t.b) (by omega) (by omega), wrap64 (by omega) (by omega)]
        rw [e1]
        refine sorted_dec ?_
        simpa only [a, b, c, true_and] using hk
      · refine sorted_dec ?_
        simpa only [c, and_false, if_false] using hk
    · refine sorted_no ?_
      simpa only [b, false_and, and_false, if_false] using hk
  · refine sorted_no ?_
    simpa only [a, false_and, if_false] using hk
theorem boolKind_sort_spec {s : ByteArray} {n : Int} {f dv tv kv : Value} {t : M.Tm} {xs : List Int} (ht : TermR F w tv t) (hx : Ints G w kv xs)
    (hK : ∀ w', Ext w w' → K (.int .i64 (if xs.any (fun x => decide (x ≠ 0)) then -1 else 0)) w') : vcall PP n_impl_boolKind_sort #[.agg ⟨[.string s, .int .i64 n, f]⟩, dv, tv, kv] w K := by
  apply c_impl_boolKind_sort; unfold F_impl_boolKind_sort
  obtain ⟨ksv, rfl, hks⟩ := ht
  refine vbox_agg fun b1 w1 hb1 he1 hs1 h1 => ?_
  refine vbox_agg fun b2 w2 hb2 he2 hs2 h2 => ?_
  have hx3 := hx.ext (he1.trans he2)
  refine ContainsFunc_Lint_int (p := fun i => decide (xs.getD i 0 ≠ 0)) hx3 (fun i hi => ?_) fun w3 he3 => ?_
  · rw [ints_getD (by simpa using hi)]
    intro w' K he hK
    simp only [push_cast]
    apply c_impl_boolKind_sort_1; unfold F_impl_boolKind_sort_1
    simp only [push_cast]
    have := hK _ (Same.refl _ _)
    simpa using this
  · have hk := hK _ ((he1.trans he2).trans he3)
    rw [List.length_map, any_range xs 0 (fun x => decide (x ≠ 0))]
    simp only [push_cast]
    refine sorted_spec ?_
    cases hb : xs.any fun x => decide (x ≠ 0) <;> rw [hb] at hk <;> exact hk
theorem nameKind_sort_spec {s : ByteArray} {n : Int} {dv tv kv : Value} {t : M.Tm} {ds : List M.Dcl} (ht : TermR F w tv t) (hd : DclsR G w dv ds)
    (hK : ∀ w', Ext w w' → K (.int .i64 (if M.findD ds t.s < 0 then -1 else (ds.getD (M.findD ds t.s).toNat dcl0).2)) w') : vcall PP n_impl_nameKind_sort #[KV s n, dv, tv, kv] w K := by
  apply c_impl_nameKind_sort; unfold F_impl_nameKind_sort
  obtain ⟨ksv, rfl, hks⟩ := ht
  refine vbox_agg fun b1 w1 hb1 he1 hs1 h1 => ?_
  refine vbox_agg fun b2 w2 hb2 he2 hs2 h2 => ?_
  simp only [push_cast]
  have hd2 := hd.ext (he1.trans he2)
  refine IndexFunc_Decl (p := fun i => decide ((ds.getD i dcl0).1 = t.s)) hd2 (fun i hi => ?_) fun w3 he3 => ?_
  · intro w' K he hK
    simp only [push_cast]
    apply c_impl_nameKind_sort_1; unfold F_impl_nameKind_sort_1
    refine vbox_agg fun b3 w4 hb3 he4 hs4 h4 => ?_
    have h5 := (h2.ext he).ext he4
    simp (disch := first | (simp only [push_cast]; done) | omega) only [push_cast, h4.ld0, h5.ld3]
    exact hK _ he4
  · have hfd := M.findD_lt ds t.s
    have hk := hK _ ((he1.trans he2).trans he3)
    have hd3 := hd2.ext he3
    have efd : idxI ds.length (fun i => decide ((ds.getD i dcl0).1 = t.s)) = M.findD ds t.s := rfl
    rw [efd]
    simp only [push_cast]
    refine vif_dec (fun a => ?_) (fun a => ?_)
    · rwa [if_pos a] at hk
    · rw [if_neg a] at hk
      simp (disch := first | (simp only [push_cast]; done) | omega) only [push_cast, hd3.iaddr]
      simp (disch := first | (simp only [push_cast]; done) | omega) only [push_cast, hd3.load1]
      exact hk
end Go.Proofs.YtcfgmgjofmbfhaaGreatDoor
end
section
namespace Go.Proofs.YtcfgmgjofmbfhaaGreatDoor
open Go Go.Vc Go.Proofs
variable {w : World} {K : Value → World → Prop} {F : Nat → Prop}
theorem l1Max_spec {a b : Int} (hK : K (.int .i64 (max a b)) w) : vcall PP n_spec_l1Max #[.int .i64 a, .int .i64 b] w K := by
  apply c_spec_l1Max; unfold F_spec_l1Max
  simp only [push_cast]
  refine vif_dec (fun h => ?_) (fun h => ?_)
  · rwa [show max a b = a by omega] at hK
  · rwa [show max a b = b by omega] at hK
theorem l1Min_spec {a b : Int} (hK : K (.int .i64 (min a b)) w) : vcall PP n_spec_l1Min #[.int .i64 a, .int .i64 b] w K := by
  apply c_spec_l1Min; unfold F_spec_l1Min
  simp only [push_cast]
  refine vif_dec (fun h => ?_) (fun h => ?_)
  · rwa [show min a b = a by omega] at hK
  · rwa [show min a b = b by omega] at hK
theorem pow62 {k : Nat} (h : k ≤ 62) : 2 ^ k ≤ 4611686018427387904 := Nat.le_trans (Nat.pow_le_pow_right (by omega) h) (by decide)
theorem l1Two_spec {n : Int} (h : n ≤ 62) (hK : K (.int .i64 ((2 ^ n.toNat : Nat) : Int)) w) : vcall PP n_spec_l1Two #[.int .i64 n] w K := by
  apply c_spec_l1Two; unfold F_spec_l1Two
  refine vloop_up n.toNat (fun i u w' => u = [.int .i64 (2 ^ i : Nat), .int .i64 i] ∧ w' = w) ⟨rfl, rfl⟩ ?_
  rintro i _ _ w1 C hi ⟨rfl, rfl⟩ hC
  have hp := pow62 (k := i) (by omega)
  have e1 : ((2 ^ i : Nat) : Int) * 2 = ((2 ^ (i + 1) : Nat) : Int) := by rw [Nat.pow_succ]; omega
  have hp2 : i < n.toNat → 2 ^ (i + 1) ≤ 4611686018427387904 := fun h => pow62 (by omega)
  obtain ⟨q, hq⟩ : ∃ q, q = 2 ^ i := ⟨_, rfl⟩
  obtain ⟨q2, hq2⟩ : ∃ q2, q2 = 2 ^ (i + 1) := ⟨_, rfl⟩
  rw [← hq] at e1 hp ⊢
  rw [← hq2] at e1 hC hp2
  simp only [push_cast]
  refine vif_dec (fun a => ?_) (fun a => ?_)
  · have hp2' := hp2 (by omega)
    rw [e1, wrap64 (by omega) (by omega), inc64' (by omega)]
    exact hC (by omega) _ _ ⟨rfl, rfl⟩
  · have : i = n.toNat := by omega
    subst this
    rw [hq]; exact hK
theorem l1Two_nat {n : Nat} (h : n ≤ 62) (hK : K (.int .i64 ((2 ^ n : Nat) : Int)) w) : vcall PP n_spec_l1Two #[.int .i64 (n : Int)] w K :=
  l1Two_spec (by omega) (by rwa [Int.toNat_natCast])
theorem spec_VecOk_spec {wd n : Int} (hK : ∀ w', Ext w w' → K (.bool (M.vok wd n)) w') : vcall PP n_spec_VecOk #[VecV wd n] w K := by
  apply c_spec_VecOk; unfold F_spec_VecOk
  refine vbox_agg fun b1 w1 hb1 he1 hs1 h1 => ?_
  refine vdraw_ext fun w2 he2 _ => ?_
  have h2 := h1.ext he2
  have hE := he1.trans he2
  simp (disch := (simp only [push_cast]; done)) only [push_cast, h2.ld0, h2.ld1, true_and]
  have hk := hK w2 hE
  refine vif_dec (fun a1 => ?_) (fun a1 => ?_)
  · refine vif_dec (fun a2 => ?_) (fun a2 => ?_)
    · refine vif_dec (fun a3 => ?_) (fun a3 => ?_)
      · refine l1Two_spec (by omega) ?_
        obtain ⟨q, hq⟩ : ∃ q, q = 2 ^ wd.toNat := ⟨_, rfl⟩
        have hv : M.vok wd n = decide (n < (q : Nat)) := by
          simp only [M.vok, decide_eq_true a1, decide_eq_true a2, decide_eq_true a3, Bool.true_and]
          rw [hq, natPow]
        rw [← hq]
        simp (disch := (simp only [push_cast]; done)) only [push_cast, h2.ld1, true_and, and_self]
        rw [hv] at hk
        exact hk
      · have hv : M.vok wd n = false := by simp only [M.vok, decide_eq_false a3, Bool.and_false, Bool.false_and]
        rw [hv] at hk; exact hk
    · have hv : M.vok wd n = false := by simp only [M.vok, decide_eq_false a2, Bool.and_false, Bool.false_and]
      rw [hv] at hk; exact hk
  · have hv : M.vok wd n = false := by simp only [M.vok, decide_eq_false a1, Bool.false_and]
    rw [hv] at hk; exact hk
theorem l1Bit_spec {n k : Nat} (hn : n < 9223372036854775808) (hk : k ≤ 62) (hK : K (.int .i64 ((n / 2 ^ k % 2 : Nat) : Int)) w) : vcall PP n_spec_l1Bit #[.int .i64 (n : Int), .int .i64 (k : Int)] w K := by
  apply c_spec_l1Bit; unfold F_spec_l1Bit
  refine l1Two_nat hk ?_
  have hp : 0 < 2 ^ k := Nat.pow_pos (by omega)
  have hd : n / 2 ^ k ≤ n := Nat.div_le_self _ _
  rw [vbin_quo (by omega), show (n : Int).tdiv ((2 ^ k : Nat) : Int) = ((n / 2 ^ k : Nat) : Int) from rfl, wrapN (by omega), vbin_rem (by omega), show ((n / 2 ^ k : Nat) : Int).tmod 2 = ((n / 2 ^ k % 2 : Nat) : Int) from rfl]
  exact hK
theorem l1Mod_spec {n : Int} {k : Nat} (h1 : 1 ≤ k) (h4 : k ≤ 4) (hl : -4611686018427387904 ≤ n) (hh : n ≤ 4611686018427387904) (hK : K (.int .i64 (n % (2 ^ k : Nat))) w) : vcall PP n_spec_l1Mod #[.int .i64 n, .int .i64 (k : Int)] w K := by
  apply c_spec_l1Mod; unfold F_spec_l1Mod
  refine l1Two_nat (by omega) ?_
  have hp := pow4 h1 h4
  obtain ⟨m, hm⟩ : ∃ m, m = 2 ^ k := ⟨_, rfl⟩
  rw [← hm] at hp hK ⊢
  rw [vbin_rem (by omega)]
  have hm' : m = 2 ∨ m = 4 ∨ m = 8 ∨ m = 16 := by
    rcases (by omega : k = 1 ∨ k = 2 ∨ k = 3 ∨ k = 4) with rfl | rfl | rfl | rfl <;> simp at hm <;> omega
  simp only [push_cast]
  by_cases hn : 0 ≤ n
  · rw [Int.tmod_eq_emod_of_nonneg hn]
    have h0 : 0 ≤ n % (m : Int) := Int.emod_nonneg _ (by omega)
    refine vif_dec (fun a => absurd a (by omega)) (fun a => hK)
  · obtain ⟨b, rfl⟩ : ∃ b : Nat, n = -(b : Int) := ⟨(-n).toNat, by omega⟩
    rw [Int.neg_tmod, Int.tmod_eq_emod_of_nonneg (by omega)]
    have h0 : 0 ≤ (b : Int) % (m : Int) := Int.emod_nonneg _ (by omega)
    have h1 : (b : Int) % (m : Int) < m := Int.emod_lt_of_pos _ (by omega)
    have e : (b : Int) % (m : Int) = 0 ∧ -(b : Int) % (m : Int) = 0 ∨ 0 < (b : Int) % (m : Int) ∧ -(b : Int) % (m : Int) = -((b : Int) % (m : Int)) + m := by
      rcases hm' with rfl | rfl | rfl | rfl <;> omega
    refine vif_dec (fun a => ?_) (fun a => ?_)
    · rcases e with ⟨e1, e2⟩ | ⟨e1, e2⟩
      · omega
      · rw [wrap64 (by omega) (by omega), ← e2]; exact hK
    · rcases e with ⟨e1, e2⟩ | ⟨e1, e2⟩
      · rw [e1, show -(0 : Int) = 0 from rfl, ← e2]; exact hK
      · omega
theorem l1Signed_spec {k a : Nat} (k1 : 1 ≤ k) (k4 : k ≤ 4) (ha : a < 2 ^ k) (hK : ∀ w', Ext w w' → K (.int .i64 (M.sgn k a)) w') : vcall PP n_spec_l1Signed #[VecV k a] w K := by
  apply c_spec_l1Signed; unfold F_spec_l1Signed
  have hp := pow4 k1 k4
  refine vbox_agg fun b1 w1 hb1 he1 hs1 h1 => ?_
  have e1 : IntKind.i64.wrap ((k : Int) - 1) = ((k - 1 : Nat) : Int) := by rw [wrap64 (by omega) (by omega)]; omega
  simp (disch := (simp only [push_cast]; done)) only [push_cast, h1.ld0, h1.ld1, e1]
  refine l1Bit_spec (by omega) (by omega) ?_
  have hb := top_bit k1 k4 ha
  have hx := (natPow k).symm
  have hy : (2 : Int) ^ ((k : Int).toNat - 1) = ((2 ^ (k - 1) : Nat) : Int) := by simp
  have hlt : a / 2 ^ (k - 1) % 2 < 2 := Nat.mod_lt _ (by omega)
  obtain ⟨z, hz⟩ : ∃ z, z = a / 2 ^ (k - 1) % 2 := ⟨_, rfl⟩
  rw [← hz] at hb hlt ⊢
  simp only [push_cast]
  refine vif_dec (fun c => ?_) (fun c => ?_)
  · refine vdraw_ext fun w2 he2 _ => ?_
    have h2 := h1.ext he2
    simp (disch := (simp only [push_cast]; done)) only [push_cast, h2.ld0, h2.ld1, true_and]
    refine l1Two_nat (by omega) ?_
    have hn : ¬ a < 2 ^ (k - 1) := by
      have : decide (z = 1) = true := decide_eq_true (by omega)
      rw [this] at hb
      exact of_decide_eq_true hb.symm
    have := hK w2 (he1.trans he2)
    unfold M.sgn at this
    rw [if_neg (by rw [hy]; omega), Int.toNat_natCast, hx] at this
    obtain ⟨q, hq⟩ : ∃ q, q = 2 ^ k := ⟨_, rfl⟩
    rw [← hq] at hp this ⊢
    have hw : IntKind.i64.wrap ((a : Int) - (q : Int)) = (a : Int) - (q : Int) := wrap64 (by omega) (by omega)
    simp (disch := (simp only [push_cast]; done)) only [push_cast, h2.ld1, true_and, hw]
    exact this
  · have hn : a < 2 ^ (k - 1) := by
      have : decide (z = 1) = false := decide_eq_false (by omega)
      rw [this] at hb
      have := of_decide_eq_false hb.symm
      omega
    have := hK w1 he1
    unfold M.sgn at this
    rw [if_pos (by rw [hy]; omega)] at this
    simp (disch := (simp only [push_cast]; done)) only [push_cast, h1.ld1]
    exact this
def zN (op x y : Nat) : Nat := if op = 4 then x + y - x * y else if op = 5 then (x + y) % 2 else x * y
theorem zN_ck {op a b i : Nat} (h3 : 3 ≤ op) (h5 : op ≤ 5) (ha : a < 16) (hb : b < 16) (hi : i < 4) : M.binN op 4 a b / 2 ^ (i + 1) * 2 + zN op (a / 2 ^ i % 2) (b / 2 ^ i % 2) = M.binN op 4 a b / 2 ^ i := by
  have hall : ∀ o : Fin 6, ∀ i : Fin 4, 3 ≤ o.1 → (List.range 16).all (fun a => (List.range 16).all fun b => decide (M.binN o.1 4 a b / 2 ^ (i.1 + 1) * 2 + zN o.1 (a / 2 ^ i.1 % 2) (b / 2 ^ i.1 % 2) = M.binN o.1 4 a b / 2 ^ i.1)) = true := by decide +kernel
  have := hall ⟨op, by omega⟩ ⟨i, hi⟩ h3
  simp only [List.all_eq_true, List.mem_range, decide_eq_true_eq] at this
  exact this a ha b hb
theorem zN_16 {op a b : Nat} (h3 : 3 ≤ op) (h5 : op ≤ 5) (ha : a < 16) (hb : b < 16) : M.binN op 4 a b < 16 := by
  have hall : ∀ o : Fin 6, 3 ≤ o.1 → (List.range 16).all (fun a => (List.range 16).all fun b => decide (M.binN o.1 4 a b < 16)) = true := by decide +kernel
  have := hall ⟨op, by omega⟩ h3
  simp only [List.all_eq_true, List.mem_range, decide_eq_true_eq] at this
  exact this a ha b hb
theorem l1Bits_spec {op a b : Nat} (h3 : 3 ≤ op) (h5 : op ≤ 5) (ha : a < 16) (hb : b < 16) (hK : K (.int .i64 ((M.binN op 4 a b : Nat) : Int)) w) : vcall PP n_spec_l1Bits #[.int .i64 (op : Int), .int .i64 (a : Int), .int .i64 (b : Int)] w K := by
  apply c_spec_l1Bits; unfold F_spec_l1Bits
  have h16 := zN_16 h3 h5 ha hb
  refine vloop_up 4 (fun j u w' => u = [.int .i64 ((M.binN op 4 a b / 2 ^ (4 - j) : Nat) : Int), .int .i64 (3 - (j : Int))] ∧ w' = w) ⟨by rw [show M.binN op 4 a b / 2 ^ (4 - 0) = 0 from Nat.div_eq_of_lt h16]; rfl, rfl⟩ ?_
  rintro j _ _ w1 C hj ⟨rfl, rfl⟩ hC
  obtain ⟨f, hf⟩ : ∃ f, f = M.binN op 4 a b := ⟨_, rfl⟩
  have hck : ∀ i, i < 4 → f / 2 ^ (i + 1) * 2 + zN op (a / 2 ^ i % 2) (b / 2 ^ i % 2) = f / 2 ^ i := fun i hi => by rw [hf]; exact zN_ck h3 h5 ha hb hi
  rw [← hf] at hC hK h16 ⊢
  by_cases hj3 : j ≤ 3
  · obtain ⟨i, hi⟩ : ∃ i, i + j = 3 := ⟨3 - j, by omega⟩
    have e1 : 4 - j = i + 1 := by omega
    have e2 : 3 - (j : Int) = (i : Int) := by omega
    have e3 : 4 - (j + 1) = i := by omega
    have e4 : 3 - ((j + 1 : Nat) : Int) = (i : Int) - 1 := by omega
    have hC' := hC (by omega)
    rw [e3, e4] at hC'
    rw [e1, e2]
    have hck' := hck i (by omega)
    obtain ⟨p, hp⟩ : ∃ p, p = f / 2 ^ (i + 1) := ⟨_, rfl⟩
    obtain ⟨q, hq⟩ : ∃ q, q = f / 2 ^ i := ⟨_, rfl⟩
    have hql : q ≤ f := by rw [hq]; exact Nat.div_le_self _ _
    have hpl : p ≤ f := by rw [hp]; exact Nat.div_le_self _ _
    rw [← hp, ← hq] at hck'
    rw [← hq] at hC'
    rw [← hp]
    have ei : IntKind.i64.wrap ((i : Int) - 1) = (i : Int) - 1 := wrap64 (by omega) (by omega)
    simp only [push_cast]
    refine vif_dec (fun c => ?_) (fun c => absurd (by omega) c)
    refine l1Bit_spec (by omega) (by omega) ?_
    refine l1Bit_spec (by omega) (by omega) ?_
    have hx : a / 2 ^ i % 2 < 2 := Nat.mod_lt _ (by omega)
    have hy : b / 2 ^ i % 2 < 2 := Nat.mod_lt _ (by omega)
    obtain ⟨x, hx0⟩ : ∃ x, x = a / 2 ^ i % 2 := ⟨_, rfl⟩
    obtain ⟨y, hy0⟩ : ∃ y, y = b / 2 ^ i % 2 := ⟨_, rfl⟩
    rw [← hx0] at hx hck' ⊢
    rw [← hy0] at hy hck' ⊢
    have hxy : x * y ≤ 1 := by
      have := Nat.mul_le_mul (show x ≤ 1 by omega) (show y ≤ 1 by omega)
      omega
    obtain ⟨z, hz⟩ : ∃ z, z = x * y := ⟨_, rfl⟩
    have hzi : (x : Int) * (y : Int) = (z : Int) := by rw [hz]; simp
    have hzle : z ≤ x ∧ z ≤ y := by
      rcases (by omega : x = 0 ∨ x = 1) with h | h <;> rcases (by omega : y = 0 ∨ y = 1) with h' | h' <;> subst h <;> subst h' <;> simp at hz <;> omega
    rw [← hz] at hxy
    unfold zN at hck'
    rw [← hz] at hck'
    simp only [push_cast, hzi]
    refine vif_dec (fun c4 => ?_) (fun c4 => ?_)
    · rw [if_pos (by omega)] at hck'
      rw [wrap64 (x := z) (by omega) (by omega), wrap64 (x := (x : Int) + y) (by omega) (by omega), wrap64 (x := (x : Int) + y - z) (by omega) (by omega), wrap64 (x := (p : Int) * 2) (by omega) (by omega), wrap64 (x := (p : Int) * 2 + ((x : Int) + y - z)) (by omega) (by omega), ei, show (p : Int) * 2 + ((x : Int) + y - z) = (q : Int) by omega]
      exact hC' _ _ ⟨rfl, rfl⟩
    rw [if_neg (by omega)] at hck'
    refine vif_dec (fun c5 => ?_) (fun c5 => ?_)
    · rw [if_pos (by omega)] at hck'
      rw [wrap64 (x := (x : Int) + y) (by omega) (by omega), vbin_rem (by omega), show (x : Int) + (y : Int) = ((x + y : Nat) : Int) by omega, show ((x + y : Nat) : Int).tmod 2 = (((x + y) % 2 : Nat) : Int) from rfl]
      obtain ⟨s, hs⟩ : ∃ s, s = (x + y) % 2 := ⟨_, rfl⟩
      have hs2 : s < 2 := by omega
      rw [← hs] at hck' ⊢
      simp only [push_cast]
      rw [wrap64 (x := (p : Int) * 2) (by omega) (by omega), wrap64 (x := (p : Int) * 2 + s) (by omega) (by omega), ei, show (p : Int) * 2 + (s : Int) = (q : Int) by omega]
      exact hC' _ _ ⟨rfl, rfl⟩
    · rw [if_neg (by omega)] at hck'
      rw [wrap64 (x := z) (by omega) (by omega), wrap64 (x := (p : Int) * 2) (by omega) (by omega), wrap64 (x := (p : Int) * 2 + z) (by omega) (by omega), ei, show (p : Int) * 2 + (z : Int) = (q : Int) by omega]
      exact hC' _ _ ⟨rfl, rfl⟩
  · have : j = 4 := by omega
    subst this
    have e : f / 2 ^ (4 - 4) = f := Nat.div_one _
    rw [e]
    simp only [push_cast]
    exact hK
end Go.Proofs.YtcfgmgjofmbfhaaGreatDoor
end
section
namespace Go.Proofs.YtcfgmgjofmbfhaaGreatDoor
open Go Go.Vc Go.Proofs
variable {w : World} {K : Value → World → Prop} {F : Nat → Prop}
theorem nat_ck {p : Nat → Nat → Nat → Bool} (h : ∀ v : Fin 5, (List.range 16).all (fun a => (List.range 16).all fun b => !(decide (1 ≤ v.1) && decide (a < 2 ^ v.1)) || p v.1 a b) = true) {k a b : Nat} (h1 : 1 ≤ k) (h2 : k ≤ 4) (ha : a < 2 ^ k) (hb : b < 16) : p k a b = true := by
  have := h ⟨k, by omega⟩
  simp only [List.all_eq_true, List.mem_range, Bool.or_eq_true, Bool.not_eq_true', Bool.and_eq_false_iff, decide_eq_false_iff_not] at this
  rcases this a (pow16 h2 ha) b hb with (h | h) | h
  · exact absurd h1 h
  · exact absurd ha h
  · exact h
theorem shl_ck {k a b : Nat} (h1 : 1 ≤ k) (h2 : k ≤ 4) (ha : a < 2 ^ k) (hb : b < 16) : a * 2 ^ min b k % 2 ^ k = M.binN 11 k a b :=
  of_decide_eq_true (nat_ck (p := fun k a b => decide (a * 2 ^ min b k % 2 ^ k = M.binN 11 k a b)) (by decide +kernel) h1 h2 ha hb)
theorem shr_ck {k a b : Nat} (h1 : 1 ≤ k) (h2 : k ≤ 4) (ha : a < 2 ^ k) (hb : b < 16) : a / 2 ^ min b k = M.binN 12 k a b :=
  of_decide_eq_true (nat_ck (p := fun k a b => decide (a / 2 ^ min b k = M.binN 12 k a b)) (by decide +kernel) h1 h2 ha hb)
theorem sar_ck {k a b : Nat} (h1 : 1 ≤ k) (h2 : k ≤ 4) (ha : a < 2 ^ k) (hb : b < 16) : (if a / 2 ^ (k - 1) % 2 = 0 then a / 2 ^ min b k else 2 ^ k - 1 - (2 ^ k - 1 - a) / 2 ^ min b k) = M.binN 13 k a b :=
  of_decide_eq_true (nat_ck (p := fun k a b => decide ((if a / 2 ^ (k - 1) % 2 = 0 then a / 2 ^ min b k else 2 ^ k - 1 - (2 ^ k - 1 - a) / 2 ^ min b k) = M.binN 13 k a b)) (by decide +kernel) h1 h2 ha hb)
theorem l1Shift_spec {op k a b : Nat} (h11 : 11 ≤ op) (h13 : op ≤ 13) (k1 : 1 ≤ k) (k4 : k ≤ 4) (ha : a < 2 ^ k) (hb : b < 16) (hK : ∀ w', Ext w w' → K (.int .i64 ((M.binN op k a b : Nat) : Int)) w') : vcall PP n_spec_l1Shift #[.int .i64 (op : Int), VecV k a, .int .i64 (b : Int)] w K := by
  apply c_spec_l1Shift; unfold F_spec_l1Shift
  have hp := pow4 k1 k4
  have ha16 := pow16 k4 ha
  refine vbox_agg fun b1 w1 hb1 he1 hs1 h1 => ?_
  simp (disch := (simp only [push_cast]; done)) only [push_cast, h1.ld0]
  refine l1Min_spec ?_
  obtain ⟨n, hn⟩ : ∃ n, n = min b k := ⟨_, rfl⟩
  have hn4 : n ≤ k := by omega
  rw [show min (b : Int) (k : Int) = (n : Int) by omega]
  have hpn : 1 ≤ 2 ^ n ∧ 2 ^ n ≤ 16 := ⟨Nat.pow_pos (by omega), Nat.le_trans (Nat.pow_le_pow_right (by omega) (show n ≤ 4 by omega)) (by decide)⟩
  try simp only [push_cast]
  refine vif_dec (fun c => ?_) (fun c => ?_)
  · have : op = 11 := by omega
    subst this
    have hck := shl_ck k1 k4 ha hb
    rw [← hn] at hck
    refine vdraw_ext fun w2 he2 _ => ?_
    have h2 := h1.ext he2
    simp (disch := (simp only [push_cast]; done)) only [push_cast, h2.ld0, h2.ld1, true_and]
    refine l1Two_nat (by omega) ?_
    obtain ⟨q, hq⟩ : ∃ q, q = 2 ^ n := ⟨_, rfl⟩
    rw [← hq] at hck hpn ⊢
    have hm := mul225 ha16 (show q - 1 < 16 by omega)
    have hm2 : a * q = a * (q - 1) + a := by rw [← Nat.mul_succ]; congr 1; omega
    obtain ⟨x, hx⟩ : ∃ x, x = a * q := ⟨_, rfl⟩
    have e : IntKind.i64.wrap ((a : Int) * (q : Int)) = (x : Int) := by
      rw [show (a : Int) * (q : Int) = (x : Int) by rw [hx]; simp]; exact wrapN (by omega)
    rw [← hx] at hck
    simp (disch := (simp only [push_cast]; done)) only [push_cast, h2.ld0, h2.ld1, true_and, and_self, e]
    refine l1Mod_spec k1 k4 (by omega) (by omega) ?_
    rw [show (x : Int) % ((2 ^ k : Nat) : Int) = ((x % 2 ^ k : Nat) : Int) from rfl, hck]
    exact hK _ (he1.trans he2)
  refine vif_dec (fun c2 => ?_) (fun c2 => ?_)
  · have : op = 12 := by omega
    subst this
    have hck := shr_ck k1 k4 ha hb
    rw [← hn] at hck
    refine vdraw_ext fun w2 he2 _ => ?_
    have h2 := h1.ext he2
    simp (disch := (simp only [push_cast]; done)) only [push_cast, h2.ld1, true_and]
    refine l1Two_nat (by omega) ?_
    obtain ⟨q, hq⟩ : ∃ q, q = 2 ^ n := ⟨_, rfl⟩
    rw [← hq] at hck hpn ⊢
    have hd := Nat.div_le_self a q
    simp (disch := (simp only [push_cast]; done)) only [push_cast, h2.ld1, true_and, and_self]
    rw [vbin_quo (by omega), show (a : Int).tdiv (q : Int) = ((a / q : Nat) : Int) from rfl, wrapN (by omega), hck]
    exact ⟨rfl, hK _ (he1.trans he2)⟩
  · have : op = 13 := by omega
    subst this
    have hck := sar_ck k1 k4 ha hb
    rw [← hn] at hck
    have e1 : IntKind.i64.wrap ((k : Int) - 1) = ((k - 1 : Nat) : Int) := by rw [wrap64 (by omega) (by omega)]; omega
    simp (disch := (simp only [push_cast]; done)) only [push_cast, h1.ld0, h1.ld1, e1]
    refine l1Bit_spec (by omega) (by omega) ?_
    obtain ⟨z, hz⟩ : ∃ z, z = a / 2 ^ (k - 1) % 2 := ⟨_, rfl⟩
    rw [← hz] at hck ⊢
    simp only [push_cast]
    refine vif_dec (fun c3 => ?_) (fun c3 => ?_)
    · rw [if_pos (by omega)] at hck
      refine vdraw_ext fun w2 he2 _ => ?_
      have h2 := h1.ext he2
      simp (disch := (simp only [push_cast]; done)) only [push_cast, h2.ld1, true_and]
      refine l1Two_nat (by omega) ?_
      obtain ⟨q, hq⟩ : ∃ q, q = 2 ^ n := ⟨_, rfl⟩
      rw [← hq] at hck hpn ⊢
      have hd := Nat.div_le_self a q
      simp (disch := (simp only [push_cast]; done)) only [push_cast, h2.ld1, true_and, and_self]
      rw [vbin_quo (by omega), show (a : Int).tdiv (q : Int) = ((a / q : Nat) : Int) from rfl, wrapN (by omega), hck]
      exact ⟨rfl, hK _ (he1.trans he2)⟩
    · rw [if_neg (by omega)] at hck
      simp (disch := (simp only [push_cast]; done)) only [push_cast, h1.ld0]
      refine l1Two_nat (by omega) ?_
      obtain ⟨m, hm⟩ : ∃ m, m = 2 ^ k := ⟨_, rfl⟩
      rw [← hm] at hck hp ha ⊢
      have e2 : IntKind.i64.wrap ((m : Int) - 1) = ((m - 1 : Nat) : Int) := by rw [wrap64 (by omega) (by omega)]; omega
      have e3 : IntKind.i64.wrap (((m - 1 : Nat) : Int) - (a : Int)) = ((m - 1 - a : Nat) : Int) := by rw [wrap64 (by omega) (by omega)]; omega
      obtain ⟨m1, hm1⟩ : ∃ m1, m1 = m - 1 := ⟨_, rfl⟩
      rw [← hm1] at e2 e3 hck
      obtain ⟨m2, hm2⟩ : ∃ m2, m2 = m1 - a := ⟨_, rfl⟩
      rw [← hm2] at e3 hck
      simp only [push_cast, e2]
      refine vdraw_ext fun w2 he2 _ => ?_
      have h2 := h1.ext he2
      simp (disch := (simp only [push_cast]; done)) only [push_cast, h2.ld1, true_and, e3]
      refine l1Two_nat (by omega) ?_
      obtain ⟨q, hq⟩ : ∃ q, q = 2 ^ n := ⟨_, rfl⟩
      rw [← hq] at hck hpn ⊢
      have hd := Nat.div_le_self m2 q
      simp (disch := (simp only [push_cast]; done)) only [push_cast, h2.ld1, true_and, and_self, e3]
      rw [vbin_quo (by omega), show (m2 : Int).tdiv (q : Int) = ((m2 / q : Nat) : Int) from rfl, wrapN (by omega)]
      refine ⟨rfl, ?_⟩
      obtain ⟨d, hd0⟩ : ∃ d, d = m2 / q := ⟨_, rfl⟩
      rw [← hd0] at hck hd ⊢
      simp only [push_cast]
      rw [wrap64 (by omega) (by omega), show (m1 : Int) - (d : Int) = ((m1 - d : Nat) : Int) by omega, hck]
      exact ⟨trivial, hK _ (he1.trans he2)⟩
theorem bin4 {op k a b : Nat} (h3 : 3 ≤ op) (h5 : op ≤ 5) : M.binN op 4 a b = M.binN op k a b := by
  unfold M.binN
  by_cases h : op = 3
  · rw [if_pos h, if_pos h]
  by_cases h' : op = 4
  · rw [if_neg h, if_neg h, if_pos h', if_pos h']
  · rw [if_neg h, if_neg h, if_neg h', if_neg h', if_pos (by omega), if_pos (by omega)]
theorem l1Bin_spec {k a l b : Nat} {op : Int} (k1 : 1 ≤ k) (k4 : k ≤ 4) (ha : a < 2 ^ k) (l4 : l ≤ 4) (hb : b < 2 ^ l) (hK : ∀ w' (r : Int), Ext w w' → 3 ≤ op → op ≤ 13 → (k = l → r = ((M.binN op.toNat k a b : Nat) : Int)) → K (.tuple #[.int .i64 r, .bool true]) w')
    (hno : ∀ w', Ext w w' → ¬ (3 ≤ op ∧ op ≤ 13) → K (.tuple #[.int .i64 0, .bool false]) w') : vcall PP n_spec_l1Bin #[.int .i64 op, VecV k a, VecV l b] w K := by
  apply c_spec_l1Bin; unfold F_spec_l1Bin
  have hp := pow4 k1 k4
  have ha16 := pow16 k4 ha
  have hb16 := pow16 l4 hb
  refine vbox_agg fun b1 w1 hb1 he1 hs1 h1 => ?_
  refine vbox_agg fun b2 w2 hb2 he2 hs2 g2 => ?_
  have h2 := h1.ext he2
  have hE := he1.trans he2
  refine vjoin_of (fun u w' => u = [.bool (decide (3 ≤ op ∧ op ≤ 5))] ∧ w' = w2) (fun C hC => ?_) ?_
  · simp only [push_cast]
    refine vif_dec (fun c => ?_) (fun c => ?_)
    · exact hC _ _ ⟨by rw [decide_eq_true (show 3 ≤ op ∧ op ≤ 5 by omega), decide_eq_true c], rfl⟩
    refine vif_dec (fun c2 => ?_) (fun c2 => ?_)
    · exact hC _ _ ⟨by rw [decide_eq_true (show 3 ≤ op ∧ op ≤ 5 by omega), decide_eq_true c2], rfl⟩
    · refine hC _ _ ⟨?_, rfl⟩
      by_cases c3 : op = 5
      · rw [decide_eq_true (show 3 ≤ op ∧ op ≤ 5 by omega), decide_eq_true c3]
      · rw [decide_eq_false (show ¬ (3 ≤ op ∧ op ≤ 5) by omega), decide_eq_false c3]
  · rintro u g w3 ⟨rfl, rfl⟩
    simp only [push_cast]
    refine vif_dec (fun c => ?_) (fun c => ?_)
    · simp (disch := (simp only [push_cast]; done)) only [push_cast, h2.ld1, g2.ld1]
      obtain ⟨o, rfl⟩ : ∃ o : Nat, op = o := ⟨op.toNat, by omega⟩
      refine l1Bits_spec (by omega) (by omega) ha16 hb16 ?_
      refine hK _ _ hE (by omega) (by omega) fun e => ?_
      rw [Int.toNat_natCast, bin4 (k := k) (by omega) (by omega)]
    refine vif_dec (fun c6 => ?_) (fun c6 => ?_)
    · subst c6
      simp (disch := (simp only [push_cast]; done)) only [push_cast, h2.ld0, h2.ld1, g2.ld1]
      rw [wrap64 (x := (a : Int) + b) (by omega) (by omega)]
      refine l1Mod_spec k1 k4 (by omega) (by omega) ?_
      refine hK _ _ hE (by omega) (by omega) fun e => ?_
      show _ = (((a + b) % 2 ^ k : Nat) : Int)
      rw [show (a : Int) + (b : Int) = ((a + b : Nat) : Int) by omega]; rfl
    refine vif_dec (fun c7 => ?_) (fun c7 => ?_)
    · subst c7
      simp (disch := (simp only [push_cast]; done)) only [push_cast, h2.ld0, h2.ld1, g2.ld1]
      rw [wrap64 (x := (a : Int) - b) (by omega) (by omega)]
      refine l1Mod_spec k1 k4 (by omega) (by omega) ?_
      refine hK _ _ hE (by omega) (by omega) fun e => ?_
      subst e
      show _ = (((a + 2 ^ k - b) % 2 ^ k : Nat) : Int)
      rcases (by omega : k = 1 ∨ k = 2 ∨ k = 3 ∨ k = 4) with rfl | rfl | rfl | rfl <;> simp at hb ⊢ <;> omega
    refine vif_dec (fun c8 => ?_) (fun c8 => ?_)
    · subst c8
      have hm := mul225 ha16 hb16
      simp (disch := (simp only [push_cast]; done)) only [push_cast, h2.ld0, h2.ld1, g2.ld1]
      rw [show (a : Int) * (b : Int) = ((a * b : Nat) : Int) by simp, wrapN (by omega)]
      refine l1Mod_spec k1 k4 (by omega) (by omega) ?_
      exact hK _ _ hE (by omega) (by omega) fun e => rfl
    refine vif_dec (fun c9 => ?_) (fun c9 => ?_)
    · subst c9
      simp (disch := (simp only [push_cast]; done)) only [push_cast, g2.ld1]
      refine vif_dec (fun d => ?_) (fun d => ?_)
      · have hb0 : b = 0 := by omega
        subst hb0
        simp (disch := (simp only [push_cast]; done)) only [push_cast, h2.ld0]
        refine l1Two_nat (by omega) ?_
        obtain ⟨m, hm⟩ : ∃ m, m = 2 ^ k := ⟨_, rfl⟩
        rw [← hm] at hp ⊢
        simp only [push_cast]
        rw [wrap64 (by omega) (by omega)]
        refine hK _ _ hE (by omega) (by omega) fun e => ?_
        have : M.binN (9 : Int).toNat k a 0 = 2 ^ k - 1 := by simp [M.binN]
        rw [this, ← hm]; omega
      · simp (disch := (simp only [push_cast]; done)) only [push_cast, h2.ld1, g2.ld1]
        have hd := Nat.div_le_self a b
        rw [vbin_quo (by omega), show (a : Int).tdiv (b : Int) = ((a / b : Nat) : Int) from rfl, wrapN (by omega)]
        refine hK _ _ hE (by omega) (by omega) fun e => ?_
        have : M.binN (9 : Int).toNat k a b = a / b := by simp [M.binN, show b ≠ 0 by omega]
        rw [this]
    refine vif_dec (fun c10 => ?_) (fun c10 => ?_)
    · subst c10
      simp (disch := (simp only [push_cast]; done)) only [push_cast, g2.ld1]
      refine vif_dec (fun d => ?_) (fun d => ?_)
      · have hb0 : b = 0 := by omega
        subst hb0
        simp (disch := (simp only [push_cast]; done)) only [push_cast, h2.ld1]
        refine hK _ _ hE (by omega) (by omega) fun e => ?_
        have : M.binN (10 : Int).toNat k a 0 = a := by simp [M.binN]
        rw [this]
      · simp (disch := (simp only [push_cast]; done)) only [push_cast, h2.ld1, g2.ld1]
        rw [vbin_rem (by omega), show (a : Int).tmod (b : Int) = ((a % b : Nat) : Int) from rfl]
        refine hK _ _ hE (by omega) (by omega) fun e => ?_
        have : M.binN (10 : Int).toNat k a b = a % b := by simp [M.binN, show b ≠ 0 by omega]
        rw [this]
    have hsh : ∀ o : Nat, 11 ≤ o → o ≤ 13 → op = o → vload PP T_impl_Vec (.pointer (some ⟨b1, 0, none⟩)) w3 fun t80 w_64 => vload PP T_int (.pointer (some ⟨b2, 1, none⟩)) w_64 fun t82 w_66 => vcall PP n_spec_l1Shift #[.int .i64 op, t80, t82] w_66 fun t83 w_67 => K (.tuple #[t83, .bool true]) w_67 := by
      intro o o1 o2 e
      subst e
      simp (disch := (simp only [push_cast]; done)) only [push_cast, h2.ldAgg (t := T_impl_Vec) g_impl_Vec, g2.ld1]
      refine l1Shift_spec o1 o2 k1 k4 ha hb16 fun w4 he4 => ?_
      exact hK _ _ (hE.trans he4) (by omega) (by omega) fun e => rfl
    refine vif_dec (fun c11 => ?_) (fun c11 => ?_)
    · simp only [decide_eq_true c11, vif_t]
      exact hsh 11 (by omega) (by omega) c11
    refine vif_dec (fun c12 => ?_) (fun c12 => ?_)
    · simp only [decide_eq_true c12, vif_t]
      exact hsh 12 (by omega) (by omega) c12
    refine vif_dec (fun c13 => ?_) (fun c13 => ?_)
    · exact hsh 13 (by omega) (by omega) c13
    · exact hno _ hE (by omega)
theorem spec_VecUn_spec {op wd n : Int} (hK : ∀ w', Ext w w' → K (.tuple #[VecV (M.vecUn op wd n).1.1 (M.vecUn op wd n).1.2, .bool (M.vecUn op wd n).2]) w') : vcall PP n_spec_VecUn #[.int .i64 op, VecV wd n] w K := by
  apply c_spec_VecUn; unfold F_spec_VecUn
  refine vbox_agg fun b1 w1 hb1 he1 hs1 h1 => ?_
  refine valloc_agg zr_impl_Vec fun b2 w2 hb2 he2 hs2 g2 => ?_
  have h2 := h1.ext he2
  simp (disch := (simp only [push_cast]; done)) only [push_cast, h2.ldAgg (t := T_impl_Vec) g_impl_Vec]
  refine spec_VecOk_spec fun w3 he3 => ?_
  have h3 := h2.ext he3
  have g3 := g2.ext he3
  have hE := (he1.trans he2).trans he3
  have hnew : ∀ w4 w5, Ext w3 w4 → Same (· = b2) w4 w5 → Ext w w5 := fun w4 w5 h h' => Ext.then (hE.trans h) h' fun y hy => by subst hy; have := he1.size; omega
  simp only [push_cast]
  unfold M.vecUn at hK
  refine vif_bool (fun hv => ?_) (fun hv => ?_)
  · refine stVec g3 fun w4 hw4 _ g4 => ?_
    rw [g4.lv (by kernel_rfl)]
    have := hK w4 (hnew _ _ (Same.refl _ _) hw4)
    rwa [if_neg (by simp at hv; simp [hv])] at this
  · rw [Bool.not_eq_false'] at hv
    obtain ⟨k, a, rfl, rfl, k1, k4, ha⟩ := M.vok_nat hv
    have hp := pow4 k1 k4
    refine vif_dec (fun a1 => ?_) (fun a1 => ?_)
    · subst a1
      refine vdraw_ext fun w4 he4 _ => ?_
      have h4 := h3.ext he4
      simp (disch := (simp only [push_cast]; done)) only [push_cast, h4.ld0, h4.ld1, true_and]
      refine l1Two_nat (by omega) ?_
      have hu : M.unM 1 (k : Int) (a : Int) = ((2 ^ k : Nat) : Int) - 1 - a := by simp [M.unM]
      obtain ⟨m, hm⟩ : ∃ m, m = 2 ^ k := ⟨_, rfl⟩
      rw [← hm] at hp hu ha ⊢
      have e1 : IntKind.i64.wrap ((m : Int) - 1) = (m : Int) - 1 := wrap64 (by omega) (by omega)
      have e2 : IntKind.i64.wrap ((m : Int) - 1 - (a : Int)) = (m : Int) - 1 - a := wrap64 (by omega) (by omega)
      simp (disch := (simp only [push_cast]; done)) only [push_cast, h4.ld0, h4.ld1, true_and, and_self, e1, e2]
      refine stVec (g3.ext he4) fun w7 hw7 _ g7 => ?_
      rw [g7.lv (by kernel_rfl)]
      have := hK w7 (hnew _ _ he4 hw7)
      rw [if_pos ⟨hv, .inl rfl⟩, hu] at this
      exact this
    refine vif_dec (fun a2 => ?_) (fun a2 => ?_)
    · subst a2
      refine vdraw_ext fun w4 he4 _ => ?_
      have h4 := h3.ext he4
      have e0 : IntKind.i64.wrap (0 - (a : Int)) = 0 - (a : Int) := wrap64 (by omega) (by omega)
      simp (disch := (simp only [push_cast]; done)) only [push_cast, h4.ld0, h4.ld1, true_and, e0]
      refine l1Mod_spec k1 k4 (by omega) (by omega) ?_
      have hu : M.unM 2 (k : Int) (a : Int) = (0 - (a : Int)) % ((2 ^ k : Nat) : Int) := by
        unfold M.unM
        rw [if_neg (by omega), Int.toNat_natCast]
        rcases (by omega : k = 1 ∨ k = 2 ∨ k = 3 ∨ k = 4) with rfl | rfl | rfl | rfl <;> simp <;> omega
      obtain ⟨m, hm⟩ : ∃ m : Int, m = (0 - (a : Int)) % ((2 ^ k : Nat) : Int) := ⟨_, rfl⟩
      rw [← hm] at hu ⊢
      simp (disch := (simp only [push_cast]; done)) only [push_cast, h4.ld0, true_and, and_self]
      refine stVec (g3.ext he4) fun w7 hw7 _ g7 => ?_
      rw [g7.lv (by kernel_rfl)]
      have := hK w7 (hnew _ _ he4 hw7)
      rw [if_pos ⟨hv, .inr rfl⟩, hu] at this
      exact this
    · refine stVec g3 fun w4 hw4 _ g4 => ?_
      rw [g4.lv (by kernel_rfl)]
      have := hK w4 (hnew _ _ (Same.refl _ _) hw4)
      rwa [if_neg (fun h => h.2.elim a1 a2)] at this
theorem spec_VecBin_spec {op wd n v m : Int} (hK : ∀ w', Ext w w' → K (.tuple #[VecV (M.vecBin op wd n v m).1.1 (M.vecBin op wd n v m).1.2, .bool (M.vecBin op wd n v m).2]) w') : vcall PP n_spec_VecBin #[.int .i64 op, VecV wd n, VecV v m] w K := by
  apply c_spec_VecBin; unfold F_spec_VecBin
  refine vbox_agg fun b1 w1 hb1 he1 hs1 h1 => ?_
  refine vbox_agg fun b2 w2 hb2 he2 hs2 g2 => ?_
  refine valloc_agg zr_impl_Vec fun b3 w3 hb3 he3 hs3 r3 => ?_
  have hE := (he1.trans he2).trans he3
  have hz1 := he1.size
  have hz2 := he2.size
  have h3 := (h1.ext he2).ext he3
  have g3 := g2.ext he3
  have hnew : ∀ w4 w5, Ext w3 w4 → Same (· = b3) w4 w5 → Ext w w5 := fun w4 w5 h h' => Ext.then (hE.trans h) h' fun y hy => by subst hy; omega
  have hno : (M.vecBin op wd n v m) = ((0, 0), false) → ∀ w4, Ext w3 w4 → vstore PP T_impl_Vec (.pointer (some ⟨b3, 0, none⟩)) (VecV 0 0) w4 fun _ w5 => vlv PP T_impl_Vec (.pointer (some ⟨b3, 0, none⟩)) w5 fun r w6 => K (.tuple #[r, .bool false]) w6 := by
    intro e w4 he4
    refine stVec (r3.ext he4) fun w5 hw5 _ r5 => ?_
    rw [r5.lv (by kernel_rfl)]
    have := hK w5 (hnew _ _ he4 hw5)
    rwa [e] at this
  refine vjoin_of (fun u w4 => u = [] ∧ Ext w3 w4 ∧ M.vok wd n = true ∧ M.vok v m = true) (fun C hC => ?_) ?_
  · simp (disch := (simp only [push_cast]; done)) only [push_cast, h3.ldAgg (t := T_impl_Vec) g_impl_Vec]
    refine spec_VecOk_spec fun w4 he4 => ?_
    have g4 := g3.ext he4
    simp only [push_cast]
    refine vif_bool (fun hv => hno ?_ _ he4) (fun hv => ?_)
    · unfold M.vecBin; rw [if_neg (by simp at hv; simp [hv])]
    · simp (disch := (simp only [push_cast]; done)) only [push_cast, g4.ldAgg (t := T_impl_Vec) g_impl_Vec]
      refine spec_VecOk_spec fun w5 he5 => ?_
      simp only [push_cast]
      refine vif_bool (fun hv2 => hno ?_ _ (he4.trans he5)) (fun hv2 => ?_)
      · unfold M.vecBin; rw [if_neg (by simp at hv2; simp [hv2])]
      · exact hC _ _ ⟨rfl, he4.trans he5, by simpa using hv, by simpa using hv2⟩
  · rintro u g w4 ⟨rfl, he4, hv1, hv2⟩
    have h4 := h3.ext he4
    have g4 := g3.ext he4
    have r4 := r3.ext he4
    obtain ⟨k, a, rfl, rfl, k1, k4, ha⟩ := M.vok_nat hv1
    obtain ⟨l, b, rfl, rfl, l1, l4, hb⟩ := M.vok_nat hv2
    have ha16 := pow16 k4 ha
    have hb16 := pow16 l4 hb
    unfold M.vecBin at hK hno
    rw [if_pos ⟨hv1, hv2⟩] at hK hno
    simp only [push_cast]
    refine vif_dec (fun a1 => ?_) (fun a1 => ?_)
    · rw [if_pos a1] at hK hno
      have e1 : IntKind.i64.wrap ((k : Int) + (l : Int)) = (k : Int) + (l : Int) := wrap64 (by omega) (by omega)
      simp (disch := (simp only [push_cast]; done)) only [push_cast, h4.ld0, g4.ld0, e1]
      refine vif_dec (fun a2 => hno (if_neg (by omega)) _ he4) (fun a2 => ?_)
      refine vdraw_ext fun w5 he5 _ => ?_
      have h5 := h4.ext he5
      have g5 := g4.ext he5
      simp (disch := (simp only [push_cast]; done)) only [push_cast, h5.ld0, h5.ld1, g5.ld0, g5.ld1, true_and, e1]
      refine l1Two_nat (by omega) ?_
      have hlp := pow4 l1 l4
      have hcat : M.catM (l : Int) (a : Int) (b : Int) = (a : Int) * ((2 ^ l : Nat) : Int) + b := by simp [M.catM]
      have hm := mul225 ha16 (show 2 ^ l - 1 < 16 by omega)
      have hm2 : a * 2 ^ l = a * (2 ^ l - 1) + a := by rw [← Nat.mul_succ]; congr 1; omega
      obtain ⟨q, hq⟩ : ∃ q, q = 2 ^ l := ⟨_, rfl⟩
      rw [← hq] at hcat hm hm2 hlp ⊢
      have hz : (a : Int) * (q : Int) = ((a * q : Nat) : Int) := by simp
      have e2 : IntKind.i64.wrap ((a : Int) * (q : Int)) = (a : Int) * (q : Int) := wrap64 (by omega) (by omega)
      have e3 : IntKind.i64.wrap ((a : Int) * (q : Int) + (b : Int)) = (a : Int) * (q : Int) + b := wrap64 (by omega) (by omega)
      simp (disch := (simp only [push_cast]; done)) only [push_cast, h5.ld0, h5.ld1, g5.ld0, g5.ld1, true_and, e1, e2, e3, and_self]
      refine stVec (r4.ext he5) fun w8 hw8 _ r8 => ?_
      rw [r8.lv (by kernel_rfl)]
      have := hK w8 (hnew _ _ (he4.trans he5) hw8)
      rw [if_pos (by omega), hcat] at this
      exact this
    · rw [if_neg a1] at hK hno
      simp (disch := (simp only [push_cast]; done)) only [push_cast, h4.ldAgg (t := T_impl_Vec) g_impl_Vec, g4.ldAgg (t := T_impl_Vec) g_impl_Vec]
      refine l1Bin_spec k1 k4 ha l4 hb (fun w5 r he5 c3 c13 hr => ?_) fun w5 he5 hn => ?_
      · have h5 := h4.ext he5
        have g5 := g4.ext he5
        simp (disch := (simp only [push_cast]; done)) only [push_cast, h5.ld0, g5.ld0, Bool.not_true]
        refine vif_dec (fun a2 => hno (if_neg (by omega)) _ (he4.trans he5)) (fun a2 => ?_)
        have hkl : k = l := by omega
        subst hkl
        try simp (disch := (simp only [push_cast]; done)) only [push_cast, h5.ld0]
        refine stVec (r4.ext he5) fun w8 hw8 _ r8 => ?_
        rw [r8.lv (by kernel_rfl)]
        have := hK w8 (hnew _ _ (he4.trans he5) hw8)
        rw [if_pos ⟨c3, c13, rfl⟩] at this
        rw [hr rfl]
        exact this
      · simp only [push_cast, Bool.not_false]
        exact hno (if_neg (fun h => hn ⟨h.1, h.2.1⟩)) _ (he4.trans he5)
theorem spec_VecCmp_spec {op wd n v m : Int} (hK : ∀ w', Ext w w' → K (.tuple #[.bool (M.vecCmp op wd n v m).1, .bool (M.vecCmp op wd n v m).2]) w') : vcall PP n_spec_VecCmp #[.int .i64 op, VecV wd n, VecV v m] w K := by
  apply c_spec_VecCmp; unfold F_spec_VecCmp
  refine vbox_agg fun b1 w1 hb1 he1 hs1 h1 => ?_
  refine vbox_agg fun b2 w2 hb2 he2 hs2 g2 => ?_
  have hE := he1.trans he2
  have h3 := h1.ext he2
  have hno : (M.vecCmp op wd n v m) = (false, false) → ∀ w4, Ext w2 w4 → K (.tuple #[.bool false, .bool false]) w4 := by
    intro e w4 he4
    have := hK w4 (hE.trans he4)
    rwa [e] at this
  refine vjoin_of (fun u w4 => u = [] ∧ Ext w2 w4 ∧ M.vok wd n = true ∧ M.vok v m = true ∧ wd = v) (fun C hC => ?_) ?_
  · simp (disch := (simp only [push_cast]; done)) only [push_cast, h3.ldAgg (t := T_impl_Vec) g_impl_Vec]
    refine spec_VecOk_spec fun w4 he4 => ?_
    have g4 := g2.ext he4
    simp only [push_cast]
    refine vif_bool (fun hv => hno ?_ _ he4) (fun hv => ?_)
    · unfold M.vecCmp; rw [if_neg (by simp at hv; simp [hv])]
    · simp (disch := (simp only [push_cast]; done)) only [push_cast, g4.ldAgg (t := T_impl_Vec) g_impl_Vec]
      refine spec_VecOk_spec fun w5 he5 => ?_
      have g5 := g4.ext he5
      have h5 := (h3.ext he4).ext he5
      simp only [push_cast]
      refine vif_bool (fun hv2 => hno ?_ _ (he4.trans he5)) (fun hv2 => ?_)
      · unfold M.vecCmp; rw [if_neg (by simp at hv2; simp [hv2])]
      · simp (disch := (simp only [push_cast]; done)) only [push_cast, h5.ld0, g5.ld0]
        refine vif_dec (fun a1 => hno ?_ _ (he4.trans he5)) (fun a1 => ?_)
        · unfold M.vecCmp; rw [if_neg (fun h => a1 h.2.2.1)]
        · exact hC _ _ ⟨rfl, he4.trans he5, by simpa using hv, by simpa using hv2, by omega⟩
  · rintro u g w4 ⟨rfl, he4, hv1, hv2, rfl⟩
    have h4 := h3.ext he4
    have g4 := g2.ext he4
    unfold M.vecCmp at hK hno
    simp only [push_cast]
    refine vif_dec (fun a1 => ?_) (fun a1 => ?_)
    · subst a1
      simp (disch := (simp only [push_cast]; done)) only [push_cast, h4.ld1, g4.ld1]
      have := hK w4 (hE.trans he4)
      rw [if_pos ⟨hv1, hv2, rfl, by omega, by omega⟩] at this
      exact this
    refine vif_dec (fun a2 => ?_) (fun a2 => ?_)
    · subst a2
      simp (disch := (simp only [push_cast]; done)) only [push_cast, h4.ld1, g4.ld1]
      have := hK w4 (hE.trans he4)
      rw [if_pos ⟨hv1, hv2, rfl, by omega, by omega⟩] at this
      exact this
    refine vif_dec (fun a3 => ?_) (fun a3 => ?_)
    · subst a3
      obtain ⟨k, a, rfl, rfl, k1, k4, ha⟩ := M.vok_nat hv1
      obtain ⟨l, b, hl, rfl, l1, l4, hb⟩ := M.vok_nat hv2
      have hlk : l = k := by omega
      subst hlk
      refine vdraw_ext fun w5 he5 _ => ?_
      have h5 := h4.ext he5
      have g5 := g4.ext he5
      simp (disch := (simp only [push_cast]; done)) only [push_cast, h5.ldAgg (t := T_impl_Vec) g_impl_Vec, g5.ldAgg (t := T_impl_Vec) g_impl_Vec, true_and]
      refine l1Signed_spec k1 k4 ha fun w6 he6 => ?_
      have g6 := g5.ext he6
      simp (disch := (simp only [push_cast]; done)) only [push_cast, g6.ldAgg (t := T_impl_Vec) g_impl_Vec, true_and, and_self]
      refine l1Signed_spec k1 k4 hb fun w7 he7 => ?_
      simp only [push_cast, true_and]
      have := hK w7 (((hE.trans he4).trans he5).trans (he6.trans he7))
      rw [if_pos ⟨hv1, hv2, rfl, by omega, by omega⟩] at this
      exact this
    · exact hno (by rw [if_neg (fun h => by omega)]) _ he4
theorem spec_VecCut_spec {wd n hi lo : Int} (hK : ∀ w', Ext w w' → K (.tuple #[VecV (M.vecCut wd n hi lo).1.1 (M.vecCut wd n hi lo).1.2, .bool (M.vecCut wd n hi lo).2]) w') : vcall PP n_spec_VecCut #[VecV wd n, .int .i64 hi, .int .i64 lo] w K := by
  apply c_spec_VecCut; unfold F_spec_VecCut
  refine vbox_agg fun b1 w1 hb1 he1 hs1 h1 => ?_
  refine valloc_agg zr_impl_Vec fun b3 w3 hb3 he3 hs3 r3 => ?_
  have hE := he1.trans he3
  have hz1 := he1.size
  have h3 := h1.ext he3
  have hnew : ∀ w4 w5, Ext w3 w4 → Same (· = b3) w4 w5 → Ext w w5 := fun w4 w5 h h' => Ext.then (hE.trans h) h' fun y hy => by subst hy; omega
  have hno : (M.vecCut wd n hi lo) = ((0, 0), false) → ∀ w4, Ext w3 w4 → vstore PP T_impl_Vec (.pointer (some ⟨b3, 0, none⟩)) (VecV 0 0) w4 fun _ w5 => vlv PP T_impl_Vec (.pointer (some ⟨b3, 0, none⟩)) w5 fun r w6 => K (.tuple #[r, .bool false]) w6 := by
    intro e w4 he4
    refine stVec (r3.ext he4) fun w5 hw5 _ r5 => ?_
    rw [r5.lv (by kernel_rfl)]
    have := hK w5 (hnew _ _ he4 hw5)
    rwa [e] at this
  unfold M.vecCut at hK hno
  refine vjoin_of (fun u w4 => u = [] ∧ Ext w3 w4 ∧ M.vok wd n = true ∧ 0 ≤ lo ∧ lo ≤ hi ∧ hi < wd) (fun C hC => ?_) ?_
  · simp (disch := (simp only [push_cast]; done)) only [push_cast, h3.ldAgg (t := T_impl_Vec) g_impl_Vec]
    refine spec_VecOk_spec fun w4 he4 => ?_
    have h4 := h3.ext he4
    simp only [push_cast]
    refine vif_bool (fun hv => hno ?_ _ he4) (fun hv => ?_)
    · rw [if_neg (by simp at hv; simp [hv])]
    refine vif_dec (fun a1 => hno (if_neg (by omega)) _ he4) (fun a1 => ?_)
    refine vif_dec (fun a2 => hno (if_neg (by omega)) _ he4) (fun a2 => ?_)
    simp (disch := (simp only [push_cast]; done)) only [push_cast, h4.ld0]
    refine vif_dec (fun a3 => hno (if_neg (by omega)) _ he4) (fun a3 => ?_)
    exact hC _ _ ⟨rfl, he4, by simpa using hv, by omega, by omega, by omega⟩
  · rintro u g w4 ⟨rfl, he4, hv, c1, c2, c3⟩
    have h4 := h3.ext he4
    have r4 := r3.ext he4
    obtain ⟨k, a, rfl, rfl, k1, k4, ha⟩ := M.vok_nat hv
    obtain ⟨l, rfl⟩ : ∃ l : Nat, lo = l := ⟨lo.toNat, by omega⟩
    obtain ⟨t, ht⟩ : ∃ t : Nat, hi - (l : Int) + 1 = t := ⟨(hi - l + 1).toNat, by omega⟩
    have ha16 := pow16 k4 ha
    have e1 : IntKind.i64.wrap (IntKind.i64.wrap (hi - (l : Int)) + 1) = (t : Int) := by rw [wrap64 (x := hi - l) (by omega) (by omega), wrap64 (by omega) (by omega)]; omega
    simp only [push_cast, e1]
    refine vdraw_ext fun w5 he5 _ => ?_
    have h5 := h4.ext he5
    simp (disch := (simp only [push_cast]; done)) only [push_cast, h5.ld1, true_and]
    refine l1Two_nat (by omega) ?_
    have hres : M.cutM (a : Int) hi (l : Int) = ((a / 2 ^ l % 2 ^ t : Nat) : Int) := by
      unfold M.cutM
      rw [ht]
      simp
    rw [if_pos ⟨hv, c1, c2, c3⟩] at hK
    simp only [hres, ht] at hK
    have hq0 : 0 < 2 ^ l := Nat.pow_pos (by omega)
    have hq1 : 0 < 2 ^ t := Nat.pow_pos (by omega)
    obtain ⟨q, hq⟩ : ∃ q, q = 2 ^ l := ⟨_, rfl⟩
    rw [← hq] at hq0 hK ⊢
    have hd := Nat.div_le_self a q
    have eQ : ∀ (w : World) (K : Value → World → Prop), vbin PP .quo T_int false (.int .i64 (a : Int)) (.int .i64 (q : Int)) w K = K (.int .i64 ((a / q : Nat) : Int)) w := fun w K => by
      rw [vbin_quo (by omega), show (a : Int).tdiv (q : Int) = ((a / q : Nat) : Int) from rfl, wrapN (by omega)]
    obtain ⟨d, hd0⟩ : ∃ d, d = a / q := ⟨_, rfl⟩
    rw [← hd0] at eQ hd hK
    simp (disch := (simp only [push_cast]; done)) only [push_cast, h5.ld1, true_and, and_self, eQ]
    refine l1Two_nat (by omega) ?_
    obtain ⟨q2, hq2⟩ : ∃ q2, q2 = 2 ^ t := ⟨_, rfl⟩
    rw [← hq2] at hq1 hK ⊢
    have eR : ∀ (w : World) (K : Value → World → Prop), vbin PP .rem T_int false (.int .i64 (d : Int)) (.int .i64 (q2 : Int)) w K = K (.int .i64 ((d % q2 : Nat) : Int)) w := fun w K => by
      rw [vbin_rem (by omega), show (d : Int).tmod (q2 : Int) = ((d % q2 : Nat) : Int) from rfl]
    obtain ⟨z, hz⟩ : ∃ z, z = d % q2 := ⟨_, rfl⟩
    rw [← hz] at hK eR
    simp (disch := (simp only [push_cast]; done)) only [push_cast, h5.ld1, true_and, and_self, eQ, eR]
    refine stVec (r4.ext he5) fun w6 hw6 _ r6 => ?_
    rw [r6.lv (by kernel_rfl)]
    exact hK w6 (hnew _ _ (he4.trans he5) hw6)
end Go.Proofs.YtcfgmgjofmbfhaaGreatDoor
end
section
namespace Go.Proofs.YtcfgmgjofmbfhaaGreatDoor
open Go Go.Vc Go.Proofs
variable {w : World} {K : Value → World → Prop} {F G : Nat → Prop}
theorem unKind_value_spec {s : ByteArray} {n : Int} {ev tv kv : Value} {t : M.Tm} {xs : List (Int × Int)} (ht : TermR F w tv t) (hx : PairsR G w kv xs) (hl : xs.length = 1)
    (hK : ∀ w', Ext w w' → K (.int .i64 (M.vecUn t.op (xs.getD 0 (0, 0)).1 (xs.getD 0 (0, 0)).2).1.2) w') : vcall PP n_impl_unKind_value #[KV s n, ev, tv, kv] w K := by
  apply c_impl_unKind_value; unfold F_impl_unKind_value
  obtain ⟨ksv, rfl, hks⟩ := ht
  refine vbox_agg fun b1 w1 hb1 he1 hs1 h1 => ?_
  refine vbox_agg fun b2 w2 hb2 he2 hs2 h2 => ?_
  have hE := he1.trans he2
  have hz := hE.size
  refine vjoin_of (fun u w' => ∃ b wd, u = [.pointer (some ⟨b, 0, none⟩)] ∧ Ext w w' ∧ Blk w' b [.int .i64 wd, .int .i64 (M.vecUn t.op (xs.getD 0 (0, 0)).1 (xs.getD 0 (0, 0)).2).1.2] T_impl_Vec) (fun C hC => ?_) ?_
  · refine vdraw_ext fun w3 he3 _ => ?_
    have hE3 := hE.trans he3
    have hx3 := hx.ext hE3
    have h3 := h2.ext he3
    have hz3 := hE3.size
    simp (disch := first | (simp only [push_cast]; done) | omega) only [push_cast, h3.ld0, hx3.iaddr, hx3.load, true_and, and_true]
    refine ⟨?_, ?_⟩
    · refine VecUn_spec fun w4 he4 => ?_
      have hz4 := he4.size
      simp only [push_cast, true_and]
      refine valloc_agg zr_impl_Vec fun b5 w5 hb5 he5 hs5 h5 => ?_
      try simp only [push_cast, true_and, and_self]
      refine stVec h5 fun w6 hw6 _ h6 => ?_
      try simp only [push_cast, true_and, and_self]
      exact hC _ _ ⟨_, _, rfl, Ext.then ((hE3.trans he4).trans he5) hw6 fun y hy => by subst hy; omega, h6⟩
    · refine valloc_agg zr_impl_Vec fun b5 w5 hb5 he5 hs5 h5 => ?_
      have h4 := h3.ext he5
      have hx4 := hx3.ext he5
      simp (disch := first | (simp only [push_cast]; done) | omega) only [push_cast, h4.ld0, hx4.iaddr, hx4.load, true_and, and_self, and_true]
      refine VecUn_spec fun w6 he6 => ?_
      simp only [push_cast, true_and]
      refine stVec (h5.ext he6) fun w7 hw7 _ h7 => ?_
      try simp only [push_cast, true_and, and_self]
      exact hC _ _ ⟨_, _, rfl, Ext.then ((hE3.trans he5).trans he6) hw7 fun y hy => by subst hy; omega, h7⟩
  · rintro u g w3 ⟨b, wd, rfl, he3, h3⟩
    simp (disch := (simp only [push_cast]; done)) only [push_cast, h3.ld1]
    exact hK _ he3
theorem binKind_value_spec {s : ByteArray} {n : Int} {ev tv kv : Value} {t : M.Tm} {xs : List (Int × Int)} (ht : TermR F w tv t) (hx : PairsR G w kv xs) (hl : xs.length = 2)
    (hK : ∀ w', Ext w w' → K (.int .i64 (M.vecBin t.op (xs.getD 0 (0, 0)).1 (xs.getD 0 (0, 0)).2 (xs.getD 1 (0, 0)).1 (xs.getD 1 (0, 0)).2).1.2) w') : vcall PP n_impl_binKind_value #[KV s n, ev, tv, kv] w K := by
  apply c_impl_binKind_value; unfold F_impl_binKind_value
  obtain ⟨ksv, rfl, hks⟩ := ht
  refine vbox_agg fun b1 w1 hb1 he1 hs1 h1 => ?_
  refine vbox_agg fun b2 w2 hb2 he2 hs2 h2 => ?_
  have hE := he1.trans he2
  have hz := hE.size
  refine vjoin_of (fun u w' => ∃ b wd, u = [.pointer (some ⟨b, 0, none⟩)] ∧ Ext w w' ∧ Blk w' b [.int .i64 wd, .int .i64 (M.vecBin t.op (xs.getD 0 (0, 0)).1 (xs.getD 0 (0, 0)).2 (xs.getD 1 (0, 0)).1 (xs.getD 1 (0, 0)).2).1.2] T_impl_Vec) (fun C hC => ?_) ?_
  · refine vdraw_ext fun w3 he3 _ => ?_
    have hE3 := hE.trans he3
    have hx3 := hx.ext hE3
    have h3 := h2.ext he3
    have hz3 := hE3.size
    simp (disch := first | (simp only [push_cast]; done) | omega) only [push_cast, h3.ld0, hx3.iaddr, hx3.load, true_and, and_true]
    refine ⟨?_, ?_⟩
    · refine VecBin_spec fun w4 he4 => ?_
      have hz4 := he4.size
      simp only [push_cast, true_and]
      refine valloc_agg zr_impl_Vec fun b5 w5 hb5 he5 hs5 h5 => ?_
      try simp only [push_cast, true_and, and_self]
      refine stVec h5 fun w6 hw6 _ h6 => ?_
      try simp only [push_cast, true_and, and_self]
      exact hC _ _ ⟨_, _, rfl, Ext.then ((hE3.trans he4).trans he5) hw6 fun y hy => by subst hy; omega, h6⟩
    · refine valloc_agg zr_impl_Vec fun b5 w5 hb5 he5 hs5 h5 => ?_
      have h4 := h3.ext he5
      have hx4 := hx3.ext he5
      simp (disch := first | (simp only [push_cast]; done) | omega) only [push_cast, h4.ld0, hx4.iaddr, hx4.load, true_and, and_self, and_true]
      refine VecBin_spec fun w6 he6 => ?_
      simp only [push_cast, true_and]
      refine stVec (h5.ext he6) fun w7 hw7 _ h7 => ?_
      try simp only [push_cast, true_and, and_self]
      exact hC _ _ ⟨_, _, rfl, Ext.then ((hE3.trans he5).trans he6) hw7 fun y hy => by subst hy; omega, h7⟩
  · rintro u g w3 ⟨b, wd, rfl, he3, h3⟩
    simp (disch := (simp only [push_cast]; done)) only [push_cast, h3.ld1]
    exact hK _ he3
theorem catKind_value_spec {s : ByteArray} {n : Int} {ev tv kv : Value} {t : M.Tm} {xs : List (Int × Int)} (ht : TermR F w tv t) (hx : PairsR G w kv xs) (hl : xs.length = 2)
    (hK : ∀ w', Ext w w' → K (.int .i64 (M.vecBin t.op (xs.getD 0 (0, 0)).1 (xs.getD 0 (0, 0)).2 (xs.getD 1 (0, 0)).1 (xs.getD 1 (0, 0)).2).1.2) w') : vcall PP n_impl_catKind_value #[KV s n, ev, tv, kv] w K := by
  apply c_impl_catKind_value; unfold F_impl_catKind_value
  obtain ⟨ksv, rfl, hks⟩ := ht
  refine vbox_agg fun b1 w1 hb1 he1 hs1 h1 => ?_
  refine vbox_agg fun b2 w2 hb2 he2 hs2 h2 => ?_
  have hE := he1.trans he2
  have hz := hE.size
  refine vjoin_of (fun u w' => ∃ b wd, u = [.pointer (some ⟨b, 0, none⟩)] ∧ Ext w w' ∧ Blk w' b [.int .i64 wd, .int .i64 (M.vecBin t.op (xs.getD 0 (0, 0)).1 (xs.getD 0 (0, 0)).2 (xs.getD 1 (0, 0)).1 (xs.getD 1 (0, 0)).2).1.2] T_impl_Vec) (fun C hC => ?_) ?_
  · refine vdraw_ext fun w3 he3 _ => ?_
    have hE3 := hE.trans he3
    have hx3 := hx.ext hE3
    have h3 := h2.ext he3
    have hz3 := hE3.size
    simp (disch := first | (simp only [push_cast]; done) | omega) only [push_cast, h3.ld0, hx3.iaddr, hx3.load, true_and, and_true]
    refine ⟨?_, ?_⟩
    · refine VecBin_spec fun w4 he4 => ?_
      have hz4 := he4.size
      simp only [push_cast, true_and]
      refine valloc_agg zr_impl_Vec fun b5 w5 hb5 he5 hs5 h5 => ?_
      try simp only [push_cast, true_and, and_self]
      refine stVec h5 fun w6 hw6 _ h6 => ?_
      try simp only [push_cast, true_and, and_self]
      exact hC _ _ ⟨_, _, rfl, Ext.then ((hE3.trans he4).trans he5) hw6 fun y hy => by subst hy; omega, h6⟩
    · refine valloc_agg zr_impl_Vec fun b5 w5 hb5 he5 hs5 h5 => ?_
      have h4 := h3.ext he5
      have hx4 := hx3.ext he5
      simp (disch := first | (simp only [push_cast]; done) | omega) only [push_cast, h4.ld0, hx4.iaddr, hx4.load, true_and, and_self, and_true]
      refine VecBin_spec fun w6 he6 => ?_
      simp only [push_cast, true_and]
      refine stVec (h5.ext he6) fun w7 hw7 _ h7 => ?_
      try simp only [push_cast, true_and, and_self]
      exact hC _ _ ⟨_, _, rfl, Ext.then ((hE3.trans he5).trans he6) hw7 fun y hy => by subst hy; omega, h7⟩
  · rintro u g w3 ⟨b, wd, rfl, he3, h3⟩
    simp (disch := (simp only [push_cast]; done)) only [push_cast, h3.ld1]
    exact hK _ he3
theorem cutKind_value_spec {s : ByteArray} {n : Int} {ev tv kv : Value} {t : M.Tm} {xs : List (Int × Int)} (ht : TermR F w tv t) (hx : PairsR G w kv xs) (hl : xs.length = 1)
    (hK : ∀ w', Ext w w' → K (.int .i64 (M.vecCut (xs.getD 0 (0, 0)).1 (xs.getD 0 (0, 0)).2 t.a t.b).1.2) w') : vcall PP n_impl_cutKind_value #[KV s n, ev, tv, kv] w K := by
  apply c_impl_cutKind_value; unfold F_impl_cutKind_value
  obtain ⟨ksv, rfl, hks⟩ := ht
  refine vbox_agg fun b1 w1 hb1 he1 hs1 h1 => ?_
  refine vbox_agg fun b2 w2 hb2 he2 hs2 h2 => ?_
  have hE := he1.trans he2
  have hz := hE.size
  refine vjoin_of (fun u w' => ∃ b wd, u = [.pointer (some ⟨b, 0, none⟩)] ∧ Ext w w' ∧ Blk w' b [.int .i64 wd, .int .i64 (M.vecCut (xs.getD 0 (0, 0)).1 (xs.getD 0 (0, 0)).2 t.a t.b).1.2] T_impl_Vec) (fun C hC => ?_) ?_
  · refine vdraw_ext fun w3 he3 _ => ?_
    have hE3 := hE.trans he3
    have hx3 := hx.ext hE3
    have h3 := h2.ext he3
    have hz3 := hE3.size
    simp (disch := first | (simp only [push_cast]; done) | omega) only [push_cast, h3.ld1, h3.ld2, hx3.iaddr, hx3.load, true_and, and_true]
    refine ⟨?_, ?_⟩
    · refine VecCut_spec fun w4 he4 => ?_
      have hz4 := he4.size
      simp only [push_cast, true_and]
      refine valloc_agg zr_impl_Vec fun b5 w5 hb5 he5 hs5 h5 => ?_
      try simp only [push_cast, true_and, and_self]
      refine stVec h5 fun w6 hw6 _ h6 => ?_
      try simp only [push_cast, true_and, and_self]
      exact hC _ _ ⟨_, _, rfl, Ext.then ((hE3.trans he4).trans he5) hw6 fun y hy => by subst hy; omega, h6⟩
    · refine valloc_agg zr_impl_Vec fun b5 w5 hb5 he5 hs5 h5 => ?_
      have h4 := h3.ext he5
      have hx4 := hx3.ext he5
      simp (disch := first | (simp only [push_cast]; done) | omega) only [push_cast, h4.ld1, h4.ld2, hx4.iaddr, hx4.load, true_and, and_self, and_true]
      refine VecCut_spec fun w6 he6 => ?_
      simp only [push_cast, true_and]
      refine stVec (h5.ext he6) fun w7 hw7 _ h7 => ?_
      try simp only [push_cast, true_and, and_self]
      exact hC _ _ ⟨_, _, rfl, Ext.then ((hE3.trans he5).trans he6) hw7 fun y hy => by subst hy; omega, h7⟩
  · rintro u g w3 ⟨b, wd, rfl, he3, h3⟩
    simp (disch := (simp only [push_cast]; done)) only [push_cast, h3.ld1]
    exact hK _ he3
theorem cmpKind_value_spec {s : ByteArray} {n : Int} {ev tv kv : Value} {t : M.Tm} {xs : List (Int × Int)} (ht : TermR F w tv t) (hx : PairsR G w kv xs) (hl : xs.length = 2)
    (hK : ∀ w', Ext w w' → K (.int .i64 (M.b2i (M.vecCmp t.op (xs.getD 0 (0, 0)).1 (xs.getD 0 (0, 0)).2 (xs.getD 1 (0, 0)).1 (xs.getD 1 (0, 0)).2).1)) w') : vcall PP n_impl_cmpKind_value #[KV s n, ev, tv, kv] w K := by
  apply c_impl_cmpKind_value; unfold F_impl_cmpKind_value
  obtain ⟨ksv, rfl, hks⟩ := ht
  refine vbox_agg fun b1 w1 hb1 he1 hs1 h1 => ?_
  refine vbox_agg fun b2 w2 hb2 he2 hs2 h2 => ?_
  refine vdraw_ext fun w3 he3 _ => ?_
  have hE3 := (he1.trans he2).trans he3
  have hx3 := hx.ext hE3
  have h3 := h2.ext he3
  simp (disch := first | (simp only [push_cast]; done) | omega) only [push_cast, h3.ld0, hx3.iaddr, hx3.load, true_and, and_true]
  refine VecCmp_spec fun w4 he4 => ?_
  simp only [push_cast, true_and]
  exact number_spec (hK _ (hE3.trans he4))
theorem vecKind_value_spec {s : ByteArray} {n : Int} {ev tv kv : Value} {t : M.Tm} (ht : TermR F w tv t)
    (hK : ∀ w', Ext w w' → K (.int .i64 t.b) w') : vcall PP n_impl_vecKind_value #[KV s n, ev, tv, kv] w K := by
  apply c_impl_vecKind_value; unfold F_impl_vecKind_value
  obtain ⟨ksv, rfl, hks⟩ := ht
  refine vbox_agg fun b1 w1 hb1 he1 hs1 h1 => ?_
  refine vbox_agg fun b2 w2 hb2 he2 hs2 h2 => ?_
  simp (disch := (simp only [push_cast]; done)) only [push_cast, h2.ld2]
  exact hK _ (he1.trans he2)
theorem mapStrInt : mapB PP T_M_map_string_int .string T_int := ⟨_, map_M_map_string_int, by kernel_rfl⟩
theorem nameKind_value_spec {s : ByteArray} {n : Int} {tv kv : Value} {t : M.Tm} {mb : Nat} {f : List (Value × Value)} {x : Int} (ht : TermR F w tv t) (hm : MapF .string w mb f) (hin : (Value.string t.s, Value.int .i64 x) ∈ f)
    (hK : ∀ w', Ext w w' → K (.int .i64 x) w') : vcall PP n_impl_nameKind_value #[KV s n, .map (some mb), tv, kv] w K := by
  apply c_impl_nameKind_value; unfold F_impl_nameKind_value
  obtain ⟨ksv, rfl, hks⟩ := ht
  refine vbox_agg fun b1 w1 hb1 he1 hs1 h1 => ?_
  refine vbox_agg fun b2 w2 hb2 he2 hs2 h2 => ?_
  simp (disch := (simp only [push_cast]; done)) only [push_cast, h2.ld3]
  rw [vlook_in mapStrInt (hm.ext (he1.trans he2)) (isKey_str _) hin]
  exact hK _ (he1.trans he2)
theorem ifKind_value_spec {s : ByteArray} {n : Int} {ev tv kv : Value} {t : M.Tm} {xs : List (Int × Int)} (ht : TermR F w tv t) (hx : PairsR G w kv xs) (hl : xs.length = 3)
    (hK : ∀ w', Ext w w' → K (.int .i64 (if (xs.getD 0 (0, 0)).2 = 1 then (xs.getD 1 (0, 0)).2 else (xs.getD 2 (0, 0)).2)) w') : vcall PP n_impl_ifKind_value #[KV s n, ev, tv, kv] w K := by
  apply c_impl_ifKind_value; unfold F_impl_ifKind_value
  obtain ⟨ksv, rfl, hks⟩ := ht
  refine vbox_agg fun b1 w1 hb1 he1 hs1 h1 => ?_
  refine vbox_agg fun b2 w2 hb2 he2 hs2 h2 => ?_
  have hx3 := hx.ext (he1.trans he2)
  have hk := hK _ (he1.trans he2)
  try simp (disch := first | (simp only [push_cast]; done) | omega) only [push_cast, hx3.iaddr]
  try simp (disch := first | (simp only [push_cast]; done) | omega) only [push_cast, hx3.load1]
  refine vif_dec (fun a => ?_) (fun a => ?_)
  · rw [if_pos a] at hk
    try simp (disch := first | (simp only [push_cast]; done) | omega) only [push_cast, hx3.iaddr]
    try simp (disch := first | (simp only [push_cast]; done) | omega) only [push_cast, hx3.load1]
    exact hk
  · rw [if_neg a] at hk
    try simp (disch := first | (simp only [push_cast]; done) | omega) only [push_cast, hx3.iaddr]
    try simp (disch := first | (simp only [push_cast]; done) | omega) only [push_cast, hx3.load1]
    exact hk
def BoolFn (f : Value) (g : List (Int × Int) → Bool) (n : Nat) : Prop := ∀ (w : World) (G : Nat → Prop) (kv : Value) (xs : List (Int × Int)) (K : Value → World → Prop), PairsR G w kv xs → xs.length = n → K (.bool (g xs)) w → vcallv PP f #[kv] w K
theorem boolKind_value_spec {s : ByteArray} {n : Int} {f ev tv kv : Value} {t : M.Tm} {g : List (Int × Int) → Bool} {m : Nat} {xs : List (Int × Int)} (hf : BoolFn f g m) (ht : TermR F w tv t) (hx : PairsR G w kv xs) (hl : xs.length = m)
    (hK : ∀ w', Ext w w' → K (.int .i64 (M.b2i (g xs))) w') : vcall PP n_impl_boolKind_value #[.agg ⟨[.string s, .int .i64 n, f]⟩, ev, tv, kv] w K := by
  apply c_impl_boolKind_value; unfold F_impl_boolKind_value
  obtain ⟨ksv, rfl, hks⟩ := ht
  refine vbox_agg fun b1 w1 hb1 he1 hs1 h1 => ?_
  refine vbox_agg fun b2 w2 hb2 he2 hs2 h2 => ?_
  have h3 := h1.ext he2
  simp (disch := (simp only [push_cast]; done)) only [push_cast, h3.ld2]
  refine hf _ _ _ _ _ (hx.ext (he1.trans he2)) hl ?_
  exact number_spec (hK _ (he1.trans he2))
theorem kinds1_fn : BoolFn (.func (.func n_impl_kinds_1) #[] #[]) (fun _ => true) 0 := by
  intro w G kv xs K hx hl hK
  simp only [push_cast]
  apply c_impl_kinds_1; unfold F_impl_kinds_1
  exact hK
theorem kinds2_fn : BoolFn (.func (.func n_impl_kinds_2) #[] #[]) (fun xs => decide ((xs.getD 0 (0, 0)).2 = 0)) 1 := by
  intro w G kv xs K hx hl hK
  simp only [push_cast]
  apply c_impl_kinds_2; unfold F_impl_kinds_2
  try simp (disch := first | (simp only [push_cast]; done) | omega) only [push_cast, hx.iaddr]
  try simp (disch := first | (simp only [push_cast]; done) | omega) only [push_cast, hx.load1]
  exact hK
theorem kinds3_fn : BoolFn (.func (.func n_impl_kinds_3) #[] #[]) (fun xs => decide ((xs.getD 0 (0, 0)).2 = 1) && decide ((xs.getD 1 (0, 0)).2 = 1)) 2 := by
  intro w G kv xs K hx hl hK
  simp only [push_cast]
  apply c_impl_kinds_3; unfold F_impl_kinds_3
  try simp (disch := first | (simp only [push_cast]; done) | omega) only [push_cast, hx.iaddr]
  try simp (disch := first | (simp only [push_cast]; done) | omega) only [push_cast, hx.load1]
  refine vif_dec (fun a => ?_) (fun a => ?_)
  · try simp (disch := first | (simp only [push_cast]; done) | omega) only [push_cast, hx.iaddr]
    try simp (disch := first | (simp only [push_cast]; done) | omega) only [push_cast, hx.load1]
    simpa only [decide_eq_true a, Bool.true_and] using hK
  · simpa only [decide_eq_false a, Bool.false_and] using hK
theorem kinds4_fn : BoolFn (.func (.func n_impl_kinds_4) #[] #[]) (fun xs => decide ((xs.getD 0 (0, 0)).2 = 1) || decide ((xs.getD 1 (0, 0)).2 = 1)) 2 := by
  intro w G kv xs K hx hl hK
  simp only [push_cast]
  apply c_impl_kinds_4; unfold F_impl_kinds_4
  try simp (disch := first | (simp only [push_cast]; done) | omega) only [push_cast, hx.iaddr]
  try simp (disch := first | (simp only [push_cast]; done) | omega) only [push_cast, hx.load1]
  refine vif_dec (fun a => ?_) (fun a => ?_)
  · simpa only [decide_eq_true a, Bool.true_or] using hK
  · try simp (disch := first | (simp only [push_cast]; done) | omega) only [push_cast, hx.iaddr]
    try simp (disch := first | (simp only [push_cast]; done) | omega) only [push_cast, hx.load1]
    simpa only [decide_eq_false a, Bool.false_or] using hK
end Go.Proofs.YtcfgmgjofmbfhaaGreatDoor
end
