/- Contracts of the reference's bit vectors: what the operations answer. -/
import Derived.Test.YtbiabimalkkeiaaGreatDoorTi
set_option linter.unusedVariables false
set_option linter.unusedSimpArgs false
set_option linter.unnecessarySimpa false
set_option linter.unusedSectionVars false
namespace Go.Proofs.YtbiabimalkkeiaaGreatDoor
open Go Go.Vc Go.Proofs
variable {w : World} {K : Value → World → Prop} {F : Nat → Prop}

theorem nat_ck {p : Nat → Nat → Nat → Bool} (h : ∀ v : Fin 5, (List.range 16).all (fun a => (List.range 16).all fun b => !(decide (1 ≤ v.1) && decide (a < 2 ^ v.1)) || p v.1 a b) = true) {k a b : Nat} (h1 : 1 ≤ k) (h2 : k ≤ 4) (ha : a < 2 ^ k) (hb : b < 16) : p k a b = true := by
  have := h ⟨k, by omega⟩
  simp only [List.all_eq_true, List.mem_range, Bool.or_eq_true, Bool.not_eq_true', Bool.and_eq_false_iff, decide_eq_false_iff_not] at this
  rcases this a (pow16 h2 ha) b hb with (h | h) | h
  · exact absurd h1 h
  · exact absurd ha h
  · exact h
theorem shl_ck {k a b : Nat} (h1 : 1 ≤ k) (h2 : k ≤ 4) (ha : a < 2 ^ k) (hb : b < 16) : a * 2 ^ min b k % 2 ^ k = M.binN 11 k a b :=
  of_decide_eq_true (nat_ck (p := fun k a b => decide (a * 2 ^ min b k % 2 ^ k = M.binN 11 k a b)) (by decide +kernel) h1 h2 ha hb)
theorem shr_ck {k a b : Nat} (h1 : 1 ≤ k) (h2 : k ≤ 4) (ha : a < 2 ^ k) (hb : b < 16) : a / 2 ^ min b k = M.binN 12 k a b :=
  of_decide_eq_true (nat_ck (p := fun k a b => decide (a / 2 ^ min b k = M.binN 12 k a b)) (by decide +kernel) h1 h2 ha hb)
theorem sar_ck {k a b : Nat} (h1 : 1 ≤ k) (h2 : k ≤ 4) (ha : a < 2 ^ k) (hb : b < 16) : (if a / 2 ^ (k - 1) % 2 = 0 then a / 2 ^ min b k else 2 ^ k - 1 - (2 ^ k - 1 - a) / 2 ^ min b k) = M.binN 13 k a b :=
  of_decide_eq_true (nat_ck (p := fun k a b => decide ((if a / 2 ^ (k - 1) % 2 = 0 then a / 2 ^ min b k else 2 ^ k - 1 - (2 ^ k - 1 - a) / 2 ^ min b k) = M.binN 13 k a b)) (by decide +kernel) h1 h2 ha hb)
theorem l1Shift_spec {op k a b : Nat} (h11 : 11 ≤ op) (h13 : op ≤ 13) (k1 : 1 ≤ k) (k4 : k ≤ 4) (ha : a < 2 ^ k) (hb : b < 16) (hK : ∀ w', Ext w w' → K (.int .i64 ((M.binN op k a b : Nat) : Int)) w') : vcall PP n_spec_l1Shift #[.int .i64 (op : Int), VecV k a, .int .i64 (b : Int)] w K := by
  apply c_spec_l1Shift; unfold F_spec_l1Shift
  have hp := pow4 k1 k4
  have ha16 := pow16 k4 ha
  refine vbox_agg fun b1 w1 hb1 he1 hs1 h1 => ?_
  simp (disch := (simp only [push_cast]; done)) only [push_cast, h1.ld0]
  refine l1Min_spec ?_
  obtain ⟨n, hn⟩ : ∃ n, n = min b k := ⟨_, rfl⟩
  have hn4 : n ≤ k := by omega
  rw [show min (b : Int) (k : Int) = (n : Int) by omega]
  have hpn : 1 ≤ 2 ^ n ∧ 2 ^ n ≤ 16 := ⟨Nat.pow_pos (by omega), Nat.le_trans (Nat.pow_le_pow_right (by omega) (show n ≤ 4 by omega)) (by decide)⟩
  try simp only [push_cast]
  refine vif_dec (fun c => ?_) (fun c => ?_)
  · have : op = 11 := by omega
    subst this
    have hck := shl_ck k1 k4 ha hb
    rw [← hn] at hck
    refine vdraw_ext fun w2 he2 _ => ?_
    have h2 := h1.ext he2
    simp (disch := (simp only [push_cast]; done)) only [push_cast, h2.ld0, h2.ld1, true_and]
    refine l1Two_nat (by omega) ?_
    obtain ⟨q, hq⟩ : ∃ q, q = 2 ^ n := ⟨_, rfl⟩
    rw [← hq] at hck hpn ⊢
    have hm := mul225 ha16 (show q - 1 < 16 by omega)
    have hm2 : a * q = a * (q - 1) + a := by rw [← Nat.mul_succ]; congr 1; omega
    obtain ⟨x, hx⟩ : ∃ x, x = a * q := ⟨_, rfl⟩
    have e : IntKind.i64.wrap ((a : Int) * (q : Int)) = (x : Int) := by
      rw [show (a : Int) * (q : Int) = (x : Int) by rw [hx]; simp]; exact wrapN (by omega)
    rw [← hx] at hck
    simp (disch := (simp only [push_cast]; done)) only [push_cast, h2.ld0, h2.ld1, true_and, and_self, e]
    refine l1Mod_spec k1 k4 (by omega) (by omega) ?_
    rw [show (x : Int) % ((2 ^ k : Nat) : Int) = ((x % 2 ^ k : Nat) : Int) from rfl, hck]
    exact hK _ (he1.trans he2)
  refine vif_dec (fun c2 => ?_) (fun c2 => ?_)
  · have : op = 12 := by omega
    subst this
    have hck := shr_ck k1 k4 ha hb
    rw [← hn] at hck
    refine vdraw_ext fun w2 he2 _ => ?_
    have h2 := h1.ext he2
    simp (disch := (simp only [push_cast]; done)) only [push_cast, h2.ld1, true_and]
    refine l1Two_nat (by omega) ?_
    obtain ⟨q, hq⟩ : ∃ q, q = 2 ^ n := ⟨_, rfl⟩
    rw [← hq] at hck hpn ⊢
    have hd := Nat.div_le_self a q
    simp (disch := (simp only [push_cast]; done)) only [push_cast, h2.ld1, true_and, and_self]
    rw [vbin_quo (by omega), show (a : Int).tdiv (q : Int) = ((a / q : Nat) : Int) from rfl, wrapN (by omega), hck]
    exact ⟨rfl, hK _ (he1.trans he2)⟩
  · have : op = 13 := by omega
    subst this
    have hck := sar_ck k1 k4 ha hb
    rw [← hn] at hck
    have e1 : IntKind.i64.wrap ((k : Int) - 1) = ((k - 1 : Nat) : Int) := by rw [wrap64 (by omega) (by omega)]; omega
    simp (disch := (simp only [push_cast]; done)) only [push_cast, h1.ld0, h1.ld1, e1]
    refine l1Bit_spec (by omega) (by omega) ?_
    obtain ⟨z, hz⟩ : ∃ z, z = a / 2 ^ (k - 1) % 2 := ⟨_, rfl⟩
    rw [← hz] at hck ⊢
    simp only [push_cast]
    refine vif_dec (fun c3 => ?_) (fun c3 => ?_)
    · rw [if_pos (by omega)] at hck
      refine vdraw_ext fun w2 he2 _ => ?_
      have h2 := h1.ext he2
      simp (disch := (simp only [push_cast]; done)) only [push_cast, h2.ld1, true_and]
      refine l1Two_nat (by omega) ?_
      obtain ⟨q, hq⟩ : ∃ q, q = 2 ^ n := ⟨_, rfl⟩
      rw [← hq] at hck hpn ⊢
      have hd := Nat.div_le_self a q
      simp (disch := (simp only [push_cast]; done)) only [push_cast, h2.ld1, true_and, and_self]
      rw [vbin_quo (by omega), show (a : Int).tdiv (q : Int) = ((a / q : Nat) : Int) from rfl, wrapN (by omega), hck]
      exact ⟨rfl, hK _ (he1.trans he2)⟩
    · rw [if_neg (by omega)] at hck
      simp (disch := (simp only [push_cast]; done)) only [push_cast, h1.ld0]
      refine l1Two_nat (by omega) ?_
      obtain ⟨m, hm⟩ : ∃ m, m = 2 ^ k := ⟨_, rfl⟩
      rw [← hm] at hck hp ha ⊢
      have e2 : IntKind.i64.wrap ((m : Int) - 1) = ((m - 1 : Nat) : Int) := by rw [wrap64 (by omega) (by omega)]; omega
      have e3 : IntKind.i64.wrap (((m - 1 : Nat) : Int) - (a : Int)) = ((m - 1 - a : Nat) : Int) := by rw [wrap64 (by omega) (by omega)]; omega
      obtain ⟨m1, hm1⟩ : ∃ m1, m1 = m - 1 := ⟨_, rfl⟩
      rw [← hm1] at e2 e3 hck
      obtain ⟨m2, hm2⟩ : ∃ m2, m2 = m1 - a := ⟨_, rfl⟩
      rw [← hm2] at e3 hck
      simp only [push_cast, e2]
      refine vdraw_ext fun w2 he2 _ => ?_
      have h2 := h1.ext he2
      simp (disch := (simp only [push_cast]; done)) only [push_cast, h2.ld1, true_and, e3]
      refine l1Two_nat (by omega) ?_
      obtain ⟨q, hq⟩ : ∃ q, q = 2 ^ n := ⟨_, rfl⟩
      rw [← hq] at hck hpn ⊢
      have hd := Nat.div_le_self m2 q
      simp (disch := (simp only [push_cast]; done)) only [push_cast, h2.ld1, true_and, and_self, e3]
      rw [vbin_quo (by omega), show (m2 : Int).tdiv (q : Int) = ((m2 / q : Nat) : Int) from rfl, wrapN (by omega)]
      refine ⟨rfl, ?_⟩
      obtain ⟨d, hd0⟩ : ∃ d, d = m2 / q := ⟨_, rfl⟩
      rw [← hd0] at hck hd ⊢
      simp only [push_cast]
      rw [wrap64 (by omega) (by omega), show (m1 : Int) - (d : Int) = ((m1 - d : Nat) : Int) by omega, hck]
      exact ⟨trivial, hK _ (he1.trans he2)⟩
theorem mod_ck {k a b : Nat} : M.binN 6 k a b = (a + b) % 2 ^ k ∧ M.binN 8 k a b = a * b % 2 ^ k := ⟨rfl, rfl⟩
theorem bin4 {op k a b : Nat} (h3 : 3 ≤ op) (h5 : op ≤ 5) : M.binN op 4 a b = M.binN op k a b := by
  unfold M.binN
  by_cases h : op = 3
  · rw [if_pos h, if_pos h]
  by_cases h' : op = 4
  · rw [if_neg h, if_neg h, if_pos h', if_pos h']
  · rw [if_neg h, if_neg h, if_neg h', if_neg h', if_pos (by omega), if_pos (by omega)]
theorem l1Bin_spec {k a l b : Nat} {op : Int} (k1 : 1 ≤ k) (k4 : k ≤ 4) (ha : a < 2 ^ k) (l4 : l ≤ 4) (hb : b < 2 ^ l) (hK : ∀ w' (r : Int), Ext w w' → 3 ≤ op → op ≤ 13 → (k = l → r = ((M.binN op.toNat k a b : Nat) : Int)) → K (.tuple #[.int .i64 r, .bool true]) w')
    (hno : ∀ w', Ext w w' → ¬ (3 ≤ op ∧ op ≤ 13) → K (.tuple #[.int .i64 0, .bool false]) w') : vcall PP n_spec_l1Bin #[.int .i64 op, VecV k a, VecV l b] w K := by
  apply c_spec_l1Bin; unfold F_spec_l1Bin
  have hp := pow4 k1 k4
  have ha16 := pow16 k4 ha
  have hb16 := pow16 l4 hb
  refine vbox_agg fun b1 w1 hb1 he1 hs1 h1 => ?_
  refine vbox_agg fun b2 w2 hb2 he2 hs2 g2 => ?_
  have h2 := h1.ext he2
  have hE := he1.trans he2
  refine vjoin_of (fun u w' => u = [.bool (decide (3 ≤ op ∧ op ≤ 5))] ∧ w' = w2) (fun C hC => ?_) ?_
  · simp only [push_cast]
    refine vif_dec (fun c => ?_) (fun c => ?_)
    · exact hC _ _ ⟨by rw [decide_eq_true (show 3 ≤ op ∧ op ≤ 5 by omega), decide_eq_true c], rfl⟩
    refine vif_dec (fun c2 => ?_) (fun c2 => ?_)
    · exact hC _ _ ⟨by rw [decide_eq_true (show 3 ≤ op ∧ op ≤ 5 by omega), decide_eq_true c2], rfl⟩
    · refine hC _ _ ⟨?_, rfl⟩
      by_cases c3 : op = 5
      · rw [decide_eq_true (show 3 ≤ op ∧ op ≤ 5 by omega), decide_eq_true c3]
      · rw [decide_eq_false (show ¬ (3 ≤ op ∧ op ≤ 5) by omega), decide_eq_false c3]
  · rintro u g w3 ⟨rfl, rfl⟩
    simp only [push_cast]
    refine vif_dec (fun c => ?_) (fun c => ?_)
    · simp (disch := (simp only [push_cast]; done)) only [push_cast, h2.ld1, g2.ld1]
      obtain ⟨o, rfl⟩ : ∃ o : Nat, op = o := ⟨op.toNat, by omega⟩
      refine l1Bits_spec (by omega) (by omega) ha16 hb16 ?_
      refine hK _ _ hE (by omega) (by omega) fun e => ?_
      rw [Int.toNat_natCast, bin4 (k := k) (by omega) (by omega)]
    refine vif_dec (fun c6 => ?_) (fun c6 => ?_)
    · subst c6
      simp (disch := (simp only [push_cast]; done)) only [push_cast, h2.ld0, h2.ld1, g2.ld1]
      rw [wrap64 (x := (a : Int) + b) (by omega) (by omega)]
      refine l1Mod_spec k1 k4 (by omega) (by omega) ?_
      refine hK _ _ hE (by omega) (by omega) fun e => ?_
      show _ = (((a + b) % 2 ^ k : Nat) : Int)
      rw [show (a : Int) + (b : Int) = ((a + b : Nat) : Int) by omega]; rfl
    refine vif_dec (fun c7 => ?_) (fun c7 => ?_)
    · subst c7
      simp (disch := (simp only [push_cast]; done)) only [push_cast, h2.ld0, h2.ld1, g2.ld1]
      rw [wrap64 (x := (a : Int) - b) (by omega) (by omega)]
      refine l1Mod_spec k1 k4 (by omega) (by omega) ?_
      refine hK _ _ hE (by omega) (by omega) fun e => ?_
      subst e
      show _ = (((a + 2 ^ k - b) % 2 ^ k : Nat) : Int)
      rcases (by omega : k = 1 ∨ k = 2 ∨ k = 3 ∨ k = 4) with rfl | rfl | rfl | rfl <;> simp at hb ⊢ <;> omega
    refine vif_dec (fun c8 => ?_) (fun c8 => ?_)
    · subst c8
      have hm := mul225 ha16 hb16
      simp (disch := (simp only [push_cast]; done)) only [push_cast, h2.ld0, h2.ld1, g2.ld1]
      rw [show (a : Int) * (b : Int) = ((a * b : Nat) : Int) by simp, wrapN (by omega)]
      refine l1Mod_spec k1 k4 (by omega) (by omega) ?_
      exact hK _ _ hE (by omega) (by omega) fun e => rfl
    refine vif_dec (fun c9 => ?_) (fun c9 => ?_)
    · subst c9
      simp (disch := (simp only [push_cast]; done)) only [push_cast, g2.ld1]
      refine vif_dec (fun d => ?_) (fun d => ?_)
      · have hb0 : b = 0 := by omega
        subst hb0
        simp (disch := (simp only [push_cast]; done)) only [push_cast, h2.ld0]
        refine l1Two_nat (by omega) ?_
        obtain ⟨m, hm⟩ : ∃ m, m = 2 ^ k := ⟨_, rfl⟩
        rw [← hm] at hp ⊢
        simp only [push_cast]
        rw [wrap64 (by omega) (by omega)]
        refine hK _ _ hE (by omega) (by omega) fun e => ?_
        have : M.binN (9 : Int).toNat k a 0 = 2 ^ k - 1 := by simp [M.binN]
        rw [this, ← hm]; omega
      · simp (disch := (simp only [push_cast]; done)) only [push_cast, h2.ld1, g2.ld1]
        have hd := Nat.div_le_self a b
        rw [vbin_quo (by omega), show (a : Int).tdiv (b : Int) = ((a / b : Nat) : Int) from rfl, wrapN (by omega)]
        refine hK _ _ hE (by omega) (by omega) fun e => ?_
        have : M.binN (9 : Int).toNat k a b = a / b := by simp [M.binN, show b ≠ 0 by omega]
        rw [this]
    refine vif_dec (fun c10 => ?_) (fun c10 => ?_)
    · subst c10
      simp (disch := (simp only [push_cast]; done)) only [push_cast, g2.ld1]
      refine vif_dec (fun d => ?_) (fun d => ?_)
      · have hb0 : b = 0 := by omega
        subst hb0
        simp (disch := (simp only [push_cast]; done)) only [push_cast, h2.ld1]
        refine hK _ _ hE (by omega) (by omega) fun e => ?_
        have : M.binN (10 : Int).toNat k a 0 = a := by simp [M.binN]
        rw [this]
      · simp (disch := (simp only [push_cast]; done)) only [push_cast, h2.ld1, g2.ld1]
        rw [vbin_rem (by omega), show (a : Int).tmod (b : Int) = ((a % b : Nat) : Int) from rfl]
        refine hK _ _ hE (by omega) (by omega) fun e => ?_
        have : M.binN (10 : Int).toNat k a b = a % b := by simp [M.binN, show b ≠ 0 by omega]
        rw [this]
    have hsh : ∀ o : Nat, 11 ≤ o → o ≤ 13 → op = o → vload PP T_impl_Vec (.pointer (some ⟨b1, 0, none⟩)) w3 fun t80 w_64 => vload PP T_int (.pointer (some ⟨b2, 1, none⟩)) w_64 fun t82 w_66 => vcall PP n_spec_l1Shift #[.int .i64 op, t80, t82] w_66 fun t83 w_67 => K (.tuple #[t83, .bool true]) w_67 := by
      intro o o1 o2 e
      subst e
      simp (disch := (simp only [push_cast]; done)) only [push_cast, h2.ldAgg (t := T_impl_Vec) g_impl_Vec, g2.ld1]
      refine l1Shift_spec o1 o2 k1 k4 ha hb16 fun w4 he4 => ?_
      exact hK _ _ (hE.trans he4) (by omega) (by omega) fun e => rfl
    refine vif_dec (fun c11 => ?_) (fun c11 => ?_)
    · simp only [decide_eq_true c11, vif_t]
      exact hsh 11 (by omega) (by omega) c11
    refine vif_dec (fun c12 => ?_) (fun c12 => ?_)
    · simp only [decide_eq_true c12, vif_t]
      exact hsh 12 (by omega) (by omega) c12
    refine vif_dec (fun c13 => ?_) (fun c13 => ?_)
    · exact hsh 13 (by omega) (by omega) c13
    · exact hno _ hE (by omega)
theorem spec_VecUn_spec {op wd n : Int} (hK : ∀ w', Ext w w' → K (.tuple #[VecV (M.vecUn op wd n).1.1 (M.vecUn op wd n).1.2, .bool (M.vecUn op wd n).2]) w') : vcall PP n_spec_VecUn #[.int .i64 op, VecV wd n] w K := by
  apply c_spec_VecUn; unfold F_spec_VecUn
  refine vbox_agg fun b1 w1 hb1 he1 hs1 h1 => ?_
  refine valloc_agg zr_impl_Vec fun b2 w2 hb2 he2 hs2 g2 => ?_
  have h2 := h1.ext he2
  simp (disch := (simp only [push_cast]; done)) only [push_cast, h2.ldAgg (t := T_impl_Vec) g_impl_Vec]
  refine spec_VecOk_spec fun w3 he3 => ?_
  have h3 := h2.ext he3
  have g3 := g2.ext he3
  have hE := (he1.trans he2).trans he3
  have hnew : ∀ w4 w5, Ext w3 w4 → Same (· = b2) w4 w5 → Ext w w5 := fun w4 w5 h h' => Ext.then (hE.trans h) h' fun y hy => by subst hy; have := he1.size; omega
  simp only [push_cast]
  unfold M.vecUn at hK
  refine vif_bool (fun hv => ?_) (fun hv => ?_)
  · refine stVec g3 fun w4 hw4 _ g4 => ?_
    rw [g4.lv (by kernel_rfl)]
    have := hK w4 (hnew _ _ (Same.refl _ _) hw4)
    rwa [if_neg (by simp at hv; simp [hv])] at this
  · rw [Bool.not_eq_false'] at hv
    obtain ⟨k, a, rfl, rfl, k1, k4, ha⟩ := M.vok_nat hv
    have hp := pow4 k1 k4
    refine vif_dec (fun a1 => ?_) (fun a1 => ?_)
    · subst a1
      refine vdraw_ext fun w4 he4 _ => ?_
      have h4 := h3.ext he4
      simp (disch := (simp only [push_cast]; done)) only [push_cast, h4.ld0, h4.ld1, true_and]
      refine l1Two_nat (by omega) ?_
      have hu : M.unM 1 (k : Int) (a : Int) = ((2 ^ k : Nat) : Int) - 1 - a := by simp [M.unM]
      obtain ⟨m, hm⟩ : ∃ m, m = 2 ^ k := ⟨_, rfl⟩
      rw [← hm] at hp hu ha ⊢
      have e1 : IntKind.i64.wrap ((m : Int) - 1) = (m : Int) - 1 := wrap64 (by omega) (by omega)
      have e2 : IntKind.i64.wrap ((m : Int) - 1 - (a : Int)) = (m : Int) - 1 - a := wrap64 (by omega) (by omega)
      simp (disch := (simp only [push_cast]; done)) only [push_cast, h4.ld0, h4.ld1, true_and, and_self, e1, e2]
      refine stVec (g3.ext he4) fun w7 hw7 _ g7 => ?_
      rw [g7.lv (by kernel_rfl)]
      have := hK w7 (hnew _ _ he4 hw7)
      rw [if_pos ⟨hv, .inl rfl⟩, hu] at this
      exact this
    refine vif_dec (fun a2 => ?_) (fun a2 => ?_)
    · subst a2
      refine vdraw_ext fun w4 he4 _ => ?_
      have h4 := h3.ext he4
      have e0 : IntKind.i64.wrap (0 - (a : Int)) = 0 - (a : Int) := wrap64 (by omega) (by omega)
      simp (disch := (simp only [push_cast]; done)) only [push_cast, h4.ld0, h4.ld1, true_and, e0]
      refine l1Mod_spec k1 k4 (by omega) (by omega) ?_
      have hu : M.unM 2 (k : Int) (a : Int) = (0 - (a : Int)) % ((2 ^ k : Nat) : Int) := by
        unfold M.unM
        rw [if_neg (by omega), Int.toNat_natCast]
        rcases (by omega : k = 1 ∨ k = 2 ∨ k = 3 ∨ k = 4) with rfl | rfl | rfl | rfl <;> simp <;> omega
      obtain ⟨m, hm⟩ : ∃ m : Int, m = (0 - (a : Int)) % ((2 ^ k : Nat) : Int) := ⟨_, rfl⟩
      rw [← hm] at hu ⊢
      simp (disch := (simp only [push_cast]; done)) only [push_cast, h4.ld0, true_and, and_self]
      refine stVec (g3.ext he4) fun w7 hw7 _ g7 => ?_
      rw [g7.lv (by kernel_rfl)]
      have := hK w7 (hnew _ _ he4 hw7)
      rw [if_pos ⟨hv, .inr rfl⟩, hu] at this
      exact this
    · refine stVec g3 fun w4 hw4 _ g4 => ?_
      rw [g4.lv (by kernel_rfl)]
      have := hK w4 (hnew _ _ (Same.refl _ _) hw4)
      rwa [if_neg (fun h => h.2.elim a1 a2)] at this
theorem spec_VecBin_spec {op wd n v m : Int} (hK : ∀ w', Ext w w' → K (.tuple #[VecV (M.vecBin op wd n v m).1.1 (M.vecBin op wd n v m).1.2, .bool (M.vecBin op wd n v m).2]) w') : vcall PP n_spec_VecBin #[.int .i64 op, VecV wd n, VecV v m] w K := by
  apply c_spec_VecBin; unfold F_spec_VecBin
  refine vbox_agg fun b1 w1 hb1 he1 hs1 h1 => ?_
  refine vbox_agg fun b2 w2 hb2 he2 hs2 g2 => ?_
  refine valloc_agg zr_impl_Vec fun b3 w3 hb3 he3 hs3 r3 => ?_
  have hE := (he1.trans he2).trans he3
  have hz1 := he1.size
  have hz2 := he2.size
  have h3 := (h1.ext he2).ext he3
  have g3 := g2.ext he3
  have hnew : ∀ w4 w5, Ext w3 w4 → Same (· = b3) w4 w5 → Ext w w5 := fun w4 w5 h h' => Ext.then (hE.trans h) h' fun y hy => by subst hy; omega
  have hno : (M.vecBin op wd n v m) = ((0, 0), false) → ∀ w4, Ext w3 w4 → vstore PP T_impl_Vec (.pointer (some ⟨b3, 0, none⟩)) (VecV 0 0) w4 fun _ w5 => vlv PP T_impl_Vec (.pointer (some ⟨b3, 0, none⟩)) w5 fun r w6 => K (.tuple #[r, .bool false]) w6 := by
    intro e w4 he4
    refine stVec (r3.ext he4) fun w5 hw5 _ r5 => ?_
    rw [r5.lv (by kernel_rfl)]
    have := hK w5 (hnew _ _ he4 hw5)
    rwa [e] at this
  refine vjoin_of (fun u w4 => u = [] ∧ Ext w3 w4 ∧ M.vok wd n = true ∧ M.vok v m = true) (fun C hC => ?_) ?_
  · simp (disch := (simp only [push_cast]; done)) only [push_cast, h3.ldAgg (t := T_impl_Vec) g_impl_Vec]
    refine spec_VecOk_spec fun w4 he4 => ?_
    have g4 := g3.ext he4
    simp only [push_cast]
    refine vif_bool (fun hv => hno ?_ _ he4) (fun hv => ?_)
    · unfold M.vecBin; rw [if_neg (by simp at hv; simp [hv])]
    · simp (disch := (simp only [push_cast]; done)) only [push_cast, g4.ldAgg (t := T_impl_Vec) g_impl_Vec]
      refine spec_VecOk_spec fun w5 he5 => ?_
      simp only [push_cast]
      refine vif_bool (fun hv2 => hno ?_ _ (he4.trans he5)) (fun hv2 => ?_)
      · unfold M.vecBin; rw [if_neg (by simp at hv2; simp [hv2])]
      · exact hC _ _ ⟨rfl, he4.trans he5, by simpa using hv, by simpa using hv2⟩
  · rintro u g w4 ⟨rfl, he4, hv1, hv2⟩
    have h4 := h3.ext he4
    have g4 := g3.ext he4
    have r4 := r3.ext he4
    obtain ⟨k, a, rfl, rfl, k1, k4, ha⟩ := M.vok_nat hv1
    obtain ⟨l, b, rfl, rfl, l1, l4, hb⟩ := M.vok_nat hv2
    have ha16 := pow16 k4 ha
    have hb16 := pow16 l4 hb
    unfold M.vecBin at hK hno
    rw [if_pos ⟨hv1, hv2⟩] at hK hno
    simp only [push_cast]
    refine vif_dec (fun a1 => ?_) (fun a1 => ?_)
    · rw [if_pos a1] at hK hno
      have e1 : IntKind.i64.wrap ((k : Int) + (l : Int)) = (k : Int) + (l : Int) := wrap64 (by omega) (by omega)
      simp (disch := (simp only [push_cast]; done)) only [push_cast, h4.ld0, g4.ld0, e1]
      refine vif_dec (fun a2 => hno (if_neg (by omega)) _ he4) (fun a2 => ?_)
      refine vdraw_ext fun w5 he5 _ => ?_
      have h5 := h4.ext he5
      have g5 := g4.ext he5
      simp (disch := (simp only [push_cast]; done)) only [push_cast, h5.ld0, h5.ld1, g5.ld0, g5.ld1, true_and, e1]
      refine l1Two_nat (by omega) ?_
      have hlp := pow4 l1 l4
      have hcat : M.catM (l : Int) (a : Int) (b : Int) = (a : Int) * ((2 ^ l : Nat) : Int) + b := by simp [M.catM]
      have hm := mul225 ha16 (show 2 ^ l - 1 < 16 by omega)
      have hm2 : a * 2 ^ l = a * (2 ^ l - 1) + a := by rw [← Nat.mul_succ]; congr 1; omega
      obtain ⟨q, hq⟩ : ∃ q, q = 2 ^ l := ⟨_, rfl⟩
      rw [← hq] at hcat hm hm2 hlp ⊢
      have hz : (a : Int) * (q : Int) = ((a * q : Nat) : Int) := by simp
      have e2 : IntKind.i64.wrap ((a : Int) * (q : Int)) = (a : Int) * (q : Int) := wrap64 (by omega) (by omega)
      have e3 : IntKind.i64.wrap ((a : Int) * (q : Int) + (b : Int)) = (a : Int) * (q : Int) + b := wrap64 (by omega) (by omega)
      simp (disch := (simp only [push_cast]; done)) only [push_cast, h5.ld0, h5.ld1, g5.ld0, g5.ld1, true_and, e1, e2, e3, and_self]
      refine stVec (r4.ext he5) fun w8 hw8 _ r8 => ?_
      rw [r8.lv (by kernel_rfl)]
      have := hK w8 (hnew _ _ (he4.trans he5) hw8)
      rw [if_pos (by omega), hcat] at this
      exact this
    · rw [if_neg a1] at hK hno
      simp (disch := (simp only [push_cast]; done)) only [push_cast, h4.ldAgg (t := T_impl_Vec) g_impl_Vec, g4.ldAgg (t := T_impl_Vec) g_impl_Vec]
      refine l1Bin_spec k1 k4 ha l4 hb (fun w5 r he5 c3 c13 hr => ?_) fun w5 he5 hn => ?_
      · have h5 := h4.ext he5
        have g5 := g4.ext he5
        simp (disch := (simp only [push_cast]; done)) only [push_cast, h5.ld0, g5.ld0, Bool.not_true]
        refine vif_dec (fun a2 => hno (if_neg (by omega)) _ (he4.trans he5)) (fun a2 => ?_)
        have hkl : k = l := by omega
        subst hkl
        try simp (disch := (simp only [push_cast]; done)) only [push_cast, h5.ld0]
        refine stVec (r4.ext he5) fun w8 hw8 _ r8 => ?_
        rw [r8.lv (by kernel_rfl)]
        have := hK w8 (hnew _ _ (he4.trans he5) hw8)
        rw [if_pos ⟨c3, c13, rfl⟩] at this
        rw [hr rfl]
        exact this
      · simp only [push_cast, Bool.not_false]
        exact hno (if_neg (fun h => hn ⟨h.1, h.2.1⟩)) _ (he4.trans he5)
theorem spec_VecCmp_spec {op wd n v m : Int} (hK : ∀ w', Ext w w' → K (.tuple #[.bool (M.vecCmp op wd n v m).1, .bool (M.vecCmp op wd n v m).2]) w') : vcall PP n_spec_VecCmp #[.int .i64 op, VecV wd n, VecV v m] w K := by
  apply c_spec_VecCmp; unfold F_spec_VecCmp
  refine vbox_agg fun b1 w1 hb1 he1 hs1 h1 => ?_
  refine vbox_agg fun b2 w2 hb2 he2 hs2 g2 => ?_
  have hE := he1.trans he2
  have h3 := h1.ext he2
  have hno : (M.vecCmp op wd n v m) = (false, false) → ∀ w4, Ext w2 w4 → K (.tuple #[.bool false, .bool false]) w4 := by
    intro e w4 he4
    have := hK w4 (hE.trans he4)
    rwa [e] at this
  refine vjoin_of (fun u w4 => u = [] ∧ Ext w2 w4 ∧ M.vok wd n = true ∧ M.vok v m = true ∧ wd = v) (fun C hC => ?_) ?_
  · simp (disch := (simp only [push_cast]; done)) only [push_cast, h3.ldAgg (t := T_impl_Vec) g_impl_Vec]
    refine spec_VecOk_spec fun w4 he4 => ?_
    have g4 := g2.ext he4
    simp only [push_cast]
    refine vif_bool (fun hv => hno ?_ _ he4) (fun hv => ?_)
    · unfold M.vecCmp; rw [if_neg (by simp at hv; simp [hv])]
    · simp (disch := (simp only [push_cast]; done)) only [push_cast, g4.ldAgg (t := T_impl_Vec) g_impl_Vec]
      refine spec_VecOk_spec fun w5 he5 => ?_
      have g5 := g4.ext he5
      have h5 := (h3.ext he4).ext he5
      simp only [push_cast]
      refine vif_bool (fun hv2 => hno ?_ _ (he4.trans he5)) (fun hv2 => ?_)
      · unfold M.vecCmp; rw [if_neg (by simp at hv2; simp [hv2])]
      · simp (disch := (simp only [push_cast]; done)) only [push_cast, h5.ld0, g5.ld0]
        refine vif_dec (fun a1 => hno ?_ _ (he4.trans he5)) (fun a1 => ?_)
        · unfold M.vecCmp; rw [if_neg (fun h => a1 h.2.2.1)]
        · exact hC _ _ ⟨rfl, he4.trans he5, by simpa using hv, by simpa using hv2, by omega⟩
  · rintro u g w4 ⟨rfl, he4, hv1, hv2, rfl⟩
    have h4 := h3.ext he4
    have g4 := g2.ext he4
    unfold M.vecCmp at hK hno
    simp only [push_cast]
    refine vif_dec (fun a1 => ?_) (fun a1 => ?_)
    · subst a1
      simp (disch := (simp only [push_cast]; done)) only [push_cast, h4.ld1, g4.ld1]
      have := hK w4 (hE.trans he4)
      rw [if_pos ⟨hv1, hv2, rfl, by omega, by omega⟩] at this
      exact this
    refine vif_dec (fun a2 => ?_) (fun a2 => ?_)
    · subst a2
      simp (disch := (simp only [push_cast]; done)) only [push_cast, h4.ld1, g4.ld1]
      have := hK w4 (hE.trans he4)
      rw [if_pos ⟨hv1, hv2, rfl, by omega, by omega⟩] at this
      exact this
    refine vif_dec (fun a3 => ?_) (fun a3 => ?_)
    · subst a3
      obtain ⟨k, a, rfl, rfl, k1, k4, ha⟩ := M.vok_nat hv1
      obtain ⟨l, b, hl, rfl, l1, l4, hb⟩ := M.vok_nat hv2
      have hlk : l = k := by omega
      subst hlk
      refine vdraw_ext fun w5 he5 _ => ?_
      have h5 := h4.ext he5
      have g5 := g4.ext he5
      simp (disch := (simp only [push_cast]; done)) only [push_cast, h5.ldAgg (t := T_impl_Vec) g_impl_Vec, g5.ldAgg (t := T_impl_Vec) g_impl_Vec, true_and]
      refine l1Signed_spec k1 k4 ha fun w6 he6 => ?_
      have g6 := g5.ext he6
      simp (disch := (simp only [push_cast]; done)) only [push_cast, g6.ldAgg (t := T_impl_Vec) g_impl_Vec, true_and, and_self]
      refine l1Signed_spec k1 k4 hb fun w7 he7 => ?_
      simp only [push_cast, true_and]
      have := hK w7 (((hE.trans he4).trans he5).trans (he6.trans he7))
      rw [if_pos ⟨hv1, hv2, rfl, by omega, by omega⟩] at this
      exact this
    · exact hno (by rw [if_neg (fun h => by omega)]) _ he4
theorem spec_VecCut_spec {wd n hi lo : Int} (hK : ∀ w', Ext w w' → K (.tuple #[VecV (M.vecCut wd n hi lo).1.1 (M.vecCut wd n hi lo).1.2, .bool (M.vecCut wd n hi lo).2]) w') : vcall PP n_spec_VecCut #[VecV wd n, .int .i64 hi, .int .i64 lo] w K := by
  apply c_spec_VecCut; unfold F_spec_VecCut
  refine vbox_agg fun b1 w1 hb1 he1 hs1 h1 => ?_
  refine valloc_agg zr_impl_Vec fun b3 w3 hb3 he3 hs3 r3 => ?_
  have hE := he1.trans he3
  have hz1 := he1.size
  have h3 := h1.ext he3
  have hnew : ∀ w4 w5, Ext w3 w4 → Same (· = b3) w4 w5 → Ext w w5 := fun w4 w5 h h' => Ext.then (hE.trans h) h' fun y hy => by subst hy; omega
  have hno : (M.vecCut wd n hi lo) = ((0, 0), false) → ∀ w4, Ext w3 w4 → vstore PP T_impl_Vec (.pointer (some ⟨b3, 0, none⟩)) (VecV 0 0) w4 fun _ w5 => vlv PP T_impl_Vec (.pointer (some ⟨b3, 0, none⟩)) w5 fun r w6 => K (.tuple #[r, .bool false]) w6 := by
    intro e w4 he4
    refine stVec (r3.ext he4) fun w5 hw5 _ r5 => ?_
    rw [r5.lv (by kernel_rfl)]
    have := hK w5 (hnew _ _ he4 hw5)
    rwa [e] at this
  unfold M.vecCut at hK hno
  refine vjoin_of (fun u w4 => u = [] ∧ Ext w3 w4 ∧ M.vok wd n = true ∧ 0 ≤ lo ∧ lo ≤ hi ∧ hi < wd) (fun C hC => ?_) ?_
  · simp (disch := (simp only [push_cast]; done)) only [push_cast, h3.ldAgg (t := T_impl_Vec) g_impl_Vec]
    refine spec_VecOk_spec fun w4 he4 => ?_
    have h4 := h3.ext he4
    simp only [push_cast]
    refine vif_bool (fun hv => hno ?_ _ he4) (fun hv => ?_)
    · rw [if_neg (by simp at hv; simp [hv])]
    refine vif_dec (fun a1 => hno (if_neg (by omega)) _ he4) (fun a1 => ?_)
    refine vif_dec (fun a2 => hno (if_neg (by omega)) _ he4) (fun a2 => ?_)
    simp (disch := (simp only [push_cast]; done)) only [push_cast, h4.ld0]
    refine vif_dec (fun a3 => hno (if_neg (by omega)) _ he4) (fun a3 => ?_)
    exact hC _ _ ⟨rfl, he4, by simpa using hv, by omega, by omega, by omega⟩
  · rintro u g w4 ⟨rfl, he4, hv, c1, c2, c3⟩
    have h4 := h3.ext he4
    have r4 := r3.ext he4
    obtain ⟨k, a, rfl, rfl, k1, k4, ha⟩ := M.vok_nat hv
    obtain ⟨l, rfl⟩ : ∃ l : Nat, lo = l := ⟨lo.toNat, by omega⟩
    obtain ⟨t, ht⟩ : ∃ t : Nat, hi - (l : Int) + 1 = t := ⟨(hi - l + 1).toNat, by omega⟩
    have ha16 := pow16 k4 ha
    have e1 : IntKind.i64.wrap (IntKind.i64.wrap (hi - (l : Int)) + 1) = (t : Int) := by rw [wrap64 (x := hi - l) (by omega) (by omega), wrap64 (by omega) (by omega)]; omega
    simp only [push_cast, e1]
    refine vdraw_ext fun w5 he5 _ => ?_
    have h5 := h4.ext he5
    simp (disch := (simp only [push_cast]; done)) only [push_cast, h5.ld1, true_and]
    refine l1Two_nat (by omega) ?_
    have hres : M.cutM (a : Int) hi (l : Int) = ((a / 2 ^ l % 2 ^ t : Nat) : Int) := by
      unfold M.cutM
      rw [ht]
      simp
    rw [if_pos ⟨hv, c1, c2, c3⟩] at hK
    simp only [hres, ht] at hK
    have hq0 : 0 < 2 ^ l := Nat.pow_pos (by omega)
    have hq1 : 0 < 2 ^ t := Nat.pow_pos (by omega)
    obtain ⟨q, hq⟩ : ∃ q, q = 2 ^ l := ⟨_, rfl⟩
    rw [← hq] at hq0 hK ⊢
    have hd := Nat.div_le_self a q
    have eQ : ∀ (w : World) (K : Value → World → Prop), vbin PP .quo T_int false (.int .i64 (a : Int)) (.int .i64 (q : Int)) w K = K (.int .i64 ((a / q : Nat) : Int)) w := fun w K => by
      rw [vbin_quo (by omega), show (a : Int).tdiv (q : Int) = ((a / q : Nat) : Int) from rfl, wrapN (by omega)]
    obtain ⟨d, hd0⟩ : ∃ d, d = a / q := ⟨_, rfl⟩
    rw [← hd0] at eQ hd hK
    simp (disch := (simp only [push_cast]; done)) only [push_cast, h5.ld1, true_and, and_self, eQ]
    refine l1Two_nat (by omega) ?_
    obtain ⟨q2, hq2⟩ : ∃ q2, q2 = 2 ^ t := ⟨_, rfl⟩
    rw [← hq2] at hq1 hK ⊢
    have eR : ∀ (w : World) (K : Value → World → Prop), vbin PP .rem T_int false (.int .i64 (d : Int)) (.int .i64 (q2 : Int)) w K = K (.int .i64 ((d % q2 : Nat) : Int)) w := fun w K => by
      rw [vbin_rem (by omega), show (d : Int).tmod (q2 : Int) = ((d % q2 : Nat) : Int) from rfl]
    obtain ⟨z, hz⟩ : ∃ z, z = d % q2 := ⟨_, rfl⟩
    rw [← hz] at hK eR
    simp (disch := (simp only [push_cast]; done)) only [push_cast, h5.ld1, true_and, and_self, eQ, eR]
    refine stVec (r4.ext he5) fun w6 hw6 _ r6 => ?_
    rw [r6.lv (by kernel_rfl)]
    exact hK w6 (hnew _ _ (he4.trans he5) hw6)
end Go.Proofs.YtbiabimalkkeiaaGreatDoor
