/- Contracts of the reference's bit vectors. -/
import Derived.Test.YtbiabimalkkeiaaGreatDoorTb
import Derived.Test.YtbiabimalkkeiaaGreatDoorTc
set_option linter.unusedVariables false
set_option linter.unusedSimpArgs false
set_option linter.unnecessarySimpa false
set_option linter.unusedSectionVars false
namespace Go.Proofs.YtbiabimalkkeiaaGreatDoor
open Go Go.Vc Go.Proofs
variable {w : World} {K : Value → World → Prop} {F : Nat → Prop}

theorem l1Max_spec {a b : Int} (hK : K (.int .i64 (max a b)) w) : vcall PP n_spec_l1Max #[.int .i64 a, .int .i64 b] w K := by
  apply c_spec_l1Max; unfold F_spec_l1Max
  simp only [push_cast]
  refine vif_dec (fun h => ?_) (fun h => ?_)
  · rwa [show max a b = a by omega] at hK
  · rwa [show max a b = b by omega] at hK
theorem l1Min_spec {a b : Int} (hK : K (.int .i64 (min a b)) w) : vcall PP n_spec_l1Min #[.int .i64 a, .int .i64 b] w K := by
  apply c_spec_l1Min; unfold F_spec_l1Min
  simp only [push_cast]
  refine vif_dec (fun h => ?_) (fun h => ?_)
  · rwa [show min a b = a by omega] at hK
  · rwa [show min a b = b by omega] at hK
theorem pow62 {k : Nat} (h : k ≤ 62) : 2 ^ k ≤ 4611686018427387904 := Nat.le_trans (Nat.pow_le_pow_right (by omega) h) (by decide)
theorem l1Two_spec {n : Int} (h : n ≤ 62) (hK : K (.int .i64 ((2 ^ n.toNat : Nat) : Int)) w) : vcall PP n_spec_l1Two #[.int .i64 n] w K := by
  apply c_spec_l1Two; unfold F_spec_l1Two
  refine vloop_up n.toNat (fun i u w' => u = [.int .i64 (2 ^ i : Nat), .int .i64 i] ∧ w' = w) ⟨rfl, rfl⟩ ?_
  rintro i _ _ w1 C hi ⟨rfl, rfl⟩ hC
  have hp := pow62 (k := i) (by omega)
  have e1 : ((2 ^ i : Nat) : Int) * 2 = ((2 ^ (i + 1) : Nat) : Int) := by rw [Nat.pow_succ]; omega
  have hp2 : i < n.toNat → 2 ^ (i + 1) ≤ 4611686018427387904 := fun h => pow62 (by omega)
  obtain ⟨q, hq⟩ : ∃ q, q = 2 ^ i := ⟨_, rfl⟩
  obtain ⟨q2, hq2⟩ : ∃ q2, q2 = 2 ^ (i + 1) := ⟨_, rfl⟩
  rw [← hq] at e1 hp ⊢
  rw [← hq2] at e1 hC hp2
  simp only [push_cast]
  refine vif_dec (fun a => ?_) (fun a => ?_)
  · have hp2' := hp2 (by omega)
    rw [e1, wrap64 (by omega) (by omega), inc64' (by omega)]
    exact hC (by omega) _ _ ⟨rfl, rfl⟩
  · have : i = n.toNat := by omega
    subst this
    rw [hq]; exact hK
theorem l1Two_nat {n : Nat} (h : n ≤ 62) (hK : K (.int .i64 ((2 ^ n : Nat) : Int)) w) : vcall PP n_spec_l1Two #[.int .i64 (n : Int)] w K :=
  l1Two_spec (by omega) (by rwa [Int.toNat_natCast])
theorem spec_VecOk_spec {wd n : Int} (hK : ∀ w', Ext w w' → K (.bool (M.vok wd n)) w') : vcall PP n_spec_VecOk #[VecV wd n] w K := by
  apply c_spec_VecOk; unfold F_spec_VecOk
  refine vbox_agg fun b1 w1 hb1 he1 hs1 h1 => ?_
  refine vdraw_ext fun w2 he2 _ => ?_
  have h2 := h1.ext he2
  have hE := he1.trans he2
  simp (disch := (simp only [push_cast]; done)) only [push_cast, h2.ld0, h2.ld1, true_and]
  have hk := hK w2 hE
  refine vif_dec (fun a1 => ?_) (fun a1 => ?_)
  · refine vif_dec (fun a2 => ?_) (fun a2 => ?_)
    · refine vif_dec (fun a3 => ?_) (fun a3 => ?_)
      · refine l1Two_spec (by omega) ?_
        obtain ⟨q, hq⟩ : ∃ q, q = 2 ^ wd.toNat := ⟨_, rfl⟩
        have hv : M.vok wd n = decide (n < (q : Nat)) := by
          simp only [M.vok, decide_eq_true a1, decide_eq_true a2, decide_eq_true a3, Bool.true_and]
          rw [hq, natPow]
        rw [← hq]
        simp (disch := (simp only [push_cast]; done)) only [push_cast, h2.ld1, true_and, and_self]
        rw [hv] at hk
        exact hk
      · have hv : M.vok wd n = false := by simp only [M.vok, decide_eq_false a3, Bool.and_false, Bool.false_and]
        rw [hv] at hk; exact hk
    · have hv : M.vok wd n = false := by simp only [M.vok, decide_eq_false a2, Bool.and_false, Bool.false_and]
      rw [hv] at hk; exact hk
  · have hv : M.vok wd n = false := by simp only [M.vok, decide_eq_false a1, Bool.false_and]
    rw [hv] at hk; exact hk
theorem l1Bit_spec {n k : Nat} (hn : n < 9223372036854775808) (hk : k ≤ 62) (hK : K (.int .i64 ((n / 2 ^ k % 2 : Nat) : Int)) w) : vcall PP n_spec_l1Bit #[.int .i64 (n : Int), .int .i64 (k : Int)] w K := by
  apply c_spec_l1Bit; unfold F_spec_l1Bit
  refine l1Two_nat hk ?_
  have hp : 0 < 2 ^ k := Nat.pow_pos (by omega)
  have hd : n / 2 ^ k ≤ n := Nat.div_le_self _ _
  rw [vbin_quo (by omega), show (n : Int).tdiv ((2 ^ k : Nat) : Int) = ((n / 2 ^ k : Nat) : Int) from rfl, wrapN (by omega), vbin_rem (by omega), show ((n / 2 ^ k : Nat) : Int).tmod 2 = ((n / 2 ^ k % 2 : Nat) : Int) from rfl]
  exact hK
theorem l1Mod_spec {n : Int} {k : Nat} (h1 : 1 ≤ k) (h4 : k ≤ 4) (hl : -4611686018427387904 ≤ n) (hh : n ≤ 4611686018427387904) (hK : K (.int .i64 (n % (2 ^ k : Nat))) w) : vcall PP n_spec_l1Mod #[.int .i64 n, .int .i64 (k : Int)] w K := by
  apply c_spec_l1Mod; unfold F_spec_l1Mod
  refine l1Two_nat (by omega) ?_
  have hp := pow4 h1 h4
  obtain ⟨m, hm⟩ : ∃ m, m = 2 ^ k := ⟨_, rfl⟩
  rw [← hm] at hp hK ⊢
  rw [vbin_rem (by omega)]
  have hm' : m = 2 ∨ m = 4 ∨ m = 8 ∨ m = 16 := by
    rcases (by omega : k = 1 ∨ k = 2 ∨ k = 3 ∨ k = 4) with rfl | rfl | rfl | rfl <;> simp at hm <;> omega
  simp only [push_cast]
  by_cases hn : 0 ≤ n
  · rw [Int.tmod_eq_emod_of_nonneg hn]
    have h0 : 0 ≤ n % (m : Int) := Int.emod_nonneg _ (by omega)
    refine vif_dec (fun a => absurd a (by omega)) (fun a => hK)
  · obtain ⟨b, rfl⟩ : ∃ b : Nat, n = -(b : Int) := ⟨(-n).toNat, by omega⟩
    rw [Int.neg_tmod, Int.tmod_eq_emod_of_nonneg (by omega)]
    have h0 : 0 ≤ (b : Int) % (m : Int) := Int.emod_nonneg _ (by omega)
    have h1 : (b : Int) % (m : Int) < m := Int.emod_lt_of_pos _ (by omega)
    have e : (b : Int) % (m : Int) = 0 ∧ -(b : Int) % (m : Int) = 0 ∨ 0 < (b : Int) % (m : Int) ∧ -(b : Int) % (m : Int) = -((b : Int) % (m : Int)) + m := by
      rcases hm' with rfl | rfl | rfl | rfl <;> omega
    refine vif_dec (fun a => ?_) (fun a => ?_)
    · rcases e with ⟨e1, e2⟩ | ⟨e1, e2⟩
      · omega
      · rw [wrap64 (by omega) (by omega), ← e2]; exact hK
    · rcases e with ⟨e1, e2⟩ | ⟨e1, e2⟩
      · rw [e1, show -(0 : Int) = 0 from rfl, ← e2]; exact hK
      · omega
theorem l1Signed_spec {k a : Nat} (k1 : 1 ≤ k) (k4 : k ≤ 4) (ha : a < 2 ^ k) (hK : ∀ w', Ext w w' → K (.int .i64 (M.sgn k a)) w') : vcall PP n_spec_l1Signed #[VecV k a] w K := by
  apply c_spec_l1Signed; unfold F_spec_l1Signed
  have hp := pow4 k1 k4
  refine vbox_agg fun b1 w1 hb1 he1 hs1 h1 => ?_
  have e1 : IntKind.i64.wrap ((k : Int) - 1) = ((k - 1 : Nat) : Int) := by rw [wrap64 (by omega) (by omega)]; omega
  simp (disch := (simp only [push_cast]; done)) only [push_cast, h1.ld0, h1.ld1, e1]
  refine l1Bit_spec (by omega) (by omega) ?_
  have hb := top_bit k1 k4 ha
  have hx := (natPow k).symm
  have hy : (2 : Int) ^ ((k : Int).toNat - 1) = ((2 ^ (k - 1) : Nat) : Int) := by simp
  have hlt : a / 2 ^ (k - 1) % 2 < 2 := Nat.mod_lt _ (by omega)
  obtain ⟨z, hz⟩ : ∃ z, z = a / 2 ^ (k - 1) % 2 := ⟨_, rfl⟩
  rw [← hz] at hb hlt ⊢
  simp only [push_cast]
  refine vif_dec (fun c => ?_) (fun c => ?_)
  · refine vdraw_ext fun w2 he2 _ => ?_
    have h2 := h1.ext he2
    simp (disch := (simp only [push_cast]; done)) only [push_cast, h2.ld0, h2.ld1, true_and]
    refine l1Two_nat (by omega) ?_
    have hn : ¬ a < 2 ^ (k - 1) := by
      have : decide (z = 1) = true := decide_eq_true (by omega)
      rw [this] at hb
      exact of_decide_eq_true hb.symm
    have := hK w2 (he1.trans he2)
    unfold M.sgn at this
    rw [if_neg (by rw [hy]; omega), Int.toNat_natCast, hx] at this
    obtain ⟨q, hq⟩ : ∃ q, q = 2 ^ k := ⟨_, rfl⟩
    rw [← hq] at hp this ⊢
    have hw : IntKind.i64.wrap ((a : Int) - (q : Int)) = (a : Int) - (q : Int) := wrap64 (by omega) (by omega)
    simp (disch := (simp only [push_cast]; done)) only [push_cast, h2.ld1, true_and, hw]
    exact this
  · have hn : a < 2 ^ (k - 1) := by
      have : decide (z = 1) = false := decide_eq_false (by omega)
      rw [this] at hb
      have := of_decide_eq_false hb.symm
      omega
    have := hK w1 he1
    unfold M.sgn at this
    rw [if_pos (by rw [hy]; omega)] at this
    simp (disch := (simp only [push_cast]; done)) only [push_cast, h1.ld1]
    exact this
def zN (op x y : Nat) : Nat := if op = 4 then x + y - x * y else if op = 5 then (x + y) % 2 else x * y
theorem zN_ck {op a b i : Nat} (h3 : 3 ≤ op) (h5 : op ≤ 5) (ha : a < 16) (hb : b < 16) (hi : i < 4) : M.binN op 4 a b / 2 ^ (i + 1) * 2 + zN op (a / 2 ^ i % 2) (b / 2 ^ i % 2) = M.binN op 4 a b / 2 ^ i := by
  have hall : ∀ o : Fin 6, ∀ i : Fin 4, 3 ≤ o.1 → (List.range 16).all (fun a => (List.range 16).all fun b => decide (M.binN o.1 4 a b / 2 ^ (i.1 + 1) * 2 + zN o.1 (a / 2 ^ i.1 % 2) (b / 2 ^ i.1 % 2) = M.binN o.1 4 a b / 2 ^ i.1)) = true := by decide +kernel
  have := hall ⟨op, by omega⟩ ⟨i, hi⟩ h3
  simp only [List.all_eq_true, List.mem_range, decide_eq_true_eq] at this
  exact this a ha b hb
theorem zN_16 {op a b : Nat} (h3 : 3 ≤ op) (h5 : op ≤ 5) (ha : a < 16) (hb : b < 16) : M.binN op 4 a b < 16 := by
  have hall : ∀ o : Fin 6, 3 ≤ o.1 → (List.range 16).all (fun a => (List.range 16).all fun b => decide (M.binN o.1 4 a b < 16)) = true := by decide +kernel
  have := hall ⟨op, by omega⟩ h3
  simp only [List.all_eq_true, List.mem_range, decide_eq_true_eq] at this
  exact this a ha b hb
theorem l1Bits_spec {op a b : Nat} (h3 : 3 ≤ op) (h5 : op ≤ 5) (ha : a < 16) (hb : b < 16) (hK : K (.int .i64 ((M.binN op 4 a b : Nat) : Int)) w) : vcall PP n_spec_l1Bits #[.int .i64 (op : Int), .int .i64 (a : Int), .int .i64 (b : Int)] w K := by
  apply c_spec_l1Bits; unfold F_spec_l1Bits
  have h16 := zN_16 h3 h5 ha hb
  refine vloop_up 4 (fun j u w' => u = [.int .i64 ((M.binN op 4 a b / 2 ^ (4 - j) : Nat) : Int), .int .i64 (3 - (j : Int))] ∧ w' = w) ⟨by rw [show M.binN op 4 a b / 2 ^ (4 - 0) = 0 from Nat.div_eq_of_lt h16]; rfl, rfl⟩ ?_
  rintro j _ _ w1 C hj ⟨rfl, rfl⟩ hC
  obtain ⟨f, hf⟩ : ∃ f, f = M.binN op 4 a b := ⟨_, rfl⟩
  have hck : ∀ i, i < 4 → f / 2 ^ (i + 1) * 2 + zN op (a / 2 ^ i % 2) (b / 2 ^ i % 2) = f / 2 ^ i := fun i hi => by rw [hf]; exact zN_ck h3 h5 ha hb hi
  rw [← hf] at hC hK h16 ⊢
  by_cases hj3 : j ≤ 3
  · obtain ⟨i, hi⟩ : ∃ i, i + j = 3 := ⟨3 - j, by omega⟩
    have e1 : 4 - j = i + 1 := by omega
    have e2 : 3 - (j : Int) = (i : Int) := by omega
    have e3 : 4 - (j + 1) = i := by omega
    have e4 : 3 - ((j + 1 : Nat) : Int) = (i : Int) - 1 := by omega
    have hC' := hC (by omega)
    rw [e3, e4] at hC'
    rw [e1, e2]
    have hck' := hck i (by omega)
    obtain ⟨p, hp⟩ : ∃ p, p = f / 2 ^ (i + 1) := ⟨_, rfl⟩
    obtain ⟨q, hq⟩ : ∃ q, q = f / 2 ^ i := ⟨_, rfl⟩
    have hql : q ≤ f := by rw [hq]; exact Nat.div_le_self _ _
    have hpl : p ≤ f := by rw [hp]; exact Nat.div_le_self _ _
    rw [← hp, ← hq] at hck'
    rw [← hq] at hC'
    rw [← hp]
    have ei : IntKind.i64.wrap ((i : Int) - 1) = (i : Int) - 1 := wrap64 (by omega) (by omega)
    simp only [push_cast]
    refine vif_dec (fun c => ?_) (fun c => absurd (by omega) c)
    refine l1Bit_spec (by omega) (by omega) ?_
    refine l1Bit_spec (by omega) (by omega) ?_
    have hx : a / 2 ^ i % 2 < 2 := Nat.mod_lt _ (by omega)
    have hy : b / 2 ^ i % 2 < 2 := Nat.mod_lt _ (by omega)
    obtain ⟨x, hx0⟩ : ∃ x, x = a / 2 ^ i % 2 := ⟨_, rfl⟩
    obtain ⟨y, hy0⟩ : ∃ y, y = b / 2 ^ i % 2 := ⟨_, rfl⟩
    rw [← hx0] at hx hck' ⊢
    rw [← hy0] at hy hck' ⊢
    have hxy : x * y ≤ 1 := by
      have := Nat.mul_le_mul (show x ≤ 1 by omega) (show y ≤ 1 by omega)
      omega
    obtain ⟨z, hz⟩ : ∃ z, z = x * y := ⟨_, rfl⟩
    have hzi : (x : Int) * (y : Int) = (z : Int) := by rw [hz]; simp
    have hzle : z ≤ x ∧ z ≤ y := by
      rcases (by omega : x = 0 ∨ x = 1) with h | h <;> rcases (by omega : y = 0 ∨ y = 1) with h' | h' <;> subst h <;> subst h' <;> simp at hz <;> omega
    rw [← hz] at hxy
    unfold zN at hck'
    rw [← hz] at hck'
    simp only [push_cast, hzi]
    refine vif_dec (fun c4 => ?_) (fun c4 => ?_)
    · rw [if_pos (by omega)] at hck'
      rw [wrap64 (x := z) (by omega) (by omega), wrap64 (x := (x : Int) + y) (by omega) (by omega), wrap64 (x := (x : Int) + y - z) (by omega) (by omega), wrap64 (x := (p : Int) * 2) (by omega) (by omega), wrap64 (x := (p : Int) * 2 + ((x : Int) + y - z)) (by omega) (by omega), ei, show (p : Int) * 2 + ((x : Int) + y - z) = (q : Int) by omega]
      exact hC' _ _ ⟨rfl, rfl⟩
    rw [if_neg (by omega)] at hck'
    refine vif_dec (fun c5 => ?_) (fun c5 => ?_)
    · rw [if_pos (by omega)] at hck'
      rw [wrap64 (x := (x : Int) + y) (by omega) (by omega), vbin_rem (by omega), show (x : Int) + (y : Int) = ((x + y : Nat) : Int) by omega, show ((x + y : Nat) : Int).tmod 2 = (((x + y) % 2 : Nat) : Int) from rfl]
      obtain ⟨s, hs⟩ : ∃ s, s = (x + y) % 2 := ⟨_, rfl⟩
      have hs2 : s < 2 := by omega
      rw [← hs] at hck' ⊢
      simp only [push_cast]
      rw [wrap64 (x := (p : Int) * 2) (by omega) (by omega), wrap64 (x := (p : Int) * 2 + s) (by omega) (by omega), ei, show (p : Int) * 2 + (s : Int) = (q : Int) by omega]
      exact hC' _ _ ⟨rfl, rfl⟩
    · rw [if_neg (by omega)] at hck'
      rw [wrap64 (x := z) (by omega) (by omega), wrap64 (x := (p : Int) * 2) (by omega) (by omega), wrap64 (x := (p : Int) * 2 + z) (by omega) (by omega), ei, show (p : Int) * 2 + (z : Int) = (q : Int) by omega]
      exact hC' _ _ ⟨rfl, rfl⟩
  · have : j = 4 := by omega
    subst this
    have e : f / 2 ^ (4 - 4) = f := Nat.div_one _
    rw [e]
    simp only [push_cast]
    exact hK
end Go.Proofs.YtbiabimalkkeiaaGreatDoor
