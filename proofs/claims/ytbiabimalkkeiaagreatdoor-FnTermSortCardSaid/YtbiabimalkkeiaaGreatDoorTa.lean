/- Contracts of the program's bit vectors. -/
import Derived.Test.YtbiabimalkkeiaaGreatDoorF0
import Derived.Test.YtbiabimalkkeiaaGreatDoorF1
import Derived.Test.YtbiabimalkkeiaaGreatDoorF2
import Derived.Test.YtbiabimalkkeiaaGreatDoorF3
import Derived.Test.YtbiabimalkkeiaaGreatDoorF4
set_option linter.unusedVariables false
set_option linter.unusedSimpArgs false
set_option linter.unnecessarySimpa false
set_option linter.unusedSectionVars false
namespace Go.Proofs.YtbiabimalkkeiaaGreatDoor
open Go Go.Vc Go.Proofs
variable {w : World} {K : Value → World → Prop} {F : Nat → Prop}

/-- A bit vector as a value. -/
abbrev VecV (wd n : Int) : Value := .agg ⟨[.int .i64 wd, .int .i64 n]⟩

theorem pow4 {k : Nat} (h1 : 1 ≤ k) (h2 : k ≤ 4) : 2 ≤ 2 ^ k ∧ 2 ^ k ≤ 16 := by
  rcases (by omega : k = 1 ∨ k = 2 ∨ k = 3 ∨ k = 4) with rfl | rfl | rfl | rfl <;> decide
@[push_cast] theorem bd_Vec (a b : Int) : vbuild PP T_impl_Vec [(0, .int .i64 a), (1, .int .i64 b)] w K = K (VecV a b) w := vbuild_eq b_impl_Vec (us := [[.int .i64 a], [.int .i64 b]]) rfl rfl
@[push_cast] theorem bd_VecZ : vbuild PP T_impl_Vec [] w K = K (VecV 0 0) w := vbuild_eq b_impl_Vec (us := []) rfl rfl
theorem stVec {b : Nat} {x y : Value} {t : TypeId} {p q : Int} (h : Blk w b [x, y] t) (hK : ∀ w', Same (· = b) w w' → w'.heap.size = w.heap.size → Blk w' b [.int .i64 p, .int .i64 q] t → K undef w') : vstore PP T_impl_Vec (.pointer (some ⟨b, 0, none⟩)) (VecV p q) w K :=
  h.stAgg rfl (by kernel_rfl) (by intro v hv; simp only [List.mem_cons, List.not_mem_nil, or_false] at hv; rcases hv with rfl | rfl <;> rfl) hK
theorem natPow (k : Nat) : ((2 ^ k : Nat) : Int) = 2 ^ k := by simp
theorem VecOk_spec {wd n : Int} (hK : ∀ w', Ext w w' → K (.bool (M.vok wd n)) w') : vcall PP n_impl_VecOk #[VecV wd n] w K := by
  apply c_impl_VecOk; unfold F_impl_VecOk
  refine vbox_agg fun b1 w1 hb1 he1 hs1 h1 => ?_
  refine vdraw_ext fun w2 he2 _ => ?_
  have h2 := h1.ext he2
  have hE := he1.trans he2
  simp (disch := (simp only [push_cast]; done)) only [push_cast, h2.ld0, h2.ld1, true_and]
  have hk := hK w2 hE
  refine vif_dec (fun a1 => ?_) (fun a1 => ?_)
  · refine vif_dec (fun a2 => ?_) (fun a2 => ?_)
    · refine vif_dec (fun a3 => ?_) (fun a3 => ?_)
      · obtain ⟨k, rfl⟩ : ∃ k : Nat, wd = k := ⟨wd.toNat, by omega⟩
        have hp := pow4 (k := k) (by omega) (by omega)
        have e : vbin PP .shl T_int true (.int .i64 1) (.int .i64 (k : Int)) w2 = fun K => K (.int .i64 (2 ^ k : Nat)) w2 := by
          funext K
          have := vbin_shlI (P := PP) (w := w2) (K := K) (c := true) (t := T_int) (yk := .i64) (x := 1) (y := k) (by omega) (by omega)
          rw [Nat.one_mul] at this
          exact this
        rw [e]
        simp only [push_cast, true_and]
        have hv : M.vok (k : Int) n = decide (n < (2 ^ k : Nat)) := by
          simp only [M.vok, decide_eq_true a1, decide_eq_true a2, decide_eq_true a3, Bool.true_and, Int.toNat_natCast, natPow]
        rw [hv, natPow] at hk
        exact hk
      · have hv : M.vok wd n = false := by simp only [M.vok, decide_eq_false a3, Bool.and_false, Bool.false_and]
        rw [hv] at hk; exact hk
    · have hv : M.vok wd n = false := by simp only [M.vok, decide_eq_false a2, Bool.and_false, Bool.false_and]
      rw [hv] at hk; exact hk
  · have hv : M.vok wd n = false := by simp only [M.vok, decide_eq_false a1, Bool.false_and]
    rw [hv] at hk; exact hk
theorem cut_spec {n k : Nat} (hn : n < 18446744073709551616) (h1 : 1 ≤ k) (h2 : k ≤ 4) (hK : K (.int .u64 (n % 2 ^ k : Nat)) w) : vcall PP n_impl_raw_cut #[.int .u64 n, .int .i64 k] w K := by
  apply c_impl_raw_cut; unfold F_impl_raw_cut
  have hp := pow4 h1 h2
  rw [show (1 : Int) = ((1 : Nat) : Int) from rfl, vbin_shlU (by omega) (by omega), Nat.one_mul, vbin_sub, show ((2 ^ k : Nat) : Int) - ((1 : Nat) : Int) = ((2 ^ k - 1 : Nat) : Int) by omega, wrapU (by omega), vbin_andU hn (by omega), Nat.and_two_pow_sub_one_eq_mod]
  exact hK
theorem bit_spec {n k : Nat} (hn : n < 18446744073709551616) (hk : k < 64) (hK : K (.bool (decide (n / 2 ^ k % 2 = 1))) w) : vcall PP n_impl_raw_bit #[.int .u64 n, .int .i64 k] w K := by
  apply c_impl_raw_bit; unfold F_impl_raw_bit
  have hd : n / 2 ^ k ≤ n := Nat.div_le_self _ _
  rw [vbin_shrU hk, show (1 : Int) = ((1 : Nat) : Int) from rfl, vbin_andU (by omega) (by omega), vbin_eql]
  have e : n / 2 ^ k &&& 1 = n / 2 ^ k % 2 := Nat.and_one_is_mod _
  rw [e]
  have e2 : decide (((n / 2 ^ k % 2 : Nat) : Int) = ((1 : Nat) : Int)) = decide (n / 2 ^ k % 2 = 1) := by
    by_cases h : n / 2 ^ k % 2 = 1
    · rw [h]; simp
    · rw [decide_eq_false h, decide_eq_false]; omega
  rw [e2]; exact hK
theorem raw_spec {wd : Int} {n : Nat} (hn : n < 9223372036854775808) (hK : ∀ w', Ext w w' → K (.int .u64 n) w') : vcall PP n_impl_Vec_raw #[VecV wd n] w K := by
  apply c_impl_Vec_raw; unfold F_impl_Vec_raw
  refine vbox_agg fun b1 w1 hb1 he1 hs1 h1 => ?_
  simp (disch := (simp only [push_cast]; done)) only [push_cast, h1.ld1]
  rw [vconv_int sm_int ik_impl_raw, wrapU (by omega)]
  exact hK _ he1
theorem ones_spec {k : Nat} {n : Int} (h1 : 1 ≤ k) (h2 : k ≤ 4) (hK : ∀ w', Ext w w' → K (.int .u64 (2 ^ k - 1 : Nat)) w') : vcall PP n_impl_Vec_ones #[VecV k n] w K := by
  apply c_impl_Vec_ones; unfold F_impl_Vec_ones
  refine vbox_agg fun b1 w1 hb1 he1 hs1 hq1 => ?_
  simp (disch := (simp only [push_cast]; done)) only [push_cast, hq1.ld0]
  have hp := pow4 h1 h2
  rw [show (1 : Int) = ((1 : Nat) : Int) from rfl, vbin_shlU (by omega) (by omega), Nat.one_mul, vbin_sub, show ((2 ^ k : Nat) : Int) - ((1 : Nat) : Int) = ((2 ^ k - 1 : Nat) : Int) by omega, wrapU (by omega)]
  exact hK _ he1
theorem vec_spec {k n : Nat} {x : Int} (hn : n < 18446744073709551616) (h1 : 1 ≤ k) (h2 : k ≤ 4) (hK : ∀ w', Ext w w' → K (VecV k (n % 2 ^ k : Nat)) w') : vcall PP n_impl_Vec_vec #[VecV k x, .int .u64 n] w K := by
  apply c_impl_Vec_vec; unfold F_impl_Vec_vec
  have hp := pow4 h1 h2
  have hm : n % 2 ^ k < 2 ^ k := Nat.mod_lt _ (by omega)
  refine vbox_agg fun b1 w1 hb1 he1 hs1 hq1 => ?_
  refine valloc_agg zr_impl_Vec fun b2 w2 hb2 he2 hs2 hq2 => ?_
  refine vdraw_ext fun w3 he3 _ => ?_
  have q1 := (hq1.ext he2).ext he3
  have q2 := hq2.ext he3
  simp (disch := (simp only [push_cast]; done)) only [push_cast, q1.ld0, true_and]
  refine cut_spec hn h1 h2 ?_
  obtain ⟨m, hm0⟩ : ∃ m, m = n % 2 ^ k := ⟨_, rfl⟩
  rw [← hm0] at hm hK ⊢
  simp (disch := (simp only [push_cast]; done)) only [push_cast, q1.ld0, true_and, and_self]
  rw [vconv_int sm_impl_raw ik_int, wrapN (by omega)]
  simp only [push_cast, true_and]
  refine stVec q2 fun w4 hw4 _ q3 => ?_
  rw [q3.lv (by kernel_rfl)]
  exact hK _ (Ext.then ((he1.trans he2).trans he3) hw4 fun y hy => by subst hy; omega)
theorem strF_low {k n : Nat} (h1 : 1 ≤ k) (h2 : k ≤ 4) (hn : n < 2 ^ k) : n ||| ((18446744073709551615 - (2 ^ k - 1)) &&& 4294967295) = n + (4294967296 - 2 ^ k) := by
  have hall : ∀ v : Fin 5, ∀ a : Fin 16, 1 ≤ v.1 → a.1 < 2 ^ v.1 → a.1 ||| ((18446744073709551615 - (2 ^ v.1 - 1)) &&& 4294967295) = a.1 + (4294967296 - 2 ^ v.1) := by decide +kernel
  have hp := pow4 h1 h2
  exact hall ⟨k, by omega⟩ ⟨n, by omega⟩ h1 hn
theorem top_bit {k n : Nat} (h1 : 1 ≤ k) (h2 : k ≤ 4) (hn : n < 2 ^ k) : decide (n / 2 ^ (k - 1) % 2 = 1) = decide (¬ n < 2 ^ (k - 1)) := by
  have hall : ∀ v : Fin 5, ∀ a : Fin 16, 1 ≤ v.1 → a.1 < 2 ^ v.1 → decide (a.1 / 2 ^ (v.1 - 1) % 2 = 1) = decide (¬ a.1 < 2 ^ (v.1 - 1)) := by decide +kernel
  have hp := pow4 h1 h2
  exact hall ⟨k, by omega⟩ ⟨n, by omega⟩ h1 hn
/-- A number whose highest bit goes on above. -/
def strN (k n : Nat) : Nat := if n < 2 ^ (k - 1) then n else n + (4294967296 - 2 ^ k)
theorem stretched_spec {k n : Nat} (h1 : 1 ≤ k) (h2 : k ≤ 4) (hn : n < 2 ^ k) (hK : ∀ w', Ext w w' → K (.int .u64 (strN k n : Nat)) w') : vcall PP n_impl_Vec_stretched #[VecV k n] w K := by
  apply c_impl_Vec_stretched; unfold F_impl_Vec_stretched
  have hp := pow4 h1 h2
  refine vbox_agg fun b1 w1 hb1 he1 hs1 hq1 => ?_
  refine vdraw_ext fun w3 he3 _ => ?_
  have q1 := hq1.ext he3
  simp (disch := (simp only [push_cast]; done)) only [push_cast, q1.ld0, q1.ldAgg (t := T_impl_Vec) g_impl_Vec, true_and]
  have e1 : IntKind.i64.wrap ((k : Int) - 1) = ((k - 1 : Nat) : Int) := by rw [wrap64 (by omega) (by omega)]; omega
  rw [e1]
  refine raw_spec (by omega) fun w4 he4 => ?_
  have q2 := q1.ext he4
  simp (disch := (simp only [push_cast]; done)) only [push_cast, q2.ld0, true_and, e1]
  refine bit_spec (by omega) (by omega) ?_
  rw [top_bit h1 h2 hn]
  refine vif_dec (fun a1 => ?_) (fun a1 => ?_)
  · refine vdraw_ext fun w5 he5 _ => ?_
    have q3 := q2.ext he5
    simp (disch := (simp only [push_cast]; done)) only [push_cast, q3.ldAgg (t := T_impl_Vec) g_impl_Vec, true_and]
    refine raw_spec (by omega) fun w6 he6 => ?_
    have q4 := q3.ext he6
    simp (disch := (simp only [push_cast]; done)) only [push_cast, q4.ldAgg (t := T_impl_Vec) g_impl_Vec, true_and]
    refine ones_spec h1 h2 fun w7 he7 => ?_
    rw [vun_xorU (by omega)]
    refine ⟨rfl, ?_⟩
    rw [show (4294967295 : Int) = ((4294967295 : Nat) : Int) from rfl, vbin_andU (by omega) (by omega)]
    refine ⟨rfl, ?_⟩
    have hle : (18446744073709551615 - (2 ^ k - 1)) &&& 4294967295 ≤ 4294967295 := Nat.and_le_right
    rw [vbin_orU (by omega) (by omega)]
    refine ⟨rfl, ?_⟩
    have := hK w7 (((((he1.trans he3).trans he4).trans he5).trans he6).trans he7)
    unfold strN at this
    rw [if_neg a1] at this
    rw [strF_low h1 h2 hn]
    exact this
  · simp (disch := (simp only [push_cast]; done)) only [push_cast, q2.ldAgg (t := T_impl_Vec) g_impl_Vec, true_and]
    refine raw_spec (by omega) fun w6 he6 => ?_
    have := hK w6 (((he1.trans he3).trans he4).trans he6)
    unfold strN at this
    rw [if_pos (by omega)] at this
    exact this
theorem pre2 {k a b : Nat} (ha : a < 16) (hb : b < 16) {X : Value → Value → World → Prop} (hX : ∀ w', Ext w w' → X (.int .u64 a) (.int .u64 b) w') :
    vbox PP T_impl_Vec (VecV k a) w fun t2 w_1 =>
    vbox PP T_impl_Vec (VecV k b) w_1 fun t3 w_2 =>
    vdraw w_2 fun w_3 =>
    vload PP T_impl_Vec t2 w_3 fun t5 w_4 => w_4 = w_3 ∧
    vload PP T_impl_Vec t3 w_3 fun t7 w_5 => w_5 = w_3 ∧
    vcall PP n_impl_Vec_raw #[t5] w_3 fun t6 w_6 => (vload PP T_impl_Vec t3 w_6 fun v x => v = t7 ∧ x = w_6) ∧
    vcall PP n_impl_Vec_raw #[t7] w_6 fun t8 w_7 => X t6 t8 w_7 := by
  refine vbox_agg fun b1 w1 hb1 he1 hs1 hq1 => ?_
  refine vbox_agg fun b2 w2 hb2 he2 hs2 hq2 => ?_
  refine vdraw_ext fun w3 he3 _ => ?_
  have q1 := (hq1.ext he2).ext he3
  have q2 := hq2.ext he3
  simp (disch := (simp only [push_cast]; done)) only [push_cast, q1.ldAgg (t := T_impl_Vec) g_impl_Vec, q2.ldAgg (t := T_impl_Vec) g_impl_Vec, true_and]
  refine raw_spec (by omega) fun w4 he4 => ?_
  have q3 := q2.ext he4
  simp (disch := (simp only [push_cast]; done)) only [push_cast, q3.ldAgg (t := T_impl_Vec) g_impl_Vec, true_and, and_self]
  refine raw_spec (by omega) fun w5 he5 => ?_
  exact hX _ ((((he1.trans he2).trans he3).trans he4).trans he5)
theorem pow16 {k a : Nat} (h2 : k ≤ 4) (ha : a < 2 ^ k) : a < 16 := by
  have : 2 ^ k ≤ 2 ^ 4 := Nat.pow_le_pow_right (by omega) h2
  omega
/-- An operation on two numbers of k bits. -/
def OpR (K : Value → World → Prop) (w : World) (op k a b : Nat) : Prop := ∀ w' (r : Nat), Ext w w' → r < 18446744073709551616 → r % 2 ^ k = M.binN op k a b → K (.int .u64 r) w'
theorem bin_ck {f : Nat → Nat → Nat → Nat} {op : Nat} (h : ∀ v : Fin 5, (List.range 16).all (fun a => (List.range 16).all fun b => !(decide (1 ≤ v.1) && decide (a < 2 ^ v.1) && decide (b < 2 ^ v.1)) || decide (f v.1 a b % 2 ^ v.1 = M.binN op v.1 a b)) = true) {k a b : Nat} (h1 : 1 ≤ k) (h2 : k ≤ 4) (ha : a < 2 ^ k) (hb : b < 2 ^ k) : f k a b % 2 ^ k = M.binN op k a b := by
  have := h ⟨k, by omega⟩
  simp only [List.all_eq_true, List.mem_range, Bool.or_eq_true, Bool.not_eq_true', Bool.and_eq_false_iff, decide_eq_false_iff_not, decide_eq_true_eq] at this
  rcases this a (pow16 h2 ha) b (pow16 h2 hb) with (⟨h | h⟩ | h) | h
  · exact absurd h1 h
  · exact absurd ha h
  · exact absurd hb h
  · exact h
theorem mul225 {a b : Nat} (ha : a < 16) (hb : b < 16) : a * b ≤ 225 := by
  have := Nat.mul_le_mul (show a ≤ 15 by omega) (show b ≤ 15 by omega)
  omega
theorem shl_small {a b : Nat} (ha : a < 16) (hb : b < 16) : a * 2 ^ b ≤ 524288 := by
  have h1 : 2 ^ b ≤ 2 ^ 15 := Nat.pow_le_pow_right (by omega) (by omega)
  have := Nat.mul_le_mul (show a ≤ 15 by omega) h1
  omega
theorem strN_lt {k n : Nat} (h1 : 1 ≤ k) (h2 : k ≤ 4) (hn : n < 2 ^ k) : strN k n < 4294967296 := by
  have := pow4 h1 h2
  unfold strN; split <;> omega
theorem binaries_1_spec {k a b : Nat} (h1 : 1 ≤ k) (h2 : k ≤ 4) (ha : a < 2 ^ k) (hb : b < 2 ^ k) (hK : OpR K w 3 k a b) : vcall PP n_impl_binaries_1 #[VecV k a, VecV k b] w K := by
  have ha16 := pow16 h2 ha
  have hb16 := pow16 h2 hb
  have hp := pow4 h1 h2
  apply c_impl_binaries_1; unfold F_impl_binaries_1
  refine pre2 ha16 hb16 fun w1 he => ?_
  rw [vbin_andU (by omega) (by omega)]
  exact ⟨rfl, hK _ _ he (Nat.lt_of_le_of_lt Nat.and_le_left (by omega)) (bin_ck (f := fun k a b => a &&& b) (by decide +kernel) h1 h2 ha hb)⟩
theorem binaries_2_spec {k a b : Nat} (h1 : 1 ≤ k) (h2 : k ≤ 4) (ha : a < 2 ^ k) (hb : b < 2 ^ k) (hK : OpR K w 4 k a b) : vcall PP n_impl_binaries_2 #[VecV k a, VecV k b] w K := by
  have ha16 := pow16 h2 ha
  have hb16 := pow16 h2 hb
  have hp := pow4 h1 h2
  apply c_impl_binaries_2; unfold F_impl_binaries_2
  refine pre2 ha16 hb16 fun w1 he => ?_
  rw [vbin_orU (by omega) (by omega)]
  exact ⟨rfl, hK _ _ he (Nat.lt_trans (Nat.or_lt_two_pow (n := 4) ha16 hb16) (by decide)) (bin_ck (f := fun k a b => a ||| b) (by decide +kernel) h1 h2 ha hb)⟩
theorem binaries_3_spec {k a b : Nat} (h1 : 1 ≤ k) (h2 : k ≤ 4) (ha : a < 2 ^ k) (hb : b < 2 ^ k) (hK : OpR K w 5 k a b) : vcall PP n_impl_binaries_3 #[VecV k a, VecV k b] w K := by
  have ha16 := pow16 h2 ha
  have hb16 := pow16 h2 hb
  have hp := pow4 h1 h2
  apply c_impl_binaries_3; unfold F_impl_binaries_3
  refine pre2 ha16 hb16 fun w1 he => ?_
  rw [vbin_xorU (by omega) (by omega)]
  exact ⟨rfl, hK _ _ he (Nat.lt_trans (Nat.xor_lt_two_pow (n := 4) ha16 hb16) (by decide)) (bin_ck (f := fun k a b => a ^^^ b) (by decide +kernel) h1 h2 ha hb)⟩
theorem binaries_4_spec {k a b : Nat} (h1 : 1 ≤ k) (h2 : k ≤ 4) (ha : a < 2 ^ k) (hb : b < 2 ^ k) (hK : OpR K w 6 k a b) : vcall PP n_impl_binaries_4 #[VecV k a, VecV k b] w K := by
  have ha16 := pow16 h2 ha
  have hb16 := pow16 h2 hb
  have hp := pow4 h1 h2
  apply c_impl_binaries_4; unfold F_impl_binaries_4
  refine pre2 ha16 hb16 fun w1 he => ?_
  rw [vbin_add, show (a : Int) + (b : Int) = ((a + b : Nat) : Int) by omega, wrapU (by omega)]
  exact ⟨rfl, hK _ _ he (by omega) (bin_ck (f := fun k a b => a + b) (by decide +kernel) h1 h2 ha hb)⟩
theorem binaries_5_spec {k a b : Nat} (h1 : 1 ≤ k) (h2 : k ≤ 4) (ha : a < 2 ^ k) (hb : b < 2 ^ k) (hK : OpR K w 7 k a b) : vcall PP n_impl_binaries_5 #[VecV k a, VecV k b] w K := by
  have ha16 := pow16 h2 ha
  have hb16 := pow16 h2 hb
  have hp := pow4 h1 h2
  apply c_impl_binaries_5; unfold F_impl_binaries_5
  refine pre2 ha16 hb16 fun w1 he => ?_
  have e : IntKind.u64.wrap ((a : Int) - (b : Int)) = ((if b ≤ a then a - b else 18446744073709551616 + a - b : Nat) : Int) := by
    simp only [IntKind.wrap, IntKind.bits, IntKind.signed, Bool.false_and, Bool.false_eq_true, if_false]
    split <;> omega
  rw [vbin_sub, e]
  exact ⟨rfl, hK _ _ he (by split <;> omega) (bin_ck (f := fun k a b => if b ≤ a then a - b else 18446744073709551616 + a - b) (by decide +kernel) h1 h2 ha hb)⟩
theorem binaries_6_spec {k a b : Nat} (h1 : 1 ≤ k) (h2 : k ≤ 4) (ha : a < 2 ^ k) (hb : b < 2 ^ k) (hK : OpR K w 8 k a b) : vcall PP n_impl_binaries_6 #[VecV k a, VecV k b] w K := by
  have ha16 := pow16 h2 ha
  have hb16 := pow16 h2 hb
  have hp := pow4 h1 h2
  apply c_impl_binaries_6; unfold F_impl_binaries_6
  refine pre2 ha16 hb16 fun w1 he => ?_
  have hm := mul225 ha16 hb16
  rw [vbin_mul, show (a : Int) * (b : Int) = ((a * b : Nat) : Int) by simp, wrapU (by omega)]
  exact ⟨rfl, hK _ _ he (by omega) (bin_ck (f := fun k a b => a * b) (by decide +kernel) h1 h2 ha hb)⟩
theorem binaries_7_spec {k a b : Nat} (h1 : 1 ≤ k) (h2 : k ≤ 4) (ha : a < 2 ^ k) (hb : b < 2 ^ k) (hK : OpR K w 9 k a b) : vcall PP n_impl_binaries_7 #[VecV k a, VecV k b] w K := by
  have ha16 := pow16 h2 ha
  have hb16 := pow16 h2 hb
  have hp := pow4 h1 h2
  apply c_impl_binaries_7; unfold F_impl_binaries_7
  refine vbox_agg fun b1 w1 hb1 he1 hs1 hq1 => ?_
  refine vbox_agg fun b2 w2 hb2 he2 hs2 hq2 => ?_
  have q1 := hq1.ext he2
  simp (disch := (simp only [push_cast]; done)) only [push_cast, hq2.ld1]
  refine vif_dec (fun a1 => ?_) (fun a1 => ?_)
  · simp (disch := (simp only [push_cast]; done)) only [push_cast, q1.ldAgg (t := T_impl_Vec) g_impl_Vec]
    refine ones_spec h1 h2 fun w3 he3 => hK _ _ ((he1.trans he2).trans he3) (by omega) ?_
    have : b = 0 := by omega
    subst this
    rw [Nat.mod_eq_of_lt (by omega)]
    simp [M.binN]
  · refine vdraw_ext fun w3 he3 _ => ?_
    have r1 := q1.ext he3
    have r2 := hq2.ext he3
    simp (disch := (simp only [push_cast]; done)) only [push_cast, r1.ldAgg (t := T_impl_Vec) g_impl_Vec, r2.ldAgg (t := T_impl_Vec) g_impl_Vec, true_and]
    refine raw_spec (by omega) fun w4 he4 => ?_
    have r3 := r2.ext he4
    simp (disch := (simp only [push_cast]; done)) only [push_cast, r3.ldAgg (t := T_impl_Vec) g_impl_Vec, true_and, and_self]
    refine raw_spec (by omega) fun w5 he5 => ?_
    have hd : a / b ≤ a := Nat.div_le_self _ _
    rw [vbin_quo (by omega), show (a : Int).tdiv (b : Int) = ((a / b : Nat) : Int) from rfl, wrapU (by omega)]
    refine ⟨rfl, hK _ _ ((((he1.trans he2).trans he3).trans he4).trans he5) (by omega) ?_⟩
    rw [Nat.mod_eq_of_lt (by omega)]
    simp [M.binN, show b ≠ 0 by omega]
theorem binaries_8_spec {k a b : Nat} (h1 : 1 ≤ k) (h2 : k ≤ 4) (ha : a < 2 ^ k) (hb : b < 2 ^ k) (hK : OpR K w 10 k a b) : vcall PP n_impl_binaries_8 #[VecV k a, VecV k b] w K := by
  have ha16 := pow16 h2 ha
  have hb16 := pow16 h2 hb
  have hp := pow4 h1 h2
  apply c_impl_binaries_8; unfold F_impl_binaries_8
  refine vbox_agg fun b1 w1 hb1 he1 hs1 hq1 => ?_
  refine vbox_agg fun b2 w2 hb2 he2 hs2 hq2 => ?_
  have q1 := hq1.ext he2
  simp (disch := (simp only [push_cast]; done)) only [push_cast, hq2.ld1]
  refine vif_dec (fun a1 => ?_) (fun a1 => ?_)
  · simp (disch := (simp only [push_cast]; done)) only [push_cast, q1.ldAgg (t := T_impl_Vec) g_impl_Vec]
    refine raw_spec (by omega) fun w3 he3 => hK _ _ ((he1.trans he2).trans he3) (by omega) ?_
    have : b = 0 := by omega
    subst this
    rw [Nat.mod_eq_of_lt (by omega)]
    simp [M.binN]
  · refine vdraw_ext fun w3 he3 _ => ?_
    have r1 := q1.ext he3
    have r2 := hq2.ext he3
    simp (disch := (simp only [push_cast]; done)) only [push_cast, r1.ldAgg (t := T_impl_Vec) g_impl_Vec, r2.ldAgg (t := T_impl_Vec) g_impl_Vec, true_and]
    refine raw_spec (by omega) fun w4 he4 => ?_
    have r3 := r2.ext he4
    simp (disch := (simp only [push_cast]; done)) only [push_cast, r3.ldAgg (t := T_impl_Vec) g_impl_Vec, true_and, and_self]
    refine raw_spec (by omega) fun w5 he5 => ?_
    have hd : a % b ≤ a := Nat.mod_le _ _
    rw [vbin_rem (by omega), show (a : Int).tmod (b : Int) = ((a % b : Nat) : Int) from rfl]
    refine ⟨rfl, hK _ _ ((((he1.trans he2).trans he3).trans he4).trans he5) (by omega) ?_⟩
    rw [Nat.mod_eq_of_lt (by omega)]
    simp [M.binN, show b ≠ 0 by omega]
theorem binaries_9_spec {k a b : Nat} (h1 : 1 ≤ k) (h2 : k ≤ 4) (ha : a < 2 ^ k) (hb : b < 2 ^ k) (hK : OpR K w 11 k a b) : vcall PP n_impl_binaries_9 #[VecV k a, VecV k b] w K := by
  have ha16 := pow16 h2 ha
  have hb16 := pow16 h2 hb
  have hp := pow4 h1 h2
  apply c_impl_binaries_9; unfold F_impl_binaries_9
  refine pre2 ha16 hb16 fun w1 he => ?_
  have hm := shl_small ha16 hb16
  rw [vbin_shlU (by omega) (by omega)]
  exact ⟨rfl, hK _ _ he (by omega) (bin_ck (f := fun k a b => a * 2 ^ b) (by decide +kernel) h1 h2 ha hb)⟩
theorem binaries_10_spec {k a b : Nat} (h1 : 1 ≤ k) (h2 : k ≤ 4) (ha : a < 2 ^ k) (hb : b < 2 ^ k) (hK : OpR K w 12 k a b) : vcall PP n_impl_binaries_10 #[VecV k a, VecV k b] w K := by
  have ha16 := pow16 h2 ha
  have hb16 := pow16 h2 hb
  have hp := pow4 h1 h2
  apply c_impl_binaries_10; unfold F_impl_binaries_10
  refine pre2 ha16 hb16 fun w1 he => ?_
  have hm := Nat.div_le_self a (2 ^ b)
  rw [vbin_shrU (by omega)]
  exact ⟨rfl, hK _ _ he (by omega) (bin_ck (f := fun k a b => a / 2 ^ b) (by decide +kernel) h1 h2 ha hb)⟩
theorem binaries_11_spec {k a b : Nat} (h1 : 1 ≤ k) (h2 : k ≤ 4) (ha : a < 2 ^ k) (hb : b < 2 ^ k) (hK : OpR K w 13 k a b) : vcall PP n_impl_binaries_11 #[VecV k a, VecV k b] w K := by
  have ha16 := pow16 h2 ha
  have hb16 := pow16 h2 hb
  have hp := pow4 h1 h2
  apply c_impl_binaries_11; unfold F_impl_binaries_11
  refine vbox_agg fun b1 w1 hb1 he1 hs1 hq1 => ?_
  refine vbox_agg fun b2 w2 hb2 he2 hs2 hq2 => ?_
  refine vdraw_ext fun w3 he3 _ => ?_
  have r1 := (hq1.ext he2).ext he3
  have r2 := hq2.ext he3
  simp (disch := (simp only [push_cast]; done)) only [push_cast, r1.ldAgg (t := T_impl_Vec) g_impl_Vec, r2.ldAgg (t := T_impl_Vec) g_impl_Vec, true_and]
  refine stretched_spec h1 h2 ha fun w4 he4 => ?_
  have r3 := r2.ext he4
  simp (disch := (simp only [push_cast]; done)) only [push_cast, r3.ldAgg (t := T_impl_Vec) g_impl_Vec, true_and, and_self]
  refine raw_spec (by omega) fun w5 he5 => ?_
  have hs := strN_lt h1 h2 ha
  have hm := Nat.div_le_self (strN k a) (2 ^ b)
  rw [vbin_shrU (by omega)]
  exact ⟨rfl, hK _ _ ((((he1.trans he2).trans he3).trans he4).trans he5) (by omega) (bin_ck (f := fun k a b => strN k a / 2 ^ b) (by decide +kernel) h1 h2 ha hb)⟩
end Go.Proofs.YtbiabimalkkeiaaGreatDoor
