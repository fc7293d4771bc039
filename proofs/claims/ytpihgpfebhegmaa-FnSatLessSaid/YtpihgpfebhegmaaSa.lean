/- Contracts of the reference, chapters 4 and 5: validity of clauses, signs, looking at clauses. -/
import Derived.Test.YtpihgpfebhegmaaLb
import Derived.Test.YtpihgpfebhegmaaM9
set_option linter.unusedVariables false
set_option linter.unusedSimpArgs false
set_option linter.unnecessarySimpa false
set_option linter.unusedSectionVars false
namespace Go.Proofs.Ytpihgpfebhegmaa
open Go Go.Vc Go.Proofs Go.M
variable {w : World} {K : Value → World → Prop} {F Fr : Nat → Prop} {many : Nat} {c : Cnf} {s : Sat}
theorem l4Abs_spec {x : Int} (h : x.natAbs ≤ 9223372036854775807) (hK : K (.int .i64 x.natAbs) w) : vcall PP n_spec_l4Abs #[.int .i64 x] w K := by
  apply c_spec_l4Abs; unfold F_spec_l4Abs
  simp only [push_cast]
  refine vif_dec (fun a => ?_) (fun a => ?_)
  · rw [wrap64 (by omega) (by omega), show 0 - x = (x.natAbs : Int) from by omega]; exact hK
  · rwa [show (x.natAbs : Int) = x from by omega] at hK
theorem l4Clause_spec {v : Value} {xs : List Int} {m : Int} (hx : Ints F w v xs) (h0 : 0 ≤ m) (h1 : m ≤ 9223372036854775807) (hK : K (.bool (clauseOk m xs)) w) : vcall PP n_spec_l4Clause #[v, .int .i64 m] w K := by
  apply c_spec_l4Clause; unfold F_spec_l4Clause
  have hlen : xs.length ≤ 9223372036854775807 := by obtain ⟨_, _, _, h1, h2, _⟩ := hx.shape; simp at h1; omega
  have no : ∀ k, k < xs.length → (litOk m (xs.getD k 0) && (k == 0 || decide ((xs.getD (k - 1) 0).natAbs < (xs.getD k 0).natAbs))) = false → K (.bool false) w := fun k hk h => by
    rwa [clauseOk, allI_false hk h] at hK
  refine vloop_up xs.length (fun i u w' => w' = w ∧ u = [.int .i64 (if i = 0 then 0 else (xs.getD (i - 1) 0).natAbs : Nat), .int .i64 i] ∧ ∀ k, k < i → (litOk m (xs.getD k 0) && (k == 0 || decide ((xs.getD (k - 1) 0).natAbs < (xs.getD k 0).natAbs))) = true) ⟨rfl, rfl, by omega⟩ ?_
  rintro i _ _ _ C hi ⟨rfl, rfl, hp⟩ hC
  simp (disch := (simp only [push_cast]; done)) only [push_cast, hx.len]
  refine vif_dec (fun a => ?_) (fun a => ?_)
  · have hil : i < xs.length := by omega
    simp (disch := first | (simp only [push_cast]; done) | omega) only [push_cast, hx.iaddr, hx.load]
    have e1 : IntKind.i64.wrap (0 - m) = -m := by rw [wrap64 (by omega) (by omega)]; omega
    rw [e1]
    generalize hg : xs.getD i 0 = x at *
    refine vif_dec (fun b => no i hil ?_) (fun b => vif_dec (fun b2 => no i hil ?_) (fun b2 => ?_))
    · rw [hg]; simp only [litOk, Bool.and_eq_false_iff, decide_eq_false_iff_not]; left; omega
    · rw [hg]; simp only [litOk, Bool.and_eq_false_iff, decide_eq_false_iff_not]; left; omega
    refine l4Abs_spec (by omega) ?_
    simp only [push_cast]
    refine vif_dec (fun b3 => no i hil ?_) (fun b3 => ?_)
    · rw [hg]
      simp only [litOk, Bool.and_eq_false_iff, decide_eq_false_iff_not, Bool.or_eq_false_iff, beq_eq_false_iff_ne, ne_eq]
      by_cases hi0 : i = 0
      · rw [if_pos hi0] at b3; left; omega
      · rw [if_neg hi0] at b3; right; exact ⟨hi0, by omega⟩
    simp (disch := first | (simp only [push_cast]; done) | omega) only [push_cast, hx.iaddr, hx.load]
    rw [hg]
    refine l4Abs_spec (by omega) ?_
    have e2 : IntKind.i64.wrap ((i : Int) + 1) = ((i + 1 : Nat) : Int) := by rw [wrap64 (by omega) (by omega)]; omega
    simp only [vbin_add, e2]
    refine hC hil _ _ ⟨rfl, by rw [if_neg (by omega), Nat.add_sub_cancel, hg], fun k hk => ?_⟩
    by_cases hki : k = i
    · subst hki
      rw [hg]
      simp only [litOk, Bool.and_eq_true, decide_eq_true_eq, Bool.or_eq_true, beq_iff_eq]
      by_cases hi0 : k = 0
      · rw [if_pos hi0] at b3; exact ⟨by omega, .inl hi0⟩
      · rw [if_neg hi0] at b3; exact ⟨by omega, .inr (by omega)⟩
    · exact hp k (by omega)
  · rwa [clauseOk, allI_true (fun k hk => hp k (by omega))] at hK
theorem specCnfOk_spec {v : Value} {c : Cnf} (hc : CnfR F w v c) (hm : -9223372036854775808 ≤ c.many) (hm' : c.many ≤ 9223372036854775807) (hK : ∀ w', Ext w w' → K (.bool (cnfOk c)) w') : vcall PP n_spec_CnfOk #[v] w K := by
  apply c_spec_CnfOk; unfold F_spec_CnfOk
  obtain ⟨lv, rfl, hl⟩ := hc
  obtain ⟨vs, hvl, hvs, hi⟩ := hl
  refine vbox_new fun b w1 hb he hs hB => ?_
  have hB' : Blk w1 b [.int .i64 c.many, lv] T_impl_Cnf := hB
  have hK1 := hK w1 he
  have hvs1 := hvs.ext he
  refine vjoin_of (fun _ w' => w' = w1 ∧ 0 ≤ c.many ∧ c.many ≤ 700 ∧ c.list.length ≤ 2500) ?_ ?_
  · intro J hJ
    simp (disch := (simp only [push_cast]; done)) only [push_cast, hB'.ld0, hB'.ld1, hvs1.len]
    refine vif_dec (fun a => ?_) (fun a => ?_)
    · rwa [cnfOk, decide_eq_false (by omega : ¬ 0 ≤ c.many), Bool.false_and, Bool.false_and, Bool.false_and] at hK1
    refine vif_dec (fun a2 => ?_) (fun a2 => ?_)
    · rwa [cnfOk, decide_eq_false (by omega : ¬ c.many ≤ 700), Bool.and_false, Bool.false_and, Bool.false_and] at hK1
    refine vif_dec (fun a3 => ?_) (fun a3 => ?_)
    · rwa [cnfOk, decide_eq_false (by omega : ¬ c.list.length ≤ 2500), Bool.and_false, Bool.false_and] at hK1
    exact hJ _ _ ⟨rfl, by omega, by omega, by omega⟩
  rintro _ _ _ ⟨rfl, h0, h7, h25⟩
  refine vloop_up c.list.length (fun i u w' => u = [.int .i64 i] ∧ Ext w w' ∧ Blk w' b [.int .i64 c.many, lv] T_impl_Cnf ∧ ∀ k, k < i → clauseOk c.many (c.list.getD k []) = true) ⟨rfl, he, hB', by omega⟩ ?_
  rintro i _ _ w2 C hi' ⟨rfl, he2, hB2, hp⟩ hC
  have hvs2 := hvs.ext he2
  simp (disch := (simp only [push_cast]; done)) only [push_cast, hB2.ld1, hvs2.len]
  refine vif_dec (fun a => ?_) (fun a => ?_)
  · have hil : i < c.list.length := by omega
    refine vdraw_ext fun w3 he3 _ => ?_
    have hB3 := hB2.ext he3
    have hvs3 := hvs2.ext he3
    simp (disch := first | (simp only [push_cast]; done) | omega) only [push_cast, hB3.ld0, hB3.ld1, hvs3.iaddr, hvs3.load, true_and]
    refine l4Clause_spec ((hi i hil).ext (he2.trans he3)) h0 hm' ?_
    simp only [push_cast, true_and]
    refine vif_bool (fun b4 => ?_) (fun b4 => ?_)
    · have := hK w3 (he2.trans he3)
      rw [cnfOk, allI_false hil (by simpa using b4), Bool.and_false] at this
      exact this
    · have e2 : IntKind.i64.wrap ((i : Int) + 1) = ((i + 1 : Nat) : Int) := by rw [wrap64 (by omega) (by omega)]; omega
      rw [e2]
      refine hC hil _ _ ⟨rfl, he2.trans he3, hB3, fun k hk => ?_⟩
      by_cases hki : k = i
      · subst hki; simpa using b4
      · exact hp k (by omega)
  · have := hK w2 he2
    rwa [cnfOk, decide_eq_true h0, decide_eq_true h7, decide_eq_true h25, allI_true (fun k hk => hp k (by omega))] at this
theorem l5Vals_spec {vc v : Value} {put : List Int} (hc : CnfR F w vc c) (hcm : c.many = many) (h700 : many ≤ 700) (hx : Ints Fr w v put) (hm : marksOk many put)
    (hK : ∀ w' v', Ext w w' → OwnI PP T_Lint w' v' (signs many put) → (∀ x, v'.ownBlock = some x → w.heap.size ≤ x) → K v' w') : vcall PP n_spec_l5Vals #[vc, v] w K := by
  apply c_spec_l5Vals; unfold F_spec_l5Vals
  obtain ⟨lv, rfl, -⟩ := hc
  have hlen := hm.len
  refine vbox_new fun b w1 hb he1 hz1 hB => ?_
  have hB1 : Blk w1 b [.int .i64 c.many, lv] T_impl_Cnf := hB
  simp (disch := (simp only [push_cast]; done)) only [push_cast, hB1.ld0]
  rw [hcm, wrap64 (by omega) (by omega), show ((many : Int) + 1) = ((many + 1 : Nat) : Int) from by omega]
  refine vmkS_own (bs := 8) l_Lint eo_Lint zr_int rfl (by omega) (by omega) fun v1 w2 h2 he2 hn2 => ?_
  have h2' : OwnI PP T_Lint w2 v1 (signs many []) := by rw [signs_nil]; unfold OwnI; rw [List.map_replicate]; exact h2
  have hz1' := he1.size
  refine vloop_up put.length (fun i u w' => u = [.int .i64 i] ∧ Ext w w' ∧ OwnI PP T_Lint w' v1 (signs many (put.take i))) ⟨rfl, he1.trans he2, by simpa using h2'⟩ ?_
  rintro i _ _ w3 C hi ⟨rfl, he3, hv⟩ hC
  have hx3 := hx.ext he3
  have hsl := signs_len many (put.take i)
  simp (disch := (simp only [push_cast]; done)) only [push_cast, hx3.len]
  refine vif_dec (fun a => ?_) (fun a => ?_)
  · have hil : i < put.length := by omega
    simp (disch := first | (simp only [push_cast]; done) | omega) only [push_cast, hx3.iaddr, hx3.load]
    have hb := hm.2 _ (getD_mem hil)
    have hts := M.take_snoc' (d := 0) hil
    have hd := distinct_take hm.1 (i + 1)
    have hfree : placeOf (put.take i) (put.getD i 0).natAbs = 0 := by
      refine placeOf_zero fun x hx e => ?_
      rw [hts] at hd
      unfold Distinct at hd
      rw [List.map_append, List.nodup_append] at hd
      exact hd.2.2 _ (List.mem_map_of_mem hx) _ (by simp) e
    have hss := signs_snoc (many := many) hb.1 hfree
    rw [← hts] at hss
    have hvi := hv.ints
    have e2 : IntKind.i64.wrap ((i : Int) + 1) = ((i + 1 : Nat) : Int) := by rw [wrap64 (by omega) (by omega)]; omega
    generalize hg : put.getD i 0 = x at *
    refine vif_dec (fun b3 => ?_) (fun b3 => ?_)
    · simp (disch := first | (simp only [push_cast]; done) | omega) only [push_cast, hvi.iaddr]
      rw [show x.toNat = x.natAbs from by omega]
      refine hv.st z_int (by omega) fun w4 hv4 hs4 hz4 => ?_
      rw [if_pos b3] at hss
      simp only [push_cast, e2]
      exact hC hil _ _ ⟨rfl, Ext.then he3 hs4 fun x hx => by have := hn2 x hx; omega, by rw [hss]; exact hv4⟩
    · have e3 : IntKind.i64.wrap (0 - x) = (x.natAbs : Int) := by rw [wrap64 (by omega) (by omega)]; omega
      rw [e3]
      simp (disch := first | (simp only [push_cast]; done) | omega) only [push_cast, hvi.iaddr]
      refine hv.st z_int (by omega) fun w4 hv4 hs4 hz4 => ?_
      rw [if_neg b3] at hss
      simp only [push_cast, e2]
      exact hC hil _ _ ⟨rfl, Ext.then he3 hs4 fun x hx => by have := hn2 x hx; omega, by rw [hss]; exact hv4⟩
  · rw [List.take_of_length_le (by omega)] at hv
    exact hK w3 v1 he3 hv fun x hx => by have := hn2 x hx; omega
theorem l5Sign_spec {v : Value} {put : List Int} {m : Int} (hx : Ints F w v (signs many put)) (hm : marksOk many put) (h700 : many ≤ 700) (h0 : m ≠ 0) (hb : m.natAbs ≤ many) (hK : K (.int .i64 (sgnL put m)) w) : vcall PP n_spec_l5Sign #[v, .int .i64 m] w K := by
  apply c_spec_l5Sign; unfold F_spec_l5Sign
  have hsl := signs_len many put
  simp only [push_cast]
  refine vif_dec (fun a => ?_) (fun a => ?_)
  · simp (disch := first | (simp only [push_cast]; done) | omega) only [push_cast, hx.iaddr, hx.load]
    rw [show m.toNat = m.natAbs from by omega, signs_get hb, sgn_pos hm a]
    exact hK
  · have e3 : IntKind.i64.wrap (0 - m) = (m.natAbs : Int) := by rw [wrap64 (by omega) (by omega)]; omega
    rw [e3]
    simp (disch := first | (simp only [push_cast]; done) | omega) only [push_cast, hx.iaddr, hx.load]
    have := sgnV_range put m.natAbs
    rw [signs_get hb, wrap64 (by omega) (by omega), Int.zero_sub, sgn_neg hm (by omega)]
    exact hK
theorem l5Look_spec {v v' : Value} {put cl : List Int} (hx : Ints F w v (signs many put)) (hm : marksOk many put) (h700 : many ≤ 700) (hcl : Ints Fr w v' cl) (hb : ∀ l, l ∈ cl → l ≠ 0 ∧ l.natAbs ≤ many)
    (hK : ∀ b n x, lookM put cl 0 0 = (b, n, x) → K (.tuple #[.int .i64 (if b then -1 else (n : Int)), .int .i64 (if b then 0 else x)]) w) : vcall PP n_spec_l5Look #[v, v'] w K := by
  apply c_spec_l5Look; unfold F_spec_l5Look
  have hlen : cl.length ≤ 9223372036854775807 := by obtain ⟨_, _, _, h1, h2, _⟩ := hcl.shape; simp at h1; omega
  refine vloop_up cl.length (fun i u w' => w' = w ∧ ∃ (n : Nat) (x : Int), u = [.int .i64 n, .int .i64 x, .int .i64 i] ∧ n ≤ i ∧ lookM put (cl.drop i) n x = lookM put cl 0 0) ⟨rfl, 0, 0, rfl, by omega, rfl⟩ ?_
  rintro i _ _ _ C hi ⟨rfl, n, x, rfl, hn, hr⟩ hC
  simp (disch := (simp only [push_cast]; done)) only [push_cast, hcl.len]
  refine vif_dec (fun a => ?_) (fun a => ?_)
  · have hil : i < cl.length := by omega
    simp (disch := first | (simp only [push_cast]; done) | omega) only [push_cast, hcl.iaddr, hcl.load]
    have hbb := hb _ (getD_mem hil)
    rw [drop_cons (d := 0) hil, lookM_cons] at hr
    refine l5Sign_spec hx hm h700 hbb.1 hbb.2 ?_
    have e2 : IntKind.i64.wrap ((i : Int) + 1) = ((i + 1 : Nat) : Int) := by rw [wrap64 (by omega) (by omega)]; omega
    have e3 : IntKind.i64.wrap ((n : Int) + 1) = ((n + 1 : Nat) : Int) := by rw [wrap64 (by omega) (by omega)]; omega
    generalize hg : cl.getD i 0 = l at *
    simp only [vbin_gtr, vbin_eql]
    unfold sgnL
    by_cases h1 : l ∈ put
    · rw [if_pos h1] at hr ⊢
      have := hK true 0 0 hr.symm
      exact vif_dec (fun _ => by simpa using this) (fun b => absurd (by decide : (0 : Int) < 1) b)
    rw [if_neg h1] at hr ⊢
    by_cases h2 : placeOf put l.natAbs = 0
    · rw [if_pos h2] at hr ⊢
      refine vif_dec (fun b => absurd b (by omega)) (fun _ => vif_dec (fun _ => ?_) (fun b => absurd rfl b))
      simp (disch := first | (simp only [push_cast]; done) | omega) only [push_cast, hcl.load]
      rw [e2, e3, hg]
      exact hC hil _ _ ⟨rfl, n + 1, l, rfl, by omega, hr⟩
    · rw [if_neg h2] at hr ⊢
      refine vif_dec (fun b => absurd b (by omega)) (fun _ => vif_dec (fun b => absurd b (by omega)) (fun _ => ?_))
      rw [e2]
      exact hC hil _ _ ⟨rfl, n, x, rfl, by omega, hr⟩
  · rw [List.drop_eq_nil_of_le (by omega)] at hr
    have := hK false n x hr.symm
    simpa using this
end Go.Proofs.Ytpihgpfebhegmaa
