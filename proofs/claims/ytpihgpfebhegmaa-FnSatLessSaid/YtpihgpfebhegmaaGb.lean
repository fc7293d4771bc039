/- The law FnSatMore: searches are monotone in fuel. -/
import Derived.Test.YtpihgpfebhegmaaGa
import Derived.Test.YtpihgpfebhegmaaLl
set_option linter.unusedVariables false
set_option linter.unusedSimpArgs false
set_option linter.unnecessarySimpa false
set_option linter.unusedSectionVars false
namespace Go.Proofs.Ytpihgpfebhegmaa
open Go Go.Vc Go.Proofs Go.M
variable {w : World} {K : Value → World → Prop} {F Fr F' : Nat → Prop} {c : Cnf} {s : Sat}
theorem step_learned (many : Nat) (c : Cnf) (s : Sat) : ∃ t, (stepM many c s).learned = s.learned ++ t := by
  unfold stepM
  split
  · unfold goM
    split
    split
    · unfold clashM
      split
      · exact ⟨[], by simp⟩
      · split
        · exact ⟨[], by simp⟩
        · exact ⟨_, rfl⟩
    · split
      · exact ⟨[], by simp⟩
      · split <;> exact ⟨[], by simp⟩
  · exact ⟨[], by simp⟩
theorem run_learned (many : Nat) (c : Cnf) : ∀ (n : Nat) (s : Sat), ∃ t, (runM many c n s).learned = s.learned ++ t
  | 0, s => ⟨[], by simp [runM]⟩
  | n + 1, s => by
    obtain ⟨t1, h1⟩ := step_learned many c s
    obtain ⟨t2, h2⟩ := run_learned many c n (stepM many c s)
    exact ⟨t1 ++ t2, by rw [runM, h2, h1, List.append_assoc]⟩
/-- What the laws on searches begin with. -/
structure LawS (w w' : World) (b3 b5 : Nat) (c : Cnf) (fuel : Int) (lv p y l : Value) : Prop where
  E : Ext w w'
  lo : w.heap.size ≤ b3 ∧ w.heap.size ≤ b5
  ne : b3 ≠ b5
  B : Blk w' b3 [.int .i64 c.many, lv] T_impl_Cnf
  A : Blk w' b5 [p, y, l, .int .i64 (runA c fuel).code] T_impl_Sat
  hc : CnfR (fun x => w.heap.size ≤ x ∧ x ≠ b3 ∧ x ≠ b5) w' (.agg #[.int .i64 c.many, lv]) c
  hv : SatR (fun x => w.heap.size ≤ x ∧ x ≠ b5) w' (.agg #[p, y, l, .int .i64 (runA c fuel).code]) (runA c fuel)
  m0 : -9223372036854775808 ≤ c.many
  m1 : c.many ≤ 9223372036854775807
  f0 : -1 ≤ fuel
  f1 : fuel ≤ 4001
  few : c.list.length ≤ 1000
  short : ∀ x, x ∈ c.list → x.length ≤ 7
theorem LawS.ext {w w1 w2 : World} {b3 b5 : Nat} {fuel : Int} {lv p y l : Value} (h : LawS w w1 b3 b5 c fuel lv p y l) (he : Ext w1 w2) : LawS w w2 b3 b5 c fuel lv p y l :=
  ⟨h.E.trans he, h.lo, h.ne, h.B.ext he, h.A.ext he, h.hc.ext he, h.hv.ext he, h.m0, h.m1, h.f0, h.f1, h.few, h.short⟩
theorem front {v : Value} {xs : List Nat} {REST : Value → Value → Value → World → Prop} (hx : Bytes F w v xs) (hK : ∀ w' b3 b5 c fuel lv p y l, LawS w w' b3 b5 c fuel lv p y l → REST (.pointer (some ⟨b3, 0, none⟩)) (.int .i64 fuel) (.pointer (some ⟨b5, 0, none⟩)) w') :
    vcall PP n_spec_DrawSatRun #[v] w fun t21 w_6 => vextract PP t21 0 w_6 fun t22 w_7 => vextract PP t21 1 w_7 fun t23 w_8 => valloc PP T_impl_Cnf w_8 fun t5 w_9 => vstore PP T_impl_Cnf t5 t22 w_9 fun _ w_10 => vload PP T_impl_Cnf t5 w_10 fun t24 w_11 =>
      vcall PP n_impl_SatRun #[t24, t23] w_11 fun t26 w_12 => valloc PP T_impl_Sat w_12 fun t7 w_13 => vstore PP T_impl_Sat t7 t26 w_13 fun _ w_14 => REST t5 t23 t7 w_14 := by
  refine DrawSatRun_spec hx fun w1 vc c fuel he1 hc1 hma hmb hf1 hf2 hl1 h71 => ?_
  simp only [vextract_two0, vextract_two1]
  refine valloc_new zr_impl_Cnf fun b3 w2 hb3 he2 hz2 hB2 => ?_
  have hc1' := hc1.below
  obtain ⟨lv, rfl, hone⟩ := hc1'.fields
  refine (show Blk w2 b3 [.int .i64 0, .slice none 0 0] T_impl_Cnf from hB2).stAgg (cs' := [.int .i64 c.many, lv]) rfl g_impl_Cnf hone fun w3 hs3 hz3 hB3 => ?_
  have E3 : Ext w w3 := Ext.then (he1.trans he2) hs3 fun x hx => by have := he1.size; omega
  have hc3 := (hc1'.ext he2).same hs3 fun x hx _ e => by have := hx.2; omega
  rw [hB3.ldAgg g_impl_Cnf]
  have hz1 := he1.size
  refine SatRun_spec hc3 rfl hma hmb fun w4 v4 he4 hv4 => ?_
  have B4 := hB3.ext he4
  refine valloc_new zr_impl_Sat fun b5 w5 hb5 he5 hz5 hB5 => ?_
  have hz4 := he4.size
  have hv4' : SatR (fun x => w.heap.size ≤ x ∧ x ≠ b5) w4 v4 (runA c fuel) := hv4.weaken fun x h1 h2 => by omega
  obtain ⟨p4, y4, l4, rfl, hone4⟩ := hv4'.fields
  refine (show Blk w5 b5 [.slice none 0 0, .slice none 0 0, .slice none 0 0, .int .i64 0] T_impl_Sat from hB5).stAgg (cs' := [p4, y4, l4, .int .i64 (runA c fuel).code]) rfl g_impl_Sat hone4 fun w6 hs6 hz6 hB6 => ?_
  have l3 := hB3.lt
  have E36 : Ext w3 w6 := Ext.then (he4.trans he5) hs6 fun x hx => by omega
  exact hK w6 b3 b5 c fuel lv p4 y4 l4 ⟨E3.trans E36, ⟨by omega, by omega⟩, by omega, (B4.ext he5).same hs6 (by omega), hB6, (hc3.ext E36).weaken fun x hx _ => by omega, (hv4'.ext he5).same hs6 fun x hx _ e => hx.2 e, hma, hmb, hf1, hf2, hl1, h71⟩
/-- A search whose answer is not that there is none to run. -/
theorem runA_yes {fuel : Int} (h : (runA c fuel).code ≠ 4) : ∃ n : Nat, fuel = n ∧ n ≤ 4000 ∧ cnfOk c = true ∧ runA c fuel = runM c.many.toNat c n emptyS := by
  unfold runA at *
  split at h
  · rename_i hy
    exact ⟨fuel.toNat, by omega, by omega, hy.1, by rw [if_pos hy]⟩
  · exact absurd rfl h
theorem wpInts_spec {va vb : Value} {a b : List Int} (ha : Ints F w va a) (hb : Ints F' w vb b) (hK : ∀ w', Ext w w' → K (.bool (decide (a = b))) w') : vcall PP n_laws_wpInts #[va, vb] w K := by
  apply c_laws_wpInts; unfold F_laws_wpInts
  have hla : a.length ≤ 9223372036854775807 := by obtain ⟨_, _, _, h1, h2, _⟩ := ha.shape; simp at h1; omega
  simp (disch := (simp only [push_cast]; done)) only [push_cast, ha.len, hb.len]
  refine vif_dec (fun h => ?_) (fun h => ?_)
  · have := hK w (Same.refl _ _)
    rwa [decide_eq_false (fun e => h (by rw [e]))] at this
  refine vloop_up a.length (fun i u w' => u = [.int .i64 i] ∧ Ext w w' ∧ ∀ j, j < i → a.getD j 0 = b.getD j 0) ⟨rfl, Same.refl _ _, by omega⟩ ?_
  rintro i _ _ w1 C hi ⟨rfl, he, hp⟩ hC
  have ha1 := ha.ext he
  have hb1 := hb.ext he
  simp (disch := (simp only [push_cast]; done)) only [push_cast, ha1.len]
  refine vif_dec (fun h2 => ?_) (fun h2 => ?_)
  · refine vdraw_ext fun w2 he2 _ => ?_
    have ha2 := ha1.ext he2
    have hb2 := hb1.ext he2
    simp (disch := first | (simp only [push_cast]; done) | omega) only [push_cast, ha2.iaddr, ha2.load, hb2.iaddr, hb2.load, true_and]
    refine vif_dec (fun h3 => ?_) (fun h3 => ?_)
    · have := hK w2 (he.trans he2)
      rwa [decide_eq_false (fun e => h3 (by rw [e]))] at this
    · rw [inc64 (by omega)]
      refine hC (by omega) _ _ ⟨rfl, he.trans he2, fun j hj => ?_⟩
      by_cases e : j = i
      · subst e; simpa using h3
      · exact hp j (by omega)
  · have := hK w1 he
    rwa [decide_eq_true (List.ext_getElem (by omega) fun j h1 h2 => by have := hp j (by omega); simpa [List.getD_eq_getElem?_getD, h1, h2] using this)] at this
theorem FnSatMore_spec {v v1 : Value} {xs ys : List Nat} (hx : Bytes F w v xs) (hy : Bytes F' w v1 ys) (hK : ∀ w', Ext w w' → K (.bool true) w') : vcall PP n_laws_FnSatMore #[v, v1] w K := by
  apply c_laws_FnSatMore; unfold F_laws_FnSatMore
  refine vjoin_of (fun _ w' => w' = w) ?_ ?_
  · intro J hJ
    simp (disch := (simp only [push_cast]; done)) only [push_cast, hx.len, hy.len]
    exact vif_dec (fun _ => hK w (Same.refl _ _)) (fun _ => vif_dec (fun _ => hK w (Same.refl _ _)) (fun _ => hJ _ _ rfl))
  rintro _ _ w rfl
  refine front hx fun w1 b3 b5 c fuel lv p y l h1 => ?_
  refine vjoin_of (fun _ w' => LawS w w' b3 b5 c fuel lv p y l ∧ (runA c fuel).code ≠ 4) ?_ ?_
  · intro J hJ
    refine vdraw_ext fun w2 he2 _ => ?_
    have h2 := h1.ext he2
    simp (disch := (simp only [push_cast]; done)) only [push_cast, h2.A.ldAgg g_impl_Sat, h2.B.ldAgg g_impl_Cnf, true_and]
    refine specSatRun_spec h2.hc rfl h2.m0 h2.m1 fun w3 v3 he3 hv3 => ?_
    have h3 := h2.ext he3
    simp (disch := (simp only [push_cast]; done)) only [push_cast, h3.A.ldAgg g_impl_Sat, true_and, and_self]
    refine SatSame_spec h3.hv hv3 fun w4 he4 => ?_
    have h4 := h3.ext he4
    rw [show satEq (runA c fuel) (if cnfOk c = true ∧ 0 ≤ fuel ∧ fuel ≤ 4000 then runM c.many.toNat c fuel.toNat emptyS else formS) = true from satEq_self _]
    simp (disch := (simp only [push_cast]; done)) only [push_cast, Bool.not_true, true_and, h4.A.ld3]
    refine vif_dec (fun a => ?_) (fun a => hJ _ _ ⟨h4, a⟩)
    refine vdraw_ext fun w5 he5 _ => ?_
    have h5 := h4.ext he5
    simp (disch := (simp only [push_cast]; done)) only [push_cast, h5.A.ldAgg g_impl_Sat, h5.B.ldAgg g_impl_Cnf, true_and]
    refine specSatRun_spec h5.hc rfl h5.m0 h5.m1 fun w6 v6 he6 hv6 => ?_
    have h6 := h5.ext he6
    simp (disch := (simp only [push_cast]; done)) only [push_cast, h6.A.ldAgg g_impl_Sat, true_and, and_self]
    refine SatSame_spec h6.hv hv6 fun w7 he7 => ?_
    rw [show satEq (runA c fuel) (if cnfOk c = true ∧ 0 ≤ fuel ∧ fuel ≤ 4000 then runM c.many.toNat c fuel.toNat emptyS else formS) = true from satEq_self _]
    exact hK w7 (h6.E.trans he7)
  rintro _ _ w2 ⟨h2, hcode⟩
  obtain ⟨n, rfl, hn, hok, hrun⟩ := runA_yes hcode
  have hy2 := hy.ext h2.E
  have hyl : ys.length ≤ 9223372036854775807 := hy.small
  simp (disch := (simp only [push_cast]; done)) only [hy2.len]
  rw [vbin_rem (by omega)]
  have hmod : ((ys.length : Int).tmod 20) = ((ys.length % 20 : Nat) : Int) := rfl
  have hmlt : ys.length % 20 < 20 := Nat.mod_lt _ (by omega)
  rw [hmod]
  generalize ys.length % 20 = r at hmlt
  rw [vbin_add, show (n : Int) + (r : Int) = ((n + r : Nat) : Int) from rfl, wrap64 (by omega) (by omega)]
  refine vjoin_of (fun u w' => w' = w2 ∧ ∃ d : Nat, u = [.int .i64 (n + d : Nat)] ∧ n + d ≤ 4000) ?_ ?_
  · intro J hJ
    simp only [vbin_gtr]
    refine vif_dec (fun a => hJ _ _ ⟨rfl, 4000 - n, ?_, by omega⟩) (fun a => hJ _ _ ⟨rfl, r, rfl, by omega⟩)
    rw [show n + (4000 - n) = 4000 from by omega]; rfl
  rintro _ _ w2 ⟨rfl, d, rfl, hd⟩
  simp only [sl0]
  rw [h2.B.ldAgg g_impl_Cnf]
  refine SatRun_spec h2.hc rfl h2.m0 h2.m1 fun w3 v3 he3 hv3 => ?_
  rw [if_pos ⟨hok, by omega, by omega⟩, Int.toNat_natCast] at hv3
  have h3 := h2.ext he3
  generalize hY : runM c.many.toNat c (n + d) emptyS = Y at hv3
  have hYok : satOk c.many.toNat c Y := by rw [← hY]; exact runA_step hok
  have hYadd : Y = runM c.many.toNat c d (runA c n) := by rw [← hY, run_add, hrun]
  obtain ⟨t, ht⟩ := run_learned c.many.toNat c d (runA c n)
  rw [← hYadd] at ht
  refine valloc_new zr_impl_Sat fun b9 w4 hb9 he4 hz4 hB4 => ?_
  have hv3' : SatR (fun x => x ≠ b9) w3 v3 Y := hv3.weaken fun x _ h2 => by omega
  obtain ⟨p', y', l', rfl, hone⟩ := hv3'.fields
  have lA := h3.A.lt
  have lB := h3.B.lt
  refine (show Blk w4 b9 [.slice none 0 0, .slice none 0 0, .slice none 0 0, .int .i64 0] T_impl_Sat from hB4).stAgg (cs' := [p', y', l', .int .i64 Y.code]) rfl g_impl_Sat hone fun w5 hs5 hz5 hB5 => ?_
  have E5 : Ext w3 w5 := Ext.then he4 hs5 fun x hx => by omega
  have h5 := h3.ext E5
  have hv5 := (hv3'.ext he4).same hs5 fun x hx _ e => hx e
  have hrl := (run_few (n := n) hok (cnfOk_many hok)).2.2.1
  rw [← hrun] at hrl
  -- what was learned
  obtain ⟨qp, qy, ql, qe, -, -, es1, hes1, hev1, hei1⟩ := h5.hv
  obtain ⟨rp, ry, rl, re, -, -, es2, hes2, hev2, hei2⟩ := hv5
  obtain ⟨rfl, rfl, rfl⟩ : p = qp ∧ y = qy ∧ l = ql := by simpa using qe
  obtain ⟨rfl, rfl, rfl⟩ : p' = rp ∧ y' = ry ∧ l' = rl := by simpa using re
  have hv5 := (hv3'.ext he4).same hs5 fun x hx _ e => hx e
  have htl : Y.learned.length = (runA c n).learned.length + t.length := by rw [ht, List.length_append]
  refine vjoin_of (fun _ w' => Ext w5 w') ?_ ?_
  · intro J hJ
    simp (disch := (simp only [push_cast]; done)) only [push_cast, hB5.ld2, h5.A.ld2, h5.A.ld3, hev1.len, hev2.len]
    refine vif_dec (fun a => absurd a (by omega)) (fun _ => vif_dec (fun a => ?_) (fun a => hJ _ _ (Same.refl _ _)))
    rw [h5.A.ldAgg g_impl_Sat, hB5.ldAgg g_impl_Sat]
    refine SatSame_spec h5.hv hv5 fun w6 he6 => ?_
    have : Y = runA c n := by rw [hYadd]; exact run_stop a
    rw [this, satEq_self]
    simp only [push_cast, Bool.not_true]
    exact hJ _ _ he6
  rintro _ _ w6 he6
  have h6 := h5.ext he6
  refine vloop_up (runA c n).learned.length (fun i u w' => u = [.int .i64 i] ∧ Ext w5 w') ⟨rfl, he6⟩ ?_
  rintro i _ _ w7 C hi ⟨rfl, he7⟩ hC
  have h7 := h5.ext he7
  have C7 := hB5.ext he7
  have g1 := hev1.ext he7
  simp (disch := (simp only [push_cast]; done)) only [push_cast, h7.A.ld2, g1.len]
  refine vif_dec (fun a => ?_) (fun a => ?_)
  · refine vdraw_ext fun w8 he8 _ => ?_
    have E8 := he7.trans he8
    have h8 := h5.ext E8
    have C8 := hB5.ext E8
    have k1 := hev1.ext E8
    have k2 := hev2.ext E8
    simp (disch := first | (simp only [push_cast]; done) | omega) only [push_cast, h8.A.ld2, C8.ld2, k1.iaddr, k1.load, k2.iaddr, k2.load, true_and]
    refine wpInts_spec ((hei1 i (by omega)).ext E8) ((hei2 i (by omega)).ext E8) fun w9 he9 => ?_
    rw [show decide ((runA c n).learned.getD i [] = Y.learned.getD i []) = true from decide_eq_true (by rw [ht, getD_app_l (by omega)])]
    simp only [push_cast, Bool.not_true, true_and]
    rw [inc64 (by omega)]
    exact hC (by omega) _ _ ⟨rfl, E8.trans he9⟩
  · rw [h7.B.ldAgg g_impl_Cnf, C7.ldAgg g_impl_Sat]
    refine SatOk_spec h7.hc (hv5.ext he7) rfl h7.m0 h7.m1 fun w8 he8 => ?_
    classical
    rw [decide_eq_true (show satOk c.many.toNat c Y from hYok)]
    exact hK w8 (h7.E.trans he8)
end Go.Proofs.Ytpihgpfebhegmaa
