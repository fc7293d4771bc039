/- The laws FnSatOk and FnSatOne: steps of a search. -/
import Derived.Test.YtpihgpfebhegmaaGreatDc
import Derived.Test.YtpihgpfebhegmaaGreatGd
import Derived.Test.YtpihgpfebhegmaaGreatLl
set_option linter.unusedVariables false
set_option linter.unusedSimpArgs false
set_option linter.unnecessarySimpa false
set_option linter.unusedSectionVars false
namespace Go.Proofs.YtpihgpfebhegmaaGreat
open Go Go.Vc Go.Proofs Go.M
variable {w : World} {K : Value → World → Prop} {F Fr F' : Nat → Prop} {c : Cnf} {s x : Sat}
/-- What a step answers. -/
structure StepA (c : Cnf) (s x : Sat) : Prop where
  yes : satOk c.many.toNat c s → x = stepM c.many.toNat c s
  no : ¬ satOk c.many.toNat c s → x = formS
theorem StepA.eq {y : Sat} (h1 : StepA c s x) (h2 : StepA c s y) : x = y := by
  by_cases h : satOk c.many.toNat c s
  · rw [h1.yes h, h2.yes h]
  · rw [h1.no h, h2.no h]
theorem SatStep_one {F' : Nat → Prop} {vc v : Value} (hc : CnfR F w vc c) (hv : SatR F' w v s) (hc0 : -9223372036854775808 ≤ c.many) (hc1 : c.many ≤ 9223372036854775807)
    (hK : ∀ w' v x, Ext w w' → StepA c s x → SatR (fun b => w.heap.size ≤ b ∨ F b) w' v x → K v w') : vcall PP n_impl_SatStep #[vc, v] w K :=
  SatStep_spec hc hv rfl hc0 hc1 (fun h w' v he hv => hK w' v _ he ⟨fun _ => rfl, fun n => absurd h n⟩ hv) (fun h w' v he hv => hK w' v _ he ⟨fun y => absurd y h, fun _ => rfl⟩ hv)
theorem specSatStep_one {F' : Nat → Prop} {vc v : Value} (hc : CnfR F w vc c) (hv : SatR F' w v s) (hc0 : -9223372036854775808 ≤ c.many) (hc1 : c.many ≤ 9223372036854775807)
    (hK : ∀ w' v x, Ext w w' → StepA c s x → SatR (fun b => w.heap.size ≤ b) w' v x → K v w') : vcall PP n_spec_SatStep #[vc, v] w K :=
  specSatStep_spec hc hv rfl hc0 hc1 (fun h w' v he hv => hK w' v _ he ⟨fun _ => rfl, fun n => absurd h n⟩ hv) (fun h w' v he hv => hK w' v _ he ⟨fun y => absurd y h, fun _ => rfl⟩ hv)
/-- What the laws on steps begin with. -/
structure LawT (w w' : World) (b3 b4 b5 : Nat) (c : Cnf) (s x : Sat) (lv p y l p' y' l' : Value) : Prop where
  E : Ext w w'
  B : Blk w' b3 [.int .i64 c.many, lv] T_impl_Cnf
  D : Blk w' b4 [p, y, l, .int .i64 s.code] T_impl_Sat
  A : Blk w' b5 [p', y', l', .int .i64 x.code] T_impl_Sat
  hc : CnfR (fun _ => True) w' (.agg #[.int .i64 c.many, lv]) c
  hs : SatR (fun _ => True) w' (.agg #[p, y, l, .int .i64 s.code]) s
  hx : SatR (fun _ => True) w' (.agg #[p', y', l', .int .i64 x.code]) x
  st : StepA c s x
  m0 : -9223372036854775808 ≤ c.many
  m1 : c.many ≤ 9223372036854775807
theorem LawT.ext {w w1 w2 : World} {b3 b4 b5 : Nat} {lv p y l p' y' l' : Value} (h : LawT w w1 b3 b4 b5 c s x lv p y l p' y' l') (he : Ext w1 w2) : LawT w w2 b3 b4 b5 c s x lv p y l p' y' l' :=
  ⟨h.E.trans he, h.B.ext he, h.D.ext he, h.A.ext he, h.hc.ext he, h.hs.ext he, h.hx.ext he, h.st, h.m0, h.m1⟩
theorem front_step {v : Value} {xs : List Nat} {REST : Value → Value → Value → World → Prop} (hx : Bytes F w v xs) (hK : ∀ w' b3 b4 b5 c s x lv p y l p' y' l', LawT w w' b3 b4 b5 c s x lv p y l p' y' l' → REST (.pointer (some ⟨b3, 0, none⟩)) (.pointer (some ⟨b4, 0, none⟩)) (.pointer (some ⟨b5, 0, none⟩)) w') :
    vcall PP n_spec_DrawSatStep #[v] w fun t12 w_3 => vextract PP t12 0 w_3 fun t13 w_4 => vextract PP t12 1 w_4 fun t14 w_5 => valloc PP T_impl_Cnf w_5 fun t3 w_6 => valloc PP T_impl_Sat w_6 fun t4 w_7 => vstore PP T_impl_Cnf t3 t13 w_7 fun _ w_8 => vstore PP T_impl_Sat t4 t14 w_8 fun _ w_9 =>
      vload PP T_impl_Cnf t3 w_9 fun t15 w_10 => vload PP T_impl_Sat t4 w_10 fun t16 w_11 => vcall PP n_impl_SatStep #[t15, t16] w_11 fun t17 w_12 => valloc PP T_impl_Sat w_12 fun t5 w_13 => vstore PP T_impl_Sat t5 t17 w_13 fun _ w_14 => REST t3 t4 t5 w_14 := by
  refine DrawSatStep_spec hx fun w1 vc vs c s he1 hc1 hs1 hma hmb => ?_
  simp only [vextract_two0, vextract_two1]
  refine valloc_new zr_impl_Cnf fun b3 w2 hb3 he2 hz2 hB2 => ?_
  refine valloc_new zr_impl_Sat fun b4 w3 hb4 he3 hz3 hB3 => ?_
  have hc1' := hc1.below
  obtain ⟨lv, rfl, hone⟩ := hc1'.fields
  have hs1' : SatR (fun x => x < w1.heap.size) w1 vs s := hs1.weaken fun x _ h => h
  obtain ⟨p, y, l, rfl, hone2⟩ := hs1'.fields
  have hz1 := he1.size
  refine ((show Blk w2 b3 [.int .i64 0, .slice none 0 0] T_impl_Cnf from hB2).ext he3).stAgg (cs' := [.int .i64 c.many, lv]) rfl g_impl_Cnf hone fun w4 hs4 hz4 hB4 => ?_
  refine ((show Blk w3 b4 [.slice none 0 0, .slice none 0 0, .slice none 0 0, .int .i64 0] T_impl_Sat from hB3).same hs4 (by omega)).stAgg (cs' := [p, y, l, .int .i64 s.code]) rfl g_impl_Sat hone2 fun w5 hs5 hz5 hB5 => ?_
  have B5 := hB4.same hs5 (by omega)
  have E23 := he2.trans he3
  have hc5 := ((hc1'.ext E23).same hs4 fun x hx _ e => by have := hx.2; omega).same hs5 fun x hx _ e => by have := hx.2; omega
  have hs5' := ((hs1'.ext E23).same hs4 fun x hx _ e => by omega).same hs5 fun x hx _ e => by omega
  have E5 : Ext w w5 := Ext.then (he1.trans E23) (S := fun x => x = b3 ∨ x = b4) ((hs4.mono fun x _ e => .inl e).trans (hs5.mono fun x _ e => .inr e)) fun x hx => by omega
  rw [B5.ldAgg g_impl_Cnf, hB5.ldAgg g_impl_Sat]
  refine SatStep_one hc5 hs5' hma hmb fun w6 v6 x he6 hx6 hv6 => ?_
  have hz6 := he6.size
  refine valloc_new zr_impl_Sat fun b5 w7 hb7 he7 hz7 hB7 => ?_
  have hv6' : SatR (fun x => x ≠ b5) w6 v6 x := hv6.weaken fun x _ h => by omega
  obtain ⟨p', y', l', rfl, hone3⟩ := hv6'.fields
  refine (show Blk w7 b5 [.slice none 0 0, .slice none 0 0, .slice none 0 0, .int .i64 0] T_impl_Sat from hB7).stAgg (cs' := [p', y', l', .int .i64 x.code]) rfl g_impl_Sat hone3 fun w8 hs8 hz8 hB8 => ?_
  have l3 := B5.lt
  have l4 := hB5.lt
  have E68 := he6.trans he7
  exact hK w8 b3 b4 b5 c s x lv p y l p' y' l' ⟨Ext.then (E5.trans E68) hs8 fun x hx => by omega, (B5.ext E68).same hs8 (by omega), (hB5.ext E68).same hs8 (by omega), hB8, ((hc5.ext E68).same hs8 fun x hx _ e => by have := hx.2; omega).weaken fun _ _ _ => trivial, ((hs5'.ext E68).same hs8 fun x hx _ e => by omega).weaken fun _ _ _ => trivial, ((hv6'.ext he7).same hs8 fun x hx _ e => hx e).weaken fun _ _ _ => trivial, hx6, hma, hmb⟩
theorem step_grow (many : Nat) (c : Cnf) (s : Sat) : ∃ t, t.length ≤ 1 ∧ (stepM many c s).learned = s.learned ++ t ∧ (stepM many c s).put.length ≤ s.put.length + 1 := by
  unfold stepM
  split
  · unfold goM
    split
    split
    · unfold clashM
      split
      · exact ⟨[], by simp⟩
      · split
        · exact ⟨[], by simp⟩
        · exact ⟨[_], by simp, rfl, by simp [List.length_take]; omega⟩
    · split
      · exact ⟨[], by simp⟩
      · split <;> exact ⟨[], by simp⟩
  · exact ⟨[], by simp⟩
/-- A step that learns. -/
theorem step_learns {many : Nat} (h : satOk many c s) (hcm : c.many = many) (hne : (stepM many c s).learned.length ≠ s.learned.length) :
    ∃ cl n p, (stepM many c s).learned = s.learned ++ [cl] ∧ (stepM many c s).put = s.put.take n ∧ Asserts s cl n p ∧ Srt cl := by
  unfold stepM at hne ⊢
  by_cases h0 : s.code = 0
  · rw [if_pos h0] at hne ⊢
    unfold goM at hne ⊢
    rcases find_cases s.put (c.list ++ s.learned) with ⟨i, u, x, hi, e, hc⟩ | ⟨hn, ⟨i, x, hi, e, hu, -⟩ | ⟨e, -⟩⟩
    · rw [e] at hne ⊢
      simp only [Int.natCast_nonneg, if_true, Int.toNat_natCast] at hne ⊢
      rw [List.length_append] at hi
      unfold clashM at hne ⊢
      by_cases ht : topL s.put (decs s.why) (atM c s i) = 0
      · rw [if_pos ht] at hne; exact absurd rfl hne
      rw [if_neg ht] at hne ⊢
      by_cases h3 : s.learned.length = 300
      · rw [if_pos h3] at hne; exact absurd rfl hne
      rw [if_neg h3]
      obtain ⟨p, hp⟩ := asserts h hcm hi hc ht
      exact ⟨_, _, p, rfl, rfl, hp, (learn_ok h hcm hi hc).2.1⟩
    · rw [e] at hne
      simp only [show ¬ (0 : Int) ≤ -1 by omega, if_false] at hne
      rw [if_pos (by omega)] at hne
      exact absurd rfl hne
    · rw [e] at hne
      simp only [show ¬ (0 : Int) ≤ -1 by omega, if_false] at hne
      split at hne <;> exact absurd rfl hne
  · rw [if_neg h0] at hne; exact absurd rfl hne
open Classical in
theorem FnSatOk_spec {v : Value} {xs : List Nat} (hx : Bytes F w v xs) (hK : ∀ w', Ext w w' → K (.bool true) w') : vcall PP n_laws_FnSatOk #[v] w K := by
  apply c_laws_FnSatOk; unfold F_laws_FnSatOk
  simp (disch := (simp only [push_cast]; done)) only [push_cast, hx.len]
  refine vif_dec (fun _ => hK w (Same.refl _ _)) (fun _ => ?_)
  refine front_step hx fun w1 b3 b4 b5 c s x lv p y l p' y' l' h1 => ?_
  refine vjoin_of (fun _ w' => LawT w w' b3 b4 b5 c s x lv p y l p' y' l') ?_ ?_
  · intro J hJ
    refine vdraw_ext fun w2 he2 _ => ?_
    have h2 := h1.ext he2
    simp (disch := (simp only [push_cast]; done)) only [push_cast, h2.A.ldAgg g_impl_Sat, h2.B.ldAgg g_impl_Cnf, h2.D.ldAgg g_impl_Sat, true_and]
    refine specSatStep_one h2.hc h2.hs h2.m0 h2.m1 fun w3 v3 x3 he3 hx3 hv3 => ?_
    have h3 := h2.ext he3
    simp (disch := (simp only [push_cast]; done)) only [push_cast, h3.A.ldAgg g_impl_Sat, true_and, and_self]
    refine SatSame_spec h3.hx hv3 fun w4 he4 => ?_
    have h4 := h3.ext he4
    rw [h4.st.eq hx3, satEq_self]
    simp (disch := (simp only [push_cast]; done)) only [push_cast, Bool.not_true, true_and, h4.B.ldAgg g_impl_Cnf, h4.D.ldAgg g_impl_Sat]
    refine SatOk_spec h4.hc h4.hs rfl h4.m0 h4.m1 fun w5 he5 => ?_
    have h5 := h4.ext he5
    simp (disch := (simp only [push_cast]; done)) only [push_cast, h5.B.ldAgg g_impl_Cnf, h5.D.ldAgg g_impl_Sat, true_and, and_self]
    refine specSatOk_spec h5.hc h5.hs rfl h5.m0 h5.m1 fun w6 he6 => ?_
    simp only [push_cast, bne_self_eq_false, true_and]
    exact hJ _ _ (h5.ext he6)
  rintro _ _ w2 h2
  rw [h2.B.ldAgg g_impl_Cnf, h2.D.ldAgg g_impl_Sat]
  refine specSatOk_spec h2.hc h2.hs rfl h2.m0 h2.m1 fun w3 he3 => ?_
  have h3 := h2.ext he3
  simp only [push_cast]
  refine vif_bool (fun a => ?_) (fun a => ?_)
  · have hn : ¬ satOk c.many.toNat c s := fun h => by rw [decide_eq_true h] at a; cases a
    rw [h3.A.ldAgg g_impl_Sat]
    refine vbuild_str b_impl_Sat (us := [[.int .i64 4]]) rfl rfl ?_
    refine SatSame_spec h3.hx (form_R (F := fun _ => True)) fun w4 he4 => ?_
    rw [h3.st.no hn, satEq_self]
    exact hK w4 (h3.E.trans he4)
  have hok : satOk c.many.toNat c s := by simpa using a
  have hcm : c.many = (c.many.toNat : Int) := by have := (cnfOk_iff.1 hok.cnf).1; omega
  have hxs := h3.st.yes hok
  obtain ⟨t, ht1, ht2, ht3⟩ := step_grow c.many.toNat c s
  rw [← hxs] at ht2 ht3
  have hokx : satOk c.many.toNat c x := by rw [hxs]; exact step_ok hok hcm
  simp (disch := (simp only [push_cast]; done)) only [push_cast, h3.D.ld3]
  refine vif_dec (fun d => ?_) (fun d => ?_)
  · rw [h3.A.ldAgg g_impl_Sat, h3.D.ldAgg g_impl_Sat]
    refine SatSame_spec h3.hx h3.hs fun w4 he4 => ?_
    have : x = s := by rw [hxs]; unfold stepM; rw [if_neg d]
    rw [this, satEq_self]
    exact hK w4 (h3.E.trans he4)
  obtain ⟨z1, z2, z3, z4⟩ := hok.sizes hcm
  have hlx : x.learned.length = s.learned.length + t.length := by rw [ht2, List.length_append]
  refine vloop_up s.learned.length (fun i u w' => u = [.int .i64 i] ∧ LawT w w' b3 b4 b5 c s x lv p y l p' y' l') ⟨rfl, h3⟩ ?_
  rintro i _ _ w4 C hi ⟨rfl, h4⟩ hC
  obtain ⟨qp, qy, ql, qe, q1, q2, es1, hes1, hev1, hei1⟩ := h4.hs
  obtain ⟨rp, ry, rl, re, r1, r2, es2, hes2, hev2, hei2⟩ := h4.hx
  obtain ⟨rfl, rfl, rfl⟩ : p = qp ∧ y = qy ∧ l = ql := by simpa using qe
  obtain ⟨rfl, rfl, rfl⟩ : p' = rp ∧ y' = ry ∧ l' = rl := by simpa using re
  simp (disch := (simp only [push_cast]; done)) only [push_cast, h4.D.ld2, hev1.len]
  refine vif_dec (fun d2 => ?_) (fun d2 => ?_)
  · refine vdraw_ext fun w5 he5 _ => ?_
    have h5 := h4.ext he5
    have k1 := hev1.ext he5
    have k2 := hev2.ext he5
    simp (disch := first | (simp only [push_cast]; done) | omega) only [push_cast, h5.A.ld2, h5.D.ld2, k1.iaddr, k1.load, k2.iaddr, k2.load, true_and]
    refine wpInts_spec ((hei1 i (by omega)).ext he5) ((hei2 i (by omega)).ext he5) fun w6 he6 => ?_
    rw [show decide (s.learned.getD i [] = x.learned.getD i []) = true from decide_eq_true (by rw [ht2, getD_app_l (by omega)])]
    simp only [push_cast, Bool.not_true, true_and]
    rw [inc64 (by omega)]
    exact hC (by omega) _ _ ⟨rfl, h5.ext he6⟩
  · rw [h4.B.ldAgg g_impl_Cnf, h4.A.ldAgg g_impl_Sat]
    refine SatOk_spec h4.hc h4.hx rfl h4.m0 h4.m1 fun w5 he5 => ?_
    have h5 := h4.ext he5
    have k1 := hev1.ext he5
    have k2 := hev2.ext he5
    have k3 := q1.ext he5
    have k4 := r1.ext he5
    rw [decide_eq_true hokx]
    refine vif_bool (fun _ => ?_) (fun e => by cases e)
    simp (disch := (simp only [push_cast]; done)) only [push_cast, h5.A.ld2, h5.D.ld2, h5.A.ld0, h5.D.ld0, k1.len, k2.len, k3.len, k4.len]
    rw [wrap64 (by omega) (by omega), wrap64 (by omega) (by omega)]
    refine vif_dec (fun _ => ?_) (fun e => absurd (by omega) e)
    rw [decide_eq_true (by omega)]
    exact hK w5 h5.E
theorem srt_inj {cl : List Int} (h : Srt cl) {i j : Nat} (hi : i < cl.length) (hj : j < cl.length) (e : cl.getD i 0 = cl.getD j 0) : i = j := by
  rw [List.getD_eq_getElem?_getD, List.getElem?_eq_getElem hi, List.getD_eq_getElem?_getD, List.getElem?_eq_getElem hj] at e
  have e : cl[i] = cl[j] := e
  have hp := List.pairwise_iff_getElem.1 h
  rcases Nat.lt_trichotomy i j with hlt | hlt | hlt
  · have := hp i j hi hj hlt; rw [e] at this; omega
  · exact hlt
  · have := hp j i hj hi hlt; rw [e] at this; omega
open Classical in
theorem FnSatOne_spec {v : Value} {xs : List Nat} (hx : Bytes F w v xs) (hK : ∀ w', Ext w w' → K (.bool true) w') : vcall PP n_laws_FnSatOne #[v] w K := by
  apply c_laws_FnSatOne; unfold F_laws_FnSatOne
  simp (disch := (simp only [push_cast]; done)) only [push_cast, hx.len]
  refine vif_dec (fun _ => hK w (Same.refl _ _)) (fun _ => ?_)
  refine front_step hx fun w1 b3 b4 b5 c s x lv p y l p' y' l' h1 => ?_
  -- the answer where nothing is learned
  have same : ∀ w2, LawT w w2 b3 b4 b5 c s x lv p y l p' y' l' → vdraw w2 fun w_23 => vload PP T_impl_Sat (.pointer (some ⟨b5, 0, none⟩)) w_23 fun t43 w_24 => w_24 = w_23 ∧ vload PP T_impl_Cnf (.pointer (some ⟨b3, 0, none⟩)) w_23 fun t44 w_25 => w_25 = w_23 ∧ vload PP T_impl_Sat (.pointer (some ⟨b4, 0, none⟩)) w_23 fun t45 w_26 => w_26 = w_23 ∧
      vcall PP n_spec_SatStep #[t44, t45] w_23 fun t46 w_27 => (vload PP T_impl_Sat (.pointer (some ⟨b5, 0, none⟩)) w_27 fun v x => v = t43 ∧ x = w_27) ∧ vcall PP n_impl_SatSame #[t43, t46] w_27 fun t47 w_28 => K t47 w_28 := fun w2 h2 => by
    refine vdraw_ext fun w3 he3 _ => ?_
    have h3 := h2.ext he3
    simp (disch := (simp only [push_cast]; done)) only [push_cast, h3.A.ldAgg g_impl_Sat, h3.B.ldAgg g_impl_Cnf, h3.D.ldAgg g_impl_Sat, true_and]
    refine specSatStep_one h3.hc h3.hs h3.m0 h3.m1 fun w4 v4 x4 he4 hx4 hv4 => ?_
    have h4 := h3.ext he4
    simp (disch := (simp only [push_cast]; done)) only [push_cast, h4.A.ldAgg g_impl_Sat, true_and, and_self]
    refine SatSame_spec h4.hx hv4 fun w5 he5 => ?_
    rw [h4.st.eq hx4, satEq_self]
    exact hK w5 (h4.E.trans he5)
  refine vjoin_of (fun _ w' => LawT w w' b3 b4 b5 c s x lv p y l p' y' l' ∧ satOk c.many.toNat c s ∧ x.learned.length ≠ s.learned.length) ?_ ?_
  · intro J hJ
    refine vdraw_ext fun w2 he2 _ => ?_
    have h2 := h1.ext he2
    simp (disch := (simp only [push_cast]; done)) only [push_cast, h2.A.ldAgg g_impl_Sat, h2.B.ldAgg g_impl_Cnf, h2.D.ldAgg g_impl_Sat, true_and]
    refine specSatStep_one h2.hc h2.hs h2.m0 h2.m1 fun w3 v3 x3 he3 hx3 hv3 => ?_
    have h3 := h2.ext he3
    simp (disch := (simp only [push_cast]; done)) only [push_cast, h3.A.ldAgg g_impl_Sat, true_and, and_self]
    refine SatSame_spec h3.hx hv3 fun w4 he4 => ?_
    have h4 := h3.ext he4
    rw [h4.st.eq hx3, satEq_self]
    simp (disch := (simp only [push_cast]; done)) only [push_cast, Bool.not_true, true_and, h4.B.ldAgg g_impl_Cnf, h4.D.ldAgg g_impl_Sat]
    refine specSatOk_spec h4.hc h4.hs rfl h4.m0 h4.m1 fun w5 he5 => ?_
    have h5 := h4.ext he5
    simp only [push_cast, true_and]
    refine vif_bool (fun a => same w5 h5) (fun a => ?_)
    obtain ⟨qp, qy, ql, qe, q1, q2, es1, hes1, hev1, hei1⟩ := h5.hs
    obtain ⟨rp, ry, rl, re, r1, r2, es2, hes2, hev2, hei2⟩ := h5.hx
    obtain ⟨rfl, rfl, rfl⟩ : p = qp ∧ y = qy ∧ l = ql := by simpa using qe
    obtain ⟨rfl, rfl, rfl⟩ : p' = rp ∧ y' = ry ∧ l' = rl := by simpa using re
    simp (disch := (simp only [push_cast]; done)) only [push_cast, h5.A.ld2, h5.D.ld2, hev1.len, hev2.len, true_and]
    refine vif_dec (fun d => same w5 h5) (fun d => hJ _ _ ⟨h5, by simpa using a, by omega⟩)
  rintro _ _ w2 ⟨h2, hok, hne⟩
  have hcm : c.many = (c.many.toNat : Int) := by have := (cnfOk_iff.1 hok.cnf).1; omega
  have hxs := h2.st.yes hok
  obtain ⟨cl, n, q, e1, e2, hA, hsr⟩ := step_learns hok hcm (by rw [← hxs]; exact hne)
  rw [← hxs] at e1 e2
  have hm := hok.mks
  obtain ⟨z1, z2, z3, z4⟩ := hok.sizes hcm
  have hxl : x.put.length = n := by rw [e2, List.length_take]; have := hA.lt; omega
  have hlt := hA.lt
  have hll : x.learned.length = s.learned.length + 1 := by rw [e1]; simp
  have hcl : cl.length ≤ 700 := by
    have hokx : satOk c.many.toNat c x := by rw [hxs]; exact step_ok hok hcm
    exact (hokx.sizes hcm).2.2.2 cl (by rw [e1]; simp)
  obtain ⟨qp, qy, ql, qe, q1, q2, es1, hes1, hev1, hei1⟩ := h2.hs
  obtain ⟨rp, ry, rl, re, r1, r2, es2, hes2, hev2, hei2⟩ := h2.hx
  obtain ⟨rfl, rfl, rfl⟩ : p = qp ∧ y = qy ∧ l = ql := by simpa using qe
  obtain ⟨rfl, rfl, rfl⟩ : p' = rp ∧ y' = ry ∧ l' = rl := by simpa using re
  have hrow := hei2 s.learned.length (by omega)
  rw [show x.learned.getD s.learned.length [] = cl from by rw [e1]; simp] at hrow
  have e3 : IntKind.i64.wrap ((x.learned.length : Int) - 1) = (s.learned.length : Int) := by rw [wrap64 (by omega) (by omega)]; omega
  simp (disch := first | (simp only [push_cast]; done) | omega) only [push_cast, h2.A.ld2, hev2.len, hes2, e3, hev2.iaddr, hev2.load]
  generalize es2.getD s.learned.length undef = vr at hrow
  -- where the free literal stands
  obtain ⟨ip, hip, hpe⟩ : ∃ ip, ip < cl.length ∧ cl.getD ip 0 = q := by
    obtain ⟨j, hj, e⟩ := List.getElem_of_mem hA.mem
    exact ⟨j, hj, by rw [List.getD_eq_getElem?_getD, List.getElem?_eq_getElem hj]; exact e⟩
  have hin : ∀ i, i < cl.length → (-cl.getD i 0 ∈ x.put ↔ i ≠ ip) := fun i hi => by
    have hmem := getD_mem (put := cl) (i := i) hi
    have hf := hA.fls _ hmem
    rw [e2, mem_take hm.1, Int.natAbs_neg]
    constructor
    · rintro ⟨-, h⟩ e
      subst e
      rw [hpe] at h
      have := hA.high; omega
    · intro hne2
      exact ⟨hf, hA.low _ hmem fun e => hne2 (srt_inj hsr hi hip (by rw [e, hpe]))⟩
  have hout : ∀ i, i < cl.length → cl.getD i 0 ∉ x.put := fun i hi h => by
    have hmem := getD_mem (put := cl) (i := i) hi
    rw [e2] at h
    exact hm.neg (List.mem_of_mem_take h) (hA.fls _ hmem)
  refine vloop_up cl.length (fun i u w' => u = [.int .i64 (if ip < i then 1 else 0), .int .i64 i] ∧ Ext w2 w') ⟨by simp, Same.refl _ _⟩ ?_
  rintro i _ _ w3 C hi ⟨rfl, he3⟩ hC
  have h3 := h2.ext he3
  have g3 := hrow.ext he3
  have r3 := r1.ext he3
  simp (disch := first | (simp only [push_cast]; done) | omega) only [push_cast, g3.len]
  refine vif_dec (fun a => ?_) (fun a => ?_)
  · have hil : i < cl.length := by omega
    have hclb := satOk.bnd hok hcm (cl := cl)
    refine vloop_up x.put.length (fun k u w' => u = [.bool (decide (-cl.getD i 0 ∈ x.put.take k)), .int .i64 k] ∧ Ext w2 w') ⟨by simp, he3⟩ ?_
    rintro k _ _ w4 C' hk ⟨rfl, he4⟩ hC'
    have h4 := h2.ext he4
    have g4 := hrow.ext he4
    have r4 := r1.ext he4
    simp (disch := first | (simp only [push_cast]; done) | omega) only [push_cast, h4.A.ld0, r4.len]
    refine vif_dec (fun b => ?_) (fun b => ?_)
    · refine vdraw_ext fun w5 he5 _ => ?_
      have h5 := h4.ext he5
      have g5 := g4.ext he5
      have r5 := r4.ext he5
      simp (disch := first | (simp only [push_cast]; done) | omega) only [push_cast, h5.A.ld0, r5.iaddr, r5.load, g5.iaddr, g5.load, true_and]
      have hkm := getD_mem (put := x.put) (i := k) (by omega)
      refine vif_dec (fun e => absurd (e ▸ hkm) (hout i hil)) (fun e => ?_)
      refine vdraw_ext fun w6 he6 _ => ?_
      have h6 := h5.ext he6
      have g6 := g5.ext he6
      have r6 := r5.ext he6
      have htk : x.put.take (k + 1) = x.put.take k ++ [x.put.getD k 0] := take_snoc (by omega)
      have E6 := he4.trans (he5.trans he6)
      refine vif_bool (fun f => ?_) (fun f => ?_)
      · rw [inc64 (by omega)]
        refine hC' (by omega) _ _ ⟨?_, E6⟩
        have f' : -cl.getD i 0 ∈ x.put.take k := by simpa using f
        rw [htk, decide_eq_true (List.mem_append_left _ f')]
      · have f' : -cl.getD i 0 ∉ x.put.take k := by simpa using f
        have hb : (cl.getD i 0).natAbs ≤ 700 := by
          have := hA.fls _ (getD_mem (put := cl) (i := i) hil)
          have := (hm.2 _ this).2
          have := (cnfOk_iff.1 hok.cnf).2.1
          omega
        simp (disch := first | (simp only [push_cast]; done) | omega) only [push_cast, h6.A.ld0, r6.iaddr, r6.load, g6.iaddr, g6.load, true_and]
        rw [wrap64 (by omega) (by omega), inc64 (by omega)]
        refine hC' (by omega) _ _ ⟨?_, E6⟩
        rw [show (0 : Int) - cl.getD i 0 = -cl.getD i 0 by omega, htk]
        have : (-cl.getD i 0 ∈ x.put.take k ++ [x.put.getD k 0]) ↔ x.put.getD k 0 = -cl.getD i 0 := by
          rw [List.mem_append, List.mem_singleton]
          exact ⟨fun h => h.elim (fun h => absurd h f') fun h => h.symm, fun h => .inr h.symm⟩
        rw [decide_eq_decide.2 this]
    · have hfull : x.put.take k = x.put := List.take_of_length_le (by omega)
      rw [hfull]
      refine vif_bool (fun f => ?_) (fun f => ?_)
      · have hie : i = ip := by
          refine Classical.byContradiction fun hne2 => ?_
          rw [decide_eq_true ((hin i hil).2 hne2)] at f; cases f
        subst hie
        rw [if_neg (by omega), inc64 (by omega)]
        refine hC (by omega) _ _ ⟨?_, he4⟩
        rw [if_pos (by omega)]
        rfl
      · have hne2 : i ≠ ip := (hin i hil).1 (by simpa using f)
        rw [inc64 (by omega)]
        refine hC (by omega) _ _ ⟨?_, he4⟩
        by_cases e : ip < i
        · rw [if_pos e, if_pos (by omega)]
        · rw [if_neg e, if_neg (by omega)]
  · refine vdraw_ext fun w4 he4 _ => ?_
    have h4 := h3.ext he4
    have r4 := r3.ext he4
    have q4 := (q1.ext he3).ext he4
    rw [if_pos (by omega)]
    simp (disch := first | (simp only [push_cast]; done) | omega) only [push_cast, h4.A.ld0, h4.D.ld0, r4.len, q4.len, true_and]
    refine vif_dec (fun _ => ?_) (fun e => absurd trivial e)
    refine vif_dec (fun _ => ?_) (fun e => absurd (by omega) e)
    obtain ⟨v1, hv1, hr1⟩ := Vals.part (P := PP) (t := T_Lint) (n := x.put.length) q4 (fun e => by have := congrArg List.length e; rw [List.length_map, List.length_nil] at this; omega) e_Lint (by rw [List.length_map]; omega)
    simp only [hv1, true_and]
    rw [← List.map_take] at hr1
    refine wpInts_spec r4 (show Ints _ _ _ (s.put.take x.put.length) from hr1) fun w5 he5 => ?_
    rw [decide_eq_true (show x.put = s.put.take x.put.length by rw [hxl]; exact e2)]
    exact hK w5 (h4.E.trans he5)
end Go.Proofs.YtpihgpfebhegmaaGreat
