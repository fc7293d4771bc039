/- The law FnSatMore: searches are monotone in fuel. -/
import Derived.Test.YtpihgpfebhegmaaGreatGa
import Derived.Test.YtpihgpfebhegmaaGreatLl
set_option linter.unusedVariables false
set_option linter.unusedSimpArgs false
set_option linter.unnecessarySimpa false
set_option linter.unusedSectionVars false
namespace Go.Proofs.YtpihgpfebhegmaaGreat
open Go Go.Vc Go.Proofs Go.M
variable {w : World} {K : Value → World → Prop} {F Fr F' : Nat → Prop} {c : Cnf} {s : Sat}
theorem step_learned (many : Nat) (c : Cnf) (s : Sat) : ∃ t, (stepM many c s).learned = s.learned ++ t := by
  unfold stepM
  split
  · unfold goM
    split
    split
    · unfold clashM
      split
      · exact ⟨[], by simp⟩
      · split
        · exact ⟨[], by simp⟩
        · exact ⟨_, rfl⟩
    · split
      · exact ⟨[], by simp⟩
      · split <;> exact ⟨[], by simp⟩
  · exact ⟨[], by simp⟩
theorem run_learned (many : Nat) (c : Cnf) : ∀ (n : Nat) (s : Sat), ∃ t, (runM many c n s).learned = s.learned ++ t
  | 0, s => ⟨[], by simp [runM]⟩
  | n + 1, s => by
    obtain ⟨t1, h1⟩ := step_learned many c s
    obtain ⟨t2, h2⟩ := run_learned many c n (stepM many c s)
    exact ⟨t1 ++ t2, by rw [runM, h2, h1, List.append_assoc]⟩
/-- What the laws on searches begin with. -/
structure LawS (w w' : World) (b3 b5 : Nat) (c : Cnf) (fuel : Int) (lv p y l : Value) : Prop where
  E : Ext w w'
  lo : w.heap.size ≤ b3 ∧ w.heap.size ≤ b5
  ne : b3 ≠ b5
  B : Blk w' b3 [.int .i64 c.many, lv] T_impl_Cnf
  A : Blk w' b5 [p, y, l, .int .i64 (runA c fuel).code] T_impl_Sat
  hc : CnfR (fun x => w.heap.size ≤ x ∧ x ≠ b3 ∧ x ≠ b5) w' (.agg #[.int .i64 c.many, lv]) c
  hv : SatR (fun x => w.heap.size ≤ x ∧ x ≠ b5) w' (.agg #[p, y, l, .int .i64 (runA c fuel).code]) (runA c fuel)
  m0 : -9223372036854775808 ≤ c.many
  m1 : c.many ≤ 9223372036854775807
  f0 : -1 ≤ fuel
  f1 : fuel ≤ 4001
  few : c.list.length ≤ 1000
  short : ∀ x, x ∈ c.list → x.length ≤ 7
theorem LawS.ext {w w1 w2 : World} {b3 b5 : Nat} {fuel : Int} {lv p y l : Value} (h : LawS w w1 b3 b5 c fuel lv p y l) (he : Ext w1 w2) : LawS w w2 b3 b5 c fuel lv p y l :=
  ⟨h.E.trans he, h.lo, h.ne, h.B.ext he, h.A.ext he, h.hc.ext he, h.hv.ext he, h.m0, h.m1, h.f0, h.f1, h.few, h.short⟩
theorem front {v : Value} {xs : List Nat} {REST : Value → Value → Value → World → Prop} (hx : Bytes F w v xs) (hK : ∀ w' b3 b5 c fuel lv p y l, LawS w w' b3 b5 c fuel lv p y l → REST (.pointer (some ⟨b3, 0, none⟩)) (.int .i64 fuel) (.pointer (some ⟨b5, 0, none⟩)) w') :
    vcall PP n_spec_DrawSatRun #[v] w fun t21 w_6 => vextract PP t21 0 w_6 fun t22 w_7 => vextract PP t21 1 w_7 fun t23 w_8 => valloc PP T_impl_Cnf w_8 fun t5 w_9 => vstore PP T_impl_Cnf t5 t22 w_9 fun _ w_10 => vload PP T_impl_Cnf t5 w_10 fun t24 w_11 =>
      vcall PP n_impl_SatRun #[t24, t23] w_11 fun t26 w_12 => valloc PP T_impl_Sat w_12 fun t7 w_13 => vstore PP T_impl_Sat t7 t26 w_13 fun _ w_14 => REST t5 t23 t7 w_14 := by
  refine DrawSatRun_spec hx fun w1 vc c fuel he1 hc1 hma hmb hf1 hf2 hl1 h71 => ?_
  simp only [vextract_two0, vextract_two1]
  refine valloc_new zr_impl_Cnf fun b3 w2 hb3 he2 hz2 hB2 => ?_
  have hc1' := hc1.below
  obtain ⟨lv, rfl, hone⟩ := hc1'.fields
  refine (show Blk w2 b3 [.int .i64 0, .slice none 0 0] T_impl_Cnf from hB2).stAgg (cs' := [.int .i64 c.many, lv]) rfl g_impl_Cnf hone fun w3 hs3 hz3 hB3 => ?_
  have E3 : Ext w w3 := Ext.then (he1.trans he2) hs3 fun x hx => by have := he1.size; omega
  have hc3 := (hc1'.ext he2).same hs3 fun x hx _ e => by have := hx.2; omega
  rw [hB3.ldAgg g_impl_Cnf]
  have hz1 := he1.size
  refine SatRun_spec hc3 rfl hma hmb fun w4 v4 he4 hv4 => ?_
  have B4 := hB3.ext he4
  refine valloc_new zr_impl_Sat fun b5 w5 hb5 he5 hz5 hB5 => ?_
  have hz4 := he4.size
  have hv4' : SatR (fun x => w.heap.size ≤ x ∧ x ≠ b5) w4 v4 (runA c fuel) := hv4.weaken fun x h1 h2 => by omega
  obtain ⟨p4, y4, l4, rfl, hone4⟩ := hv4'.fields
  refine (show Blk w5 b5 [.slice none 0 0, .slice none 0 0, .slice none 0 0, .int .i64 0] T_impl_Sat from hB5).stAgg (cs' := [p4, y4, l4, .int .i64 (runA c fuel).code]) rfl g_impl_Sat hone4 fun w6 hs6 hz6 hB6 => ?_
  have l3 := hB3.lt
  have E36 : Ext w3 w6 := Ext.then (he4.trans he5) hs6 fun x hx => by omega
  exact hK w6 b3 b5 c fuel lv p4 y4 l4 ⟨E3.trans E36, ⟨by omega, by omega⟩, by omega, (B4.ext he5).same hs6 (by omega), hB6, (hc3.ext E36).weaken fun x hx _ => by omega, (hv4'.ext he5).same hs6 fun x hx _ e => hx.2 e, hma, hmb, hf1, hf2, hl1, h71⟩
/-- A search whose answer is not that there is none to run. -/
theorem runA_yes {fuel : Int} (h : (runA c fuel).code ≠ 4) : ∃ n : Nat, fuel = n ∧ n ≤ 4000 ∧ cnfOk c = true ∧ runA c fuel = runM c.many.toNat c n emptyS := by
  unfold runA at *
  split at h
  · rename_i hy
    exact ⟨fuel.toNat, by omega, by omega, hy.1, by rw [if_pos hy]⟩
  · exact absurd rfl h
theorem wpInts_spec {va vb : Value} {a b : List Int} (ha : Ints F w va a) (hb : Ints F' w vb b) (hK : ∀ w', Ext w w' → K (.bool (decide (a = b))) w') : vcall PP n_laws_wpInts #[va, vb] w K := by
  apply c_laws_wpInts; unfold F_laws_wpInts
  have hla : a.length ≤ 9223372036854775807 := by obtain ⟨_, _, _, h1, h2, _⟩ := ha.shape; simp at h1; omega
  simp (disch := (simp only [push_cast]; done)) only [push_cast, ha.len, hb.len]
  refine vif_dec (fun h => ?_) (fun h => ?_)
  · have := hK w (Same.refl _ _)
    rwa [decide_eq_false (fun e => h (by rw [e]))] at this
  refine vloop_up a.length (fun i u w' => u = [.int .i64 i] ∧ Ext w w' ∧ ∀ j, j < i → a.getD j 0 = b.getD j 0) ⟨rfl, Same.refl _ _, by omega⟩ ?_
  rintro i _ _ w1 C hi ⟨rfl, he, hp⟩ hC
  have ha1 := ha.ext he
  have hb1 := hb.ext he
  simp (disch := (simp only [push_cast]; done)) only [push_cast, ha1.len]
  refine vif_dec (fun h2 => ?_) (fun h2 => ?_)
  · refine vdraw_ext fun w2 he2 _ => ?_
    have ha2 := ha1.ext he2
    have hb2 := hb1.ext he2
    simp (disch := first | (simp only [push_cast]; done) | omega) only [push_cast, ha2.iaddr, ha2.load, hb2.iaddr, hb2.load, true_and]
    refine vif_dec (fun h3 => ?_) (fun h3 => ?_)
    · have := hK w2 (he.trans he2)
      rwa [decide_eq_false (fun e => h3 (by rw [e]))] at this
    · rw [inc64 (by omega)]
      refine hC (by omega) _ _ ⟨rfl, he.trans he2, fun j hj => ?_⟩
      by_cases e : j = i
      · subst e; simpa using h3
      · exact hp j (by omega)
  · have := hK w1 he
    rwa [decide_eq_true (List.ext_getElem (by omega) fun j h1 h2 => by have := hp j (by omega); simpa [List.getD_eq_getElem?_getD, h1, h2] using this)] at this
end Go.Proofs.YtpihgpfebhegmaaGreat
