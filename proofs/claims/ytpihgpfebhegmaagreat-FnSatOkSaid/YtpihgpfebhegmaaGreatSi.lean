/- Contracts of the reference's chapter 5: SatStep. -/
import Derived.Test.YtpihgpfebhegmaaGreatSg
set_option linter.unusedVariables false
set_option linter.unusedSimpArgs false
set_option linter.unnecessarySimpa false
set_option linter.unusedSectionVars false
namespace Go.Proofs.YtpihgpfebhegmaaGreat
open Go Go.Vc Go.Proofs Go.M
variable {w : World} {K : Value → World → Prop} {F Fr F' : Nat → Prop} {many : Nat} {c : Cnf} {s : Sat}
theorem _root_.Go.M.satOk.sizes (h : satOk many c s) (hcm : c.many = many) : s.put.length ≤ 700 ∧ s.why.length ≤ 700 ∧ s.learned.length ≤ 300 ∧ ∀ x, x ∈ s.learned → x.length ≤ 700 := by
  obtain ⟨-, h7, -, -⟩ := cnfOk_iff.1 h.cnf
  have h1 := h.mks.len
  have h2 := h.len
  refine ⟨by omega, by omega, h.few, fun x hx => ?_⟩
  have := clauseOk_len (m := many) (by have := h.lrn x hx; rwa [hcm] at this)
  omega
open Classical in
theorem specSatStep_spec {vc v : Value} (hc : CnfR F w vc c) (hs : SatR F' w v s) (hcm : many = c.many.toNat) (hc0 : -9223372036854775808 ≤ c.many) (hc1 : c.many ≤ 9223372036854775807)
    (hyes : satOk many c s → ∀ w' v, Ext w w' → SatR (fun b => w.heap.size ≤ b) w' v (stepM many c s) → K v w') (hno : ¬ satOk many c s → ∀ w' v, Ext w w' → SatR (fun b => w.heap.size ≤ b) w' v formS → K v w') : vcall PP n_spec_SatStep #[vc, v] w K := by
  apply c_spec_SatStep; unfold F_spec_SatStep
  have hc' := hc.below
  have hs' := hs
  obtain ⟨lv, rfl, hl⟩ := hc
  obtain ⟨vp, vw, vl, rfl, hp, hw, hln⟩ := hs
  refine vbox_new fun b1 w1 hb1 he1 hz1 hB1 => ?_
  refine vbox_new fun b2 w2 hb2 he2 hz2 hB2 => ?_
  refine valloc_new zr_impl_Sat fun b3 w3 hb3 he3 hz3 hB3 => ?_
  have A3 : Blk w3 b1 [.int .i64 c.many, lv] T_impl_Cnf := (hB1.ext he2).ext he3
  have B3 : Blk w3 b2 [vp, vw, vl, .int .i64 s.code] T_impl_Sat := hB2.ext he3
  have R3 : Blk w3 b3 [.slice none 0 0, .slice none 0 0, .slice none 0 0, .int .i64 0] T_impl_Sat := hB3
  have E3 := he1.trans (he2.trans he3)
  have hzE := E3.size
  rw [A3.ldAgg g_impl_Cnf, B3.ldAgg g_impl_Sat]
  refine specSatOk_spec (hc'.ext E3) (hs'.ext E3) hcm hc0 hc1 fun w4 he4 => ?_
  have E4 := E3.trans he4
  have A4 := A3.ext he4
  have B4 := B3.ext he4
  have R4 := R3.ext he4
  have hz4 := he4.size
  simp only [push_cast]
  -- what is copied last
  have fin : ∀ (w5 : World) (v5 : Value) (t : Sat), Ext w w5 → w4.heap.size ≤ w5.heap.size → Blk w5 b3 [.slice none 0 0, .slice none 0 0, .slice none 0 0, .int .i64 0] T_impl_Sat → SatR (fun _ => True) w5 v5 t → satOk many c s → stepM many c s = t → t.put.length ≤ 700 → t.why.length ≤ 700 → t.learned.length ≤ 300 → (∀ x, x ∈ t.learned → x.length ≤ 700) →
      vcall PP n_spec_l5Copy #[v5] w5 fun t32 w_16 => vstore PP T_impl_Sat (.pointer (some ⟨b3, 0, none⟩)) t32 w_16 fun _ w_17 => vlv PP T_impl_Sat (.pointer (some ⟨b3, 0, none⟩)) w_17 fun r4 w_18 => K r4 w_18 := by
    intro w5 v5 t E5 hz5 R5 hv5 hok e h1 h2 h3 h4
    refine l5Copy_spec hv5 (by omega) (by omega) (by omega) (fun x hx => by have := h4 x hx; omega) fun w6 v6 he6 hv6 => ?_
    have R6 := R5.ext he6
    have E6 := E5.trans he6
    have hz6 := E4.size
    obtain ⟨p6, y6, l6, rfl, hone⟩ := hv6.sat.fields
    refine R6.stAgg (cs' := [p6, y6, l6, .int .i64 t.code]) rfl g_impl_Sat hone fun w7 hs7 hz7 hB7 => ?_
    rw [hB7.lv g_impl_Sat]
    have lb := hB3.lt
    refine hyes hok w7 _ (Ext.then E6 hs7 fun x hx => by omega) ?_
    rw [e]
    exact (hv6.sat.same hs7 fun x hx _ e => by omega).weaken fun x hx _ => by omega
  refine vif_bool (fun a => ?_) (fun a => ?_)
  · have hn : ¬ satOk many c s := fun h => by rw [decide_eq_true h] at a; cases a
    refine vbuild_str b_impl_Sat (us := [[.int .i64 4]]) rfl rfl ?_
    refine R4.stAgg (cs' := [.slice none 0 0, .slice none 0 0, .slice none 0 0, .int .i64 4]) rfl g_impl_Sat (fun x hx => by simp only [List.mem_cons, List.not_mem_nil, or_false] at hx; rcases hx with rfl | rfl | rfl | rfl <;> rfl) fun w5 hs5 hz5 hB5 => ?_
    rw [hB5.lv g_impl_Sat]
    exact hno hn w5 _ (Ext.then E4 hs5 fun x hx => by omega) form_R
  have hok : satOk many c s := by simpa using a
  have hcm' : c.many = many := by have := (cnfOk_iff.1 hok.cnf).1; omega
  obtain ⟨z1, z2, z3, z4⟩ := hok.sizes hcm'
  simp (disch := (simp only [push_cast]; done)) only [push_cast, B4.ld3]
  refine vif_dec (fun d => ?_) (fun d => ?_)
  · rw [B4.ldAgg g_impl_Sat]
    refine fin w4 _ s E4 (Nat.le_refl _) R4 ((hs'.ext E4).weaken fun _ _ _ => trivial) hok ?_ z1 z2 z3 z4
    unfold stepM; rw [if_neg d]
  · refine vdraw_ext fun w5 he5 _ => ?_
    have E5 := E4.trans he5
    have A5 := A4.ext he5
    have B5 := B4.ext he5
    have R5 := R4.ext he5
    simp (disch := (simp only [push_cast]; done)) only [push_cast, A5.ldAgg g_impl_Cnf, B5.ldAgg g_impl_Sat, true_and]
    refine l5Copy_spec (hs'.ext E5) (by omega) (by omega) (by omega) (fun x hx => by have := z4 x hx; omega) fun w6 v6 he6 hv6 => ?_
    have A6 := A5.ext he6
    have R6 := R5.ext he6
    simp (disch := (simp only [push_cast]; done)) only [push_cast, A6.ldAgg g_impl_Cnf, true_and, and_self]
    have E6 := E5.trans he6
    refine l5Do_spec (hc'.ext E6) hv6 hok hcm' fun w7 v7 hs7 hv7 => ?_
    have hz5 := he5.size
    have hz6 := he6.size
    have lb := R6.lt
    have hgo : stepM many c s = goM many c s := by unfold stepM; rw [if_pos (by simpa using d)]
    have hok' := step_ok hok hcm'
    obtain ⟨y1, y2, y3, y4⟩ := hok'.sizes hcm'
    rw [hgo] at y1 y2 y3 y4
    have hz7 := hs7.size
    exact fin w7 _ (goM many c s) (Ext.then E6 hs7 fun x hx => by have := E4.size; omega) (by omega) (R6.same hs7 (by have := hB3.lt; omega)) (hv7.sat.weaken fun _ _ _ => trivial) hok hgo y1 y2 y3 y4
end Go.Proofs.YtpihgpfebhegmaaGreat
