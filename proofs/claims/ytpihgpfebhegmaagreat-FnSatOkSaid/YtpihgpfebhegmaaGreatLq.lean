/- Contracts of chapter 5: runs; SatStep and SatRun. -/
import Derived.Test.YtpihgpfebhegmaaGreatLp
import Derived.Test.YtpihgpfebhegmaaGreatLi
set_option linter.unusedVariables false
set_option linter.unusedSimpArgs false
set_option linter.unnecessarySimpa false
set_option linter.unusedSectionVars false
namespace Go.Proofs.YtpihgpfebhegmaaGreat
open Go Go.Vc Go.Proofs Go.M
variable {w : World} {K : Value → World → Prop} {F Fr : Nat → Prop} {many bs : Nat} {c : Cnf} {s : Sat} {σ : SV}
theorem run_spec {v : Value} {n : Nat} (hc : CnfR F w v c) (hok : cnfOk c = true) (hcm : c.many = many) (hn : n ≤ 4000)
    (hK : ∀ Fr bs σ w', Ext w w' → SR Fr w' bs many c (runM many c n emptyS) σ → (∀ b, σ.foot bs b → w.heap.size ≤ b) → (∀ b, Fr b → F b ∨ w.heap.size ≤ b) → (∀ b, Fr b → b < w'.heap.size) → K (.pointer (some ⟨bs, 0, none⟩)) w') :
    vcall PP n_impl_run #[v, .int .i64 n] w K := by
  apply c_impl_run; unfold F_impl_run
  obtain ⟨lv, rfl, hl⟩ := hc
  have h700 : many ≤ 700 := by
    have := hok
    unfold cnfOk at this
    simp only [Bool.and_eq_true, decide_eq_true_eq] at this
    omega
  refine vbox_new fun b1 w1 hb1 he1 hz1 hB1 => ?_
  refine vdraw_ext fun w2 he2 _ => ?_
  have A2 : Blk w2 b1 [.int .i64 c.many, lv] T_impl_Cnf := hB1.ext he2
  rw [A2.ldAgg g_impl_Cnf]
  simp (disch := (simp only [push_cast]; done)) only [push_cast, A2.ld0, true_and]
  rw [hcm]
  have hz2 := he2.size
  refine newTrail_spec (Fr := fun b => F b ∧ b < w.heap.size) h700 (fun b hb => by have := hb.2; omega) fun bt vp vpl vl w3 he3 ht3 hn3 => ?_
  have A3 := A2.ext he3
  rw [A3.ldAgg g_impl_Cnf, hcm]
  simp only [true_and]
  refine vbuild_str b_impl_search (us := [[.int .i64 many, lv], [.pointer (some ⟨bt, 0, none⟩)]]) rfl rfl ?_
  refine ⟨rfl, ?_⟩
  refine vbox_new fun bs w4 hbs he4 hz4 hB4 => ?_
  have E4 : Ext w w4 := he1.trans (he2.trans (he3.trans he4))
  have hz3 := he3.size
  have ht4 := ht3.ext he4
  have hl4 := (hl.ext E4).weaken (F' := fun b => F b) fun b h _ => h
  have hlow : Lists (fun b => F b ∧ b < w.heap.size) w4 lv c.list := (hl.weaken (F' := fun b => F b ∧ b < w.heap.size) fun b h1 h2 => ⟨h1, h2⟩).ext E4
  have htl : ∀ x, tfoot bt vp vpl vl x → x < w3.heap.size := by
    rintro x (rfl | e | e | e)
    · exact ht3.blk.lt
    · exact ht3.rp.lt e
    · exact ht3.rpl.lt e
    · exact ht3.rl.lt e
  have hf3 : ∀ x, (SV.mk lv bt vp vpl vl (.slice none 0 0) (.slice none 0 0) []).f3 bs x → x = bs := by
    rintro x (e | e | e)
    · exact e
    · cases e
    · cases e
  have hSR : SR (fun b => F b ∧ b < w.heap.size) w4 bs many c emptyS (SV.mk lv bt vp vpl vl (.slice none 0 0) (.slice none 0 0) []) :=
    ⟨hB4, hcm, hlow, ht4, OwnI.nil, OwnV.nil, rfl, fun i hi => absurd hi (by simp [emptyS]), fun x hx => (by cases hx), fun x hx => (by cases hx), fun x hx => (by cases hx),
      fun x hx ht => by have := hf3 x hx; have := htl x ht; omega, fun x hx hF => by have := hf3 x hx; have := hF.2; omega⟩
  have hfoot : ∀ x, (SV.mk lv bt vp vpl vl (.slice none 0 0) (.slice none 0 0) []).foot bs x → w.heap.size ≤ x := by
    rintro x (e | e)
    · have := hn3 x e; omega
    · have := hf3 x e; omega
  have hfin : ∀ w5, StepTo (fun b => F b ∧ b < w.heap.size) w4 bs many c (runM many c n emptyS) (SV.mk lv bt vp vpl vl (.slice none 0 0) (.slice none 0 0) []) w5 → K (.pointer (some ⟨bs, 0, none⟩)) w5 := by
    rintro w5 ⟨F1, σ1, a1, a2, a3, a4, a5⟩
    refine hK F1 bs σ1 w5 (E4.then a2 hfoot) a1 (fun b hb => ?_) (fun b hb => ?_) a5
    · rcases a3 b hb with e | e
      · exact hfoot b e
      · omega
    · rcases a4 b hb with e | e
      · exact .inl e.1
      · exact .inr (by omega)
  refine vloop_up n (fun i u w' => u = [.int .i64 i] ∧ StepTo (fun b => F b ∧ b < w.heap.size) w4 bs many c (runM many c i emptyS) (SV.mk lv bt vp vpl vl (.slice none 0 0) (.slice none 0 0) []) w') ⟨rfl, StepTo.refl hSR fun b hb => by have := hb.2; omega⟩ ?_
  rintro i _ _ w5 C hi ⟨rfl, h5⟩ hC
  simp only [push_cast]
  refine vif_dec (fun a => ?_) (fun a => ?_)
  · obtain ⟨F1, σ1, a1, a2, a3, a4, a5⟩ := h5
    simp (disch := (simp only [push_cast]; done)) only [push_cast, a1.blk.ld5]
    refine vif_dec (fun b => ?_) (fun b => ?_)
    · refine hfin w5 ⟨F1, σ1, ?_, a2, a3, a4, a5⟩
      have e : n = i + (n - i) := by omega
      rw [e, run_add, run_stop b]
      exact a1
    · refine step_spec a1 (run_ok hcm (empty_ok hok)) hcm a5 fun w6 h6 => ?_
      simp (disch := omega) only [push_cast, wrap64]
      refine hC (by omega) _ _ ⟨by simp, StepTo.trans a2 a3 a4 (by rw [run_succ]; exact h6)⟩
  · have : n = i := by omega
    subst this
    exact hfin w5 h5
/-- A state that is told where there is none. -/
def formS : Sat := ⟨[], [], [], 4⟩
theorem Vals_nil : Vals F w (.slice none 0 0) [] := (OwnV.nil (P := PP) (t := 0)).vals.weaken fun x hx _ => by cases hx
theorem Ints_nil : Ints F w (.slice none 0 0) [] := Vals_nil
theorem Lists_nil : Lists F w (.slice none 0 0) [] := ⟨[], rfl, Vals_nil, fun i hi => absurd hi (by simp)⟩
theorem form_R : SatR F w (.agg #[.slice none 0 0, .slice none 0 0, .slice none 0 0, .int .i64 4]) formS := ⟨_, _, _, rfl, Ints_nil, Ints_nil, Lists_nil⟩
theorem SatR.fields {v : Value} (h : SatR F w v s) : ∃ p y l, v = .agg #[p, y, l, .int .i64 s.code] ∧ ∀ x, x ∈ [p, y, l, .int .i64 s.code] → x.oneCell' = true := by
  obtain ⟨p, y, l, rfl, h1, h2, ls, _, hlv, _⟩ := h
  refine ⟨p, y, l, rfl, fun x hx => ?_⟩
  simp only [List.mem_cons, List.not_mem_nil, or_false] at hx
  rcases hx with rfl | rfl | rfl | rfl
  · exact h1.one
  · exact h2.one
  · exact hlv.one
  · rfl
theorem SatR.same {S : Nat → Prop} {w' : World} {v : Value} (h : SatR F w v s) (hw : Same S w w') (hs : ∀ b, F b → b < w.heap.size → ¬ S b) : SatR F w' v s := by
  obtain ⟨vp, vw, vl, hv, h1, h2, h3⟩ := h; exact ⟨vp, vw, vl, hv, h1.same hw hs, h2.same hw hs, h3.same hw hs⟩
theorem CnfR.below {v : Value} (h : CnfR F w v c) : CnfR (fun b => F b ∧ b < w.heap.size) w v c := by
  obtain ⟨lv, e, h⟩ := h
  exact ⟨lv, e, h.weaken fun b h1 h2 => ⟨h1, h2⟩⟩
theorem SatStep_spec {F' : Nat → Prop} {vc v : Value} (hc : CnfR F w vc c) (hv : SatR F' w v s) (hcm : many = c.many.toNat) (hc0 : -9223372036854775808 ≤ c.many) (hc1 : c.many ≤ 9223372036854775807)
    (hyes : satOk many c s → ∀ w' v, Ext w w' → SatR (fun b => w.heap.size ≤ b ∨ F b) w' v (stepM many c s) → K v w') (hno : ¬ satOk many c s → ∀ w' v, Ext w w' → SatR (fun b => w.heap.size ≤ b ∨ F b) w' v formS → K v w') : vcall PP n_impl_SatStep #[vc, v] w K := by
  apply c_impl_SatStep; unfold F_impl_SatStep
  have hc' := hc.below
  have hv' := hv
  obtain ⟨lv, rfl, hl⟩ := hc
  obtain ⟨vp, vw, vl, rfl, hp, hw, hln⟩ := hv
  refine vbox_new fun b1 w1 hb1 he1 hz1 hB1 => ?_
  refine vbox_new fun b2 w2 hb2 he2 hz2 hB2 => ?_
  refine valloc_new zr_impl_Sat fun b3 w3 hb3 he3 hz3 hB3 => ?_
  have A3 : Blk w3 b1 [.int .i64 c.many, lv] T_impl_Cnf := (hB1.ext he2).ext he3
  have B3 : Blk w3 b2 [vp, vw, vl, .int .i64 s.code] T_impl_Sat := hB2.ext he3
  have E3 := he1.trans (he2.trans he3)
  have hzE := E3.size
  have hB3' : Blk w3 b3 [.slice none 0 0, .slice none 0 0, .slice none 0 0, .int .i64 0] T_impl_Sat := hB3
  rw [A3.ldAgg g_impl_Cnf, B3.ldAgg g_impl_Sat]
  refine readSat_spec (hc'.ext E3) (hv'.ext E3) hcm hc0 hc1 (fun h w4 he4 => ?_) (fun h Fr bs σ w4 he4 hS hf hF1 hF2 => ?_)
  · simp only [push_cast, Bool.not_false]
    have hB4 := hB3'.ext he4
    refine vbuild_str b_impl_Sat (us := [[.int .i64 4]]) rfl rfl ?_
    refine hB4.stAgg (cs' := [.slice none 0 0, .slice none 0 0, .slice none 0 0, .int .i64 4]) rfl g_impl_Sat (fun x hx => by simp only [List.mem_cons, List.not_mem_nil, or_false] at hx; rcases hx with rfl | rfl | rfl | rfl <;> rfl) fun w5 hs5 hz5 hB5 => ?_
    rw [hB5.lv g_impl_Sat]
    exact hno h w5 _ (Ext.then (E3.trans he4) hs5 fun x hx => by omega) form_R
  · have hcm' : c.many = many := by
      have := h.cnf
      unfold cnfOk at this
      simp only [Bool.and_eq_true, decide_eq_true_eq] at this
      omega
    simp only [push_cast, Bool.not_true]
    refine step_spec hS h hcm' hF1 fun w5 h5 => ?_
    obtain ⟨F1, σ1, a1, a2, a3, a4, a5⟩ := h5
    have E4 := E3.trans he4
    have hz4 := he4.size
    have hf' : ∀ x, σ.foot bs x → w3.heap.size ≤ x := hf
    have hB4 := (hB3'.ext he4).same a2 fun e => by have := hf' _ e; have := hB3.lt; omega
    refine sat_spec a1 fun w6 v6 he6 hv6 => ?_
    have hB6 := hB4.ext he6
    have E6 : Ext w w6 := (Ext.then E4 a2 fun x hx => by have := hf' x hx; omega).trans he6
    have hz5 := a2.size
    obtain ⟨p6, y6, l6, rfl, h1⟩ := hv6.fields
    refine hB6.stAgg (cs' := [p6, y6, l6, .int .i64 (stepM many c s).code]) rfl g_impl_Sat h1 fun w7 hs7 hz7 hB7 => ?_
    rw [hB7.lv g_impl_Sat]
    have hap : ∀ x, (w5.heap.size ≤ x ∨ σ1.vr.ownBlock = some x ∨ F1 x) → x < w6.heap.size → ¬ x = b3 := fun x hx _ e => by
      have := hB3.lt
      rcases hx with e' | e' | e'
      · omega
      · rcases a3 x (.inr (.inr (.inr e'))) with e2 | e2
        · have := hf' x e2; omega
        · omega
      · rcases a4 x e' with e2 | e2
        · rcases hF2 x e2 with e3 | e3
          · have := e3.2; have := he1.size; have := he2.size; omega
          · omega
        · omega
    have hwk : ∀ x, (w5.heap.size ≤ x ∨ σ1.vr.ownBlock = some x ∨ F1 x) → x < w7.heap.size → w.heap.size ≤ x ∨ F x := fun x hx _ => by
      rcases hx with e | e | e
      · exact .inl (by omega)
      · rcases a3 x (.inr (.inr (.inr e))) with e2 | e2
        · have := hf' x e2; exact .inl (by omega)
        · exact .inl (by omega)
      · rcases a4 x e with e2 | e2
        · rcases hF2 x e2 with e3 | e3
          · exact .inr e3.1
          · exact .inl (by omega)
        · exact .inl (by omega)
    exact hyes h w7 _ (Ext.then E6 hs7 fun x hx => by omega) ((hv6.same hs7 hap).weaken hwk)
theorem SatRun_spec {vc : Value} {fuel : Int} (hc : CnfR F w vc c) (hcm : many = c.many.toNat) (hc0 : -9223372036854775808 ≤ c.many) (hc1 : c.many ≤ 9223372036854775807)
    (hK : ∀ w' v, Ext w w' → SatR (fun b => w.heap.size ≤ b ∨ F b) w' v (if cnfOk c = true ∧ 0 ≤ fuel ∧ fuel ≤ 4000 then runM many c fuel.toNat emptyS else formS) → K v w') : vcall PP n_impl_SatRun #[vc, .int .i64 fuel] w K := by
  apply c_impl_SatRun; unfold F_impl_SatRun
  have hc' := hc.below
  obtain ⟨lv, rfl, hl⟩ := hc
  refine vbox_new fun b1 w1 hb1 he1 hz1 hB1 => ?_
  refine valloc_new zr_impl_Sat fun b3 w3 hb3 he3 hz3 hB3 => ?_
  have A3 : Blk w3 b1 [.int .i64 c.many, lv] T_impl_Cnf := hB1.ext he3
  have E3 := he1.trans he3
  have hB3' : Blk w3 b3 [.slice none 0 0, .slice none 0 0, .slice none 0 0, .int .i64 0] T_impl_Sat := hB3
  rw [A3.ldAgg g_impl_Cnf]
  refine CnfOk_spec (hc'.ext E3) hc0 hc1 fun w4 he4 => ?_
  have E4 := E3.trans he4
  have hB4 := hB3'.ext he4
  have A4 := A3.ext he4
  have hz4 := he4.size
  have hb3' := hB3.lt
  have no : ¬ (cnfOk c = true ∧ 0 ≤ fuel ∧ fuel ≤ 4000) → vbuild PP T_impl_Sat [(3, .int .i64 4)] w4 fun t16 w_6 => vstore PP T_impl_Sat (.pointer (some ⟨b3, 0, none⟩)) t16 w_6 fun _ w_7 => vlv PP T_impl_Sat (.pointer (some ⟨b3, 0, none⟩)) w_7 fun r4 w_8 => K r4 w_8 := fun hn => by
    refine vbuild_str b_impl_Sat (us := [[.int .i64 4]]) rfl rfl ?_
    refine hB4.stAgg (cs' := [.slice none 0 0, .slice none 0 0, .slice none 0 0, .int .i64 4]) rfl g_impl_Sat (fun x hx => by simp only [List.mem_cons, List.not_mem_nil, or_false] at hx; rcases hx with rfl | rfl | rfl | rfl <;> rfl) fun w5 hs5 hz5 hB5 => ?_
    rw [hB5.lv g_impl_Sat]
    exact hK w5 _ (Ext.then E4 hs5 fun x hx => by omega) (by rw [if_neg hn]; exact form_R)
  simp only [push_cast]
  refine vif_bool (fun a => no fun h => by rw [h.1] at a; cases a) (fun a => ?_)
  have hok : cnfOk c = true := by simpa using a
  refine vif_dec (fun a1 => no fun h => by omega) (fun a1 => vif_dec (fun a2 => no fun h => by omega) (fun a2 => ?_))
  have hcm' : c.many = many := by
    have := hok
    unfold cnfOk at this
    simp only [Bool.and_eq_true, decide_eq_true_eq] at this
    omega
  rw [A4.ldAgg g_impl_Cnf]
  obtain ⟨n, rfl⟩ : ∃ n : Nat, fuel = n := ⟨fuel.toNat, by omega⟩
  refine run_spec (hc'.ext E4) hok hcm' (by omega) fun Fr bs σ w5 he5 hS hf hF1 hF2 => ?_
  refine sat_spec hS fun w6 v6 he6 hv6 => ?_
  rw [if_pos ⟨hok, by omega, by omega⟩, Int.toNat_natCast] at hK
  have hB6 := (hB4.ext he5).ext he6
  have E6 : Ext w w6 := E4.trans (he5.trans he6)
  have hz5 := he5.size
  have hz6 := E4.size
  obtain ⟨p6, y6, l6, rfl, h1⟩ := hv6.fields
  refine hB6.stAgg (cs' := [p6, y6, l6, .int .i64 (runM many c n emptyS).code]) rfl g_impl_Sat h1 fun w7 hs7 hz7 hB7 => ?_
  rw [hB7.lv g_impl_Sat]
  have hap : ∀ x, (w5.heap.size ≤ x ∨ σ.vr.ownBlock = some x ∨ Fr x) → x < w6.heap.size → ¬ x = b3 := fun x hx _ e => by
    rcases hx with e' | e' | e'
    · omega
    · have := hf x (.inr (.inr (.inr e'))); omega
    · rcases hF1 x e' with e2 | e2
      · have := e2.2; have := he1.size; omega
      · omega
  have hwk : ∀ x, (w5.heap.size ≤ x ∨ σ.vr.ownBlock = some x ∨ Fr x) → x < w7.heap.size → w.heap.size ≤ x ∨ F x := fun x hx _ => by
    rcases hx with e | e | e
    · exact .inl (by omega)
    · have := hf x (.inr (.inr (.inr e))); exact .inl (by omega)
    · rcases hF1 x e with e2 | e2
      · exact .inr e2.1
      · exact .inl (by omega)
  exact hK w7 _ (Ext.then E6 hs7 fun x hx => by omega) ((hv6.same hs7 hap).weaken hwk)
end Go.Proofs.YtpihgpfebhegmaaGreat
