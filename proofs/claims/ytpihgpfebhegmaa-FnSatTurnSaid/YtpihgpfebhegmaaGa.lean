/- The law FnSatRun: a search is its steps in order. -/
import Derived.Test.YtpihgpfebhegmaaDb
set_option linter.unusedVariables false
set_option linter.unusedSimpArgs false
set_option linter.unnecessarySimpa false
set_option linter.unusedSectionVars false
namespace Go.Proofs.Ytpihgpfebhegmaa
open Go Go.Vc Go.Proofs Go.M
variable {w : World} {K : Value → World → Prop} {F Fr F' : Nat → Prop} {c : Cnf} {s : Sat}
/-- What SatRun answers. -/
def runA (c : Cnf) (fuel : Int) : Sat := if cnfOk c = true ∧ 0 ≤ fuel ∧ fuel ≤ 4000 then runM c.many.toNat c fuel.toNat emptyS else formS
theorem runA_no {fuel : Int} (h : ¬ (cnfOk c = true ∧ 0 ≤ fuel ∧ fuel ≤ 4000)) : runA c fuel = formS := if_neg h
theorem cnfOk_many (h : cnfOk c = true) : c.many = (c.many.toNat : Int) := by
  unfold cnfOk at h
  simp only [Bool.and_eq_true, decide_eq_true_eq] at h
  omega
theorem runA_step {n : Nat} (hok : cnfOk c = true) : satOk c.many.toNat c (runM c.many.toNat c n emptyS) := run_ok (cnfOk_many hok) (empty_ok hok)
theorem satEq_self (s : Sat) : satEq s s = true := satEq_iff.2 rfl
theorem FnSatRun_spec {v : Value} {xs : List Nat} (hx : Bytes F w v xs) (hK : ∀ w', Ext w w' → K (.bool true) w') : vcall PP n_laws_FnSatRun #[v] w K := by
  apply c_laws_FnSatRun; unfold F_laws_FnSatRun
  simp (disch := (simp only [push_cast]; done)) only [push_cast, hx.len]
  refine vif_dec (fun _ => hK w (Same.refl _ _)) (fun _ => ?_)
  refine DrawSatRun_spec hx fun w1 vc c fuel he1 hc1 hma hmb hf1 hf2 hl1 h71 => ?_
  simp only [push_cast]
  refine valloc_new zr_impl_Cnf fun b3 w2 hb3 he2 hz2 hB2 => ?_
  have hc1' := hc1.below
  obtain ⟨lv, rfl, hone⟩ := hc1'.fields
  refine (show Blk w2 b3 [.int .i64 0, .slice none 0 0] T_impl_Cnf from hB2).stAgg (cs' := [.int .i64 c.many, lv]) rfl g_impl_Cnf hone fun w3 hs3 hz3 hB3 => ?_
  have E1 := he1
  have E3 : Ext w w3 := Ext.then (he1.trans he2) hs3 fun x hx => by have := he1.size; omega
  have hc3 := (hc1'.ext he2).same hs3 fun x hx _ e => by have := hx.2; omega
  rw [hB3.ldAgg g_impl_Cnf]
  have hz1 := he1.size
  refine SatRun_spec hc3 rfl hma hmb fun w4 v4 he4 hv4 => ?_
  have B4 := hB3.ext he4
  refine valloc_new zr_impl_Sat fun b5 w5 hb5 he5 hz5 hB5 => ?_
  have hv4' : SatR (fun x => x ≠ b5) w4 v4 (runA c fuel) := hv4.weaken fun x h1 h2 => by omega
  obtain ⟨p4, y4, l4, rfl, hone4⟩ := hv4'.fields
  refine (show Blk w5 b5 [.slice none 0 0, .slice none 0 0, .slice none 0 0, .int .i64 0] T_impl_Sat from hB5).stAgg (cs' := [p4, y4, l4, .int .i64 (runA c fuel).code]) rfl g_impl_Sat hone4 fun w6 hs6 hz6 hB6 => ?_
  have hz4 := he4.size
  have B6 := (B4.ext he5).same hs6 (by have := hB3.lt; omega)
  have hv6 := (hv4'.ext he5).same hs6 fun x hx _ e => hx e
  have E6 : Ext w w6 := Ext.then (E3.trans (he4.trans he5)) hs6 fun x hx => by have := E3.size; omega
  have E36 : Ext w3 w6 := Ext.then (he4.trans he5) hs6 fun x hx => by omega
  have hc6 := hc3.ext E36
  refine vdraw_ext fun w7 he7 _ => ?_
  have A7 := hB6.ext he7
  have B7 := B6.ext he7
  simp (disch := (simp only [push_cast]; done)) only [push_cast, A7.ldAgg g_impl_Sat, B7.ldAgg g_impl_Cnf, true_and]
  refine specSatRun_spec (hc6.ext he7) rfl hma hmb fun w8 v8 he8 hv8 => ?_
  have A8 := A7.ext he8
  simp (disch := (simp only [push_cast]; done)) only [push_cast, A8.ldAgg g_impl_Sat, true_and, and_self]
  have E8 := E6.trans (he7.trans he8)
  refine SatSame_spec (hv6.ext (he7.trans he8)) hv8 fun w9 he9 => ?_
  have A9 := A8.ext he9
  have B9 := (B7.ext he8).ext he9
  have E9 := E8.trans he9
  have E69 := he7.trans (he8.trans he9)
  have hv9 := hv6.ext E69
  have hc9 := hc6.ext E69
  rw [show satEq (runA c fuel) (if cnfOk c = true ∧ 0 ≤ fuel ∧ fuel ≤ 4000 then runM c.many.toNat c fuel.toNat emptyS else formS) = true from satEq_self _]
  simp only [push_cast, Bool.not_true, true_and]
  -- x is the state of none
  have form : runA c fuel = formS → vload PP T_impl_Sat (.pointer (some ⟨b5, 0, none⟩)) w9 fun t36 w_20 => vbuild PP T_impl_Sat [(3, .int .i64 4)] w_20 fun t37 w_21 => vcall PP n_impl_SatSame #[t36, t37] w_21 fun t38 w_22 => K t38 w_22 := fun hform => by
    rw [A9.ldAgg g_impl_Sat]
    refine vbuild_str b_impl_Sat (us := [[.int .i64 4]]) rfl rfl ?_
    refine SatSame_spec hv9 (form_R (F := fun _ => True)) fun w10 he10 => ?_
    rw [hform, satEq_self]
    exact hK w10 (E9.trans he10)
  refine vjoin_of (fun _ w' => Ext w9 w' ∧ cnfOk c = true ∧ 0 ≤ fuel ∧ fuel ≤ 4000) ?_ ?_
  · intro J hJ
    refine vif_dec (fun a => form (runA_no fun h => by omega)) (fun a => vif_dec (fun a2 => form (runA_no fun h => by omega)) (fun a2 => ?_))
    simp (disch := (simp only [push_cast]; done)) only [push_cast, B9.ldAgg g_impl_Cnf]
    refine CnfOk_spec hc9 hma hmb fun w10 he10 => ?_
    simp only [push_cast]
    refine vif_bool (fun a3 => ?_) (fun a3 => hJ _ _ ⟨he10, by simpa using a3, by omega, by omega⟩)
    have hform : runA c fuel = formS := runA_no fun h => by rw [h.1] at a3; cases a3
    have A10 := A9.ext he10
    simp (disch := (simp only [push_cast]; done)) only [A10.ldAgg g_impl_Sat]
    refine vbuild_str b_impl_Sat (us := [[.int .i64 4]]) rfl rfl ?_
    refine SatSame_spec (hv9.ext he10) (form_R (F := fun _ => True)) fun w11 he11 => ?_
    rw [hform, satEq_self]
    exact hK w11 (E9.trans (he10.trans he11))
  rintro _ _ w10 ⟨he10, hok, hf0, hf4⟩
  have A10 := A9.ext he10
  have B10 := B9.ext he10
  have hv10 := hv9.ext he10
  have hc10 := hc9.ext he10
  have E10 := E9.trans he10
  obtain ⟨n, rfl⟩ : ∃ n : Nat, fuel = n := ⟨fuel.toNat, by omega⟩
  have hrun : runA c n = runM c.many.toNat c n emptyS := by unfold runA; rw [if_pos ⟨hok, by omega, by omega⟩, Int.toNat_natCast]
  have hmany := cnfOk_many hok
  refine vif_dec (fun a => ?_) (fun a => ?_)
  · -- one step more than a run of one step less
    refine vdraw_ext fun w11 he11 _ => ?_
    have A11 := A10.ext he11
    have B11 := B10.ext he11
    obtain ⟨m, rfl⟩ : ∃ m, n = m + 1 := ⟨n - 1, by omega⟩
    simp (disch := (simp only [push_cast]; done)) only [A11.ldAgg g_impl_Sat, B11.ldAgg g_impl_Cnf, true_and, vbin_sub]
    rw [show ((m + 1 : Nat) : Int) - 1 = (m : Int) from by omega, wrap64 (by omega) (by omega)]
    have hc11 := hc10.ext he11
    refine SatRun_spec hc11 rfl hma hmb fun w12 v12 he12 hv12 => ?_
    have A12 := A11.ext he12
    have B12 := B11.ext he12
    simp (disch := (simp only [push_cast]; done)) only [A12.ldAgg g_impl_Sat, B12.ldAgg g_impl_Cnf, true_and, and_self]
    rw [if_pos ⟨hok, by omega, by omega⟩, Int.toNat_natCast] at hv12
    refine SatStep_spec (hc11.ext he12) hv12 rfl hma hmb (fun _ w13 v13 he13 hv13 => ?_) (fun h => absurd (runA_step hok) h)
    have A13 := A12.ext he13
    simp (disch := (simp only [push_cast]; done)) only [A13.ldAgg g_impl_Sat, true_and, and_self]
    rw [← run_succ, ← hrun] at hv13
    have E1013 := he11.trans (he12.trans he13)
    refine SatSame_spec hv13 (hv10.ext E1013) fun w14 he14 => ?_
    rw [satEq_self]
    exact hK w14 (E10.trans (E1013.trans he14))
  · refine vbuild_str b_impl_Sat (us := []) rfl rfl ?_
    refine valloc_new zr_impl_Sat fun b6 w11 hb6 he11 hz11 hB11 => ?_
    have hb3 := B10.lt
    have hb5' := A10.lt
    have C11 : Blk w11 b6 [.slice none 0 0, .slice none 0 0, .slice none 0 0, .int .i64 0] T_impl_Sat := hB11
    refine C11.stAgg (cs' := [.slice none 0 0, .slice none 0 0, .slice none 0 0, .int .i64 0]) rfl g_impl_Sat (fun x hx => by simp only [List.mem_cons, List.not_mem_nil, or_false] at hx; rcases hx with rfl | rfl | rfl | rfl <;> rfl) fun w12 hs12 hz12 hB12 => ?_
    have E1012 : Ext w10 w12 := Ext.then he11 hs12 fun x hx => by omega
    have hlow := B10
    refine vloop_up n (fun i u w' => ∃ p y l, u = [.int .i64 i] ∧ Ext w10 w' ∧ Blk w' b6 [p, y, l, .int .i64 (runM c.many.toNat c i emptyS).code] T_impl_Sat ∧ SatR (fun x => x ≠ b6) w' (.agg #[p, y, l, .int .i64 (runM c.many.toNat c i emptyS).code]) (runM c.many.toNat c i emptyS))
      ⟨_, _, _, rfl, E1012, hB12, ⟨_, _, _, rfl, Ints_nil, Ints_nil, Lists_nil⟩⟩ ?_
    rintro i _ _ w13 C hi ⟨p, y, l, rfl, E13, C13, hv13⟩ hC
    have A13 := A10.ext E13
    have B13 := B10.ext E13
    simp only [push_cast]
    refine vif_dec (fun a2 => ?_) (fun a2 => ?_)
    · rw [B13.ldAgg g_impl_Cnf, C13.ldAgg g_impl_Sat]
      have hcb : CnfR (fun x => x < w10.heap.size) w13 (.agg ⟨[.int .i64 c.many, lv]⟩) c := (hc10.below.ext E13).weaken fun x hx _ => hx.2
      refine SatStep_spec hcb hv13 rfl hma hmb (fun _ w14 v14 he14 hv14 => ?_) (fun h => absurd (runA_step hok) h)
      rw [← run_succ] at hv14
      have C14 := C13.ext he14
      have hv14' : SatR (fun x => x ≠ b6) w14 v14 (runM c.many.toNat c (i + 1) emptyS) := hv14.weaken fun x h1 _ => by
        have := C13.lt
        rcases h1 with h1 | h1 <;> omega
      obtain ⟨p', y', l', rfl, h1⟩ := hv14'.fields
      refine C14.stAgg (cs' := [p', y', l', .int .i64 (runM c.many.toNat c (i + 1) emptyS).code]) rfl g_impl_Sat h1 fun w15 hs15 hz15 hB15 => ?_
      rw [inc64 (by omega)]
      exact hC (by omega) _ _ ⟨p', y', l', rfl, Ext.then (E13.trans he14) hs15 fun x hx => by omega, hB15, hv14'.same hs15 fun x hx _ e => hx e⟩
    · have : n = i := by omega
      subst this
      rw [C13.ldAgg g_impl_Sat, A13.ldAgg g_impl_Sat]
      refine SatSame_spec hv13 (hv10.ext E13) fun w14 he14 => ?_
      rw [hrun, satEq_self]
      exact hK w14 (E10.trans (E13.trans he14))
end Go.Proofs.Ytpihgpfebhegmaa
