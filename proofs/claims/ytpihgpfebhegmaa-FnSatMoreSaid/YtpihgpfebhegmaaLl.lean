/- Contracts of chapter 5: SatOk; truth values. -/
import Derived.Test.YtpihgpfebhegmaaLk
set_option linter.unusedVariables false
set_option linter.unusedSimpArgs false
set_option linter.unnecessarySimpa false
set_option linter.unusedSectionVars false
namespace Go.Proofs.Ytpihgpfebhegmaa
open Go Go.Vc Go.Proofs Go.M
variable {w : World} {K : Value → World → Prop} {F Fr : Nat → Prop} {many bs : Nat} {c : Cnf} {s : Sat} {σ : SV}
open Classical in
theorem SatOk_spec {F' : Nat → Prop} {vc v : Value} (hc : CnfR F w vc c) (hv : SatR F' w v s) (hcm : many = c.many.toNat) (hc00 : -9223372036854775808 ≤ c.many) (hc1 : c.many ≤ 9223372036854775807) (hK : ∀ w', Ext w w' → K (.bool (decide (satOk many c s))) w') :
    vcall PP n_impl_SatOk #[vc, v] w K := by
  apply c_impl_SatOk; unfold F_impl_SatOk
  have hc0 := hc
  have hv0 := hv
  obtain ⟨vlist, rfl, hl⟩ := hc
  obtain ⟨vp, vw, vl, rfl, hp, hw, hln⟩ := hv
  refine vbox_new fun b1 w1 hb1 he1 hz1 hB1 => ?_
  refine vbox_new fun b2 w2 hb2 he2 hz2 hB2 => ?_
  have E2 := he1.trans he2
  have A2 : Blk w2 b1 [.int .i64 c.many, vlist] T_impl_Cnf := hB1.ext he2
  have B2 : Blk w2 b2 [vp, vw, vl, .int .i64 s.code] T_impl_Sat := hB2
  rw [A2.ldAgg g_impl_Cnf, B2.ldAgg g_impl_Sat]
  refine readSat_spec (hc0.ext E2) (hv0.ext E2) hcm hc00 hc1 (fun h w3 he3 => ?_) (fun h Fr bs σ w3 he3 hS hf hF1 hF2 => ?_)
  · simp only [push_cast]
    have := hK w3 (E2.trans he3)
    rwa [decide_eq_false h] at this
  · simp only [push_cast]
    have := hK w3 (E2.trans he3)
    rwa [decide_eq_true h] at this
def valsM (many : Nat) (put : List Int) : List Bool := (List.range many).map fun j => decide (((j + 1 : Nat) : Int) ∈ put)
theorem valsM_snoc {many : Nat} {put : List Int} {l : Int} (hd : Distinct (put ++ [l])) (hl : l ≠ 0) : (valsM many put).set (l.natAbs - 1) (decide (0 < l)) = valsM many (put ++ [l]) := by
  refine List.ext_getElem (by simp [valsM]) fun i h1 h2 => ?_
  rw [List.getElem_set]
  simp only [valsM, List.getElem_map, List.getElem_range]
  have hn : ∀ x, x ∈ put → x.natAbs ≠ l.natAbs := by
    unfold Distinct at hd
    rw [List.map_append, List.nodup_append] at hd
    exact fun x hx e => hd.2.2 _ (List.mem_map_of_mem hx) _ (by simp) e
  by_cases hi : l.natAbs - 1 = i
  · rw [if_pos hi]
    refine decide_eq_decide.2 ⟨fun h => List.mem_append_right _ (by rw [List.mem_singleton]; omega), fun h => ?_⟩
    rcases List.mem_append.1 h with h | h
    · exact absurd (by omega) (hn _ h)
    · rw [List.mem_singleton] at h; omega
  · rw [if_neg hi]
    refine decide_eq_decide.2 ⟨fun h => List.mem_append_left _ h, fun h => ?_⟩
    rcases List.mem_append.1 h with h | h
    · exact h
    · rw [List.mem_singleton] at h; omega
theorem vals_spec (h : SR Fr w bs many c s σ) (hK : ∀ w' v, Ext w w' → OwnB PP T_Lbool w' v (valsM many s.put) → (∀ x, v.ownBlock = some x → w.heap.size ≤ x) → K v w') : vcall PP n_impl_search_vals #[.pointer (some ⟨bs, 0, none⟩)] w K := by
  apply c_impl_search_vals; unfold F_impl_search_vals
  have hfw := h.tr.few
  have hfew := h.tr.few'
  simp (disch := (simp only [push_cast]; done)) only [push_cast, h.blk.ld0]
  refine vmkS_own (bs := 1) l_Lbool eo_Lbool zr_bool rfl (by omega) (by omega) fun v1 w1 hv1 he1 hn1 => ?_
  have h1 := h.ext he1
  have hp1 : Ints _ w1 σ.vp s.put := h1.tr.rp.ints
  simp (disch := (simp only [push_cast]; done)) only [push_cast, h1.blk.ld2, h1.tr.blk.ld0, hp1.len]
  have hv0 : OwnB PP T_Lbool w1 v1 (valsM many []) := by
    have : valsM many [] = List.replicate many false := List.ext_getElem (by simp [valsM]) fun i a b => by simp [valsM]
    rw [this]; unfold OwnB; rw [List.map_replicate]; exact hv1
  refine vloop_up s.put.length (fun i u w' => u = [.int .i64 i] ∧ Ext w w' ∧ OwnB PP T_Lbool w' v1 (valsM many (s.put.take i))) ⟨rfl, he1, hv0⟩ ?_
  rintro i _ _ w2 C hi ⟨rfl, he, hv⟩ hC
  simp only [push_cast]
  refine vif_dec (fun a => ?_) (fun a => ?_)
  · have hp2 : Ints _ w2 σ.vp s.put := (h.ext he).tr.rp.ints
    simp (disch := first | (simp only [push_cast]; done) | omega) only [push_cast, hp2.iaddr, hp2.load]
    have hb := h.tr.bnd _ (getD_mem (show i < s.put.length by omega))
    have hvl : (valsM many (s.put.take i)).length = many := by simp [valsM]
    refine variable_spec (by omega) (by omega) ?_
    obtain ⟨q, hq⟩ : ∃ q, (s.put.getD i 0).natAbs = q + 1 := ⟨(s.put.getD i 0).natAbs - 1, by omega⟩
    rw [hq, show (((q + 1 : Nat) : Int)) = (q : Int) + 1 from rfl]
    have hbv := hv.bools
    simp (disch := first | (simp only [push_cast]; done) | omega) only [vbin_sub, Int.add_sub_cancel, push_cast, wrap64, hbv.iaddr]
    refine hv.st z_bool (by omega) fun w3 hv3 hs3 hz3 => ?_
    have hset : (valsM many (s.put.take i)).set q (decide (0 < s.put.getD i 0)) = valsM many (s.put.take (i + 1)) := by
      have hd := distinct_take h.tr.dis (i + 1)
      rw [take_snoc (d := 0) (by omega)] at hd ⊢
      rw [← valsM_snoc hd hb.1, show q = (s.put.getD i 0).natAbs - 1 from by omega]
    rw [hset] at hv3
    exact hC (by omega) _ _ ⟨by simp, Ext.then he hs3 fun x hx => by have := hn1 x hx; omega, hv3⟩
  · rw [List.take_of_length_le (by omega)] at hv
    exact hK w2 v1 he hv hn1
open Classical in
theorem SatVals_spec {F' : Nat → Prop} {vc v : Value} (hc : CnfR F w vc c) (hv : SatR F' w v s) (hcm : many = c.many.toNat) (hc00 : -9223372036854775808 ≤ c.many) (hc1 : c.many ≤ 9223372036854775807) (hK : ∀ w' v, Ext w w' → OwnB PP T_Lbool w' v (if satOk many c s then valsM many s.put else []) → (∀ x, v.ownBlock = some x → w.heap.size ≤ x) → K v w') :
    vcall PP n_impl_SatVals #[vc, v] w K := by
  apply c_impl_SatVals; unfold F_impl_SatVals
  have hc0 := hc
  have hv0 := hv
  obtain ⟨vlist, rfl, hl⟩ := hc
  obtain ⟨vp, vw, vl, rfl, hp, hw, hln⟩ := hv
  refine vbox_new fun b1 w1 hb1 he1 hz1 hB1 => ?_
  refine vbox_new fun b2 w2 hb2 he2 hz2 hB2 => ?_
  have E2 := he1.trans he2
  have A2 : Blk w2 b1 [.int .i64 c.many, vlist] T_impl_Cnf := hB1.ext he2
  have B2 : Blk w2 b2 [vp, vw, vl, .int .i64 s.code] T_impl_Sat := hB2
  rw [A2.ldAgg g_impl_Cnf, B2.ldAgg g_impl_Sat]
  refine readSat_spec (hc0.ext E2) (hv0.ext E2) hcm hc00 hc1 (fun h w3 he3 => ?_) (fun h Fr bs σ w3 he3 hS hf hF1 hF2 => ?_)
  · simp only [push_cast, Bool.not_false]
    exact hK w3 _ (E2.trans he3) (by rw [if_neg h]; exact OwnB.nil) fun x hx => by cases hx
  · simp only [push_cast, Bool.not_true]
    have hz := (E2.trans he3).size
    exact vals_spec hS fun w4 v he4 hv hn => hK w4 v (E2.trans (he3.trans he4)) (by rw [if_pos h]; exact hv) fun x hx => by have := hn x hx; omega
end Go.Proofs.Ytpihgpfebhegmaa
