/- Contracts of chapter 5: reading a state. -/
import Derived.Test.YtpihgpfebhegmaaGreatLi
set_option linter.unusedVariables false
set_option linter.unusedSimpArgs false
set_option linter.unnecessarySimpa false
set_option linter.unusedSectionVars false
namespace Go.Proofs.YtpihgpfebhegmaaGreat
open Go Go.Vc Go.Proofs Go.M
variable {w : World} {K : Value → World → Prop} {F Fr : Nat → Prop} {many bs : Nat} {c : Cnf} {s : Sat} {σ : SV}
theorem take_snoc {α : Type} {xs : List α} {d : α} {i : Nat} (h : i < xs.length) : xs.take (i + 1) = xs.take i ++ [xs.getD i d] := by
  rw [List.take_add_one]; simp [List.getD_eq_getElem?_getD, h]
theorem trailOk_spec {v f : Value} {put : List Int} {dd : List Bool} (hv : Ints F w v put) (hm : many ≤ 700) (hd : dd.length = put.length) (hf : ∀ k, k < put.length → FnB PP w f #[.int .i64 k] (dd.getD k false)) (hFr : ∀ b, Fr b → b < w.heap.size)
    (hno : ¬ marksOk many put → ∀ w', Ext w w' → K (.tuple #[.pointer none, .bool false]) w')
    (hK : marksOk many put → ∀ bt vp vpl vl w', Ext w w' → TrailR Fr w' bt many put dd vp vpl vl → (∀ b, tfoot bt vp vpl vl b → w.heap.size ≤ b) → K (.tuple #[.pointer (some ⟨bt, 0, none⟩), .bool true]) w') :
    vcall PP n_impl_trailOk #[.int .i64 many, v, f] w K := by
  apply c_impl_trailOk; unfold F_impl_trailOk
  refine newTrail_spec hm hFr fun bt vp vpl vl w1 he1 ht1 hn1 => ?_
  have hv1 := hv.ext he1
  simp (disch := first | (simp only [push_cast]; done) | omega) only [push_cast, hv1.len]
  have hlen : put.length ≤ 9223372036854775807 := by obtain ⟨_, _, _, h1, h2, _⟩ := hv.shape; simp at h1; omega
  refine vloop_up put.length (fun i u w' => ∃ vp vl, u = [.int .i64 i] ∧ Ext w w' ∧ TrailR Fr w' bt many (put.take i) (dd.take i) vp vpl vl ∧ (∀ b, tfoot bt vp vpl vl b → w.heap.size ≤ b)) ⟨vp, vl, rfl, he1, ht1, hn1⟩ ?_
  rintro i _ g w2 C hi ⟨vp, vl, rfl, he, ht, hn⟩ hC
  simp only [push_cast]
  refine vif_dec (fun a => ?_) (fun a => ?_)
  · have hv2 := hv.ext he
    simp (disch := first | (simp only [push_cast]; done) | omega) only [push_cast, hv2.iaddr, hv2.load]
    have hmem : put.getD i 0 ∈ put := getD_mem (by omega)
    refine of_spec (by omega) (by omega) ?_
    simp only [push_cast]
    refine vif_bool (fun b => ?_) (fun b => ?_)
    · refine hno (fun h => ?_) w2 he
      have := h.2 _ hmem
      have b' : litOk many (put.getD i 0) = false := by simpa using b
      rw [litOk, decide_eq_false_iff_not] at b'
      omega
    · have b' : litOk many (put.getD i 0) = true := by simpa using b
      rw [litOk, decide_eq_true_eq] at b'
      refine assigned_spec ht (by omega) fun w3 he3 => vif_dec (fun a2 => ?_) (fun a2 => ?_)
      · refine hno (fun h => ?_) w3 (he.trans he3)
        have h2 := distinct_take h.1 (i + 1)
        rw [take_snoc (d := 0) (by omega)] at h2
        unfold Distinct at h2
        rw [List.map_append, List.nodup_append] at h2
        obtain ⟨h3, h4⟩ := placeOf_pos a2
        exact h2.2.2 _ (List.mem_map_of_mem (getD_mem (show placeOf (put.take i) (put.getD i 0).natAbs - 1 < (put.take i).length by omega))) _ (by simp) h4
      · refine hf i (by omega) w3 _ (he.trans he3) fun w4 he4 => ?_
        have E4 := he.trans (he3.trans he4)
        have hsz4 := E4.size
        refine push_spec ((ht.ext he3).ext he4) b'.1 (by omega) (by omega) (fun x hx => by have := hFr x hx; omega) fun vp' vl' w5 ht5 hs5 hn5 => ?_
        simp (disch := omega) only [push_cast, wrap64]
        rw [← take_snoc (by omega), ← take_snoc (by omega)] at ht5
        refine hC (by omega) _ _ ⟨vp', vl', by simp, Ext.then E4 hs5 fun x hx => hn x hx, ht5, fun x hx => ?_⟩
        rcases hn5 x hx with e | e
        · exact hn x e
        · omega
  · have hti : put.take i = put := List.take_of_length_le (by omega)
    have hdi : dd.take i = dd := List.take_of_length_le (by omega)
    rw [hti, hdi] at ht
    exact hK ⟨ht.dis, ht.bnd⟩ bt vp vpl vl w2 he ht hn
section
variable {bt : Nat} {put : List Int} {ds : List Bool} {vp vpl vl : Value}
theorem implies_1_spec {l : Int} {k p1 p2 : Nat} {t1 t2 : TypeId} {r1 r2 : List Value} (h : TrailR Fr w bt many put ds vp vpl vl) (h1 : Blk w p1 (.pointer (some ⟨bt, 0, none⟩) :: r1) t1) (h2 : Blk w p2 (.int .i64 k :: r2) t2) (hk : k < put.length) (hl : l.natAbs ≤ many)
    (hK : ∀ w', Ext w w' → K (.bool (badM put k l)) w') : vcall PP n_impl_trail_implies_1 #[.int .i64 l, .pointer (some ⟨p1, 0, none⟩), .pointer (some ⟨p2, 0, none⟩)] w K := by
  apply c_impl_trail_implies_1; unfold F_impl_trail_implies_1
  refine vdraw_ext fun w1 he1 _ => ?_
  have hp : Ints _ w1 vp put := (h.ext he1).rp.ints
  have A1 := h1.ext he1
  have B1 := h2.ext he1
  have T1 := h.ext he1
  simp (disch := first | (simp only [push_cast]; done) | omega) only [push_cast, A1.ld0, B1.ld0, T1.blk.ld0, hp.iaddr, hp.load, true_and]
  refine vif_dec (fun a => ?_) (fun a => ?_)
  · refine assigned_spec T1 hl fun w2 he2 => ?_
    simp only [push_cast, true_and]
    refine vif_bool (fun b => ?_) (fun b => ?_)
    · have b' : placeOf put l.natAbs = 0 := by simpa using b
      have := hK w2 (he1.trans he2)
      rwa [badM, decide_eq_true a, decide_eq_true b', Bool.true_or, Bool.and_true] at this
    · have b' : ¬ placeOf put l.natAbs = 0 := by simpa using b
      have A2 := A1.ext he2
      simp (disch := first | (simp only [push_cast]; done) | omega) only [push_cast, A2.ld0, true_and]
      refine isTrue_spec (T1.ext he2) hl fun w3 he3 => ?_
      refine vif_dec (fun c1 => ?_) (fun c1 => ?_)
      · have := hK w3 (he1.trans (he2.trans he3))
        rwa [badM, decide_eq_true a, decide_eq_true c1, Bool.true_or, Bool.or_true, Bool.and_true] at this
      · have A3 := A2.ext he3
        have B3 := (B1.ext he2).ext he3
        simp (disch := first | (simp only [push_cast]; done) | omega) only [push_cast, A3.ld0, B3.ld0, true_and]
        refine place_spec ((T1.ext he2).ext he3) hl fun w4 he4 => ?_
        have B4 := B3.ext he4
        simp (disch := first | (simp only [push_cast]; done) | omega) only [push_cast, B4.ld0, true_and, and_self]
        have := hK w4 (he1.trans (he2.trans (he3.trans he4)))
        rwa [badM, decide_eq_true a, decide_eq_false b', decide_eq_false c1, Bool.false_or, Bool.false_or, Bool.true_and] at this
  · have := hK w1 he1
    rwa [badM, decide_eq_false a, Bool.false_and] at this
theorem implies_spec {v : Value} {cl : List Int} {k : Nat} (h : TrailR Fr w bt many put ds vp vpl vl) (hx : Ints F w v cl) (hk : k < put.length) (hl : ∀ l, l ∈ cl → l.natAbs ≤ many)
    (hK : ∀ w', Ext w w' → K (.bool (implM put k cl)) w') : vcall PP n_impl_trail_implies #[.pointer (some ⟨bt, 0, none⟩), v, .int .i64 k] w K := by
  apply c_impl_trail_implies; unfold F_impl_trail_implies
  refine vbox_new fun p1 w1 hp1 he1 hz1 hB1 => ?_
  refine vbox_new fun p2 w2 hp2 he2 hz2 hB2 => ?_
  refine vdraw_ext fun w3 he3 _ => ?_
  have E3 := he1.trans (he2.trans he3)
  have T3 := h.ext E3
  have A3 : Blk w3 p1 [.pointer (some ⟨bt, 0, none⟩)] T_P_impl_trail := (hB1.ext he2).ext he3
  have B3 : Blk w3 p2 [.int .i64 k] T_int := hB2.ext he3
  have hp : Ints _ w3 vp put := T3.rp.ints
  simp (disch := first | (simp only [push_cast]; done) | omega) only [push_cast, A3.ld0, B3.ld0, T3.blk.ld0, hp.iaddr, hp.load, true_and]
  refine Contains_Lint (hx.ext E3) ?_
  refine vif_dec (fun a => ?_) (fun a => ?_)
  · have hx3 : Vals F w3 v (cl.map fun x => .int .i64 x) := hx.ext E3
    refine ContainsFunc_Lint_int (p := fun i => badM put k (cl.getD i 0)) hx3 (fun i hi w' K he hK' => ?_) fun w4 he4 => ?_
    · rw [List.length_map] at hi
      rw [ints_getD hi]
      simp only [push_cast]
      exact implies_1_spec (T3.ext he) (A3.ext he) (B3.ext he) hk (hl _ (getD_mem hi)) fun w5 he5 => hK' w5 he5
    · simp only [push_cast, true_and, List.length_map]
      have := hK w4 (E3.trans he4)
      rwa [implM, decide_eq_true a, Bool.true_and] at this
  · have := hK w3 E3
    rwa [implM, decide_eq_false a, Bool.false_and] at this
end
end Go.Proofs.YtpihgpfebhegmaaGreat
