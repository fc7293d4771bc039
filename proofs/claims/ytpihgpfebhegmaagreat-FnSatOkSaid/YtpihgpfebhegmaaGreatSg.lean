/- Contracts of the reference's chapter 5: what a search can be. -/
import Derived.Test.YtpihgpfebhegmaaGreatSf
import Derived.Test.YtpihgpfebhegmaaGreatGc
set_option linter.unusedVariables false
set_option linter.unusedSimpArgs false
set_option linter.unnecessarySimpa false
set_option linter.unusedSectionVars false
namespace Go.Proofs.YtpihgpfebhegmaaGreat
open Go Go.Vc Go.Proofs Go.M
variable {w : World} {K : Value → World → Prop} {F Fr F' : Nat → Prop} {many : Nat} {c : Cnf} {s : Sat}
theorem sgnL_neg {put : List Int} (hm : marksOk many put) {q : Int} : sgnL put q < 0 ↔ -q ∈ put := by
  unfold sgnL
  by_cases h1 : q ∈ put
  · rw [if_pos h1]
    exact ⟨fun h => by omega, fun h => absurd h (hm.neg h1)⟩
  rw [if_neg h1]
  by_cases h2 : placeOf put q.natAbs = 0
  · rw [if_pos h2]
    exact ⟨fun h => by omega, fun h => absurd (by rw [Int.natAbs_neg]; exact h2) (placeOf_ne_zero h)⟩
  · rw [if_neg h2]
    exact ⟨fun _ => false_of h2 h1, fun _ => by omega⟩
open Classical in
theorem l5Because_spec {v vx : Value} {put cl : List Int} {m : Int} (hv : Ints F w v (signs many put)) (hm : marksOk many put) (h700 : many ≤ 700) (hx : Ints F' w vx cl) (hcl : ∀ l, l ∈ cl → l ≠ 0 ∧ l.natAbs ≤ many)
    (hK : K (.bool (decide (m ∈ cl ∧ ∀ l, l ∈ cl → l ≠ m → -l ∈ put))) w) : vcall PP n_spec_l5Because #[v, vx, .int .i64 m] w K := by
  apply c_spec_l5Because; unfold F_spec_l5Because
  have hlen : cl.length ≤ 9223372036854775807 := by obtain ⟨_, _, _, h1, h2, _⟩ := hx.shape; simp at h1; omega
  refine vloop_up cl.length (fun i u w' => u = [.bool (decide (∃ j, j < i ∧ cl.getD j 0 = m)), .int .i64 i] ∧ w' = w ∧ ∀ j, j < i → cl.getD j 0 ≠ m → -cl.getD j 0 ∈ put) ⟨by simp, rfl, by omega⟩ ?_
  rintro i _ _ _ C hi ⟨rfl, rfl, hp⟩ hC
  simp (disch := first | (simp only [push_cast]; done) | omega) only [push_cast, hx.len]
  refine vif_dec (fun a => ?_) (fun a => ?_)
  · have hmem := getD_mem (put := cl) (i := i) (by omega)
    simp (disch := first | (simp only [push_cast]; done) | omega) only [push_cast, hx.iaddr, hx.load]
    refine vif_dec (fun b => ?_) (fun b => ?_)
    · rw [inc64 (by omega)]
      refine hC (by omega) _ _ ⟨?_, rfl, fun j hj hne => ?_⟩
      · rw [decide_eq_true (show ∃ j, j < i + 1 ∧ cl.getD j 0 = m from ⟨i, by omega, b⟩)]
      · by_cases e : j = i
        · subst e; exact absurd b hne
        · exact hp j (by omega) hne
    · obtain ⟨q1, q2⟩ := hcl _ hmem
      refine l5Sign_spec hv hm h700 q1 q2 ?_
      simp only [vbin_geq]
      refine vif_dec (fun d => ?_) (fun d => ?_)
      · have : ¬ (m ∈ cl ∧ ∀ l, l ∈ cl → l ≠ m → -l ∈ put) := fun h => by
          have := (sgnL_neg hm).2 (h.2 _ hmem b)
          omega
        rwa [decide_eq_false this] at hK
      · rw [inc64 (by omega)]
        refine hC (by omega) _ _ ⟨?_, rfl, fun j hj hne => ?_⟩
        · have : (∃ j, j < i + 1 ∧ cl.getD j 0 = m) ↔ ∃ j, j < i ∧ cl.getD j 0 = m := ⟨fun ⟨j, h1, h2⟩ => ⟨j, Nat.lt_of_le_of_ne (by omega) fun e => by subst e; exact b h2, h2⟩, fun ⟨j, h1, h2⟩ => ⟨j, by omega, h2⟩⟩
          rw [decide_eq_decide.2 this]
        · by_cases e : j = i
          · subst e; exact (sgnL_neg hm).1 (by omega)
          · exact hp j (by omega) hne
  · have : (m ∈ cl ∧ ∀ l, l ∈ cl → l ≠ m → -l ∈ put) ↔ ∃ j, j < i ∧ cl.getD j 0 = m := by
      constructor
      · rintro ⟨h, -⟩
        obtain ⟨j, hj, rfl⟩ := List.getElem_of_mem h
        exact ⟨j, by omega, by rw [List.getD_eq_getElem?_getD, List.getElem?_eq_getElem hj]; rfl⟩
      · rintro ⟨j, h1, rfl⟩
        refine ⟨getD_mem (by omega), fun l hl hne => ?_⟩
        obtain ⟨q, hq, rfl⟩ := List.getElem_of_mem hl
        have := hp q (by omega)
        rw [List.getD_eq_getElem?_getD, List.getElem?_eq_getElem hq] at this
        exact this hne
    rwa [decide_eq_decide.2 this] at hK
def seenM (many : Nat) (put : List Int) : List Bool := (List.range (many + 1)).map fun u => put.any fun l => l.natAbs == u
theorem seenM_len (many : Nat) (put : List Int) : (seenM many put).length = many + 1 := by simp [seenM]
theorem seenM_get {many u : Nat} {put : List Int} (h : u ≤ many) : (seenM many put).getD u false = put.any fun l => l.natAbs == u := by
  simp [seenM, List.getD_eq_getElem?_getD, show u < many + 1 by omega]
theorem seenM_snoc {many : Nat} {put : List Int} {l : Int} : seenM many (put ++ [l]) = (seenM many put).set l.natAbs true := by
  refine List.ext_getElem (by simp [seenM]) fun i h1 h2 => ?_
  rw [List.getElem_set]
  simp only [seenM, List.getElem_map, List.getElem_range, List.any_append, List.any_cons, List.any_nil, Bool.or_false]
  by_cases e : l.natAbs = i
  · rw [if_pos e]; simp [e]
  · rw [if_neg e]; simp [e]
open Classical in
theorem l5Marks_spec {vc v : Value} {put : List Int} (hc : CnfR F w vc c) (hcm : c.many = many) (h700 : many ≤ 700) (hx : Ints F' w v put)
    (hK : ∀ w', Ext w w' → K (.bool (decide (marksOk many put))) w') : vcall PP n_spec_l5Marks #[vc, v] w K := by
  apply c_spec_l5Marks; unfold F_spec_l5Marks
  obtain ⟨lv, rfl, -⟩ := hc
  have hlen : put.length ≤ 9223372036854775807 := by obtain ⟨_, _, _, h1, h2, _⟩ := hx.shape; simp at h1; omega
  refine vbox_new fun b w1 hb he1 hz1 hB1 => ?_
  have B1 : Blk w1 b [.int .i64 c.many, lv] T_impl_Cnf := hB1
  simp (disch := (simp only [push_cast]; done)) only [push_cast, B1.ld0]
  rw [hcm, show (many : Int) + 1 = ((many + 1 : Nat) : Int) from rfl, wrap64 (by omega) (by omega)]
  refine vmkS_own (z := .bool false) l_Lbool (by kernel_rfl) zr_bool rfl (by omega) (by omega) fun v3 w3 hv3 he3 hn3 => ?_
  have hv3' : OwnB PP T_Lbool w3 v3 (seenM many []) := by
    have : seenM many [] = List.replicate (many + 1) false := List.ext_getElem (by simp [seenM]) fun i a b => by simp [seenM]
    rw [this]; unfold OwnB; rw [List.map_replicate]; exact hv3
  have lb := B1.lt
  have E3 := he1.trans he3
  refine vloop_up put.length (fun i u w' => u = [.int .i64 i] ∧ Ext w w' ∧ Blk w' b [.int .i64 c.many, lv] T_impl_Cnf ∧ OwnB PP T_Lbool w' v3 (seenM many (put.take i)) ∧ marksOk many (put.take i)) ⟨rfl, E3, B1.ext he3, by simpa using hv3', ⟨List.nodup_nil, by simp⟩⟩ ?_
  rintro i _ _ w4 C hi ⟨rfl, he4, B4, hv4, hm4⟩ hC
  have hx4 := hx.ext he4
  simp (disch := (simp only [push_cast]; done)) only [push_cast, hx4.len]
  refine vif_dec (fun a => ?_) (fun a => ?_)
  · refine vdraw_ext fun w5 he5 _ => ?_
    have hx5 := hx4.ext he5
    have B5 := B4.ext he5
    have hv5 := hv4.ext he5
    have E5 := he4.trans he5
    have hmem := getD_mem (put := put) (i := i) (by omega)
    simp (disch := first | (simp only [push_cast]; done) | omega) only [push_cast, hx5.iaddr, hx5.load, B5.ld0, true_and]
    have no : ¬ marksOk many put → K (.bool false) w5 := fun h => by have := hK _ E5; rwa [decide_eq_false h] at this
    refine vif_dec (fun d => no fun h => (h.2 _ hmem).1 d) (fun d => ?_)
    rw [wrap64 (by omega) (by omega)]
    refine vif_dec (fun d2 => no fun h => by have := (h.2 _ hmem).2; omega) (fun d2 => ?_)
    refine vif_dec (fun d3 => no fun h => by have := (h.2 _ hmem).2; omega) (fun d3 => ?_)
    refine l4Abs_spec (by omega) ?_
    have hvb := hv5.bools
    have hsl := seenM_len many (put.take i)
    simp (disch := first | (simp only [push_cast]; done) | omega) only [push_cast, hvb.iaddr, hvb.load, true_and]
    rw [seenM_get (by omega)]
    have htk : put.take (i + 1) = put.take i ++ [put.getD i 0] := take_snoc (by omega)
    refine vif_bool (fun d4 => no fun h => ?_) (fun d4 => ?_)
    · rw [List.any_eq_true] at d4
      obtain ⟨q, hq, e⟩ := d4
      have e' : q.natAbs = (put.getD i 0).natAbs := by simpa using e
      have h2 := (mem_take h.1).1 hq
      have := placeOf_at h.1 (i := i) (by omega)
      rw [e', this] at h2
      omega
    · have hx5' := hx5
      simp (disch := first | (simp only [push_cast]; done) | omega) only [push_cast, hx5.iaddr, hx5.load, true_and]
      refine l4Abs_spec (by omega) ?_
      simp (disch := first | (simp only [push_cast]; done) | omega) only [push_cast, hvb.iaddr]
      refine hv5.st z_bool (by omega) fun w6 h6 hs6 hz6 => ?_
      rw [← seenM_snoc, ← htk] at h6
      rw [inc64 (by omega)]
      have hz3 := E3.size
      refine hC (by omega) _ _ ⟨rfl, Ext.then E5 hs6 fun x hx => by have := hn3 x hx; have := he1.size; omega, B5.same hs6 fun e => by have := hn3 _ e; omega, h6, ?_⟩
      rw [htk]
      refine hm4.snoc d (by omega) (placeOf_zero fun q hq e => ?_)
      have : (put.take i).any (fun l => l.natAbs == (put.getD i 0).natAbs) = true := List.any_eq_true.2 ⟨q, hq, by simpa using e⟩
      rw [this] at d4; cases d4
  · have hfull : put.take i = put := List.take_of_length_le (by omega)
    rw [hfull] at hm4
    have := hK _ he4
    rwa [decide_eq_true hm4] at this
open Classical in
theorem l5Whys_spec {vc v : Value} (hc : CnfR F w vc c) (hs : SatR F' w v s) (hok : cnfOk c = true) (hcm : c.many = many) (hfew : s.learned.length ≤ 300) (hlr : ∀ x, x ∈ s.learned → clauseOk c.many x = true) (hl : s.put.length = s.why.length) (hm : marksOk many s.put)
    (hK : ∀ w', Ext w w' → K (.bool (decide (∀ k, k < s.why.length → whyOk c s k))) w') : vcall PP n_spec_l5Whys #[vc, v] w K := by
  apply c_spec_l5Whys; unfold F_spec_l5Whys
  obtain ⟨-, h700, h2500, hcls⟩ := cnfOk_iff.1 hok
  have hc0 := hc
  have hs0 := hs
  obtain ⟨lv, rfl, cs, hcs, hcv, hci⟩ := hc
  obtain ⟨vp, vw, vl, rfl, hp, hw, es, hes, hev, hei⟩ := hs
  have hml := hm.len
  refine vbox_new fun b1 w1 hb1 he1 hz1 hB1 => ?_
  refine vbox_new fun b2 w2 hb2 he2 hz2 hB2 => ?_
  have E2 := he1.trans he2
  have A2 : Blk w2 b1 [.int .i64 c.many, lv] T_impl_Cnf := hB1.ext he2
  have B2 : Blk w2 b2 [vp, vw, vl, .int .i64 s.code] T_impl_Sat := hB2
  have hcv2 := hcv.ext E2
  have hev2 := hev.ext E2
  simp (disch := (simp only [push_cast]; done)) only [push_cast, A2.ld0, A2.ld1, B2.ld2, hcv2.len, hev2.len]
  rw [hcs, hes, hcm, show (many : Int) + 1 = ((many + 1 : Nat) : Int) from rfl, wrap64 (by omega) (by omega), wrap64 (by omega) (by omega)]
  refine vmkS_own (z := .int .i64 0) l_Lint (by kernel_rfl) zr_int rfl (by omega) (by omega) fun v3 w3 hv3 he3 hn3 => ?_
  have hv3' : OwnI PP T_Lint w3 v3 (signs many []) := by rw [signs_nil]; unfold OwnI; rw [List.map_replicate]; exact hv3
  have E3 := E2.trans he3
  have lb1 := A2.lt
  have lb2 := B2.lt
  refine vloop_up s.put.length (fun i u w' => u = [.int .i64 i] ∧ Ext w w' ∧ Blk w' b1 [.int .i64 c.many, lv] T_impl_Cnf ∧ Blk w' b2 [vp, vw, vl, .int .i64 s.code] T_impl_Sat ∧ OwnI PP T_Lint w' v3 (signs many (s.put.take i)) ∧ ∀ k, k < i → whyOk c s k) ⟨rfl, E3, A2.ext he3, B2.ext he3, by simpa using hv3', by omega⟩ ?_
  rintro i _ _ w4 C hi ⟨rfl, he4, A4, B4, hv4, hy⟩ hC
  have hp4 := hp.ext he4
  have hw4 := hw.ext he4
  simp (disch := (simp only [push_cast]; done)) only [push_cast, B4.ld0, hp4.len]
  refine vif_dec (fun a => ?_) (fun a => ?_)
  · simp (disch := first | (simp only [push_cast]; done) | omega) only [push_cast, B4.ld1, hw4.iaddr, hw4.load]
    refine vjoin_of (fun _ w' => Ext w4 w' ∧ whyOk c s i) ?_ ?_
    · intro J hJ
      refine vdraw_ext fun w5 he5 _ => ?_
      have E5 := he4.trans he5
      have A5 := A4.ext he5
      have B5 := B4.ext he5
      have hv5 := hv4.ext he5
      have hp5 := hp.ext E5
      have no : ∀ w', Ext w w' → ¬ whyOk c s i → K (.bool false) w' := fun w' he h => by
        have := hK _ he
        rwa [decide_eq_false (fun h2 => h (h2 i (by omega)))] at this
      simp only [vbin_lss, true_and]
      refine vif_dec (fun d => no _ E5 fun h => by rcases h with h | h <;> omega) (fun d => ?_)
      refine vif_dec (fun d2 => no _ E5 fun h => by rcases h with h | h <;> omega) (fun d2 => ?_)
      refine vif_dec (fun d3 => ?_) (fun d3 => hJ _ _ ⟨he5, .inl (by omega)⟩)
      obtain ⟨q, hq⟩ : ∃ q : Nat, s.why.getD i 0 = q := ⟨(s.why.getD i 0).toNat, by omega⟩
      rw [hq]
      simp (disch := first | (simp only [push_cast]; done) | omega) only [push_cast, A5.ldAgg g_impl_Cnf, B5.ldAgg g_impl_Sat, B5.ld0, hp5.iaddr, hp5.load, true_and]
      refine l5At_spec (hc0.ext E5) (hs0.ext E5) (k := q) (by omega) (by omega) fun w6 v6 he6 hv6 => ?_
      have E6 := E5.trans he6
      have A6 := A5.ext he6
      have B6 := B5.ext he6
      have hp6 := hp.ext E6
      simp (disch := first | (simp only [push_cast]; done) | omega) only [push_cast, A6.ldAgg g_impl_Cnf, B6.ldAgg g_impl_Sat, B6.ld0, hp6.iaddr, hp6.load, true_and, and_self]
      have hcl : clauseOk c.many (atM c s q) = true := (List.mem_append.1 (atM_mem (by omega))).elim (hcls _) (hlr _)
      refine l5Because_spec (hv5.ext he6).ints (hm.take i) (by omega) hv6 (fun l hl => by have := clauseOk_lit hcl hl; omega) ?_
      have himp := impl_iff hm (k := i) (cl := atM c s q)
      simp only [push_cast, true_and]
      refine vif_bool (fun e => no _ E6 fun h => ?_) (fun e => hJ _ _ ⟨he5.trans he6, .inr ⟨by omega, by omega, ?_⟩⟩)
      · rcases h with h | ⟨-, -, h⟩
        · omega
        · rw [hq, Int.toNat_natCast] at h
          rw [decide_eq_true (himp.1 h)] at e; cases e
      · rw [hq, Int.toNat_natCast]
        exact himp.2 (by simpa using e)
    · rintro _ _ w5 ⟨he5, hyi⟩
      have E5 := he4.trans he5
      have A5 := A4.ext he5
      have B5 := B4.ext he5
      have hv5 := hv4.ext he5
      have hp5 := hp.ext E5
      have hmem := getD_mem (put := s.put) (i := i) (by omega)
      obtain ⟨q1, q2⟩ := hm.2 _ hmem
      simp (disch := first | (simp only [push_cast]; done) | omega) only [push_cast, B5.ld0, hp5.iaddr, hp5.load]
      refine l4Abs_spec (by omega) ?_
      have hsl := signs_len many (s.put.take i)
      have hvi := hv5.ints
      simp (disch := first | (simp only [push_cast]; done) | omega) only [push_cast, hvi.iaddr]
      have htk : s.put.take (i + 1) = s.put.take i ++ [s.put.getD i 0] := take_snoc (by omega)
      have hfree : placeOf (s.put.take i) (s.put.getD i 0).natAbs = 0 := (place_take hm.1 (.inl hmem)).2 (by have := placeOf_at hm.1 (i := i) (by omega); omega)
      have hsn := signs_snoc (many := many) q1 hfree
      have hz2 := E2.size
      refine hv5.st z_int (by omega) fun w6 h6 hs6 hz6 => ?_
      have E6 : Ext w w6 := Ext.then E5 hs6 fun x hx => by have := hn3 x hx; omega
      have A6 := A5.same hs6 fun e => by have := hn3 _ e; omega
      have B6 := B5.same hs6 fun e => by have := hn3 _ e; omega
      have hyy : ∀ k, k < i + 1 → whyOk c s k := fun k hk => by
        by_cases e : k = i
        · subst e; exact hyi
        · exact hy k (by omega)
      have h6l : ((signs many (s.put.take i)).set (s.put.getD i 0).natAbs 1).length = many + 1 := by rw [List.length_set]; exact hsl
      have h6i := h6.ints
      refine vif_dec (fun d => ?_) (fun d => ?_)
      · rw [wrap64 (by omega) (by omega), show 0 - s.put.getD i 0 = ((s.put.getD i 0).natAbs : Int) by omega]
        simp (disch := first | (simp only [push_cast]; done) | omega) only [push_cast, h6i.iaddr]
        refine h6.st z_int (by omega) fun w7 h7 hs7 hz7 => ?_
        rw [List.set_set] at h7
        rw [inc64 (by omega)]
        refine hC (by omega) _ _ ⟨rfl, Ext.then E6 hs7 fun x hx => by have := hn3 x hx; omega, A6.same hs7 fun e => by have := hn3 _ e; omega, B6.same hs7 fun e => by have := hn3 _ e; omega, ?_, hyy⟩
        rw [htk, hsn, if_neg (by omega)]; exact h7
      · rw [inc64 (by omega)]
        refine hC (by omega) _ _ ⟨rfl, E6, A6, B6, ?_, hyy⟩
        rw [htk, hsn, if_pos (by omega)]; exact h6
  · have := hK _ he4
    rwa [decide_eq_true (fun k hk => hy k (by omega))] at this
open Classical in
theorem specSatOk_spec {vc v : Value} (hc : CnfR F w vc c) (hs : SatR F' w v s) (hcm : many = c.many.toNat) (hc00 : -9223372036854775808 ≤ c.many) (hc1 : c.many ≤ 9223372036854775807)
    (hK : ∀ w', Ext w w' → K (.bool (decide (satOk many c s))) w') : vcall PP n_spec_SatOk #[vc, v] w K := by
  apply c_spec_SatOk; unfold F_spec_SatOk
  have hc0 := hc
  have hs0 := hs
  obtain ⟨lv, rfl, -⟩ := hc
  obtain ⟨vp, vw, vl, rfl, hp, hw, es, hes, hev, hei⟩ := hs
  refine vbox_new fun b1 w1 hb1 he1 hz1 hB1 => ?_
  refine vbox_new fun b2 w2 hb2 he2 hz2 hB2 => ?_
  have E2 := he1.trans he2
  have A2 : Blk w2 b1 [.int .i64 c.many, lv] T_impl_Cnf := hB1.ext he2
  have B2 : Blk w2 b2 [vp, vw, vl, .int .i64 s.code] T_impl_Sat := hB2
  have no : ∀ w', Ext w w' → ¬ satOk many c s → K (.bool false) w' := fun w' he h => by
    have := hK _ he
    rwa [decide_eq_false h] at this
  refine vjoin_of (fun _ w' => Ext w2 w' ∧ cnfOk c = true ∧ s.learned.length ≤ 300 ∧ 0 ≤ s.code ∧ s.code ≤ 3 ∧ s.put.length = s.why.length ∧ marksOk many s.put) ?_ ?_
  · intro J hJ
    rw [A2.ldAgg g_impl_Cnf]
    refine specCnfOk_spec (hc0.ext E2) hc00 hc1 fun w3 he3 => ?_
    have B3 := B2.ext he3
    have A3 := A2.ext he3
    have E3 := E2.trans he3
    have hev3 := hev.ext E3
    have hp3 := hp.ext E3
    have hw3 := hw.ext E3
    simp (disch := (simp only [push_cast]; done)) only [push_cast, B3.ld0, B3.ld1, B3.ld2, B3.ld3, hev3.len, hp3.len, hw3.len]
    rw [hes]
    refine vif_bool (fun a => no _ E3 fun h => by rw [h.cnf] at a; cases a) (fun a => ?_)
    have hok : cnfOk c = true := by simpa using a
    obtain ⟨m0, m7, -, -⟩ := cnfOk_iff.1 hok
    refine vif_dec (fun d => no _ E3 fun h => by have := h.few; omega) (fun d => ?_)
    refine vif_dec (fun d2 => no _ E3 fun h => by have := h.c0; omega) (fun d2 => ?_)
    refine vif_dec (fun d3 => no _ E3 fun h => by have := h.c3; omega) (fun d3 => ?_)
    refine vif_dec (fun d4 => no _ E3 fun h => by have := h.len; omega) (fun d4 => ?_)
    rw [A3.ldAgg g_impl_Cnf]
    simp (disch := (simp only [push_cast]; done)) only [push_cast, B3.ld0]
    refine l5Marks_spec (many := many) (hc0.ext E3) (by omega) (by omega) hp3 fun w4 he4 => ?_
    simp only [push_cast]
    refine vif_bool (fun e => no _ (E3.trans he4) fun h => by rw [decide_eq_true h.mks] at e; cases e) (fun e => hJ _ _ ⟨he3.trans he4, hok, by omega, by omega, by omega, by omega, by simpa using e⟩)
  rintro _ _ w3 ⟨he3, hok, h300, s0, s3, hl, hm⟩
  obtain ⟨m0, m7, -, -⟩ := cnfOk_iff.1 hok
  refine vloop_up s.learned.length (fun i u w' => u = [.int .i64 i] ∧ Ext w2 w' ∧ ∀ j, j < i → clauseOk c.many (s.learned.getD j []) = true) ⟨rfl, he3, by omega⟩ ?_
  rintro i _ _ w4 C hi ⟨rfl, he4, hy⟩ hC
  have B4 := B2.ext he4
  have A4 := A2.ext he4
  have E4 := E2.trans he4
  have hev4 := hev.ext E4
  simp (disch := (simp only [push_cast]; done)) only [push_cast, B4.ld2, hev4.len]
  rw [hes]
  refine vif_dec (fun a => ?_) (fun a => ?_)
  · refine vdraw_ext fun w5 he5 _ => ?_
    have B5 := B4.ext he5
    have A5 := A4.ext he5
    have E5 := E4.trans he5
    have hev5 := hev.ext E5
    simp (disch := first | (simp only [push_cast]; done) | omega) only [push_cast, B5.ld2, A5.ld0, hev5.iaddr, hev5.load, true_and]
    refine l4Clause_spec ((hei i (by omega)).ext E5) m0 (by omega) ?_
    simp only [push_cast, true_and]
    refine vif_bool (fun d => no _ E5 fun h => ?_) (fun d => ?_)
    · rw [h.lrn (s.learned.getD i []) (by rw [List.getD_eq_getElem?_getD, List.getElem?_eq_getElem (by omega)]; exact List.getElem_mem _)] at d
      cases d
    · rw [inc64 (by omega)]
      refine hC (by omega) _ _ ⟨rfl, he4.trans he5, fun j hj => ?_⟩
      by_cases e : j = i
      · subst e; simpa using d
      · exact hy j (by omega)
  · rw [A4.ldAgg g_impl_Cnf, B4.ldAgg g_impl_Sat]
    have hlr : ∀ x, x ∈ s.learned → clauseOk c.many x = true := fun x hx => by
      obtain ⟨j, hj, rfl⟩ := List.getElem_of_mem hx
      have := hy j (by omega)
      rwa [List.getD_eq_getElem?_getD, List.getElem?_eq_getElem hj] at this
    refine l5Whys_spec (many := many) (hc0.ext E4) (hs0.ext E4) hok (by omega) h300 hlr hl hm fun w5 he5 => ?_
    have := hK _ (E4.trans he5)
    rwa [decide_eq_decide.2 (show satOk many c s ↔ ∀ k, k < s.why.length → whyOk c s k from ⟨fun h => h.why, fun h => ⟨hok, h300, s0, s3, hl, hlr, hm, h⟩⟩)] at this
end Go.Proofs.YtpihgpfebhegmaaGreat
