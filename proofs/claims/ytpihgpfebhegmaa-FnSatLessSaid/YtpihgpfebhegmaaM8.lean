/- The plain mathematics: a step keeps a search valid. No program in sight. -/
import Derived.Test.YtpihgpfebhegmaaM7
set_option linter.unusedVariables false
set_option linter.unusedSimpArgs false
set_option linter.unnecessarySimpa false
set_option linter.unusedSectionVars false
namespace Go.M

theorem mem_take {put : List Int} (hd : Distinct put) {l : Int} {k : Nat} : l ∈ put.take k ↔ l ∈ put ∧ placeOf put l.natAbs ≤ k := by
  constructor
  · intro h
    refine ⟨List.mem_of_mem_take h, ?_⟩
    obtain ⟨i, hi, rfl⟩ := List.getElem_of_mem h
    simp only [List.length_take] at hi
    have := placeOf_at hd (i := i) (by omega)
    simp only [List.getD_eq_getElem?_getD, List.getElem?_eq_getElem (show i < put.length by omega), Option.getD_some] at this
    rw [List.getElem_take, this]; omega
  · rintro ⟨h1, h2⟩
    have h3 := (mem_iff_place hd).1 h1
    have h4 := placeOf_le put l.natAbs
    have hlt : placeOf put l.natAbs - 1 < put.length := by omega
    rw [← h3.2, List.getD_eq_getElem?_getD, List.getElem?_eq_getElem hlt, Option.getD_some]
    have : put[placeOf put l.natAbs - 1] = (put.take k)[placeOf put l.natAbs - 1]'(by simp; omega) := by rw [List.getElem_take]
    rw [this]; exact List.getElem_mem _
theorem marksOk.zero {many : Nat} {put : List Int} (h : marksOk many put) : (0 : Int) ∉ put := fun e => (h.2 0 e).1 rfl
theorem marksOk.neg {many : Nat} {put : List Int} (h : marksOk many put) {l : Int} (h1 : l ∈ put) : -l ∉ put := fun h2 => by
  have := distinct_eq h.1 h1 h2 (by omega)
  have e : l = 0 := by omega
  subst e; exact h.zero h1
theorem marksOk.take {many : Nat} {put : List Int} (h : marksOk many put) (n : Nat) : marksOk many (put.take n) := ⟨distinct_take h.1 n, fun x hx => h.2 x (List.mem_of_mem_take hx)⟩
theorem marksOk.snoc {many : Nat} {put : List Int} (h : marksOk many put) {l : Int} (h0 : l ≠ 0) (h1 : l.natAbs ≤ many) (hf : placeOf put l.natAbs = 0) : marksOk many (put ++ [l]) :=
  ⟨distinct_snoc h.1 hf, fun x hx => by
    rcases List.mem_append.1 hx with hx | hx
    · exact h.2 x hx
    · rw [List.mem_singleton] at hx; subst hx; exact ⟨h0, h1⟩⟩
theorem marksOk.len {many : Nat} {put : List Int} (h : marksOk many put) : put.length ≤ many := by
  have := h.1.length_le_of_subset (l₂ := List.range' 1 many) fun x hx => by
    obtain ⟨y, hy, rfl⟩ := List.mem_map.1 hx
    have := h.2 y hy
    rw [List.mem_range'_1]; omega
  simpa using this
theorem impl_iff {many : Nat} {put cl : List Int} (h : marksOk many put) {k : Nat} : implM put k cl = true ↔ put.getD k 0 ∈ cl ∧ ∀ l, l ∈ cl → l ≠ put.getD k 0 → -l ∈ put.take k := by
  constructor
  · intro hi
    obtain ⟨h1, h2⟩ := impl_of hi
    refine ⟨h1, fun l hl hne => ?_⟩
    obtain ⟨a, b, c⟩ := h2 l hl hne
    exact (mem_take h.1).2 ⟨false_of a b, by rwa [Int.natAbs_neg]⟩
  · rintro ⟨h1, h2⟩
    unfold implM
    simp only [Bool.and_eq_true, decide_eq_true_eq, Bool.not_eq_true', List.any_eq_false]
    refine ⟨h1, fun i hi => ?_⟩
    rw [List.mem_range] at hi
    have hm : cl.getD i 0 ∈ cl := getD_mem hi
    generalize cl.getD i 0 = l at hm
    simp only [badM, Bool.and_eq_true, Bool.or_eq_true, decide_eq_true_eq, not_and, not_or]
    intro hne
    have h3 := (mem_take h.1).1 (h2 l hm hne)
    have h4 := placeOf_ne_zero h3.1
    rw [Int.natAbs_neg] at h3 h4
    refine ⟨h4, fun hp => h.neg hp h3.1, by omega⟩
theorem clauseOk_of {m : Int} {xs : List Int} (hs : Srt xs) (h : ∀ l, l ∈ xs → l ≠ 0 ∧ (l.natAbs : Int) ≤ m) : clauseOk m xs = true := by
  unfold clauseOk
  refine allI_iff.2 fun k hk => ?_
  have h1 := h _ (getD_mem hk)
  rw [Bool.and_eq_true]
  refine ⟨by simp only [litOk, decide_eq_true_eq]; omega, ?_⟩
  simp only [Bool.or_eq_true, beq_iff_eq, decide_eq_true_eq]
  by_cases hk0 : k = 0
  · exact .inl hk0
  · refine .inr ?_
    have := List.pairwise_iff_getElem.1 hs (k - 1) k (by omega) hk (by omega)
    simpa [List.getD_eq_getElem?_getD, hk, show k - 1 < xs.length by omega] using this
theorem cnfOk_clause {c : Cnf} (h : cnfOk c = true) {x : List Int} (hx : x ∈ c.list) : clauseOk c.many x = true := by
  unfold cnfOk at h
  rw [Bool.and_eq_true] at h
  obtain ⟨i, hi, rfl⟩ := List.getElem_of_mem hx
  have := allI_iff.1 h.2 i hi
  simpa [List.getD_eq_getElem?_getD, hi] using this
theorem atM_mem {c : Cnf} {s : Sat} {k : Nat} (hk : k < c.list.length + s.learned.length) : atM c s k ∈ c.list ++ s.learned := by
  unfold atM; rw [List.getD_eq_getElem?_getD, List.getElem?_eq_getElem (by rw [List.length_append]; omega)]; exact List.getElem_mem _
theorem satOk.cls {many : Nat} {c : Cnf} {s : Sat} (h : satOk many c s) {x : List Int} (hx : x ∈ c.list ++ s.learned) : clauseOk c.many x = true :=
  (List.mem_append.1 hx).elim (cnfOk_clause h.cnf) (h.lrn x)
theorem satOk.atOk {many : Nat} {c : Cnf} {s : Sat} (h : satOk many c s) {k : Nat} (hk : k < c.list.length + s.learned.length) : clauseOk c.many (atM c s k) = true := h.cls (atM_mem hk)
theorem getD_take {put : List Int} {k n : Nat} (h : k < n) : (put.take n).getD k 0 = put.getD k 0 := by
  simp [List.getD_eq_getElem?_getD, List.getElem?_take, h]
/-- Reasons stand on what lies below them. -/
theorem why_ext {many : Nat} {c : Cnf} {s s' : Sat} {k : Nat} (hm : marksOk many s.put) (hm' : marksOk many s'.put) (hp : s'.put.take (k + 1) = s.put.take (k + 1)) (hw : s'.why.getD k 0 = s.why.getD k 0) (hl : ∃ t, s'.learned = s.learned ++ t) (h : whyOk c s k) : whyOk c s' k := by
  unfold whyOk at h ⊢
  rw [hw]
  rcases h with h | ⟨h1, h2, h3⟩
  · exact .inl h
  obtain ⟨t, ht⟩ := hl
  have hat : atM c s' (s.why.getD k 0).toNat = atM c s (s.why.getD k 0).toNat := by
    unfold atM
    rw [ht, ← List.append_assoc, getD_app_l (by rw [List.length_append]; omega)]
  have hg : s'.put.getD k 0 = s.put.getD k 0 := by rw [← getD_take (show k < k + 1 by omega), hp, getD_take (by omega)]
  have htk : s'.put.take k = s.put.take k := by
    have := congrArg (fun l => l.take k) hp
    simpa [List.take_take] using this
  refine .inr ⟨h1, by rw [ht, List.length_append]; omega, ?_⟩
  rw [hat, impl_iff hm', hg, htk]
  exact (impl_iff hm).1 h3
theorem free_spec {many : Nat} {put : List Int} (h : marksOk many put) (hl : put.length ≠ many) : 1 ≤ freeM many put ∧ freeM many put ≤ many ∧ placeOf put (freeM many put) = 0 ∧ ∀ v, 1 ≤ v → v < freeM many put → placeOf put v ≠ 0 := by
  have hlen := h.len
  unfold freeM
  cases hf : (List.range many).find? fun i => decide (placeOf put (i + 1) = 0) with
  | none =>
    rw [List.find?_eq_none] at hf
    have : (List.range' 1 many).length ≤ (put.map Int.natAbs).length := by
      refine (List.nodup_range' (step := 1)).length_le_of_subset fun v hv => ?_
      rw [List.mem_range'_1] at hv
      have h1 := hf (v - 1) (List.mem_range.2 (by omega))
      rw [show v - 1 + 1 = v by omega] at h1
      have h2 := placeOf_pos (put := put) (v := v) (by simpa using h1)
      exact List.mem_map.2 ⟨_, getD_mem (show placeOf put v - 1 < put.length by have : placeOf put v ≠ 0 := by simpa using h1
                                                                                omega), h2.2⟩
    simp at this
    omega
  | some i =>
    rw [List.find?_eq_some_iff_getElem] at hf
    obtain ⟨hp, j, hj, hji, hlt⟩ := hf
    simp only [List.getElem_range] at hji
    subst hji
    simp only [List.length_range] at hj
    refine ⟨by simp, by simp; omega, by simpa using hp, fun v h1 h2 => ?_⟩
    simp only [Option.getD_some] at h2
    have := hlt (v - 1) (by omega)
    simp only [List.getElem_range, show v - 1 + 1 = v by omega] at this
    simpa using this
theorem clash_fls {put cl : List Int} (h : clashC put cl) : Fls put cl := fun l hl => false_of (h l hl).2 (h l hl).1
theorem fls_clash {many : Nat} {put cl : List Int} (hm : marksOk many put) (h : Fls put cl) : clashC put cl := fun l hl =>
  ⟨fun hp => hm.neg hp (h l hl), by have := placeOf_ne_zero (h l hl); rwa [Int.natAbs_neg] at this⟩
theorem unit_mem {put cl : List Int} {x : Int} (h : unitC put cl x) : x ∈ cl ∧ placeOf put x.natAbs = 0 := by
  have : x ∈ cl.filter fun l => decide (placeOf put l.natAbs = 0) := by rw [h.2]; exact List.mem_cons_self
  rw [List.mem_filter] at this
  exact ⟨this.1, by simpa using this.2⟩
theorem unit_rest {put cl : List Int} {x l : Int} (h : unitC put cl x) (hl : l ∈ cl) (hne : l ≠ x) : -l ∈ put := by
  refine false_of (fun h0 => hne ?_) (h.1 l hl)
  have : l ∈ cl.filter fun l => decide (placeOf put l.natAbs = 0) := by rw [List.mem_filter]; exact ⟨hl, by simpa using h0⟩
  rw [h.2, List.mem_singleton] at this
  exact this
theorem maxL_le {xs ys : List Nat} (h : ∀ x, x ∈ xs → x ∈ ys) : maxL xs ≤ maxL ys := by
  rcases maxL_mem (xs := xs) with e | e
  · omega
  · exact le_maxL (h _ e)
theorem maxL_congr {xs ys : List Nat} (h : ∀ x, x ∈ xs ↔ x ∈ ys) : maxL xs = maxL ys := Nat.le_antisymm (maxL_le fun x => (h x).1) (maxL_le fun x => (h x).2)
theorem maxL_snoc (xs : List Nat) (f : List Nat) (x : Nat) (hf : f = [x]) : maxL (xs ++ f) = max (maxL xs) x := by subst hf; simp [maxL, List.foldl_append]
theorem lastPl_le {put cl : List Int} : lastPl put cl ≤ put.length := by
  unfold lastPl
  rcases maxL_mem (xs := cl.map fun k => placeOf put k.natAbs) with e | e
  · omega
  · obtain ⟨q, _, e⟩ := List.mem_map.1 e
    have := placeOf_le put q.natAbs
    omega
/-- What is learned is false, sorted, of the same top, and has at most one literal there. -/
theorem learn_ok {many : Nat} {c : Cnf} {s : Sat} (h : satOk many c s) (hcm : c.many = many) {k : Nat} (hk : k < c.list.length + s.learned.length) (hc : clashC s.put (atM c s k)) :
    Fls s.put (learnM many c s s.put.length (atM c s k)) ∧ Srt (learnM many c s s.put.length (atM c s k)) ∧ topL s.put (decs s.why) (learnM many c s s.put.length (atM c s k)) = topL s.put (decs s.why) (atM c s k) ∧ (tops s.put (decs s.why) (learnM many c s s.put.length (atM c s k))).length ≤ 1 :=
  learnM_ok h hcm (clash_fls hc) (clauseOk_srt (h.atOk hk)) lastPl_le
/-- A step behind which a mark stands more. -/
theorem push_ok {many : Nat} {c : Cnf} {s : Sat} (h : satOk many c s) {l y : Int} (h0 : l ≠ 0) (h1 : l.natAbs ≤ many) (hf : placeOf s.put l.natAbs = 0)
    (hy : y = -1 ∨ (0 ≤ y ∧ y < c.list.length + s.learned.length ∧ l ∈ atM c s y.toNat ∧ ∀ q, q ∈ atM c s y.toNat → q ≠ l → -q ∈ s.put)) : satOk many c { s with put := s.put ++ [l], why := s.why ++ [y] } := by
  have hm := h.mks.snoc h0 h1 hf
  have hlen := h.len
  refine ⟨h.cnf, h.few, h.c0, h.c3, by simp [h.len], h.lrn, hm, fun k hk => ?_⟩
  simp only [List.length_append, List.length_singleton] at hk
  by_cases hkl : k < s.why.length
  · refine why_ext h.mks hm ?_ ?_ ⟨[], by simp⟩ (h.why k hkl)
    · simp only; rw [List.take_append_of_le_length (by omega)]
    · exact getD_app_l hkl
  · have e : k = s.why.length := by omega
    have hg : (s.why ++ [y]).getD k 0 = y := by rw [e]; simp
    unfold whyOk
    rw [hg]
    rcases hy with hy | ⟨a, b, d, f⟩
    · exact .inl hy
    · refine .inr ⟨a, b, ?_⟩
      have hgp : (s.put ++ [l]).getD k 0 = l := by rw [e, ← hlen]; simp
      rw [impl_iff hm]
      simp only [hgp]
      refine ⟨d, fun q hq hne => ?_⟩
      rw [e, ← hlen, List.take_append_of_le_length (by omega), List.take_length]
      exact f q hq hne
theorem clash_ok {many : Nat} {c : Cnf} {s : Sat} (h : satOk many c s) (hcm : c.many = many) {k : Nat} (hk : k < c.list.length + s.learned.length) (hc : clashC s.put (atM c s k)) : satOk many c (clashM many c s (atM c s k)) := by
  unfold clashM
  split
  · exact ⟨h.cnf, h.few, by simp, by simp, h.len, h.lrn, h.mks, h.why⟩
  split
  · exact ⟨h.cnf, h.few, by simp, by simp, h.len, h.lrn, h.mks, h.why⟩
  · rename_i h3
    obtain ⟨l1, l2, l3, l4⟩ := learn_ok h hcm hk hc
    generalize learnM many c s s.put.length (atM c s k) = cl at *
    generalize backN (decs s.why) (belowM s.put (decs s.why) cl) s.put.length = n
    have hfew := h.few
    refine ⟨h.cnf, by simp; omega, h.c0, h.c3, by simp [h.len], fun x hx => ?_, h.mks.take n, fun j hj => ?_⟩
    · rcases List.mem_append.1 hx with hx | hx
      · exact h.lrn x hx
      · rw [List.mem_singleton] at hx
        subst hx
        refine clauseOk_of l2 fun l hl => ?_
        have := h.mks.2 _ (l1 l hl)
        omega
    · simp only [List.length_take] at hj
      refine why_ext h.mks (h.mks.take n) ?_ ?_ ⟨[cl], rfl⟩ (h.why j (by omega))
      · simp only; rw [List.take_take, Nat.min_eq_left (by omega)]
      · exact getD_take (by omega)
/-- A step keeps a search valid. -/
theorem go_ok {many : Nat} {c : Cnf} {s : Sat} (h : satOk many c s) (hcm : c.many = many) : satOk many c (goM many c s) := by
  unfold goM
  rcases find_cases s.put (c.list ++ s.learned) with ⟨i, u, x, hi, e, hc⟩ | ⟨hn, ⟨i, x, hi, e, hu, -⟩ | ⟨e, -⟩⟩
  · rw [e]
    simp only [Int.natCast_nonneg, if_true, Int.toNat_natCast]
    rw [List.length_append] at hi
    exact clash_ok h hcm hi hc
  · rw [e]
    rw [List.length_append] at hi
    simp only [Int.natCast_nonneg, if_true, show ¬ (0 : Int) ≤ -1 by omega, if_false]
    obtain ⟨hx, hf⟩ := unit_mem hu
    have hb := h.lit hcm hi hx
    refine push_ok h hb.1 hb.2 hf (.inr ⟨by omega, by omega, ?_, fun q hq hne => ?_⟩)
    · rw [Int.toNat_natCast]; exact hx
    · rw [Int.toNat_natCast] at hq; exact unit_rest hu hq hne
  · rw [e]
    simp only [show ¬ (0 : Int) ≤ -1 by omega, if_false]
    split
    · exact ⟨h.cnf, h.few, by simp, by simp, h.len, h.lrn, h.mks, h.why⟩
    · rename_i hl
      obtain ⟨a, b, d, -⟩ := free_spec h.mks hl
      exact push_ok h (by omega) (by omega) (by rw [Int.natAbs_neg, Int.natAbs_natCast]; exact d) (.inl rfl)
theorem step_ok {many : Nat} {c : Cnf} {s : Sat} (h : satOk many c s) (hcm : c.many = many) : satOk many c (stepM many c s) := by
  unfold stepM
  split
  · exact go_ok h hcm
  · exact h
theorem run_ok {many : Nat} {c : Cnf} (hcm : c.many = many) : ∀ {n : Nat} {s : Sat}, satOk many c s → satOk many c (runM many c n s)
  | 0, _, h => h
  | n + 1, _, h => run_ok hcm (n := n) (step_ok h hcm)
theorem empty_ok {many : Nat} {c : Cnf} (h : cnfOk c = true) : satOk many c emptyS := ⟨h, by simp [emptyS], by simp [emptyS], by simp [emptyS], rfl, by simp [emptyS], ⟨List.nodup_nil, by simp [emptyS]⟩, by simp [emptyS]⟩
theorem run_succ (many : Nat) (c : Cnf) : ∀ (n : Nat) (s : Sat), runM many c (n + 1) s = stepM many c (runM many c n s)
  | 0, _ => rfl
  | n + 1, s => run_succ many c n (stepM many c s)
theorem step_stop {many : Nat} {c : Cnf} {s : Sat} (h : s.code ≠ 0) : stepM many c s = s := if_neg h
theorem run_stop {many : Nat} {c : Cnf} : ∀ {n : Nat} {s : Sat}, s.code ≠ 0 → runM many c n s = s
  | 0, _, _ => rfl
  | n + 1, s, h => by rw [runM, step_stop h, run_stop (n := n) h]
theorem run_add (many : Nat) (c : Cnf) : ∀ (a b : Nat) (s : Sat), runM many c (a + b) s = runM many c b (runM many c a s)
  | 0, b, s => by rw [Nat.zero_add]; rfl
  | a + 1, b, s => by rw [show a + 1 + b = (a + b) + 1 by omega, runM, run_add many c a b]; rfl
end Go.M
