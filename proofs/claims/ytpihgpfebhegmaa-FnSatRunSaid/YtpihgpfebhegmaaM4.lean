/- The plain mathematics of clauses and of the trail: no program in sight. -/
set_option linter.unusedVariables false
set_option linter.unusedSimpArgs false
set_option linter.unnecessarySimpa false
set_option linter.unusedSectionVars false
namespace Go.M

def allI (n : Nat) (p : Nat → Bool) : Bool := (List.range n).all p
theorem allI_true {n : Nat} {p : Nat → Bool} (h : ∀ k, k < n → p k = true) : allI n p = true := by
  unfold allI; rw [List.all_eq_true]; intro k hk; exact h k (List.mem_range.1 hk)
theorem allI_false {n k : Nat} {p : Nat → Bool} (hk : k < n) (h : p k = false) : allI n p = false := by
  unfold allI; rw [List.all_eq_false]; exact ⟨k, List.mem_range.2 hk, by simp [h]⟩
theorem allI_iff {n : Nat} {p : Nat → Bool} : allI n p = true ↔ ∀ k, k < n → p k = true := by
  unfold allI; rw [List.all_eq_true]; simp only [List.mem_range]

def litOk (m l : Int) : Bool := decide (l ≠ 0 ∧ -m ≤ l ∧ l ≤ m)
def clauseOk (m : Int) (xs : List Int) : Bool := allI xs.length fun k => litOk m (xs.getD k 0) && (k == 0 || decide ((xs.getD (k - 1) 0).natAbs < (xs.getD k 0).natAbs))

structure Cnf where
  many : Int
  list : List (List Int)
structure Sat where
  put : List Int
  why : List Int
  learned : List (List Int)
  code : Int

def cnfOk (c : Cnf) : Bool := decide (0 ≤ c.many) && decide (c.many ≤ 700) && decide (c.list.length ≤ 2500) && allI c.list.length fun k => clauseOk c.many (c.list.getD k [])

/-- The place of a variable on a trail, from 1; 0 if it is not there. -/
def placeOf (put : List Int) (v : Nat) : Nat := match (List.range put.length).find? (fun i => (put.getD i 0).natAbs == v) with | some i => i + 1 | none => 0

theorem find_range_some {n i : Nat} {p : Nat → Bool} (hi : i < n) (hp : p i = true) (hl : ∀ j, j < i → p j = false) : (List.range n).find? p = some i := by
  rw [List.find?_eq_some_iff_append]
  refine ⟨hp, List.range i, (List.range' (i + 1) (n - (i + 1))), ?_, fun j hj => by simp [hl j (List.mem_range.1 hj)]⟩
  rw [List.range_eq_range', List.range_eq_range', show n = i + (n - (i + 1) + 1) from by omega, ← List.range'_append_1, List.range'_succ]
  simp
  omega

theorem placeOf_zero {put : List Int} {v : Nat} (h : ∀ l, l ∈ put → l.natAbs ≠ v) : placeOf put v = 0 := by
  unfold placeOf
  have : (List.range put.length).find? (fun i => (put.getD i 0).natAbs == v) = none := by
    rw [List.find?_eq_none]
    intro j hj
    have hj' := List.mem_range.1 hj
    have : put.getD j 0 ∈ put := by rw [List.getD_eq_getElem?_getD, List.getElem?_eq_getElem hj']; exact List.getElem_mem hj'
    have := h _ this
    simpa using this
  rw [this]

theorem placeOf_pos {put : List Int} {v : Nat} (h : placeOf put v ≠ 0) : placeOf put v ≤ put.length ∧ (put.getD (placeOf put v - 1) 0).natAbs = v := by
  unfold placeOf at *
  cases hf : (List.range put.length).find? (fun i => (put.getD i 0).natAbs == v) with
  | none => rw [hf] at h; exact absurd rfl h
  | some i =>
    have h1 := List.find?_some hf
    have h2 := List.mem_range.1 (List.mem_of_find?_eq_some hf)
    simp only [Nat.add_sub_cancel]
    exact ⟨h2, by simpa using h1⟩

/-- The trail has each variable at most once. -/
def Distinct (put : List Int) : Prop := (put.map Int.natAbs).Nodup

theorem getD_mem {put : List Int} {i : Nat} (hi : i < put.length) : put.getD i 0 ∈ put := by
  rw [List.getD_eq_getElem?_getD, List.getElem?_eq_getElem hi]; exact List.getElem_mem hi

theorem placeOf_at {put : List Int} (hd : Distinct put) {i : Nat} (hi : i < put.length) : placeOf put (put.getD i 0).natAbs = i + 1 := by
  unfold placeOf
  rw [find_range_some hi (by simp) ?_]
  intro j hj
  have hne : (put.map Int.natAbs)[j]'(by simp; omega) ≠ (put.map Int.natAbs)[i]'(by simp; omega)  := List.pairwise_iff_getElem.1 hd j i _ _ hj
  have hj' : j < put.length := by omega
  simp only [List.getElem_map] at hne
  simp [List.getD_eq_getElem?_getD, hi, hj', hne]

theorem placeOf_snoc {put : List Int} {l : Int} (h : ∀ x, x ∈ put → x.natAbs ≠ l.natAbs) (v : Nat) : placeOf (put ++ [l]) v = if v = l.natAbs then put.length + 1 else placeOf put v := by
  by_cases hv : v = l.natAbs
  · rw [if_pos hv]
    unfold placeOf
    rw [find_range_some (i := put.length) (by simp) (by simp [hv]) ?_]
    intro j hj
    have := h _ (getD_mem hj)
    simp only [List.getD_eq_getElem?_getD, List.getElem?_append_left hj] at this ⊢
    simp [hv, this]
  · rw [if_neg hv]
    by_cases hz : placeOf put v = 0
    · rw [hz]
      refine placeOf_zero fun x hx => ?_
      rw [List.mem_append, List.mem_singleton] at hx
      rcases hx with hx | rfl
      · intro e
        obtain ⟨i, hi, rfl⟩ := List.getElem_of_mem hx
        unfold placeOf at hz
        cases hf : (List.range put.length).find? (fun i => (put.getD i 0).natAbs == v) with
        | none =>
          rw [List.find?_eq_none] at hf
          have := hf i (List.mem_range.2 hi)
          simp [List.getD_eq_getElem?_getD, hi, e] at this
        | some k => rw [hf] at hz; cases hz
      · exact fun e => hv e.symm
    · unfold placeOf at hz ⊢
      cases hf : (List.range put.length).find? (fun i => (put.getD i 0).natAbs == v) with
      | none => rw [hf] at hz; exact absurd rfl hz
      | some k =>
        rw [List.find?_eq_some_iff_getElem] at hf
        obtain ⟨hp, i, hi, hik, hl⟩ := hf
        simp only [List.getElem_range] at hik
        subst hik
        simp only [List.length_range] at hi
        rw [find_range_some (i := i) (by simp; omega) ?_ ?_]
        · simpa [List.getD_eq_getElem?_getD, List.getElem?_append_left hi] using hp
        · intro j hj
          have := hl j hj
          simp only [List.getElem_range] at this
          have hj' : j < put.length := by omega
          simpa [List.getD_eq_getElem?_getD, List.getElem?_append_left hj'] using this
end Go.M
