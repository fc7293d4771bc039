/- The plain mathematics of the reference's learning. No program in sight. -/
import Derived.Test.YtpihgpfebhegmaaM9
set_option linter.unusedVariables false
set_option linter.unusedSimpArgs false
set_option linter.unnecessarySimpa false
set_option linter.unusedSectionVars false
namespace Go.M
/-- The level of a variable; 0 if it is free. -/
def levV (put : List Int) (ds : List Bool) (v : Nat) : Nat := if placeOf put v = 0 then 0 else lvl ds (placeOf put v - 1)
def levs (many : Nat) (put : List Int) (ds : List Bool) : List Int := (List.range (many + 1)).map fun v => (levV put ds v : Int)
theorem levs_len (many : Nat) (put : List Int) (ds : List Bool) : (levs many put ds).length = many + 1 := by simp [levs]
theorem levs_get {many : Nat} {put : List Int} {ds : List Bool} {v : Nat} (h : v ≤ many) : (levs many put ds).getD v 0 = levV put ds v := by
  simp [levs, List.getD_eq_getElem?_getD, show v < many + 1 by omega]
theorem levs_nil (many : Nat) (ds : List Bool) : levs many [] ds = List.replicate (many + 1) 0 := by
  refine List.ext_getElem (by simp [levs]) fun i h1 h2 => ?_
  simp [levs, levV, placeOf_nil]
theorem levs_snoc {many : Nat} {put : List Int} {ds : List Bool} {l : Int} (h : placeOf put l.natAbs = 0) : levs many (put ++ [l]) ds = (levs many put ds).set l.natAbs (lvl ds put.length : Nat) := by
  refine List.ext_getElem (by simp [levs]) fun i h1 h2 => ?_
  simp only [levs, List.length_map, List.length_range] at h1
  rw [List.getElem_set]
  simp only [levs, List.getElem_map, List.getElem_range, levV]
  have hne : ∀ x, x ∈ put → x.natAbs ≠ l.natAbs := fun x hx e => placeOf_ne_zero hx (by rw [e]; exact h)
  rw [placeOf_snoc hne]
  by_cases hi : i = l.natAbs
  · rw [if_pos hi, if_pos hi.symm, if_neg (by omega), Nat.add_sub_cancel]
  · rw [if_neg hi, if_neg (show ¬ l.natAbs = i from fun e => hi e.symm)]
theorem levV_lit {put : List Int} {ds : List Bool} {l : Int} (h : placeOf put l.natAbs ≠ 0) : levV put ds l.natAbs = lvM put ds l := by unfold levV lvM; rw [if_neg h]
/-- The greatest level, and how many are of it: step by step. -/
theorem top_step {put : List Int} {ds : List Bool} {cl : List Int} {i : Nat} (hi : i < cl.length) (k : Nat) (hk : lvM put ds (cl.getD i 0) = k) :
    topL put ds (cl.take (i + 1)) = (if topL put ds (cl.take i) < k then k else topL put ds (cl.take i)) ∧
    (tops put ds (cl.take (i + 1))).length = (if topL put ds (cl.take i) < k then 1 else if k = topL put ds (cl.take i) then (tops put ds (cl.take i)).length + 1 else (tops put ds (cl.take i)).length) := by
  have e := take_snoc' (d := 0) hi
  have ht : topL put ds (cl.take (i + 1)) = (if topL put ds (cl.take i) < k then k else topL put ds (cl.take i)) := by
    unfold topL
    rw [e, List.map_append, maxL_snoc _ _ k (by simp only [List.map_cons, List.map_nil, hk])]
    split <;> omega
  refine ⟨ht, ?_⟩
  have hle : ∀ q, q ∈ cl.take i → lvM put ds q ≤ topL put ds (cl.take i) := fun q hq => le_maxL (List.mem_map_of_mem hq)
  have hx : lvM put ds (cl.getD i 0) = k := hk
  generalize cl.getD i 0 = y at *
  generalize hT : topL put ds (cl.take i) = T at *
  unfold tops
  rw [ht, hT, e, List.filter_append, List.filter_cons, List.filter_nil, hx, List.length_append]
  by_cases h1 : T < k
  · rw [if_pos h1, if_pos h1]
    have : (cl.take i).filter (fun q => lvM put ds q == k) = [] := by
      rw [List.filter_eq_nil_iff]
      intro q hq
      have := hle q hq
      simp; omega
    rw [this]
    simp
  · rw [if_neg h1, if_neg h1]
    by_cases h2 : k = T
    · rw [if_pos h2]
      simp [h2]
    · rw [if_neg h2]
      simp [h2]
/-- An array of literals by their variables. -/
structure ArrP (many : Nat) (L arr : List Int) : Prop where
  len : arr.length = many + 1
  at_ : ∀ v, v ≤ many → (arr.getD v 0 = 0 ∧ ∀ k, k ∈ L → k.natAbs ≠ v) ∨ (arr.getD v 0 ∈ L ∧ (arr.getD v 0).natAbs = v ∧ arr.getD v 0 ≠ 0)
theorem arr_nil (many : Nat) : ArrP many [] (List.replicate (many + 1) 0) := ⟨by simp, fun v hv => .inl ⟨by simp only [List.getD_eq_getElem?_getD, List.getElem?_replicate]; split <;> rfl, by simp⟩⟩
theorem getD_set {xs : List Int} {i j : Nat} {x : Int} : (xs.set i x).getD j 0 = if i = j ∧ j < xs.length then x else xs.getD j 0 := by
  simp only [List.getD_eq_getElem?_getD, List.getElem?_set]
  by_cases h : i = j
  · subst h
    by_cases h2 : i < xs.length
    · simp [h2]
    · simp [h2]
  · simp [h]
theorem arr_snoc {many : Nat} {L arr : List Int} {k : Int} (h : ArrP many L arr) (h0 : k ≠ 0) (hk : k.natAbs ≤ many) : ArrP many (L ++ [k]) (arr.set k.natAbs k) := by
  refine ⟨by simp [h.len], fun v hv => ?_⟩
  rw [getD_set, h.len]
  by_cases he : k.natAbs = v
  · rw [if_pos ⟨he, by omega⟩]
    exact .inr ⟨by simp, he, h0⟩
  · rw [if_neg (fun e => he e.1)]
    rcases h.at_ v hv with ⟨h1, h2⟩ | ⟨h1, h2, h3⟩
    · refine .inl ⟨h1, fun q hq => ?_⟩
      rw [List.mem_append, List.mem_singleton] at hq
      rcases hq with hq | rfl
      · exact h2 q hq
      · exact he
    · exact .inr ⟨List.mem_append_left _ h1, h2, h3⟩
/-- What is read off the array, up to a variable. -/
def joinA (arr : List Int) (m n : Nat) : List Int := (List.range n).filterMap fun i => if i + 1 = m then none else if arr.getD (i + 1) 0 = 0 then none else some (arr.getD (i + 1) 0)
theorem joinA_succ (arr : List Int) (m n : Nat) : joinA arr m (n + 1) = joinA arr m n ++ (if n + 1 = m then [] else if arr.getD (n + 1) 0 = 0 then [] else [arr.getD (n + 1) 0]) := by
  unfold joinA
  rw [List.range_succ, List.filterMap_append]
  congr 1
  rw [List.filterMap_cons, List.filterMap_nil]
  by_cases h : n + 1 = m
  · rw [if_pos h, if_pos h]
  · rw [if_neg h, if_neg h]
    by_cases h2 : arr.getD (n + 1) 0 = 0
    · rw [if_pos h2, if_pos h2]
    · rw [if_neg h2, if_neg h2]
theorem joinA_eq {many m : Nat} {a b arr : List Int} (h : ArrP many (a ++ b) arr) (hc : ∀ k, k ∈ a ++ b → k.natAbs ≠ m → -k ∉ a ++ b) : joinA arr m many = joinM many a b m := by
  unfold joinA joinM
  refine filterMap_congr' fun i hi => ?_
  rw [List.mem_range] at hi
  by_cases hm : i + 1 = m
  · rw [if_pos hm, if_pos hm]
  rw [if_neg hm, if_neg hm]
  rcases h.at_ (i + 1) (by omega) with ⟨h1, h2⟩ | ⟨h1, h2, h3⟩
  · rw [if_pos h1, if_neg ?_, if_neg ?_]
    · rintro (e | e)
      · exact h2 _ (List.mem_append_left _ e) (by omega)
      · exact h2 _ (List.mem_append_right _ e) (by omega)
    · rintro (e | e)
      · exact h2 _ (List.mem_append_left _ e) (by omega)
      · exact h2 _ (List.mem_append_right _ e) (by omega)
  · rw [if_neg h3]
    generalize arr.getD (i + 1) 0 = k at h1 h2 h3
    by_cases hp : 0 < k
    · have e : ((i + 1 : Nat) : Int) = k := by omega
      rw [e, if_pos (List.mem_append.1 h1)]
    · have e : ((i + 1 : Nat) : Int) = -k := by omega
      have := hc k h1 (by omega)
      rw [List.mem_append] at this
      rw [e, if_neg this, Int.neg_neg, if_pos (List.mem_append.1 h1)]
where
  filterMap_congr' {α β : Type} {f g : α → Option β} : ∀ {l : List α}, (∀ x, x ∈ l → f x = g x) → l.filterMap f = l.filterMap g
    | [], _ => rfl
    | x :: l, h => by
      rw [List.filterMap_cons, List.filterMap_cons, h x List.mem_cons_self, filterMap_congr' fun y hy => h y (List.mem_cons_of_mem _ hy)]
/-- How many marks stay behind a jump, from below. -/
theorem backN_eq {ds : List Bool} {L : Int} : ∀ {len n : Nat}, n ≤ len → (∀ i, i < n → (lvl ds i : Int) ≤ L) → (n = len ∨ L < (lvl ds n : Int)) → backN ds L len = n
  | 0, n, h1, h2, h3 => by simp [backN]; omega
  | len + 1, n, h1, h2, h3 => by
    unfold backN
    by_cases e : n = len + 1
    · subst e
      rw [if_neg (by have := h2 len (by omega); omega)]
    · have hn : L < (lvl ds n : Int) := h3.elim (fun h => absurd h e) id
      have hm : lvl ds n ≤ lvl ds len := lvl_mono (by omega)
      rw [if_pos (by omega)]
      exact backN_eq (by omega) h2 (.inr hn)
theorem lastPl_eq {many : Nat} {put cl : List Int} (hm : marksOk many put) {i : Nat} (hi : i < put.length) (h1 : ∃ q, q ∈ cl ∧ q.natAbs = (put.getD i 0).natAbs) (h2 : ∀ j, i < j → j < put.length → ∀ q, q ∈ cl → q.natAbs ≠ (put.getD j 0).natAbs) : lastPl put cl = i + 1 := by
  obtain ⟨q, hq, e⟩ := h1
  have hp : placeOf put q.natAbs = i + 1 := by rw [e]; exact placeOf_at hm.1 hi
  refine Nat.le_antisymm ?_ (by rw [← hp]; exact le_maxL (List.mem_map.2 ⟨q, hq, rfl⟩))
  unfold lastPl
  rcases maxL_mem (xs := cl.map fun k => placeOf put k.natAbs) with e2 | e2
  · omega
  · obtain ⟨k, hk, e2⟩ := List.mem_map.1 e2
    rw [← e2]
    refine Nat.le_of_not_lt fun hlt => ?_
    have hpp := placeOf_pos (put := put) (v := k.natAbs) (by omega)
    exact h2 (placeOf put k.natAbs - 1) (by omega) (by omega) k hk hpp.2.symm
theorem lastPl_none {put cl : List Int} (h : ∀ j, j < put.length → ∀ q, q ∈ cl → q.natAbs ≠ (put.getD j 0).natAbs) : lastPl put cl = 0 := by
  unfold lastPl
  rcases maxL_mem (xs := cl.map fun k => placeOf put k.natAbs) with e2 | e2
  · exact e2
  · obtain ⟨k, hk, e2⟩ := List.mem_map.1 e2
    refine Decidable.byContradiction fun hne => ?_
    have hpp := placeOf_pos (put := put) (v := k.natAbs) (by omega)
    exact h (placeOf put k.natAbs - 1) (by omega) k hk hpp.2.symm
theorem lvl_succ {ds : List Bool} {i : Nat} (h : i < ds.length) : lvl ds i = (ds.take i).count true + (ds.getD i false).toNat := by
  unfold lvl
  rw [List.take_add_one, List.count_append]
  simp only [List.getD_eq_getElem?_getD, List.getElem?_eq_getElem h, Option.getD_some, Option.toList_some]
  cases ds[i] <;> simp
theorem count_take_succ {ds : List Bool} {i : Nat} (h : i < ds.length) : (ds.take (i + 1)).count true = (ds.take i).count true + (ds.getD i false).toNat := lvl_succ h
end Go.M
