/- The plain mathematics of a search: no program in sight. -/
import Derived.Test.YtpihgpfebhegmaaM4
set_option linter.unusedVariables false
set_option linter.unusedSimpArgs false
set_option linter.unnecessarySimpa false
set_option linter.unusedSectionVars false
namespace Go.M

/-- What a trail makes of a clause: whether a literal is true; how many are free, and the last free one. -/
def lookM (put : List Int) : List Int → Nat → Int → Bool × Nat × Int
  | [], n, x => (false, n, x)
  | l :: r, n, x => if l ∈ put then (true, 0, 0) else if placeOf put l.natAbs = 0 then lookM put r (n + 1) l else lookM put r n x

theorem lookM_nil (put : List Int) (n : Nat) (x : Int) : lookM put [] n x = (false, n, x) := rfl
theorem lookM_cons (put : List Int) (l : Int) (r : List Int) (n : Nat) (x : Int) : lookM put (l :: r) n x = if l ∈ put then (true, 0, 0) else if placeOf put l.natAbs = 0 then lookM put r (n + 1) l else lookM put r n x := rfl
/-- The first clause that is false; and the first that implies. -/
def findM (put : List Int) : List (List Int) → Int → Int → Int → Int × Int × Int
  | [], _, u, x => (-1, u, x)
  | c :: r, k, u, x =>
    match lookM put c 0 0 with
    | (true, _, _) => findM put r (k + 1) u x
    | (false, 0, _) => (k, u, x)
    | (false, 1, l) => if u < 0 then findM put r (k + 1) k l else findM put r (k + 1) u x
    | (false, _, _) => findM put r (k + 1) u x

theorem findM_cons (put : List Int) (c : List Int) (r : List (List Int)) (k u x : Int) : findM put (c :: r) k u x =
    if (lookM put c 0 0).1 = true then findM put r (k + 1) u x else if (lookM put c 0 0).2.1 = 0 then (k, u, x) else
    if (lookM put c 0 0).2.1 = 1 then (if u < 0 then findM put r (k + 1) k (lookM put c 0 0).2.2 else findM put r (k + 1) u x) else findM put r (k + 1) u x := by
  rw [findM]
  generalize lookM put c 0 0 = z
  obtain ⟨b, n, l⟩ := z
  cases b with
  | true => simp
  | false =>
    match n with
    | 0 => simp
    | 1 => simp
    | n + 2 => simp
def places (many : Nat) (put : List Int) : List Int := (List.range (many + 1)).map fun v => (placeOf put v : Int)
theorem places_len (many : Nat) (put : List Int) : (places many put).length = many + 1 := by simp [places]
theorem places_get {many : Nat} {put : List Int} {v : Nat} (h : v ≤ many) : (places many put).getD v 0 = placeOf put v := by
  simp [places, List.getD_eq_getElem?_getD, show v < many + 1 by omega]

theorem placeOf_le (put : List Int) (v : Nat) : placeOf put v ≤ put.length := by
  by_cases h : placeOf put v = 0
  · omega
  · exact (placeOf_pos h).1
theorem placeOf_ne_zero {put : List Int} {l : Int} (h : l ∈ put) : placeOf put l.natAbs ≠ 0 := by
  obtain ⟨i, hi, rfl⟩ := List.getElem_of_mem h
  intro e
  unfold placeOf at e
  cases hf : (List.range put.length).find? (fun j => (put.getD j 0).natAbs == (put[i]).natAbs) with
  | none =>
    rw [List.find?_eq_none] at hf
    have := hf i (List.mem_range.2 hi)
    simp [List.getD_eq_getElem?_getD, hi] at this
  | some k => rw [hf] at e; cases e
theorem mem_iff_place {put : List Int} (hd : Distinct put) {l : Int} : l ∈ put ↔ placeOf put l.natAbs ≠ 0 ∧ put.getD (placeOf put l.natAbs - 1) 0 = l := by
  constructor
  · intro h
    refine ⟨placeOf_ne_zero h, ?_⟩
    obtain ⟨i, hi, rfl⟩ := List.getElem_of_mem h
    have := placeOf_at hd hi
    simp only [List.getD_eq_getElem?_getD, List.getElem?_eq_getElem hi, Option.getD_some] at this ⊢
    rw [this]; simp [hi]
  · rintro ⟨h1, h2⟩
    rw [← h2]
    have := (placeOf_pos h1).1
    exact getD_mem (by omega)
theorem drop_cons {α : Type} {d : α} {xs : List α} {i : Nat} (h : i < xs.length) : xs.drop i = xs.getD i d :: xs.drop (i + 1) := by
  rw [List.drop_eq_getElem_cons h]; simp [List.getD_eq_getElem?_getD, h]

theorem getD_app_l {α : Type} {a b : List α} {d : α} {k : Nat} (h : k < a.length) : (a ++ b).getD k d = a.getD k d := by
  simp [List.getD_eq_getElem?_getD, List.getElem?_append_left h]
theorem getD_app_r {α : Type} {a b : List α} {d : α} {j : Nat} : (a ++ b).getD (a.length + j) d = b.getD j d := by
  simp [List.getD_eq_getElem?_getD, List.getElem?_append_right]
theorem placeOf_nil (v : Nat) : placeOf [] v = 0 := rfl
theorem places_nil (many : Nat) : places many [] = List.replicate (many + 1) 0 := by
  refine List.ext_getElem (by simp [places]) fun i h1 h2 => ?_
  simp [places, placeOf_nil]
theorem places_snoc {many : Nat} {put : List Int} {l : Int} (h : placeOf put l.natAbs = 0) : places many (put ++ [l]) = (places many put).set l.natAbs (put.length + 1 : Nat) := by
  refine List.ext_getElem (by simp [places]) fun i h1 h2 => ?_
  simp only [places, List.length_map, List.length_range] at h1
  rw [List.getElem_set]
  simp only [places, List.getElem_map, List.getElem_range]
  have hne : ∀ x, x ∈ put → x.natAbs ≠ l.natAbs := fun x hx e => placeOf_ne_zero hx (by rw [e]; exact h)
  rw [placeOf_snoc hne]
  by_cases hi : i = l.natAbs
  · rw [if_pos hi, if_pos hi.symm]
  · rw [if_neg hi, if_neg (fun e => hi e.symm)]
theorem distinct_snoc {put : List Int} {l : Int} (hd : Distinct put) (h : placeOf put l.natAbs = 0) : Distinct (put ++ [l]) := by
  unfold Distinct
  rw [List.map_append, List.nodup_append]
  refine ⟨hd, by simp, ?_⟩
  intro a ha b hb e
  obtain ⟨x, hx, rfl⟩ := List.mem_map.1 ha
  simp only [List.map_cons, List.map_nil, List.mem_singleton] at hb
  exact placeOf_ne_zero hx (by rw [e, hb]; exact h)
theorem distinct_take {put : List Int} (hd : Distinct put) (n : Nat) : Distinct (put.take n) := by
  unfold Distinct at *
  rw [List.map_take]
  exact hd.sublist (List.take_sublist _ _)
/-- The last mark is taken away. -/
theorem places_unsnoc {many : Nat} {put : List Int} {l : Int} (hd : Distinct (put ++ [l])) : (places many (put ++ [l])).set l.natAbs 0 = places many put := by
  have h : placeOf put l.natAbs = 0 := by
    refine placeOf_zero fun x hx e => ?_
    unfold Distinct at hd
    rw [List.map_append, List.nodup_append] at hd
    exact hd.2.2 _ (List.mem_map_of_mem hx) _ (by simp) e
  rw [places_snoc h, List.set_set]
  refine List.ext_getElem (by simp [places]) fun i h1 h2 => ?_
  rw [List.getElem_set]
  by_cases hi : l.natAbs = i
  · rw [if_pos hi]; simp only [places, List.getElem_map, List.getElem_range, ← hi, h]; rfl
  · rw [if_neg hi]
theorem clauseOk_lit {m : Int} {xs : List Int} (h : clauseOk m xs = true) {x : Int} (hx : x ∈ xs) : x ≠ 0 ∧ -m ≤ x ∧ x ≤ m := by
  obtain ⟨k, hk, rfl⟩ := List.getElem_of_mem hx
  have := allI_iff.1 h k hk
  rw [Bool.and_eq_true] at this
  have h1 := this.1
  simp only [litOk, decide_eq_true_eq, List.getD_eq_getElem?_getD, List.getElem?_eq_getElem hk, Option.getD_some] at h1
  exact h1
theorem clauseOk_up {m : Int} {xs : List Int} (h : clauseOk m xs = true) : ∀ k, k < xs.length → k + 1 ≤ (xs.getD k 0).natAbs
  | 0, hk => by have := (clauseOk_lit h (getD_mem hk)).1; omega
  | k + 1, hk => by
    have ih := clauseOk_up h k (by omega)
    have := allI_iff.1 h (k + 1) hk
    rw [Bool.and_eq_true] at this
    have h2 := this.2
    simp only [Nat.add_sub_cancel, Bool.or_eq_true, beq_iff_eq, decide_eq_true_eq] at h2
    omega
theorem clauseOk_len {m : Nat} {xs : List Int} (h : clauseOk m xs = true) : xs.length ≤ m := by
  cases hx : xs.length with
  | zero => omega
  | succ n =>
    have h1 := clauseOk_up h n (by omega)
    have h2 := clauseOk_lit h (getD_mem (show n < xs.length by omega))
    omega
/-- Levels: how many marks up to a place are decided. -/
def lvl (ds : List Bool) (i : Nat) : Nat := (ds.take (i + 1)).count true
def levels (ds : List Bool) : List Int := (List.range ds.length).map fun i => (lvl ds i : Int)
theorem levels_len (ds : List Bool) : (levels ds).length = ds.length := by simp [levels]
theorem levels_get {ds : List Bool} {i : Nat} (h : i < ds.length) : (levels ds).getD i 0 = lvl ds i := by simp [levels, List.getD_eq_getElem?_getD, h]
theorem lvl_le (ds : List Bool) (i : Nat) : lvl ds i ≤ ds.length := Nat.le_trans (List.count_le_length) (by simp; omega)
theorem lvl_all {ds : List Bool} {i : Nat} (h : ds.length ≤ i + 1) : lvl ds i = ds.count true := by unfold lvl; rw [List.take_of_length_le h]
theorem levels_snoc (ds : List Bool) (d : Bool) : levels (ds ++ [d]) = levels ds ++ [((ds.count true + d.toNat : Nat) : Int)] := by
  refine List.ext_getElem (by simp [levels]) fun i h1 h2 => ?_
  simp only [levels, List.length_map, List.length_range, List.length_append, List.length_singleton] at h1
  by_cases hi : i < ds.length
  · rw [List.getElem_append_left (by simpa [levels] using hi)]
    simp only [levels, List.getElem_map, List.getElem_range, lvl]
    rw [List.take_append_of_le_length (by omega)]
  · rw [List.getElem_append_right (by simpa [levels] using hi)]
    simp only [levels, List.getElem_map, List.getElem_range, List.getElem_singleton]
    rw [lvl_all (by simp; omega), List.count_append]
    cases d <;> simp
theorem levels_take (ds : List Bool) (n : Nat) : (levels ds).take n = levels (ds.take n) := by
  refine List.ext_getElem (by simp [levels]) fun i h1 h2 => ?_
  simp only [levels, List.length_map, List.length_range, List.length_take] at h1 h2
  rw [List.getElem_take]
  simp only [levels, List.getElem_map, List.getElem_range, lvl]
  rw [List.take_take, Nat.min_eq_left (by omega)]
def decs (why : List Int) : List Bool := why.map fun y => decide (y = -1)
theorem decs_len (why : List Int) : (decs why).length = why.length := by simp [decs]
theorem decs_snoc (why : List Int) (y : Int) : decs (why ++ [y]) = decs why ++ [decide (y = -1)] := by simp [decs]
theorem decs_take (why : List Int) (n : Nat) : (decs why).take n = decs (why.take n) := by simp [decs]
/-- How many marks are left behind a jump to a level. -/
def backN (ds : List Bool) (L : Int) : Nat → Nat
  | 0 => 0
  | n + 1 => if L < lvl ds n then backN ds L n else n + 1
theorem backN_le (ds : List Bool) (L : Int) (n : Nat) : backN ds L n ≤ n := by
  induction n with
  | zero => exact Nat.le_refl _
  | succ n ih => unfold backN; split <;> omega
theorem lvl_take {ds : List Bool} {i n : Nat} (h : i < n) : lvl (ds.take n) i = lvl ds i := by unfold lvl; rw [List.take_take, Nat.min_eq_left (by omega)]
/-- The level of a literal. -/
def lvM (put : List Int) (ds : List Bool) (k : Int) : Nat := lvl ds (placeOf put k.natAbs - 1)
/-- The greatest level of some literals, and those of that level. -/
structure TopOf (put : List Int) (ds : List Bool) (ks : List Int) (top : Nat) (xs : List Int) : Prop where
  le : ∀ k, k ∈ ks → lvM put ds k ≤ top
  mem : ∀ k, k ∈ xs ↔ k ∈ ks ∧ lvM put ds k = top
  ne : top = 0 ∨ xs ≠ []
  nd : xs.Nodup
/-- A clause of the formula, or a learned one. -/
def atM (c : Cnf) (s : Sat) (k : Nat) : List Int := (c.list ++ s.learned).getD k []

def marksOk (many : Nat) (put : List Int) : Prop := Distinct put ∧ ∀ x, x ∈ put → x ≠ 0 ∧ x.natAbs ≤ many
def badM (put : List Int) (k : Nat) (l : Int) : Bool := decide (l ≠ put.getD k 0) && (decide (placeOf put l.natAbs = 0) || (decide (l ∈ put) || decide ((k : Int) ≤ (placeOf put l.natAbs : Int) - 1)))
def implM (put : List Int) (k : Nat) (cl : List Int) : Bool := decide (put.getD k 0 ∈ cl) && !((List.range cl.length).any fun i => badM put k (cl.getD i 0))
def whyOk (c : Cnf) (s : Sat) (k : Nat) : Prop := s.why.getD k 0 = -1 ∨ (0 ≤ s.why.getD k 0 ∧ s.why.getD k 0 < c.list.length + s.learned.length ∧ implM s.put k (atM c s (s.why.getD k 0).toNat) = true)
structure satOk (many : Nat) (c : Cnf) (s : Sat) : Prop where
  cnf : cnfOk c = true
  few : s.learned.length ≤ 300
  c0 : 0 ≤ s.code
  c3 : s.code ≤ 3
  len : s.put.length = s.why.length
  lrn : ∀ x, x ∈ s.learned → clauseOk c.many x = true
  mks : marksOk many s.put
  why : ∀ k, k < s.why.length → whyOk c s k
end Go.M
