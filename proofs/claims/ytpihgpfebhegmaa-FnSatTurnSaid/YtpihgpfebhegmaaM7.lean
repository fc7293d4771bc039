/- The plain mathematics of one step of a search: no program in sight. -/
import Derived.Test.YtpihgpfebhegmaaM6
set_option linter.unusedVariables false
set_option linter.unusedSimpArgs false
set_option linter.unnecessarySimpa false
set_option linter.unusedSectionVars false
namespace Go.M

/-- The greatest level of a clause below its top. -/
def belowM (put : List Int) (ds : List Bool) (cl : List Int) : Nat := maxL ((cl.filter fun k => decide (lvM put ds k < topL put ds cl)).map (lvM put ds))
/-- What a conflict does. -/
def clashM (many : Nat) (c : Cnf) (s : Sat) (cl : List Int) : Sat :=
  if topL s.put (decs s.why) cl = 0 then { s with code := 2 }
  else if s.learned.length = 300 then { s with code := 3 }
  else
    { s with
      put := s.put.take (backN (decs s.why) (belowM s.put (decs s.why) (learnM many c s s.put.length cl)) s.put.length)
      why := s.why.take (backN (decs s.why) (belowM s.put (decs s.why) (learnM many c s s.put.length cl)) s.put.length)
      learned := s.learned ++ [learnM many c s s.put.length cl] }
/-- The first variable that is free. -/
def freeM (many : Nat) (put : List Int) : Nat := ((List.range many).find? fun i => decide (placeOf put (i + 1) = 0)).getD 0 + 1
/-- One step of a search that goes on. -/
def goM (many : Nat) (c : Cnf) (s : Sat) : Sat :=
  match findM s.put (c.list ++ s.learned) 0 (-1) 0 with
  | (k, u, x) => if 0 ≤ k then clashM many c s (atM c s k.toNat) else if 0 ≤ u then { s with put := s.put ++ [x], why := s.why ++ [u] }
    else if s.put.length = many then { s with code := 1 } else { s with put := s.put ++ [-(freeM many s.put : Int)], why := s.why ++ [-1] }
def stepM (many : Nat) (c : Cnf) (s : Sat) : Sat := if s.code = 0 then goM many c s else s
def runM (many : Nat) (c : Cnf) : Nat → Sat → Sat
  | 0, s => s
  | n + 1, s => runM many c n (stepM many c s)
def emptyS : Sat := ⟨[], [], [], 0⟩

/-! ### Looking at clauses -/
/-- The clause is false; it implies x. -/
def clashC (put cl : List Int) : Prop := ∀ l, l ∈ cl → l ∉ put ∧ placeOf put l.natAbs ≠ 0
theorem lookM_spec (put : List Int) : ∀ (cl : List Int) (n : Nat) (x : Int), ((∃ l, l ∈ cl ∧ l ∈ put) ∧ lookM put cl n x = (true, 0, 0)) ∨
    ((∀ l, l ∈ cl → l ∉ put) ∧ ∃ y, lookM put cl n x = (false, n + (cl.filter fun l => decide (placeOf put l.natAbs = 0)).length, y) ∧ (y = x ∧ (cl.filter fun l => decide (placeOf put l.natAbs = 0)) = [] ∨ y ∈ cl ∧ placeOf put y.natAbs = 0))
  | [], n, x => .inr ⟨by simp, x, by simp [lookM_nil], .inl ⟨rfl, rfl⟩⟩
  | l :: r, n, x => by
    rw [lookM_cons]
    by_cases h1 : l ∈ put
    · rw [if_pos h1]; exact .inl ⟨⟨l, List.mem_cons_self, h1⟩, rfl⟩
    rw [if_neg h1]
    by_cases h2 : placeOf put l.natAbs = 0
    · rw [if_pos h2]
      rcases lookM_spec put r (n + 1) l with ⟨⟨q, hq, hp⟩, e⟩ | ⟨hn, y, e, hy⟩
      · exact .inl ⟨⟨q, List.mem_cons_of_mem _ hq, hp⟩, e⟩
      · refine .inr ⟨fun q hq => (List.mem_cons.1 hq).elim (fun e => e ▸ h1) (hn q), y, ?_, ?_⟩
        · rw [e, List.filter_cons_of_pos (by simpa using h2), List.length_cons, Nat.add_assoc, Nat.add_comm 1]
        · rcases hy with ⟨rfl, -⟩ | ⟨hy, hz⟩
          · exact .inr ⟨List.mem_cons_self, h2⟩
          · exact .inr ⟨List.mem_cons_of_mem _ hy, hz⟩
    · rw [if_neg h2]
      rcases lookM_spec put r n x with ⟨⟨q, hq, hp⟩, e⟩ | ⟨hn, y, e, hy⟩
      · exact .inl ⟨⟨q, List.mem_cons_of_mem _ hq, hp⟩, e⟩
      · have e2 : ((l :: r).filter fun l => decide (placeOf put l.natAbs = 0)) = r.filter fun l => decide (placeOf put l.natAbs = 0) := List.filter_cons_of_neg (by simpa using h2)
        refine .inr ⟨fun q hq => (List.mem_cons.1 hq).elim (fun e => e ▸ h1) (hn q), y, by rw [e2]; exact e, ?_⟩
        rw [e2]
        rcases hy with hy | ⟨hy, hz⟩
        · exact .inl hy
        · exact .inr ⟨List.mem_cons_of_mem _ hy, hz⟩
/-- The clause implies x: x is its only free literal, and no literal is true. -/
def unitC (put cl : List Int) (x : Int) : Prop := (∀ l, l ∈ cl → l ∉ put) ∧ (cl.filter fun l => decide (placeOf put l.natAbs = 0)) = [x]
theorem look_clash {put cl : List Int} : clashC put cl ↔ (lookM put cl 0 0).1 = false ∧ (lookM put cl 0 0).2.1 = 0 := by
  rcases lookM_spec put cl 0 0 with ⟨⟨l, hl, hp⟩, e⟩ | ⟨hn, y, e, -⟩
  · rw [e]; exact ⟨fun h => absurd hp (h l hl).1, fun h => by cases h.1⟩
  · rw [e]
    simp only [Nat.zero_add, List.length_eq_zero_iff, true_and]
    rw [List.filter_eq_nil_iff]
    exact ⟨fun h l hl => by have := (h l hl).2; simpa using this, fun h l hl => ⟨hn l hl, by have := h l hl; simpa using this⟩⟩
theorem look_unit {put cl : List Int} {x : Int} : unitC put cl x ↔ lookM put cl 0 0 = (false, 1, x) := by
  rcases lookM_spec put cl 0 0 with ⟨⟨l, hl, hp⟩, e⟩ | ⟨hn, y, e, hy⟩
  · rw [e]; exact ⟨fun h => absurd hp (h.1 l hl), fun h => by cases h⟩
  · rw [e]
    constructor
    · rintro ⟨_, h⟩
      rw [h] at hy
      rcases hy with ⟨_, h2⟩ | ⟨hy, hz⟩
      · cases h2
      · have : y ∈ cl.filter fun l => decide (placeOf put l.natAbs = 0) := by rw [List.mem_filter]; exact ⟨hy, by simpa using hz⟩
        rw [h, List.mem_singleton] at this
        subst this; rw [h]; rfl
    · intro h
      simp only [Prod.mk.injEq, true_and, Nat.zero_add] at h
      obtain ⟨h1, rfl⟩ := h
      refine ⟨hn, ?_⟩
      obtain ⟨z, hz⟩ := List.length_eq_one_iff.1 h1
      rw [hz] at hy ⊢
      rcases hy with ⟨_, h2⟩ | ⟨hy, hz2⟩
      · cases h2
      · have : y ∈ cl.filter fun l => decide (placeOf put l.natAbs = 0) := by rw [List.mem_filter]; exact ⟨hy, by simpa using hz2⟩
        rw [hz, List.mem_singleton] at this
        rw [this]
/-- What findM finds. -/
def FindP (put : List Int) (L : List (List Int)) (k0 u0 x0 : Int) (r : Int × Int × Int) : Prop :=
  (∃ i, i < L.length ∧ r.1 = k0 + (i : Nat) ∧ clashC put (L.getD i [])) ∨
    (r.1 = -1 ∧ (∀ cl, cl ∈ L → ¬ clashC put cl) ∧ ((0 ≤ u0 ∧ r.2 = (u0, x0)) ∨
      (u0 < 0 ∧ ((∃ i, i < L.length ∧ r.2.1 = k0 + (i : Nat) ∧ unitC put (L.getD i []) r.2.2 ∧ ∀ j, j < i → ∀ x, ¬ unitC put (L.getD j []) x) ∨
        (r.2 = (u0, x0) ∧ ∀ cl, cl ∈ L → ∀ x, ¬ unitC put cl x)))))
theorem FindP.skip {put cl : List Int} {L : List (List Int)} {k0 u0 x0 : Int} {r : Int × Int × Int} (hc : ¬ clashC put cl) (hu : 0 ≤ u0 ∨ ∀ x, ¬ unitC put cl x) (h : FindP put L (k0 + 1) u0 x0 r) : FindP put (cl :: L) k0 u0 x0 r := by
  rcases h with ⟨i, hi, h1, h2⟩ | ⟨h1, h2, h3⟩
  · exact .inl ⟨i + 1, by simpa using hi, by rw [h1]; omega, by simpa using h2⟩
  · refine .inr ⟨h1, fun c hc' => (List.mem_cons.1 hc').elim (fun e => e ▸ hc) (h2 c), ?_⟩
    rcases h3 with h3 | ⟨h0, h3⟩
    · exact .inl h3
    have hu : ∀ x, ¬ unitC put cl x := hu.elim (fun h => absurd h (by omega)) id
    rcases h3 with ⟨i, hi, h4, h5, h6⟩ | ⟨h4, h5⟩
    · refine .inr ⟨h0, .inl ⟨i + 1, by simpa using hi, by rw [h4]; omega, by simpa using h5, fun j hj x => ?_⟩⟩
      cases j with
      | zero => simpa using hu x
      | succ j => simpa using h6 j (by omega) x
    · exact .inr ⟨h0, .inr ⟨h4, fun c hc' => (List.mem_cons.1 hc').elim (fun e => e ▸ hu) (h5 c)⟩⟩
theorem findM_spec (put : List Int) : ∀ (L : List (List Int)) (k0 u0 x0 : Int), 0 ≤ k0 → FindP put L k0 u0 x0 (findM put L k0 u0 x0)
  | [], k0, u0, x0, _ => by
    refine .inr ⟨rfl, by simp, ?_⟩
    by_cases h : 0 ≤ u0
    · exact .inl ⟨h, rfl⟩
    · exact .inr ⟨by omega, .inr ⟨rfl, by simp⟩⟩
  | cl :: L, k0, u0, x0, hk0 => by
    rw [findM_cons]
    by_cases ht : (lookM put cl 0 0).1 = true
    · rw [if_pos ht]
      refine FindP.skip (fun h => ?_) (.inr fun x h => ?_) (findM_spec put L (k0 + 1) u0 x0 (by omega))
      · rw [(look_clash.1 h).1] at ht; cases ht
      · rw [look_unit.1 h] at ht; cases ht
    rw [if_neg ht]
    have ht' : (lookM put cl 0 0).1 = false := by simpa using ht
    by_cases h0 : (lookM put cl 0 0).2.1 = 0
    · rw [if_pos h0]
      exact .inl ⟨0, by simp, by simp, by simpa using look_clash.2 ⟨ht', h0⟩⟩
    rw [if_neg h0]
    have hnc : ¬ clashC put cl := fun h => h0 (look_clash.1 h).2
    by_cases h1 : (lookM put cl 0 0).2.1 = 1
    · rw [if_pos h1]
      have hun : unitC put cl (lookM put cl 0 0).2.2 := look_unit.2 (by rw [← ht', ← h1])
      by_cases hu : u0 < 0
      · rw [if_pos hu]
        rcases findM_spec put L (k0 + 1) k0 (lookM put cl 0 0).2.2 (by omega) with ⟨i, hi, h2, h3⟩ | ⟨h2, h3, h4⟩
        · exact .inl ⟨i + 1, by simpa using hi, by rw [h2]; omega, by simpa using h3⟩
        · refine .inr ⟨h2, fun c hc' => (List.mem_cons.1 hc').elim (fun e => e ▸ hnc) (h3 c), .inr ⟨hu, .inl ⟨0, by simp, ?_, ?_, fun j hj => by omega⟩⟩⟩
          · rcases h4 with ⟨_, h4⟩ | ⟨h4, _⟩
            · rw [h4]; simp
            · omega
          · rcases h4 with ⟨_, h4⟩ | ⟨h4, _⟩
            · rw [h4]; simpa using hun
            · omega
      · rw [if_neg hu]
        exact FindP.skip hnc (.inl (by omega)) (findM_spec put L (k0 + 1) u0 x0 (by omega))
    · rw [if_neg h1]
      refine FindP.skip hnc (.inr fun x h => h1 ?_) (findM_spec put L (k0 + 1) u0 x0 (by omega))
      rw [look_unit.1 h]
/-- What goes on: a conflict, a unit, or neither. -/
theorem find_cases (put : List Int) (L : List (List Int)) : (∃ (i : Nat) (u x : Int), i < L.length ∧ findM put L 0 (-1) 0 = ((i : Int), u, x) ∧ clashC put (L.getD i [])) ∨
    ((∀ cl, cl ∈ L → ¬ clashC put cl) ∧ ((∃ (i : Nat) (x : Int), i < L.length ∧ findM put L 0 (-1) 0 = (-1, (i : Int), x) ∧ unitC put (L.getD i []) x ∧ ∀ j, j < i → ∀ x, ¬ unitC put (L.getD j []) x) ∨
      (findM put L 0 (-1) 0 = (-1, -1, 0) ∧ ∀ cl, cl ∈ L → ∀ x, ¬ unitC put cl x))) := by
  have h := findM_spec put L 0 (-1) 0 (by omega)
  generalize findM put L 0 (-1) 0 = z at h
  obtain ⟨k, u, x⟩ := z
  rcases h with ⟨i, hi, h1, h2⟩ | ⟨h1, h2, h3⟩
  · exact .inl ⟨i, u, x, hi, by simp at h1; rw [h1], h2⟩
  · refine .inr ⟨h2, ?_⟩
    simp only at h1
    subst h1
    rcases h3 with ⟨h3, _⟩ | ⟨_, h3⟩
    · omega
    rcases h3 with ⟨i, hi, h4, h5, h6⟩ | ⟨h4, h5⟩
    · exact .inl ⟨i, x, hi, by simp at h4; rw [h4], h5, h6⟩
    · simp only [Prod.mk.injEq] at h4
      exact .inr ⟨by rw [h4.1, h4.2], h5⟩
end Go.M
