/- The plain mathematics of learning: no program in sight. -/
import Derived.Test.YtpihgpfebhegmaaM5
set_option linter.unusedVariables false
set_option linter.unusedSimpArgs false
set_option linter.unnecessarySimpa false
set_option linter.unusedSectionVars false
namespace Go.M

/-- Clauses are sorted by their variables. -/
def Srt (xs : List Int) : Prop := xs.Pairwise fun a b => a.natAbs < b.natAbs
theorem srt_ext : ∀ {xs ys : List Int}, Srt xs → Srt ys → (∀ k, k ∈ xs ↔ k ∈ ys) → xs = ys
  | [], [], _, _, _ => rfl
  | [], y :: ys, _, _, h => by have := (h y).2 List.mem_cons_self; cases this
  | x :: xs, [], _, _, h => by have := (h x).1 List.mem_cons_self; cases this
  | x :: xs, y :: ys, hx, hy, h => by
    unfold Srt at hx hy
    rw [List.pairwise_cons] at hx hy
    have e : x = y := by
      have h1 := (h x).1 List.mem_cons_self
      have h2 := (h y).2 List.mem_cons_self
      rcases List.mem_cons.1 h1 with e | h1
      · exact e
      · rcases List.mem_cons.1 h2 with e | h2
        · exact e.symm
        · have := hy.1 x h1; have := hx.1 y h2; omega
    subst e
    rw [srt_ext (xs := xs) (ys := ys) hx.2 hy.2 fun k => ?_]
    constructor
    · intro hk
      rcases List.mem_cons.1 ((h k).1 (List.mem_cons_of_mem _ hk)) with e | e
      · subst e; have := hx.1 _ hk; omega
      · exact e
    · intro hk
      rcases List.mem_cons.1 ((h k).2 (List.mem_cons_of_mem _ hk)) with e | e
      · subst e; have := hy.1 _ hk; omega
      · exact e
theorem clauseOk_srt {m : Int} {xs : List Int} (h : clauseOk m xs = true) : Srt xs := by
  have step : ∀ k, k + 1 < xs.length → (xs.getD k 0).natAbs < (xs.getD (k + 1) 0).natAbs := fun k hk => by
    have := allI_iff.1 h (k + 1) hk
    rw [Bool.and_eq_true] at this
    have h2 := this.2
    simp only [Nat.add_sub_cancel, Bool.or_eq_true, beq_iff_eq, decide_eq_true_eq] at h2
    omega
  have far : ∀ d k, k + d + 1 < xs.length → (xs.getD k 0).natAbs < (xs.getD (k + d + 1) 0).natAbs := by
    intro d
    induction d with
    | zero => intro k hk; exact step k hk
    | succ d ih =>
      intro k hk
      have h1 := ih k (by omega)
      have h2 := step (k + d + 1) (by omega)
      have e : k + (d + 1) + 1 = k + d + 1 + 1 := by omega
      rw [e]; omega
  unfold Srt
  rw [List.pairwise_iff_getElem]
  intro i j hi hj hij
  have := far (j - i - 1) i (by omega)
  rw [show i + (j - i - 1) + 1 = j from by omega] at this
  simpa [List.getD_eq_getElem?_getD, hi, hj] using this
/-- Two clauses together, without a variable. -/
def joinM (many : Nat) (a b : List Int) (m : Nat) : List Int := (List.range many).filterMap fun i =>
  if i + 1 = m then none else if ((i + 1 : Nat) : Int) ∈ a ∨ ((i + 1 : Nat) : Int) ∈ b then some ((i + 1 : Nat) : Int) else if -((i + 1 : Nat) : Int) ∈ a ∨ -((i + 1 : Nat) : Int) ∈ b then some (-((i + 1 : Nat) : Int)) else none
/-- No literal of these is met with its opposite. -/
def Cons (a : List Int) : Prop := ∀ k, k ∈ a → -k ∉ a
theorem mem_joinM {many m : Nat} {a b : List Int} (hc : ∀ k, k ∈ a ++ b → k.natAbs ≠ m → -k ∉ a ++ b) (hb : ∀ k, k ∈ a ++ b → k ≠ 0 ∧ k.natAbs ≤ many) (k : Int) : k ∈ joinM many a b m ↔ (k ∈ a ∨ k ∈ b) ∧ k.natAbs ≠ m := by
  unfold joinM
  simp only [List.mem_filterMap, List.mem_range]
  constructor
  · rintro ⟨i, hi, h⟩
    split at h
    · cases h
    · rename_i hne
      split at h
      · rename_i h1
        simp only [Option.some.injEq] at h
        subst h
        exact ⟨h1, by omega⟩
      · split at h
        · rename_i h1
          simp only [Option.some.injEq] at h
          subst h
          exact ⟨h1, by omega⟩
        · cases h
  · rintro ⟨h, hne⟩
    have hm : k ∈ a ++ b := List.mem_append.2 h
    obtain ⟨h0, hle⟩ := hb k hm
    refine ⟨k.natAbs - 1, by omega, ?_⟩
    rw [if_neg (by omega)]
    have e : k.natAbs - 1 + 1 = k.natAbs := by omega
    rw [e]
    by_cases hp : 0 < k
    · rw [show ((k.natAbs : Nat) : Int) = k from by omega, if_pos h]
    · rw [show ((k.natAbs : Nat) : Int) = -k from by omega]
      have hn := hc k hm hne
      rw [List.mem_append] at hn
      rw [if_neg hn, Int.neg_neg, if_pos h]
theorem joinM_srt (many : Nat) (a b : List Int) (m : Nat) : Srt (joinM many a b m) := by
  unfold joinM Srt
  rw [List.pairwise_filterMap]
  refine List.Pairwise.imp ?_ List.pairwise_lt_range
  intro i j hij x hx y hy
  have abs : ∀ {i : Nat} {x : Int}, (if i + 1 = m then none else if ((i + 1 : Nat) : Int) ∈ a ∨ ((i + 1 : Nat) : Int) ∈ b then some ((i + 1 : Nat) : Int) else if -((i + 1 : Nat) : Int) ∈ a ∨ -((i + 1 : Nat) : Int) ∈ b then some (-((i + 1 : Nat) : Int)) else none) = some x → x.natAbs = i + 1 := by
    intro i x h
    split at h
    · cases h
    · split at h
      · simp only [Option.some.injEq] at h; omega
      · split at h
        · simp only [Option.some.injEq] at h; omega
        · cases h
  have := abs hx
  have := abs hy
  omega
theorem distinct_eq {put : List Int} (hd : Distinct put) {x y : Int} (hx : x ∈ put) (hy : y ∈ put) (h : x.natAbs = y.natAbs) : x = y := by
  have h1 := (mem_iff_place hd).1 hx
  have h2 := (mem_iff_place hd).1 hy
  rw [h] at h1
  rw [← h1.2, h2.2]
/-- All literals are false. -/
def Fls (put cl : List Int) : Prop := ∀ k, k ∈ cl → -k ∈ put
theorem fls_cons {put cl : List Int} (hd : Distinct put) (h0 : (0 : Int) ∉ put) (h : Fls put cl) : Cons cl := by
  intro k hk hn
  have h1 := h k hk
  have h2 := h (-k) hn
  rw [Int.neg_neg] at h2
  have := distinct_eq hd h1 h2 (by omega)
  have : k = 0 := by omega
  subst this
  exact h0 h2
def maxL (xs : List Nat) : Nat := xs.foldl max 0
theorem foldl_max_le {xs : List Nat} {a x : Nat} (h : x ∈ xs ∨ x ≤ a) : x ≤ xs.foldl max a := by
  induction xs generalizing a with
  | nil => rcases h with h | h; cases h; exact h
  | cons y r ih =>
    refine ih ?_
    rcases h with h | h
    · rcases List.mem_cons.1 h with rfl | h
      · exact .inr (Nat.le_max_right _ _)
      · exact .inl h
    · exact .inr (Nat.le_trans h (Nat.le_max_left _ _))
theorem le_maxL {xs : List Nat} {x : Nat} (h : x ∈ xs) : x ≤ maxL xs := foldl_max_le (.inl h)
theorem foldl_max_mem (xs : List Nat) (a : Nat) : xs.foldl max a = a ∨ xs.foldl max a ∈ xs := by
  induction xs generalizing a with
  | nil => exact .inl rfl
  | cons y r ih =>
    rw [List.foldl_cons]
    rcases ih (max a y) with h | h
    · rw [h]
      rcases Nat.le_total a y with e | e
      · rw [Nat.max_eq_right e]; exact .inr List.mem_cons_self
      · rw [Nat.max_eq_left e]; exact .inl rfl
    · exact .inr (List.mem_cons_of_mem _ h)
theorem maxL_mem {xs : List Nat} : maxL xs = 0 ∨ maxL xs ∈ xs := foldl_max_mem xs 0
theorem lvl_mono {ds : List Bool} {i j : Nat} (h : i ≤ j) : lvl ds i ≤ lvl ds j := by
  unfold lvl
  refine List.Sublist.count_le true ?_
  have : ds.take (i + 1) = (ds.take (j + 1)).take (i + 1) := by rw [List.take_take, Nat.min_eq_left (by omega)]
  rw [this]; exact List.take_sublist _ _
def lastPl (put cl : List Int) : Nat := maxL (cl.map fun k => placeOf put k.natAbs)
theorem lastPl_top {put cl xs : List Int} {ds : List Bool} {top : Nat} {m : Int} (h : TopOf put ds cl top xs) (hm : m ∈ xs) (hmax : ∀ x, x ∈ xs → placeOf put x.natAbs ≤ placeOf put m.natAbs) : placeOf put m.natAbs = lastPl put cl := by
  have hmc := (h.mem m).1 hm
  have h1 : placeOf put m.natAbs ≤ lastPl put cl := le_maxL (List.mem_map.2 ⟨m, hmc.1, rfl⟩)
  rcases maxL_mem (xs := cl.map fun k => placeOf put k.natAbs) with e | e
  · unfold lastPl at h1 ⊢; omega
  · obtain ⟨q, hq, e⟩ := List.mem_map.1 e
    have e' : placeOf put q.natAbs = lastPl put cl := e
    have hl : lvM put ds m ≤ lvM put ds q := lvl_mono (by omega)
    have hl2 := h.le q hq
    have hq2 := hmax q ((h.mem q).2 ⟨hq, by omega⟩)
    omega
theorem two_mem {xs : List Int} (hd : xs.Nodup) (h : 2 ≤ xs.length) (p : Int) : ∃ q, q ∈ xs ∧ q ≠ p := by
  match xs, hd, h with
  | a :: b :: r, hd, _ =>
    have hab : a ≠ b := fun e => by subst e; simp at hd
    by_cases e : a = p
    · exact ⟨b, by simp, fun e2 => hab (by rw [e, e2])⟩
    · exact ⟨a, by simp, e⟩
theorem impl_of {put cl : List Int} {k : Nat} (h : implM put k cl = true) : put.getD k 0 ∈ cl ∧ ∀ l, l ∈ cl → l ≠ put.getD k 0 → placeOf put l.natAbs ≠ 0 ∧ l ∉ put ∧ placeOf put l.natAbs ≤ k := by
  unfold implM at h
  simp only [Bool.and_eq_true, decide_eq_true_eq, Bool.not_eq_true', List.any_eq_false] at h
  refine ⟨h.1, fun l hl hne => ?_⟩
  obtain ⟨i, hi, rfl⟩ := List.getElem_of_mem hl
  have := h.2 i (List.mem_range.2 hi)
  simp only [List.getD_eq_getElem?_getD, List.getElem?_eq_getElem hi, Option.getD_some, badM] at this hne ⊢
  simp only [Bool.and_eq_true, Bool.or_eq_true, decide_eq_true_eq, not_and, not_or] at this
  have h2 := this hne
  exact ⟨h2.1, h2.2.1, by have := h2.2.2; omega⟩
/-- A literal whose variable is assigned, and that is not true, is false. -/
theorem false_of {put : List Int} {l : Int} (h1 : placeOf put l.natAbs ≠ 0) (h2 : l ∉ put) : -l ∈ put := by
  obtain ⟨hle, he⟩ := placeOf_pos h1
  have hm : put.getD (placeOf put l.natAbs - 1) 0 ∈ put := getD_mem (by omega)
  generalize put.getD (placeOf put l.natAbs - 1) 0 = y at he hm
  have : y = l ∨ y = -l := by omega
  rcases this with e | e
  · exact absurd (e ▸ hm) h2
  · exact e ▸ hm
theorem lvl_decided {ds : List Bool} {i k : Nat} (hk : k < ds.length) (hd : ds.getD k false = true) (h : i < k) : lvl ds i < lvl ds k := by
  have h1 : lvl ds i ≤ (ds.take k).count true := by
    unfold lvl
    refine List.Sublist.count_le true ?_
    have : ds.take (i + 1) = (ds.take k).take (i + 1) := by rw [List.take_take, Nat.min_eq_left (by omega)]
    rw [this]; exact List.take_sublist _ _
  have h2 : lvl ds k = (ds.take k).count true + 1 := by
    unfold lvl
    rw [List.take_add_one, List.count_append]
    simp only [List.getD_eq_getElem?_getD, List.getElem?_eq_getElem hk, Option.getD_some] at hd
    simp [hk, hd]
  omega
theorem decs_get {why : List Int} {k : Nat} (hk : k < why.length) : (decs why).getD k false = decide (why.getD k 0 = -1) := by
  simp [decs, List.getD_eq_getElem?_getD, hk]
/-- The mark that was put last among a false clause's, where two are of the top level: it has a reason. -/
theorem last_reason {many : Nat} {c : Cnf} {s : Sat} (h : satOk many c s) {cl xs : List Int} {top k : Nat} (hF : Fls s.put cl) (ht : TopOf s.put (decs s.why) cl top xs) (h2 : 2 ≤ xs.length) (hk : lastPl s.put cl = k + 1) :
    k < s.put.length ∧ -(s.put.getD k 0) ∈ cl ∧ 0 ≤ s.why.getD k 0 ∧ s.why.getD k 0 < c.list.length + s.learned.length ∧ implM s.put k (atM c s (s.why.getD k 0).toNat) = true ∧
    ∃ q, q ∈ cl ∧ q ≠ -(s.put.getD k 0) ∧ lvM s.put (decs s.why) q = top := by
  have hd := h.mks.1
  obtain ⟨q0, hq0, e0⟩ : ∃ q, q ∈ cl ∧ placeOf s.put q.natAbs = k + 1 := by
    rcases maxL_mem (xs := cl.map fun k => placeOf s.put k.natAbs) with e | e
    · unfold lastPl at hk; omega
    · obtain ⟨q, hq, e⟩ := List.mem_map.1 e
      exact ⟨q, hq, e.trans hk⟩
  have hp0 := placeOf_pos (put := s.put) (v := q0.natAbs) (by omega)
  rw [e0, Nat.add_sub_cancel] at hp0
  have hkl : k < s.put.length := by omega
  have hpe : s.put.getD k 0 = -q0 := distinct_eq hd (getD_mem hkl) (hF q0 hq0) (by omega)
  have hle : ∀ q, q ∈ cl → placeOf s.put q.natAbs ≤ k + 1 := fun q hq => by rw [← hk]; exact le_maxL (List.mem_map.2 ⟨q, hq, rfl⟩)
  have hlv0 : lvM s.put (decs s.why) q0 = top := by
    obtain ⟨x, hx, -⟩ := two_mem ht.nd h2 0
    have hx' := (ht.mem x).1 hx
    have h1 := hle x hx'.1
    have h3 : lvM s.put (decs s.why) x ≤ lvM s.put (decs s.why) q0 := lvl_mono (by omega)
    have := ht.le q0 hq0
    omega
  obtain ⟨q1, hq1, hne⟩ := two_mem ht.nd h2 q0
  have hq1' := (ht.mem q1).1 hq1
  have hpl1 := hle q1 hq1'.1
  have hne1 : placeOf s.put q1.natAbs ≠ k + 1 := fun e => by
    have hp1 := placeOf_pos (put := s.put) (v := q1.natAbs) (by omega)
    rw [e, Nat.add_sub_cancel] at hp1
    have := distinct_eq hd (hF q1 hq1'.1) (hF q0 hq0) (by omega)
    exact hne (by omega)
  have hpos1 : placeOf s.put q1.natAbs ≠ 0 := by have := placeOf_ne_zero (hF q1 hq1'.1); rwa [Int.natAbs_neg] at this
  have hwl : s.why.length = s.put.length := h.len.symm
  have hndec : s.why.getD k 0 ≠ -1 := fun e => by
    have h1 : (decs s.why).getD k false = true := by rw [decs_get (by omega)]; simpa using e
    have h3 : lvM s.put (decs s.why) q1 < lvl (decs s.why) k := lvl_decided (by rw [decs_len]; omega) h1 (by omega)
    have h4 : lvM s.put (decs s.why) q0 = lvl (decs s.why) k := by unfold lvM; rw [e0]; rfl
    omega
  rcases h.why k (by omega) with e | ⟨a1, a2, a3⟩
  · exact absurd e hndec
  · exact ⟨hkl, by rw [hpe, Int.neg_neg]; exact hq0, a1, a2, a3, q1, hq1'.1, by rw [hpe, Int.neg_neg]; exact hne, hq1'.2⟩
theorem satOk.lit {many : Nat} {c : Cnf} {s : Sat} (h : satOk many c s) (hcm : c.many = many) {k : Nat} (hk : k < c.list.length + s.learned.length) {l : Int} (hl : l ∈ atM c s k) : l ≠ 0 ∧ l.natAbs ≤ many := by
  have hm' : atM c s k ∈ c.list ++ s.learned := by
    unfold atM; rw [List.getD_eq_getElem?_getD, List.getElem?_eq_getElem (by rw [List.length_append]; omega)]; exact List.getElem_mem _
  have hok : ∀ x, x ∈ c.list → clauseOk c.many x = true := fun x hx => by
    have hc := h.cnf
    unfold cnfOk at hc
    rw [Bool.and_eq_true] at hc
    obtain ⟨i, hi, rfl⟩ := List.getElem_of_mem hx
    have := allI_iff.1 hc.2 i hi
    simpa [List.getD_eq_getElem?_getD, hi] using this
  have := (List.mem_append.1 hm').elim (hok _) (h.lrn _)
  have := clauseOk_lit this hl
  omega
/-- One step of learning: the clause stays false and sorted, its last place falls, its top level stays. -/
theorem learn_join {many : Nat} {c : Cnf} {s : Sat} (h : satOk many c s) (hcm : c.many = many) {cl xs : List Int} {top k : Nat} (hF : Fls s.put cl) (ht : TopOf s.put (decs s.why) cl top xs) (h2 : 2 ≤ xs.length) (hk : lastPl s.put cl = k + 1) :
    let r := atM c s (s.why.getD k 0).toNat
    let cl' := joinM many cl r (s.put.getD k 0).natAbs
    (∀ l, l ∈ cl' ↔ (l ∈ cl ∧ l ≠ -(s.put.getD k 0)) ∨ (l ∈ r ∧ l ≠ s.put.getD k 0)) ∧ Fls s.put cl' ∧ lastPl s.put cl' ≤ k ∧ (∀ l, l ∈ cl' → lvM s.put (decs s.why) l ≤ top) ∧ ∃ q, q ∈ cl' ∧ lvM s.put (decs s.why) q = top := by
  intro r cl'
  obtain ⟨hkl, hpc, hy0, hyn, himp, q, hq, hqne, hqt⟩ := last_reason h hF ht h2 hk
  have hd := h.mks.1
  have h0 : (0 : Int) ∉ s.put := fun e => (h.mks.2 0 e).1 rfl
  obtain ⟨hpr, hoth⟩ := impl_of himp
  have hpm : s.put.getD k 0 ∈ s.put := getD_mem hkl
  have hpl : placeOf s.put (s.put.getD k 0).natAbs = k + 1 := placeOf_at hd hkl
  generalize hp : s.put.getD k 0 = p at *
  have hyn' : (s.why.getD k 0).toNat < c.list.length + s.learned.length := by omega
  have hFr : ∀ l, l ∈ r → l ≠ p → -l ∈ s.put := fun l hl hne => false_of (hoth l hl hne).1 (hoth l hl hne).2.1
  -- literals of the join, off the variable of p
  have off : ∀ l, l ∈ cl ++ r → l.natAbs ≠ p.natAbs → -l ∈ s.put := fun l hl hne => by
    rcases List.mem_append.1 hl with hl | hl
    · exact hF l hl
    · exact hFr l hl fun e => hne (by rw [e])
  have hcons : ∀ l, l ∈ cl ++ r → l.natAbs ≠ p.natAbs → -l ∉ cl ++ r := fun l hl hne hn => by
    have h1 := off l hl hne
    have h3 := off (-l) hn (by rwa [Int.natAbs_neg])
    rw [Int.neg_neg] at h3
    have := distinct_eq hd h1 h3 (by omega)
    have : l = 0 := by omega
    subst this; exact h0 h3
  have hbd : ∀ l, l ∈ cl ++ r → l ≠ 0 ∧ l.natAbs ≤ many := fun l hl => by
    rcases List.mem_append.1 hl with hl | hl
    · have := h.mks.2 _ (hF l hl); omega
    · exact h.lit hcm hyn' hl
  have hmem : ∀ l, l ∈ cl' ↔ (l ∈ cl ∧ l ≠ -p) ∨ (l ∈ r ∧ l ≠ p) := fun l => by
    have e : cl' = joinM many cl r p.natAbs := by show joinM many cl r (s.put.getD k 0).natAbs = _; rw [hp]
    rw [e, mem_joinM hcons hbd]
    constructor
    · rintro ⟨h1 | h1, hne⟩
      · exact .inl ⟨h1, fun e => hne (by rw [e, Int.natAbs_neg])⟩
      · exact .inr ⟨h1, fun e => hne (by rw [e])⟩
    · rintro (⟨h1, hne⟩ | ⟨h1, hne⟩)
      · refine ⟨.inl h1, fun e => hne ?_⟩
        have := distinct_eq hd (hF l h1) hpm (by omega)
        omega
      · refine ⟨.inr h1, fun e => hne ?_⟩
        have := (hoth l h1 hne).2.2
        rw [e] at this; omega
  have hplace : ∀ l, l ∈ cl' → placeOf s.put l.natAbs ≤ k := fun l hl => by
    rcases (hmem l).1 hl with ⟨h1, hne⟩ | ⟨h1, hne⟩
    · have h3 : placeOf s.put l.natAbs ≤ k + 1 := by rw [← hk]; exact le_maxL (List.mem_map.2 ⟨l, h1, rfl⟩)
      have h4 : placeOf s.put l.natAbs ≠ k + 1 := fun e => by
        have := placeOf_pos (put := s.put) (v := l.natAbs) (by omega)
        rw [e, Nat.add_sub_cancel, hp] at this
        have := distinct_eq hd (hF l h1) hpm (by omega)
        exact hne (by omega)
      omega
    · exact (hoth l h1 hne).2.2
  have hlevk : lvl (decs s.why) k = top := by
    have hx := ht.le _ hpc
    have hq1 : lvM s.put (decs s.why) q ≤ lvl (decs s.why) k := lvl_mono (by
      have : placeOf s.put q.natAbs ≤ k + 1 := by rw [← hk]; exact le_maxL (List.mem_map.2 ⟨q, hq, rfl⟩)
      omega)
    have e : lvM s.put (decs s.why) (-p) = lvl (decs s.why) k := by unfold lvM; rw [Int.natAbs_neg, hpl]; rfl
    omega
  refine ⟨hmem, fun l hl => ?_, ?_, fun l hl => ?_, q, (hmem q).2 (.inl ⟨hq, hqne⟩), hqt⟩
  · rcases (hmem l).1 hl with ⟨h1, _⟩ | ⟨h1, hne⟩
    · exact hF l h1
    · exact hFr l h1 hne
  · unfold lastPl
    rcases maxL_mem (xs := cl'.map fun k => placeOf s.put k.natAbs) with e | e
    · omega
    · obtain ⟨l, hl, e⟩ := List.mem_map.1 e
      rw [← e]; exact hplace l hl
  · rw [← hlevk]; exact lvl_mono (by have := hplace l hl; omega)
def topL (put : List Int) (ds : List Bool) (cl : List Int) : Nat := maxL (cl.map (lvM put ds))
def tops (put : List Int) (ds : List Bool) (cl : List Int) : List Int := cl.filter fun k => lvM put ds k == topL put ds cl
theorem srt_nodup {cl : List Int} (h : Srt cl) : cl.Nodup := List.Pairwise.imp (fun h e => by rw [e] at h; omega) h
theorem topOf_tops {put : List Int} {ds : List Bool} {cl : List Int} (h : cl.Nodup) : TopOf put ds cl (topL put ds cl) (tops put ds cl) := by
  refine ⟨fun k hk => le_maxL (List.mem_map_of_mem hk), fun k => by simp [tops], ?_, h.sublist List.filter_sublist⟩
  rcases maxL_mem (xs := cl.map (lvM put ds)) with e | e
  · exact .inl e
  · obtain ⟨q, hq, e⟩ := List.mem_map.1 e
    have : q ∈ tops put ds cl := by simp only [tops, List.mem_filter, beq_iff_eq]; exact ⟨hq, e⟩
    exact .inr fun h => by rw [h] at this; cases this
theorem topOf_top {put : List Int} {ds : List Bool} {cl xs xs' : List Int} {t t' : Nat} (h : TopOf put ds cl t xs) (h' : TopOf put ds cl t' xs') : t = t' := by
  have le : ∀ {t t' : Nat} {xs xs' : List Int}, TopOf put ds cl t xs → TopOf put ds cl t' xs' → t ≤ t' := by
    intro t t' xs xs' h h'
    rcases h.ne with e | e
    · omega
    · obtain ⟨x, hx⟩ := List.exists_mem_of_ne_nil _ e
      have h1 := (h.mem x).1 hx
      have := h'.le x h1.1
      omega
  exact Nat.le_antisymm (le h h') (le h' h)
theorem topOf_len {put : List Int} {ds : List Bool} {cl xs xs' : List Int} {t t' : Nat} (h : TopOf put ds cl t xs) (h' : TopOf put ds cl t' xs') : xs.length = xs'.length := by
  have e := topOf_top h h'
  subst e
  exact Nat.le_antisymm (h.nd.length_le_of_subset fun x hx => (h'.mem x).2 ((h.mem x).1 hx)) (h'.nd.length_le_of_subset fun x hx => (h.mem x).2 ((h'.mem x).1 hx))
theorem topOf_congr {put : List Int} {ds : List Bool} {cl cl' xs : List Int} {t : Nat} (hc : ∀ k, k ∈ cl ↔ k ∈ cl') (h : TopOf put ds cl t xs) : TopOf put ds cl' t xs :=
  ⟨fun k hk => h.le k ((hc k).2 hk), fun k => by rw [h.mem, hc], h.ne, h.nd⟩
def learnS (many : Nat) (c : Cnf) (s : Sat) (cl : List Int) : List Int :=
  joinM many cl (atM c s (s.why.getD (lastPl s.put cl - 1) 0).toNat) (s.put.getD (lastPl s.put cl - 1) 0).natAbs
/-- The clause that is learned. -/
def learnM (many : Nat) (c : Cnf) (s : Sat) : Nat → List Int → List Int
  | 0, cl => cl
  | f + 1, cl => if (tops s.put (decs s.why) cl).length ≤ 1 then cl else learnM many c s f (learnS many c s cl)
theorem lastPl_pos {put cl : List Int} (hF : Fls put cl) (h : cl ≠ []) : lastPl put cl ≠ 0 := by
  obtain ⟨q, hq⟩ := List.exists_mem_of_ne_nil _ h
  have h1 : placeOf put q.natAbs ≤ lastPl put cl := le_maxL (List.mem_map.2 ⟨q, hq, rfl⟩)
  have := placeOf_ne_zero (hF q hq)
  rw [Int.natAbs_neg] at this
  omega
theorem learnS_ok {many : Nat} {c : Cnf} {s : Sat} (h : satOk many c s) (hcm : c.many = many) {cl : List Int} (hF : Fls s.put cl) (hs : Srt cl) (h2 : 2 ≤ (tops s.put (decs s.why) cl).length) :
    Fls s.put (learnS many c s cl) ∧ Srt (learnS many c s cl) ∧ lastPl s.put (learnS many c s cl) < lastPl s.put cl ∧ topL s.put (decs s.why) (learnS many c s cl) = topL s.put (decs s.why) cl := by
  have ht := topOf_tops (put := s.put) (ds := decs s.why) (srt_nodup hs)
  have hne : cl ≠ [] := fun e => by subst e; simp [tops] at h2
  have hp := lastPl_pos hF hne
  obtain ⟨k, hk⟩ : ∃ k, lastPl s.put cl = k + 1 := ⟨lastPl s.put cl - 1, by omega⟩
  obtain ⟨hm, h1, h3, h4, q, hq, hqt⟩ := learn_join h hcm hF ht h2 hk
  have e : learnS many c s cl = joinM many cl (atM c s (s.why.getD k 0).toNat) (s.put.getD k 0).natAbs := by unfold learnS; rw [hk]; rfl
  rw [e]
  refine ⟨h1, joinM_srt _ _ _ _, by omega, ?_⟩
  have ht' := topOf_tops (put := s.put) (ds := decs s.why) (srt_nodup (joinM_srt many cl (atM c s (s.why.getD k 0).toNat) (s.put.getD k 0).natAbs))
  have a1 := ht'.le q hq
  rcases ht'.ne with e | e
  · have := ht.le
    omega
  · obtain ⟨x, hx⟩ := List.exists_mem_of_ne_nil _ e
    have hx' := (ht'.mem x).1 hx
    have := h4 x hx'.1
    omega
theorem learnM_ok {many : Nat} {c : Cnf} {s : Sat} (h : satOk many c s) (hcm : c.many = many) : ∀ {f : Nat} {cl : List Int}, Fls s.put cl → Srt cl → lastPl s.put cl ≤ f →
    Fls s.put (learnM many c s f cl) ∧ Srt (learnM many c s f cl) ∧ topL s.put (decs s.why) (learnM many c s f cl) = topL s.put (decs s.why) cl ∧ (tops s.put (decs s.why) (learnM many c s f cl)).length ≤ 1
  | 0, cl, hF, hs, hl => by
    refine ⟨hF, hs, rfl, ?_⟩
    have : cl = [] := Decidable.byContradiction fun hne => lastPl_pos hF hne (by omega)
    subst this
    simp [learnM, tops]
  | f + 1, cl, hF, hs, hl => by
    unfold learnM
    by_cases h1 : (tops s.put (decs s.why) cl).length ≤ 1
    · rw [if_pos h1]; exact ⟨hF, hs, rfl, h1⟩
    · rw [if_neg h1]
      obtain ⟨a1, a2, a3, a4⟩ := learnS_ok h hcm hF hs (by omega)
      obtain ⟨b1, b2, b3, b4⟩ := learnM_ok h hcm (f := f) a1 a2 (by omega)
      exact ⟨b1, b2, b3.trans a4, b4⟩
end Go.M
