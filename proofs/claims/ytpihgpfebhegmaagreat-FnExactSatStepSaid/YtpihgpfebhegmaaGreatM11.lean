/- The plain law of a search: what it learns follows, what it finds is the least way, and that there is none is told rightly. No program in sight. -/
import Derived.Test.YtpihgpfebhegmaaGreatM4
set_option linter.unusedVariables false
set_option linter.unusedSimpArgs false
set_option linter.unnecessarySimpa false
set_option linter.unusedSectionVars false
namespace Go.M

/-- A literal is so in a way; a clause has one; all clauses have one. -/
def litT (v : Nat → Bool) (l : Int) : Bool := if 0 < l then v l.natAbs else !v l.natAbs
def clT (v : Nat → Bool) (cl : List Int) : Prop := ∃ l, l ∈ cl ∧ litT v l = true
def cnfT (v : Nat → Bool) (c : Cnf) : Prop := ∀ cl, cl ∈ c.list → clT v cl
def Flw (c : Cnf) (cl : List Int) : Prop := ∀ v, cnfT v c → clT v cl
theorem litT_neg {v : Nat → Bool} {l : Int} (h : l ≠ 0) : litT v (-l) = !litT v l := by
  unfold litT
  rw [Int.natAbs_neg]
  by_cases h1 : 0 < l
  · rw [if_neg (by omega), if_pos h1]
  · rw [if_pos (by omega), if_neg h1, Bool.not_not]
/-- What a search is at any time. -/
structure FairS (many : Nat) (c : Cnf) (s : Sat) : Prop where
  ok : satOk many c s
  flw : ∀ cl, cl ∈ s.learned → Flw c cl
  dec : ∀ k, k < s.put.length → s.why.getD k 0 = -1 → s.put.getD k 0 < 0 ∧ ∀ u, 1 ≤ u → u < (s.put.getD k 0).natAbs → ∃ l, l ∈ s.put.take k ∧ l.natAbs = u
  yes : s.code = 1 → s.put.length = many ∧ ∀ cl, cl ∈ c.list → ¬ clashC s.put cl
  no : s.code = 2 → ∀ v, ¬ cnfT v c
variable {many : Nat} {c : Cnf} {s : Sat} {v : Nat → Bool}
theorem FairS.flwAt (h : FairS many c s) {k : Nat} (hk : k < c.list.length + s.learned.length) : Flw c (atM c s k) :=
  (List.mem_append.1 (atM_mem hk)).elim (fun hm v hv => hv _ hm) (h.flw _)
/-- What is put for a reason is so wherever the decisions before it are. -/
theorem FairS.trail (h : FairS many c s) (hv : cnfT v c) (j : Nat) : j < s.put.length → (∀ i, i ≤ j → s.why.getD i 0 = -1 → litT v (s.put.getD i 0) = true) → litT v (s.put.getD j 0) = true := by
  induction j using Nat.strongRecOn with
  | ind j ih =>
    intro hj hd
    have hlen := h.ok.len
    rcases h.ok.why j (by omega) with e | ⟨a, b, e⟩
    · exact hd j (Nat.le_refl _) e
    obtain ⟨l, hl, ht⟩ := h.flwAt (k := (s.why.getD j 0).toNat) (by omega) v hv
    obtain ⟨h1, h2⟩ := (impl_iff h.ok.mks).1 e
    by_cases hne : l = s.put.getD j 0
    · rw [← hne]; exact ht
    · have h3 := h2 l hl hne
      obtain ⟨i, hi, hil⟩ := List.getElem_of_mem h3
      simp only [List.length_take] at hi
      rw [List.getElem_take] at hil
      have h4 := ih i (by omega) (by omega) fun q hq => hd q (by omega)
      rw [List.getD_eq_getElem?_getD, List.getElem?_eq_getElem (by omega), Option.getD_some, hil] at h4
      have h0 : l ≠ 0 := fun e0 => h.ok.mks.zero (by rw [e0] at h3; exact List.mem_of_mem_take h3)
      rw [litT_neg h0, ht] at h4
      cases h4
theorem joinM_flw {many : Nat} {c : Cnf} {s : Sat} (h : FairS many c s) (hcm : c.many = many) {cl : List Int} (hF : Fls s.put cl) (hs : Srt cl) (h2 : 2 ≤ (tops s.put (decs s.why) cl).length) (hc : Flw c cl) : Flw c (learnS many c s cl) := by
  intro v hv
  have ht := topOf_tops (put := s.put) (ds := decs s.why) (srt_nodup hs)
  have hne : cl ≠ [] := fun e => by subst e; simp [tops] at h2
  have hp := lastPl_pos hF hne
  obtain ⟨k, hk⟩ : ∃ k, lastPl s.put cl = k + 1 := ⟨lastPl s.put cl - 1, by omega⟩
  obtain ⟨hm, -⟩ := learn_join h.ok hcm hF ht h2 hk
  obtain ⟨a1, a2, a3, a4, -⟩ := last_reason h.ok hF ht h2 hk
  have e : learnS many c s cl = joinM many cl (atM c s (s.why.getD k 0).toNat) (s.put.getD k 0).natAbs := by unfold learnS; rw [hk]; rfl
  rw [e]
  obtain ⟨l, hl, htl⟩ := hc v hv
  obtain ⟨r, hr, htr⟩ := h.flwAt (k := (s.why.getD k 0).toNat) (by omega) v hv
  have h0 : s.put.getD k 0 ≠ 0 := (h.ok.mks.2 _ (getD_mem a1)).1
  by_cases hl2 : l = -(s.put.getD k 0)
  · refine ⟨r, (hm r).2 (.inr ⟨hr, fun e => ?_⟩), htr⟩
    rw [hl2, litT_neg h0, ← e, htr] at htl
    cases htl
  · exact ⟨l, (hm l).2 (.inl ⟨hl, hl2⟩), htl⟩
theorem learnM_flw (h : FairS many c s) (hcm : c.many = many) : ∀ {f : Nat} {cl : List Int}, Fls s.put cl → Srt cl → Flw c cl → Flw c (learnM many c s f cl)
  | 0, cl, _, _, hc => hc
  | f + 1, cl, hF, hs, hc => by
    unfold learnM
    by_cases h1 : (tops s.put (decs s.why) cl).length ≤ 1
    · rw [if_pos h1]; exact hc
    · rw [if_neg h1]
      obtain ⟨a1, a2, a3, a4⟩ := learnS_ok h.ok hcm hF hs (by omega)
      exact learnM_flw h hcm a1 a2 (joinM_flw h hcm hF hs (by omega) hc)
theorem lvl_zero {ds : List Bool} {i j : Nat} (h : lvl ds i = 0) (hj : j ≤ i) (hd : j < ds.length) : ds.getD j false = false := by
  unfold lvl at h
  rw [List.count_eq_zero] at h
  cases e : ds.getD j false with
  | false => rfl
  | true =>
    refine absurd ?_ h
    rw [List.getD_eq_getElem?_getD, List.getElem?_eq_getElem hd, Option.getD_some] at e
    have : (ds.take (i + 1))[j]'(by simp; omega) = true := by rw [List.getElem_take]; exact e
    rw [← this]; exact List.getElem_mem _
/-- A clash that stands on no decision: there is no way. -/
theorem clash_none (h : FairS many c s) {k : Nat} (hk : k < c.list.length + s.learned.length) (hc : clashC s.put (atM c s k)) (ht : topL s.put (decs s.why) (atM c s k) = 0) : ¬ cnfT v c := by
  intro hv
  obtain ⟨l, hl, hlt⟩ := h.flwAt hk v hv
  have h1 := clash_fls hc l hl
  have hp := placeOf_ne_zero h1
  have hp2 := (mem_iff_place h.ok.mks.1).1 h1
  have hle := placeOf_le s.put (-l).natAbs
  have hlv : lvM s.put (decs s.why) l ≤ topL s.put (decs s.why) (atM c s k) := le_maxL (List.mem_map_of_mem hl)
  unfold lvM at hlv
  have hlen := h.ok.len
  rw [Int.natAbs_neg] at hp hp2 hle
  have h2 := h.trail hv (placeOf s.put l.natAbs - 1) (by omega) fun i hi hw => by
    have := lvl_zero (ds := decs s.why) (i := placeOf s.put l.natAbs - 1) (j := i) (by omega) hi (by rw [decs_len]; omega)
    rw [decs_get (by omega), hw] at this
    cases this
  rw [hp2.2] at h2
  have h0 : l ≠ 0 := fun e0 => h.ok.mks.zero (by rw [e0] at h1; exact h1)
  rw [litT_neg h0, hlt] at h2
  cases h2
theorem getD_snoc_l {α : Type} {a : List α} {x d : α} {k : Nat} (h : k < a.length) : (a ++ [x]).getD k d = a.getD k d := getD_app_l h
theorem push_fair (h : FairS many c s) (h0 : s.code = 0) {l y : Int} (hok : satOk many c { s with put := s.put ++ [l], why := s.why ++ [y] }) (hy : y = -1 → l < 0 ∧ ∀ u, 1 ≤ u → u < l.natAbs → ∃ q, q ∈ s.put ∧ q.natAbs = u) : FairS many c { s with put := s.put ++ [l], why := s.why ++ [y] } := by
  have hlen := h.ok.len
  refine ⟨hok, h.flw, fun k hk hw => ?_, fun e => ?_, fun e => ?_⟩
  · simp only [List.length_append, List.length_singleton] at hk
    by_cases hkl : k < s.put.length
    · simp only [getD_snoc_l hkl, List.take_append_of_le_length (Nat.le_of_lt hkl)] at hw ⊢
      rw [getD_snoc_l (by omega)] at hw
      exact h.dec k hkl hw
    · have e : k = s.put.length := by omega
      subst e
      have e1 : (s.put ++ [l]).getD s.put.length 0 = l := by simp
      have e2 : (s.why ++ [y]).getD s.put.length 0 = y := by rw [hlen]; simp
      simp only [e1, e2, List.take_append_of_le_length (Nat.le_refl _), List.take_length] at hw ⊢
      exact hy hw
  · simp only at e; omega
  · simp only at e; omega
theorem clash_fair (h : FairS many c s) (h0 : s.code = 0) (hcm : c.many = many) {k : Nat} (hk : k < c.list.length + s.learned.length) (hc : clashC s.put (atM c s k)) : FairS many c (clashM many c s (atM c s k)) := by
  have hok := clash_ok h.ok hcm hk hc
  have hlen := h.ok.len
  unfold clashM at hok ⊢
  split
  · rename_i ht
    rw [if_pos ht] at hok
    exact ⟨hok, h.flw, h.dec, fun e => by simp at e, fun _ v => clash_none h hk hc ht⟩
  rename_i ht
  rw [if_neg ht] at hok
  split
  · rename_i hm
    rw [if_pos hm] at hok
    exact ⟨hok, h.flw, h.dec, fun e => by simp at e, fun e => by simp at e⟩
  · rename_i hm
    rw [if_neg hm] at hok
    have hf : Flw c (learnM many c s s.put.length (atM c s k)) := learnM_flw h hcm (clash_fls hc) (clauseOk_srt (h.ok.atOk hk)) (h.flwAt hk)
    generalize learnM many c s s.put.length (atM c s k) = cl at *
    generalize backN (decs s.why) (belowM s.put (decs s.why) cl) s.put.length = n at *
    refine ⟨hok, fun x hx => ?_, fun j hj hw => ?_, fun e => ?_, fun e => ?_⟩
    · rcases List.mem_append.1 hx with hx | hx
      · exact h.flw x hx
      · rw [List.mem_singleton] at hx; subst hx; exact hf
    · simp only [List.length_take] at hj
      simp only [getD_take (show j < n by omega), List.take_take, Nat.min_eq_left (show j ≤ n by omega)] at hw ⊢
      exact h.dec j (by omega) hw
    · simp only at e; omega
    · simp only at e; omega
theorem go_fair (h : FairS many c s) (h0 : s.code = 0) (hcm : c.many = many) : FairS many c (goM many c s) := by
  have hok := go_ok h.ok hcm
  unfold goM at hok ⊢
  rcases find_cases s.put (c.list ++ s.learned) with ⟨i, u, x, hi, e, hc⟩ | ⟨hn, ⟨i, x, hi, e, hu, -⟩ | ⟨e, -⟩⟩
  · rw [e] at hok ⊢
    simp only [Int.natCast_nonneg, if_true, Int.toNat_natCast]
    rw [List.length_append] at hi
    exact clash_fair h h0 hcm hi hc
  · rw [e] at hok ⊢
    simp only [Int.natCast_nonneg, if_true, show ¬ (0 : Int) ≤ -1 by omega, if_false] at hok ⊢
    exact push_fair h h0 hok fun e => by omega
  · rw [e] at hok ⊢
    simp only [show ¬ (0 : Int) ≤ -1 by omega, if_false] at hok ⊢
    split
    · rename_i hl
      rw [if_pos hl] at hok
      exact ⟨hok, h.flw, h.dec, fun _ => ⟨hl, fun cl hcl => hn cl (List.mem_append_left _ hcl)⟩, fun e => by simp at e⟩
    · rename_i hl
      rw [if_neg hl] at hok
      obtain ⟨a, b, d, f⟩ := free_spec h.ok.mks hl
      refine push_fair h h0 hok fun _ => ⟨by omega, fun u h1 h2 => ?_⟩
      have h3 := f u h1 (by omega)
      obtain ⟨h4, h5⟩ := placeOf_pos h3
      exact ⟨_, getD_mem (show placeOf s.put u - 1 < s.put.length by omega), h5⟩
theorem step_fair (h : FairS many c s) (hcm : c.many = many) : FairS many c (stepM many c s) := by
  unfold stepM
  split
  · exact go_fair h (by assumption) hcm
  · exact h
theorem run_fair (hcm : c.many = many) : ∀ {n : Nat} {s : Sat}, FairS many c s → FairS many c (runM many c n s)
  | 0, _, h => h
  | n + 1, _, h => run_fair hcm (n := n) (step_fair h hcm)
theorem empty_fair (h : cnfOk c = true) : FairS many c emptyS := ⟨empty_ok h, by simp [emptyS], by simp [emptyS], by simp [emptyS], by simp [emptyS]⟩
/-! ### What is found is the least way -/
/-- A way comes no later than another. -/
def LexLe (many : Nat) (a b : Nat → Bool) : Prop := (∀ u, 1 ≤ u → u ≤ many → a u = b u) ∨ ∃ d, 1 ≤ d ∧ d ≤ many ∧ a d = false ∧ b d = true ∧ ∀ u, 1 ≤ u → u < d → a u = b u
theorem LexLe.antisymm {a b : Nat → Bool} (h1 : LexLe many a b) (h2 : LexLe many b a) : ∀ u, 1 ≤ u → u ≤ many → a u = b u := by
  rcases h1 with h1 | ⟨d, d1, d2, d3, d4, d5⟩
  · exact h1
  rcases h2 with h2 | ⟨e, e1, e2, e3, e4, e5⟩
  · exact fun u hu hm => (h2 u hu hm).symm
  exfalso
  rcases Nat.lt_trichotomy d e with h | h | h
  · have := e5 d d1 h; rw [d3, d4] at this; cases this
  · subst h; rw [d3] at e4; cases e4
  · have := d5 e e1 h; rw [e3, e4] at this; cases this
def wayM (put : List Int) (u : Nat) : Bool := decide ((u : Int) ∈ put)
theorem wayM_true {put : List Int} (h : marksOk many put) {l : Int} (hl : l ∈ put) : litT (wayM put) l = true := by
  unfold litT wayM
  have h0 := (h.2 l hl).1
  by_cases h1 : 0 < l
  · rw [if_pos h1, show ((l.natAbs : Nat) : Int) = l by omega]; simpa using hl
  · rw [if_neg h1, show ((l.natAbs : Nat) : Int) = -l by omega]
    have := h.neg hl
    simpa using this
theorem litT_eq {a b : Nat → Bool} {l : Int} (ha : litT a l = true) (hb : litT b l = true) : a l.natAbs = b l.natAbs := by
  unfold litT at ha hb
  by_cases h1 : 0 < l
  · rw [if_pos h1] at ha hb; rw [ha, hb]
  · rw [if_neg h1] at ha hb
    cases h2 : a l.natAbs <;> cases h3 : b l.natAbs <;> simp_all
theorem full {put : List Int} (h : marksOk many put) (hl : put.length = many) {u : Nat} (h1 : 1 ≤ u) (h2 : u ≤ many) : placeOf put u ≠ 0 := by
  intro e
  have : (u :: put.map Int.natAbs).length ≤ (List.range' 1 many).length := by
    refine List.Nodup.length_le_of_subset ?_ fun x hx => ?_
    · rw [List.nodup_cons]
      refine ⟨fun hm => ?_, h.1⟩
      obtain ⟨l, hl, rfl⟩ := List.mem_map.1 hm
      exact placeOf_ne_zero hl e
    · rw [List.mem_range'_1]
      rcases List.mem_cons.1 hx with rfl | hx
      · omega
      · obtain ⟨l, hl, rfl⟩ := List.mem_map.1 hx
        have := h.2 l hl; omega
  simp at this
  omega
theorem FairS.full (h : FairS many c s) (h1 : s.code = 1) {u : Nat} (a : 1 ≤ u) (b : u ≤ many) : ∃ l, l ∈ s.put ∧ l.natAbs = u := by
  obtain ⟨h2, h3⟩ := placeOf_pos (Go.M.full h.ok.mks (h.yes h1).1 a b)
  have := Go.M.full h.ok.mks (h.yes h1).1 a b
  exact ⟨_, getD_mem (show placeOf s.put u - 1 < s.put.length by omega), h3⟩
/-- The least way. -/
def Least (many : Nat) (c : Cnf) (a : Nat → Bool) : Prop := cnfT a c ∧ ∀ v, cnfT v c → LexLe many a v
theorem FairS.model (h : FairS many c s) (hcm : c.many = many) (h1 : s.code = 1) : cnfT (wayM s.put) c := fun cl hcl => by
  have h2 := (h.yes h1).2 cl hcl
  unfold clashC at h2
  simp only [Classical.not_forall, Classical.not_imp] at h2
  obtain ⟨l, hl, h3⟩ := h2
  have hb := clauseOk_lit (cnfOk_clause h.ok.cnf hcl) hl
  have h4 := Go.M.full h.ok.mks (h.yes h1).1 (u := l.natAbs) (by omega) (by omega)
  refine ⟨l, hl, wayM_true h.ok.mks ?_⟩
  exact Classical.byContradiction fun hn => h3 ⟨hn, h4⟩
theorem FairS.least (h : FairS many c s) (hcm : c.many = many) (h1 : s.code = 1) : Least many c (wayM s.put) := by
  refine ⟨h.model hcm h1, fun v hv => ?_⟩
  by_cases hall : ∀ j, j < s.put.length → litT v (s.put.getD j 0) = true
  · refine .inl fun u a b => ?_
    obtain ⟨l, hl, rfl⟩ := h.full h1 a b
    refine litT_eq (wayM_true h.ok.mks hl) ?_
    obtain ⟨j, hj, rfl⟩ := List.getElem_of_mem hl
    have := hall j hj
    rwa [List.getD_eq_getElem?_getD, List.getElem?_eq_getElem hj, Option.getD_some] at this
  · obtain ⟨j, ⟨hj, hf⟩, hmin⟩ : ∃ j, (j < s.put.length ∧ litT v (s.put.getD j 0) = false) ∧ ∀ i, i < j → litT v (s.put.getD i 0) = true := by
      have : ∃ j, j < s.put.length ∧ litT v (s.put.getD j 0) = false := by
        simp only [Classical.not_forall] at hall
        obtain ⟨j, hj, h2⟩ := hall
        exact ⟨j, hj, by simpa using h2⟩
      obtain ⟨j, hj⟩ := this
      induction j using Nat.strongRecOn with
      | ind j ih =>
        by_cases hx : ∃ i, i < j ∧ litT v (s.put.getD i 0) = false
        · obtain ⟨i, hi, h2⟩ := hx
          exact ih i hi ⟨by omega, h2⟩
        · exact ⟨j, hj, fun i hi => by
            cases e : litT v (s.put.getD i 0) with
            | true => rfl
            | false => exact absurd ⟨i, hi, e⟩ hx⟩
    have hw : s.why.getD j 0 = -1 := by
      refine Classical.byContradiction fun hne => ?_
      have := h.trail hv j hj fun i hi hw => by
        by_cases e : i = j
        · subst e; exact absurd hw hne
        · exact hmin i (by omega)
      rw [hf] at this; cases this
    obtain ⟨d1, d2⟩ := h.dec j hj hw
    have hm := getD_mem (put := s.put) hj
    have hb := h.ok.mks.2 _ hm
    have hwy := wayM_true h.ok.mks hm
    generalize s.put.getD j 0 = p at *
    refine .inr ⟨p.natAbs, by omega, hb.2, ?_, ?_, fun u a b => ?_⟩
    · unfold litT at hwy
      rw [if_neg (by omega)] at hwy
      simpa using hwy
    · unfold litT at hf
      rw [if_neg (by omega)] at hf
      simpa using hf
    · obtain ⟨l, hl, rfl⟩ := d2 u a b
      refine litT_eq (wayM_true h.ok.mks (List.mem_of_mem_take hl)) ?_
      obtain ⟨i, hi, rfl⟩ := List.getElem_of_mem hl
      simp only [List.length_take] at hi
      have := hmin i (by omega)
      rw [List.getElem_take]
      rwa [List.getD_eq_getElem?_getD, List.getElem?_eq_getElem (by omega), Option.getD_some] at this
end Go.M
/- The plain law of a search: what is learned is asserting; how long a search can be. No program in sight. -/
namespace Go.M
variable {many n : Nat} {c : Cnf} {s : Sat} {cl : List Int} {p : Int}
theorem backN_spec {ds : List Bool} {L : Int} : ∀ (len : Nat), (∀ i, backN ds L len ≤ i → i < len → L < (lvl ds i : Int)) ∧ (∀ i, i < backN ds L len → (lvl ds i : Int) ≤ L)
  | 0 => ⟨fun i _ h => by omega, fun i h => by unfold backN at h; omega⟩
  | len + 1 => by
    unfold backN
    split
    · rename_i h
      obtain ⟨a, b⟩ := backN_spec (ds := ds) (L := L) len
      refine ⟨fun i h1 h2 => ?_, b⟩
      by_cases e : i = len
      · subst e; exact h
      · exact a i h1 (by omega)
    · rename_i h
      refine ⟨fun i h1 h2 => by omega, fun i h1 => ?_⟩
      have := lvl_mono (ds := ds) (show i ≤ len by omega)
      omega
/-- What is learned, and where the search goes back to. -/
structure Asserts (s : Sat) (cl : List Int) (n : Nat) (p : Int) : Prop where
  fls : Fls s.put cl
  mem : p ∈ cl
  lt : n < s.put.length
  dec : s.why.getD n 0 = -1
  high : n < placeOf s.put p.natAbs
  low : ∀ q, q ∈ cl → q ≠ p → placeOf s.put q.natAbs ≤ n
  second : ∀ k, k < n → s.why.getD k 0 = -1 → ∃ q, q ∈ cl ∧ q ≠ p ∧ k < placeOf s.put q.natAbs
theorem lvl_pos {ds : List Bool} {k : Nat} (hk : k < ds.length) (hd : ds.getD k false = true) : 1 ≤ lvl ds k := by
  have := lvl_succ hk
  rw [hd] at this
  simp at this
  omega
theorem asserts (h : satOk many c s) (hcm : c.many = many) {k : Nat} (hk : k < c.list.length + s.learned.length) (hc : clashC s.put (atM c s k)) (ht : topL s.put (decs s.why) (atM c s k) ≠ 0) :
    ∃ p, Asserts s (learnM many c s s.put.length (atM c s k)) (backN (decs s.why) (belowM s.put (decs s.why) (learnM many c s s.put.length (atM c s k))) s.put.length) p := by
  obtain ⟨l1, l2, l3, l4⟩ := learn_ok h hcm hk hc
  rw [← l3] at ht
  generalize learnM many c s s.put.length (atM c s k) = cl at *
  have hlen := h.len
  have hdl : (decs s.why).length = s.put.length := by rw [decs_len, hlen]
  obtain ⟨p, hp, hpl⟩ : ∃ p, p ∈ cl ∧ lvM s.put (decs s.why) p = topL s.put (decs s.why) cl := by
    rcases maxL_mem (xs := cl.map (lvM s.put (decs s.why))) with e | e
    · exact absurd e ht
    · obtain ⟨q, hq, e⟩ := List.mem_map.1 e
      exact ⟨q, hq, e⟩
  have hplace : ∀ q, q ∈ cl → placeOf s.put q.natAbs ≠ 0 ∧ placeOf s.put q.natAbs ≤ s.put.length := fun q hq => by
    have := placeOf_ne_zero (l1 q hq)
    rw [Int.natAbs_neg] at this
    exact ⟨this, placeOf_le _ _⟩
  have hbelow : ∀ q, q ∈ cl → q ≠ p → lvM s.put (decs s.why) q < topL s.put (decs s.why) cl := fun q hq hne => by
    have h1 : lvM s.put (decs s.why) q ≤ topL s.put (decs s.why) cl := le_maxL (List.mem_map_of_mem hq)
    refine Nat.lt_of_le_of_ne h1 fun e => ?_
    have m1 : q ∈ tops s.put (decs s.why) cl := by simp only [tops, List.mem_filter, beq_iff_eq]; exact ⟨hq, e⟩
    have m2 : p ∈ tops s.put (decs s.why) cl := by simp only [tops, List.mem_filter, beq_iff_eq]; exact ⟨hp, hpl⟩
    match hT : tops s.put (decs s.why) cl, l4 with
    | [], _ => rw [hT] at m1; cases m1
    | [x], _ =>
      rw [hT, List.mem_singleton] at m1 m2
      exact hne (m1.trans m2.symm)
    | _ :: _ :: _, h => simp at h
  have hbl : ∀ q, q ∈ cl → q ≠ p → lvM s.put (decs s.why) q ≤ belowM s.put (decs s.why) cl := fun q hq hne =>
    le_maxL (List.mem_map_of_mem (List.mem_filter.2 ⟨hq, by simpa using hbelow q hq hne⟩))
  have hbt : belowM s.put (decs s.why) cl < topL s.put (decs s.why) cl ∧ (belowM s.put (decs s.why) cl = 0 ∨ ∃ q, q ∈ cl ∧ q ≠ p ∧ lvM s.put (decs s.why) q = belowM s.put (decs s.why) cl) := by
    rcases maxL_mem (xs := (cl.filter fun k => decide (lvM s.put (decs s.why) k < topL s.put (decs s.why) cl)).map (lvM s.put (decs s.why))) with e | e
    · have e' : belowM s.put (decs s.why) cl = 0 := e
      exact ⟨by omega, .inl e'⟩
    · obtain ⟨q, hq, e⟩ := List.mem_map.1 e
      have e' : lvM s.put (decs s.why) q = belowM s.put (decs s.why) cl := e
      rw [List.mem_filter, decide_eq_true_eq] at hq
      exact ⟨by omega, .inr ⟨q, hq.1, fun e2 => by subst e2; omega, e'⟩⟩
  generalize belowM s.put (decs s.why) cl = B at *
  obtain ⟨b1, b2⟩ := backN_spec (ds := decs s.why) (L := (B : Int)) s.put.length
  have bl := backN_le (decs s.why) (B : Int) s.put.length
  generalize backN (decs s.why) (B : Int) s.put.length = n at *
  have hpn : n < placeOf s.put p.natAbs := by
    refine Nat.lt_of_not_le fun hle => ?_
    have := b2 (placeOf s.put p.natAbs - 1) (by have := (hplace p hp).1; omega)
    have e : lvM s.put (decs s.why) p = lvl (decs s.why) (placeOf s.put p.natAbs - 1) := rfl
    omega
  have hnl : n < s.put.length := by have := (hplace p hp).2; omega
  refine ⟨p, l1, hp, hnl, ?_, hpn, fun q hq hne => ?_, fun j hj hd => ?_⟩
  · have h1 := b1 n (Nat.le_refl _) hnl
    have h2 := lvl_succ (ds := decs s.why) (i := n) (by omega)
    have h3 : (((decs s.why).take n).count true : Int) ≤ B := by
      by_cases e : n = 0
      · subst e; simp
      · have := b2 (n - 1) (by omega)
        unfold lvl at this
        rwa [show n - 1 + 1 = n by omega] at this
    have h4 : (decs s.why).getD n false = true := by
      cases e : (decs s.why).getD n false with
      | true => rfl
      | false => rw [e] at h2; simp at h2; omega
    rw [decs_get (by omega)] at h4
    simpa using h4
  · refine Nat.le_of_not_lt fun hlt => ?_
    have h1 := b1 (placeOf s.put q.natAbs - 1) (by omega) (by have := hplace q hq; omega)
    have h2 := hbl q hq hne
    have e : lvM s.put (decs s.why) q = lvl (decs s.why) (placeOf s.put q.natAbs - 1) := rfl
    omega
  · have hdj : (decs s.why).getD j false = true := by rw [decs_get (by omega), hd]; rfl
    have h1 := b2 j hj
    have h2 := lvl_pos (ds := decs s.why) (by omega) hdj
    rcases hbt.2 with e | ⟨q, hq, hne, e⟩
    · omega
    · refine ⟨q, hq, hne, Nat.lt_of_not_le fun hle => ?_⟩
      have h3 := lvl_decided (ds := decs s.why) (i := placeOf s.put q.natAbs - 1) (by omega) hdj (by have := hplace q hq; omega)
      have e2 : lvM s.put (decs s.why) q = lvl (decs s.why) (placeOf s.put q.natAbs - 1) := rfl
      omega
theorem place_take {put : List Int} (hd : Distinct put) {l : Int} {k : Nat} (h : l ∈ put ∨ -l ∈ put) : placeOf (put.take k) l.natAbs = 0 ↔ k < placeOf put l.natAbs := by
  have key : ∀ q, q ∈ put → q.natAbs = l.natAbs → (placeOf (put.take k) l.natAbs = 0 ↔ k < placeOf put l.natAbs) := fun q hq e => by
    rw [← e]
    constructor
    · intro h0
      refine Nat.lt_of_not_le fun hle => placeOf_ne_zero ((mem_take hd).2 ⟨hq, hle⟩) h0
    · intro h1
      refine Classical.byContradiction fun hne => ?_
      obtain ⟨h2, h3⟩ := placeOf_pos hne
      have hm := getD_mem (put := put.take k) (i := placeOf (put.take k) q.natAbs - 1) (by omega)
      have := (mem_take hd).1 hm
      rw [h3] at this
      omega
  rcases h with h | h
  · exact key l h rfl
  · exact key (-l) h (Int.natAbs_neg l)
theorem Asserts.free (h : Asserts s cl n p) (hm : marksOk many s.put) {q : Int} (hq : q ∈ cl) {k : Nat} : placeOf (s.put.take k) q.natAbs = 0 ↔ k < placeOf s.put q.natAbs := place_take hm.1 (.inr (h.fls q hq))
/-- How much of a search is used up: its reasons as a number. -/
def rank : Nat → List Int → Nat
  | n + 1, y :: r => (if y = -1 then 0 else 2 ^ n) + rank n r
  | _, _ => 0
theorem rank_lt : ∀ {n : Nat} {r : List Int}, r.length ≤ n → rank n r < 2 ^ n
  | 0, [], _ => by simp [rank]
  | n + 1, [], _ => by simp [rank]; exact Nat.pow_pos (by omega)
  | n + 1, y :: r, h => by
    simp only [List.length_cons] at h
    have := rank_lt (n := n) (r := r) (by omega)
    simp only [rank, Nat.pow_succ]
    split <;> omega
theorem rank_app : ∀ {n : Nat} {a b : List Int}, a.length ≤ n → rank n (a ++ b) = rank n a + rank (n - a.length) b
  | 0, [], b, _ => by simp [rank]
  | n + 1, [], b, _ => by simp [rank]
  | n + 1, y :: a, b, h => by
    simp only [List.length_cons] at h
    simp only [List.cons_append, rank, List.length_cons, rank_app (n := n) (a := a) (b := b) (by omega)]
    rw [show n + 1 - (a.length + 1) = n - a.length by omega, Nat.add_assoc]
theorem rank_snoc {n : Nat} {a : List Int} {y : Int} (h : a.length < n) : rank n (a ++ [y]) = rank n a + (if y = -1 then 0 else 2 ^ (n - a.length - 1)) := by
  rw [rank_app (by omega)]
  obtain ⟨m, hm⟩ : ∃ m, n - a.length = m + 1 := ⟨n - a.length - 1, by omega⟩
  rw [hm]
  cases m <;> simp [rank]
theorem rank_cut {n k : Nat} {a : List Int} (h : a.length ≤ n) (hk : k < a.length) (hd : a.getD k 0 = -1) : rank n a < rank n (a.take k) + 2 ^ (n - k - 1) := by
  have e : a = a.take k ++ (-1 :: a.drop (k + 1)) := by
    have h1 := List.take_append_drop k a
    rw [drop_cons (d := (0 : Int)) hk, hd] at h1
    exact h1.symm
  have e2 : rank n a = rank n (a.take k ++ (-1 :: a.drop (k + 1))) := congrArg (rank n) e
  have hl : (a.take k).length = k := by rw [List.length_take]; omega
  rw [e2, rank_app (by omega), hl]
  obtain ⟨m, hm⟩ : ∃ m, n - k = m + 1 := ⟨n - k - 1, by omega⟩
  rw [hm]
  simp only [rank, if_pos, Nat.zero_add, Nat.add_sub_cancel]
  have := rank_lt (n := m) (r := a.drop (k + 1)) (by rw [List.length_drop]; omega)
  omega
/-- How long a search can be. -/
structure Bnd (many : Nat) (c : Cnf) (s : Sat) : Prop where
  prp : ∀ k, k < s.put.length → s.why.getD k 0 = -1 → ∀ cl, cl ∈ c.list ++ s.learned → ¬ clashC (s.put.take k) cl ∧ ∀ x, ¬ unitC (s.put.take k) cl x
  cnt : s.learned.length ≤ rank many s.why ∨ (s.learned.length ≤ rank many s.why + 2 ^ (many - s.why.length - 1) ∧ s.why.length < many ∧ (∀ cl, cl ∈ c.list ++ s.learned → ¬ clashC s.put cl) ∧ ∃ cl, cl ∈ c.list ++ s.learned ∧ ∃ x, unitC s.put cl x)
  much : s.code = 3 → s.learned.length = 300 ∧ 300 < 2 ^ many
theorem push_bnd (h : Bnd many c s) (hok : satOk many c s) (h0 : s.code = 0) {l y : Int} (hlt : s.put.length < many) (hp : y = -1 → ∀ cl, cl ∈ c.list ++ s.learned → ¬ clashC s.put cl ∧ ∀ x, ¬ unitC s.put cl x) : Bnd many c { s with put := s.put ++ [l], why := s.why ++ [y] } := by
  have hlen := hok.len
  refine ⟨fun k hk hw => ?_, .inl ?_, fun e => by simp only at e; omega⟩
  · simp only [List.length_append, List.length_singleton] at hk
    by_cases hkl : k < s.put.length
    · simp only [getD_snoc_l (show k < s.why.length by omega), List.take_append_of_le_length (Nat.le_of_lt hkl)] at hw ⊢
      exact h.prp k hkl hw
    · have e : k = s.put.length := by omega
      subst e
      have e2 : (s.why ++ [y]).getD s.put.length 0 = y := by rw [hlen]; simp
      simp only [e2, List.take_append_of_le_length (Nat.le_refl _), List.take_length] at hw ⊢
      exact hp hw
  · simp only
    rw [rank_snoc (by omega)]
    rcases h.cnt with a | ⟨a, b, d, cl, hcl, x, hx⟩
    · omega
    · by_cases e : y = -1
      · exact absurd hx ((hp e cl hcl).2 x)
      · rw [if_neg e]; omega
theorem unit_two {put cl : List Int} {p q : Int} (hp : p ∈ cl) (hq : q ∈ cl) (hne : q ≠ p) (h1 : placeOf put p.natAbs = 0) (h2 : placeOf put q.natAbs = 0) (x : Int) : ¬ unitC put cl x := fun ⟨_, h⟩ => by
  have m1 : p ∈ cl.filter fun l => decide (placeOf put l.natAbs = 0) := List.mem_filter.2 ⟨hp, by simpa using h1⟩
  have m2 : q ∈ cl.filter fun l => decide (placeOf put l.natAbs = 0) := List.mem_filter.2 ⟨hq, by simpa using h2⟩
  rw [h, List.mem_singleton] at m1 m2
  exact hne (m2.trans m1.symm)
theorem not_mem_take {put : List Int} (hm : marksOk many put) {q : Int} (h : -q ∈ put) (k : Nat) : q ∉ put.take k := fun h2 => hm.neg (List.mem_of_mem_take h2) h
theorem Asserts.unit (h : Asserts s cl n p) (hm : marksOk many s.put) (hs : Srt cl) : unitC (s.put.take n) cl p := by
  refine ⟨fun l hl => not_mem_take hm (h.fls l hl) n, ?_⟩
  have hf : ∀ q, q ∈ cl.filter (fun l => decide (placeOf (s.put.take n) l.natAbs = 0)) ↔ q = p := fun q => by
    rw [List.mem_filter, decide_eq_true_eq]
    constructor
    · rintro ⟨h1, h2⟩
      refine Classical.byContradiction fun hne => ?_
      have := (h.free hm h1).1 h2
      have := h.low q h1 hne
      omega
    · rintro rfl
      exact ⟨h.mem, (h.free hm h.mem).2 h.high⟩
  have hnd := (srt_nodup hs).sublist (List.filter_sublist (p := fun l => decide (placeOf (s.put.take n) l.natAbs = 0)))
  generalize cl.filter (fun l => decide (placeOf (s.put.take n) l.natAbs = 0)) = f at hf hnd
  match f, hnd with
  | [], _ => have := (hf p).2 rfl; cases this
  | [x], _ => rw [(hf x).1 List.mem_cons_self]
  | x :: z :: r, hnd =>
    have h1 := (hf x).1 List.mem_cons_self
    have h2 := (hf z).1 (by simp)
    subst h1; subst h2
    simp at hnd
theorem clash_bnd (h : Bnd many c s) (hok : satOk many c s) (h0 : s.code = 0) (hcm : c.many = many) {k : Nat} (hk : k < c.list.length + s.learned.length) (hc : clashC s.put (atM c s k)) : Bnd many c (clashM many c s (atM c s k)) := by
  have hlen := hok.len
  have hml := hok.mks.len
  have hA : s.learned.length ≤ rank many s.why := by
    rcases h.cnt with a | ⟨_, _, d, _⟩
    · exact a
    · exact absurd hc (d _ (atM_mem hk))
  have hr := rank_lt (n := many) (r := s.why) (by omega)
  unfold clashM
  split
  · exact ⟨h.prp, h.cnt, fun e => by simp at e⟩
  rename_i ht
  split
  · rename_i hm
    exact ⟨h.prp, h.cnt, fun _ => ⟨hm, by omega⟩⟩
  · rename_i hm
    obtain ⟨p, ha⟩ := asserts hok hcm hk hc ht
    obtain ⟨-, l2, -, -⟩ := learn_ok hok hcm hk hc
    generalize learnM many c s s.put.length (atM c s k) = cl at *
    generalize backN (decs s.why) (belowM s.put (decs s.why) cl) s.put.length = n at *
    have hn := ha.lt
    refine ⟨fun j hj hw => ?_, .inr ⟨?_, ?_, ?_, ?_⟩, fun e => by simp only at e; omega⟩
    · simp only [List.length_take] at hj
      simp only [getD_take (show j < n by omega), List.take_take, Nat.min_eq_left (show j ≤ n by omega)] at hw ⊢
      intro x hx
      rw [← List.append_assoc] at hx
      rcases List.mem_append.1 hx with hx | hx
      · exact h.prp j (by omega) hw x hx
      · rw [List.mem_singleton] at hx
        subst hx
        obtain ⟨q, hq, hne, hqk⟩ := ha.second j (by omega) hw
        have f1 := (ha.free hok.mks ha.mem (k := j)).2 (by have := ha.high; omega)
        have f2 := (ha.free hok.mks hq (k := j)).2 hqk
        exact ⟨fun hcl => (hcl p ha.mem).2 f1, unit_two ha.mem hq hne f1 f2⟩
    · simp only [List.length_append, List.length_singleton, List.length_take]
      have := rank_cut (n := many) (a := s.why) (by omega) (by omega) ha.dec
      rw [Nat.min_eq_left (by omega)]
      omega
    · simp only [List.length_take]; omega
    · simp only
      intro x hx
      rw [← List.append_assoc] at hx
      rcases List.mem_append.1 hx with hx | hx
      · exact (h.prp n hn ha.dec x hx).1
      · rw [List.mem_singleton] at hx
        subst hx
        exact fun hcl => (hcl p ha.mem).2 ((ha.free hok.mks ha.mem).2 ha.high)
    · exact ⟨cl, by simp, p, ha.unit hok.mks l2⟩
theorem go_bnd (h : Bnd many c s) (hok : satOk many c s) (h0 : s.code = 0) (hcm : c.many = many) : Bnd many c (goM many c s) := by
  have hml := hok.mks.len
  unfold goM
  rcases find_cases s.put (c.list ++ s.learned) with ⟨i, u, x, hi, e, hc⟩ | ⟨hn, ⟨i, x, hi, e, hu, -⟩ | ⟨e, hnu⟩⟩
  · rw [e]
    simp only [Int.natCast_nonneg, if_true, Int.toNat_natCast]
    rw [List.length_append] at hi
    exact clash_bnd h hok h0 hcm hi hc
  · rw [e]
    rw [List.length_append] at hi
    simp only [Int.natCast_nonneg, if_true, show ¬ (0 : Int) ≤ -1 by omega, if_false]
    obtain ⟨hx, hf⟩ := unit_mem hu
    have hb := hok.lit hcm hi hx
    have hm2 := (hok.mks.snoc hb.1 hb.2 hf).len
    rw [List.length_append, List.length_singleton] at hm2
    exact push_bnd h hok h0 (by omega) fun e => by omega
  · rw [e]
    simp only [show ¬ (0 : Int) ≤ -1 by omega, if_false]
    split
    · exact ⟨h.prp, h.cnt, fun e => by simp at e⟩
    · exact push_bnd h hok h0 (by omega) fun _ cl hcl => ⟨hn cl hcl, hnu cl hcl⟩
theorem step_bnd (h : Bnd many c s) (hok : satOk many c s) (hcm : c.many = many) : Bnd many c (stepM many c s) := by
  unfold stepM
  split
  · exact go_bnd h hok (by assumption) hcm
  · exact h
theorem run_bnd (hcm : c.many = many) : ∀ {n : Nat} {s : Sat}, Bnd many c s → satOk many c s → Bnd many c (runM many c n s)
  | 0, _, h, _ => h
  | n + 1, _, h, hok => run_bnd hcm (n := n) (step_bnd h hok hcm) (step_ok hok hcm)
theorem empty_bnd : Bnd many c emptyS := ⟨by simp [emptyS], .inl (by simp [emptyS]), by simp [emptyS]⟩
/-- A step of a search that goes on uses something up. -/
theorem step_pot (hok : satOk many c s) (hcm : c.many = many) (h1 : (stepM many c s).code = 0) : s.learned.length * (many + 1) + s.put.length < (stepM many c s).learned.length * (many + 1) + (stepM many c s).put.length := by
  have hml := hok.mks.len
  unfold stepM at *
  split at h1
  · rename_i h0
    rw [if_pos h0]
    unfold goM at *
    split
    rename_i k u x hf
    simp only [hf] at h1
    split
    · rename_i hk
      rw [if_pos hk] at h1
      unfold clashM at *
      split
      · rename_i ht; rw [if_pos ht] at h1; simp at h1
      · rename_i ht
        rw [if_neg ht] at h1
        split
        · rename_i hm; rw [if_pos hm] at h1; simp at h1
        · simp only [List.length_append, List.length_singleton, Nat.add_mul, Nat.one_mul]
          omega
    · rename_i hk
      rw [if_neg hk] at h1
      split
      · simp
      · rename_i hu
        rw [if_neg hu] at h1
        split
        · rename_i hl; rw [if_pos hl] at h1; simp at h1
        · simp
  · rename_i h0; exact absurd h1 h0
theorem run_pot (hcm : c.many = many) (hc : cnfOk c = true) : ∀ {n : Nat}, (runM many c n emptyS).code = 0 → n ≤ (runM many c n emptyS).learned.length * (many + 1) + (runM many c n emptyS).put.length
  | 0, _ => by omega
  | n + 1, h => by
    rw [run_succ] at h ⊢
    have h0 : (runM many c n emptyS).code = 0 := Classical.byContradiction fun hne => by rw [step_stop hne] at h; exact hne h
    have ih := run_pot hcm hc h0
    have := step_pot (run_ok hcm (empty_ok hc)) hcm h
    omega
theorem run_ends (hcm : c.many = many) (hc : cnfOk c = true) (h10 : many ≤ 10) {n : Nat} (hn : 4000 ≤ n) : (runM many c n emptyS).code ≠ 0 := fun h => by
  have h1 := run_pot hcm hc h
  have hok : satOk many c (runM many c n emptyS) := run_ok hcm (empty_ok hc)
  have h2 := hok.few
  have h3 := hok.mks.len
  have h4 : (runM many c n emptyS).learned.length * (many + 1) ≤ 300 * 11 := Nat.mul_le_mul h2 (by omega)
  omega
end Go.M
/- The plain law of trying ways in order. No program in sight. -/
namespace Go.M
variable {many : Nat} {c : Cnf} {a b v : Nat → Bool}
def wayB (bs : List Bool) (u : Nat) : Bool := bs.getD (u - 1) false
def clB (v : Nat → Bool) (cl : List Int) : Bool := (List.range cl.length).any fun i => litT v (cl.getD i 0)
def cnfB (v : Nat → Bool) (L : List (List Int)) : Bool := !((List.range L.length).any fun i => !clB v (L.getD i []))
theorem clB_iff {cl : List Int} : clB v cl = true ↔ clT v cl := by
  unfold clB clT
  simp only [List.any_eq_true, List.mem_range]
  constructor
  · rintro ⟨i, hi, h⟩; exact ⟨_, getD_mem hi, h⟩
  · rintro ⟨l, hl, h⟩
    obtain ⟨i, hi, rfl⟩ := List.getElem_of_mem hl
    exact ⟨i, hi, by rwa [List.getD_eq_getElem?_getD, List.getElem?_eq_getElem hi]⟩
theorem cnfB_iff : cnfB v c.list = true ↔ cnfT v c := by
  unfold cnfB cnfT
  rw [Bool.not_eq_true', List.any_eq_false]
  constructor
  · intro h cl hcl
    obtain ⟨i, hi, rfl⟩ := List.getElem_of_mem hcl
    have := h i (List.mem_range.2 hi)
    rw [List.getD_eq_getElem?_getD, List.getElem?_eq_getElem hi] at this
    exact clB_iff.1 (by simpa using this)
  · intro h i hi
    rw [List.mem_range] at hi
    have := clB_iff.2 (h (c.list.getD i []) (by rw [List.getD_eq_getElem?_getD, List.getElem?_eq_getElem hi]; exact List.getElem_mem hi))
    simp only [this, Bool.not_true, Bool.false_eq_true, not_false_iff]
theorem first_diff (h : ¬ ∀ u, 1 ≤ u → u ≤ many → a u = v u) : ∃ e, 1 ≤ e ∧ e ≤ many ∧ a e ≠ v e ∧ ∀ u, 1 ≤ u → u < e → a u = v u := by
  have : ∃ u, 1 ≤ u ∧ u ≤ many ∧ a u ≠ v u := Classical.byContradiction fun hn => h fun u h1 h2 => Classical.byContradiction fun h3 => hn ⟨u, h1, h2, h3⟩
  obtain ⟨u, hu⟩ := this
  induction u using Nat.strongRecOn with
  | ind u ih =>
    by_cases hx : ∃ i, i < u ∧ 1 ≤ i ∧ i ≤ many ∧ a i ≠ v i
    · obtain ⟨i, hi, h2⟩ := hx
      exact ih i hi h2
    · exact ⟨u, hu.1, hu.2.1, hu.2.2, fun i h1 h2 => Classical.byContradiction fun h3 => hx ⟨i, h2, h1, by omega, h3⟩⟩
theorem lexLe_tail {d : Nat} (ha : ∀ u, 1 ≤ u → u ≤ d → a u = v u) (hf : ∀ u, d < u → u ≤ many → a u = false) : LexLe many a v := by
  by_cases h : ∀ u, 1 ≤ u → u ≤ many → a u = v u
  · exact .inl h
  · obtain ⟨e, e1, e2, e3, e4⟩ := first_diff h
    have hd : d < e := Nat.lt_of_not_le fun hle => e3 (ha e e1 hle)
    have := hf e hd e2
    refine .inr ⟨e, e1, e2, this, ?_, e4⟩
    rw [this] at e3
    simpa using e3.symm
theorem lex_next {d : Nat} (h : LexLe many a v) (hne : ¬ ∀ u, 1 ≤ u → u ≤ many → a u = v u) (hd : d ≤ many) (had : a d = false) (hat : ∀ u, d < u → u ≤ many → a u = true)
    (hb : ∀ u, 1 ≤ u → u < d → b u = a u) (hbd : b d = true) (hbt : ∀ u, d < u → u ≤ many → b u = false) : LexLe many b v := by
  rcases h with h | ⟨e, e1, e2, e3, e4, e5⟩
  · exact absurd h hne
  have hed : e ≤ d := Nat.le_of_not_lt fun hlt => by have := hat e hlt e2; rw [e3] at this; cases this
  by_cases e6 : e = d
  · subst e6
    refine lexLe_tail (d := e) (fun u h1 h2 => ?_) hbt
    by_cases h3 : u = e
    · subst h3; rw [hbd, e4]
    · rw [hb u h1 (by omega)]; exact e5 u h1 (by omega)
  · exact .inr ⟨e, e1, e2, by rw [hb e e1 (by omega)]; exact e3, e4, fun u h1 h2 => by rw [hb u h1 (by omega)]; exact e5 u h1 h2⟩
/-- Ways that are alike on the marks there are. -/
theorem cnfT_congr (hok : cnfOk c = true) (hcm : c.many = many) (h : ∀ u, 1 ≤ u → u ≤ many → a u = v u) (ha : cnfT a c) : cnfT v c := fun cl hcl => by
  obtain ⟨l, hl, ht⟩ := ha cl hcl
  have hb := clauseOk_lit (cnfOk_clause hok hcl) hl
  refine ⟨l, hl, ?_⟩
  have e := h l.natAbs (by omega) (by omega)
  unfold litT at ht ⊢
  rwa [← e]
def marks (bs : List Bool) : List Int := bs.map fun b => if b then 0 else -1
/-- What is turned when a way is counted up. -/
def nextB (bs : List Bool) (d : Nat) : List Bool := bs.take d ++ true :: List.replicate (bs.length - d - 1) false
theorem nextB_len {bs : List Bool} {d : Nat} (h : d < bs.length) : (nextB bs d).length = bs.length := by simp [nextB]; omega
theorem nextB_low {bs : List Bool} {d j : Nat} (h : d < bs.length) (hj : j < d) : (nextB bs d).getD j false = bs.getD j false := by
  unfold nextB
  rw [getD_app_l (by simp; omega)]
  simp [List.getD_eq_getElem?_getD, List.getElem?_take, hj]
theorem nextB_at {bs : List Bool} {d : Nat} (h : d < bs.length) : (nextB bs d).getD d false = true := by
  unfold nextB
  have := getD_app_r (a := bs.take d) (b := true :: List.replicate (bs.length - d - 1) false) (d := false) (j := 0)
  rw [show (bs.take d).length + 0 = d by simp; omega] at this
  rw [this]; rfl
theorem nextB_high {bs : List Bool} {d j : Nat} (h : d < bs.length) (hj : d < j) : (nextB bs d).getD j false = false := by
  unfold nextB
  have := getD_app_r (a := bs.take d) (b := true :: List.replicate (bs.length - d - 1) false) (d := false) (j := j - d)
  rw [show (bs.take d).length + (j - d) = j by simp; omega] at this
  rw [this, show j - d = (j - d - 1) + 1 by omega]
  simp only [List.getD_eq_getElem?_getD, List.getElem?_cons_succ, List.getElem?_replicate]
  split <;> rfl
theorem nextB_rank {bs : List Bool} {d : Nat} (h : d < bs.length) (hd : bs.getD d false = false) : rank bs.length (marks bs) < rank bs.length (marks (nextB bs d)) := by
  have hl : (marks bs).length = bs.length := by simp [marks]
  have h1 := rank_cut (n := bs.length) (k := d) (a := marks bs) (by omega) (by omega) (by
    simp only [marks, List.getD_eq_getElem?_getD, List.getElem?_map, List.getElem?_eq_getElem h] at hd ⊢
    simp at hd ⊢
    simp [hd])
  have e : marks (nextB bs d) = (marks bs).take d ++ (0 : Int) :: marks (List.replicate (bs.length - d - 1) false) := by
    simp [marks, nextB]
  rw [e, rank_app (by simp; omega), show ((marks bs).take d).length = d by simp [hl]; omega]
  obtain ⟨m, hm⟩ : ∃ m, bs.length - d = m + 1 := ⟨bs.length - d - 1, by omega⟩
  rw [hm] at h1 ⊢
  simp only [rank, Nat.add_sub_cancel] at h1 ⊢
  rw [if_neg (by omega)]
  omega
theorem lex_nextB {bs : List Bool} {d : Nat} (hl : bs.length = many) (h : LexLe many (wayB bs) v) (hne : ¬ ∀ u, 1 ≤ u → u ≤ many → wayB bs u = v u) (hlt : d < bs.length) (hd : bs.getD d false = false) (ht : ∀ j, d < j → j < bs.length → bs.getD j false = true) : LexLe many (wayB (nextB bs d)) v := by
  refine lex_next (d := d + 1) h hne (by omega) hd (fun u h1 h2 => ht (u - 1) (by omega) (by omega)) (fun u h1 h2 => nextB_low hlt (by omega)) (nextB_at hlt) fun u h1 h2 => nextB_high hlt (by omega)
theorem lexLe_true (h : LexLe many a v) (ha : ∀ u, 1 ≤ u → u ≤ many → a u = true) : ∀ u, 1 ≤ u → u ≤ many → a u = v u := by
  rcases h with h | ⟨e, e1, e2, e3, _⟩
  · exact h
  · rw [ha e e1 e2] at e3; cases e3
theorem wayB_inj {x y : List Bool} (hx : x.length = many) (hy : y.length = many) (h : ∀ u, 1 ≤ u → u ≤ many → wayB x u = wayB y u) : x = y := by
  refine List.ext_getElem (by omega) fun i h1 h2 => ?_
  have := h (i + 1) (by omega) (by omega)
  simpa [wayB, List.getD_eq_getElem?_getD, h1, h2] using this
end Go.M
