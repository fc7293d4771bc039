/- The plain law of a search: what it learns follows, what it finds is the least way, and that there is none is told rightly. No program in sight. -/
import Derived.Test.YtpihgpfebhegmaaM8
namespace Go.M

/-- A literal is so in a way; a clause has one; all clauses have one. -/
def litT (v : Nat → Bool) (l : Int) : Bool := if 0 < l then v l.natAbs else !v l.natAbs
def clT (v : Nat → Bool) (cl : List Int) : Prop := ∃ l, l ∈ cl ∧ litT v l = true
def cnfT (v : Nat → Bool) (c : Cnf) : Prop := ∀ cl, cl ∈ c.list → clT v cl
def Flw (c : Cnf) (cl : List Int) : Prop := ∀ v, cnfT v c → clT v cl
theorem litT_neg {v : Nat → Bool} {l : Int} (h : l ≠ 0) : litT v (-l) = !litT v l := by
  unfold litT
  rw [Int.natAbs_neg]
  by_cases h1 : 0 < l
  · rw [if_neg (by omega), if_pos h1]
  · rw [if_pos (by omega), if_neg h1, Bool.not_not]
/-- What a search is at any time. -/
structure FairS (many : Nat) (c : Cnf) (s : Sat) : Prop where
  ok : satOk many c s
  flw : ∀ cl, cl ∈ s.learned → Flw c cl
  dec : ∀ k, k < s.put.length → s.why.getD k 0 = -1 → s.put.getD k 0 < 0 ∧ ∀ u, 1 ≤ u → u < (s.put.getD k 0).natAbs → ∃ l, l ∈ s.put.take k ∧ l.natAbs = u
  yes : s.code = 1 → s.put.length = many ∧ ∀ cl, cl ∈ c.list → ¬ clashC s.put cl
  no : s.code = 2 → ∀ v, ¬ cnfT v c
variable {many : Nat} {c : Cnf} {s : Sat} {v : Nat → Bool}
theorem FairS.flwAt (h : FairS many c s) {k : Nat} (hk : k < c.list.length + s.learned.length) : Flw c (atM c s k) :=
  (List.mem_append.1 (atM_mem hk)).elim (fun hm v hv => hv _ hm) (h.flw _)
/-- What is put for a reason is so wherever the decisions before it are. -/
theorem FairS.trail (h : FairS many c s) (hv : cnfT v c) (j : Nat) : j < s.put.length → (∀ i, i ≤ j → s.why.getD i 0 = -1 → litT v (s.put.getD i 0) = true) → litT v (s.put.getD j 0) = true := by
  induction j using Nat.strongRecOn with
  | ind j ih =>
    intro hj hd
    have hlen := h.ok.len
    rcases h.ok.why j (by omega) with e | ⟨a, b, e⟩
    · exact hd j (Nat.le_refl _) e
    obtain ⟨l, hl, ht⟩ := h.flwAt (k := (s.why.getD j 0).toNat) (by omega) v hv
    obtain ⟨h1, h2⟩ := (impl_iff h.ok.mks).1 e
    by_cases hne : l = s.put.getD j 0
    · rw [← hne]; exact ht
    · have h3 := h2 l hl hne
      obtain ⟨i, hi, hil⟩ := List.getElem_of_mem h3
      simp only [List.length_take] at hi
      rw [List.getElem_take] at hil
      have h4 := ih i (by omega) (by omega) fun q hq => hd q (by omega)
      rw [List.getD_eq_getElem?_getD, List.getElem?_eq_getElem (by omega), Option.getD_some, hil] at h4
      have h0 : l ≠ 0 := fun e0 => h.ok.mks.zero (by rw [e0] at h3; exact List.mem_of_mem_take h3)
      rw [litT_neg h0, ht] at h4
      cases h4
theorem joinM_flw {many : Nat} {c : Cnf} {s : Sat} (h : FairS many c s) (hcm : c.many = many) {cl : List Int} (hF : Fls s.put cl) (hs : Srt cl) (h2 : 2 ≤ (tops s.put (decs s.why) cl).length) (hc : Flw c cl) : Flw c (learnS many c s cl) := by
  intro v hv
  have ht := topOf_tops (put := s.put) (ds := decs s.why) (srt_nodup hs)
  have hne : cl ≠ [] := fun e => by subst e; simp [tops] at h2
  have hp := lastPl_pos hF hne
  obtain ⟨k, hk⟩ : ∃ k, lastPl s.put cl = k + 1 := ⟨lastPl s.put cl - 1, by omega⟩
  obtain ⟨hm, -⟩ := learn_join h.ok hcm hF ht h2 hk
  obtain ⟨a1, a2, a3, a4, -⟩ := last_reason h.ok hF ht h2 hk
  have e : learnS many c s cl = joinM many cl (atM c s (s.why.getD k 0).toNat) (s.put.getD k 0).natAbs := by unfold learnS; rw [hk]; rfl
  rw [e]
  obtain ⟨l, hl, htl⟩ := hc v hv
  obtain ⟨r, hr, htr⟩ := h.flwAt (k := (s.why.getD k 0).toNat) (by omega) v hv
  have h0 : s.put.getD k 0 ≠ 0 := (h.ok.mks.2 _ (getD_mem a1)).1
  by_cases hl2 : l = -(s.put.getD k 0)
  · refine ⟨r, (hm r).2 (.inr ⟨hr, fun e => ?_⟩), htr⟩
    rw [hl2, litT_neg h0, ← e, htr] at htl
    cases htl
  · exact ⟨l, (hm l).2 (.inl ⟨hl, hl2⟩), htl⟩
theorem learnM_flw (h : FairS many c s) (hcm : c.many = many) : ∀ {f : Nat} {cl : List Int}, Fls s.put cl → Srt cl → Flw c cl → Flw c (learnM many c s f cl)
  | 0, cl, _, _, hc => hc
  | f + 1, cl, hF, hs, hc => by
    unfold learnM
    by_cases h1 : (tops s.put (decs s.why) cl).length ≤ 1
    · rw [if_pos h1]; exact hc
    · rw [if_neg h1]
      obtain ⟨a1, a2, a3, a4⟩ := learnS_ok h.ok hcm hF hs (by omega)
      exact learnM_flw h hcm a1 a2 (joinM_flw h hcm hF hs (by omega) hc)
theorem lvl_zero {ds : List Bool} {i j : Nat} (h : lvl ds i = 0) (hj : j ≤ i) (hd : j < ds.length) : ds.getD j false = false := by
  unfold lvl at h
  rw [List.count_eq_zero] at h
  cases e : ds.getD j false with
  | false => rfl
  | true =>
    refine absurd ?_ h
    rw [List.getD_eq_getElem?_getD, List.getElem?_eq_getElem hd, Option.getD_some] at e
    have : (ds.take (i + 1))[j]'(by simp; omega) = true := by rw [List.getElem_take]; exact e
    rw [← this]; exact List.getElem_mem _
/-- A clash that stands on no decision: there is no way. -/
theorem clash_none (h : FairS many c s) {k : Nat} (hk : k < c.list.length + s.learned.length) (hc : clashC s.put (atM c s k)) (ht : topL s.put (decs s.why) (atM c s k) = 0) : ¬ cnfT v c := by
  intro hv
  obtain ⟨l, hl, hlt⟩ := h.flwAt hk v hv
  have h1 := clash_fls hc l hl
  have hp := placeOf_ne_zero h1
  have hp2 := (mem_iff_place h.ok.mks.1).1 h1
  have hle := placeOf_le s.put (-l).natAbs
  have hlv : lvM s.put (decs s.why) l ≤ topL s.put (decs s.why) (atM c s k) := le_maxL (List.mem_map_of_mem hl)
  unfold lvM at hlv
  have hlen := h.ok.len
  rw [Int.natAbs_neg] at hp hp2 hle
  have h2 := h.trail hv (placeOf s.put l.natAbs - 1) (by omega) fun i hi hw => by
    have := lvl_zero (ds := decs s.why) (i := placeOf s.put l.natAbs - 1) (j := i) (by omega) hi (by rw [decs_len]; omega)
    rw [decs_get (by omega), hw] at this
    cases this
  rw [hp2.2] at h2
  have h0 : l ≠ 0 := fun e0 => h.ok.mks.zero (by rw [e0] at h1; exact h1)
  rw [litT_neg h0, hlt] at h2
  cases h2
theorem getD_snoc_l {α : Type} {a : List α} {x d : α} {k : Nat} (h : k < a.length) : (a ++ [x]).getD k d = a.getD k d := getD_app_l h
theorem push_fair (h : FairS many c s) (h0 : s.code = 0) {l y : Int} (hok : satOk many c { s with put := s.put ++ [l], why := s.why ++ [y] }) (hy : y = -1 → l < 0 ∧ ∀ u, 1 ≤ u → u < l.natAbs → ∃ q, q ∈ s.put ∧ q.natAbs = u) : FairS many c { s with put := s.put ++ [l], why := s.why ++ [y] } := by
  have hlen := h.ok.len
  refine ⟨hok, h.flw, fun k hk hw => ?_, fun e => ?_, fun e => ?_⟩
  · simp only [List.length_append, List.length_singleton] at hk
    by_cases hkl : k < s.put.length
    · simp only [getD_snoc_l hkl, List.take_append_of_le_length (Nat.le_of_lt hkl)] at hw ⊢
      rw [getD_snoc_l (by omega)] at hw
      exact h.dec k hkl hw
    · have e : k = s.put.length := by omega
      subst e
      have e1 : (s.put ++ [l]).getD s.put.length 0 = l := by simp
      have e2 : (s.why ++ [y]).getD s.put.length 0 = y := by rw [hlen]; simp
      simp only [e1, e2, List.take_append_of_le_length (Nat.le_refl _), List.take_length] at hw ⊢
      exact hy hw
  · simp only at e; omega
  · simp only at e; omega
theorem clash_fair (h : FairS many c s) (h0 : s.code = 0) (hcm : c.many = many) {k : Nat} (hk : k < c.list.length + s.learned.length) (hc : clashC s.put (atM c s k)) : FairS many c (clashM many c s (atM c s k)) := by
  have hok := clash_ok h.ok hcm hk hc
  have hlen := h.ok.len
  unfold clashM at hok ⊢
  split
  · rename_i ht
    rw [if_pos ht] at hok
    exact ⟨hok, h.flw, h.dec, fun e => by simp at e, fun _ v => clash_none h hk hc ht⟩
  rename_i ht
  rw [if_neg ht] at hok
  split
  · rename_i hm
    rw [if_pos hm] at hok
    exact ⟨hok, h.flw, h.dec, fun e => by simp at e, fun e => by simp at e⟩
  · rename_i hm
    rw [if_neg hm] at hok
    have hf : Flw c (learnM many c s s.put.length (atM c s k)) := learnM_flw h hcm (clash_fls hc) (clauseOk_srt (h.ok.atOk hk)) (h.flwAt hk)
    generalize learnM many c s s.put.length (atM c s k) = cl at *
    generalize backN (decs s.why) (belowM s.put (decs s.why) cl) s.put.length = n at *
    refine ⟨hok, fun x hx => ?_, fun j hj hw => ?_, fun e => ?_, fun e => ?_⟩
    · rcases List.mem_append.1 hx with hx | hx
      · exact h.flw x hx
      · rw [List.mem_singleton] at hx; subst hx; exact hf
    · simp only [List.length_take] at hj
      simp only [getD_take (show j < n by omega), List.take_take, Nat.min_eq_left (show j ≤ n by omega)] at hw ⊢
      exact h.dec j (by omega) hw
    · simp only at e; omega
    · simp only at e; omega
theorem go_fair (h : FairS many c s) (h0 : s.code = 0) (hcm : c.many = many) : FairS many c (goM many c s) := by
  have hok := go_ok h.ok hcm
  unfold goM at hok ⊢
  rcases find_cases s.put (c.list ++ s.learned) with ⟨i, u, x, hi, e, hc⟩ | ⟨hn, ⟨i, x, hi, e, hu, -⟩ | ⟨e, -⟩⟩
  · rw [e] at hok ⊢
    simp only [Int.natCast_nonneg, if_true, Int.toNat_natCast]
    rw [List.length_append] at hi
    exact clash_fair h h0 hcm hi hc
  · rw [e] at hok ⊢
    simp only [Int.natCast_nonneg, if_true, show ¬ (0 : Int) ≤ -1 by omega, if_false] at hok ⊢
    exact push_fair h h0 hok fun e => by omega
  · rw [e] at hok ⊢
    simp only [show ¬ (0 : Int) ≤ -1 by omega, if_false] at hok ⊢
    split
    · rename_i hl
      rw [if_pos hl] at hok
      exact ⟨hok, h.flw, h.dec, fun _ => ⟨hl, fun cl hcl => hn cl (List.mem_append_left _ hcl)⟩, fun e => by simp at e⟩
    · rename_i hl
      rw [if_neg hl] at hok
      obtain ⟨a, b, d, f⟩ := free_spec h.ok.mks hl
      refine push_fair h h0 hok fun _ => ⟨by omega, fun u h1 h2 => ?_⟩
      have h3 := f u h1 (by omega)
      obtain ⟨h4, h5⟩ := placeOf_pos h3
      exact ⟨_, getD_mem (show placeOf s.put u - 1 < s.put.length by omega), h5⟩
theorem step_fair (h : FairS many c s) (hcm : c.many = many) : FairS many c (stepM many c s) := by
  unfold stepM
  split
  · exact go_fair h (by assumption) hcm
  · exact h
theorem run_fair (hcm : c.many = many) : ∀ {n : Nat} {s : Sat}, FairS many c s → FairS many c (runM many c n s)
  | 0, _, h => h
  | n + 1, _, h => run_fair hcm (n := n) (step_fair h hcm)
theorem empty_fair (h : cnfOk c = true) : FairS many c emptyS := ⟨empty_ok h, by simp [emptyS], by simp [emptyS], by simp [emptyS], by simp [emptyS]⟩
/-! ### What is found is the least way -/
/-- A way comes no later than another. -/
def LexLe (many : Nat) (a b : Nat → Bool) : Prop := (∀ u, 1 ≤ u → u ≤ many → a u = b u) ∨ ∃ d, 1 ≤ d ∧ d ≤ many ∧ a d = false ∧ b d = true ∧ ∀ u, 1 ≤ u → u < d → a u = b u
theorem LexLe.antisymm {a b : Nat → Bool} (h1 : LexLe many a b) (h2 : LexLe many b a) : ∀ u, 1 ≤ u → u ≤ many → a u = b u := by
  rcases h1 with h1 | ⟨d, d1, d2, d3, d4, d5⟩
  · exact h1
  rcases h2 with h2 | ⟨e, e1, e2, e3, e4, e5⟩
  · exact fun u hu hm => (h2 u hu hm).symm
  exfalso
  rcases Nat.lt_trichotomy d e with h | h | h
  · have := e5 d d1 h; rw [d3, d4] at this; cases this
  · subst h; rw [d3] at e4; cases e4
  · have := d5 e e1 h; rw [e3, e4] at this; cases this
def wayM (put : List Int) (u : Nat) : Bool := decide ((u : Int) ∈ put)
theorem wayM_true {put : List Int} (h : marksOk many put) {l : Int} (hl : l ∈ put) : litT (wayM put) l = true := by
  unfold litT wayM
  have h0 := (h.2 l hl).1
  by_cases h1 : 0 < l
  · rw [if_pos h1, show ((l.natAbs : Nat) : Int) = l by omega]; simpa using hl
  · rw [if_neg h1, show ((l.natAbs : Nat) : Int) = -l by omega]
    have := h.neg hl
    simpa using this
theorem litT_eq {a b : Nat → Bool} {l : Int} (ha : litT a l = true) (hb : litT b l = true) : a l.natAbs = b l.natAbs := by
  unfold litT at ha hb
  by_cases h1 : 0 < l
  · rw [if_pos h1] at ha hb; rw [ha, hb]
  · rw [if_neg h1] at ha hb
    cases h2 : a l.natAbs <;> cases h3 : b l.natAbs <;> simp_all
theorem full {put : List Int} (h : marksOk many put) (hl : put.length = many) {u : Nat} (h1 : 1 ≤ u) (h2 : u ≤ many) : placeOf put u ≠ 0 := by
  intro e
  have : (u :: put.map Int.natAbs).length ≤ (List.range' 1 many).length := by
    refine List.Nodup.length_le_of_subset ?_ fun x hx => ?_
    · rw [List.nodup_cons]
      refine ⟨fun hm => ?_, h.1⟩
      obtain ⟨l, hl, rfl⟩ := List.mem_map.1 hm
      exact placeOf_ne_zero hl e
    · rw [List.mem_range'_1]
      rcases List.mem_cons.1 hx with rfl | hx
      · omega
      · obtain ⟨l, hl, rfl⟩ := List.mem_map.1 hx
        have := h.2 l hl; omega
  simp at this
  omega
theorem FairS.full (h : FairS many c s) (h1 : s.code = 1) {u : Nat} (a : 1 ≤ u) (b : u ≤ many) : ∃ l, l ∈ s.put ∧ l.natAbs = u := by
  obtain ⟨h2, h3⟩ := placeOf_pos (Go.M.full h.ok.mks (h.yes h1).1 a b)
  have := Go.M.full h.ok.mks (h.yes h1).1 a b
  exact ⟨_, getD_mem (show placeOf s.put u - 1 < s.put.length by omega), h3⟩
/-- The least way. -/
def Least (many : Nat) (c : Cnf) (a : Nat → Bool) : Prop := cnfT a c ∧ ∀ v, cnfT v c → LexLe many a v
theorem FairS.model (h : FairS many c s) (hcm : c.many = many) (h1 : s.code = 1) : cnfT (wayM s.put) c := fun cl hcl => by
  have h2 := (h.yes h1).2 cl hcl
  unfold clashC at h2
  simp only [Classical.not_forall, Classical.not_imp] at h2
  obtain ⟨l, hl, h3⟩ := h2
  have hb := clauseOk_lit (cnfOk_clause h.ok.cnf hcl) hl
  have h4 := Go.M.full h.ok.mks (h.yes h1).1 (u := l.natAbs) (by omega) (by omega)
  refine ⟨l, hl, wayM_true h.ok.mks ?_⟩
  exact Classical.byContradiction fun hn => h3 ⟨hn, h4⟩
theorem FairS.least (h : FairS many c s) (hcm : c.many = many) (h1 : s.code = 1) : Least many c (wayM s.put) := by
  refine ⟨h.model hcm h1, fun v hv => ?_⟩
  by_cases hall : ∀ j, j < s.put.length → litT v (s.put.getD j 0) = true
  · refine .inl fun u a b => ?_
    obtain ⟨l, hl, rfl⟩ := h.full h1 a b
    refine litT_eq (wayM_true h.ok.mks hl) ?_
    obtain ⟨j, hj, rfl⟩ := List.getElem_of_mem hl
    have := hall j hj
    rwa [List.getD_eq_getElem?_getD, List.getElem?_eq_getElem hj, Option.getD_some] at this
  · obtain ⟨j, ⟨hj, hf⟩, hmin⟩ : ∃ j, (j < s.put.length ∧ litT v (s.put.getD j 0) = false) ∧ ∀ i, i < j → litT v (s.put.getD i 0) = true := by
      have : ∃ j, j < s.put.length ∧ litT v (s.put.getD j 0) = false := by
        simp only [Classical.not_forall] at hall
        obtain ⟨j, hj, h2⟩ := hall
        exact ⟨j, hj, by simpa using h2⟩
      obtain ⟨j, hj⟩ := this
      induction j using Nat.strongRecOn with
      | ind j ih =>
        by_cases hx : ∃ i, i < j ∧ litT v (s.put.getD i 0) = false
        · obtain ⟨i, hi, h2⟩ := hx
          exact ih i hi ⟨by omega, h2⟩
        · exact ⟨j, hj, fun i hi => by
            cases e : litT v (s.put.getD i 0) with
            | true => rfl
            | false => exact absurd ⟨i, hi, e⟩ hx⟩
    have hw : s.why.getD j 0 = -1 := by
      refine Classical.byContradiction fun hne => ?_
      have := h.trail hv j hj fun i hi hw => by
        by_cases e : i = j
        · subst e; exact absurd hw hne
        · exact hmin i (by omega)
      rw [hf] at this; cases this
    obtain ⟨d1, d2⟩ := h.dec j hj hw
    have hm := getD_mem (put := s.put) hj
    have hb := h.ok.mks.2 _ hm
    have hwy := wayM_true h.ok.mks hm
    generalize s.put.getD j 0 = p at *
    refine .inr ⟨p.natAbs, by omega, hb.2, ?_, ?_, fun u a b => ?_⟩
    · unfold litT at hwy
      rw [if_neg (by omega)] at hwy
      simpa using hwy
    · unfold litT at hf
      rw [if_neg (by omega)] at hf
      simpa using hf
    · obtain ⟨l, hl, rfl⟩ := d2 u a b
      refine litT_eq (wayM_true h.ok.mks (List.mem_of_mem_take hl)) ?_
      obtain ⟨i, hi, rfl⟩ := List.getElem_of_mem hl
      simp only [List.length_take] at hi
      have := hmin i (by omega)
      rw [List.getElem_take]
      rwa [List.getD_eq_getElem?_getD, List.getElem?_eq_getElem (by omega), Option.getD_some] at this
end Go.M
