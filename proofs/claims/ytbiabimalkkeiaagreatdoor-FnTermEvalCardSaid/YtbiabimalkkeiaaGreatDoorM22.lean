/- The plain mathematics of terms: sorts and values, kind by kind. No program in sight. -/
import Derived.Test.YtbiabimalkkeiaaGreatDoorM21
set_option linter.unusedVariables false
set_option linter.unusedSimpArgs false
set_option linter.unnecessarySimpa false
set_option linter.unusedSectionVars false
namespace Go.M
open Go.Vc

/-- The sort of a term of one, of this sort. -/
def oneM (t : Tm) (a : Int) : Int :=
  if t.op = 25 then (if a = 0 then 0 else -1) else if a < 1 then -1
  else if t.op = 22 then (if 0 ≤ t.b ∧ t.b ≤ t.a ∧ t.a < a then t.a - t.b + 1 else -1) else a
/-- The sort of a term of two, of these sorts. -/
def bothM (o a b : Int) : Int :=
  if o = 26 ∨ o = 27 then (if a = 0 ∧ b = 0 then 0 else -1)
  else if a < 1 ∨ b < 1 then -1
  else if o = 14 then (if a + b ≤ 4 then a + b else -1)
  else if a ≠ b then -1 else if 15 ≤ o then 0 else a

section
variable {ds : List Dcl} {env : List Int} {t : Tm}
/-- A kid of a term. -/
def kid (t : Tm) (i : Nat) : Tm := t.ks.getD i default

theorem formed_iff : formed t = true ↔ arity t.op = t.ks.length ∧ plainM t = true := by simp [formed]
theorem arity_one {o : Int} (h : arity o = 1) : o = 1 ∨ o = 2 ∨ o = 22 ∨ o = 25 := by
  unfold arity at h
  repeat' split at h
  all_goals omega
theorem arity_two {o : Int} (h : arity o = 2) : (3 ≤ o ∧ o ≤ 17) ∨ o = 26 ∨ o = 27 := by
  unfold arity at h
  repeat' split at h
  all_goals omega
theorem arity_three {o : Int} (h : arity o = 3) : o = 23 := by
  unfold arity at h
  repeat' split at h
  all_goals omega
theorem arity_zero {o : Int} (h : arity o = 0) : o = 20 ∨ o = 21 ∨ o = 24 := by
  unfold arity at h
  repeat' split at h
  all_goals omega
theorem ks1 (h : t.ks.length = 1) : t.ks = [kid t 0] := by
  unfold kid
  generalize t.ks = ks at h ⊢
  match ks, h with
  | [x], _ => rfl
theorem ks2 (h : t.ks.length = 2) : t.ks = [kid t 0, kid t 1] := by
  unfold kid
  generalize t.ks = ks at h ⊢
  match ks, h with
  | [x, y], _ => rfl
theorem ks3 (h : t.ks.length = 3) : t.ks = [kid t 0, kid t 1, kid t 2] := by
  unfold kid
  generalize t.ks = ks at h ⊢
  match ks, h with
  | [x, y, z], _ => rfl
theorem kid_mem {i : Nat} (h : i < t.ks.length) : kid t i ∈ t.ks := getD_mem h _

theorem sort_bad (h : ¬ formed t = true) : sortM ds t = -1 := by
  rw [sortM_eq]; unfold sortF; rw [if_neg (fun x => h x.1)]
theorem sort_leaf (hf : formed t = true) (h : t.ks.length = 0) : sortM ds t = sortK ds t [] := by
  have : t.ks = [] := List.eq_nil_of_length_eq_zero h
  rw [sortM_eq, this]; unfold sortF
  rw [if_pos ⟨hf, by simp⟩]
  rfl
theorem sort_one (hd : declOk ds = true) (hf : formed t = true) (h : t.ks.length = 1) : sortM ds t = oneM t (sortM ds (kid t 0)) := by
  have ha := arity_one (o := t.op) (by have := (formed_iff.1 hf).1; omega)
  have hr := sort_range hd (kid t 0)
  rw [sortM_eq, ks1 h]
  unfold sortF
  simp only [List.map_cons, List.map_nil, List.mem_singleton]
  generalize sortM ds (kid t 0) = s at hr ⊢
  unfold oneM
  by_cases hs : s = -1
  · subst hs
    rw [if_neg (by simp)]
    split
    · split <;> omega
    · rfl
  · rw [if_pos ⟨hf, fun e => hs e.symm⟩]
    unfold sortK
    rw [if_neg (by omega), if_neg (by omega)]
    by_cases h25 : t.op = 25
    · rw [if_pos (by omega), if_pos h25]
      by_cases h0 : s = 0
      · simp [h0]
      · simp [h0]
    rw [if_neg (by omega), if_neg h25, if_neg (by omega)]
    simp only [List.getD_cons_zero]
    by_cases h22 : t.op = 22
    · rw [if_pos h22, if_pos h22]
      by_cases h1 : s < 1
      · rw [if_pos h1, if_neg (by omega)]
      · rw [if_neg h1]
    · rw [if_neg h22, if_neg h22, if_pos (by omega)]
      by_cases h1 : s < 1
      · rw [if_pos h1, if_neg (by omega)]
      · rw [if_neg h1, if_pos (by omega)]
theorem sort_two (hd : declOk ds = true) (hf : formed t = true) (h : t.ks.length = 2) : sortM ds t = bothM t.op (sortM ds (kid t 0)) (sortM ds (kid t 1)) := by
  have ha := arity_two (o := t.op) (by have := (formed_iff.1 hf).1; omega)
  have hr := sort_range hd (kid t 0)
  have hr1 := sort_range hd (kid t 1)
  rw [sortM_eq, ks2 h]
  unfold sortF
  simp only [List.map_cons, List.map_nil, List.mem_cons, List.not_mem_nil, or_false]
  generalize sortM ds (kid t 0) = a at hr ⊢
  generalize sortM ds (kid t 1) = b at hr1 ⊢
  unfold bothM
  by_cases hs : -1 = a ∨ -1 = b
  · rw [if_neg (fun x => x.2 hs)]
    repeat' split
    all_goals omega
  · rw [if_pos ⟨hf, hs⟩]
    unfold sortK
    have hany : ([a, b].any fun x => decide (x ≠ 0)) = decide (a ≠ 0 ∨ b ≠ 0) := by
      simp only [List.any_cons, List.any_nil, Bool.or_false, Bool.decide_or]
    rw [hany]
    simp only [List.getD_cons_zero, List.getD_cons_succ, decide_eq_true_eq]
    rw [if_neg (show ¬ t.op = 20 by omega), if_neg (show ¬ t.op = 21 by omega), if_neg (show ¬ t.op = 23 by omega), if_neg (show ¬ t.op = 22 by omega)]
    repeat' split
    all_goals omega
theorem sort_three (hf : formed t = true) (h : t.ks.length = 3) : sortM ds t = if sortM ds (kid t 0) ≠ 0 ∨ sortM ds (kid t 1) ≠ sortM ds (kid t 2) then -1 else sortM ds (kid t 1) := by
  have ha := arity_three (o := t.op) (by have := (formed_iff.1 hf).1; omega)
  rw [sortM_eq, ks3 h]
  unfold sortF
  simp only [List.map_cons, List.map_nil, List.mem_cons, List.not_mem_nil, or_false]
  generalize sortM ds (kid t 0) = a
  generalize sortM ds (kid t 1) = b
  generalize sortM ds (kid t 2) = c
  by_cases hs : -1 = a ∨ -1 = b ∨ -1 = c
  · rw [if_neg (fun x => x.2 hs)]
    split
    · rfl
    · omega
  · rw [if_pos ⟨hf, hs⟩]
    unfold sortK
    rw [if_neg (by omega), if_neg (by omega), if_neg (by omega), if_pos ha]
    simp only [List.getD_cons_zero, List.getD_cons_succ]
    by_cases hc : a = 0 ∧ b = c
    · rw [if_pos hc, if_neg (by omega)]
    · rw [if_neg hc, if_pos (by omega)]

/-! ### Values, kind by kind -/
theorem vec_kid {i : Nat} (h : i < t.ks.length) : (t.ks.map (vecM ds env)).getD i (0, 0) = (sortM ds (kid t i), evalM ds env (kid t i)) := by
  rw [getD_map _ h _ default, vecM_pair]; rfl
theorem good_kid (h : sortM ds t ≠ -1) {i : Nat} (hi : i < t.ks.length) : sortM ds (kid t i) ≠ -1 := (sort_parts h).2.1 _ (kid_mem hi)
theorem in_kid (he : envOk ds env = true) (h : sortM ds t ≠ -1) {i : Nat} (hi : i < t.ks.length) : inS (sortM ds (kid t i)) (evalM ds env (kid t i)) := eval_in he _ (good_kid h hi)

theorem one_good {a : Int} (ho : t.op = 1 ∨ t.op = 2 ∨ t.op = 22 ∨ t.op = 25) (h : oneM t a ≠ -1) : (t.op = 25 → a = 0) ∧ (t.op ≠ 25 → 1 ≤ a) ∧ (t.op = 22 → 0 ≤ t.b ∧ t.b ≤ t.a ∧ t.a < a) := by
  unfold oneM at h
  repeat' split at h
  all_goals omega
theorem both_good {o a b : Int} (h : bothM o a b ≠ -1) : ((o = 26 ∨ o = 27) → a = 0 ∧ b = 0) ∧ (¬ (o = 26 ∨ o = 27) → 1 ≤ a ∧ 1 ≤ b ∧ (o = 14 → a + b ≤ 4) ∧ (o ≠ 14 → a = b)) := by
  unfold bothM at h
  repeat' split at h
  all_goals omega

theorem eval_un (he : envOk ds env = true) (h : sortM ds t ≠ -1) (ho : t.op = 1 ∨ t.op = 2) : t.ks.length = 1 ∧ vok (sortM ds (kid t 0)) (evalM ds env (kid t 0)) = true ∧ evalM ds env t = (vecUn t.op (sortM ds (kid t 0)) (evalM ds env (kid t 0))).1.2 := by
  have hf := (sort_parts h).1
  have hl : t.ks.length = 1 := by have := (formed_iff.1 hf).1; rcases ho with e | e <;> rw [e] at this <;> simp [arity] at this <;> omega
  have hs := sort_one (env_ok he).1 hf hl
  rw [hs] at h
  have hg := one_good (by omega) h
  have hv := inS_pos (in_kid he (by rw [hs]; exact h) (i := 0) (by omega)) (by omega)
  refine ⟨hl, hv, ?_⟩
  rw [evalM_eq]
  unfold valK vecUn
  rw [if_neg (by omega), if_neg (by omega), if_neg (by omega), if_neg (by omega), if_neg (by omega), if_neg (by omega), if_neg (by omega), if_neg (by omega), if_pos (by omega), vec_kid (by omega), if_pos ⟨hv, ho⟩]
theorem eval_cut (he : envOk ds env = true) (h : sortM ds t ≠ -1) (ho : t.op = 22) : t.ks.length = 1 ∧ vok (sortM ds (kid t 0)) (evalM ds env (kid t 0)) = true ∧ evalM ds env t = (vecCut (sortM ds (kid t 0)) (evalM ds env (kid t 0)) t.a t.b).1.2 := by
  have hf := (sort_parts h).1
  have hl : t.ks.length = 1 := by have := (formed_iff.1 hf).1; rw [ho] at this; simp [arity] at this; omega
  have hs := sort_one (env_ok he).1 hf hl
  rw [hs] at h
  have hg := one_good (by omega) h
  have hv := inS_pos (in_kid he (by rw [hs]; exact h) (i := 0) (by omega)) (by omega)
  refine ⟨hl, hv, ?_⟩
  rw [evalM_eq]
  unfold valK vecCut
  rw [if_neg (by omega), if_neg (by omega), if_neg (by omega), if_neg (by omega), if_neg (by omega), if_neg (by omega), if_neg (by omega), if_pos (by omega), vec_kid (by omega), if_pos ⟨hv, hg.2.2 ho⟩]
theorem eval_bin (he : envOk ds env = true) (h : sortM ds t ≠ -1) (ho : 3 ≤ t.op) (ho' : t.op ≤ 14) : t.ks.length = 2 ∧ vok (sortM ds (kid t 0)) (evalM ds env (kid t 0)) = true ∧ vok (sortM ds (kid t 1)) (evalM ds env (kid t 1)) = true ∧ evalM ds env t = (vecBin t.op (sortM ds (kid t 0)) (evalM ds env (kid t 0)) (sortM ds (kid t 1)) (evalM ds env (kid t 1))).1.2 := by
  have hf := (sort_parts h).1
  have hl : t.ks.length = 2 := by
    have := (formed_iff.1 hf).1
    unfold arity at this
    rw [if_neg (by omega), if_neg (by omega), if_neg (by omega), if_neg (by omega), if_pos (by omega)] at this; omega
  have hs := sort_two (env_ok he).1 hf hl
  rw [hs] at h
  have hg := (both_good h).2 (by omega)
  have hv := inS_pos (in_kid he (by rw [hs]; exact h) (i := 0) (by omega)) (by omega)
  have hv1 := inS_pos (in_kid he (by rw [hs]; exact h) (i := 1) (by omega)) (by omega)
  refine ⟨hl, hv, hv1, ?_⟩
  rw [evalM_eq]
  unfold valK vecBin
  rw [if_neg (show ¬ t.op = 20 by omega), if_neg (show ¬ t.op = 21 by omega), if_neg (show ¬ t.op = 24 by omega), if_neg (show ¬ t.op = 25 by omega), if_neg (show ¬ t.op = 26 by omega), if_neg (show ¬ t.op = 27 by omega), if_neg (show ¬ t.op = 23 by omega), if_neg (show ¬ t.op = 22 by omega), if_neg (show ¬ t.op ≤ 2 by omega), vec_kid (by omega), vec_kid (by omega), if_pos (show vok _ _ = true ∧ vok _ _ = true from ⟨hv, hv1⟩)]
  by_cases h14 : t.op = 14
  · rw [if_pos h14, if_pos h14, if_pos (hg.2.2.1 h14)]
  · rw [if_neg h14, if_neg h14, if_neg (show ¬ 15 ≤ t.op by omega), if_pos (show 3 ≤ t.op ∧ t.op ≤ 13 ∧ sortM ds (kid t 0) = sortM ds (kid t 1) from ⟨ho, by omega, hg.2.2.2 h14⟩)]
theorem eval_cmp (he : envOk ds env = true) (h : sortM ds t ≠ -1) (ho : 15 ≤ t.op) (ho' : t.op ≤ 17) : t.ks.length = 2 ∧ vok (sortM ds (kid t 0)) (evalM ds env (kid t 0)) = true ∧ vok (sortM ds (kid t 1)) (evalM ds env (kid t 1)) = true ∧ evalM ds env t = b2i (vecCmp t.op (sortM ds (kid t 0)) (evalM ds env (kid t 0)) (sortM ds (kid t 1)) (evalM ds env (kid t 1))).1 := by
  have hf := (sort_parts h).1
  have hl : t.ks.length = 2 := by
    have := (formed_iff.1 hf).1
    unfold arity at this
    rw [if_neg (by omega), if_neg (by omega), if_neg (by omega), if_neg (by omega), if_pos (by omega)] at this; omega
  have hs := sort_two (env_ok he).1 hf hl
  rw [hs] at h
  have hg := (both_good h).2 (by omega)
  have hv := inS_pos (in_kid he (by rw [hs]; exact h) (i := 0) (by omega)) (by omega)
  have hv1 := inS_pos (in_kid he (by rw [hs]; exact h) (i := 1) (by omega)) (by omega)
  refine ⟨hl, hv, hv1, ?_⟩
  rw [evalM_eq]
  unfold valK vecCmp
  rw [if_neg (by omega), if_neg (by omega), if_neg (by omega), if_neg (by omega), if_neg (by omega), if_neg (by omega), if_neg (by omega), if_neg (by omega), if_neg (by omega), vec_kid (by omega), vec_kid (by omega), if_neg (by omega), if_pos (by omega), if_pos ⟨hv, hv1, hg.2.2.2 (by omega), ho, ho'⟩]
theorem bits_cases {n : Int} (h : inS 0 n) : n = 0 ∨ n = 1 := inS_zero h
theorem eval_no (he : envOk ds env = true) (h : sortM ds t ≠ -1) (ho : t.op = 25) : t.ks.length = 1 ∧ inS 0 (evalM ds env (kid t 0)) ∧ evalM ds env t = 1 - evalM ds env (kid t 0) := by
  have hf := (sort_parts h).1
  have hl : t.ks.length = 1 := by have := (formed_iff.1 hf).1; rw [ho] at this; simp [arity] at this; omega
  have hs := sort_one (env_ok he).1 hf hl
  rw [hs] at h
  have hg := one_good (by omega) h
  have hv := in_kid he (by rw [hs]; exact h) (i := 0) (by omega)
  rw [hg.1 ho] at hv
  refine ⟨hl, hv, ?_⟩
  rw [evalM_eq]
  unfold valK
  rw [if_neg (by omega), if_neg (by omega), if_neg (by omega), if_pos (by omega), vec_kid (by omega)]
  simp only
  rcases inS_zero hv with e | e <;> rw [e] <;> rfl
theorem eval_two (he : envOk ds env = true) (h : sortM ds t ≠ -1) (ho : t.op = 26 ∨ t.op = 27) : t.ks.length = 2 ∧ inS 0 (evalM ds env (kid t 0)) ∧ inS 0 (evalM ds env (kid t 1)) ∧ evalM ds env t = if t.op = 26 then evalM ds env (kid t 0) * evalM ds env (kid t 1) else max (evalM ds env (kid t 0)) (evalM ds env (kid t 1)) := by
  have hf := (sort_parts h).1
  have hl : t.ks.length = 2 := by have := (formed_iff.1 hf).1; rcases ho with e | e <;> rw [e] at this <;> simp [arity] at this <;> omega
  have hs := sort_two (env_ok he).1 hf hl
  rw [hs] at h
  have hg := (both_good h).1 ho
  have hv := in_kid he (by rw [hs]; exact h) (i := 0) (by omega)
  have hv1 := in_kid he (by rw [hs]; exact h) (i := 1) (by omega)
  rw [hg.1] at hv
  rw [hg.2] at hv1
  refine ⟨hl, hv, hv1, ?_⟩
  rw [evalM_eq]
  unfold valK
  rw [if_neg (by omega), if_neg (by omega), if_neg (by omega), if_neg (by omega), vec_kid (by omega), vec_kid (by omega)]
  simp only
  rcases ho with e | e
  · rw [if_pos e, if_pos e]
    rcases inS_zero hv with e | e <;> rcases inS_zero hv1 with e' | e' <;> rw [e, e'] <;> rfl
  · rw [if_neg (by omega), if_pos e, if_neg (by omega)]
    rcases inS_zero hv with e | e <;> rcases inS_zero hv1 with e' | e' <;> rw [e, e'] <;> rfl
theorem eval_if (he : envOk ds env = true) (h : sortM ds t ≠ -1) (ho : t.op = 23) : t.ks.length = 3 ∧ inS 0 (evalM ds env (kid t 0)) ∧ evalM ds env t = if evalM ds env (kid t 0) = 1 then evalM ds env (kid t 1) else evalM ds env (kid t 2) := by
  have hf := (sort_parts h).1
  have hl : t.ks.length = 3 := by have := (formed_iff.1 hf).1; rw [ho] at this; simp [arity] at this; omega
  have hs := sort_three (ds := ds) hf hl
  have hv := in_kid he h (i := 0) (by omega)
  rw [hs] at h
  have hg : sortM ds (kid t 0) = 0 := by
    split at h
    · exact absurd rfl h
    · omega
  rw [hg] at hv
  refine ⟨hl, hv, ?_⟩
  rw [evalM_eq]
  unfold valK
  rw [if_neg (by omega), if_neg (by omega), if_neg (by omega), if_neg (by omega), if_neg (by omega), if_neg (by omega), if_pos ho, vec_kid (by omega), vec_kid (by omega), vec_kid (by omega)]
theorem eval_leaf (h : t.op = 20 ∨ t.op = 21 ∨ t.op = 24) : evalM ds env t = if t.op = 20 then t.b else if t.op = 21 then env.getD (findD ds t.s).toNat 0 else 1 := by
  rw [evalM_eq]
  unfold valK
  rcases h with h | h | h
  · rw [if_pos h, if_pos h]
  · rw [if_neg (by omega), if_pos h, if_neg (by omega), if_pos h]
  · rw [if_neg (by omega), if_neg (by omega), if_pos h, if_neg (by omega), if_neg (by omega)]
theorem name_found (h : sortM ds t ≠ -1) (ho : t.op = 21) : 0 ≤ findD ds t.s := by
  obtain ⟨_, _, hs⟩ := sort_parts h
  rw [hs] at h
  unfold sortK at h
  rw [if_neg (by omega), if_pos ho] at h
  split at h
  · exact absurd rfl h
  · omega
end
end Go.M
