/- The plain mathematics of terms: sorts and values. No program in sight. -/
import Derived.Test.YtbiabimalkkeiaaGreatDoorVcX
import Derived.Test.YtbiabimalkkeiaaGreatDoorM20
set_option linter.unusedVariables false
set_option linter.unusedSimpArgs false
set_option linter.unnecessarySimpa false
set_option linter.unusedSectionVars false
namespace Go.M
open Go.Vc

/-- A declaration: its name, and how many bits it has. -/
abbrev Dcl := ByteArray × Int
def findD (ds : List Dcl) (s : ByteArray) : Int := idxI ds.length fun i => decide ((ds.getD i (nada, 0)).1 = s)
def tru : ByteArray := ⟨#[116, 114, 117, 101]⟩
def nameOk (s : ByteArray) : Bool := decide (1 ≤ s.size) && decide (s.size ≤ 4) && decide (s ≠ tru) && s.data.all fun c => decide (97 ≤ c.toNat) && decide (c.toNat ≤ 122)
def bits (ds : List Dcl) : Int := (ds.map (·.2)).sum
def dclOk (ds : List Dcl) (i : Nat) : Bool := nameOk (ds.getD i (nada, 0)).1 && decide (1 ≤ (ds.getD i (nada, 0)).2) && decide ((ds.getD i (nada, 0)).2 ≤ 4) && decide (findD (ds.take i) (ds.getD i (nada, 0)).1 < 0)
def declOk (ds : List Dcl) : Bool := decide (ds.length ≤ 4) && ((List.range ds.length).all fun i => dclOk ds i) && decide (bits ds ≤ 8)
def envOk (ds : List Dcl) (env : List Int) : Bool := declOk ds && decide (env.length = ds.length) && (List.range ds.length).all fun i => vok (ds.getD i (nada, 0)).2 (env.getD i 0)

theorem findD_lt (ds : List Dcl) (s : ByteArray) : -1 ≤ findD ds s ∧ findD ds s < ds.length := by
  unfold findD idxI
  split
  · rename_i i h
    have := List.mem_of_find?_eq_some h
    simp at this
    omega
  · omega
theorem findD_neg {ds : List Dcl} {s : ByteArray} (h : findD ds s < 0) {j : Nat} (hj : j < ds.length) : (ds.getD j (nada, 0)).1 ≠ s := by
  unfold findD idxI at h
  split at h
  · omega
  · rename_i hn
    rw [List.find?_eq_none] at hn
    have := hn j (List.mem_range.2 hj)
    simpa using this
theorem findD_get {ds : List Dcl} {s : ByteArray} (h : 0 ≤ findD ds s) : (ds.getD (findD ds s).toNat (nada, 0)).1 = s := by
  unfold findD idxI at h ⊢
  split at h
  · rename_i i hi
    have := List.find?_some hi
    simpa using this
  · omega
theorem findD_of {ds : List Dcl} {s : ByteArray} {i : Nat} (hi : i < ds.length) (h : (ds.getD i (nada, 0)).1 = s) (hl : ∀ j, j < i → (ds.getD j (nada, 0)).1 ≠ s) : findD ds s = i :=
  idxI_some hi (by simp only [h, decide_true]) fun j hj => decide_eq_false (hl j hj)
theorem findD_none {ds : List Dcl} {s : ByteArray} (hl : ∀ j, j < ds.length → (ds.getD j (nada, 0)).1 ≠ s) : findD ds s = -1 :=
  idxI_none fun j hj => decide_eq_false (hl j hj)
theorem decl_iff {ds : List Dcl} : declOk ds = true ↔ ds.length ≤ 4 ∧ (∀ i, i < ds.length → dclOk ds i = true) ∧ bits ds ≤ 8 := by
  simp only [declOk, Bool.and_eq_true, List.all_eq_true, List.mem_range, decide_eq_true_eq, and_assoc]
theorem take_getD {α : Type} {l : List α} {i j : Nat} {d : α} (h : j < i) : (l.take i).getD j d = l.getD j d := by
  simp [List.getD_eq_getElem?_getD, List.getElem?_take, h]
theorem dcl_apart {ds : List Dcl} (h : declOk ds = true) {i j : Nat} (hi : i < ds.length) (hj : j < i) : (ds.getD j (nada, 0)).1 ≠ (ds.getD i (nada, 0)).1 := by
  have := (decl_iff.1 h).2.1 i hi
  simp only [dclOk, Bool.and_eq_true, decide_eq_true_eq] at this
  have h2 := findD_neg this.2 (j := j) (by rw [List.length_take]; omega)
  rwa [take_getD hj] at h2
/-- The bits of the first declarations. -/
def bitT (ds : List Dcl) (i : Nat) : Int := ((ds.take i).map (·.2)).sum
theorem bitT_succ {ds : List Dcl} {i : Nat} (h : i < ds.length) : bitT ds (i + 1) = bitT ds i + (ds.getD i (nada, 0)).2 := by
  unfold bitT
  rw [List.take_add_one, List.getElem?_eq_getElem h, List.map_append, List.sum_append, List.getD_eq_getElem?_getD, List.getElem?_eq_getElem h]
  simp
theorem bitT_all (ds : List Dcl) : bitT ds ds.length = bits ds := by unfold bitT bits; rw [List.take_length]
theorem dcl_wide {ds : List Dcl} (h : declOk ds = true) {i : Nat} (hi : i < ds.length) : 1 ≤ (ds.getD i (nada, 0)).2 ∧ (ds.getD i (nada, 0)).2 ≤ 4 := by
  simp only [declOk, Bool.and_eq_true, List.all_eq_true, List.mem_range, dclOk, decide_eq_true_eq] at h
  obtain ⟨⟨_, h2⟩, _⟩ := h
  exact ⟨(h2 i hi).1.1.2, (h2 i hi).1.2⟩
theorem env_ok {ds : List Dcl} {env : List Int} (h : envOk ds env = true) : declOk ds = true ∧ env.length = ds.length ∧ ∀ i, i < ds.length → vok (ds.getD i (nada, 0)).2 (env.getD i 0) = true := by
  simp only [envOk, Bool.and_eq_true, List.all_eq_true, List.mem_range, decide_eq_true_eq] at h
  exact ⟨h.1.1, h.1.2, h.2⟩

/-! ### How large a term is -/
def sizeM : Tm → Nat := Tm.fold fun _ xs => 1 + xs.sum
def deepM : Tm → Nat := Tm.fold fun _ xs => 1 + xs.foldl max 0
theorem sizeM_eq (t : Tm) : sizeM t = 1 + (t.ks.map sizeM).sum := Tm.fold_eq _ t
theorem deepM_eq (t : Tm) : deepM t = 1 + (t.ks.map deepM).foldl max 0 := Tm.fold_eq _ t
/-- The parts of the first kids; their levels. -/
def szT (ks : List Tm) (i : Nat) : Nat := ((ks.take i).map sizeM).sum
def dpT (ks : List Tm) (i : Nat) : Nat := ((ks.take i).map deepM).foldl max 0
theorem take_add {α : Type} {l : List α} {i : Nat} (h : i < l.length) (d : α) : l.take (i + 1) = l.take i ++ [l.getD i d] := by
  rw [List.take_add_one, List.getElem?_eq_getElem h, List.getD_eq_getElem?_getD, List.getElem?_eq_getElem h]; rfl
theorem szT_succ {ks : List Tm} {i : Nat} (h : i < ks.length) : szT ks (i + 1) = szT ks i + sizeM (ks.getD i default) := by
  unfold szT; rw [take_add h default, List.map_append, List.sum_append]; simp
theorem dpT_succ {ks : List Tm} {i : Nat} (h : i < ks.length) : dpT ks (i + 1) = max (dpT ks i) (deepM (ks.getD i default)) := by
  unfold dpT; rw [take_add h default, List.map_append, List.foldl_append]; rfl
theorem szT_all (t : Tm) : sizeM t = 1 + szT t.ks t.ks.length := by rw [sizeM_eq, szT, List.take_length]
theorem dpT_all (t : Tm) : deepM t = 1 + dpT t.ks t.ks.length := by rw [deepM_eq, dpT, List.take_length]
theorem szT_mono {ks : List Tm} {i : Nat} : ∀ {j : Nat}, i ≤ j → j ≤ ks.length → szT ks i ≤ szT ks j
  | 0, h, _ => by have : i = 0 := by omega
                  subst this; exact Nat.le_refl _
  | j + 1, h, hj => by
    by_cases e : i = j + 1
    · subst e; exact Nat.le_refl _
    · have := szT_mono (ks := ks) (i := i) (j := j) (by omega) (by omega)
      rw [szT_succ (by omega)]; omega
theorem dpT_mono {ks : List Tm} {i : Nat} : ∀ {j : Nat}, i ≤ j → j ≤ ks.length → dpT ks i ≤ dpT ks j
  | 0, h, _ => by have : i = 0 := by omega
                  subst this; exact Nat.le_refl _
  | j + 1, h, hj => by
    by_cases e : i = j + 1
    · subst e; exact Nat.le_refl _
    · have := dpT_mono (ks := ks) (i := i) (j := j) (by omega) (by omega)
      rw [dpT_succ (by omega)]; omega
/-- A term of at most 20 parts and 7 levels. -/
def fits (t : Tm) : Bool := decide (sizeM t ≤ 20) && decide (deepM t ≤ 7)
theorem fits_iff {t : Tm} : fits t = true ↔ sizeM t ≤ 20 ∧ deepM t ≤ 7 := by simp [fits]
def manyM (t : Tm) : Nat := if fits t then sizeM t else 21
def lvlM (t : Tm) : Nat := if fits t then deepM t else 8

/-! ### Sorts -/
def arity (o : Int) : Int := if o = 20 ∨ o = 21 ∨ o = 24 then 0 else if o = 1 ∨ o = 2 ∨ o = 22 ∨ o = 25 then 1 else if o = 23 then 3 else if o = 26 ∨ o = 27 then 2 else if 3 ≤ o ∧ o ≤ 17 then 2 else -1
def plainM (t : Tm) : Bool := (decide (t.op = 20) || decide (t.op = 22) || (decide (t.a = 0) && decide (t.b = 0))) && (decide (t.op = 21) || decide (t.s = nada))
def sortK (ds : List Dcl) (t : Tm) (xs : List Int) : Int :=
  if t.op = 20 then (if vok t.a t.b then t.a else -1)
  else if t.op = 21 then (if findD ds t.s < 0 then -1 else (ds.getD (findD ds t.s).toNat (nada, 0)).2)
  else if 24 ≤ t.op then (if xs.any (fun x => decide (x ≠ 0)) then -1 else 0)
  else if t.op = 23 then (if xs.getD 0 0 = 0 ∧ xs.getD 1 0 = xs.getD 2 0 then xs.getD 1 0 else -1)
  else if t.op = 22 then (if 0 ≤ t.b ∧ t.b ≤ t.a ∧ t.a < xs.getD 0 0 then t.a - t.b + 1 else -1)
  else if t.op ≤ 2 then (if 0 < xs.getD 0 0 then xs.getD 0 0 else -1)
  else if t.op = 14 then (if 0 < xs.getD 0 0 ∧ 0 < xs.getD 1 0 ∧ xs.getD 0 0 + xs.getD 1 0 ≤ 4 then xs.getD 0 0 + xs.getD 1 0 else -1)
  else if 15 ≤ t.op then (if 0 < xs.getD 0 0 ∧ xs.getD 0 0 = xs.getD 1 0 then 0 else -1)
  else (if 0 < xs.getD 0 0 ∧ xs.getD 0 0 = xs.getD 1 0 then xs.getD 0 0 else -1)
def formed (t : Tm) : Bool := decide (arity t.op = t.ks.length) && plainM t
def sortF (ds : List Dcl) (t : Tm) (xs : List Int) : Int := if formed t = true ∧ ¬ (-1 ∈ xs) then sortK ds t xs else -1
def sortM (ds : List Dcl) : Tm → Int := Tm.fold (sortF ds)
theorem sortM_eq (ds : List Dcl) (t : Tm) : sortM ds t = sortF ds t (t.ks.map (sortM ds)) := Tm.fold_eq _ t

theorem arity_ops {o : Int} (h : 0 ≤ arity o) : (1 ≤ o ∧ o ≤ 17) ∨ (20 ≤ o ∧ o ≤ 27) := by
  unfold arity at h
  repeat' (split at h)
  all_goals omega

theorem getD_map {α β : Type} (f : α → β) {l : List α} {i : Nat} (h : i < l.length) (d : β) (e : α) : (l.map f).getD i d = f (l.getD i e) := by
  simp [List.getD_eq_getElem?_getD, h]
theorem getD_mem {α : Type} {l : List α} {i : Nat} (h : i < l.length) (d : α) : l.getD i d ∈ l := by
  rw [List.getD_eq_getElem?_getD, List.getElem?_eq_getElem h]; exact List.getElem_mem h

/-- What a right term is made of. -/
theorem sort_parts {ds : List Dcl} {t : Tm} (h : sortM ds t ≠ -1) : formed t = true ∧ (∀ k, k ∈ t.ks → sortM ds k ≠ -1) ∧ sortM ds t = sortK ds t (t.ks.map (sortM ds)) := by
  rw [sortM_eq] at h ⊢
  unfold sortF at h ⊢
  split at h
  · rename_i hf
    rw [if_pos hf]
    exact ⟨hf.1, fun k hk e => hf.2 (e ▸ List.mem_map_of_mem hk), rfl⟩
  · exact absurd rfl h
theorem sort_range {ds : List Dcl} (hd : declOk ds = true) : ∀ t, -1 ≤ sortM ds t ∧ sortM ds t ≤ 4 := by
  refine Tm.ind fun t ih => ?_
  rw [sortM_eq]
  unfold sortF
  split
  · rename_i hf
    have hx : ∀ i, -1 ≤ (t.ks.map (sortM ds)).getD i 0 ∧ (t.ks.map (sortM ds)).getD i 0 ≤ 4 := fun i => by
      by_cases h : i < t.ks.length
      · rw [getD_map _ h 0 default]; exact ih _ (getD_mem h _)
      · rw [List.getD_eq_getElem?_getD, List.getElem?_eq_none (by simpa using h)]; simp
    have h0 := hx 0
    have h1 := hx 1
    have h2 := hx 2
    have har := arity_ops (o := t.op) (by
      have := hf.1
      simp only [formed, Bool.and_eq_true, decide_eq_true_eq] at this
      omega)
    unfold sortK
    split
    · split
      · rename_i hv; have := vok_lt hv; omega
      · omega
    · split
      · have hfd := findD_lt ds t.s
        split
        · omega
        · have := dcl_wide hd (i := (findD ds t.s).toNat) (by omega)
          omega
      · repeat' split
        all_goals omega
  · omega

/-- The sort of a term that is not too great, under right declarations. -/
def tsort (ds : List Dcl) (t : Tm) : Int := if fits t = true ∧ declOk ds = true then sortM ds t else -1
/-! ### Values -/
def b2i (b : Bool) : Int := if b then 1 else 0
def valK (ds : List Dcl) (env : List Int) (t : Tm) (xs : List (Int × Int)) : Int :=
  if t.op = 20 then t.b
  else if t.op = 21 then env.getD (findD ds t.s).toNat 0
  else if t.op = 24 then 1
  else if t.op = 25 then b2i (decide ((xs.getD 0 (0, 0)).2 = 0))
  else if t.op = 26 then b2i (decide ((xs.getD 0 (0, 0)).2 = 1) && decide ((xs.getD 1 (0, 0)).2 = 1))
  else if t.op = 27 then b2i (decide ((xs.getD 0 (0, 0)).2 = 1) || decide ((xs.getD 1 (0, 0)).2 = 1))
  else if t.op = 23 then (if (xs.getD 0 (0, 0)).2 = 1 then (xs.getD 1 (0, 0)).2 else (xs.getD 2 (0, 0)).2)
  else if t.op = 22 then cutM (xs.getD 0 (0, 0)).2 t.a t.b
  else if t.op ≤ 2 then unM t.op (xs.getD 0 (0, 0)).1 (xs.getD 0 (0, 0)).2
  else if t.op = 14 then catM (xs.getD 1 (0, 0)).1 (xs.getD 0 (0, 0)).2 (xs.getD 1 (0, 0)).2
  else if 15 ≤ t.op then b2i (cmpM t.op (xs.getD 0 (0, 0)).1 (xs.getD 0 (0, 0)).2 (xs.getD 1 (0, 0)).2)
  else binM t.op (xs.getD 0 (0, 0)).1 (xs.getD 0 (0, 0)).2 (xs.getD 1 (0, 0)).2
def vecF (ds : List Dcl) (env : List Int) (t : Tm) (xs : List (Int × Int)) : Int × Int := (sortF ds t (xs.map (·.1)), valK ds env t xs)
/-- A term's sort and value. -/
def vecM (ds : List Dcl) (env : List Int) : Tm → Int × Int := Tm.fold (vecF ds env)
def evalM (ds : List Dcl) (env : List Int) (t : Tm) : Int := (vecM ds env t).2
theorem vecM_eq (ds : List Dcl) (env : List Int) (t : Tm) : vecM ds env t = vecF ds env t (t.ks.map (vecM ds env)) := Tm.fold_eq _ t
theorem vecM_sort (ds : List Dcl) (env : List Int) : ∀ t, (vecM ds env t).1 = sortM ds t := by
  refine Tm.ind fun t ih => ?_
  rw [vecM_eq, sortM_eq]
  show sortF ds t _ = _
  rw [List.map_map]
  congr 1
  exact List.map_congr_left fun k hk => ih k hk
theorem vecM_pair (ds : List Dcl) (env : List Int) (t : Tm) : vecM ds env t = (sortM ds t, evalM ds env t) := by rw [← vecM_sort ds env t]; rfl
theorem evalM_eq (ds : List Dcl) (env : List Int) (t : Tm) : evalM ds env t = valK ds env t (t.ks.map (vecM ds env)) := by
  unfold evalM; rw [vecM_eq]; rfl

/-- A value of a sort. -/
def inS (w n : Int) : Prop := (w = 0 ∧ (n = 0 ∨ n = 1)) ∨ vok w n = true
theorem inS_b {b : Bool} : inS 0 (b2i b) := by left; cases b <;> simp [b2i]
theorem inS_zero {n : Int} (h : inS 0 n) : n = 0 ∨ n = 1 := by
  rcases h with h | h
  · exact h.2
  · exact absurd (vok_lt h).1 (by omega)
theorem inS_pos {w n : Int} (h : inS w n) (hw : 0 < w) : vok w n = true := by
  rcases h with h | h
  · omega
  · exact h

/-- What evaluation answers. -/
def tok (ds : List Dcl) (t : Tm) (env : List Int) : Bool := decide (tsort ds t ≠ -1) && envOk ds env
def teval (ds : List Dcl) (t : Tm) (env : List Int) : Int := if tok ds t env then evalM ds env t else 0
theorem eval_in {ds : List Dcl} {env : List Int} (he : envOk ds env = true) : ∀ t, sortM ds t ≠ -1 → inS (sortM ds t) (evalM ds env t) := by
  obtain ⟨hd, hl, hv⟩ := env_ok he
  refine Tm.ind fun t ih h => ?_
  obtain ⟨hf, hk, hs⟩ := sort_parts h
  rw [hs] at h
  rw [hs, evalM_eq]
  simp only [formed, Bool.and_eq_true, decide_eq_true_eq] at hf
  obtain ⟨har, hpl⟩ := hf
  have hops := arity_ops (o := t.op) (by omega)
  have hx : ∀ i, i < t.ks.length → (t.ks.map (sortM ds)).getD i 0 = sortM ds (t.ks.getD i default) := fun i hi => getD_map _ hi _ _
  have hy : ∀ i, i < t.ks.length → (t.ks.map (vecM ds env)).getD i (0, 0) = (sortM ds (t.ks.getD i default), evalM ds env (t.ks.getD i default)) := fun i hi => by
    rw [getD_map _ hi _ default, vecM_pair]
  have hin : ∀ i, i < t.ks.length → inS (sortM ds (t.ks.getD i default)) (evalM ds env (t.ks.getD i default)) := fun i hi => ih _ (getD_mem hi _) (hk _ (getD_mem hi _))
  unfold sortK at h ⊢
  unfold valK
  by_cases h20 : t.op = 20
  · simp only [h20, if_true] at h ⊢
    split
    · right; assumption
    · rename_i hn; rw [if_neg hn] at h; exact absurd rfl h
  simp only [if_neg h20] at h ⊢
  by_cases h21 : t.op = 21
  · simp only [h21, if_true] at h ⊢
    have hfd := findD_lt ds t.s
    split
    · rename_i hn; rw [if_pos hn] at h; exact absurd rfl h
    · right; exact hv _ (by omega)
  simp only [if_neg h21] at h ⊢
  by_cases h24 : 24 ≤ t.op
  · simp only [if_pos h24] at h ⊢
    split
    · rename_i hn; rw [if_pos hn] at h; exact absurd rfl h
    · rcases (by omega : t.op = 24 ∨ t.op = 25 ∨ t.op = 26 ∨ t.op = 27) with e | e | e | e
      · left; simp [e]
      · simp only [e]; exact inS_b
      · simp only [e]; exact inS_b
      · simp only [e]; exact inS_b
  simp only [if_neg h24, if_neg (show ¬ t.op = 24 by omega), if_neg (show ¬ t.op = 25 by omega), if_neg (show ¬ t.op = 26 by omega), if_neg (show ¬ t.op = 27 by omega)] at h ⊢
  by_cases h23 : t.op = 23
  · simp only [h23, if_true] at h ⊢
    have h3 : t.ks.length = 3 := by rw [h23] at har; simp [arity] at har; omega
    rw [hx 0 (by omega), hx 1 (by omega), hx 2 (by omega)] at h ⊢
    rw [hy 0 (by omega), hy 1 (by omega), hy 2 (by omega)]
    split
    · rename_i hc
      simp only
      split
      · exact hin 1 (by omega)
      · rw [hc.2]; exact hin 2 (by omega)
    · rename_i hc; rw [if_neg hc] at h; exact absurd rfl h
  simp only [if_neg h23] at h ⊢
  by_cases h22 : t.op = 22
  · simp only [h22, if_true] at h ⊢
    have h3 : t.ks.length = 1 := by rw [h22] at har; simp [arity] at har; omega
    rw [hx 0 (by omega)] at h ⊢
    rw [hy 0 (by omega)]
    split
    · rename_i hc
      right
      exact cut_ok (inS_pos (hin 0 (by omega)) (by omega)) hc.1 hc.2.1 hc.2.2
    · rename_i hc; rw [if_neg hc] at h; exact absurd rfl h
  simp only [if_neg h22] at h ⊢
  by_cases h2 : t.op ≤ 2
  · simp only [if_pos h2] at h ⊢
    have h3 : t.ks.length = 1 := by
      have : t.op = 1 ∨ t.op = 2 := by omega
      rcases this with e | e <;> rw [e] at har <;> simp [arity] at har <;> omega
    rw [hx 0 (by omega)] at h ⊢
    rw [hy 0 (by omega)]
    split
    · rename_i hc
      right
      exact unM_ok (inS_pos (hin 0 (by omega)) (by omega))
    · rename_i hc; rw [if_neg hc] at h; exact absurd rfl h
  simp only [if_neg h2] at h ⊢
  have h3 : t.ks.length = 2 := by
    unfold arity at har
    rw [if_neg (by omega), if_neg (by omega), if_neg (by omega), if_neg (by omega), if_pos (by omega)] at har
    omega
  have e0 := hx 0 (by omega)
  have e1 := hx 1 (by omega)
  rw [e0, e1] at h ⊢
  rw [hy 0 (by omega), hy 1 (by omega)]
  have i0 := hin 0 (by omega)
  have i1 := hin 1 (by omega)
  by_cases h14 : t.op = 14
  · simp only [h14, if_true] at h ⊢
    split
    · rename_i hc
      right
      exact cat_ok (inS_pos i0 hc.1) (inS_pos i1 hc.2.1) hc.2.2
    · rename_i hc; rw [if_neg hc] at h; exact absurd rfl h
  simp only [if_neg h14] at h ⊢
  by_cases h15 : 15 ≤ t.op
  · simp only [if_pos h15] at h ⊢
    split
    · exact inS_b
    · rename_i hc; rw [if_neg hc] at h; exact absurd rfl h
  simp only [if_neg h15] at h ⊢
  split
  · rename_i hc
    right
    refine binM_ok (by omega) (by omega) (inS_pos i0 hc.1) ?_
    rw [hc.2]; exact inS_pos i1 (by omega)
  · rename_i hc; rw [if_neg hc] at h; exact absurd rfl h
end Go.M
