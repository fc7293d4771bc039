/- Drawn regions with operations that are not ordered among themselves: a tree of orders. -/
import Derived.Test.YtpihgpfebhegmaaVcB
set_option linter.unusedVariables false
set_option linter.unusedSimpArgs false
set_option linter.unnecessarySimpa false
set_option linter.unusedSectionVars false
namespace Go.Vc
open Go

/-- A tree of orders: reading operations come as soon as they can; where several others can come, each is a branch. -/
inductive OT where
  | nil | no
  | st (i : Nat) (t : OT)
  | alt (i : Nat) (t r : OT)

def vopsT (P : Program) (ops : List Oper) (D : Nat → List Nat) (K : Fr → World → Prop) : OT → List Nat → Acc → Fr → World → Prop
  | .nil, _, _, f, w => K f w
  | .no, _, _, _, _ => True
  | .st i t, sk, acc, f, w =>
    match nth ops i with
    | none => False
    | some o => vgd ops o.guard sk f
        (fun f => vone P true D i o sk acc f w (vopsT P ops D K t))
        (fun f => vopsT P ops D K t (skAdd o.dst sk) acc (put f o.dst undef) w)
  | .alt i t r, sk, acc, f, w =>
    (match nth ops i with
    | none => False
    | some o => vgd ops o.guard sk f
        (fun f => vone P true D i o sk acc f w (vopsT P ops D K t))
        (fun f => vopsT P ops D K t (skAdd o.dst sk) acc (put f o.dst undef) w)) ∧ vopsT P ops D K r sk acc f w

def heads : OT → List Nat
  | .alt i _ r => i :: heads r
  | _ => []
def isAlt : OT → Bool
  | .alt _ _ _ => true
  | .no => true
  | _ => false
def rem (i : Nat) : List Nat → List Nat
  | [] => []
  | x :: r => cond (Nat.beq x i) (rem i r) (x :: rem i r)
theorem mem_rem {i x : Nat} : ∀ {l : List Nat}, x ∈ rem i l ↔ x ∈ l ∧ x ≠ i
  | [] => by simp [rem]
  | y :: r => by
    simp only [rem]
    cases hb : Nat.beq y i
    · have hy : y ≠ i := fun e => by subst e; simp at hb
      simp only [cond, List.mem_cons, mem_rem (l := r)]
      constructor
      · rintro (rfl | ⟨h1, h2⟩)
        · exact ⟨.inl rfl, hy⟩
        · exact ⟨.inr h1, h2⟩
      · rintro ⟨rfl | h1, h2⟩
        · exact .inl rfl
        · exact .inr ⟨h1, h2⟩
    · have hy := Nat.eq_of_beq_eq_true hb
      simp only [cond, mem_rem (l := r), List.mem_cons]
      constructor
      · rintro ⟨h1, h2⟩; exact ⟨.inr h1, h2⟩
      · rintro ⟨rfl | h1, h2⟩
        · exact absurd hy h2
        · exact ⟨h1, h2⟩
def rdy (ops : List Oper) (R : List Nat) (i : Nat) : Bool := allN (fun e => cond (memN e R) false true) (edgesOf ops i)
theorem rdy_iff {ops : List Oper} {R : List Nat} {i : Nat} : rdy ops R i = true ↔ ∀ e, e ∈ edgesOf ops i → e ∉ R := by
  unfold rdy
  rw [allN_iff]
  constructor
  · intro h e he hr
    have := h e he
    rw [memN_iff.2 hr] at this; cases this
  · intro h e he
    cases hm : memN e R
    · rfl
    · exact absurd (memN_iff.1 hm) (h e he)
/-- At a place of choice all that can come is among the branches. -/
def entry (ops : List Oper) (T : OT) (R : List Nat) : Bool :=
  match T with
  | .no => false
  | .alt i t r => allN (fun x => cond (rdy ops R x) (memN x (heads (.alt i t r))) true) R
  | _ => true
def okT (ops : Array Oper) (D : Nat → List Nat) : OT → List Nat → Bool
  | .nil, R => match R with | [] => true | _ => false
  | .no, _ => true
  | .st i t, R => memN i R && (statN ops.toList i && (rdy ops.toList R i && (allN (fun x => Nat.beq x i || (memN x (D i) || apartN ops i x)) R && (okT ops D t (rem i R) && entry ops.toList t (rem i R)))))
  | .alt i t r, R => memN i R && ((match nth ops.toList i with | some o => !isStatic o.op | none => false) && (rdy ops.toList R i && ((okT ops D t (rem i R) && entry ops.toList t (rem i R)) && (isAlt r && okT ops D r R))))
def pull (i : Nat) : OT → OT
  | .nil => .nil
  | .no => .no
  | .st s t => cond (Nat.beq s i) t (.st s (pull i t))
  | .alt k t r => cond (Nat.beq k i) t (pull i r)

section
variable {P : Program} {n : Nat} {ops : Array Oper} {Q : Exit → Act → World → Prop} {D : Nat → List Nat} {a : Act} {f : Fr} {w : World}

def VT (P : Program) (ops : Array Oper) (Q : Exit → Act → World → Prop) (D : Nat → List Nat) : OT → Acc → Act → World → Prop
  | .nil, _, a, w => Q .normal a w
  | .no, _, _, _ => True
  | .st i t, acc, a, w => ∃ o, ops[i]? = some o ∧ isStatic o.op = true ∧ ∃ v, StEv P ops o a w v ∧ VT P ops Q D t ((i, fun w => StEv P ops o a w v) :: acc) (a.put o.dst v) w
  | .alt i t r, acc, a, w => (∃ o, ops[i]? = some o ∧ isStatic o.op = false ∧ wpOp P ops Q i (fun a' w' => (∃ u, a' = a.put o.dst u) ∧ (∀ p, p ∈ fltr D i acc → p.2 w') ∧ VT P ops Q D t (fltr D i acc) a' w') a w) ∧ VT P ops Q D r acc a w

theorem VT.mono : ∀ (T : OT) (acc acc' : Acc) (a : Act) (w : World), AccLe acc' acc → VT P ops Q D T acc a w → VT P ops Q D T acc' a w := by
  intro T
  induction T with
  | nil => intro acc acc' a w _ h; exact h
  | no => intro acc acc' a w _ h; exact h
  | st i t ih =>
    intro acc acc' a w hle h
    obtain ⟨o, ho, hst, v, hv, h⟩ := h
    exact ⟨o, ho, hst, v, hv, ih _ _ _ _ (hle.cons fun _ h => h) h⟩
  | alt i t r iht ihr =>
    intro acc acc' a w hle h
    obtain ⟨⟨o, ho, hst, h⟩, hr⟩ := h
    refine ⟨⟨o, ho, hst, wpOp_mono (fun a' w' h' => ⟨h'.1, fun p' hp' => ?_, iht _ _ _ _ (hle.fltr D i) h'.2.2⟩) h⟩, ihr _ _ _ _ hle hr⟩
    obtain ⟨p, hp, _, hw⟩ := hle.fltr D i p' hp'
    exact hw _ (h'.2.1 p hp)

theorem okT_st {i : Nat} {t : OT} {R : List Nat} (h : okT ops D (.st i t) R = true) : i ∈ R ∧ statN ops.toList i = true ∧ (∀ e, e ∈ edgesOf ops.toList i → e ∉ R) ∧ (∀ x, x ∈ R → x = i ∨ x ∈ D i ∨ apartN ops i x = true) ∧ okT ops D t (rem i R) = true ∧ entry ops.toList t (rem i R) = true := by
  simp only [okT, Bool.and_eq_true] at h
  obtain ⟨h1, h2, h3, h4, h5, h6⟩ := h
  refine ⟨memN_iff.1 h1, h2, rdy_iff.1 h3, fun x hx => ?_, h5, h6⟩
  have := allN_iff.1 h4 x hx
  simp only [Bool.or_eq_true] at this
  rcases this with e | e | e
  · exact .inl (Nat.eq_of_beq_eq_true e)
  · exact .inr (.inl (memN_iff.1 e))
  · exact .inr (.inr e)
theorem okT_alt {i : Nat} {t r : OT} {R : List Nat} (h : okT ops D (.alt i t r) R = true) : i ∈ R ∧ (∃ o, ops[i]? = some o ∧ isStatic o.op = false) ∧ (∀ e, e ∈ edgesOf ops.toList i → e ∉ R) ∧ okT ops D t (rem i R) = true ∧ entry ops.toList t (rem i R) = true ∧ isAlt r = true ∧ okT ops D r R = true := by
  simp only [okT, Bool.and_eq_true] at h
  obtain ⟨h1, h2, h3, ⟨h4, h5⟩, h6, h7⟩ := h
  refine ⟨memN_iff.1 h1, ?_, rdy_iff.1 h3, h4, h5, h6, h7⟩
  split at h2
  · rename_i o ho
    exact ⟨o, nth_get ho, by simpa using h2⟩
  · cases h2
theorem heads_no {x : Nat} : ∀ {T : OT} {R : List Nat}, okT ops D T R = true → x ∈ heads T → ∃ o, ops[x]? = some o ∧ isStatic o.op = false
  | .alt i t r, R, h, hx => by
    obtain ⟨h1, h2, h3, h4, h5, h6, h7⟩ := okT_alt h
    rcases List.mem_cons.1 hx with rfl | hx
    · exact h2
    · exact heads_no h7 hx
  | .nil, _, _, hx => by cases hx
  | .no, _, _, hx => by cases hx
  | .st _ _, _, _, hx => by cases hx
theorem entry_mem {T : OT} {R : List Nat} (h : entry ops.toList T R = true) (ha : isAlt T = true) {x : Nat} (hx : x ∈ R) (hr : ∀ e, e ∈ edgesOf ops.toList x → e ∉ R) : x ∈ heads T := by
  cases T with
  | nil => cases ha
  | st => cases ha
  | no => cases h
  | alt i t r =>
  have := allN_iff.1 h x hx
  rw [rdy_iff.2 hr] at this
  exact memN_iff.1 this

/-- What the schedule keeps of the remaining operations. -/
structure RestT (ops : Array Oper) (D : Nat → List Nat) (R : List Nat) (listed : Array Bool) : Prop where
  size : listed.size = ops.size
  mem : ∀ i, i < ops.size → (listed.getD i true = false ↔ i ∈ R)
  lt : ∀ i, i ∈ R → i < ops.size
  nodup : R.Nodup
  desc : ∀ s, s ∈ R → ∀ x, x ∈ D s → x ∈ R
  edge : ∀ s, s ∈ R → ∀ x, x ∈ D s → ∃ e, e ∈ edgesOf ops.toList x ∧ (e = s ∨ e ∈ D s)
  sel : ∀ i, i ∈ R → selN ops.toList i = true
  elt : ∀ x, x ∈ R → ∀ e, e ∈ edgesOf ops.toList x → e < ops.size

theorem RestT.not_desc {R : List Nat} {listed : Array Bool} (h : RestT ops D R listed) {s x : Nat} (hs : s ∈ R) (hx : ∀ e, e ∈ edgesOf ops.toList x → e ∉ R) : x ∉ D s := by
  intro hd
  obtain ⟨e, he, h' | h'⟩ := h.edge s hs x hd
  · subst h'; exact hx e he hs
  · exact hx e he (h.desc s hs e h')

theorem rem_nodup {i : Nat} : ∀ {l : List Nat}, l.Nodup → (rem i l).Nodup
  | [], _ => List.nodup_nil
  | x :: r, h => by
    obtain ⟨h1, h2⟩ := List.nodup_cons.1 h
    simp only [rem]
    cases Nat.beq x i
    · exact List.nodup_cons.2 ⟨fun hx => h1 (mem_rem.1 hx).1, rem_nodup h2⟩
    · exact rem_nodup h2
theorem rem_len {i : Nat} : ∀ {l : List Nat}, l.Nodup → i ∈ l → (rem i l).length + 1 = l.length
  | [], _, h => by cases h
  | x :: r, h, hi => by
    obtain ⟨h1, h2⟩ := List.nodup_cons.1 h
    simp only [rem]
    cases hb : Nat.beq x i
    · have hx : x ≠ i := fun e => by subst e; simp at hb
      have : i ∈ r := (List.mem_cons.1 hi).resolve_left fun e => hx e.symm
      simp [rem_len h2 this]
    · have hx := Nat.eq_of_beq_eq_true hb
      subst hx
      have : rem x r = r := rem_not h1
      simp [this]
where
  rem_not {i : Nat} : ∀ {l : List Nat}, i ∉ l → rem i l = l
    | [], _ => rfl
    | x :: r, h => by
      simp only [List.mem_cons, not_or] at h
      simp only [rem]
      cases hb : Nat.beq x i
      · simp [rem_not h.2]
      · exact absurd (Nat.eq_of_beq_eq_true hb).symm h.1
theorem rem_comm (i j : Nat) : ∀ (l : List Nat), rem i (rem j l) = rem j (rem i l)
  | [] => rfl
  | x :: r => by
    simp only [rem]
    cases h1 : Nat.beq x i <;> cases h2 : Nat.beq x j <;> simp [rem, h1, h2, rem_comm i j r]

theorem RestT.step {R : List Nat} {listed : Array Bool} (hr : RestT ops D R listed) {i : Nat} (hi : i ∈ R) (hed : ∀ e, e ∈ edgesOf ops.toList i → e ∉ R) : RestT ops D (rem i R) (listed.setIfInBounds i true) := by
  have sub : ∀ x, x ∈ rem i R → x ∈ R := fun x hx => (mem_rem.1 hx).1
  refine ⟨by simp [hr.size], fun x hx => ?_, fun x hx => hr.lt x (sub x hx), rem_nodup hr.nodup, fun s hs x hx => ?_, fun s hs => hr.edge s (sub s hs), fun x hx => hr.sel x (sub x hx), fun x hx => hr.elt x (sub x hx)⟩
  · by_cases e : i = x
    · subst e
      simp only [Array.getD_eq_getD_getElem?]
      have : i < listed.size := by rw [hr.size]; exact hx
      simp [this, mem_rem]
    · rw [getD_set_ne true e, hr.mem x hx, mem_rem]
      exact ⟨fun h => ⟨h, Ne.symm e⟩, fun h => h.1⟩
  · refine mem_rem.2 ⟨hr.desc s (sub s hs) x hx, fun e => ?_⟩
    subst e
    exact hr.not_desc (sub s hs) hed hx

theorem okT_pull {i : Nat} : ∀ {T : OT} {R : List Nat}, okT ops D T R = true → entry ops.toList T R = true → i ∈ R → (∀ e, e ∈ edgesOf ops.toList i → e ∉ R) → (okT ops D (pull i T) (rem i R) = true ∧ entry ops.toList (pull i T) (rem i R) = true)
  | .nil, R, h, _, hi, _ => by
    cases R with
    | nil => cases hi
    | cons => cases h
  | .no, R, h, he, hi, hed => by have := entry_mem he rfl hi hed; cases this
  | .st s t, R, h, he, hi, hed => by
    obtain ⟨h1, h2, h3, h4, h5, h6⟩ := okT_st h
    simp only [pull]
    cases hb : Nat.beq s i
    · have hne : s ≠ i := fun e => by subst e; simp at hb
      have hi' : i ∈ rem s R := mem_rem.2 ⟨hi, Ne.symm hne⟩
      have hed' : ∀ e, e ∈ edgesOf ops.toList i → e ∉ rem s R := fun e he hm => hed e he (mem_rem.1 hm).1
      obtain ⟨g1, g2⟩ := okT_pull h5 h6 hi' hed'
      refine ⟨?_, rfl⟩
      simp only [cond, okT, Bool.and_eq_true]
      refine ⟨memN_iff.2 (mem_rem.2 ⟨h1, hne⟩), h2, rdy_iff.2 fun e he hm => h3 e he (mem_rem.1 hm).1, allN_iff.2 fun x hx => ?_, by rw [rem_comm]; exact g1, by rw [rem_comm]; exact g2⟩
      simp only [Bool.or_eq_true]
      rcases h4 x (mem_rem.1 hx).1 with e | e | e
      · subst e; exact .inl (Nat.beq_refl _)
      · exact .inr (.inl (memN_iff.2 e))
      · exact .inr (.inr e)
    · have hs := Nat.eq_of_beq_eq_true hb
      subst hs
      exact ⟨h5, h6⟩
  | .alt k t r, R, h, he, hi, hed => by
    have hh := entry_mem he rfl hi hed
    exact go (T := .alt k t r) h hh
where
  go {i : Nat} : ∀ {T : OT} {R : List Nat}, okT ops D T R = true → i ∈ heads T → (okT ops D (pull i T) (rem i R) = true ∧ entry ops.toList (pull i T) (rem i R) = true)
    | .alt k t r, R, h, hh => by
      obtain ⟨h1, h2, h3, h4, h5, h6, h7⟩ := okT_alt h
      simp only [pull]
      cases hb : Nat.beq k i
      · have hne : k ≠ i := fun e => by subst e; simp at hb
        exact go h7 ((List.mem_cons.1 hh).resolve_left fun e => hne e.symm)
      · have hs := Nat.eq_of_beq_eq_true hb
        subst hs
        exact ⟨h4, h5⟩
    | .nil, _, _, hh => by cases hh
    | .no, _, _, hh => by cases hh
    | .st _ _, _, _, hh => by cases hh

theorem apartN_get {s x : Nat} (h : apartN ops s x = true) {os ox : Oper} (hs : ops[s]? = some os) (hx : ops[x]? = some ox) : os.apart ops ox = true := by
  have h1 : nth ops.toList s = some os := by rw [nth_eq, Array.getElem?_toList]; exact hs
  have h2 : nth ops.toList x = some ox := by rw [nth_eq, Array.getElem?_toList]; exact hx
  simpa [apartN, h1, h2] using h
theorem selN_get {s : Nat} (h : selN ops.toList s = true) {os : Oper} (hs : ops[s]? = some os) : noSel os.op = true := by
  have h1 : nth ops.toList s = some os := by rw [nth_eq, Array.getElem?_toList]; exact hs
  simpa [selN, h1] using h

/-- A reading operation that can come comes first. -/
theorem VT.first_static {x : Nat} {ox : Oper} (hx : ops[x]? = some ox) (hst : isStatic ox.op = true) (hnx : noSel ox.op = true) :
    ∀ (T : OT) (R : List Nat) (acc : Acc) (a : Act) (w : World), okT ops D T R = true → entry ops.toList T R = true → x ∈ R → (∀ e, e ∈ edgesOf ops.toList x → e ∉ R) → (∀ s, s ∈ R → x ∉ D s) → (∀ s, s ∈ R → selN ops.toList s = true) →
      VT P ops Q D T acc a w → ∃ v, StEv P ops ox a w v ∧ VT P ops Q D (pull x T) acc (a.put ox.dst v) w := by
  intro T
  induction T with
  | nil =>
    intro R acc a w h _ hi _ _ _ _
    cases R with
    | nil => cases hi
    | cons => cases h
  | no =>
    intro R acc a w h he hi hed _ _ _
    have := entry_mem he rfl hi hed; cases this
  | alt k t r _ _ =>
    intro R acc a w h he hi hed _ _ _
    obtain ⟨o, ho, hn⟩ := heads_no h (entry_mem he rfl hi hed)
    rw [hx] at ho
    have := Option.some.inj ho
    subst this
    rw [hst] at hn; cases hn
  | st s t ih =>
    intro R acc a w h he hi hed hnd hsel hv
    obtain ⟨h1, h2, h3, h4, h5, h6⟩ := okT_st h
    obtain ⟨os, hos, hss, vs, hvs, hv⟩ := hv
    simp only [pull]
    cases hb : Nat.beq s x
    · have hne : s ≠ x := fun e => by subst e; simp at hb
      have hap : os.apart ops ox = true := by
        rcases h4 x hi with e | e | e
        · exact absurd e.symm hne
        · exact absurd e (hnd s h1)
        · exact apartN_get e hos hx
      have hsn := selN_get (hsel s h1) hos
      have sub : ∀ y, y ∈ rem s R → y ∈ R := fun y hy => (mem_rem.1 hy).1
      obtain ⟨v, hv1, h2'⟩ := ih (rem s R) _ _ _ h5 h6 (mem_rem.2 ⟨hi, Ne.symm hne⟩) (fun e he hm => hed e he (sub e hm)) (fun y hy => hnd y (sub y hy)) (fun y hy => hsel y (sub y hy)) hv
      refine ⟨v, (StEv.put hap hnx).1 hv1, os, hos, hss, vs, (StEv.put (apart_symm hap) hsn).2 hvs, ?_⟩
      obtain ⟨_, h2'', _⟩ := Oper.apart_spec hap
      rw [← Act.put_comm a vs v h2'']
      exact h2'.mono _ _ _ _ _ ((AccLe.refl acc).cons fun w' hw' => (StEv.put (apart_symm hap) hsn).2 hw')
    · have hs := Nat.eq_of_beq_eq_true hb
      subst hs
      obtain rfl : os = ox := by rw [hx] at hos; exact (Option.some.inj hos).symm
      exact ⟨vs, hvs, hv.mono _ _ _ _ _ (AccLe.drop _ _)⟩

theorem VT.alt_get {x : Nat} {ox : Oper} (hx : ops[x]? = some ox) : ∀ (T : OT) (acc : Acc) (a : Act) (w : World), x ∈ heads T → VT P ops Q D T acc a w →
    wpOp P ops Q x (fun a' w' => (∃ u, a' = a.put ox.dst u) ∧ (∀ p, p ∈ fltr D x acc → p.2 w') ∧ VT P ops Q D (pull x T) (fltr D x acc) a' w') a w := by
  intro T
  induction T with
  | nil => intro _ _ _ h; cases h
  | no => intro _ _ _ h; cases h
  | st _ _ _ => intro _ _ _ h; cases h
  | alt k t r _ ihr =>
    intro acc a w h hv
    obtain ⟨⟨o, ho, _, h1⟩, h2⟩ := hv
    simp only [pull]
    cases hb : Nat.beq k x
    · have hne : k ≠ x := fun e => by subst e; simp at hb
      exact ihr acc a w ((List.mem_cons.1 h).resolve_left fun e => hne e.symm) h2
    · have hs := Nat.eq_of_beq_eq_true hb
      subst hs
      obtain rfl : o = ox := by rw [hx] at ho; exact (Option.some.inj ho).symm
      exact h1

/-- An operation that may change the world, and that can come, comes first. -/
theorem VT.first_change {x : Nat} {ox : Oper} (hx : ops[x]? = some ox) (hst : isStatic ox.op = false) (hnx : noSel ox.op = true) (hQ : ∀ c a w, ¬ Q (.panic c) a w) :
    ∀ (T : OT) (R : List Nat) (acc : Acc) (a : Act) (w : World), okT ops D T R = true → entry ops.toList T R = true → x ∈ R → (∀ e, e ∈ edgesOf ops.toList x → e ∉ R) → (∀ s, s ∈ R → x ∉ D s) → (∀ s, s ∈ R → selN ops.toList s = true) →
      VT P ops Q D T acc a w → wpOp P ops Q x (fun a' w' => (∃ u, a' = a.put ox.dst u) ∧ (∀ p, p ∈ fltr D x acc → p.2 w') ∧ VT P ops Q D (pull x T) (fltr D x acc) a' w') a w := by
  intro T
  induction T with
  | nil =>
    intro R acc a w h _ hi _ _ _ _
    cases R with
    | nil => cases hi
    | cons => cases h
  | no =>
    intro R acc a w h he hi hed _ _ _
    have := entry_mem he rfl hi hed; cases this
  | alt k t r _ _ =>
    intro R acc a w h he hi hed _ _ hv
    exact VT.alt_get hx _ acc a w (entry_mem he rfl hi hed) hv
  | st s t ih =>
    intro R acc a w h he hi hed hnd hsel hv
    obtain ⟨h1, h2, h3, h4, h5, h6⟩ := okT_st h
    obtain ⟨os, hos, hss, vs, hvs, hv⟩ := hv
    have hne : s ≠ x := fun e => by
      subst e
      rw [hx] at hos
      have := Option.some.inj hos
      subst this
      rw [hst] at hss; cases hss
    have hap : os.apart ops ox = true := by
      rcases h4 x hi with e | e | e
      · exact absurd e.symm hne
      · exact absurd e (hnd s h1)
      · exact apartN_get e hos hx
    have hsn := selN_get (hsel s h1) hos
    have sub : ∀ y, y ∈ rem s R → y ∈ R := fun y hy => (mem_rem.1 hy).1
    have hxd := hnd s h1
    have h2' := wpOp_pull (K := fun a' w' => (∀ p, p ∈ fltr D x ((s, fun w => StEv P ops os a w vs) :: acc) → p.2 w') ∧ VT P ops Q D (pull x t) (fltr D x ((s, fun w => StEv P ops os a w vs) :: acc)) a' w') hx hap hnx hQ
      (ih (rem s R) _ _ _ h5 h6 (mem_rem.2 ⟨hi, Ne.symm hne⟩) (fun e he hm => hed e he (sub e hm)) (fun y hy => hnd y (sub y hy)) (fun y hy => hsel y (sub y hy)) hv)
    have hf : fltr D x ((s, fun w => StEv P ops os a w vs) :: acc) = (s, fun w => StEv P ops os a w vs) :: fltr D x acc := by
      have : memN x (D s) = false := by
        cases hm : memN x (D s)
        · rfl
        · exact absurd (memN_iff.1 hm) hxd
      simp [fltr, this]
    have hb : Nat.beq s x = false := by
      cases hb : Nat.beq s x
      · rfl
      · exact absurd (Nat.eq_of_beq_eq_true hb) hne
    simp only [pull, hb, cond]
    refine wpOp_mono (fun a' w' ⟨⟨u, hu⟩, hk, hv⟩ => ?_) h2'
    rw [hf] at hk hv
    refine ⟨⟨u, hu⟩, fun p hp => hk p (List.mem_cons_of_mem _ hp), os, hos, hss, vs, ?_, ?_⟩
    · rw [hu]
      exact (StEv.put (apart_symm hap) hsn).2 (hk _ List.mem_cons_self)
    · refine hv.mono _ _ _ _ _ ((AccLe.refl _).cons fun w3 h3 => ?_)
      rw [hu]
      exact (StEv.put (apart_symm hap) hsn).2 h3

theorem has_ready : ∀ {T : OT} {R : List Nat}, okT ops D T R = true → entry ops.toList T R = true → R ≠ [] → ∃ i, i ∈ R ∧ ∀ e, e ∈ edgesOf ops.toList i → e ∉ R
  | .nil, R, h, _, hR => by
    cases R with
    | nil => exact absurd rfl hR
    | cons => cases h
  | .no, _, _, he, _ => by cases he
  | .st s t, _, h, _, _ => by obtain ⟨h1, h2, h3, _⟩ := okT_st h; exact ⟨s, h1, h3⟩
  | .alt s t r, _, h, _, _ => by obtain ⟨h1, h2, h3, _⟩ := okT_alt h; exact ⟨s, h1, h3⟩

theorem ready_edgeT {R : List Nat} {listed : Array Bool} (hr : RestT ops D R listed) {i : Nat} (hi : i ∈ Region.ready .any ops listed) :
    i ∈ R ∧ ∀ e, e ∈ edgesOf ops.toList i → e ∉ R := by
  obtain ⟨h0, o, ho, hall⟩ := mem_ready.1 hi
  have hlt : i < ops.size := (Array.getElem?_eq_some_iff.1 ho).1
  refine ⟨(hr.mem i hlt).1 h0, fun e he hel => ?_⟩
  obtain ⟨d, hd, hb, rfl⟩ := (mem_edges ho).1 he
  have h1 := hall d hd hb
  have h2 := (hr.mem d.on (hr.lt _ hel)).2 hel
  have hs : d.on < listed.size := by rw [hr.size]; exact hr.lt _ hel
  simp [Array.getD, hs] at h1 h2
  rw [h1] at h2; cases h2

theorem VT.any (hQ : ∀ c a w, ¬ Q (.panic c) a w) : ∀ (fuel : Nat) (T : OT) (R : List Nat) (listed : Array Bool) (acc : Acc) (a : Act) (w : World),
    RestT ops D R listed → okT ops D T R = true → entry ops.toList T R = true → R.length = fuel → VT P ops Q D T acc a w → wpAny P .any ops Q fuel listed a w := by
  intro fuel
  induction fuel with
  | zero =>
    intro T R listed acc a w hr hT he hl h
    have : R = [] := List.eq_nil_of_length_eq_zero hl
    subst this
    have hTn : T = .nil := by
      cases T with
      | nil => rfl
      | no => cases he
      | st s t => have := (okT_st hT).1; cases this
      | alt s t r => have := (okT_alt hT).1; cases this
    subst hTn
    refine ⟨?_, h⟩
    cases hc : Region.ready .any ops listed with
    | nil => rfl
    | cons x xs =>
      have := (ready_edgeT hr (i := x) (by rw [hc]; exact List.mem_cons_self)).1
      cases this
  | succ fuel ih =>
    intro T R listed acc a w hr hT he hl h
    refine ⟨fun hnil => ?_, fun i hi => ?_⟩
    · exfalso
      obtain ⟨x, hxR, hxe⟩ := has_ready hT he (fun e => by rw [e] at hl; cases hl)
      obtain ⟨o, ho⟩ : ∃ o, ops[x]? = some o := ⟨_, Array.getElem?_eq_getElem (hr.lt x hxR)⟩
      have hx : x ∈ Region.ready .any ops listed := by
        refine mem_ready.2 ⟨(hr.mem x (hr.lt x hxR)).2 hxR, o, ho, fun d hd hb => ?_⟩
        have hde : d.on ∈ edgesOf ops.toList x := (mem_edges ho).2 ⟨d, hd, hb, rfl⟩
        by_cases hlt : d.on < ops.size
        · cases hg : listed.getD d.on false
          · exfalso
            have hs : d.on < listed.size := by rw [hr.size]; exact hlt
            have h2 : listed.getD d.on true = false := by
              simp [Array.getD, hs] at hg ⊢; exact hg
            exact hxe _ hde ((hr.mem d.on hlt).1 h2)
          · rfl
        · exact absurd (hr.elt x hxR _ hde) hlt
      rw [hnil] at hx; cases hx
    · obtain ⟨hil, hed⟩ := ready_edgeT hr hi
      obtain ⟨_, oi, hoi, _⟩ := mem_ready.1 hi
      have hsel := selN_get (hr.sel i hil) hoi
      have hnd : ∀ s, s ∈ R → i ∉ D s := fun s hs => hr.not_desc hs hed
      have hr' := hr.step hil hed
      have hlen : (rem i R).length = fuel := by have := rem_len hr.nodup hil; omega
      obtain ⟨hT', he'⟩ := okT_pull hT he hil hed
      cases hst : isStatic oi.op
      · have := VT.first_change hoi hst hsel hQ T R acc a w hT he hil hed hnd hr.sel h
        exact wpOp_mono (fun a' w' h' => ih _ _ _ _ _ _ hr' hT' he' hlen h'.2.2) this
      · obtain ⟨v, hv, h'⟩ := VT.first_static hoi hst hsel T R acc a w hT he hil hed hnd hr.sel h
        have hk := ih _ _ _ _ _ _ hr' hT' he' hlen h'
        unfold wpOp
        simp only [hoi]
        unfold StEv at hv
        split at hv
        · rename_i hw
          rw [if_pos hw]
          refine .inl ?_
          unfold Oper.wp
          rw [hv]
          exact hk
        · rename_i hw
          rw [if_neg hw]
          subst hv
          exact hk

def chkTree (ops : Array Oper) (D : Nat → List Nat) (T : OT) : Bool :=
  allN (selN ops.toList) (List.range ops.size) && (allN (fun x => allN (fun e => Nat.blt e ops.size) (edgesOf ops.toList x)) (List.range ops.size) && (allN (fun s => allN (fun x => Nat.blt x ops.size && anyN (fun e => Nat.beq e s || memN e (D s)) (edgesOf ops.toList x)) (D s)) (List.range ops.size) &&
    (okT ops D T (List.range ops.size) && entry ops.toList T (List.range ops.size))))
theorem rest_startT {T : OT} (h : chkTree ops D T = true) : RestT ops D (List.range ops.size) (Array.replicate ops.size false) ∧ okT ops D T (List.range ops.size) = true ∧ entry ops.toList T (List.range ops.size) = true := by
  simp only [chkTree, Bool.and_eq_true] at h
  obtain ⟨h1, h2, h3, h4, h5⟩ := h
  refine ⟨⟨by simp, fun i hi => by simp [hi, Array.getD], fun i hi => List.mem_range.1 hi, List.nodup_range, fun s hs x hx => ?_, fun s hs x hx => ?_, fun i hi => allN_iff.1 h1 i hi, fun x hx e he => ?_⟩, h4, h5⟩
  · have := allN_iff.1 (allN_iff.1 h3 s hs) x hx
    rw [Bool.and_eq_true] at this
    exact List.mem_range.2 (by simpa [Nat.blt_eq] using this.1)
  · have := allN_iff.1 (allN_iff.1 h3 s hs) x hx
    rw [Bool.and_eq_true] at this
    obtain ⟨e, he, h⟩ := anyN_iff.1 this.2
    refine ⟨e, he, ?_⟩
    rcases Bool.or_eq_true _ _ ▸ h with h' | h'
    · exact .inl (Nat.eq_of_beq_eq_true h')
    · exact .inr (memN_iff.1 h')
  · have := allN_iff.1 (allN_iff.1 h2 x hx) e he
    simpa [Nat.blt_eq] using this

/-- The operations of a tree. -/
def inT : OT → List Nat
  | .nil => []
  | .no => []
  | .st i t => i :: inT t
  | .alt i t r => i :: (inT t ++ inT r)

theorem Off_mono {l l' : List Nat} (h : ∀ x, x ∈ l' → x ∈ l) {t : Nat} (ht : Off ops l t) : Off ops l' t := fun j hj => ht j (h j hj)

theorem vopsT_VT {K : Fr → World → Prop} (hok : opsOk n ops.toList = true) :
    ∀ (T : OT) (R sk : List Nat) (acc accP : Acc) (f : Fr) (a : Act) (w : World), okT ops D T R = true → vopsT P ops.toList D K T sk acc f w → Sim n f a → SkOk sk f →
      AccRel accP acc → (∀ p, p ∈ accP → p.2 w) →
      (∀ f' a' w', Sim n f' a' → (∀ t, Off ops (inT T) t → f' t = f t) → K f' w' → Q .normal a' w') → VT P ops Q D T accP a w := by
  -- one operation
  have one : ∀ (i : Nat) (t : OT) (o : Oper) (sk : List Nat) (acc accP : Acc) (f : Fr) (a : Act) (w : World), ops[i]? = some o → isStatic o.op = false →
      (∀ (sk : List Nat) (acc accP : Acc) (f : Fr) (a : Act) (w : World), vopsT P ops.toList D K t sk acc f w → Sim n f a → SkOk sk f → AccRel accP acc → (∀ p, p ∈ accP → p.2 w) →
        (∀ f' a' w', Sim n f' a' → (∀ x, Off ops (inT t) x → f' x = f x) → K f' w' → Q .normal a' w') → VT P ops Q D t accP a w) →
      vgd ops.toList o.guard sk f (fun f => vone P true D i o sk acc f w (vopsT P ops.toList D K t)) (fun f => vopsT P ops.toList D K t (skAdd o.dst sk) acc (put f o.dst undef) w) →
      Sim n f a → SkOk sk f → AccRel accP acc → (∀ p, p ∈ accP → p.2 w) →
      (∀ f' a' w', Sim n f' a' → (∀ x, Off ops (i :: inT t) x → f' x = f x) → K f' w' → Q .normal a' w') →
      wpOp P ops Q i (fun a' w' => (∃ u, a' = a.put o.dst u) ∧ (∀ p, p ∈ fltr D i accP → p.2 w') ∧ VT P ops Q D t (fltr D i accP) a' w') a w := by
    intro i t o sk acc accP f a w hi hst ih h hs hsk hrel hnow hK
    have offr : ∀ x, Off ops (i :: inT t) x → Off ops (inT t) x := fun x hx => Off_mono (fun y hy => List.mem_cons_of_mem _ hy) hx
    have hoff : ∀ x, Off ops (i :: inT t) x → o.dst ≠ some x := fun x hx => hx i List.mem_cons_self o hi
    have hnext : ∀ v f' a' w', Sim n f' a' → (∀ x, Off ops (inT t) x → f' x = put f o.dst v x) → K f' w' → Q .normal a' w' := fun v f' a' w' hs' ht hk =>
      hK f' a' w' hs' (fun x h => (ht x (offr x h)).trans (put_off (hoff x h) _ _)) hk
    rcases vgd_cases hok hs hsk h with ⟨hw, h⟩ | ⟨hw, h⟩
    · simp only [vone, cond] at h
      rw [hst] at h
      unfold wpOp
      simp only [hi]
      rw [if_pos hw]
      refine .inl (vop_sound h hs fun v w' hN => ?_)
      obtain ⟨hk1, hk2⟩ := vkeeps_spec hN
      have hall : ∀ p, p ∈ fltr D i accP → p.2 w' := fun p' hp' => by
        rcases hrel.fltr i p' hp' with h' | ⟨p, hp, _, hw'⟩
        · exact h' w'
        · exact hw' w' (hk1 p hp)
      exact ⟨⟨v, rfl⟩, hall, ih _ _ _ _ _ _ hk2 (hs.put (opsOk_get hok hi) v) (skOk_del hsk _ _) (hrel.fltr i) hall (hnext v)⟩
    · unfold wpOp
      simp only [hi]
      rw [if_neg (by simp [hw])]
      refine ⟨⟨_, rfl⟩, fun p hp => hnow p (mem_fltr.1 hp).1, ?_⟩
      exact ih _ _ _ _ _ _ h (hs.put (opsOk_get hok hi) undef) (skOk_add hsk _)
        (fun p' hp' => hrel p' (mem_fltr.1 hp').1) (fun p hp => hnow p (mem_fltr.1 hp).1) (hnext undef)
  intro T
  induction T with
  | nil => intro R sk acc accP f a w _ h hs _ _ _ hK; exact hK f a w hs (fun _ _ => rfl) h
  | no => intro R sk acc accP f a w _ h hs _ _ _ hK; trivial
  | alt i t r iht ihr =>
    intro R sk acc accP f a w hT h hs hsk hrel hnow hK
    obtain ⟨h1, ⟨o, hi, hst⟩, h3, h4, h5, h6, h7⟩ := okT_alt hT
    obtain ⟨hA, hB⟩ := h
    have hn : nth ops.toList i = some o := by rw [nth_eq, Array.getElem?_toList]; exact hi
    rw [hn] at hA
    refine ⟨⟨o, hi, hst, one i t o sk acc accP f a w hi hst (fun sk acc accP f a w => iht _ sk acc accP f a w h4) hA hs hsk hrel hnow fun f' a' w' hs' ht hk => hK f' a' w' hs' (fun x hx => ht x ?_) hk⟩, ihr _ _ _ _ _ _ _ h7 hB hs hsk hrel hnow fun f' a' w' hs' ht hk => hK f' a' w' hs' (fun x hx => ht x ?_) hk⟩
    · exact Off_mono (fun y hy => by rcases List.mem_cons.1 hy with rfl | hy; exact List.mem_cons_self; exact List.mem_cons_of_mem _ (List.mem_append_left _ hy)) hx
    · exact Off_mono (fun y hy => List.mem_cons_of_mem _ (List.mem_append_right _ hy)) hx
  | st i t ih =>
    intro R sk acc accP f a w hT h hs hsk hrel hnow hK
    obtain ⟨h1, h2, h3, h4, h5, h6⟩ := okT_st hT
    simp only [vopsT] at h
    cases ho : nth ops.toList i with
    | none => rw [ho] at h; exact h.elim
    | some o =>
      rw [ho] at h
      have hi := nth_get ho
      have hst : isStatic o.op = true := by simpa [statN, ho] using h2
      have offr : ∀ x, Off ops (i :: inT t) x → Off ops (inT t) x := fun x hx => Off_mono (fun y hy => List.mem_cons_of_mem _ hy) hx
      have hoff : ∀ x, Off ops (i :: inT t) x → o.dst ≠ some x := fun x hx => hx i List.mem_cons_self o hi
      refine ⟨o, hi, hst, ?_⟩
      have hnext : ∀ v f' a' w', Sim n f' a' → (∀ x, Off ops (inT t) x → f' x = put f o.dst v x) → K f' w' → Q .normal a' w' := fun v f' a' w' hs' ht hk =>
        hK f' a' w' hs' (fun x h => (ht x (offr x h)).trans (put_off (hoff x h) _ _)) hk
      rcases vgd_cases hok hs hsk h with ⟨hw, h⟩ | ⟨hw, h⟩
      · simp only [vone, cond] at h
        rw [hst] at h
        cases hfr : isFree o.op
        · rw [hfr] at h
          obtain ⟨v, w', hr, hww, hN⟩ := vop_run hst h
          subst hww
          have hev : StEv P ops o a w' v := by unfold StEv; rw [if_pos hw, hs.eval]; exact hr
          refine ⟨v, hev, ih _ _ _ _ _ _ _ h5 hN (hs.put (opsOk_get hok hi) v) (skOk_del hsk _ _) (hrel.add fun w2 h2 => ?_) (fun p hp => ?_) (hnext v)⟩
          · obtain ⟨v', w3, hr', hv', hw3⟩ := vop_run hst h2
            subst hv'; subst hw3
            unfold StEv; rw [if_pos hw, hs.eval]; exact hr'
          · rcases List.mem_cons.1 hp with rfl | hp
            · exact hev
            · exact hnow p hp
        · rw [hfr] at h
          obtain ⟨v, hr, hN⟩ := free_run hfr h
          have hev : ∀ w2, StEv P ops o a w2 v := fun w2 => by unfold StEv; rw [if_pos hw, hs.eval]; exact hr w2
          refine ⟨v, hev w, ih _ _ _ _ _ _ _ h5 hN (hs.put (opsOk_get hok hi) v) (skOk_del hsk _ _) (hrel.addFree hev) (fun p hp => ?_) (hnext v)⟩
          rcases List.mem_cons.1 hp with rfl | hp
          · exact hev w
          · exact hnow p hp
      · have hev : ∀ w2, StEv P ops o a w2 undef := fun w2 => by unfold StEv; rw [if_neg (by simp [hw])]
        refine ⟨undef, hev w, ih _ _ _ _ _ _ _ h5 h (hs.put (opsOk_get hok hi) undef) (skOk_add hsk _) (hrel.addFree hev) (fun p hp => ?_) (hnext undef)⟩
        rcases List.mem_cons.1 hp with rfl | hp
        · exact hev w
        · exact hnow p hp

theorem region_tree {id : Nat} {K : Fr → World → Prop} (hok : opsOk n ops.toList = true) (hm : P.follows .mixedOrders = true) {T : OT} (hc : chkTree ops D T = true)
    (h : vopsT P ops.toList D K T [] [] f { w with drawn := w.drawn + 1 }) (hs : Sim n f a)
    (hK : ∀ f' a' w', Sim n f' a' → (∀ t, (∀ o, o ∈ ops → o.dst ≠ some t) → f' t = f t) → K f' w' → Q .normal a' w') : (Code.region id ops true).wp P Q a w := by
  refine wp_mono (Q := onlyN Q) (wp_region_any hm ?_) fun e a w h => by cases e <;> first | exact h | exact h.elim
  obtain ⟨h1, h2, h3⟩ := rest_startT hc
  refine VT.any (D := D) (fun c a w h => h) ops.size T _ _ [] a _ h1 h2 h3 (by simp) ?_
  exact vopsT_VT hok T _ [] [] [] f a _ h2 h hs (fun d hd => by cases hd) (fun p hp => by cases hp) (fun p hp => by cases hp)
      fun f' a' w' hs' ht hk => hK f' a' w' hs' (fun t hoff => ht t fun i _ o ho => hoff o (Array.mem_of_getElem? ho)) hk
end
end Go.Vc
