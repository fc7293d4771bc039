/- Drawn regions with many operations that are not ordered among themselves: an invariant on which of them are done. -/
import Derived.Test.YtbiabimalkkeiaaGreatDoorVcD
set_option linter.unusedVariables false
set_option linter.unusedSimpArgs false
set_option linter.unnecessarySimpa false
set_option linter.unusedSectionVars false
namespace Go.Vc
open Go

/-- Slots put together, and taken apart. -/
def selL (L : List Nat) (f : Fr) : List Value := match L with | [] => [] | x :: r => f x :: selL r f
def pickL (t : Nat) : List Nat → List Value → Value → Value
  | [], _, d => d
  | x :: L, u, d => cond (Nat.beq t x) (u.headD undef) (pickL t L u.tail d)
def sl : Nat → List Value → Value
  | 0, u => u.headD undef
  | n + 1, u => sl n u.tail
def hav (f : Fr) (L M : List Nat) (u : List Value) (g : Fr) : Fr := fun t => pickL t L u (cond (memN t M) (g t) (f t))

theorem pickL_selL (t : Nat) (f : Fr) (d : Value) : ∀ (L : List Nat), pickL t L (selL L f) d = if t ∈ L then f t else d := by
  intro L
  induction L with
  | nil => simp [pickL]
  | cons x r ih =>
    simp only [pickL, selL, List.headD_cons, List.tail_cons, List.mem_cons, ih]
    cases hb : Nat.beq t x
    · have : t ≠ x := fun e => by subst e; simp at hb
      simp [this]
    · have := Nat.eq_of_beq_eq_true hb
      subst this; simp
theorem hav_self {f f' : Fr} {L M : List Nat} (h : ∀ t, t ∉ M → f' t = f t) : hav f L M (selL L f') f' = f' := by
  funext t
  unfold hav
  rw [pickL_selL]
  split
  · rfl
  · cases hm : memN t M
    · exact (h t fun hx => by rw [memN_iff.2 hx] at hm; cases hm).symm
    · rfl

def filt (S : List Nat) : List Nat → List Nat
  | [] => []
  | e :: r => cond (memN e S) (e :: filt S r) (filt S r)
theorem mem_filt {S : List Nat} {e : Nat} : ∀ {l : List Nat}, e ∈ filt S l ↔ e ∈ l ∧ e ∈ S
  | [] => by simp [filt]
  | x :: r => by
    simp only [filt]
    cases hm : memN x S
    · have hn : x ∉ S := fun h => by rw [memN_iff.2 h] at hm; cases hm
      simp only [cond, mem_filt (l := r), List.mem_cons]
      constructor
      · rintro ⟨h1, h2⟩; exact ⟨.inr h1, h2⟩
      · rintro ⟨rfl | h1, h2⟩
        · exact absurd h2 hn
        · exact ⟨h1, h2⟩
    · have hn := memN_iff.1 hm
      simp only [cond, List.mem_cons, mem_filt (l := r)]
      constructor
      · rintro (rfl | ⟨h1, h2⟩)
        · exact ⟨.inl rfl, hn⟩
        · exact ⟨.inr h1, h2⟩
      · rintro ⟨rfl | h1, h2⟩
        · exact .inl rfl
        · exact .inr ⟨h1, h2⟩
def impD (d : Nat → Prop) (X : Prop) : List Nat → Prop
  | [] => X
  | e :: r => d e → impD d X r
theorem impD_iff {d : Nat → Prop} {X : Prop} : ∀ {l : List Nat}, impD d X l ↔ ((∀ e, e ∈ l → d e) → X)
  | [] => by simp [impD]
  | e :: r => by simp [impD, impD_iff (l := r)]

def vsteps (P : Program) (ops : List Oper) (S L : List Nat) (I : (Nat → Prop) → List Value → World → Prop) (d : Nat → Prop) (F : Fr) (w : World) : List Nat → Prop
  | [] => True
  | i :: r => (match nth ops i with
    | none => False
    | some o => match o.guard with
      | some _ => False
      | none => (d i → False) → impD d (cond (isStatic o.op) (vop P o.op o.type F w fun v w' => w' = w ∧ I (fun x => x = i ∨ d x) (selL L (put F o.dst v)) w) (vop P o.op o.type F w fun v w' => I (fun x => x = i ∨ d x) (selL L (put F o.dst v)) w')) (filt S (edgesOf ops i))) ∧ vsteps P ops S L I d F w r
def vpar (P : Program) (ops : List Oper) (S L : List Nat) (K : Fr → World → Prop) (acc : Acc) (f : Fr) (w : World) : Prop :=
  ∃ I : (Nat → Prop) → List Value → World → Prop, I (fun _ => False) (selL L f) w ∧
    ∀ d u g w, I d u w → vkeeps acc w (vsteps P ops S L I d (hav f L L u g) w S ∧ impD d (K (hav f L L u g) w) S)
def vopsP (P : Program) (ops : List Oper) (D : Nat → List Nat) (S L : List Nat) (K : Fr → World → Prop) : List Nat → List Nat → Acc → Fr → World → Prop
  | [], _, acc, f, w => vpar P ops S L K acc f w
  | i :: r, sk, acc, f, w =>
    match nth ops i with
    | none => False
    | some o => vgd ops o.guard sk f
        (fun f => vone P true D i o sk acc f w (vopsP P ops D S L K r))
        (fun f => vopsP P ops D S L K r (skAdd o.dst sk) acc (put f o.dst undef) w)

section
variable {P : Program} {n : Nat} {ops : Array Oper} {Q : Exit → Act → World → Prop} {D : Nat → List Nat} {a : Act} {f : Fr} {w : World} {S : List Nat}

def PStep (P : Program) (ops : Array Oper) (Q : Exit → Act → World → Prop) (I : (Nat → Prop) → Act → World → Prop) (d : Nat → Prop) (i : Nat) (a : Act) (w : World) : Prop :=
  ∃ o, ops[i]? = some o ∧ ((isStatic o.op = true ∧ ∃ v, StEv P ops o a w v ∧ I (fun x => x = i ∨ d x) (a.put o.dst v) w) ∨
    (isStatic o.op = false ∧ wpOp P ops Q i (fun a' w' => (∃ u, a' = a.put o.dst u) ∧ I (fun x => x = i ∨ d x) a' w') a w))
def Good (P : Program) (ops : Array Oper) (Q : Exit → Act → World → Prop) (S : List Nat) (acc : Acc) (I : (Nat → Prop) → Act → World → Prop) : Prop :=
  ∀ d a w, I d a w → (∀ p, p ∈ acc → p.2 w) ∧ (∀ i, i ∈ S → ¬ d i → (∀ e, e ∈ edgesOf ops.toList i → e ∈ S → d e) → PStep P ops Q I d i a w) ∧ ((∀ i, i ∈ S → d i) → Q .normal a w)
/-- The operations of S that are not in U are done. -/
def VPar (P : Program) (ops : Array Oper) (Q : Exit → Act → World → Prop) (S U : List Nat) (acc : Acc) (a : Act) (w : World) : Prop :=
  ∃ I : (Nat → Prop) → Act → World → Prop, I (fun x => x ∈ S ∧ x ∉ U) a w ∧ Good P ops Q S acc I
def VP (P : Program) (ops : Array Oper) (Q : Exit → Act → World → Prop) (S U : List Nat) : List Nat → Acc → Act → World → Prop
  | [], acc, a, w => VPar P ops Q S U acc a w
  | i :: r, acc, a, w => ∃ o, ops[i]? = some o ∧ isStatic o.op = true ∧ ∃ v, StEv P ops o a w v ∧ VP P ops Q S U r ((i, fun w => StEv P ops o a w v) :: acc) (a.put o.dst v) w

theorem VP.mono {U : List Nat} : ∀ (l : List Nat) (acc acc' : Acc) (a : Act) (w : World), AccLe acc' acc → VP P ops Q S U l acc a w → VP P ops Q S U l acc' a w := by
  intro l
  induction l with
  | nil =>
    intro acc acc' a w hle h
    obtain ⟨I, h1, h2⟩ := h
    refine ⟨I, h1, fun d a w hI => ?_⟩
    obtain ⟨g1, g2, g3⟩ := h2 d a w hI
    refine ⟨fun p' hp' => ?_, g2, g3⟩
    obtain ⟨p, hp, _, hw⟩ := hle p' hp'
    exact hw w (g1 p hp)
  | cons i r ih =>
    intro acc acc' a w hle h
    obtain ⟨o, ho, hst, v, hv, h⟩ := h
    exact ⟨o, ho, hst, v, hv, ih _ _ _ _ (hle.cons fun _ h => h) h⟩

theorem VP.first_static {U : List Nat} {x : Nat} {ox : Oper} (hx : ops[x]? = some ox) (hnx : noSel ox.op = true) (post : List Nat) :
    ∀ (pre : List Nat) (acc : Acc) (a : Act) (w : World), (∀ s, s ∈ pre → ∀ os, ops[s]? = some os → noSel os.op = true ∧ os.apart ops ox = true) →
      VP P ops Q S U (pre ++ x :: post) acc a w → ∃ v, StEv P ops ox a w v ∧ VP P ops Q S U (pre ++ post) acc (a.put ox.dst v) w := by
  intro pre
  induction pre with
  | nil =>
    intro acc a w _ h
    obtain ⟨o, ho, hst, v, hv, h⟩ := h
    obtain rfl : o = ox := by rw [hx] at ho; exact (Option.some.inj ho).symm
    exact ⟨v, hv, h.mono _ _ _ _ _ (AccLe.drop _ _)⟩
  | cons s pre ih =>
    intro acc a w hpre h
    obtain ⟨os, hos, hss, vs, hvs, h⟩ := h
    obtain ⟨hsn, hap⟩ := hpre s List.mem_cons_self os hos
    obtain ⟨v, hv, h2⟩ := ih _ _ _ (fun t ht => hpre t (List.mem_cons_of_mem _ ht)) h
    refine ⟨v, (StEv.put hap hnx).1 hv, os, hos, hss, vs, (StEv.put (apart_symm hap) hsn).2 hvs, ?_⟩
    obtain ⟨_, h2', _⟩ := Oper.apart_spec hap
    rw [← Act.put_comm a vs v h2']
    exact h2.mono _ _ _ _ _ ((AccLe.refl acc).cons fun w' hw' => (StEv.put (apart_symm hap) hsn).2 hw')

theorem done_step {U p q : List Nat} {x : Nat} (hxS : x ∈ S) (hU : U = p ++ x :: q) (hn : U.Nodup) : (fun y => y = x ∨ (y ∈ S ∧ y ∉ U)) = (fun y => y ∈ S ∧ y ∉ p ++ q) := by
  funext y
  refine propext ?_
  subst hU
  rw [List.nodup_append] at hn
  obtain ⟨h1, h2, h3⟩ := hn
  have hxq := (List.nodup_cons.1 h2).1
  have hxp : x ∉ p := fun h => h3 x h x List.mem_cons_self rfl
  simp only [List.mem_append, List.mem_cons, not_or]
  constructor
  · rintro (rfl | ⟨h1, h2, h3, h4⟩)
    · exact ⟨hxS, hxp, hxq⟩
    · exact ⟨h1, h2, h4⟩
  · rintro ⟨h1, h2, h3⟩
    by_cases e : y = x
    · exact .inl e
    · exact .inr ⟨h1, h2, e, h3⟩

theorem VP.first_par_static {U p q : List Nat} {x : Nat} {ox : Oper} (hx : ops[x]? = some ox) (hst : isStatic ox.op = true) (hnx : noSel ox.op = true) (hxS : x ∈ S) (hU : U = p ++ x :: q) (hn : U.Nodup) (hed : ∀ e, e ∈ edgesOf ops.toList x → e ∉ U) :
    ∀ (l : List Nat) (acc : Acc) (a : Act) (w : World), (∀ s, s ∈ l → ∀ os, ops[s]? = some os → noSel os.op = true ∧ os.apart ops ox = true) →
      VP P ops Q S U l acc a w → ∃ v, StEv P ops ox a w v ∧ VP P ops Q S (p ++ q) l acc (a.put ox.dst v) w := by
  intro l
  induction l with
  | nil =>
    intro acc a w _ h
    obtain ⟨I, h1, h2⟩ := h
    obtain ⟨g1, g2, g3⟩ := h2 _ a w h1
    obtain ⟨o, ho, hcase⟩ := g2 x hxS (fun h => h.2 (by rw [hU]; simp)) (fun e he heS => ⟨heS, hed e he⟩)
    obtain rfl : o = ox := by rw [hx] at ho; exact (Option.some.inj ho).symm
    rcases hcase with ⟨_, v, hv, hI⟩ | ⟨hs, _⟩
    · exact ⟨v, hv, I, by rw [← done_step hxS hU hn]; exact hI, h2⟩
    · rw [hst] at hs; cases hs
  | cons s l ih =>
    intro acc a w hpre h
    obtain ⟨os, hos, hss, vs, hvs, h⟩ := h
    obtain ⟨hsn, hap⟩ := hpre s List.mem_cons_self os hos
    obtain ⟨v, hv, h2⟩ := ih _ _ _ (fun t ht => hpre t (List.mem_cons_of_mem _ ht)) h
    refine ⟨v, (StEv.put hap hnx).1 hv, os, hos, hss, vs, (StEv.put (apart_symm hap) hsn).2 hvs, ?_⟩
    obtain ⟨_, h2', _⟩ := Oper.apart_spec hap
    rw [← Act.put_comm a vs v h2']
    exact h2.mono _ _ _ _ _ ((AccLe.refl acc).cons fun w' hw' => (StEv.put (apart_symm hap) hsn).2 hw')

theorem VP.first_par_change {U p q : List Nat} {x : Nat} {ox : Oper} (hx : ops[x]? = some ox) (hst : isStatic ox.op = false) (hnx : noSel ox.op = true) (hQ : ∀ c a w, ¬ Q (.panic c) a w) (hxS : x ∈ S) (hU : U = p ++ x :: q) (hn : U.Nodup) (hed : ∀ e, e ∈ edgesOf ops.toList x → e ∉ U) :
    ∀ (l : List Nat) (acc : Acc) (a : Act) (w : World), (∀ s, s ∈ l → ∀ os, ops[s]? = some os → noSel os.op = true ∧ os.apart ops ox = true) →
      VP P ops Q S U l acc a w → wpOp P ops Q x (fun a' w' => (∃ u, a' = a.put ox.dst u) ∧ (∀ p, p ∈ acc → p.2 w') ∧ VP P ops Q S (p ++ q) l acc a' w') a w := by
  intro l
  induction l with
  | nil =>
    intro acc a w _ h
    obtain ⟨I, h1, h2⟩ := h
    obtain ⟨g1, g2, g3⟩ := h2 _ a w h1
    obtain ⟨o, ho, hcase⟩ := g2 x hxS (fun h => h.2 (by rw [hU]; simp)) (fun e he heS => ⟨heS, hed e he⟩)
    obtain rfl : o = ox := by rw [hx] at ho; exact (Option.some.inj ho).symm
    rcases hcase with ⟨hs, _⟩ | ⟨_, h⟩
    · rw [hst] at hs; cases hs
    · refine wpOp_mono (fun a' w' ⟨hu, hI⟩ => ⟨hu, (h2 _ a' w' hI).1, I, by rw [← done_step hxS hU hn]; exact hI, h2⟩) h
  | cons s l ih =>
    intro acc a w hpre h
    obtain ⟨os, hos, hss, vs, hvs, h⟩ := h
    obtain ⟨hsn, hap⟩ := hpre s List.mem_cons_self os hos
    have h2 := wpOp_pull (K := fun a' w' => (∀ p, p ∈ ((s, fun w => StEv P ops os a w vs) :: acc : Acc) → p.2 w') ∧ VP P ops Q S (p ++ q) l ((s, fun w => StEv P ops os a w vs) :: acc) a' w') hx hap hnx hQ
      (ih _ _ _ (fun t ht => hpre t (List.mem_cons_of_mem _ ht)) h)
    refine wpOp_mono (fun a' w' ⟨⟨u, hu⟩, hk, hv⟩ => ?_) h2
    refine ⟨⟨u, hu⟩, fun p hp => hk p (List.mem_cons_of_mem _ hp), os, hos, hss, vs, ?_, ?_⟩
    · rw [hu]
      exact (StEv.put (apart_symm hap) hsn).2 (hk _ List.mem_cons_self)
    · refine hv.mono _ _ _ _ _ ((AccLe.refl _).cons fun w3 h3 => ?_)
      rw [hu]
      exact (StEv.put (apart_symm hap) hsn).2 h3

/-- What the schedule keeps. -/
structure RestP (ops : Array Oper) (D : Nat → List Nat) (S l0 l U : List Nat) (listed : Array Bool) : Prop where
  sub : ∀ s, s ∈ l → s ∈ l0
  size : listed.size = ops.size
  mem : ∀ i, i < ops.size → (listed.getD i true = false ↔ i ∈ l ++ U)
  lt : ∀ i, i ∈ l ++ U → i < ops.size
  nodup : (l ++ U).Nodup
  us : ∀ i, i ∈ U → i ∈ S
  desc : ∀ s, s ∈ l → ∀ x, x ∈ D s → x ∈ l ++ U
  edge : ∀ s, s ∈ l → ∀ x, x ∈ D s → ∃ e, e ∈ edgesOf ops.toList x ∧ (e = s ∨ e ∈ D s)
  pair : (l ++ U).Pairwise fun s x => s ∈ l0 → x ∈ D s ∨ apartN ops s x = true
  stat : ∀ s, s ∈ l → statN ops.toList s = true
  lin : ∀ pre x post, l ++ U = pre ++ x :: post → ∀ e, e ∈ edgesOf ops.toList x → e ∈ l ++ U → e ∈ pre
  sel : ∀ i, i ∈ l ++ U → selN ops.toList i = true
  elt : ∀ x, x ∈ l ++ U → ∀ e, e ∈ edgesOf ops.toList x → e < ops.size

theorem ready_edgeP {l0 l U : List Nat} {listed : Array Bool} (hr : RestP ops D S l0 l U listed) {i : Nat} (hi : i ∈ Region.ready .any ops listed) :
    i ∈ l ++ U ∧ ∀ e, e ∈ edgesOf ops.toList i → e ∉ l ++ U := by
  obtain ⟨h0, o, ho, hall⟩ := mem_ready.1 hi
  have hlt : i < ops.size := (Array.getElem?_eq_some_iff.1 ho).1
  refine ⟨(hr.mem i hlt).1 h0, fun e he hel => ?_⟩
  obtain ⟨d, hd, hb, rfl⟩ := (mem_edges ho).1 he
  have h1 := hall d hd hb
  have h2 := (hr.mem d.on (hr.lt _ hel)).2 hel
  have hs : d.on < listed.size := by rw [hr.size]; exact hr.lt _ hel
  simp [Array.getD, hs] at h1 h2
  rw [h1] at h2; cases h2

theorem lin_drop {R pre post : List Nat} {i : Nat} (hR : R = pre ++ i :: post) (hn : R.Nodup) (hlin : ∀ pre x post, R = pre ++ x :: post → ∀ e, e ∈ edgesOf ops.toList x → e ∈ R → e ∈ pre) :
    ∀ p x q, pre ++ post = p ++ x :: q → ∀ e, e ∈ edgesOf ops.toList x → e ∈ pre ++ post → e ∈ p := by
  subst hR
  have hsub : (pre ++ post).Sublist (pre ++ i :: post) := List.Sublist.append (List.Sublist.refl _) (List.sublist_cons_self _ _)
  have hni : i ∉ pre ++ post := by
    rw [List.nodup_append] at hn
    obtain ⟨_, h2, h3⟩ := hn
    rw [List.mem_append]
    rintro (h | h)
    · exact h3 i h i List.mem_cons_self rfl
    · exact (List.nodup_cons.1 h2).1 h
  intro p x q hl e he hel
  have hxe : e ∈ pre ++ i :: post := hsub.subset hel
  rcases List.append_eq_append_iff.1 hl with ⟨c, hc1, hc2⟩ | ⟨c, hc1, hc2⟩
  · subst hc1
    have := hlin (pre ++ i :: c) x q (by rw [hc2]; simp) e he hxe
    rw [List.mem_append, List.mem_cons] at this
    rcases this with h | h | h
    · exact List.mem_append_left _ h
    · subst h; exact absurd hel hni
    · exact List.mem_append_right _ h
  · subst hc1
    cases c with
    | nil =>
      simp only [List.nil_append] at hc2
      have := hlin (p ++ [i]) x q (by rw [← hc2]; simp) e he (by simpa using hxe)
      rw [List.mem_append] at this
      rcases this with h | h
      · exact h
      · rw [List.mem_singleton] at h; subst h; exact absurd hel (by simpa using hni)
    | cons y c =>
      simp only [List.cons_append, List.cons.injEq] at hc2
      obtain ⟨rfl, rfl⟩ := hc2
      exact hlin p x (c ++ i :: post) (by simp) e he hxe

/-- One operation less. -/
theorem RestP.step {l0 l U l' U' pre post : List Nat} {i : Nat} {listed : Array Bool} (hr : RestP ops D S l0 l U listed) (hed : ∀ e, e ∈ edgesOf ops.toList i → e ∉ l ++ U)
    (h1 : l ++ U = pre ++ i :: post) (h2 : l' ++ U' = pre ++ post) (hl : ∀ x, x ∈ l' → x ∈ l) (hU : ∀ x, x ∈ U' → x ∈ U) : RestP ops D S l0 l' U' (listed.setIfInBounds i true) := by
  have hsub : ∀ x, x ∈ l' ++ U' → x ∈ l ++ U := fun x hx => by rw [h2] at hx; rw [h1, List.mem_append, List.mem_cons]; rw [List.mem_append] at hx; exact hx.elim .inl fun h => .inr (.inr h)
  have hn := hr.nodup
  have hni : i ∉ l' ++ U' := by
    rw [h2]
    rw [h1, List.nodup_append] at hn
    obtain ⟨_, h2, h3⟩ := hn
    rw [List.mem_append]
    rintro (h | h)
    · exact h3 i h i List.mem_cons_self rfl
    · exact (List.nodup_cons.1 h2).1 h
  have hmem : ∀ x, x ∈ l ++ U → x ≠ i → x ∈ l' ++ U' := by
    intro x hx hne
    rw [h1, List.mem_append, List.mem_cons] at hx
    rw [h2, List.mem_append]
    rcases hx with h | h | h
    · exact .inl h
    · exact absurd h hne
    · exact .inr h
  refine ⟨fun s hs => hr.sub s (hl s hs), by simp [hr.size], fun x hx => ?_, fun x hx => hr.lt x (hsub x hx), ?_, fun x hx => hr.us x (hU x hx), fun s hs x hx => ?_, fun s hs => hr.edge s (hl s hs), ?_, fun s hs => hr.stat s (hl s hs), ?_, fun x hx => hr.sel x (hsub x hx), fun x hx => hr.elt x (hsub x hx)⟩
  · by_cases e : i = x
    · subst e
      simp only [Array.getD_eq_getD_getElem?]
      have : i < listed.size := by rw [hr.size]; exact hx
      simp [this, hni]
    · rw [getD_set_ne true e, hr.mem x hx]
      exact ⟨fun h => hmem x h (Ne.symm e), fun h => hsub x h⟩
  · rw [h2]
    rw [h1] at hn
    exact hn.sublist (List.Sublist.append (List.Sublist.refl _) (List.sublist_cons_self _ _))
  · refine hmem x (hr.desc s (hl s hs) x hx) fun e => ?_
    subst e
    obtain ⟨e, he, h | h⟩ := hr.edge s (hl s hs) x hx
    · subst h; exact hed e he (List.mem_append_left _ (hl _ hs))
    · exact hed e he (hr.desc s (hl s hs) e h)
  · rw [h2]
    have := hr.pair
    rw [h1] at this
    exact this.sublist (List.Sublist.append (List.Sublist.refl _) (List.sublist_cons_self _ _))
  · rw [h2]; exact lin_drop h1 hn hr.lin

theorem VP.any {l0 : List Nat} (hQ : ∀ c a w, ¬ Q (.panic c) a w) : ∀ (fuel : Nat) (l U : List Nat) (listed : Array Bool) (acc : Acc) (a : Act) (w : World),
    RestP ops D S l0 l U listed → (l ++ U).length = fuel → VP P ops Q S U l acc a w → wpAny P .any ops Q fuel listed a w := by
  intro fuel
  induction fuel with
  | zero =>
    intro l U listed acc a w hr hlen h
    have hnil : l ++ U = [] := List.eq_nil_of_length_eq_zero hlen
    obtain ⟨rfl, rfl⟩ := List.append_eq_nil_iff.1 hnil
    obtain ⟨I, h1, h2⟩ := h
    refine ⟨?_, (h2 _ a w h1).2.2 fun i hi => ⟨hi, by simp⟩⟩
    cases hc : Region.ready .any ops listed with
    | nil => rfl
    | cons x xs =>
      have := (ready_edgeP hr (i := x) (by rw [hc]; exact List.mem_cons_self)).1
      simp at this
  | succ fuel ih =>
    intro l U listed acc a w hr hlen h
    refine ⟨fun hnil => ?_, fun i hi => ?_⟩
    · cases hR : l ++ U with
      | nil => rw [hR] at hlen; cases hlen
      | cons x r =>
        exfalso
        have hxm : x ∈ l ++ U := by rw [hR]; exact List.mem_cons_self
        obtain ⟨o, ho⟩ : ∃ o, ops[x]? = some o := ⟨_, Array.getElem?_eq_getElem (hr.lt x hxm)⟩
        have hx : x ∈ Region.ready .any ops listed := by
          refine mem_ready.2 ⟨(hr.mem x (hr.lt x hxm)).2 hxm, o, ho, fun d hd hb => ?_⟩
          have he : d.on ∈ edgesOf ops.toList x := (mem_edges ho).2 ⟨d, hd, hb, rfl⟩
          by_cases hlt : d.on < ops.size
          · cases hg : listed.getD d.on false
            · exfalso
              have hs : d.on < listed.size := by rw [hr.size]; exact hlt
              have h2 : listed.getD d.on true = false := by
                simp [Array.getD, hs] at hg ⊢; exact hg
              have h3 := (hr.mem d.on hlt).1 h2
              have := hr.lin [] x r hR d.on he h3
              cases this
            · rfl
          · exact absurd (hr.elt x hxm _ he) hlt
        rw [hnil] at hx; cases hx
    · obtain ⟨hil, hed⟩ := ready_edgeP hr hi
      obtain ⟨_, oi, hoi, _⟩ := mem_ready.1 hi
      have hsel := selN_get (hr.sel i hil) hoi
      have hpre : ∀ s, s ∈ l → (∃ p q, l ++ U = p ++ s :: q ∧ i ∈ q) → ∀ os, ops[s]? = some os → noSel os.op = true ∧ os.apart ops oi = true := by
        intro s hs hb os hos
        refine ⟨selN_get (hr.sel s (List.mem_append_left _ hs)) hos, ?_⟩
        obtain ⟨p, q, hpq, hiq⟩ := hb
        have hp := hr.pair
        rw [hpq, List.pairwise_append] at hp
        have hp2 := (List.pairwise_cons.1 hp.2.1).1 i hiq (hr.sub s hs)
        rcases hp2 with e | e
        · exfalso
          obtain ⟨e', he', h' | h'⟩ := hr.edge s hs i e
          · subst h'; exact hed e' he' (List.mem_append_left _ hs)
          · exact hed e' he' (hr.desc s hs e' h')
        · exact apartN_get e hos hoi
      have hn := hr.nodup
      by_cases hin : i ∈ l
      · obtain ⟨pre, post, rfl⟩ := List.append_of_mem hin
        have hni : ∀ s, s ∈ pre → ∃ p q, (pre ++ i :: post) ++ U = p ++ s :: q ∧ i ∈ q := fun s hs => by
          obtain ⟨p, q, rfl⟩ := List.append_of_mem hs
          exact ⟨p, q ++ i :: post ++ U, by simp, by simp⟩
        have hst : isStatic oi.op = true := by
          have := hr.stat i hin
          have hnth : nth ops.toList i = some oi := by rw [nth_eq, Array.getElem?_toList]; exact hoi
          simpa [statN, hnth] using this
        obtain ⟨v, hv, h'⟩ := VP.first_static hoi hsel post pre acc a w (fun s hs => hpre s (by simp [hs]) (hni s hs)) h
        have hr' : RestP ops D S l0 (pre ++ post) U (listed.setIfInBounds i true) := hr.step hed (pre := pre) (post := post ++ U) (by simp) (by simp) (fun x hx => by
          rw [List.mem_append] at hx
          rw [List.mem_append, List.mem_cons]
          exact hx.elim .inl fun h => .inr (.inr h)) (fun x hx => hx)
        have hk := ih _ _ _ _ _ _ hr' (by simp at hlen ⊢; omega) h'
        unfold wpOp
        simp only [hoi]
        unfold StEv at hv
        split at hv
        · rename_i hw
          rw [if_pos hw]
          refine .inl ?_
          unfold Oper.wp
          rw [hv]
          exact hk
        · rename_i hw
          rw [if_neg hw]
          subst hv
          exact hk
      · have hiU : i ∈ U := (List.mem_append.1 hil).resolve_left hin
        obtain ⟨p, q, hU⟩ := List.append_of_mem hiU
        have hnU : U.Nodup := (List.nodup_append.1 hn).2.1
        have hr' : RestP ops D S l0 l (p ++ q) (listed.setIfInBounds i true) := hr.step hed (pre := l ++ p) (post := q) (by rw [hU]; simp) (by simp) (fun x hx => hx) (fun x hx => by
          rw [List.mem_append] at hx
          rw [hU, List.mem_append, List.mem_cons]
          exact hx.elim .inl fun h => .inr (.inr h))
        have hlen' : (l ++ (p ++ q)).length = fuel := by rw [hU] at hlen; simp at hlen ⊢; omega
        have hpre' : ∀ s, s ∈ l → ∀ os, ops[s]? = some os → noSel os.op = true ∧ os.apart ops oi = true := fun s hs => hpre s hs (by
          obtain ⟨p', q', e⟩ := List.append_of_mem hs
          exact ⟨p', q' ++ U, by rw [e]; simp, List.mem_append_right _ hiU⟩)
        have hedU : ∀ e, e ∈ edgesOf ops.toList i → e ∉ U := fun e he hm => hed e he (List.mem_append_right _ hm)
        cases hst : isStatic oi.op
        · have := VP.first_par_change hoi hst hsel hQ (hr.us i hiU) hU hnU hedU l acc a w hpre' h
          exact wpOp_mono (fun a' w' h' => ih _ _ _ _ _ _ hr' hlen' h'.2.2) this
        · obtain ⟨v, hv, h'⟩ := VP.first_par_static hoi hst hsel (hr.us i hiU) hU hnU hedU l acc a w hpre' h
          have hk := ih _ _ _ _ _ _ hr' hlen' h'
          unfold wpOp
          simp only [hoi]
          unfold StEv at hv
          split at hv
          · rename_i hw
            rw [if_pos hw]
            refine .inl ?_
            unfold Oper.wp
            rw [hv]
            exact hk
          · rename_i hw
            rw [if_neg hw]
            subst hv
            exact hk
def chkPairP (ops : Array Oper) (D : Nat → List Nat) (S : List Nat) : List Nat → Bool
  | [] => true
  | s :: r => allN (fun x => memN x (D s) || apartN ops s x) r && (allN (fun x => memN x (D s) || apartN ops s x) S && chkPairP ops D S r)
theorem chkPairP_spec {l0 : List Nat} : ∀ {l : List Nat}, (∀ s, s ∈ S → s ∉ l0) → chkPairP ops D S l = true → (l ++ S).Pairwise fun s x => s ∈ l0 → x ∈ D s ∨ apartN ops s x = true
  | [], hS, _ => by
    rw [List.nil_append]
    exact List.pairwise_of_forall_mem_list fun s hs x _ h => absurd h (hS s hs)
  | s :: r, hS, h => by
    simp only [chkPairP, Bool.and_eq_true] at h
    obtain ⟨h1, h2, h3⟩ := h
    have get : ∀ {q : List Nat}, allN (fun x => memN x (D s) || apartN ops s x) q = true → ∀ x, x ∈ q → x ∈ D s ∨ apartN ops s x = true := fun hq x hx => by
      have := allN_iff.1 hq x hx
      simpa [Bool.or_eq_true, memN_iff] using this
    refine List.pairwise_cons.2 ⟨fun x hx _ => ?_, chkPairP_spec hS h3⟩
    rcases List.mem_append.1 hx with hx | hx
    · exact get h1 x hx
    · exact get h2 x hx
/-- The closed check: l the reading operations that come first, S the others. -/
def chkPar (ops : Array Oper) (D : Nat → List Nat) (l S L : List Nat) : Bool :=
  chkPerm ops.size (l ++ S) && (allN (selN ops.toList) (l ++ S) && (chkLin ops.toList [] (l ++ S) && (chkDesc ops.toList D l && (allN (statN ops.toList) l && (allN (fun s => allN (fun x => memN x (l ++ S)) (D s)) l &&
    (chkPairP ops D S l && allN (fun i => match dstOf ops.toList i with | some d => memN d L | none => true) S))))))
theorem rest_startP {l L : List Nat} (h : chkPar ops D l S L = true) : RestP ops D S l l S (Array.replicate ops.size false) ∧ (l ++ S).length = ops.size ∧ (∀ i, i ∈ S → ∀ o, ops[i]? = some o → ∀ d, o.dst = some d → d ∈ L) := by
  simp only [chkPar, chkPerm, Bool.and_eq_true] at h
  obtain ⟨⟨⟨h1, h2⟩, h3, h4⟩, h5, h6, h7, h8, h9, h10, h11⟩ := h
  have hlt : ∀ i, i ∈ l ++ S → i < ops.size := fun i hi => by have := allN_iff.1 h3 i hi; simpa [Nat.blt_eq] using this
  have hall : ∀ i, i < ops.size → i ∈ l ++ S := fun i hi => memN_iff.1 (allN_iff.1 h1 i (List.mem_range.2 hi))
  have hlin := chkLin_spec (l ++ S) [] h6
  have hnd := chkNd_spec h4
  have hSl : ∀ s, s ∈ S → s ∉ l := fun s hs hl => (List.nodup_append.1 hnd).2.2 s hl s hs rfl
  refine ⟨⟨fun s hs => hs, by simp, fun i hi => ?_, hlt, chkNd_spec h4, fun i hi => hi, fun s hs x hx => memN_iff.1 (allN_iff.1 (allN_iff.1 h9 s hs) x hx), fun s hs x hx => ?_, chkPairP_spec hSl h10, fun s hs => allN_iff.1 h8 s hs, ?_, fun i hi => allN_iff.1 h5 i hi, fun x hx e he => ?_⟩, Nat.eq_of_beq_eq_true h2, fun i hi o ho d hd => ?_⟩
  · have := hall i hi
    simp only [hi, Array.getD, Array.size_replicate, dif_pos, this, iff_true]
    simp
  · have := allN_iff.1 (allN_iff.1 h7 s hs) x hx
    obtain ⟨e, he, h⟩ := anyN_iff.1 this
    refine ⟨e, he, ?_⟩
    rcases Bool.or_eq_true _ _ ▸ h with h' | h'
    · exact .inl (Nat.eq_of_beq_eq_true h')
    · exact .inr (memN_iff.1 h')
  · intro pre x post hl e he _
    exact (hlin pre x post hl e he).resolve_left (by simp)
  · obtain ⟨pre, post, hp⟩ := List.append_of_mem hx
    have := (hlin pre x post hp e he).resolve_left (by simp)
    exact hlt e (by rw [hp]; exact List.mem_append_left _ this)
  · have := allN_iff.1 h11 i hi
    have hn : nth ops.toList i = some o := by rw [nth_eq, Array.getElem?_toList]; exact ho
    simp only [dstOf, hn, hd] at this
    exact memN_iff.1 this

theorem vsteps_get {L : List Nat} {I : (Nat → Prop) → List Value → World → Prop} {d : Nat → Prop} {F : Fr} : ∀ {r : List Nat}, vsteps P ops.toList S L I d F w r → ∀ i, i ∈ r → ∃ o, ops[i]? = some o ∧ o.guard = none ∧
    (¬ d i → (∀ e, e ∈ edgesOf ops.toList i → e ∈ S → d e) → cond (isStatic o.op) (vop P o.op o.type F w fun v w' => w' = w ∧ I (fun x => x = i ∨ d x) (selL L (put F o.dst v)) w) (vop P o.op o.type F w fun v w' => I (fun x => x = i ∨ d x) (selL L (put F o.dst v)) w'))
  | [], _, i, hi => by cases hi
  | j :: r, h, i, hi => by
    obtain ⟨h1, h2⟩ := h
    rcases List.mem_cons.1 hi with rfl | hi
    · split at h1
      · exact h1.elim
      · rename_i o ho
        split at h1
        · exact h1.elim
        · rename_i hg
          exact ⟨o, nth_get ho, hg, fun hn hp => impD_iff.1 (h1 hn) fun e he => hp e (mem_filt.1 he).1 (mem_filt.1 he).2⟩
    · exact vsteps_get h2 i hi

theorem selL_inj {f g : Fr} : ∀ {L : List Nat}, selL L f = selL L g → ∀ t, t ∈ L → f t = g t
  | [], _, t, ht => by cases ht
  | x :: L, h, t, ht => by
    simp only [selL, List.cons.injEq] at h
    rcases List.mem_cons.1 ht with rfl | ht
    · exact h.1
    · exact selL_inj h.2 t ht

theorem vopsP_VP {K : Fr → World → Prop} {L : List Nat} (hok : opsOk n ops.toList = true) (hL : ∀ i, i ∈ S → ∀ o, ops[i]? = some o → ∀ d, o.dst = some d → d ∈ L) (hLS : ∀ t, t ∈ L → ∃ i, i ∈ S ∧ ∃ o, ops[i]? = some o ∧ o.dst = some t) :
    ∀ (l sk : List Nat) (acc accP : Acc) (f : Fr) (a : Act) (w : World), (∀ i, i ∈ l → statN ops.toList i = true) → vopsP P ops.toList D S L K l sk acc f w → Sim n f a → SkOk sk f →
      AccRel accP acc → (∀ p, p ∈ accP → p.2 w) →
      (∀ f' a' w', Sim n f' a' → (∀ t, Off ops (l ++ S) t → f' t = f t) → K f' w' → Q .normal a' w') → VP P ops Q S S l accP a w := by
  intro l
  induction l with
  | nil =>
    intro sk acc accP f a w _ h hs _ hrel _ hK
    obtain ⟨I, h1, h2⟩ := h
    refine ⟨fun d a w => ∃ f', Sim n f' a ∧ (∀ t, t ∉ L → f' t = f t) ∧ I d (selL L f') w, ?_, ?_⟩
    · have e : (fun x => x ∈ S ∧ x ∉ S) = fun _ => False := by funext x; exact propext ⟨fun h => h.2 h.1, False.elim⟩
      rw [e]
      exact ⟨f, hs, fun _ _ => rfl, h1⟩
    · rintro d a' w' ⟨f', hs', hf', hI⟩
      have h3 := h2 d _ f' w' hI
      rw [hav_self hf'] at h3
      obtain ⟨hk1, hk2, hk3⟩ := vkeeps_spec h3
      refine ⟨fun p' hp' => ?_, fun i hi hn hpre => ?_, fun hall => ?_⟩
      · rcases hrel p' hp' with h' | ⟨p, hp, _, hw⟩
        · exact h' w'
        · exact hw w' (hk1 p hp)
      · obtain ⟨o, ho, hg, hstep⟩ := vsteps_get hk2 i hi
        have hv := hstep hn hpre
        have hlow : ∀ v t, t ∉ L → put f' o.dst v t = f t := fun v t ht => by
          rw [put_off (fun e => ht (hL i hi o ho t e)), hf' t ht]
        refine ⟨o, ho, ?_⟩
        have hw : Region.wanted o (yielded ops a'.tmps) = true := by simp [Region.wanted, hg]
        cases hst : isStatic o.op
        · rw [hst] at hv
          simp only [cond] at hv
          refine .inr ⟨rfl, ?_⟩
          unfold wpOp
          simp only [ho]
          rw [if_pos hw]
          exact .inl (vop_sound hv hs' fun v w'' hN => ⟨⟨v, rfl⟩, put f' o.dst v, hs'.put (opsOk_get hok ho) v, hlow v, hN⟩)
        · rw [hst] at hv
          simp only [cond] at hv
          refine .inl ⟨rfl, ?_⟩
          obtain ⟨v, w'', hr, hww, hN⟩ := vop_run hst hv
          subst hww
          exact ⟨v, by unfold StEv; rw [if_pos hw, hs'.eval]; exact hr, put f' o.dst v, hs'.put (opsOk_get hok ho) v, hlow v, hN⟩
      · exact hK f' a' w' hs' (fun t ht => hf' t fun hm => by obtain ⟨i, hi, o, ho, hd⟩ := hLS t hm; exact ht i (by simpa using hi) o ho hd) (impD_iff.1 hk3 hall)
  | cons i r ih =>
    intro sk acc accP f a w hstat h hs hsk hrel hnow hK
    have h2 := hstat i List.mem_cons_self
    have hstat' : ∀ j, j ∈ r → statN ops.toList j = true := fun j hj => hstat j (List.mem_cons_of_mem _ hj)
    simp only [vopsP] at h
    cases ho : nth ops.toList i with
    | none => rw [ho] at h; exact h.elim
    | some o =>
      rw [ho] at h
      have hi := nth_get ho
      have hst : isStatic o.op = true := by simpa [statN, ho] using h2
      have offr : ∀ x, Off ops (i :: r ++ S) x → Off ops (r ++ S) x := fun x hx => Off_mono (fun y hy => List.mem_cons_of_mem _ hy) hx
      have hoff : ∀ x, Off ops (i :: r ++ S) x → o.dst ≠ some x := fun x hx => hx i List.mem_cons_self o hi
      refine ⟨o, hi, hst, ?_⟩
      have hnext : ∀ v f' a' w', Sim n f' a' → (∀ x, Off ops (r ++ S) x → f' x = put f o.dst v x) → K f' w' → Q .normal a' w' := fun v f' a' w' hs' ht hk =>
        hK f' a' w' hs' (fun x h => (ht x (offr x h)).trans (put_off (hoff x h) _ _)) hk
      rcases vgd_cases hok hs hsk h with ⟨hw, h⟩ | ⟨hw, h⟩
      · simp only [vone, cond] at h
        rw [hst] at h
        cases hfr : isFree o.op
        · rw [hfr] at h
          obtain ⟨v, w', hr, hww, hN⟩ := vop_run hst h
          subst hww
          have hev : StEv P ops o a w' v := by unfold StEv; rw [if_pos hw, hs.eval]; exact hr
          refine ⟨v, hev, ih _ _ _ _ _ _ hstat' hN (hs.put (opsOk_get hok hi) v) (skOk_del hsk _ _) (hrel.add fun w2 h2 => ?_) (fun p hp => ?_) (hnext v)⟩
          · obtain ⟨v', w3, hr', hv', hw3⟩ := vop_run hst h2
            subst hv'; subst hw3
            unfold StEv; rw [if_pos hw, hs.eval]; exact hr'
          · rcases List.mem_cons.1 hp with rfl | hp
            · exact hev
            · exact hnow p hp
        · rw [hfr] at h
          obtain ⟨v, hr, hN⟩ := free_run hfr h
          have hev : ∀ w2, StEv P ops o a w2 v := fun w2 => by unfold StEv; rw [if_pos hw, hs.eval]; exact hr w2
          refine ⟨v, hev w, ih _ _ _ _ _ _ hstat' hN (hs.put (opsOk_get hok hi) v) (skOk_del hsk _ _) (hrel.addFree hev) (fun p hp => ?_) (hnext v)⟩
          rcases List.mem_cons.1 hp with rfl | hp
          · exact hev w
          · exact hnow p hp
      · have hev : ∀ w2, StEv P ops o a w2 undef := fun w2 => by unfold StEv; rw [if_neg (by simp [hw])]
        refine ⟨undef, hev w, ih _ _ _ _ _ _ hstat' h (hs.put (opsOk_get hok hi) undef) (skOk_add hsk _) (hrel.addFree hev) (fun p hp => ?_) (hnext undef)⟩
        rcases List.mem_cons.1 hp with rfl | hp
        · exact hev w
        · exact hnow p hp

def chkSlots (ops : List Oper) (S L : List Nat) : Bool := allN (fun t => anyN (fun i => match dstOf ops i with | some d => Nat.beq d t | none => false) S) L
theorem region_par {id : Nat} {K : Fr → World → Prop} {l L : List Nat} (hok : opsOk n ops.toList = true) (hm : P.follows .mixedOrders = true) (hc : chkPar ops D l S L = true) (hc2 : chkSlots ops.toList S L = true)
    (h : vopsP P ops.toList D S L K l [] [] f { w with drawn := w.drawn + 1 }) (hs : Sim n f a)
    (hK : ∀ f' a' w', Sim n f' a' → (∀ t, (∀ o, o ∈ ops → o.dst ≠ some t) → f' t = f t) → K f' w' → Q .normal a' w') : (Code.region id ops true).wp P Q a w := by
  refine wp_mono (Q := onlyN Q) (wp_region_any hm ?_) fun e a w h => by cases e <;> first | exact h | exact h.elim
  obtain ⟨h1, h2, h3⟩ := rest_startP hc
  have hLS : ∀ t, t ∈ L → ∃ i, i ∈ S ∧ ∃ o, ops[i]? = some o ∧ o.dst = some t := fun t ht => by
    obtain ⟨i, hi, hd⟩ := anyN_iff.1 (allN_iff.1 hc2 t ht)
    refine ⟨i, hi, ?_⟩
    unfold dstOf at hd
    cases ho : nth ops.toList i with
    | none => rw [ho] at hd; cases hd
    | some o =>
      rw [ho] at hd
      refine ⟨o, nth_get ho, ?_⟩
      cases hod : o.dst with
      | none => simp only [hod] at hd; cases hd
      | some d => simp only [hod] at hd; rw [Nat.eq_of_beq_eq_true hd]
  refine VP.any (D := D) (fun c a w h => h) ops.size l S _ [] a _ h1 h2 ?_
  exact vopsP_VP hok h3 hLS l [] [] [] f a _ h1.stat h hs (fun d hd => by cases hd) (fun p hp => by cases hp) (fun p hp => by cases hp)
      fun f' a' w' hs' ht hk => hK f' a' w' hs' (fun t hoff => ht t fun i _ o ho => hoff o (Array.mem_of_getElem? ho)) hk
end
end Go.Vc
