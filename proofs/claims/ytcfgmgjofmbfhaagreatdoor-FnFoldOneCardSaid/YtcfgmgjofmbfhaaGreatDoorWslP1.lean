import Derived.Test.YtcfgmgjofmbfhaaGreatDoorWslP0
import Derived.Scope
import Derived.Laws.World
import Derived.Below
import Derived.IntWalk
import Derived.Laws.AppendOwn
/- A part of the proof: VcE, VcC, VcR, VcS, VcT. -/
set_option linter.unusedVariables false
set_option linter.unusedSimpArgs false
set_option linter.unnecessarySimpa false
set_option linter.unusedSectionVars false
section
namespace Go.Vc
open Go
def selL (L : List Nat) (f : Fr) : List Value := match L with | [] => [] | x :: r => f x :: selL r f
def pickL (t : Nat) : List Nat → List Value → Value → Value
  | [], _, d => d
  | x :: L, u, d => cond (Nat.beq t x) (u.headD undef) (pickL t L u.tail d)
def sl : Nat → List Value → Value
  | 0, u => u.headD undef
  | n + 1, u => sl n u.tail
def hav (f : Fr) (L M : List Nat) (u : List Value) (g : Fr) : Fr := fun t => pickL t L u (cond (memN t M) (g t) (f t))
theorem pickL_selL (t : Nat) (f : Fr) (d : Value) : ∀ (L : List Nat), pickL t L (selL L f) d = if t ∈ L then f t else d := by
  intro L
  induction L with
  | nil => simp [pickL]
  | cons x r ih =>
    simp only [pickL, selL, List.headD_cons, List.tail_cons, List.mem_cons, ih]
    cases hb : Nat.beq t x
    · have : t ≠ x := fun e => by subst e; simp at hb
      simp [this]
    · have := Nat.eq_of_beq_eq_true hb
      subst this; simp
theorem hav_self {f f' : Fr} {L M : List Nat} (h : ∀ t, t ∉ M → f' t = f t) : hav f L M (selL L f') f' = f' := by
  funext t
  unfold hav
  rw [pickL_selL]
  split
  · rfl
  · cases hm : memN t M
    · exact (h t fun hx => by rw [memN_iff.2 hx] at hm; cases hm).symm
    · rfl
def filt (S : List Nat) : List Nat → List Nat
  | [] => []
  | e :: r => cond (memN e S) (e :: filt S r) (filt S r)
theorem mem_filt {S : List Nat} {e : Nat} : ∀ {l : List Nat}, e ∈ filt S l ↔ e ∈ l ∧ e ∈ S
  | [] => by simp [filt]
  | x :: r => by
    simp only [filt]
    cases hm : memN x S
    · have hn : x ∉ S := fun h => by rw [memN_iff.2 h] at hm; cases hm
      simp only [cond, mem_filt (l := r), List.mem_cons]
      constructor
      · rintro ⟨h1, h2⟩; exact ⟨.inr h1, h2⟩
      · rintro ⟨rfl | h1, h2⟩
        · exact absurd h2 hn
        · exact ⟨h1, h2⟩
    · have hn := memN_iff.1 hm
      simp only [cond, List.mem_cons, mem_filt (l := r)]
      constructor
      · rintro (rfl | ⟨h1, h2⟩)
        · exact ⟨.inl rfl, hn⟩
        · exact ⟨.inr h1, h2⟩
      · rintro ⟨rfl | h1, h2⟩
        · exact .inl rfl
        · exact .inr ⟨h1, h2⟩
def impD (d : Nat → Prop) (X : Prop) : List Nat → Prop
  | [] => X
  | e :: r => d e → impD d X r
theorem impD_iff {d : Nat → Prop} {X : Prop} : ∀ {l : List Nat}, impD d X l ↔ ((∀ e, e ∈ l → d e) → X)
  | [] => by simp [impD]
  | e :: r => by simp [impD, impD_iff (l := r)]
def vsteps (P : Program) (ops : List Oper) (S L : List Nat) (I : (Nat → Prop) → List Value → World → Prop) (d : Nat → Prop) (F : Fr) (w : World) : List Nat → Prop
  | [] => True
  | i :: r => (match nth ops i with
    | none => False
    | some o => match o.guard with
      | some _ => False
      | none => (d i → False) → impD d (cond (isStatic o.op) (vop P o.op o.type F w fun v w' => w' = w ∧ I (fun x => x = i ∨ d x) (selL L (put F o.dst v)) w) (vop P o.op o.type F w fun v w' => I (fun x => x = i ∨ d x) (selL L (put F o.dst v)) w')) (filt S (edgesOf ops i))) ∧ vsteps P ops S L I d F w r
def vpar (P : Program) (ops : List Oper) (S L : List Nat) (K : Fr → World → Prop) (acc : Acc) (f : Fr) (w : World) : Prop :=
  ∃ I : (Nat → Prop) → List Value → World → Prop, I (fun _ => False) (selL L f) w ∧
    ∀ d u g w, I d u w → vkeeps acc w (vsteps P ops S L I d (hav f L L u g) w S ∧ impD d (K (hav f L L u g) w) S)
def vopsP (P : Program) (ops : List Oper) (D : Nat → List Nat) (S L : List Nat) (K : Fr → World → Prop) : List Nat → List Nat → Acc → Fr → World → Prop
  | [], _, acc, f, w => vpar P ops S L K acc f w
  | i :: r, sk, acc, f, w =>
    match nth ops i with
    | none => False
    | some o => vgd ops o.guard sk f
        (fun f => vone P true D i o sk acc f w (vopsP P ops D S L K r))
        (fun f => vopsP P ops D S L K r (skAdd o.dst sk) acc (put f o.dst undef) w)
section
variable {ro : Option Nat} {df : List Deferred} {P : Program} {n : Nat} {ops : Array Oper} {Q : Exit → Act → World → Prop} {D : Nat → List Nat} {a : Act} {f : Fr} {w : World} {S : List Nat}
def PStep (ro : Option Nat) (P : Program) (ops : Array Oper) (Q : Exit → Act → World → Prop) (I : (Nat → Prop) → Act → World → Prop) (d : Nat → Prop) (i : Nat) (a : Act) (w : World) : Prop :=
  ∃ o, ops[i]? = some o ∧ ((isStatic o.op = true ∧ ∃ v, StEv P ops o a w v ∧ I (fun x => x = i ∨ d x) (a.put o.dst v) w) ∨
    (isStatic o.op = false ∧ wpOpIn (FR ro) 0 P ops Q i (fun a' w' => (∃ u, a' = a.put o.dst u) ∧ I (fun x => x = i ∨ d x) a' w') a w))
def Good (ro : Option Nat) (P : Program) (ops : Array Oper) (Q : Exit → Act → World → Prop) (S : List Nat) (acc : Acc) (I : (Nat → Prop) → Act → World → Prop) : Prop :=
  ∀ d a w, I d a w → (∀ p, p ∈ acc → p.2 w) ∧ (∀ i, i ∈ S → ¬ d i → (∀ e, e ∈ edgesOf ops.toList i → e ∈ S → d e) → PStep ro P ops Q I d i a w) ∧ ((∀ i, i ∈ S → d i) → Q .normal a w)
def VPar (ro : Option Nat) (P : Program) (ops : Array Oper) (Q : Exit → Act → World → Prop) (S U : List Nat) (acc : Acc) (a : Act) (w : World) : Prop :=
  ∃ I : (Nat → Prop) → Act → World → Prop, I (fun x => x ∈ S ∧ x ∉ U) a w ∧ Good ro P ops Q S acc I
def VP (ro : Option Nat) (P : Program) (ops : Array Oper) (Q : Exit → Act → World → Prop) (S U : List Nat) : List Nat → Acc → Act → World → Prop
  | [], acc, a, w => VPar ro P ops Q S U acc a w
  | i :: r, acc, a, w => ∃ o, ops[i]? = some o ∧ isStatic o.op = true ∧ ∃ v, StEv P ops o a w v ∧ VP ro P ops Q S U r ((i, fun w => StEv P ops o a w v) :: acc) (a.put o.dst v) w
theorem VP.mono {U : List Nat} : ∀ (l : List Nat) (acc acc' : Acc) (a : Act) (w : World), AccLe acc' acc → VP ro P ops Q S U l acc a w → VP ro P ops Q S U l acc' a w := by
  intro l
  induction l with
  | nil =>
    intro acc acc' a w hle h
    obtain ⟨I, h1, h2⟩ := h
    refine ⟨I, h1, fun d a w hI => ?_⟩
    obtain ⟨g1, g2, g3⟩ := h2 d a w hI
    refine ⟨fun p' hp' => ?_, g2, g3⟩
    obtain ⟨p, hp, _, hw⟩ := hle p' hp'
    exact hw w (g1 p hp)
  | cons i r ih =>
    intro acc acc' a w hle h
    obtain ⟨o, ho, hst, v, hv, h⟩ := h
    exact ⟨o, ho, hst, v, hv, ih _ _ _ _ (hle.cons fun _ h => h) h⟩
theorem VP.first_static {U : List Nat} {x : Nat} {ox : Oper} (hx : ops[x]? = some ox) (hnx : noSel ox.op = true) (post : List Nat) :
    ∀ (pre : List Nat) (acc : Acc) (a : Act) (w : World), (∀ s, s ∈ pre → ∀ os, ops[s]? = some os → noSel os.op = true ∧ os.apart ops ox = true) →
      VP ro P ops Q S U (pre ++ x :: post) acc a w → ∃ v, StEv P ops ox a w v ∧ VP ro P ops Q S U (pre ++ post) acc (a.put ox.dst v) w := by
  intro pre
  induction pre with
  | nil =>
    intro acc a w _ h
    obtain ⟨o, ho, hst, v, hv, h⟩ := h
    obtain rfl : o = ox := by rw [hx] at ho; exact (Option.some.inj ho).symm
    exact ⟨v, hv, h.mono _ _ _ _ _ (AccLe.drop _ _)⟩
  | cons s pre ih =>
    intro acc a w hpre h
    obtain ⟨os, hos, hss, vs, hvs, h⟩ := h
    obtain ⟨hsn, hap⟩ := hpre s List.mem_cons_self os hos
    obtain ⟨v, hv, h2⟩ := ih _ _ _ (fun t ht => hpre t (List.mem_cons_of_mem _ ht)) h
    refine ⟨v, (StEv.put hap hnx).1 hv, os, hos, hss, vs, (StEv.put (apart_symm hap) hsn).2 hvs, ?_⟩
    obtain ⟨_, h2', _⟩ := Oper.apart_spec hap
    rw [← Act.put_comm a vs v h2']
    exact h2.mono _ _ _ _ _ ((AccLe.refl acc).cons fun w' hw' => (StEv.put (apart_symm hap) hsn).2 hw')
theorem done_step {U p q : List Nat} {x : Nat} (hxS : x ∈ S) (hU : U = p ++ x :: q) (hn : U.Nodup) : (fun y => y = x ∨ (y ∈ S ∧ y ∉ U)) = (fun y => y ∈ S ∧ y ∉ p ++ q) := by
  funext y
  refine propext ?_
  subst hU
  rw [List.nodup_append] at hn
  obtain ⟨h1, h2, h3⟩ := hn
  have hxq := (List.nodup_cons.1 h2).1
  have hxp : x ∉ p := fun h => h3 x h x List.mem_cons_self rfl
  simp only [List.mem_append, List.mem_cons, not_or]
  constructor
  · rintro (rfl | ⟨h1, h2, h3, h4⟩)
    · exact ⟨hxS, hxp, hxq⟩
    · exact ⟨h1, h2, h4⟩
  · rintro ⟨h1, h2, h3⟩
    by_cases e : y = x
    · exact .inl e
    · exact .inr ⟨h1, h2, e, h3⟩
theorem VP.first_par_static {U p q : List Nat} {x : Nat} {ox : Oper} (hx : ops[x]? = some ox) (hst : isStatic ox.op = true) (hnx : noSel ox.op = true) (hxS : x ∈ S) (hU : U = p ++ x :: q) (hn : U.Nodup) (hed : ∀ e, e ∈ edgesOf ops.toList x → e ∉ U) :
    ∀ (l : List Nat) (acc : Acc) (a : Act) (w : World), (∀ s, s ∈ l → ∀ os, ops[s]? = some os → noSel os.op = true ∧ os.apart ops ox = true) →
      VP ro P ops Q S U l acc a w → ∃ v, StEv P ops ox a w v ∧ VP ro P ops Q S (p ++ q) l acc (a.put ox.dst v) w := by
  intro l
  induction l with
  | nil =>
    intro acc a w _ h
    obtain ⟨I, h1, h2⟩ := h
    obtain ⟨g1, g2, g3⟩ := h2 _ a w h1
    obtain ⟨o, ho, hcase⟩ := g2 x hxS (fun h => h.2 (by rw [hU]; simp)) (fun e he heS => ⟨heS, hed e he⟩)
    obtain rfl : o = ox := by rw [hx] at ho; exact (Option.some.inj ho).symm
    rcases hcase with ⟨_, v, hv, hI⟩ | ⟨hs, _⟩
    · exact ⟨v, hv, I, by rw [← done_step hxS hU hn]; exact hI, h2⟩
    · rw [hst] at hs; cases hs
  | cons s l ih =>
    intro acc a w hpre h
    obtain ⟨os, hos, hss, vs, hvs, h⟩ := h
    obtain ⟨hsn, hap⟩ := hpre s List.mem_cons_self os hos
    obtain ⟨v, hv, h2⟩ := ih _ _ _ (fun t ht => hpre t (List.mem_cons_of_mem _ ht)) h
    refine ⟨v, (StEv.put hap hnx).1 hv, os, hos, hss, vs, (StEv.put (apart_symm hap) hsn).2 hvs, ?_⟩
    obtain ⟨_, h2', _⟩ := Oper.apart_spec hap
    rw [← Act.put_comm a vs v h2']
    exact h2.mono _ _ _ _ _ ((AccLe.refl acc).cons fun w' hw' => (StEv.put (apart_symm hap) hsn).2 hw')
theorem VP.first_par_change {U p q : List Nat} {x : Nat} {ox : Oper} (hx : ops[x]? = some ox) (hst : isStatic ox.op = false) (hnx : noSel ox.op = true) (hQ : ∀ c a w, ¬ Q (.panic c) a w) (hxS : x ∈ S) (hU : U = p ++ x :: q) (hn : U.Nodup) (hed : ∀ e, e ∈ edgesOf ops.toList x → e ∉ U) :
    ∀ (l : List Nat) (acc : Acc) (a : Act) (w : World), (∀ s, s ∈ l → ∀ os, ops[s]? = some os → noSel os.op = true ∧ os.apart ops ox = true) →
      VP ro P ops Q S U l acc a w → wpOpIn (FR ro) 0 P ops Q x (fun a' w' => (∃ u, a' = a.put ox.dst u) ∧ (∀ p, p ∈ acc → p.2 w') ∧ VP ro P ops Q S (p ++ q) l acc a' w') a w := by
  intro l
  induction l with
  | nil =>
    intro acc a w _ h
    obtain ⟨I, h1, h2⟩ := h
    obtain ⟨g1, g2, g3⟩ := h2 _ a w h1
    obtain ⟨o, ho, hcase⟩ := g2 x hxS (fun h => h.2 (by rw [hU]; simp)) (fun e he heS => ⟨heS, hed e he⟩)
    obtain rfl : o = ox := by rw [hx] at ho; exact (Option.some.inj ho).symm
    rcases hcase with ⟨hs, _⟩ | ⟨_, h⟩
    · rw [hst] at hs; cases hs
    · refine wpOpIn_mono (fun a' w' ⟨hu, hI⟩ => ⟨hu, (h2 _ a' w' hI).1, I, by rw [← done_step hxS hU hn]; exact hI, h2⟩) h
  | cons s l ih =>
    intro acc a w hpre h
    obtain ⟨os, hos, hss, vs, hvs, h⟩ := h
    obtain ⟨hsn, hap⟩ := hpre s List.mem_cons_self os hos
    have h2 := wpOp_pull (K := fun a' w' => (∀ p, p ∈ ((s, fun w => StEv P ops os a w vs) :: acc : Acc) → p.2 w') ∧ VP ro P ops Q S (p ++ q) l ((s, fun w => StEv P ops os a w vs) :: acc) a' w') hx hap hnx hQ
      (ih _ _ _ (fun t ht => hpre t (List.mem_cons_of_mem _ ht)) h)
    refine wpOpIn_mono (fun a' w' ⟨⟨u, hu⟩, hk, hv⟩ => ?_) h2
    refine ⟨⟨u, hu⟩, fun p hp => hk p (List.mem_cons_of_mem _ hp), os, hos, hss, vs, ?_, ?_⟩
    · rw [hu]
      exact (StEv.put (apart_symm hap) hsn).2 (hk _ List.mem_cons_self)
    · refine hv.mono _ _ _ _ _ ((AccLe.refl _).cons fun w3 h3 => ?_)
      rw [hu]
      exact (StEv.put (apart_symm hap) hsn).2 h3
structure RestP (ops : Array Oper) (D : Nat → List Nat) (S l0 l U : List Nat) (listed : Array Bool) : Prop where
  sub : ∀ s, s ∈ l → s ∈ l0
  size : listed.size = ops.size
  mem : ∀ i, i < ops.size → (listed.getD i true = false ↔ i ∈ l ++ U)
  lt : ∀ i, i ∈ l ++ U → i < ops.size
  nodup : (l ++ U).Nodup
  us : ∀ i, i ∈ U → i ∈ S
  desc : ∀ s, s ∈ l → ∀ x, x ∈ D s → x ∈ l ++ U
  edge : ∀ s, s ∈ l → ∀ x, x ∈ D s → ∃ e, e ∈ edgesOf ops.toList x ∧ (e = s ∨ e ∈ D s)
  pair : (l ++ U).Pairwise fun s x => s ∈ l0 → x ∈ D s ∨ apartN ops s x = true
  stat : ∀ s, s ∈ l → statN ops.toList s = true
  lin : ∀ pre x post, l ++ U = pre ++ x :: post → ∀ e, e ∈ edgesOf ops.toList x → e ∈ l ++ U → e ∈ pre
  sel : ∀ i, i ∈ l ++ U → selN ops.toList i = true
  elt : ∀ x, x ∈ l ++ U → ∀ e, e ∈ edgesOf ops.toList x → e < ops.size
theorem ready_edgeP {l0 l U : List Nat} {listed : Array Bool} (hr : RestP ops D S l0 l U listed) {i : Nat} (hi : i ∈ Region.ready .any ops listed) :
    i ∈ l ++ U ∧ ∀ e, e ∈ edgesOf ops.toList i → e ∉ l ++ U := by
  obtain ⟨h0, o, ho, hall⟩ := mem_ready.1 hi
  have hlt : i < ops.size := (Array.getElem?_eq_some_iff.1 ho).1
  refine ⟨(hr.mem i hlt).1 h0, fun e he hel => ?_⟩
  obtain ⟨d, hd, hb, rfl⟩ := (mem_edges ho).1 he
  have h1 := hall d hd hb
  have h2 := (hr.mem d.on (hr.lt _ hel)).2 hel
  have hs : d.on < listed.size := by rw [hr.size]; exact hr.lt _ hel
  simp [Array.getD, hs] at h1 h2
  rw [h1] at h2; cases h2
theorem lin_drop {R pre post : List Nat} {i : Nat} (hR : R = pre ++ i :: post) (hn : R.Nodup) (hlin : ∀ pre x post, R = pre ++ x :: post → ∀ e, e ∈ edgesOf ops.toList x → e ∈ R → e ∈ pre) :
    ∀ p x q, pre ++ post = p ++ x :: q → ∀ e, e ∈ edgesOf ops.toList x → e ∈ pre ++ post → e ∈ p := by
  subst hR
  have hsub : (pre ++ post).Sublist (pre ++ i :: post) := List.Sublist.append (List.Sublist.refl _) (List.sublist_cons_self _ _)
  have hni : i ∉ pre ++ post := by
    rw [List.nodup_append] at hn
    obtain ⟨_, h2, h3⟩ := hn
    rw [List.mem_append]
    rintro (h | h)
    · exact h3 i h i List.mem_cons_self rfl
    · exact (List.nodup_cons.1 h2).1 h
  intro p x q hl e he hel
  have hxe : e ∈ pre ++ i :: post := hsub.subset hel
  rcases List.append_eq_append_iff.1 hl with ⟨c, hc1, hc2⟩ | ⟨c, hc1, hc2⟩
  · subst hc1
    have := hlin (pre ++ i :: c) x q (by rw [hc2]; simp) e he hxe
    rw [List.mem_append, List.mem_cons] at this
    rcases this with h | h | h
    · exact List.mem_append_left _ h
    · subst h; exact absurd hel hni
    · exact List.mem_append_right _ h
  · subst hc1
    cases c with
    | nil =>
      simp only [List.nil_append] at hc2
      have := hlin (p ++ [i]) x q (by rw [← hc2]; simp) e he (by simpa using hxe)
      rw [List.mem_append] at this
      rcases this with h | h
      · exact h
      · rw [List.mem_singleton] at h; subst h; exact absurd hel (by simpa using hni)
    | cons y c =>
      simp only [List.cons_append, List.cons.injEq] at hc2
      obtain ⟨rfl, rfl⟩ := hc2
      exact hlin p x (c ++ i :: post) (by simp) e he hxe
theorem RestP.step {l0 l U l' U' pre post : List Nat} {i : Nat} {listed : Array Bool} (hr : RestP ops D S l0 l U listed) (hed : ∀ e, e ∈ edgesOf ops.toList i → e ∉ l ++ U)
    (h1 : l ++ U = pre ++ i :: post) (h2 : l' ++ U' = pre ++ post) (hl : ∀ x, x ∈ l' → x ∈ l) (hU : ∀ x, x ∈ U' → x ∈ U) : RestP ops D S l0 l' U' (listed.setIfInBounds i true) := by
  have hsub : ∀ x, x ∈ l' ++ U' → x ∈ l ++ U := fun x hx => by rw [h2] at hx; rw [h1, List.mem_append, List.mem_cons]; rw [List.mem_append] at hx; exact hx.elim .inl fun h => .inr (.inr h)
  have hn := hr.nodup
  have hni : i ∉ l' ++ U' := by
    rw [h2]
    rw [h1, List.nodup_append] at hn
    obtain ⟨_, h2, h3⟩ := hn
    rw [List.mem_append]
    rintro (h | h)
    · exact h3 i h i List.mem_cons_self rfl
    · exact (List.nodup_cons.1 h2).1 h
  have hmem : ∀ x, x ∈ l ++ U → x ≠ i → x ∈ l' ++ U' := by
    intro x hx hne
    rw [h1, List.mem_append, List.mem_cons] at hx
    rw [h2, List.mem_append]
    rcases hx with h | h | h
    · exact .inl h
    · exact absurd h hne
    · exact .inr h
  refine ⟨fun s hs => hr.sub s (hl s hs), by simp [hr.size], fun x hx => ?_, fun x hx => hr.lt x (hsub x hx), ?_, fun x hx => hr.us x (hU x hx), fun s hs x hx => ?_, fun s hs => hr.edge s (hl s hs), ?_, fun s hs => hr.stat s (hl s hs), ?_, fun x hx => hr.sel x (hsub x hx), fun x hx => hr.elt x (hsub x hx)⟩
  · by_cases e : i = x
    · subst e
      simp only [Array.getD_eq_getD_getElem?]
      have : i < listed.size := by rw [hr.size]; exact hx
      simp [this, hni]
    · rw [getD_set_ne true e, hr.mem x hx]
      exact ⟨fun h => hmem x h (Ne.symm e), fun h => hsub x h⟩
  · rw [h2]
    rw [h1] at hn
    exact hn.sublist (List.Sublist.append (List.Sublist.refl _) (List.sublist_cons_self _ _))
  · refine hmem x (hr.desc s (hl s hs) x hx) fun e => ?_
    subst e
    obtain ⟨e, he, h | h⟩ := hr.edge s (hl s hs) x hx
    · subst h; exact hed e he (List.mem_append_left _ (hl _ hs))
    · exact hed e he (hr.desc s (hl s hs) e h)
  · rw [h2]
    have := hr.pair
    rw [h1] at this
    exact this.sublist (List.Sublist.append (List.Sublist.refl _) (List.sublist_cons_self _ _))
  · rw [h2]; exact lin_drop h1 hn hr.lin
theorem VP.any {l0 : List Nat} (hQ : ∀ c a w, ¬ Q (.panic c) a w) : ∀ (fuel : Nat) (l U : List Nat) (listed : Array Bool) (acc : Acc) (a : Act) (w : World),
    RestP ops D S l0 l U listed → (l ++ U).length = fuel → VP ro P ops Q S U l acc a w → wpAnyIn (FR ro) 0 P .any ops Q fuel listed a w := by
  intro fuel
  induction fuel with
  | zero =>
    intro l U listed acc a w hr hlen h
    have hnil : l ++ U = [] := List.eq_nil_of_length_eq_zero hlen
    obtain ⟨rfl, rfl⟩ := List.append_eq_nil_iff.1 hnil
    obtain ⟨I, h1, h2⟩ := h
    refine ⟨?_, (h2 _ a w h1).2.2 fun i hi => ⟨hi, by simp⟩⟩
    cases hc : Region.ready .any ops listed with
    | nil => rfl
    | cons x xs =>
      have := (ready_edgeP hr (i := x) (by rw [hc]; exact List.mem_cons_self)).1
      simp at this
  | succ fuel ih =>
    intro l U listed acc a w hr hlen h
    refine ⟨fun hnil => ?_, fun i hi => ?_⟩
    · cases hR : l ++ U with
      | nil => rw [hR] at hlen; cases hlen
      | cons x r =>
        exfalso
        have hxm : x ∈ l ++ U := by rw [hR]; exact List.mem_cons_self
        obtain ⟨o, ho⟩ : ∃ o, ops[x]? = some o := ⟨_, Array.getElem?_eq_getElem (hr.lt x hxm)⟩
        have hx : x ∈ Region.ready .any ops listed := by
          refine mem_ready.2 ⟨(hr.mem x (hr.lt x hxm)).2 hxm, o, ho, fun d hd hb => ?_⟩
          have he : d.on ∈ edgesOf ops.toList x := (mem_edges ho).2 ⟨d, hd, hb, rfl⟩
          by_cases hlt : d.on < ops.size
          · cases hg : listed.getD d.on false
            · exfalso
              have hs : d.on < listed.size := by rw [hr.size]; exact hlt
              have h2 : listed.getD d.on true = false := by
                simp [Array.getD, hs] at hg ⊢; exact hg
              have h3 := (hr.mem d.on hlt).1 h2
              have := hr.lin [] x r hR d.on he h3
              cases this
            · rfl
          · exact absurd (hr.elt x hxm _ he) hlt
        rw [hnil] at hx; cases hx
    · obtain ⟨hil, hed⟩ := ready_edgeP hr hi
      obtain ⟨_, oi, hoi, _⟩ := mem_ready.1 hi
      have hsel := selN_get (hr.sel i hil) hoi
      have hpre : ∀ s, s ∈ l → (∃ p q, l ++ U = p ++ s :: q ∧ i ∈ q) → ∀ os, ops[s]? = some os → noSel os.op = true ∧ os.apart ops oi = true := by
        intro s hs hb os hos
        refine ⟨selN_get (hr.sel s (List.mem_append_left _ hs)) hos, ?_⟩
        obtain ⟨p, q, hpq, hiq⟩ := hb
        have hp := hr.pair
        rw [hpq, List.pairwise_append] at hp
        have hp2 := (List.pairwise_cons.1 hp.2.1).1 i hiq (hr.sub s hs)
        rcases hp2 with e | e
        · exfalso
          obtain ⟨e', he', h' | h'⟩ := hr.edge s hs i e
          · subst h'; exact hed e' he' (List.mem_append_left _ hs)
          · exact hed e' he' (hr.desc s hs e' h')
        · exact apartN_get e hos hoi
      have hn := hr.nodup
      by_cases hin : i ∈ l
      · obtain ⟨pre, post, rfl⟩ := List.append_of_mem hin
        have hni : ∀ s, s ∈ pre → ∃ p q, (pre ++ i :: post) ++ U = p ++ s :: q ∧ i ∈ q := fun s hs => by
          obtain ⟨p, q, rfl⟩ := List.append_of_mem hs
          exact ⟨p, q ++ i :: post ++ U, by simp, by simp⟩
        have hst : isStatic oi.op = true := by
          have := hr.stat i hin
          have hnth : nth ops.toList i = some oi := by rw [nth_eq, Array.getElem?_toList]; exact hoi
          simpa [statN, hnth] using this
        obtain ⟨v, hv, h'⟩ := VP.first_static hoi hsel post pre acc a w (fun s hs => hpre s (by simp [hs]) (hni s hs)) h
        have hr' : RestP ops D S l0 (pre ++ post) U (listed.setIfInBounds i true) := hr.step hed (pre := pre) (post := post ++ U) (by simp) (by simp) (fun x hx => by
          rw [List.mem_append] at hx
          rw [List.mem_append, List.mem_cons]
          exact hx.elim .inl fun h => .inr (.inr h)) (fun x hx => hx)
        have hk := ih _ _ _ _ _ _ hr' (by simp at hlen ⊢; omega) h'
        unfold wpOpIn
        simp only [hoi]
        unfold StEv at hv
        split at hv
        · rename_i hw
          rw [if_pos hw]
          refine ⟨fun _ _ => trivial, ?_⟩
          rw [sem_static hst, hv]
          exact hk
        · rename_i hw
          rw [if_neg hw]
          subst hv
          exact ⟨fun _ _ => trivial, hk⟩
      · have hiU : i ∈ U := (List.mem_append.1 hil).resolve_left hin
        obtain ⟨p, q, hU⟩ := List.append_of_mem hiU
        have hnU : U.Nodup := (List.nodup_append.1 hn).2.1
        have hr' : RestP ops D S l0 l (p ++ q) (listed.setIfInBounds i true) := hr.step hed (pre := l ++ p) (post := q) (by rw [hU]; simp) (by simp) (fun x hx => hx) (fun x hx => by
          rw [List.mem_append] at hx
          rw [hU, List.mem_append, List.mem_cons]
          exact hx.elim .inl fun h => .inr (.inr h))
        have hlen' : (l ++ (p ++ q)).length = fuel := by rw [hU] at hlen; simp at hlen ⊢; omega
        have hpre' : ∀ s, s ∈ l → ∀ os, ops[s]? = some os → noSel os.op = true ∧ os.apart ops oi = true := fun s hs => hpre s hs (by
          obtain ⟨p', q', e⟩ := List.append_of_mem hs
          exact ⟨p', q' ++ U, by rw [e]; simp, List.mem_append_right _ hiU⟩)
        have hedU : ∀ e, e ∈ edgesOf ops.toList i → e ∉ U := fun e he hm => hed e he (List.mem_append_right _ hm)
        cases hst : isStatic oi.op
        · have := VP.first_par_change hoi hst hsel hQ (hr.us i hiU) hU hnU hedU l acc a w hpre' h
          exact wpOpIn_mono (fun a' w' h' => ih _ _ _ _ _ _ hr' hlen' h'.2.2) this
        · obtain ⟨v, hv, h'⟩ := VP.first_par_static hoi hst hsel (hr.us i hiU) hU hnU hedU l acc a w hpre' h
          have hk := ih _ _ _ _ _ _ hr' hlen' h'
          unfold wpOpIn
          simp only [hoi]
          unfold StEv at hv
          split at hv
          · rename_i hw
            rw [if_pos hw]
            refine ⟨fun _ _ => trivial, ?_⟩
            rw [sem_static hst, hv]
            exact hk
          · rename_i hw
            rw [if_neg hw]
            subst hv
            exact ⟨fun _ _ => trivial, hk⟩
def chkPairP (ops : Array Oper) (D : Nat → List Nat) (S : List Nat) : List Nat → Bool
  | [] => true
  | s :: r => allN (fun x => memN x (D s) || apartN ops s x) r && (allN (fun x => memN x (D s) || apartN ops s x) S && chkPairP ops D S r)
theorem chkPairP_spec {l0 : List Nat} : ∀ {l : List Nat}, (∀ s, s ∈ S → s ∉ l0) → chkPairP ops D S l = true → (l ++ S).Pairwise fun s x => s ∈ l0 → x ∈ D s ∨ apartN ops s x = true
  | [], hS, _ => by
    rw [List.nil_append]
    exact List.pairwise_of_forall_mem_list fun s hs x _ h => absurd h (hS s hs)
  | s :: r, hS, h => by
    simp only [chkPairP, Bool.and_eq_true] at h
    obtain ⟨h1, h2, h3⟩ := h
    have get : ∀ {q : List Nat}, allN (fun x => memN x (D s) || apartN ops s x) q = true → ∀ x, x ∈ q → x ∈ D s ∨ apartN ops s x = true := fun hq x hx => by
      have := allN_iff.1 hq x hx
      simpa [Bool.or_eq_true, memN_iff] using this
    refine List.pairwise_cons.2 ⟨fun x hx _ => ?_, chkPairP_spec hS h3⟩
    rcases List.mem_append.1 hx with hx | hx
    · exact get h1 x hx
    · exact get h2 x hx
def chkPar (ops : Array Oper) (D : Nat → List Nat) (l S L : List Nat) : Bool :=
  chkPerm ops.size (l ++ S) && (allN (selN ops.toList) (l ++ S) && (chkLin ops.toList [] (l ++ S) && (chkDesc ops.toList D l && (allN (statN ops.toList) l && (allN (fun s => allN (fun x => memN x (l ++ S)) (D s)) l &&
    (chkPairP ops D S l && allN (fun i => match dstOf ops.toList i with | some d => memN d L | none => true) S))))))
theorem rest_startP {l L : List Nat} (h : chkPar ops D l S L = true) : RestP ops D S l l S (Array.replicate ops.size false) ∧ (l ++ S).length = ops.size ∧ (∀ i, i ∈ S → ∀ o, ops[i]? = some o → ∀ d, o.dst = some d → d ∈ L) := by
  simp only [chkPar, chkPerm, Bool.and_eq_true] at h
  obtain ⟨⟨⟨h1, h2⟩, h3, h4⟩, h5, h6, h7, h8, h9, h10, h11⟩ := h
  have hlt : ∀ i, i ∈ l ++ S → i < ops.size := fun i hi => by have := allN_iff.1 h3 i hi; simpa [Nat.blt_eq] using this
  have hall : ∀ i, i < ops.size → i ∈ l ++ S := fun i hi => memN_iff.1 (allN_iff.1 h1 i (List.mem_range.2 hi))
  have hlin := chkLin_spec (l ++ S) [] h6
  have hnd := chkNd_spec h4
  have hSl : ∀ s, s ∈ S → s ∉ l := fun s hs hl => (List.nodup_append.1 hnd).2.2 s hl s hs rfl
  refine ⟨⟨fun s hs => hs, by simp, fun i hi => ?_, hlt, chkNd_spec h4, fun i hi => hi, fun s hs x hx => memN_iff.1 (allN_iff.1 (allN_iff.1 h9 s hs) x hx), fun s hs x hx => ?_, chkPairP_spec hSl h10, fun s hs => allN_iff.1 h8 s hs, ?_, fun i hi => allN_iff.1 h5 i hi, fun x hx e he => ?_⟩, Nat.eq_of_beq_eq_true h2, fun i hi o ho d hd => ?_⟩
  · have := hall i hi
    simp only [hi, Array.getD, Array.size_replicate, dif_pos, this, iff_true]
    simp
  · have := allN_iff.1 (allN_iff.1 h7 s hs) x hx
    obtain ⟨e, he, h⟩ := anyN_iff.1 this
    refine ⟨e, he, ?_⟩
    rcases Bool.or_eq_true _ _ ▸ h with h' | h'
    · exact .inl (Nat.eq_of_beq_eq_true h')
    · exact .inr (memN_iff.1 h')
  · intro pre x post hl e he _
    exact (hlin pre x post hl e he).resolve_left (by simp)
  · obtain ⟨pre, post, hp⟩ := List.append_of_mem hx
    have := (hlin pre x post hp e he).resolve_left (by simp)
    exact hlt e (by rw [hp]; exact List.mem_append_left _ this)
  · have := allN_iff.1 h11 i hi
    have hn : nth ops.toList i = some o := by rw [nth_eq, Array.getElem?_toList]; exact ho
    simp only [dstOf, hn, hd] at this
    exact memN_iff.1 this
theorem vsteps_get {L : List Nat} {I : (Nat → Prop) → List Value → World → Prop} {d : Nat → Prop} {F : Fr} : ∀ {r : List Nat}, vsteps P ops.toList S L I d F w r → ∀ i, i ∈ r → ∃ o, ops[i]? = some o ∧ o.guard = none ∧
    (¬ d i → (∀ e, e ∈ edgesOf ops.toList i → e ∈ S → d e) → cond (isStatic o.op) (vop P o.op o.type F w fun v w' => w' = w ∧ I (fun x => x = i ∨ d x) (selL L (put F o.dst v)) w) (vop P o.op o.type F w fun v w' => I (fun x => x = i ∨ d x) (selL L (put F o.dst v)) w'))
  | [], _, i, hi => by cases hi
  | j :: r, h, i, hi => by
    obtain ⟨h1, h2⟩ := h
    rcases List.mem_cons.1 hi with rfl | hi
    · split at h1
      · exact h1.elim
      · rename_i o ho
        split at h1
        · exact h1.elim
        · rename_i hg
          exact ⟨o, nth_get ho, hg, fun hn hp => impD_iff.1 (h1 hn) fun e he => hp e (mem_filt.1 he).1 (mem_filt.1 he).2⟩
    · exact vsteps_get h2 i hi
theorem vopsP_VP {K : Fr → World → Prop} {L : List Nat} (hok : opsOk n ops.toList = true) (hL : ∀ i, i ∈ S → ∀ o, ops[i]? = some o → ∀ d, o.dst = some d → d ∈ L) (hLS : ∀ t, t ∈ L → ∃ i, i ∈ S ∧ ∃ o, ops[i]? = some o ∧ o.dst = some t) :
    ∀ (l sk : List Nat) (acc accP : Acc) (f : Fr) (a : Act) (w : World), (∀ i, i ∈ l → statN ops.toList i = true) → vopsP P ops.toList D S L K l sk acc f w → Sim df n f a → SkOk sk f →
      AccRel accP acc → (∀ p, p ∈ accP → p.2 w) →
      (∀ f' a' w', Sim df n f' a' → (∀ t, Off ops (l ++ S) t → f' t = f t) → K f' w' → Q .normal a' w') → VP ro P ops Q S S l accP a w := by
  intro l
  induction l with
  | nil =>
    intro sk acc accP f a w _ h hs _ hrel _ hK
    obtain ⟨I, h1, h2⟩ := h
    refine ⟨fun d a w => ∃ f', Sim df n f' a ∧ (∀ t, t ∉ L → f' t = f t) ∧ I d (selL L f') w, ?_, ?_⟩
    · have e : (fun x => x ∈ S ∧ x ∉ S) = fun _ => False := by funext x; exact propext ⟨fun h => h.2 h.1, False.elim⟩
      rw [e]
      exact ⟨f, hs, fun _ _ => rfl, h1⟩
    · rintro d a' w' ⟨f', hs', hf', hI⟩
      have h3 := h2 d _ f' w' hI
      rw [hav_self hf'] at h3
      obtain ⟨hk1, hk2, hk3⟩ := vkeeps_spec h3
      refine ⟨fun p' hp' => ?_, fun i hi hn hpre => ?_, fun hall => ?_⟩
      · rcases hrel p' hp' with h' | ⟨p, hp, _, hw⟩
        · exact h' w'
        · exact hw w' (hk1 p hp)
      · obtain ⟨o, ho, hg, hstep⟩ := vsteps_get hk2 i hi
        have hv := hstep hn hpre
        have hlow : ∀ v t, t ∉ L → put f' o.dst v t = f t := fun v t ht => by
          rw [put_off (fun e => ht (hL i hi o ho t e)), hf' t ht]
        refine ⟨o, ho, ?_⟩
        have hw : Region.wanted o (yielded ops a'.tmps) = true := by simp [Region.wanted, hg]
        cases hst : isStatic o.op
        · rw [hst] at hv
          simp only [cond] at hv
          refine .inr ⟨rfl, ?_⟩
          unfold wpOpIn
          simp only [ho]
          rw [if_pos hw]
          exact vop_sound hv hs' fun v w'' hN => ⟨⟨v, rfl⟩, put f' o.dst v, hs'.put (opsOk_get hok ho) v, hlow v, hN⟩
        · rw [hst] at hv
          simp only [cond] at hv
          refine .inl ⟨rfl, ?_⟩
          obtain ⟨v, w'', hr, hww, hN⟩ := vop_run hst hv
          subst hww
          exact ⟨v, by unfold StEv; rw [if_pos hw, hs'.eval]; exact hr, put f' o.dst v, hs'.put (opsOk_get hok ho) v, hlow v, hN⟩
      · exact hK f' a' w' hs' (fun t ht => hf' t fun hm => by obtain ⟨i, hi, o, ho, hd⟩ := hLS t hm; exact ht i (by simpa using hi) o ho hd) (impD_iff.1 hk3 hall)
  | cons i r ih =>
    intro sk acc accP f a w hstat h hs hsk hrel hnow hK
    have h2 := hstat i List.mem_cons_self
    have hstat' : ∀ j, j ∈ r → statN ops.toList j = true := fun j hj => hstat j (List.mem_cons_of_mem _ hj)
    simp only [vopsP] at h
    cases ho : nth ops.toList i with
    | none => rw [ho] at h; exact h.elim
    | some o =>
      rw [ho] at h
      have hi := nth_get ho
      have hst : isStatic o.op = true := by simpa [statN, ho] using h2
      have offr : ∀ x, Off ops (i :: r ++ S) x → Off ops (r ++ S) x := fun x hx => Off_mono (fun y hy => List.mem_cons_of_mem _ hy) hx
      have hoff : ∀ x, Off ops (i :: r ++ S) x → o.dst ≠ some x := fun x hx => hx i List.mem_cons_self o hi
      refine ⟨o, hi, hst, ?_⟩
      have hnext : ∀ v f' a' w', Sim df n f' a' → (∀ x, Off ops (r ++ S) x → f' x = put f o.dst v x) → K f' w' → Q .normal a' w' := fun v f' a' w' hs' ht hk =>
        hK f' a' w' hs' (fun x h => (ht x (offr x h)).trans (put_off (hoff x h) _ _)) hk
      rcases vgd_cases hok hs hsk h with ⟨hw, h⟩ | ⟨hw, h⟩
      · simp only [vone, cond] at h
        rw [hst] at h
        cases hfr : isFree o.op
        · rw [hfr] at h
          obtain ⟨v, w', hr, hww, hN⟩ := vop_run hst h
          subst hww
          have hev : StEv P ops o a w' v := by unfold StEv; rw [if_pos hw, hs.eval]; exact hr
          refine ⟨v, hev, ih _ _ _ _ _ _ hstat' hN (hs.put (opsOk_get hok hi) v) (skOk_del hsk _ _) (hrel.add fun w2 h2 => ?_) (fun p hp => ?_) (hnext v)⟩
          · obtain ⟨v', w3, hr', hv', hw3⟩ := vop_run hst h2
            subst hv'; subst hw3
            unfold StEv; rw [if_pos hw, hs.eval]; exact hr'
          · rcases List.mem_cons.1 hp with rfl | hp
            · exact hev
            · exact hnow p hp
        · rw [hfr] at h
          obtain ⟨v, hr, hN⟩ := free_run hfr h
          have hev : ∀ w2, StEv P ops o a w2 v := fun w2 => by unfold StEv; rw [if_pos hw, hs.eval]; exact hr w2
          refine ⟨v, hev w, ih _ _ _ _ _ _ hstat' hN (hs.put (opsOk_get hok hi) v) (skOk_del hsk _ _) (hrel.addFree hev) (fun p hp => ?_) (hnext v)⟩
          rcases List.mem_cons.1 hp with rfl | hp
          · exact hev w
          · exact hnow p hp
      · have hev : ∀ w2, StEv P ops o a w2 undef := fun w2 => by unfold StEv; rw [if_neg (by simp [hw])]
        refine ⟨undef, hev w, ih _ _ _ _ _ _ hstat' h (hs.put (opsOk_get hok hi) undef) (skOk_add hsk _) (hrel.addFree hev) (fun p hp => ?_) (hnext undef)⟩
        rcases List.mem_cons.1 hp with rfl | hp
        · exact hev w
        · exact hnow p hp
def chkSlots (ops : List Oper) (S L : List Nat) : Bool := allN (fun t => anyN (fun i => match dstOf ops i with | some d => Nat.beq d t | none => false) S) L
theorem region_par {id : Nat} {K : Fr → World → Prop} {l L : List Nat} (hok : opsOk n ops.toList = true) (hm : P.follows .mixedOrders = true) (hc : chkPar ops D l S L = true) (hc2 : chkSlots ops.toList S L = true)
    (h : vopsP P ops.toList D S L K l [] [] f { w with drawn := w.drawn + 1 }) (hs : Sim df n f a)
    (hK : ∀ f' a' w', Sim df n f' a' → (∀ t, (∀ o, o ∈ ops → o.dst ≠ some t) → f' t = f t) → K f' w' → Q .normal a' w') : (Code.region id ops true).wpIn (FR ro) 0 P Q a w := by
  refine wpIn_mono (Q := onlyN Q) (wpIn_region_any hm ?_) fun e a w h => by cases e <;> first | exact h | exact h.elim
  obtain ⟨h1, h2, h3⟩ := rest_startP hc
  have hLS : ∀ t, t ∈ L → ∃ i, i ∈ S ∧ ∃ o, ops[i]? = some o ∧ o.dst = some t := fun t ht => by
    obtain ⟨i, hi, hd⟩ := anyN_iff.1 (allN_iff.1 hc2 t ht)
    refine ⟨i, hi, ?_⟩
    unfold dstOf at hd
    cases ho : nth ops.toList i with
    | none => rw [ho] at hd; cases hd
    | some o =>
      rw [ho] at hd
      refine ⟨o, nth_get ho, ?_⟩
      cases hod : o.dst with
      | none => simp only [hod] at hd; cases hd
      | some d => simp only [hod] at hd; rw [Nat.eq_of_beq_eq_true hd]
  refine VP.any (D := D) (fun c a w h => h) ops.size l S _ [] a _ h1 h2 ?_
  exact vopsP_VP hok h3 hLS l [] [] [] f a _ h1.stat h hs (fun d hd => by cases hd) (fun p hp => by cases hp) (fun p hp => by cases hp)
      fun f' a' w' hs' ht hk => hK f' a' w' hs' (fun t hoff => ht t fun i _ o ho => hoff o (Array.mem_of_getElem? ho)) hk
end
end Go.Vc
end
section
namespace Go.Vc
open Go
def lookN {α : Type} (k : Nat) : List (Nat × α) → Option α
  | [] => none
  | p :: r => cond (Nat.beq k p.1) (some p.2) (lookN k r)
structure Ann where
  ord : List (Nat × List Nat × List (Nat × List Nat)) := []
  loops : List (Nat × List Nat) := []
  cuts : List (Nat × List Nat) := []
  trees : List (Nat × OT × List (Nat × List Nat)) := []
  pars : List (Nat × List Nat × List Nat × List Nat × List (Nat × List Nat)) := []
def firstR : Code → Option Nat
  | .region id _ _ => some id
  | .seq a b => match firstR a with | some i => some i | none => firstR b
  | .cond _ a b => match firstR a with | some i => some i | none => firstR b
  | .block _ b => firstR b
  | .loop b => firstR b
  | .scope b => firstR b
  | _ => none
def dsts : List Oper → List Nat → List Nat
  | [], l => l
  | o :: r, l => match o.dst with | some d => d :: dsts r l | none => dsts r l
def mods : Code → List Nat → List Nat
  | .region _ ops _, l => dsts ops.toList l
  | .seq a b, l => mods a (mods b l)
  | .cond _ a b, l => mods a (mods b l)
  | .block _ b, l => mods b l
  | .loop b, l => mods b l
  | .scope b, l => mods b l
  | _, l => l
theorem mem_dsts {t : Nat} : ∀ {ops : List Oper} {l : List Nat}, t ∈ dsts ops l ↔ (∃ o, o ∈ ops ∧ o.dst = some t) ∨ t ∈ l := by
  intro ops
  induction ops with
  | nil => intro l; simp [dsts]
  | cons o r ih =>
    intro l
    simp only [dsts]
    cases hd : o.dst with
    | none => simp only [ih, List.mem_cons]; constructor
              · rintro (⟨x, hx, h⟩ | h); exact .inl ⟨x, .inr hx, h⟩; exact .inr h
              · rintro (⟨x, rfl | hx, h⟩ | h); rw [hd] at h; cases h; exact .inl ⟨x, hx, h⟩; exact .inr h
    | some d => simp only [List.mem_cons, ih]; constructor
                · rintro (rfl | ⟨x, hx, h⟩ | h); exact .inl ⟨o, .inl rfl, hd⟩; exact .inl ⟨x, .inr hx, h⟩; exact .inr h
                · rintro (⟨x, rfl | hx, h⟩ | h); rw [hd] at h; exact .inl (Option.some.inj h).symm; exact .inr (.inl ⟨x, hx, h⟩); exact .inr (.inr h)
theorem mem_mods {t : Nat} : ∀ (c : Code) (l : List Nat), t ∈ mods c l ↔ t ∈ mods c [] ∨ t ∈ l := by
  intro c
  induction c with
  | region id ops d => intro l; simp only [mods, mem_dsts, List.not_mem_nil, or_false]
  | seq a b iha ihb => intro l; simp only [mods]; rw [iha, ihb l, iha (mods b [])]; simp only [or_assoc]
  | cond x a b iha ihb => intro l; simp only [mods]; rw [iha, ihb l, iha (mods b [])]; simp only [or_assoc]
  | block i b ih => intro l; simp only [mods]; exact ih l
  | loop b ih => intro l; simp only [mods]; exact ih l
  | scope b ih => intro l; simp only [mods]; exact ih l
  | _ => intro l; simp [mods]
def vjoin (A : (List Value → World → Prop) → Prop) (B : List Value → Fr → World → Prop) : Prop := ∃ J, A J ∧ ∀ u g w, J u w → B u g w
def vloop (z : List Value) (w : World) (B : (List Value → World → Prop) → List Value → Fr → World → Prop) : Prop :=
  ∃ I : Nat → List Value → World → Prop, (∃ n, I n z w) ∧ ∀ n u g w', I n u w' → B (fun u' w'' => ∃ m, m < n ∧ I m u' w'') u g w'
def vdraw (w : World) (K : World → Prop) : Prop := K { w with drawn := w.drawn + 1 }
def seqK (N : Fr → World → Prop) (K : Exit → Fr → World → Prop) (e : Exit) (f : Fr) (w : World) : Prop :=
  match e with
  | .normal => N f w
  | e => K e f w
def blkK (id : Nat) (K : Exit → Fr → World → Prop) (e : Exit) (f : Fr) (w : World) : Prop :=
  match e with
  | .exit i => cond (Nat.beq i id) (K .normal f w) (K (.exit i) f w)
  | e => K e f w
def lookD (T : List (Nat × List Nat)) (s : Nat) : List Nat := match lookN s T with | some l => l | none => []
def upto : Nat → Nat → List Nat
  | 0, _ => []
  | n + 1, k => k :: upto n (k + 1)
def lenO : List Oper → Nat
  | [] => 0
  | _ :: r => lenO r + 1
def cutOf (T : Ann) (a c : Code) : Option (List Nat) := match firstR c with | some i => lookN (Nat.add (Nat.mul (match firstR a with | some j => j + 1 | none => 0) 4096) i) T.cuts | none => none
def loopOf (T : Ann) (c : Code) : Option (List Nat) := match firstR c with | some i => lookN i T.loops | none => none
def vc (P : Program) (T : Ann) : Code → (Exit → Fr → World → Prop) → Fr → World → Prop
  | .skip, K, f, w => K .normal f w
  | .label _, K, f, w => K .normal f w
  | .region id ops dr, K, f, w =>
    match dr with
    | false => vops P ops.toList false (fun _ => []) (fun f w => K .normal f w) (upto (lenO ops.toList) 0) [] [] f w
    | true => match lookN id T.ord with
      | some p => vdraw w fun w => vops P ops.toList true (lookD p.2) (fun f w => K .normal f w) p.1 [] [] f w
      | none => match lookN id T.trees with
        | some p => vdraw w fun w => vopsT P ops.toList (lookD p.2) (fun f w => K .normal f w) p.1 [] [] f w
        | none => match lookN id T.pars with
          | some p => vdraw w fun w => vopsP P ops.toList (lookD p.2.2.2) p.2.1 p.2.2.1 (fun f w => K .normal f w) p.1 [] [] f w
          | none => False
  | .seq a b, K, f, w =>
    match cutOf T a b with
    | some L => vjoin (fun J => vc P T a (seqK (fun f' w' => J (selL L f') w') K) f w) (fun u g w' => vc P T b K (hav f L (mods a []) u g) w')
    | none => vc P T a (seqK (fun f' w' => vc P T b K f' w') K) f w
  | .cond c a b, K, f, w => vif (ev f c) (vc P T a K f w) (vc P T b K f w)
  | .block id b, K, f, w => vc P T b (blkK id K) f w
  | .loop b, K, f, w =>
    match loopOf T b with
    | some L => vloop (selL L f) w fun C u g w' => vc P T b (seqK (fun f' w'' => C (selL L f') w'') K) (hav f L (mods b []) u g) w'
    | none => False
  | .exit id, K, f, w => K (.exit id) f w
  | .ret, K, f, w => K .ret f w
  | .scope b, K, f, w => vc P T b K f w
  | _, _, _, _ => False
def okC (n : Nat) (T : Ann) : Code → Bool
  | .region id ops dr => opsOk n ops.toList && (match dr with
    | false => true
    | true => match lookN id T.ord with
      | some p => chkOrd ops (lookD p.2) p.1 && allN (fun q => allN (fun x => memN x p.1) (lookD p.2 q)) (p.2.map (·.1))
      | none => match lookN id T.trees with
        | some p => chkTree ops (lookD p.2) p.1
        | none => match lookN id T.pars with
          | some p => chkPar ops (lookD p.2.2.2) p.1 p.2.1 p.2.2.1 && chkSlots ops.toList p.2.1 p.2.2.1
          | none => false)
  | .seq a b => okC n T a && okC n T b
  | .cond _ a b => okC n T a && okC n T b
  | .block _ b => okC n T b
  | .loop b => okC n T b
  | .scope b => okC n T b
  | _ => true
theorem upto_eq (n k : Nat) : upto n k = List.range' k n := by
  induction n generalizing k with
  | zero => rfl
  | succ n ih => simp only [upto, ih]; rfl
theorem lenO_eq (l : List Oper) : lenO l = l.length := by induction l <;> simp_all [lenO]
theorem lookN_mem {α : Type} {k : Nat} {T : List (Nat × α)} {x : α} (h : lookN k T = some x) : k ∈ T.map (·.1) := by
  induction T with
  | nil => cases h
  | cons p r ih =>
    simp only [lookN] at h
    cases hb : Nat.beq k p.1
    · rw [hb] at h; exact List.mem_cons_of_mem _ (ih h)
    · simp [Nat.eq_of_beq_eq_true hb]
theorem lookD_in {T : List (Nat × List Nat)} {π : List Nat} (h : allN (fun q => allN (fun x => memN x π) (lookD T q)) (T.map (·.1)) = true) : ∀ s x, x ∈ lookD T s → x ∈ π := by
  intro s x hx
  have hs : s ∈ T.map (·.1) := by
    unfold lookD at hx
    cases hl : lookN s T with
    | none => rw [hl] at hx; cases hx
    | some l => exact lookN_mem hl
  exact memN_iff.1 (allN_iff.1 (allN_iff.1 h s hs) x hx)
def Post (df : List Deferred) (n : Nat) (M : List Nat) (f : Fr) (K : Exit → Fr → World → Prop) (e : Exit) (a : Act) (w : World) : Prop :=
  ∃ f', Sim df n f' a ∧ (∀ t, t ∉ M → f' t = f t) ∧ K e f' w
theorem least {p : Nat → Prop} (h : ∃ n, p n) : ∃ n, p n ∧ ∀ m, p m → n ≤ m := by
  obtain ⟨n, hn⟩ := h
  induction n using Nat.strongRecOn with
  | _ n ih =>
    by_cases hm : ∃ m, m < n ∧ p m
    · obtain ⟨m, hlt, hp⟩ := hm
      exact ih m hlt hp
    · exact ⟨n, hn, fun m hp => Nat.le_of_not_lt fun hlt => hm ⟨m, hlt, hp⟩⟩
open Classical in
noncomputable def rank (p : Nat → Prop) : Nat := if h : ∃ n, p n then Classical.choose (least h) else 0
theorem rank_spec {p : Nat → Prop} (h : ∃ n, p n) : p (rank p) ∧ ∀ m, p m → rank p ≤ m := by
  unfold rank
  rw [dif_pos h]
  exact Classical.choose_spec (least h)
theorem Sim.fr {df : List Deferred} {n : Nat} {f : Fr} {a : Act} (h : Sim df n f a) : (fun t => a.tmps.getD t undef) = f := funext h.at_
theorem stepR_scope {P : Program} {b : Frame} {a : Act} {k : List Item} {cs : List Frame} {w : World} {c : Code} : step P (lone (b.atR a (.code (.scope c) :: k)) cs w) = .next (lone (b.atR a (.code c :: .inScope c :: k)) cs w) :=
  step_lone_go (by simp [stepG, stepG.exec, Frame.atR])
theorem stepR_inScope {P : Program} {b : Frame} {a : Act} {k : List Item} {cs : List Frame} {w : World} {c : Code} : step P (lone (b.atR a (.inScope c :: k)) cs w) = .next (lone (b.atR a k) cs w) :=
  step_lone_go (by simp [stepG, stepG.exec, Frame.atR])
theorem wpIn_scope_straight {ro : Option Nat} {P : Program} {Q : Exit → Act → World → Prop} {a : Act} {w : World} {c : Code} (h : c.wpIn (FR ro) 0 P (Exit.noGoto Q) a w) : (Code.scope c).wpIn (FR ro) 0 P Q a w := by
  intro b k cs hro hb hr
  have h0 : (lone (b.atR a (.code (.scope c) :: k)) cs w).fenced P (FR ro) := fenced_calm hb hr rfl
  obtain ⟨e, a₁, w₁, hq, harr⟩ := h b (.inScope c :: k) cs hro hb hr
  cases e with
  | normal => exact ⟨.normal, a₁, w₁, hq, .head h0 stepR_scope (StepsIn.trans harr (.one (fenced_calm hb hr rfl) stepR_inScope))⟩
  | exit id =>
    have hx : exitTo id (.inScope c :: k) = exitTo id k := by simp [exitTo]
    exact ⟨.exit id, a₁, w₁, hq, fun k' hk => .head h0 stepR_scope (harr.1 k' (by rw [hx]; exact hk)),
      fun hr' hk => let ⟨k₁, h1, h2⟩ := harr.2 hr' (by rw [hx]; exact hk); ⟨k₁, h1, .head h0 stepR_scope h2⟩⟩
  | goto l => exact hq.elim
  | ret => exact ⟨_, a₁, w₁, hq, .of_steps (.one h0 stepR_scope) harr⟩
  | panic ch => exact ⟨_, a₁, w₁, hq, .of_steps (.one h0 stepR_scope) harr⟩
  | outgrown => exact ⟨_, a₁, w₁, hq, .of_steps (.one h0 stepR_scope) harr⟩
section
variable {ro : Option Nat} {df : List Deferred} {P : Program} {T : Ann} {n : Nat}
theorem vc_sound (hm : P.follows .mixedOrders = true) : ∀ (c : Code) (K : Exit → Fr → World → Prop) (f : Fr) (a : Act) (w : World), okC n T c = true → vc P T c K f w → Sim df n f a → (∀ l f w, ¬ K (.goto l) f w) →
    c.wpIn (FR ro) 0 P (Post df n (mods c []) f K) a w := by
  intro c
  induction c with
  | skip => intro K f a w _ h hs _; exact wpIn_skip ⟨f, hs, fun _ _ => rfl, h⟩
  | label l => intro K f a w _ h hs _; exact wpIn_label ⟨f, hs, fun _ _ => rfl, h⟩
  | exit id => intro K f a w _ h hs _; exact wpIn_exit ⟨f, hs, fun _ _ => rfl, h⟩
  | ret => intro K f a w _ h hs _; exact wpIn_ret ⟨f, hs, fun _ _ => rfl, h⟩
  | goto l => intro K f a w _ h; exact h.elim
  | refuse s => intro K f a w _ h; exact h.elim
  | rangeFunc x y z b _ _ => intro K f a w _ h; exact h.elim
  | region id ops dr =>
    intro K f a w hok h hs _
    simp only [okC, Bool.and_eq_true] at hok
    have hK : ∀ f' a' w', Sim df n f' a' → (∀ t, (∀ o, o ∈ ops → o.dst ≠ some t) → f' t = f t) → K .normal f' w' → Post df n (mods (.region id ops dr) []) f K .normal a' w' := by
      intro f' a' w' hs' ht hk
      refine ⟨f', hs', fun t hn => ht t fun o ho hd => hn ?_, hk⟩
      simp only [mods, mem_dsts]
      exact .inl ⟨o, Array.mem_toList_iff.2 ho, hd⟩
    cases dr with
    | false =>
      simp only [vc] at h
      exact region_text hok.1 (by rw [upto_eq, lenO_eq, Array.length_toList, List.range_eq_range']) h hs hK
    | true =>
      simp only [vc] at h
      have hok2 := hok.2
      cases hl : lookN id T.ord with
      | none =>
        rw [hl] at h hok2
        simp only at h hok2
        cases ht : lookN id T.trees with
        | none =>
          rw [ht] at h hok2
          simp only at h hok2
          cases hp : lookN id T.pars with
          | none => rw [hp] at h; exact h.elim
          | some p =>
            rw [hp] at h hok2
            simp only [Bool.and_eq_true] at hok2
            exact region_par hok.1 hm hok2.1 hok2.2 h hs hK
        | some p =>
          rw [ht] at h hok2
          exact region_tree hok.1 hm hok2 h hs hK
      | some p =>
        rw [hl] at h hok2
        simp only [Bool.and_eq_true] at hok2
        exact region_draw hok.1 hm hok2.1 (lookD_in hok2.2) h hs hK
  | seq x y ihx ihy =>
    intro K f a w hok h hs hg
    simp only [okC, Bool.and_eq_true] at hok
    refine wpIn_seq ?_
    simp only [vc] at h
    cases hc : cutOf T x y with
    | none =>
      rw [hc] at h
      refine wpIn_mono (ihx _ f a w hok.1 h hs ?_) ?_
      · intro l f' w' hk; exact hg l f' w' hk
      · rintro e a' w' ⟨f', hs', ht, hk⟩
        cases e with
        | normal =>
          refine wpIn_mono (ihy K f' a' w' hok.2 hk hs' hg) ?_
          rintro e a'' w'' ⟨f'', hs'', ht'', hk'⟩
          refine ⟨f'', hs'', fun t hn => ?_, hk'⟩
          simp only [mods] at hn
          rw [mem_mods] at hn
          rw [ht'' t (fun h => hn (.inr h)), ht t (fun h => hn (.inl h))]
        | _ => exact ⟨f', hs', fun t hn => ht t (fun h => hn (by simp only [mods]; rw [mem_mods]; exact .inl h)), hk⟩
    | some L =>
      rw [hc] at h
      obtain ⟨J, hA, hB⟩ := h
      refine wpIn_mono (ihx _ f a w hok.1 hA hs ?_) ?_
      · intro l f' w' hk; exact hg l f' w' hk
      · rintro e a' w' ⟨f', hs', ht, hk⟩
        cases e with
        | normal =>
          have hb := hB _ f' _ hk
          simp only [hav_self ht] at hb
          refine wpIn_mono (ihy K f' a' w' hok.2 hb hs' hg) ?_
          rintro e a'' w'' ⟨f'', hs'', ht'', hk'⟩
          refine ⟨f'', hs'', fun t hn => ?_, hk'⟩
          simp only [mods] at hn
          rw [mem_mods] at hn
          rw [ht'' t (fun h => hn (.inr h)), ht t (fun h => hn (.inl h))]
        | _ => exact ⟨f', hs', fun t hn => ht t (fun h => hn (by simp only [mods]; rw [mem_mods]; exact .inl h)), hk⟩
  | cond x y z ihy ihz =>
    intro K f a w hok h hs hg
    simp only [okC, Bool.and_eq_true] at hok
    simp only [vc] at h
    unfold vif at h
    split at h
    · rename_i hx
      refine wpIn_cond_true (by rw [hs.eval]; exact hx) (wpIn_mono (ihy K f a w hok.1 h hs hg) ?_)
      rintro e a' w' ⟨f', hs', ht, hk⟩
      exact ⟨f', hs', fun t hn => ht t (fun h => hn (by simp only [mods]; rw [mem_mods]; exact .inl h)), hk⟩
    · rename_i hx
      refine wpIn_cond_false (by rw [hs.eval]; exact hx) (wpIn_mono (ihz K f a w hok.2 h hs hg) ?_)
      rintro e a' w' ⟨f', hs', ht, hk⟩
      exact ⟨f', hs', fun t hn => ht t (fun h => hn (by simp only [mods]; rw [mem_mods]; exact .inr h)), hk⟩
    · exact h.elim
  | block id b ih =>
    intro K f a w hok h hs hg
    refine wpIn_block (wpIn_mono (ih _ f a w hok h hs ?_) ?_)
    · intro l f' w' hk; exact hg l f' w' hk
    · rintro e a' w' ⟨f', hs', ht, hk⟩
      cases e with
      | exit i =>
        simp only [Exit.inBlock]
        simp only [blkK] at hk
        cases hb : Nat.beq i id
        · rw [hb] at hk
          have : i ≠ id := fun e => by subst e; simp at hb
          rw [if_neg this]
          exact ⟨f', hs', ht, hk⟩
        · rw [hb] at hk
          rw [if_pos (Nat.eq_of_beq_eq_true hb)]
          exact ⟨f', hs', ht, hk⟩
      | _ => exact ⟨f', hs', ht, hk⟩
  | loop b ih =>
    intro K f a w hok h hs hg
    simp only [vc] at h
    cases hl : loopOf T b with
    | none => rw [hl] at h; exact h.elim
    | some L =>
      rw [hl] at h
      obtain ⟨I, h0, hB⟩ := h
      refine wpIn_loop (fun a' w' => ∃ f', Sim df n f' a' ∧ (∀ t, t ∉ mods b [] → f' t = f t) ∧ ∃ k, I k (selL L f') w') (fun a' w' => rank fun k => I k (selL L fun t => a'.tmps.getD t undef) w')
        ⟨f, hs, fun _ _ => rfl, h0⟩ ?_
      rintro a' w' ⟨f', hs', ht, hI⟩
      obtain ⟨hr1, _⟩ := rank_spec hI
      have hb := hB _ _ f' _ hr1
      simp only [hav_self ht] at hb
      refine wpIn_mono (ih _ f' a' w' hok hb hs' ?_) ?_
      · intro l f'' w'' hk; exact hg l f'' w'' hk
      · rintro e a'' w'' ⟨f'', hs'', ht'', hk⟩
        have hall : ∀ t, t ∉ mods b [] → f'' t = f t := fun t hn => (ht'' t hn).trans (ht t hn)
        cases e with
        | normal =>
          obtain ⟨m, hlt, hm⟩ := hk
          refine ⟨⟨f'', hs'', hall, m, hm⟩, ?_⟩
          rw [hs''.fr, hs'.fr]
          exact Nat.lt_of_le_of_lt ((rank_spec ⟨m, hm⟩).2 m hm) hlt
        | _ => exact ⟨f'', hs'', hall, hk⟩
  | scope b ih =>
    intro K f a w hok h hs hg
    refine wpIn_scope_straight (wpIn_mono (ih K f a w hok h hs hg) ?_)
    rintro e a' w' ⟨f', hs', ht, hk⟩
    cases e with
    | goto l => exact (hg l _ _ hk).elim
    | _ => exact ⟨f', hs', ht, hk⟩
def vlv (P : Program) (t : TypeId) (a : Value) (w : World) (K : Value → World → Prop) : Prop := vrun P (do loadVar t (← asAddr a)) w fun v w' => w' = w ∧ K v w
def vresL (P : Program) : List ResultVar → Fr → World → (List Value → World → Prop) → Prop
  | [], _, w, K => K [] w
  | .tmp t :: r, f, w, K => vresL P r f w fun l w => K (f t :: l) w
  | .cell a t :: r, f, w, K => vlv P t (f a) w fun v w => vresL P r f w fun l w => K (v :: l) w
def tup : List Value → Value
  | [v] => v
  | l => .tuple ⟨l⟩
def vres (P : Program) (rs : List ResultVar) (f : Fr) (w : World) (K : Value → World → Prop) : Prop := vresL P rs f w fun l w => K (tup l) w
def rdR (a : Act) : ResultVar → Sem Value
  | .tmp t => pure (a.tmps.getD t undef)
  | .cell x t => do loadVar t (← asAddr (a.tmps.getD x undef))
theorem vresL_sound {f : Fr} {a : Act} {w : World} (hs : Sim df n f a) : ∀ (rs : List ResultVar) (K : List Value → World → Prop), vresL P rs f w K →
    ∃ l, l.length = rs.length ∧ (rs.mapM (rdR a)).run P w = .ok l w ∧ K l w := by
  intro rs
  induction rs with
  | nil => intro K h; exact ⟨[], rfl, rfl, h⟩
  | cons r rs ih =>
    intro K h
    cases r with
    | tmp t =>
      obtain ⟨l, hl, hr, hk⟩ := ih _ h
      refine ⟨f t :: l, by simp [hl], ?_, hk⟩
      simp only [List.mapM_cons, rdR, Sem.run_bind, Sem.run_pure, Result.andThen_ok]
      rw [hr]
      simp only [Result.andThen_ok, hs.at_]
    | cell x t =>
      obtain ⟨v, w', hr1, hw, h2⟩ := h
      obtain ⟨l, hl, hr, hk⟩ := ih _ h2
      subst hw
      refine ⟨v :: l, by simp [hl], ?_, hk⟩
      rw [← hs.at_ x] at hr1
      simp only [List.mapM_cons, rdR, Sem.run_bind] at hr1 ⊢
      rw [hr1]
      simp only [Result.andThen_ok, hr, Sem.run_pure]
theorem tup_eq (l : List Value) : (if h : (l.toArray).size = 1 then (l.toArray)[0] else Value.tuple l.toArray) = tup l := by
  match l with
  | [] => rfl
  | [v] => rfl
  | a :: b :: r => simp [tup]
theorem vres_sound {fn : Func} {f : Fr} {a : Act} {w : World} {K : Value → World → Prop} (h : vres P fn.results.toList f w K) (hs : Sim df n f a) :
    ∃ v, (results fn a.tmps).run P w = .ok v w ∧ K v w := by
  obtain ⟨l, _, hr, hk⟩ := vresL_sound (P := P) hs _ _ h
  refine ⟨tup l, ?_, hk⟩
  have e : fn.results = fn.results.toList.toArray := rfl
  have e2 : results fn a.tmps = (do
      let vs ← fn.results.mapM (rdR a)
      pure (if h : vs.size = 1 then vs[0] else .tuple vs)) := by
    unfold results
    congr 2
  rw [e2, e, List.mapM_toArray]
  simp only [Sem.run_bind, Sem.run_map]
  rw [hr]
  simp only [Result.andThen_ok, Sem.run_pure]
  rw [tup_eq]
def retF (P : Program) (rs : List ResultVar) (K : Value → World → Prop) (e : Exit) (f : Fr) (w : World) : Prop :=
  match e with
  | .normal => vres P rs f w K
  | .ret => vres P rs f w K
  | _ => False
def nthV : List Value → Fr
  | [], _ => undef
  | v :: _, 0 => v
  | _ :: l, t + 1 => nthV l t
theorem nthV_eq (l : List Value) (t : Nat) : nthV l t = l.getD t undef := by
  induction l generalizing t with
  | nil => simp [nthV]
  | cons v l ih => cases t <;> simp [nthV, ih]
theorem sim_enter (args : List Value) (m : Nat) (h : args.length ≤ m) :
    Sim [] m (nthV args) { tmps := (args.toArray) ++ Array.replicate (m - args.toArray.size) undef, defers := [] } := by
  refine ⟨by simp; omega, rfl, fun t => ?_⟩
  rw [nthV_eq]
  simp only [Array.getD_eq_getD_getElem?, List.getD_eq_getElem?_getD]
  rw [Array.getElem?_append]
  split
  · simp
  · rename_i hlt
    simp only [List.size_toArray, Nat.not_lt] at hlt
    rw [List.getElem?_eq_none hlt]
    rw [Array.getElem?_replicate]
    split <;> rfl
theorem call_of_vc {g : Nat} {fn : Func} {c : Code} {args : List Value} {w : World} {K : Value → World → Prop} (hm : P.follows .mixedOrders = true) (hf : P.funcs[g]? = some fn) (hb : fn.body = some c)
    (hn : fn.ntmps = n) (hg : okFn P g = true) (hok : okC n T c = true) (hlen : Nat.ble args.length n = true)
    (h : vc P T c (retF P fn.results.toList K) (nthV args) w) : vcall P g args.toArray w K := by
  refine ⟨hg, callsIn_wide (n := 0).1 (callsIn_of_wp hf hb trivial ?_)⟩
  rw [hn]
  refine wpIn_mono (vc_sound hm c _ _ _ w hok h (sim_enter args n (Nat.le_of_ble_eq_true hlen)) (fun l f w h => h)) ?_
  rintro e a' w' ⟨f', hs', _, hk⟩
  cases e with
  | normal => obtain ⟨v, hr, hv⟩ := vres_sound hk hs'; exact ⟨hs'.defers, v, hr, hv⟩
  | ret => obtain ⟨v, hr, hv⟩ := vres_sound hk hs'; exact ⟨hs'.defers, v, hr, hv⟩
  | _ => exact hk.elim
end
theorem vloop_of {z : List Value} {w : World} {B : (List Value → World → Prop) → List Value → Fr → World → Prop} (I : Nat → List Value → World → Prop) (n : Nat) (h0 : I n z w)
    (h : ∀ n u g w' C, I n u w' → (∀ m u' w'', m < n → I m u' w'' → C u' w'') → B C u g w') : vloop z w B :=
  ⟨I, ⟨n, h0⟩, fun n u g w' hI => h n u g w' _ hI fun m _ _ hlt hm => ⟨m, hlt, hm⟩⟩
theorem vloop_up {z : List Value} {w : World} {B : (List Value → World → Prop) → List Value → Fr → World → Prop} (N : Nat) (I : Nat → List Value → World → Prop) (h0 : I 0 z w)
    (h : ∀ k u g w' C, k ≤ N → I k u w' → (k < N → ∀ u' w'', I (k + 1) u' w'' → C u' w'') → B C u g w') : vloop z w B := by
  refine vloop_of (fun n u w => ∃ k, k ≤ N ∧ n = N - k ∧ I k u w) N ⟨0, Nat.zero_le _, by omega, h0⟩ ?_
  rintro n u g w' C ⟨k, hk, rfl, hI⟩ hC
  exact h k u g w' C hk hI fun hlt u' w'' hI' => hC (N - (k + 1)) u' w'' (by omega) ⟨k + 1, hlt, rfl, hI'⟩
theorem vjoin_of {A : (List Value → World → Prop) → Prop} {B : List Value → Fr → World → Prop} (J : List Value → World → Prop)
    (hA : ∀ C, (∀ u w, J u w → C u w) → A C) (hB : ∀ u g w, J u w → B u g w) : vjoin A B := ⟨J, hA J fun _ _ h => h, hB⟩
end Go.Vc
end
section
namespace Go.Vc
open Go
section
variable {P : Program} {w : World} {K : Value → World → Prop}
theorem vrun_eq {α : Type} {s : Sem α} {K : α → World → Prop} {v : α} {w' : World} (h : s.run P w = .ok v w') : vrun P s w K = K v w' := by
  apply propext
  constructor
  · rintro ⟨a, b, h', k⟩
    rw [h] at h'
    cases h'
    exact k
  · exact fun k => ⟨_, _, h, k⟩
@[push_cast] theorem vif_t (A B : Prop) : vif (.bool true) A B = A := rfl
@[push_cast] theorem vif_f (A B : Prop) : vif (.bool false) A B = B := rfl
theorem vif_dec {p : Prop} [Decidable p] {A B : Prop} (h : p → A) (h' : ¬ p → B) : vif (.bool (decide p)) A B := by
  by_cases hp : p
  · rw [decide_eq_true hp]; exact h hp
  · rw [decide_eq_false hp]; exact h' hp
theorem vif_bool {b : Bool} {A B : Prop} (h : b = true → A) (h' : b = false → B) : vif (.bool b) A B := by
  cases b
  · exact h' rfl
  · exact h rfl
@[push_cast] theorem vpick_t (a b : Value) : vpick (.bool true) a b w K = K a w := rfl
@[push_cast] theorem vpick_f (a b : Value) : vpick (.bool false) a b w K = K b w := rfl
@[push_cast] theorem vpick_bb (c x y : Bool) : vpick (.bool c) (.bool x) (.bool y) w K = K (.bool (if c then x else y)) w := by cases c <;> rfl
@[push_cast] theorem vnil_ptr (a : Addr) : vnil P (.pointer (some a)) w K = K (.pointer (some a)) w := propext ⟨fun h => h.h, fun h => ⟨h⟩⟩
@[push_cast] theorem vnil_func (g : Nat) (a b : Array Value) : vnil P (.func (.func g) a b) w K = K (.func (.func g) a b) w := propext ⟨fun h => h.h, fun h => ⟨h⟩⟩
@[push_cast] theorem vnil_iface (t : TypeId) (x : Value) : vnil P (.iface t x) w K = K (.iface t x) w := propext ⟨fun h => h.h, fun h => ⟨h⟩⟩
@[push_cast] theorem vcallv_func (g : Nat) (a b args : Array Value) : vcallv P (.func (.func g) a b) args w K = vcall P g ⟨(a.toList ++ args.toList) ++ b.toList⟩ w K := rfl
@[push_cast] theorem vun_not (b : Bool) : vun P .not (.bool b) w K = K (.bool (!b)) w := vrun_eq rfl
@[push_cast] theorem vun_neg (k : IntKind) (n : Int) : vun P .neg (.int k n) w K = K (.int k (k.wrap (0 - n))) w := vrun_eq rfl
theorem vbin_run {op : BinOp} {t : TypeId} {c : Bool} {a b v : Value} (h1 : (eqG op t c a b).run P w = .ok () w) (h2 : (binOp op t a b).run P w = .ok v w) :
    vbin P op t c a b w K = K v w := vrun_eq (by simp only [Sem.run_bind, h1, Result.andThen_ok, h2])
@[push_cast] theorem vbin_add (t : TypeId) (c : Bool) (k : IntKind) (a b : Int) : vbin P .add t c (.int k a) (.int k b) w K = K (.int k (k.wrap (a + b))) w := vbin_run rfl (by simp [binOp, Op.intArith])
@[push_cast] theorem vbin_sub (t : TypeId) (c : Bool) (k : IntKind) (a b : Int) : vbin P .sub t c (.int k a) (.int k b) w K = K (.int k (k.wrap (a - b))) w := vbin_run rfl (by simp [binOp, Op.intArith])
@[push_cast] theorem vbin_mul (t : TypeId) (c : Bool) (k : IntKind) (a b : Int) : vbin P .mul t c (.int k a) (.int k b) w K = K (.int k (k.wrap (a * b))) w := vbin_run rfl (by simp [binOp, Op.intArith])
@[push_cast] theorem vbin_lss (t : TypeId) (c : Bool) (k : IntKind) (a b : Int) : vbin P .lss t c (.int k a) (.int k b) w K = K (.bool (decide (a < b))) w := vbin_run rfl (by simp [binOp, Op.intCmp])
@[push_cast] theorem vbin_leq (t : TypeId) (c : Bool) (k : IntKind) (a b : Int) : vbin P .leq t c (.int k a) (.int k b) w K = K (.bool (decide (a ≤ b))) w := vbin_run rfl (by simp [binOp, Op.intCmp])
@[push_cast] theorem vbin_gtr (t : TypeId) (c : Bool) (k : IntKind) (a b : Int) : vbin P .gtr t c (.int k a) (.int k b) w K = K (.bool (decide (b < a))) w := vbin_run rfl (by simp [binOp, Op.intCmp])
@[push_cast] theorem vbin_geq (t : TypeId) (c : Bool) (k : IntKind) (a b : Int) : vbin P .geq t c (.int k a) (.int k b) w K = K (.bool (decide (b ≤ a))) w := vbin_run rfl (by simp [binOp, Op.intCmp])
@[push_cast] theorem vbin_eql (t : TypeId) (c : Bool) (k : IntKind) (a b : Int) : vbin P .eql t c (.int k a) (.int k b) w K = K (.bool (decide (a = b))) w :=
  vbin_run rfl (by simp [binOp, Op.intCmp]; by_cases h : a = b <;> simp [h])
@[push_cast] theorem vbin_neq (t : TypeId) (c : Bool) (k : IntKind) (a b : Int) : vbin P .neq t c (.int k a) (.int k b) w K = K (.bool (decide (a ≠ b))) w :=
  vbin_run rfl (by simp [binOp, Op.intCmp]; by_cases h : a = b <;> simp [h])
theorem wrap64 {x : Int} (h : -9223372036854775808 ≤ x) (h' : x ≤ 9223372036854775807) : IntKind.i64.wrap x = x := IntWalk.i64_in x ⟨h, h'⟩
@[push_cast] theorem vextract_one0 (a : Value) : vextract P (.tuple #[a]) 0 w K = K a w := vrun_eq rfl
@[push_cast] theorem vextract_two0 (a b : Value) : vextract P (.tuple #[a, b]) 0 w K = K a w := vrun_eq rfl
@[push_cast] theorem vextract_two1 (a b : Value) : vextract P (.tuple #[a, b]) 1 w K = K b w := vrun_eq rfl
@[push_cast] theorem vextract_three0 (a b c : Value) : vextract P (.tuple #[a, b, c]) 0 w K = K a w := vrun_eq rfl
@[push_cast] theorem vextract_three1 (a b c : Value) : vextract P (.tuple #[a, b, c]) 1 w K = K b w := vrun_eq rfl
@[push_cast] theorem vextract_three2 (a b c : Value) : vextract P (.tuple #[a, b, c]) 2 w K = K c w := vrun_eq rfl
@[push_cast] theorem vmkF_eq (fn : Fn) (a b : List Value) : vmkF P fn a b w K = K (.func fn ⟨a⟩ ⟨b⟩) w := vrun_eq rfl
@[push_cast] theorem sl0 (a : Value) (l : List Value) : sl 0 (a :: l) = a := rfl
@[push_cast] theorem sl1 (a b : Value) (l : List Value) : sl 1 (a :: b :: l) = b := rfl
@[push_cast] theorem sl2 (a b c : Value) (l : List Value) : sl 2 (a :: b :: c :: l) = c := rfl
@[push_cast] theorem sl3 (a b c d : Value) (l : List Value) : sl 3 (a :: b :: c :: d :: l) = d := rfl
@[push_cast] theorem sl4 (a b c d e : Value) (l : List Value) : sl 4 (a :: b :: c :: d :: e :: l) = e := rfl
@[push_cast] theorem sl5 (a b c d e f : Value) (l : List Value) : sl 5 (a :: b :: c :: d :: e :: f :: l) = f := rfl
@[push_cast] theorem sl6 (a b c d e f g : Value) (l : List Value) : sl 6 (a :: b :: c :: d :: e :: f :: g :: l) = g := rfl
@[push_cast] theorem sl7 (a b c d e f g h : Value) (l : List Value) : sl 7 (a :: b :: c :: d :: e :: f :: g :: h :: l) = h := rfl
end
structure Same (S : Nat → Prop) (w w' : World) : Prop where
  os : w'.os = w.os
  tape : w'.tape = w.tape
  output : w'.output = w.output
  size : w.heap.size ≤ w'.heap.size
  block : ∀ b, b < w.heap.size → ¬ S b → w'.heap[b]? = w.heap[b]?
abbrev Ext (w w' : World) : Prop := Same (fun _ => False) w w'
theorem Same.refl (S : Nat → Prop) (w : World) : Same S w w := ⟨rfl, rfl, rfl, Nat.le_refl _, fun _ _ _ => rfl⟩
theorem Same.trans {S : Nat → Prop} {a b c : World} (h : Same S a b) (k : Same S b c) : Same S a c :=
  ⟨k.os.trans h.os, k.tape.trans h.tape, k.output.trans h.output, Nat.le_trans h.size k.size, fun i hi hs => (k.block i (Nat.lt_of_lt_of_le hi h.size) hs).trans (h.block i hi hs)⟩
theorem Same.mono {S S' : Nat → Prop} {a b : World} (h : Same S a b) (hs : ∀ x, x < a.heap.size → S x → S' x) : Same S' a b :=
  ⟨h.os, h.tape, h.output, h.size, fun i hi hn => h.block i hi (fun hx => hn (hs i hi hx))⟩
theorem Same.of_ext {S : Nat → Prop} {a b : World} (h : Ext a b) : Same S a b := h.mono fun _ _ h => h.elim
theorem Ext.then {S : Nat → Prop} {a b c : World} (h : Ext a b) (k : Same S b c) (hs : ∀ x, S x → a.heap.size ≤ x) : Ext a c :=
  ⟨k.os.trans h.os, k.tape.trans h.tape, k.output.trans h.output, Nat.le_trans h.size k.size, fun i hi _ =>
    (k.block i (Nat.lt_of_lt_of_le hi h.size) (fun hx => by have := hs i hx; omega)).trans (h.block i hi id)⟩
theorem ext_drew (w : World) : Ext w { w with drawn := w.drawn + 1 } := ⟨rfl, rfl, rfl, Nat.le_refl _, fun _ _ _ => rfl⟩
theorem Same.cell {S : Nat → Prop} {w w' : World} (h : Same S w w') {a : Addr} (hs : ¬ S a.block) {v : Value} (hc : w.cell? a = some v) : w'.cell? a = some v :=
  (World.cell?_of_block (h.block a.block (World.block_lt_of_cell? w a hc) hs)).trans hc
theorem vdraw_ext {w : World} {K : World → Prop} (h : ∀ w', Ext w w' → w'.heap = w.heap → K w') : vdraw w K := h _ (ext_drew w) rfl
section
variable {P : Program} {w : World} {K : Value → World → Prop}
def oneB (P : Program) (t : TypeId) : Bool := match P.underlying t with
  | some (.struct _) => false
  | some (.array _ _) => false
  | some _ => true
  | none => false
def aggB (P : Program) (t : TypeId) (n : Nat) : Bool := (match P.underlying t with
  | some (.struct _) => true
  | some (.array _ _) => true
  | _ => false) && (match P.info? t with | some i => Nat.beq i.size n | none => false)
theorem run_isAgg_one {t : TypeId} (h : oneB P t = true) : (isAgg t).run P w = .ok false w := by
  unfold oneB at h
  cases hu : P.underlying t with
  | none => rw [hu] at h; cases h
  | some d => rw [hu] at h; cases d <;> simp [isAgg, underlying, program, hu, Sem.run] at h ⊢
theorem run_isAgg_agg {t : TypeId} {n : Nat} (h : aggB P t n = true) : (isAgg t).run P w = .ok true w := by
  unfold aggB at h
  cases hu : P.underlying t with
  | none => rw [hu] at h; simp at h
  | some d => rw [hu] at h; cases d <;> simp [isAgg, underlying, program, hu, Sem.run] at h ⊢
theorem run_sizeOf_agg {t : TypeId} {n : Nat} (h : aggB P t n = true) : (sizeOf t).run P w = .ok n w := by
  unfold aggB at h
  cases hi : P.info? t with
  | none => rw [hi] at h; simp at h
  | some i =>
    rw [hi] at h
    simp only [Bool.and_eq_true] at h
    have := Nat.eq_of_beq_eq_true h.2
    simp [sizeOf, typeInfo, program, hi, Sem.run, this]
theorem vload_one {t : TypeId} (ht : oneB P t = true) {a : Addr} {v : Value} (h : w.cell? a = some v) : vload P t (.pointer (some a)) w K = K v w := by
  refine vrun_eq ?_
  simp only [Instr.loadAt, Instr.sureAddr, Sem.run_bind, Sem.run_pure, Result.andThen_ok, loadVar, run_isAgg_one ht, Bool.false_eq_true, if_false]
  simp [load, Sem.run, h]
def Cells (w : World) (a : Addr) (cs : List Value) : Prop := ∀ i v, cs[i]? = some v → w.cell? (a.add i) = some v
theorem run_loadCellsFrom {a : Addr} : ∀ (cs : List Value) (i : Nat) (acc : Array Value), (∀ j v, cs[j]? = some v → w.cell? (a.add (i + j)) = some v) →
    (loadCellsFrom a i cs.length acc).run P w = .ok (acc ++ cs.toArray) w := by
  intro cs
  induction cs with
  | nil => intro i acc _; simp [loadCellsFrom]
  | cons c cs ih =>
    intro i acc h
    have h0 := h 0 c (by simp)
    rw [Nat.add_zero] at h0
    have hl : (load (a.add i)).run P w = .ok c w := by simp [load, Sem.run, h0]
    simp only [List.length_cons, loadCellsFrom, Sem.run_bind, hl, Result.andThen_ok]
    rw [ih (i + 1) (acc.push c) (fun j v hj => by have := h (j + 1) v (by simpa using hj); rwa [Nat.add_assoc, Nat.add_comm 1 j])]
    simp
theorem vload_agg {t : TypeId} {cs : List Value} (ht : aggB P t cs.length = true) {a : Addr} (h : Cells w a cs) : vload P t (.pointer (some a)) w K = K (.agg cs.toArray) w := by
  refine vrun_eq ?_
  have hl := run_loadCellsFrom (P := P) (w := w) (a := a) cs 0 #[] (fun j v hj => by rw [Nat.zero_add]; exact h j v hj)
  simp only [Instr.loadAt, Instr.sureAddr, Sem.run_bind, Sem.run_pure, Result.andThen_ok, loadVar, run_isAgg_agg ht, if_true, run_sizeOf_agg ht, loadCells, hl]
  simp
theorem vlv_eq {t : TypeId} {a : Addr} {v : Value} (h : vload P t (.pointer (some a)) w (fun x w' => x = v ∧ w' = w)) : vlv P t (.pointer (some a)) w K = K v w := by
  obtain ⟨x, w', hr, rfl, rfl⟩ := h
  have hr' : (do loadVar t (← asAddr (.pointer (some a)))).run P w' = .ok x w' := by
    simpa [Instr.loadAt, Instr.sureAddr, asAddr] using hr
  unfold vlv
  rw [vrun_eq hr']
  simp
end
structure Sl (F : Nat → Prop) (w : World) (k : Nat) (v : Value) (xs : List (List Value)) : Prop where
  shape : ∃ a c, v = .slice a xs.length c ∧ xs.length ≤ c ∧ c ≤ 9223372036854775807 ∧
    (xs ≠ [] → ∃ b o, a = some ⟨b, o, none⟩ ∧ F b ∧ b < w.heap.size ∧ ∀ i, i < xs.length → Cells w ⟨b, o + i * k, none⟩ (xs.getD i []))
  wide : ∀ x, x ∈ xs → x.length = k
def eaddr (v : Value) (k i : Nat) : Addr := match v with
  | .slice (some a) _ _ => ⟨a.block, a.off + i * k, none⟩
  | _ => default
theorem addr_add (b o n : Nat) : (⟨b, o, none⟩ : Addr).add n = ⟨b, o + n, none⟩ := by
  unfold Addr.add
  split
  · simp [*]
  · rfl
theorem Cells.same {S : Nat → Prop} {w w' : World} {a : Addr} {cs : List Value} (h : Same S w w') (hs : ¬ S a.block) (hc : Cells w a cs) : Cells w' a cs := by
  intro i v hv
  refine h.cell ?_ (hc i v hv)
  unfold Addr.add
  split <;> exact hs
theorem Sl.same {F S : Nat → Prop} {w w' : World} {k : Nat} {v : Value} {xs : List (List Value)} (h : Sl F w k v xs) (hw : Same S w w') (hs : ∀ b, F b → b < w.heap.size → ¬ S b) : Sl F w' k v xs := by
  obtain ⟨⟨a, c, hv, hc, hm, hb⟩, hk⟩ := h
  refine ⟨⟨a, c, hv, hc, hm, fun hne => ?_⟩, hk⟩
  obtain ⟨b, o, ha, hf, hlt, hcell⟩ := hb hne
  exact ⟨b, o, ha, hf, Nat.lt_of_lt_of_le hlt hw.size, fun i hi => (hcell i hi).same hw (hs b hf hlt)⟩
theorem Sl.ext {F : Nat → Prop} {w w' : World} {k : Nat} {v : Value} {xs : List (List Value)} (h : Sl F w k v xs) (hw : Ext w w') : Sl F w' k v xs := h.same hw fun _ _ _ h => h
theorem Sl.weaken {F F' : Nat → Prop} {w : World} {k : Nat} {v : Value} {xs : List (List Value)} (h : Sl F w k v xs) (hf : ∀ b, F b → b < w.heap.size → F' b) : Sl F' w k v xs := by
  obtain ⟨⟨a, c, hv, hc, hm, hb⟩, hk⟩ := h
  refine ⟨⟨a, c, hv, hc, hm, fun hne => ?_⟩, hk⟩
  obtain ⟨b, o, ha, h1, hlt, hcell⟩ := hb hne
  exact ⟨b, o, ha, hf b h1 hlt, hlt, hcell⟩
def isSl (P : Program) (t : TypeId) : Bool := match P.underlying t with
  | some (.slice _) => true
  | _ => false
theorem isSl_eq {P : Program} {t : TypeId} (h : isSl P t = true) : ∃ e, P.underlying t = some (.slice e) := by
  unfold isSl at h
  split at h
  · rename_i e hu; exact ⟨e, hu⟩
  · cases h
def sizeB (P : Program) (e n : Nat) : Bool := match P.info? e with | some i => Nat.beq i.size n | none => false
def elB (P : Program) (t k : Nat) : Bool := match P.underlying t with
  | some (.slice e) => sizeB P e k
  | _ => false
theorem elB_eq {P : Program} {t k : Nat} (h : elB P t k = true) : ∃ e, P.underlying t = some (.slice e) ∧ sizeB P e k = true := by
  unfold elB at h
  split at h
  · rename_i e hu; exact ⟨e, hu, h⟩
  · cases h
section
variable {P : Program} {F : Nat → Prop} {w w' : World} {K : Value → World → Prop} {k : Nat} {v : Value} {xs : List (List Value)}
theorem run_sizeOf {e n : Nat} (h : sizeB P e n = true) : (sizeOf e).run P w = .ok n w := by
  unfold sizeB at h
  cases hi : P.info? e with
  | none => rw [hi] at h; cases h
  | some i => rw [hi] at h; have := Nat.eq_of_beq_eq_true h; simp [sizeOf, typeInfo, program, hi, Sem.run, this]
theorem run_under {t : TypeId} {d : TypeDesc} (h : P.underlying t = some d) : (underlying t).run P w = .ok d w := by simp [underlying, program, h, Sem.run]
theorem Sl.len (h : Sl F w k v xs) {t : TypeId} (ht : isSl P t = true) (ty : TypeId) : vbi P .len [t] ty [v] w' K = K (.int .i64 xs.length) w' := by
  obtain ⟨a, c, hv, _⟩ := h.shape
  obtain ⟨e, he⟩ := isSl_eq ht
  subst hv
  refine vrun_eq ?_
  simp [biSem, Builtin.len_, run_under he, goInt]
theorem Sl.iaddr (h : Sl F w k v xs) {t : TypeId} (ht : elB P t k = true) {kd : IntKind} {i : Int} (h0 : 0 ≤ i) (h1 : i < xs.length) :
    viaddr P t v (.int kd i) w' K = K (.pointer (some (eaddr v k i.toNat))) w' := by
  obtain ⟨a, c, hv, _, _, hb⟩ := h.shape
  obtain ⟨b, o, ha, _⟩ := hb (by intro e; subst e; simp at h1; omega)
  obtain ⟨e, he, hs⟩ := elB_eq ht
  subst ha
  subst hv
  refine vrun_eq ?_
  simp [Instr.indexAt, asIntOf, run_under he, h0, h1, run_sizeOf hs, eaddr, addr_add]
theorem Sl.cells (h : Sl F w k v xs) {i : Nat} (hi : i < xs.length) : Cells w (eaddr v k i) (xs.getD i []) := by
  obtain ⟨a, c, hv, _, _, hb⟩ := h.shape
  obtain ⟨b, o, ha, _, _, hc⟩ := hb (by intro e; subst e; simp at hi)
  subst ha
  subst hv
  exact hc i hi
end
def Blk (w : World) (b : Nat) (cs : List Value) (t : TypeId) : Prop := w.heap[b]? = some (.cells ⟨cs⟩ t (0, 0))
theorem Blk.lt {w : World} {b : Nat} {cs : List Value} {t : TypeId} (h : Blk w b cs t) : b < w.heap.size := (Array.getElem?_eq_some_iff.1 h).1
theorem Blk.same {S : Nat → Prop} {w w' : World} {b : Nat} {cs : List Value} {t : TypeId} (h : Blk w b cs t) (hw : Same S w w') (hs : ¬ S b) : Blk w' b cs t :=
  (hw.block b h.lt hs).trans h
theorem Blk.ext {w w' : World} {b : Nat} {cs : List Value} {t : TypeId} (h : Blk w b cs t) (hw : Ext w w') : Blk w' b cs t := h.same hw id
theorem Blk.cell {w : World} {b : Nat} {cs : List Value} {t : TypeId} (h : Blk w b cs t) {i : Nat} {v : Value} (hv : cs[i]? = some v) : w.cell? ⟨b, i, none⟩ = some v := by
  unfold World.cell?
  rw [show w.heap[(⟨b, i, none⟩ : Addr).block]? = _ from h]
  simpa using hv
theorem Blk.frozen {w : World} {b : Nat} {cs : List Value} {t : TypeId} (h : Blk w b cs t) (a : Addr) (ha : a.block = b) : w.frozen? a = false := by
  unfold World.frozen?
  rw [ha, show w.heap[b]? = _ from h]
  simp
section
variable {P : Program} {w : World} {K : Value → World → Prop} {b : Nat} {cs : List Value} {t0 : TypeId}
@[push_cast] theorem blt_zero {α : Type} (a : α) (l : List α) : Nat.blt 0 (a :: l).length = true := rfl
@[push_cast] theorem blt_succ {α : Type} (n : Nat) (a : α) (l : List α) : Nat.blt (n + 1) (a :: l).length = Nat.blt n l.length := rfl
theorem getD_some {cs : List Value} {i : Nat} (hi : Nat.blt i cs.length = true) : cs[i]? = some (cs.getD i undef) := by
  have : i < cs.length := by simpa [Nat.blt_eq] using hi
  simp [List.getD_eq_getElem?_getD, this]
theorem Blk.ld0 {x0 : Value} {r : List Value} (h : Blk w b (x0 :: r) t0) {t : TypeId} (ho : oneB P t = true) : vload P t (.pointer (some ⟨b, 0, none⟩)) w K = K x0 w := vload_one ho (h.cell rfl)
theorem Blk.ld1 {x0 x1 : Value} {r : List Value} (h : Blk w b (x0 :: x1 :: r) t0) {t : TypeId} (ho : oneB P t = true) : vload P t (.pointer (some ⟨b, 1, none⟩)) w K = K x1 w := vload_one ho (h.cell rfl)
theorem Blk.ld2 {x0 x1 x2 : Value} {r : List Value} (h : Blk w b (x0 :: x1 :: x2 :: r) t0) {t : TypeId} (ho : oneB P t = true) : vload P t (.pointer (some ⟨b, 2, none⟩)) w K = K x2 w := vload_one ho (h.cell rfl)
theorem Blk.ld3 {x0 x1 x2 x3 : Value} {r : List Value} (h : Blk w b (x0 :: x1 :: x2 :: x3 :: r) t0) {t : TypeId} (ho : oneB P t = true) : vload P t (.pointer (some ⟨b, 3, none⟩)) w K = K x3 w := vload_one ho (h.cell rfl)
theorem Blk.ld4 {x0 x1 x2 x3 x4 : Value} {r : List Value} (h : Blk w b (x0 :: x1 :: x2 :: x3 :: x4 :: r) t0) {t : TypeId} (ho : oneB P t = true) : vload P t (.pointer (some ⟨b, 4, none⟩)) w K = K x4 w := vload_one ho (h.cell rfl)
theorem Blk.ldAgg (h : Blk w b cs t0) {t : TypeId} (ht : aggB P t cs.length = true) : vload P t (.pointer (some ⟨b, 0, none⟩)) w K = K (.agg ⟨cs⟩) w :=
  vload_agg ht fun i v hv => by rw [addr_add, Nat.zero_add]; exact h.cell hv
theorem Blk.lv (h : Blk w b cs t0) {t : TypeId} (ht : aggB P t cs.length = true) : vlv P t (.pointer (some ⟨b, 0, none⟩)) w K = K (.agg ⟨cs⟩) w :=
  vlv_eq (by rw [h.ldAgg ht]; exact ⟨rfl, rfl⟩)
def zeroB (P : Program) (t : TypeId) (z : Value) : Prop := (match P.info? t with | some i => i.zero | none => none) = some z
theorem run_zero {t : TypeId} {z : Value} (h : zeroB P t z) : (zeroValue t).run P w = .ok z w := by
  unfold zeroB at h
  cases hi : P.info? t with
  | none => rw [hi] at h; cases h
  | some i => rw [hi] at h; simp [zeroValue, typeInfo, program, hi, Sem.run, h]
theorem ext_push (w : World) (o : Obj) : Ext w { w with heap := w.heap.push o } :=
  ⟨rfl, rfl, rfl, by simp, fun i hi _ => by rw [Array.getElem?_push, if_neg (by show i ≠ w.heap.size; omega)]⟩
theorem blk_push (w : World) (cs : List Value) (t : TypeId) : Blk { w with heap := w.heap.push (.cells ⟨cs⟩ t) } w.heap.size cs t := by simp [Blk]
theorem vbox_new {t : TypeId} {v : Value} (h : ∀ b w', b = w.heap.size → Ext w w' → w'.heap.size = w.heap.size + 1 → Blk w' b v.cells.toList t → K (.pointer (some ⟨b, 0, none⟩)) w') : vbox P t v w K := by
  refine ⟨_, _, ?_, h w.heap.size { w with heap := w.heap.push (.cells ⟨v.cells.toList⟩ t) } rfl (ext_push w _) (by simp) (blk_push w _ t)⟩
  simp [Instr.box, newVar, newRow, newObj, Sem.run]
theorem valloc_new {t : TypeId} {z : Value} (hz : zeroB P t z) (h : ∀ b w', b = w.heap.size → Ext w w' → w'.heap.size = w.heap.size + 1 → Blk w' b z.cells.toList t → K (.pointer (some ⟨b, 0, none⟩)) w') : valloc P t w K := by
  refine ⟨_, _, ?_, h w.heap.size { w with heap := w.heap.push (.cells ⟨z.cells.toList⟩ t) } rfl (ext_push w _) (by simp) (blk_push w _ t)⟩
  simp [Instr.alloc, run_zero hz, newVar, newRow, newObj, Sem.run]
theorem Blk.st (h : Blk w b cs t0) {t : TypeId} {v : Value} (hv : v.cells = #[v]) (h1 : v.oneCell' = true) (hz : sizeB P t 1 = true) {i : Nat} (hi : Nat.blt i cs.length = true)
    (hK : ∀ w', Same (· = b) w w' → w'.heap.size = w.heap.size → Blk w' b (cs.set i v) t0 → K undef w') : vstore P t (.pointer (some ⟨b, i, none⟩)) v w K := by
  have hc := h.cell (getD_some hi)
  have hf := h.frozen ⟨b, i, none⟩ rfl
  have ha : (⟨b, i, none⟩ : Addr).add 0 = ⟨b, i, none⟩ := rfl
  refine ⟨(), w.setCell ⟨b, i, none⟩ v, ?_, hK _ ⟨rfl, rfl, rfl, by simp, fun k _ hk => ?_⟩ (by simp) ?_⟩
  · simp only [Instr.storeAt, Instr.sureAddr, Sem.run_bind, Sem.run_pure, Result.andThen_ok, storeVar, run_sizeOf hz, hv]
    cases v <;> first | (cases h1; done) | simp [storeCells, store, Sem.run, ha, hc, hf]
  · simp only [World.setCell, Array.getElem?_modify]
    rw [if_neg (fun e => hk e.symm)]
  · unfold Blk at h ⊢
    simp only [World.setCell, Array.getElem?_modify, if_true, h]
    simp
def fieldB (P : Program) (s f off : Nat) : Bool := match P.underlying s with
  | some (.struct fs) => match fs[f]? with
    | some x => Nat.beq x.offset off && (match P.info? x.type with | some i => !Nat.beq i.size 0 | none => false)
    | none => false
  | _ => false
theorem vfaddr_eq {s f off : Nat} (h : fieldB P s f off = true) (a : Addr) : vfaddr P s (.pointer (some a)) f w K = K (.pointer (some (a.add off))) w := by
  unfold fieldB at h
  cases hu : P.underlying s with
  | none => rw [hu] at h; cases h
  | some d =>
    rw [hu] at h
    cases d with
    | struct fs =>
      simp only at h
      cases hf : fs[f]? with
      | none => rw [hf] at h; cases h
      | some x =>
        rw [hf] at h
        simp only [Bool.and_eq_true] at h
        obtain ⟨h1, h2⟩ := h
        have h1' := Nat.eq_of_beq_eq_true h1
        cases hi : P.info? x.type with
        | none => rw [hi] at h2; cases h2
        | some i =>
          rw [hi] at h2
          have h3 : i.size ≠ 0 := by intro e; simp [e] at h2
          refine vrun_eq ?_
          simp [Instr.fieldAt, run_under hu, hf, Instr.sureAddr, fieldPlace, sizeOf, typeInfo, program, hi, Sem.run, h3, h1']
    | _ => simp at h
end
attribute [push_cast] addr_add List.getD_cons_zero List.getD_cons_succ Nat.zero_add List.set_cons_zero List.set_cons_succ Value.cells
end Go.Vc
end
section
namespace Go.Vc
open Go
theorem vcall.mono {P : Program} {g : Nat} {args : Array Value} {w : World} {K K' : Value → World → Prop} (h : vcall P g args w K) (hk : ∀ v w', K v w' → K' v w') : vcall P g args w K' :=
  ⟨h.1, Calls.mono h.2 fun e w' he => by cases e <;> first | exact hk _ _ he | exact he.elim⟩
attribute [push_cast] Int.toNat_natCast
def Vals (F : Nat → Prop) (w : World) (v : Value) (vs : List Value) : Prop := Sl F w 1 v (vs.map fun x => [x])
def Ints (F : Nat → Prop) (w : World) (v : Value) (xs : List Int) : Prop := Vals F w v (xs.map fun x => .int .i64 x)
def Bools (F : Nat → Prop) (w : World) (v : Value) (xs : List Bool) : Prop := Vals F w v (xs.map fun x => .bool x)
def Lists (F : Nat → Prop) (w : World) (v : Value) (xss : List (List Int)) : Prop :=
  ∃ vs : List Value, vs.length = xss.length ∧ Vals F w v vs ∧ ∀ i, i < xss.length → Ints F w (vs.getD i undef) (xss.getD i [])
section
variable {P : Program} {F F' S : Nat → Prop} {w w' : World} {K : Value → World → Prop} {v : Value} {vs : List Value} {xs : List Int} {bs : List Bool} {xss : List (List Int)}
theorem Vals.ext (h : Vals F w v vs) (hw : Ext w w') : Vals F w' v vs := Sl.ext h hw
theorem Vals.same (h : Vals F w v vs) (hw : Same S w w') (hs : ∀ b, F b → b < w.heap.size → ¬ S b) : Vals F w' v vs := Sl.same h hw hs
theorem Vals.weaken (h : Vals F w v vs) (hf : ∀ b, F b → b < w.heap.size → F' b) : Vals F' w v vs := Sl.weaken h hf
theorem Vals.len (h : Vals F w v vs) {t : TypeId} (ht : isSl P t = true) (ty : TypeId) : vbi P .len [t] ty [v] w' K = K (.int .i64 vs.length) w' := by
  have := Sl.len (K := K) (w' := w') h ht ty; rwa [List.length_map] at this
theorem Vals.iaddr (h : Vals F w v vs) {t : TypeId} (ht : elB P t 1 = true) {kd : IntKind} {i : Int} (h0 : 0 ≤ i) (h1 : i < vs.length) :
    viaddr P t v (.int kd i) w' K = K (.pointer (some (eaddr v 1 i.toNat))) w' := Sl.iaddr h ht h0 (by rw [List.length_map]; exact h1)
theorem Vals.load (h : Vals F w v vs) {e : TypeId} (he : oneB P e = true) {i : Nat} (hi : i < vs.length) : vload P e (.pointer (some (eaddr v 1 i))) w K = K (vs.getD i undef) w := by
  have hc := Sl.cells h (i := i) (by rw [List.length_map]; exact hi)
  have := hc 0 (vs.getD i undef) (by simp [List.getD_eq_getElem?_getD, hi])
  exact vload_one he this
theorem Ints.ext (h : Ints F w v xs) (hw : Ext w w') : Ints F w' v xs := Vals.ext h hw
theorem Ints.same (h : Ints F w v xs) (hw : Same S w w') (hs : ∀ b, F b → b < w.heap.size → ¬ S b) : Ints F w' v xs := Vals.same h hw hs
theorem Ints.weaken (h : Ints F w v xs) (hf : ∀ b, F b → b < w.heap.size → F' b) : Ints F' w v xs := Vals.weaken h hf
theorem Ints.len (h : Ints F w v xs) {t : TypeId} (ht : isSl P t = true) (ty : TypeId) : vbi P .len [t] ty [v] w' K = K (.int .i64 xs.length) w' := by
  have := Vals.len (K := K) (w' := w') h ht ty; rwa [List.length_map] at this
theorem Ints.iaddr (h : Ints F w v xs) {t : TypeId} (ht : elB P t 1 = true) {kd : IntKind} {i : Int} (h0 : 0 ≤ i) (h1 : i < xs.length) :
    viaddr P t v (.int kd i) w' K = K (.pointer (some (eaddr v 1 i.toNat))) w' := Vals.iaddr h ht h0 (by rw [List.length_map]; exact h1)
theorem ints_getD {i : Nat} (hi : i < xs.length) : (xs.map fun x => Value.int .i64 x).getD i undef = .int .i64 (xs.getD i 0) := by
  simp [List.getD_eq_getElem?_getD, hi]
theorem Ints.load (h : Ints F w v xs) {e : TypeId} (he : oneB P e = true) {i : Nat} (hi : i < xs.length) : vload P e (.pointer (some (eaddr v 1 i))) w K = K (.int .i64 (xs.getD i 0)) w := by
  rw [Vals.load h he (by rw [List.length_map]; exact hi), ints_getD hi]
theorem Bools.ext (h : Bools F w v bs) (hw : Ext w w') : Bools F w' v bs := Vals.ext h hw
theorem Bools.same (h : Bools F w v bs) (hw : Same S w w') (hs : ∀ b, F b → b < w.heap.size → ¬ S b) : Bools F w' v bs := Vals.same h hw hs
theorem Bools.weaken (h : Bools F w v bs) (hf : ∀ b, F b → b < w.heap.size → F' b) : Bools F' w v bs := Vals.weaken h hf
theorem Bools.len (h : Bools F w v bs) {t : TypeId} (ht : isSl P t = true) (ty : TypeId) : vbi P .len [t] ty [v] w' K = K (.int .i64 bs.length) w' := by
  have := Vals.len (K := K) (w' := w') h ht ty; rwa [List.length_map] at this
theorem Bools.iaddr (h : Bools F w v bs) {t : TypeId} (ht : elB P t 1 = true) {kd : IntKind} {i : Int} (h0 : 0 ≤ i) (h1 : i < bs.length) :
    viaddr P t v (.int kd i) w' K = K (.pointer (some (eaddr v 1 i.toNat))) w' := Vals.iaddr h ht h0 (by rw [List.length_map]; exact h1)
theorem Bools.load (h : Bools F w v bs) {e : TypeId} (he : oneB P e = true) {i : Nat} (hi : i < bs.length) : vload P e (.pointer (some (eaddr v 1 i))) w K = K (.bool (bs.getD i false)) w := by
  rw [Vals.load h he (by rw [List.length_map]; exact hi)]
  simp [List.getD_eq_getElem?_getD, hi]
theorem Lists.ext (h : Lists F w v xss) (hw : Ext w w') : Lists F w' v xss := by
  obtain ⟨vs, hl, hv, hi⟩ := h; exact ⟨vs, hl, hv.ext hw, fun i h => (hi i h).ext hw⟩
theorem Lists.same (h : Lists F w v xss) (hw : Same S w w') (hs : ∀ b, F b → b < w.heap.size → ¬ S b) : Lists F w' v xss := by
  obtain ⟨vs, hl, hv, hi⟩ := h; exact ⟨vs, hl, hv.same hw hs, fun i h => (hi i h).same hw hs⟩
theorem Lists.weaken (h : Lists F w v xss) (hf : ∀ b, F b → b < w.heap.size → F' b) : Lists F' w v xss := by
  obtain ⟨vs, hl, hv, hi⟩ := h; exact ⟨vs, hl, hv.weaken hf, fun i h => (hi i h).weaken hf⟩
def FnB (P : Program) (w0 : World) (f : Value) (args : Array Value) (b : Bool) : Prop :=
  ∀ (w' : World) (K : Value → World → Prop), Ext w0 w' → (∀ w'', Ext w' w'' → K (.bool b) w'') → vcallv P f args w' K
theorem FnB.ext {f : Value} {args : Array Value} {b : Bool} (h : FnB P w f args b) (hw : Ext w w') : FnB P w' f args b := fun w'' K h1 h2 => h w'' K (hw.trans h1) h2
def idxI (n : Nat) (p : Nat → Bool) : Int := match (List.range n).find? p with | some i => i | none => -1
theorem idxI_some {n i : Nat} {p : Nat → Bool} (hi : i < n) (hp : p i = true) (hl : ∀ j, j < i → p j = false) : idxI n p = i := by
  have : (List.range n).find? p = some i := by
    rw [List.find?_eq_some_iff_append]
    refine ⟨hp, List.range i, (List.range' (i + 1) (n - (i + 1))), ?_, fun j hj => by simp [hl j (List.mem_range.1 hj)]⟩
    rw [List.range_eq_range', List.range_eq_range', show n = i + (n - (i + 1) + 1) from by omega, ← List.range'_append_1, List.range'_succ]
    simp
    omega
  simp [idxI, this]
theorem idxI_none {n : Nat} {p : Nat → Bool} (hl : ∀ j, j < n → p j = false) : idxI n p = -1 := by
  have : (List.range n).find? p = none := by rw [List.find?_eq_none]; intro j hj; simp [hl j (List.mem_range.1 hj)]
  simp [idxI, this]
theorem idxI_nonneg {n : Nat} {p : Nat → Bool} : decide (0 ≤ idxI n p) = (List.range n).any p := by
  unfold idxI
  cases h : (List.range n).find? p with
  | none =>
    rw [List.find?_eq_none] at h
    have : (List.range n).any p = false := by rw [List.any_eq_false]; exact h
    simp [this]
  | some i =>
    have h1 := List.find?_some h
    have h2 := List.mem_of_find?_eq_some h
    have : (List.range n).any p = true := List.any_eq_true.2 ⟨i, h2, h1⟩
    simp [this]
end
end Go.Vc
end
section
namespace Go.Vc
open Go
def elZ (P : Program) (t k bs : Nat) : Bool := match P.underlying t with
  | some (.slice e) => match P.info? e with
    | some i => Nat.beq i.size k && Nat.beq i.bytes bs && (match i.zero with | some z => Nat.beq z.cells.size k | none => false)
    | none => false
  | _ => false
def elOf (P : Program) (t : TypeId) : TypeId := match P.underlying t with | some (.slice e) => e | _ => 0
theorem elZ_eq {P : Program} {t k bs : Nat} (h : elZ P t k bs = true) : P.underlying t = some (.slice (elOf P t)) ∧ ∃ i z, P.info? (elOf P t) = some i ∧ i.zero = some z ∧ i.size = k ∧ i.bytes = bs ∧ z.cells.size = k := by
  unfold elZ at h
  unfold elOf
  split at h
  · rename_i e hu
    rw [hu]
    refine ⟨rfl, ?_⟩
    split at h
    · rename_i i hi
      simp only [Bool.and_eq_true] at h
      obtain ⟨⟨h1, h2⟩, h3⟩ := h
      split at h3
      · rename_i z hz
        exact ⟨i, z, hi, hz, Nat.eq_of_beq_eq_true h1, Nat.eq_of_beq_eq_true h2, Nat.eq_of_beq_eq_true h3⟩
      · cases h3
    · cases h
  · cases h
structure Own (P : Program) (base k : Nat) (t : TypeId) (w : World) (v : Value) (xs : List (List Value)) : Prop where
  row : w.ownsRow base (elOf P t) k v xs.length xs.flatten
  wide : ∀ x, x ∈ xs → x.length = k
theorem flatten_len {k : Nat} : ∀ {xs : List (List Value)}, (∀ x, x ∈ xs → x.length = k) → xs.flatten.length = xs.length * k
  | [], _ => by simp
  | x :: r, h => by
    rw [List.flatten_cons, List.length_append, h x List.mem_cons_self, flatten_len fun y hy => h y (List.mem_cons_of_mem _ hy), List.length_cons, Nat.add_mul]
    omega
theorem flatten_get {k : Nat} : ∀ {xs : List (List Value)} (_ : ∀ x, x ∈ xs → x.length = k) {i j : Nat}, i < xs.length → j < k → xs.flatten[i * k + j]? = (xs.getD i [])[j]?
  | [], _, i, j, hi, _ => by simp at hi
  | x :: r, h, i, j, hi, hj => by
    have hx := h x List.mem_cons_self
    rw [List.flatten_cons]
    cases i with
    | zero => rw [Nat.zero_mul, Nat.zero_add, List.getElem?_append_left (by omega)]; simp
    | succ i =>
      rw [List.getElem?_append_right (by rw [Nat.add_mul]; omega)]
      have e : (i + 1) * k + j - x.length = i * k + j := by rw [Nat.add_mul]; omega
      rw [e, flatten_get (fun y hy => h y (List.mem_cons_of_mem _ hy)) (by simpa using hi) hj]
      simp
theorem flat1 : ∀ (cs : List Value), (cs.map fun x => [x]).flatten = cs
  | [] => rfl
  | c :: cs => by rw [List.map_cons, List.flatten_cons, flat1 cs]; rfl
section
variable {P : Program} {base k : Nat} {t : TypeId} {w w' : World} {v : Value} {xs ys : List (List Value)} {K : Value → World → Prop}
theorem Own.nil (P : Program) (base k : Nat) (t : TypeId) (w : World) : Own P base k t w (.slice none 0 0) [] := ⟨World.ownsRow_nil w base _ k, fun x hx => by cases hx⟩
theorem Own.lt (h : Own P base k t w v xs) {b : Nat} (hb : v.ownBlock = some b) : base ≤ b ∧ b < w.heap.size := h.row.lt b hb
theorem Own.same {S : Nat → Prop} (h : Own P base k t w v xs) (hw : Same S w w') (hs : ∀ b, v.ownBlock = some b → ¬ S b) : Own P base k t w' v xs := by
  refine ⟨⟨h.row.1, ?_⟩, h.wide⟩
  rcases h.row.2 with hn | ⟨g, cap, cur, rfl, hb, hg, rest⟩
  · exact .inl hn
  · exact .inr ⟨g, cap, cur, rfl, hb, (hw.block g (Array.getElem?_eq_some_iff.1 hg).1 (hs g rfl)).trans hg, rest⟩
theorem Own.ext (h : Own P base k t w v xs) (hw : Ext w w') : Own P base k t w' v xs := h.same hw fun _ _ h => h
theorem Own.sl (h : Own P base k t w v xs) : Sl (fun b => v.ownBlock = some b) w k v xs := by
  refine ⟨?_, h.wide⟩
  rcases h.row.2 with ⟨rfl, hn⟩ | ⟨g, cap, cur, rfl, hb, hg, hnc, hcm, hcs, htake⟩
  · exact ⟨none, 0, by rw [hn], by omega, by omega, fun hne => absurd (List.eq_nil_of_length_eq_zero hn) hne⟩
  · refine ⟨_, cap, rfl, hnc, by simpa [maxLen] using hcm, fun _ => ⟨g, 0, rfl, rfl, (Array.getElem?_eq_some_iff.1 hg).1, fun i hi j u hu => ?_⟩⟩
    have hj : j < k := by
      have hx : xs.getD i [] ∈ xs := by rw [List.getD_eq_getElem?_getD, List.getElem?_eq_getElem hi]; exact List.getElem_mem hi
      have := h.wide _ hx
      rw [← this]; exact (List.getElem?_eq_some_iff.1 hu).1
    have hf := flatten_get h.wide hi hj
    rw [hu] at hf
    have := h.row.cells (g := g) rfl (i * k + j) u hf
    rw [addr_add] at this ⊢
    rwa [Nat.zero_add] at this ⊢
theorem Same.of_grown {row : Option Nat} (h : w.grownBy w' row) : Same (fun b => row = some b) w w' :=
  ⟨h.os, h.tape, h.output, h.size, fun b hb hs => h.block b hb (fun e => hs e.symm)⟩
theorem vappend {bs ty : Nat} {F : Nat → Prop} {x : Value} (hT : elZ P t k bs = true) (hk : 0 < k) (h : Own P base k t w v xs) (hs : Sl F w k x ys) (hone : ∀ y, y ∈ ys → ∀ c, c ∈ y → c.oneCell' = true)
    (hb : base ≤ w.heap.size) (h63 : xs.length + ys.length ≤ 9223372036854775807) (hlen : (xs.length + ys.length) * bs ≤ 140737488355328)
    (hK : ∀ v' w', Own P base k t w' v' (xs ++ ys) → Same (fun b => v.ownBlock = some b) w w' → (∀ b, v'.ownBlock = some b → v.ownBlock = some b ∨ w.heap.size ≤ b) → K v' w') : vbi P .append [t, t] ty [v, x] w K := by
  obtain ⟨hu, i, z, hi, hz, hsz, hby, hzs⟩ := elZ_eq hT
  obtain ⟨a, c, rfl, hac, hcm, hcell⟩ := hs.shape
  have hwide : ∀ y, y ∈ xs ++ ys → y.length = k := fun y hy => (List.mem_append.1 hy).elim (h.wide y) (hs.wide y)
  by_cases hne : ys = []
  · subst hne
    have hown : Own P base k t w v (xs ++ []) := by rw [List.append_nil]; exact h
    rcases h.row.2 with ⟨rfl, hn⟩ | ⟨g, cap, cur, rfl, hbg, hg, hnc, hcm', hcs, htake⟩
    · refine ⟨_, _, ?_, hK _ w hown (Same.refl _ w) fun b hb => .inl hb⟩
      cases a <;> simp [biSem, Builtin.append_, run_under hu, sizeOf, typeInfo, program, hi, Sem.run, Builtin.lenOf, Builtin.firstCells, loadCells, loadCellsFrom]
    · refine ⟨_, _, ?_, hK _ w hown (Same.refl _ w) fun b hb => .inl hb⟩
      cases a <;> simp [biSem, Builtin.append_, run_under hu, sizeOf, typeInfo, program, hi, Sem.run, Builtin.lenOf, Builtin.firstCells, loadCells, loadCellsFrom, storeCells, hnc]
  · obtain ⟨b, o, rfl, _, hlt, hcc⟩ := hcell hne
    have hnews : ∀ j u, ys.flatten[j]? = some u → w.cell? ((⟨b, o, none⟩ : Addr).add j) = some u := by
      intro j u hju
      have hjl : j < ys.length * k := by rw [← flatten_len hs.wide]; exact (List.getElem?_eq_some_iff.1 hju).1
      have hq : j / k < ys.length := Nat.div_lt_of_lt_mul (by rwa [Nat.mul_comm] at hjl)
      have hr : j % k < k := Nat.mod_lt _ hk
      have hj : j / k * k + j % k = j := Nat.div_add_mod' j k
      have hf := flatten_get hs.wide hq hr
      rw [hj, hju] at hf
      have := hcc _ hq _ _ hf.symm
      rw [addr_add] at this ⊢
      rwa [Nat.add_assoc, hj] at this
    have h1 : ∀ u ∈ ys.flatten, u.oneCell' = true := by
      intro u hu'
      obtain ⟨y, hy, hc⟩ := List.mem_flatten.1 hu'
      exact hone y hy u hc
    obtain ⟨v', w', hr, hown, hgr, _⟩ := run_append_own (P := P) w base t ty (elOf P t) i z k bs hu hi hz hsz hby hzs hk v xs.length xs.flatten h.row ⟨b, o, none⟩ ys.length c ys.flatten (flatten_len hs.wide) hnews h1
      (by simpa [maxLen] using h63) hlen hb
    refine ⟨v', w', hr, hK v' w' ⟨?_, hwide⟩ (Same.of_grown hgr) ?_⟩
    · rw [List.length_append, List.flatten_append]
      exact hown
    · have hys : 0 < ys.length := List.length_pos_iff.2 hne
      have hfl := flatten_len hs.wide
      subst hsz hby
      rcases h.row.2 with ⟨rfl, hn⟩ | ⟨g, cap, cur, rfl, hbg, hg, hnc, hcm', hcs, htake⟩
      · have hr2 := run_append_nil (P := P) w t ty (elOf P t) i z hu hi hz ⟨b, o, none⟩ ys.length c ys.flatten hfl hnews hys (by omega) (by have hb' := hlen; rw [hn, Nat.zero_add] at hb'; omega)
        obtain ⟨rfl, -⟩ := Result.ok.inj (hr.symm.trans hr2)
        rintro b' h'
        exact .inr (by cases h'; exact Nat.le_refl _)
      · by_cases hroom : xs.length + ys.length ≤ cap
        · have hfit : xs.length * i.size + ys.flatten.length ≤ cur.size := by rw [hfl, hcs, ← Nat.add_mul]; exact Nat.mul_le_mul_right _ hroom
          have hr2 := run_append_room (P := P) w t ty (elOf P t) i hu hi g xs.length cap cur hg ⟨b, o, none⟩ ys.length c ys.flatten hfl hnews h1 hroom hfit
          obtain ⟨rfl, -⟩ := Result.ok.inj (hr.symm.trans hr2)
          exact fun b' h' => .inl h'
        · have hr2 := run_append_grow (P := P) w t ty (elOf P t) i z hu hi hz ⟨g, 0, none⟩ xs.length cap xs.flatten h.row.1 (h.row.cells (g := g) rfl) ⟨b, o, none⟩ ys.length c ys.flatten hfl hnews (by omega) (by omega) (growslice_fits (by omega) hlen)
          obtain ⟨rfl, -⟩ := Result.ok.inj (hr.symm.trans hr2)
          rintro b' h'
          exact .inr (by cases h'; exact Nat.le_refl _)
theorem vbuildS_nil {e k' : Nat} (hu : P.underlying t = some (.slice e)) (hz : sizeB P e k' = true)
    (hK : ∀ b w', b = w.heap.size → Ext w w' → w'.heap.size = w.heap.size + 1 → Blk w' b [] e → K (.slice (some ⟨b, 0, none⟩) 0 0) w') : vbuildS P t 0 [] w K := by
  refine ⟨_, _, ?_, hK w.heap.size { w with heap := w.heap.push (.cells ⟨[]⟩ e) } rfl (ext_push w _) (by simp) (blk_push w _ e)⟩
  simp [Instr.buildSlice, run_under hu, run_sizeOf hz, Instr.fill, newRow, newObj, Sem.run]
  refine congrArg (fun l => w.alloc (Obj.cells l e)) (Array.toList_inj.1 ?_)
  simp
theorem Blk.sl1 {b n : Nat} {cs : List Value} {e : TypeId} (h : Blk w b cs e) (hn : n = cs.length) (hm : n ≤ 9223372036854775807) : Sl (· = b) w 1 (.slice (some ⟨b, 0, none⟩) n n) (cs.map fun x => [x]) := by
  subst hn
  refine ⟨⟨_, cs.length, by simp, by simp, by simpa using hm, fun _ => ⟨b, 0, rfl, rfl, h.lt, fun i hi j v hj => ?_⟩⟩, by simp⟩
  simp only [List.length_map] at hi
  have : j = 0 ∧ cs[i]? = some v := by
    simp only [List.getD_eq_getElem?_getD, List.getElem?_map] at hj
    rw [List.getElem?_eq_getElem hi] at hj ⊢
    cases j with
    | zero => simp at hj; simp [hj]
    | succ j => simp at hj
  obtain ⟨rfl, hv⟩ := this
  rw [addr_add]
  simp only [Nat.mul_one, Nat.zero_add, Nat.add_zero]
  exact h.cell hv
theorem Blk.own1 {b n c : Nat} {cs : List Value} (h : Blk w b cs (elOf P t)) (hb : base ≤ b) (hn : n = cs.length) (hc : c = cs.length) (hm : n ≤ 9223372036854775807) : Own P base 1 t w (.slice (some ⟨b, 0, none⟩) n c) (cs.map fun x => [x]) := by
  subst hn hc
  refine ⟨⟨by simp [flatten_len (k := 1) (xs := cs.map fun x => [x]) (by simp)], .inr ⟨b, cs.length, ⟨cs⟩, by simp, hb, h, by simp, by simpa [maxLen] using hm, by simp, ?_⟩⟩, by simp⟩
  rw [flat1]; simp
end
end Go.Vc
end
