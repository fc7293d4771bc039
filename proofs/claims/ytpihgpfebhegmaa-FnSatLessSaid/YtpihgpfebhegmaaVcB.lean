/- Regions: in the order of the text, and in whatever order the draw allows. -/
import Derived.Test.YtpihgpfebhegmaaVcA
set_option linter.unusedVariables false
set_option linter.unusedSimpArgs false
set_option linter.unnecessarySimpa false
set_option linter.unusedSectionVars false
namespace Go.Vc
open Go

def nth {α : Type} : List α → Nat → Option α
  | [], _ => none
  | a :: _, 0 => some a
  | _ :: l, n + 1 => nth l n

theorem nth_eq {α : Type} (l : List α) : ∀ i, nth l i = l[i]? := by
  induction l with
  | nil => intro i; simp [nth]
  | cons a l ih => intro i; cases i <;> simp [nth, ih]

def memN (x : Nat) : List Nat → Bool
  | [] => false
  | y :: r => cond (Nat.beq x y) true (memN x r)

theorem memN_iff {x : Nat} {l : List Nat} : memN x l = true ↔ x ∈ l := by
  induction l with
  | nil => simp [memN]
  | cons y r ih =>
    simp only [memN, List.mem_cons]
    cases hb : Nat.beq x y
    · have : x ≠ y := fun e => by subst e; simp at hb
      simp [ih, this]
    · have := Nat.eq_of_beq_eq_true hb; simp [this]

def dstOf (ops : List Oper) (j : Nat) : Option Nat := match nth ops j with | some o => o.dst | none => none

def skAdd (d : Option Nat) (sk : List Nat) : List Nat := match d with | some d => d :: sk | none => sk
def skDel (d : Option Nat) : List Nat → List Nat
  | [] => []
  | y :: r => match d with | some x => cond (Nat.beq x y) (skDel (some x) r) (y :: skDel (some x) r) | none => y :: skDel none r

def vgd (ops : List Oper) (g : Option (Nat × Bool)) (sk : List Nat) (f : Fr) (run skip : Fr → Prop) : Prop :=
  match g with
  | none => run f
  | some (j, b) => match dstOf ops j with
    | none => False
    | some d => cond (memN d sk) (skip f) (vif (f d)
        (cond b (run (put f (some d) (.bool true))) (skip (put f (some d) (.bool true))))
        (cond b (skip (put f (some d) (.bool false))) (run (put f (some d) (.bool false)))))

abbrev Acc := List (Nat × (World → Prop))

def fltr (D : Nat → List Nat) (c : Nat) : Acc → Acc
  | [] => []
  | p :: r => cond (memN c (D p.1)) (fltr D c r) (p :: fltr D c r)

def vkeeps : Acc → World → Prop → Prop
  | [], _, X => X
  | p :: r, w, X => p.2 w ∧ vkeeps r w X

def isFree : Op → Bool
  | .move _ | .assign _ | .pick .. => true
  | _ => false

/-- One operation of a region, and what follows it (`N sk acc f w`). -/
def vone (P : Program) (dr : Bool) (D : Nat → List Nat) (i : Nat) (o : Oper) (sk : List Nat) (acc : Acc) (f : Fr) (w : World)
    (N : List Nat → Acc → Fr → World → Prop) : Prop :=
  cond dr
    (cond (isStatic o.op)
      (cond (isFree o.op)
        (vop P o.op o.type f w fun v w' => N (skDel o.dst sk) acc (put f o.dst v) w')
        (vop P o.op o.type f w fun v w' => w' = w ∧ N (skDel o.dst sk) ((i, fun w2 => vop P o.op o.type f w2 fun v' w3 => v' = v ∧ w3 = w2) :: acc) (put f o.dst v) w))
      (vop P o.op o.type f w fun v w' => vkeeps (fltr D i acc) w' (N (skDel o.dst sk) (fltr D i acc) (put f o.dst v) w')))
    (vop P o.op o.type f w fun v w' => N (skDel o.dst sk) acc (put f o.dst v) w')

def vops (P : Program) (ops : List Oper) (dr : Bool) (D : Nat → List Nat) (K : Fr → World → Prop) : List Nat → List Nat → Acc → Fr → World → Prop
  | [], _, _, f, w => K f w
  | i :: r, sk, acc, f, w =>
    match nth ops i with
    | none => False
    | some o => vgd ops o.guard sk f
        (fun f => vone P dr D i o sk acc f w (vops P ops dr D K r))
        (fun f => vops P ops dr D K r (skAdd o.dst sk) acc (put f o.dst undef) w)

def SkOk (sk : List Nat) (f : Fr) : Prop := ∀ d, d ∈ sk → f d = undef

theorem skOk_add {sk : List Nat} {f : Fr} (h : SkOk sk f) (d : Option Nat) : SkOk (skAdd d sk) (put f d undef) := by
  cases d with
  | none => exact h
  | some d =>
    intro x hx
    by_cases e : x = d
    · subst e; exact put_same _ _ _
    · rw [put_ne _ _ _ _ e]
      rcases List.mem_cons.1 hx with h' | h'
      · exact absurd h' e
      · exact h x h'

theorem skDel_none : ∀ (l : List Nat), skDel none l = l
  | [] => rfl
  | y :: r => by simp only [skDel, skDel_none r]

theorem mem_skDel {d x : Nat} {l : List Nat} (h : x ∈ skDel (some d) l) : x ∈ l ∧ x ≠ d := by
  induction l with
  | nil => simp [skDel] at h
  | cons y r ih =>
    simp only [skDel] at h
    cases hb : Nat.beq d y
    · rw [hb] at h
      rcases List.mem_cons.1 h with h' | h'
      · subst h'
        exact ⟨List.mem_cons_self, fun e => by subst e; simp at hb⟩
      · exact ⟨List.mem_cons_of_mem _ (ih h').1, (ih h').2⟩
    · rw [hb] at h
      exact ⟨List.mem_cons_of_mem _ (ih h).1, (ih h).2⟩

theorem skOk_del {sk : List Nat} {f : Fr} (h : SkOk sk f) (d : Option Nat) (v : Value) : SkOk (skDel d sk) (put f d v) := by
  cases d with
  | none => rw [skDel_none]; exact h
  | some d =>
    intro x hx
    obtain ⟨h1, h2⟩ := mem_skDel hx
    rw [put_ne _ _ _ _ h2]
    exact h x h1

theorem put_self {f : Fr} {d : Nat} {v : Value} (h : f d = v) : put f (some d) v = f := by
  funext t
  by_cases e : t = d
  · subst e; rw [put_same, h]
  · rw [put_ne _ _ _ _ e]

def opsOk (n : Nat) (ops : List Oper) : Bool := ops.all fun o => dstOk n o.dst

theorem opsOk_get {n : Nat} {ops : Array Oper} (h : opsOk n ops.toList = true) {i : Nat} {o : Oper} (hi : ops[i]? = some o) : dstOk n o.dst = true := by
  have : o ∈ ops.toList := by
    rw [← Array.getElem?_toList] at hi
    exact List.mem_of_getElem? hi
  exact (List.all_eq_true.1 h) o this

section
variable {P : Program} {ops : Array Oper} {n : Nat} {f : Fr} {a : Act} {w : World}

theorem yielded_of (hs : Sim n f a) {j d : Nat} (hd : dstOf ops.toList j = some d) (hn : d < n) :
    yielded ops a.tmps j = (match f d with | .bool b => some b | _ => none) := by
  unfold yielded
  have h1 : (ops[j]?).bind (·.dst) = some d := by
    rw [dstOf, nth_eq, Array.getElem?_toList] at hd
    cases hj : ops[j]? with
    | none => rw [hj] at hd; cases hd
    | some o => rw [hj] at hd; exact hd
  have h2 : a.tmps[d]? = some (f d) := by
    have hlt : d < a.tmps.size := by rw [hs.size]; exact hn
    have := hs.at_ d
    rw [Array.getD_eq_getD_getElem?, Array.getElem?_eq_getElem hlt] at this
    rw [Array.getElem?_eq_getElem hlt, ← this]; rfl
  rw [h1, Option.bind_some, h2]
  cases f d <;> rfl

/-- A guard, told on functions: the operation is run, or passed over. -/
theorem vgd_cases (hok : opsOk n ops.toList = true) (hs : Sim n f a) {sk : List Nat} (hsk : SkOk sk f) {o : Oper} {run skip : Fr → Prop}
    (h : vgd ops.toList o.guard sk f run skip) :
    (Region.wanted o (yielded ops a.tmps) = true ∧ run f) ∨ (Region.wanted o (yielded ops a.tmps) = false ∧ skip f) := by
  unfold vgd at h
  unfold Region.wanted
  cases hg : o.guard with
  | none => rw [hg] at h; exact .inl ⟨rfl, h⟩
  | some jb =>
    obtain ⟨j, b⟩ := jb
    rw [hg] at h
    simp only at h ⊢
    cases hd : dstOf ops.toList j with
    | none => rw [hd] at h; exact h.elim
    | some d =>
      rw [hd] at h
      simp only at h
      have hn : d < n := by
        rw [dstOf, nth_eq, Array.getElem?_toList] at hd
        cases hj : ops[j]? with
        | none => rw [hj] at hd; cases hd
        | some oj =>
          rw [hj] at hd
          have := opsOk_get hok hj
          rw [show oj.dst = some d from hd] at this
          simpa [dstOk, Nat.blt_eq] using this
      rw [yielded_of hs hd hn]
      cases hm : memN d sk
      · rw [hm] at h
        simp only [cond] at h
        unfold vif at h
        split at h
        · rename_i hv
          rw [put_self hv] at h
          rw [hv]
          cases b
          · exact .inr ⟨rfl, h⟩
          · exact .inl ⟨rfl, h⟩
        · rename_i hv
          rw [put_self hv] at h
          rw [hv]
          cases b
          · exact .inl ⟨rfl, h⟩
          · exact .inr ⟨rfl, h⟩
        · exact h.elim
      · rw [hm] at h
        have hu : f d = undef := hsk d (memN_iff.1 hm)
        rw [hu]
        exact .inr ⟨by cases b <;> rfl, h⟩

theorem nth_get {i : Nat} {o : Oper} (h : nth ops.toList i = some o) : ops[i]? = some o := by
  rw [nth_eq, Array.getElem?_toList] at h; exact h

/-- Slots that no operation of the list names as its own. -/
def Off (ops : Array Oper) (l : List Nat) (t : Nat) : Prop := ∀ i, i ∈ l → ∀ o, ops[i]? = some o → o.dst ≠ some t

theorem put_off {o : Oper} {t : Nat} (h : o.dst ≠ some t) (f : Fr) (v : Value) : put f o.dst v t = f t := by
  cases hd : o.dst with
  | none => rfl
  | some d => exact put_ne _ _ _ _ (fun e => h (by rw [hd, e]))

theorem vops_text {D : Nat → List Nat} {K : Fr → World → Prop} {Q : Exit → Act → World → Prop} (hok : opsOk n ops.toList = true) :
    ∀ (l sk : List Nat) (acc : Acc) (f : Fr) (a : Act) (w : World), vops P ops.toList false D K l sk acc f w → Sim n f a → SkOk sk f →
      (∀ f' a' w', Sim n f' a' → (∀ t, Off ops l t → f' t = f t) → K f' w' → Q .normal a' w') → wpOps P ops Q l a w := by
  intro l
  induction l with
  | nil => intro sk acc f a w h hs _ hK; exact hK f a w hs (fun _ _ => rfl) h
  | cons i r ih =>
    intro sk acc f a w h hs hsk hK
    simp only [vops] at h
    cases ho : nth ops.toList i with
    | none => rw [ho] at h; exact h.elim
    | some o =>
      rw [ho] at h
      have hi := nth_get ho
      simp only [wpOps, hi]
      have offr : ∀ t, Off ops (i :: r) t → Off ops r t := fun t ht j hj => ht j (List.mem_cons_of_mem _ hj)
      rcases vgd_cases hok hs hsk h with ⟨hw, h⟩ | ⟨hw, h⟩
      · rw [if_pos hw]
        refine .inl ?_
        simp only [vone, cond] at h
        refine vop_sound h hs fun v w' hN => ?_
        refine ih _ _ _ _ _ hN (hs.put (opsOk_get hok hi) v) (skOk_del hsk _ _) fun f' a' w'' hs' ht hk => ?_
        exact hK f' a' w'' hs' (fun t hoff => (ht t (offr t hoff)).trans (put_off (hoff i List.mem_cons_self o hi) _ _)) hk
      · rw [if_neg (by simp [hw])]
        refine ih _ _ _ _ _ h (hs.put (opsOk_get hok hi) undef) (skOk_add hsk _) fun f' a' w'' hs' ht hk => ?_
        exact hK f' a' w'' hs' (fun t hoff => (ht t (offr t hoff)).trans (put_off (hoff i List.mem_cons_self o hi) _ _)) hk

/- ===== a region that draws ===== -/

/-- What a reading operation comes to, in a frame and a world. -/
def StEv (P : Program) (ops : Array Oper) (o : Oper) (a : Act) (w : World) (v : Value) : Prop :=
  if Region.wanted o (yielded ops a.tmps) = true then (execOp a.eval o).run P w = .ok (.value v) w else v = undef

def VD (P : Program) (ops : Array Oper) (Q : Exit → Act → World → Prop) (D : Nat → List Nat) : List Nat → Acc → Act → World → Prop
  | [], _, a, w => Q .normal a w
  | i :: r, acc, a, w => ∃ o, ops[i]? = some o ∧
    ((isStatic o.op = true ∧ ∃ v, StEv P ops o a w v ∧ VD P ops Q D r ((i, fun w => StEv P ops o a w v) :: acc) (a.put o.dst v) w) ∨
     (isStatic o.op = false ∧ wpOp P ops Q i (fun a' w' => (∃ u, a' = a.put o.dst u) ∧ (∀ p, p ∈ fltr D i acc → p.2 w') ∧ VD P ops Q D r (fltr D i acc) a' w') a w))

/-- The entries of one list follow from those of another. -/
def AccLe (acc' acc : Acc) : Prop := ∀ p', p' ∈ acc' → ∃ p, p ∈ acc ∧ p.1 = p'.1 ∧ ∀ w, p.2 w → p'.2 w

theorem mem_fltr {D : Nat → List Nat} {c : Nat} {acc : Acc} {p : Nat × (World → Prop)} : p ∈ fltr D c acc ↔ p ∈ acc ∧ c ∉ D p.1 := by
  induction acc with
  | nil => simp [fltr]
  | cons q r ih =>
    simp only [fltr]
    cases hm : memN c (D q.1)
    · have hn : c ∉ D q.1 := fun h => by rw [memN_iff.2 h] at hm; cases hm
      simp only [cond, List.mem_cons, ih]
      constructor
      · rintro (rfl | ⟨h1, h2⟩)
        · exact ⟨.inl rfl, hn⟩
        · exact ⟨.inr h1, h2⟩
      · rintro ⟨rfl | h1, h2⟩
        · exact .inl rfl
        · exact .inr ⟨h1, h2⟩
    · have hn : c ∈ D q.1 := memN_iff.1 hm
      simp only [cond, ih, List.mem_cons]
      constructor
      · rintro ⟨h1, h2⟩; exact ⟨.inr h1, h2⟩
      · rintro ⟨rfl | h1, h2⟩
        · exact absurd hn h2
        · exact ⟨h1, h2⟩

theorem AccLe.fltr {acc' acc : Acc} (h : AccLe acc' acc) (D : Nat → List Nat) (c : Nat) : AccLe (Go.Vc.fltr D c acc') (Go.Vc.fltr D c acc) := by
  intro p' hp'
  obtain ⟨h1, h2⟩ := mem_fltr.1 hp'
  obtain ⟨p, hp, he, hw⟩ := h p' h1
  exact ⟨p, mem_fltr.2 ⟨hp, by rw [he]; exact h2⟩, he, hw⟩

theorem AccLe.cons {acc' acc : Acc} (h : AccLe acc' acc) {i : Nat} {e e' : World → Prop} (he : ∀ w, e w → e' w) : AccLe ((i, e') :: acc') ((i, e) :: acc) := by
  intro p' hp'
  rcases List.mem_cons.1 hp' with rfl | hp'
  · exact ⟨_, List.mem_cons_self, rfl, he⟩
  · obtain ⟨p, hp, r⟩ := h p' hp'
    exact ⟨p, List.mem_cons_of_mem _ hp, r⟩

theorem AccLe.refl (acc : Acc) : AccLe acc acc := fun p hp => ⟨p, hp, rfl, fun _ h => h⟩
theorem AccLe.drop (acc : Acc) (x : Nat × (World → Prop)) : AccLe acc (x :: acc) := fun p hp => ⟨p, List.mem_cons_of_mem _ hp, rfl, fun _ h => h⟩

variable {Q : Exit → Act → World → Prop} {D : Nat → List Nat}

theorem VD.mono : ∀ (l : List Nat) (acc acc' : Acc) (a : Act) (w : World), AccLe acc' acc → VD P ops Q D l acc a w → VD P ops Q D l acc' a w := by
  intro l
  induction l with
  | nil => intro acc acc' a w _ h; exact h
  | cons i r ih =>
    intro acc acc' a w hle h
    obtain ⟨o, ho, h⟩ := h
    refine ⟨o, ho, ?_⟩
    rcases h with ⟨hst, v, hv, h⟩ | ⟨hst, h⟩
    · exact .inl ⟨hst, v, hv, ih _ _ _ _ (hle.cons fun _ h => h) h⟩
    · refine .inr ⟨hst, wpOp_mono (fun a' w' h' => ⟨h'.1, fun p' hp' => ?_, ih _ _ _ _ (hle.fltr D i) h'.2.2⟩) h⟩
      obtain ⟨p, hp, _, hw⟩ := hle.fltr D i p' hp'
      exact hw _ (h'.2.1 p hp)

def noSel (o : Op) : Bool := match o with | .select .. => false | .defer _ => false | _ => true
theorem noSel_spec {o : Op} (h : noSel o = true) : ∀ cs b, o ≠ .select cs b := fun _ _ e => by subst e; cases h

theorem StEv.put {x s : Oper} {v u : Value} (hap : x.apart ops s = true) (hs : noSel s.op = true) :
    StEv P ops s (a.put x.dst u) w v ↔ StEv P ops s a w v := by
  obtain ⟨h1, _, _⟩ := Oper.apart_spec hap
  unfold StEv
  rw [wanted_put s a x.dst u h1, execOp_put s (noSel_spec hs) a x.dst u h1]

theorem apart_symm {x y : Oper} (h : x.apart ops y = true) : y.apart ops x = true := by
  obtain ⟨h1, h2, h3⟩ := Oper.apart_spec h
  unfold Oper.apart
  cases hx : x.dst with
  | none =>
    cases hy : y.dst with
    | none => rfl
    | some d => simp only [Bool.and_eq_true, Bool.not_eq_true', bne_iff_ne, ne_eq, reduceCtorEq, not_false_eq_true, and_true]
                have := h3 d hy; simpa using this
  | some e =>
    have he := h1 e hx
    cases hy : y.dst with
    | none => simpa using he
    | some d =>
      have h3' := h3 d hy
      have h2' : e ≠ d := fun c => h2 e hx (by rw [hy, c])
      simp only [Bool.and_eq_true, Bool.not_eq_true', bne_iff_ne, ne_eq, Option.some.injEq]
      refine ⟨⟨by simpa using h3', h2'⟩, by simpa using he⟩

/-- An operation that comes up is carried over a slot that is apart from it. -/
theorem wpOp_pull {j : Nat} {os ox : Oper} {v : Value} (hj : ops[j]? = some ox) (hap : os.apart ops ox = true) (hnx : noSel ox.op = true)
    (hQ : ∀ c a w, ¬ Q (.panic c) a w) {K : Act → World → Prop} {a : Act} {w : World}
    (h : wpOp P ops Q j (fun a' w' => (∃ u, a' = (a.put os.dst v).put ox.dst u) ∧ K a' w') (a.put os.dst v) w) :
    wpOp P ops Q j (fun a' w' => (∃ u, a' = a.put ox.dst u) ∧ K (a'.put os.dst v) w') a w := by
  obtain ⟨h1, h2, h3⟩ := Oper.apart_spec hap
  have hsx := noSel_spec hnx
  unfold wpOp at *
  simp only [hj] at *
  rw [wanted_put ox a os.dst v h1] at h
  split
  · rename_i hw
    simp only [hw, if_true] at h
    rcases h with h | ⟨hasks, hlets⟩
    case inr => exact .inr ⟨by unfold Oper.asks at *; rw [execOp_put ox hsx a os.dst v h1] at hasks; exact hasks, hlets⟩
    refine .inl ?_
    unfold Oper.wp at *
    rw [execOp_put ox hsx a os.dst v h1] at h
    generalize (execOp a.eval ox).run P w = r at *
    cases r with
    | ok m w' =>
      cases m <;> simp only [Oper.upon] at h ⊢
      case value u => exact ⟨⟨u, rfl⟩, by rw [← Act.put_comm a v u h2]; exact h.2⟩
      case skip => exact ⟨⟨_, rfl⟩, by rw [← Act.put_comm a v undef h2]; exact h.2⟩
      case defer d =>
        obtain ⟨⟨u, hu⟩, _⟩ := h
        have hd : ∀ (b : Act) (x : Option Tmp) (y : Value), (b.put x y).defers = b.defers := fun b x y => by cases x <;> rfl
        have := congrArg Act.defers hu
        simp only [hd] at this
        exact absurd this (List.cons_ne_self _ _)
      case enter f args =>
        refine Calls.mono h fun e w'' he => ?_
        cases e with
        | returned u => exact ⟨⟨u, rfl⟩, by rw [← Act.put_comm a v u h2]; exact he.2⟩
        | panicked c => exact absurd he (hQ _ _ _)
        | outgrown => exact he
      case row row args => exact Rows.mono h fun u w'' he => ⟨⟨u, rfl⟩, by rw [← Act.put_comm a v u h2]; exact he.2⟩
    | halt x w' =>
      cases x <;> simp only [Oper.upon] at h ⊢
      case panic u => exact absurd h (hQ _ _ _)
  · rename_i hw
    simp only [hw] at h
    exact ⟨⟨_, rfl⟩, by rw [← Act.put_comm a v undef h2]; exact h.2⟩

/-- A reading operation comes up first. -/
theorem VD.first_static {x : Nat} {ox : Oper} (hx : ops[x]? = some ox) (hst : isStatic ox.op = true) (hnx : noSel ox.op = true) (post : List Nat) :
    ∀ (pre : List Nat) (acc : Acc) (a : Act) (w : World), (∀ s, s ∈ pre → ∀ os, ops[s]? = some os → isStatic os.op = true ∧ noSel os.op = true ∧ os.apart ops ox = true) →
      VD P ops Q D (pre ++ x :: post) acc a w → ∃ v, StEv P ops ox a w v ∧ VD P ops Q D (pre ++ post) acc (a.put ox.dst v) w := by
  intro pre
  induction pre with
  | nil =>
    intro acc a w _ h
    obtain ⟨o, ho, h⟩ := h
    obtain rfl : o = ox := by rw [hx] at ho; exact (Option.some.inj ho).symm
    rcases h with ⟨_, v, hv, h⟩ | ⟨hn, _⟩
    · exact ⟨v, hv, h.mono _ _ _ _ _ (AccLe.drop _ _)⟩
    · rw [hst] at hn; cases hn
  | cons s pre ih =>
    intro acc a w hpre h
    obtain ⟨os, hos, h⟩ := h
    obtain ⟨hss, hsn, hap⟩ := hpre s List.mem_cons_self os hos
    rcases h with ⟨_, vs, hvs, h⟩ | ⟨hn, _⟩
    · obtain ⟨v, hv, h2⟩ := ih _ _ _ (fun t ht => hpre t (List.mem_cons_of_mem _ ht)) h
      refine ⟨v, (StEv.put hap hnx).1 hv, os, hos, .inl ⟨hss, vs, (StEv.put (apart_symm hap) hsn).2 hvs, ?_⟩⟩
      obtain ⟨_, h2', _⟩ := Oper.apart_spec hap
      rw [← Act.put_comm a vs v h2']
      exact h2.mono _ _ _ _ _ ((AccLe.refl acc).cons fun w' hw' => (StEv.put (apart_symm hap) hsn).2 hw')
    · rw [hss] at hn; cases hn

/-- An operation that may change the world comes up first. -/
theorem VD.first_change {x : Nat} {ox : Oper} (hx : ops[x]? = some ox) (hst : isStatic ox.op = false) (hnx : noSel ox.op = true) (hQ : ∀ c a w, ¬ Q (.panic c) a w) (post : List Nat) :
    ∀ (pre : List Nat) (acc : Acc) (a : Act) (w : World), (∀ s, s ∈ pre → x ∉ D s ∧ ∀ os, ops[s]? = some os → isStatic os.op = true ∧ noSel os.op = true ∧ os.apart ops ox = true) →
      VD P ops Q D (pre ++ x :: post) acc a w →
      wpOp P ops Q x (fun a' w' => (∃ u, a' = a.put ox.dst u) ∧ (∀ p, p ∈ fltr D x acc → p.2 w') ∧ VD P ops Q D (pre ++ post) (fltr D x acc) a' w') a w := by
  intro pre
  induction pre with
  | nil =>
    intro acc a w _ h
    obtain ⟨o, ho, h⟩ := h
    obtain rfl : o = ox := by rw [hx] at ho; exact (Option.some.inj ho).symm
    rcases h with ⟨hn, _⟩ | ⟨_, h⟩
    · rw [hst] at hn; cases hn
    · exact h
  | cons s pre ih =>
    intro acc a w hpre h
    obtain ⟨os, hos, h⟩ := h
    obtain ⟨hxd, hrest⟩ := hpre s List.mem_cons_self
    obtain ⟨hss, hsn, hap⟩ := hrest os hos
    rcases h with ⟨_, vs, hvs, h⟩ | ⟨hn, _⟩
    · have h2 := wpOp_pull (K := fun a' w' => (∀ p, p ∈ fltr D x ((s, fun w => StEv P ops os a w vs) :: acc) → p.2 w') ∧ VD P ops Q D (pre ++ post) (fltr D x ((s, fun w => StEv P ops os a w vs) :: acc)) a' w') hx hap hnx hQ
        (ih _ _ _ (fun t ht => hpre t (List.mem_cons_of_mem _ ht)) h)
      have hf : fltr D x ((s, fun w => StEv P ops os a w vs) :: acc) = (s, fun w => StEv P ops os a w vs) :: fltr D x acc := by
        have : memN x (D s) = false := by
          cases hm : memN x (D s)
          · rfl
          · exact absurd (memN_iff.1 hm) hxd
        simp [fltr, this]
      refine wpOp_mono (fun a' w' ⟨⟨u, hu⟩, hk, hv⟩ => ?_) h2
      rw [hf] at hk hv
      refine ⟨⟨u, hu⟩, fun p hp => hk p (List.mem_cons_of_mem _ hp), os, hos, .inl ⟨hss, vs, ?_, ?_⟩⟩
      · rw [hu]
        exact (StEv.put (apart_symm hap) hsn).2 (hk _ List.mem_cons_self)
      · refine hv.mono _ _ _ _ _ ((AccLe.refl _).cons fun w3 h3 => ?_)
        rw [hu]
        exact (StEv.put (apart_symm hap) hsn).2 h3
    · rw [hss] at hn; cases hn

/-- What has to hold of an order and a table of descendants. -/
def edgesOf (ops : List Oper) (x : Nat) : List Nat := match nth ops x with | some o => (o.after.toList.filter (Region.binds .any)).map (·.on) | none => []
def anyN (p : Nat → Bool) : List Nat → Bool | [] => false | x :: r => cond (p x) true (anyN p r)
def allN (p : Nat → Bool) : List Nat → Bool | [] => true | x :: r => cond (p x) (allN p r) false
theorem allN_iff {p : Nat → Bool} {l : List Nat} : allN p l = true ↔ ∀ x, x ∈ l → p x = true := by
  induction l with
  | nil => simp [allN]
  | cons x r ih => cases h : p x <;> simp [allN, h, ih]
theorem anyN_iff {p : Nat → Bool} {l : List Nat} : anyN p l = true ↔ ∃ x, x ∈ l ∧ p x = true := by
  induction l with
  | nil => simp [anyN]
  | cons x r ih => cases h : p x <;> simp [anyN, h, ih]

def apartN (ops : Array Oper) (s x : Nat) : Bool := match nth ops.toList s, nth ops.toList x with | some a, some b => a.apart ops b | _, _ => false
def statN (ops : List Oper) (s : Nat) : Bool := match nth ops s with | some a => isStatic a.op | none => false
def selN (ops : List Oper) (s : Nat) : Bool := match nth ops s with | some a => noSel a.op | none => false

/-- Every element has its predecessors before it. -/
def chkLin (ops : List Oper) : List Nat → List Nat → Bool
  | _, [] => true
  | seen, x :: r => cond (allN (fun e => memN e seen) (edgesOf ops x)) (chkLin ops (x :: seen) r) false
def chkPair (ops : Array Oper) (D : Nat → List Nat) : List Nat → Bool
  | [] => true
  | s :: r => cond (allN (fun x => memN x (D s) || (statN ops.toList s && apartN ops s x)) r) (chkPair ops D r) false
/-- Each descendant has an edge onto a descendant, or onto the element itself. -/
def chkDesc (ops : List Oper) (D : Nat → List Nat) (l : List Nat) : Bool :=
  allN (fun s => allN (fun x => anyN (fun e => Nat.beq e s || memN e (D s)) (edgesOf ops x)) (D s)) l
def chkNd : List Nat → Bool
  | [] => true
  | x :: r => cond (memN x r) false (chkNd r)
def chkPerm (n : Nat) (l : List Nat) : Bool := allN (fun i => memN i l) (List.range n) && Nat.beq l.length n && (allN (fun i => Nat.blt i n) l && chkNd l)
def chkOrd (ops : Array Oper) (D : Nat → List Nat) (l : List Nat) : Bool :=
  chkPerm ops.size l && allN (selN ops.toList) l && chkLin ops.toList [] l && chkPair ops D l && chkDesc ops.toList D l

theorem mem_edges {x : Nat} {o : Oper} (hx : ops[x]? = some o) {e : Nat} : e ∈ edgesOf ops.toList x ↔ ∃ d, d ∈ o.after ∧ Region.binds .any d = true ∧ d.on = e := by
  have : nth ops.toList x = some o := by rw [nth_eq, Array.getElem?_toList]; exact hx
  simp only [edgesOf, this, List.mem_map, List.mem_filter, Array.mem_toList_iff]
  constructor
  · rintro ⟨d, ⟨h1, h2⟩, h3⟩; exact ⟨d, h1, h2, h3⟩
  · rintro ⟨d, h1, h2, h3⟩; exact ⟨d, ⟨h1, h2⟩, h3⟩

theorem chkLin_spec : ∀ (l seen : List Nat), chkLin ops.toList seen l = true → ∀ pre x post, l = pre ++ x :: post → ∀ e, e ∈ edgesOf ops.toList x → e ∈ seen ∨ e ∈ pre := by
  intro l
  induction l with
  | nil => intro seen _ pre x post h; cases pre <;> cases h
  | cons y r ih =>
    intro seen h pre x post hl e he
    simp only [chkLin] at h
    cases ha : allN (fun e => memN e seen) (edgesOf ops.toList y)
    · rw [ha] at h; cases h
    · rw [ha] at h
      cases pre with
      | nil =>
        simp only [List.nil_append, List.cons.injEq] at hl
        obtain ⟨rfl, rfl⟩ := hl
        exact .inl (memN_iff.1 (allN_iff.1 ha e he))
      | cons z pre =>
        simp only [List.cons_append, List.cons.injEq] at hl
        obtain ⟨rfl, hl⟩ := hl
        rcases ih _ h pre x post hl e he with h' | h'
        · rcases List.mem_cons.1 h' with rfl | h''
          · exact .inr List.mem_cons_self
          · exact .inl h''
        · exact .inr (List.mem_cons_of_mem _ h')

theorem chkPair_spec : ∀ (l : List Nat), chkPair ops D l = true → l.Pairwise fun s x => x ∈ D s ∨ (statN ops.toList s = true ∧ apartN ops s x = true) := by
  intro l
  induction l with
  | nil => intro _; exact .nil
  | cons s r ih =>
    intro h
    simp only [chkPair] at h
    cases ha : allN (fun x => memN x (D s) || (statN ops.toList s && apartN ops s x)) r
    · rw [ha] at h; cases h
    · rw [ha] at h
      refine .cons (fun x hx => ?_) (ih h)
      have := allN_iff.1 ha x hx
      simpa [Bool.or_eq_true, memN_iff] using this

/-- The remaining operations, and what has been listed. -/
structure Rest (ops : Array Oper) (D : Nat → List Nat) (l : List Nat) (listed : Array Bool) : Prop where
  size : listed.size = ops.size
  mem : ∀ i, i < ops.size → (listed.getD i true = false ↔ i ∈ l)
  lt : ∀ i, i ∈ l → i < ops.size
  nodup : l.Nodup
  pair : l.Pairwise fun s x => x ∈ D s ∨ (statN ops.toList s = true ∧ apartN ops s x = true)
  lin : ∀ pre x post, l = pre ++ x :: post → ∀ e, e ∈ edgesOf ops.toList x → e ∈ l → e ∈ pre
  desc : ∀ s, s ∈ l → ∀ x, x ∈ D s → x ∈ l
  edge : ∀ s, s ∈ l → ∀ x, x ∈ D s → ∃ e, e ∈ edgesOf ops.toList x ∧ (e = s ∨ e ∈ D s)
  sel : ∀ i, i ∈ l → selN ops.toList i = true
  elt : ∀ x, x ∈ l → ∀ e, e ∈ edgesOf ops.toList x → e < ops.size

theorem ready_edge {l : List Nat} {listed : Array Bool} (hr : Rest ops D l listed) {i : Nat} (hi : i ∈ Region.ready .any ops listed) :
    i ∈ l ∧ ∀ e, e ∈ edgesOf ops.toList i → e ∉ l := by
  obtain ⟨h0, o, ho, hall⟩ := mem_ready.1 hi
  have hlt : i < ops.size := (Array.getElem?_eq_some_iff.1 ho).1
  refine ⟨(hr.mem i hlt).1 h0, fun e he hel => ?_⟩
  obtain ⟨d, hd, hb, rfl⟩ := (mem_edges ho).1 he
  have h1 := hall d hd hb
  have h2 := (hr.mem d.on (hr.lt _ hel)).2 hel
  have hs : d.on < listed.size := by rw [hr.size]; exact hr.lt _ hel
  simp [Array.getD, hs] at h1 h2
  rw [h1] at h2; cases h2

theorem Rest.step {pre post : List Nat} {i : Nat} {listed : Array Bool} (hr : Rest ops D (pre ++ i :: post) listed) (hi : i ∈ Region.ready .any ops listed) :
    Rest ops D (pre ++ post) (listed.setIfInBounds i true) := by
  have hsub : (pre ++ post).Sublist (pre ++ i :: post) := List.Sublist.append (List.Sublist.refl _) (List.sublist_cons_self _ _)
  have hni : i ∉ pre ++ post := by
    have := hr.nodup
    rw [List.nodup_append] at this
    obtain ⟨_, h2, h3⟩ := this
    rw [List.mem_append]
    rintro (h | h)
    · exact h3 i h i List.mem_cons_self rfl
    · exact (List.nodup_cons.1 h2).1 h
  have hmem : ∀ x, x ∈ pre ++ i :: post → x ≠ i → x ∈ pre ++ post := by
    intro x hx hne
    rw [List.mem_append, List.mem_cons] at hx
    rw [List.mem_append]
    rcases hx with h | h | h
    · exact .inl h
    · exact absurd h hne
    · exact .inr h
  have hii : i ∈ pre ++ i :: post := by simp
  obtain ⟨_, hed⟩ := ready_edge hr hi
  refine ⟨by simp [hr.size], fun x hx => ?_, fun x hx => hr.lt x (hsub.subset hx), hr.nodup.sublist hsub, hr.pair.sublist hsub, ?_, ?_, fun s hs => hr.edge s (hsub.subset hs), fun x hx => hr.sel x (hsub.subset hx), fun x hx => hr.elt x (hsub.subset hx)⟩
  · by_cases e : i = x
    · subst e
      simp only [Array.getD_eq_getD_getElem?]
      have : i < listed.size := by rw [hr.size]; exact hx
      simp [this, hni]
    · rw [getD_set_ne true e, hr.mem x hx]
      exact ⟨fun h => hmem x h (Ne.symm e), fun h => hsub.subset h⟩
  · intro p x q hl e he hel
    have hxe : e ∈ pre ++ i :: post := hsub.subset hel
    have hnd : (pre ++ post).Nodup := hr.nodup.sublist hsub
    -- the place of x in the longer list
    rcases List.append_eq_append_iff.1 hl with ⟨c, hc1, hc2⟩ | ⟨c, hc1, hc2⟩
    · -- p = pre ++ c, post = c ++ x :: q
      subst hc1
      have := hr.lin (pre ++ i :: c) x q (by rw [hc2]; simp) e he hxe
      rw [List.mem_append, List.mem_cons] at this
      rcases this with h | h | h
      · exact List.mem_append_left _ h
      · subst h; exact absurd hel hni
      · exact List.mem_append_right _ h
    · -- pre = p ++ c, x :: q = c ++ post
      subst hc1
      cases c with
      | nil =>
        simp only [List.nil_append] at hc2
        have := hr.lin (p ++ [i]) x q (by rw [← hc2]; simp) e he (by simpa using hxe)
        rw [List.mem_append] at this
        rcases this with h | h
        · exact h
        · rw [List.mem_singleton] at h; subst h; exact absurd hel (by simpa using hni)
      | cons y c =>
        simp only [List.cons_append, List.cons.injEq] at hc2
        obtain ⟨rfl, rfl⟩ := hc2
        exact hr.lin p x (c ++ i :: post) (by simp) e he hxe
  · intro s hs x hx
    have hxl := hr.desc s (hsub.subset hs) x hx
    refine hmem x hxl fun e => ?_
    subst e
    obtain ⟨e, he, h | h⟩ := hr.edge s (hsub.subset hs) x hx
    · subst h; exact hed e he (hsub.subset hs)
    · exact hed e he (hr.desc s (hsub.subset hs) e h)

theorem VD.any (hQ : ∀ c a w, ¬ Q (.panic c) a w) : ∀ (fuel : Nat) (l : List Nat) (listed : Array Bool) (acc : Acc) (a : Act) (w : World),
    Rest ops D l listed → l.length = fuel → VD P ops Q D l acc a w → wpAny P .any ops Q fuel listed a w := by
  intro fuel
  induction fuel with
  | zero =>
    intro l listed acc a w hr hl h
    have : l = [] := List.eq_nil_of_length_eq_zero hl
    subst this
    refine ⟨?_, h⟩
    cases hc : Region.ready .any ops listed with
    | nil => rfl
    | cons x xs =>
      have := (ready_edge hr (i := x) (by rw [hc]; exact List.mem_cons_self)).1
      cases this
  | succ fuel ih =>
    intro l listed acc a w hr hl h
    refine ⟨fun hnil => ?_, fun i hi => ?_⟩
    · -- the first one is ready
      cases l with
      | nil => cases hl
      | cons x r =>
        exfalso
        obtain ⟨o, ho, _⟩ := h
        have hx : x ∈ Region.ready .any ops listed := by
          refine mem_ready.2 ⟨(hr.mem x (hr.lt x List.mem_cons_self)).2 List.mem_cons_self, o, ho, fun d hd hb => ?_⟩
          have he : d.on ∈ edgesOf ops.toList x := (mem_edges ho).2 ⟨d, hd, hb, rfl⟩
          by_cases hlt : d.on < ops.size
          · cases hg : listed.getD d.on false
            · exfalso
              have hs : d.on < listed.size := by rw [hr.size]; exact hlt
              have h2 : listed.getD d.on true = false := by
                simp [Array.getD, hs] at hg ⊢; exact hg
              have h3 := (hr.mem d.on hlt).1 h2
              have := hr.lin [] x r rfl d.on he h3
              cases this
            · rfl
          · exact absurd (hr.elt x List.mem_cons_self _ he) hlt
        rw [hnil] at hx; cases hx
    · obtain ⟨hil, hed⟩ := ready_edge hr hi
      obtain ⟨pre, post, rfl⟩ := List.append_of_mem hil
      obtain ⟨_, oi, hoi, _⟩ := mem_ready.1 hi
      have hnd := hr.nodup
      have hnth : nth ops.toList i = some oi := by rw [nth_eq, Array.getElem?_toList]; exact hoi
      have hsel : noSel oi.op = true := by have := hr.sel i (by simp); simpa [selN, hnth] using this
      have hpre : ∀ s, s ∈ pre → i ∉ D s ∧ ∀ os, ops[s]? = some os → isStatic os.op = true ∧ noSel os.op = true ∧ os.apart ops oi = true := by
        intro s hs
        have hsl : s ∈ pre ++ i :: post := List.mem_append_left _ hs
        have hnotin : i ∉ D s := by
          intro hd
          obtain ⟨e, he, h' | h'⟩ := hr.edge s hsl i hd
          · subst h'; exact hed e he hsl
          · exact hed e he (hr.desc s hsl e h')
        have hp : i ∈ D s ∨ (statN ops.toList s = true ∧ apartN ops s i = true) := by
          have := hr.pair
          rw [List.pairwise_append] at this
          exact this.2.2 s hs i List.mem_cons_self
        obtain ⟨hst, hap⟩ := hp.resolve_left hnotin
        refine ⟨hnotin, fun os hos => ?_⟩
        have hns : nth ops.toList s = some os := by rw [nth_eq, Array.getElem?_toList]; exact hos
        refine ⟨by simpa [statN, hns] using hst, by have := hr.sel s hsl; simpa [selN, hns] using this, by simpa [apartN, hns, hnth] using hap⟩
      have hr' := hr.step hi
      have hlen : (pre ++ post).length = fuel := by simp at hl ⊢; omega
      cases hst : isStatic oi.op
      · have := VD.first_change hoi hst hsel hQ post pre acc a w (fun s hs => hpre s hs) h
        exact wpOp_mono (fun a' w' h' => ih _ _ _ _ _ hr' hlen h'.2.2) this
      · obtain ⟨v, hv, h'⟩ := VD.first_static hoi hst hsel post pre acc a w (fun s hs => (hpre s hs).2) h
        have hk := ih _ _ _ _ _ hr' hlen h'
        unfold wpOp
        simp only [hoi]
        unfold StEv at hv
        split at hv
        · rename_i hw
          rw [if_pos hw]
          refine .inl ?_
          unfold Oper.wp
          rw [hv]
          exact hk
        · rename_i hw
          rw [if_neg hw]
          subst hv
          exact hk

theorem chkNd_spec : ∀ {l : List Nat}, chkNd l = true → l.Nodup
  | [], _ => List.nodup_nil
  | x :: r, h => by
    simp only [chkNd] at h
    cases hm : memN x r
    · rw [hm] at h
      exact List.nodup_cons.2 ⟨fun hx => (by rw [memN_iff.2 hx] at hm; cases hm), chkNd_spec h⟩
    · rw [hm] at h; cases h

theorem rest_start {l : List Nat} (h : chkOrd ops D l = true) (hd : ∀ s x, x ∈ D s → x ∈ l) : Rest ops D l (Array.replicate ops.size false) := by
  simp only [chkOrd, chkPerm, Bool.and_eq_true] at h
  obtain ⟨⟨⟨⟨⟨⟨h1, h2⟩, h7, h8⟩, h3⟩, h4⟩, h5⟩, h6⟩ := h
  have hall : ∀ i, i < ops.size → i ∈ l := fun i hi => memN_iff.1 (allN_iff.1 h1 i (List.mem_range.2 hi))
  have hlt : ∀ i, i ∈ l → i < ops.size := fun i hi => by have := allN_iff.1 h7 i hi; simpa [Nat.blt_eq] using this
  have hnd := chkNd_spec h8
  have hlin := chkLin_spec l [] h4
  refine ⟨by simp, fun i hi => ?_, hlt, hnd, chkPair_spec l h5, ?_, fun s _ x hx => hd s x hx, ?_, fun i hi => allN_iff.1 h3 i hi, ?_⟩
  · simp [hi, hall i hi, Array.getD]
  · intro pre x post hl e he _
    exact (hlin pre x post hl e he).resolve_left (by simp)
  · intro s hs x hx
    have := allN_iff.1 (allN_iff.1 h6 s hs) x hx
    obtain ⟨e, he, h⟩ := anyN_iff.1 this
    refine ⟨e, he, ?_⟩
    rcases Bool.or_eq_true _ _ ▸ h with h' | h'
    · exact .inl (Nat.eq_of_beq_eq_true h')
    · exact .inr (memN_iff.1 h')
  · intro x hx e he
    obtain ⟨pre, post, rfl⟩ := List.append_of_mem hx
    have := (hlin pre x post rfl e he).resolve_left (by simp)
    exact hlt e (List.mem_append_left _ this)

theorem free_run {o : Oper} (hfr : isFree o.op = true) {K : Value → World → Prop} (h : vop P o.op o.type f w K) :
    ∃ v, (∀ w2, (execOp (ev f) o).run P w2 = .ok (.value v) w2) ∧ K v w := by
  obtain ⟨dst, op, type, pos, after, guard⟩ := o
  cases op <;> simp only [isFree, Bool.false_eq_true] at hfr <;> simp only [vop] at h
  case move x => exact ⟨_, fun _ => rfl, h⟩
  case assign x => exact ⟨_, fun _ => rfl, h⟩
  case pick c a b =>
    unfold vpick at h
    split at h
    · rename_i hc; exact ⟨_, fun _ => by simp [execOp, hc, asBool], h⟩
    · rename_i hc; exact ⟨_, fun _ => by simp [execOp, hc, asBool], h⟩
    · exact h.elim

/-- Each entry of the machine's list holds in every world, or follows from an entry of the formula's. -/
def AccRel (accP acc : Acc) : Prop := ∀ p', p' ∈ accP → (∀ w, p'.2 w) ∨ ∃ p, p ∈ acc ∧ p.1 = p'.1 ∧ ∀ w, p.2 w → p'.2 w

theorem AccRel.fltr {accP acc : Acc} (h : AccRel accP acc) (c : Nat) : AccRel (Go.Vc.fltr D c accP) (Go.Vc.fltr D c acc) := by
  intro p' hp'
  obtain ⟨h1, h2⟩ := mem_fltr.1 hp'
  rcases h p' h1 with h' | ⟨p, hp, he, hw⟩
  · exact .inl h'
  · exact .inr ⟨p, mem_fltr.2 ⟨hp, by rw [he]; exact h2⟩, he, hw⟩

theorem AccRel.add {accP acc : Acc} (h : AccRel accP acc) {i : Nat} {e e' : World → Prop} (he : ∀ w, e w → e' w) : AccRel ((i, e') :: accP) ((i, e) :: acc) := by
  intro p' hp'
  rcases List.mem_cons.1 hp' with rfl | hp'
  · exact .inr ⟨_, List.mem_cons_self, rfl, he⟩
  · exact (h p' hp').imp id fun ⟨p, hp, r⟩ => ⟨p, List.mem_cons_of_mem _ hp, r⟩

theorem AccRel.addFree {accP acc : Acc} (h : AccRel accP acc) {i : Nat} {e' : World → Prop} (he : ∀ w, e' w) : AccRel ((i, e') :: accP) acc := by
  intro p' hp'
  rcases List.mem_cons.1 hp' with rfl | hp'
  · exact .inl he
  · exact h p' hp'

theorem vkeeps_spec {acc : Acc} {X : Prop} (h : vkeeps acc w X) : (∀ p, p ∈ acc → p.2 w) ∧ X := by
  induction acc with
  | nil => exact ⟨(fun p hp => by cases hp), h⟩
  | cons q r ih =>
    obtain ⟨h1, h2⟩ := h
    refine ⟨fun p hp => ?_, (ih h2).2⟩
    rcases List.mem_cons.1 hp with rfl | hp
    · exact h1
    · exact (ih h2).1 p hp

theorem vops_VD {K : Fr → World → Prop} (hok : opsOk n ops.toList = true) :
    ∀ (l sk : List Nat) (acc accP : Acc) (f : Fr) (a : Act) (w : World), vops P ops.toList true D K l sk acc f w → Sim n f a → SkOk sk f →
      AccRel accP acc → (∀ p, p ∈ accP → p.2 w) →
      (∀ f' a' w', Sim n f' a' → (∀ t, Off ops l t → f' t = f t) → K f' w' → Q .normal a' w') → VD P ops Q D l accP a w := by
  intro l
  induction l with
  | nil => intro sk acc accP f a w h hs _ _ _ hK; exact hK f a w hs (fun _ _ => rfl) h
  | cons i r ih =>
    intro sk acc accP f a w h hs hsk hrel hnow hK
    simp only [vops] at h
    cases ho : nth ops.toList i with
    | none => rw [ho] at h; exact h.elim
    | some o =>
      rw [ho] at h
      have hi := nth_get ho
      have offr : ∀ t, Off ops (i :: r) t → Off ops r t := fun t ht j hj => ht j (List.mem_cons_of_mem _ hj)
      have hoff : ∀ t, Off ops (i :: r) t → o.dst ≠ some t := fun t ht => ht i List.mem_cons_self o hi
      refine ⟨o, hi, ?_⟩
      have hnext : ∀ v f' a' w', Sim n f' a' → (∀ t, Off ops r t → f' t = put f o.dst v t) → K f' w' → Q .normal a' w' := fun v f' a' w' hs' ht hk =>
        hK f' a' w' hs' (fun t h => (ht t (offr t h)).trans (put_off (hoff t h) _ _)) hk
      rcases vgd_cases hok hs hsk h with ⟨hw, h⟩ | ⟨hw, h⟩
      · simp only [vone, cond] at h
        cases hst : isStatic o.op
        · rw [hst] at h
          refine .inr ⟨rfl, ?_⟩
          unfold wpOp
          simp only [hi]
          rw [if_pos hw]
          refine .inl (vop_sound h hs fun v w' hN => ?_)
          obtain ⟨hk1, hk2⟩ := vkeeps_spec hN
          have hall : ∀ p, p ∈ fltr D i accP → p.2 w' := fun p' hp' => by
            rcases hrel.fltr i p' hp' with h' | ⟨p, hp, _, hw'⟩
            · exact h' w'
            · exact hw' w' (hk1 p hp)
          exact ⟨⟨v, rfl⟩, hall, ih _ _ _ _ _ _ hk2 (hs.put (opsOk_get hok hi) v) (skOk_del hsk _ _) (hrel.fltr i) hall (hnext v)⟩
        · rw [hst] at h
          refine .inl ⟨rfl, ?_⟩
          cases hfr : isFree o.op
          · rw [hfr] at h
            obtain ⟨v, w', hr, hww, hN⟩ := vop_run hst h
            subst hww
            have hev : StEv P ops o a w' v := by unfold StEv; rw [if_pos hw, hs.eval]; exact hr
            refine ⟨v, hev, ih _ _ _ _ _ _ hN (hs.put (opsOk_get hok hi) v) (skOk_del hsk _ _) (hrel.add fun w2 h2 => ?_) (fun p hp => ?_) (hnext v)⟩
            · obtain ⟨v', w3, hr', hv', hw3⟩ := vop_run hst h2
              subst hv'; subst hw3
              unfold StEv; rw [if_pos hw, hs.eval]; exact hr'
            · rcases List.mem_cons.1 hp with rfl | hp
              · exact hev
              · exact hnow p hp
          · rw [hfr] at h
            obtain ⟨v, hr, hN⟩ := free_run hfr h
            have hev : ∀ w2, StEv P ops o a w2 v := fun w2 => by unfold StEv; rw [if_pos hw, hs.eval]; exact hr w2
            refine ⟨v, hev w, ih _ _ _ _ _ _ hN (hs.put (opsOk_get hok hi) v) (skOk_del hsk _ _) (hrel.addFree hev) (fun p hp => ?_) (hnext v)⟩
            rcases List.mem_cons.1 hp with rfl | hp
            · exact hev w
            · exact hnow p hp
      · have hev : ∀ w2, StEv P ops o a w2 undef := fun w2 => by unfold StEv; rw [if_neg (by simp [hw])]
        cases hst : isStatic o.op
        · refine .inr ⟨rfl, ?_⟩
          unfold wpOp
          simp only [hi]
          rw [if_neg (by simp [hw])]
          refine ⟨⟨_, rfl⟩, fun p hp => hnow p (mem_fltr.1 hp).1, ?_⟩
          exact ih _ _ _ _ _ _ h (hs.put (opsOk_get hok hi) undef) (skOk_add hsk _)
            (fun p' hp' => hrel p' (mem_fltr.1 hp').1) (fun p hp => hnow p (mem_fltr.1 hp).1) (hnext undef)
        · refine .inl ⟨rfl, undef, hev w, ih _ _ _ _ _ _ h (hs.put (opsOk_get hok hi) undef) (skOk_add hsk _) (hrel.addFree hev) (fun p hp => ?_) (hnext undef)⟩
          rcases List.mem_cons.1 hp with rfl | hp
          · exact hev w
          · exact hnow p hp

/-- 'False' at every way out but the plain one. -/
def onlyN (Q : Exit → Act → World → Prop) : Exit → Act → World → Prop
  | .normal, a, w => Q .normal a w
  | _, _, _ => False

theorem region_text {id : Nat} {K : Fr → World → Prop} (hok : opsOk n ops.toList = true) {l : List Nat} (hl : l = List.range ops.size)
    (h : vops P ops.toList false D K l [] [] f w) (hs : Sim n f a)
    (hK : ∀ f' a' w', Sim n f' a' → (∀ t, (∀ o, o ∈ ops → o.dst ≠ some t) → f' t = f t) → K f' w' → Q .normal a' w') : (Code.region id ops false).wp P Q a w := by
  subst hl
  refine wp_region (vops_text hok _ [] [] f a w h hs (fun d hd => by cases hd) fun f' a' w' hs' ht hk => hK f' a' w' hs' (fun t hoff => ht t fun i _ o ho => hoff o (Array.mem_of_getElem? ho)) hk)

theorem region_draw {id : Nat} {K : Fr → World → Prop} (hok : opsOk n ops.toList = true) (hm : P.follows .mixedOrders = true) {l : List Nat} (hc : chkOrd ops D l = true)
    (hd : ∀ s x, x ∈ D s → x ∈ l)
    (h : vops P ops.toList true D K l [] [] f { w with drawn := w.drawn + 1 }) (hs : Sim n f a)
    (hK : ∀ f' a' w', Sim n f' a' → (∀ t, (∀ o, o ∈ ops → o.dst ≠ some t) → f' t = f t) → K f' w' → Q .normal a' w') : (Code.region id ops true).wp P Q a w := by
  refine wp_mono (Q := onlyN Q) (wp_region_any hm ?_) fun e a w h => by cases e <;> first | exact h | exact h.elim
  refine VD.any (D := D) (fun c a w h => h) ops.size l _ [] a _ (rest_start hc hd) ?_ ?_
  · simp only [chkOrd, chkPerm, Bool.and_eq_true] at hc
    exact Nat.eq_of_beq_eq_true hc.1.1.1.1.1.2
  · exact vops_VD hok l [] [] [] f a _ h hs (fun d hd => by cases hd) (fun p hp => by cases hp) (fun p hp => by cases hp)
      fun f' a' w' hs' ht hk => hK f' a' w' hs' (fun t hoff => ht t fun i _ o ho => hoff o (Array.mem_of_getElem? ho)) hk
end
end Go.Vc
