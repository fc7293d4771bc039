/- Code: branches, loops with an invariant, joins; and the step to a call. -/
import Derived.Test.YtpihgpfebhegmaaGreatVcE
import Derived.Scope
set_option linter.unusedVariables false
set_option linter.unusedSimpArgs false
set_option linter.unnecessarySimpa false
set_option linter.unusedSectionVars false
namespace Go.Vc
open Go

def lookN {α : Type} (k : Nat) : List (Nat × α) → Option α
  | [] => none
  | p :: r => cond (Nat.beq k p.1) (some p.2) (lookN k r)

structure Ann where
  /-- region, order, table of descendants -/
  ord : List (Nat × List Nat × List (Nat × List Nat)) := []
  /-- first region of a loop's body, the slots that the invariant sees -/
  loops : List (Nat × List Nat) := []
  /-- 4096 * (first region of what comes before the join, plus 1; or 0) + first region of what follows, the slots that are seen behind it -/
  cuts : List (Nat × List Nat) := []
  /-- region, tree of orders, table of descendants -/
  trees : List (Nat × OT × List (Nat × List Nat)) := []
  /-- region, the reading operations that come first, the others, their slots, table of descendants -/
  pars : List (Nat × List Nat × List Nat × List Nat × List (Nat × List Nat)) := []

def firstR : Code → Option Nat
  | .region id _ _ => some id
  | .seq a b => match firstR a with | some i => some i | none => firstR b
  | .cond _ a b => match firstR a with | some i => some i | none => firstR b
  | .block _ b => firstR b
  | .loop b => firstR b
  | .scope b => firstR b
  | _ => none

def dsts : List Oper → List Nat → List Nat
  | [], l => l
  | o :: r, l => match o.dst with | some d => d :: dsts r l | none => dsts r l

def mods : Code → List Nat → List Nat
  | .region _ ops _, l => dsts ops.toList l
  | .seq a b, l => mods a (mods b l)
  | .cond _ a b, l => mods a (mods b l)
  | .block _ b, l => mods b l
  | .loop b, l => mods b l
  | .scope b, l => mods b l
  | _, l => l

theorem mem_dsts {t : Nat} : ∀ {ops : List Oper} {l : List Nat}, t ∈ dsts ops l ↔ (∃ o, o ∈ ops ∧ o.dst = some t) ∨ t ∈ l := by
  intro ops
  induction ops with
  | nil => intro l; simp [dsts]
  | cons o r ih =>
    intro l
    simp only [dsts]
    cases hd : o.dst with
    | none => simp only [ih, List.mem_cons]; constructor
              · rintro (⟨x, hx, h⟩ | h); exact .inl ⟨x, .inr hx, h⟩; exact .inr h
              · rintro (⟨x, rfl | hx, h⟩ | h); rw [hd] at h; cases h; exact .inl ⟨x, hx, h⟩; exact .inr h
    | some d => simp only [List.mem_cons, ih]; constructor
                · rintro (rfl | ⟨x, hx, h⟩ | h); exact .inl ⟨o, .inl rfl, hd⟩; exact .inl ⟨x, .inr hx, h⟩; exact .inr h
                · rintro (⟨x, rfl | hx, h⟩ | h); rw [hd] at h; exact .inl (Option.some.inj h).symm; exact .inr (.inl ⟨x, hx, h⟩); exact .inr (.inr h)

theorem mem_mods {t : Nat} : ∀ (c : Code) (l : List Nat), t ∈ mods c l ↔ t ∈ mods c [] ∨ t ∈ l := by
  intro c
  induction c with
  | region id ops d => intro l; simp only [mods, mem_dsts, List.not_mem_nil, or_false]
  | seq a b iha ihb => intro l; simp only [mods]; rw [iha, ihb l, iha (mods b [])]; simp only [or_assoc]
  | cond x a b iha ihb => intro l; simp only [mods]; rw [iha, ihb l, iha (mods b [])]; simp only [or_assoc]
  | block i b ih => intro l; simp only [mods]; exact ih l
  | loop b ih => intro l; simp only [mods]; exact ih l
  | scope b ih => intro l; simp only [mods]; exact ih l
  | _ => intro l; simp [mods]

def vjoin (A : (List Value → World → Prop) → Prop) (B : List Value → Fr → World → Prop) : Prop := ∃ J, A J ∧ ∀ u g w, J u w → B u g w

def vloop (z : List Value) (w : World) (B : (List Value → World → Prop) → List Value → Fr → World → Prop) : Prop :=
  ∃ I : Nat → List Value → World → Prop, (∃ n, I n z w) ∧ ∀ n u g w', I n u w' → B (fun u' w'' => ∃ m, m < n ∧ I m u' w'') u g w'

def vdraw (w : World) (K : World → Prop) : Prop := K { w with drawn := w.drawn + 1 }

def seqK (N : Fr → World → Prop) (K : Exit → Fr → World → Prop) (e : Exit) (f : Fr) (w : World) : Prop :=
  match e with
  | .normal => N f w
  | e => K e f w

def blkK (id : Nat) (K : Exit → Fr → World → Prop) (e : Exit) (f : Fr) (w : World) : Prop :=
  match e with
  | .exit i => cond (Nat.beq i id) (K .normal f w) (K (.exit i) f w)
  | e => K e f w

def lookD (T : List (Nat × List Nat)) (s : Nat) : List Nat := match lookN s T with | some l => l | none => []

def upto : Nat → Nat → List Nat
  | 0, _ => []
  | n + 1, k => k :: upto n (k + 1)

def lenO : List Oper → Nat
  | [] => 0
  | _ :: r => lenO r + 1

def cutOf (T : Ann) (a c : Code) : Option (List Nat) := match firstR c with | some i => lookN (Nat.add (Nat.mul (match firstR a with | some j => j + 1 | none => 0) 4096) i) T.cuts | none => none
def loopOf (T : Ann) (c : Code) : Option (List Nat) := match firstR c with | some i => lookN i T.loops | none => none

def vc (P : Program) (T : Ann) : Code → (Exit → Fr → World → Prop) → Fr → World → Prop
  | .skip, K, f, w => K .normal f w
  | .label _, K, f, w => K .normal f w
  | .region id ops dr, K, f, w =>
    match dr with
    | false => vops P ops.toList false (fun _ => []) (fun f w => K .normal f w) (upto (lenO ops.toList) 0) [] [] f w
    | true => match lookN id T.ord with
      | some p => vdraw w fun w => vops P ops.toList true (lookD p.2) (fun f w => K .normal f w) p.1 [] [] f w
      | none => match lookN id T.trees with
        | some p => vdraw w fun w => vopsT P ops.toList (lookD p.2) (fun f w => K .normal f w) p.1 [] [] f w
        | none => match lookN id T.pars with
          | some p => vdraw w fun w => vopsP P ops.toList (lookD p.2.2.2) p.2.1 p.2.2.1 (fun f w => K .normal f w) p.1 [] [] f w
          | none => False
  | .seq a b, K, f, w =>
    match cutOf T a b with
    | some L => vjoin (fun J => vc P T a (seqK (fun f' w' => J (selL L f') w') K) f w) (fun u g w' => vc P T b K (hav f L (mods a []) u g) w')
    | none => vc P T a (seqK (fun f' w' => vc P T b K f' w') K) f w
  | .cond c a b, K, f, w => vif (ev f c) (vc P T a K f w) (vc P T b K f w)
  | .block id b, K, f, w => vc P T b (blkK id K) f w
  | .loop b, K, f, w =>
    match loopOf T b with
    | some L => vloop (selL L f) w fun C u g w' => vc P T b (seqK (fun f' w'' => C (selL L f') w'') K) (hav f L (mods b []) u g) w'
    | none => False
  | .exit id, K, f, w => K (.exit id) f w
  | .ret, K, f, w => K .ret f w
  | .scope b, K, f, w => vc P T b K f w
  | _, _, _, _ => False

def noGo : Code → Bool
  | .goto _ => false
  | .seq a b => noGo a && noGo b
  | .cond _ a b => noGo a && noGo b
  | .block _ b => noGo b
  | .loop b => noGo b
  | .scope b => noGo b
  | _ => true

/-- The closed checks: slots, orders. -/
def okC (n : Nat) (T : Ann) : Code → Bool
  | .region id ops dr => opsOk n ops.toList && (match dr with
    | false => true
    | true => match lookN id T.ord with
      | some p => chkOrd ops (lookD p.2) p.1 && allN (fun q => allN (fun x => memN x p.1) (lookD p.2 q)) (p.2.map (·.1))
      | none => match lookN id T.trees with
        | some p => chkTree ops (lookD p.2) p.1
        | none => match lookN id T.pars with
          | some p => chkPar ops (lookD p.2.2.2) p.1 p.2.1 p.2.2.1 && chkSlots ops.toList p.2.1 p.2.2.1
          | none => false)
  | .seq a b => okC n T a && okC n T b
  | .cond _ a b => okC n T a && okC n T b
  | .block _ b => okC n T b
  | .loop b => okC n T b
  | .scope b => okC n T b
  | _ => true

theorem upto_eq (n k : Nat) : upto n k = List.range' k n := by
  induction n generalizing k with
  | zero => rfl
  | succ n ih => simp only [upto, ih]; rfl

theorem lenO_eq (l : List Oper) : lenO l = l.length := by induction l <;> simp_all [lenO]

theorem lookN_mem {α : Type} {k : Nat} {T : List (Nat × α)} {x : α} (h : lookN k T = some x) : k ∈ T.map (·.1) := by
  induction T with
  | nil => cases h
  | cons p r ih =>
    simp only [lookN] at h
    cases hb : Nat.beq k p.1
    · rw [hb] at h; exact List.mem_cons_of_mem _ (ih h)
    · simp [Nat.eq_of_beq_eq_true hb]

theorem lookD_in {T : List (Nat × List Nat)} {π : List Nat} (h : allN (fun q => allN (fun x => memN x π) (lookD T q)) (T.map (·.1)) = true) : ∀ s x, x ∈ lookD T s → x ∈ π := by
  intro s x hx
  have hs : s ∈ T.map (·.1) := by
    unfold lookD at hx
    cases hl : lookN s T with
    | none => rw [hl] at hx; cases hx
    | some l => exact lookN_mem hl
  exact memN_iff.1 (allN_iff.1 (allN_iff.1 h s hs) x hx)

/-- What is known at a way out. -/
def Post (n : Nat) (M : List Nat) (f : Fr) (K : Exit → Fr → World → Prop) (e : Exit) (a : Act) (w : World) : Prop :=
  ∃ f', Sim n f' a ∧ (∀ t, t ∉ M → f' t = f t) ∧ K e f' w

theorem least {p : Nat → Prop} (h : ∃ n, p n) : ∃ n, p n ∧ ∀ m, p m → n ≤ m := by
  obtain ⟨n, hn⟩ := h
  induction n using Nat.strongRecOn with
  | _ n ih =>
    by_cases hm : ∃ m, m < n ∧ p m
    · obtain ⟨m, hlt, hp⟩ := hm
      exact ih m hlt hp
    · exact ⟨n, hn, fun m hp => Nat.le_of_not_lt fun hlt => hm ⟨m, hlt, hp⟩⟩

open Classical in
noncomputable def rank (p : Nat → Prop) : Nat := if h : ∃ n, p n then Classical.choose (least h) else 0
theorem rank_spec {p : Nat → Prop} (h : ∃ n, p n) : p (rank p) ∧ ∀ m, p m → rank p ≤ m := by
  unfold rank
  rw [dif_pos h]
  exact Classical.choose_spec (least h)

theorem Sim.fr {n : Nat} {f : Fr} {a : Act} (h : Sim n f a) : (fun t => a.tmps.getD t undef) = f := funext h.at_

section
variable {P : Program} {T : Ann} {n : Nat}

theorem vc_sound (hm : P.follows .mixedOrders = true) : ∀ (c : Code) (K : Exit → Fr → World → Prop) (f : Fr) (a : Act) (w : World), okC n T c = true → vc P T c K f w → Sim n f a → (∀ l f w, ¬ K (.goto l) f w) →
    c.wp P (Post n (mods c []) f K) a w := by
  intro c
  induction c with
  | skip => intro K f a w _ h hs _; exact wp_skip ⟨f, hs, fun _ _ => rfl, h⟩
  | label l => intro K f a w _ h hs _; exact wp_label ⟨f, hs, fun _ _ => rfl, h⟩
  | exit id => intro K f a w _ h hs _; exact wp_exit ⟨f, hs, fun _ _ => rfl, h⟩
  | ret => intro K f a w _ h hs _; exact wp_ret ⟨f, hs, fun _ _ => rfl, h⟩
  | goto l => intro K f a w _ h; exact h.elim
  | refuse s => intro K f a w _ h; exact h.elim
  | rangeFunc x y z b _ _ => intro K f a w _ h; exact h.elim
  | region id ops dr =>
    intro K f a w hok h hs _
    simp only [okC, Bool.and_eq_true] at hok
    have hK : ∀ f' a' w', Sim n f' a' → (∀ t, (∀ o, o ∈ ops → o.dst ≠ some t) → f' t = f t) → K .normal f' w' → Post n (mods (.region id ops dr) []) f K .normal a' w' := by
      intro f' a' w' hs' ht hk
      refine ⟨f', hs', fun t hn => ht t fun o ho hd => hn ?_, hk⟩
      simp only [mods, mem_dsts]
      exact .inl ⟨o, Array.mem_toList_iff.2 ho, hd⟩
    cases dr with
    | false =>
      simp only [vc] at h
      exact region_text hok.1 (by rw [upto_eq, lenO_eq, Array.length_toList, List.range_eq_range']) h hs hK
    | true =>
      simp only [vc] at h
      have hok2 := hok.2
      cases hl : lookN id T.ord with
      | none =>
        rw [hl] at h hok2
        simp only at h hok2
        cases ht : lookN id T.trees with
        | none =>
          rw [ht] at h hok2
          simp only at h hok2
          cases hp : lookN id T.pars with
          | none => rw [hp] at h; exact h.elim
          | some p =>
            rw [hp] at h hok2
            simp only [Bool.and_eq_true] at hok2
            exact region_par hok.1 hm hok2.1 hok2.2 h hs hK
        | some p =>
          rw [ht] at h hok2
          exact region_tree hok.1 hm hok2 h hs hK
      | some p =>
        rw [hl] at h hok2
        simp only [Bool.and_eq_true] at hok2
        exact region_draw hok.1 hm hok2.1 (lookD_in hok2.2) h hs hK
  | seq x y ihx ihy =>
    intro K f a w hok h hs hg
    simp only [okC, Bool.and_eq_true] at hok
    refine wp_seq ?_
    simp only [vc] at h
    cases hc : cutOf T x y with
    | none =>
      rw [hc] at h
      refine wp_mono (ihx _ f a w hok.1 h hs ?_) ?_
      · intro l f' w' hk; exact hg l f' w' hk
      · rintro e a' w' ⟨f', hs', ht, hk⟩
        cases e with
        | normal =>
          refine wp_mono (ihy K f' a' w' hok.2 hk hs' hg) ?_
          rintro e a'' w'' ⟨f'', hs'', ht'', hk'⟩
          refine ⟨f'', hs'', fun t hn => ?_, hk'⟩
          simp only [mods] at hn
          rw [mem_mods] at hn
          rw [ht'' t (fun h => hn (.inr h)), ht t (fun h => hn (.inl h))]
        | _ => exact ⟨f', hs', fun t hn => ht t (fun h => hn (by simp only [mods]; rw [mem_mods]; exact .inl h)), hk⟩
    | some L =>
      rw [hc] at h
      obtain ⟨J, hA, hB⟩ := h
      refine wp_mono (ihx _ f a w hok.1 hA hs ?_) ?_
      · intro l f' w' hk; exact hg l f' w' hk
      · rintro e a' w' ⟨f', hs', ht, hk⟩
        cases e with
        | normal =>
          have hb := hB _ f' _ hk
          simp only [hav_self ht] at hb
          refine wp_mono (ihy K f' a' w' hok.2 hb hs' hg) ?_
          rintro e a'' w'' ⟨f'', hs'', ht'', hk'⟩
          refine ⟨f'', hs'', fun t hn => ?_, hk'⟩
          simp only [mods] at hn
          rw [mem_mods] at hn
          rw [ht'' t (fun h => hn (.inr h)), ht t (fun h => hn (.inl h))]
        | _ => exact ⟨f', hs', fun t hn => ht t (fun h => hn (by simp only [mods]; rw [mem_mods]; exact .inl h)), hk⟩
  | cond x y z ihy ihz =>
    intro K f a w hok h hs hg
    simp only [okC, Bool.and_eq_true] at hok
    simp only [vc] at h
    unfold vif at h
    split at h
    · rename_i hx
      refine wp_cond_true (by rw [hs.eval]; exact hx) (wp_mono (ihy K f a w hok.1 h hs hg) ?_)
      rintro e a' w' ⟨f', hs', ht, hk⟩
      exact ⟨f', hs', fun t hn => ht t (fun h => hn (by simp only [mods]; rw [mem_mods]; exact .inl h)), hk⟩
    · rename_i hx
      refine wp_cond_false (by rw [hs.eval]; exact hx) (wp_mono (ihz K f a w hok.2 h hs hg) ?_)
      rintro e a' w' ⟨f', hs', ht, hk⟩
      exact ⟨f', hs', fun t hn => ht t (fun h => hn (by simp only [mods]; rw [mem_mods]; exact .inr h)), hk⟩
    · exact h.elim
  | block id b ih =>
    intro K f a w hok h hs hg
    refine wp_block (wp_mono (ih _ f a w hok h hs ?_) ?_)
    · intro l f' w' hk; exact hg l f' w' hk
    · rintro e a' w' ⟨f', hs', ht, hk⟩
      cases e with
      | exit i =>
        simp only [Exit.inBlock]
        simp only [blkK] at hk
        cases hb : Nat.beq i id
        · rw [hb] at hk
          have : i ≠ id := fun e => by subst e; simp at hb
          rw [if_neg this]
          exact ⟨f', hs', ht, hk⟩
        · rw [hb] at hk
          rw [if_pos (Nat.eq_of_beq_eq_true hb)]
          exact ⟨f', hs', ht, hk⟩
      | _ => exact ⟨f', hs', ht, hk⟩
  | loop b ih =>
    intro K f a w hok h hs hg
    simp only [vc] at h
    cases hl : loopOf T b with
    | none => rw [hl] at h; exact h.elim
    | some L =>
      rw [hl] at h
      obtain ⟨I, h0, hB⟩ := h
      refine wp_loop (fun a' w' => ∃ f', Sim n f' a' ∧ (∀ t, t ∉ mods b [] → f' t = f t) ∧ ∃ k, I k (selL L f') w') (fun a' w' => rank fun k => I k (selL L fun t => a'.tmps.getD t undef) w')
        ⟨f, hs, fun _ _ => rfl, h0⟩ ?_
      rintro a' w' ⟨f', hs', ht, hI⟩
      obtain ⟨hr1, _⟩ := rank_spec hI
      have hb := hB _ _ f' _ hr1
      simp only [hav_self ht] at hb
      refine wp_mono (ih _ f' a' w' hok hb hs' ?_) ?_
      · intro l f'' w'' hk; exact hg l f'' w'' hk
      · rintro e a'' w'' ⟨f'', hs'', ht'', hk⟩
        have hall : ∀ t, t ∉ mods b [] → f'' t = f t := fun t hn => (ht'' t hn).trans (ht t hn)
        cases e with
        | normal =>
          obtain ⟨m, hlt, hm⟩ := hk
          refine ⟨⟨f'', hs'', hall, m, hm⟩, ?_⟩
          rw [hs''.fr, hs'.fr]
          exact Nat.lt_of_le_of_lt ((rank_spec ⟨m, hm⟩).2 m hm) hlt
        | _ => exact ⟨f'', hs'', hall, hk⟩
  | scope b ih =>
    intro K f a w hok h hs hg
    refine wp_scope_straight (wp_mono (ih K f a w hok h hs hg) ?_)
    rintro e a' w' ⟨f', hs', ht, hk⟩
    cases e with
    | goto l => exact (hg l _ _ hk).elim
    | _ => exact ⟨f', hs', ht, hk⟩

/-- A result that lies in memory. -/
def vlv (P : Program) (t : TypeId) (a : Value) (w : World) (K : Value → World → Prop) : Prop := vrun P (do loadVar t (← asAddr a)) w fun v w' => w' = w ∧ K v w

def vresL (P : Program) : List ResultVar → Fr → World → (List Value → World → Prop) → Prop
  | [], _, w, K => K [] w
  | .tmp t :: r, f, w, K => vresL P r f w fun l w => K (f t :: l) w
  | .cell a t :: r, f, w, K => vlv P t (f a) w fun v w => vresL P r f w fun l w => K (v :: l) w

def tup : List Value → Value
  | [v] => v
  | l => .tuple ⟨l⟩

/-- The results of a function. -/
def vres (P : Program) (rs : List ResultVar) (f : Fr) (w : World) (K : Value → World → Prop) : Prop := vresL P rs f w fun l w => K (tup l) w

def rdR (a : Act) : ResultVar → Sem Value
  | .tmp t => pure (a.tmps.getD t undef)
  | .cell x t => do loadVar t (← asAddr (a.tmps.getD x undef))

theorem vresL_sound {f : Fr} {a : Act} {w : World} (hs : Sim n f a) : ∀ (rs : List ResultVar) (K : List Value → World → Prop), vresL P rs f w K →
    ∃ l, l.length = rs.length ∧ (rs.mapM (rdR a)).run P w = .ok l w ∧ K l w := by
  intro rs
  induction rs with
  | nil => intro K h; exact ⟨[], rfl, rfl, h⟩
  | cons r rs ih =>
    intro K h
    cases r with
    | tmp t =>
      obtain ⟨l, hl, hr, hk⟩ := ih _ h
      refine ⟨f t :: l, by simp [hl], ?_, hk⟩
      simp only [List.mapM_cons, rdR, Sem.run_bind, Sem.run_pure, Result.andThen_ok]
      rw [hr]
      simp only [Result.andThen_ok, hs.at_]
    | cell x t =>
      obtain ⟨v, w', hr1, hw, h2⟩ := h
      obtain ⟨l, hl, hr, hk⟩ := ih _ h2
      subst hw
      refine ⟨v :: l, by simp [hl], ?_, hk⟩
      rw [← hs.at_ x] at hr1
      simp only [List.mapM_cons, rdR, Sem.run_bind] at hr1 ⊢
      rw [hr1]
      simp only [Result.andThen_ok, hr, Sem.run_pure]

theorem tup_eq (l : List Value) : (if h : (l.toArray).size = 1 then (l.toArray)[0] else Value.tuple l.toArray) = tup l := by
  match l with
  | [] => rfl
  | [v] => rfl
  | a :: b :: r => simp [tup]

theorem vres_sound {fn : Func} {f : Fr} {a : Act} {w : World} {K : Value → World → Prop} (h : vres P fn.results.toList f w K) (hs : Sim n f a) :
    ∃ v, (results fn a.tmps).run P w = .ok v w ∧ K v w := by
  obtain ⟨l, _, hr, hk⟩ := vresL_sound (P := P) hs _ _ h
  refine ⟨tup l, ?_, hk⟩
  have e : fn.results = fn.results.toList.toArray := rfl
  have e2 : results fn a.tmps = (do
      let vs ← fn.results.mapM (rdR a)
      pure (if h : vs.size = 1 then vs[0] else .tuple vs)) := by
    unfold results
    congr 2
  rw [e2, e, List.mapM_toArray]
  simp only [Sem.run_bind, Sem.run_map]
  rw [hr]
  simp only [Result.andThen_ok, Sem.run_pure]
  rw [tup_eq]

def retF (P : Program) (rs : List ResultVar) (K : Value → World → Prop) (e : Exit) (f : Fr) (w : World) : Prop :=
  match e with
  | .normal => vres P rs f w K
  | .ret => vres P rs f w K
  | _ => False

def nthV : List Value → Fr
  | [], _ => undef
  | v :: _, 0 => v
  | _ :: l, t + 1 => nthV l t

theorem nthV_eq (l : List Value) (t : Nat) : nthV l t = l.getD t undef := by
  induction l generalizing t with
  | nil => simp [nthV]
  | cons v l ih => cases t <;> simp [nthV, ih]

theorem sim_enter (args : List Value) (m : Nat) (h : args.length ≤ m) :
    Sim m (nthV args) { tmps := (args.toArray) ++ Array.replicate (m - args.toArray.size) undef, defers := [] } := by
  refine ⟨by simp; omega, rfl, fun t => ?_⟩
  rw [nthV_eq]
  simp only [Array.getD_eq_getD_getElem?, List.getD_eq_getElem?_getD]
  rw [Array.getElem?_append]
  split
  · simp
  · rename_i hlt
    simp only [List.size_toArray, Nat.not_lt] at hlt
    rw [List.getElem?_eq_none hlt]
    rw [Array.getElem?_replicate]
    split <;> rfl

theorem call_of_vc {g : Nat} {fn : Func} {c : Code} {args : List Value} {w : World} {K : Value → World → Prop} (hm : P.follows .mixedOrders = true) (hf : P.funcs[g]? = some fn) (hb : fn.body = some c)
    (hn : fn.ntmps = n) (hg : okFn P g = true) (hok : okC n T c = true) (hlen : Nat.ble args.length n = true)
    (h : vc P T c (retF P fn.results.toList K) (nthV args) w) : vcall P g args.toArray w K := by
  refine ⟨hg, calls_of_wp hf hb ?_⟩
  rw [hn]
  refine wp_mono (vc_sound hm c _ _ _ w hok h (sim_enter args n (Nat.le_of_ble_eq_true hlen)) (fun l f w h => h)) ?_
  rintro e a' w' ⟨f', hs', _, hk⟩
  cases e with
  | normal => obtain ⟨v, hr, hv⟩ := vres_sound hk hs'; exact ⟨hs'.defers, v, hr, hv⟩
  | ret => obtain ⟨v, hr, hv⟩ := vres_sound hk hs'; exact ⟨hs'.defers, v, hr, hv⟩
  | _ => exact hk.elim
end

theorem vloop_of {z : List Value} {w : World} {B : (List Value → World → Prop) → List Value → Fr → World → Prop} (I : Nat → List Value → World → Prop) (n : Nat) (h0 : I n z w)
    (h : ∀ n u g w' C, I n u w' → (∀ m u' w'', m < n → I m u' w'' → C u' w'') → B C u g w') : vloop z w B :=
  ⟨I, ⟨n, h0⟩, fun n u g w' hI => h n u g w' _ hI fun m _ _ hlt hm => ⟨m, hlt, hm⟩⟩

/-- A loop that counts up to N at most. -/
theorem vloop_up {z : List Value} {w : World} {B : (List Value → World → Prop) → List Value → Fr → World → Prop} (N : Nat) (I : Nat → List Value → World → Prop) (h0 : I 0 z w)
    (h : ∀ k u g w' C, k ≤ N → I k u w' → (k < N → ∀ u' w'', I (k + 1) u' w'' → C u' w'') → B C u g w') : vloop z w B := by
  refine vloop_of (fun n u w => ∃ k, k ≤ N ∧ n = N - k ∧ I k u w) N ⟨0, Nat.zero_le _, by omega, h0⟩ ?_
  rintro n u g w' C ⟨k, hk, rfl, hI⟩ hC
  exact h k u g w' C hk hI fun hlt u' w'' hI' => hC (N - (k + 1)) u' w'' (by omega) ⟨k + 1, hlt, rfl, hI'⟩

theorem vjoin_of {A : (List Value → World → Prop) → Prop} {B : List Value → Fr → World → Prop} (J : List Value → World → Prop)
    (hA : ∀ C, (∀ u w, J u w → C u w) → A C) (hB : ∀ u g w, J u w → B u g w) : vjoin A B := ⟨J, hA J fun _ _ h => h, hB⟩
end Go.Vc
