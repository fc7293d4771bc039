/- Maps of ints, looked at as sets of their keys; ranging over them. -/
import Derived.Test.YtpihgpfebhegmaaVcV
import Derived.MapKept
import Derived.Laws.IdiomRangeMap
set_option linter.unusedVariables false
set_option linter.unusedSimpArgs false
set_option linter.unnecessarySimpa false
set_option linter.unusedSectionVars false
namespace Go.Vc
open Go Go.MapKept

/-- A map whose keys are these ints. -/
def ISet (w : World) (b : Nat) (ks : List Int) : Prop :=
  ∃ es clock, w.heap[b]? = some (.map es clock) ∧ Stamped es clock ∧ es.toList.map (·.key) = ks.map fun k => Value.int .i64 k
/-- `t` is a map type with keys of kind i64. -/
def imapB (P : Program) (t : TypeId) : Bool := match P.underlying t with
  | some (.map kt _) => (match P.underlying kt with | some (.int .i64) => true | _ => false)
  | _ => false

section
variable {P : Program} {t : TypeId} {w w' : World} {K : Value → World → Prop} {b : Nat} {ks : List Int} {S : Nat → Prop}

theorem imapB_eq (h : imapB P t = true) : ∃ kt et, P.underlying t = some (.map kt et) ∧ P.underlying kt = some (.int .i64) := by
  unfold imapB at h
  split at h
  · rename_i kt et hu
    split at h
    · exact ⟨kt, et, hu, by assumption⟩
    · cases h
  · cases h
theorem ISet.lt (h : ISet w b ks) : b < w.heap.size := by
  obtain ⟨es, cl, hb, _⟩ := h; exact (Array.getElem?_eq_some_iff.1 hb).1
theorem ISet.same (h : ISet w b ks) (hw : Same S w w') (hs : ¬ S b) : ISet w' b ks := by
  have hlt := h.lt
  obtain ⟨es, cl, hb, r⟩ := h; exact ⟨es, cl, (hw.block b hlt hs).trans hb, r⟩
theorem ISet.ext (h : ISet w b ks) (hw : Ext w w') : ISet w' b ks := h.same hw id
theorem ISet.nodup (h : ISet w b ks) : ks.Nodup := by
  obtain ⟨es, cl, hb, hst, hk⟩ := h
  have := hst.2.2
  rw [hk] at this
  exact List.Pairwise.of_map _ (fun a b h e => h (by rw [e])) this
theorem iset_keys {es : Array MapEntry} (hk : es.toList.map (·.key) = ks.map fun k => Value.int .i64 k) : ∀ x ∈ es.toList, ∃ k, k ∈ ks ∧ x.key = .int .i64 k := by
  intro x hx
  have : x.key ∈ es.toList.map (·.key) := List.mem_map_of_mem hx
  rw [hk] at this
  obtain ⟨k, h1, h2⟩ := List.mem_map.1 this
  exact ⟨k, h1, h2.symm⟩
theorem isKey_int (n : Int) : IsKey (.int .i64) (.int .i64 n) := by simp [IsKey]

theorem same_set {w : World} {r : Nat} {o o' : Obj} (hb : w.heap[r]? = some o) : Same (· = r) w { w with heap := w.heap.setIfInBounds r o' } :=
  ⟨rfl, rfl, rfl, by simp, fun k _ hk => (heap_set (o' := o') hb).2 k hk⟩

theorem vmkM_new (hK : ∀ b w', b = w.heap.size → ISet w' b [] → Ext w w' → K (.map (some b)) w') : vmkM P t none w K := by
  refine ⟨.map (some w.heap.size), w.alloc (.map #[] 0), ?_, hK _ _ rfl ⟨#[], 0, (heap_alloc w _).1, stamped_empty 0, rfl⟩ ⟨rfl, rfl, rfl, by simp, fun k hk _ => (heap_alloc w _).2 k hk⟩⟩
  simp [Instr.makeMap, newObj, Sem.run]
theorem vmset_set {k : Int} {x : Value} (hT : imapB P t = true) (h : ISet w b ks)
    (hK : ∀ w', ISet w' b (if k ∈ ks then ks else ks ++ [k]) → Same (· = b) w w' → w'.heap.size = w.heap.size → K undef w') : vmset P t (.map (some b)) (.int .i64 k) x w K := by
  obtain ⟨kt, et, hm, hd⟩ := imapB_eq hT
  obtain ⟨es, cl, hb, hst, hk⟩ := h
  have hks : ∀ y ∈ es.toList, IsKey (.int .i64) y.key := fun y hy => by obtain ⟨n, _, e⟩ := iset_keys hk y hy; rw [e]; exact isKey_int n
  rcases findNow_spec (isKey_int k) es.toList 0 hks with ⟨h1, h2⟩ | ⟨j, e, h1, h2, h3⟩
  · have hn : k ∉ ks := fun hin => by
      have : Value.int .i64 k ∈ es.toList.map (·.key) := by rw [hk]; exact List.mem_map_of_mem hin
      obtain ⟨y, hy, e⟩ := List.mem_map.1 this
      exact h2 y hy e
    rw [if_neg hn] at hK
    refine ⟨(), { w with heap := w.heap.setIfInBounds b (.map (es.push { key := .int .i64 k, val := x, born := cl }) (cl + 1)) }, ?_, hK _ ⟨_, _, (heap_set hb).1, stamped_push hst h2, by simp [hk]⟩ (same_set hb) (by simp)⟩
    simp [Instr.mapUpdate, run_underlying hm, MapKept.run_getObj_map hb, run_checkKey hd (isKey_int k), run_findKey hd h1, run_setObj_map _ hb, Result.andThen]
  · have hin : k ∈ ks := by
      have : e.key ∈ es.toList.map (·.key) := List.mem_map_of_mem (List.mem_of_getElem? h2)
      rw [hk, h3] at this
      obtain ⟨n, hn, e'⟩ := List.mem_map.1 this
      cases e'; exact hn
    rw [if_pos hin] at hK
    have h2' : es[j]? = some e := by simpa using h2
    have hf : ∀ y ∈ es.toList, es[0 + j]? = some y → ({ y with key := .int .i64 k, val := x } : MapEntry).key = y.key := fun y _ hy => by
      rw [Nat.zero_add, h2'] at hy; cases hy; exact h3.symm
    refine ⟨(), { w with heap := w.heap.setIfInBounds b (.map (es.modify (0 + j) fun y => { y with key := .int .i64 k, val := x }) cl) }, ?_, hK _ ⟨_, _, (heap_set hb).1, stamped_modify hst _ _ (fun _ _ => rfl) hf, ?_⟩ (same_set hb) (by simp)⟩
    · have hkk : ((es[0 + j]?).map (·.key)).getD (.int .i64 k) = .int .i64 k := by rw [Nat.zero_add, h2']; exact h3
      simp only [Instr.mapUpdate, Sem.run_bind, run_underlying hm, MapKept.run_getObj_map hb, run_checkKey hd (isKey_int k), run_findKey hd h1, Result.andThen, hkk, run_keyThatStays (isKey_int k), run_setObj_map _ hb]
    · rw [modify_keys _ _ fun y hy => by rw [Nat.zero_add, h2'] at hy; cases hy; exact h3.symm]; exact hk
theorem map_erase {α β : Type} (f : α → β) : ∀ (l : List α) (j : Nat), (l.eraseIdx j).map f = (l.map f).eraseIdx j
  | [], _ => rfl
  | _ :: _, 0 => rfl
  | x :: l, j + 1 => by simp [map_erase f l j]
theorem vdelete_set {k : Int} {t2 ty : TypeId} (hT : imapB P t = true) (h : ISet w b ks)
    (hK : ∀ w', ISet w' b (ks.erase k) → Same (· = b) w w' → w'.heap.size = w.heap.size → K (.tuple #[]) w') : vbi P .delete [t, t2] ty [.map (some b), .int .i64 k] w K := by
  obtain ⟨kt, et, hm, hd⟩ := imapB_eq hT
  obtain ⟨es, cl, hb, hst, hk⟩ := h
  have hks : ∀ y ∈ es.toList, IsKey (.int .i64) y.key := fun y hy => by obtain ⟨n, _, e⟩ := iset_keys hk y hy; rw [e]; exact isKey_int n
  have hnd := ISet.nodup ⟨es, cl, hb, hst, hk⟩
  rcases findNow_spec (isKey_int k) es.toList 0 hks with ⟨h1, h2⟩ | ⟨j, e, h1, h2, h3⟩
  · have hn : k ∉ ks := fun hin => by
      have : Value.int .i64 k ∈ es.toList.map (·.key) := by rw [hk]; exact List.mem_map_of_mem hin
      obtain ⟨y, hy, e⟩ := List.mem_map.1 this
      exact h2 y hy e
    rw [List.erase_of_not_mem hn] at hK
    refine ⟨.tuple #[], { w with heap := w.heap.setIfInBounds b (.map es cl) }, ?_, hK _ ⟨_, _, (heap_set hb).1, hst, hk⟩ (same_set hb) (by simp)⟩
    simp [biSem, Builtin.delete_, run_underlying hm, MapKept.run_getObj_map hb, run_checkKey hd (isKey_int k), run_findKey hd h1, run_setObj_map _ hb, Result.andThen]
  · have hkj : ks[j]? = some k := by
      have : (es.toList.map (·.key))[j]? = some (.int .i64 k) := by rw [List.getElem?_map, h2]; simp [h3]
      rw [hk, List.getElem?_map] at this
      cases hj : ks[j]? with
      | none => rw [hj] at this; cases this
      | some n => rw [hj] at this; simp at this; rw [this]
    have herase : ks.erase k = ks.eraseIdx j := by
      obtain ⟨hj, hjk⟩ := List.getElem?_eq_some_iff.1 hkj
      rw [List.erase_eq_eraseIdx_of_idxOf]
      rw [← hjk]; exact hnd.idxOf_getElem j hj
    rw [herase] at hK
    have hlt : 0 + j < es.size := by have := (List.getElem?_eq_some_iff.1 h2).1; simpa using this
    refine ⟨.tuple #[], { w with heap := w.heap.setIfInBounds b (.map (es.eraseIdxIfInBounds (0 + j)) cl) }, ?_, hK _ ⟨_, _, (heap_set hb).1, stamped_erase hst _, ?_⟩ (same_set hb) (by simp)⟩
    · simp only [biSem, Builtin.delete_, List.getElem?_toArray, List.getElem?_cons_zero, List.getElem?_cons_succ, Sem.run_bind, Sem.run_pure, run_underlying hm, MapKept.run_getObj_map hb, run_checkKey hd (isKey_int k), run_findKey hd h1, run_setObj_map _ hb, Result.andThen]
    · unfold Array.eraseIdxIfInBounds
      rw [dif_pos hlt, Array.toList_eraseIdx, Nat.zero_add, map_erase, hk, map_erase]
/-- A range over a set that has given out these keys. -/
def IterR (w : World) (r b : Nat) (ks ds : List Int) : Prop :=
  ∃ es clock seen, w.heap[b]? = some (.map es clock) ∧ Stamped es clock ∧ es.toList.map (·.key) = ks.map (fun k => Value.int .i64 k) ∧ w.heap[r]? = some (.mapIter (some b) clock seen clock) ∧ ds.Nodup ∧ (∀ k, k ∈ ds → k ∈ ks) ∧
    (∀ e, e ∈ es.toList → (seen.contains e.born = true ↔ ∃ k, k ∈ ds ∧ e.key = .int .i64 k)) ∧ (∀ ds' k, ds = ds' ++ [k] → ∃ e, e ∈ es.toList ∧ e.key = .int .i64 k ∧ ∃ s' : Array Nat, seen = s'.push e.born)
theorem IterR.same {r : Nat} {ds : List Int} (h : IterR w r b ks ds) (hw : Same S w w') (hb' : ¬ S b) (hr : ¬ S r) : IterR w' r b ks ds := by
  obtain ⟨es, clock, seen, hb, hst, hk, hit, h1, h2, h3, h4⟩ := h
  exact ⟨es, clock, seen, (hw.block b (Array.getElem?_eq_some_iff.1 hb).1 hb').trans hb, hst, hk, (hw.block r (Array.getElem?_eq_some_iff.1 hit).1 hr).trans hit, h1, h2, h3, h4⟩
theorem IterR.ext {r : Nat} {ds : List Int} (h : IterR w r b ks ds) (hw : Ext w w') : IterR w' r b ks ds := h.same hw id id
theorem IterR.nd {r : Nat} {ds : List Int} (h : IterR w r b ks ds) : ds.Nodup := by
  obtain ⟨es, clock, seen, hb, hst, hk, hit, h1, _⟩ := h; exact h1
theorem IterR.sub {r : Nat} {ds : List Int} (h : IterR w r b ks ds) {k : Int} (hk' : k ∈ ds) : k ∈ ks := by
  obtain ⟨es, clock, seen, hb, hst, hk, hit, h1, h2, _⟩ := h; exact h2 k hk'
theorem IterR.len {r : Nat} {ds : List Int} (h : IterR w r b ks ds) : ds.length ≤ ks.length := h.nd.length_le_of_subset fun _ hk => h.sub hk
theorem IterR.lt {r : Nat} {ds : List Int} (h : IterR w r b ks ds) : r < w.heap.size := by
  obtain ⟨es, clock, seen, hb, hst, hk, hit, _⟩ := h; exact (Array.getElem?_eq_some_iff.1 hit).1
theorem IterR.set {r : Nat} {ds : List Int} (h : IterR w r b ks ds) : ISet w b ks := by
  obtain ⟨es, clock, seen, hb, hst, hk, _⟩ := h; exact ⟨es, clock, hb, hst, hk⟩
theorem vrange_set (hT : imapB P t = true) (h : ISet w b ks) (hK : ∀ r w', r = w.heap.size → IterR w' r b ks [] → Ext w w' → K (.pointer (some ⟨r, 0, none⟩)) w') : vrange P t (.map (some b)) w K := by
  obtain ⟨kt, et, hm, hd⟩ := imapB_eq hT
  obtain ⟨es, cl, hb, hst, hk⟩ := h
  refine ⟨.pointer (some ⟨w.heap.size, 0, none⟩), w.alloc (.mapIter (some b) cl #[] cl), ?_, hK _ _ rfl ⟨es, cl, #[], ?_, hst, hk, (MapKept.heap_alloc w _).1, List.nodup_nil, by simp, by simp, by simp⟩ ⟨rfl, rfl, rfl, by simp, fun k hk _ => (MapKept.heap_alloc w _).2 k hk⟩⟩
  · simp [Instr.range, run_underlying hm, MapKept.run_getObj_map hb, Result.andThen, newObj, Sem.run]
  · rw [(MapKept.heap_alloc w _).2 b (Array.getElem?_eq_some_iff.1 hb).1]; exact hb
theorem ventry_set {r : Nat} {ds : List Int} {k : Int} (h : IterR w r b ks (ds ++ [k])) (hK : ∀ x, K (.tuple #[.int .i64 k, x]) w) : ventry P (.pointer (some ⟨r, 0, none⟩)) w K := by
  obtain ⟨es, clock, seen, hb, hst, hk, hit, h1, h2, h3, h4⟩ := h
  obtain ⟨e, he, hek, s', rfl⟩ := h4 _ _ rfl
  refine ⟨.tuple #[e.key, e.val], w, ?_, hek ▸ hK e.val⟩
  have hf : es.find? (·.born == e.born) = some e := by rw [← Array.find?_toList]; exact find_born e es.toList hst.2.1 he
  simp only [Instr.entry, getObj, Sem.run_bind, Sem.run, hit, hb, Result.andThen, Array.back?_push, bne_self_eq_false, Bool.false_eq_true, if_false, hf]
  rfl
theorem vnext_set {r : Nat} {ds : List Int} {ty : TypeId} (h : IterR w r b ks ds) (hend : (∀ k, k ∈ ks → k ∈ ds) → K (.tuple #[.bool false]) w)
    (hK : ∀ k x w', k ∈ ks → k ∉ ds → IterR w' r b ks (ds ++ [k]) → Same (· = r) w w' → w'.heap.size = w.heap.size → K (.tuple #[.bool true, .int .i64 k, x]) w') : vnext P (.pointer (some ⟨r, 0, none⟩)) false ty w K := by
  obtain ⟨es, clock, seen, hb, hst, hk, hit, h1, h2, h3, h4⟩ := h
  have hold : ∀ x ∈ es.toList, x.born < clock := hst.1
  have hne : r ≠ b := fun e => by subst e; rw [hb] at hit; cases hit
  have hkey : ∀ k, k ∈ ks → ∃ e, e ∈ es.toList ∧ e.key = .int .i64 k := fun k hkk => by
    have : Value.int .i64 k ∈ es.toList.map (·.key) := by rw [hk]; exact List.mem_map_of_mem hkk
    obtain ⟨y, hy, e⟩ := List.mem_map.1 this
    exact ⟨y, hy, e⟩
  have hrun : ∀ {v : Value} {w' : World}, (∃ (L : Array MapEntry), L = leftOf es seen ∧
      ((L.size = 0 ∧ v = .tuple #[.bool false] ∧ w' = w) ∨ ∃ (j : Nat) (w1 : World) (e : MapEntry), L[j]? = some e ∧ (choose (Question.mapNext L.size)).run P w = .ok j w1 ∧ w1.heap = w.heap ∧ v = .tuple #[.bool true, e.key, e.val] ∧ w' = { w1 with heap := w.heap.setIfInBounds r (.mapIter (some b) clock (seen.push e.born) clock) })) →
      (Instr.next (.pointer (some ⟨r, 0, none⟩)) false ty).run P w = .ok v w' := by
    rintro v w' ⟨L, hL, hc⟩
    simp only [Instr.next, getObj, Sem.run_bind, Sem.run, hit, hb, Result.andThen, next_test_false seen es clock clock hold (Nat.le_refl _), Bool.false_eq_true, if_false]
    unfold leftOf at hL
    have hmem : ∀ x ∈ (Array.filter (fun e => !seen.contains e.born) es).toList, x.born < clock := fun x hx => hold x (by simp at hx ⊢; exact hx.1)
    rw [← hL] at hmem ⊢
    have e1 : L.filter (fun x => decide (x.born < clock)) = L := Array.filter_eq_self.2 (fun x hx => by simpa using hmem x (by simpa using hx))
    have e2 : L.filter (fun x => decide (x.born ≥ clock)) = #[] := by
      rw [Array.filter_eq_empty_iff]
      intro x hx
      have := hmem x (by simpa using hx)
      simp
      omega
    simp only [e1, e2, Array.append_empty]
    rcases hc with ⟨h0, rfl, rfl⟩ | ⟨j, w1, e, hj, hch, hh, rfl, rfl⟩
    · have : L = #[] := Array.eq_empty_of_size_eq_zero h0
      subst this
      simp [choose, Sem.run, Question.forced]
    · have hjl := (Array.getElem?_eq_some_iff.1 hj).1
      have hne' : L.isEmpty = false := by simp [Array.isEmpty, show L.size ≠ 0 by omega]
      simp only [hne', Bool.false_eq_true, if_false, Array.empty_append, Array.size_map]
      have hit1 : w1.heap[r]? = some (.mapIter (some b) clock seen clock) := by rw [hh]; exact hit
      have hset : ∀ o', (setObj r o').run P w1 = .ok () { w1 with heap := w.heap.setIfInBounds r o' } := fun o' => by
        simp only [setObj, Sem.run, hh, hit]
      simp only [hch, Array.getElem?_map, hj, Option.map_some, Sem.run_bind, hset, Result.andThen]
      rfl
  by_cases h0 : (leftOf es seen).size = 0
  · refine ⟨_, w, hrun ⟨_, rfl, .inl ⟨h0, rfl, rfl⟩⟩, hend fun k hkk => ?_⟩
    obtain ⟨e, he, hek⟩ := hkey k hkk
    obtain ⟨k', hk', e'⟩ := (h3 e he).1 (all_seen es seen h0 e he)
    rw [hek] at e'; cases e'; exact hk'
  · have hch : ∃ (j : Nat) (w1 : World), j < (leftOf es seen).size ∧ (w1 = w ∨ w1 = { w with drawn := w.drawn + 1 }) ∧ (choose (Question.mapNext (leftOf es seen).size)).run P w = .ok j w1 := by
      by_cases hf : (leftOf es seen).size ≤ 1
      · exact ⟨0, w, by omega, .inl rfl, by simp [choose, Sem.run, Question.forced, hf]⟩
      · exact ⟨_, _, Nat.mod_lt _ (by omega), .inr rfl, by
          simp only [choose, Sem.run, Question.forced, decide_eq_true_eq, hf, if_false, Question.cut]
          rfl⟩
    obtain ⟨j, w1, hj, hw1, hcr⟩ := hch
    have hget := Array.getElem?_eq_getElem hj
    generalize (leftOf es seen)[j] = e at hget
    have hin : e ∈ (leftOf es seen).toList := by simpa using Array.mem_of_getElem? hget
    obtain ⟨he, hns⟩ := mem_left hin
    obtain ⟨k, hkk, hek⟩ := iset_keys hk e he
    have hkd : k ∉ ds := fun h => by
      have := (h3 e he).2 ⟨k, h, hek⟩
      rw [hns] at this; cases this
    have hh : w1.heap = w.heap := by rcases hw1 with rfl | rfl <;> rfl
    refine ⟨_, _, hrun ⟨_, rfl, .inr ⟨j, w1, e, hget, hcr, hh, rfl, rfl⟩⟩, ?_⟩
    rw [hek]
    have hS : Same (· = r) w { w1 with heap := w.heap.setIfInBounds r (.mapIter (some b) clock (seen.push e.born) clock) } := by
      have := same_set (o' := .mapIter (some b) clock (seen.push e.born) clock) hit
      rcases hw1 with rfl | rfl
      · exact this
      · exact ⟨this.os, this.tape, this.output, this.size, this.block⟩
    refine hK k e.val _ hkk hkd ⟨es, clock, seen.push e.born, ?_, hst, hk, (heap_set hit).1, ?_, ?_, ?_, ?_⟩ hS (by simp)
    · exact ((heap_set hit).2 b (fun e => hne e.symm)).trans hb
    · rw [List.nodup_append]
      exact ⟨h1, by simp, fun a ha c hc e => by simp at hc; subst hc; subst e; exact hkd ha⟩
    · intro x hx
      rw [List.mem_append, List.mem_singleton] at hx
      rcases hx with hx | rfl
      · exact h2 x hx
      · exact hkk
    · intro e' he'
      rw [contains_push, Bool.or_eq_true, h3 e' he']
      constructor
      · rintro (⟨x, hx, hxe⟩ | hx)
        · exact ⟨x, List.mem_append_left _ hx, hxe⟩
        · have := born_inj hst.2.1 he' he (by simpa using hx)
          subst this
          exact ⟨k, by simp, hek⟩
      · rintro ⟨x, hx, hxe⟩
        rw [List.mem_append, List.mem_singleton] at hx
        rcases hx with hx | rfl
        · exact .inl ⟨x, hx, hxe⟩
        · right
          have : e' = e := by
            have hkn := hst.2.2
            have hp := List.pairwise_map.1 hkn
            exact (List.Pairwise.forall_of_forall_of_flip (R := fun x y => x.key = y.key → x = y) (by simp) (hp.imp fun h e => absurd e h) (hp.imp fun h e => absurd e.symm h)) he' he (by rw [hxe, hek])
          subst this; simp
    · rintro ds' k' hds
      have := List.append_inj' hds rfl
      have e2 : k = k' := by simpa using this.2
      subst e2
      exact ⟨e, he, hek, seen, rfl⟩
end
end Go.Vc
