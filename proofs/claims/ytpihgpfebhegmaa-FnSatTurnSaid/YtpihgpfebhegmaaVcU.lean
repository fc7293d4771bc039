/- Owned slices of elements of one cell: append of one, writing, cutting, making. -/
import Derived.Test.YtpihgpfebhegmaaVcT
import Derived.Laws.OwnMore
import Derived.Laws.Slices
set_option linter.unusedVariables false
set_option linter.unusedSimpArgs false
set_option linter.unnecessarySimpa false
set_option linter.unusedSectionVars false
namespace Go.Vc
open Go

def OwnV (P : Program) (t : TypeId) (w : World) (v : Value) (vs : List Value) : Prop := Own P 0 1 t w v (vs.map fun x => [x])
def OwnI (P : Program) (t : TypeId) (w : World) (v : Value) (xs : List Int) : Prop := OwnV P t w v (xs.map fun x => .int .i64 x)
def OwnB (P : Program) (t : TypeId) (w : World) (v : Value) (xs : List Bool) : Prop := OwnV P t w v (xs.map fun x => .bool x)

section
variable {P : Program} {t : TypeId} {w w' : World} {v : Value} {vs : List Value} {xs : List Int} {bs : List Bool} {K : Value → World → Prop} {F S : Nat → Prop}

theorem OwnV.nil : OwnV P t w (.slice none 0 0) [] := Own.nil P 0 1 t w
theorem OwnI.nil : OwnI P t w (.slice none 0 0) [] := OwnV.nil
theorem OwnB.nil : OwnB P t w (.slice none 0 0) [] := OwnV.nil
theorem OwnV.lt (h : OwnV P t w v vs) {b : Nat} (hb : v.ownBlock = some b) : b < w.heap.size := (Own.lt h hb).2
theorem OwnI.lt (h : OwnI P t w v xs) {b : Nat} (hb : v.ownBlock = some b) : b < w.heap.size := OwnV.lt h hb
theorem OwnB.lt (h : OwnB P t w v bs) {b : Nat} (hb : v.ownBlock = some b) : b < w.heap.size := OwnV.lt h hb
theorem OwnV.same (h : OwnV P t w v vs) (hw : Same S w w') (hs : ∀ b, v.ownBlock = some b → ¬ S b) : OwnV P t w' v vs := Own.same h hw hs
theorem OwnI.same (h : OwnI P t w v xs) (hw : Same S w w') (hs : ∀ b, v.ownBlock = some b → ¬ S b) : OwnI P t w' v xs := OwnV.same h hw hs
theorem OwnB.same (h : OwnB P t w v bs) (hw : Same S w w') (hs : ∀ b, v.ownBlock = some b → ¬ S b) : OwnB P t w' v bs := OwnV.same h hw hs
theorem OwnV.ext (h : OwnV P t w v vs) (hw : Ext w w') : OwnV P t w' v vs := Own.ext h hw
theorem OwnI.ext (h : OwnI P t w v xs) (hw : Ext w w') : OwnI P t w' v xs := OwnV.ext h hw
theorem OwnB.ext (h : OwnB P t w v bs) (hw : Ext w w') : OwnB P t w' v bs := OwnV.ext h hw
theorem OwnV.vals (h : OwnV P t w v vs) : Vals (fun b => v.ownBlock = some b) w v vs := Own.sl h
theorem OwnI.ints (h : OwnI P t w v xs) : Ints (fun b => v.ownBlock = some b) w v xs := OwnV.vals h
theorem OwnB.bools (h : OwnB P t w v bs) : Bools (fun b => v.ownBlock = some b) w v bs := OwnV.vals h
theorem OwnV.small (h : OwnV P t w v vs) : vs.length ≤ 9223372036854775807 := by
  obtain ⟨_, _, _, h1, h2, _⟩ := h.vals.shape; simp at h1; omega
theorem OwnI.small (h : OwnI P t w v xs) : xs.length ≤ 9223372036854775807 := by have := OwnV.small h; simpa using this

/-- `append(v, y...)`, the elements of one cell. -/
theorem OwnV.app {bs ty : Nat} {y : Value} {us : List Value} (h : OwnV P t w v vs) (hT : elZ P t 1 bs = true) (hs : Vals F w y us) (hone : ∀ u, u ∈ us → u.oneCell' = true)
    (h63 : vs.length + us.length ≤ 9223372036854775807) (hlen : (vs.length + us.length) * bs ≤ 140737488355328)
    (hK : ∀ v' w', OwnV P t w' v' (vs ++ us) → Same (fun b => v.ownBlock = some b) w w' → (∀ b, v'.ownBlock = some b → v.ownBlock = some b ∨ w.heap.size ≤ b) → K v' w') : vbi P .append [t, t] ty [v, y] w K := by
  refine vappend hT (by decide) h hs (fun y hy c hc => ?_) (by omega) (by simpa using h63) (by simpa using hlen) fun v' w' h1 h2 h3 => hK v' w' ?_ h2 h3
  · obtain ⟨u, hu, rfl⟩ := List.mem_map.1 hy
    rw [List.mem_singleton] at hc
    subst hc; exact hone _ hu
  · unfold OwnV; rw [List.map_append]; exact h1
/-- `append(v, x)`: the literal lies in its own block. -/
theorem OwnV.app1 {bs ty b : Nat} {x : Value} {e : TypeId} (h : OwnV P t w v vs) (hT : elZ P t 1 bs = true) (hb : Blk w b [x] e) (hone : x.oneCell' = true)
    (h63 : vs.length < 9223372036854775807) (hlen : (vs.length + 1) * bs ≤ 140737488355328)
    (hK : ∀ v' w', OwnV P t w' v' (vs ++ [x]) → Same (fun b => v.ownBlock = some b) w w' → (∀ b, v'.ownBlock = some b → v.ownBlock = some b ∨ w.heap.size ≤ b) → K v' w') : vbi P .append [t, t] ty [v, .slice (some ⟨b, 0, none⟩) 1 1] w K :=
  h.app hT (F := (· = b)) (us := [x]) (hb.sl1 rfl (by omega)) (by simpa using hone) (by simp; omega) (by simpa using hlen) hK
theorem OwnI.app1 {bs ty b : Nat} {x : Int} {e : TypeId} (h : OwnI P t w v xs) (hT : elZ P t 1 bs = true) (hb : Blk w b [.int .i64 x] e)
    (h63 : xs.length < 9223372036854775807) (hlen : (xs.length + 1) * bs ≤ 140737488355328)
    (hK : ∀ v' w', OwnI P t w' v' (xs ++ [x]) → Same (fun b => v.ownBlock = some b) w w' → (∀ b, v'.ownBlock = some b → v.ownBlock = some b ∨ w.heap.size ≤ b) → K v' w') : vbi P .append [t, t] ty [v, .slice (some ⟨b, 0, none⟩) 1 1] w K :=
  OwnV.app1 h hT hb rfl (by simpa using h63) (by simpa using hlen) fun v' w' h1 => hK v' w' (by unfold OwnI; rw [List.map_append]; exact h1)
theorem OwnB.app1 {z ty b : Nat} {x : Bool} {e : TypeId} (h : OwnB P t w v bs) (hT : elZ P t 1 z = true) (hb : Blk w b [.bool x] e)
    (h63 : bs.length < 9223372036854775807) (hlen : (bs.length + 1) * z ≤ 140737488355328)
    (hK : ∀ v' w', OwnB P t w' v' (bs ++ [x]) → Same (fun b => v.ownBlock = some b) w w' → (∀ b, v'.ownBlock = some b → v.ownBlock = some b ∨ w.heap.size ≤ b) → K v' w') : vbi P .append [t, t] ty [v, .slice (some ⟨b, 0, none⟩) 1 1] w K :=
  OwnV.app1 h hT hb rfl (by simpa using h63) (by simpa using hlen) fun v' w' h1 => hK v' w' (by unfold OwnB; rw [List.map_append]; exact h1)
theorem OwnI.app {bs ty : Nat} {y : Value} {ys : List Int} (h : OwnI P t w v xs) (hT : elZ P t 1 bs = true) (hs : Ints F w y ys)
    (h63 : xs.length + ys.length ≤ 9223372036854775807) (hlen : (xs.length + ys.length) * bs ≤ 140737488355328)
    (hK : ∀ v' w', OwnI P t w' v' (xs ++ ys) → Same (fun b => v.ownBlock = some b) w w' → (∀ b, v'.ownBlock = some b → v.ownBlock = some b ∨ w.heap.size ≤ b) → K v' w') : vbi P .append [t, t] ty [v, y] w K :=
  OwnV.app h hT hs (by simp [Value.oneCell']) (by simpa using h63) (by simpa using hlen) fun v' w' h1 => hK v' w' (by unfold OwnI; rw [List.map_append]; exact h1)

/-- One element is written. -/
theorem OwnV.st (h : OwnV P t w v vs) {e : TypeId} {x : Value} (hv : x.cells = #[x]) (h1 : x.oneCell' = true) (hz : sizeB P e 1 = true) {i : Nat} (hi : i < vs.length)
    (hK : ∀ w', OwnV P t w' v (vs.set i x) → Same (fun b => v.ownBlock = some b) w w' → w'.heap.size = w.heap.size → K undef w') : vstore P e (.pointer (some (eaddr v 1 i))) x w K := by
  rcases h.row.2 with ⟨rfl, hn⟩ | ⟨g, cap, cur, rfl, hbg, hg, hnc, hcm, hcs, htake⟩
  · rw [List.length_map] at hn; omega
  · have hrow := h.row
    have hi' : i < (vs.map fun x => [x]).length * 1 := by simpa using hi
    have hc := World.ownsRow.cellAt hrow i hi'
    have hf := World.ownsRow.frozenAt hrow i
    obtain ⟨hs1, hs2⟩ := World.ownsRow.stored hrow i x
    have hcell : w.cell? ⟨g, i, none⟩ = some (vs.getD i undef) := by rw [hc, flat1]; simp [List.getD_eq_getElem?_getD, hi]
    have ha : (⟨g, i, none⟩ : Addr).add 0 = ⟨g, i, none⟩ := rfl
    have he : eaddr (.slice (some ⟨g, 0, none⟩) (vs.map fun x => [x]).length cap) 1 i = ⟨g, i, none⟩ := by
      simp only [eaddr]; simp
    rw [he]
    refine ⟨(), w.setCell ⟨g, i, none⟩ x, ?_, hK _ ?_ (Same.of_grown hs2) (by simp)⟩
    · simp only [Instr.storeAt, Instr.sureAddr, Sem.run_bind, Sem.run_pure, Result.andThen_ok, storeVar, run_sizeOf hz, hv]
      cases x <;> first | (cases h1; done) | simp [storeCells, store, Sem.run, ha, hcell, hf]
    · refine ⟨?_, fun y hy => by obtain ⟨u, _, rfl⟩ := List.mem_map.1 hy; rfl⟩
      rw [flat1] at hs1
      have e2 : ((vs.set i x).map fun x => [x]).flatten = vs.set i x := flat1 _
      rw [e2]
      simpa using hs1
theorem OwnI.st (h : OwnI P t w v xs) {e : TypeId} {x : Int} (hz : sizeB P e 1 = true) {i : Nat} (hi : i < xs.length)
    (hK : ∀ w', OwnI P t w' v (xs.set i x) → Same (fun b => v.ownBlock = some b) w w' → w'.heap.size = w.heap.size → K undef w') : vstore P e (.pointer (some (eaddr v 1 i))) (.int .i64 x) w K :=
  OwnV.st h rfl rfl hz (by simpa using hi) fun w' h1 => hK w' (by unfold OwnI; rw [List.map_set]; exact h1)
theorem OwnB.st (h : OwnB P t w v bs) {e : TypeId} {x : Bool} (hz : sizeB P e 1 = true) {i : Nat} (hi : i < bs.length)
    (hK : ∀ w', OwnB P t w' v (bs.set i x) → Same (fun b => v.ownBlock = some b) w w' → w'.heap.size = w.heap.size → K undef w') : vstore P e (.pointer (some (eaddr v 1 i))) (.bool x) w K :=
  OwnV.st h rfl rfl hz (by simpa using hi) fun w' h1 => hK w' (by unfold OwnB; rw [List.map_set]; exact h1)

theorem elB_el {k : Nat} (h : elB P t k = true) : P.underlying t = some (.slice (P.elem t)) ∧ sizeB P (P.elem t) k = true := by
  obtain ⟨e, hu, hs⟩ := elB_eq h
  have : P.elem t = e := by simp [Program.elem, hu]
  rw [this]; exact ⟨hu, hs⟩

/-- `v[:n]`. -/
def cutV (v : Value) (n : Nat) : Value := match v with
  | .slice a _ c => .slice a n c
  | x => x
theorem Sl.cut {k : Nat} {v : Value} {xs : List (List Value)} (h : Sl F w k v xs) (hx : ∀ a l c, v = .slice (some a) l c → ∃ b o, a = ⟨b, o, none⟩) (ht : elB P t k = true) {kd : IntKind} {n : Nat} (hn : n ≤ xs.length) :
    vslice P t v none (some (.int kd n)) none w' K = K (cutV v n) w' := by
  obtain ⟨hu, hs⟩ := elB_el ht
  obtain ⟨a, c, rfl, hc, hcm, hcell⟩ := h.shape
  refine vrun_eq ?_
  rw [run_sliceAt_slice w' t _ _ _ _ hu, run_slice_h w' t _ _ _ hu kd n (by omega) (by omega), run_sizeOf hs]
  cases a with
  | none => simp [Result.andThen, sliced, cutV]
  | some a =>
    obtain ⟨b, o, rfl⟩ := hx _ _ _ rfl
    simp [Result.andThen, sliced, cutV]
    exact fun _ => rfl
theorem OwnV.cut (h : OwnV P t w v vs) (ht : elB P t 1 = true) {kd : IntKind} {n : Nat} (hn : n ≤ vs.length) : vslice P t v none (some (.int kd n)) none w' K = K (cutV v n) w' := by
  refine Sl.cut h.vals ?_ ht (by simpa using hn)
  rintro a l c e
  rcases h.row.2 with ⟨rfl, hz⟩ | ⟨g, cap, cur, rfl, hbg, hg, hnc, hcm, hcs, htake⟩
  · cases e
  · injection e with e1 e2 e3
    injection e1 with e1
    exact ⟨g, 0, e1.symm⟩
theorem cutV_own (v : Value) (n : Nat) : (cutV v n).ownBlock = v.ownBlock := by
  unfold cutV
  split
  · rename_i a l c
    cases a <;> rfl
  · rfl
theorem OwnV.taken (h : OwnV P t w v vs) {n : Nat} (hn : n ≤ vs.length) : OwnV P t w (cutV v n) (vs.take n) := by
  rcases h.row.2 with ⟨rfl, hz⟩ | ⟨g, cap, cur, rfl, hbg, hg, hnc, hcm, hcs, htake⟩
  · rw [List.length_map] at hz
    have : n = 0 := by omega
    subst this
    rw [List.take_zero]; exact OwnV.nil
  · refine ⟨⟨by rw [flat1, List.length_map, Nat.mul_one], .inr ⟨g, cap, cur, by simp [cutV, Nat.min_eq_left hn], hbg, hg, ?_, hcm, hcs, ?_⟩⟩, fun y hy => by obtain ⟨u, _, rfl⟩ := List.mem_map.1 hy; rfl⟩
    · rw [List.length_map] at hnc ⊢; simp; omega
    · have e1 := htake
      rw [flat1] at e1 ⊢
      rw [List.length_map] at e1
      simp only [List.length_map, List.length_take, Nat.min_eq_left hn, Nat.mul_one] at e1 ⊢
      rw [← e1, List.take_take, Nat.min_eq_left hn]
theorem OwnI.cut (h : OwnI P t w v xs) (ht : elB P t 1 = true) {kd : IntKind} {n : Nat} (hn : n ≤ xs.length) : vslice P t v none (some (.int kd n)) none w' K = K (cutV v n) w' :=
  OwnV.cut h ht (by simpa using hn)
theorem OwnI.taken (h : OwnI P t w v xs) {n : Nat} (hn : n ≤ xs.length) : OwnI P t w (cutV v n) (xs.take n) := by
  unfold OwnI; rw [List.map_take]; exact OwnV.taken h (by simpa using hn)

/-- `make([]T, n)`. -/
theorem vmkS_own {bs n : Nat} {z : Value} {k1 k2 : IntKind} {e : TypeId} (hT : elZ P t 1 bs = true) (he : elOf P t = e) (hz : zeroB P e z) (hzc : z.cells = #[z]) (h48 : bs * n ≤ 281474976710656) (h63 : n ≤ 9223372036854775807)
    (hK : ∀ v' w', OwnV P t w' v' (List.replicate n z) → Ext w w' → (∀ b, v'.ownBlock = some b → w.heap.size ≤ b) → K v' w') : vmkS P t (.int k1 n) (.int k2 n) w K := by
  obtain ⟨hu, i, z', hi, hz', hsz, hby, hzs⟩ := elZ_eq hT
  subst he
  have : z' = z := by
    unfold zeroB at hz; rw [hi] at hz; simp only [hz', Option.some.injEq] at hz; exact hz
  subst this
  subst hby
  obtain ⟨w', hr, hown, hgr⟩ := run_make_full (P := P) w 0 t (elOf P t) i z' 1 hu hi hz' hsz k1 k2 n h48 (by simpa [maxLen] using h63) (by omega)
  refine ⟨_, w', hr, hK _ w' ?_ ((Same.of_grown hgr).mono fun _ _ h => by cases h) fun b hb => by cases hb; exact Nat.le_refl _⟩
  have e : (madeCells z'.cells (n * 1)).toList = List.replicate n z' := by
    refine List.ext_getElem (by simp [madeCells]) fun j h1 h2 => ?_
    simp [madeCells, hzc, Nat.mod_one]
  rw [e] at hown
  refine ⟨?_, by simp⟩
  rw [flat1]; simpa using hown
end
end Go.Vc
