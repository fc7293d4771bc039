import Derived.Test.YtcfgmgjofmbfhaaGreatDoorWslP1
import Derived.Laws.OwnMore
import Derived.Laws.Slices
import Derived.Laws.Tables
import Derived.Laws.Cover3
import Derived.Laws.CopyRow
import Derived.MapKept
import Derived.Laws.IdiomRangeMap
import Derived.Laws.Small
import Derived.Laws.Entries
import Derived.Laws.Strings2
import Derived.Laws.Concat
import Derived.Laws.StructEq
import Derived.Laws.Shifts
import Derived.Laws.Build
import Derived.RangeFuncRecord
import Derived.Below
/- A part of the proof: VcU, VcV, VcW, VcX, VcY, VcF, M20, M21, VcZ. -/
set_option linter.unusedVariables false
set_option linter.unusedSimpArgs false
set_option linter.unnecessarySimpa false
set_option linter.unusedSectionVars false
section
namespace Go.Vc
open Go
def OwnV (P : Program) (t : TypeId) (w : World) (v : Value) (vs : List Value) : Prop := Own P 0 1 t w v (vs.map fun x => [x])
def OwnI (P : Program) (t : TypeId) (w : World) (v : Value) (xs : List Int) : Prop := OwnV P t w v (xs.map fun x => .int .i64 x)
def OwnB (P : Program) (t : TypeId) (w : World) (v : Value) (xs : List Bool) : Prop := OwnV P t w v (xs.map fun x => .bool x)
section
variable {P : Program} {t : TypeId} {w w' : World} {v : Value} {vs : List Value} {xs : List Int} {bs : List Bool} {K : Value → World → Prop} {F S : Nat → Prop}
theorem OwnV.nil : OwnV P t w (.slice none 0 0) [] := Own.nil P 0 1 t w
theorem OwnI.nil : OwnI P t w (.slice none 0 0) [] := OwnV.nil
theorem OwnB.nil : OwnB P t w (.slice none 0 0) [] := OwnV.nil
theorem OwnV.lt (h : OwnV P t w v vs) {b : Nat} (hb : v.ownBlock = some b) : b < w.heap.size := (Own.lt h hb).2
theorem OwnI.lt (h : OwnI P t w v xs) {b : Nat} (hb : v.ownBlock = some b) : b < w.heap.size := OwnV.lt h hb
theorem OwnB.lt (h : OwnB P t w v bs) {b : Nat} (hb : v.ownBlock = some b) : b < w.heap.size := OwnV.lt h hb
theorem OwnV.same (h : OwnV P t w v vs) (hw : Same S w w') (hs : ∀ b, v.ownBlock = some b → ¬ S b) : OwnV P t w' v vs := Own.same h hw hs
theorem OwnI.same (h : OwnI P t w v xs) (hw : Same S w w') (hs : ∀ b, v.ownBlock = some b → ¬ S b) : OwnI P t w' v xs := OwnV.same h hw hs
theorem OwnB.same (h : OwnB P t w v bs) (hw : Same S w w') (hs : ∀ b, v.ownBlock = some b → ¬ S b) : OwnB P t w' v bs := OwnV.same h hw hs
theorem OwnV.ext (h : OwnV P t w v vs) (hw : Ext w w') : OwnV P t w' v vs := Own.ext h hw
theorem OwnI.ext (h : OwnI P t w v xs) (hw : Ext w w') : OwnI P t w' v xs := OwnV.ext h hw
theorem OwnB.ext (h : OwnB P t w v bs) (hw : Ext w w') : OwnB P t w' v bs := OwnV.ext h hw
theorem OwnV.vals (h : OwnV P t w v vs) : Vals (fun b => v.ownBlock = some b) w v vs := Own.sl h
theorem OwnI.ints (h : OwnI P t w v xs) : Ints (fun b => v.ownBlock = some b) w v xs := OwnV.vals h
theorem OwnV.small (h : OwnV P t w v vs) : vs.length ≤ 9223372036854775807 := by
  obtain ⟨_, _, _, h1, h2, _⟩ := h.vals.shape; simp at h1; omega
theorem OwnI.small (h : OwnI P t w v xs) : xs.length ≤ 9223372036854775807 := by have := OwnV.small h; simpa using this
theorem OwnV.app {bs ty : Nat} {y : Value} {us : List Value} (h : OwnV P t w v vs) (hT : elZ P t 1 bs = true) (hs : Vals F w y us) (hone : ∀ u, u ∈ us → u.oneCell' = true)
    (h63 : vs.length + us.length ≤ 9223372036854775807) (hlen : (vs.length + us.length) * bs ≤ 140737488355328)
    (hK : ∀ v' w', OwnV P t w' v' (vs ++ us) → Same (fun b => v.ownBlock = some b) w w' → (∀ b, v'.ownBlock = some b → v.ownBlock = some b ∨ w.heap.size ≤ b) → K v' w') : vbi P .append [t, t] ty [v, y] w K := by
  refine vappend hT (by decide) h hs (fun y hy c hc => ?_) (by omega) (by simpa using h63) (by simpa using hlen) fun v' w' h1 h2 h3 => hK v' w' ?_ h2 h3
  · obtain ⟨u, hu, rfl⟩ := List.mem_map.1 hy
    rw [List.mem_singleton] at hc
    subst hc; exact hone _ hu
  · unfold OwnV; rw [List.map_append]; exact h1
theorem OwnV.app1 {bs ty b : Nat} {x : Value} {e : TypeId} (h : OwnV P t w v vs) (hT : elZ P t 1 bs = true) (hb : Blk w b [x] e) (hone : x.oneCell' = true)
    (h63 : vs.length < 9223372036854775807) (hlen : (vs.length + 1) * bs ≤ 140737488355328)
    (hK : ∀ v' w', OwnV P t w' v' (vs ++ [x]) → Same (fun b => v.ownBlock = some b) w w' → (∀ b, v'.ownBlock = some b → v.ownBlock = some b ∨ w.heap.size ≤ b) → K v' w') : vbi P .append [t, t] ty [v, .slice (some ⟨b, 0, none⟩) 1 1] w K :=
  h.app hT (F := (· = b)) (us := [x]) (hb.sl1 rfl (by omega)) (by simpa using hone) (by simp; omega) (by simpa using hlen) hK
theorem OwnI.app1 {bs ty b : Nat} {x : Int} {e : TypeId} (h : OwnI P t w v xs) (hT : elZ P t 1 bs = true) (hb : Blk w b [.int .i64 x] e)
    (h63 : xs.length < 9223372036854775807) (hlen : (xs.length + 1) * bs ≤ 140737488355328)
    (hK : ∀ v' w', OwnI P t w' v' (xs ++ [x]) → Same (fun b => v.ownBlock = some b) w w' → (∀ b, v'.ownBlock = some b → v.ownBlock = some b ∨ w.heap.size ≤ b) → K v' w') : vbi P .append [t, t] ty [v, .slice (some ⟨b, 0, none⟩) 1 1] w K :=
  OwnV.app1 h hT hb rfl (by simpa using h63) (by simpa using hlen) fun v' w' h1 => hK v' w' (by unfold OwnI; rw [List.map_append]; exact h1)
theorem OwnB.app1 {z ty b : Nat} {x : Bool} {e : TypeId} (h : OwnB P t w v bs) (hT : elZ P t 1 z = true) (hb : Blk w b [.bool x] e)
    (h63 : bs.length < 9223372036854775807) (hlen : (bs.length + 1) * z ≤ 140737488355328)
    (hK : ∀ v' w', OwnB P t w' v' (bs ++ [x]) → Same (fun b => v.ownBlock = some b) w w' → (∀ b, v'.ownBlock = some b → v.ownBlock = some b ∨ w.heap.size ≤ b) → K v' w') : vbi P .append [t, t] ty [v, .slice (some ⟨b, 0, none⟩) 1 1] w K :=
  OwnV.app1 h hT hb rfl (by simpa using h63) (by simpa using hlen) fun v' w' h1 => hK v' w' (by unfold OwnB; rw [List.map_append]; exact h1)
theorem OwnI.app {bs ty : Nat} {y : Value} {ys : List Int} (h : OwnI P t w v xs) (hT : elZ P t 1 bs = true) (hs : Ints F w y ys)
    (h63 : xs.length + ys.length ≤ 9223372036854775807) (hlen : (xs.length + ys.length) * bs ≤ 140737488355328)
    (hK : ∀ v' w', OwnI P t w' v' (xs ++ ys) → Same (fun b => v.ownBlock = some b) w w' → (∀ b, v'.ownBlock = some b → v.ownBlock = some b ∨ w.heap.size ≤ b) → K v' w') : vbi P .append [t, t] ty [v, y] w K :=
  OwnV.app h hT hs (by simp [Value.oneCell']) (by simpa using h63) (by simpa using hlen) fun v' w' h1 => hK v' w' (by unfold OwnI; rw [List.map_append]; exact h1)
theorem OwnV.st (h : OwnV P t w v vs) {e : TypeId} {x : Value} (hv : x.cells = #[x]) (h1 : x.oneCell' = true) (hz : sizeB P e 1 = true) {i : Nat} (hi : i < vs.length)
    (hK : ∀ w', OwnV P t w' v (vs.set i x) → Same (fun b => v.ownBlock = some b) w w' → w'.heap.size = w.heap.size → K undef w') : vstore P e (.pointer (some (eaddr v 1 i))) x w K := by
  rcases h.row.2 with ⟨rfl, hn⟩ | ⟨g, cap, cur, rfl, hbg, hg, hnc, hcm, hcs, htake⟩
  · rw [List.length_map] at hn; omega
  · have hrow := h.row
    have hi' : i < (vs.map fun x => [x]).length * 1 := by simpa using hi
    have hc := World.ownsRow.cellAt hrow i hi'
    have hf := World.ownsRow.frozenAt hrow i
    obtain ⟨hs1, hs2⟩ := World.ownsRow.stored hrow i x
    have hcell : w.cell? ⟨g, i, none⟩ = some (vs.getD i undef) := by rw [hc, flat1]; simp [List.getD_eq_getElem?_getD, hi]
    have ha : (⟨g, i, none⟩ : Addr).add 0 = ⟨g, i, none⟩ := rfl
    have he : eaddr (.slice (some ⟨g, 0, none⟩) (vs.map fun x => [x]).length cap) 1 i = ⟨g, i, none⟩ := by
      simp only [eaddr]; simp
    rw [he]
    refine ⟨(), w.setCell ⟨g, i, none⟩ x, ?_, hK _ ?_ (Same.of_grown hs2) (by simp)⟩
    · simp only [Instr.storeAt, Instr.sureAddr, Sem.run_bind, Sem.run_pure, Result.andThen_ok, storeVar, run_sizeOf hz, hv]
      cases x <;> first | (cases h1; done) | simp [storeCells, store, Sem.run, ha, hcell, hf]
    · refine ⟨?_, fun y hy => by obtain ⟨u, _, rfl⟩ := List.mem_map.1 hy; rfl⟩
      rw [flat1] at hs1
      have e2 : ((vs.set i x).map fun x => [x]).flatten = vs.set i x := flat1 _
      rw [e2]
      simpa using hs1
theorem OwnI.st (h : OwnI P t w v xs) {e : TypeId} {x : Int} (hz : sizeB P e 1 = true) {i : Nat} (hi : i < xs.length)
    (hK : ∀ w', OwnI P t w' v (xs.set i x) → Same (fun b => v.ownBlock = some b) w w' → w'.heap.size = w.heap.size → K undef w') : vstore P e (.pointer (some (eaddr v 1 i))) (.int .i64 x) w K :=
  OwnV.st h rfl rfl hz (by simpa using hi) fun w' h1 => hK w' (by unfold OwnI; rw [List.map_set]; exact h1)
theorem OwnB.st (h : OwnB P t w v bs) {e : TypeId} {x : Bool} (hz : sizeB P e 1 = true) {i : Nat} (hi : i < bs.length)
    (hK : ∀ w', OwnB P t w' v (bs.set i x) → Same (fun b => v.ownBlock = some b) w w' → w'.heap.size = w.heap.size → K undef w') : vstore P e (.pointer (some (eaddr v 1 i))) (.bool x) w K :=
  OwnV.st h rfl rfl hz (by simpa using hi) fun w' h1 => hK w' (by unfold OwnB; rw [List.map_set]; exact h1)
theorem elB_el {k : Nat} (h : elB P t k = true) : P.underlying t = some (.slice (P.elem t)) ∧ sizeB P (P.elem t) k = true := by
  obtain ⟨e, hu, hs⟩ := elB_eq h
  have : P.elem t = e := by simp [Program.elem, hu]
  rw [this]; exact ⟨hu, hs⟩
def cutV (v : Value) (n : Nat) : Value := match v with
  | .slice a _ c => .slice a n c
  | x => x
theorem Sl.cut {k : Nat} {v : Value} {xs : List (List Value)} (h : Sl F w k v xs) (hx : ∀ a l c, v = .slice (some a) l c → ∃ b o, a = ⟨b, o, none⟩) (ht : elB P t k = true) {kd : IntKind} {n : Nat} (hn : n ≤ xs.length) :
    vslice P t v none (some (.int kd n)) none w' K = K (cutV v n) w' := by
  obtain ⟨hu, hs⟩ := elB_el ht
  obtain ⟨a, c, rfl, hc, hcm, hcell⟩ := h.shape
  refine vrun_eq ?_
  rw [run_sliceAt_slice w' t _ _ _ _ hu, run_slice_h w' t _ _ _ hu kd n (by omega) (by omega), run_sizeOf hs]
  cases a with
  | none => simp [Result.andThen, sliced, cutV]
  | some a =>
    obtain ⟨b, o, rfl⟩ := hx _ _ _ rfl
    simp [Result.andThen, sliced, cutV]
    exact fun _ => rfl
theorem OwnV.cut (h : OwnV P t w v vs) (ht : elB P t 1 = true) {kd : IntKind} {n : Nat} (hn : n ≤ vs.length) : vslice P t v none (some (.int kd n)) none w' K = K (cutV v n) w' := by
  refine Sl.cut h.vals ?_ ht (by simpa using hn)
  rintro a l c e
  rcases h.row.2 with ⟨rfl, hz⟩ | ⟨g, cap, cur, rfl, hbg, hg, hnc, hcm, hcs, htake⟩
  · cases e
  · injection e with e1 e2 e3
    injection e1 with e1
    exact ⟨g, 0, e1.symm⟩
theorem OwnV.taken (h : OwnV P t w v vs) {n : Nat} (hn : n ≤ vs.length) : OwnV P t w (cutV v n) (vs.take n) := by
  rcases h.row.2 with ⟨rfl, hz⟩ | ⟨g, cap, cur, rfl, hbg, hg, hnc, hcm, hcs, htake⟩
  · rw [List.length_map] at hz
    have : n = 0 := by omega
    subst this
    rw [List.take_zero]; exact OwnV.nil
  · refine ⟨⟨by rw [flat1, List.length_map, Nat.mul_one], .inr ⟨g, cap, cur, by simp [cutV, Nat.min_eq_left hn], hbg, hg, ?_, hcm, hcs, ?_⟩⟩, fun y hy => by obtain ⟨u, _, rfl⟩ := List.mem_map.1 hy; rfl⟩
    · rw [List.length_map] at hnc ⊢; simp; omega
    · have e1 := htake
      rw [flat1] at e1 ⊢
      rw [List.length_map] at e1
      simp only [List.length_map, List.length_take, Nat.min_eq_left hn, Nat.mul_one] at e1 ⊢
      rw [← e1, List.take_take, Nat.min_eq_left hn]
theorem OwnI.cut (h : OwnI P t w v xs) (ht : elB P t 1 = true) {kd : IntKind} {n : Nat} (hn : n ≤ xs.length) : vslice P t v none (some (.int kd n)) none w' K = K (cutV v n) w' :=
  OwnV.cut h ht (by simpa using hn)
theorem OwnI.taken (h : OwnI P t w v xs) {n : Nat} (hn : n ≤ xs.length) : OwnI P t w (cutV v n) (xs.take n) := by
  unfold OwnI; rw [List.map_take]; exact OwnV.taken h (by simpa using hn)
theorem vmkS_own {bs n : Nat} {z : Value} {k1 k2 : IntKind} {e : TypeId} (hT : elZ P t 1 bs = true) (he : elOf P t = e) (hz : zeroB P e z) (hzc : z.cells = #[z]) (h48 : bs * n ≤ 281474976710656) (h63 : n ≤ 9223372036854775807)
    (hK : ∀ v' w', OwnV P t w' v' (List.replicate n z) → Ext w w' → (∀ b, v'.ownBlock = some b → w.heap.size ≤ b) → K v' w') : vmkS P t (.int k1 n) (.int k2 n) w K := by
  obtain ⟨hu, i, z', hi, hz', hsz, hby, hzs⟩ := elZ_eq hT
  subst he
  have : z' = z := by
    unfold zeroB at hz; rw [hi] at hz; simp only [hz', Option.some.injEq] at hz; exact hz
  subst this
  subst hby
  obtain ⟨w', hr, hown, hgr⟩ := run_make_full (P := P) w 0 t (elOf P t) i z' 1 hu hi hz' hsz k1 k2 n h48 (by simpa [maxLen] using h63) (by omega)
  refine ⟨_, w', hr, hK _ w' ?_ ((Same.of_grown hgr).mono fun _ _ h => by cases h) fun b hb => by cases hb; exact Nat.le_refl _⟩
  have e : (madeCells z'.cells (n * 1)).toList = List.replicate n z' := by
    refine List.ext_getElem (by simp [madeCells]) fun j h1 h2 => ?_
    simp [madeCells, hzc, Nat.mod_one]
  rw [e] at hown
  refine ⟨?_, by simp⟩
  rw [flat1]; simpa using hown
end
end Go.Vc
end
section
namespace Go.Vc
open Go
def strF (P : Program) (t : TypeId) : Option (List (Nat × Nat) × List Value) :=
  match P.underlying t, P.info? t with
  | some (.struct fs), some i =>
    match fs.toList.mapM (fun f => (P.info? f.type).map fun j => (f.offset, j.size)), i.zero with
    | some pl, some z => some (pl, z.cells.toList)
    | _, _ => none
  | _, _ => none
def setL (cs : List Value) (o : Nat) : List Value → List Value
  | [] => cs
  | c :: r => setL (cs.set o c) (o + 1) r
def fillC (pl : List (Nat × Nat)) (cs : List Value) : List Nat → List (List Value) → Option (List Value)
  | [], [] => some cs
  | i :: is, u :: us =>
    match pl[i]? with
    | none => none
    | some (o, s) => if Nat.beq u.length s && Nat.ble (o + s) cs.length then fillC pl (setL cs o u) is us else none
  | _, _ => none
section
variable {P : Program} {t : TypeId} {w : World} {K : Value → World → Prop}
theorem foldl_set (us : List Value) : ∀ (cs : List Value) (o k : Nat), ((us.zipIdx k).foldl (fun (cs : Array Value) (c, j) => cs.setIfInBounds (o + j) c) ⟨cs⟩) = ⟨setL cs (o + k) us⟩ := by
  induction us with
  | nil => intro cs o k; rfl
  | cons u r ih =>
    intro cs o k
    rw [List.zipIdx_cons, List.foldl_cons]
    simp only [List.setIfInBounds_toArray, setL]
    rw [ih, Nat.add_assoc]
theorem fill_eq {pl : List (Nat × Nat)} : ∀ {ps : List (Nat × Value)} {us : List (List Value)} {zs cs : List Value}, ps.map (fun p => p.2.cells) = us.map List.toArray → fillC pl zs (ps.map (·.1)) us = some cs →
    Instr.fill (pl.toArray[·]?) ⟨zs⟩ ps = some ⟨cs⟩
  | [], [], zs, cs, _, h => by simp only [List.map_nil, fillC, Option.some.injEq] at h; rw [h]; rfl
  | [], u :: us, _, _, h, _ => by cases h
  | p :: ps, [], _, _, h, _ => by cases h
  | (i, v) :: ps, u :: us, zs, cs, hv, h => by
    simp only [List.map_cons, List.cons.injEq] at hv
    simp only [List.map_cons, fillC] at h
    unfold Instr.fill
    simp only [List.getElem?_toArray]
    split at h
    · cases h
    · rename_i o s hp
      rw [hp]
      simp only
      split at h
      · rename_i hc
        rw [Bool.and_eq_true] at hc
        have h1 := Nat.eq_of_beq_eq_true hc.1
        have h2 := Nat.le_of_ble_eq_true hc.2
        have e := hv.1
        simp only [e]
        have hcond : (decide ((List.toArray u).size ≠ s) || decide (o + (List.toArray u).size > (List.toArray zs).size)) = false := by simp [h1]; omega
        rw [hcond]
        simp only [Bool.false_eq_true, if_false]
        rw [← Array.foldl_toList, Array.toList_zipIdx, foldl_set, Nat.add_zero]
        have := fill_eq hv.2 h
        simpa only [List.getElem?_toArray] using this
      · cases h
theorem vbuild_str {pl : List (Nat × Nat)} {ps : List (Nat × Value)} {us : List (List Value)} {zs cs : List Value} (h : strF P t = some (pl, zs)) (hv : ps.map (fun p => p.2.cells) = us.map List.toArray)
    (hf : fillC pl zs (ps.map (·.1)) us = some cs) (hK : K (.agg ⟨cs⟩) w) : vbuild P t ps w K := by
  refine ⟨_, w, run_build (P := P) w t ⟨ps⟩ ⟨cs⟩ ?_, hK⟩
  unfold strF at h
  split at h
  · rename_i fs i hu hi
    split at h
    · rename_i pl' z hp hz
      simp only [Option.some.injEq, Prod.mk.injEq] at h
      obtain ⟨rfl, rfl⟩ := h
      simp only [Program.built, hu, hi, hz, hp]
      exact fill_eq hv hf
    · cases h
  · cases h
theorem Blk.stAgg {b : Nat} {cs cs' : List Value} {t0 : TypeId} (h : Blk w b cs t0) (hl : cs'.length = cs.length) (hz : aggB P t cs'.length = true) (h1 : ∀ v, v ∈ cs' → v.oneCell' = true)
    (hK : ∀ w', Same (· = b) w w' → w'.heap.size = w.heap.size → Blk w' b cs' t0 → K undef w') : vstore P t (.pointer (some ⟨b, 0, none⟩)) (.agg ⟨cs'⟩) w K := by
  have hr := run_storeCells_at (P := P) b 0 t0 cs' 0 ⟨cs⟩ w h (by simp [hl]) h1
  refine ⟨(), _, ?_, hK (w.setRow b (cs'.toArray)) ⟨rfl, rfl, rfl, by simp, fun k _ hk => setRow_other w b k _ hk⟩ (by simp) (setRow_heap w b _ _ t0 _ h)⟩
  simp only [Instr.storeAt, Instr.sureAddr, Sem.run_bind, Sem.run_pure, Result.andThen_ok, storeVar, run_sizeOf_agg hz, Value.cells]
  simp only [List.size_toArray, ne_eq, not_true_eq_false, if_false]
  have e : (cs.take (0 + 0) ++ cs' ++ cs.drop (0 + 0 + cs'.length)) = cs' := by rw [hl]; simp
  simp only [e] at hr
  exact hr
theorem vbin_slnil {c : Bool} {a : Option Addr} {l k : Nat} (h : isSl P t = true) : vbin P .eql t c (.slice a l k) (.slice none 0 0) w K = K (.bool a.isNone) w := by
  obtain ⟨e, he⟩ := isSl_eq h
  refine vbin_run ?_ ?_
  · simp [eqG, eqGuard]
  · simp [binOp, run_equal_slice_nil w t e a l k he, Result.andThen]
theorem Sl.cells1 {F : Nat → Prop} {k : Nat} {v : Value} {xs : List (List Value)} (h : Sl F w k v xs) : v.cells = #[v] := by
  obtain ⟨a, c, rfl, _⟩ := h.shape; rfl
theorem Sl.one {F : Nat → Prop} {k : Nat} {v : Value} {xs : List (List Value)} (h : Sl F w k v xs) : v.oneCell' = true := by
  obtain ⟨a, c, rfl, _⟩ := h.shape; rfl
end
end Go.Vc
end
section
namespace Go.Vc
open Go Go.MapKept
def ISet (w : World) (b : Nat) (ks : List Int) : Prop :=
  ∃ es clock, w.heap[b]? = some (.map es clock) ∧ Stamped es clock ∧ es.toList.map (·.key) = ks.map fun k => Value.int .i64 k
section
variable {P : Program} {t : TypeId} {w w' : World} {K : Value → World → Prop} {b : Nat} {ks : List Int} {S : Nat → Prop}
theorem ISet.lt (h : ISet w b ks) : b < w.heap.size := by
  obtain ⟨es, cl, hb, _⟩ := h; exact (Array.getElem?_eq_some_iff.1 hb).1
theorem ISet.same (h : ISet w b ks) (hw : Same S w w') (hs : ¬ S b) : ISet w' b ks := by
  have hlt := h.lt
  obtain ⟨es, cl, hb, r⟩ := h; exact ⟨es, cl, (hw.block b hlt hs).trans hb, r⟩
theorem ISet.ext (h : ISet w b ks) (hw : Ext w w') : ISet w' b ks := h.same hw id
theorem ISet.nodup (h : ISet w b ks) : ks.Nodup := by
  obtain ⟨es, cl, hb, hst, hk⟩ := h
  have := hst.2.2
  rw [hk] at this
  exact List.Pairwise.of_map _ (fun a b h e => h (by rw [e])) this
theorem isKey_int (n : Int) : IsKey (.int .i64) (.int .i64 n) := by simp [IsKey]
theorem same_set {w : World} {r : Nat} {o o' : Obj} (hb : w.heap[r]? = some o) : Same (· = r) w { w with heap := w.heap.setIfInBounds r o' } :=
  ⟨rfl, rfl, rfl, by simp, fun k _ hk => (heap_set (o' := o') hb).2 k hk⟩
def IterR (w : World) (r b : Nat) (ks ds : List Int) : Prop :=
  ∃ es clock seen, w.heap[b]? = some (.map es clock) ∧ Stamped es clock ∧ es.toList.map (·.key) = ks.map (fun k => Value.int .i64 k) ∧ w.heap[r]? = some (.mapIter (some b) clock seen clock) ∧ ds.Nodup ∧ (∀ k, k ∈ ds → k ∈ ks) ∧
    (∀ e, e ∈ es.toList → (seen.contains e.born = true ↔ ∃ k, k ∈ ds ∧ e.key = .int .i64 k)) ∧ (∀ ds' k, ds = ds' ++ [k] → ∃ e, e ∈ es.toList ∧ e.key = .int .i64 k ∧ ∃ s' : Array Nat, seen = s'.push e.born)
theorem IterR.same {r : Nat} {ds : List Int} (h : IterR w r b ks ds) (hw : Same S w w') (hb' : ¬ S b) (hr : ¬ S r) : IterR w' r b ks ds := by
  obtain ⟨es, clock, seen, hb, hst, hk, hit, h1, h2, h3, h4⟩ := h
  exact ⟨es, clock, seen, (hw.block b (Array.getElem?_eq_some_iff.1 hb).1 hb').trans hb, hst, hk, (hw.block r (Array.getElem?_eq_some_iff.1 hit).1 hr).trans hit, h1, h2, h3, h4⟩
theorem IterR.ext {r : Nat} {ds : List Int} (h : IterR w r b ks ds) (hw : Ext w w') : IterR w' r b ks ds := h.same hw id id
theorem IterR.nd {r : Nat} {ds : List Int} (h : IterR w r b ks ds) : ds.Nodup := by
  obtain ⟨es, clock, seen, hb, hst, hk, hit, h1, _⟩ := h; exact h1
theorem IterR.sub {r : Nat} {ds : List Int} (h : IterR w r b ks ds) {k : Int} (hk' : k ∈ ds) : k ∈ ks := by
  obtain ⟨es, clock, seen, hb, hst, hk, hit, h1, h2, _⟩ := h; exact h2 k hk'
theorem IterR.len {r : Nat} {ds : List Int} (h : IterR w r b ks ds) : ds.length ≤ ks.length := h.nd.length_le_of_subset fun _ hk => h.sub hk
theorem IterR.lt {r : Nat} {ds : List Int} (h : IterR w r b ks ds) : r < w.heap.size := by
  obtain ⟨es, clock, seen, hb, hst, hk, hit, _⟩ := h; exact (Array.getElem?_eq_some_iff.1 hit).1
theorem IterR.set {r : Nat} {ds : List Int} (h : IterR w r b ks ds) : ISet w b ks := by
  obtain ⟨es, clock, seen, hb, hst, hk, _⟩ := h; exact ⟨es, clock, hb, hst, hk⟩
end
end Go.Vc
end
section
namespace Go.Vc
open Go
section
variable {P : Program} {w : World} {K : Value → World → Prop}
theorem vbi_max {ts : List TypeId} {t : TypeId} {k k' : IntKind} {x y : Int} : vbi P .max ts t [.int k x, .int k' y] w K = K (.int k (max x y)) w := by
  refine vrun_eq ?_
  simp only [biSem, run_max_int2]
  rw [Int.max_def]; split <;> split <;> (first | rfl | (exfalso; omega) | skip)
  all_goals (have : x = y := by omega) <;> rw [this]
theorem vbi_min {ts : List TypeId} {t : TypeId} {k k' : IntKind} {x y : Int} : vbi P .min ts t [.int k x, .int k' y] w K = K (.int k (min x y)) w := by
  refine vrun_eq ?_
  simp only [biSem, run_min_int2]
  rw [Int.min_def]; split <;> split <;> (first | rfl | (exfalso; omega) | skip)
  all_goals (have : x = y := by omega) <;> rw [this]
attribute [push_cast] vbi_max vbi_min
theorem setL_app : ∀ (us a b : List Value), us.length ≤ b.length → setL (a ++ b) a.length us = a ++ us ++ b.drop us.length
  | [], a, b, _ => by simp [setL]
  | u :: us, a, [], h => by simp at h
  | u :: us, a, c :: b, h => by
    have e : (a ++ c :: b).set a.length u = (a ++ [u]) ++ b := by simp
    rw [setL, e, show a.length + 1 = (a ++ [u]).length from by simp, setL_app us (a ++ [u]) b (by simpa using h)]
    simp
theorem fill_row {k : Nat} : ∀ (xs : List Value) (us : List (List Value)) (i : Nat) (a b : List Value), xs.map Value.cells = us.map List.toArray → (∀ u, u ∈ us → u.length = k) → a.length = i * k → b.length = xs.length * k →
    Instr.fill (fun i => some (i * k, k)) ⟨a ++ b⟩ ((xs.zipIdx i).map fun p => (p.2, p.1)) = some ⟨a ++ us.flatten⟩
  | [], [], i, a, b, _, _, _, hb => by
    have : b = [] := List.eq_nil_of_length_eq_zero (by simpa using hb)
    subst this; simp [Instr.fill]
  | [], u :: us, _, _, _, h, _, _, _ => by simp at h
  | x :: xs, [], _, _, _, h, _, _, _ => by simp at h
  | x :: xs, u :: us, i, a, b, h, hw, ha, hb => by
    simp only [List.map_cons, List.cons.injEq] at h
    have hu := hw u List.mem_cons_self
    rw [List.length_cons, Nat.add_mul, Nat.one_mul] at hb
    have hs : x.cells.size = k := by rw [h.1]; simpa using hu
    rw [List.zipIdx_cons, List.map_cons, Instr.fill]
    simp only [hs, ne_eq, not_true_eq_false, decide_false, Bool.false_or, List.size_toArray, List.length_append]
    rw [if_neg (by simp; omega)]
    rw [← Array.foldl_toList, Array.toList_zipIdx, h.1]
    rw [foldl_set, Nat.add_zero, ← ha, setL_app u a b (by omega), List.append_assoc, ← List.append_assoc a u]
    rw [fill_row xs us (i + 1) (a ++ u) (b.drop u.length) h.2 (fun v hv => hw v (List.mem_cons_of_mem _ hv)) (by simp [ha, hu, Nat.add_mul]) (by simp; omega)]
    simp
theorem vbuildS_row {t : TypeId} {e k : Nat} {z : Value} {xs : List Value} {us : List (List Value)} (hu : P.underlying t = some (.slice e)) (hz : sizeB P e k = true) (hzero : zeroB P e z) (hx : xs.map Value.cells = us.map List.toArray) (hw : ∀ u, u ∈ us → u.length = k) (hsm : xs.length * k ≤ 16777216)
    (hK : ∀ b w', b = w.heap.size → Ext w w' → w'.heap.size = w.heap.size + 1 → Blk w' b us.flatten e → K (.slice (some ⟨b, 0, none⟩) xs.length xs.length) w') : vbuildS P t xs.length (xs.zipIdx.map fun p => (p.2, p.1)) w K := by
  refine ⟨_, _, ?_, hK w.heap.size { w with heap := w.heap.push (.cells ⟨us.flatten⟩ e) } rfl (ext_push w _) (by simp) (blk_push w _ e)⟩
  have hf : ∀ c : Array Value, c.size = xs.length * k → Instr.fill (fun i => some (i * k, k)) c (xs.zipIdx.map fun p => (p.2, p.1)) = some ⟨us.flatten⟩ := fun c hc => by
    have := fill_row xs us 0 [] c.toList hx hw (by simp) (by simpa using hc)
    simpa using this
  simp only [Instr.buildSlice, Sem.run_bind, run_under hu, Result.andThen_ok, run_sizeOf hz]
  rw [if_neg (by omega)]
  split
  · simp only [Sem.run_bind, Sem.run_pure, Result.andThen_ok]
    rw [hf _ (by simp)]
    rfl
  · simp only [Sem.run_bind, Sem.run_pure, Result.andThen_ok, run_zero hzero]
    rw [hf _ (by simp)]
    rfl
theorem vbuildS_row1 {t : TypeId} {e : Nat} {z : Value} {xs : List Value} (hu : P.underlying t = some (.slice e)) (hz : sizeB P e 1 = true) (hzero : zeroB P e z) (hx : ∀ x, x ∈ xs → x.cells = #[x]) (hsm : xs.length ≤ 16777216)
    (hK : ∀ b w', b = w.heap.size → Ext w w' → w'.heap.size = w.heap.size + 1 → Blk w' b xs e → K (.slice (some ⟨b, 0, none⟩) xs.length xs.length) w') : vbuildS P t xs.length (xs.zipIdx.map fun p => (p.2, p.1)) w K := by
  refine vbuildS_row (us := xs.map fun x => [x]) hu hz hzero ?_ (fun u hu => by obtain ⟨y, _, rfl⟩ := List.mem_map.1 hu; rfl) (by omega) fun b w' h1 h2 h3 h4 => hK b w' h1 h2 h3 (by rwa [flat1] at h4)
  rw [List.map_map]
  exact List.map_congr_left fun x hx' => hx x hx'
theorem vbin_quo {t : TypeId} {c : Bool} {k : IntKind} {a b : Int} (hb : b ≠ 0) : vbin P .quo t c (.int k a) (.int k b) w K = K (.int k (k.wrap (a.tdiv b))) w :=
  vbin_run rfl (by simp [binOp, Op.intDiv, hb])
theorem vbin_rem {t : TypeId} {c : Bool} {k : IntKind} {a b : Int} (hb : b ≠ 0) : vbin P .rem t c (.int k a) (.int k b) w K = K (.int k (a.tmod b)) w :=
  vbin_run rfl (by simp [binOp, Op.intDiv, hb])
theorem bits_xor64 {a b : Nat} (ha : a < 9223372036854775808) (hb : b < 9223372036854775808) : (IntKind.i64.wrap (((BitVec.ofInt 64 a) ^^^ (BitVec.ofInt 64 b)).toNat : Int)) = ((a ^^^ b : Nat) : Int) := by
  have h1 : a ^^^ b < 2 ^ 63 := Nat.xor_lt_two_pow ha hb
  rw [BitVec.toNat_xor, BitVec.ofInt_natCast, BitVec.ofInt_natCast, BitVec.toNat_ofNat, BitVec.toNat_ofNat, Nat.mod_eq_of_lt (by omega), Nat.mod_eq_of_lt (by omega)]
  exact wrap64 (by omega) (by omega)
theorem vbin_xor64 {t : TypeId} {c : Bool} {a b : Nat} (ha : a < 9223372036854775808) (hb : b < 9223372036854775808) : vbin P .xor t c (.int .i64 a) (.int .i64 b) w K = K (.int .i64 (a ^^^ b : Nat)) w :=
  vbin_run rfl (by simp only [binOp, ne_eq, not_true_eq_false, if_false, Op.intBits]; rw [← bits_xor64 ha hb]; rfl)
def intB (P : Program) (t : TypeId) (k : IntKind) : Prop := P.underlying t = some (.int k)
theorem vconv_int {s d : TypeId} {k k' : IntKind} {n : Int} (hs : (P.underlying s).isSome = true) (hd : intB P d k) : vconv P s d (.int k' n) w K = K (.int k (k.wrap n)) w := by
  refine vrun_eq ?_
  obtain ⟨x, hx⟩ := Option.isSome_iff_exists.1 hs
  unfold intB at hd
  simp only [convert, Sem.run_bind, run_under hx, run_under hd, Result.andThen_ok]
  cases x <;> rfl
end
end Go.Vc
end
section
namespace Go.Vc
open Go Go.MapKept
def MapF (d : TypeDesc) (w : World) (b : Nat) (f : List (Value × Value)) : Prop :=
  ∃ es clock, w.heap[b]? = some (.map es clock) ∧ Stamped es clock ∧ (∀ x ∈ es.toList, IsKey d x.key) ∧ es.toList.map (fun e => (e.key, e.val)) = f
def mapB (P : Program) (t : TypeId) (d : TypeDesc) (e : TypeId) : Prop := ∃ kt, P.underlying t = some (.map kt e) ∧ P.underlying kt = some d
section
variable {P : Program} {t e : TypeId} {d : TypeDesc} {w w' : World} {K : Value → World → Prop} {b : Nat} {f : List (Value × Value)} {S : Nat → Prop}
theorem MapF.lt (h : MapF d w b f) : b < w.heap.size := by
  obtain ⟨es, cl, hb, _⟩ := h; exact (Array.getElem?_eq_some_iff.1 hb).1
theorem MapF.same (h : MapF d w b f) (hw : Same S w w') (hs : ¬ S b) : MapF d w' b f := by
  have hlt := h.lt
  obtain ⟨es, cl, hb, r⟩ := h; exact ⟨es, cl, (hw.block b hlt hs).trans hb, r⟩
theorem MapF.ext (h : MapF d w b f) (hw : Ext w w') : MapF d w' b f := h.same hw id
theorem MapF.nodup (h : MapF d w b f) : (f.map (·.1)).Nodup := by
  obtain ⟨es, cl, hb, hst, hks, rfl⟩ := h
  have := hst.2.2
  rw [List.map_map]
  exact this
theorem vmkM_mapR {r : Option Value} {k : IntKind} {n : Nat} (hT : mapB P t d e) (hr : r = none ∨ r = some (.int k n)) (hK : ∀ b w', b = w.heap.size → MapF d w' b [] → Ext w w' → w'.heap.size = w.heap.size + 1 → K (.map (some b)) w') : vmkM P t r w K := by
  refine ⟨.map (some w.heap.size), w.alloc (.map #[] 0), ?_, hK _ _ rfl ⟨#[], 0, (heap_alloc w _).1, stamped_empty 0, by simp, rfl⟩ ⟨rfl, rfl, rfl, by simp, fun k hk _ => (heap_alloc w _).2 k hk⟩ (by simp)⟩
  obtain ⟨kt, hm, hd⟩ := hT
  rcases hr with rfl | rfl
  · simp [Instr.makeMap, newObj, Sem.run]
  · simp only [Instr.makeMap, Sem.run_bind, run_under hm, Result.andThen_ok]
    simp [asInt, asIntOf, newObj, Sem.run, Result.andThen]
theorem vmkM_map (hT : mapB P t d e) (hK : ∀ b w', b = w.heap.size → MapF d w' b [] → Ext w w' → w'.heap.size = w.heap.size + 1 → K (.map (some b)) w') : vmkM P t none w K := vmkM_mapR (k := .i64) (n := 0) hT (.inl rfl) hK
theorem vmset_new {k x : Value} (hT : mapB P t d e) (h : MapF d w b f) (hk : IsKey d k) (hn : ∀ v, (k, v) ∉ f)
    (hK : ∀ w', MapF d w' b (f ++ [(k, x)]) → Same (· = b) w w' → w'.heap.size = w.heap.size → K undef w') : vmset P t (.map (some b)) k x w K := by
  obtain ⟨kt, hm, hd⟩ := hT
  obtain ⟨es, cl, hb, hst, hks, rfl⟩ := h
  rcases findNow_spec hk es.toList 0 hks with ⟨h1, h2⟩ | ⟨j, e, h1, h2, h3⟩
  · refine ⟨(), { w with heap := w.heap.setIfInBounds b (.map (es.push { key := k, val := x, born := cl }) (cl + 1)) }, ?_, hK _ ⟨_, _, (heap_set hb).1, stamped_push hst h2, fun y hy => ?_, by simp⟩ (same_set hb) (by simp)⟩
    · simp [Instr.mapUpdate, run_underlying hm, MapKept.run_getObj_map hb, run_checkKey hd hk, run_findKey hd h1, run_setObj_map _ hb, Result.andThen]
    · rw [Array.toList_push] at hy
      rcases List.mem_append.1 hy with hy | hy
      · exact hks y hy
      · rw [List.mem_singleton.1 hy]; exact hk
  · exact absurd (List.mem_map.2 ⟨e, List.mem_of_getElem? h2, by rw [h3]⟩) (hn e.val)
theorem vlook_in {k v : Value} {ok : Bool} (hT : mapB P t d e) (h : MapF d w b f) (hk : IsKey d k) (hin : (k, v) ∈ f) :
    vlook P t (.map (some b)) k ok w K = K (if ok then .tuple #[v, .bool true] else v) w := by
  obtain ⟨kt, hm, hd⟩ := hT
  have hnd := h.nodup
  obtain ⟨es, cl, hb, hst, hks, rfl⟩ := h
  rcases findNow_spec hk es.toList 0 hks with ⟨h1, h2⟩ | ⟨j, e, h1, h2, h3⟩
  · obtain ⟨x, hx, e⟩ := List.mem_map.1 hin
    cases e; exact absurd rfl (h2 x hx)
  · obtain ⟨x, hx, e'⟩ := List.mem_map.1 hin
    have hxe : x = e := by
      have hm2 : e ∈ es.toList := List.mem_of_getElem? h2
      have hp := hst.2.2
      cases e'
      have hp' : es.toList.Pairwise fun a b => a.key ≠ b.key := List.pairwise_map.1 hp
      by_cases hne : x = e
      · exact hne
      · obtain ⟨i1, hi1, e1⟩ := List.getElem_of_mem hx
        obtain ⟨i2, hi2, e2⟩ := List.getElem_of_mem hm2
        rcases Nat.lt_trichotomy i1 i2 with hlt | heq | hlt
        · exact absurd (by rw [e1, e2]; exact h3.symm) (List.pairwise_iff_getElem.1 hp' i1 i2 hi1 hi2 hlt)
        · subst heq; exact absurd (e1.symm.trans e2) hne
        · exact absurd (by rw [e1, e2]; exact h3) (List.pairwise_iff_getElem.1 hp' i2 i1 hi2 hi1 hlt)
    subst hxe
    cases e'
    refine vrun_eq ?_
    cases ok <;> simp [Instr.lookup, run_underlying hm, MapKept.run_getObj_map hb, run_checkKey hd hk, run_findKey hd h1, Result.andThen]
theorem vlook_out {k z : Value} {ok : Bool} (hT : mapB P t d e) (hz : zeroB P e z) (h : MapF d w b f) (hk : IsKey d k) (hn : ∀ v, (k, v) ∉ f) :
    vlook P t (.map (some b)) k ok w K = K (if ok then .tuple #[z, .bool false] else z) w := by
  obtain ⟨kt, hm, hd⟩ := hT
  obtain ⟨es, cl, hb, hst, hks, rfl⟩ := h
  rcases findNow_spec hk es.toList 0 hks with ⟨h1, h2⟩ | ⟨j, e, h1, h2, h3⟩
  · refine vrun_eq ?_
    cases ok <;> simp [Instr.lookup, run_underlying hm, MapKept.run_getObj_map hb, run_checkKey hd hk, run_findKey hd h1, run_zero hz, Result.andThen]
  · exact absurd (List.mem_map.2 ⟨e, List.mem_of_getElem? h2, by rw [h3]⟩) (hn e.val)
theorem vinvoke_of {ty : TypeId} {v rcv : Value} {name : String} {args : Array Value} {g : Nat} (hm : ∀ w : World, (method (P.types.size + Made.depth) ty v name).run P w = .ok (g, rcv) w) (h : vcall P g ⟨rcv :: args.toList⟩ w K) : vinvoke P (.iface ty v) name args w K :=
  ⟨g, rcv, hm w, h⟩
def concB (P : Program) (t : TypeId) : Bool := match P.underlying t with | some (.interface _) => false | some _ => true | none => false
theorem vmkI_eq (h : concB P t = true) (v : Value) : vmkI P t v w K = K (.iface t v) w := by
  refine vrun_eq ?_
  unfold concB at h
  cases hu : P.underlying t with
  | none => rw [hu] at h; cases h
  | some x =>
    rw [hu] at h
    simp only [Instr.makeInterface, Sem.run_bind, run_under hu, Result.andThen_ok]
    cases x <;> first | (cases h; done) | simp
theorem bytes_dec (a b : ByteArray) : (a.toList == b.toList) = decide (a = b) := by
  rw [← beq_toListBytes]
  by_cases h : a = b
  · subst h; rw [decide_eq_true rfl]; exact (MapKept.bytes_beq a a).2 rfl
  · rw [decide_eq_false h, Bool.eq_false_iff]; exact fun e => h ((MapKept.bytes_beq a b).1 e)
@[push_cast] theorem vbin_streq {c : Bool} (t : TypeId) (a b : ByteArray) : vbin P .eql t c (.string a) (.string b) w K = K (.bool (decide (a = b))) w :=
  vbin_run rfl (by rw [binOp_string_eql, bytes_dec]; rfl)
@[push_cast] theorem vbin_strne {c : Bool} (t : TypeId) (a b : ByteArray) : vbin P .neq t c (.string a) (.string b) w K = K (.bool (decide (a ≠ b))) w :=
  vbin_run rfl (by rw [binOp_string_neq, bytes_dec, decide_not]; rfl)
theorem vlen_str {t ty : TypeId} {s : ByteArray} (h : P.underlying t = some .string) : vbi P .len [t] ty [.string s] w K = K (.int .i64 s.size) w :=
  vrun_eq (run_len_string (P := P) (w := w) t ty s h)
theorem vindex_str {t : TypeId} {s : ByteArray} {k : IntKind} {i : Int} (h : P.underlying t = some .string) (h0 : 0 ≤ i) (h1 : i < s.size) : vindex P t (.string s) (.int k i) w K = K (.int .u8 ((s.data.getD i.toNat 0).toNat : Int)) w := by
  refine vrun_eq ?_
  rw [run_index_string (P := P) (w := w) t s k i h]
  have hlt : i.toNat < s.size := by omega
  have hd : i.toNat < s.data.size := hlt
  rw [dif_pos ⟨h0, h1⟩, Array.getD_eq_getD_getElem?, Array.getElem?_eq_getElem hd]
  rfl
theorem vbin_shl {c : Bool} {t : TypeId} {k yk : IntKind} {x y : Int} (h : 0 ≤ y) : vbin P .shl t c (.int k x) (.int yk y) w K = K (.int k (k.wrap (x * 2 ^ min y.toNat k.bits))) w :=
  vbin_run rfl (by simp [binOp, shift_shl_any, h])
theorem vbin_shr {c : Bool} {t : TypeId} {k yk : IntKind} {x y : Int} (h : 0 ≤ y) : vbin P .shr t c (.int k x) (.int yk y) w K = K (.int k (x / 2 ^ min y.toNat k.bits)) w :=
  vbin_run rfl (by simp [binOp, shift_shr_any, h])
theorem wrapU {n : Nat} (h : n < 18446744073709551616) : IntKind.u64.wrap (n : Int) = n := by
  simp only [IntKind.wrap, IntKind.bits, IntKind.signed, Bool.false_and, Bool.false_eq_true, if_false]
  omega
theorem wrapN {n : Nat} (h : n < 9223372036854775808) : IntKind.i64.wrap (n : Int) = n := wrap64 (by omega) (by omega)
theorem ofIntN (n : Nat) : BitVec.ofInt 64 (n : Int) = BitVec.ofNat 64 n := by simp
theorem vbin_andU {c : Bool} {t : TypeId} {a b : Nat} (ha : a < 18446744073709551616) (hb : b < 18446744073709551616) : vbin P .and t c (.int .u64 a) (.int .u64 b) w K = K (.int .u64 (a &&& b : Nat)) w :=
  vbin_run rfl (by
    have h1 : a &&& b < 18446744073709551616 := Nat.lt_of_le_of_lt Nat.and_le_left ha
    have e : (BitVec.ofInt 64 (a : Int) &&& BitVec.ofInt 64 (b : Int)).toNat = a &&& b := by
      rw [ofIntN, ofIntN, BitVec.toNat_and, BitVec.toNat_ofNat, BitVec.toNat_ofNat, Nat.mod_eq_of_lt ha, Nat.mod_eq_of_lt hb]
    simp only [binOp, ne_eq, not_true_eq_false, if_false, Op.intBits]
    show (pure (Value.int .u64 (IntKind.u64.wrap ((BitVec.ofInt 64 (a : Int) &&& BitVec.ofInt 64 (b : Int)).toNat : Int))) : Sem Value).run P w = _
    rw [e, wrapU h1]; rfl)
theorem vbin_orU {c : Bool} {t : TypeId} {a b : Nat} (ha : a < 18446744073709551616) (hb : b < 18446744073709551616) : vbin P .or t c (.int .u64 a) (.int .u64 b) w K = K (.int .u64 (a ||| b : Nat)) w :=
  vbin_run rfl (by
    have h1 : a ||| b < 2 ^ 64 := Nat.or_lt_two_pow ha hb
    have e : (BitVec.ofInt 64 (a : Int) ||| BitVec.ofInt 64 (b : Int)).toNat = a ||| b := by
      rw [ofIntN, ofIntN, BitVec.toNat_or, BitVec.toNat_ofNat, BitVec.toNat_ofNat, Nat.mod_eq_of_lt ha, Nat.mod_eq_of_lt hb]
    simp only [binOp, ne_eq, not_true_eq_false, if_false, Op.intBits]
    show (pure (Value.int .u64 (IntKind.u64.wrap ((BitVec.ofInt 64 (a : Int) ||| BitVec.ofInt 64 (b : Int)).toNat : Int))) : Sem Value).run P w = _
    rw [e, wrapU h1]; rfl)
theorem vbin_xorU {c : Bool} {t : TypeId} {a b : Nat} (ha : a < 18446744073709551616) (hb : b < 18446744073709551616) : vbin P .xor t c (.int .u64 a) (.int .u64 b) w K = K (.int .u64 (a ^^^ b : Nat)) w :=
  vbin_run rfl (by
    have h1 : a ^^^ b < 2 ^ 64 := Nat.xor_lt_two_pow ha hb
    have e : (BitVec.ofInt 64 (a : Int) ^^^ BitVec.ofInt 64 (b : Int)).toNat = a ^^^ b := by
      rw [ofIntN, ofIntN, BitVec.toNat_xor, BitVec.toNat_ofNat, BitVec.toNat_ofNat, Nat.mod_eq_of_lt ha, Nat.mod_eq_of_lt hb]
    simp only [binOp, ne_eq, not_true_eq_false, if_false, Op.intBits]
    show (pure (Value.int .u64 (IntKind.u64.wrap ((BitVec.ofInt 64 (a : Int) ^^^ BitVec.ofInt 64 (b : Int)).toNat : Int))) : Sem Value).run P w = _
    rw [e, wrapU h1]; rfl)
theorem vbin_orI {c : Bool} {t : TypeId} {a b : Nat} (ha : a < 9223372036854775808) (hb : b < 9223372036854775808) : vbin P .or t c (.int .i64 a) (.int .i64 b) w K = K (.int .i64 (a ||| b : Nat)) w :=
  vbin_run rfl (by
    have h1 : a ||| b < 2 ^ 63 := Nat.or_lt_two_pow ha hb
    have e : (BitVec.ofInt 64 (a : Int) ||| BitVec.ofInt 64 (b : Int)).toNat = a ||| b := by
      rw [ofIntN, ofIntN, BitVec.toNat_or, BitVec.toNat_ofNat, BitVec.toNat_ofNat, Nat.mod_eq_of_lt (by omega), Nat.mod_eq_of_lt (by omega)]
    simp only [binOp, ne_eq, not_true_eq_false, if_false, Op.intBits]
    show (pure (Value.int .i64 (IntKind.i64.wrap ((BitVec.ofInt 64 (a : Int) ||| BitVec.ofInt 64 (b : Int)).toNat : Int))) : Sem Value).run P w = _
    rw [e, wrapN h1]; rfl)
theorem vun_xorU {a : Nat} (ha : a < 18446744073709551616) : vun P .xor (.int .u64 a) w K = K (.int .u64 (18446744073709551615 - a : Nat)) w := by
  refine vrun_eq ?_
  have e : (BitVec.ofInt 64 (18446744073709551615 : Int) ^^^ BitVec.ofInt 64 (a : Int)).toNat = 18446744073709551615 - a := by
    have e0 : BitVec.ofInt 64 (18446744073709551615 : Int) = BitVec.allOnes 64 := by decide
    rw [e0, ofIntN, BitVec.allOnes_xor, BitVec.toNat_not, BitVec.toNat_ofNat, Nat.mod_eq_of_lt ha]
  show (pure (Value.int .u64 (IntKind.u64.wrap ((BitVec.ofInt 64 (18446744073709551615 : Int) ^^^ BitVec.ofInt 64 (a : Int)).toNat : Int))) : Sem Value).run P w = _
  rw [e, wrapU (by omega)]; rfl
theorem vbin_shlU {c : Bool} {t : TypeId} {yk : IntKind} {x y : Nat} (hy : y < 64) (h : x * 2 ^ y < 18446744073709551616) : vbin P .shl t c (.int .u64 x) (.int yk y) w K = K (.int .u64 (x * 2 ^ y : Nat)) w := by
  rw [vbin_shl (by omega)]
  have e : ((x : Int) * 2 ^ min (y : Int).toNat IntKind.u64.bits) = ((x * 2 ^ y : Nat) : Int) := by
    have : min (y : Int).toNat IntKind.u64.bits = y := by show min y 64 = y; omega
    rw [this]; simp
  rw [e, wrapU h]
theorem vbin_shlI {c : Bool} {t : TypeId} {yk : IntKind} {x y : Nat} (hy : y < 64) (h : x * 2 ^ y < 9223372036854775808) : vbin P .shl t c (.int .i64 x) (.int yk y) w K = K (.int .i64 (x * 2 ^ y : Nat)) w := by
  rw [vbin_shl (by omega)]
  have e : ((x : Int) * 2 ^ min (y : Int).toNat IntKind.i64.bits) = ((x * 2 ^ y : Nat) : Int) := by
    have : min (y : Int).toNat IntKind.i64.bits = y := by show min y 64 = y; omega
    rw [this]; simp
  rw [e, wrapN h]
theorem vbin_shrU {c : Bool} {t : TypeId} {yk : IntKind} {x y : Nat} (hy : y < 64) : vbin P .shr t c (.int .u64 x) (.int yk y) w K = K (.int .u64 (x / 2 ^ y : Nat)) w := by
  rw [vbin_shr (by omega)]
  have : min (y : Int).toNat IntKind.u64.bits = y := by show min y 64 = y; omega
  rw [this]; simp
theorem vbox_agg {t : TypeId} {cs : List Value} (h : ∀ b w', b = w.heap.size → Ext w w' → w'.heap.size = w.heap.size + 1 → Blk w' b cs t → K (.pointer (some ⟨b, 0, none⟩)) w') : vbox P t (.agg ⟨cs⟩) w K := vbox_new h
theorem valloc_agg {t : TypeId} {cs : List Value} (hz : zeroB P t (.agg ⟨cs⟩)) (h : ∀ b w', b = w.heap.size → Ext w w' → w'.heap.size = w.heap.size + 1 → Blk w' b cs t → K (.pointer (some ⟨b, 0, none⟩)) w') : valloc P t w K := valloc_new hz h
theorem vbuild_eq {t : TypeId} {pl : List (Nat × Nat)} {ps : List (Nat × Value)} {us : List (List Value)} {zs cs : List Value} (h : strF P t = some (pl, zs)) (hv : ps.map (fun p => p.2.cells) = us.map List.toArray)
    (hf : fillC pl zs (ps.map (·.1)) us = some cs) : vbuild P t ps w K = K (.agg ⟨cs⟩) w := by
  refine vrun_eq (run_build (P := P) w t ⟨ps⟩ ⟨cs⟩ ?_)
  unfold strF at h
  split at h
  · rename_i fs i hu hi
    split at h
    · rename_i pl' z hp hz
      simp only [Option.some.injEq, Prod.mk.injEq] at h
      obtain ⟨rfl, rfl⟩ := h
      simp only [Program.built, hu, hi, hz, hp]
      exact fill_eq hv hf
    · cases h
  · cases h
theorem isKey_str (s : ByteArray) : IsKey .string (.string s) := by simp [IsKey]
theorem inc64' {i : Nat} (h : i < 9223372036854775807) : IntKind.i64.wrap ((i : Int) + 1) = ((i + 1 : Nat) : Int) := by rw [wrap64 (by omega) (by omega)]; omega
end
end Go.Vc
end
section
namespace Go.Vc
open Go Go.RowKit
def hasR : Code → Bool
  | .rangeFunc _ _ _ _ => true
  | .seq a b => hasR a || hasR b
  | .block _ b => hasR b
  | _ => false
def ovrAt : List Nat → Fr → List Value → Fr
  | [], f, _ => f
  | p :: r, f, args => ovrAt r (put f (some p) (args.headD undef)) args.tail
def jmp (x : Nat) (Nn Nr Nx : World → Prop) (pe : Option Code) (w : World) : Prop :=
  match pe with
  | none => Nn w
  | some .ret => Nr w
  | some (.exit i) => i = x ∧ Nx w
  | _ => False
def vfunc (P : Program) (gv : Value) (n x : Nat) (w : World) (B : List Value → (World → (World → Prop) → Prop) → (World → Prop) → (World → Prop) → (World → Prop) → World → Prop) (Nn Nr Nx : Nat → World → Prop) : Prop :=
  ∃ gf lb, gv = .func (.func gf) #[] lb ∧ ∀ (l D : Nat) (w1 : World) (RR : LoopState → Option Code → World → Prop), D = w.heap.size → l = w.heap.size + 1 → Ext w w1 → w1.heap.size = w.heap.size + 2 → w1.heap[D]? = some (.deferred (some [])) →
    (∀ st pe w' w'', RR st pe w' → w''.heap[l]? = w'.heap[l]? → RR st pe w'') → RR .ready none w1 →
    (∀ (args : List Value) (w' : World) (K : Value → World → Prop), args.length = n → RR .ready none w' →
      B args (fun w1 k => RR .ready none w1 ∧ ∀ w2, Same (· = l) w1 w2 → w2.heap.size = w1.heap.size → RR .busy none w2 → k w2)
        (fun w3 => RR .busy none w3 ∧ ∀ w4, Same (· = l) w3 w4 → w4.heap.size = w3.heap.size → RR .ready none w4 → K (.bool true) w4)
        (fun w3 => RR .busy none w3 ∧ ∀ w4, Same (· = l) w3 w4 → w4.heap.size = w3.heap.size → RR .done (some .ret) w4 → K (.bool false) w4)
        (fun w3 => RR .busy none w3 ∧ ∀ w4, Same (· = l) w3 w4 → w4.heap.size = w3.heap.size → RR .done (some (.exit x)) w4 → K (.bool false) w4) w' →
      vcallv P (.func (.yield l) #[] #[]) ⟨args⟩ w' K) →
    vcall P gf ⟨.func (.yield l) #[] #[] :: lb.toList⟩ w1 fun _ w3 => ∃ st pe, st ≠ .busy ∧ RR st pe w3 ∧ ∀ w4, Same (· = l) w3 w4 → w4.heap.size = w3.heap.size → jmp x (Nn D) (Nr D) (Nx D) pe w4
def rndK (x : Nat) (kn kr kx : World → Prop) (e : Exit) (_ : Fr) (w : World) : Prop :=
  match e with
  | .normal => kn w
  | .ret => kr w
  | .exit i => cond (Nat.beq i x) (kx w) False
  | _ => False
def vx (P : Program) (T : Ann) (x : Nat) : Code → (Exit → Fr → World → Prop) → (Nat → Exit → Fr → World → Prop) → Fr → World → Prop
  | .rangeFunc g ps asg body, _, K1, f, w =>
    vfunc P (ev f g) ps.size x w
      (fun args beg kn kr kx w' => vc P T asg (seqK (fun f1 w1 => beg w1 fun w2 => vc P T body (rndK x kn kr kx) f1 w2) (fun _ _ _ => False)) (ovrAt ps.toList f args) w')
      (fun D w' => K1 D .normal f w') (fun D w' => K1 D .ret f w') (fun D w' => K1 D (.exit x) f w')
  | .seq a b, K0, K1, f, w =>
    match hasR a with
    | true => vx P T x a (seqK (fun f' w' => vc P T b K0 f' w') K0) (fun D => seqK (fun f' w' => vc P T b (K1 D) f' w') (K1 D)) f w
    | false => vc P T a (seqK (fun f' w' => vx P T x b K0 K1 f' w') K0) f w
  | .block id c, K0, K1, f, w => vx P T x c (blkK id K0) (fun D => blkK id (K1 D)) f w
  | _, _, _, _, _ => False
def okX (n : Nat) (T : Ann) : Code → Bool
  | .rangeFunc _ ps asg body => okC n T asg && (okC n T body && ps.toList.all fun p => Nat.blt p n)
  | .seq a b => cond (hasR a) (okX n T a && okC n T b) (okC n T a && okX n T b)
  | .block _ c => okX n T c
  | _ => false
def mark (D : Nat) : Deferred := { target := .collected D, args := #[] }
def PostX (n : Nat) (K0 : Exit → Fr → World → Prop) (K1 : Nat → Exit → Fr → World → Prop) (e : Exit) (a : Act) (w : World) : Prop :=
  (∃ f', Sim [] n f' a ∧ K0 e f' w) ∨ ∃ D f', Sim [mark D] n f' a ∧ K1 D e f' w
section
variable {P : Program} {T : Ann} {n x : Nat}
theorem sim_ovr : ∀ (ps : List Nat) (f : Fr) (args : List Value) (tmps : Array Value), args.length = ps.length → ps.all (fun p => Nat.blt p n) = true → tmps.size = n → (∀ t, tmps.getD t undef = f t) →
    Sim [] n (ovrAt ps f args) { tmps := (ps.zip args).foldl (fun t p => t.setIfInBounds p.1 p.2) tmps, defers := [] } := by
  intro ps
  induction ps with
  | nil => intro f args tmps _ _ hs ha; exact ⟨hs, rfl, ha⟩
  | cons p r ih =>
    intro f args tmps hl hp hs ha
    cases args with
    | nil => simp at hl
    | cons v args =>
      simp only [List.all_cons, Bool.and_eq_true] at hp
      have hpn : p < n := by simpa [Nat.blt_eq] using hp.1
      refine ih (put f (some p) v) args (tmps.setIfInBounds p v) (by simpa using hl) hp.2 (by simpa using hs) fun t => ?_
      by_cases e : t = p
      · subst e
        rw [put_same]
        simp [Array.getD_eq_getD_getElem?, hs, hpn]
      · rw [put_ne _ _ _ _ e, ← ha t]
        simp only [Array.getD_eq_getD_getElem?]
        rw [Array.getElem?_setIfInBounds_ne (Ne.symm e)]
theorem same_put (w : World) (l : Nat) (o : Obj) : Same (· = l) w (w.putObj l o) :=
  ⟨rfl, rfl, rfl, by simp, fun _ _ hb => World.putObj_heap_other hb⟩
theorem lt_of_heap {w : World} {l : Nat} {o : Obj} (h : w.heap[l]? = some o) : l < w.heap.size := (Array.getElem?_eq_some_iff.1 h).1
theorem range_sound (hm : P.follows .mixedOrders = true) {g : Operand} {ps : Array Tmp} {asg body : Code} {K0 : Exit → Fr → World → Prop} {K1 : Nat → Exit → Fr → World → Prop} {f : Fr} {a : Act} {w : World}
    (hok : okX n T (.rangeFunc g ps asg body) = true) (h : vx P T x (.rangeFunc g ps asg body) K0 K1 f w) (hs : Sim [] n f a) : (Code.rangeFunc g ps asg body).wpIn (FR none) 0 P (PostX n K0 K1) a w := by
  simp only [okX, Bool.and_eq_true] at hok
  obtain ⟨ho1, ho2, ho3⟩ := hok
  obtain ⟨gf, lb, hg, H⟩ := h
  refine wpIn_rangeFunc fun fn _ => ?_
  let rec0 : LoopState → Option Code → Loop := fun st pe => { state := st, pending := pe, fn, tmps := a.tmps, params := ps, assign := asg, body, defers := w.heap.size }
  obtain ⟨w1, hw1⟩ : ∃ w1, (w.alloc (.deferred (some []))).alloc (.loop (rec0 .ready none)) = w1 := ⟨_, rfl⟩
  have hL1 : w1.heap[w.heap.size + 1]? = some (.loop (rec0 .ready none)) := by
    rw [← hw1]; have := World.alloc_heap_new (w.alloc (.deferred (some []))) (.loop (rec0 .ready none)); rwa [World.size_alloc] at this
  have hD1 : w1.heap[w.heap.size]? = some (.deferred (some [])) := by
    rw [← hw1]; exact (Below.heap_alloc _ _ _ (by simp)).trans (World.alloc_heap_new w _)
  have hsz1 : w1.heap.size = w.heap.size + 2 := by rw [← hw1, World.size_alloc, World.size_alloc]
  have hE1 : Ext w w1 := by
    rw [← hw1]
    exact ⟨rfl, rfl, rfl, by rw [World.size_alloc, World.size_alloc]; omega, fun b hb _ => (Below.heap_alloc _ _ b (by rw [World.size_alloc]; omega)).trans (Below.heap_alloc w _ b hb)⟩
  have hc := H (w.heap.size + 1) w.heap.size w1 (fun st pe w' => w'.heap[w.heap.size + 1]? = some (.loop (rec0 st pe))) rfl rfl hE1 hsz1 hD1 (fun st pe w' w'' hr he => he.trans hr) hL1 ?_
  · obtain ⟨hgf, hcall⟩ := hc
    refine ⟨w.heap.size + 1, [mark w.heap.size], w1, { target := .fn (.func gf) lb, args := #[.func (.yield (w.heap.size + 1)) #[] #[]] }, w1, gf,
      #[.func (.yield (w.heap.size + 1)) #[] #[]] ++ lb, w1, ?_, ?_, fun _ _ => trivial, ?_, fun h => (by cases h), ?_⟩
    · rw [← hw1]; exact run_enterLoop_outer _ _ _ _ _
    · simp only [resolve, hs.eval, hg]
      simp [go_sem, ev]
    · simp [invoke, go_sem, callFunc_run hgf]
    · have e : (#[.func (.yield (w.heap.size + 1)) #[] #[]] ++ lb : Array Value) = ⟨.func (.yield (w.heap.size + 1)) #[] #[] :: lb.toList⟩ := by apply Array.toList_inj.1; simp
      rw [e]
      refine callsIn_wide.2 (Calls.mono hcall fun e w3 he => ?_)
      cases e with
      | returned v =>
        obtain ⟨st, pe, hst, hr, hN⟩ := he
        have hend := run_endLoop (P := P) hr (by exact hst)
        have hN' := hN _ (same_put w3 _ (.loop { rec0 st pe with state := .exhausted })) (by simp)
        have hs' : Sim [mark w.heap.size] n f { a with defers := [mark w.heap.size] ++ a.defers } := ⟨hs.size, by rw [hs.defers]; rfl, hs.at_⟩
        refine ⟨pe, _, hend, ?_⟩
        cases pe with
        | none => exact .inr ⟨_, f, hs', hN'⟩
        | some c =>
          cases c <;> simp only [jmp] at hN' <;> try exact hN'.elim
          case exit i =>
            obtain ⟨rfl, hN'⟩ := hN'
            exact wpIn_exit (.inr ⟨_, f, hs', hN'⟩)
          case ret => exact wpIn_ret (.inr ⟨_, f, hs', hN'⟩)
      | panicked c => exact he.elim
      | outgrown => exact he.elim
  · intro args w' K hlen hr hB
    have hy := run_yield (P := P) (args := (⟨args⟩ : Array Value)) hr (by simpa [rec0] using hlen)
    refine ⟨fn, _, asg, body, hy, roundIn_of_wpIn trivial ?_⟩
    have hsim := sim_ovr (n := n) ps.toList f args a.tmps (by simpa using hlen) ho3 hs.size hs.at_
    have ez : ((rec0 .ready none).params.zip (⟨args⟩ : Array Value)).foldl (fun tmps (t, a) => tmps.setIfInBounds t a) (rec0 .ready none).tmps = (ps.toList.zip args).foldl (fun t p => t.setIfInBounds p.1 p.2) a.tmps := by
      rw [← Array.foldl_toList, Array.toList_zip]
    rw [ez]
    have h1 := vc_sound (ro := some (w.heap.size + 1)) hm asg _ _ _ w' ho1 hB hsim (fun l f w h => h)
    refine wpIn_mono h1 ?_
    rintro e a2 w2 ⟨f2, hs2, _, hk⟩
    cases e <;> simp only [seqK] at hk <;> try exact hk.elim
    case normal =>
      obtain ⟨hr2, hk⟩ := hk
      refine ⟨_, run_beginRound hr2 rfl, ?_⟩
      have hlt := lt_of_heap hr2
      have hk2 := hk _ (same_put w2 _ (.loop { rec0 .ready none with state := .busy })) (by simp) (World.putObj_heap_same hlt)
      refine wpIn_mono (vc_sound (ro := some (w.heap.size + 1)) hm body _ _ _ _ ho2 hk2 hs2 (fun l f w h => h)) ?_
      rintro e a3 w3 ⟨f3, hs3, _, hk3⟩
      cases e <;> simp only [rndK] at hk3 <;> try exact hk3.elim
      case normal =>
        obtain ⟨hr3, hk4⟩ := hk3
        exact ⟨_, _, run_endRound none hr3, hk4 _ (same_put w3 _ _) (by simp) (World.putObj_heap_same (lt_of_heap hr3))⟩
      case ret =>
        obtain ⟨hr3, hk4⟩ := hk3
        exact ⟨_, _, run_endRound (some .ret) hr3, hk4 _ (same_put w3 _ _) (by simp) (World.putObj_heap_same (lt_of_heap hr3))⟩
      case exit i =>
        cases hi : Nat.beq i x
        · rw [hi] at hk3; exact hk3.elim
        · rw [hi] at hk3
          obtain rfl := Nat.eq_of_beq_eq_true hi
          obtain ⟨hr3, hk4⟩ := hk3
          exact ⟨_, _, run_endRound (some (.exit i)) hr3, hk4 _ (same_put w3 _ _) (by simp) (World.putObj_heap_same (lt_of_heap hr3))⟩
theorem vx_sound (hm : P.follows .mixedOrders = true) : ∀ (c : Code) (K0 : Exit → Fr → World → Prop) (K1 : Nat → Exit → Fr → World → Prop) (f : Fr) (a : Act) (w : World), okX n T c = true → vx P T x c K0 K1 f w → Sim [] n f a →
    (∀ l f w, ¬ K0 (.goto l) f w) → (∀ D l f w, ¬ K1 D (.goto l) f w) → c.wpIn (FR none) 0 P (PostX n K0 K1) a w := by
  intro c
  induction c with
  | rangeFunc g ps asg body _ _ => intro K0 K1 f a w hok h hs _ _; exact range_sound hm hok h hs
  | seq y z ihy ihz =>
    intro K0 K1 f a w hok h hs hg0 hg1
    refine wpIn_seq ?_
    simp only [okX] at hok
    simp only [vx] at h
    cases hy : hasR y with
    | true =>
      rw [hy] at hok h
      simp only [cond, Bool.and_eq_true] at hok
      simp only at h
      refine wpIn_mono (ihy _ _ f a w hok.1 h hs (fun l f w h => hg0 l f w h) (fun D l f w h => hg1 D l f w h)) ?_
      rintro e a' w' (⟨f', hs', hk⟩ | ⟨D, f', hs', hk⟩)
      · cases e with
        | normal =>
          refine wpIn_mono (vc_sound hm z K0 f' a' w' hok.2 hk hs' hg0) ?_
          rintro e a'' w'' ⟨f'', hs'', _, hk'⟩
          exact .inl ⟨f'', hs'', hk'⟩
        | _ => exact .inl ⟨f', hs', hk⟩
      · cases e with
        | normal =>
          refine wpIn_mono (vc_sound hm z (K1 D) f' a' w' hok.2 hk hs' (hg1 D)) ?_
          rintro e a'' w'' ⟨f'', hs'', _, hk'⟩
          exact .inr ⟨D, f'', hs'', hk'⟩
        | _ => exact .inr ⟨D, f', hs', hk⟩
    | false =>
      rw [hy] at hok h
      simp only [cond, Bool.and_eq_true] at hok
      simp only at h
      refine wpIn_mono (vc_sound hm y _ f a w hok.1 h hs (fun l f w h => hg0 l f w h)) ?_
      rintro e a' w' ⟨f', hs', _, hk⟩
      cases e with
      | normal => exact ihz K0 K1 f' a' w' hok.2 hk hs' hg0 hg1
      | _ => exact .inl ⟨f', hs', hk⟩
  | block id b ih =>
    intro K0 K1 f a w hok h hs hg0 hg1
    simp only [vx] at h
    refine wpIn_block (wpIn_mono (ih _ _ f a w hok h hs (fun l f w h => hg0 l f w h) (fun D l f w h => hg1 D l f w h)) ?_)
    have key : ∀ (K : Exit → Fr → World → Prop) (e : Exit) (f' : Fr) (w' : World), blkK id K e f' w' → ∀ (df : List Deferred) (a' : Act), Sim df n f' a' → (∀ e f w a, Sim df n f a → K e f w → PostX n K0 K1 e a w) → Exit.inBlock id (PostX n K0 K1) e a' w' := by
      intro K e f' w' hk df a' hs' hP
      cases e with
      | exit i =>
        simp only [blkK] at hk
        cases hi : Nat.beq i id
        · rw [hi] at hk
          have hne : i ≠ id := Nat.ne_of_beq_eq_false hi
          simp only [Exit.inBlock, hne, if_false]
          exact hP _ _ _ _ hs' hk
        · rw [hi] at hk
          have : i = id := Nat.eq_of_beq_eq_true hi
          subst this
          simp only [Exit.inBlock, if_true]
          exact hP _ _ _ _ hs' hk
      | _ => exact hP _ _ _ _ hs' hk
    rintro e a' w' (⟨f', hs', hk⟩ | ⟨D, f', hs', hk⟩)
    · exact key K0 e f' w' hk [] a' hs' fun e f w a hs h => .inl ⟨f, hs, h⟩
    · exact key (K1 D) e f' w' hk [mark D] a' hs' fun e f w a hs h => .inr ⟨D, f, hs, h⟩
  | _ => intro K0 K1 f a w hok; exact absurd hok (by simp [okX])
def vmark (D : Nat) (w : World) (k : World → Prop) : Prop := w.heap[D]? = some (.deferred (some [])) ∧ ∀ w', Same (· = D) w w' → w'.heap.size = w.heap.size → k w'
def retM (P : Program) (rs : List ResultVar) (K : Value → World → Prop) (D : Nat) (e : Exit) (f : Fr) (w : World) : Prop :=
  match e with
  | .normal => vmark D w fun w' => vres P rs f w' K
  | .ret => vmark D w fun w' => vres P rs f w' K
  | _ => False
theorem call_of_func {g : Nat} {fn : Func} {c : Code} {args : List Value} {w : World} {K : Value → World → Prop} (hm : P.follows .mixedOrders = true) (hf : P.funcs[g]? = some fn) (hb : fn.body = some c)
    (hn : fn.ntmps = n) (hg : okFn P g = true) (hok : okX n T c = true) (hlen : Nat.ble args.length n = true)
    (h : vx P T x c (retF P fn.results.toList K) (retM P fn.results.toList K) (nthV args) w) : vcall P g args.toArray w K := by
  refine ⟨hg, callsIn_wide (n := 0).1 (callsIn_of_wp_marks hf hb trivial ?_)⟩
  rw [hn]
  refine wpIn_mono (vx_sound (x := x) hm c _ _ _ _ w hok h (sim_enter args n (Nat.le_of_ble_eq_true hlen)) (fun l f w h => h) (fun D l f w h => h)) ?_
  rintro e a' w' (⟨f', hs', hk⟩ | ⟨D, f', hs', hk⟩)
  · cases e with
    | normal => obtain ⟨v, hr, hv⟩ := vres_sound hk hs'; rw [bodyPostM, hs'.defers]; exact ⟨v, hr, hv⟩
    | ret => obtain ⟨v, hr, hv⟩ := vres_sound hk hs'; rw [bodyPostM, hs'.defers]; exact ⟨v, hr, hv⟩
    | _ => exact hk.elim
  · have fin : vmark D w' (fun w' => vres P fn.results.toList f' w' K) → LeavesInM (FR none) 0 P fn a'.tmps (retK K) a'.defers .returning w' := by
      rintro ⟨h1, h2⟩
      rw [hs'.defers]
      obtain ⟨v, hr, hv⟩ := vres_sound (h2 _ (same_put w' D (.deferred none)) (by simp)) hs'
      exact ⟨by simp, .inl ⟨_, _, rfl, run_takeDeferred h1, v, hr, hv⟩⟩
    cases e with
    | normal => exact fin hk
    | ret => exact fin hk
    | _ => exact hk.elim
end
end Go.Vc
end
section
namespace Go.M
inductive Tm where
  | mk (op a b : Int) (s : ByteArray) (ks : List Tm)
namespace Tm
def op : Tm → Int | mk o _ _ _ _ => o
def a : Tm → Int | mk _ a _ _ _ => a
def b : Tm → Int | mk _ _ b _ _ => b
def s : Tm → ByteArray | mk _ _ _ s _ => s
def ks : Tm → List Tm | mk _ _ _ _ ks => ks
theorem ind {p : Tm → Prop} (h : ∀ t, (∀ k, k ∈ t.ks → p k) → p t) : ∀ t, p t
  | mk o a b s ks => h _ fun k (hk : k ∈ ks) => by
      have := List.sizeOf_lt_of_mem hk
      exact ind h k
decreasing_by
  simp only [mk.sizeOf_spec]
  omega
variable {α : Type}
mutual
def fold (f : Tm → List α → α) : Tm → α
  | mk o a b s ks => f (mk o a b s ks) (foldL f ks)
def foldL (f : Tm → List α → α) : List Tm → List α
  | [] => []
  | k :: r => fold f k :: foldL f r
end
theorem foldL_eq (f : Tm → List α → α) (ks : List Tm) : foldL f ks = ks.map (fold f) := by
  induction ks with
  | nil => simp only [foldL, List.map_nil]
  | cons k r ih => simp only [foldL, ih, List.map_cons]
theorem fold_eq (f : Tm → List α → α) (t : Tm) : fold f t = f t (t.ks.map (fold f)) := by
  cases t with
  | mk o a b s ks => simp only [fold, foldL_eq]; rfl
end Tm
def nada : ByteArray := ⟨#[]⟩
instance : Inhabited Tm := ⟨.mk 0 0 0 nada []⟩
def vok (w n : Int) : Bool := decide (1 ≤ w) && decide (w ≤ 4) && decide (0 ≤ n) && decide (n < 2 ^ w.toNat)
theorem vok_iff {w n : Int} : vok w n = true ↔ 1 ≤ w ∧ w ≤ 4 ∧ 0 ≤ n ∧ n < 2 ^ w.toNat := by simp [vok, and_assoc]
theorem two1 : (2 : Int) ^ (1 : Int).toNat = 2 := rfl
theorem two2 : (2 : Int) ^ (2 : Int).toNat = 4 := rfl
theorem two3 : (2 : Int) ^ (3 : Int).toNat = 8 := rfl
theorem two4 : (2 : Int) ^ (4 : Int).toNat = 16 := rfl
theorem four {w : Int} (h1 : 1 ≤ w) (h2 : w ≤ 4) : w = 1 ∨ w = 2 ∨ w = 3 ∨ w = 4 := by omega
theorem vok_lt {w n : Int} (h : vok w n = true) : 1 ≤ w ∧ w ≤ 4 ∧ 0 ≤ n ∧ n < 16 := by
  obtain ⟨h1, h2, h3, h4⟩ := vok_iff.1 h
  refine ⟨h1, h2, h3, ?_⟩
  rcases four h1 h2 with rfl | rfl | rfl | rfl <;> simp only [two1, two2, two3, two4] at h4 <;> omega
theorem small1 {p : Nat → Nat → Prop} [∀ w n, Decidable (p w n)] (h : ∀ w : Fin 5, ∀ n : Fin 16, 1 ≤ w.1 → n.1 < 2 ^ w.1 → p w n) {w n : Int} (hv : vok w n = true) : p w.toNat n.toNat := by
  obtain ⟨h1, h2, h3, h4⟩ := vok_lt hv
  obtain ⟨_, _, _, h5⟩ := vok_iff.1 hv
  refine h ⟨w.toNat, by omega⟩ ⟨n.toNat, by omega⟩ (by show 1 ≤ w.toNat; omega) ?_
  show n.toNat < 2 ^ w.toNat
  have : ((2 ^ w.toNat : Nat) : Int) = 2 ^ w.toNat := by simp
  omega
def unM (op w a : Int) : Int := if op = 1 then 2 ^ w.toNat - 1 - a else (2 ^ w.toNat - a) % 2 ^ w.toNat
def binN (op w a b : Nat) : Nat :=
  if op = 3 then a &&& b
  else if op = 4 then a ||| b
  else if op = 5 then a ^^^ b
  else if op = 6 then (a + b) % 2 ^ w
  else if op = 7 then (a + 2 ^ w - b) % 2 ^ w
  else if op = 8 then a * b % 2 ^ w
  else if op = 9 then (if b = 0 then 2 ^ w - 1 else a / b)
  else if op = 10 then (if b = 0 then a else a % b)
  else if op = 11 then a * 2 ^ b % 2 ^ w
  else if op = 12 then a / 2 ^ b
  else if a < 2 ^ (w - 1) then a / 2 ^ b else 2 ^ w - 1 - (2 ^ w - 1 - a) / 2 ^ b
def binM (op w a b : Int) : Int := binN op.toNat w.toNat a.toNat b.toNat
def catM (v a b : Int) : Int := a * 2 ^ v.toNat + b
def sgn (w a : Int) : Int := if a < 2 ^ (w.toNat - 1) then a else a - 2 ^ w.toNat
def cmpM (op w a b : Int) : Bool := if op = 15 then decide (a = b) else if op = 16 then decide (a < b) else decide (sgn w a < sgn w b)
def cutM (a hi lo : Int) : Int := a / 2 ^ lo.toNat % 2 ^ (hi - lo + 1).toNat
theorem unM_ok {op w a : Int} (h : vok w a = true) : vok w (unM op w a) = true := by
  obtain ⟨h1, h2, h3, h4⟩ := vok_iff.1 h
  refine vok_iff.2 ⟨h1, h2, ?_⟩
  unfold unM
  rcases four h1 h2 with rfl | rfl | rfl | rfl <;> simp only [two1, two2, two3, two4] at h4 ⊢ <;> split <;> omega
def binCk (op w : Nat) : Bool := (List.range 16).all fun a => (List.range 16).all fun b => !(decide (a < 2 ^ w) && decide (b < 2 ^ w)) || decide (binN op w a b < 2 ^ w)
theorem binN_lt {op w a b : Nat} (h3 : 3 ≤ op) (h : op ≤ 13) (hw : 1 ≤ w) (hw' : w ≤ 4) (ha : a < 2 ^ w) (hb : b < 2 ^ w) : binN op w a b < 2 ^ w := by
  have hall : ∀ o : Fin 14, ∀ v : Fin 5, 3 ≤ o.1 → 1 ≤ v.1 → binCk o v = true := by decide +kernel
  have h16 : 2 ^ w ≤ 2 ^ 4 := Nat.pow_le_pow_right (by omega) hw'
  have := hall ⟨op, by omega⟩ ⟨w, by omega⟩ h3 hw
  simp only [binCk, List.all_eq_true, List.mem_range, Bool.or_eq_true, Bool.not_eq_true', Bool.and_eq_false_iff, decide_eq_false_iff_not, decide_eq_true_eq] at this
  rcases this a (by omega) b (by omega) with (h | h) | h
  · exact absurd ha h
  · exact absurd hb h
  · exact h
theorem binM_ok {op w a b : Int} (h3 : 3 ≤ op) (h13 : op ≤ 13) (ha : vok w a = true) (hb : vok w b = true) : vok w (binM op w a b) = true := by
  obtain ⟨h1, h2, h4, h5⟩ := vok_iff.1 ha
  obtain ⟨_, _, h4', h5'⟩ := vok_iff.1 hb
  have e : ((2 ^ w.toNat : Nat) : Int) = 2 ^ w.toNat := by simp
  have := binN_lt (op := op.toNat) (w := w.toNat) (a := a.toNat) (b := b.toNat) (by omega) (by omega) (by omega) (by omega) (by omega) (by omega)
  refine vok_iff.2 ⟨h1, h2, by unfold binM; omega, ?_⟩
  unfold binM; omega
theorem cat_ok {v w a b : Int} (ha : vok w a = true) (hb : vok v b = true) (hs : w + v ≤ 4) : vok (w + v) (catM v a b) = true := by
  obtain ⟨h1, h2, h3, h4⟩ := vok_iff.1 ha
  obtain ⟨k1, k2, k3, k4⟩ := vok_iff.1 hb
  refine vok_iff.2 ⟨by omega, hs, ?_⟩
  unfold catM
  have e : (w + v).toNat = w.toNat + v.toNat := by omega
  rw [e, Int.pow_add]
  rcases four h1 h2 with rfl | rfl | rfl | rfl <;> rcases four k1 k2 with rfl | rfl | rfl | rfl <;> simp only [two1, two2, two3, two4] at h4 k4 ⊢ <;> omega
theorem cut_ok {w a hi lo : Int} (ha : vok w a = true) (hlo : 0 ≤ lo) (hh : lo ≤ hi) (hw : hi < w) : vok (hi - lo + 1) (cutM a hi lo) = true := by
  obtain ⟨h1, h2, h3, h4⟩ := vok_iff.1 ha
  refine vok_iff.2 ⟨by omega, by omega, ?_⟩
  unfold cutM
  have : (0 : Int) < 2 ^ (hi - lo + 1).toNat := Int.pow_pos (by omega)
  exact ⟨Int.emod_nonneg _ (by omega), Int.emod_lt_of_pos _ this⟩
def vecUn (op w n : Int) : (Int × Int) × Bool := if vok w n = true ∧ (op = 1 ∨ op = 2) then ((w, unM op w n), true) else ((0, 0), false)
def vecBin (op w n v m : Int) : (Int × Int) × Bool :=
  if vok w n = true ∧ vok v m = true then
    if op = 14 then (if w + v ≤ 4 then ((w + v, catM v n m), true) else ((0, 0), false))
    else if 3 ≤ op ∧ op ≤ 13 ∧ w = v then ((w, binM op w n m), true) else ((0, 0), false)
  else ((0, 0), false)
def vecCmp (op w n v m : Int) : Bool × Bool :=
  if vok w n = true ∧ vok v m = true ∧ w = v ∧ 15 ≤ op ∧ op ≤ 17 then (cmpM op w n m, true) else (false, false)
def vecCut (w n hi lo : Int) : (Int × Int) × Bool := if vok w n = true ∧ 0 ≤ lo ∧ lo ≤ hi ∧ hi < w then ((hi - lo + 1, cutM n hi lo), true) else ((0, 0), false)
theorem vok_nat {w n : Int} (h : vok w n = true) : ∃ k a : Nat, w = k ∧ n = a ∧ 1 ≤ k ∧ k ≤ 4 ∧ a < 2 ^ k := by
  obtain ⟨h1, h2, h3, h4⟩ := vok_iff.1 h
  refine ⟨w.toNat, n.toNat, by omega, by omega, by omega, by omega, ?_⟩
  have : ((2 ^ w.toNat : Nat) : Int) = 2 ^ w.toNat := by simp
  omega
theorem unM_not {k a : Nat} (h1 : 1 ≤ k) (h2 : k ≤ 4) (h : a < 2 ^ k) : unM 1 k a = ((18446744073709551615 - a) % 2 ^ k : Nat) := by
  have hall : ∀ v : Fin 5, ∀ x : Fin 16, 1 ≤ v.1 → x.1 < 2 ^ v.1 → unM 1 v.1 x.1 = ((18446744073709551615 - x.1) % 2 ^ v.1 : Nat) := by decide +kernel
  have : 2 ^ k ≤ 2 ^ 4 := Nat.pow_le_pow_right (by omega) h2
  exact hall ⟨k, by omega⟩ ⟨a, by omega⟩ h1 h
theorem unM_neg {k a : Nat} (h1 : 1 ≤ k) (h2 : k ≤ 4) (h : a < 2 ^ k) : unM 2 k a = ((if a = 0 then 0 else 18446744073709551616 - a) % 2 ^ k : Nat) := by
  have hall : ∀ v : Fin 5, ∀ x : Fin 16, 1 ≤ v.1 → x.1 < 2 ^ v.1 → unM 2 v.1 x.1 = ((if x.1 = 0 then 0 else 18446744073709551616 - x.1) % 2 ^ v.1 : Nat) := by decide +kernel
  have : 2 ^ k ≤ 2 ^ 4 := Nat.pow_le_pow_right (by omega) h2
  exact hall ⟨k, by omega⟩ ⟨a, by omega⟩ h1 h
theorem cat_or {k v a b : Nat} (h2 : v ≤ 4) (hk : k ≤ 4) (ha : a < 2 ^ k) (hb : b < 2 ^ v) : ((a * 2 ^ v ||| b : Nat) : Int) = catM v a b := by
  have hall : ∀ v : Fin 5, ∀ x y : Fin 16, y.1 < 2 ^ v.1 → x.1 * 2 ^ v.1 ||| y.1 = x.1 * 2 ^ v.1 + y.1 := by decide +kernel
  have h4 : 2 ^ k ≤ 2 ^ 4 := Nat.pow_le_pow_right (by omega) hk
  have h5 : 2 ^ v ≤ 2 ^ 4 := Nat.pow_le_pow_right (by omega) h2
  have := hall ⟨v, by omega⟩ ⟨a, by omega⟩ ⟨b, by omega⟩ hb
  simp only at this
  rw [this]
  simp [catM]
end Go.M
end
section
namespace Go.M
open Go.Vc
abbrev Dcl := ByteArray × Int
def findD (ds : List Dcl) (s : ByteArray) : Int := idxI ds.length fun i => decide ((ds.getD i (nada, 0)).1 = s)
def tru : ByteArray := ⟨#[116, 114, 117, 101]⟩
def nameOk (s : ByteArray) : Bool := decide (1 ≤ s.size) && decide (s.size ≤ 4) && decide (s ≠ tru) && s.data.all fun c => decide (97 ≤ c.toNat) && decide (c.toNat ≤ 122)
def bits (ds : List Dcl) : Int := (ds.map (·.2)).sum
def dclOk (ds : List Dcl) (i : Nat) : Bool := nameOk (ds.getD i (nada, 0)).1 && decide (1 ≤ (ds.getD i (nada, 0)).2) && decide ((ds.getD i (nada, 0)).2 ≤ 4) && decide (findD (ds.take i) (ds.getD i (nada, 0)).1 < 0)
def declOk (ds : List Dcl) : Bool := decide (ds.length ≤ 4) && ((List.range ds.length).all fun i => dclOk ds i) && decide (bits ds ≤ 8)
def envOk (ds : List Dcl) (env : List Int) : Bool := declOk ds && decide (env.length = ds.length) && (List.range ds.length).all fun i => vok (ds.getD i (nada, 0)).2 (env.getD i 0)
theorem findD_lt (ds : List Dcl) (s : ByteArray) : -1 ≤ findD ds s ∧ findD ds s < ds.length := by
  unfold findD idxI
  split
  · rename_i i h
    have := List.mem_of_find?_eq_some h
    simp at this
    omega
  · omega
theorem findD_neg {ds : List Dcl} {s : ByteArray} (h : findD ds s < 0) {j : Nat} (hj : j < ds.length) : (ds.getD j (nada, 0)).1 ≠ s := by
  unfold findD idxI at h
  split at h
  · omega
  · rename_i hn
    rw [List.find?_eq_none] at hn
    have := hn j (List.mem_range.2 hj)
    simpa using this
theorem findD_get {ds : List Dcl} {s : ByteArray} (h : 0 ≤ findD ds s) : (ds.getD (findD ds s).toNat (nada, 0)).1 = s := by
  unfold findD idxI at h ⊢
  split at h
  · rename_i i hi
    have := List.find?_some hi
    simpa using this
  · omega
theorem findD_of {ds : List Dcl} {s : ByteArray} {i : Nat} (hi : i < ds.length) (h : (ds.getD i (nada, 0)).1 = s) (hl : ∀ j, j < i → (ds.getD j (nada, 0)).1 ≠ s) : findD ds s = i :=
  idxI_some hi (by simp only [h, decide_true]) fun j hj => decide_eq_false (hl j hj)
theorem findD_none {ds : List Dcl} {s : ByteArray} (hl : ∀ j, j < ds.length → (ds.getD j (nada, 0)).1 ≠ s) : findD ds s = -1 :=
  idxI_none fun j hj => decide_eq_false (hl j hj)
theorem decl_iff {ds : List Dcl} : declOk ds = true ↔ ds.length ≤ 4 ∧ (∀ i, i < ds.length → dclOk ds i = true) ∧ bits ds ≤ 8 := by
  simp only [declOk, Bool.and_eq_true, List.all_eq_true, List.mem_range, decide_eq_true_eq, and_assoc]
theorem take_getD {α : Type} {l : List α} {i j : Nat} {d : α} (h : j < i) : (l.take i).getD j d = l.getD j d := by
  simp [List.getD_eq_getElem?_getD, List.getElem?_take, h]
theorem dcl_apart {ds : List Dcl} (h : declOk ds = true) {i j : Nat} (hi : i < ds.length) (hj : j < i) : (ds.getD j (nada, 0)).1 ≠ (ds.getD i (nada, 0)).1 := by
  have := (decl_iff.1 h).2.1 i hi
  simp only [dclOk, Bool.and_eq_true, decide_eq_true_eq] at this
  have h2 := findD_neg this.2 (j := j) (by rw [List.length_take]; omega)
  rwa [take_getD hj] at h2
def bitT (ds : List Dcl) (i : Nat) : Int := ((ds.take i).map (·.2)).sum
theorem bitT_succ {ds : List Dcl} {i : Nat} (h : i < ds.length) : bitT ds (i + 1) = bitT ds i + (ds.getD i (nada, 0)).2 := by
  unfold bitT
  rw [List.take_add_one, List.getElem?_eq_getElem h, List.map_append, List.sum_append, List.getD_eq_getElem?_getD, List.getElem?_eq_getElem h]
  simp
theorem bitT_all (ds : List Dcl) : bitT ds ds.length = bits ds := by unfold bitT bits; rw [List.take_length]
theorem dcl_wide {ds : List Dcl} (h : declOk ds = true) {i : Nat} (hi : i < ds.length) : 1 ≤ (ds.getD i (nada, 0)).2 ∧ (ds.getD i (nada, 0)).2 ≤ 4 := by
  simp only [declOk, Bool.and_eq_true, List.all_eq_true, List.mem_range, dclOk, decide_eq_true_eq] at h
  obtain ⟨⟨_, h2⟩, _⟩ := h
  exact ⟨(h2 i hi).1.1.2, (h2 i hi).1.2⟩
theorem env_ok {ds : List Dcl} {env : List Int} (h : envOk ds env = true) : declOk ds = true ∧ env.length = ds.length ∧ ∀ i, i < ds.length → vok (ds.getD i (nada, 0)).2 (env.getD i 0) = true := by
  simp only [envOk, Bool.and_eq_true, List.all_eq_true, List.mem_range, decide_eq_true_eq] at h
  exact ⟨h.1.1, h.1.2, h.2⟩
def sizeM : Tm → Nat := Tm.fold fun _ xs => 1 + xs.sum
def deepM : Tm → Nat := Tm.fold fun _ xs => 1 + xs.foldl max 0
theorem sizeM_eq (t : Tm) : sizeM t = 1 + (t.ks.map sizeM).sum := Tm.fold_eq _ t
theorem deepM_eq (t : Tm) : deepM t = 1 + (t.ks.map deepM).foldl max 0 := Tm.fold_eq _ t
def szT (ks : List Tm) (i : Nat) : Nat := ((ks.take i).map sizeM).sum
def dpT (ks : List Tm) (i : Nat) : Nat := ((ks.take i).map deepM).foldl max 0
theorem take_add {α : Type} {l : List α} {i : Nat} (h : i < l.length) (d : α) : l.take (i + 1) = l.take i ++ [l.getD i d] := by
  rw [List.take_add_one, List.getElem?_eq_getElem h, List.getD_eq_getElem?_getD, List.getElem?_eq_getElem h]; rfl
theorem szT_succ {ks : List Tm} {i : Nat} (h : i < ks.length) : szT ks (i + 1) = szT ks i + sizeM (ks.getD i default) := by
  unfold szT; rw [take_add h default, List.map_append, List.sum_append]; simp
theorem dpT_succ {ks : List Tm} {i : Nat} (h : i < ks.length) : dpT ks (i + 1) = max (dpT ks i) (deepM (ks.getD i default)) := by
  unfold dpT; rw [take_add h default, List.map_append, List.foldl_append]; rfl
theorem szT_all (t : Tm) : sizeM t = 1 + szT t.ks t.ks.length := by rw [sizeM_eq, szT, List.take_length]
theorem dpT_all (t : Tm) : deepM t = 1 + dpT t.ks t.ks.length := by rw [deepM_eq, dpT, List.take_length]
theorem szT_mono {ks : List Tm} {i : Nat} : ∀ {j : Nat}, i ≤ j → j ≤ ks.length → szT ks i ≤ szT ks j
  | 0, h, _ => by have : i = 0 := by omega
                  subst this; exact Nat.le_refl _
  | j + 1, h, hj => by
    by_cases e : i = j + 1
    · subst e; exact Nat.le_refl _
    · have := szT_mono (ks := ks) (i := i) (j := j) (by omega) (by omega)
      rw [szT_succ (by omega)]; omega
theorem dpT_mono {ks : List Tm} {i : Nat} : ∀ {j : Nat}, i ≤ j → j ≤ ks.length → dpT ks i ≤ dpT ks j
  | 0, h, _ => by have : i = 0 := by omega
                  subst this; exact Nat.le_refl _
  | j + 1, h, hj => by
    by_cases e : i = j + 1
    · subst e; exact Nat.le_refl _
    · have := dpT_mono (ks := ks) (i := i) (j := j) (by omega) (by omega)
      rw [dpT_succ (by omega)]; omega
def fits (t : Tm) : Bool := decide (sizeM t ≤ 20) && decide (deepM t ≤ 7)
theorem fits_iff {t : Tm} : fits t = true ↔ sizeM t ≤ 20 ∧ deepM t ≤ 7 := by simp [fits]
def manyM (t : Tm) : Nat := if fits t then sizeM t else 21
def lvlM (t : Tm) : Nat := if fits t then deepM t else 8
def arity (o : Int) : Int := if o = 20 ∨ o = 21 ∨ o = 24 then 0 else if o = 1 ∨ o = 2 ∨ o = 22 ∨ o = 25 then 1 else if o = 23 then 3 else if o = 26 ∨ o = 27 then 2 else if 3 ≤ o ∧ o ≤ 17 then 2 else -1
def plainM (t : Tm) : Bool := (decide (t.op = 20) || decide (t.op = 22) || (decide (t.a = 0) && decide (t.b = 0))) && (decide (t.op = 21) || decide (t.s = nada))
def sortK (ds : List Dcl) (t : Tm) (xs : List Int) : Int :=
  if t.op = 20 then (if vok t.a t.b then t.a else -1)
  else if t.op = 21 then (if findD ds t.s < 0 then -1 else (ds.getD (findD ds t.s).toNat (nada, 0)).2)
  else if 24 ≤ t.op then (if xs.any (fun x => decide (x ≠ 0)) then -1 else 0)
  else if t.op = 23 then (if xs.getD 0 0 = 0 ∧ xs.getD 1 0 = xs.getD 2 0 then xs.getD 1 0 else -1)
  else if t.op = 22 then (if 0 ≤ t.b ∧ t.b ≤ t.a ∧ t.a < xs.getD 0 0 then t.a - t.b + 1 else -1)
  else if t.op ≤ 2 then (if 0 < xs.getD 0 0 then xs.getD 0 0 else -1)
  else if t.op = 14 then (if 0 < xs.getD 0 0 ∧ 0 < xs.getD 1 0 ∧ xs.getD 0 0 + xs.getD 1 0 ≤ 4 then xs.getD 0 0 + xs.getD 1 0 else -1)
  else if 15 ≤ t.op then (if 0 < xs.getD 0 0 ∧ xs.getD 0 0 = xs.getD 1 0 then 0 else -1)
  else (if 0 < xs.getD 0 0 ∧ xs.getD 0 0 = xs.getD 1 0 then xs.getD 0 0 else -1)
def formed (t : Tm) : Bool := decide (arity t.op = t.ks.length) && plainM t
def sortF (ds : List Dcl) (t : Tm) (xs : List Int) : Int := if formed t = true ∧ ¬ (-1 ∈ xs) then sortK ds t xs else -1
def sortM (ds : List Dcl) : Tm → Int := Tm.fold (sortF ds)
theorem sortM_eq (ds : List Dcl) (t : Tm) : sortM ds t = sortF ds t (t.ks.map (sortM ds)) := Tm.fold_eq _ t
theorem arity_ops {o : Int} (h : 0 ≤ arity o) : (1 ≤ o ∧ o ≤ 17) ∨ (20 ≤ o ∧ o ≤ 27) := by
  unfold arity at h
  repeat' (split at h)
  all_goals omega
theorem getD_map {α β : Type} (f : α → β) {l : List α} {i : Nat} (h : i < l.length) (d : β) (e : α) : (l.map f).getD i d = f (l.getD i e) := by
  simp [List.getD_eq_getElem?_getD, h]
theorem getD_mem {α : Type} {l : List α} {i : Nat} (h : i < l.length) (d : α) : l.getD i d ∈ l := by
  rw [List.getD_eq_getElem?_getD, List.getElem?_eq_getElem h]; exact List.getElem_mem h
theorem sort_parts {ds : List Dcl} {t : Tm} (h : sortM ds t ≠ -1) : formed t = true ∧ (∀ k, k ∈ t.ks → sortM ds k ≠ -1) ∧ sortM ds t = sortK ds t (t.ks.map (sortM ds)) := by
  rw [sortM_eq] at h ⊢
  unfold sortF at h ⊢
  split at h
  · rename_i hf
    rw [if_pos hf]
    exact ⟨hf.1, fun k hk e => hf.2 (e ▸ List.mem_map_of_mem hk), rfl⟩
  · exact absurd rfl h
theorem sort_range {ds : List Dcl} (hd : declOk ds = true) : ∀ t, -1 ≤ sortM ds t ∧ sortM ds t ≤ 4 := by
  refine Tm.ind fun t ih => ?_
  rw [sortM_eq]
  unfold sortF
  split
  · rename_i hf
    have hx : ∀ i, -1 ≤ (t.ks.map (sortM ds)).getD i 0 ∧ (t.ks.map (sortM ds)).getD i 0 ≤ 4 := fun i => by
      by_cases h : i < t.ks.length
      · rw [getD_map _ h 0 default]; exact ih _ (getD_mem h _)
      · rw [List.getD_eq_getElem?_getD, List.getElem?_eq_none (by simpa using h)]; simp
    have h0 := hx 0
    have h1 := hx 1
    have h2 := hx 2
    have har := arity_ops (o := t.op) (by
      have := hf.1
      simp only [formed, Bool.and_eq_true, decide_eq_true_eq] at this
      omega)
    unfold sortK
    split
    · split
      · rename_i hv; have := vok_lt hv; omega
      · omega
    · split
      · have hfd := findD_lt ds t.s
        split
        · omega
        · have := dcl_wide hd (i := (findD ds t.s).toNat) (by omega)
          omega
      · repeat' split
        all_goals omega
  · omega
def tsort (ds : List Dcl) (t : Tm) : Int := if fits t = true ∧ declOk ds = true then sortM ds t else -1
def b2i (b : Bool) : Int := if b then 1 else 0
def valK (ds : List Dcl) (env : List Int) (t : Tm) (xs : List (Int × Int)) : Int :=
  if t.op = 20 then t.b
  else if t.op = 21 then env.getD (findD ds t.s).toNat 0
  else if t.op = 24 then 1
  else if t.op = 25 then b2i (decide ((xs.getD 0 (0, 0)).2 = 0))
  else if t.op = 26 then b2i (decide ((xs.getD 0 (0, 0)).2 = 1) && decide ((xs.getD 1 (0, 0)).2 = 1))
  else if t.op = 27 then b2i (decide ((xs.getD 0 (0, 0)).2 = 1) || decide ((xs.getD 1 (0, 0)).2 = 1))
  else if t.op = 23 then (if (xs.getD 0 (0, 0)).2 = 1 then (xs.getD 1 (0, 0)).2 else (xs.getD 2 (0, 0)).2)
  else if t.op = 22 then cutM (xs.getD 0 (0, 0)).2 t.a t.b
  else if t.op ≤ 2 then unM t.op (xs.getD 0 (0, 0)).1 (xs.getD 0 (0, 0)).2
  else if t.op = 14 then catM (xs.getD 1 (0, 0)).1 (xs.getD 0 (0, 0)).2 (xs.getD 1 (0, 0)).2
  else if 15 ≤ t.op then b2i (cmpM t.op (xs.getD 0 (0, 0)).1 (xs.getD 0 (0, 0)).2 (xs.getD 1 (0, 0)).2)
  else binM t.op (xs.getD 0 (0, 0)).1 (xs.getD 0 (0, 0)).2 (xs.getD 1 (0, 0)).2
def vecF (ds : List Dcl) (env : List Int) (t : Tm) (xs : List (Int × Int)) : Int × Int := (sortF ds t (xs.map (·.1)), valK ds env t xs)
def vecM (ds : List Dcl) (env : List Int) : Tm → Int × Int := Tm.fold (vecF ds env)
def evalM (ds : List Dcl) (env : List Int) (t : Tm) : Int := (vecM ds env t).2
theorem vecM_eq (ds : List Dcl) (env : List Int) (t : Tm) : vecM ds env t = vecF ds env t (t.ks.map (vecM ds env)) := Tm.fold_eq _ t
theorem vecM_sort (ds : List Dcl) (env : List Int) : ∀ t, (vecM ds env t).1 = sortM ds t := by
  refine Tm.ind fun t ih => ?_
  rw [vecM_eq, sortM_eq]
  show sortF ds t _ = _
  rw [List.map_map]
  congr 1
  exact List.map_congr_left fun k hk => ih k hk
theorem vecM_pair (ds : List Dcl) (env : List Int) (t : Tm) : vecM ds env t = (sortM ds t, evalM ds env t) := by rw [← vecM_sort ds env t]; rfl
theorem evalM_eq (ds : List Dcl) (env : List Int) (t : Tm) : evalM ds env t = valK ds env t (t.ks.map (vecM ds env)) := by
  unfold evalM; rw [vecM_eq]; rfl
def inS (w n : Int) : Prop := (w = 0 ∧ (n = 0 ∨ n = 1)) ∨ vok w n = true
theorem inS_b {b : Bool} : inS 0 (b2i b) := by left; cases b <;> simp [b2i]
theorem inS_zero {n : Int} (h : inS 0 n) : n = 0 ∨ n = 1 := by
  rcases h with h | h
  · exact h.2
  · exact absurd (vok_lt h).1 (by omega)
theorem inS_pos {w n : Int} (h : inS w n) (hw : 0 < w) : vok w n = true := by
  rcases h with h | h
  · omega
  · exact h
def tok (ds : List Dcl) (t : Tm) (env : List Int) : Bool := decide (tsort ds t ≠ -1) && envOk ds env
def teval (ds : List Dcl) (t : Tm) (env : List Int) : Int := if tok ds t env then evalM ds env t else 0
theorem eval_in {ds : List Dcl} {env : List Int} (he : envOk ds env = true) : ∀ t, sortM ds t ≠ -1 → inS (sortM ds t) (evalM ds env t) := by
  obtain ⟨hd, hl, hv⟩ := env_ok he
  refine Tm.ind fun t ih h => ?_
  obtain ⟨hf, hk, hs⟩ := sort_parts h
  rw [hs] at h
  rw [hs, evalM_eq]
  simp only [formed, Bool.and_eq_true, decide_eq_true_eq] at hf
  obtain ⟨har, hpl⟩ := hf
  have hops := arity_ops (o := t.op) (by omega)
  have hx : ∀ i, i < t.ks.length → (t.ks.map (sortM ds)).getD i 0 = sortM ds (t.ks.getD i default) := fun i hi => getD_map _ hi _ _
  have hy : ∀ i, i < t.ks.length → (t.ks.map (vecM ds env)).getD i (0, 0) = (sortM ds (t.ks.getD i default), evalM ds env (t.ks.getD i default)) := fun i hi => by
    rw [getD_map _ hi _ default, vecM_pair]
  have hin : ∀ i, i < t.ks.length → inS (sortM ds (t.ks.getD i default)) (evalM ds env (t.ks.getD i default)) := fun i hi => ih _ (getD_mem hi _) (hk _ (getD_mem hi _))
  unfold sortK at h ⊢
  unfold valK
  by_cases h20 : t.op = 20
  · simp only [h20, if_true] at h ⊢
    split
    · right; assumption
    · rename_i hn; rw [if_neg hn] at h; exact absurd rfl h
  simp only [if_neg h20] at h ⊢
  by_cases h21 : t.op = 21
  · simp only [h21, if_true] at h ⊢
    have hfd := findD_lt ds t.s
    split
    · rename_i hn; rw [if_pos hn] at h; exact absurd rfl h
    · right; exact hv _ (by omega)
  simp only [if_neg h21] at h ⊢
  by_cases h24 : 24 ≤ t.op
  · simp only [if_pos h24] at h ⊢
    split
    · rename_i hn; rw [if_pos hn] at h; exact absurd rfl h
    · rcases (by omega : t.op = 24 ∨ t.op = 25 ∨ t.op = 26 ∨ t.op = 27) with e | e | e | e
      · left; simp [e]
      · simp only [e]; exact inS_b
      · simp only [e]; exact inS_b
      · simp only [e]; exact inS_b
  simp only [if_neg h24, if_neg (show ¬ t.op = 24 by omega), if_neg (show ¬ t.op = 25 by omega), if_neg (show ¬ t.op = 26 by omega), if_neg (show ¬ t.op = 27 by omega)] at h ⊢
  by_cases h23 : t.op = 23
  · simp only [h23, if_true] at h ⊢
    have h3 : t.ks.length = 3 := by rw [h23] at har; simp [arity] at har; omega
    rw [hx 0 (by omega), hx 1 (by omega), hx 2 (by omega)] at h ⊢
    rw [hy 0 (by omega), hy 1 (by omega), hy 2 (by omega)]
    split
    · rename_i hc
      simp only
      split
      · exact hin 1 (by omega)
      · rw [hc.2]; exact hin 2 (by omega)
    · rename_i hc; rw [if_neg hc] at h; exact absurd rfl h
  simp only [if_neg h23] at h ⊢
  by_cases h22 : t.op = 22
  · simp only [h22, if_true] at h ⊢
    have h3 : t.ks.length = 1 := by rw [h22] at har; simp [arity] at har; omega
    rw [hx 0 (by omega)] at h ⊢
    rw [hy 0 (by omega)]
    split
    · rename_i hc
      right
      exact cut_ok (inS_pos (hin 0 (by omega)) (by omega)) hc.1 hc.2.1 hc.2.2
    · rename_i hc; rw [if_neg hc] at h; exact absurd rfl h
  simp only [if_neg h22] at h ⊢
  by_cases h2 : t.op ≤ 2
  · simp only [if_pos h2] at h ⊢
    have h3 : t.ks.length = 1 := by
      have : t.op = 1 ∨ t.op = 2 := by omega
      rcases this with e | e <;> rw [e] at har <;> simp [arity] at har <;> omega
    rw [hx 0 (by omega)] at h ⊢
    rw [hy 0 (by omega)]
    split
    · rename_i hc
      right
      exact unM_ok (inS_pos (hin 0 (by omega)) (by omega))
    · rename_i hc; rw [if_neg hc] at h; exact absurd rfl h
  simp only [if_neg h2] at h ⊢
  have h3 : t.ks.length = 2 := by
    unfold arity at har
    rw [if_neg (by omega), if_neg (by omega), if_neg (by omega), if_neg (by omega), if_pos (by omega)] at har
    omega
  have e0 := hx 0 (by omega)
  have e1 := hx 1 (by omega)
  rw [e0, e1] at h ⊢
  rw [hy 0 (by omega), hy 1 (by omega)]
  have i0 := hin 0 (by omega)
  have i1 := hin 1 (by omega)
  by_cases h14 : t.op = 14
  · simp only [h14, if_true] at h ⊢
    split
    · rename_i hc
      right
      exact cat_ok (inS_pos i0 hc.1) (inS_pos i1 hc.2.1) hc.2.2
    · rename_i hc; rw [if_neg hc] at h; exact absurd rfl h
  simp only [if_neg h14] at h ⊢
  by_cases h15 : 15 ≤ t.op
  · simp only [if_pos h15] at h ⊢
    split
    · exact inS_b
    · rename_i hc; rw [if_neg hc] at h; exact absurd rfl h
  simp only [if_neg h15] at h ⊢
  split
  · rename_i hc
    right
    refine binM_ok (by omega) (by omega) (inS_pos i0 hc.1) ?_
    rw [hc.2]; exact inS_pos i1 (by omega)
  · rename_i hc; rw [if_neg hc] at h; exact absurd rfl h
end Go.M
end
section
namespace Go.Vc
open Go Go.M
section
variable {P : Program} {F F' S : Nat → Prop} {w w' : World} {K : Value → World → Prop} {k : Nat} {v : Value} {xs : List (List Value)}
theorem Sl.ldAgg (h : Sl F w k v xs) {t : TypeId} (ht : aggB P t k = true) {i : Nat} (hi : i < xs.length) : vload P t (.pointer (some (eaddr v k i))) w K = K (.agg ⟨xs.getD i []⟩) w := by
  have hl : (xs.getD i []).length = k := h.wide _ (M.getD_mem hi _)
  exact vload_agg (by rw [hl]; exact ht) (Sl.cells h hi)
theorem Sl.ldField (h : Sl F w k v xs) {t : TypeId} (ht : oneB P t = true) {i j : Nat} {x : Value} (hi : i < xs.length) (hx : (xs.getD i [])[j]? = some x) : vload P t (.pointer (some ((eaddr v k i).add j))) w K = K x w :=
  vload_one ht (Sl.cells h hi j x hx)
theorem Sl.small (h : Sl F w k v xs) : xs.length ≤ 9223372036854775807 := by
  obtain ⟨_, _, _, h1, h2, _⟩ := h.shape; omega
end
inductive TmR (F : Nat → Prop) (w : World) : List Value → Tm → Prop
  | mk {o a b : Int} {s : ByteArray} {ks : List Tm} {kv : Value} {css : List (List Value)} : Sl F w 5 kv css → css.length = ks.length → (∀ i, i < ks.length → TmR F w (css.getD i []) (ks.getD i default)) →
    TmR F w [.int .i64 o, .int .i64 a, .int .i64 b, .string s, kv] (.mk o a b s ks)
def TmsR (F : Nat → Prop) (w : World) (kv : Value) (ks : List Tm) : Prop := ∃ css : List (List Value), Sl F w 5 kv css ∧ css.length = ks.length ∧ ∀ i, i < ks.length → TmR F w (css.getD i []) (ks.getD i default)
def TermR (F : Nat → Prop) (w : World) (v : Value) (t : Tm) : Prop := ∃ kv, v = .agg ⟨[.int .i64 t.op, .int .i64 t.a, .int .i64 t.b, .string t.s, kv]⟩ ∧ TmsR F w kv t.ks
def DclsR (F : Nat → Prop) (w : World) (v : Value) (ds : List Dcl) : Prop := Sl F w 2 v (ds.map fun d => [.string d.1, .int .i64 d.2])
section
variable {P : Program} {F F' S : Nat → Prop} {w w' : World} {K : Value → World → Prop} {v : Value} {cs : List Value} {t : Tm} {ks : List Tm} {ds : List Dcl}
theorem TmR.same (h : TmR F w cs t) (hw : Same S w w') (hs : ∀ b, F b → b < w.heap.size → ¬ S b) : TmR F w' cs t := by
  induction h with
  | mk h1 h2 h3 ih => exact .mk (h1.same hw hs) h2 ih
theorem TmR.ext (h : TmR F w cs t) (hw : Ext w w') : TmR F w' cs t := h.same hw fun _ _ _ h => h
theorem TmR.weaken (h : TmR F w cs t) (hf : ∀ b, F b → b < w.heap.size → F' b) : TmR F' w cs t := by
  induction h with
  | mk h1 h2 h3 ih => exact .mk (h1.weaken hf) h2 ih
theorem TmR.inv (h : TmR F w cs t) : ∃ kv, cs = [.int .i64 t.op, .int .i64 t.a, .int .i64 t.b, .string t.s, kv] ∧ TmsR F w kv t.ks := by
  cases h with
  | mk h1 h2 h3 => exact ⟨_, rfl, _, h1, h2, h3⟩
theorem TmR.of {kv : Value} (h : TmsR F w kv t.ks) : TmR F w [.int .i64 t.op, .int .i64 t.a, .int .i64 t.b, .string t.s, kv] t := by
  obtain ⟨css, h1, h2, h3⟩ := h
  cases t with
  | mk o a b s ks => exact .mk h1 h2 h3
theorem TmR.term (h : TmR F w cs t) : TermR F w (.agg ⟨cs⟩) t := by
  obtain ⟨kv, rfl, hk⟩ := h.inv
  exact ⟨kv, rfl, hk⟩
theorem TermR.cells (h : TermR F w v t) : ∃ cs, v = .agg ⟨cs⟩ ∧ TmR F w cs t := by
  obtain ⟨kv, rfl, hk⟩ := h
  exact ⟨_, rfl, TmR.of hk⟩
theorem TmsR.same (h : TmsR F w v ks) (hw : Same S w w') (hs : ∀ b, F b → b < w.heap.size → ¬ S b) : TmsR F w' v ks := by
  obtain ⟨css, h1, h2, h3⟩ := h; exact ⟨css, h1.same hw hs, h2, fun i hi => (h3 i hi).same hw hs⟩
theorem TmsR.ext (h : TmsR F w v ks) (hw : Ext w w') : TmsR F w' v ks := h.same hw fun _ _ _ h => h
theorem TmsR.weaken (h : TmsR F w v ks) (hf : ∀ b, F b → b < w.heap.size → F' b) : TmsR F' w v ks := by
  obtain ⟨css, h1, h2, h3⟩ := h; exact ⟨css, h1.weaken hf, h2, fun i hi => (h3 i hi).weaken hf⟩
theorem TermR.same (h : TermR F w v t) (hw : Same S w w') (hs : ∀ b, F b → b < w.heap.size → ¬ S b) : TermR F w' v t := by
  obtain ⟨kv, h1, h2⟩ := h; exact ⟨kv, h1, h2.same hw hs⟩
theorem TermR.ext (h : TermR F w v t) (hw : Ext w w') : TermR F w' v t := h.same hw fun _ _ _ h => h
theorem TermR.weaken (h : TermR F w v t) (hf : ∀ b, F b → b < w.heap.size → F' b) : TermR F' w v t := by
  obtain ⟨kv, h1, h2⟩ := h; exact ⟨kv, h1, h2.weaken hf⟩
theorem TmsR.small (h : TmsR F w v ks) : ks.length ≤ 9223372036854775807 := by
  obtain ⟨css, h1, h2, h3⟩ := h; rw [← h2]; exact h1.small
theorem TmsR.len (h : TmsR F w v ks) {t : TypeId} (ht : isSl P t = true) (ty : TypeId) : vbi P .len [t] ty [v] w' K = K (.int .i64 ks.length) w' := by
  obtain ⟨css, h1, h2, h3⟩ := h
  have := Sl.len (K := K) (w' := w') h1 ht ty; rwa [h2] at this
theorem TmsR.iaddr (h : TmsR F w v ks) {t : TypeId} (ht : elB P t 5 = true) {kd : IntKind} {i : Int} (h0 : 0 ≤ i) (h1 : i < ks.length) :
    viaddr P t v (.int kd i) w' K = K (.pointer (some (eaddr v 5 i.toNat))) w' := by
  obtain ⟨css, h1', h2, h3⟩ := h
  exact Sl.iaddr h1' ht h0 (by rw [h2]; exact h1)
theorem TmsR.load (h : TmsR F w v ks) {t : TypeId} (ht : aggB P t 5 = true) {i : Nat} (hi : i < ks.length) (hK : ∀ x, TermR F w x (ks.getD i default) → K x w) : vload P t (.pointer (some (eaddr v 5 i))) w K := by
  obtain ⟨css, h1, h2, h3⟩ := h
  rw [h1.ldAgg ht (by omega)]
  exact hK _ (h3 i hi).term
theorem TmsR.nil : TmsR F w (.slice none 0 0) [] := ⟨[], ⟨⟨none, 0, rfl, by simp, by simp, by simp⟩, by simp⟩, rfl, by simp⟩
theorem DclsR.same (h : DclsR F w v ds) (hw : Same S w w') (hs : ∀ b, F b → b < w.heap.size → ¬ S b) : DclsR F w' v ds := Sl.same h hw hs
theorem DclsR.ext (h : DclsR F w v ds) (hw : Ext w w') : DclsR F w' v ds := Sl.ext h hw
theorem DclsR.weaken (h : DclsR F w v ds) (hf : ∀ b, F b → b < w.heap.size → F' b) : DclsR F' w v ds := Sl.weaken h hf
theorem DclsR.len (h : DclsR F w v ds) {t : TypeId} (ht : isSl P t = true) (ty : TypeId) : vbi P .len [t] ty [v] w' K = K (.int .i64 ds.length) w' := by
  have := Sl.len (K := K) (w' := w') h ht ty; rwa [List.length_map] at this
theorem DclsR.iaddr (h : DclsR F w v ds) {t : TypeId} (ht : elB P t 2 = true) {kd : IntKind} {i : Int} (h0 : 0 ≤ i) (h1 : i < ds.length) :
    viaddr P t v (.int kd i) w' K = K (.pointer (some (eaddr v 2 i.toNat))) w' := Sl.iaddr h ht h0 (by rw [List.length_map]; exact h1)
theorem dcl_getD {i : Nat} (hi : i < ds.length) : (ds.map fun d => [Value.string d.1, Value.int .i64 d.2]).getD i [] = [.string (ds.getD i (nada, 0)).1, .int .i64 (ds.getD i (nada, 0)).2] := M.getD_map _ hi _ _
theorem DclsR.load (h : DclsR F w v ds) {t : TypeId} (ht : aggB P t 2 = true) {i : Nat} (hi : i < ds.length) : vload P t (.pointer (some (eaddr v 2 i))) w K = K (.agg ⟨[.string (ds.getD i (nada, 0)).1, .int .i64 (ds.getD i (nada, 0)).2]⟩) w := by
  rw [Sl.ldAgg h ht (by rw [List.length_map]; exact hi), dcl_getD hi]
theorem DclsR.load0 (h : DclsR F w v ds) {t : TypeId} (ht : oneB P t = true) {i : Nat} (hi : i < ds.length) : vload P t (.pointer (some ((eaddr v 2 i).add 0))) w K = K (.string (ds.getD i (nada, 0)).1) w :=
  Sl.ldField h ht (by rw [List.length_map]; exact hi) (by rw [dcl_getD hi]; rfl)
theorem DclsR.load1 (h : DclsR F w v ds) {t : TypeId} (ht : oneB P t = true) {i : Nat} (hi : i < ds.length) : vload P t (.pointer (some ((eaddr v 2 i).add 1))) w K = K (.int .i64 (ds.getD i (nada, 0)).2) w :=
  Sl.ldField h ht (by rw [List.length_map]; exact hi) (by rw [dcl_getD hi]; rfl)
theorem DclsR.small (h : DclsR F w v ds) : ds.length ≤ 9223372036854775807 := by have := Sl.small h; simpa using this
theorem Sl.base {k : Nat} {xs : List (List Value)} (h : Sl F w k v xs) (hne : xs ≠ []) : ∀ a l c, v = .slice (some a) l c → ∃ b o, a = ⟨b, o, none⟩ := by
  intro a l c e
  obtain ⟨a', c', rfl, _, _, hc⟩ := h.shape
  obtain ⟨b, o, rfl, _⟩ := hc hne
  injection e with e1 e2 e3
  injection e1 with e1
  exact ⟨b, o, e1.symm⟩
theorem Sl.taken {k : Nat} {xs : List (List Value)} (h : Sl F w k v xs) {n : Nat} (hn : n ≤ xs.length) : Sl F w k (cutV v n) (xs.take n) := by
  obtain ⟨a, c, rfl, h1, h2, hc⟩ := h.shape
  have hl : (xs.take n).length = n := by rw [List.length_take]; omega
  refine ⟨⟨a, c, by rw [hl]; rfl, by omega, h2, fun hne => ?_⟩, fun x hx => h.wide x (List.mem_of_mem_take hx)⟩
  have hne' : xs ≠ [] := fun e => hne (by rw [e, List.take_nil])
  obtain ⟨b, o, e, hb, hlt, hcell⟩ := hc hne'
  refine ⟨b, o, e, hb, hlt, fun i hi => ?_⟩
  rw [hl] at hi
  rw [M.take_getD hi]
  exact hcell i (by omega)
theorem DclsR.cut (h : DclsR F w v ds) (hne : ds ≠ []) {t : TypeId} (ht : elB P t 2 = true) {kd : IntKind} {n : Nat} (hn : n ≤ ds.length) : vslice P t v none (some (.int kd n)) none w' K = K (cutV v n) w' :=
  Sl.cut h (Sl.base h (by simpa using hne)) ht (by rw [List.length_map]; exact hn)
theorem DclsR.taken (h : DclsR F w v ds) {n : Nat} (hn : n ≤ ds.length) : DclsR F w (cutV v n) (ds.take n) := by
  unfold DclsR; rw [List.map_take]; exact Sl.taken h (by rw [List.length_map]; exact hn)
theorem Blk.sl1k {b k : Nat} {cs : List Value} {e : TypeId} (h : Blk w b cs e) (hk : cs.length = k) : Sl (· = b) w k (.slice (some ⟨b, 0, none⟩) 1 1) [cs] := by
  refine ⟨⟨_, 1, rfl, Nat.le_refl _, by decide, fun _ => ⟨b, 0, rfl, rfl, h.lt, fun i hi j v hj => ?_⟩⟩, by simp [hk]⟩
  have hi0 : i = 0 := by simpa using hi
  subst hi0
  rw [addr_add]
  simp only [Nat.zero_mul, Nat.zero_add, Nat.add_zero]
  exact h.cell hj
theorem Own.app1k {bs ty b k : Nat} {t e : TypeId} {xs : List (List Value)} {y : List Value} (h : Own P 0 k t w v xs) (hT : elZ P t k bs = true) (hk : 0 < k) (hb : Blk w b y e) (hy : y.length = k) (hone : ∀ c, c ∈ y → c.oneCell' = true)
    (h63 : xs.length < 9223372036854775807) (hlen : (xs.length + 1) * bs ≤ 140737488355328)
    (hK : ∀ v' w', Own P 0 k t w' v' (xs ++ [y]) → Same (fun b => v.ownBlock = some b) w w' → (∀ b, v'.ownBlock = some b → v.ownBlock = some b ∨ w.heap.size ≤ b) → K v' w') : vbi P .append [t, t] ty [v, .slice (some ⟨b, 0, none⟩) 1 1] w K :=
  vappend (F := (· = b)) hT hk h (hb.sl1k hy) (by simpa using hone) (by omega) (by rw [List.length_singleton]; omega) (by simpa using hlen) hK
theorem vbuildS1 {t e k : Nat} {z x : Value} {y : List Value} (hu : P.underlying t = some (.slice e)) (hz : sizeB P e k = true) (hzero : zeroB P e z) (hx : x.cells = ⟨y⟩) (hy : y.length = k) (hk : k ≤ 16777216)
    (hK : ∀ b w', b = w.heap.size → Ext w w' → w'.heap.size = w.heap.size + 1 → Blk w' b y e → K (.slice (some ⟨b, 0, none⟩) 1 1) w') : vbuildS P t 1 [(0, x)] w K := by
  refine vbuildS_row (xs := [x]) (us := [y]) hu hz hzero (by simp [hx]) (by simp [hy]) (by simpa using hk) fun b w' h1 h2 h3 h4 => hK b w' h1 h2 h3 (by simpa using h4)
theorem Blk.ownk {b k n : Nat} {t : TypeId} {css : List (List Value)} (h : Blk w b css.flatten (elOf P t)) (hw : ∀ x, x ∈ css → x.length = k) (hn : n = css.length) (hm : n ≤ 9223372036854775807) : Own P 0 k t w (.slice (some ⟨b, 0, none⟩) n n) css := by
  subst hn
  have hl := flatten_len hw
  refine ⟨⟨by rw [hl], .inr ⟨b, css.length, ⟨css.flatten⟩, by simp, Nat.zero_le _, h, Nat.le_refl _, by simpa [maxLen] using hm, by simpa using hl, ?_⟩⟩, hw⟩
  show List.take (css.length * k) css.flatten = css.flatten
  rw [← hl, List.take_length]
theorem flatten_set {k : Nat} : ∀ {xs : List (List Value)} (_ : ∀ x, x ∈ xs → x.length = k) {i j : Nat} (u : Value), i < xs.length → j < k → xs.flatten.set (i * k + j) u = (xs.set i ((xs.getD i []).set j u)).flatten
  | [], _, i, j, u, hi, _ => by simp at hi
  | x :: r, h, i, j, u, hi, hj => by
    have hx := h x List.mem_cons_self
    cases i with
    | zero =>
      rw [Nat.zero_mul, Nat.zero_add]
      simp only [List.flatten_cons, List.set_cons_zero, List.getD_cons_zero]
      rw [List.set_append_left _ _ (by omega)]
    | succ i =>
      simp only [List.flatten_cons, List.set_cons_succ, List.getD_cons_succ]
      rw [List.set_append_right _ _ (by rw [Nat.add_mul]; omega)]
      congr 1
      have e : (i + 1) * k + j - x.length = i * k + j := by rw [Nat.add_mul]; omega
      rw [e, flatten_set (fun y hy => h y (List.mem_cons_of_mem _ hy)) u (by simpa using hi) hj]
theorem Own.stCell {k : Nat} {t e : TypeId} {xs : List (List Value)} {x : Value} (h : Own P 0 k t w v xs) (hv : x.cells = #[x]) (h1 : x.oneCell' = true) (hz : sizeB P e 1 = true) {i j : Nat} (hi : i < xs.length) (hj : j < k)
    (hK : ∀ w', Own P 0 k t w' v (xs.set i ((xs.getD i []).set j x)) → Same (fun b => v.ownBlock = some b) w w' → w'.heap.size = w.heap.size → K undef w') : vstore P e (.pointer (some ((eaddr v k i).add j))) x w K := by
  rcases h.row.2 with ⟨rfl, hn⟩ | ⟨g, cap, cur, rfl, hbg, hg, hnc, hcm, hcs, htake⟩
  · omega
  · have hrow := h.row
    have hij : i * k + j < xs.length * k := by
      have : i * k + k ≤ xs.length * k := by rw [← Nat.succ_mul]; exact Nat.mul_le_mul_right _ hi
      omega
    have hc := World.ownsRow.cellAt hrow (i * k + j) hij
    have hf := World.ownsRow.frozenAt hrow (i * k + j)
    obtain ⟨hs1, hs2⟩ := World.ownsRow.stored hrow (i * k + j) x
    have hlx : (xs.getD i []).length = k := h.wide _ (M.getD_mem hi _)
    have hcell : w.cell? ⟨g, i * k + j, none⟩ = some (xs.flatten.getD (i * k + j) undef) := by
      rw [hc]
      have : i * k + j < xs.flatten.length := by rw [flatten_len h.wide]; exact hij
      rw [List.getD_eq_getElem?_getD, List.getElem?_eq_getElem this]; rfl
    have ha : (⟨g, i * k + j, none⟩ : Addr).add 0 = ⟨g, i * k + j, none⟩ := rfl
    have he : (eaddr (.slice (some ⟨g, 0, none⟩) xs.length cap) k i).add j = ⟨g, i * k + j, none⟩ := by
      simp only [eaddr]; rw [addr_add]; simp
    rw [he]
    refine ⟨(), w.setCell ⟨g, i * k + j, none⟩ x, ?_, hK _ ?_ (Same.of_grown hs2) (by simp)⟩
    · simp only [Instr.storeAt, Instr.sureAddr, Sem.run_bind, Sem.run_pure, Result.andThen_ok, storeVar, run_sizeOf hz, hv]
      cases x <;> first | (cases h1; done) | simp [storeCells, store, Sem.run, ha, hcell, hf]
    · refine ⟨?_, fun y hy => ?_⟩
      · rw [← flatten_set h.wide x hi hj]
        simpa using hs1
      · obtain ⟨q, hq, rfl⟩ := List.getElem_of_mem hy
        rw [List.getElem_set]
        split
        · rw [List.length_set]; exact hlx
        · exact h.wide _ (List.getElem_mem _)
def PairsR (F : Nat → Prop) (w : World) (v : Value) (xs : List (Int × Int)) : Prop := Sl F w 2 v (xs.map fun x => [.int .i64 x.1, .int .i64 x.2])
def OwnP (P : Program) (t : TypeId) (w : World) (v : Value) (xs : List (Int × Int)) : Prop := Own P 0 2 t w v (xs.map fun x => [.int .i64 x.1, .int .i64 x.2])
variable {xs : List (Int × Int)}
theorem PairsR.ext (h : PairsR F w v xs) (hw : Ext w w') : PairsR F w' v xs := Sl.ext h hw
theorem PairsR.same (h : PairsR F w v xs) (hw : Same S w w') (hs : ∀ b, F b → b < w.heap.size → ¬ S b) : PairsR F w' v xs := Sl.same h hw hs
theorem PairsR.iaddr (h : PairsR F w v xs) {t : TypeId} (ht : elB P t 2 = true) {kd : IntKind} {i : Int} (h0 : 0 ≤ i) (h1 : i < xs.length) :
    viaddr P t v (.int kd i) w' K = K (.pointer (some (eaddr v 2 i.toNat))) w' := Sl.iaddr h ht h0 (by rw [List.length_map]; exact h1)
theorem PairsR.len (h : PairsR F w v xs) {t : TypeId} (ht : isSl P t = true) (ty : TypeId) : vbi P .len [t] ty [v] w' K = K (.int .i64 xs.length) w' := by
  have := Sl.len (K := K) (w' := w') h ht ty; rwa [List.length_map] at this
theorem PairsR.load (h : PairsR F w v xs) {t : TypeId} (ht : aggB P t 2 = true) {i : Nat} (hi : i < xs.length) : vload P t (.pointer (some (eaddr v 2 i))) w K = K (.agg ⟨[.int .i64 (xs.getD i (0, 0)).1, .int .i64 (xs.getD i (0, 0)).2]⟩) w := by
  rw [Sl.ldAgg h ht (by rw [List.length_map]; exact hi), M.getD_map _ hi _ (0, 0)]
theorem PairsR.load1 (h : PairsR F w v xs) {t : TypeId} (ht : oneB P t = true) {i : Nat} (hi : i < xs.length) : vload P t (.pointer (some ((eaddr v 2 i).add 1))) w K = K (.int .i64 (xs.getD i (0, 0)).2) w :=
  Sl.ldField h ht (by rw [List.length_map]; exact hi) (by rw [M.getD_map _ hi _ (0, 0)]; rfl)
theorem OwnP.pairs {t : TypeId} (h : OwnP P t w v xs) : PairsR (fun b => v.ownBlock = some b) w v xs := Own.sl h
theorem OwnP.ext {t : TypeId} (h : OwnP P t w v xs) (hw : Ext w w') : OwnP P t w' v xs := Own.ext h hw
theorem OwnP.nil (t : TypeId) : OwnP P t w (.slice none 0 0) [] := Own.nil P 0 2 t w
end
end Go.Vc
end
