/- Struct values that are built. -/
import Derived.Test.YtpihgpfebhegmaaGreatVcU
import Derived.Laws.Tables
import Derived.Laws.Cover3
import Derived.Laws.CopyRow
set_option linter.unusedVariables false
set_option linter.unusedSimpArgs false
set_option linter.unnecessarySimpa false
set_option linter.unusedSectionVars false
namespace Go.Vc
open Go

/-- A struct type: its fields' places and sizes, its zero value's cells. -/
def strF (P : Program) (t : TypeId) : Option (List (Nat × Nat) × List Value) :=
  match P.underlying t, P.info? t with
  | some (.struct fs), some i =>
    match fs.toList.mapM (fun f => (P.info? f.type).map fun j => (f.offset, j.size)), i.zero with
    | some pl, some z => some (pl, z.cells.toList)
    | _, _ => none
  | _, _ => none

def setL (cs : List Value) (o : Nat) : List Value → List Value
  | [] => cs
  | c :: r => setL (cs.set o c) (o + 1) r
def fillC (pl : List (Nat × Nat)) (cs : List Value) : List Nat → List (List Value) → Option (List Value)
  | [], [] => some cs
  | i :: is, u :: us =>
    match pl[i]? with
    | none => none
    | some (o, s) => if Nat.beq u.length s && Nat.ble (o + s) cs.length then fillC pl (setL cs o u) is us else none
  | _, _ => none

section
variable {P : Program} {t : TypeId} {w : World} {K : Value → World → Prop}

theorem setL_len (us : List Value) : ∀ (cs : List Value) (o : Nat), (setL cs o us).length = cs.length := by
  induction us with
  | nil => intro cs o; rfl
  | cons u r ih => intro cs o; simp [setL, ih]
theorem foldl_set (us : List Value) : ∀ (cs : List Value) (o k : Nat), ((us.zipIdx k).foldl (fun (cs : Array Value) (c, j) => cs.setIfInBounds (o + j) c) ⟨cs⟩) = ⟨setL cs (o + k) us⟩ := by
  induction us with
  | nil => intro cs o k; rfl
  | cons u r ih =>
    intro cs o k
    rw [List.zipIdx_cons, List.foldl_cons]
    simp only [List.setIfInBounds_toArray, setL]
    rw [ih, Nat.add_assoc]

theorem fill_eq {pl : List (Nat × Nat)} : ∀ {ps : List (Nat × Value)} {us : List (List Value)} {zs cs : List Value}, ps.map (fun p => p.2.cells) = us.map List.toArray → fillC pl zs (ps.map (·.1)) us = some cs →
    Instr.fill (pl.toArray[·]?) ⟨zs⟩ ps = some ⟨cs⟩
  | [], [], zs, cs, _, h => by simp only [List.map_nil, fillC, Option.some.injEq] at h; rw [h]; rfl
  | [], u :: us, _, _, h, _ => by cases h
  | p :: ps, [], _, _, h, _ => by cases h
  | (i, v) :: ps, u :: us, zs, cs, hv, h => by
    simp only [List.map_cons, List.cons.injEq] at hv
    simp only [List.map_cons, fillC] at h
    unfold Instr.fill
    simp only [List.getElem?_toArray]
    split at h
    · cases h
    · rename_i o s hp
      rw [hp]
      simp only
      split at h
      · rename_i hc
        rw [Bool.and_eq_true] at hc
        have h1 := Nat.eq_of_beq_eq_true hc.1
        have h2 := Nat.le_of_ble_eq_true hc.2
        have e := hv.1
        simp only [e]
        have hcond : (decide ((List.toArray u).size ≠ s) || decide (o + (List.toArray u).size > (List.toArray zs).size)) = false := by simp [h1]; omega
        rw [hcond]
        simp only [Bool.false_eq_true, if_false]
        rw [← Array.foldl_toList, Array.toList_zipIdx, foldl_set, Nat.add_zero]
        have := fill_eq hv.2 h
        simpa only [List.getElem?_toArray] using this
      · cases h

theorem vbuild_str {pl : List (Nat × Nat)} {ps : List (Nat × Value)} {us : List (List Value)} {zs cs : List Value} (h : strF P t = some (pl, zs)) (hv : ps.map (fun p => p.2.cells) = us.map List.toArray)
    (hf : fillC pl zs (ps.map (·.1)) us = some cs) (hK : K (.agg ⟨cs⟩) w) : vbuild P t ps w K := by
  refine ⟨_, w, run_build (P := P) w t ⟨ps⟩ ⟨cs⟩ ?_, hK⟩
  unfold strF at h
  split at h
  · rename_i fs i hu hi
    split at h
    · rename_i pl' z hp hz
      simp only [Option.some.injEq, Prod.mk.injEq] at h
      obtain ⟨rfl, rfl⟩ := h
      simp only [Program.built, hu, hi, hz, hp]
      exact fill_eq hv hf
    · cases h
  · cases h
/-- A whole struct is written. -/
theorem Blk.stAgg {b : Nat} {cs cs' : List Value} {t0 : TypeId} (h : Blk w b cs t0) (hl : cs'.length = cs.length) (hz : aggB P t cs'.length = true) (h1 : ∀ v, v ∈ cs' → v.oneCell' = true)
    (hK : ∀ w', Same (· = b) w w' → w'.heap.size = w.heap.size → Blk w' b cs' t0 → K undef w') : vstore P t (.pointer (some ⟨b, 0, none⟩)) (.agg ⟨cs'⟩) w K := by
  have hr := run_storeCells_at (P := P) b 0 t0 cs' 0 ⟨cs⟩ w h (by simp [hl]) h1
  refine ⟨(), _, ?_, hK (w.setRow b (cs'.toArray)) ⟨rfl, rfl, rfl, by simp, fun k _ hk => setRow_other w b k _ hk⟩ (by simp) (setRow_heap w b _ _ t0 _ h)⟩
  simp only [Instr.storeAt, Instr.sureAddr, Sem.run_bind, Sem.run_pure, Result.andThen_ok, storeVar, run_sizeOf_agg hz, Value.cells]
  simp only [List.size_toArray, ne_eq, not_true_eq_false, if_false]
  have e : (cs.take (0 + 0) ++ cs' ++ cs.drop (0 + 0 + cs'.length)) = cs' := by rw [hl]; simp
  simp only [e] at hr
  exact hr
theorem vbin_slnil {c : Bool} {a : Option Addr} {l k : Nat} (h : isSl P t = true) : vbin P .eql t c (.slice a l k) (.slice none 0 0) w K = K (.bool a.isNone) w := by
  obtain ⟨e, he⟩ := isSl_eq h
  refine vbin_run ?_ ?_
  · simp [eqG, eqGuard]
  · simp [binOp, run_equal_slice_nil w t e a l k he, Result.andThen]
theorem vbin_slnil_ne {c : Bool} {a : Option Addr} {l k : Nat} (h : isSl P t = true) : vbin P .neq t c (.slice a l k) (.slice none 0 0) w K = K (.bool (!a.isNone)) w := by
  obtain ⟨e, he⟩ := isSl_eq h
  refine vbin_run ?_ ?_
  · simp [eqG, eqGuard]
  · simp [binOp, run_equal_slice_nil w t e a l k he, Result.andThen]
/-- Slices are one cell. -/
theorem Sl.cells1 {F : Nat → Prop} {k : Nat} {v : Value} {xs : List (List Value)} (h : Sl F w k v xs) : v.cells = #[v] := by
  obtain ⟨a, c, rfl, _⟩ := h.shape; rfl
theorem Sl.one {F : Nat → Prop} {k : Nat} {v : Value} {xs : List (List Value)} (h : Sl F w k v xs) : v.oneCell' = true := by
  obtain ⟨a, c, rfl, _⟩ := h.shape; rfl
end
end Go.Vc
