/- Typed views of slices; calls; function values. -/
import Derived.Test.YtbiabimalkkeiaaGreatDoorVcR
set_option linter.unusedVariables false
set_option linter.unusedSimpArgs false
set_option linter.unnecessarySimpa false
set_option linter.unusedSectionVars false
namespace Go.Vc
open Go

theorem vcall.mono {P : Program} {g : Nat} {args : Array Value} {w : World} {K K' : Value → World → Prop} (h : vcall P g args w K) (hk : ∀ v w', K v w' → K' v w') : vcall P g args w K' :=
  ⟨h.1, Calls.mono h.2 fun e w' he => by cases e <;> first | exact hk _ _ he | exact he.elim⟩

def intOf : Value → Int | .int _ n => n | _ => 0
@[push_cast] theorem intOf_int (k : IntKind) (n : Int) : intOf (.int k n) = n := rfl
attribute [push_cast] Int.toNat_natCast

/-- A slice of elements of one cell. -/
def Vals (F : Nat → Prop) (w : World) (v : Value) (vs : List Value) : Prop := Sl F w 1 v (vs.map fun x => [x])
/-- A slice of ints. -/
def Ints (F : Nat → Prop) (w : World) (v : Value) (xs : List Int) : Prop := Vals F w v (xs.map fun x => .int .i64 x)
def Bools (F : Nat → Prop) (w : World) (v : Value) (xs : List Bool) : Prop := Vals F w v (xs.map fun x => .bool x)
/-- A slice of slices of ints. -/
def Lists (F : Nat → Prop) (w : World) (v : Value) (xss : List (List Int)) : Prop :=
  ∃ vs : List Value, vs.length = xss.length ∧ Vals F w v vs ∧ ∀ i, i < xss.length → Ints F w (vs.getD i undef) (xss.getD i [])

section
variable {P : Program} {F F' S : Nat → Prop} {w w' : World} {K : Value → World → Prop} {v : Value} {vs : List Value} {xs : List Int} {bs : List Bool} {xss : List (List Int)}
theorem Vals.ext (h : Vals F w v vs) (hw : Ext w w') : Vals F w' v vs := Sl.ext h hw
theorem Vals.same (h : Vals F w v vs) (hw : Same S w w') (hs : ∀ b, F b → b < w.heap.size → ¬ S b) : Vals F w' v vs := Sl.same h hw hs
theorem Vals.weaken (h : Vals F w v vs) (hf : ∀ b, F b → b < w.heap.size → F' b) : Vals F' w v vs := Sl.weaken h hf
theorem Vals.len (h : Vals F w v vs) {t : TypeId} (ht : isSl P t = true) (ty : TypeId) : vbi P .len [t] ty [v] w' K = K (.int .i64 vs.length) w' := by
  have := Sl.len (K := K) (w' := w') h ht ty; rwa [List.length_map] at this
theorem Vals.iaddr (h : Vals F w v vs) {t : TypeId} (ht : elB P t 1 = true) {kd : IntKind} {i : Int} (h0 : 0 ≤ i) (h1 : i < vs.length) :
    viaddr P t v (.int kd i) w' K = K (.pointer (some (eaddr v 1 i.toNat))) w' := Sl.iaddr h ht h0 (by rw [List.length_map]; exact h1)
theorem Vals.load (h : Vals F w v vs) {e : TypeId} (he : oneB P e = true) {i : Nat} (hi : i < vs.length) : vload P e (.pointer (some (eaddr v 1 i))) w K = K (vs.getD i undef) w := by
  have hc := Sl.cells h (i := i) (by rw [List.length_map]; exact hi)
  have := hc 0 (vs.getD i undef) (by simp [List.getD_eq_getElem?_getD, hi])
  exact vload_one he this

theorem Ints.ext (h : Ints F w v xs) (hw : Ext w w') : Ints F w' v xs := Vals.ext h hw
theorem Ints.same (h : Ints F w v xs) (hw : Same S w w') (hs : ∀ b, F b → b < w.heap.size → ¬ S b) : Ints F w' v xs := Vals.same h hw hs
theorem Ints.weaken (h : Ints F w v xs) (hf : ∀ b, F b → b < w.heap.size → F' b) : Ints F' w v xs := Vals.weaken h hf
theorem Ints.len (h : Ints F w v xs) {t : TypeId} (ht : isSl P t = true) (ty : TypeId) : vbi P .len [t] ty [v] w' K = K (.int .i64 xs.length) w' := by
  have := Vals.len (K := K) (w' := w') h ht ty; rwa [List.length_map] at this
theorem Ints.iaddr (h : Ints F w v xs) {t : TypeId} (ht : elB P t 1 = true) {kd : IntKind} {i : Int} (h0 : 0 ≤ i) (h1 : i < xs.length) :
    viaddr P t v (.int kd i) w' K = K (.pointer (some (eaddr v 1 i.toNat))) w' := Vals.iaddr h ht h0 (by rw [List.length_map]; exact h1)
theorem ints_getD {i : Nat} (hi : i < xs.length) : (xs.map fun x => Value.int .i64 x).getD i undef = .int .i64 (xs.getD i 0) := by
  simp [List.getD_eq_getElem?_getD, hi]
theorem Ints.load (h : Ints F w v xs) {e : TypeId} (he : oneB P e = true) {i : Nat} (hi : i < xs.length) : vload P e (.pointer (some (eaddr v 1 i))) w K = K (.int .i64 (xs.getD i 0)) w := by
  rw [Vals.load h he (by rw [List.length_map]; exact hi), ints_getD hi]

theorem Bools.ext (h : Bools F w v bs) (hw : Ext w w') : Bools F w' v bs := Vals.ext h hw
theorem Bools.same (h : Bools F w v bs) (hw : Same S w w') (hs : ∀ b, F b → b < w.heap.size → ¬ S b) : Bools F w' v bs := Vals.same h hw hs
theorem Bools.weaken (h : Bools F w v bs) (hf : ∀ b, F b → b < w.heap.size → F' b) : Bools F' w v bs := Vals.weaken h hf
theorem Bools.len (h : Bools F w v bs) {t : TypeId} (ht : isSl P t = true) (ty : TypeId) : vbi P .len [t] ty [v] w' K = K (.int .i64 bs.length) w' := by
  have := Vals.len (K := K) (w' := w') h ht ty; rwa [List.length_map] at this
theorem Bools.iaddr (h : Bools F w v bs) {t : TypeId} (ht : elB P t 1 = true) {kd : IntKind} {i : Int} (h0 : 0 ≤ i) (h1 : i < bs.length) :
    viaddr P t v (.int kd i) w' K = K (.pointer (some (eaddr v 1 i.toNat))) w' := Vals.iaddr h ht h0 (by rw [List.length_map]; exact h1)
theorem Bools.load (h : Bools F w v bs) {e : TypeId} (he : oneB P e = true) {i : Nat} (hi : i < bs.length) : vload P e (.pointer (some (eaddr v 1 i))) w K = K (.bool (bs.getD i false)) w := by
  rw [Vals.load h he (by rw [List.length_map]; exact hi)]
  simp [List.getD_eq_getElem?_getD, hi]

theorem Lists.ext (h : Lists F w v xss) (hw : Ext w w') : Lists F w' v xss := by
  obtain ⟨vs, hl, hv, hi⟩ := h; exact ⟨vs, hl, hv.ext hw, fun i h => (hi i h).ext hw⟩
theorem Lists.same (h : Lists F w v xss) (hw : Same S w w') (hs : ∀ b, F b → b < w.heap.size → ¬ S b) : Lists F w' v xss := by
  obtain ⟨vs, hl, hv, hi⟩ := h; exact ⟨vs, hl, hv.same hw hs, fun i h => (hi i h).same hw hs⟩
theorem Lists.weaken (h : Lists F w v xss) (hf : ∀ b, F b → b < w.heap.size → F' b) : Lists F' w v xss := by
  obtain ⟨vs, hl, hv, hi⟩ := h; exact ⟨vs, hl, hv.weaken hf, fun i h => (hi i h).weaken hf⟩

/-- A function value that answers one bool, wherever it is called behind `w0`. -/
def FnB (P : Program) (w0 : World) (f : Value) (args : Array Value) (b : Bool) : Prop :=
  ∀ (w' : World) (K : Value → World → Prop), Ext w0 w' → (∀ w'', Ext w' w'' → K (.bool b) w'') → vcallv P f args w' K
theorem FnB.ext {f : Value} {args : Array Value} {b : Bool} (h : FnB P w f args b) (hw : Ext w w') : FnB P w' f args b := fun w'' K h1 h2 => h w'' K (hw.trans h1) h2

/-- The first index at which p holds, as a number; or -1. -/
def idxI (n : Nat) (p : Nat → Bool) : Int := match (List.range n).find? p with | some i => i | none => -1
theorem idxI_some {n i : Nat} {p : Nat → Bool} (hi : i < n) (hp : p i = true) (hl : ∀ j, j < i → p j = false) : idxI n p = i := by
  have : (List.range n).find? p = some i := by
    rw [List.find?_eq_some_iff_append]
    refine ⟨hp, List.range i, (List.range' (i + 1) (n - (i + 1))), ?_, fun j hj => by simp [hl j (List.mem_range.1 hj)]⟩
    rw [List.range_eq_range', List.range_eq_range', show n = i + (n - (i + 1) + 1) from by omega, ← List.range'_append_1, List.range'_succ]
    simp
    omega
  simp [idxI, this]
theorem idxI_none {n : Nat} {p : Nat → Bool} (hl : ∀ j, j < n → p j = false) : idxI n p = -1 := by
  have : (List.range n).find? p = none := by rw [List.find?_eq_none]; intro j hj; simp [hl j (List.mem_range.1 hj)]
  simp [idxI, this]
theorem idxI_nonneg {n : Nat} {p : Nat → Bool} : decide (0 ≤ idxI n p) = (List.range n).any p := by
  unfold idxI
  cases h : (List.range n).find? p with
  | none =>
    rw [List.find?_eq_none] at h
    have : (List.range n).any p = false := by rw [List.any_eq_false]; exact h
    simp [this]
  | some i =>
    have h1 := List.find?_some h
    have h2 := List.mem_of_find?_eq_some h
    have : (List.range n).any p = true := List.any_eq_true.2 ⟨i, h2, h1⟩
    simp [this]
end
end Go.Vc
