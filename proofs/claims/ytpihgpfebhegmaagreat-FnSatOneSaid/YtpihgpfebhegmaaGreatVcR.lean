/- Rules: what each combinator comes to on values that are written out. -/
import Derived.Test.YtpihgpfebhegmaaGreatVcC
import Derived.Laws.World
import Derived.Below
import Derived.IntWalk
set_option linter.unusedVariables false
set_option linter.unusedSimpArgs false
set_option linter.unnecessarySimpa false
set_option linter.unusedSectionVars false
namespace Go.Vc
open Go

section
variable {P : Program} {w : World} {K : Value → World → Prop}

theorem vrun_eq {α : Type} {s : Sem α} {K : α → World → Prop} {v : α} {w' : World} (h : s.run P w = .ok v w') : vrun P s w K = K v w' := by
  apply propext
  constructor
  · rintro ⟨a, b, h', k⟩
    rw [h] at h'
    cases h'
    exact k
  · exact fun k => ⟨_, _, h, k⟩

@[push_cast] theorem vif_t (A B : Prop) : vif (.bool true) A B = A := rfl
@[push_cast] theorem vif_f (A B : Prop) : vif (.bool false) A B = B := rfl
theorem vif_dec {p : Prop} [Decidable p] {A B : Prop} (h : p → A) (h' : ¬ p → B) : vif (.bool (decide p)) A B := by
  by_cases hp : p
  · rw [decide_eq_true hp]; exact h hp
  · rw [decide_eq_false hp]; exact h' hp
theorem vif_bool {b : Bool} {A B : Prop} (h : b = true → A) (h' : b = false → B) : vif (.bool b) A B := by
  cases b
  · exact h' rfl
  · exact h rfl
@[push_cast] theorem vpick_t (a b : Value) : vpick (.bool true) a b w K = K a w := rfl
@[push_cast] theorem vpick_f (a b : Value) : vpick (.bool false) a b w K = K b w := rfl
@[push_cast] theorem vpick_bb (c x y : Bool) : vpick (.bool c) (.bool x) (.bool y) w K = K (.bool (if c then x else y)) w := by cases c <;> rfl

@[push_cast] theorem vnil_ptr (a : Addr) : vnil P (.pointer (some a)) w K = K (.pointer (some a)) w := propext ⟨fun h => h.h, fun h => ⟨h⟩⟩
@[push_cast] theorem vnil_func (g : Nat) (a b : Array Value) : vnil P (.func (.func g) a b) w K = K (.func (.func g) a b) w := propext ⟨fun h => h.h, fun h => ⟨h⟩⟩
@[push_cast] theorem vnil_iface (t : TypeId) (x : Value) : vnil P (.iface t x) w K = K (.iface t x) w := propext ⟨fun h => h.h, fun h => ⟨h⟩⟩
@[push_cast] theorem vcallv_func (g : Nat) (a b args : Array Value) : vcallv P (.func (.func g) a b) args w K = vcall P g ⟨(a.toList ++ args.toList) ++ b.toList⟩ w K := rfl

@[push_cast] theorem vun_not (b : Bool) : vun P .not (.bool b) w K = K (.bool (!b)) w := vrun_eq rfl
@[push_cast] theorem vun_neg (k : IntKind) (n : Int) : vun P .neg (.int k n) w K = K (.int k (k.wrap (0 - n))) w := vrun_eq rfl

/-- An operator that is none of == and != : nothing is looked at but the values. -/
theorem vbin_run {op : BinOp} {t : TypeId} {c : Bool} {a b v : Value} (h1 : (eqG op t c a b).run P w = .ok () w) (h2 : (binOp op t a b).run P w = .ok v w) :
    vbin P op t c a b w K = K v w := vrun_eq (by simp only [Sem.run_bind, h1, Result.andThen_ok, h2])

@[push_cast] theorem vbin_add (t : TypeId) (c : Bool) (k : IntKind) (a b : Int) : vbin P .add t c (.int k a) (.int k b) w K = K (.int k (k.wrap (a + b))) w := vbin_run rfl (by simp [binOp, Op.intArith])
@[push_cast] theorem vbin_sub (t : TypeId) (c : Bool) (k : IntKind) (a b : Int) : vbin P .sub t c (.int k a) (.int k b) w K = K (.int k (k.wrap (a - b))) w := vbin_run rfl (by simp [binOp, Op.intArith])
@[push_cast] theorem vbin_mul (t : TypeId) (c : Bool) (k : IntKind) (a b : Int) : vbin P .mul t c (.int k a) (.int k b) w K = K (.int k (k.wrap (a * b))) w := vbin_run rfl (by simp [binOp, Op.intArith])
@[push_cast] theorem vbin_lss (t : TypeId) (c : Bool) (k : IntKind) (a b : Int) : vbin P .lss t c (.int k a) (.int k b) w K = K (.bool (decide (a < b))) w := vbin_run rfl (by simp [binOp, Op.intCmp])
@[push_cast] theorem vbin_leq (t : TypeId) (c : Bool) (k : IntKind) (a b : Int) : vbin P .leq t c (.int k a) (.int k b) w K = K (.bool (decide (a ≤ b))) w := vbin_run rfl (by simp [binOp, Op.intCmp])
@[push_cast] theorem vbin_gtr (t : TypeId) (c : Bool) (k : IntKind) (a b : Int) : vbin P .gtr t c (.int k a) (.int k b) w K = K (.bool (decide (b < a))) w := vbin_run rfl (by simp [binOp, Op.intCmp])
@[push_cast] theorem vbin_geq (t : TypeId) (c : Bool) (k : IntKind) (a b : Int) : vbin P .geq t c (.int k a) (.int k b) w K = K (.bool (decide (b ≤ a))) w := vbin_run rfl (by simp [binOp, Op.intCmp])
@[push_cast] theorem vbin_eql (t : TypeId) (c : Bool) (k : IntKind) (a b : Int) : vbin P .eql t c (.int k a) (.int k b) w K = K (.bool (decide (a = b))) w :=
  vbin_run rfl (by simp [binOp, Op.intCmp]; by_cases h : a = b <;> simp [h])
@[push_cast] theorem vbin_neq (t : TypeId) (c : Bool) (k : IntKind) (a b : Int) : vbin P .neq t c (.int k a) (.int k b) w K = K (.bool (decide (a ≠ b))) w :=
  vbin_run rfl (by simp [binOp, Op.intCmp]; by_cases h : a = b <;> simp [h])

theorem wrap64 {x : Int} (h : -9223372036854775808 ≤ x) (h' : x ≤ 9223372036854775807) : IntKind.i64.wrap x = x := IntWalk.i64_in x ⟨h, h'⟩

@[push_cast] theorem vextract_one0 (a : Value) : vextract P (.tuple #[a]) 0 w K = K a w := vrun_eq rfl
@[push_cast] theorem vextract_two0 (a b : Value) : vextract P (.tuple #[a, b]) 0 w K = K a w := vrun_eq rfl
@[push_cast] theorem vextract_two1 (a b : Value) : vextract P (.tuple #[a, b]) 1 w K = K b w := vrun_eq rfl
@[push_cast] theorem vextract_three0 (a b c : Value) : vextract P (.tuple #[a, b, c]) 0 w K = K a w := vrun_eq rfl
@[push_cast] theorem vextract_three1 (a b c : Value) : vextract P (.tuple #[a, b, c]) 1 w K = K b w := vrun_eq rfl
@[push_cast] theorem vextract_three2 (a b c : Value) : vextract P (.tuple #[a, b, c]) 2 w K = K c w := vrun_eq rfl
@[push_cast] theorem vmkF_eq (fn : Fn) (a b : List Value) : vmkF P fn a b w K = K (.func fn ⟨a⟩ ⟨b⟩) w := vrun_eq rfl

@[push_cast] theorem sl0 (a : Value) (l : List Value) : sl 0 (a :: l) = a := rfl
@[push_cast] theorem sl1 (a b : Value) (l : List Value) : sl 1 (a :: b :: l) = b := rfl
@[push_cast] theorem sl2 (a b c : Value) (l : List Value) : sl 2 (a :: b :: c :: l) = c := rfl
@[push_cast] theorem sl3 (a b c d : Value) (l : List Value) : sl 3 (a :: b :: c :: d :: l) = d := rfl
@[push_cast] theorem sl4 (a b c d e : Value) (l : List Value) : sl 4 (a :: b :: c :: d :: e :: l) = e := rfl
@[push_cast] theorem sl5 (a b c d e f : Value) (l : List Value) : sl 5 (a :: b :: c :: d :: e :: f :: l) = f := rfl
@[push_cast] theorem sl6 (a b c d e f g : Value) (l : List Value) : sl 6 (a :: b :: c :: d :: e :: f :: g :: l) = g := rfl
@[push_cast] theorem sl7 (a b c d e f g h : Value) (l : List Value) : sl 7 (a :: b :: c :: d :: e :: f :: g :: h :: l) = h := rfl
end

/-! ### Worlds -/

/-- Blocks outside `S` are as they were. -/
structure Same (S : Nat → Prop) (w w' : World) : Prop where
  os : w'.os = w.os
  tape : w'.tape = w.tape
  output : w'.output = w.output
  size : w.heap.size ≤ w'.heap.size
  block : ∀ b, b < w.heap.size → ¬ S b → w'.heap[b]? = w.heap[b]?

/-- All old blocks are as they were. -/
abbrev Ext (w w' : World) : Prop := Same (fun _ => False) w w'

theorem Same.refl (S : Nat → Prop) (w : World) : Same S w w := ⟨rfl, rfl, rfl, Nat.le_refl _, fun _ _ _ => rfl⟩
theorem Same.trans {S : Nat → Prop} {a b c : World} (h : Same S a b) (k : Same S b c) : Same S a c :=
  ⟨k.os.trans h.os, k.tape.trans h.tape, k.output.trans h.output, Nat.le_trans h.size k.size, fun i hi hs => (k.block i (Nat.lt_of_lt_of_le hi h.size) hs).trans (h.block i hi hs)⟩
theorem Same.mono {S S' : Nat → Prop} {a b : World} (h : Same S a b) (hs : ∀ x, x < a.heap.size → S x → S' x) : Same S' a b :=
  ⟨h.os, h.tape, h.output, h.size, fun i hi hn => h.block i hi (fun hx => hn (hs i hi hx))⟩
theorem Same.of_ext {S : Nat → Prop} {a b : World} (h : Ext a b) : Same S a b := h.mono fun _ _ h => h.elim
/-- What is turned behind the first world is new. -/
theorem Ext.then {S : Nat → Prop} {a b c : World} (h : Ext a b) (k : Same S b c) (hs : ∀ x, S x → a.heap.size ≤ x) : Ext a c :=
  ⟨k.os.trans h.os, k.tape.trans h.tape, k.output.trans h.output, Nat.le_trans h.size k.size, fun i hi _ =>
    (k.block i (Nat.lt_of_lt_of_le hi h.size) (fun hx => by have := hs i hx; omega)).trans (h.block i hi id)⟩

theorem ext_drew (w : World) : Ext w { w with drawn := w.drawn + 1 } := ⟨rfl, rfl, rfl, Nat.le_refl _, fun _ _ _ => rfl⟩

theorem Same.cell {S : Nat → Prop} {w w' : World} (h : Same S w w') {a : Addr} (hs : ¬ S a.block) {v : Value} (hc : w.cell? a = some v) : w'.cell? a = some v :=
  (World.cell?_of_block (h.block a.block (World.block_lt_of_cell? w a hc) hs)).trans hc

theorem vdraw_ext {w : World} {K : World → Prop} (h : ∀ w', Ext w w' → w'.heap = w.heap → K w') : vdraw w K := h _ (ext_drew w) rfl

/-! ### Memory: reading -/
section
variable {P : Program} {w : World} {K : Value → World → Prop}

def oneB (P : Program) (t : TypeId) : Bool := match P.underlying t with
  | some (.struct _) => false
  | some (.array _ _) => false
  | some _ => true
  | none => false
def aggB (P : Program) (t : TypeId) (n : Nat) : Bool := (match P.underlying t with
  | some (.struct _) => true
  | some (.array _ _) => true
  | _ => false) && (match P.info? t with | some i => Nat.beq i.size n | none => false)

theorem run_isAgg_one {t : TypeId} (h : oneB P t = true) : (isAgg t).run P w = .ok false w := by
  unfold oneB at h
  cases hu : P.underlying t with
  | none => rw [hu] at h; cases h
  | some d => rw [hu] at h; cases d <;> simp [isAgg, underlying, program, hu, Sem.run] at h ⊢

theorem run_isAgg_agg {t : TypeId} {n : Nat} (h : aggB P t n = true) : (isAgg t).run P w = .ok true w := by
  unfold aggB at h
  cases hu : P.underlying t with
  | none => rw [hu] at h; simp at h
  | some d => rw [hu] at h; cases d <;> simp [isAgg, underlying, program, hu, Sem.run] at h ⊢

theorem run_sizeOf_agg {t : TypeId} {n : Nat} (h : aggB P t n = true) : (sizeOf t).run P w = .ok n w := by
  unfold aggB at h
  cases hi : P.info? t with
  | none => rw [hi] at h; simp at h
  | some i =>
    rw [hi] at h
    simp only [Bool.and_eq_true] at h
    have := Nat.eq_of_beq_eq_true h.2
    simp [sizeOf, typeInfo, program, hi, Sem.run, this]

theorem vload_one {t : TypeId} (ht : oneB P t = true) {a : Addr} {v : Value} (h : w.cell? a = some v) : vload P t (.pointer (some a)) w K = K v w := by
  refine vrun_eq ?_
  simp only [Instr.loadAt, Instr.sureAddr, Sem.run_bind, Sem.run_pure, Result.andThen_ok, loadVar, run_isAgg_one ht, Bool.false_eq_true, if_false]
  simp [load, Sem.run, h]

/-- Cells that lie one behind the other. -/
def Cells (w : World) (a : Addr) (cs : List Value) : Prop := ∀ i v, cs[i]? = some v → w.cell? (a.add i) = some v

theorem run_loadCellsFrom {a : Addr} : ∀ (cs : List Value) (i : Nat) (acc : Array Value), (∀ j v, cs[j]? = some v → w.cell? (a.add (i + j)) = some v) →
    (loadCellsFrom a i cs.length acc).run P w = .ok (acc ++ cs.toArray) w := by
  intro cs
  induction cs with
  | nil => intro i acc _; simp [loadCellsFrom]
  | cons c cs ih =>
    intro i acc h
    have h0 := h 0 c (by simp)
    rw [Nat.add_zero] at h0
    have hl : (load (a.add i)).run P w = .ok c w := by simp [load, Sem.run, h0]
    simp only [List.length_cons, loadCellsFrom, Sem.run_bind, hl, Result.andThen_ok]
    rw [ih (i + 1) (acc.push c) (fun j v hj => by have := h (j + 1) v (by simpa using hj); rwa [Nat.add_assoc, Nat.add_comm 1 j])]
    simp

theorem vload_agg {t : TypeId} {cs : List Value} (ht : aggB P t cs.length = true) {a : Addr} (h : Cells w a cs) : vload P t (.pointer (some a)) w K = K (.agg cs.toArray) w := by
  refine vrun_eq ?_
  have hl := run_loadCellsFrom (P := P) (w := w) (a := a) cs 0 #[] (fun j v hj => by rw [Nat.zero_add]; exact h j v hj)
  simp only [Instr.loadAt, Instr.sureAddr, Sem.run_bind, Sem.run_pure, Result.andThen_ok, loadVar, run_isAgg_agg ht, if_true, run_sizeOf_agg ht, loadCells, hl]
  simp

theorem vlv_eq {t : TypeId} {a : Addr} {v : Value} (h : vload P t (.pointer (some a)) w (fun x w' => x = v ∧ w' = w)) : vlv P t (.pointer (some a)) w K = K v w := by
  obtain ⟨x, w', hr, rfl, rfl⟩ := h
  have hr' : (do loadVar t (← asAddr (.pointer (some a)))).run P w' = .ok x w' := by
    simpa [Instr.loadAt, Instr.sureAddr, asAddr] using hr
  unfold vlv
  rw [vrun_eq hr']
  simp
end

/-! ### Slices that are read -/

/-- `v` is a slice whose elements have `k` cells each, lying in a block that satisfies `F`; element i has the cells `xs[i]`. -/
structure Sl (F : Nat → Prop) (w : World) (k : Nat) (v : Value) (xs : List (List Value)) : Prop where
  shape : ∃ a c, v = .slice a xs.length c ∧ xs.length ≤ c ∧ c ≤ 9223372036854775807 ∧
    (xs ≠ [] → ∃ b o, a = some ⟨b, o, none⟩ ∧ F b ∧ b < w.heap.size ∧ ∀ i, i < xs.length → Cells w ⟨b, o + i * k, none⟩ (xs.getD i []))
  wide : ∀ x, x ∈ xs → x.length = k

/-- The address of an element. -/
def eaddr (v : Value) (k i : Nat) : Addr := match v with
  | .slice (some a) _ _ => ⟨a.block, a.off + i * k, none⟩
  | _ => default

theorem addr_add (b o n : Nat) : (⟨b, o, none⟩ : Addr).add n = ⟨b, o + n, none⟩ := by
  unfold Addr.add
  split
  · simp [*]
  · rfl

theorem Cells.same {S : Nat → Prop} {w w' : World} {a : Addr} {cs : List Value} (h : Same S w w') (hs : ¬ S a.block) (hc : Cells w a cs) : Cells w' a cs := by
  intro i v hv
  refine h.cell ?_ (hc i v hv)
  unfold Addr.add
  split <;> exact hs

theorem Sl.same {F S : Nat → Prop} {w w' : World} {k : Nat} {v : Value} {xs : List (List Value)} (h : Sl F w k v xs) (hw : Same S w w') (hs : ∀ b, F b → b < w.heap.size → ¬ S b) : Sl F w' k v xs := by
  obtain ⟨⟨a, c, hv, hc, hm, hb⟩, hk⟩ := h
  refine ⟨⟨a, c, hv, hc, hm, fun hne => ?_⟩, hk⟩
  obtain ⟨b, o, ha, hf, hlt, hcell⟩ := hb hne
  exact ⟨b, o, ha, hf, Nat.lt_of_lt_of_le hlt hw.size, fun i hi => (hcell i hi).same hw (hs b hf hlt)⟩

theorem Sl.ext {F : Nat → Prop} {w w' : World} {k : Nat} {v : Value} {xs : List (List Value)} (h : Sl F w k v xs) (hw : Ext w w') : Sl F w' k v xs := h.same hw fun _ _ _ h => h

theorem Sl.weaken {F F' : Nat → Prop} {w : World} {k : Nat} {v : Value} {xs : List (List Value)} (h : Sl F w k v xs) (hf : ∀ b, F b → b < w.heap.size → F' b) : Sl F' w k v xs := by
  obtain ⟨⟨a, c, hv, hc, hm, hb⟩, hk⟩ := h
  refine ⟨⟨a, c, hv, hc, hm, fun hne => ?_⟩, hk⟩
  obtain ⟨b, o, ha, h1, hlt, hcell⟩ := hb hne
  exact ⟨b, o, ha, hf b h1 hlt, hlt, hcell⟩

/-- `t` is a slice type. -/
def isSl (P : Program) (t : TypeId) : Bool := match P.underlying t with
  | some (.slice _) => true
  | _ => false
theorem isSl_eq {P : Program} {t : TypeId} (h : isSl P t = true) : ∃ e, P.underlying t = some (.slice e) := by
  unfold isSl at h
  split at h
  · rename_i e hu; exact ⟨e, hu⟩
  · cases h
def sizeB (P : Program) (e n : Nat) : Bool := match P.info? e with | some i => Nat.beq i.size n | none => false
/-- `t` is a slice type whose elements have `k` cells. -/
def elB (P : Program) (t k : Nat) : Bool := match P.underlying t with
  | some (.slice e) => sizeB P e k
  | _ => false
theorem elB_eq {P : Program} {t k : Nat} (h : elB P t k = true) : ∃ e, P.underlying t = some (.slice e) ∧ sizeB P e k = true := by
  unfold elB at h
  split at h
  · rename_i e hu; exact ⟨e, hu, h⟩
  · cases h

section
variable {P : Program} {F : Nat → Prop} {w w' : World} {K : Value → World → Prop} {k : Nat} {v : Value} {xs : List (List Value)}

theorem run_sizeOf {e n : Nat} (h : sizeB P e n = true) : (sizeOf e).run P w = .ok n w := by
  unfold sizeB at h
  cases hi : P.info? e with
  | none => rw [hi] at h; cases h
  | some i => rw [hi] at h; have := Nat.eq_of_beq_eq_true h; simp [sizeOf, typeInfo, program, hi, Sem.run, this]

theorem run_under {t : TypeId} {d : TypeDesc} (h : P.underlying t = some d) : (underlying t).run P w = .ok d w := by simp [underlying, program, h, Sem.run]

theorem Sl.len (h : Sl F w k v xs) {t : TypeId} (ht : isSl P t = true) (ty : TypeId) : vbi P .len [t] ty [v] w' K = K (.int .i64 xs.length) w' := by
  obtain ⟨a, c, hv, _⟩ := h.shape
  obtain ⟨e, he⟩ := isSl_eq ht
  subst hv
  refine vrun_eq ?_
  simp [biSem, Builtin.len_, run_under he, goInt]

theorem Sl.iaddr (h : Sl F w k v xs) {t : TypeId} (ht : elB P t k = true) {kd : IntKind} {i : Int} (h0 : 0 ≤ i) (h1 : i < xs.length) :
    viaddr P t v (.int kd i) w' K = K (.pointer (some (eaddr v k i.toNat))) w' := by
  obtain ⟨a, c, hv, _, _, hb⟩ := h.shape
  obtain ⟨b, o, ha, _⟩ := hb (by intro e; subst e; simp at h1; omega)
  obtain ⟨e, he, hs⟩ := elB_eq ht
  subst ha
  subst hv
  refine vrun_eq ?_
  simp [Instr.indexAt, asIntOf, run_under he, h0, h1, run_sizeOf hs, eaddr, addr_add]

theorem Sl.cells (h : Sl F w k v xs) {i : Nat} (hi : i < xs.length) : Cells w (eaddr v k i) (xs.getD i []) := by
  obtain ⟨a, c, hv, _, _, hb⟩ := h.shape
  obtain ⟨b, o, ha, _, _, hc⟩ := hb (by intro e; subst e; simp at hi)
  subst ha
  subst hv
  exact hc i hi
end

/-! ### Blocks -/

/-- Block `b` holds just these cells, none of them frozen. -/
def Blk (w : World) (b : Nat) (cs : List Value) (t : TypeId) : Prop := w.heap[b]? = some (.cells ⟨cs⟩ t (0, 0))

theorem Blk.lt {w : World} {b : Nat} {cs : List Value} {t : TypeId} (h : Blk w b cs t) : b < w.heap.size := (Array.getElem?_eq_some_iff.1 h).1
theorem Blk.same {S : Nat → Prop} {w w' : World} {b : Nat} {cs : List Value} {t : TypeId} (h : Blk w b cs t) (hw : Same S w w') (hs : ¬ S b) : Blk w' b cs t :=
  (hw.block b h.lt hs).trans h
theorem Blk.ext {w w' : World} {b : Nat} {cs : List Value} {t : TypeId} (h : Blk w b cs t) (hw : Ext w w') : Blk w' b cs t := h.same hw id
theorem Blk.cell {w : World} {b : Nat} {cs : List Value} {t : TypeId} (h : Blk w b cs t) {i : Nat} {v : Value} (hv : cs[i]? = some v) : w.cell? ⟨b, i, none⟩ = some v := by
  unfold World.cell?
  rw [show w.heap[(⟨b, i, none⟩ : Addr).block]? = _ from h]
  simpa using hv
theorem Blk.frozen {w : World} {b : Nat} {cs : List Value} {t : TypeId} (h : Blk w b cs t) (a : Addr) (ha : a.block = b) : w.frozen? a = false := by
  unfold World.frozen?
  rw [ha, show w.heap[b]? = _ from h]
  simp

section
variable {P : Program} {w : World} {K : Value → World → Prop} {b : Nat} {cs : List Value} {t0 : TypeId}

@[push_cast] theorem blt_zero {α : Type} (a : α) (l : List α) : Nat.blt 0 (a :: l).length = true := rfl
@[push_cast] theorem blt_succ {α : Type} (n : Nat) (a : α) (l : List α) : Nat.blt (n + 1) (a :: l).length = Nat.blt n l.length := rfl

theorem getD_some {cs : List Value} {i : Nat} (hi : Nat.blt i cs.length = true) : cs[i]? = some (cs.getD i undef) := by
  have : i < cs.length := by simpa [Nat.blt_eq] using hi
  simp [List.getD_eq_getElem?_getD, this]

theorem Blk.ld (h : Blk w b cs t0) {t : TypeId} (ho : oneB P t = true) {i : Nat} (hi : Nat.blt i cs.length = true) :
    vload P t (.pointer (some ⟨b, i, none⟩)) w K = K (cs.getD i undef) w := vload_one ho (h.cell (getD_some hi))

theorem Blk.ld0 {x0 : Value} {r : List Value} (h : Blk w b (x0 :: r) t0) {t : TypeId} (ho : oneB P t = true) : vload P t (.pointer (some ⟨b, 0, none⟩)) w K = K x0 w := vload_one ho (h.cell rfl)
theorem Blk.ld1 {x0 x1 : Value} {r : List Value} (h : Blk w b (x0 :: x1 :: r) t0) {t : TypeId} (ho : oneB P t = true) : vload P t (.pointer (some ⟨b, 1, none⟩)) w K = K x1 w := vload_one ho (h.cell rfl)
theorem Blk.ld2 {x0 x1 x2 : Value} {r : List Value} (h : Blk w b (x0 :: x1 :: x2 :: r) t0) {t : TypeId} (ho : oneB P t = true) : vload P t (.pointer (some ⟨b, 2, none⟩)) w K = K x2 w := vload_one ho (h.cell rfl)
theorem Blk.ld3 {x0 x1 x2 x3 : Value} {r : List Value} (h : Blk w b (x0 :: x1 :: x2 :: x3 :: r) t0) {t : TypeId} (ho : oneB P t = true) : vload P t (.pointer (some ⟨b, 3, none⟩)) w K = K x3 w := vload_one ho (h.cell rfl)
theorem Blk.ld4 {x0 x1 x2 x3 x4 : Value} {r : List Value} (h : Blk w b (x0 :: x1 :: x2 :: x3 :: x4 :: r) t0) {t : TypeId} (ho : oneB P t = true) : vload P t (.pointer (some ⟨b, 4, none⟩)) w K = K x4 w := vload_one ho (h.cell rfl)
theorem Blk.ld5 {x0 x1 x2 x3 x4 x5 : Value} {r : List Value} (h : Blk w b (x0 :: x1 :: x2 :: x3 :: x4 :: x5 :: r) t0) {t : TypeId} (ho : oneB P t = true) : vload P t (.pointer (some ⟨b, 5, none⟩)) w K = K x5 w := vload_one ho (h.cell rfl)
theorem Blk.ld6 {x0 x1 x2 x3 x4 x5 x6 : Value} {r : List Value} (h : Blk w b (x0 :: x1 :: x2 :: x3 :: x4 :: x5 :: x6 :: r) t0) {t : TypeId} (ho : oneB P t = true) : vload P t (.pointer (some ⟨b, 6, none⟩)) w K = K x6 w := vload_one ho (h.cell rfl)

/-- A struct or an array is read whole. -/
theorem Blk.ldAgg (h : Blk w b cs t0) {t : TypeId} (ht : aggB P t cs.length = true) : vload P t (.pointer (some ⟨b, 0, none⟩)) w K = K (.agg ⟨cs⟩) w :=
  vload_agg ht fun i v hv => by rw [addr_add, Nat.zero_add]; exact h.cell hv

theorem Blk.lv (h : Blk w b cs t0) {t : TypeId} (ht : aggB P t cs.length = true) : vlv P t (.pointer (some ⟨b, 0, none⟩)) w K = K (.agg ⟨cs⟩) w :=
  vlv_eq (by rw [h.ldAgg ht]; exact ⟨rfl, rfl⟩)

def zeroB (P : Program) (t : TypeId) (z : Value) : Prop := (match P.info? t with | some i => i.zero | none => none) = some z

theorem run_zero {t : TypeId} {z : Value} (h : zeroB P t z) : (zeroValue t).run P w = .ok z w := by
  unfold zeroB at h
  cases hi : P.info? t with
  | none => rw [hi] at h; cases h
  | some i => rw [hi] at h; simp [zeroValue, typeInfo, program, hi, Sem.run, h]

theorem ext_push (w : World) (o : Obj) : Ext w { w with heap := w.heap.push o } :=
  ⟨rfl, rfl, rfl, by simp, fun i hi _ => by rw [Array.getElem?_push, if_neg (by show i ≠ w.heap.size; omega)]⟩

theorem blk_push (w : World) (cs : List Value) (t : TypeId) : Blk { w with heap := w.heap.push (.cells ⟨cs⟩ t) } w.heap.size cs t := by simp [Blk]

/-- A new variable. -/
theorem vbox_new {t : TypeId} {v : Value} (h : ∀ b w', b = w.heap.size → Ext w w' → w'.heap.size = w.heap.size + 1 → Blk w' b v.cells.toList t → K (.pointer (some ⟨b, 0, none⟩)) w') : vbox P t v w K := by
  refine ⟨_, _, ?_, h w.heap.size { w with heap := w.heap.push (.cells ⟨v.cells.toList⟩ t) } rfl (ext_push w _) (by simp) (blk_push w _ t)⟩
  simp [Instr.box, newVar, newRow, newObj, Sem.run]

theorem valloc_new {t : TypeId} {z : Value} (hz : zeroB P t z) (h : ∀ b w', b = w.heap.size → Ext w w' → w'.heap.size = w.heap.size + 1 → Blk w' b z.cells.toList t → K (.pointer (some ⟨b, 0, none⟩)) w') : valloc P t w K := by
  refine ⟨_, _, ?_, h w.heap.size { w with heap := w.heap.push (.cells ⟨z.cells.toList⟩ t) } rfl (ext_push w _) (by simp) (blk_push w _ t)⟩
  simp [Instr.alloc, run_zero hz, newVar, newRow, newObj, Sem.run]

/-- One cell is written. -/
theorem Blk.st (h : Blk w b cs t0) {t : TypeId} {v : Value} (hv : v.cells = #[v]) (h1 : v.oneCell' = true) (hz : sizeB P t 1 = true) {i : Nat} (hi : Nat.blt i cs.length = true)
    (hK : ∀ w', Same (· = b) w w' → w'.heap.size = w.heap.size → Blk w' b (cs.set i v) t0 → K undef w') : vstore P t (.pointer (some ⟨b, i, none⟩)) v w K := by
  have hc := h.cell (getD_some hi)
  have hf := h.frozen ⟨b, i, none⟩ rfl
  have ha : (⟨b, i, none⟩ : Addr).add 0 = ⟨b, i, none⟩ := rfl
  refine ⟨(), w.setCell ⟨b, i, none⟩ v, ?_, hK _ ⟨rfl, rfl, rfl, by simp, fun k _ hk => ?_⟩ (by simp) ?_⟩
  · simp only [Instr.storeAt, Instr.sureAddr, Sem.run_bind, Sem.run_pure, Result.andThen_ok, storeVar, run_sizeOf hz, hv]
    cases v <;> first | (cases h1; done) | simp [storeCells, store, Sem.run, ha, hc, hf]
  · simp only [World.setCell, Array.getElem?_modify]
    rw [if_neg (fun e => hk e.symm)]
  · unfold Blk at h ⊢
    simp only [World.setCell, Array.getElem?_modify, if_true, h]
    simp

def fieldB (P : Program) (s f off : Nat) : Bool := match P.underlying s with
  | some (.struct fs) => match fs[f]? with
    | some x => Nat.beq x.offset off && (match P.info? x.type with | some i => !Nat.beq i.size 0 | none => false)
    | none => false
  | _ => false

theorem vfaddr_eq {s f off : Nat} (h : fieldB P s f off = true) (a : Addr) : vfaddr P s (.pointer (some a)) f w K = K (.pointer (some (a.add off))) w := by
  unfold fieldB at h
  cases hu : P.underlying s with
  | none => rw [hu] at h; cases h
  | some d =>
    rw [hu] at h
    cases d with
    | struct fs =>
      simp only at h
      cases hf : fs[f]? with
      | none => rw [hf] at h; cases h
      | some x =>
        rw [hf] at h
        simp only [Bool.and_eq_true] at h
        obtain ⟨h1, h2⟩ := h
        have h1' := Nat.eq_of_beq_eq_true h1
        cases hi : P.info? x.type with
        | none => rw [hi] at h2; cases h2
        | some i =>
          rw [hi] at h2
          have h3 : i.size ≠ 0 := by intro e; simp [e] at h2
          refine vrun_eq ?_
          simp [Instr.fieldAt, run_under hu, hf, Instr.sureAddr, fieldPlace, sizeOf, typeInfo, program, hi, Sem.run, h3, h1']
    | _ => simp at h
end

attribute [push_cast] addr_add List.getD_cons_zero List.getD_cons_succ Nat.zero_add List.set_cons_zero List.set_cons_succ Value.cells
end Go.Vc
