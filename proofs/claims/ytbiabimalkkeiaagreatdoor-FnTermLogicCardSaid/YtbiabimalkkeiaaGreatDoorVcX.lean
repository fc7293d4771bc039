/- More rules: min and max of ints. -/
import Derived.Test.YtbiabimalkkeiaaGreatDoorVcW
import Derived.Laws.Small
import Derived.Laws.Entries
set_option linter.unusedVariables false
set_option linter.unusedSimpArgs false
set_option linter.unnecessarySimpa false
set_option linter.unusedSectionVars false
namespace Go.Vc
open Go
section
variable {P : Program} {w : World} {K : Value → World → Prop}
theorem vbi_max {ts : List TypeId} {t : TypeId} {k k' : IntKind} {x y : Int} : vbi P .max ts t [.int k x, .int k' y] w K = K (.int k (max x y)) w := by
  refine vrun_eq ?_
  simp only [biSem, run_max_int2]
  rw [Int.max_def]; split <;> split <;> (first | rfl | (exfalso; omega) | skip)
  all_goals (have : x = y := by omega) <;> rw [this]
theorem vbi_min {ts : List TypeId} {t : TypeId} {k k' : IntKind} {x y : Int} : vbi P .min ts t [.int k x, .int k' y] w K = K (.int k (min x y)) w := by
  refine vrun_eq ?_
  simp only [biSem, run_min_int2]
  rw [Int.min_def]; split <;> split <;> (first | rfl | (exfalso; omega) | skip)
  all_goals (have : x = y := by omega) <;> rw [this]
attribute [push_cast] vbi_max vbi_min

/-! ### Literals of slices -/
theorem setL_app : ∀ (us a b : List Value), us.length ≤ b.length → setL (a ++ b) a.length us = a ++ us ++ b.drop us.length
  | [], a, b, _ => by simp [setL]
  | u :: us, a, [], h => by simp at h
  | u :: us, a, c :: b, h => by
    have e : (a ++ c :: b).set a.length u = (a ++ [u]) ++ b := by simp
    rw [setL, e, show a.length + 1 = (a ++ [u]).length from by simp, setL_app us (a ++ [u]) b (by simpa using h)]
    simp
theorem fill_row {k : Nat} : ∀ (xs : List Value) (us : List (List Value)) (i : Nat) (a b : List Value), xs.map Value.cells = us.map List.toArray → (∀ u, u ∈ us → u.length = k) → a.length = i * k → b.length = xs.length * k →
    Instr.fill (fun i => some (i * k, k)) ⟨a ++ b⟩ ((xs.zipIdx i).map fun p => (p.2, p.1)) = some ⟨a ++ us.flatten⟩
  | [], [], i, a, b, _, _, _, hb => by
    have : b = [] := List.eq_nil_of_length_eq_zero (by simpa using hb)
    subst this; simp [Instr.fill]
  | [], u :: us, _, _, _, h, _, _, _ => by simp at h
  | x :: xs, [], _, _, _, h, _, _, _ => by simp at h
  | x :: xs, u :: us, i, a, b, h, hw, ha, hb => by
    simp only [List.map_cons, List.cons.injEq] at h
    have hu := hw u List.mem_cons_self
    rw [List.length_cons, Nat.add_mul, Nat.one_mul] at hb
    have hs : x.cells.size = k := by rw [h.1]; simpa using hu
    rw [List.zipIdx_cons, List.map_cons, Instr.fill]
    simp only [hs, ne_eq, not_true_eq_false, decide_false, Bool.false_or, List.size_toArray, List.length_append]
    rw [if_neg (by simp; omega)]
    rw [← Array.foldl_toList, Array.toList_zipIdx, h.1]
    rw [foldl_set, Nat.add_zero, ← ha, setL_app u a b (by omega), List.append_assoc, ← List.append_assoc a u]
    rw [fill_row xs us (i + 1) (a ++ u) (b.drop u.length) h.2 (fun v hv => hw v (List.mem_cons_of_mem _ hv)) (by simp [ha, hu, Nat.add_mul]) (by simp; omega)]
    simp
/-- A literal of elements of k cells. -/
theorem vbuildS_row {t : TypeId} {e k : Nat} {z : Value} {xs : List Value} {us : List (List Value)} (hu : P.underlying t = some (.slice e)) (hz : sizeB P e k = true) (hzero : zeroB P e z) (hx : xs.map Value.cells = us.map List.toArray) (hw : ∀ u, u ∈ us → u.length = k) (hsm : xs.length * k ≤ 16777216)
    (hK : ∀ b w', b = w.heap.size → Ext w w' → w'.heap.size = w.heap.size + 1 → Blk w' b us.flatten e → K (.slice (some ⟨b, 0, none⟩) xs.length xs.length) w') : vbuildS P t xs.length (xs.zipIdx.map fun p => (p.2, p.1)) w K := by
  refine ⟨_, _, ?_, hK w.heap.size { w with heap := w.heap.push (.cells ⟨us.flatten⟩ e) } rfl (ext_push w _) (by simp) (blk_push w _ e)⟩
  have hf : ∀ c : Array Value, c.size = xs.length * k → Instr.fill (fun i => some (i * k, k)) c (xs.zipIdx.map fun p => (p.2, p.1)) = some ⟨us.flatten⟩ := fun c hc => by
    have := fill_row xs us 0 [] c.toList hx hw (by simp) (by simpa using hc)
    simpa using this
  simp only [Instr.buildSlice, Sem.run_bind, run_under hu, Result.andThen_ok, run_sizeOf hz]
  rw [if_neg (by omega)]
  split
  · simp only [Sem.run_bind, Sem.run_pure, Result.andThen_ok]
    rw [hf _ (by simp)]
    rfl
  · simp only [Sem.run_bind, Sem.run_pure, Result.andThen_ok, run_zero hzero]
    rw [hf _ (by simp)]
    rfl
theorem vbuildS_row1 {t : TypeId} {e : Nat} {z : Value} {xs : List Value} (hu : P.underlying t = some (.slice e)) (hz : sizeB P e 1 = true) (hzero : zeroB P e z) (hx : ∀ x, x ∈ xs → x.cells = #[x]) (hsm : xs.length ≤ 16777216)
    (hK : ∀ b w', b = w.heap.size → Ext w w' → w'.heap.size = w.heap.size + 1 → Blk w' b xs e → K (.slice (some ⟨b, 0, none⟩) xs.length xs.length) w') : vbuildS P t xs.length (xs.zipIdx.map fun p => (p.2, p.1)) w K := by
  refine vbuildS_row (us := xs.map fun x => [x]) hu hz hzero ?_ (fun u hu => by obtain ⟨y, _, rfl⟩ := List.mem_map.1 hu; rfl) (by omega) fun b w' h1 h2 h3 h4 => hK b w' h1 h2 h3 (by rwa [flat1] at h4)
  rw [List.map_map]
  exact List.map_congr_left fun x hx' => hx x hx'
/-! ### More operators on ints -/
theorem vbin_quo {t : TypeId} {c : Bool} {k : IntKind} {a b : Int} (hb : b ≠ 0) : vbin P .quo t c (.int k a) (.int k b) w K = K (.int k (k.wrap (a.tdiv b))) w :=
  vbin_run rfl (by simp [binOp, Op.intDiv, hb])
theorem vbin_rem {t : TypeId} {c : Bool} {k : IntKind} {a b : Int} (hb : b ≠ 0) : vbin P .rem t c (.int k a) (.int k b) w K = K (.int k (a.tmod b)) w :=
  vbin_run rfl (by simp [binOp, Op.intDiv, hb])
theorem bits_xor64 {a b : Nat} (ha : a < 9223372036854775808) (hb : b < 9223372036854775808) : (IntKind.i64.wrap (((BitVec.ofInt 64 a) ^^^ (BitVec.ofInt 64 b)).toNat : Int)) = ((a ^^^ b : Nat) : Int) := by
  have h1 : a ^^^ b < 2 ^ 63 := Nat.xor_lt_two_pow ha hb
  rw [BitVec.toNat_xor, BitVec.ofInt_natCast, BitVec.ofInt_natCast, BitVec.toNat_ofNat, BitVec.toNat_ofNat, Nat.mod_eq_of_lt (by omega), Nat.mod_eq_of_lt (by omega)]
  exact wrap64 (by omega) (by omega)
theorem vbin_xor64 {t : TypeId} {c : Bool} {a b : Nat} (ha : a < 9223372036854775808) (hb : b < 9223372036854775808) : vbin P .xor t c (.int .i64 a) (.int .i64 b) w K = K (.int .i64 (a ^^^ b : Nat)) w :=
  vbin_run rfl (by simp only [binOp, ne_eq, not_true_eq_false, if_false, Op.intBits]; rw [← bits_xor64 ha hb]; rfl)
def intB (P : Program) (t : TypeId) (k : IntKind) : Prop := P.underlying t = some (.int k)
theorem vconv_int {s d : TypeId} {k k' : IntKind} {n : Int} (hs : (P.underlying s).isSome = true) (hd : intB P d k) : vconv P s d (.int k' n) w K = K (.int k (k.wrap n)) w := by
  refine vrun_eq ?_
  obtain ⟨x, hx⟩ := Option.isSome_iff_exists.1 hs
  unfold intB at hd
  simp only [convert, Sem.run_bind, run_under hx, run_under hd, Result.andThen_ok]
  cases x <;> rfl
end
end Go.Vc
