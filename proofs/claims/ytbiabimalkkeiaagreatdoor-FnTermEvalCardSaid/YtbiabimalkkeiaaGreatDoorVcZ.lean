/- Terms and declarations in memory. -/
import Derived.Test.YtbiabimalkkeiaaGreatDoorVcY
import Derived.Test.YtbiabimalkkeiaaGreatDoorM21
set_option linter.unusedVariables false
set_option linter.unusedSimpArgs false
set_option linter.unnecessarySimpa false
set_option linter.unusedSectionVars false
namespace Go.Vc
open Go Go.M

section
variable {P : Program} {F F' S : Nat → Prop} {w w' : World} {K : Value → World → Prop} {k : Nat} {v : Value} {xs : List (List Value)}
theorem Sl.ldAgg (h : Sl F w k v xs) {t : TypeId} (ht : aggB P t k = true) {i : Nat} (hi : i < xs.length) : vload P t (.pointer (some (eaddr v k i))) w K = K (.agg ⟨xs.getD i []⟩) w := by
  have hl : (xs.getD i []).length = k := h.wide _ (M.getD_mem hi _)
  exact vload_agg (by rw [hl]; exact ht) (Sl.cells h hi)
/-- A field of an element. -/
theorem Sl.ldField (h : Sl F w k v xs) {t : TypeId} (ht : oneB P t = true) {i j : Nat} {x : Value} (hi : i < xs.length) (hx : (xs.getD i [])[j]? = some x) : vload P t (.pointer (some ((eaddr v k i).add j))) w K = K x w :=
  vload_one ht (Sl.cells h hi j x hx)
theorem Sl.small (h : Sl F w k v xs) : xs.length ≤ 9223372036854775807 := by
  obtain ⟨_, _, _, h1, h2, _⟩ := h.shape; omega
end

/-- The cells of a term. -/
inductive TmR (F : Nat → Prop) (w : World) : List Value → Tm → Prop
  | mk {o a b : Int} {s : ByteArray} {ks : List Tm} {kv : Value} {css : List (List Value)} : Sl F w 5 kv css → css.length = ks.length → (∀ i, i < ks.length → TmR F w (css.getD i []) (ks.getD i default)) →
    TmR F w [.int .i64 o, .int .i64 a, .int .i64 b, .string s, kv] (.mk o a b s ks)
/-- A slice of terms. -/
def TmsR (F : Nat → Prop) (w : World) (kv : Value) (ks : List Tm) : Prop := ∃ css : List (List Value), Sl F w 5 kv css ∧ css.length = ks.length ∧ ∀ i, i < ks.length → TmR F w (css.getD i []) (ks.getD i default)
/-- A term as a value. -/
def TermR (F : Nat → Prop) (w : World) (v : Value) (t : Tm) : Prop := ∃ kv, v = .agg ⟨[.int .i64 t.op, .int .i64 t.a, .int .i64 t.b, .string t.s, kv]⟩ ∧ TmsR F w kv t.ks
/-- Declarations. -/
def DclsR (F : Nat → Prop) (w : World) (v : Value) (ds : List Dcl) : Prop := Sl F w 2 v (ds.map fun d => [.string d.1, .int .i64 d.2])

section
variable {P : Program} {F F' S : Nat → Prop} {w w' : World} {K : Value → World → Prop} {v : Value} {cs : List Value} {t : Tm} {ks : List Tm} {ds : List Dcl}
theorem TmR.same (h : TmR F w cs t) (hw : Same S w w') (hs : ∀ b, F b → b < w.heap.size → ¬ S b) : TmR F w' cs t := by
  induction h with
  | mk h1 h2 h3 ih => exact .mk (h1.same hw hs) h2 ih
theorem TmR.ext (h : TmR F w cs t) (hw : Ext w w') : TmR F w' cs t := h.same hw fun _ _ _ h => h
theorem TmR.weaken (h : TmR F w cs t) (hf : ∀ b, F b → b < w.heap.size → F' b) : TmR F' w cs t := by
  induction h with
  | mk h1 h2 h3 ih => exact .mk (h1.weaken hf) h2 ih
theorem TmR.inv (h : TmR F w cs t) : ∃ kv, cs = [.int .i64 t.op, .int .i64 t.a, .int .i64 t.b, .string t.s, kv] ∧ TmsR F w kv t.ks := by
  cases h with
  | mk h1 h2 h3 => exact ⟨_, rfl, _, h1, h2, h3⟩
theorem TmR.of {kv : Value} (h : TmsR F w kv t.ks) : TmR F w [.int .i64 t.op, .int .i64 t.a, .int .i64 t.b, .string t.s, kv] t := by
  obtain ⟨css, h1, h2, h3⟩ := h
  cases t with
  | mk o a b s ks => exact .mk h1 h2 h3
theorem TmR.term (h : TmR F w cs t) : TermR F w (.agg ⟨cs⟩) t := by
  obtain ⟨kv, rfl, hk⟩ := h.inv
  exact ⟨kv, rfl, hk⟩
theorem TermR.cells (h : TermR F w v t) : ∃ cs, v = .agg ⟨cs⟩ ∧ TmR F w cs t := by
  obtain ⟨kv, rfl, hk⟩ := h
  exact ⟨_, rfl, TmR.of hk⟩
theorem TmsR.same (h : TmsR F w v ks) (hw : Same S w w') (hs : ∀ b, F b → b < w.heap.size → ¬ S b) : TmsR F w' v ks := by
  obtain ⟨css, h1, h2, h3⟩ := h; exact ⟨css, h1.same hw hs, h2, fun i hi => (h3 i hi).same hw hs⟩
theorem TmsR.ext (h : TmsR F w v ks) (hw : Ext w w') : TmsR F w' v ks := h.same hw fun _ _ _ h => h
theorem TmsR.weaken (h : TmsR F w v ks) (hf : ∀ b, F b → b < w.heap.size → F' b) : TmsR F' w v ks := by
  obtain ⟨css, h1, h2, h3⟩ := h; exact ⟨css, h1.weaken hf, h2, fun i hi => (h3 i hi).weaken hf⟩
theorem TermR.same (h : TermR F w v t) (hw : Same S w w') (hs : ∀ b, F b → b < w.heap.size → ¬ S b) : TermR F w' v t := by
  obtain ⟨kv, h1, h2⟩ := h; exact ⟨kv, h1, h2.same hw hs⟩
theorem TermR.ext (h : TermR F w v t) (hw : Ext w w') : TermR F w' v t := h.same hw fun _ _ _ h => h
theorem TermR.weaken (h : TermR F w v t) (hf : ∀ b, F b → b < w.heap.size → F' b) : TermR F' w v t := by
  obtain ⟨kv, h1, h2⟩ := h; exact ⟨kv, h1, h2.weaken hf⟩
theorem TmsR.small (h : TmsR F w v ks) : ks.length ≤ 9223372036854775807 := by
  obtain ⟨css, h1, h2, h3⟩ := h; rw [← h2]; exact h1.small
theorem TmsR.len (h : TmsR F w v ks) {t : TypeId} (ht : isSl P t = true) (ty : TypeId) : vbi P .len [t] ty [v] w' K = K (.int .i64 ks.length) w' := by
  obtain ⟨css, h1, h2, h3⟩ := h
  have := Sl.len (K := K) (w' := w') h1 ht ty; rwa [h2] at this
theorem TmsR.iaddr (h : TmsR F w v ks) {t : TypeId} (ht : elB P t 5 = true) {kd : IntKind} {i : Int} (h0 : 0 ≤ i) (h1 : i < ks.length) :
    viaddr P t v (.int kd i) w' K = K (.pointer (some (eaddr v 5 i.toNat))) w' := by
  obtain ⟨css, h1', h2, h3⟩ := h
  exact Sl.iaddr h1' ht h0 (by rw [h2]; exact h1)
/-- An element is loaded. -/
theorem TmsR.load (h : TmsR F w v ks) {t : TypeId} (ht : aggB P t 5 = true) {i : Nat} (hi : i < ks.length) (hK : ∀ x, TermR F w x (ks.getD i default) → K x w) : vload P t (.pointer (some (eaddr v 5 i))) w K := by
  obtain ⟨css, h1, h2, h3⟩ := h
  rw [h1.ldAgg ht (by omega)]
  exact hK _ (h3 i hi).term
theorem TmsR.nil : TmsR F w (.slice none 0 0) [] := ⟨[], ⟨⟨none, 0, rfl, by simp, by simp, by simp⟩, by simp⟩, rfl, by simp⟩

theorem DclsR.same (h : DclsR F w v ds) (hw : Same S w w') (hs : ∀ b, F b → b < w.heap.size → ¬ S b) : DclsR F w' v ds := Sl.same h hw hs
theorem DclsR.ext (h : DclsR F w v ds) (hw : Ext w w') : DclsR F w' v ds := Sl.ext h hw
theorem DclsR.weaken (h : DclsR F w v ds) (hf : ∀ b, F b → b < w.heap.size → F' b) : DclsR F' w v ds := Sl.weaken h hf
theorem DclsR.len (h : DclsR F w v ds) {t : TypeId} (ht : isSl P t = true) (ty : TypeId) : vbi P .len [t] ty [v] w' K = K (.int .i64 ds.length) w' := by
  have := Sl.len (K := K) (w' := w') h ht ty; rwa [List.length_map] at this
theorem DclsR.iaddr (h : DclsR F w v ds) {t : TypeId} (ht : elB P t 2 = true) {kd : IntKind} {i : Int} (h0 : 0 ≤ i) (h1 : i < ds.length) :
    viaddr P t v (.int kd i) w' K = K (.pointer (some (eaddr v 2 i.toNat))) w' := Sl.iaddr h ht h0 (by rw [List.length_map]; exact h1)
theorem dcl_getD {i : Nat} (hi : i < ds.length) : (ds.map fun d => [Value.string d.1, Value.int .i64 d.2]).getD i [] = [.string (ds.getD i (nada, 0)).1, .int .i64 (ds.getD i (nada, 0)).2] := M.getD_map _ hi _ _
theorem DclsR.load (h : DclsR F w v ds) {t : TypeId} (ht : aggB P t 2 = true) {i : Nat} (hi : i < ds.length) : vload P t (.pointer (some (eaddr v 2 i))) w K = K (.agg ⟨[.string (ds.getD i (nada, 0)).1, .int .i64 (ds.getD i (nada, 0)).2]⟩) w := by
  rw [Sl.ldAgg h ht (by rw [List.length_map]; exact hi), dcl_getD hi]
theorem eaddr_add0 (v : Value) (k i : Nat) : (eaddr v k i).add 0 = eaddr v k i := by
  unfold eaddr
  split <;> rfl
theorem DclsR.load0 (h : DclsR F w v ds) {t : TypeId} (ht : oneB P t = true) {i : Nat} (hi : i < ds.length) : vload P t (.pointer (some ((eaddr v 2 i).add 0))) w K = K (.string (ds.getD i (nada, 0)).1) w :=
  Sl.ldField h ht (by rw [List.length_map]; exact hi) (by rw [dcl_getD hi]; rfl)
theorem DclsR.load1 (h : DclsR F w v ds) {t : TypeId} (ht : oneB P t = true) {i : Nat} (hi : i < ds.length) : vload P t (.pointer (some ((eaddr v 2 i).add 1))) w K = K (.int .i64 (ds.getD i (nada, 0)).2) w :=
  Sl.ldField h ht (by rw [List.length_map]; exact hi) (by rw [dcl_getD hi]; rfl)
theorem DclsR.small (h : DclsR F w v ds) : ds.length ≤ 9223372036854775807 := by have := Sl.small h; simpa using this
theorem Sl.base {k : Nat} {xs : List (List Value)} (h : Sl F w k v xs) (hne : xs ≠ []) : ∀ a l c, v = .slice (some a) l c → ∃ b o, a = ⟨b, o, none⟩ := by
  intro a l c e
  obtain ⟨a', c', rfl, _, _, hc⟩ := h.shape
  obtain ⟨b, o, rfl, _⟩ := hc hne
  injection e with e1 e2 e3
  injection e1 with e1
  exact ⟨b, o, e1.symm⟩
theorem Sl.taken {k : Nat} {xs : List (List Value)} (h : Sl F w k v xs) {n : Nat} (hn : n ≤ xs.length) : Sl F w k (cutV v n) (xs.take n) := by
  obtain ⟨a, c, rfl, h1, h2, hc⟩ := h.shape
  have hl : (xs.take n).length = n := by rw [List.length_take]; omega
  refine ⟨⟨a, c, by rw [hl]; rfl, by omega, h2, fun hne => ?_⟩, fun x hx => h.wide x (List.mem_of_mem_take hx)⟩
  have hne' : xs ≠ [] := fun e => hne (by rw [e, List.take_nil])
  obtain ⟨b, o, e, hb, hlt, hcell⟩ := hc hne'
  refine ⟨b, o, e, hb, hlt, fun i hi => ?_⟩
  rw [hl] at hi
  rw [M.take_getD hi]
  exact hcell i (by omega)
theorem DclsR.cut (h : DclsR F w v ds) (hne : ds ≠ []) {t : TypeId} (ht : elB P t 2 = true) {kd : IntKind} {n : Nat} (hn : n ≤ ds.length) : vslice P t v none (some (.int kd n)) none w' K = K (cutV v n) w' :=
  Sl.cut h (Sl.base h (by simpa using hne)) ht (by rw [List.length_map]; exact hn)
theorem DclsR.taken (h : DclsR F w v ds) {n : Nat} (hn : n ≤ ds.length) : DclsR F w (cutV v n) (ds.take n) := by
  unfold DclsR; rw [List.map_take]; exact Sl.taken h (by rw [List.length_map]; exact hn)
/-! ### Slices of elements of some cells -/
theorem Blk.sl1k {b k : Nat} {cs : List Value} {e : TypeId} (h : Blk w b cs e) (hk : cs.length = k) : Sl (· = b) w k (.slice (some ⟨b, 0, none⟩) 1 1) [cs] := by
  refine ⟨⟨_, 1, rfl, Nat.le_refl _, by decide, fun _ => ⟨b, 0, rfl, rfl, h.lt, fun i hi j v hj => ?_⟩⟩, by simp [hk]⟩
  have hi0 : i = 0 := by simpa using hi
  subst hi0
  rw [addr_add]
  simp only [Nat.zero_mul, Nat.zero_add, Nat.add_zero]
  exact h.cell hj
theorem Own.app1k {bs ty b k : Nat} {t e : TypeId} {xs : List (List Value)} {y : List Value} (h : Own P 0 k t w v xs) (hT : elZ P t k bs = true) (hk : 0 < k) (hb : Blk w b y e) (hy : y.length = k) (hone : ∀ c, c ∈ y → c.oneCell' = true)
    (h63 : xs.length < 9223372036854775807) (hlen : (xs.length + 1) * bs ≤ 140737488355328)
    (hK : ∀ v' w', Own P 0 k t w' v' (xs ++ [y]) → Same (fun b => v.ownBlock = some b) w w' → (∀ b, v'.ownBlock = some b → v.ownBlock = some b ∨ w.heap.size ≤ b) → K v' w') : vbi P .append [t, t] ty [v, .slice (some ⟨b, 0, none⟩) 1 1] w K :=
  vappend (F := (· = b)) hT hk h (hb.sl1k hy) (by simpa using hone) (by omega) (by rw [List.length_singleton]; omega) (by simpa using hlen) hK
/-- A literal of one element. -/
theorem vbuildS1 {t e k : Nat} {z x : Value} {y : List Value} (hu : P.underlying t = some (.slice e)) (hz : sizeB P e k = true) (hzero : zeroB P e z) (hx : x.cells = ⟨y⟩) (hy : y.length = k) (hk : k ≤ 16777216)
    (hK : ∀ b w', b = w.heap.size → Ext w w' → w'.heap.size = w.heap.size + 1 → Blk w' b y e → K (.slice (some ⟨b, 0, none⟩) 1 1) w') : vbuildS P t 1 [(0, x)] w K := by
  refine vbuildS_row (xs := [x]) (us := [y]) hu hz hzero (by simp [hx]) (by simp [hy]) (by simpa using hk) fun b w' h1 h2 h3 h4 => hK b w' h1 h2 h3 (by simpa using h4)
theorem Blk.ownk {b k n : Nat} {t : TypeId} {css : List (List Value)} (h : Blk w b css.flatten (elOf P t)) (hw : ∀ x, x ∈ css → x.length = k) (hn : n = css.length) (hm : n ≤ 9223372036854775807) : Own P 0 k t w (.slice (some ⟨b, 0, none⟩) n n) css := by
  subst hn
  have hl := flatten_len hw
  refine ⟨⟨by rw [hl], .inr ⟨b, css.length, ⟨css.flatten⟩, by simp, Nat.zero_le _, h, Nat.le_refl _, by simpa [maxLen] using hm, by simpa using hl, ?_⟩⟩, hw⟩
  show List.take (css.length * k) css.flatten = css.flatten
  rw [← hl, List.take_length]
theorem flatten_set {k : Nat} : ∀ {xs : List (List Value)} (_ : ∀ x, x ∈ xs → x.length = k) {i j : Nat} (u : Value), i < xs.length → j < k → xs.flatten.set (i * k + j) u = (xs.set i ((xs.getD i []).set j u)).flatten
  | [], _, i, j, u, hi, _ => by simp at hi
  | x :: r, h, i, j, u, hi, hj => by
    have hx := h x List.mem_cons_self
    cases i with
    | zero =>
      rw [Nat.zero_mul, Nat.zero_add]
      simp only [List.flatten_cons, List.set_cons_zero, List.getD_cons_zero]
      rw [List.set_append_left _ _ (by omega)]
    | succ i =>
      simp only [List.flatten_cons, List.set_cons_succ, List.getD_cons_succ]
      rw [List.set_append_right _ _ (by rw [Nat.add_mul]; omega)]
      congr 1
      have e : (i + 1) * k + j - x.length = i * k + j := by rw [Nat.add_mul]; omega
      rw [e, flatten_set (fun y hy => h y (List.mem_cons_of_mem _ hy)) u (by simpa using hi) hj]
/-- One cell of an element is written. -/
theorem Own.stCell {k : Nat} {t e : TypeId} {xs : List (List Value)} {x : Value} (h : Own P 0 k t w v xs) (hv : x.cells = #[x]) (h1 : x.oneCell' = true) (hz : sizeB P e 1 = true) {i j : Nat} (hi : i < xs.length) (hj : j < k)
    (hK : ∀ w', Own P 0 k t w' v (xs.set i ((xs.getD i []).set j x)) → Same (fun b => v.ownBlock = some b) w w' → w'.heap.size = w.heap.size → K undef w') : vstore P e (.pointer (some ((eaddr v k i).add j))) x w K := by
  rcases h.row.2 with ⟨rfl, hn⟩ | ⟨g, cap, cur, rfl, hbg, hg, hnc, hcm, hcs, htake⟩
  · omega
  · have hrow := h.row
    have hij : i * k + j < xs.length * k := by
      have : i * k + k ≤ xs.length * k := by rw [← Nat.succ_mul]; exact Nat.mul_le_mul_right _ hi
      omega
    have hc := World.ownsRow.cellAt hrow (i * k + j) hij
    have hf := World.ownsRow.frozenAt hrow (i * k + j)
    obtain ⟨hs1, hs2⟩ := World.ownsRow.stored hrow (i * k + j) x
    have hlx : (xs.getD i []).length = k := h.wide _ (M.getD_mem hi _)
    have hcell : w.cell? ⟨g, i * k + j, none⟩ = some (xs.flatten.getD (i * k + j) undef) := by
      rw [hc]
      have : i * k + j < xs.flatten.length := by rw [flatten_len h.wide]; exact hij
      rw [List.getD_eq_getElem?_getD, List.getElem?_eq_getElem this]; rfl
    have ha : (⟨g, i * k + j, none⟩ : Addr).add 0 = ⟨g, i * k + j, none⟩ := rfl
    have he : (eaddr (.slice (some ⟨g, 0, none⟩) xs.length cap) k i).add j = ⟨g, i * k + j, none⟩ := by
      simp only [eaddr]; rw [addr_add]; simp
    rw [he]
    refine ⟨(), w.setCell ⟨g, i * k + j, none⟩ x, ?_, hK _ ?_ (Same.of_grown hs2) (by simp)⟩
    · simp only [Instr.storeAt, Instr.sureAddr, Sem.run_bind, Sem.run_pure, Result.andThen_ok, storeVar, run_sizeOf hz, hv]
      cases x <;> first | (cases h1; done) | simp [storeCells, store, Sem.run, ha, hcell, hf]
    · refine ⟨?_, fun y hy => ?_⟩
      · rw [← flatten_set h.wide x hi hj]
        simpa using hs1
      · obtain ⟨q, hq, rfl⟩ := List.getElem_of_mem hy
        rw [List.getElem_set]
        split
        · rw [List.length_set]; exact hlx
        · exact h.wide _ (List.getElem_mem _)
/-- A slice of pairs of ints. -/
def PairsR (F : Nat → Prop) (w : World) (v : Value) (xs : List (Int × Int)) : Prop := Sl F w 2 v (xs.map fun x => [.int .i64 x.1, .int .i64 x.2])
def OwnP (P : Program) (t : TypeId) (w : World) (v : Value) (xs : List (Int × Int)) : Prop := Own P 0 2 t w v (xs.map fun x => [.int .i64 x.1, .int .i64 x.2])
variable {xs : List (Int × Int)}
theorem PairsR.ext (h : PairsR F w v xs) (hw : Ext w w') : PairsR F w' v xs := Sl.ext h hw
theorem PairsR.same (h : PairsR F w v xs) (hw : Same S w w') (hs : ∀ b, F b → b < w.heap.size → ¬ S b) : PairsR F w' v xs := Sl.same h hw hs
theorem PairsR.iaddr (h : PairsR F w v xs) {t : TypeId} (ht : elB P t 2 = true) {kd : IntKind} {i : Int} (h0 : 0 ≤ i) (h1 : i < xs.length) :
    viaddr P t v (.int kd i) w' K = K (.pointer (some (eaddr v 2 i.toNat))) w' := Sl.iaddr h ht h0 (by rw [List.length_map]; exact h1)
theorem PairsR.len (h : PairsR F w v xs) {t : TypeId} (ht : isSl P t = true) (ty : TypeId) : vbi P .len [t] ty [v] w' K = K (.int .i64 xs.length) w' := by
  have := Sl.len (K := K) (w' := w') h ht ty; rwa [List.length_map] at this
theorem PairsR.load (h : PairsR F w v xs) {t : TypeId} (ht : aggB P t 2 = true) {i : Nat} (hi : i < xs.length) : vload P t (.pointer (some (eaddr v 2 i))) w K = K (.agg ⟨[.int .i64 (xs.getD i (0, 0)).1, .int .i64 (xs.getD i (0, 0)).2]⟩) w := by
  rw [Sl.ldAgg h ht (by rw [List.length_map]; exact hi), M.getD_map _ hi _ (0, 0)]
theorem PairsR.load1 (h : PairsR F w v xs) {t : TypeId} (ht : oneB P t = true) {i : Nat} (hi : i < xs.length) : vload P t (.pointer (some ((eaddr v 2 i).add 1))) w K = K (.int .i64 (xs.getD i (0, 0)).2) w :=
  Sl.ldField h ht (by rw [List.length_map]; exact hi) (by rw [M.getD_map _ hi _ (0, 0)]; rfl)
theorem OwnP.pairs {t : TypeId} (h : OwnP P t w v xs) : PairsR (fun b => v.ownBlock = some b) w v xs := Own.sl h
theorem OwnP.ext {t : TypeId} (h : OwnP P t w v xs) (hw : Ext w w') : OwnP P t w' v xs := Own.ext h hw
theorem OwnP.nil (t : TypeId) : OwnP P t w (.slice none 0 0) [] := Own.nil P 0 2 t w
end
end Go.Vc
