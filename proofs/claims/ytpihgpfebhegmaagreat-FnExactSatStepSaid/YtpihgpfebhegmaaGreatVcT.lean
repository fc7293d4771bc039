/- Slices that are made: append, literals; owned rows. -/
import Derived.Test.YtpihgpfebhegmaaGreatVcS
import Derived.Laws.AppendOwn
set_option linter.unusedVariables false
set_option linter.unusedSimpArgs false
set_option linter.unnecessarySimpa false
set_option linter.unusedSectionVars false
namespace Go.Vc
open Go

/-- `t` is a slice type whose elements have `k` cells and `by_` bytes. -/
def elZ (P : Program) (t k bs : Nat) : Bool := match P.underlying t with
  | some (.slice e) => match P.info? e with
    | some i => Nat.beq i.size k && Nat.beq i.bytes bs && (match i.zero with | some z => Nat.beq z.cells.size k | none => false)
    | none => false
  | _ => false
def elOf (P : Program) (t : TypeId) : TypeId := match P.underlying t with | some (.slice e) => e | _ => 0

theorem elZ_eq {P : Program} {t k bs : Nat} (h : elZ P t k bs = true) : P.underlying t = some (.slice (elOf P t)) ∧ ∃ i z, P.info? (elOf P t) = some i ∧ i.zero = some z ∧ i.size = k ∧ i.bytes = bs ∧ z.cells.size = k := by
  unfold elZ at h
  unfold elOf
  split at h
  · rename_i e hu
    rw [hu]
    refine ⟨rfl, ?_⟩
    split at h
    · rename_i i hi
      simp only [Bool.and_eq_true] at h
      obtain ⟨⟨h1, h2⟩, h3⟩ := h
      split at h3
      · rename_i z hz
        exact ⟨i, z, hi, hz, Nat.eq_of_beq_eq_true h1, Nat.eq_of_beq_eq_true h2, Nat.eq_of_beq_eq_true h3⟩
      · cases h3
    · cases h
  · cases h

/-- A slice that owns its block (or is nil). -/
structure Own (P : Program) (base k : Nat) (t : TypeId) (w : World) (v : Value) (xs : List (List Value)) : Prop where
  row : w.ownsRow base (elOf P t) k v xs.length xs.flatten
  wide : ∀ x, x ∈ xs → x.length = k

theorem flatten_len {k : Nat} : ∀ {xs : List (List Value)}, (∀ x, x ∈ xs → x.length = k) → xs.flatten.length = xs.length * k
  | [], _ => by simp
  | x :: r, h => by
    rw [List.flatten_cons, List.length_append, h x List.mem_cons_self, flatten_len fun y hy => h y (List.mem_cons_of_mem _ hy), List.length_cons, Nat.add_mul]
    omega

theorem flatten_get {k : Nat} : ∀ {xs : List (List Value)} (_ : ∀ x, x ∈ xs → x.length = k) {i j : Nat}, i < xs.length → j < k → xs.flatten[i * k + j]? = (xs.getD i [])[j]?
  | [], _, i, j, hi, _ => by simp at hi
  | x :: r, h, i, j, hi, hj => by
    have hx := h x List.mem_cons_self
    rw [List.flatten_cons]
    cases i with
    | zero => rw [Nat.zero_mul, Nat.zero_add, List.getElem?_append_left (by omega)]; simp
    | succ i =>
      rw [List.getElem?_append_right (by rw [Nat.add_mul]; omega)]
      have e : (i + 1) * k + j - x.length = i * k + j := by rw [Nat.add_mul]; omega
      rw [e, flatten_get (fun y hy => h y (List.mem_cons_of_mem _ hy)) (by simpa using hi) hj]
      simp

theorem flat1 : ∀ (cs : List Value), (cs.map fun x => [x]).flatten = cs
  | [] => rfl
  | c :: cs => by rw [List.map_cons, List.flatten_cons, flat1 cs]; rfl

section
variable {P : Program} {base k : Nat} {t : TypeId} {w w' : World} {v : Value} {xs ys : List (List Value)} {K : Value → World → Prop}

theorem Own.nil (P : Program) (base k : Nat) (t : TypeId) (w : World) : Own P base k t w (.slice none 0 0) [] := ⟨World.ownsRow_nil w base _ k, fun x hx => by cases hx⟩

theorem Own.lt (h : Own P base k t w v xs) {b : Nat} (hb : v.ownBlock = some b) : base ≤ b ∧ b < w.heap.size := h.row.lt b hb

theorem Own.same {S : Nat → Prop} (h : Own P base k t w v xs) (hw : Same S w w') (hs : ∀ b, v.ownBlock = some b → ¬ S b) : Own P base k t w' v xs := by
  refine ⟨⟨h.row.1, ?_⟩, h.wide⟩
  rcases h.row.2 with hn | ⟨g, cap, cur, rfl, hb, hg, rest⟩
  · exact .inl hn
  · exact .inr ⟨g, cap, cur, rfl, hb, (hw.block g (Array.getElem?_eq_some_iff.1 hg).1 (hs g rfl)).trans hg, rest⟩
theorem Own.ext (h : Own P base k t w v xs) (hw : Ext w w') : Own P base k t w' v xs := h.same hw fun _ _ h => h

theorem Own.sl (h : Own P base k t w v xs) : Sl (fun b => v.ownBlock = some b) w k v xs := by
  refine ⟨?_, h.wide⟩
  rcases h.row.2 with ⟨rfl, hn⟩ | ⟨g, cap, cur, rfl, hb, hg, hnc, hcm, hcs, htake⟩
  · exact ⟨none, 0, by rw [hn], by omega, by omega, fun hne => absurd (List.eq_nil_of_length_eq_zero hn) hne⟩
  · refine ⟨_, cap, rfl, hnc, by simpa [maxLen] using hcm, fun _ => ⟨g, 0, rfl, rfl, (Array.getElem?_eq_some_iff.1 hg).1, fun i hi j u hu => ?_⟩⟩
    have hj : j < k := by
      have hx : xs.getD i [] ∈ xs := by rw [List.getD_eq_getElem?_getD, List.getElem?_eq_getElem hi]; exact List.getElem_mem hi
      have := h.wide _ hx
      rw [← this]; exact (List.getElem?_eq_some_iff.1 hu).1
    have hf := flatten_get h.wide hi hj
    rw [hu] at hf
    have := h.row.cells (g := g) rfl (i * k + j) u hf
    rw [addr_add] at this ⊢
    rwa [Nat.zero_add] at this ⊢

theorem Same.of_grown {row : Option Nat} (h : w.grownBy w' row) : Same (fun b => row = some b) w w' :=
  ⟨h.os, h.tape, h.output, h.size, fun b hb hs => h.block b hb (fun e => hs e.symm)⟩

/-- `append(v, x...)`. -/
theorem vappend {bs ty : Nat} {F : Nat → Prop} {x : Value} (hT : elZ P t k bs = true) (hk : 0 < k) (h : Own P base k t w v xs) (hs : Sl F w k x ys) (hone : ∀ y, y ∈ ys → ∀ c, c ∈ y → c.oneCell' = true)
    (hb : base ≤ w.heap.size) (h63 : xs.length + ys.length ≤ 9223372036854775807) (hlen : (xs.length + ys.length) * bs ≤ 140737488355328)
    (hK : ∀ v' w', Own P base k t w' v' (xs ++ ys) → Same (fun b => v.ownBlock = some b) w w' → (∀ b, v'.ownBlock = some b → v.ownBlock = some b ∨ w.heap.size ≤ b) → K v' w') : vbi P .append [t, t] ty [v, x] w K := by
  obtain ⟨hu, i, z, hi, hz, hsz, hby, hzs⟩ := elZ_eq hT
  obtain ⟨a, c, rfl, hac, hcm, hcell⟩ := hs.shape
  have hwide : ∀ y, y ∈ xs ++ ys → y.length = k := fun y hy => (List.mem_append.1 hy).elim (h.wide y) (hs.wide y)
  by_cases hne : ys = []
  · subst hne
    have hown : Own P base k t w v (xs ++ []) := by rw [List.append_nil]; exact h
    rcases h.row.2 with ⟨rfl, hn⟩ | ⟨g, cap, cur, rfl, hbg, hg, hnc, hcm', hcs, htake⟩
    · refine ⟨_, _, ?_, hK _ w hown (Same.refl _ w) fun b hb => .inl hb⟩
      cases a <;> simp [biSem, Builtin.append_, run_under hu, sizeOf, typeInfo, program, hi, Sem.run, Builtin.lenOf, Builtin.firstCells, loadCells, loadCellsFrom]
    · refine ⟨_, _, ?_, hK _ w hown (Same.refl _ w) fun b hb => .inl hb⟩
      cases a <;> simp [biSem, Builtin.append_, run_under hu, sizeOf, typeInfo, program, hi, Sem.run, Builtin.lenOf, Builtin.firstCells, loadCells, loadCellsFrom, storeCells, hnc]
  · obtain ⟨b, o, rfl, _, hlt, hcc⟩ := hcell hne
    have hnews : ∀ j u, ys.flatten[j]? = some u → w.cell? ((⟨b, o, none⟩ : Addr).add j) = some u := by
      intro j u hju
      have hjl : j < ys.length * k := by rw [← flatten_len hs.wide]; exact (List.getElem?_eq_some_iff.1 hju).1
      have hq : j / k < ys.length := Nat.div_lt_of_lt_mul (by rwa [Nat.mul_comm] at hjl)
      have hr : j % k < k := Nat.mod_lt _ hk
      have hj : j / k * k + j % k = j := Nat.div_add_mod' j k
      have hf := flatten_get hs.wide hq hr
      rw [hj, hju] at hf
      have := hcc _ hq _ _ hf.symm
      rw [addr_add] at this ⊢
      rwa [Nat.add_assoc, hj] at this
    have h1 : ∀ u ∈ ys.flatten, u.oneCell' = true := by
      intro u hu'
      obtain ⟨y, hy, hc⟩ := List.mem_flatten.1 hu'
      exact hone y hy u hc
    obtain ⟨v', w', hr, hown, hgr, _⟩ := run_append_own (P := P) w base t ty (elOf P t) i z k bs hu hi hz hsz hby hzs hk v xs.length xs.flatten h.row ⟨b, o, none⟩ ys.length c ys.flatten (flatten_len hs.wide) hnews h1
      (by simpa [maxLen] using h63) hlen hb
    refine ⟨v', w', hr, hK v' w' ⟨?_, hwide⟩ (Same.of_grown hgr) ?_⟩
    · rw [List.length_append, List.flatten_append]
      exact hown
    · have hys : 0 < ys.length := List.length_pos_iff.2 hne
      have hfl := flatten_len hs.wide
      subst hsz hby
      rcases h.row.2 with ⟨rfl, hn⟩ | ⟨g, cap, cur, rfl, hbg, hg, hnc, hcm', hcs, htake⟩
      · have hr2 := run_append_nil (P := P) w t ty (elOf P t) i z hu hi hz ⟨b, o, none⟩ ys.length c ys.flatten hfl hnews hys (by omega) (by have hb' := hlen; rw [hn, Nat.zero_add] at hb'; omega)
        obtain ⟨rfl, -⟩ := Result.ok.inj (hr.symm.trans hr2)
        rintro b' h'
        exact .inr (by cases h'; exact Nat.le_refl _)
      · by_cases hroom : xs.length + ys.length ≤ cap
        · have hfit : xs.length * i.size + ys.flatten.length ≤ cur.size := by rw [hfl, hcs, ← Nat.add_mul]; exact Nat.mul_le_mul_right _ hroom
          have hr2 := run_append_room (P := P) w t ty (elOf P t) i hu hi g xs.length cap cur hg ⟨b, o, none⟩ ys.length c ys.flatten hfl hnews h1 hroom hfit
          obtain ⟨rfl, -⟩ := Result.ok.inj (hr.symm.trans hr2)
          exact fun b' h' => .inl h'
        · have hr2 := run_append_grow (P := P) w t ty (elOf P t) i z hu hi hz ⟨g, 0, none⟩ xs.length cap xs.flatten h.row.1 (h.row.cells (g := g) rfl) ⟨b, o, none⟩ ys.length c ys.flatten hfl hnews (by omega) (by omega) (growslice_fits (by omega) hlen)
          obtain ⟨rfl, -⟩ := Result.ok.inj (hr.symm.trans hr2)
          rintro b' h'
          exact .inr (by cases h'; exact Nat.le_refl _)

/-- A literal of one element of one cell. -/
theorem vbuildS_one {e : TypeId} {x z : Value} (hu : P.underlying t = some (.slice e)) (hz : sizeB P e 1 = true) (hzero : zeroB P e z) (hzc : z.cells = #[z]) (hx : x.cells = #[x])
    (hK : ∀ b w', b = w.heap.size → Ext w w' → w'.heap.size = w.heap.size + 1 → Blk w' b [x] e → K (.slice (some ⟨b, 0, none⟩) 1 1) w') : vbuildS P t 1 [(0, x)] w K := by
  refine ⟨_, _, ?_, hK w.heap.size { w with heap := w.heap.push (.cells ⟨[x]⟩ e) } rfl (ext_push w _) (by simp) (blk_push w _ e)⟩
  simp [Instr.buildSlice, run_under hu, run_sizeOf hz, run_zero hzero, hzc, Instr.fill, hx, newRow, newObj, Sem.run]
  refine congrArg (fun l => w.alloc (Obj.cells l e)) (Array.toList_inj.1 ?_)
  simp [List.range_succ]

theorem vbuildS_nil {e k' : Nat} (hu : P.underlying t = some (.slice e)) (hz : sizeB P e k' = true)
    (hK : ∀ b w', b = w.heap.size → Ext w w' → w'.heap.size = w.heap.size + 1 → Blk w' b [] e → K (.slice (some ⟨b, 0, none⟩) 0 0) w') : vbuildS P t 0 [] w K := by
  refine ⟨_, _, ?_, hK w.heap.size { w with heap := w.heap.push (.cells ⟨[]⟩ e) } rfl (ext_push w _) (by simp) (blk_push w _ e)⟩
  simp [Instr.buildSlice, run_under hu, run_sizeOf hz, Instr.fill, newRow, newObj, Sem.run]
  refine congrArg (fun l => w.alloc (Obj.cells l e)) (Array.toList_inj.1 ?_)
  simp

/-- A whole block as a slice. -/
theorem Blk.sl1 {b n : Nat} {cs : List Value} {e : TypeId} (h : Blk w b cs e) (hn : n = cs.length) (hm : n ≤ 9223372036854775807) : Sl (· = b) w 1 (.slice (some ⟨b, 0, none⟩) n n) (cs.map fun x => [x]) := by
  subst hn
  refine ⟨⟨_, cs.length, by simp, by simp, by simpa using hm, fun _ => ⟨b, 0, rfl, rfl, h.lt, fun i hi j v hj => ?_⟩⟩, by simp⟩
  simp only [List.length_map] at hi
  have : j = 0 ∧ cs[i]? = some v := by
    simp only [List.getD_eq_getElem?_getD, List.getElem?_map] at hj
    rw [List.getElem?_eq_getElem hi] at hj ⊢
    cases j with
    | zero => simp at hj; simp [hj]
    | succ j => simp at hj
  obtain ⟨rfl, hv⟩ := this
  rw [addr_add]
  simp only [Nat.mul_one, Nat.zero_add, Nat.add_zero]
  exact h.cell hv

theorem Blk.own1 {b n c : Nat} {cs : List Value} (h : Blk w b cs (elOf P t)) (hb : base ≤ b) (hn : n = cs.length) (hc : c = cs.length) (hm : n ≤ 9223372036854775807) : Own P base 1 t w (.slice (some ⟨b, 0, none⟩) n c) (cs.map fun x => [x]) := by
  subst hn hc
  refine ⟨⟨by simp [flatten_len (k := 1) (xs := cs.map fun x => [x]) (by simp)], .inr ⟨b, cs.length, ⟨cs⟩, by simp, hb, h, by simp, by simpa [maxLen] using hm, by simp, ?_⟩⟩, by simp⟩
  rw [flat1]; simp
end
end Go.Vc
