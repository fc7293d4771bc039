/- Rows: what declarations, terms and numbers that came in tell a walk. -/
import Derived.Test.YtbiabimalkkeiaaGreatDoorWe
import Derived.Test.YtbiabimalkkeiaaGreatDoorRw
import Derived.Deep.Slices
set_option linter.unusedVariables false
set_option linter.unusedSimpArgs false
set_option linter.unnecessarySimpa false
set_option linter.unusedSectionVars false
namespace Go.Proofs.YtbiabimalkkeiaaGreatDoor
open Go Go.Vc Go.Proofs
open Go.ChangeShapes Go.WideShapes Go.ChangeAt Go.RowKit
variable {w : World} {K : Value → World → Prop} {F F' D G : Nat → Prop}
theorem list2 {α : Type} {l : List α} (h : l.length = 2) : ∃ a b, l = [a, b] := by
  match l, h with
  | [a, b], _ => exact ⟨a, b, rfl⟩
theorem list5 {α : Type} {l : List α} (h : l.length = 5) : ∃ a b c d e, l = [a, b, c, d, e] := by
  match l, h with
  | [a, b, c, d, e], _ => exact ⟨a, b, c, d, e, rfl⟩
theorem i64_wf {n : Int} (h : (Lit.int .i64 n).wf = true) : -9223372036854775808 ≤ n ∧ n ≤ 9223372036854775807 := by
  simp only [Lit.wf, Bool.and_eq_true, decide_eq_true_eq] at h
  have h1 : IntKind.i64.min = -9223372036854775808 := by decide
  have h2 : IntKind.i64.max = 9223372036854775807 := by decide
  omega
theorem ints_nil (w : World) : Ints (fun _ => True) w (.slice none 0 0) [] := ⟨⟨none, 0, rfl, by simp, by simp, fun h => absurd rfl h⟩, by simp⟩
/-- Cells behind an address, as elements of some cells each. -/
theorem sl_of {w : World} {x : Addr} {k len cap : Nat} {css : List (List Value)} (hk : 0 < k) (hl : len ≤ cap) (hm : cap ≤ maxLen) (hn : css.length = len) (hw : ∀ c, c ∈ css → c.length = k)
    (hcell : ∀ i, i < len → ∀ j, j < k → w.cell? (x.add (i * k + j)) = (css.getD i [])[j]?) : Sl (fun _ => True) w k (.slice (some x) len cap) css := by
  subst hn
  refine ⟨⟨some x, cap, rfl, hl, by unfold maxLen at hm; exact hm, fun hne => ?_⟩, hw⟩
  have hlen : 0 < css.length := List.length_pos_iff.2 hne
  obtain ⟨b, off, spot⟩ := x
  have hw0 : (css.getD 0 []).length = k := hw _ (M.getD_mem hlen _)
  have hc0 := hcell 0 hlen 0 hk
  rw [List.getElem?_eq_getElem (by omega : 0 < (css.getD 0 []).length)] at hc0
  have hspot : spot = none := by simpa [Addr.add] using World.cell?_spot hc0
  subst hspot
  rw [addr_add] at hc0
  refine ⟨b, off, rfl, trivial, World.block_lt_of_cell? w _ hc0, fun i hi j v hv => ?_⟩
  have hwi : (css.getD i []).length = k := hw _ (M.getD_mem hi _)
  have hj : j < k := by rw [← hwi]; exact (List.getElem?_eq_some_iff.1 hv).1
  have hc := hcell i hi j hj
  rw [addr_add] at hc
  rw [addr_add, ← hv, ← hc, Nat.add_assoc]
theorem ints_of {w : World} {x : Addr} {len cap : Nat} {zs : List Int} (hl : len ≤ cap) (hm : cap ≤ maxLen) (hz : zs.length = cap) (hcell : ∀ i, i < cap → w.cell? (x.add i) = some (.int .i64 (zs.getD i 0))) : Ints (fun _ => True) w (.slice (some x) len cap) (zs.take len) := by
  refine sl_of (k := 1) (by decide) hl hm (by simp only [List.length_map, List.length_take]; omega) (fun c hc => by obtain ⟨u, _, rfl⟩ := List.mem_map.1 hc; rfl) fun i hi j hj => ?_
  have hj0 : j = 0 := by omega
  subst hj0
  rw [Nat.mul_one, Nat.add_zero, hcell i (by omega)]
  have : i < zs.length := by omega
  simp [List.getD_eq_getElem?_getD, List.getElem?_take, hi, this]
section
variable {H : Type} {enc : TypeId × Value → H} {W : World} {cs : List Value} {x : DataW H × List MemPlace} {held : Bool} {fuel : Nat}
theorem ints_in (h : DataW.trod enc PP W 0 (fun _ => true) held fuel T_Lint cs = some x) : ∃ v zs, cs = [v] ∧ Ints (fun _ => True) W v zs := by
  rcases open_ints u_Lint ik_int (by kernel_rfl) h with ⟨rfl, _⟩ | ⟨a, l, c, zs, rfl, _, hl, hm, hz, _, hcell, hwz⟩
  · exact ⟨_, [], rfl, ints_nil W⟩
  · have hz' : zs.length = c := by simpa using hz
    exact ⟨_, _, rfl, ints_of hl hm hz' fun i hi => hcell i (by omega)⟩
theorem us_string : PP.underlying T_string = some .string := by kernel_rfl
theorem sdDecl : PP.underlying T_laws_Decl = some (.struct #[⟨"Name", T_string, 0, false, "", "", 0⟩, ⟨"Wide", T_int, 1, false, "", "", 16⟩]) := by kernel_rfl
theorem sdTerm : PP.underlying T_laws_Term = some (.struct #[⟨"Op", T_int, 0, false, "", "", 0⟩, ⟨"A", T_int, 1, false, "", "", 8⟩, ⟨"B", T_int, 2, false, "", "", 16⟩, ⟨"Name", T_string, 3, false, "", "", 24⟩, ⟨"Kids", T_Llaws_Term, 4, false, "", "", 40⟩]) := by kernel_rfl
theorem c1_int : PP.cellsOf T_int = 1 := by kernel_rfl
theorem c1_string : PP.cellsOf T_string = 1 := by kernel_rfl
theorem c1_Ls : PP.cellsOf T_Llaws_Term = 1 := by kernel_rfl
theorem c2_Decl : PP.cellsOf T_laws_Decl = 2 := by kernel_rfl
theorem c5_Term : PP.cellsOf T_laws_Term = 5 := by kernel_rfl
/-- The names of a term have sizes that a number holds. -/
def strOk : M.Tm → Bool := M.Tm.fold fun t xs => decide (t.s.size ≤ 9223372036854775807) && xs.all id
theorem strOk_eq (t : M.Tm) : strOk t = (decide (t.s.size ≤ 9223372036854775807) && (t.ks.map strOk).all id) := M.Tm.fold_eq _ t
theorem strOk_iff {t : M.Tm} : strOk t = true ↔ t.s.size ≤ 9223372036854775807 ∧ ∀ k, k ∈ t.ks → strOk k = true := by
  rw [strOk_eq, Bool.and_eq_true, decide_eq_true_eq, List.all_eq_true]
  refine and_congr_right fun _ => ⟨fun h k hk => h _ (List.mem_map_of_mem hk), fun h y hy => ?_⟩
  obtain ⟨k, hk, rfl⟩ := List.mem_map.1 hy
  exact h k hk
theorem decl_in (h : DataW.trod enc PP W 0 (fun _ => true) held fuel T_laws_Decl cs = some x) : ∃ d : M.Dcl, cs = [.string d.1, .int .i64 d.2] ∧ d.1.size ≤ 9223372036854775807 := by
  obtain ⟨xs, n, _, _, hl, hlen, hf⟩ := DataW.trod_struct sdDecl h
  rw [c2_Decl] at hl
  obtain ⟨c0, c1, rfl⟩ := list2 hl
  obtain ⟨y0, y1, rfl⟩ := list2 (α := DataW H × List MemPlace) hlen
  · · have h0 := hf 0 ⟨"Name", T_string, 0, false, "", "", 0⟩ rfl
      have h1 := hf 1 ⟨"Wide", T_int, 1, false, "", "", 16⟩ rfl
      simp only [c1_int, c1_string, List.drop_zero, List.take_succ_cons, List.take_zero, List.drop_succ_cons, List.getElem?_cons_zero, List.getElem?_cons_succ] at h0 h1
      obtain ⟨s, e0, _, hs⟩ := DataW.trod_string us_string h0
      obtain ⟨n, e1, _, _⟩ := DataW.trod_int ik_int h1
      simp only [List.cons.injEq, and_true] at e0 e1
      subst e0 e1
      exact ⟨(s, n), rfl, by simpa [maxLen] using hs⟩
/-- Elements that came in one by one. -/
theorem each_in {α : Type} [Inhabited α] {e k : Nat} {R : List Value → α → Prop} {a : Addr} {len cap n : Nat} {elems : List (DataW H × List MemPlace)} (ce : PP.cellsOf e = k) (hk : 0 < k) (hl : len ≤ cap) (hm : cap ≤ maxLen) (hn : elems.length = len)
    (hel : ∀ i, i < len → (W.cells? 0 (a.add (i * PP.cellsOf e)) (PP.cellsOf e)).bind (DataW.trod enc PP W 0 (fun _ => true) held n e) = elems[i]?)
    (hone : ∀ cs x, DataW.trod enc PP W 0 (fun _ => true) held n e cs = some x → ∃ y, R cs y) :
    ∃ (css : List (List Value)) (ys : List α), Sl (fun _ => True) W k (.slice (some a) len cap) css ∧ css.length = len ∧ ys.length = len ∧ ∀ i, i < len → R (css.getD i []) (ys.getD i default) := by
  have each : ∀ i, i < len → ∃ q : List Value × α, W.cells? 0 (a.add (i * k)) k = some q.1 ∧ R q.1 q.2 := fun i hi => by
    have h := hel i hi
    rw [List.getElem?_eq_getElem (by omega), ce] at h
    obtain ⟨cs', h1, h2⟩ := Option.bind_eq_some_iff.1 h
    obtain ⟨y, hy⟩ := hone _ _ h2
    exact ⟨(cs', y), h1, hy⟩
  obtain ⟨q, hq⟩ := Go.Deep.choose_lt each
  refine ⟨(List.range len).map fun i => (q i).1, (List.range len).map fun i => (q i).2, ?_, by simp, by simp, fun i hi => ?_⟩
  · refine sl_of hk hl hm (by simp) (fun c hc => ?_) fun i hi j hj => ?_
    · obtain ⟨i, hi, rfl⟩ := List.mem_map.1 hc
      exact (World.cells?_some (hq i (List.mem_range.1 hi)).1).2.1
    · have hc := (World.cells?_some (hq i hi).1).2.2 j hj
      rw [Go.Deep.add_add] at hc
      rw [hc]
      simp [List.getD_eq_getElem?_getD, hi]
  · have := (hq i hi).2
    simpa [List.getD_eq_getElem?_getD, hi] using this
theorem decls_in (h : DataW.trod enc PP W 0 (fun _ => true) held fuel T_Llaws_Decl cs = some x) : ∃ v ds, cs = [v] ∧ DclsR (fun _ => True) W v ds ∧ Sized ds := by
  rcases DataW.trod_slice u_Llaws_Decl h with ⟨rfl, _⟩ | ⟨a, len, cap, elems, rest, n, _, rfl, _, _, hl, hm, hn, hel, _, _⟩
  · exact ⟨_, [], rfl, ⟨⟨none, 0, rfl, by simp, by simp, fun h => absurd rfl h⟩, by simp⟩, fun i hi => absurd hi (by simp)⟩
  · obtain ⟨css, ys, hs, h1, h2, h3⟩ := each_in (α := M.Dcl) (R := fun cs d => cs = [.string d.1, .int .i64 d.2] ∧ d.1.size ≤ 9223372036854775807) c2_Decl (by decide) hl hm hn hel fun cs x hx => decl_in hx
    refine ⟨_, ys, rfl, ?_, fun i hi => ?_⟩
    · have e : css = ys.map fun d => [Value.string d.1, Value.int .i64 d.2] := by
        refine List.ext_getElem (by simp; omega) fun i g1 g2 => ?_
        have := (h3 i (by omega)).1
        rw [List.getD_eq_getElem?_getD, List.getElem?_eq_getElem g1, List.getD_eq_getElem?_getD, List.getElem?_eq_getElem (by omega)] at this
        simpa using this
      rw [e] at hs
      exact hs
    · have := (h3 i (by omega)).2
      rw [List.getD_eq_getElem?_getD, List.getElem?_eq_getElem hi] at this ⊢
      simpa using this
theorem term_in : ∀ (fuel : Nat) {cs : List Value} {x : DataW H × List MemPlace}, DataW.trod enc PP W 0 (fun _ => true) held fuel T_laws_Term cs = some x → ∃ t : M.Tm, TmR (fun _ => True) W cs t ∧ strOk t = true := by
  intro fuel
  induction fuel using Nat.strongRecOn with
  | _ fuel ih =>
  intro cs x h
  obtain ⟨xs, n, hfu, _, hl, hlen, hf⟩ := DataW.trod_struct sdTerm h
  rw [c5_Term] at hl
  obtain ⟨c0, c1, c2, c3, c4, rfl⟩ := list5 hl
  clear hl
  obtain ⟨y0, y1, y2, y3, y4, rfl⟩ := list5 (α := DataW H × List MemPlace) hlen
  · · have h0 := hf 0 ⟨"Op", T_int, 0, false, "", "", 0⟩ rfl
      have h1 := hf 1 ⟨"A", T_int, 1, false, "", "", 8⟩ rfl
      have h2 := hf 2 ⟨"B", T_int, 2, false, "", "", 16⟩ rfl
      have h3 := hf 3 ⟨"Name", T_string, 3, false, "", "", 24⟩ rfl
      have h4 := hf 4 ⟨"Kids", T_Llaws_Term, 4, false, "", "", 40⟩ rfl
      simp only [c1_int, c1_string, c1_Ls, List.drop_zero, List.take_succ_cons, List.take_zero, List.drop_succ_cons, List.getElem?_cons_zero, List.getElem?_cons_succ] at h0 h1 h2 h3 h4
      obtain ⟨o, e0, _, _⟩ := DataW.trod_int ik_int h0
      obtain ⟨p, e1, _, _⟩ := DataW.trod_int ik_int h1
      obtain ⟨q, e2, _, _⟩ := DataW.trod_int ik_int h2
      obtain ⟨s, e3, _, hs⟩ := DataW.trod_string us_string h3
      simp only [List.cons.injEq, and_true] at e0 e1 e2 e3
      subst e0 e1 e2 e3
      have hs' : s.size ≤ 9223372036854775807 := by simpa [maxLen] using hs
      rcases DataW.trod_slice u_Llaws_Term h4 with ⟨e4, _⟩ | ⟨a, len, cap, elems, rest, m, hm', e4, _, _, hl, hm, hn, hel, _, _⟩
      · simp only [List.cons.injEq, and_true] at e4
        subst e4
        exact ⟨.mk o p q s [], leafR o p q s, strOk_iff.2 ⟨hs', fun k hk => by cases hk⟩⟩
      · simp only [List.cons.injEq, and_true] at e4
        subst e4
        obtain ⟨css, ys, hsl, g1, g2, g3⟩ := each_in (α := M.Tm) (R := fun cs t => TmR (fun _ => True) W cs t ∧ strOk t = true) c5_Term (by decide) hl hm hn hel fun cs x hx => ih m (by omega) hx
        refine ⟨.mk o p q s ys, TmR.of (t := .mk o p q s ys) ⟨css, hsl, by show css.length = ys.length; omega, fun i hi => ?_⟩, strOk_iff.2 ⟨hs', fun k hk => ?_⟩⟩
        · have hi' : i < ys.length := hi
          exact (g3 i (by omega)).1
        · obtain ⟨i, hi, rfl⟩ := List.getElem_of_mem hk
          have hi' : i < ys.length := hi
          have := (g3 i (by omega)).2
          rwa [List.getD_eq_getElem?_getD, List.getElem?_eq_getElem hi'] at this
end
end Go.Proofs.YtbiabimalkkeiaaGreatDoor
