/- Contracts of the laws' copies, comparisons and marks: slices of numbers, and slices of these. -/
import Derived.Test.YtpihgpfebhegmaaGreatSf
import Derived.Test.YtpihgpfebhegmaaGreatDc
import Derived.Test.YtpihgpfebhegmaaGreatGf
set_option linter.unusedVariables false
set_option linter.unusedSimpArgs false
set_option linter.unnecessarySimpa false
set_option linter.unusedSectionVars false
namespace Go.Proofs.YtpihgpfebhegmaaGreat
open Go Go.Vc Go.Proofs Go.M
variable {w : World} {K : Value → World → Prop} {F Fr F' : Nat → Prop} {N : Nat}
theorem ext_getD {xs ys : List Int} (hl : xs.length = ys.length) (h : ∀ j, j < xs.length → xs.getD j 0 = ys.getD j 0) : xs = ys :=
  List.ext_getElem hl fun j h1 h2 => by have := h j h1; simpa [List.getD_eq_getElem?_getD, h1, h2] using this
theorem ext_getDL {xs ys : List (List Int)} (hl : xs.length = ys.length) (h : ∀ j, j < xs.length → xs.getD j [] = ys.getD j []) : xs = ys :=
  List.ext_getElem hl fun j h1 h2 => by have := h j h1; simpa [List.getD_eq_getElem?_getD, h1, h2] using this
theorem getD_set {α : Type} {xs : List α} {i j : Nat} {x d : α} (hi : i < xs.length) : (xs.set i x).getD j d = if i = j then x else xs.getD j d := by
  simp only [List.getD_eq_getElem?_getD, List.getElem?_set]
  by_cases e : i = j
  · subst e; simp [hi]
  · simp [e]
theorem _root_.Go.Vc.Ints.small {v : Value} {xs : List Int} (h : Ints F w v xs) : xs.length ≤ 9223372036854775807 := by
  obtain ⟨_, _, _, h1, h2, _⟩ := h.shape; simp at h1; omega
theorem _root_.Go.Vc.Vals.small {v : Value} {xs : List Value} (h : Vals F w v xs) : xs.length ≤ 9223372036854775807 := by
  obtain ⟨_, _, _, h1, h2, _⟩ := h.shape; simp at h1; omega
/-- How many numbers there are. -/
def tot : List (List Int) → Nat
  | [] => 0
  | x :: xs => x.length + tot xs
theorem tot_app (a b : List (List Int)) : tot (a ++ b) = tot a + tot b := by
  induction a with
  | nil => simp [tot]
  | cons x a ih => simp [tot, ih]; omega
theorem tot_take {xss : List (List Int)} {i : Nat} (h : i < xss.length) : tot (xss.take (i + 1)) = tot (xss.take i) + (xss.getD i []).length := by
  rw [take_snoc' h, tot_app]; simp [tot]
theorem tot_le (xss : List (List Int)) (i : Nat) : tot (xss.take i) ≤ tot xss := by
  have := tot_app (xss.take i) (xss.drop i)
  rw [List.take_append_drop] at this
  omega
theorem row_tot {xss : List (List Int)} {i : Nat} (h : i < xss.length) : (xss.getD i []).length ≤ tot xss := by
  have := tot_take h
  have := tot_le xss (i + 1)
  omega
theorem mem_tot {xss : List (List Int)} {x : List Int} (h : x ∈ xss) : x.length ≤ tot xss := by
  obtain ⟨i, hi, rfl⟩ := List.getElem_of_mem h
  have := row_tot hi
  rwa [List.getD_eq_getElem?_getD, List.getElem?_eq_getElem hi] at this
/-- Numbers that count up. -/
def ramp (k n : Nat) : List Int := (List.range n).map fun j => ((k + j : Nat) : Int)
theorem ramp_len (k n : Nat) : (ramp k n).length = n := by simp [ramp]
theorem ramp_get {k n j : Nat} (h : j < n) : (ramp k n).getD j 0 = ((k + j : Nat) : Int) := by
  simp [ramp, List.getD_eq_getElem?_getD, h]
section
variable {ls : List Value} {xss : List (List Int)} {w' : World} {S : Nat → Prop}
/-- One clause is another one. -/
theorem RowsR.setRow {i : Nat} {ys : List Int} (h : RowsR N Fr w ls xss) (hi : i < xss.length) (hw : Same (fun b => (ls.getD i undef).ownBlock = some b) w w') (hv : OwnI PP T_Lint w' (ls.getD i undef) ys) : RowsR N Fr w' ls (xss.set i ys) := by
  refine ⟨Nat.le_trans h.nle hw.size, fun j hj => ?_, fun j b hj hb => h.sub j b (by simpa using hj) hb, fun j k b hjk hk => h.dj j k b hjk (by simpa using hk)⟩
  rw [List.length_set] at hj
  rw [getD_set hi]
  by_cases e : i = j
  · subst e; rw [if_pos rfl]; exact hv
  · rw [if_neg e]
    refine (h.own j hj).same hw fun b hb hb2 => ?_
    rcases Nat.lt_or_gt_of_ne e with hlt | hlt
    · exact h.dj i j b hlt hj hb2 hb
    · exact h.dj j i b hlt hi hb hb2
theorem RowsR.lists {v : Value} (h : RowsR N Fr w ls xss) (hl : ls.length = xss.length) (hv : Vals F w v ls) : Lists (fun b => F b ∨ Fr b) w v xss :=
  ⟨ls, hl, hv.weaken fun _ h _ => .inl h, fun i hi => (h.int hi).weaken fun _ h _ => .inr h⟩
/-- A clause is put into its place. -/
theorem RowsR.put {v : Value} {xs : List Int} {i : Nat} (h : RowsR N Fr w ls (xss.take i)) (hi : i < xss.length) (hl : ls.length = xss.length) (hx : xs = xss.getD i []) (hv : OwnI PP T_Lint w v xs) (hF : ∀ b, v.ownBlock = some b → Fr b ∧ N ≤ b) (hd : ∀ j b, j < i → (ls.getD j undef).ownBlock = some b → v.ownBlock ≠ some b) : RowsR N Fr w (ls.set i v) (xss.take (i + 1)) := by
  have hti : (xss.take i).length = i := by rw [List.length_take]; omega
  have htl : (xss.take (i + 1)).length = i + 1 := by rw [List.length_take]; omega
  have g1 : ∀ j, j < i → (ls.set i v).getD j undef = ls.getD j undef := fun j hj => by rw [getD_set (by omega), if_neg (by omega)]
  have g2 : (ls.set i v).getD i undef = v := by rw [getD_set (by omega), if_pos rfl]
  have k1 : ∀ j, j < i → (xss.take (i + 1)).getD j [] = (xss.take i).getD j [] := fun j hj => by simp [List.getD_eq_getElem?_getD, List.getElem?_take, hj, show j < i + 1 by omega]
  have k2 : (xss.take (i + 1)).getD i [] = xs := by rw [hx]; simp [List.getD_eq_getElem?_getD, List.getElem?_take]
  refine ⟨h.nle, fun j hj => ?_, fun j b hj hb => ?_, fun j k b hjk hk hb => ?_⟩
  · by_cases e : j < i
    · rw [g1 j e, k1 j e]; exact h.own j (by omega)
    · have : j = i := by omega
      subst this; rw [g2, k2]; exact hv
  · by_cases e : j < i
    · rw [g1 j e] at hb; exact h.sub j b (by omega) hb
    · have : j = i := by omega
      subst this; rw [g2] at hb; exact hF b hb
  · rw [g1 j (by omega)] at hb
    by_cases e : k < i
    · rw [g1 k e]; exact h.dj j k b hjk (by omega) hb
    · have : k = i := by omega
      subst this; rw [g2]; exact hd j b (by omega) hb
end
theorem eqIntS_spec {va vb : Value} {a b : List Int} (ha : Ints F w va a) (hb : Ints F' w vb b) (hK : ∀ w', Ext w w' → K (.bool (decide (a = b))) w') : vcall PP n_laws_eqIntS #[va, vb] w K := by
  apply c_laws_eqIntS; unfold F_laws_eqIntS
  have hla := ha.small
  simp (disch := (simp only [push_cast]; done)) only [push_cast, ha.len, hb.len]
  refine vif_dec (fun h => ?_) (fun h => ?_)
  · have := hK w (Same.refl _ _)
    rwa [decide_eq_false (fun e => h (by rw [e]))] at this
  refine vloop_up a.length (fun i u w' => u = [.int .i64 i] ∧ Ext w w' ∧ ∀ j, j < i → a.getD j 0 = b.getD j 0) ⟨rfl, Same.refl _ _, by omega⟩ ?_
  rintro i _ _ w1 C hi ⟨rfl, he, hp⟩ hC
  have ha1 := ha.ext he
  have hb1 := hb.ext he
  simp (disch := (simp only [push_cast]; done)) only [push_cast, ha1.len]
  refine vif_dec (fun h2 => ?_) (fun h2 => ?_)
  · refine vdraw_ext fun w2 he2 _ => ?_
    have ha2 := ha1.ext he2
    have hb2 := hb1.ext he2
    simp (disch := first | (simp only [push_cast]; done) | omega) only [push_cast, ha2.iaddr, ha2.load, hb2.iaddr, hb2.load, true_and]
    refine vif_dec (fun h3 => ?_) (fun h3 => ?_)
    · have := hK w2 (he.trans he2)
      rwa [decide_eq_false (fun e => h3 (by rw [e]))] at this
    · rw [inc64 (by omega)]
      refine hC (by omega) _ _ ⟨rfl, he.trans he2, fun j hj => ?_⟩
      by_cases e : j = i
      · subst e; simpa using h3
      · exact hp j (by omega)
  · have := hK w1 he
    rwa [decide_eq_true (ext_getD (by omega) fun j h1 => hp j (by omega))] at this
theorem eqIntSS_spec {va vb : Value} {a b : List (List Int)} (ha : Lists F w va a) (hb : Lists F' w vb b) (hK : ∀ w', Ext w w' → K (.bool (decide (a = b))) w') : vcall PP n_laws_eqIntSS #[va, vb] w K := by
  apply c_laws_eqIntSS; unfold F_laws_eqIntSS
  obtain ⟨es1, has, hav, hai⟩ := ha
  obtain ⟨es2, hbs, hbv, hbi⟩ := hb
  have hla := hav.small
  simp (disch := (simp only [push_cast]; done)) only [push_cast, hav.len, hbv.len]
  refine vif_dec (fun h => ?_) (fun h => ?_)
  · have := hK w (Same.refl _ _)
    rwa [decide_eq_false (fun e => h (by rw [has, hbs, e]))] at this
  refine vloop_up a.length (fun i u w' => u = [.int .i64 i] ∧ Ext w w' ∧ ∀ j, j < i → a.getD j [] = b.getD j []) ⟨rfl, Same.refl _ _, by omega⟩ ?_
  rintro i _ _ w1 C hi ⟨rfl, he, hp⟩ hC
  have ha1 := hav.ext he
  have hb1 := hbv.ext he
  simp (disch := (simp only [push_cast]; done)) only [push_cast, ha1.len]
  refine vif_dec (fun h2 => ?_) (fun h2 => ?_)
  · refine vdraw_ext fun w2 he2 _ => ?_
    have ha2 := ha1.ext he2
    have hb2 := hb1.ext he2
    simp (disch := first | (simp only [push_cast]; done) | omega) only [push_cast, ha2.iaddr, ha2.load, hb2.iaddr, hb2.load, true_and]
    refine eqIntS_spec ((hai i (by omega)).ext (he.trans he2)) ((hbi i (by omega)).ext (he.trans he2)) fun w3 he3 => ?_
    simp only [push_cast, true_and]
    refine vif_bool (fun h3 => ?_) (fun h3 => ?_)
    · have := hK w3 (he.trans (he2.trans he3))
      rwa [decide_eq_false (fun e => by rw [e] at h3; simp at h3)] at this
    · rw [inc64 (by omega)]
      refine hC (by omega) _ _ ⟨rfl, he.trans (he2.trans he3), fun j hj => ?_⟩
      by_cases e : j = i
      · subst e; simpa using h3
      · exact hp j (by omega)
  · have := hK w1 he
    rwa [decide_eq_true (ext_getDL (by omega) fun j h1 => hp j (by omega))] at this
theorem toIntS_spec {v : Value} {xs : List Int} (hx : Ints F w v xs) (hsm : xs.length ≤ 1048576) (hK : ∀ w' v', Ext w w' → OwnI PP T_Lint w' v' xs → (∀ b, v'.ownBlock = some b → w.heap.size ≤ b) → K v' w') : vcall PP n_laws_toIntS #[v] w K := by
  apply c_laws_toIntS; unfold F_laws_toIntS
  simp (disch := (simp only [push_cast]; done)) only [push_cast, hx.len]
  refine vmkS_own (z := .int .i64 0) l_Lint (by kernel_rfl) zr_int rfl (by omega) (by omega) fun v1 w1 hv1 he1 hn1 => ?_
  have hv1' : OwnI PP T_Lint w1 v1 (List.replicate xs.length 0) := by unfold OwnI; rw [List.map_replicate]; exact hv1
  refine vloop_up xs.length (fun i u w' => u = [.int .i64 i] ∧ Ext w w' ∧ ∃ ys : List Int, ys.length = xs.length ∧ OwnI PP T_Lint w' v1 ys ∧ ∀ j, j < i → ys.getD j 0 = xs.getD j 0) ⟨rfl, he1, _, by simp, hv1', by omega⟩ ?_
  rintro i _ _ w2 C hi ⟨rfl, he2, ys, hl, hv2, hp⟩ hC
  have hx2 := hx.ext he2
  simp (disch := (simp only [push_cast]; done)) only [push_cast, hx2.len]
  refine vif_dec (fun a => ?_) (fun a => ?_)
  · have hvi := hv2.ints
    simp (disch := first | (simp only [push_cast]; done) | omega) only [push_cast, hx2.iaddr, hx2.load, hvi.iaddr]
    refine hv2.st z_int (by omega) fun w3 hv3 hs3 hz3 => ?_
    rw [inc64 (by omega)]
    refine hC (by omega) _ _ ⟨rfl, Ext.then he2 hs3 fun b hb => hn1 b hb, _, by rw [List.length_set]; exact hl, hv3, fun j hj => ?_⟩
    rw [getD_set (by omega)]
    by_cases e : i = j
    · subst e; rw [if_pos rfl]
    · rw [if_neg e]; exact hp j (by omega)
  · have : ys = xs := ext_getD hl fun j hj => hp j (by omega)
    subst this
    exact hK w2 v1 he2 hv2 hn1
theorem toIntSS_spec {v : Value} {xss : List (List Int)} (hx : Lists F w v xss) (hsm : xss.length ≤ 1048576) (hst : tot xss ≤ 1048576)
    (hK : ∀ w' v' vs, Ext w w' → OwnV PP T_LLint w' v' vs → vs.length = xss.length → RowsR w.heap.size (fun b => v'.ownBlock ≠ some b) w' vs xss → (∀ b, v'.ownBlock = some b → w.heap.size ≤ b) → K v' w') : vcall PP n_laws_toIntSS #[v] w K := by
  apply c_laws_toIntSS; unfold F_laws_toIntSS
  obtain ⟨es, hes, hev, hei⟩ := hx
  simp (disch := (simp only [push_cast]; done)) only [push_cast, hev.len]
  refine vmkS_own (z := .slice none 0 0) l_LLint (by kernel_rfl) zr_Lint rfl (by omega) (by omega) fun v1 w1 hv1 he1 hn1 => ?_
  have hz1 := he1.size
  refine vloop_up xss.length (fun i u w' => u = [.int .i64 i] ∧ Ext w w' ∧ ∃ vs, vs.length = xss.length ∧ OwnV PP T_LLint w' v1 vs ∧ RowsR w.heap.size (fun b => v1.ownBlock ≠ some b) w' vs (xss.take i)) ⟨rfl, he1, _, by simp [hes], hv1, ⟨hz1, fun i hi => absurd hi (by simp), fun i b hi => absurd hi (by simp), fun i j b _ hj => absurd hj (by simp)⟩⟩ ?_
  rintro i _ _ w2 C hi ⟨rfl, he2, vs, hl, hv2, hr2⟩ hC
  have hev2 := hev.ext he2
  have hz2 := he2.size
  simp (disch := (simp only [push_cast]; done)) only [push_cast, hev2.len]
  refine vif_dec (fun a => ?_) (fun a => ?_)
  · simp (disch := first | (simp only [push_cast]; done) | omega) only [push_cast, hev2.iaddr, hev2.load]
    have hrl := row_tot (xss := xss) (i := i) (by omega)
    refine toIntS_spec ((hei i (by omega)).ext he2) (by omega) fun w3 v3 he3 hv3 hn3 => ?_
    have hv2' := hv2.ext he3
    have hvi := hv2'.vals
    simp (disch := first | (simp only [push_cast]; done) | omega) only [push_cast, hvi.iaddr]
    refine hv2'.st hv3.ints.cells1 hv3.ints.one z_Lint (by omega) fun w4 hv4 hs4 hz4 => ?_
    rw [inc64 (by omega)]
    have hti : (xss.take i).length = i := by rw [List.length_take]; omega
    have hlt1 : ∀ b, v1.ownBlock = some b → b < w2.heap.size := fun b hb => hv2.lt hb
    refine hC (by omega) _ _ ⟨rfl, Ext.then (he2.trans he3) hs4 fun b hb => hn1 b hb, _, by rw [List.length_set]; exact hl, hv4, ?_⟩
    refine RowsR.put ((hr2.ext he3).same hs4 fun b hb _ e => hb e) (by omega) hl rfl (hv3.same hs4 fun b hb e => ?_) (fun b hb => ⟨fun e => ?_, ?_⟩) fun j b hj hb e => ?_
    · have := hn3 b hb; have := hlt1 b e; omega
    · have := hn3 b hb; have := hlt1 b e; omega
    · have := hn3 b hb; omega
    · have := (hr2.own j (by omega)).lt hb; have := hn3 b e; omega
  · rw [List.take_of_length_le (by omega)] at hr2
    exact hK w2 v1 vs he2 hv2 hl hr2 hn1
theorem szIntS_spec {v : Value} {xs : List Int} {left : Nat} (hx : Ints F w v xs) (hl : left ≤ 1048576) (hno : K (.int .i64 (-1)) w) (hK : xs.length ≤ left → K (.int .i64 (left - xs.length : Nat)) w) : vcall PP n_laws_szIntS #[v, .int .i64 left] w K := by
  apply c_laws_szIntS; unfold F_laws_szIntS
  have hsm := hx.small
  simp (disch := (simp only [push_cast]; done)) only [push_cast, hx.len]
  rw [wrap64 (by omega) (by omega)]
  refine vif_dec (fun a => hno) (fun a => ?_)
  have := hK (by omega)
  rwa [show ((left - xs.length : Nat) : Int) = (left : Int) - xs.length by omega] at this
theorem szIntSS_spec {v : Value} {xss : List (List Int)} {left : Nat} (hx : Lists F w v xss) (hl : left ≤ 1048576) (hno : ∀ w', Ext w w' → K (.int .i64 (-1)) w') (hK : ∀ w', Ext w w' → xss.length + tot xss ≤ left → K (.int .i64 (left - xss.length - tot xss : Nat)) w') : vcall PP n_laws_szIntSS #[v, .int .i64 left] w K := by
  apply c_laws_szIntSS; unfold F_laws_szIntSS
  obtain ⟨es, hes, hev, hei⟩ := hx
  have hsm := hev.small
  simp (disch := (simp only [push_cast]; done)) only [push_cast, hev.len]
  rw [wrap64 (by omega) (by omega)]
  refine vif_dec (fun a => hno w (Same.refl _ _)) (fun a => ?_)
  refine vloop_up xss.length (fun i u w' => u = [.int .i64 (left - xss.length - tot (xss.take i) : Nat), .int .i64 i] ∧ Ext w w' ∧ xss.length + tot (xss.take i) ≤ left) ⟨by rw [show ((left - xss.length - tot (xss.take 0) : Nat) : Int) = (left : Int) - es.length by simp only [List.take_zero, tot]; omega]; rfl, Same.refl _ _, by simp only [List.take_zero, tot]; omega⟩ ?_
  rintro i _ _ w2 C hi ⟨rfl, he2, hp⟩ hC
  have hev2 := hev.ext he2
  obtain ⟨L, hL⟩ : ∃ L, L = left - xss.length - tot (xss.take i) := ⟨_, rfl⟩
  rw [← hL]
  simp (disch := (simp only [push_cast]; done)) only [push_cast, hev2.len]
  refine vif_dec (fun a2 => ?_) (fun a2 => ?_)
  · simp (disch := first | (simp only [push_cast]; done) | omega) only [push_cast, hev2.iaddr, hev2.load]
    have htt := tot_take (xss := xss) (i := i) (by omega)
    refine szIntS_spec (left := L) ((hei i (by omega)).ext he2) (by omega) ?_ fun h3 => ?_
    · simp only [push_cast]
      refine vif_bool (fun _ => hno w2 he2) (fun e => by cases e)
    · simp only [push_cast]
      refine vif_dec (fun e => absurd e (by omega)) (fun _ => ?_)
      rw [inc64 (by omega)]
      refine hC (by omega) _ _ ⟨?_, he2, by omega⟩
      rw [show L - (xss.getD i []).length = left - xss.length - tot (xss.take (i + 1)) by omega]
  · have e : tot (xss.take i) = tot xss := by rw [List.take_of_length_le (by omega)]
    rw [e] at hp hL
    rw [hL]
    exact hK w2 he2 hp
theorem markIntS_spec {v : Value} {xs : List Int} {k : Nat} (hx : OwnI PP T_Lint w v xs) (hk : k ≤ 4611686018427387904) (hsm : xs.length ≤ 1048576)
    (hK : ∀ w', Same (fun b => v.ownBlock = some b) w w' → w'.heap.size = w.heap.size → OwnI PP T_Lint w' v (ramp k xs.length) → K (.int .i64 (k + xs.length : Nat)) w') : vcall PP n_laws_markIntS #[v, .int .i64 k] w K := by
  apply c_laws_markIntS; unfold F_laws_markIntS
  refine vloop_up xs.length (fun i u w' => u = [.int .i64 (k + i : Nat), .int .i64 i] ∧ Same (fun b => v.ownBlock = some b) w w' ∧ w'.heap.size = w.heap.size ∧ ∃ ys : List Int, ys.length = xs.length ∧ OwnI PP T_Lint w' v ys ∧ ∀ j, j < i → ys.getD j 0 = ((k + j : Nat) : Int)) ⟨by simp, Same.refl _ _, rfl, xs, rfl, hx, by omega⟩ ?_
  rintro i _ _ w2 C hi ⟨rfl, hs2, hz2, ys, hl, hv2, hp⟩ hC
  have hvi := hv2.ints
  simp (disch := (simp only [push_cast]; done)) only [push_cast, hvi.len]
  refine vif_dec (fun a => ?_) (fun a => ?_)
  · simp (disch := first | (simp only [push_cast]; done) | omega) only [push_cast, hvi.iaddr]
    refine hv2.st z_int (by omega) fun w3 hv3 hs3 hz3 => ?_
    have e1 : IntKind.i64.wrap (((k + i : Nat) : Int) + 1) = ((k + (i + 1) : Nat) : Int) := by rw [wrap64 (by omega) (by omega)]; omega
    rw [inc64 (by omega)]
    refine hC (by omega) _ _ ⟨by rw [← e1]; simp, hs2.trans hs3, by omega, _, by rw [List.length_set]; exact hl, hv3, fun j hj => ?_⟩
    rw [getD_set (by omega)]
    by_cases e : i = j
    · subst e; rw [if_pos rfl]; simp
    · rw [if_neg e]; exact hp j (by omega)
  · have hi' : i = xs.length := by omega
    subst hi'
    have : ys = ramp k xs.length := ext_getD (by rw [ramp_len]; exact hl) fun j hj => by rw [ramp_get (by omega)]; exact hp j (by omega)
    rw [← this] at hK
    exact hK w2 hs2 hz2 hv2
theorem heldIntS_spec {v : Value} {k n : Nat} (hx : Ints F w v (ramp k n)) (hk : k ≤ 4611686018427387904) (hsm : n ≤ 1048576) (hK : ∀ w', Ext w w' → K (.int .i64 (k + n : Nat)) w') : vcall PP n_laws_heldIntS #[v, .int .i64 k] w K := by
  apply c_laws_heldIntS; unfold F_laws_heldIntS
  have hrl := ramp_len k n
  refine vloop_up n (fun i u w' => u = [.int .i64 (k + i : Nat), .int .i64 i] ∧ Ext w w') ⟨by simp, Same.refl _ _⟩ ?_
  rintro i _ _ w2 C hi ⟨rfl, he2⟩ hC
  have hx2 := hx.ext he2
  simp (disch := (simp only [push_cast]; done)) only [push_cast, hx2.len]
  refine vif_dec (fun a => ?_) (fun a => ?_)
  · simp (disch := first | (simp only [push_cast]; done) | omega) only [push_cast, hx2.iaddr, hx2.load]
    refine vif_dec (fun b => absurd (by rw [ramp_get (by omega)]; simp) b) (fun b => ?_)
    have e1 : IntKind.i64.wrap (((k + i : Nat) : Int) + 1) = ((k + (i + 1) : Nat) : Int) := by rw [wrap64 (by omega) (by omega)]; omega
    rw [inc64 (by omega)]
    exact hC (by omega) _ _ ⟨by rw [← e1]; simp, he2⟩
  · have hi' : i = n := by omega
    subst hi'
    exact hK w2 he2
/-- Clauses in which the numbers count up. -/
def rampL (k : Nat) (xss : List (List Int)) : List (List Int) := (List.range xss.length).map fun j => ramp (k + tot (xss.take j)) (xss.getD j []).length
theorem rampL_len (k : Nat) (xss : List (List Int)) : (rampL k xss).length = xss.length := by simp [rampL]
theorem rampL_get {k j : Nat} {xss : List (List Int)} (h : j < xss.length) : (rampL k xss).getD j [] = ramp (k + tot (xss.take j)) (xss.getD j []).length := by
  simp [rampL, List.getD_eq_getElem?_getD, h]
theorem markIntSS_spec {v : Value} {vs : List Value} {xss : List (List Int)} {k : Nat} (hv : OwnV PP T_LLint w v vs) (hr : RowsR N Fr w vs xss) (hl : vs.length = xss.length) (hF : ∀ b, Fr b → v.ownBlock ≠ some b) (hk : k ≤ 4611686018427387904 - 1048576) (hsm : tot xss ≤ 1048576) (hsl : xss.length ≤ 1048576)
    (hK : ∀ w', Same (fun b => Fr b ∧ N ≤ b) w w' → w'.heap.size = w.heap.size → OwnV PP T_LLint w' v vs → RowsR N Fr w' vs (rampL k xss) → K (.int .i64 (k + tot xss : Nat)) w') : vcall PP n_laws_markIntSS #[v, .int .i64 k] w K := by
  apply c_laws_markIntSS; unfold F_laws_markIntSS
  refine vloop_up xss.length (fun i u w' => u = [.int .i64 (k + tot (xss.take i) : Nat), .int .i64 i] ∧ Same (fun b => Fr b ∧ N ≤ b) w w' ∧ w'.heap.size = w.heap.size ∧ OwnV PP T_LLint w' v vs ∧ ∃ yss : List (List Int), yss.length = xss.length ∧ RowsR N Fr w' vs yss ∧ (∀ j, j < i → yss.getD j [] = ramp (k + tot (xss.take j)) (xss.getD j []).length) ∧ ∀ j, i ≤ j → yss.getD j [] = xss.getD j []) ⟨by simp [tot], Same.refl _ _, rfl, hv, xss, rfl, hr, by omega, fun _ _ => rfl⟩ ?_
  rintro i _ _ w2 C hi ⟨rfl, hs2, hz2, hv2, yss, hyl, hr2, hp, hq⟩ hC
  have hvv := hv2.vals
  simp (disch := (simp only [push_cast]; done)) only [push_cast, hvv.len]
  refine vif_dec (fun a => ?_) (fun a => ?_)
  · simp (disch := first | (simp only [push_cast]; done) | omega) only [push_cast, hvv.iaddr, hvv.load]
    have htt := tot_take (xss := xss) (i := i) (by omega)
    have htl := tot_le xss (i + 1)
    have ho := hr2.own i (by omega)
    rw [hq i (Nat.le_refl _)] at ho
    refine markIntS_spec ho (by omega) (by omega) fun w3 hs3 hz3 ho3 => ?_
    simp only [push_cast]
    rw [inc64 (by omega)]
    have hsub : ∀ b, (vs.getD i undef).ownBlock = some b → Fr b ∧ N ≤ b := fun b hb => hr2.sub i b (by omega) hb
    refine hC (by omega) _ _ ⟨?_, hs2.trans (hs3.mono fun b _ hb => hsub b hb), by omega, hv2.same hs3 fun b hb e => hF b (hsub b e).1 hb, yss.set i (ramp (k + tot (xss.take i)) (xss.getD i []).length), by rw [List.length_set]; exact hyl, hr2.setRow (by omega) hs3 ho3, fun j hj => ?_, fun j hj => ?_⟩
    · rw [show (k : Int) + (tot (xss.take i) : Int) + ((xss.getD i []).length : Int) = ((k + tot (xss.take (i + 1)) : Nat) : Int) by omega]
    · rw [getD_set (by omega)]
      by_cases e : i = j
      · subst e; rw [if_pos rfl]
      · rw [if_neg e]; exact hp j (by omega)
    · rw [getD_set (by omega), if_neg (by omega)]; exact hq j (by omega)
  · have hi' : i = xss.length := by omega
    subst hi'
    have e : yss = rampL k xss := ext_getDL (by rw [rampL_len]; exact hyl) fun j hj => by rw [rampL_get (by omega)]; exact hp j (by omega)
    rw [e] at hr2
    rw [List.take_length]
    exact hK w2 hs2 hz2 hv2 hr2
theorem heldIntSS_spec {v : Value} {xss : List (List Int)} {k : Nat} (hx : Lists F w v (rampL k xss)) (hk : k ≤ 4611686018427387904 - 1048576) (hsm : tot xss ≤ 1048576) (hsl : xss.length ≤ 1048576)
    (hK : ∀ w', Ext w w' → K (.int .i64 (k + tot xss : Nat)) w') : vcall PP n_laws_heldIntSS #[v, .int .i64 k] w K := by
  apply c_laws_heldIntSS; unfold F_laws_heldIntSS
  obtain ⟨es, hes, hev, hei⟩ := hx
  rw [rampL_len] at hes
  refine vloop_up xss.length (fun i u w' => u = [.int .i64 (k + tot (xss.take i) : Nat), .int .i64 i] ∧ Ext w w') ⟨by simp [tot], Same.refl _ _⟩ ?_
  rintro i _ _ w2 C hi ⟨rfl, he2⟩ hC
  have hev2 := hev.ext he2
  simp (disch := (simp only [push_cast]; done)) only [push_cast, hev2.len]
  refine vif_dec (fun a => ?_) (fun a => ?_)
  · simp (disch := first | (simp only [push_cast]; done) | omega) only [push_cast, hev2.iaddr, hev2.load]
    have htt := tot_take (xss := xss) (i := i) (by omega)
    have htl := tot_le xss (i + 1)
    have ho := (hei i (by rw [rampL_len]; omega)).ext he2
    rw [rampL_get (by omega)] at ho
    refine heldIntS_spec ho (by omega) (by omega) fun w3 he3 => ?_
    simp only [push_cast]
    refine vif_dec (fun e => absurd e (by omega)) (fun _ => ?_)
    rw [inc64 (by omega)]
    refine hC (by omega) _ _ ⟨?_, he2.trans he3⟩
    rw [show (k : Int) + (tot (xss.take i) : Int) + ((xss.getD i []).length : Int) = ((k + tot (xss.take (i + 1)) : Nat) : Int) by omega]
  · have hi' : i = xss.length := by omega
    subst hi'
    rw [List.take_length]
    exact hK w2 he2
end Go.Proofs.YtpihgpfebhegmaaGreat
/- Contracts of the laws' copies, comparisons and marks: formulas and states of searches. -/
namespace Go.Proofs.YtpihgpfebhegmaaGreat
open Go Go.Vc Go.Proofs Go.M
variable {w : World} {K : Value → World → Prop} {F Fr F' : Nat → Prop} {N : Nat} {c : Cnf} {s : Sat}
/-- A formula that owns its clauses. -/
structure CnfO (N : Nat) (w : World) (lv : Value) (ls : List Value) (c : Cnf) : Prop where
  lst : OwnV PP T_LLint w lv ls
  len : ls.length = c.list.length
  dl : ∀ b, lv.ownBlock = some b → N ≤ b
  rows : RowsR N (fun b => lv.ownBlock ≠ some b) w ls c.list
theorem CnfO.cnf {lv : Value} {ls : List Value} (h : CnfO N w lv ls c) : CnfR (fun b => N ≤ b) w (.agg #[.int .i64 c.many, lv]) c :=
  ⟨lv, rfl, ls, h.len, h.lst.vals.weaken fun b hb _ => h.dl b hb, fun i hi => (h.rows.own i hi).ints.weaken fun b hb _ => (h.rows.sub i b hi hb).2⟩
theorem CnfO.same {lv : Value} {ls : List Value} {S : Nat → Prop} {w' : World} (h : CnfO N w lv ls c) (hw : Same S w w') (hS : ∀ b, N ≤ b → b < w.heap.size → ¬ S b) : CnfO N w' lv ls c :=
  ⟨h.lst.same hw fun b hb => hS b (h.dl b hb) (h.lst.lt hb), h.len, h.dl, ⟨Nat.le_trans h.rows.nle hw.size, fun i hi => (h.rows.own i hi).same hw fun b hb => hS b (h.rows.sub i b hi hb).2 ((h.rows.own i hi).lt hb), h.rows.sub, h.rows.dj⟩⟩
theorem CnfO.ext {lv : Value} {ls : List Value} {w' : World} (h : CnfO N w lv ls c) (hw : Ext w w') : CnfO N w' lv ls c := h.same hw fun _ _ _ h => h
theorem CnfO.down {lv : Value} {ls : List Value} {M : Nat} (h : CnfO N w lv ls c) (hM : M ≤ N) : CnfO M w lv ls c :=
  ⟨h.lst, h.len, fun b hb => Nat.le_trans hM (h.dl b hb), ⟨Nat.le_trans hM h.rows.nle, h.rows.own, fun i b hi hb => ⟨(h.rows.sub i b hi hb).1, Nat.le_trans hM (h.rows.sub i b hi hb).2⟩, h.rows.dj⟩⟩
/-- The blocks of clauses. -/
def Owns (ls : List Value) (n b : Nat) : Prop := ∃ i, i < n ∧ (ls.getD i undef).ownBlock = some b
theorem RowsR.owned {ls : List Value} {xss : List (List Int)} (h : RowsR N Fr w ls xss) : RowsR N (fun b => Fr b ∧ Owns ls xss.length b) w ls xss :=
  ⟨h.nle, h.own, fun i b hi hb => ⟨⟨(h.sub i b hi hb).1, i, hi, hb⟩, (h.sub i b hi hb).2⟩, h.dj⟩
theorem RowsR.in {ls : List Value} {xss : List (List Int)} (h : RowsR N Fr w ls xss) {b : Nat} (hb : Owns ls xss.length b) : N ≤ b ∧ b < w.heap.size := by
  obtain ⟨i, hi, hb⟩ := hb
  exact ⟨(h.sub i b hi hb).2, (h.own i hi).lt hb⟩
/-- A state that owns its lists and its clauses. -/
structure SatO (N : Nat) (w : World) (vp vw vl : Value) (es : List Value) (s : Sat) : Prop where
  put : OwnI PP T_Lint w vp s.put
  why : OwnI PP T_Lint w vw s.why
  lst : OwnV PP T_LLint w vl es
  dp : ∀ b, vp.ownBlock = some b → N ≤ b ∧ vw.ownBlock ≠ some b ∧ vl.ownBlock ≠ some b
  dw : ∀ b, vw.ownBlock = some b → N ≤ b ∧ vl.ownBlock ≠ some b
  dl : ∀ b, vl.ownBlock = some b → N ≤ b
  len : es.length = s.learned.length
  rows : RowsR N (fun b => vp.ownBlock ≠ some b ∧ vw.ownBlock ≠ some b ∧ vl.ownBlock ≠ some b) w es s.learned
section
variable {vp vw vl : Value} {es : List Value} {w' : World}
theorem SatO.sat (h : SatO N w vp vw vl es s) : SatR (fun b => N ≤ b) w (.agg #[vp, vw, vl, .int .i64 s.code]) s :=
  ⟨vp, vw, vl, rfl, h.put.ints.weaken fun b hb _ => (h.dp b hb).1, h.why.ints.weaken fun b hb _ => (h.dw b hb).1, es, h.len, h.lst.vals.weaken fun b hb _ => h.dl b hb, fun i hi => (h.rows.own i hi).ints.weaken fun b hb _ => (h.rows.sub i b hi hb).2⟩
theorem SatO.same {S : Nat → Prop} (h : SatO N w vp vw vl es s) (hw : Same S w w') (hS : ∀ b, N ≤ b → b < w.heap.size → ¬ S b) : SatO N w' vp vw vl es s :=
  ⟨h.put.same hw fun b hb => hS b (h.dp b hb).1 (h.put.lt hb), h.why.same hw fun b hb => hS b (h.dw b hb).1 (h.why.lt hb), h.lst.same hw fun b hb => hS b (h.dl b hb) (h.lst.lt hb), h.dp, h.dw, h.dl, h.len,
    ⟨Nat.le_trans h.rows.nle hw.size, fun i hi => (h.rows.own i hi).same hw fun b hb => hS b (h.rows.sub i b hi hb).2 ((h.rows.own i hi).lt hb), h.rows.sub, h.rows.dj⟩⟩
theorem SatO.ext (h : SatO N w vp vw vl es s) (hw : Ext w w') : SatO N w' vp vw vl es s := h.same hw fun _ _ _ h => h
theorem SatO.down {M : Nat} (h : SatO N w vp vw vl es s) (hM : M ≤ N) : SatO M w vp vw vl es s :=
  ⟨h.put, h.why, h.lst, fun b hb => ⟨Nat.le_trans hM (h.dp b hb).1, (h.dp b hb).2⟩, fun b hb => ⟨Nat.le_trans hM (h.dw b hb).1, (h.dw b hb).2⟩, fun b hb => Nat.le_trans hM (h.dl b hb), h.len, ⟨Nat.le_trans hM h.rows.nle, h.rows.own, fun i b hi hb => ⟨(h.rows.sub i b hi hb).1, Nat.le_trans hM (h.rows.sub i b hi hb).2⟩, h.rows.dj⟩⟩
end
theorem toCnf_spec {vc : Value} (hc : CnfR F w vc c) (hsm : c.list.length ≤ 1048576) (hst : tot c.list ≤ 1048576)
    (hK : ∀ w' lv ls, Ext w w' → CnfO w.heap.size w' lv ls c → K (.agg #[.int .i64 c.many, lv]) w') : vcall PP n_laws_toCnf #[vc] w K := by
  apply c_laws_toCnf; unfold F_laws_toCnf
  obtain ⟨v0, rfl, h0⟩ := hc
  refine vbox_new fun b1 w1 hb1 he1 hz1 hB1 => ?_
  refine valloc_new zr_impl_Cnf fun b2 w2 hb2 he2 hz2 hB2 => ?_
  refine valloc_new zr_impl_Cnf fun b3 w3 hb3 he3 hz3 hB3 => ?_
  have A3 : Blk w3 b1 [.int .i64 c.many, v0] T_laws_Cnf := (hB1.ext he2).ext he3
  have R3 : Blk w3 b2 [.int .i64 0, .slice none 0 0] T_impl_Cnf := hB2.ext he3
  have B3 : Blk w3 b3 [.int .i64 0, .slice none 0 0] T_impl_Cnf := hB3
  have E3 := he1.trans (he2.trans he3)
  simp (disch := (simp only [push_cast]; done)) only [push_cast, A3.ld0]
  refine B3.st rfl rfl z_int rfl fun w4 hs4 hz4 hB4 => ?_
  have B4 : Blk w4 b3 [.int .i64 c.many, .slice none 0 0] T_impl_Cnf := hB4
  have A4 := A3.same hs4 (by omega)
  have R4 := R3.same hs4 (by omega)
  have E4 : Ext w w4 := Ext.then E3 hs4 fun x hx => by omega
  simp (disch := (simp only [push_cast]; done)) only [push_cast, A4.ld1]
  refine toIntSS_spec (h0.ext E4) hsm hst fun w5 lv ls he5 hv5 hl5 hr5 hn5 => ?_
  have hz5 := he5.size
  have B5 := B4.ext he5
  have R5 := R4.ext he5
  refine B5.st hv5.vals.cells1 hv5.vals.one z_LLint rfl fun w6 hs6 hz6 hB6 => ?_
  have B6 : Blk w6 b3 [.int .i64 c.many, lv] T_impl_Cnf := hB6
  have R6 := R5.same hs6 (by omega)
  rw [B6.ldAgg g_impl_Cnf]
  refine R6.stAgg (cs' := [.int .i64 c.many, lv]) rfl g_impl_Cnf (fun x hx => ?_) fun w7 hs7 hz7 hB7 => ?_
  · simp only [List.mem_cons, List.not_mem_nil, or_false] at hx
    rcases hx with rfl | rfl
    · rfl
    · exact hv5.vals.one
  rw [hB7.lv g_impl_Cnf]
  have hS : Same (fun x => x = b2 ∨ x = b3) w5 w7 := (hs6.mono fun x _ e => .inr e).trans (hs7.mono fun x _ e => .inl e)
  have hO : CnfO w4.heap.size w5 lv ls c := ⟨hv5, hl5, hn5, hr5⟩
  exact hK w7 lv ls (Ext.then (E4.trans he5) hS fun x hx => by have := he1.size; omega) ((hO.same hS fun x hx _ e => by omega).down E4.size)
theorem toSat_spec {v : Value} (hs : SatR F w v s) (h1 : s.put.length ≤ 1048576) (h2 : s.why.length ≤ 1048576) (h3 : s.learned.length ≤ 1048576) (h4 : tot s.learned ≤ 1048576)
    (hK : ∀ w' vp vw vl es, Ext w w' → SatO w.heap.size w' vp vw vl es s → K (.agg #[vp, vw, vl, .int .i64 s.code]) w') : vcall PP n_laws_toSat #[v] w K := by
  apply c_laws_toSat; unfold F_laws_toSat
  obtain ⟨a0, a1, a2, rfl, i0, i1, i2⟩ := hs
  refine vbox_new fun b1 w1 hb1 he1 hz1 hB1 => ?_
  refine valloc_new zr_impl_Sat fun b2 w2 hb2 he2 hz2 hB2 => ?_
  refine valloc_new zr_impl_Sat fun b3 w3 hb3 he3 hz3 hB3 => ?_
  have A3 : Blk w3 b1 [a0, a1, a2, .int .i64 s.code] T_laws_Sat := (hB1.ext he2).ext he3
  have R3 : Blk w3 b2 [.slice none 0 0, .slice none 0 0, .slice none 0 0, .int .i64 0] T_impl_Sat := hB2.ext he3
  have B3 : Blk w3 b3 [.slice none 0 0, .slice none 0 0, .slice none 0 0, .int .i64 0] T_impl_Sat := hB3
  have E3 := he1.trans (he2.trans he3)
  have hz0 := he1.size
  simp (disch := (simp only [push_cast]; done)) only [push_cast, A3.ld0]
  refine toIntS_spec (i0.ext E3) h1 fun w4 vp he4 hp4 np4 => ?_
  have B4 := B3.ext he4
  have hz4 := he4.size
  refine B4.st hp4.ints.cells1 hp4.ints.one z_Lint rfl fun w5 hs5 hz5 hB5 => ?_
  have B5 : Blk w5 b3 [vp, .slice none 0 0, .slice none 0 0, .int .i64 0] T_impl_Sat := hB5
  have A5 := (A3.ext he4).same hs5 (by omega)
  have R5 := (R3.ext he4).same hs5 (by omega)
  have hp5 := hp4.same hs5 fun x hx e => by have := np4 x hx; omega
  have E5 : Ext w w5 := Ext.then (E3.trans he4) hs5 fun x hx => by omega
  simp (disch := (simp only [push_cast]; done)) only [push_cast, A5.ld1]
  refine toIntS_spec (i1.ext E5) h2 fun w6 vw he6 hw6 nw6 => ?_
  have B6 := B5.ext he6
  have hz6 := he6.size
  refine B6.st hw6.ints.cells1 hw6.ints.one z_Lint rfl fun w7 hs7 hz7 hB7 => ?_
  have B7 : Blk w7 b3 [vp, vw, .slice none 0 0, .int .i64 0] T_impl_Sat := hB7
  have A7 := (A5.ext he6).same hs7 (by omega)
  have R7 := (R5.ext he6).same hs7 (by omega)
  have hp7 := (hp5.ext he6).same hs7 fun x hx e => by have := np4 x hx; omega
  have hw7 := hw6.same hs7 fun x hx e => by have := nw6 x hx; omega
  have E7 : Ext w w7 := Ext.then (E5.trans he6) hs7 fun x hx => by omega
  simp (disch := (simp only [push_cast]; done)) only [push_cast, A7.ld2]
  refine toIntSS_spec (i2.ext E7) h3 h4 fun w8 vl es he8 hl8 hle8 hr8 nl8 => ?_
  have B8 := B7.ext he8
  have hz8 := he8.size
  refine B8.st hl8.vals.cells1 hl8.vals.one z_LLint rfl fun w9 hs9 hz9 hB9 => ?_
  have B9 : Blk w9 b3 [vp, vw, vl, .int .i64 0] T_impl_Sat := hB9
  have A9 := (A7.ext he8).same hs9 (by omega)
  have R9 := (R7.ext he8).same hs9 (by omega)
  simp (disch := (simp only [push_cast]; done)) only [push_cast, A9.ld3]
  refine B9.st rfl rfl z_int rfl fun w10 hs10 hz10 hB10 => ?_
  have B10 : Blk w10 b3 [vp, vw, vl, .int .i64 s.code] T_impl_Sat := hB10
  have R10 := R9.same hs10 (by omega)
  rw [B10.ldAgg g_impl_Sat]
  refine R10.stAgg (cs' := [vp, vw, vl, .int .i64 s.code]) rfl g_impl_Sat (fun x hx => ?_) fun w11 hs11 hz11 hB11 => ?_
  · simp only [List.mem_cons, List.not_mem_nil, or_false] at hx
    rcases hx with rfl | rfl | rfl | rfl
    · exact hp7.ints.one
    · exact hw7.ints.one
    · exact hl8.vals.one
    · rfl
  rw [hB11.lv g_impl_Sat]
  have hS : Same (fun x => x = b2 ∨ x = b3) w8 w11 := (hs9.mono fun x _ e => .inr e).trans ((hs10.mono fun x _ e => .inr e).trans (hs11.mono fun x _ e => .inl e))
  have hlt5 : ∀ b, vp.ownBlock = some b → b < w4.heap.size := fun b hb => hp4.lt hb
  have hlt7 : ∀ b, vw.ownBlock = some b → b < w6.heap.size := fun b hb => hw6.lt hb
  have hO : SatO w3.heap.size w8 vp vw vl es s := by
    refine ⟨hp7.ext he8, hw7.ext he8, hl8, fun b hb => ⟨np4 b hb, fun e => ?_, fun e => ?_⟩, fun b hb => ⟨by have := nw6 b hb; omega, fun e => ?_⟩, fun b hb => by have := nl8 b hb; omega, hle8, ⟨by omega, hr8.own, fun i b hi hb => ⟨⟨fun e => ?_, fun e => ?_, (hr8.sub i b hi hb).1⟩, ?_⟩, hr8.dj⟩⟩
    · have := hlt5 b hb; have := nw6 b e; omega
    · have := hlt5 b hb; have := nl8 b e; omega
    · have := hlt7 b hb; have := nl8 b e; omega
    · have := hlt5 b e; have := (hr8.sub i b hi hb).2; omega
    · have := hlt7 b e; have := (hr8.sub i b hi hb).2; omega
    · have := (hr8.sub i b hi hb).2; omega
  exact hK w11 vp vw vl es (Ext.then (E7.trans he8) hS fun x hx => by omega) ((hO.same hS fun x hx _ e => by omega).down E3.size)
theorem szCnf_spec {vc : Value} {left : Nat} (hc : CnfR F w vc c) (hl : left ≤ 1048576) (hno : ∀ w', Ext w w' → K (.int .i64 (-1)) w') (hK : ∀ w', Ext w w' → c.list.length + tot c.list ≤ left → K (.int .i64 (left - c.list.length - tot c.list : Nat)) w') : vcall PP n_laws_szCnf #[vc, .int .i64 left] w K := by
  apply c_laws_szCnf; unfold F_laws_szCnf
  obtain ⟨v0, rfl, h0⟩ := hc
  refine vbox_new fun b1 w1 hb1 he1 hz1 hB1 => ?_
  have A1 : Blk w1 b1 [.int .i64 c.many, v0] T_laws_Cnf := hB1
  simp (disch := (simp only [push_cast]; done)) only [push_cast, A1.ld1]
  refine szIntSS_spec (h0.ext he1) hl (fun w2 he2 => ?_) fun w2 he2 hle => ?_
  · simp only [push_cast]
    exact vif_bool (fun _ => hno w2 (he1.trans he2)) (fun e => by cases e)
  · simp only [vbin_lss]
    exact vif_dec (fun e => absurd e (by omega)) (fun _ => hK w2 (he1.trans he2) hle)
theorem szSat_spec {v : Value} {left : Nat} (hs : SatR F w v s) (hl : left ≤ 1048576) (hno : ∀ w', Ext w w' → K (.int .i64 (-1)) w') (hK : ∀ w' m, Ext w w' → s.put.length + s.why.length + s.learned.length + tot s.learned ≤ left → 0 ≤ m → K (.int .i64 m) w') : vcall PP n_laws_szSat #[v, .int .i64 left] w K := by
  apply c_laws_szSat; unfold F_laws_szSat
  obtain ⟨a0, a1, a2, rfl, i0, i1, i2⟩ := hs
  refine vbox_new fun b1 w1 hb1 he1 hz1 hB1 => ?_
  have A1 : Blk w1 b1 [a0, a1, a2, .int .i64 s.code] T_laws_Sat := hB1
  simp (disch := (simp only [push_cast]; done)) only [push_cast, A1.ld0, A1.ld1, A1.ld2]
  refine szIntS_spec (i0.ext he1) hl ?_ fun hle0 => ?_
  · simp only [push_cast]
    exact vif_bool (fun _ => hno w1 he1) (fun e => by cases e)
  simp only [vbin_lss]
  refine vif_dec (fun e => absurd e (by omega)) (fun _ => ?_)
  rw [A1.ld1 o_Lint]
  refine szIntS_spec (i1.ext he1) (by omega) ?_ fun hle1 => ?_
  · simp only [push_cast]
    exact vif_bool (fun _ => hno w1 he1) (fun e => by cases e)
  simp only [vbin_lss]
  refine vif_dec (fun e => absurd e (by omega)) (fun _ => ?_)
  rw [A1.ld2 o_LLint]
  refine szIntSS_spec (i2.ext he1) (by omega) (fun w2 he2 => ?_) fun w2 he2 hle => ?_
  · simp only [push_cast]
    exact vif_bool (fun _ => hno w2 (he1.trans he2)) (fun e => by cases e)
  simp only [vbin_lss]
  exact vif_dec (fun e => absurd e (by omega)) (fun _ => hK w2 _ (he1.trans he2) (by omega) (by omega))
theorem eqCnf_self {va vb : Value} (ha : CnfR F w va c) (hb : CnfR F' w vb c) (hK : ∀ w', Ext w w' → K (.bool true) w') : vcall PP n_laws_eqCnf #[va, vb] w K := by
  apply c_laws_eqCnf; unfold F_laws_eqCnf
  obtain ⟨v0, rfl, h0⟩ := ha
  obtain ⟨v1, rfl, h1⟩ := hb
  refine vbox_new fun b1 w1 hb1 he1 hz1 hB1 => ?_
  refine vbox_new fun b2 w2 hb2 he2 hz2 hB2 => ?_
  have A2 : Blk w2 b1 [.int .i64 c.many, v0] T_impl_Cnf := hB1.ext he2
  have B2 : Blk w2 b2 [.int .i64 c.many, v1] T_impl_Cnf := hB2
  have E2 := he1.trans he2
  simp (disch := (simp only [push_cast]; done)) only [push_cast, A2.ld0, A2.ld1, B2.ld0, B2.ld1]
  refine vif_bool (fun e => by simp at e) (fun _ => ?_)
  refine eqIntSS_spec (h0.ext E2) (h1.ext E2) fun w3 he3 => ?_
  rw [decide_eq_true rfl]
  simp only [push_cast]
  exact vif_bool (fun e => by cases e) (fun _ => hK w3 (E2.trans he3))
theorem eqSat_self {va vb : Value} (ha : SatR F w va s) (hb : SatR F' w vb s) (hK : ∀ w', Ext w w' → K (.bool true) w') : vcall PP n_laws_eqSat #[va, vb] w K := by
  apply c_laws_eqSat; unfold F_laws_eqSat
  obtain ⟨a0, a1, a2, rfl, i0, i1, i2⟩ := ha
  obtain ⟨c0, c1, c2, rfl, j0, j1, j2⟩ := hb
  refine vbox_new fun b1 w1 hb1 he1 hz1 hB1 => ?_
  refine vbox_new fun b2 w2 hb2 he2 hz2 hB2 => ?_
  have A2 : Blk w2 b1 [a0, a1, a2, .int .i64 s.code] T_impl_Sat := hB1.ext he2
  have B2 : Blk w2 b2 [c0, c1, c2, .int .i64 s.code] T_impl_Sat := hB2
  have E2 := he1.trans he2
  simp (disch := (simp only [push_cast]; done)) only [push_cast, A2.ld0, B2.ld0]
  refine eqIntS_spec (i0.ext E2) (j0.ext E2) fun w3 he3 => ?_
  have A3 := A2.ext he3
  have B3 := B2.ext he3
  have E3 := E2.trans he3
  rw [decide_eq_true rfl]
  simp (disch := (simp only [push_cast]; done)) only [push_cast, A3.ld1, B3.ld1]
  refine vif_bool (fun e => by cases e) (fun _ => ?_)
  refine eqIntS_spec (i1.ext E3) (j1.ext E3) fun w4 he4 => ?_
  have A4 := A3.ext he4
  have B4 := B3.ext he4
  have E4 := E3.trans he4
  rw [decide_eq_true rfl]
  simp (disch := (simp only [push_cast]; done)) only [push_cast, A4.ld2, B4.ld2]
  refine vif_bool (fun e => by cases e) (fun _ => ?_)
  refine eqIntSS_spec (i2.ext E4) (j2.ext E4) fun w5 he5 => ?_
  have A5 := A4.ext he5
  have B5 := B4.ext he5
  rw [decide_eq_true rfl]
  simp (disch := (simp only [push_cast]; done)) only [push_cast, A5.ld3, B5.ld3]
  refine vif_bool (fun e => by cases e) (fun _ => ?_)
  exact vif_bool (fun e => by simp at e) (fun _ => hK w5 (E4.trans he5))
theorem markCnf_spec {lv : Value} {ls : List Value} {k : Nat} (hc : CnfO N w lv ls c) (hk : k ≤ 1048577) (h1 : c.list.length ≤ 1048576) (h2 : tot c.list ≤ 1048576)
    (hK : ∀ w', Same (fun b => Owns ls c.list.length b) w w' → K (.int .i64 (k + tot c.list : Nat)) w') : vcall PP n_laws_markCnf #[.agg #[.int .i64 c.many, lv], .int .i64 k] w K := by
  apply c_laws_markCnf; unfold F_laws_markCnf
  refine vbox_new fun b1 w1 hb1 he1 hz1 hB1 => ?_
  have A1 : Blk w1 b1 [.int .i64 c.many, lv] T_impl_Cnf := hB1
  simp (disch := (simp only [push_cast]; done)) only [push_cast, A1.ld1]
  refine markIntSS_spec (hc.lst.ext he1) (hc.rows.owned.ext he1) hc.len (fun b hb => hb.1) (by omega) h2 h1 fun w2 hs2 hz2 _ _ => ?_
  refine hK w2 ⟨hs2.os.trans he1.os, hs2.tape.trans he1.tape, hs2.output.trans he1.output, by omega, fun b hb hn => ?_⟩
  rw [hs2.block b (by omega) (fun e => hn e.1.2), he1.block b hb id]
theorem markSat_spec {vp vw vl : Value} {es : List Value} {k : Nat} (h : SatO N w vp vw vl es s) (hk : k ≤ 1048577) (h1 : s.put.length ≤ 1048576) (h2 : s.why.length ≤ 1048576) (h3 : s.learned.length ≤ 1048576) (h4 : tot s.learned ≤ 1048576)
    (hK : ∀ w', Same (fun b => vp.ownBlock = some b ∨ vw.ownBlock = some b ∨ Owns es s.learned.length b) w w' → SatO N w' vp vw vl es { s with put := ramp k s.put.length, why := ramp (k + s.put.length) s.why.length, learned := rampL (k + s.put.length + s.why.length) s.learned } → K (.int .i64 (k + s.put.length + s.why.length + tot s.learned : Nat)) w') :
    vcall PP n_laws_markSat #[.agg #[vp, vw, vl, .int .i64 s.code], .int .i64 k] w K := by
  apply c_laws_markSat; unfold F_laws_markSat
  refine vbox_new fun b1 w1 hb1 he1 hz1 hB1 => ?_
  have A1 : Blk w1 b1 [vp, vw, vl, .int .i64 s.code] T_impl_Sat := hB1
  have lp : ∀ b, vp.ownBlock = some b → b < w.heap.size := fun b hb => h.put.lt hb
  have lw : ∀ b, vw.ownBlock = some b → b < w.heap.size := fun b hb => h.why.lt hb
  have ll : ∀ b, vl.ownBlock = some b → b < w.heap.size := fun b hb => h.lst.lt hb
  simp (disch := (simp only [push_cast]; done)) only [push_cast, A1.ld0]
  refine markIntS_spec (h.put.ext he1) (by omega) h1 fun w2 hs2 hz2 hp2 => ?_
  have A2 := A1.same hs2 fun e => by have := lp _ e; omega
  simp (disch := (simp only [push_cast]; done)) only [push_cast, A2.ld1]
  have hw2 := (h.why.ext he1).same hs2 fun b hb e => (h.dp b e).2.1 hb
  refine markIntS_spec (k := k + s.put.length) hw2 (by omega) h2 fun w3 hs3 hz3 hw3 => ?_
  have A3 := A2.same hs3 fun e => by have := lw _ e; omega
  simp (disch := (simp only [push_cast]; done)) only [push_cast, A3.ld2]
  have hl3 := ((h.lst.ext he1).same hs2 fun b hb e => (h.dp b e).2.2 hb).same hs3 fun b hb e => (h.dw b e).2 hb
  have hr := h.rows.owned
  have hr3 := ((hr.ext he1).same hs2 fun b hb _ e => hb.1.1 e).same hs3 fun b hb _ e => hb.1.2.1 e
  refine markIntSS_spec (k := k + s.put.length + s.why.length) hl3 hr3 h.len (fun b hb => hb.1.2.2) (by omega) h4 h3 fun w4 hs4 hz4 hl4 hr4 => ?_
  have hp4 := (hp2.same hs3 fun b hb e => (h.dp b hb).2.1 e).same hs4 fun b hb e => e.1.1.1 hb
  have hw4 := hw3.same hs4 fun b hb e => e.1.1.2.1 hb
  refine hK w4 ⟨hs4.os.trans (hs3.os.trans (hs2.os.trans he1.os)), hs4.tape.trans (hs3.tape.trans (hs2.tape.trans he1.tape)), hs4.output.trans (hs3.output.trans (hs2.output.trans he1.output)), by omega, fun b hb hn => ?_⟩
    ⟨hp4, hw4, hl4, h.dp, h.dw, h.dl, by rw [rampL_len]; exact h.len, hr4.weaken fun b hb _ _ => hb.1⟩
  rw [hs4.block b (by omega) (fun e => hn (.inr (.inr e.1.2))), hs3.block b (by omega) (fun e => hn (.inr (.inl e))), hs2.block b (by omega) (fun e => hn (.inl e)), he1.block b hb id]
theorem heldSat_spec {vp vw vl : Value} {k : Nat} (h : SatR F w (.agg #[vp, vw, vl, .int .i64 s.code]) { s with put := ramp k s.put.length, why := ramp (k + s.put.length) s.why.length, learned := rampL (k + s.put.length + s.why.length) s.learned }) (hk : k ≤ 1048577) (h1 : s.put.length ≤ 1048576) (h2 : s.why.length ≤ 1048576) (h3 : s.learned.length ≤ 1048576) (h4 : tot s.learned ≤ 1048576)
    (hK : ∀ w', Ext w w' → K (.int .i64 (k + s.put.length + s.why.length + tot s.learned : Nat)) w') : vcall PP n_laws_heldSat #[.agg #[vp, vw, vl, .int .i64 s.code], .int .i64 k] w K := by
  apply c_laws_heldSat; unfold F_laws_heldSat
  obtain ⟨a0, a1, a2, e, i0, i1, i2⟩ := h
  obtain ⟨rfl, rfl, rfl⟩ : vp = a0 ∧ vw = a1 ∧ vl = a2 := by simpa using e
  refine vbox_new fun b1 w1 hb1 he1 hz1 hB1 => ?_
  have A1 : Blk w1 b1 [vp, vw, vl, .int .i64 s.code] T_impl_Sat := hB1
  simp (disch := (simp only [push_cast]; done)) only [push_cast, A1.ld0]
  refine heldIntS_spec (n := s.put.length) (i0.ext he1) (by omega) h1 fun w2 he2 => ?_
  have A2 := A1.ext he2
  have E2 := he1.trans he2
  simp (disch := (simp only [push_cast]; done)) only [vbin_lss, fa_impl_Sat_1, addr_add, Nat.zero_add, A2.ld1]
  refine vif_dec (fun e => absurd e (by omega)) (fun _ => ?_)
  refine heldIntS_spec (k := k + s.put.length) (n := s.why.length) (i1.ext E2) (by omega) h2 fun w3 he3 => ?_
  have A3 := A2.ext he3
  have E3 := E2.trans he3
  simp (disch := (simp only [push_cast]; done)) only [vbin_lss, fa_impl_Sat_2, addr_add, Nat.zero_add, A3.ld2]
  refine vif_dec (fun e => absurd e (by omega)) (fun _ => ?_)
  refine heldIntSS_spec (k := k + s.put.length + s.why.length) (i2.ext E3) (by omega) h4 h3 fun w4 he4 => ?_
  simp only [vbin_lss]
  exact vif_dec (fun e => absurd e (by omega)) (fun _ => hK w4 (E3.trans he4))
end Go.Proofs.YtpihgpfebhegmaaGreat

/- The law FnExactSatStep: the program's step is the reference's, in memory of its own. -/
namespace Go.Proofs.YtpihgpfebhegmaaGreat
open Go Go.Vc Go.Proofs Go.M
variable {w : World} {K : Value → World → Prop} {F Fr F' : Nat → Prop} {N : Nat} {c : Cnf} {s x : Sat}
theorem SatStep_o {F' : Nat → Prop} {vc v : Value} (hc : CnfR F w vc c) (hv : SatR F' w v s) (hc0 : -9223372036854775808 ≤ c.many) (hc1 : c.many ≤ 9223372036854775807)
    (hK : ∀ w' p y l es x, Ext w w' → StepA c s x → SatO w.heap.size w' p y l es x → K (.agg #[p, y, l, .int .i64 x.code]) w') : vcall PP n_impl_SatStep #[vc, v] w K :=
  SatStep_own hc hv rfl hc0 hc1 fun w' p y l es x he hy hn hcp hr => hK w' p y l es x he ⟨hy, hn⟩ ⟨hcp.put, hcp.why, hcp.lst, hcp.dp, hcp.dw, hcp.dl, hcp.len, hr⟩
theorem tot_bound {xss : List (List Int)} {m : Nat} (h : ∀ x, x ∈ xss → x.length ≤ m) : tot xss ≤ xss.length * m := by
  induction xss with
  | nil => simp [tot]
  | cons x xs ih =>
    have h1 := h x List.mem_cons_self
    have h2 := ih fun y hy => h y (List.mem_cons_of_mem _ hy)
    simp only [tot, List.length_cons, Nat.succ_mul]
    omega
theorem StepA.sizes (h : StepA c s x) : x.put.length ≤ 700 ∧ x.why.length ≤ 700 ∧ x.learned.length ≤ 300 ∧ tot x.learned ≤ 210000 := by
  by_cases hok : satOk c.many.toNat c s
  · have hcm : c.many = (c.many.toNat : Int) := by have := (cnfOk_iff.1 hok.cnf).1; omega
    rw [h.yes hok]
    obtain ⟨z1, z2, z3, z4⟩ := (step_ok hok hcm).sizes hcm
    have h1 := tot_bound z4
    have h2 := Nat.mul_le_mul_right 700 z3
    exact ⟨z1, z2, z3, by omega⟩
  · rw [h.no hok]
    simp [formS, tot]
/-- The arguments, in their cells. -/
structure ExA (w w' : World) (b2 b3 M : Nat) (c : Cnf) (s : Sat) (lv p y l : Value) : Prop where
  E : Ext w w'
  A : Blk w' b2 [.int .i64 c.many, lv] T_laws_Cnf
  B : Blk w' b3 [p, y, l, .int .i64 s.code] T_laws_Sat
  hc : CnfR (fun b => b < M) w' (.agg #[.int .i64 c.many, lv]) c
  hs : SatR (fun b => b < M) w' (.agg #[p, y, l, .int .i64 s.code]) s
  l2 : b2 < M
  l3 : b3 < M
  lw : w.heap.size ≤ M
  lM : M ≤ w'.heap.size
theorem ExA.same {S : Nat → Prop} {w w1 w2 : World} {b2 b3 M : Nat} {lv p y l : Value} (h : ExA w w1 b2 b3 M c s lv p y l) (hS : Same S w1 w2) (hM : ∀ b, b < M → ¬ S b) : ExA w w2 b2 b3 M c s lv p y l :=
  ⟨Ext.then h.E hS fun b hb => Nat.le_of_not_lt fun hlt => hM b (Nat.lt_of_lt_of_le hlt h.lw) hb, h.A.same hS (hM _ h.l2), h.B.same hS (hM _ h.l3), h.hc.same hS fun b hb _ => hM b hb, h.hs.same hS fun b hb _ => hM b hb, h.l2, h.l3, h.lw, Nat.le_trans h.lM hS.size⟩
theorem ExA.ext {w w1 w2 : World} {b2 b3 M : Nat} {lv p y l : Value} (h : ExA w w1 b2 b3 M c s lv p y l) (he : Ext w1 w2) : ExA w w2 b2 b3 M c s lv p y l := h.same he fun _ _ h => h
/-- A cell with a state that a step answers. -/
structure ExC (w' : World) (b M : Nat) (c : Cnf) (s x : Sat) (p y l : Value) : Prop where
  C : Blk w' b [p, y, l, .int .i64 x.code] T_impl_Sat
  hx : SatR (fun u => u < M) w' (.agg #[p, y, l, .int .i64 x.code]) x
  st : StepA c s x
  lb : b < M
theorem ExC.same {S : Nat → Prop} {w1 w2 : World} {b M : Nat} {p y l : Value} (h : ExC w1 b M c s x p y l) (hS : Same S w1 w2) (hM : ∀ u, u < M → ¬ S u) : ExC w2 b M c s x p y l :=
  ⟨h.C.same hS (hM _ h.lb), h.hx.same hS fun u hu _ => hM u hu, h.st, h.lb⟩
theorem ExC.ext {w1 w2 : World} {b M : Nat} {p y l : Value} (h : ExC w1 b M c s x p y l) (he : Ext w1 w2) : ExC w2 b M c s x p y l := h.same he fun _ _ h => h
/-- A state goes into a new cell, the cell being there. -/
theorem into {J : List Value → World → Prop} {w1 : World} {b6 : Nat} {v : Value} (hB : Blk w1 b6 [.slice none 0 0, .slice none 0 0, .slice none 0 0, .int .i64 0] T_impl_Sat) (hv : SatR (fun u => u ≠ b6) w1 v x) (hst : StepA c s x)
    (hJ : ∀ w2 p y l, Same (· = b6) w1 w2 → w2.heap.size = w1.heap.size → ExC w2 b6 w2.heap.size c s x p y l → J [.pointer (some ⟨b6, 0, none⟩)] w2) : vstore PP T_impl_Sat (.pointer (some ⟨b6, 0, none⟩)) v w1 fun _ w2 => J [.pointer (some ⟨b6, 0, none⟩)] w2 := by
  obtain ⟨p, y, l, rfl, hone⟩ := hv.fields
  refine hB.stAgg (cs' := [p, y, l, .int .i64 x.code]) rfl g_impl_Sat hone fun w2 hs2 hz2 hB2 => ?_
  have := hB2.lt
  exact hJ w2 p y l hs2 hz2 ⟨hB2, (hv.same hs2 fun u hu _ e => hu e).weaken fun u _ h => h, hst, this⟩
theorem FnExactSatStep_spec {vc v : Value} (hc : CnfR F w vc c) (hs : SatR F' w v s) (m0 : -9223372036854775808 ≤ c.many) (m1 : c.many ≤ 9223372036854775807) (hK : ∀ w', Ext w w' → K (.bool true) w') : vcall PP n_laws_FnExactSatStep #[vc, v] w K := by
  apply c_laws_FnExactSatStep; unfold F_laws_FnExactSatStep
  have hc' := hc.below
  have hs' : SatR (fun b => b < w.heap.size) w v s := hs.weaken fun _ _ h => h
  obtain ⟨lv, rfl, -⟩ := hc
  obtain ⟨p, y, l, rfl, -⟩ := hs
  refine vbox_new fun b2 w1 hb2 he1 hz1 hB1 => ?_
  refine vbox_new fun b3 w2 hb3 he2 hz2 hB2 => ?_
  have E2 := he1.trans he2
  have h2 : ExA w w2 b2 b3 w2.heap.size c s lv p y l := ⟨E2, hB1.ext he2, hB2, (hc'.ext E2).weaken fun _ _ h => h, (hs'.ext E2).weaken fun _ _ h => h, by omega, by omega, by omega, Nat.le_refl _⟩
  rw [h2.A.ldAgg g_laws_Cnf]
  refine szCnf_spec (left := 1048576) h2.hc (by omega) (fun w3 he3 => ?_) fun w3 he3 hle => ?_
  · simp only [push_cast]
    exact vif_bool (fun _ => hK w3 (E2.trans he3)) (fun e => by cases e)
  have h3 := h2.ext he3
  simp only [vbin_lss]
  refine vif_dec (fun e => absurd e (by omega)) (fun _ => ?_)
  rw [h3.B.ldAgg g_laws_Sat]
  refine szSat_spec h3.hs (by omega) (fun w4 he4 => ?_) fun w4 m he4 hls hm => ?_
  · simp only [push_cast]
    exact vif_bool (fun _ => hK w4 (h3.E.trans he4)) (fun e => by cases e)
  have h4 := h3.ext he4
  simp only [vbin_lss]
  refine vif_dec (fun e => absurd e (by omega)) (fun _ => ?_)
  have q1 : c.list.length ≤ 1048576 := by omega
  have q2 : tot c.list ≤ 1048576 := by omega
  have q3 : s.put.length ≤ 1048576 := by omega
  have q4 : s.why.length ≤ 1048576 := by omega
  have q5 : s.learned.length ≤ 1048576 := by omega
  have q6 : tot s.learned ≤ 1048576 := by omega
  generalize w2.heap.size = M at h4
  clear hle hls h3 h2
  refine vjoin_of (fun u w' => ∃ b6 x p0 y0 l0, u = [.pointer (some ⟨b6, 0, none⟩)] ∧ ExA w w' b2 b3 M c s lv p y l ∧ ExC w' b6 w'.heap.size c s x p0 y0 l0) ?_ ?_
  · intro J hJ
    refine vdraw_ext fun w5 he5 _ => ?_
    have h5 := h4.ext he5
    simp (disch := (simp only [push_cast]; done)) only [push_cast, h5.A.ldAgg g_laws_Cnf, h5.B.ldAgg g_laws_Sat, true_and, and_true]
    have hlM := h4.E.size
    have key : ∀ (w7 : World) (b6 : Nat) (v7 : Value) (x : Sat), ExA w w7 b2 b3 M c s lv p y l → M ≤ b6 → Blk w7 b6 [.slice none 0 0, .slice none 0 0, .slice none 0 0, .int .i64 0] T_impl_Sat → SatR (fun u => u ≠ b6) w7 v7 x → StepA c s x → vstore PP T_impl_Sat (.pointer (some ⟨b6, 0, none⟩)) v7 w7 fun _ w8 => J [.pointer (some ⟨b6, 0, none⟩)] w8 := fun w7 b6 v7 x h7 hMb hB hv hst =>
      into hB hv hst fun w8 p0 y0 l0 hs8 hz8 hC => hJ _ _ ⟨b6, x, p0, y0, l0, rfl, h7.same hs8 fun u hu e => by omega, hC⟩
    have hM5 : M ≤ w5.heap.size := h5.lM
    refine ⟨?_, ?_⟩
    · refine toCnf_spec h5.hc q1 q2 fun w6 lv6 ls6 he6 hc6 => ?_
      have h6 := h5.ext he6
      simp (disch := (simp only [push_cast]; done)) only [push_cast, h6.B.ldAgg g_laws_Sat, true_and, and_true, and_self]
      refine ⟨?_, ?_⟩
      · refine toSat_spec h6.hs q3 q4 q5 q6 fun w7 a0 a1 a2 es7 he7 hs7 => ?_
        have h7 := h6.ext he7
        refine ⟨?_, ?_⟩
        · refine specSatStep_one (hc6.ext he7).cnf hs7.sat m0 m1 fun w8 v8 x he8 hx8 hv8 => ?_
          refine valloc_new zr_impl_Sat fun b6 w9 hb9 he9 hz9 hB9 => ?_
          have := he6.size; have := he7.size; have := he8.size
          exact key w9 b6 v8 x ((h7.ext he8).ext he9) (by omega) hB9 ((hv8.weaken fun u _ h => by omega).ext he9) hx8
        · refine valloc_new zr_impl_Sat fun b6 w8 hb8 he8 hz8 hB8 => ?_
          refine specSatStep_one ((hc6.ext he7).ext he8).cnf (hs7.ext he8).sat m0 m1 fun w9 v9 x he9 hx9 hv9 => ?_
          have := he6.size; have := he7.size
          exact key w9 b6 v9 x ((h7.ext he8).ext he9) (by omega) (hB8.ext he9) (hv9.weaken fun u hu _ => by omega) hx9
      · refine valloc_new zr_impl_Sat fun b6 w7 hb7 he7 hz7 hB7 => ?_
        have h7 := h6.ext he7
        simp (disch := (simp only [push_cast]; done)) only [push_cast, h7.B.ldAgg g_laws_Sat, true_and, and_true, and_self]
        refine toSat_spec h7.hs q3 q4 q5 q6 fun w8 a0 a1 a2 es8 he8 hs8 => ?_
        refine specSatStep_one ((hc6.ext he7).ext he8).cnf hs8.sat m0 m1 fun w9 v9 x he9 hx9 hv9 => ?_
        have := he6.size; have := he8.size
        exact key w9 b6 v9 x ((h7.ext he8).ext he9) (by omega) ((hB7.ext he8).ext he9) (hv9.weaken fun u hu _ => by omega) hx9
    · refine valloc_new zr_impl_Sat fun b6 w6 hb6 he6 hz6 hB6 => ?_
      have h6 := h5.ext he6
      simp (disch := (simp only [push_cast]; done)) only [push_cast, h6.A.ldAgg g_laws_Cnf, h6.B.ldAgg g_laws_Sat, true_and, and_true, and_self]
      refine toCnf_spec h6.hc q1 q2 fun w7 lv7 ls7 he7 hc7 => ?_
      have h7 := h6.ext he7
      simp (disch := (simp only [push_cast]; done)) only [push_cast, h7.B.ldAgg g_laws_Sat, true_and, and_true, and_self]
      refine toSat_spec h7.hs q3 q4 q5 q6 fun w8 a0 a1 a2 es8 he8 hs8 => ?_
      refine specSatStep_one (hc7.ext he8).cnf hs8.sat m0 m1 fun w9 v9 x he9 hx9 hv9 => ?_
      have := he7.size; have := he8.size
      exact key w9 b6 v9 x ((h7.ext he8).ext he9) (by omega) (((hB6.ext he7).ext he8).ext he9) (hv9.weaken fun u hu _ => by omega) hx9
  rintro _ _ w5 ⟨b6, x, p0, y0, l0, rfl, h5, C5⟩
  generalize hM0 : w5.heap.size = M0 at C5
  have hMM : M ≤ M0 := by have := h5.lM; omega
  obtain ⟨z1, z2, z3, z4⟩ := C5.st.sizes
  simp only [sl0]
  -- the copies that the program is given
  rw [h5.A.ldAgg g_laws_Cnf]
  refine toCnf_spec h5.hc q1 q2 fun w6 lv1 ls1 he6 hc6 => ?_
  refine valloc_new zr_impl_Cnf fun b7 w7 hb7 he7 hz7 hB7 => ?_
  refine (show Blk w7 b7 [.int .i64 0, .slice none 0 0] T_impl_Cnf from hB7).stAgg (cs' := [.int .i64 c.many, lv1]) rfl g_impl_Cnf (fun x hx => ?_) fun w8 hs8 hz8 hB8 => ?_
  · simp only [List.mem_cons, List.not_mem_nil, or_false] at hx
    rcases hx with rfl | rfl
    · rfl
    · exact hc6.lst.vals.one
  have hz6 := he6.size
  have E68 : Ext w6 w8 := Ext.then he7 hs8 fun u hu => by omega
  have E58 : Ext w5 w8 := he6.trans E68
  have h8 := h5.ext E58
  have C8 := C5.ext E58
  have hc8 := (hc6.down (M := M0) (by omega)).ext E68
  have r1 : ∀ b, Owns ls1 c.list.length b → M0 ≤ b ∧ b < w6.heap.size := fun b hb => (hc6.down (M := M0) (by omega)).rows.in hb
  have l7 := hB8.lt
  have hz8 := E68.size
  rw [h8.B.ldAgg g_laws_Sat]
  refine toSat_spec h8.hs q3 q4 q5 q6 fun w9 a0 a1 a2 es1 he9 hs9 => ?_
  refine valloc_new zr_impl_Sat fun b8 w10 hb8 he10 hz10 hB10 => ?_
  refine (show Blk w10 b8 [.slice none 0 0, .slice none 0 0, .slice none 0 0, .int .i64 0] T_impl_Sat from hB10).stAgg (cs' := [a0, a1, a2, .int .i64 s.code]) rfl g_impl_Sat (fun x hx => ?_) fun w11 hs11 hz11 hB11 => ?_
  · obtain ⟨q, y', l', e, hone⟩ := hs9.sat.fields
    obtain ⟨rfl, rfl, rfl⟩ : a0 = q ∧ a1 = y' ∧ a2 = l' := by simpa using e
    exact hone x hx
  have E911 : Ext w9 w11 := Ext.then he10 hs11 fun u hu => by omega
  have E811 : Ext w8 w11 := he9.trans E911
  have h11 := h8.ext E811
  have C11 := C8.ext E811
  have A11 := hB8.ext E811
  have hc11 := hc8.ext E811
  have hz9 := he9.size
  have r2 : ∀ b, a0.ownBlock = some b ∨ a1.ownBlock = some b ∨ Owns es1 s.learned.length b → M0 ≤ b ∧ b < w9.heap.size := fun b hb => by
    rcases hb with hb | hb | hb
    · exact ⟨by have := (hs9.dp b hb).1; omega, hs9.put.lt hb⟩
    · exact ⟨by have := (hs9.dw b hb).1; omega, hs9.why.lt hb⟩
    · have := hs9.rows.in hb; omega
  have hs11' := (hs9.down (M := M0) (by omega)).ext E911
  have l8 := hB11.lt
  have hz11 := E911.size
  rw [A11.ldAgg g_impl_Cnf, hB11.ldAgg g_impl_Sat]
  refine SatStep_o hc11.cnf hs11'.sat m0 m1 fun w12 g0 g1 g2 es2 x' he12 hx' hg12 => ?_
  obtain rfl : x = x' := C11.st.eq hx'
  refine valloc_new zr_impl_Sat fun b9 w13 hb9 he13 hz13 hB13 => ?_
  refine (show Blk w13 b9 [.slice none 0 0, .slice none 0 0, .slice none 0 0, .int .i64 0] T_impl_Sat from hB13).stAgg (cs' := [g0, g1, g2, .int .i64 x.code]) rfl g_impl_Sat (fun u hu => ?_) fun w14 hs14 hz14 hB14 => ?_
  · obtain ⟨q, y', l', e, hone⟩ := hg12.sat.fields
    obtain ⟨rfl, rfl, rfl⟩ : g0 = q ∧ g1 = y' ∧ g2 = l' := by simpa using e
    exact hone u hu
  have E1214 : Ext w12 w14 := Ext.then he13 hs14 fun u hu => by omega
  have E14 := he12.trans E1214
  have h14 := h11.ext E14
  have C14 := C11.ext E14
  have A14 := A11.ext E14
  have D14 := hB11.ext E14
  have hc14 := hc11.ext E14
  have hs14' := hs11'.ext E14
  have hg14 := hg12.ext E1214
  have hz12 := he12.size
  have r3 : ∀ b, g0.ownBlock = some b ∨ g1.ownBlock = some b ∨ Owns es2 x.learned.length b → w11.heap.size ≤ b ∧ b < w12.heap.size := fun b hb => by
    rcases hb with hb | hb | hb
    · exact ⟨(hg12.dp b hb).1, hg12.put.lt hb⟩
    · exact ⟨(hg12.dw b hb).1, hg12.why.lt hb⟩
    · exact hg12.rows.in hb
  -- the answers are one
  rw [hB14.ldAgg g_impl_Sat, C14.C.ldAgg g_impl_Sat]
  refine eqSat_self hg14.sat C14.hx fun w15 he15 => ?_
  have h15 := h14.ext he15
  have A15 := A14.ext he15
  simp only [push_cast]
  refine vif_bool (fun e => by cases e) (fun _ => ?_)
  refine vdraw_ext fun w16 he16 _ => ?_
  have h16 := h15.ext he16
  have A16 := A15.ext he16
  simp (disch := (simp only [push_cast]; done)) only [push_cast, A16.ldAgg g_impl_Cnf, h16.A.ldAgg g_laws_Cnf, true_and]
  refine toCnf_spec h16.hc q1 q2 fun w17 lv2 ls2 he17 hc17 => ?_
  have A17 := A16.ext he17
  simp (disch := (simp only [push_cast]; done)) only [push_cast, A17.ldAgg g_impl_Cnf, true_and, and_self]
  refine eqCnf_self (hc14.ext (he15.trans (he16.trans he17))).cnf hc17.cnf fun w18 he18 => ?_
  have E18 := he15.trans (he16.trans (he17.trans he18))
  simp only [push_cast, true_and]
  refine vif_bool (fun e => by cases e) (fun _ => ?_)
  refine vdraw_ext fun w19 he19 _ => ?_
  have E19 := E18.trans he19
  have h19 := h14.ext E19
  have D19 := D14.ext E19
  simp (disch := (simp only [push_cast]; done)) only [push_cast, D19.ldAgg g_impl_Sat, h19.B.ldAgg g_laws_Sat, true_and]
  refine toSat_spec h19.hs q3 q4 q5 q6 fun w20 c0 c1 c2 es3 he20 hs20 => ?_
  have D20 := D19.ext he20
  simp (disch := (simp only [push_cast]; done)) only [push_cast, D20.ldAgg g_impl_Sat, true_and, and_self]
  refine eqSat_self (hs14'.ext (E19.trans he20)).sat hs20.sat fun w21 he21 => ?_
  have E21 := E19.trans (he20.trans he21)
  simp only [push_cast, true_and]
  refine vif_bool (fun e => by cases e) (fun _ => ?_)
  have h21 := h14.ext E21
  have C21 := C14.ext E21
  have A21 := A14.ext E21
  have D21 := D14.ext E21
  have G21 := hB14.ext E21
  have hc21 := hc14.ext E21
  have hs21 := hs14'.ext E21
  have hg21 := hg14.ext E21
  -- what was given is marked
  rw [A21.ldAgg g_impl_Cnf]
  refine markCnf_spec (k := 1) hc21 (by omega) q1 q2 fun w22 hs22 => ?_
  have D22 := D21.same hs22 fun e => by have := (r1 _ e).2; omega
  have hsS : SatO w8.heap.size w21 a0 a1 a2 es1 s := hs9.ext (E911.trans (E14.trans E21))
  have hs22' := hsS.same hs22 fun b hb _ e => by have := (r1 b e).2; omega
  simp only [push_cast]
  rw [D22.ldAgg g_impl_Sat]
  refine markSat_spec (k := 1 + tot c.list) hs22' (by omega) q3 q4 q5 q6 fun w23 hs23 _ => ?_
  have S23 : Same (fun b => M0 ≤ b ∧ b < w9.heap.size) w21 w23 := (hs22.mono fun b _ e => by have := r1 b e; omega).trans (hs23.mono fun b _ e => r2 b e)
  have h23 := h21.same S23 fun b hb e => by omega
  have C23 := C21.same S23 fun b hb e => by omega
  have G23 := G21.same S23 (by omega)
  have hg23 := hg21.same S23 fun b hb _ e => by omega
  refine vjoin_of (fun _ w' => Ext w23 w') ?_ ?_
  · intro J hJ
    simp only [vbin_lss]
    refine vif_dec (fun e => absurd e (by omega)) (fun _ => ?_)
    rw [G23.ldAgg g_impl_Sat, C23.C.ldAgg g_impl_Sat]
    refine eqSat_self hg23.sat C23.hx fun w24 he24 => ?_
    simp only [push_cast]
    exact vif_bool (fun e => by cases e) (fun _ => hJ _ _ he24)
  rintro _ _ w24 he24
  have h24 := h23.ext he24
  have C24 := C23.ext he24
  have G24 := G23.ext he24
  have hg24 := hg23.ext he24
  rw [G24.ldAgg g_impl_Sat]
  -- and what was answered
  refine markSat_spec (k := 1) hg24 (by omega) (by omega) (by omega) (by omega) (by omega) fun w25 hs25 hg25 => ?_
  have S25 : Same (fun b => w11.heap.size ≤ b ∧ b < w12.heap.size) w24 w25 := hs25.mono fun b _ e => r3 b e
  have h25 := h24.same S25 fun b hb e => by omega
  have C25 := C24.same S25 fun b hb e => by omega
  have G25 := G24.same S25 (by omega)
  rw [G25.ldAgg g_impl_Sat]
  refine heldSat_spec (k := 1) hg25.sat (by omega) (by omega) (by omega) (by omega) (by omega) fun w26 he26 => ?_
  simp only [vbin_lss]
  refine vif_dec (fun e => absurd e (by omega)) (fun _ => ?_)
  simp only [push_cast]
  refine vif_bool (fun e => by simp at e) (fun _ => ?_)
  have h26 := h25.ext he26
  have C26 := C25.ext he26
  have G26 := G25.ext he26
  have hg26 := hg25.ext he26
  -- once more
  refine vjoin_of (fun u w' => ∃ b10 p1 y1 l1, u = [.pointer (some ⟨b10, 0, none⟩)] ∧ Ext w26 w' ∧ ExC w' b10 w'.heap.size c s x p1 y1 l1) ?_ ?_
  · intro J hJ
    refine vdraw_ext fun w27 he27 _ => ?_
    have h27 := h26.ext he27
    simp (disch := (simp only [push_cast]; done)) only [push_cast, h27.A.ldAgg g_laws_Cnf, h27.B.ldAgg g_laws_Sat, true_and, and_true]
    have key : ∀ (w7 : World) (b6 : Nat) (v7 : Value) (x2 : Sat), Ext w26 w7 → w26.heap.size ≤ b6 → Blk w7 b6 [.slice none 0 0, .slice none 0 0, .slice none 0 0, .int .i64 0] T_impl_Sat → SatR (fun u => u ≠ b6) w7 v7 x2 → StepA c s x2 → vstore PP T_impl_Sat (.pointer (some ⟨b6, 0, none⟩)) v7 w7 fun _ w8 => J [.pointer (some ⟨b6, 0, none⟩)] w8 := fun w7 b6 v7 x2 h7 hMb hB hv hst => by
      obtain rfl : x = x2 := C26.st.eq hst
      exact into hB hv hst fun w8 p0 y0 l0 hs8 hz8 hC => hJ _ _ ⟨b6, p0, y0, l0, rfl, Ext.then h7 hs8 fun u hu => by omega, hC⟩
    have hz27 := he27.size
    refine ⟨?_, ?_⟩
    · refine toCnf_spec h27.hc q1 q2 fun w6 lv6 ls6 he6 hc6 => ?_
      have h6 := h27.ext he6
      simp (disch := (simp only [push_cast]; done)) only [push_cast, h6.B.ldAgg g_laws_Sat, true_and, and_true, and_self]
      have := he6.size
      refine ⟨?_, ?_⟩
      · refine toSat_spec h6.hs q3 q4 q5 q6 fun w7 a0 a1 a2 es7 he7 hs7 => ?_
        have := he7.size
        refine ⟨?_, ?_⟩
        · refine SatStep_o (hc6.ext he7).cnf hs7.sat m0 m1 fun w8 p8 y8 l8 es8 x8 he8 hx8 hv8 => ?_
          refine valloc_new zr_impl_Sat fun b6 w9 hb9 he9 hz9 hB9 => ?_
          have := he8.size
          exact key w9 b6 _ x8 (he27.trans (he6.trans (he7.trans (he8.trans he9)))) (by omega) hB9 ((hv8.sat.weaken fun u _ h => by omega).ext he9) hx8
        · refine valloc_new zr_impl_Sat fun b6 w8 hb8 he8 hz8 hB8 => ?_
          refine SatStep_o ((hc6.ext he7).ext he8).cnf (hs7.ext he8).sat m0 m1 fun w9 p9 y9 l9 es9 x9 he9 hx9 hv9 => ?_
          exact key w9 b6 _ x9 (he27.trans (he6.trans (he7.trans (he8.trans he9)))) (by omega) (hB8.ext he9) (hv9.sat.weaken fun u hu _ => by omega) hx9
      · refine valloc_new zr_impl_Sat fun b6 w7 hb7 he7 hz7 hB7 => ?_
        have h7 := h6.ext he7
        simp (disch := (simp only [push_cast]; done)) only [push_cast, h7.B.ldAgg g_laws_Sat, true_and, and_true, and_self]
        refine toSat_spec h7.hs q3 q4 q5 q6 fun w8 a0 a1 a2 es8 he8 hs8 => ?_
        have := he8.size
        refine SatStep_o ((hc6.ext he7).ext he8).cnf hs8.sat m0 m1 fun w9 p9 y9 l9 es9 x9 he9 hx9 hv9 => ?_
        exact key w9 b6 _ x9 (he27.trans (he6.trans (he7.trans (he8.trans he9)))) (by omega) ((hB7.ext he8).ext he9) (hv9.sat.weaken fun u hu _ => by omega) hx9
    · refine valloc_new zr_impl_Sat fun b6 w6 hb6 he6 hz6 hB6 => ?_
      have h6 := h27.ext he6
      simp (disch := (simp only [push_cast]; done)) only [push_cast, h6.A.ldAgg g_laws_Cnf, h6.B.ldAgg g_laws_Sat, true_and, and_true, and_self]
      refine toCnf_spec h6.hc q1 q2 fun w7 lv7 ls7 he7 hc7 => ?_
      have h7 := h6.ext he7
      simp (disch := (simp only [push_cast]; done)) only [push_cast, h7.B.ldAgg g_laws_Sat, true_and, and_true, and_self]
      refine toSat_spec h7.hs q3 q4 q5 q6 fun w8 a0 a1 a2 es8 he8 hs8 => ?_
      have := he7.size; have := he8.size
      refine SatStep_o (hc7.ext he8).cnf hs8.sat m0 m1 fun w9 p9 y9 l9 es9 x9 he9 hx9 hv9 => ?_
      exact key w9 b6 _ x9 (he27.trans (he6.trans (he7.trans (he8.trans he9)))) (by omega) (((hB6.ext he7).ext he8).ext he9) (hv9.sat.weaken fun u hu _ => by omega) hx9
  rintro _ _ w27 ⟨b10, p1, y1, l1, rfl, he27, C27⟩
  have C27' := C26.ext he27
  have G27 := G26.ext he27
  simp only [sl0]
  rw [C27.C.ldAgg g_impl_Sat, C27'.C.ldAgg g_impl_Sat]
  refine eqSat_self C27.hx C27'.hx fun w28 he28 => ?_
  have G28 := G27.ext he28
  simp only [push_cast]
  refine vif_bool (fun e => by cases e) (fun _ => ?_)
  rw [G28.ldAgg g_impl_Sat]
  refine heldSat_spec (k := 1) ((hg26.ext he27).ext he28).sat (by omega) (by omega) (by omega) (by omega) (by omega) fun w29 he29 => ?_
  simp only [vbin_lss]
  refine vif_dec (fun e => absurd e (by omega)) (fun _ => ?_)
  simp only [push_cast]
  refine vif_bool (fun e => by simp at e) (fun _ => ?_)
  exact hK w29 (h26.E.trans (he27.trans (he28.trans he29)))
end Go.Proofs.YtpihgpfebhegmaaGreat
