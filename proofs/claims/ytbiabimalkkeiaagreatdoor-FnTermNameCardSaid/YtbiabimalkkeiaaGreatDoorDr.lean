/- Contracts of the reference's drawing: terms. -/
import Derived.Test.YtbiabimalkkeiaaGreatDoorDq
set_option linter.unusedVariables false
set_option linter.unusedSimpArgs false
set_option linter.unnecessarySimpa false
set_option linter.unusedSectionVars false
namespace Go.Proofs.YtbiabimalkkeiaaGreatDoor
open Go Go.Vc Go.Proofs
variable {w : World} {K : Value → World → Prop} {F F' D G : Nat → Prop}
/-- A literal of terms. -/
theorem kidsL {css : List (List Value)} {ts : List M.Tm} (hl : css.length = ts.length) (hsm : css.length ≤ 100) (h : ∀ i, i < ts.length → TmR G w (css.getD i []) (ts.getD i default))
    (hK : ∀ w' a, Ext w w' → w'.heap.size = w.heap.size + 1 → TmsR (fun z => G z ∨ z = w.heap.size) w' (.slice a css.length css.length) ts → K (.slice a css.length css.length) w') :
    vbuildS PP T_Limpl_Term (css.map fun c => Value.agg ⟨c⟩).length ((css.map fun c => Value.agg ⟨c⟩).zipIdx.map fun p => (p.2, p.1)) w K := by
  have hwd : ∀ u, u ∈ css → u.length = 5 := fun u hu => by
    obtain ⟨i, hi, rfl⟩ := List.getElem_of_mem hu
    have := tmR_len (h i (by omega))
    rwa [List.getD_eq_getElem?_getD, List.getElem?_eq_getElem hi] at this
  refine vbuildS_row (us := css) (k := 5) u_Limpl_Term z_impl_Term zr_impl_Term (by rw [List.map_map]; rfl) hwd (by rw [List.length_map]; omega) fun b w' hb he hs hB => ?_
  rw [List.length_map]
  refine hK w' _ he hs ⟨css, ?_, hl, fun i hi => ((h i hi).ext he).weaken fun x hx _ => .inl hx⟩
  have ho : Own PP 0 5 T_Limpl_Term w' (.slice (some ⟨b, 0, none⟩) css.length css.length) css := Blk.ownk (by rw [eo_Limpl_Term]; exact hB) hwd rfl (by omega)
  exact ho.sl.weaken fun x hx _ => .inr (by have e : x = b := (Option.some.inj hx).symm; omega)
theorem kids1 {v0 : Value} {t0 : M.Tm} (h0 : TermR G w v0 t0) (hK : ∀ w' a, Ext w w' → w'.heap.size = w.heap.size + 1 → TmsR (fun z => G z ∨ z = w.heap.size) w' (.slice a 1 1) [t0] → K (.slice a 1 1) w') : vbuildS PP T_Limpl_Term 1 [(0, v0)] w K := by
  obtain ⟨c0, rfl, q0⟩ := h0.cells
  refine kidsL (css := [c0]) (ts := [t0]) rfl (by simp) (fun i hi => ?_) hK
  have : i = 0 := by simpa using hi
  subst this; exact q0
theorem kids2 {v0 v1 : Value} {t0 t1 : M.Tm} (h0 : TermR G w v0 t0) (h1 : TermR G w v1 t1) (hK : ∀ w' a, Ext w w' → w'.heap.size = w.heap.size + 1 → TmsR (fun z => G z ∨ z = w.heap.size) w' (.slice a 2 2) [t0, t1] → K (.slice a 2 2) w') : vbuildS PP T_Limpl_Term 2 [(0, v0), (1, v1)] w K := by
  obtain ⟨c0, rfl, q0⟩ := h0.cells
  obtain ⟨c1, rfl, q1⟩ := h1.cells
  refine kidsL (css := [c0, c1]) (ts := [t0, t1]) rfl (by simp) (fun i hi => ?_) hK
  match i, hi with
  | 0, _ => exact q0
  | 1, _ => exact q1
theorem kids3 {v0 v1 v2 : Value} {t0 t1 t2 : M.Tm} (h0 : TermR G w v0 t0) (h1 : TermR G w v1 t1) (h2 : TermR G w v2 t2) (hK : ∀ w' a, Ext w w' → w'.heap.size = w.heap.size + 1 → TmsR (fun z => G z ∨ z = w.heap.size) w' (.slice a 3 3) [t0, t1, t2] → K (.slice a 3 3) w') : vbuildS PP T_Limpl_Term 3 [(0, v0), (1, v1), (2, v2)] w K := by
  obtain ⟨c0, rfl, q0⟩ := h0.cells
  obtain ⟨c1, rfl, q1⟩ := h1.cells
  obtain ⟨c2, rfl, q2⟩ := h2.cells
  refine kidsL (css := [c0, c1, c2]) (ts := [t0, t1, t2]) rfl (by simp) (fun i hi => ?_) hK
  match i, hi with
  | 0, _ => exact q0
  | 1, _ => exact q1
  | 2, _ => exact q2
abbrev zeroT : List Value := [.int .i64 0, .int .i64 0, .int .i64 0, .string ⟨#[]⟩, .slice none 0 0]
/-- What is known while a term is drawn: the world, the reader, the result's variable, the names. -/
structure Dw (F D : Nat → Prop) (w0 : World) (b b1 : Nat) (v dv : Value) (xs : List Nat) (ds : List M.Dcl) (w : World) (p : Nat) : Prop where
  same : Same (· = b) w0 w
  rd : RdR F w b v xs p
  var : Blk w b1 zeroT T_impl_Term
  dcl : DclsR D w dv ds
  old : b < w0.heap.size
  new : b1 = w0.heap.size
  size : b1 < w.heap.size
  hF : ∀ x, F x → x < w0.heap.size
  hD : ∀ x, D x → x ≠ b
  hD1 : ∀ x, D x → x < w0.heap.size
section
variable {w0 : World} {b b1 p : Nat} {v dv : Value} {xs : List Nat} {ds : List M.Dcl}
theorem Dw.step {w1 : World} {p1 : Nat} (h : Dw F D w0 b b1 v dv xs ds w p) (hs : Same (· = b) w w1) (hR : RdR F w1 b v xs p1) : Dw F D w0 b b1 v dv xs ds w1 p1 :=
  ⟨h.same.trans hs, hR, h.var.same hs (by have := h.old; have := h.new; omega), h.dcl.same hs fun x hx _ e => h.hD x hx e, h.old, h.new, Nat.lt_of_lt_of_le h.size hs.size, h.hF, h.hD, h.hD1⟩
theorem Dw.ext {w1 : World} (h : Dw F D w0 b b1 v dv xs ds w p) (he : Ext w w1) : Dw F D w0 b b1 v dv xs ds w1 p := h.step (Same.of_ext he) (h.rd.ext he)
theorem Dw.begin (h : RdR F w b v xs p) (hF : ∀ x, F x → x < w.heap.size) (hd : DclsR D w dv ds) (hD : ∀ x, D x → x ≠ b) (hD1 : ∀ x, D x → x < w.heap.size) {K : Value → World → Prop} (hK : ∀ w1, Dw F D w b w.heap.size v dv xs ds w1 p → K (.pointer (some ⟨w.heap.size, 0, none⟩)) w1) : valloc PP T_impl_Term w K := by
  refine valloc_agg zr_impl_Term fun b1 w1 hb1 he1 hs1 h1 => ?_
  subst hb1
  exact hK w1 ⟨Same.of_ext he1, h.ext he1, h1, hd.ext he1, h.blk.lt, rfl, by omega, hF, hD, hD1⟩
/-- A term's frame: what has been laid since the variable. -/
abbrev Nw (b1 : Nat) (x : Nat) : Prop := b1 < x
/-- The end. -/
theorem Dw.fin {c : Nat} {cs : List Value} {t : M.Tm} (h : Dw F D w0 b b1 v dv xs ds w p) {p0 : Nat} (hp : p ≤ p0 + c) (ht : TmR (Nw b1) w cs t) (hk3 : t.ks.length ≤ 3) (hK : DrawT K F w0 b p0 c v xs) :
    vstore PP T_impl_Term (.pointer (some ⟨b1, 0, none⟩)) (.agg ⟨cs⟩) w fun _ w1 => vlv PP T_impl_Term (.pointer (some ⟨b1, 0, none⟩)) w1 fun r w2 => K r w2 := by
  have := h.old
  have := h.new
  refine retTerm h.var rfl ht (fun x hx e => by subst e; exact Nat.lt_irrefl _ hx) fun w3 hs3 hz3 ht3 => ?_
  exact hK w3 p _ t (same_new h.same hs3 (by omega)) (h.rd.new hs3 (by omega) fun x hx e => by have := h.hF x hx; omega) hp (ht3.weaken fun x hx _ => by have hx' : b1 < x := hx; omega) hk3
theorem Dw.pick {n : Int} (h : Dw F D w0 b b1 v dv xs ds w p) (hn : n ≤ 1099511627776) (hp : p < 1099511627776) (hK : ∀ w1 (k : Nat), Dw F D w0 b b1 v dv xs ds w1 (p + 1) → Same (· = b) w w1 → (1 ≤ n → (k : Int) < n) → (n < 1 → k = 0) → K (.int .i64 k) w1) : vcall PP n_spec_l12Rd_pick #[.pointer (some ⟨b, 0, none⟩), .int .i64 n] w K :=
  pick_spec h.rd hn hp fun w1 k hs hz hR h1 h2 => hK w1 k (h.step hs hR) hs h1 h2
/-- A drawn term, and where one is behind it. -/
theorem Dw.sub {g : Nat} {args : Array Value} {c : Nat} (h : Dw F D w0 b b1 v dv xs ds w p) (hc : ∀ K', DrawT K' F w b p c v xs → vcall PP g args w K') (hK : ∀ w1 p1 tv t, Dw F D w0 b b1 v dv xs ds w1 p1 → Same (· = b) w w1 → p1 ≤ p + c → TermR (Nw b1) w1 tv t → t.ks.length ≤ 3 → K tv w1) : vcall PP g args w K :=
  hc K fun w1 p1 tv t hs hR hp ht hk3 => hK w1 p1 tv t (h.step hs hR) hs hp (ht.weaken fun x hx _ => by have := h.size; show b1 < x; omega) hk3
theorem Dw.keep {tv : Value} {t : M.Tm} {w1 : World} (h : Dw F D w0 b b1 v dv xs ds w p) (ht : TermR (Nw b1) w tv t) (hs : Same (· = b) w w1) : TermR (Nw b1) w1 tv t :=
  ht.same hs fun x hx _ e => by subst e; have := h.old; have := h.new; have hx' : b1 < x := hx; omega
theorem Dw.tms {kv : Value} {ks : List M.Tm} (h : Dw F D w0 b b1 v dv xs ds w p) {w1 : World} (hk : TmsR (fun z => Nw b1 z ∨ z = w.heap.size) w1 kv ks) : TmsR (Nw b1) w1 kv ks :=
  hk.weaken fun x hx _ => by
    rcases hx with hx | hx
    · exact hx
    · have := h.size; show b1 < x; omega
end
/-- How many numbers a term of some levels takes. -/
def cost (d : Nat) : Nat := 100 * 4 ^ d
theorem cost_succ (d : Nat) : cost (d + 1) = 4 * cost d := by unfold cost; rw [Nat.pow_succ]; omega
theorem cost_ge (d : Nat) : 100 ≤ cost d := by
  have : 1 ≤ 4 ^ d := Nat.pow_pos (by omega)
  unfold cost; omega
/-- The contract of l2Term at some levels. -/
def TermDraws (d : Nat) : Prop := ∀ {w : World} {K : Value → World → Prop} {F D : Nat → Prop} {b p : Nat} {v dv : Value} {xs : List Nat} {ds : List M.Dcl} {sort deep : Int}, RdR F w b v xs p → (∀ x, F x → x < w.heap.size) → DclsR D w dv ds → (∀ x, D x → x ≠ b) → (∀ x, D x → x < w.heap.size) → Dok ds → 0 ≤ sort → sort ≤ 4 → -100 ≤ deep → deep ≤ d →
  p + cost d < 1099511627776 → DrawT K F w b p (cost d) v xs → vcall PP n_spec_l2Term #[.pointer (some ⟨b, 0, none⟩), dv, .int .i64 sort, .int .i64 deep] w K
theorem num_draw {w0 : World} {b b1 p : Nat} {v dv : Value} {xs : List Nat} {ds : List M.Dcl} {ns : List Int} (h : Dw F D w0 b b1 v dv xs ds w p) (hne : ns ≠ []) (hsm : ns.length ≤ 1000) (hp : p < 1099511627776) (hK : ∀ w1 m, Dw F D w0 b b1 v dv xs ds w1 (p + 1) → Same (· = b) w w1 → m ∈ ns → K (.int .i64 m) w1) :
    vbuildS PP T_Lint ns.length ((ns.map fun x => Value.int .i64 x).zipIdx.map fun p => (p.2, p.1)) w fun s w1 => vcall PP n_spec_l12Rd_num #[.pointer (some ⟨b, 0, none⟩), s] w1 K := by
  have := vbuildS_row1 (w := w) (K := fun s w1 => vcall PP n_spec_l12Rd_num #[.pointer (some ⟨b, 0, none⟩), s] w1 K) (t := T_Lint) (xs := ns.map fun x => Value.int .i64 x) u_Lint z_int zr_int (fun x hx => by obtain ⟨y, _, rfl⟩ := List.mem_map.1 hx; rfl) (by simp; omega) fun b2 w' h1 h2 h3 h4 => by
    have hv : Ints (· = b2) w' (.slice (some ⟨b2, 0, none⟩) (ns.map fun x => Value.int .i64 x).length (ns.map fun x => Value.int .i64 x).length) ns := h4.sl1 rfl (by simp; omega)
    have hh := h.ext h2
    have := h.rd.blk.lt
    refine num_spec hh.rd hv hne hsm hp (fun x hx e => by subst hx; omega) fun w2 m hs hz hR hm => ?_
    exact hK w2 m (hh.step hs hR) ((Same.of_ext h2).trans hs) hm
  rwa [List.length_map] at this
theorem l2Asks_spec {d : Nat} (hT : TermDraws d) {b p : Nat} {v dv : Value} {xs : List Nat} {ds : List M.Dcl} {deep : Int} (h : RdR F w b v xs p) (hF : ∀ x, F x → x < w.heap.size) (hd : DclsR D w dv ds) (hD : ∀ x, D x → x ≠ b) (hD1 : ∀ x, D x → x < w.heap.size) (hok : Dok ds) (hd1 : 1 ≤ deep) (hd2 : deep ≤ d + 1) (hd9 : d ≤ 9)
    (hp : p + 2 * cost d + 10 < 1099511627776) (hK : DrawT K F w b p (2 * cost d + 10) v xs) : vcall PP n_spec_l2Asks #[.pointer (some ⟨b, 0, none⟩), dv, .int .i64 deep] w K := by
  apply c_spec_l2Asks; unfold F_spec_l2Asks
  refine Dw.begin h hF hd hD hD1 fun w1 h1 => ?_
  have hg := h1.new
  have e1 : IntKind.i64.wrap (deep - 1) = deep - 1 := wrap64 (by omega) (by omega)
  have hsub : ∀ {w2 : World} {p2 : Nat} {s : Int} {K' : Value → World → Prop}, Dw F D w b w.heap.size v dv xs ds w2 p2 → 0 ≤ s → s ≤ 4 → p2 + cost d < 1099511627776 → (∀ w3 p3 tv t, Dw F D w b w.heap.size v dv xs ds w3 p3 → Same (· = b) w2 w3 → p3 ≤ p2 + cost d → TermR (Nw w.heap.size) w3 tv t → t.ks.length ≤ 3 → K' tv w3) →
      vcall PP n_spec_l2Term #[.pointer (some ⟨b, 0, none⟩), dv, .int .i64 s, .int .i64 (deep - 1)] w2 K' := fun h2 hs0 hs4 hp2 hK' =>
    h2.sub (fun K' hk => hT h2.rd (fun x hx => Nat.lt_of_lt_of_le (hF x hx) h2.same.size) h2.dcl hD (fun x hx => Nat.lt_of_lt_of_le (hD1 x hx) h2.same.size) hok hs0 hs4 (by omega) (by omega) hp2 hk) hK'
  refine h1.pick (by omega) (by omega) fun w2 k h2 hs2 hk _ => ?_
  simp only [push_cast, e1]
  refine vif_dec (fun a => ?_) (fun a => ?_)
  · refine hsub h2 (by omega) (by omega) (by omega) fun w3 p3 t0v t0 h3 hs3 hp3 ht0 _ => ?_
    refine kids1 ht0 fun w4 sa he4 hz4 hks => ?_
    have h4 := h3.ext he4
    simp only [push_cast]
    exact h4.fin (p0 := p) (by omega) (TmR.of (t := .mk 25 0 0 _ [t0]) (h3.tms hks)) (Nat.le_of_ble_eq_true rfl) hK
  refine vif_dec (fun a1 => ?_) (fun a1 => ?_)
  · refine hsub h2 (by omega) (by omega) (by omega) fun w3 p3 t0v t0 h3 hs3 hp3 ht0 _ => ?_
    refine hsub h3 (by omega) (by omega) (by omega) fun w4 p4 t1v t1 h4 hs4 hp4 ht1 _ => ?_
    refine kids2 (h3.keep ht0 hs4) ht1 fun w5 sa he5 hz5 hks => ?_
    have h5 := h4.ext he5
    simp only [push_cast]
    exact h5.fin (p0 := p) (by omega) (TmR.of (t := .mk 26 0 0 _ [t0, t1]) (h4.tms hks)) (Nat.le_of_ble_eq_true rfl) hK
  refine vif_dec (fun a2 => ?_) (fun a2 => ?_)
  · refine hsub h2 (by omega) (by omega) (by omega) fun w3 p3 t0v t0 h3 hs3 hp3 ht0 _ => ?_
    refine hsub h3 (by omega) (by omega) (by omega) fun w4 p4 t1v t1 h4 hs4 hp4 ht1 _ => ?_
    refine kids2 (h3.keep ht0 hs4) ht1 fun w5 sa he5 hz5 hks => ?_
    have h5 := h4.ext he5
    simp only [push_cast]
    exact h5.fin (p0 := p) (by omega) (TmR.of (t := .mk 27 0 0 _ [t0, t1]) (h4.tms hks)) (Nat.le_of_ble_eq_true rfl) hK
  refine h2.pick (by omega) (by omega) fun w3 k3 h3 hs3 hk3 _ => ?_
  have hk3' := hk3 (by omega)
  simp only [push_cast]
  rw [wrap64 (x := 1 + (k3 : Int)) (by omega) (by omega)]
  refine vjoin_of (fun u w4 => ∃ s p4, u = [.int .i64 s] ∧ 0 ≤ s ∧ s ≤ 4 ∧ p4 ≤ p + 4 ∧ Dw F D w b w.heap.size v dv xs ds w4 p4) (fun C hC => ?_) ?_
  · have hlen := hok.1
    have hdc3 := h3.dcl
    simp (disch := (simp only [push_cast]; done)) only [push_cast, hdc3.len]
    refine vif_dec (fun c => ?_) (fun c => ?_)
    · refine h3.pick (by omega) (by omega) fun w4 k4 h4 hs4 hk4 _ => ?_
      have hdc4 := h4.dcl
      simp only [push_cast]
      refine vif_dec (fun e => ?_) (fun e => ?_)
      · try simp (disch := (simp only [push_cast]; done)) only [push_cast, hdc4.len]
        refine h4.pick (by omega) (by omega) fun w5 k5 h5 hs5 hk5 _ => ?_
        have hk5' := hk5 (by omega)
        have hdc5 := h5.dcl
        simp (disch := first | (simp only [push_cast]; done) | omega) only [push_cast, hdc5.iaddr]
        try simp (disch := first | (simp only [push_cast]; done) | omega) only [push_cast, hdc5.load1]
        have hwd : 1 ≤ (ds.getD k5 (M.nada, 0)).2 ∧ (ds.getD k5 (M.nada, 0)).2 ≤ 4 ∧ _ := hok.2 k5 (by omega)
        exact hC _ _ ⟨_, _, rfl, by omega, by omega, by omega, h5⟩
      · exact hC _ _ ⟨_, _, rfl, by omega, by omega, by omega, h4⟩
    · exact hC _ _ ⟨_, _, rfl, by omega, by omega, by omega, h3⟩
  · rintro u g w4 ⟨s, p4, rfl, hs0, hs4, hp4, h4⟩
    refine num_draw (ns := [15, 16, 17, 15]) h4 (by simp) (by decide) (by omega) fun w5 m h5 hs5 hm => ?_
    simp only [push_cast, e1]
    refine hsub h5 hs0 hs4 (by omega) fun w6 p6 t0v t0 h6 hs6 hp6 ht0 _ => ?_
    refine hsub h6 hs0 hs4 (by omega) fun w7 p7 t1v t1 h7 hs7 hp7 ht1 _ => ?_
    refine kids2 (h6.keep ht0 hs7) ht1 fun w8 sa he8 hz8 hks => ?_
    have h8 := h7.ext he8
    simp only [push_cast]
    exact h8.fin (p0 := p) (by omega) (TmR.of (t := .mk m 0 0 _ [t0, t1]) (h7.tms hks)) (Nat.le_of_ble_eq_true rfl) hK
end Go.Proofs.YtbiabimalkkeiaaGreatDoor
