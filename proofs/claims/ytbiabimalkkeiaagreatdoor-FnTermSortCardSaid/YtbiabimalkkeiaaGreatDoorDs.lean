/- Contracts of the reference's drawing: terms, spoilt names, bent terms, numbers for names. -/
import Derived.Test.YtbiabimalkkeiaaGreatDoorDr
set_option linter.unusedVariables false
set_option linter.unusedSimpArgs false
set_option linter.unnecessarySimpa false
set_option linter.unusedSectionVars false
namespace Go.Proofs.YtbiabimalkkeiaaGreatDoor
open Go Go.Vc Go.Proofs
variable {w : World} {K : Value → World → Prop} {F F' D G : Nat → Prop}
theorem l2Term_step {d : Nat} (hd9 : d ≤ 9) (hT : ∀ e, e < d → TermDraws e) : TermDraws d := by
  intro w K F D b p v dv xs ds sort deep h hF hd hD hD1 hok hs0 hs4 hdl hdh hp hK
  apply c_spec_l2Term; unfold F_spec_l2Term
  refine Dw.begin h hF hd hD hD1 fun w1 h1 => ?_
  have hc100 := cost_ge d
  have hleaf : ∀ {w2 : World} {p2 : Nat}, Dw F D w b w.heap.size v dv xs ds w2 p2 → p2 ≤ p + 1 → cost d = 100 ∨ 0 < d → p2 + 100 ≤ p + cost d ∨ d = 0 → (d = 0 → p2 = p) →
      vcall PP n_spec_l2Leafy #[.pointer (some ⟨b, 0, none⟩), dv, .int .i64 sort] w2 fun t27 w_4 => vstore PP T_impl_Term (.pointer (some ⟨w.heap.size, 0, none⟩)) t27 w_4 fun _ w_5 => vlv PP T_impl_Term (.pointer (some ⟨w.heap.size, 0, none⟩)) w_5 fun r8 w_6 => K r8 w_6 := by
    intro w2 p2 h2 hp2 _ hc hz
    refine h2.sub (c := 100) (fun K' hk => l2Leafy_spec h2.rd (fun x hx => Nat.lt_of_lt_of_le (hF x hx) h2.same.size) h2.dcl hD hok hs0 hs4 (by rcases hc with hc | hc <;> omega) hk) fun w3 p3 tv t h3 hs3 hp3 ht hk3 => ?_
    obtain ⟨cs, rfl, hcs⟩ := ht.cells
    refine h3.fin (p0 := p) (c := cost d) ?_ hcs hk3 hK
    rcases hc with hc | hc
    · omega
    · have := hz hc; omega
  refine vjoin_of (fun u w' => ∃ p', u = [] ∧ Dw F D w b w.heap.size v dv xs ds w' p' ∧ p' ≤ p + 1 ∧ 1 ≤ deep) (fun C hC => ?_) ?_
  · simp only [push_cast]
    refine vif_dec (fun a => ?_) (fun a => ?_)
    · refine hleaf h1 (by omega) (by by_cases h0 : d = 0
                                     · subst h0; left; rfl
                                     · right; omega) ?_ (fun _ => rfl)
      by_cases h0 : d = 0
      · exact .inr h0
      · left; omega
    · have hdpos : 1 ≤ d := by omega
      have hc4 : cost d = 4 * cost (d - 1) := by
        obtain ⟨e, rfl⟩ : ∃ e, d = e + 1 := ⟨d - 1, by omega⟩
        exact cost_succ e
      have hc99 := cost_ge (d - 1)
      refine vif_dec (fun c => ?_) (fun c => ?_)
      · refine h1.pick (by omega) (by omega) fun w2 k h2 hs2 hk _ => ?_
        simp only [push_cast]
        refine vif_dec (fun e => ?_) (fun e => ?_)
        · exact hleaf h2 (by omega) (.inr (by omega)) (.inl (by omega)) (by omega)
        · exact hC _ _ ⟨p + 1, rfl, h2, by omega, by omega⟩
      · exact hC _ _ ⟨p, rfl, h1, by omega, by omega⟩
  rintro u g w2 ⟨p2, rfl, h2, hp2, hd1⟩
  have hdpos : 1 ≤ d := by omega
  obtain ⟨d', hd'⟩ : ∃ d', d = d' + 1 := ⟨d - 1, by omega⟩
  have hc4 : cost d = 4 * cost d' := by rw [hd', cost_succ]
  have hc99 := cost_ge d'
  have e1 : IntKind.i64.wrap (deep - 1) = deep - 1 := wrap64 (by omega) (by omega)
  have hsub : ∀ {w2 : World} {p2 : Nat} {s : Int} {K' : Value → World → Prop}, Dw F D w b w.heap.size v dv xs ds w2 p2 → 0 ≤ s → s ≤ 4 → p2 + cost d' < 1099511627776 → (∀ w3 p3 tv t, Dw F D w b w.heap.size v dv xs ds w3 p3 → Same (· = b) w2 w3 → p3 ≤ p2 + cost d' → TermR (Nw w.heap.size) w3 tv t → t.ks.length ≤ 3 → K' tv w3) →
      vcall PP n_spec_l2Term #[.pointer (some ⟨b, 0, none⟩), dv, .int .i64 s, .int .i64 (deep - 1)] w2 K' := fun h2 hs0 hs4 hp2 hK' =>
    h2.sub (fun K' hk => hT d' (by omega) h2.rd (fun x hx => Nat.lt_of_lt_of_le (hF x hx) h2.same.size) h2.dcl hD (fun x hx => Nat.lt_of_lt_of_le (hD1 x hx) h2.same.size) hok hs0 hs4 (by omega) (by omega) hp2 hk) hK'
  refine h2.pick (by omega) (by omega) fun w3 k h3 hs3 hk _ => ?_
  have hk' := hk (by omega)
  simp only [push_cast, e1]
  refine vif_dec (fun a => ?_) (fun a => ?_)
  · refine hsub h3 (by omega) (by omega) (by omega) fun w4 p4 t0v t0 h4 hs4' hp4 ht0 _ => ?_
    refine hsub h4 hs0 hs4 (by omega) fun w5 p5 t1v t1 h5 hs5 hp5 ht1 _ => ?_
    refine hsub h5 hs0 hs4 (by omega) fun w6 p6 t2v t2 h6 hs6 hp6 ht2 _ => ?_
    refine kids3 (h5.keep (h4.keep ht0 hs5) hs6) (h5.keep ht1 hs6) ht2 fun w7 sa he7 hz7 hks => ?_
    have h7 := h6.ext he7
    simp only [push_cast]
    exact h7.fin (p0 := p) (by omega) (TmR.of (t := .mk 23 0 0 _ [t0, t1, t2]) (h6.tms hks)) (Nat.le_of_ble_eq_true rfl) hK
  refine vif_dec (fun a0 => ?_) (fun a0 => ?_)
  · refine h3.sub (c := 2 * cost d' + 10) (fun K' hk => l2Asks_spec (hT d' (by omega)) h3.rd (fun x hx => Nat.lt_of_lt_of_le (hF x hx) h3.same.size) h3.dcl hD (fun x hx => Nat.lt_of_lt_of_le (hD1 x hx) h3.same.size) hok hd1 (by omega) (by omega) (by omega) hk) fun w4 p4 tv t h4 hs4' hp4 ht hk3 => ?_
    obtain ⟨cs, rfl, hcs⟩ := ht.cells
    exact h4.fin (p0 := p) (by omega) hcs hk3 hK
  refine vif_dec (fun a1 => ?_) (fun a1 => ?_)
  · rw [wrap64 (x := 5 - sort) (by omega) (by omega)]
    refine h3.pick (by omega) (by omega) fun w4 k4 h4 hs4' hk4 hk4' => ?_
    have hw4 : sort + (k4 : Int) ≤ 4 := by
      by_cases hn : 1 ≤ 5 - sort
      · have := hk4 hn; omega
      · have := hk4' (by omega); omega
    simp only [push_cast]
    rw [wrap64 (x := sort + (k4 : Int)) (by omega) (by omega), wrap64 (x := sort + (k4 : Int) - sort) (by omega) (by omega), wrap64 (x := sort + (k4 : Int) - sort + 1) (by omega) (by omega)]
    refine h4.pick (by omega) (by omega) fun w5 k5 h5 hs5 hk5 _ => ?_
    have hk5' := hk5 (by omega)
    simp only [push_cast]
    refine hsub h5 (by omega) hw4 (by omega) fun w6 p6 t0v t0 h6 hs6 hp6 ht0 _ => ?_
    refine kids1 ht0 fun w7 sa he7 hz7 hks => ?_
    have h7 := h6.ext he7
    simp only [push_cast]
    exact h7.fin (p0 := p) (by omega) (TmR.of (t := .mk 22 _ _ _ [t0]) (h6.tms hks)) (Nat.le_of_ble_eq_true rfl) hK
  refine vjoin_of (fun u w' => u = [] ∧ w' = w3) (fun C hC => ?_) ?_
  · refine vjoin_of (fun u w' => u = [.bool (decide (k = 2 ∧ 1 < sort))] ∧ w' = w3) (fun C' hC' => ?_) ?_
    · try simp only [push_cast]
      refine vif_dec (fun c => ?_) (fun c => ?_)
      · refine hC' _ _ ⟨?_, rfl⟩
        have c' : k = 2 := by omega
        simp only [c', true_and]
      · exact hC' _ _ ⟨by rw [decide_eq_false (by omega)], rfl⟩
    rintro u g w4 ⟨rfl, rfl⟩
    simp only [push_cast]
    refine vif_dec (fun c => ?_) (fun c => ?_)
    · rw [wrap64 (x := sort - 1) (by omega) (by omega)]
      refine h3.pick (by omega) (by omega) fun w5 k5 h5 hs5 hk5 _ => ?_
      have hk5' := hk5 (by omega)
      try simp only [push_cast]
      rw [wrap64 (x := 1 + (k5 : Int)) (by omega) (by omega)]
      refine hsub h5 (by omega) (by omega) (by omega) fun w6 p6 t0v t0 h6 hs6 hp6 ht0 _ => ?_
      try simp only [push_cast]
      rw [wrap64 (x := sort - (1 + (k5 : Int))) (by omega) (by omega)]
      refine hsub h6 (by omega) (by omega) (by omega) fun w7 p7 t1v t1 h7 hs7 hp7 ht1 _ => ?_
      refine kids2 (h6.keep ht0 hs7) ht1 fun w8 sa he8 hz8 hks => ?_
      have h8 := h7.ext he8
      simp only [push_cast]
      exact h8.fin (p0 := p) (by omega) (TmR.of (t := .mk 14 0 0 _ [t0, t1]) (h7.tms hks)) (Nat.le_of_ble_eq_true rfl) hK
    · exact hC _ _ ⟨rfl, rfl⟩
  rintro u g w4 ⟨rfl, rfl⟩
  try simp only [push_cast]
  refine vif_dec (fun c => ?_) (fun c => ?_)
  · refine h3.pick (by omega) (by omega) fun w5 k5 h5 hs5 hk5 _ => ?_
    have hk5' := hk5 (by omega)
    try simp only [push_cast]
    rw [wrap64 (x := 1 + (k5 : Int)) (by omega) (by omega)]
    refine hsub h5 hs0 hs4 (by omega) fun w6 p6 t0v t0 h6 hs6 hp6 ht0 _ => ?_
    refine kids1 ht0 fun w7 sa he7 hz7 hks => ?_
    have h7 := h6.ext he7
    simp only [push_cast]
    exact h7.fin (p0 := p) (by omega) (TmR.of (t := .mk _ 0 0 _ [t0]) (h6.tms hks)) (Nat.le_of_ble_eq_true rfl) hK
  · refine h3.pick (by omega) (by omega) fun w5 k5 h5 hs5 hk5 _ => ?_
    have hk5' := hk5 (by omega)
    try simp only [push_cast]
    rw [wrap64 (x := 3 + (k5 : Int)) (by omega) (by omega)]
    refine hsub h5 hs0 hs4 (by omega) fun w6 p6 t0v t0 h6 hs6 hp6 ht0 _ => ?_
    refine hsub h6 hs0 hs4 (by omega) fun w7 p7 t1v t1 h7 hs7 hp7 ht1 _ => ?_
    refine kids2 (h6.keep ht0 hs7) ht1 fun w8 sa he8 hz8 hks => ?_
    have h8 := h7.ext he8
    simp only [push_cast]
    exact h8.fin (p0 := p) (by omega) (TmR.of (t := .mk _ 0 0 _ [t0, t1]) (h7.tms hks)) (Nat.le_of_ble_eq_true rfl) hK
theorem l2Term_spec : ∀ d, d ≤ 9 → TermDraws d := by
  intro d
  induction d using Nat.strongRecOn with
  | _ d ih => intro hd; exact l2Term_step hd fun e he => ih e he (by omega)
theorem dok_sized {ds : List M.Dcl} (h : Dok ds) : Sized ds := fun i hi => by have := (h.2 i hi).2.2; omega
theorem l2Some_spec {b p : Nat} {v dv : Value} {xs : List Nat} {ds : List M.Dcl} {sort : Int} (h : RdR F w b v xs p) (hF : ∀ x, F x → x < w.heap.size) (hd : DclsR D w dv ds) (hD : ∀ x, D x → x ≠ b) (hD1 : ∀ x, D x → x < w.heap.size) (hok : Dok ds) (hs0 : 0 ≤ sort) (hs4 : sort ≤ 4)
    (hp : p + 200000 < 1099511627776) (hK : DrawT K F w b p 200000 v xs) : vcall PP n_spec_l2Some #[.pointer (some ⟨b, 0, none⟩), dv, .int .i64 sort] w K := by
  apply c_spec_l2Some; unfold F_spec_l2Some
  refine Dw.begin h hF hd hD hD1 fun w1 h1 => ?_
  have hcost : cost 4 = 25600 := rfl
  refine vloop_up 4 (fun i u w' => ∃ p', u = [.int .i64 (4 - (i : Int))] ∧ Dw F D w b w.heap.size v dv xs ds w' p' ∧ p' ≤ p + 25600 * i) ⟨p, rfl, h1, by omega⟩ ?_
  rintro i _ _ w2 C hi ⟨p2, rfl, h2, hp2⟩ hC
  have hold := h2.old
  have hnew := h2.new
  simp only [push_cast]
  refine vif_dec (fun a => ?_) (fun a => ?_)
  · refine h2.sub (c := cost 4) (fun K' hk => l2Term_spec 4 (by omega) h2.rd (fun x hx => Nat.lt_of_lt_of_le (hF x hx) h2.same.size) h2.dcl hD (fun x hx => Nat.lt_of_lt_of_le (hD1 x hx) h2.same.size) hok hs0 hs4 (by omega) (by omega) (by omega) hk) fun w3 p3 tv t h3 hs3 hp3 ht hk3 => ?_
    obtain ⟨cs, rfl, hcs⟩ := ht.cells
    have hcs3 := hcs.weaken (F' := fun x => Nw w.heap.size x ∧ x < w3.heap.size) fun x hx hl => ⟨hx, hl⟩
    refine valloc_agg zr_impl_Term fun b2 w4 hb2 he4 hs4' h4 => ?_
    refine stTerm h4 rfl (hcs3.ext he4) fun w5 hw5 _ h5 => ?_
    have he5 : Ext w3 w5 := Ext.then he4 hw5 fun y hy => by subst hy; omega
    have hg : aggB PP T_impl_Term cs.length = true := by rw [tmR_len hcs]; exact g_impl_Term
    rw [h5.ldAgg (t := T_impl_Term) hg]
    have h5' := h3.ext he5
    refine spec_TermSort_spec (dok_sized hok) h5'.dcl (hcs.ext he5).term fun w6 he6 => ?_
    have h6' := h5'.ext he6
    simp only [push_cast]
    refine vif_dec (fun c => ?_) (fun c => ?_)
    · rw [(h5.ext he6).ldAgg (t := T_impl_Term) hg]
      exact h6'.fin (p0 := p) (by omega) ((hcs.ext he5).ext he6) hk3 hK
    · rw [wrap64 (by omega) (by omega), show 4 - (i : Int) - 1 = 4 - ((i + 1 : Nat) : Int) by omega]
      exact hC (by omega) _ _ ⟨p3, rfl, h6', by omega⟩
  · refine h2.sub (c := 100) (fun K' hk => l2Leafy_spec h2.rd (fun x hx => Nat.lt_of_lt_of_le (hF x hx) h2.same.size) h2.dcl hD hok hs0 hs4 (by omega) hk) fun w3 p3 tv t h3 hs3 hp3 ht hk3 => ?_
    obtain ⟨cs, rfl, hcs⟩ := ht.cells
    exact h3.fin (p0 := p) (by omega) hcs hk3 hK
end Go.Proofs.YtbiabimalkkeiaaGreatDoor
