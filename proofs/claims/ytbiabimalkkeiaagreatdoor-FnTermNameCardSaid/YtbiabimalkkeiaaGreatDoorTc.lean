/- Contracts of the kinds of terms: their sorts. -/
import Derived.Test.YtbiabimalkkeiaaGreatDoorTb
import Derived.Test.YtbiabimalkkeiaaGreatDoorLa
set_option linter.unusedVariables false
set_option linter.unusedSimpArgs false
set_option linter.unnecessarySimpa false
set_option linter.unusedSectionVars false
namespace Go.Proofs.YtbiabimalkkeiaaGreatDoor
open Go Go.Vc Go.Proofs
variable {w : World} {K : Value → World → Prop} {F G : Nat → Prop}

@[push_cast] theorem tn0 : (0 : Int).toNat = 0 := rfl
@[push_cast] theorem tn1 : (1 : Int).toNat = 1 := rfl
@[push_cast] theorem tn2 : (2 : Int).toNat = 2 := rfl

theorem any_range {α : Type} (xs : List α) (d : α) (p : α → Bool) : (List.range xs.length).any (fun i => p (xs.getD i d)) = xs.any p := by
  rw [Bool.eq_iff_iff, List.any_eq_true, List.any_eq_true]
  constructor
  · rintro ⟨i, hi, hp⟩
    exact ⟨_, M.getD_mem (List.mem_range.1 hi) d, hp⟩
  · rintro ⟨x, hx, hp⟩
    obtain ⟨i, hi, rfl⟩ := List.getElem_of_mem hx
    exact ⟨i, List.mem_range.2 hi, by rw [List.getD_eq_getElem?_getD, List.getElem?_eq_getElem hi]; exact hp⟩

abbrev DclV (d : M.Dcl) : Value := .agg ⟨[.string d.1, .int .i64 d.2]⟩
abbrev dcl0 : M.Dcl := (M.nada, 0)
theorem IndexFunc_Decl {v f : Value} {ds : List M.Dcl} {p : Nat → Bool} (hx : DclsR F w v ds) (hf : ∀ i, i < ds.length → FnB PP w f #[DclV (ds.getD i dcl0)] (p i))
    (hK : ∀ w', Ext w w' → K (.int .i64 (idxI ds.length p)) w') : vcall PP n_slices_IndexFunc_Limpl_Decl_impl_Decl #[v, f] w K := by
  apply c_slices_IndexFunc_Limpl_Decl_impl_Decl
  unfold F_slices_IndexFunc_Limpl_Decl_impl_Decl
  simp (disch := first | (simp only [push_cast]; done) | omega) only [push_cast, hx.len]
  have hlen := hx.small
  refine vloop_up ds.length (fun i u w' => u = [.int .i64 i] ∧ Ext w w' ∧ ∀ j, j < i → p j = false) ⟨rfl, Same.refl _ _, by omega⟩ ?_
  rintro i _ g w1 C hi ⟨rfl, he, hp⟩ hC
  simp only [push_cast]
  refine vif_dec (fun hlt => ?_) (fun hge => ?_)
  · have hx1 := hx.ext he
    simp (disch := first | (simp only [push_cast]; done) | omega) only [push_cast, hx1.iaddr, hx1.load]
    refine hf i (by omega) w1 _ he fun w2 he2 => vif_bool (fun hb => ?_) (fun hb => ?_)
    · have := hK w2 (he.trans he2)
      rwa [idxI_some (by omega) hb hp] at this
    · rw [inc64' (by omega)]
      exact hC (by omega) _ _ ⟨rfl, he.trans he2, fun j hj => by
        by_cases h : j = i
        · subst h; exact hb
        · exact hp j (by omega)⟩
  · have := hK w1 he
    rwa [idxI_none (fun j hj => hp j (by omega))] at this
theorem ContainsFunc_Decl {v f : Value} {ds : List M.Dcl} {p : Nat → Bool} (hx : DclsR F w v ds) (hf : ∀ i, i < ds.length → FnB PP w f #[DclV (ds.getD i dcl0)] (p i))
    (hK : ∀ w', Ext w w' → K (.bool ((List.range ds.length).any p)) w') : vcall PP n_slices_ContainsFunc_Limpl_Decl_impl_Decl #[v, f] w K := by
  apply c_slices_ContainsFunc_Limpl_Decl_impl_Decl
  unfold F_slices_ContainsFunc_Limpl_Decl_impl_Decl
  refine IndexFunc_Decl hx hf fun w' he => ?_
  simp only [push_cast, idxI_nonneg]
  exact hK w' he
theorem number_spec {b : Bool} (hK : K (.int .i64 (M.b2i b)) w) : vcall PP n_impl_number #[.bool b] w K := by
  apply c_impl_number; unfold F_impl_number
  refine vif_bool (fun h => ?_) (fun h => ?_) <;> subst h <;> exact hK
theorem sorted_spec {b : Bool} {s : Int} (hK : K (.int .i64 (if b = true then s else -1)) w) : vcall PP n_impl_sorted #[.bool b, .int .i64 s] w K := by
  apply c_impl_sorted; unfold F_impl_sorted
  refine vif_bool (fun h => ?_) (fun h => ?_) <;> subst h <;> exact hK
theorem sorted_dec {p : Prop} [Decidable p] {s : Int} (hK : K (.int .i64 (if p then s else -1)) w) : vcall PP n_impl_sorted #[.bool (decide p), .int .i64 s] w K :=
  sorted_spec (by simpa using hK)
theorem sorted_no {s : Int} (hK : K (.int .i64 (-1)) w) : vcall PP n_impl_sorted #[.bool false, .int .i64 s] w K := sorted_spec hK
theorem kids_spec {s : ByteArray} {n : Int} (hK : ∀ w', Ext w w' → K (.int .i64 n) w') : vcall PP n_impl_named_kids #[.agg ⟨[.string s, .int .i64 n]⟩] w K := by
  apply c_impl_named_kids; unfold F_impl_named_kids
  refine vbox_agg fun b1 w1 hb1 he1 hs1 h1 => ?_
  simp (disch := (simp only [push_cast]; done)) only [push_cast, h1.ld1]
  exact hK _ he1

/-- A kind's value. -/
abbrev KV (s : ByteArray) (n : Int) : Value := .agg ⟨[.string s, .int .i64 n]⟩
theorem unKind_sort_spec {s : ByteArray} {n : Int} {dv tv kv : Value} {t : M.Tm} {xs : List Int} (ht : TermR F w tv t) (hx : Ints G w kv xs) (hl : xs.length = 1)
    (hK : ∀ w', Ext w w' → K (.int .i64 (if 0 < xs.getD 0 0 then xs.getD 0 0 else -1)) w') : vcall PP n_impl_unKind_sort #[KV s n, dv, tv, kv] w K := by
  apply c_impl_unKind_sort; unfold F_impl_unKind_sort
  obtain ⟨ksv, rfl, hks⟩ := ht
  refine vbox_agg fun b1 w1 hb1 he1 hs1 h1 => ?_
  refine vbox_agg fun b2 w2 hb2 he2 hs2 h2 => ?_
  refine vdraw_ext fun w3 he3 _ => ?_
  have hx3 := hx.ext ((he1.trans he2).trans he3)
  simp (disch := first | (simp only [push_cast]; done) | omega) only [push_cast, hx3.iaddr, hx3.load, true_and]
  exact sorted_dec (hK _ ((he1.trans he2).trans he3))
theorem binKind_sort_spec {s : ByteArray} {n : Int} {dv tv kv : Value} {t : M.Tm} {xs : List Int} (ht : TermR F w tv t) (hx : Ints G w kv xs) (hl : xs.length = 2)
    (hK : ∀ w', Ext w w' → K (.int .i64 (if 0 < xs.getD 0 0 ∧ xs.getD 0 0 = xs.getD 1 0 then xs.getD 0 0 else -1)) w') : vcall PP n_impl_binKind_sort #[KV s n, dv, tv, kv] w K := by
  apply c_impl_binKind_sort; unfold F_impl_binKind_sort
  obtain ⟨ksv, rfl, hks⟩ := ht
  refine vbox_agg fun b1 w1 hb1 he1 hs1 h1 => ?_
  refine vbox_agg fun b2 w2 hb2 he2 hs2 h2 => ?_
  refine vdraw_ext fun w3 he3 _ => ?_
  have hx3 := hx.ext ((he1.trans he2).trans he3)
  have hk := hK _ ((he1.trans he2).trans he3)
  simp (disch := first | (simp only [push_cast]; done) | omega) only [push_cast, hx3.iaddr, hx3.load, true_and]
  refine vif_dec (fun a => ?_) (fun a => ?_)
  · refine sorted_dec ?_
    simpa only [a, true_and] using hk
  · refine sorted_no ?_
    simpa only [a, false_and, if_false] using hk
theorem cmpKind_sort_spec {s : ByteArray} {n : Int} {dv tv kv : Value} {t : M.Tm} {xs : List Int} (ht : TermR F w tv t) (hx : Ints G w kv xs) (hl : xs.length = 2)
    (hK : ∀ w', Ext w w' → K (.int .i64 (if 0 < xs.getD 0 0 ∧ xs.getD 0 0 = xs.getD 1 0 then 0 else -1)) w') : vcall PP n_impl_cmpKind_sort #[KV s n, dv, tv, kv] w K := by
  apply c_impl_cmpKind_sort; unfold F_impl_cmpKind_sort
  obtain ⟨ksv, rfl, hks⟩ := ht
  refine vbox_agg fun b1 w1 hb1 he1 hs1 h1 => ?_
  refine vbox_agg fun b2 w2 hb2 he2 hs2 h2 => ?_
  refine vdraw_ext fun w3 he3 _ => ?_
  have hx3 := hx.ext ((he1.trans he2).trans he3)
  have hk := hK _ ((he1.trans he2).trans he3)
  simp (disch := first | (simp only [push_cast]; done) | omega) only [push_cast, hx3.iaddr, hx3.load, true_and]
  refine vif_dec (fun a => ?_) (fun a => ?_)
  · refine sorted_dec ?_
    simpa only [a, true_and] using hk
  · refine sorted_no ?_
    simpa only [a, false_and, if_false] using hk
theorem catKind_sort_spec {s : ByteArray} {n : Int} {dv tv kv : Value} {t : M.Tm} {xs : List Int} (ht : TermR F w tv t) (hx : Ints G w kv xs) (hl : xs.length = 2) (hr : ∀ i, -1 ≤ xs.getD i 0 ∧ xs.getD i 0 ≤ 4)
    (hK : ∀ w', Ext w w' → K (.int .i64 (if 0 < xs.getD 0 0 ∧ 0 < xs.getD 1 0 ∧ xs.getD 0 0 + xs.getD 1 0 ≤ 4 then xs.getD 0 0 + xs.getD 1 0 else -1)) w') : vcall PP n_impl_catKind_sort #[KV s n, dv, tv, kv] w K := by
  apply c_impl_catKind_sort; unfold F_impl_catKind_sort
  obtain ⟨ksv, rfl, hks⟩ := ht
  refine vbox_agg fun b1 w1 hb1 he1 hs1 h1 => ?_
  refine vbox_agg fun b2 w2 hb2 he2 hs2 h2 => ?_
  refine vdraw_ext fun w3 he3 _ => ?_
  have hx3 := hx.ext ((he1.trans he2).trans he3)
  have hk := hK _ ((he1.trans he2).trans he3)
  have r0 := hr 0
  have r1 := hr 1
  have e1 : IntKind.i64.wrap (xs.getD 0 0 + xs.getD 1 0) = xs.getD 0 0 + xs.getD 1 0 := wrap64 (by omega) (by omega)
  simp (disch := first | (simp only [push_cast]; done) | omega) only [push_cast, hx3.iaddr, hx3.load, true_and, e1]
  refine vif_dec (fun a => ?_) (fun a => ?_)
  · refine vif_dec (fun b => ?_) (fun b => ?_)
    · refine sorted_dec ?_
      simpa only [a, b, true_and] using hk
    · refine sorted_no ?_
      simpa only [b, false_and, and_false, if_false] using hk
  · refine sorted_no ?_
    simpa only [a, false_and, if_false] using hk
theorem ifKind_sort_spec {s : ByteArray} {n : Int} {dv tv kv : Value} {t : M.Tm} {xs : List Int} (ht : TermR F w tv t) (hx : Ints G w kv xs) (hl : xs.length = 3)
    (hK : ∀ w', Ext w w' → K (.int .i64 (if xs.getD 0 0 = 0 ∧ xs.getD 1 0 = xs.getD 2 0 then xs.getD 1 0 else -1)) w') : vcall PP n_impl_ifKind_sort #[KV s n, dv, tv, kv] w K := by
  apply c_impl_ifKind_sort; unfold F_impl_ifKind_sort
  obtain ⟨ksv, rfl, hks⟩ := ht
  refine vbox_agg fun b1 w1 hb1 he1 hs1 h1 => ?_
  refine vbox_agg fun b2 w2 hb2 he2 hs2 h2 => ?_
  refine vdraw_ext fun w3 he3 _ => ?_
  have hx3 := hx.ext ((he1.trans he2).trans he3)
  have hk := hK _ ((he1.trans he2).trans he3)
  simp (disch := first | (simp only [push_cast]; done) | omega) only [push_cast, hx3.iaddr, hx3.load, true_and]
  refine vif_dec (fun a => ?_) (fun a => ?_)
  · refine sorted_dec ?_
    simpa only [a, true_and] using hk
  · refine sorted_no ?_
    simpa only [a, false_and, if_false] using hk
theorem vecKind_sort_spec {s : ByteArray} {n : Int} {dv tv kv : Value} {t : M.Tm} (ht : TermR F w tv t)
    (hK : ∀ w', Ext w w' → K (.int .i64 (if M.vok t.a t.b = true then t.a else -1)) w') : vcall PP n_impl_vecKind_sort #[KV s n, dv, tv, kv] w K := by
  apply c_impl_vecKind_sort; unfold F_impl_vecKind_sort
  obtain ⟨ksv, rfl, hks⟩ := ht
  refine vbox_agg fun b1 w1 hb1 he1 hs1 h1 => ?_
  refine vbox_agg fun b2 w2 hb2 he2 hs2 h2 => ?_
  refine vdraw_ext fun w3 he3 _ => ?_
  have h3 := h2.ext he3
  simp (disch := first | (simp only [push_cast]; done) | omega) only [push_cast, h3.ld1, h3.ld2, true_and]
  refine VecOk_spec fun w4 he4 => ?_
  have h4 := h3.ext he4
  simp (disch := first | (simp only [push_cast]; done) | omega) only [push_cast, h4.ld1, true_and, and_self]
  exact sorted_spec (hK _ (((he1.trans he2).trans he3).trans he4))
theorem cutKind_sort_spec {s : ByteArray} {n : Int} {dv tv kv : Value} {t : M.Tm} {xs : List Int} (ht : TermR F w tv t) (hx : Ints G w kv xs) (hl : xs.length = 1) (hr : ∀ i, -1 ≤ xs.getD i 0 ∧ xs.getD i 0 ≤ 4)
    (hK : ∀ w', Ext w w' → K (.int .i64 (if 0 ≤ t.b ∧ t.b ≤ t.a ∧ t.a < xs.getD 0 0 then t.a - t.b + 1 else -1)) w') : vcall PP n_impl_cutKind_sort #[KV s n, dv, tv, kv] w K := by
  apply c_impl_cutKind_sort; unfold F_impl_cutKind_sort
  obtain ⟨ksv, rfl, hks⟩ := ht
  refine vbox_agg fun b1 w1 hb1 he1 hs1 h1 => ?_
  refine vbox_agg fun b2 w2 hb2 he2 hs2 h2 => ?_
  refine vdraw_ext fun w3 he3 _ => ?_
  have hx3 := hx.ext ((he1.trans he2).trans he3)
  have h3 := h2.ext he3
  have hk := hK _ ((he1.trans he2).trans he3)
  have r0 := hr 0
  simp (disch := first | (simp only [push_cast]; done) | omega) only [push_cast, h3.ld1, h3.ld2, hx3.iaddr, hx3.load, true_and]
  refine vif_dec (fun a => ?_) (fun a => ?_)
  · refine vif_dec (fun b => ?_) (fun b => ?_)
    · by_cases c : t.a < xs.getD 0 0
      · have e1 : IntKind.i64.wrap (IntKind.i64.wrap (t.a - t.b) + 1) = t.a - t.b + 1 := by rw [wrap64 (x := t.a - t.b) (by omega) (by omega), wrap64 (by omega) (by omega)]
        rw [e1]
        refine sorted_dec ?_
        simpa only [a, b, c, true_and] using hk
      · refine sorted_dec ?_
        simpa only [c, and_false, if_false] using hk
    · refine sorted_no ?_
      simpa only [b, false_and, and_false, if_false] using hk
  · refine sorted_no ?_
    simpa only [a, false_and, if_false] using hk
theorem boolKind_sort_spec {s : ByteArray} {n : Int} {f dv tv kv : Value} {t : M.Tm} {xs : List Int} (ht : TermR F w tv t) (hx : Ints G w kv xs)
    (hK : ∀ w', Ext w w' → K (.int .i64 (if xs.any (fun x => decide (x ≠ 0)) then -1 else 0)) w') : vcall PP n_impl_boolKind_sort #[.agg ⟨[.string s, .int .i64 n, f]⟩, dv, tv, kv] w K := by
  apply c_impl_boolKind_sort; unfold F_impl_boolKind_sort
  obtain ⟨ksv, rfl, hks⟩ := ht
  refine vbox_agg fun b1 w1 hb1 he1 hs1 h1 => ?_
  refine vbox_agg fun b2 w2 hb2 he2 hs2 h2 => ?_
  have hx3 := hx.ext (he1.trans he2)
  refine ContainsFunc_Lint_int (p := fun i => decide (xs.getD i 0 ≠ 0)) hx3 (fun i hi => ?_) fun w3 he3 => ?_
  · rw [ints_getD (by simpa using hi)]
    intro w' K he hK
    simp only [push_cast]
    apply c_impl_boolKind_sort_1; unfold F_impl_boolKind_sort_1
    simp only [push_cast]
    have := hK _ (Same.refl _ _)
    simpa using this
  · have hk := hK _ ((he1.trans he2).trans he3)
    rw [List.length_map, any_range xs 0 (fun x => decide (x ≠ 0))]
    simp only [push_cast]
    refine sorted_spec ?_
    cases hb : xs.any fun x => decide (x ≠ 0) <;> rw [hb] at hk <;> exact hk
theorem nameKind_sort_spec {s : ByteArray} {n : Int} {dv tv kv : Value} {t : M.Tm} {ds : List M.Dcl} (ht : TermR F w tv t) (hd : DclsR G w dv ds)
    (hK : ∀ w', Ext w w' → K (.int .i64 (if M.findD ds t.s < 0 then -1 else (ds.getD (M.findD ds t.s).toNat dcl0).2)) w') : vcall PP n_impl_nameKind_sort #[KV s n, dv, tv, kv] w K := by
  apply c_impl_nameKind_sort; unfold F_impl_nameKind_sort
  obtain ⟨ksv, rfl, hks⟩ := ht
  refine vbox_agg fun b1 w1 hb1 he1 hs1 h1 => ?_
  refine vbox_agg fun b2 w2 hb2 he2 hs2 h2 => ?_
  simp only [push_cast]
  have hd2 := hd.ext (he1.trans he2)
  refine IndexFunc_Decl (p := fun i => decide ((ds.getD i dcl0).1 = t.s)) hd2 (fun i hi => ?_) fun w3 he3 => ?_
  · intro w' K he hK
    simp only [push_cast]
    apply c_impl_nameKind_sort_1; unfold F_impl_nameKind_sort_1
    refine vbox_agg fun b3 w4 hb3 he4 hs4 h4 => ?_
    have h5 := (h2.ext he).ext he4
    simp (disch := first | (simp only [push_cast]; done) | omega) only [push_cast, h4.ld0, h5.ld3]
    exact hK _ he4
  · have hfd := M.findD_lt ds t.s
    have hk := hK _ ((he1.trans he2).trans he3)
    have hd3 := hd2.ext he3
    have efd : idxI ds.length (fun i => decide ((ds.getD i dcl0).1 = t.s)) = M.findD ds t.s := rfl
    rw [efd]
    simp only [push_cast]
    refine vif_dec (fun a => ?_) (fun a => ?_)
    · rwa [if_pos a] at hk
    · rw [if_neg a] at hk
      simp (disch := first | (simp only [push_cast]; done) | omega) only [push_cast, hd3.iaddr]
      simp (disch := first | (simp only [push_cast]; done) | omega) only [push_cast, hd3.load1]
      exact hk
end Go.Proofs.YtbiabimalkkeiaaGreatDoor
