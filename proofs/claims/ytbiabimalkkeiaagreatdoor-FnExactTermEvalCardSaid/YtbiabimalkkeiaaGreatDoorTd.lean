/- Contracts of the kinds of terms: their values; the table of kinds. -/
import Derived.Test.YtbiabimalkkeiaaGreatDoorTc
set_option linter.unusedVariables false
set_option linter.unusedSimpArgs false
set_option linter.unnecessarySimpa false
set_option linter.unusedSectionVars false
namespace Go.Proofs.YtbiabimalkkeiaaGreatDoor
open Go Go.Vc Go.Proofs
variable {w : World} {K : Value → World → Prop} {F G : Nat → Prop}

theorem unKind_value_spec {s : ByteArray} {n : Int} {ev tv kv : Value} {t : M.Tm} {xs : List (Int × Int)} (ht : TermR F w tv t) (hx : PairsR G w kv xs) (hl : xs.length = 1)
    (hK : ∀ w', Ext w w' → K (.int .i64 (M.vecUn t.op (xs.getD 0 (0, 0)).1 (xs.getD 0 (0, 0)).2).1.2) w') : vcall PP n_impl_unKind_value #[KV s n, ev, tv, kv] w K := by
  apply c_impl_unKind_value; unfold F_impl_unKind_value
  obtain ⟨ksv, rfl, hks⟩ := ht
  refine vbox_agg fun b1 w1 hb1 he1 hs1 h1 => ?_
  refine vbox_agg fun b2 w2 hb2 he2 hs2 h2 => ?_
  have hE := he1.trans he2
  have hz := hE.size
  refine vjoin_of (fun u w' => ∃ b wd, u = [.pointer (some ⟨b, 0, none⟩)] ∧ Ext w w' ∧ Blk w' b [.int .i64 wd, .int .i64 (M.vecUn t.op (xs.getD 0 (0, 0)).1 (xs.getD 0 (0, 0)).2).1.2] T_impl_Vec) (fun C hC => ?_) ?_
  · refine vdraw_ext fun w3 he3 _ => ?_
    have hE3 := hE.trans he3
    have hx3 := hx.ext hE3
    have h3 := h2.ext he3
    have hz3 := hE3.size
    simp (disch := first | (simp only [push_cast]; done) | omega) only [push_cast, h3.ld0, hx3.iaddr, hx3.load, true_and, and_true]
    refine ⟨?_, ?_⟩
    · refine VecUn_spec fun w4 he4 => ?_
      have hz4 := he4.size
      simp only [push_cast, true_and]
      refine valloc_agg zr_impl_Vec fun b5 w5 hb5 he5 hs5 h5 => ?_
      try simp only [push_cast, true_and, and_self]
      refine stVec h5 fun w6 hw6 _ h6 => ?_
      try simp only [push_cast, true_and, and_self]
      exact hC _ _ ⟨_, _, rfl, Ext.then ((hE3.trans he4).trans he5) hw6 fun y hy => by subst hy; omega, h6⟩
    · refine valloc_agg zr_impl_Vec fun b5 w5 hb5 he5 hs5 h5 => ?_
      have h4 := h3.ext he5
      have hx4 := hx3.ext he5
      simp (disch := first | (simp only [push_cast]; done) | omega) only [push_cast, h4.ld0, hx4.iaddr, hx4.load, true_and, and_self, and_true]
      refine VecUn_spec fun w6 he6 => ?_
      simp only [push_cast, true_and]
      refine stVec (h5.ext he6) fun w7 hw7 _ h7 => ?_
      try simp only [push_cast, true_and, and_self]
      exact hC _ _ ⟨_, _, rfl, Ext.then ((hE3.trans he5).trans he6) hw7 fun y hy => by subst hy; omega, h7⟩
  · rintro u g w3 ⟨b, wd, rfl, he3, h3⟩
    simp (disch := (simp only [push_cast]; done)) only [push_cast, h3.ld1]
    exact hK _ he3
theorem binKind_value_spec {s : ByteArray} {n : Int} {ev tv kv : Value} {t : M.Tm} {xs : List (Int × Int)} (ht : TermR F w tv t) (hx : PairsR G w kv xs) (hl : xs.length = 2)
    (hK : ∀ w', Ext w w' → K (.int .i64 (M.vecBin t.op (xs.getD 0 (0, 0)).1 (xs.getD 0 (0, 0)).2 (xs.getD 1 (0, 0)).1 (xs.getD 1 (0, 0)).2).1.2) w') : vcall PP n_impl_binKind_value #[KV s n, ev, tv, kv] w K := by
  apply c_impl_binKind_value; unfold F_impl_binKind_value
  obtain ⟨ksv, rfl, hks⟩ := ht
  refine vbox_agg fun b1 w1 hb1 he1 hs1 h1 => ?_
  refine vbox_agg fun b2 w2 hb2 he2 hs2 h2 => ?_
  have hE := he1.trans he2
  have hz := hE.size
  refine vjoin_of (fun u w' => ∃ b wd, u = [.pointer (some ⟨b, 0, none⟩)] ∧ Ext w w' ∧ Blk w' b [.int .i64 wd, .int .i64 (M.vecBin t.op (xs.getD 0 (0, 0)).1 (xs.getD 0 (0, 0)).2 (xs.getD 1 (0, 0)).1 (xs.getD 1 (0, 0)).2).1.2] T_impl_Vec) (fun C hC => ?_) ?_
  · refine vdraw_ext fun w3 he3 _ => ?_
    have hE3 := hE.trans he3
    have hx3 := hx.ext hE3
    have h3 := h2.ext he3
    have hz3 := hE3.size
    simp (disch := first | (simp only [push_cast]; done) | omega) only [push_cast, h3.ld0, hx3.iaddr, hx3.load, true_and, and_true]
    refine ⟨?_, ?_⟩
    · refine VecBin_spec fun w4 he4 => ?_
      have hz4 := he4.size
      simp only [push_cast, true_and]
      refine valloc_agg zr_impl_Vec fun b5 w5 hb5 he5 hs5 h5 => ?_
      try simp only [push_cast, true_and, and_self]
      refine stVec h5 fun w6 hw6 _ h6 => ?_
      try simp only [push_cast, true_and, and_self]
      exact hC _ _ ⟨_, _, rfl, Ext.then ((hE3.trans he4).trans he5) hw6 fun y hy => by subst hy; omega, h6⟩
    · refine valloc_agg zr_impl_Vec fun b5 w5 hb5 he5 hs5 h5 => ?_
      have h4 := h3.ext he5
      have hx4 := hx3.ext he5
      simp (disch := first | (simp only [push_cast]; done) | omega) only [push_cast, h4.ld0, hx4.iaddr, hx4.load, true_and, and_self, and_true]
      refine VecBin_spec fun w6 he6 => ?_
      simp only [push_cast, true_and]
      refine stVec (h5.ext he6) fun w7 hw7 _ h7 => ?_
      try simp only [push_cast, true_and, and_self]
      exact hC _ _ ⟨_, _, rfl, Ext.then ((hE3.trans he5).trans he6) hw7 fun y hy => by subst hy; omega, h7⟩
  · rintro u g w3 ⟨b, wd, rfl, he3, h3⟩
    simp (disch := (simp only [push_cast]; done)) only [push_cast, h3.ld1]
    exact hK _ he3
theorem catKind_value_spec {s : ByteArray} {n : Int} {ev tv kv : Value} {t : M.Tm} {xs : List (Int × Int)} (ht : TermR F w tv t) (hx : PairsR G w kv xs) (hl : xs.length = 2)
    (hK : ∀ w', Ext w w' → K (.int .i64 (M.vecBin t.op (xs.getD 0 (0, 0)).1 (xs.getD 0 (0, 0)).2 (xs.getD 1 (0, 0)).1 (xs.getD 1 (0, 0)).2).1.2) w') : vcall PP n_impl_catKind_value #[KV s n, ev, tv, kv] w K := by
  apply c_impl_catKind_value; unfold F_impl_catKind_value
  obtain ⟨ksv, rfl, hks⟩ := ht
  refine vbox_agg fun b1 w1 hb1 he1 hs1 h1 => ?_
  refine vbox_agg fun b2 w2 hb2 he2 hs2 h2 => ?_
  have hE := he1.trans he2
  have hz := hE.size
  refine vjoin_of (fun u w' => ∃ b wd, u = [.pointer (some ⟨b, 0, none⟩)] ∧ Ext w w' ∧ Blk w' b [.int .i64 wd, .int .i64 (M.vecBin t.op (xs.getD 0 (0, 0)).1 (xs.getD 0 (0, 0)).2 (xs.getD 1 (0, 0)).1 (xs.getD 1 (0, 0)).2).1.2] T_impl_Vec) (fun C hC => ?_) ?_
  · refine vdraw_ext fun w3 he3 _ => ?_
    have hE3 := hE.trans he3
    have hx3 := hx.ext hE3
    have h3 := h2.ext he3
    have hz3 := hE3.size
    simp (disch := first | (simp only [push_cast]; done) | omega) only [push_cast, h3.ld0, hx3.iaddr, hx3.load, true_and, and_true]
    refine ⟨?_, ?_⟩
    · refine VecBin_spec fun w4 he4 => ?_
      have hz4 := he4.size
      simp only [push_cast, true_and]
      refine valloc_agg zr_impl_Vec fun b5 w5 hb5 he5 hs5 h5 => ?_
      try simp only [push_cast, true_and, and_self]
      refine stVec h5 fun w6 hw6 _ h6 => ?_
      try simp only [push_cast, true_and, and_self]
      exact hC _ _ ⟨_, _, rfl, Ext.then ((hE3.trans he4).trans he5) hw6 fun y hy => by subst hy; omega, h6⟩
    · refine valloc_agg zr_impl_Vec fun b5 w5 hb5 he5 hs5 h5 => ?_
      have h4 := h3.ext he5
      have hx4 := hx3.ext he5
      simp (disch := first | (simp only [push_cast]; done) | omega) only [push_cast, h4.ld0, hx4.iaddr, hx4.load, true_and, and_self, and_true]
      refine VecBin_spec fun w6 he6 => ?_
      simp only [push_cast, true_and]
      refine stVec (h5.ext he6) fun w7 hw7 _ h7 => ?_
      try simp only [push_cast, true_and, and_self]
      exact hC _ _ ⟨_, _, rfl, Ext.then ((hE3.trans he5).trans he6) hw7 fun y hy => by subst hy; omega, h7⟩
  · rintro u g w3 ⟨b, wd, rfl, he3, h3⟩
    simp (disch := (simp only [push_cast]; done)) only [push_cast, h3.ld1]
    exact hK _ he3
theorem cutKind_value_spec {s : ByteArray} {n : Int} {ev tv kv : Value} {t : M.Tm} {xs : List (Int × Int)} (ht : TermR F w tv t) (hx : PairsR G w kv xs) (hl : xs.length = 1)
    (hK : ∀ w', Ext w w' → K (.int .i64 (M.vecCut (xs.getD 0 (0, 0)).1 (xs.getD 0 (0, 0)).2 t.a t.b).1.2) w') : vcall PP n_impl_cutKind_value #[KV s n, ev, tv, kv] w K := by
  apply c_impl_cutKind_value; unfold F_impl_cutKind_value
  obtain ⟨ksv, rfl, hks⟩ := ht
  refine vbox_agg fun b1 w1 hb1 he1 hs1 h1 => ?_
  refine vbox_agg fun b2 w2 hb2 he2 hs2 h2 => ?_
  have hE := he1.trans he2
  have hz := hE.size
  refine vjoin_of (fun u w' => ∃ b wd, u = [.pointer (some ⟨b, 0, none⟩)] ∧ Ext w w' ∧ Blk w' b [.int .i64 wd, .int .i64 (M.vecCut (xs.getD 0 (0, 0)).1 (xs.getD 0 (0, 0)).2 t.a t.b).1.2] T_impl_Vec) (fun C hC => ?_) ?_
  · refine vdraw_ext fun w3 he3 _ => ?_
    have hE3 := hE.trans he3
    have hx3 := hx.ext hE3
    have h3 := h2.ext he3
    have hz3 := hE3.size
    simp (disch := first | (simp only [push_cast]; done) | omega) only [push_cast, h3.ld1, h3.ld2, hx3.iaddr, hx3.load, true_and, and_true]
    refine ⟨?_, ?_⟩
    · refine VecCut_spec fun w4 he4 => ?_
      have hz4 := he4.size
      simp only [push_cast, true_and]
      refine valloc_agg zr_impl_Vec fun b5 w5 hb5 he5 hs5 h5 => ?_
      try simp only [push_cast, true_and, and_self]
      refine stVec h5 fun w6 hw6 _ h6 => ?_
      try simp only [push_cast, true_and, and_self]
      exact hC _ _ ⟨_, _, rfl, Ext.then ((hE3.trans he4).trans he5) hw6 fun y hy => by subst hy; omega, h6⟩
    · refine valloc_agg zr_impl_Vec fun b5 w5 hb5 he5 hs5 h5 => ?_
      have h4 := h3.ext he5
      have hx4 := hx3.ext he5
      simp (disch := first | (simp only [push_cast]; done) | omega) only [push_cast, h4.ld1, h4.ld2, hx4.iaddr, hx4.load, true_and, and_self, and_true]
      refine VecCut_spec fun w6 he6 => ?_
      simp only [push_cast, true_and]
      refine stVec (h5.ext he6) fun w7 hw7 _ h7 => ?_
      try simp only [push_cast, true_and, and_self]
      exact hC _ _ ⟨_, _, rfl, Ext.then ((hE3.trans he5).trans he6) hw7 fun y hy => by subst hy; omega, h7⟩
  · rintro u g w3 ⟨b, wd, rfl, he3, h3⟩
    simp (disch := (simp only [push_cast]; done)) only [push_cast, h3.ld1]
    exact hK _ he3
theorem cmpKind_value_spec {s : ByteArray} {n : Int} {ev tv kv : Value} {t : M.Tm} {xs : List (Int × Int)} (ht : TermR F w tv t) (hx : PairsR G w kv xs) (hl : xs.length = 2)
    (hK : ∀ w', Ext w w' → K (.int .i64 (M.b2i (M.vecCmp t.op (xs.getD 0 (0, 0)).1 (xs.getD 0 (0, 0)).2 (xs.getD 1 (0, 0)).1 (xs.getD 1 (0, 0)).2).1)) w') : vcall PP n_impl_cmpKind_value #[KV s n, ev, tv, kv] w K := by
  apply c_impl_cmpKind_value; unfold F_impl_cmpKind_value
  obtain ⟨ksv, rfl, hks⟩ := ht
  refine vbox_agg fun b1 w1 hb1 he1 hs1 h1 => ?_
  refine vbox_agg fun b2 w2 hb2 he2 hs2 h2 => ?_
  refine vdraw_ext fun w3 he3 _ => ?_
  have hE3 := (he1.trans he2).trans he3
  have hx3 := hx.ext hE3
  have h3 := h2.ext he3
  simp (disch := first | (simp only [push_cast]; done) | omega) only [push_cast, h3.ld0, hx3.iaddr, hx3.load, true_and, and_true]
  refine VecCmp_spec fun w4 he4 => ?_
  simp only [push_cast, true_and]
  exact number_spec (hK _ (hE3.trans he4))
theorem vecKind_value_spec {s : ByteArray} {n : Int} {ev tv kv : Value} {t : M.Tm} (ht : TermR F w tv t)
    (hK : ∀ w', Ext w w' → K (.int .i64 t.b) w') : vcall PP n_impl_vecKind_value #[KV s n, ev, tv, kv] w K := by
  apply c_impl_vecKind_value; unfold F_impl_vecKind_value
  obtain ⟨ksv, rfl, hks⟩ := ht
  refine vbox_agg fun b1 w1 hb1 he1 hs1 h1 => ?_
  refine vbox_agg fun b2 w2 hb2 he2 hs2 h2 => ?_
  simp (disch := (simp only [push_cast]; done)) only [push_cast, h2.ld2]
  exact hK _ (he1.trans he2)
theorem mapStrInt : mapB PP T_M_map_string_int .string T_int := ⟨_, map_M_map_string_int, by kernel_rfl⟩
theorem nameKind_value_spec {s : ByteArray} {n : Int} {tv kv : Value} {t : M.Tm} {mb : Nat} {f : List (Value × Value)} {x : Int} (ht : TermR F w tv t) (hm : MapF .string w mb f) (hin : (Value.string t.s, Value.int .i64 x) ∈ f)
    (hK : ∀ w', Ext w w' → K (.int .i64 x) w') : vcall PP n_impl_nameKind_value #[KV s n, .map (some mb), tv, kv] w K := by
  apply c_impl_nameKind_value; unfold F_impl_nameKind_value
  obtain ⟨ksv, rfl, hks⟩ := ht
  refine vbox_agg fun b1 w1 hb1 he1 hs1 h1 => ?_
  refine vbox_agg fun b2 w2 hb2 he2 hs2 h2 => ?_
  simp (disch := (simp only [push_cast]; done)) only [push_cast, h2.ld3]
  rw [vlook_in mapStrInt (hm.ext (he1.trans he2)) (isKey_str _) hin]
  exact hK _ (he1.trans he2)
theorem ifKind_value_spec {s : ByteArray} {n : Int} {ev tv kv : Value} {t : M.Tm} {xs : List (Int × Int)} (ht : TermR F w tv t) (hx : PairsR G w kv xs) (hl : xs.length = 3)
    (hK : ∀ w', Ext w w' → K (.int .i64 (if (xs.getD 0 (0, 0)).2 = 1 then (xs.getD 1 (0, 0)).2 else (xs.getD 2 (0, 0)).2)) w') : vcall PP n_impl_ifKind_value #[KV s n, ev, tv, kv] w K := by
  apply c_impl_ifKind_value; unfold F_impl_ifKind_value
  obtain ⟨ksv, rfl, hks⟩ := ht
  refine vbox_agg fun b1 w1 hb1 he1 hs1 h1 => ?_
  refine vbox_agg fun b2 w2 hb2 he2 hs2 h2 => ?_
  have hx3 := hx.ext (he1.trans he2)
  have hk := hK _ (he1.trans he2)
  try simp (disch := first | (simp only [push_cast]; done) | omega) only [push_cast, hx3.iaddr]
  try simp (disch := first | (simp only [push_cast]; done) | omega) only [push_cast, hx3.load1]
  refine vif_dec (fun a => ?_) (fun a => ?_)
  · rw [if_pos a] at hk
    try simp (disch := first | (simp only [push_cast]; done) | omega) only [push_cast, hx3.iaddr]
    try simp (disch := first | (simp only [push_cast]; done) | omega) only [push_cast, hx3.load1]
    exact hk
  · rw [if_neg a] at hk
    try simp (disch := first | (simp only [push_cast]; done) | omega) only [push_cast, hx3.iaddr]
    try simp (disch := first | (simp only [push_cast]; done) | omega) only [push_cast, hx3.load1]
    exact hk
/-- What a connective does to its kids. -/
def BoolFn (f : Value) (g : List (Int × Int) → Bool) (n : Nat) : Prop := ∀ (w : World) (G : Nat → Prop) (kv : Value) (xs : List (Int × Int)) (K : Value → World → Prop), PairsR G w kv xs → xs.length = n → K (.bool (g xs)) w → vcallv PP f #[kv] w K
theorem boolKind_value_spec {s : ByteArray} {n : Int} {f ev tv kv : Value} {t : M.Tm} {g : List (Int × Int) → Bool} {m : Nat} {xs : List (Int × Int)} (hf : BoolFn f g m) (ht : TermR F w tv t) (hx : PairsR G w kv xs) (hl : xs.length = m)
    (hK : ∀ w', Ext w w' → K (.int .i64 (M.b2i (g xs))) w') : vcall PP n_impl_boolKind_value #[.agg ⟨[.string s, .int .i64 n, f]⟩, ev, tv, kv] w K := by
  apply c_impl_boolKind_value; unfold F_impl_boolKind_value
  obtain ⟨ksv, rfl, hks⟩ := ht
  refine vbox_agg fun b1 w1 hb1 he1 hs1 h1 => ?_
  refine vbox_agg fun b2 w2 hb2 he2 hs2 h2 => ?_
  have h3 := h1.ext he2
  simp (disch := (simp only [push_cast]; done)) only [push_cast, h3.ld2]
  refine hf _ _ _ _ _ (hx.ext (he1.trans he2)) hl ?_
  exact number_spec (hK _ (he1.trans he2))
theorem kinds1_fn : BoolFn (.func (.func n_impl_kinds_1) #[] #[]) (fun _ => true) 0 := by
  intro w G kv xs K hx hl hK
  simp only [push_cast]
  apply c_impl_kinds_1; unfold F_impl_kinds_1
  exact hK
theorem kinds2_fn : BoolFn (.func (.func n_impl_kinds_2) #[] #[]) (fun xs => decide ((xs.getD 0 (0, 0)).2 = 0)) 1 := by
  intro w G kv xs K hx hl hK
  simp only [push_cast]
  apply c_impl_kinds_2; unfold F_impl_kinds_2
  try simp (disch := first | (simp only [push_cast]; done) | omega) only [push_cast, hx.iaddr]
  try simp (disch := first | (simp only [push_cast]; done) | omega) only [push_cast, hx.load1]
  exact hK
theorem kinds3_fn : BoolFn (.func (.func n_impl_kinds_3) #[] #[]) (fun xs => decide ((xs.getD 0 (0, 0)).2 = 1) && decide ((xs.getD 1 (0, 0)).2 = 1)) 2 := by
  intro w G kv xs K hx hl hK
  simp only [push_cast]
  apply c_impl_kinds_3; unfold F_impl_kinds_3
  try simp (disch := first | (simp only [push_cast]; done) | omega) only [push_cast, hx.iaddr]
  try simp (disch := first | (simp only [push_cast]; done) | omega) only [push_cast, hx.load1]
  refine vif_dec (fun a => ?_) (fun a => ?_)
  · try simp (disch := first | (simp only [push_cast]; done) | omega) only [push_cast, hx.iaddr]
    try simp (disch := first | (simp only [push_cast]; done) | omega) only [push_cast, hx.load1]
    simpa only [decide_eq_true a, Bool.true_and] using hK
  · simpa only [decide_eq_false a, Bool.false_and] using hK
theorem kinds4_fn : BoolFn (.func (.func n_impl_kinds_4) #[] #[]) (fun xs => decide ((xs.getD 0 (0, 0)).2 = 1) || decide ((xs.getD 1 (0, 0)).2 = 1)) 2 := by
  intro w G kv xs K hx hl hK
  simp only [push_cast]
  apply c_impl_kinds_4; unfold F_impl_kinds_4
  try simp (disch := first | (simp only [push_cast]; done) | omega) only [push_cast, hx.iaddr]
  try simp (disch := first | (simp only [push_cast]; done) | omega) only [push_cast, hx.load1]
  refine vif_dec (fun a => ?_) (fun a => ?_)
  · simpa only [decide_eq_true a, Bool.true_or] using hK
  · try simp (disch := first | (simp only [push_cast]; done) | omega) only [push_cast, hx.iaddr]
    try simp (disch := first | (simp only [push_cast]; done) | omega) only [push_cast, hx.load1]
    simpa only [decide_eq_false a, Bool.false_or] using hK
end Go.Proofs.YtbiabimalkkeiaaGreatDoor
