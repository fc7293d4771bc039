/- The table of kinds. -/
import Derived.Test.YtbiabimalkkeiaaGreatDoorTd
set_option linter.unusedVariables false
set_option linter.unusedSimpArgs false
set_option linter.unnecessarySimpa false
set_option linter.unusedSectionVars false
namespace Go.Proofs.YtbiabimalkkeiaaGreatDoor
open Go Go.Vc Go.Proofs
variable {w : World} {K : Value → World → Prop} {F G : Nat → Prop}

/-- A map that holds the numbers of names. -/
def EnvM (w : World) (mb : Nat) (ds : List M.Dcl) (env : List Int) : Prop := ∃ f, MapF .string w mb f ∧ ∀ s, 0 ≤ M.findD ds s → (Value.string s, Value.int .i64 (env.getD (M.findD ds s).toNat 0)) ∈ f
theorem EnvM.ext {mb : Nat} {ds : List M.Dcl} {env : List Int} {w' : World} (h : EnvM w mb ds env) (he : Ext w w') : EnvM w' mb ds env := by
  obtain ⟨f, h1, h2⟩ := h; exact ⟨f, h1.ext he, h2⟩
/-- What a kind of terms answers. -/
structure KindR (o : Int) (v : Value) : Prop where
  iface : ∃ ty x, v = .iface ty x
  kids : ∀ (w : World) (K : Value → World → Prop), (∀ w', Ext w w' → K (.int .i64 (M.arity o)) w') → vinvoke PP v mn_kids #[] w K
  sort : ∀ (w : World) (K : Value → World → Prop) (F G H : Nat → Prop) (dv tv kv : Value) (ds : List M.Dcl) (t : M.Tm) (xs : List Int), t.op = o → DclsR F w dv ds → TermR G w tv t → Ints H w kv xs → (xs.length : Int) = M.arity o → (∀ i, -1 ≤ xs.getD i 0 ∧ xs.getD i 0 ≤ 4) →
    (∀ w', Ext w w' → K (.int .i64 (M.sortK ds t xs)) w') → vinvoke PP v mn_sort #[dv, tv, kv] w K
  value : ∀ (w : World) (K : Value → World → Prop) (G H : Nat → Prop) (mb : Nat) (tv kv : Value) (ds : List M.Dcl) (env : List Int) (t : M.Tm) (xs : List (Int × Int)), t.op = o → EnvM w mb ds env → TermR G w tv t → PairsR H w kv xs → (xs.length : Int) = M.arity o → (∀ i, i < xs.length → M.inS (xs.getD i (0, 0)).1 (xs.getD i (0, 0)).2) →
    M.sortK ds t (xs.map (·.1)) ≠ -1 → (∀ w', Ext w w' → K (.int .i64 (M.valK ds env t xs)) w') → vinvoke PP v mn_value #[.map (some mb), tv, kv] w K

section
variable {ds : List M.Dcl} {env : List Int} {t : M.Tm} {xs : List Int} {ys : List (Int × Int)}
theorem fst_getD {i : Nat} (h : i < ys.length) : (ys.map (·.1)).getD i 0 = (ys.getD i (0, 0)).1 := M.getD_map _ h _ _
theorem kind_un {o : Int} {s : ByteArray} (ho : o = 1 ∨ o = 2) : KindR o (.iface T_impl_unKind (KV s 1)) where
  iface := ⟨_, _, rfl⟩
  kids := fun w K hK => vinvoke_of (me_impl_unKind_kids _ _) (kids_spec fun w' he => by have := hK w' he; rcases ho with rfl | rfl <;> exact this)
  sort := fun w K F G H dv tv kv ds t xs hto hd ht hx hl hr hK => by
    have hl1 : xs.length = 1 := by rcases ho with rfl | rfl <;> simp [M.arity] at hl <;> omega
    refine vinvoke_of (me_impl_unKind_sort _ _) (unKind_sort_spec ht hx hl1 fun w' he => ?_)
    have := hK w' he
    unfold M.sortK at this
    rwa [if_neg (by omega), if_neg (by omega), if_neg (by omega), if_neg (by omega), if_neg (by omega), if_pos (by omega)] at this
  value := fun w K G H mb tv kv ds env t ys hto he ht hx hl hr hs hK => by
    have hl1 : ys.length = 1 := by rcases ho with rfl | rfl <;> simp [M.arity] at hl <;> omega
    refine vinvoke_of (me_impl_unKind_value _ _) (unKind_value_spec ht hx hl1 fun w' he => ?_)
    have := hK w' he
    unfold M.sortK at hs
    rw [if_neg (by omega), if_neg (by omega), if_neg (by omega), if_neg (by omega), if_neg (by omega), if_pos (by omega), fst_getD (by omega)] at hs
    have hp : 0 < (ys.getD 0 (0, 0)).1 := by
      by_cases h : 0 < (ys.getD 0 (0, 0)).1
      · exact h
      · rw [if_neg h] at hs; exact absurd rfl hs
    have hv := M.inS_pos (hr 0 (by omega)) hp
    unfold M.valK at this
    rw [if_neg (by omega), if_neg (by omega), if_neg (by omega), if_neg (by omega), if_neg (by omega), if_neg (by omega), if_neg (by omega), if_neg (by omega), if_pos (by omega)] at this
    unfold M.vecUn
    rw [if_pos ⟨hv, by omega⟩]
    exact this
theorem kind_bin {o : Int} {s : ByteArray} (h3 : 3 ≤ o) (h13 : o ≤ 13) : KindR o (.iface T_impl_binKind (KV s 2)) where
  iface := ⟨_, _, rfl⟩
  kids := fun w K hK => vinvoke_of (me_impl_binKind_kids _ _) (kids_spec fun w' he => by
    have := hK w' he
    unfold M.arity at this
    rwa [if_neg (by omega), if_neg (by omega), if_neg (by omega), if_neg (by omega), if_pos (by omega)] at this)
  sort := fun w K F G H dv tv kv ds t xs hto hd ht hx hl hr hK => by
    have hl1 : xs.length = 2 := by
      unfold M.arity at hl
      rw [if_neg (by omega), if_neg (by omega), if_neg (by omega), if_neg (by omega), if_pos (by omega)] at hl; omega
    refine vinvoke_of (me_impl_binKind_sort _ _) (binKind_sort_spec ht hx hl1 fun w' he => ?_)
    have := hK w' he
    unfold M.sortK at this
    rwa [if_neg (by omega), if_neg (by omega), if_neg (by omega), if_neg (by omega), if_neg (by omega), if_neg (by omega), if_neg (by omega), if_neg (by omega)] at this
  value := fun w K G H mb tv kv ds env t ys hto he ht hx hl hr hs hK => by
    have hl1 : ys.length = 2 := by
      unfold M.arity at hl
      rw [if_neg (by omega), if_neg (by omega), if_neg (by omega), if_neg (by omega), if_pos (by omega)] at hl; omega
    refine vinvoke_of (me_impl_binKind_value _ _) (binKind_value_spec ht hx hl1 fun w' he => ?_)
    have := hK w' he
    unfold M.sortK at hs
    rw [if_neg (by omega), if_neg (by omega), if_neg (by omega), if_neg (by omega), if_neg (by omega), if_neg (by omega), if_neg (by omega), if_neg (by omega), fst_getD (by omega), fst_getD (by omega)] at hs
    have hp : 0 < (ys.getD 0 (0, 0)).1 ∧ (ys.getD 0 (0, 0)).1 = (ys.getD 1 (0, 0)).1 := by
      by_cases h : 0 < (ys.getD 0 (0, 0)).1 ∧ (ys.getD 0 (0, 0)).1 = (ys.getD 1 (0, 0)).1
      · exact h
      · rw [if_neg h] at hs; exact absurd rfl hs
    have hv := M.inS_pos (hr 0 (by omega)) hp.1
    have hv2 := M.inS_pos (hr 1 (by omega)) (by omega)
    unfold M.valK at this
    rw [if_neg (by omega), if_neg (by omega), if_neg (by omega), if_neg (by omega), if_neg (by omega), if_neg (by omega), if_neg (by omega), if_neg (by omega), if_neg (by omega), if_neg (by omega), if_neg (by omega)] at this
    unfold M.vecBin
    rw [if_pos ⟨hv, hv2⟩, if_neg (by omega), if_pos ⟨by omega, by omega, hp.2⟩]
    exact this
theorem kind_cat {s : ByteArray} : KindR 14 (.iface T_impl_catKind (KV s 2)) where
  iface := ⟨_, _, rfl⟩
  kids := fun w K hK => vinvoke_of (me_impl_catKind_kids _ _) (kids_spec fun w' he => hK w' he)
  sort := fun w K F G H dv tv kv ds t xs hto hd ht hx hl hr hK => by
    have hl1 : xs.length = 2 := by simp [M.arity] at hl; omega
    refine vinvoke_of (me_impl_catKind_sort _ _) (catKind_sort_spec ht hx hl1 hr fun w' he => ?_)
    have := hK w' he
    unfold M.sortK at this
    rwa [if_neg (by omega), if_neg (by omega), if_neg (by omega), if_neg (by omega), if_neg (by omega), if_neg (by omega), if_pos (by omega)] at this
  value := fun w K G H mb tv kv ds env t ys hto he ht hx hl hr hs hK => by
    have hl1 : ys.length = 2 := by simp [M.arity] at hl; omega
    refine vinvoke_of (me_impl_catKind_value _ _) (catKind_value_spec ht hx hl1 fun w' he => ?_)
    have := hK w' he
    unfold M.sortK at hs
    rw [if_neg (by omega), if_neg (by omega), if_neg (by omega), if_neg (by omega), if_neg (by omega), if_neg (by omega), if_pos (by omega), fst_getD (by omega), fst_getD (by omega)] at hs
    have hp : 0 < (ys.getD 0 (0, 0)).1 ∧ 0 < (ys.getD 1 (0, 0)).1 ∧ (ys.getD 0 (0, 0)).1 + (ys.getD 1 (0, 0)).1 ≤ 4 := by
      by_cases h : 0 < (ys.getD 0 (0, 0)).1 ∧ 0 < (ys.getD 1 (0, 0)).1 ∧ (ys.getD 0 (0, 0)).1 + (ys.getD 1 (0, 0)).1 ≤ 4
      · exact h
      · rw [if_neg h] at hs; exact absurd rfl hs
    have hv := M.inS_pos (hr 0 (by omega)) hp.1
    have hv2 := M.inS_pos (hr 1 (by omega)) hp.2.1
    unfold M.valK at this
    rw [if_neg (by omega), if_neg (by omega), if_neg (by omega), if_neg (by omega), if_neg (by omega), if_neg (by omega), if_neg (by omega), if_neg (by omega), if_neg (by omega), if_pos (by omega)] at this
    unfold M.vecBin
    rw [if_pos ⟨hv, hv2⟩, if_pos hto, if_pos hp.2.2]
    exact this
theorem kind_cmp {o : Int} {s : ByteArray} (h3 : 15 ≤ o) (h13 : o ≤ 17) : KindR o (.iface T_impl_cmpKind (KV s 2)) where
  iface := ⟨_, _, rfl⟩
  kids := fun w K hK => vinvoke_of (me_impl_cmpKind_kids _ _) (kids_spec fun w' he => by
    have := hK w' he
    unfold M.arity at this
    rwa [if_neg (by omega), if_neg (by omega), if_neg (by omega), if_neg (by omega), if_pos (by omega)] at this)
  sort := fun w K F G H dv tv kv ds t xs hto hd ht hx hl hr hK => by
    have hl1 : xs.length = 2 := by
      unfold M.arity at hl
      rw [if_neg (by omega), if_neg (by omega), if_neg (by omega), if_neg (by omega), if_pos (by omega)] at hl; omega
    refine vinvoke_of (me_impl_cmpKind_sort _ _) (cmpKind_sort_spec ht hx hl1 fun w' he => ?_)
    have := hK w' he
    unfold M.sortK at this
    rwa [if_neg (by omega), if_neg (by omega), if_neg (by omega), if_neg (by omega), if_neg (by omega), if_neg (by omega), if_neg (by omega), if_pos (by omega)] at this
  value := fun w K G H mb tv kv ds env t ys hto he ht hx hl hr hs hK => by
    have hl1 : ys.length = 2 := by
      unfold M.arity at hl
      rw [if_neg (by omega), if_neg (by omega), if_neg (by omega), if_neg (by omega), if_pos (by omega)] at hl; omega
    refine vinvoke_of (me_impl_cmpKind_value _ _) (cmpKind_value_spec ht hx hl1 fun w' he => ?_)
    have := hK w' he
    unfold M.sortK at hs
    rw [if_neg (by omega), if_neg (by omega), if_neg (by omega), if_neg (by omega), if_neg (by omega), if_neg (by omega), if_neg (by omega), if_pos (by omega), fst_getD (by omega), fst_getD (by omega)] at hs
    have hp : 0 < (ys.getD 0 (0, 0)).1 ∧ (ys.getD 0 (0, 0)).1 = (ys.getD 1 (0, 0)).1 := by
      by_cases h : 0 < (ys.getD 0 (0, 0)).1 ∧ (ys.getD 0 (0, 0)).1 = (ys.getD 1 (0, 0)).1
      · exact h
      · rw [if_neg h] at hs; exact absurd rfl hs
    have hv := M.inS_pos (hr 0 (by omega)) hp.1
    have hv2 := M.inS_pos (hr 1 (by omega)) (by omega)
    unfold M.valK at this
    rw [if_neg (by omega), if_neg (by omega), if_neg (by omega), if_neg (by omega), if_neg (by omega), if_neg (by omega), if_neg (by omega), if_neg (by omega), if_neg (by omega), if_neg (by omega), if_pos (by omega)] at this
    unfold M.vecCmp
    rw [if_pos ⟨hv, hv2, hp.2, by omega, by omega⟩]
    exact this
theorem kind_vec {s : ByteArray} : KindR 20 (.iface T_impl_vecKind (KV s 0)) where
  iface := ⟨_, _, rfl⟩
  kids := fun w K hK => vinvoke_of (me_impl_vecKind_kids _ _) (kids_spec fun w' he => hK w' he)
  sort := fun w K F G H dv tv kv ds t xs hto hd ht hx hl hr hK => by
    refine vinvoke_of (me_impl_vecKind_sort _ _) (vecKind_sort_spec ht fun w' he => ?_)
    have := hK w' he
    unfold M.sortK at this
    rwa [if_pos hto] at this
  value := fun w K G H mb tv kv ds env t ys hto he ht hx hl hr hs hK => by
    refine vinvoke_of (me_impl_vecKind_value _ _) (vecKind_value_spec ht fun w' he => ?_)
    have := hK w' he
    unfold M.valK at this
    rwa [if_pos hto] at this
theorem kind_name {s : ByteArray} : KindR 21 (.iface T_impl_nameKind (KV s 0)) where
  iface := ⟨_, _, rfl⟩
  kids := fun w K hK => vinvoke_of (me_impl_nameKind_kids _ _) (kids_spec fun w' he => hK w' he)
  sort := fun w K F G H dv tv kv ds t xs hto hd ht hx hl hr hK => by
    refine vinvoke_of (me_impl_nameKind_sort _ _) (nameKind_sort_spec ht hd fun w' he => ?_)
    have := hK w' he
    unfold M.sortK at this
    rwa [if_neg (by omega), if_pos hto] at this
  value := fun w K G H mb tv kv ds env t ys hto he ht hx hl hr hs hK => by
    obtain ⟨f, hm, hin⟩ := he
    unfold M.sortK at hs
    rw [if_neg (by omega), if_pos hto] at hs
    have hfd : 0 ≤ M.findD ds t.s := by
      by_cases h : M.findD ds t.s < 0
      · rw [if_pos h] at hs; exact absurd rfl hs
      · omega
    refine vinvoke_of (me_impl_nameKind_value _ _) (nameKind_value_spec ht hm (hin _ hfd) fun w' he => ?_)
    have := hK w' he
    unfold M.valK at this
    rwa [if_neg (by omega), if_pos hto] at this
theorem kind_cut {s : ByteArray} : KindR 22 (.iface T_impl_cutKind (KV s 1)) where
  iface := ⟨_, _, rfl⟩
  kids := fun w K hK => vinvoke_of (me_impl_cutKind_kids _ _) (kids_spec fun w' he => hK w' he)
  sort := fun w K F G H dv tv kv ds t xs hto hd ht hx hl hr hK => by
    have hl1 : xs.length = 1 := by simp [M.arity] at hl; omega
    refine vinvoke_of (me_impl_cutKind_sort _ _) (cutKind_sort_spec ht hx hl1 hr fun w' he => ?_)
    have := hK w' he
    unfold M.sortK at this
    rwa [if_neg (by omega), if_neg (by omega), if_neg (by omega), if_neg (by omega), if_pos (by omega)] at this
  value := fun w K G H mb tv kv ds env t ys hto he ht hx hl hr hs hK => by
    have hl1 : ys.length = 1 := by simp [M.arity] at hl; omega
    refine vinvoke_of (me_impl_cutKind_value _ _) (cutKind_value_spec ht hx hl1 fun w' he => ?_)
    have := hK w' he
    unfold M.sortK at hs
    rw [if_neg (by omega), if_neg (by omega), if_neg (by omega), if_neg (by omega), if_pos (by omega), fst_getD (by omega)] at hs
    have hp : 0 ≤ t.b ∧ t.b ≤ t.a ∧ t.a < (ys.getD 0 (0, 0)).1 := by
      by_cases h : 0 ≤ t.b ∧ t.b ≤ t.a ∧ t.a < (ys.getD 0 (0, 0)).1
      · exact h
      · rw [if_neg h] at hs; exact absurd rfl hs
    have hv := M.inS_pos (hr 0 (by omega)) (by omega)
    unfold M.valK at this
    rw [if_neg (by omega), if_neg (by omega), if_neg (by omega), if_neg (by omega), if_neg (by omega), if_neg (by omega), if_neg (by omega), if_pos (by omega)] at this
    unfold M.vecCut
    rw [if_pos ⟨hv, hp⟩]
    exact this
theorem kind_if {s : ByteArray} : KindR 23 (.iface T_impl_ifKind (KV s 3)) where
  iface := ⟨_, _, rfl⟩
  kids := fun w K hK => vinvoke_of (me_impl_ifKind_kids _ _) (kids_spec fun w' he => hK w' he)
  sort := fun w K F G H dv tv kv ds t xs hto hd ht hx hl hr hK => by
    have hl1 : xs.length = 3 := by simp [M.arity] at hl; omega
    refine vinvoke_of (me_impl_ifKind_sort _ _) (ifKind_sort_spec ht hx hl1 fun w' he => ?_)
    have := hK w' he
    unfold M.sortK at this
    rwa [if_neg (by omega), if_neg (by omega), if_neg (by omega), if_pos (by omega)] at this
  value := fun w K G H mb tv kv ds env t ys hto he ht hx hl hr hs hK => by
    have hl1 : ys.length = 3 := by simp [M.arity] at hl; omega
    refine vinvoke_of (me_impl_ifKind_value _ _) (ifKind_value_spec ht hx hl1 fun w' he => ?_)
    have := hK w' he
    unfold M.valK at this
    rwa [if_neg (by omega), if_neg (by omega), if_neg (by omega), if_neg (by omega), if_neg (by omega), if_neg (by omega), if_pos (by omega)] at this
theorem kind_bool {o : Int} {s : ByteArray} {f : Value} {g : List (Int × Int) → Bool} {m : Nat} (ho : 24 ≤ o) (ha : M.arity o = m) (hf : BoolFn f g m) (hg : ∀ ds env (t : M.Tm) ys, t.op = o → M.valK ds env t ys = M.b2i (g ys)) :
    KindR o (.iface T_impl_boolKind (.agg ⟨[.string s, .int .i64 m, f]⟩)) where
  iface := ⟨_, _, rfl⟩
  kids := fun w K hK => vinvoke_of (me_impl_boolKind_kids _ _ _) (kids_spec fun w' he => by have := hK w' he; rwa [ha] at this)
  sort := fun w K F G H dv tv kv ds t xs hto hd ht hx hl hr hK => by
    refine vinvoke_of (me_impl_boolKind_sort _ _ _) (boolKind_sort_spec ht hx fun w' he => ?_)
    have := hK w' he
    unfold M.sortK at this
    rwa [if_neg (by omega), if_neg (by omega), if_pos (by omega)] at this
  value := fun w K G H mb tv kv ds env t ys hto he ht hx hl hr hs hK => by
    refine vinvoke_of (me_impl_boolKind_value _ _ _) (boolKind_value_spec hf ht hx (by omega) fun w' he => ?_)
    have := hK w' he
    rwa [hg ds env t ys hto] at this
end
/-- The table of kinds. -/
def KindsR (w : World) (mb : Nat) : Prop := ∃ f, MapF (.int .i64) w mb f ∧ (∀ o, 0 ≤ M.arity o → ∃ v, (Value.int .i64 o, v) ∈ f ∧ KindR o v) ∧ ∀ p, p ∈ f → ∃ o, p.1 = .int .i64 o ∧ 0 ≤ M.arity o
theorem KindsR.ext {mb : Nat} {w' : World} (h : KindsR w mb) (he : Ext w w') : KindsR w' mb := by
  obtain ⟨f, h1, h2⟩ := h; exact ⟨f, h1.ext he, h2⟩
end Go.Proofs.YtbiabimalkkeiaaGreatDoor
