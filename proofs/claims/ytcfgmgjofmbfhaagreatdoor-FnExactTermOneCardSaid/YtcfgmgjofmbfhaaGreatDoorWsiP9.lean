import Derived.Test.YtcfgmgjofmbfhaaGreatDoorWsiP8
import Derived.Ground.NamesProg
import Derived.Shelf.Strings.SlTrimAscii
import Derived.Shelf.SlGeneric
import Derived.Test.YtcfgmgjofmbfhaaGreatDoorProg
import Derived.Test.YtcfgmgjofmbfhaaGreatDoorWsiP2
/- A part of the proof: Te, Tf, Tg, Sh, Th, M22, Tk. -/
set_option linter.unusedVariables false
set_option linter.unusedSimpArgs false
set_option linter.unnecessarySimpa false
set_option linter.unusedSectionVars false
section
namespace Go.Proofs.YtcfgmgjofmbfhaaGreatDoor
open Go Go.Vc Go.Proofs
variable {w : World} {K : Value → World → Prop} {F G : Nat → Prop}
def EnvM (w : World) (mb : Nat) (ds : List M.Dcl) (env : List Int) : Prop := ∃ f, MapF .string w mb f ∧ ∀ s, 0 ≤ M.findD ds s → (Value.string s, Value.int .i64 (env.getD (M.findD ds s).toNat 0)) ∈ f
theorem EnvM.ext {mb : Nat} {ds : List M.Dcl} {env : List Int} {w' : World} (h : EnvM w mb ds env) (he : Ext w w') : EnvM w' mb ds env := by
  obtain ⟨f, h1, h2⟩ := h; exact ⟨f, h1.ext he, h2⟩
structure KindR (o : Int) (v : Value) : Prop where
  iface : ∃ ty x, v = .iface ty x
  kids : ∀ (w : World) (K : Value → World → Prop), (∀ w', Ext w w' → K (.int .i64 (M.arity o)) w') → vinvoke PP v mn_kids #[] w K
  sort : ∀ (w : World) (K : Value → World → Prop) (F G H : Nat → Prop) (dv tv kv : Value) (ds : List M.Dcl) (t : M.Tm) (xs : List Int), t.op = o → DclsR F w dv ds → TermR G w tv t → Ints H w kv xs → (xs.length : Int) = M.arity o → (∀ i, -1 ≤ xs.getD i 0 ∧ xs.getD i 0 ≤ 4) →
    (∀ w', Ext w w' → K (.int .i64 (M.sortK ds t xs)) w') → vinvoke PP v mn_sort #[dv, tv, kv] w K
  value : ∀ (w : World) (K : Value → World → Prop) (G H : Nat → Prop) (ev tv kv : Value) (ds : List M.Dcl) (env : List Int) (t : M.Tm) (xs : List (Int × Int)), t.op = o → (t.op = 21 → ∃ mb, ev = .map (some mb) ∧ EnvM w mb ds env) → TermR G w tv t → PairsR H w kv xs → (xs.length : Int) = M.arity o → (∀ i, i < xs.length → M.inS (xs.getD i (0, 0)).1 (xs.getD i (0, 0)).2) →
    M.sortK ds t (xs.map (·.1)) ≠ -1 → (∀ w', Ext w w' → K (.int .i64 (M.valK ds env t xs)) w') → vinvoke PP v mn_value #[ev, tv, kv] w K
section
variable {ds : List M.Dcl} {env : List Int} {t : M.Tm} {xs : List Int} {ys : List (Int × Int)}
theorem fst_getD {i : Nat} (h : i < ys.length) : (ys.map (·.1)).getD i 0 = (ys.getD i (0, 0)).1 := M.getD_map _ h _ _
theorem kind_un {o : Int} {s : ByteArray} (ho : o = 1 ∨ o = 2) : KindR o (.iface T_impl_unKind (KV s 1)) where
  iface := ⟨_, _, rfl⟩
  kids := fun w K hK => vinvoke_of (me_impl_unKind_kids _ _) (kids_spec fun w' he => by have := hK w' he; rcases ho with rfl | rfl <;> exact this)
  sort := fun w K F G H dv tv kv ds t xs hto hd ht hx hl hr hK => by
    have hl1 : xs.length = 1 := by rcases ho with rfl | rfl <;> simp [M.arity] at hl <;> omega
    refine vinvoke_of (me_impl_unKind_sort _ _) (unKind_sort_spec ht hx hl1 fun w' he => ?_)
    have := hK w' he
    unfold M.sortK at this
    rwa [if_neg (by omega), if_neg (by omega), if_neg (by omega), if_neg (by omega), if_neg (by omega), if_pos (by omega)] at this
  value := fun w K G H mb tv kv ds env t ys hto he ht hx hl hr hs hK => by
    have hl1 : ys.length = 1 := by rcases ho with rfl | rfl <;> simp [M.arity] at hl <;> omega
    refine vinvoke_of (me_impl_unKind_value _ _) (unKind_value_spec ht hx hl1 fun w' he => ?_)
    have := hK w' he
    unfold M.sortK at hs
    rw [if_neg (by omega), if_neg (by omega), if_neg (by omega), if_neg (by omega), if_neg (by omega), if_pos (by omega), fst_getD (by omega)] at hs
    have hp : 0 < (ys.getD 0 (0, 0)).1 := by
      by_cases h : 0 < (ys.getD 0 (0, 0)).1
      · exact h
      · rw [if_neg h] at hs; exact absurd rfl hs
    have hv := M.inS_pos (hr 0 (by omega)) hp
    unfold M.valK at this
    rw [if_neg (by omega), if_neg (by omega), if_neg (by omega), if_neg (by omega), if_neg (by omega), if_neg (by omega), if_neg (by omega), if_neg (by omega), if_pos (by omega)] at this
    unfold M.vecUn
    rw [if_pos ⟨hv, by omega⟩]
    exact this
theorem kind_bin {o : Int} {s : ByteArray} (h3 : 3 ≤ o) (h13 : o ≤ 13) : KindR o (.iface T_impl_binKind (KV s 2)) where
  iface := ⟨_, _, rfl⟩
  kids := fun w K hK => vinvoke_of (me_impl_binKind_kids _ _) (kids_spec fun w' he => by
    have := hK w' he
    unfold M.arity at this
    rwa [if_neg (by omega), if_neg (by omega), if_neg (by omega), if_neg (by omega), if_pos (by omega)] at this)
  sort := fun w K F G H dv tv kv ds t xs hto hd ht hx hl hr hK => by
    have hl1 : xs.length = 2 := by
      unfold M.arity at hl
      rw [if_neg (by omega), if_neg (by omega), if_neg (by omega), if_neg (by omega), if_pos (by omega)] at hl; omega
    refine vinvoke_of (me_impl_binKind_sort _ _) (binKind_sort_spec ht hx hl1 fun w' he => ?_)
    have := hK w' he
    unfold M.sortK at this
    rwa [if_neg (by omega), if_neg (by omega), if_neg (by omega), if_neg (by omega), if_neg (by omega), if_neg (by omega), if_neg (by omega), if_neg (by omega)] at this
  value := fun w K G H mb tv kv ds env t ys hto he ht hx hl hr hs hK => by
    have hl1 : ys.length = 2 := by
      unfold M.arity at hl
      rw [if_neg (by omega), if_neg (by omega), if_neg (by omega), if_neg (by omega), if_pos (by omega)] at hl; omega
    refine vinvoke_of (me_impl_binKind_value _ _) (binKind_value_spec ht hx hl1 fun w' he => ?_)
    have := hK w' he
    unfold M.sortK at hs
    rw [if_neg (by omega), if_neg (by omega), if_neg (by omega), if_neg (by omega), if_neg (by omega), if_neg (by omega), if_neg (by omega), if_neg (by omega), fst_getD (by omega), fst_getD (by omega)] at hs
    have hp : 0 < (ys.getD 0 (0, 0)).1 ∧ (ys.getD 0 (0, 0)).1 = (ys.getD 1 (0, 0)).1 := by
      by_cases h : 0 < (ys.getD 0 (0, 0)).1 ∧ (ys.getD 0 (0, 0)).1 = (ys.getD 1 (0, 0)).1
      · exact h
      · rw [if_neg h] at hs; exact absurd rfl hs
    have hv := M.inS_pos (hr 0 (by omega)) hp.1
    have hv2 := M.inS_pos (hr 1 (by omega)) (by omega)
    unfold M.valK at this
    rw [if_neg (by omega), if_neg (by omega), if_neg (by omega), if_neg (by omega), if_neg (by omega), if_neg (by omega), if_neg (by omega), if_neg (by omega), if_neg (by omega), if_neg (by omega), if_neg (by omega)] at this
    unfold M.vecBin
    rw [if_pos ⟨hv, hv2⟩, if_neg (by omega), if_pos ⟨by omega, by omega, hp.2⟩]
    exact this
theorem kind_cat {s : ByteArray} : KindR 14 (.iface T_impl_catKind (KV s 2)) where
  iface := ⟨_, _, rfl⟩
  kids := fun w K hK => vinvoke_of (me_impl_catKind_kids _ _) (kids_spec fun w' he => hK w' he)
  sort := fun w K F G H dv tv kv ds t xs hto hd ht hx hl hr hK => by
    have hl1 : xs.length = 2 := by simp [M.arity] at hl; omega
    refine vinvoke_of (me_impl_catKind_sort _ _) (catKind_sort_spec ht hx hl1 hr fun w' he => ?_)
    have := hK w' he
    unfold M.sortK at this
    rwa [if_neg (by omega), if_neg (by omega), if_neg (by omega), if_neg (by omega), if_neg (by omega), if_neg (by omega), if_pos (by omega)] at this
  value := fun w K G H mb tv kv ds env t ys hto he ht hx hl hr hs hK => by
    have hl1 : ys.length = 2 := by simp [M.arity] at hl; omega
    refine vinvoke_of (me_impl_catKind_value _ _) (catKind_value_spec ht hx hl1 fun w' he => ?_)
    have := hK w' he
    unfold M.sortK at hs
    rw [if_neg (by omega), if_neg (by omega), if_neg (by omega), if_neg (by omega), if_neg (by omega), if_neg (by omega), if_pos (by omega), fst_getD (by omega), fst_getD (by omega)] at hs
    have hp : 0 < (ys.getD 0 (0, 0)).1 ∧ 0 < (ys.getD 1 (0, 0)).1 ∧ (ys.getD 0 (0, 0)).1 + (ys.getD 1 (0, 0)).1 ≤ 4 := by
      by_cases h : 0 < (ys.getD 0 (0, 0)).1 ∧ 0 < (ys.getD 1 (0, 0)).1 ∧ (ys.getD 0 (0, 0)).1 + (ys.getD 1 (0, 0)).1 ≤ 4
      · exact h
      · rw [if_neg h] at hs; exact absurd rfl hs
    have hv := M.inS_pos (hr 0 (by omega)) hp.1
    have hv2 := M.inS_pos (hr 1 (by omega)) hp.2.1
    unfold M.valK at this
    rw [if_neg (by omega), if_neg (by omega), if_neg (by omega), if_neg (by omega), if_neg (by omega), if_neg (by omega), if_neg (by omega), if_neg (by omega), if_neg (by omega), if_pos (by omega)] at this
    unfold M.vecBin
    rw [if_pos ⟨hv, hv2⟩, if_pos hto, if_pos hp.2.2]
    exact this
theorem kind_cmp {o : Int} {s : ByteArray} (h3 : 15 ≤ o) (h13 : o ≤ 17) : KindR o (.iface T_impl_cmpKind (KV s 2)) where
  iface := ⟨_, _, rfl⟩
  kids := fun w K hK => vinvoke_of (me_impl_cmpKind_kids _ _) (kids_spec fun w' he => by
    have := hK w' he
    unfold M.arity at this
    rwa [if_neg (by omega), if_neg (by omega), if_neg (by omega), if_neg (by omega), if_pos (by omega)] at this)
  sort := fun w K F G H dv tv kv ds t xs hto hd ht hx hl hr hK => by
    have hl1 : xs.length = 2 := by
      unfold M.arity at hl
      rw [if_neg (by omega), if_neg (by omega), if_neg (by omega), if_neg (by omega), if_pos (by omega)] at hl; omega
    refine vinvoke_of (me_impl_cmpKind_sort _ _) (cmpKind_sort_spec ht hx hl1 fun w' he => ?_)
    have := hK w' he
    unfold M.sortK at this
    rwa [if_neg (by omega), if_neg (by omega), if_neg (by omega), if_neg (by omega), if_neg (by omega), if_neg (by omega), if_neg (by omega), if_pos (by omega)] at this
  value := fun w K G H mb tv kv ds env t ys hto he ht hx hl hr hs hK => by
    have hl1 : ys.length = 2 := by
      unfold M.arity at hl
      rw [if_neg (by omega), if_neg (by omega), if_neg (by omega), if_neg (by omega), if_pos (by omega)] at hl; omega
    refine vinvoke_of (me_impl_cmpKind_value _ _) (cmpKind_value_spec ht hx hl1 fun w' he => ?_)
    have := hK w' he
    unfold M.sortK at hs
    rw [if_neg (by omega), if_neg (by omega), if_neg (by omega), if_neg (by omega), if_neg (by omega), if_neg (by omega), if_neg (by omega), if_pos (by omega), fst_getD (by omega), fst_getD (by omega)] at hs
    have hp : 0 < (ys.getD 0 (0, 0)).1 ∧ (ys.getD 0 (0, 0)).1 = (ys.getD 1 (0, 0)).1 := by
      by_cases h : 0 < (ys.getD 0 (0, 0)).1 ∧ (ys.getD 0 (0, 0)).1 = (ys.getD 1 (0, 0)).1
      · exact h
      · rw [if_neg h] at hs; exact absurd rfl hs
    have hv := M.inS_pos (hr 0 (by omega)) hp.1
    have hv2 := M.inS_pos (hr 1 (by omega)) (by omega)
    unfold M.valK at this
    rw [if_neg (by omega), if_neg (by omega), if_neg (by omega), if_neg (by omega), if_neg (by omega), if_neg (by omega), if_neg (by omega), if_neg (by omega), if_neg (by omega), if_neg (by omega), if_pos (by omega)] at this
    unfold M.vecCmp
    rw [if_pos ⟨hv, hv2, hp.2, by omega, by omega⟩]
    exact this
theorem kind_vec {s : ByteArray} : KindR 20 (.iface T_impl_vecKind (KV s 0)) where
  iface := ⟨_, _, rfl⟩
  kids := fun w K hK => vinvoke_of (me_impl_vecKind_kids _ _) (kids_spec fun w' he => hK w' he)
  sort := fun w K F G H dv tv kv ds t xs hto hd ht hx hl hr hK => by
    refine vinvoke_of (me_impl_vecKind_sort _ _) (vecKind_sort_spec ht fun w' he => ?_)
    have := hK w' he
    unfold M.sortK at this
    rwa [if_pos hto] at this
  value := fun w K G H mb tv kv ds env t ys hto he ht hx hl hr hs hK => by
    refine vinvoke_of (me_impl_vecKind_value _ _) (vecKind_value_spec ht fun w' he => ?_)
    have := hK w' he
    unfold M.valK at this
    rwa [if_pos hto] at this
theorem kind_name {s : ByteArray} : KindR 21 (.iface T_impl_nameKind (KV s 0)) where
  iface := ⟨_, _, rfl⟩
  kids := fun w K hK => vinvoke_of (me_impl_nameKind_kids _ _) (kids_spec fun w' he => hK w' he)
  sort := fun w K F G H dv tv kv ds t xs hto hd ht hx hl hr hK => by
    refine vinvoke_of (me_impl_nameKind_sort _ _) (nameKind_sort_spec ht hd fun w' he => ?_)
    have := hK w' he
    unfold M.sortK at this
    rwa [if_neg (by omega), if_pos hto] at this
  value := fun w K G H mb tv kv ds env t ys hto he ht hx hl hr hs hK => by
    obtain ⟨mb, rfl, f, hm, hin⟩ := he hto
    unfold M.sortK at hs
    rw [if_neg (by omega), if_pos hto] at hs
    have hfd : 0 ≤ M.findD ds t.s := by
      by_cases h : M.findD ds t.s < 0
      · rw [if_pos h] at hs; exact absurd rfl hs
      · omega
    refine vinvoke_of (me_impl_nameKind_value _ _) (nameKind_value_spec ht hm (hin _ hfd) fun w' he => ?_)
    have := hK w' he
    unfold M.valK at this
    rwa [if_neg (by omega), if_pos hto] at this
theorem kind_cut {s : ByteArray} : KindR 22 (.iface T_impl_cutKind (KV s 1)) where
  iface := ⟨_, _, rfl⟩
  kids := fun w K hK => vinvoke_of (me_impl_cutKind_kids _ _) (kids_spec fun w' he => hK w' he)
  sort := fun w K F G H dv tv kv ds t xs hto hd ht hx hl hr hK => by
    have hl1 : xs.length = 1 := by simp [M.arity] at hl; omega
    refine vinvoke_of (me_impl_cutKind_sort _ _) (cutKind_sort_spec ht hx hl1 hr fun w' he => ?_)
    have := hK w' he
    unfold M.sortK at this
    rwa [if_neg (by omega), if_neg (by omega), if_neg (by omega), if_neg (by omega), if_pos (by omega)] at this
  value := fun w K G H mb tv kv ds env t ys hto he ht hx hl hr hs hK => by
    have hl1 : ys.length = 1 := by simp [M.arity] at hl; omega
    refine vinvoke_of (me_impl_cutKind_value _ _) (cutKind_value_spec ht hx hl1 fun w' he => ?_)
    have := hK w' he
    unfold M.sortK at hs
    rw [if_neg (by omega), if_neg (by omega), if_neg (by omega), if_neg (by omega), if_pos (by omega), fst_getD (by omega)] at hs
    have hp : 0 ≤ t.b ∧ t.b ≤ t.a ∧ t.a < (ys.getD 0 (0, 0)).1 := by
      by_cases h : 0 ≤ t.b ∧ t.b ≤ t.a ∧ t.a < (ys.getD 0 (0, 0)).1
      · exact h
      · rw [if_neg h] at hs; exact absurd rfl hs
    have hv := M.inS_pos (hr 0 (by omega)) (by omega)
    unfold M.valK at this
    rw [if_neg (by omega), if_neg (by omega), if_neg (by omega), if_neg (by omega), if_neg (by omega), if_neg (by omega), if_neg (by omega), if_pos (by omega)] at this
    unfold M.vecCut
    rw [if_pos ⟨hv, hp⟩]
    exact this
theorem kind_if {s : ByteArray} : KindR 23 (.iface T_impl_ifKind (KV s 3)) where
  iface := ⟨_, _, rfl⟩
  kids := fun w K hK => vinvoke_of (me_impl_ifKind_kids _ _) (kids_spec fun w' he => hK w' he)
  sort := fun w K F G H dv tv kv ds t xs hto hd ht hx hl hr hK => by
    have hl1 : xs.length = 3 := by simp [M.arity] at hl; omega
    refine vinvoke_of (me_impl_ifKind_sort _ _) (ifKind_sort_spec ht hx hl1 fun w' he => ?_)
    have := hK w' he
    unfold M.sortK at this
    rwa [if_neg (by omega), if_neg (by omega), if_neg (by omega), if_pos (by omega)] at this
  value := fun w K G H mb tv kv ds env t ys hto he ht hx hl hr hs hK => by
    have hl1 : ys.length = 3 := by simp [M.arity] at hl; omega
    refine vinvoke_of (me_impl_ifKind_value _ _) (ifKind_value_spec ht hx hl1 fun w' he => ?_)
    have := hK w' he
    unfold M.valK at this
    rwa [if_neg (by omega), if_neg (by omega), if_neg (by omega), if_neg (by omega), if_neg (by omega), if_neg (by omega), if_pos (by omega)] at this
theorem kind_bool {o : Int} {s : ByteArray} {f : Value} {g : List (Int × Int) → Bool} {m : Nat} (ho : 24 ≤ o) (ha : M.arity o = m) (hf : BoolFn f g m) (hg : ∀ ds env (t : M.Tm) ys, t.op = o → M.valK ds env t ys = M.b2i (g ys)) :
    KindR o (.iface T_impl_boolKind (.agg ⟨[.string s, .int .i64 m, f]⟩)) where
  iface := ⟨_, _, rfl⟩
  kids := fun w K hK => vinvoke_of (me_impl_boolKind_kids _ _ _) (kids_spec fun w' he => by have := hK w' he; rwa [ha] at this)
  sort := fun w K F G H dv tv kv ds t xs hto hd ht hx hl hr hK => by
    refine vinvoke_of (me_impl_boolKind_sort _ _ _) (boolKind_sort_spec ht hx fun w' he => ?_)
    have := hK w' he
    unfold M.sortK at this
    rwa [if_neg (by omega), if_neg (by omega), if_pos (by omega)] at this
  value := fun w K G H mb tv kv ds env t ys hto he ht hx hl hr hs hK => by
    refine vinvoke_of (me_impl_boolKind_value _ _ _) (boolKind_value_spec hf ht hx (by omega) fun w' he => ?_)
    have := hK w' he
    rwa [hg ds env t ys hto] at this
end
def KindsR (w : World) (mb : Nat) : Prop := ∃ f, MapF (.int .i64) w mb f ∧ (∀ o, 0 ≤ M.arity o → ∃ v, (Value.int .i64 o, v) ∈ f ∧ KindR o v) ∧ ∀ p, p ∈ f → ∃ o, p.1 = .int .i64 o ∧ 0 ≤ M.arity o
theorem KindsR.ext {mb : Nat} {w' : World} (h : KindsR w mb) (he : Ext w w') : KindsR w' mb := by
  obtain ⟨f, h1, h2⟩ := h; exact ⟨f, h1.ext he, h2⟩
end Go.Proofs.YtcfgmgjofmbfhaaGreatDoor
end
section
namespace Go.Proofs.YtcfgmgjofmbfhaaGreatDoor
open Go Go.Vc Go.Proofs
variable {w : World} {K : Value → World → Prop} {F G : Nat → Prop}
theorem mapIntKind : mapB PP T_M_map_int_impl_kind (.int .i64) T_impl_kind := ⟨_, map_M_map_int_impl_kind, by kernel_rfl⟩
def KS (w0 w : World) (b : Nat) (S : Int → Prop) : Prop := Ext w0 w ∧ w0.heap.size ≤ b ∧ ∃ f, MapF (.int .i64) w b f ∧ (∀ o, S o → ∃ v, (Value.int .i64 o, v) ∈ f ∧ KindR o v) ∧ ∀ p, p ∈ f → ∃ o, p.1 = .int .i64 o ∧ S o
theorem KS.set {w0 w : World} {b : Nat} {S : Int → Prop} {o : Int} {v : Value} (h : KS w0 w b S) (hn : ¬ S o) (hv : KindR o v) (hK : ∀ w', KS w0 w' b (fun x => x = o ∨ S x) → Same (· = b) w w' → K undef w') :
    vmset PP T_M_map_int_impl_kind (.map (some b)) (.int .i64 o) v w K := by
  obtain ⟨he, hb, f, hm, h1, h2⟩ := h
  refine vmset_new mapIntKind hm (isKey_int o) (fun x hx => ?_) fun w' hm' hs _ => hK w' ⟨Ext.then he hs fun y hy => by subst hy; exact hb, hb, _, hm', fun x hx => ?_, fun p hp => ?_⟩ hs
  · obtain ⟨o', he', hS⟩ := h2 _ hx
    cases he'; exact hn hS
  · by_cases e : x = o
    · subst e
      exact ⟨v, List.mem_append.2 (.inr (List.mem_singleton.2 rfl)), hv⟩
    · obtain ⟨u, hu, hk⟩ := h1 x (hx.resolve_left e)
      exact ⟨u, List.mem_append.2 (.inl hu), hk⟩
  · rcases List.mem_append.1 hp with hp | hp
    · obtain ⟨o', he', hS⟩ := h2 _ hp
      exact ⟨o', he', .inr hS⟩
    · rw [List.mem_singleton.1 hp]
      exact ⟨o, rfl, .inl rfl⟩
theorem KS.ext {w0 w w' : World} {b : Nat} {S : Int → Prop} (h : KS w0 w b S) (he : Ext w w') : KS w0 w' b S := by
  obtain ⟨h1, h2, f, hm, r⟩ := h; exact ⟨h1.trans he, h2, f, hm.ext he, r⟩
theorem KS.congr {w0 w : World} {b : Nat} {S S' : Int → Prop} (h : KS w0 w b S) (hS : ∀ x, S x ↔ S' x) : KS w0 w b S' := by
  have : S = S' := funext fun x => propext (hS x)
  subst this; exact h
theorem KS.kinds {w0 w : World} {b : Nat} {S : Int → Prop} (h : KS w0 w b S) (hS : ∀ o, S o ↔ 0 ≤ M.arity o) : KindsR w b := by
  obtain ⟨he, hb, f, hm, h1, h2⟩ := h
  refine ⟨f, hm, fun o ho => h1 o ((hS o).2 ho), fun p hp => ?_⟩
  obtain ⟨o, h3, h4⟩ := h2 p hp
  exact ⟨o, h3, (hS o).1 h4⟩
@[push_cast] theorem bd_named (s : ByteArray) (n : Int) : vbuild PP T_impl_named [(0, .string s), (1, .int .i64 n)] w K = K (KV s n) w := vbuild_eq b_impl_named (us := [[.string s], [.int .i64 n]]) rfl rfl
@[push_cast] theorem bd_unKind (s : ByteArray) (n : Int) : vbuild PP T_impl_unKind [(0, KV s n)] w K = K (KV s n) w := vbuild_eq b_impl_unKind (us := [[.string s, .int .i64 n]]) rfl rfl
@[push_cast] theorem bd_binKind (s : ByteArray) (n : Int) : vbuild PP T_impl_binKind [(0, KV s n)] w K = K (KV s n) w := vbuild_eq b_impl_binKind (us := [[.string s, .int .i64 n]]) rfl rfl
@[push_cast] theorem bd_catKind (s : ByteArray) (n : Int) : vbuild PP T_impl_catKind [(0, KV s n)] w K = K (KV s n) w := vbuild_eq b_impl_catKind (us := [[.string s, .int .i64 n]]) rfl rfl
@[push_cast] theorem bd_cmpKind (s : ByteArray) (n : Int) : vbuild PP T_impl_cmpKind [(0, KV s n)] w K = K (KV s n) w := vbuild_eq b_impl_cmpKind (us := [[.string s, .int .i64 n]]) rfl rfl
@[push_cast] theorem bd_cutKind (s : ByteArray) (n : Int) : vbuild PP T_impl_cutKind [(0, KV s n)] w K = K (KV s n) w := vbuild_eq b_impl_cutKind (us := [[.string s, .int .i64 n]]) rfl rfl
@[push_cast] theorem bd_ifKind (s : ByteArray) (n : Int) : vbuild PP T_impl_ifKind [(0, KV s n)] w K = K (KV s n) w := vbuild_eq b_impl_ifKind (us := [[.string s, .int .i64 n]]) rfl rfl
@[push_cast] theorem bd_vecKind : vbuild PP T_impl_vecKind [] w K = K (KV ⟨#[]⟩ 0) w := vbuild_eq b_impl_vecKind (us := []) rfl rfl
@[push_cast] theorem bd_nameKind : vbuild PP T_impl_nameKind [] w K = K (KV ⟨#[]⟩ 0) w := vbuild_eq b_impl_nameKind (us := []) rfl rfl
@[push_cast] theorem bd_boolKind (s : ByteArray) (n : Int) (f : Fn) (a c : Array Value) : vbuild PP T_impl_boolKind [(0, KV s n), (1, .func f a c)] w K = K (.agg ⟨[.string s, .int .i64 n, .func f a c]⟩) w := vbuild_eq b_impl_boolKind (us := [[.string s, .int .i64 n], [.func f a c]]) rfl rfl
theorem val24 (ds : List M.Dcl) (env : List Int) (t : M.Tm) (ys : List (Int × Int)) (h : t.op = 24) : M.valK ds env t ys = M.b2i true := by simp [M.valK, h, M.b2i]
theorem val25 (ds : List M.Dcl) (env : List Int) (t : M.Tm) (ys : List (Int × Int)) (h : t.op = 25) : M.valK ds env t ys = M.b2i (decide ((ys.getD 0 (0, 0)).2 = 0)) := by unfold M.valK; simp only [h]; rfl
theorem val26 (ds : List M.Dcl) (env : List Int) (t : M.Tm) (ys : List (Int × Int)) (h : t.op = 26) : M.valK ds env t ys = M.b2i (decide ((ys.getD 0 (0, 0)).2 = 1) && decide ((ys.getD 1 (0, 0)).2 = 1)) := by unfold M.valK; simp only [h]; rfl
theorem val27 (ds : List M.Dcl) (env : List Int) (t : M.Tm) (ys : List (Int × Int)) (h : t.op = 27) : M.valK ds env t ys = M.b2i (decide ((ys.getD 0 (0, 0)).2 = 1) || decide ((ys.getD 1 (0, 0)).2 = 1)) := by unfold M.valK; simp only [h]; rfl
def binWords : List ByteArray := [⟨#[97, 110, 100]⟩, ⟨#[111, 114]⟩, ⟨#[120, 111, 114]⟩, ⟨#[97, 100, 100]⟩, ⟨#[115, 117, 98]⟩, ⟨#[109, 117, 108]⟩, ⟨#[100, 105, 118]⟩, ⟨#[114, 101, 109]⟩, ⟨#[115, 104, 108]⟩, ⟨#[115, 104, 114]⟩, ⟨#[115, 97, 114]⟩]
theorem kinds_spec (hK : ∀ w' b, Ext w w' → KindsR w' b → K (.map (some b)) w') : vcall PP n_impl_kinds #[] w K := by
  apply c_impl_kinds; unfold F_impl_kinds
  refine vmkM_map mapIntKind fun b w1 hb hm he hs => ?_
  have h0 : KS w w1 b (fun _ => False) := ⟨he, by omega, [], hm, fun _ h => h.elim, fun _ h => by cases h⟩
  simp only [push_cast]
  refine h0.set (by decide) (kind_un (.inl rfl)) fun w2 h1 _ => ?_
  refine h1.set (by decide) (kind_un (.inr rfl)) fun w3 h2 _ => ?_
  refine h2.set (by decide) kind_cat fun w4 h3 _ => ?_
  refine h3.set (by decide) (kind_cmp (by decide) (by decide)) fun w5 h4 _ => ?_
  refine h4.set (by decide) (kind_cmp (by decide) (by decide)) fun w6 h5 _ => ?_
  refine h5.set (by decide) (kind_cmp (by decide) (by decide)) fun w7 h6 _ => ?_
  refine h6.set (by decide) kind_vec fun w8 h7 _ => ?_
  refine h7.set (by decide) kind_name fun w9 h8 _ => ?_
  refine h8.set (by decide) kind_cut fun w10 h9 _ => ?_
  refine h9.set (by decide) kind_if fun w11 h10 _ => ?_
  refine h10.set (by decide) (kind_bool (m := 0) (by decide) rfl kinds1_fn val24) fun w12 h11 _ => ?_
  refine h11.set (by decide) (kind_bool (m := 1) (by decide) rfl kinds2_fn val25) fun w13 h12 _ => ?_
  refine h12.set (by decide) (kind_bool (m := 2) (by decide) rfl kinds3_fn val26) fun w14 h13 _ => ?_
  refine h13.set (by decide) (kind_bool (m := 2) (by decide) rfl kinds4_fn val27) fun w15 h14 _ => ?_
  refine vbuildS_row1 (xs := binWords.map .string) u_Lstring (by kernel_rfl) zr_string (fun x hx => by obtain ⟨s, _, rfl⟩ := List.mem_map.1 hx; rfl) (by decide) fun bs w16 hb16 he16 hs16 hbl => ?_
  have hsl : Vals (· = bs) w16 (.slice (some ⟨bs, 0, none⟩) (binWords.map Value.string).length (binWords.map Value.string).length) (binWords.map Value.string) := hbl.sl1 rfl (by decide)
  have h15 := h14.ext he16
  have hbs : bs ≠ b := by
    obtain ⟨_, _, f, hm, _⟩ := h14
    have := hm.lt; omega
  have hlen : (binWords.map Value.string).length = 11 := rfl
  simp (disch := (simp only [push_cast]; done)) only [push_cast, hsl.len]
  rw [hlen]
  rw [hlen] at hsl
  refine vloop_up 11 (fun i u w' => u = [.int .i64 i] ∧ Vals (· = bs) w' (.slice (some ⟨bs, 0, none⟩) 11 11) (binWords.map Value.string) ∧ KS w w' b fun x => (3 ≤ x ∧ x < 3 + (i : Int)) ∨ x = 27 ∨ x = 26 ∨ x = 25 ∨ x = 24 ∨ x = 23 ∨ x = 22 ∨ x = 21 ∨ x = 20 ∨ x = 17 ∨ x = 16 ∨ x = 15 ∨ x = 14 ∨ x = 2 ∨ x = 1) ⟨rfl, hsl, h15.congr fun x => by simp only [or_false]; constructor <;> intro h <;> omega⟩ ?_
  rintro i _ _ w17 C hi ⟨rfl, hv, hk⟩ hC
  simp only [push_cast]
  refine vif_dec (fun a => ?_) (fun a => ?_)
  · have hi11 : i < 11 := by omega
    have e1 : (binWords.map Value.string).getD i undef = .string (binWords.getD i ⟨#[]⟩) := M.getD_map _ (show i < binWords.length from hi11) _ _
    have e2 : IntKind.i64.wrap (3 + (i : Int)) = 3 + (i : Int) := wrap64 (by omega) (by omega)
    rw [hv.iaddr (by kernel_rfl) (by omega) (by rw [hlen]; omega), Int.toNat_natCast, hv.load (by kernel_rfl) (by rw [hlen]; omega), e1]
    simp only [push_cast, e2]
    refine hk.set (by omega) (kind_bin (by omega) (by omega)) fun w18 hk2 hs2 => ?_
    try simp only [push_cast]
    rw [inc64' (by omega)]
    exact hC hi11 _ _ ⟨rfl, hv.same hs2 fun x hx _ e => hbs (hx.symm.trans e), hk2.congr fun x => by constructor <;> intro h <;> omega⟩
  · have : i = 11 := by omega
    subst this
    refine hK w17 b hk.1 (hk.kinds fun o => ?_)
    constructor
    · intro h
      have : (1 ≤ o ∧ o ≤ 17) ∨ (20 ≤ o ∧ o ≤ 27) := by omega
      unfold M.arity
      repeat' split
      all_goals omega
    · intro h
      have := M.arity_ops h
      omega
end Go.Proofs.YtcfgmgjofmbfhaaGreatDoor
end
section
namespace Go.Proofs.YtcfgmgjofmbfhaaGreatDoor
open Go Go.Vc Go.Proofs
variable {w : World} {K : Value → World → Prop} {F G : Nat → Prop}
theorem stTerm {b : Nat} {cs cs' : List Value} {t : TypeId} {t' : M.Tm} (h : Blk w b cs t) (hl : cs.length = 5) (hc : TmR F w cs' t') (hK : ∀ w', Same (· = b) w w' → w'.heap.size = w.heap.size → Blk w' b cs' t → K undef w') : vstore PP T_impl_Term (.pointer (some ⟨b, 0, none⟩)) (.agg ⟨cs'⟩) w K := by
  obtain ⟨kv, rfl, hk⟩ := hc.inv
  obtain ⟨css, hs, _⟩ := hk
  refine h.stAgg (by simp [hl]) g_impl_Term ?_ hK
  intro v hv
  simp only [List.mem_cons, List.not_mem_nil, or_false] at hv
  rcases hv with rfl | rfl | rfl | rfl | rfl
  · rfl
  · rfl
  · rfl
  · rfl
  · exact hs.one
theorem tmR_len {cs : List Value} {t : M.Tm} (h : TmR F w cs t) : cs.length = 5 := by
  obtain ⟨kv, rfl, _⟩ := h.inv; rfl
theorem plain_spec {v : Value} {t : M.Tm} (ht : TermR F w v t) (hK : ∀ w', Ext w w' → K (.bool (M.plainM t)) w') : vcall PP n_impl_plain #[v] w K := by
  apply c_impl_plain; unfold F_impl_plain
  obtain ⟨ksv, rfl, hks⟩ := ht
  refine vbox_agg fun b1 w1 hb1 he1 hs1 h1 => ?_
  have hk := hK _ he1
  unfold M.plainM at hk
  refine vjoin_of (fun u w' => u = [.bool (decide (t.op = 20) || decide (t.op = 22) || (decide (t.a = 0) && decide (t.b = 0)))] ∧ w' = w1) (fun C hC => ?_) ?_
  · simp (disch := (simp only [push_cast]; done)) only [push_cast, h1.ld0, h1.ld1, h1.ld2]
    refine vif_dec (fun a => ?_) (fun a => ?_)
    · exact hC _ _ ⟨by rw [decide_eq_true a]; rfl, rfl⟩
    refine vif_dec (fun b => ?_) (fun b => ?_)
    · exact hC _ _ ⟨by rw [decide_eq_true b]; simp, rfl⟩
    refine vif_dec (fun c => ?_) (fun c => ?_)
    · exact hC _ _ ⟨by rw [decide_eq_false a, decide_eq_false b, decide_eq_true c]; rfl, rfl⟩
    · exact hC _ _ ⟨by rw [decide_eq_false a, decide_eq_false b, decide_eq_false c]; rfl, rfl⟩
  · rintro u g w2 ⟨rfl, rfl⟩
    simp (disch := (simp only [push_cast]; done)) only [push_cast, h1.ld0, h1.ld3]
    refine vif_bool (fun a => ?_) (fun a => ?_)
    · rw [a, Bool.true_and] at hk
      refine vif_dec (fun b => ?_) (fun b => ?_)
      · rwa [decide_eq_true b, Bool.true_or] at hk
      · rw [decide_eq_false b, Bool.false_or] at hk
        exact hk
    · rwa [a, Bool.false_and] at hk
theorem look_kind {mb : Nat} {o : Int} {ok : Bool} (h : KindsR w mb) (ho : 0 ≤ M.arity o) (hK : ∀ v, KindR o v → K (if ok then .tuple #[v, .bool true] else v) w) : vlook PP T_M_map_int_impl_kind (.map (some mb)) (.int .i64 o) ok w K := by
  obtain ⟨f, hm, h1, h2⟩ := h
  obtain ⟨v, hv, hk⟩ := h1 o ho
  rw [vlook_in mapIntKind hm (isKey_int o) hv]
  exact hK v hk
theorem look_none {mb : Nat} {o : Int} (h : KindsR w mb) (ho : ¬ 0 ≤ M.arity o) (hK : K (.tuple #[.nilIface, .bool false]) w) : vlook PP T_M_map_int_impl_kind (.map (some mb)) (.int .i64 o) true w K := by
  obtain ⟨f, hm, h1, h2⟩ := h
  rw [vlook_out mapIntKind (z := .nilIface) (by unfold zeroB; kernel_rfl) hm (isKey_int o) fun v hv => ?_]
  · exact hK
  · obtain ⟨o', e, ha⟩ := h2 _ hv
    cases e; exact ho ha
theorem look_again {mb : Nat} {o : Int} {w w2 : World} {N : Value → World → Prop} (h : KindsR w mb) (ho : 0 ≤ M.arity o) (he : Ext w w2) (hN : ∀ v, KindR o v → (∀ w3, Ext w w3 → vlook PP T_M_map_int_impl_kind (.map (some mb)) (.int .i64 o) false w3 fun x y => x = v ∧ y = w3) → N v w) : vlook PP T_M_map_int_impl_kind (.map (some mb)) (.int .i64 o) false w N := by
  obtain ⟨f, hm, h1, h2⟩ := h
  obtain ⟨v, hv, hk⟩ := h1 o ho
  rw [vlook_in mapIntKind hm (isKey_int o) hv]
  refine hN v hk fun w3 he3 => ?_
  rw [vlook_in mapIntKind (hm.ext he3) (isKey_int o) hv]
  exact ⟨rfl, rfl⟩
theorem take_map_succ {α β : Type} (f : α → β) {l : List α} {i : Nat} (h : i < l.length) (d : α) : (l.take i).map f ++ [f (l.getD i d)] = (l.take (i + 1)).map f := by
  rw [List.take_add_one, List.getElem?_eq_getElem h, List.map_append, List.getD_eq_getElem?_getD, List.getElem?_eq_getElem h]
  rfl
theorem sortOf_spec : ∀ (t : M.Tm) {w : World} {K : Value → World → Prop} {F G : Nat → Prop} {mb : Nat} {dv v : Value} {ds : List M.Dcl}, KindsR w mb → DclsR F w dv ds → M.declOk ds = true → TermR G w v t →
    (∀ w', Ext w w' → K (.int .i64 (M.sortM ds t)) w') → vcall PP n_impl_sortOf #[.map (some mb), dv, v] w K := by
  refine M.Tm.ind fun t ih w K F G mb dv v ds hm hd hok ht hK => ?_
  apply c_impl_sortOf; unfold F_impl_sortOf
  obtain ⟨ksv, rfl, hks⟩ := ht
  refine vbox_agg fun b1 w1 hb1 he1 hs1 h1 => ?_
  have hm1 := hm.ext he1
  simp (disch := (simp only [push_cast]; done)) only [push_cast, h1.ld0]
  have hno : ¬ (M.formed t = true) → ∀ w', Ext w w' → K (.int .i64 (-1)) w' := fun hn w' he => by
    have := hK w' he
    rw [M.sortM_eq] at this
    unfold M.sortF at this
    rwa [if_neg (fun h => hn h.1)] at this
  by_cases ho' : ¬ 0 ≤ M.arity t.op
  · have ho := ho'
    refine look_none hm1 ho ?_
    simp only [push_cast]
    refine vjoin_of (fun _ _ => False) (fun C hC => ?_) (fun _ _ _ h => h.elim)
    refine vdraw_ext fun w2 he2 _ => ?_
    simp only [push_cast, true_and]
    refine hno (fun h => ho ?_) _ (he1.trans he2)
    simp only [M.formed, Bool.and_eq_true, decide_eq_true_eq] at h
    omega
  have ho : 0 ≤ M.arity t.op := by omega
  refine look_kind hm1 ho fun kv hkv => ?_
  simp only [push_cast, if_true]
  have hsm := hks.small
  refine vjoin_of (fun u w' => u = [] ∧ Ext w1 w' ∧ M.formed t = true) (fun C hC => ?_) ?_
  · refine vdraw_ext fun w2 he2 _ => ?_
    have h2 := h1.ext he2
    simp (disch := (simp only [push_cast]; done)) only [push_cast, h2.ld4, hks.len, true_and]
    refine hkv.kids _ _ fun w3 he3 => ?_
    have h3 := h2.ext he3
    simp (disch := (simp only [push_cast]; done)) only [push_cast, h3.ld4, hks.len, true_and, and_self]
    refine vif_dec (fun a => ?_) (fun a => ?_)
    · refine hno (fun h => ?_) _ ((he1.trans he2).trans he3)
      simp only [M.formed, Bool.and_eq_true, decide_eq_true_eq] at h
      omega
    · simp (disch := (simp only [push_cast]; done)) only [push_cast, h3.ldAgg (t := T_impl_Term) g_impl_Term, true_and]
      refine plain_spec (F := G) (t := t) ⟨ksv, rfl, hks.ext ((he1.trans he2).trans he3)⟩ fun w4 he4 => ?_
      simp only [push_cast, true_and]
      refine vif_bool (fun b => ?_) (fun b => ?_)
      · refine hno (fun h => ?_) _ (((he1.trans he2).trans he3).trans he4)
        simp only [M.formed, Bool.and_eq_true] at h
        rw [h.2] at b; cases b
      · refine hC _ _ ⟨rfl, (he2.trans he3).trans he4, ?_⟩
        simp only [M.formed, Bool.and_eq_true, decide_eq_true_eq]
        exact ⟨by omega, by simpa using b⟩
  · rintro u g w2 ⟨rfl, he2, hf⟩
    have h2 := h1.ext he2
    have hE := he1.trans he2
    have hzE := hE.size
    simp (disch := (simp only [push_cast]; done)) only [push_cast, h2.ld4, hks.len]
    have hfa := hf
    simp only [M.formed, Bool.and_eq_true, decide_eq_true_eq] at hfa
    have har : t.ks.length ≤ 3 := by
      have h1 := hfa.1
      unfold M.arity at h1
      repeat' split at h1
      all_goals omega
    refine vloop_up t.ks.length (fun i u w' => ∃ sv, u = [sv, .int .i64 i] ∧ Ext w2 w' ∧ OwnI PP T_Lint w' sv ((t.ks.take i).map (M.sortM ds)) ∧ (∀ b, sv.ownBlock = some b → w2.heap.size ≤ b) ∧ (∀ x, x ∈ (t.ks.take i).map (M.sortM ds) → x ≠ -1)) ⟨_, rfl, Same.refl _ _, OwnI.nil, (fun b h => by cases h), by simp⟩ ?_
    rintro i _ _ w3 C hi ⟨sv, rfl, he3, hsv, hnb, hall⟩ hC
    have hE3 := hE.trans he3
    have hks3 := hks.ext hE3
    simp only [push_cast]
    refine vif_dec (fun a => ?_) (fun a => ?_)
    · simp (disch := first | (simp only [push_cast]; done) | omega) only [push_cast, hks3.iaddr]
      refine hks3.load g_impl_Term (by omega) fun x hx => ?_
      obtain ⟨cs, rfl, hcs⟩ := hx.cells
      refine valloc_agg zr_impl_Term fun b2 w4 hb2 he4 hs4 h4 => ?_
      refine stTerm h4 rfl (hcs.ext he4) fun w5 hw5 hz5 h5 => ?_
      have he5 : Ext w3 w5 := Ext.then he4 hw5 fun y hy => by subst hy; omega
      rw [h5.ldAgg (t := T_impl_Term) (by rw [tmR_len hcs]; exact g_impl_Term)]
      refine ih _ (M.getD_mem (by omega) _) (hm.ext (hE3.trans he5)) (hd.ext (hE3.trans he5)) hok (hcs.ext he5).term fun w6 he6 => ?_
      simp only [push_cast]
      have he36 := he5.trans he6
      refine vif_dec (fun b => ?_) (fun b => ?_)
      · have := hK _ (hE3.trans he36)
        rw [M.sortM_eq] at this
        unfold M.sortF at this
        rwa [if_neg (fun h => h.2 (b ▸ List.mem_map_of_mem (M.getD_mem (by omega) _)))] at this
      · refine vbuildS1 u_Lint z_int zr_int rfl rfl (by decide) fun b3 w7 hb3 he7 hs7 h7 => ?_
        have hsv7 := (hsv.ext he36).ext he7
        have hlen : ((t.ks.take i).map (M.sortM ds)).length = i := by rw [List.length_map, List.length_take]; omega
        refine hsv7.app1 l_Lint h7 (by rw [hlen]; omega) (by rw [hlen]; omega) fun sv' w8 hsv' hw8 hn8 => ?_
        try simp only [push_cast]
        rw [inc64' (by omega)]
        rw [take_map_succ _ (by omega)] at hsv'
        refine hC (by omega) _ _ ⟨sv', rfl, Ext.then ((he3.trans he36).trans he7) hw8 fun y hy => hnb y hy, hsv', fun y hy => ?_, fun x hx => ?_⟩
        · rcases hn8 y hy with h | h
          · exact hnb y h
          · have := (he3.trans he36).size; have := he7.size; omega
        · rw [← take_map_succ _ (by omega) default] at hx
          rcases List.mem_append.1 hx with hx | hx
          · exact hall x hx
          · rw [List.mem_singleton.1 hx]; exact b
    · have hi' : i = t.ks.length := by omega
      subst hi'
      rw [List.take_length] at hsv hall
      have h3 := h2.ext he3
      simp (disch := (simp only [push_cast]; done)) only [push_cast, h3.ldAgg (t := T_impl_Term) g_impl_Term]
      refine hkv.sort _ _ F G _ _ _ _ ds t _ rfl (hd.ext hE3) ⟨ksv, rfl, hks3⟩ hsv.ints (by rw [List.length_map]; omega) (fun j => ?_) fun w4 he4 => ?_
      · by_cases hj : j < t.ks.length
        · rw [M.getD_map _ hj 0 default]; exact M.sort_range hok _
        · rw [List.getD_eq_getElem?_getD, List.getElem?_eq_none (by simpa using hj)]; simp
      · have := hK _ (hE3.trans he4)
        rw [M.sortM_eq] at this
        unfold M.sortF at this
        rwa [if_pos ⟨hf, fun h => hall _ h rfl⟩] at this
def nnB : M.Tm → Bool := M.Tm.fold fun t xs => decide (t.op ≠ 21) && xs.all id
theorem nnB_eq (t : M.Tm) : nnB t = (decide (t.op ≠ 21) && (t.ks.map nnB).all id) := M.Tm.fold_eq _ t
theorem nnB_iff {t : M.Tm} : nnB t = true ↔ t.op ≠ 21 ∧ ∀ k, k ∈ t.ks → nnB k = true := by
  rw [nnB_eq, Bool.and_eq_true, decide_eq_true_eq, List.all_eq_true]
  refine and_congr_right fun _ => ⟨fun h k hk => h _ (List.mem_map_of_mem hk), fun h y hy => ?_⟩
  obtain ⟨k, hk, rfl⟩ := List.mem_map.1 hy
  exact h k hk
theorem valueOf_specG : ∀ (t : M.Tm) {w : World} {K : Value → World → Prop} {F G : Nat → Prop} {mb : Nat} {dv v ev : Value} {ds : List M.Dcl} {env : List Int}, KindsR w mb → DclsR F w dv ds → M.envOk ds env = true → ((∃ eb, ev = .map (some eb) ∧ EnvM w eb ds env) ∨ nnB t = true) → TermR G w v t → M.sortM ds t ≠ -1 →
    (∀ w', Ext w w' → K (VecV (M.sortM ds t) (M.evalM ds env t)) w') → vcall PP n_impl_valueOf #[.map (some mb), dv, v, ev] w K := by
  refine M.Tm.ind fun t ih w K F G mb dv v ev ds env hm hd hen hE ht hsort hK => ?_
  have hok := (M.env_ok hen).1
  apply c_impl_valueOf; unfold F_impl_valueOf
  obtain ⟨ksv, rfl, hks⟩ := ht
  obtain ⟨hf, hkids, hsk⟩ := M.sort_parts hsort
  have hfa := hf
  simp only [M.formed, Bool.and_eq_true, decide_eq_true_eq] at hfa
  have har : t.ks.length ≤ 3 := by
    have h1 := hfa.1
    unfold M.arity at h1
    repeat' split at h1
    all_goals omega
  have ho : 0 ≤ M.arity t.op := by omega
  refine vbox_agg fun b1 w1 hb1 he1 hs1 h1 => ?_
  refine valloc_agg zr_impl_Vec fun b2 w2 hb2 he2 hs2 h2 => ?_
  have q1 := h1.ext he2
  have hE2 := he1.trans he2
  have hz2 := hE2.size
  have hsm := hks.small
  simp (disch := (simp only [push_cast]; done)) only [push_cast, q1.ld4, hks.len]
  refine vloop_up t.ks.length (fun i u w' => ∃ sv, u = [sv, .int .i64 i] ∧ Ext w2 w' ∧ OwnP PP T_Limpl_Vec w' sv ((t.ks.take i).map (M.vecM ds env)) ∧ (∀ b, sv.ownBlock = some b → w2.heap.size ≤ b)) ⟨_, rfl, Same.refl _ _, OwnP.nil _, fun b h => by cases h⟩ ?_
  rintro i _ _ w3 C hi ⟨sv, rfl, he3, hsv, hnb⟩ hC
  have hE3 := hE2.trans he3
  have hks3 := hks.ext hE3
  have hz3 := he3.size
  simp only [push_cast]
  refine vif_dec (fun a => ?_) (fun a => ?_)
  · simp (disch := first | (simp only [push_cast]; done) | omega) only [push_cast, hks3.iaddr]
    refine hks3.load g_impl_Term (by omega) fun x hx => ?_
    obtain ⟨cs, rfl, hcs⟩ := hx.cells
    refine valloc_agg zr_impl_Term fun b3 w4 hb3 he4 hs4 h4 => ?_
    refine stTerm h4 rfl (hcs.ext he4) fun w5 hw5 hz5 h5 => ?_
    have he5 : Ext w3 w5 := Ext.then he4 hw5 fun y hy => by subst hy; omega
    rw [h5.ldAgg (t := T_impl_Term) (by rw [tmR_len hcs]; exact g_impl_Term)]
    refine ih _ (M.getD_mem (by omega) _) (hm.ext (hE3.trans he5)) (hd.ext (hE3.trans he5)) hen (hE.imp (fun ⟨eb, e, h⟩ => ⟨eb, e, h.ext (hE3.trans he5)⟩) fun h => (nnB_iff.1 h).2 _ (M.getD_mem (by omega) _)) (hcs.ext he5).term (hkids _ (M.getD_mem (by omega) _)) fun w6 he6 => ?_
    have he36 := he5.trans he6
    refine vbuildS1 u_Limpl_Vec z_impl_Vec zr_impl_Vec rfl rfl (by decide) fun b4 w7 hb4 he7 hs7 h7 => ?_
    have hsv7 := (hsv.ext he36).ext he7
    have hlen : ((t.ks.take i).map (M.vecM ds env)).length = i := by rw [List.length_map, List.length_take]; omega
    refine Own.app1k hsv7 l_Limpl_Vec (by decide) h7 rfl (by intro v hv; simp only [List.mem_cons, List.not_mem_nil, or_false] at hv; rcases hv with rfl | rfl <;> rfl) (by rw [List.length_map, hlen]; omega) (by rw [List.length_map, hlen]; omega) fun sv' w8 hsv' hw8 hn8 => ?_
    rw [inc64' (by omega)]
    have hsv2 : OwnP PP T_Limpl_Vec w8 sv' ((t.ks.take (i + 1)).map (M.vecM ds env)) := by
      unfold OwnP
      rw [← take_map_succ _ (by omega) default, List.map_append, M.vecM_pair ds env (t.ks.getD i default)]
      exact hsv'
    refine hC (by omega) _ _ ⟨sv', rfl, Ext.then ((he3.trans he36).trans he7) hw8 fun y hy => hnb y hy, hsv2, fun y hy => ?_⟩
    rcases hn8 y hy with h | h
    · exact hnb y h
    · have := he36.size; have := he7.size; omega
  · have hi' : i = t.ks.length := by omega
    subst hi'
    rw [List.take_length] at hsv
    refine vdraw_ext fun w4 he4 _ => ?_
    have q4 := (q1.ext he3).ext he4
    have hE4 := hE3.trans he4
    have hks4 := hks.ext hE4
    simp (disch := (simp only [push_cast]; done)) only [push_cast, q4.ld0, q4.ldAgg (t := T_impl_Term) g_impl_Term, true_and]
    refine look_again (hm.ext hE4) ho (Same.refl _ _) fun kv hkv hlk => ⟨rfl, ?_⟩
    refine sortOf_spec t (hm.ext hE4) (hd.ext hE4) hok ⟨ksv, rfl, hks4⟩ fun w5 he5 => ?_
    have q5 := q4.ext he5
    simp (disch := (simp only [push_cast]; done)) only [push_cast, q5.ld0, q5.ldAgg (t := T_impl_Term) g_impl_Term, true_and, and_self]
    refine ⟨hlk _ he5, ?_⟩
    have hE5 := hE4.trans he5
    have hlv : (t.ks.map (M.vecM ds env)).length = t.ks.length := List.length_map _
    have hget : ∀ j, j < t.ks.length → (t.ks.map (M.vecM ds env)).getD j (0, 0) = (M.sortM ds (t.ks.getD j default), M.evalM ds env (t.ks.getD j default)) := fun j hj => by rw [M.getD_map _ hj _ default, M.vecM_pair]
    have hfst : (t.ks.map (M.vecM ds env)).map (·.1) = t.ks.map (M.sortM ds) := by
      rw [List.map_map]; exact List.map_congr_left fun k _ => M.vecM_sort ds env k
    refine hkv.value _ _ G _ _ _ _ ds env t _ rfl (fun h21 => hE.elim (fun ⟨eb, e, h⟩ => ⟨eb, e, h.ext hE5⟩) fun h => absurd h21 (nnB_iff.1 h).1) ⟨ksv, rfl, hks.ext hE5⟩ ((hsv.ext (he4.trans he5)).pairs) (by rw [hlv]; omega) (fun j hj => ?_) (by rw [hfst, ← hsk]; exact hsort) fun w6 he6 => ?_
    · rw [hlv] at hj
      rw [hget j hj]
      exact M.eval_in hen _ (hkids _ (M.getD_mem hj _))
    · simp only [push_cast, true_and]
      have h6 := (((h2.ext he3).ext he4).ext he5).ext he6
      refine stVec h6 fun w7 hw7 _ h7 => ?_
      rw [h7.lv (by kernel_rfl)]
      have hX : Ext w w7 := Ext.then (hE5.trans he6) hw7 fun y hy => by subst hy; have := he1.size; omega
      have := hK w7 hX
      rw [M.evalM_eq] at this
      exact this
theorem count_spec : ∀ (t : M.Tm) {w : World} {K : Value → World → Prop} {F : Nat → Prop} {v : Value} {m deep mb : Nat} {ty : TypeId}, TermR F w v t → Blk w mb [.int .i64 m] ty → (∀ b, F b → b ≠ mb) → m ≤ 20 → 1 ≤ deep → deep ≤ 8 →
    (∀ w' (r m' : Nat), Same (· = mb) w w' → Blk w' mb [.int .i64 m'] ty → m < m' → m' ≤ 21 → deep ≤ r → r ≤ 8 → (m + M.sizeM t ≤ 20 ∧ deep - 1 + M.deepM t ≤ 7 → m' = m + M.sizeM t ∧ r = deep - 1 + M.deepM t) → (¬ (m + M.sizeM t ≤ 20 ∧ deep - 1 + M.deepM t ≤ 7) → 20 < m' ∨ 7 < r) → K (.int .i64 r) w') →
    vcall PP n_impl_count #[v, .int .i64 deep, .pointer (some ⟨mb, 0, none⟩)] w K := by
  refine M.Tm.ind fun t ih w K F v m deep mb ty ht hb hF hm hd1 hd8 hK => ?_
  apply c_impl_count; unfold F_impl_count
  obtain ⟨ksv, rfl, hks⟩ := ht
  refine vbox_agg fun b1 w1 hb1 he1 hs1 h1 => ?_
  have hb' := hb.ext he1
  have hmlt := hb.lt
  have hsm := hks.small
  have hS := M.szT_all t
  have hD := M.dpT_all t
  simp (disch := (simp only [push_cast]; done)) only [push_cast, hb'.ld0]
  rw [inc64' (by omega)]
  refine hb'.st (i := 0) rfl rfl z_int rfl fun w2 hw2 hz2 h2 => ?_
  have hs2 : Same (· = mb) w w2 := (Same.of_ext he1).trans hw2
  have q2 := h1.same hw2 (by omega)
  replace h2 : Blk w2 mb [.int .i64 (m + 1 : Nat)] ty := h2
  refine vif_dec (fun a => ?_) (fun a => ?_)
  · exact hK w2 deep (m + 1) hs2 h2 (by omega) (by omega) (by omega) (by omega) (fun h => by omega) (fun h => by omega)
  simp (disch := (simp only [push_cast]; done)) only [push_cast, q2.ld4, hks.len]
  refine vloop_up t.ks.length (fun i u w' => ∃ r mi : Nat, u = [.int .i64 r, .int .i64 i] ∧ Same (· = mb) w2 w' ∧ Blk w' mb [.int .i64 mi] ty ∧ m < mi ∧ mi ≤ 21 ∧ deep ≤ r ∧ r ≤ 8 ∧ (m + 1 + M.szT t.ks i ≤ 20 ∧ deep + M.dpT t.ks i ≤ 7 → mi = m + 1 + M.szT t.ks i ∧ r = deep + M.dpT t.ks i) ∧ (¬ (m + 1 + M.szT t.ks i ≤ 20 ∧ deep + M.dpT t.ks i ≤ 7) → 20 < mi ∨ 7 < r))
    ⟨deep, m + 1, rfl, Same.refl _ _, h2, by omega, by omega, by omega, by omega, fun h => by simp [M.szT, M.dpT], fun h => by
      have e1 : M.szT t.ks 0 = 0 := rfl
      have e2 : M.dpT t.ks 0 = 0 := rfl
      omega⟩ ?_
  rintro i _ _ w3 C hi ⟨r, mi, rfl, hs3, h3, c1, c2, c3, c4, c5, c6⟩ hC
  have hS3 : Same (· = mb) w w3 := hs2.trans hs3
  have hks3 : TmsR F w3 ksv t.ks := hks.same hS3 fun b hb _ e => hF b hb e
  have hz3 := hS3.size
  simp only [push_cast]
  refine vif_dec (fun b => ?_) (fun b => ?_)
  · have hm1 := M.szT_mono (ks := t.ks) (i := i) (j := t.ks.length) (by omega) (Nat.le_refl _)
    have hm2 := M.dpT_mono (ks := t.ks) (i := i) (j := t.ks.length) (by omega) (Nat.le_refl _)
    have hm3 := M.szT_succ (ks := t.ks) (i := i) (by omega)
    have hm4 := M.dpT_succ (ks := t.ks) (i := i) (by omega)
    simp (disch := first | (simp only [push_cast]; done) | omega) only [push_cast, hks3.iaddr]
    refine hks3.load g_impl_Term (by omega) fun x hx => ?_
    obtain ⟨cs, rfl, hcs⟩ := hx.cells
    refine valloc_agg zr_impl_Term fun b2 w4 hb2 he4 hs4 h4 => ?_
    refine stTerm h4 rfl (hcs.ext he4) fun w5 hw5 hz5 h5 => ?_
    have he5 : Ext w3 w5 := Ext.then he4 hw5 fun y hy => by subst hy; omega
    have hb5 := h3.ext he5
    have hl3 := h3.lt
    simp (disch := (simp only [push_cast]; done)) only [push_cast, hb5.ld0]
    refine vif_dec (fun c => ?_) (fun c => ?_)
    · exact hK w5 r mi (hS3.trans (Same.of_ext he5)) hb5 c1 c2 c3 c4 (fun h => by omega) (fun h => by omega)
    · rw [h5.ldAgg (t := T_impl_Term) (by rw [tmR_len hcs]; exact g_impl_Term)]
      have e1 : IntKind.i64.wrap ((deep : Int) + 1) = ((deep + 1 : Nat) : Int) := inc64' (by omega)
      rw [e1]
      refine ih _ (M.getD_mem (by omega) _) (hcs.ext he5).term hb5 hF (by omega) (by omega) (by omega) fun w6 r2 m2 hs6 h6 d1 d2 d3 d4 d5 d6 => ?_
      simp only [push_cast]
      rw [inc64' (by omega), show max (r : Int) (r2 : Int) = ((max r r2 : Nat) : Int) by omega]
      refine hC (by omega) _ _ ⟨max r r2, m2, rfl, (hs3.trans (Same.of_ext he5)).trans hs6, h6, by omega, d2, by omega, by omega, fun h => ?_, fun h => ?_⟩
      · have := c5 (by omega)
        have := d5 (by omega)
        omega
      · by_cases hg : m + 1 + M.szT t.ks i ≤ 20 ∧ deep + M.dpT t.ks i ≤ 7
        · have := c5 hg
          have := d6 (by omega)
          omega
        · have := c6 hg
          omega
  · have hi' : i = t.ks.length := by omega
    subst hi'
    refine hK w3 r mi hS3 h3 c1 c2 c3 c4 (fun h => ?_) (fun h => ?_)
    · have := c5 (by omega)
      omega
    · exact c6 (by omega)
theorem TermMany_spec {v : Value} {t : M.Tm} (ht : TermR F w v t) (hK : ∀ w', Ext w w' → K (.tuple #[.int .i64 (M.manyM t), .int .i64 (M.lvlM t)]) w') : vcall PP n_impl_TermMany #[v] w K := by
  apply c_impl_TermMany; unfold F_impl_TermMany
  have ht' := ht.weaken (F' := fun b => b < w.heap.size) fun b _ h => h
  obtain ⟨ksv, rfl, hks⟩ := ht
  refine vbox_agg fun b1 w1 hb1 he1 hs1 h1 => ?_
  refine valloc_new zr_int fun b2 w2 hb2 he2 hs2 h2 => ?_
  replace h2 : Blk w2 b2 [.int .i64 0] T_int := h2
  refine h2.st (i := 0) rfl rfl z_int rfl fun w3 hw3 hz3 h3 => ?_
  replace h3 : Blk w3 b2 [.int .i64 ((0 : Nat) : Int)] T_int := h3
  have q3 := (h1.ext he2).same hw3 (by omega)
  have he3 : Ext w w3 := Ext.then (he1.trans he2) hw3 fun y hy => by subst hy; omega
  rw [q3.ldAgg (t := T_impl_Term) g_impl_Term]
  refine count_spec t (m := 0) (deep := 1) (ht'.ext he3) h3 (fun b hb e => by omega) (by omega) (by omega) (by omega) fun w4 r m' hs4 h4 c1 c2 c3 c4 c5 c6 => ?_
  have he4 : Ext w w4 := Ext.then he3 hs4 fun y hy => by subst hy; omega
  have hk := hK w4 he4
  have hfit : M.fits t = true ↔ M.sizeM t ≤ 20 ∧ M.deepM t ≤ 7 := M.fits_iff
  unfold M.manyM M.lvlM at hk
  simp (disch := (simp only [push_cast]; done)) only [push_cast, h4.ld0]
  refine vif_dec (fun a => ?_) (fun a => ?_)
  · rw [if_neg (fun h => by have hx := hfit.1 h; have := c5 (by omega); omega), if_neg (fun h => by have hx := hfit.1 h; have := c5 (by omega); omega)] at hk
    exact hk
  · refine vif_dec (fun b => ?_) (fun b => ?_)
    · rw [if_neg (fun h => by have hx := hfit.1 h; have := c5 (by omega); omega), if_neg (fun h => by have hx := hfit.1 h; have := c5 (by omega); omega)] at hk
      exact hk
    · have hg : M.sizeM t ≤ 20 ∧ M.deepM t ≤ 7 := by
        by_cases h : M.sizeM t ≤ 20 ∧ M.deepM t ≤ 7
        · exact h
        · have := c6 (by omega); omega
      have h5 := c5 (by omega)
      rw [if_pos (hfit.2 hg), if_pos (hfit.2 hg)] at hk
      rw [show m' = M.sizeM t by omega, show r = M.deepM t by omega]
      exact hk
end Go.Proofs.YtcfgmgjofmbfhaaGreatDoor
end
section
namespace Go.Proofs
open Go.Shelf
def YtcfgmgjofmbfhaaGreatDoor.trimL_ren : Go.Shelf.Ren := ⟨fun | 160 => 61 | 232 => 101 | 231 => 100 | 227 => 102 | 234 => 104 | 233 => 103 | 236 => 106 | 235 => 105 | 228 => 128 | 271 => 131 | 151 => 130 | 197 => 129 | 120 => 147 | 152 => 146 | 260 => 145 | 137 => 153 | 119 => 154 | 224 => 155 | 225 => 156 | 217 => 161 | 266 => 162 | n => n, fun | 9 => 9 | 4 => 4 | 3 => 3 | 5 => 5 | 117 => 139 | 116 => 138 | 0 => 0 | 124 => 142 | 21 => 21 | 105 => 154 | 46 => 175 | 119 => 174 | 139 => 178 | 138 => 177 | n => n, fun | 3 => 0 | 4 => 1 | n => n⟩
theorem YtcfgmgjofmbfhaaGreatDoor.trimL : Go.Proofs.Lays.n160 Tryz.prog YtcfgmgjofmbfhaaGreatDoor.trimL_ren := {
  mixed := by kernel_rfl
  f119 := Tryz.func154.trans (congrArg some (by kernel_rfl))
  f120 := Tryz.func147.trans (congrArg some (by kernel_rfl))
  f137 := Tryz.func153.trans (congrArg some (by kernel_rfl))
  f151 := Tryz.func130.trans (congrArg some (by kernel_rfl))
  f152 := Tryz.func146.trans (congrArg some (by kernel_rfl))
  f160 := Tryz.func61.trans (congrArg some (by kernel_rfl))
  f197 := Tryz.func129.trans (congrArg some (by kernel_rfl))
  f217 := Tryz.func161.trans (congrArg some (by kernel_rfl))
  f224 := Tryz.func155.trans (congrArg some (by kernel_rfl))
  f225 := Tryz.func156.trans (congrArg some (by kernel_rfl))
  f227 := Tryz.func102.trans (congrArg some (by kernel_rfl))
  f228 := Tryz.func128.trans (congrArg some (by kernel_rfl))
  f231 := Tryz.func100.trans (congrArg some (by kernel_rfl))
  f232 := Tryz.func101.trans (congrArg some (by kernel_rfl))
  f233 := Tryz.func103.trans (congrArg some (by kernel_rfl))
  f234 := Tryz.func104.trans (congrArg some (by kernel_rfl))
  f235 := Tryz.func105.trans (congrArg some (by kernel_rfl))
  f236 := Tryz.func106.trans (congrArg some (by kernel_rfl))
  f260 := Tryz.func145.trans (congrArg some (by kernel_rfl))
  f266 := Tryz.func162.trans (congrArg some (by kernel_rfl))
  f271 := Tryz.func131.trans (congrArg some (by kernel_rfl))
  t0 := Tryz.underlying0
  a0 := Tryz.isAgg0
  z0 := Tryz.sizeOf0
  v0 := Tryz.zeroValue0
  t3 := Tryz.underlying3
  a3 := Tryz.isAgg3
  z3 := Tryz.sizeOf3
  v3 := Tryz.zeroValue3
  t4 := Tryz.underlying4
  a4 := Tryz.isAgg4
  z4 := Tryz.sizeOf4
  v4 := Tryz.zeroValue4
  t5 := Tryz.underlying5
  a5 := Tryz.isAgg5
  z5 := Tryz.sizeOf5
  v5 := Tryz.zeroValue5
  t9 := Tryz.underlying9
  a9 := Tryz.isAgg9
  z9 := Tryz.sizeOf9
  v9 := Tryz.zeroValue9
  t21 := Tryz.underlying21
  a21 := Tryz.isAgg21
  z21 := Tryz.sizeOf21
  v21 := Tryz.zeroValue21
  t46 := Tryz.underlying175
  a46 := Tryz.isAgg175
  z46 := Tryz.sizeOf175
  v46 := Tryz.zeroValue175
  t105 := Tryz.underlying154
  a105 := Tryz.isAgg154
  z105 := Tryz.sizeOf154
  v105 := Tryz.zeroValue154
  t116 := Tryz.underlying138
  a116 := Tryz.isAgg138
  z116 := Tryz.sizeOf138
  t117 := Tryz.underlying139
  a117 := Tryz.isAgg139
  z117 := Tryz.sizeOf139
  v117 := Tryz.zeroValue139
  t119 := Tryz.underlying174
  a119 := Tryz.isAgg174
  z119 := Tryz.sizeOf174
  t124 := Tryz.underlying142
  a124 := Tryz.isAgg142
  z124 := Tryz.sizeOf142
  v124 := Tryz.zeroValue142
  t138 := Tryz.underlying177
  a138 := Tryz.isAgg177
  z138 := Tryz.sizeOf177
  v138 := Tryz.zeroValue177
  t139 := Tryz.underlying178
  a139 := Tryz.isAgg178
  z139 := Tryz.sizeOf178
  v139 := Tryz.zeroValue178
  g3 := by kernel_rfl
  g4 := by kernel_rfl }
end Go.Proofs
end
section
namespace Go.Proofs.YtcfgmgjofmbfhaaGreatDoor
open Go Go.Vc Go.Proofs
variable {w : World} {K : Value → World → Prop} {F G : Nat → Prop}
theorem dw_nil {α : Type} {p : α → Bool} : ∀ {l : List α}, l.dropWhile p = [] ↔ ∀ x, x ∈ l → p x = true
  | [] => by simp
  | a :: l => by
    rw [List.dropWhile_cons]
    split
    · rename_i h
      rw [dw_nil]
      constructor
      · intro hl x hx
        rcases List.mem_cons.1 hx with rfl | hx
        · exact h
        · exact hl x hx
      · intro hl x hx; exact hl x (List.mem_cons_of_mem _ hx)
    · rename_i h
      constructor
      · intro hl; cases hl
      · intro hl; exact absurd (hl a List.mem_cons_self) h
theorem dw_head {α : Type} {p : α → Bool} : ∀ {l : List α}, l.dropWhile p ≠ [] → ∃ x, x ∈ l.dropWhile p ∧ p x = false
  | [], h => absurd rfl h
  | a :: l, h => by
    rw [List.dropWhile_cons] at h ⊢
    split
    · rename_i hp
      rw [if_pos hp] at h
      exact dw_head h
    · rename_i hp
      exact ⟨a, List.mem_cons_self, by simpa using hp⟩
theorem dw_sub {α : Type} {p : α → Bool} : ∀ {l : List α} {x : α}, x ∈ l.dropWhile p → x ∈ l
  | [], _, h => h
  | a :: l, x, h => by
    rw [List.dropWhile_cons] at h
    split at h
    · exact List.mem_cons_of_mem _ (dw_sub h)
    · exact h
theorem trim_nil {l cs : List UInt8} : Lib.trimS l cs = [] ↔ ∀ x, x ∈ l → cs.contains x = true := by
  unfold Lib.trimS Lib.trimLeftS Lib.trimRightS
  rw [dw_nil]
  constructor
  · intro h
    by_cases hall : ∀ x, x ∈ l → cs.contains x = true
    · exact hall
    · exfalso
      have hne : List.dropWhile (fun x => cs.contains x) l.reverse ≠ [] := fun e => hall fun x hx => dw_nil.1 e x (List.mem_reverse.2 hx)
      obtain ⟨y, hy, hp⟩ := dw_head hne
      have h2 := h y (List.mem_reverse.2 hy)
      rw [hp] at h2; cases h2
  · intro h x hx
    exact h x (List.mem_reverse.1 (dw_sub (List.mem_reverse.1 hx)))
def abc : ByteArray := ⟨#[97, 98, 99, 100, 101, 102, 103, 104, 105, 106, 107, 108, 109, 110, 111, 112, 113, 114, 115, 116, 117, 118, 119, 120, 121, 122]⟩
theorem abc_in (x : UInt8) : abc.data.toList.contains x = (decide (97 ≤ x.toNat) && decide (x.toNat ≤ 122)) := by
  have hall : ∀ n : Fin 256, abc.data.toList.contains (UInt8.ofNat n.1) = (decide (97 ≤ (UInt8.ofNat n.1).toNat) && decide ((UInt8.ofNat n.1).toNat ≤ 122)) := by decide +kernel
  have := hall ⟨x.toNat, x.toNat_lt⟩
  simpa using this
theorem below_ext {w w' : World} (h : Go.RowKit.Below w.heap.size w w') : Ext w w' := ⟨h.os, h.tape, h.output, h.size, fun b hb _ => h.block b hb⟩
def lower (s : ByteArray) : Bool := s.data.all fun c => decide (97 ≤ c.toNat) && decide (c.toNat ≤ 122)
theorem Trim_spec {s : ByteArray} (hs : s.size ≤ 9223372036854775807) (hK : ∀ w' r, Ext w w' → (r = ⟨#[]⟩ ↔ lower s = true) → K (.string r) w') : vcall PP n_strings_Trim #[.string s, .string abc] w K := by
  refine ⟨by kernel_rfl, ?_⟩
  refine (Any.strings_Trim_laid YtcfgmgjofmbfhaaGreatDoor.trimL (by kernel_rfl) s abc w hs (by decide) (ascii_of_all (by decide))).mono ?_
  rintro e w' ⟨rfl, hb⟩
  refine hK w' _ (below_ext hb) ?_
  have e1 : ((⟨(Lib.trimS s.data.toList abc.data.toList).toArray⟩ : ByteArray) = ⟨#[]⟩) ↔ Lib.trimS s.data.toList abc.data.toList = [] := by
    constructor
    · intro h
      have h2 := congrArg (fun b : ByteArray => b.data.toList) h
      simpa using h2
    · intro h; rw [h]
  rw [e1, trim_nil]
  unfold lower
  rw [Array.all_eq_true_iff_forall_mem]
  constructor
  · intro h x hx
    rw [← abc_in]; exact h x (Array.mem_toList_iff.2 hx)
  · intro h x hx
    rw [abc_in]; exact h x (Array.mem_toList_iff.1 hx)
theorem stDecl {b : Nat} {x y : Value} {t : TypeId} {s : ByteArray} {n : Int} (h : Blk w b [x, y] t) (hK : ∀ w', Same (· = b) w w' → w'.heap.size = w.heap.size → Blk w' b [.string s, .int .i64 n] t → K undef w') : vstore PP T_impl_Decl (.pointer (some ⟨b, 0, none⟩)) (.agg ⟨[.string s, .int .i64 n]⟩) w K :=
  h.stAgg rfl (by kernel_rfl) (by intro v hv; simp only [List.mem_cons, List.not_mem_nil, or_false] at hv; rcases hv with rfl | rfl <;> rfl) hK
theorem nameOk_eq (s : ByteArray) : M.nameOk s = (decide (1 ≤ s.size) && decide (s.size ≤ 4) && decide (s ≠ M.tru) && lower s) := rfl
theorem DeclOk_spec {v : Value} {ds : List M.Dcl} (hd : DclsR F w v ds) (hK : ∀ w', Ext w w' → K (.bool (M.declOk ds)) w') : vcall PP n_impl_DeclOk #[v] w K := by
  apply c_impl_DeclOk; unfold F_impl_DeclOk
  simp (disch := (simp only [push_cast]; done)) only [push_cast, hd.len]
  refine vif_dec (fun a => ?_) (fun a => ?_)
  · have := hK w (Same.refl _ _)
    rwa [show M.declOk ds = false from by rw [Bool.eq_false_iff]; intro h; have := (M.decl_iff.1 h).1; omega] at this
  refine vloop_up ds.length (fun i u w' => u = [.int .i64 (M.bitT ds i), .int .i64 i] ∧ Ext w w' ∧ (∀ j, j < i → M.dclOk ds j = true) ∧ -4 * (i : Int) ≤ M.bitT ds i ∧ M.bitT ds i ≤ 4 * i) ⟨rfl, Same.refl _ _, by omega, by simp [M.bitT], by simp [M.bitT]⟩ ?_
  rintro i _ _ w1 C hi ⟨rfl, he1, hall, hb1, hb2⟩ hC
  have hd1 := hd.ext he1
  simp only [push_cast]
  refine vif_dec (fun b => ?_) (fun b => ?_)
  · have hil : i < ds.length := by omega
    have hno : M.dclOk ds i = false → ∀ w', Ext w w' → K (.bool false) w' := fun e w' he => by
      have := hK w' he
      rwa [show M.declOk ds = false from by rw [Bool.eq_false_iff]; intro h; have := (M.decl_iff.1 h).2.1 i hil; rw [e] at this; cases this] at this
    unfold M.dclOk at hno
    rw [nameOk_eq] at hno
    simp (disch := first | (simp only [push_cast]; done) | omega) only [push_cast, hd1.iaddr, hd1.load]
    obtain ⟨s, n, hsn⟩ : ∃ s n, ds.getD i dcl0 = (s, n) := ⟨_, _, rfl⟩
    simp only [hsn] at hno ⊢
    refine valloc_agg zr_impl_Decl fun b1 w2 hb1' he2 hs2 h2 => ?_
    refine stDecl h2 fun w3 hw3 _ h3 => ?_
    have hz1 := he1.size
    have he3 : Ext w w3 := Ext.then (he1.trans he2) hw3 fun y hy => by subst hy; omega
    refine vjoin_of (fun u w' => u = [] ∧ Ext w3 w' ∧ M.nameOk s = true) (fun C' hC' => ?_) ?_
    · simp (disch := first | (simp only [push_cast]; done) | omega) only [push_cast, h3.ld0, vlen_str str_string]
      refine vif_dec (fun c => ?_) (fun c => ?_)
      · exact hno (by rw [decide_eq_false (show ¬ 1 ≤ s.size by omega)]; simp) _ he3
      refine vif_dec (fun c2 => ?_) (fun c2 => ?_)
      · exact hno (by rw [decide_eq_false (show ¬ s.size ≤ 4 by omega)]; simp) _ he3
      refine vif_dec (fun c3 => ?_) (fun c3 => ?_)
      · exact hno (by rw [show decide (s ≠ M.tru) = false from decide_eq_false (fun h => h c3)]; simp) _ he3
      refine Trim_spec (by omega) fun w4 r he4 hr => ?_
      simp only [push_cast]
      refine vif_dec (fun c4 => ?_) (fun c4 => ?_)
      · have : lower s = false := by
          rw [Bool.eq_false_iff]; exact fun h => c4 (hr.2 h)
        exact hno (by rw [this]; simp) _ (he3.trans he4)
      · have c4' : r = ⟨#[]⟩ := by
          by_cases h : r = ⟨#[]⟩
          · exact h
          · exact absurd h c4
        refine hC' _ _ ⟨rfl, he4, ?_⟩
        rw [nameOk_eq, decide_eq_true (show 1 ≤ s.size by omega), decide_eq_true (show s.size ≤ 4 by omega), show decide (s ≠ M.tru) = true from decide_eq_true c3, hr.1 c4']
        rfl
    · rintro u g w4 ⟨rfl, he4, hnm⟩
      have h4 := h3.ext he4
      have hE4 := he3.trans he4
      have hd4 := hd.ext hE4
      rw [nameOk_eq] at hnm
      rw [hnm] at hno
      rw [hd4.cut (by intro e; subst e; simp at hil) (by kernel_rfl) (by omega)]
      simp only [push_cast]
      have hlt : (ds.take i).length = i := by rw [List.length_take]; omega
      refine ContainsFunc_Decl (p := fun j => decide (((ds.take i).getD j dcl0).1 = s)) (hd4.taken (by omega)) (fun j hj => ?_) fun w5 he5 => ?_
      · intro w' K he hK
        simp only [push_cast]
        apply c_impl_DeclOk_1; unfold F_impl_DeclOk_1
        refine vbox_agg fun b3 w6 hb3 he6 hs6 h6 => ?_
        have h7 := (h4.ext he).ext he6
        simp (disch := first | (simp only [push_cast]; done) | omega) only [push_cast, h6.ld0, h7.ld0]
        exact hK _ he6
      · rw [← idxI_nonneg]
        have h5 := h4.ext he5
        have efd : idxI (ds.take i).length (fun j => decide (((ds.take i).getD j dcl0).1 = s)) = M.findD (ds.take i) s := rfl
        rw [efd]
        refine vif_dec (fun c => ?_) (fun c => ?_)
        · exact hno (by rw [decide_eq_false (show ¬ M.findD (ds.take i) s < 0 by omega)]; simp) _ (hE4.trans he5)
        simp (disch := first | (simp only [push_cast]; done) | omega) only [push_cast, h5.ld1]
        refine vif_dec (fun c1 => ?_) (fun c1 => ?_)
        · exact hno (by rw [decide_eq_false (show ¬ 1 ≤ n by omega)]; simp) _ (hE4.trans he5)
        refine vif_dec (fun c2 => ?_) (fun c2 => ?_)
        · exact hno (by rw [decide_eq_false (show ¬ n ≤ 4 by omega)]; simp) _ (hE4.trans he5)
        have hsuc := M.bitT_succ hil
        rw [show ds.getD i (M.nada, 0) = (s, n) from hsn] at hsuc
        rw [wrap64 (x := M.bitT ds i + n) (by omega) (by omega), inc64' (by omega), show M.bitT ds i + n = M.bitT ds (i + 1) from hsuc.symm]
        refine hC (by omega) _ _ ⟨rfl, hE4.trans he5, fun j hj => ?_, by omega, by omega⟩
        by_cases e : j = i
        · subst e
          unfold M.dclOk
          rw [show ds.getD j (M.nada, 0) = (s, n) from hsn, nameOk_eq, hnm]
          simp only [Bool.true_and, Bool.and_eq_true, decide_eq_true_eq]
          exact ⟨⟨by omega, by omega⟩, by omega⟩
        · exact hall j (by omega)
  · have hi' : i = ds.length := by omega
    subst hi'
    have := hK w1 he1
    rw [M.bitT_all]
    have e : M.declOk ds = decide (M.bits ds ≤ 8) := by
      rw [Bool.eq_iff_iff, M.decl_iff, decide_eq_true_eq]
      exact ⟨fun h => h.2.2, fun h => ⟨by omega, hall, h⟩⟩
    rwa [e] at this
theorem TermSort_spec {dv v : Value} {ds : List M.Dcl} {t : M.Tm} (hd : DclsR F w dv ds) (ht : TermR G w v t) (hK : ∀ w', Ext w w' → K (.int .i64 (M.tsort ds t)) w') : vcall PP n_impl_TermSort #[dv, v] w K := by
  apply c_impl_TermSort; unfold F_impl_TermSort
  obtain ⟨cs, rfl, hcs⟩ := ht.cells
  refine vbox_agg fun b1 w1 hb1 he1 hs1 h1 => ?_
  rw [h1.ldAgg (t := T_impl_Term) (by rw [tmR_len hcs]; exact g_impl_Term)]
  refine TermMany_spec (hcs.ext he1).term fun w2 he2 => ?_
  simp only [push_cast]
  have hE2 := he1.trans he2
  refine DeclOk_spec (hd.ext hE2) fun w3 he3 => ?_
  have hE3 := hE2.trans he3
  have hk := hK w3 hE3
  unfold M.tsort at hk
  simp only [push_cast]
  refine vif_bool (fun a => ?_) (fun a => ?_)
  · rwa [if_neg (fun h => by rw [h.2] at a; cases a)] at hk
  · rw [Bool.not_eq_false'] at a
    refine vif_dec (fun b => ?_) (fun b => ?_)
    · rw [if_neg (fun h => by
        have h1 := M.fits_iff.1 h.1
        unfold M.manyM at b
        rw [if_pos h.1] at b; omega)] at hk
      exact hk
    · have hf : M.fits t = true := by
        by_cases h : M.fits t = true
        · exact h
        · unfold M.manyM at b
          rw [if_neg h] at b; omega
      refine vdraw_ext fun w4 he4 _ => ?_
      have h4 := ((h1.ext he2).ext he3).ext he4
      rw [h4.ldAgg (t := T_impl_Term) (by rw [tmR_len hcs]; exact g_impl_Term)]
      refine ⟨rfl, kinds_spec fun w5 mb he5 hm => ?_⟩
      have h5 := h4.ext he5
      rw [h5.ldAgg (t := T_impl_Term) (by rw [tmR_len hcs]; exact g_impl_Term)]
      have hE5 := (hE3.trans he4).trans he5
      refine ⟨⟨rfl, rfl⟩, sortOf_spec t hm (hd.ext hE5) a (hcs.ext hE5).term fun w6 he6 => ?_⟩
      have := hK w6 (hE5.trans he6)
      unfold M.tsort at this
      rwa [if_pos ⟨hf, a⟩] at this
end Go.Proofs.YtcfgmgjofmbfhaaGreatDoor
end
section
namespace Go.M
open Go.Vc
def oneM (t : Tm) (a : Int) : Int :=
  if t.op = 25 then (if a = 0 then 0 else -1) else if a < 1 then -1
  else if t.op = 22 then (if 0 ≤ t.b ∧ t.b ≤ t.a ∧ t.a < a then t.a - t.b + 1 else -1) else a
def bothM (o a b : Int) : Int :=
  if o = 26 ∨ o = 27 then (if a = 0 ∧ b = 0 then 0 else -1)
  else if a < 1 ∨ b < 1 then -1
  else if o = 14 then (if a + b ≤ 4 then a + b else -1)
  else if a ≠ b then -1 else if 15 ≤ o then 0 else a
section
variable {ds : List Dcl} {env : List Int} {t : Tm}
def kid (t : Tm) (i : Nat) : Tm := t.ks.getD i default
theorem formed_iff : formed t = true ↔ arity t.op = t.ks.length ∧ plainM t = true := by simp [formed]
theorem arity_one {o : Int} (h : arity o = 1) : o = 1 ∨ o = 2 ∨ o = 22 ∨ o = 25 := by
  unfold arity at h
  repeat' split at h
  all_goals omega
theorem arity_two {o : Int} (h : arity o = 2) : (3 ≤ o ∧ o ≤ 17) ∨ o = 26 ∨ o = 27 := by
  unfold arity at h
  repeat' split at h
  all_goals omega
theorem arity_three {o : Int} (h : arity o = 3) : o = 23 := by
  unfold arity at h
  repeat' split at h
  all_goals omega
theorem arity_zero {o : Int} (h : arity o = 0) : o = 20 ∨ o = 21 ∨ o = 24 := by
  unfold arity at h
  repeat' split at h
  all_goals omega
theorem ks1 (h : t.ks.length = 1) : t.ks = [kid t 0] := by
  unfold kid
  generalize t.ks = ks at h ⊢
  match ks, h with
  | [x], _ => rfl
theorem ks2 (h : t.ks.length = 2) : t.ks = [kid t 0, kid t 1] := by
  unfold kid
  generalize t.ks = ks at h ⊢
  match ks, h with
  | [x, y], _ => rfl
theorem ks3 (h : t.ks.length = 3) : t.ks = [kid t 0, kid t 1, kid t 2] := by
  unfold kid
  generalize t.ks = ks at h ⊢
  match ks, h with
  | [x, y, z], _ => rfl
theorem kid_mem {i : Nat} (h : i < t.ks.length) : kid t i ∈ t.ks := getD_mem h _
theorem sort_bad (h : ¬ formed t = true) : sortM ds t = -1 := by
  rw [sortM_eq]; unfold sortF; rw [if_neg (fun x => h x.1)]
theorem sort_leaf (hf : formed t = true) (h : t.ks.length = 0) : sortM ds t = sortK ds t [] := by
  have : t.ks = [] := List.eq_nil_of_length_eq_zero h
  rw [sortM_eq, this]; unfold sortF
  rw [if_pos ⟨hf, by simp⟩]
  rfl
theorem sort_one (hd : declOk ds = true) (hf : formed t = true) (h : t.ks.length = 1) : sortM ds t = oneM t (sortM ds (kid t 0)) := by
  have ha := arity_one (o := t.op) (by have := (formed_iff.1 hf).1; omega)
  have hr := sort_range hd (kid t 0)
  rw [sortM_eq, ks1 h]
  unfold sortF
  simp only [List.map_cons, List.map_nil, List.mem_singleton]
  generalize sortM ds (kid t 0) = s at hr ⊢
  unfold oneM
  by_cases hs : s = -1
  · subst hs
    rw [if_neg (by simp)]
    split
    · split <;> omega
    · rfl
  · rw [if_pos ⟨hf, fun e => hs e.symm⟩]
    unfold sortK
    rw [if_neg (by omega), if_neg (by omega)]
    by_cases h25 : t.op = 25
    · rw [if_pos (by omega), if_pos h25]
      by_cases h0 : s = 0
      · simp [h0]
      · simp [h0]
    rw [if_neg (by omega), if_neg h25, if_neg (by omega)]
    simp only [List.getD_cons_zero]
    by_cases h22 : t.op = 22
    · rw [if_pos h22, if_pos h22]
      by_cases h1 : s < 1
      · rw [if_pos h1, if_neg (by omega)]
      · rw [if_neg h1]
    · rw [if_neg h22, if_neg h22, if_pos (by omega)]
      by_cases h1 : s < 1
      · rw [if_pos h1, if_neg (by omega)]
      · rw [if_neg h1, if_pos (by omega)]
theorem sort_two (hd : declOk ds = true) (hf : formed t = true) (h : t.ks.length = 2) : sortM ds t = bothM t.op (sortM ds (kid t 0)) (sortM ds (kid t 1)) := by
  have ha := arity_two (o := t.op) (by have := (formed_iff.1 hf).1; omega)
  have hr := sort_range hd (kid t 0)
  have hr1 := sort_range hd (kid t 1)
  rw [sortM_eq, ks2 h]
  unfold sortF
  simp only [List.map_cons, List.map_nil, List.mem_cons, List.not_mem_nil, or_false]
  generalize sortM ds (kid t 0) = a at hr ⊢
  generalize sortM ds (kid t 1) = b at hr1 ⊢
  unfold bothM
  by_cases hs : -1 = a ∨ -1 = b
  · rw [if_neg (fun x => x.2 hs)]
    repeat' split
    all_goals omega
  · rw [if_pos ⟨hf, hs⟩]
    unfold sortK
    have hany : ([a, b].any fun x => decide (x ≠ 0)) = decide (a ≠ 0 ∨ b ≠ 0) := by
      simp only [List.any_cons, List.any_nil, Bool.or_false, Bool.decide_or]
    rw [hany]
    simp only [List.getD_cons_zero, List.getD_cons_succ, decide_eq_true_eq]
    rw [if_neg (show ¬ t.op = 20 by omega), if_neg (show ¬ t.op = 21 by omega), if_neg (show ¬ t.op = 23 by omega), if_neg (show ¬ t.op = 22 by omega)]
    repeat' split
    all_goals omega
theorem sort_three (hf : formed t = true) (h : t.ks.length = 3) : sortM ds t = if sortM ds (kid t 0) ≠ 0 ∨ sortM ds (kid t 1) ≠ sortM ds (kid t 2) then -1 else sortM ds (kid t 1) := by
  have ha := arity_three (o := t.op) (by have := (formed_iff.1 hf).1; omega)
  rw [sortM_eq, ks3 h]
  unfold sortF
  simp only [List.map_cons, List.map_nil, List.mem_cons, List.not_mem_nil, or_false]
  generalize sortM ds (kid t 0) = a
  generalize sortM ds (kid t 1) = b
  generalize sortM ds (kid t 2) = c
  by_cases hs : -1 = a ∨ -1 = b ∨ -1 = c
  · rw [if_neg (fun x => x.2 hs)]
    split
    · rfl
    · omega
  · rw [if_pos ⟨hf, hs⟩]
    unfold sortK
    rw [if_neg (by omega), if_neg (by omega), if_neg (by omega), if_pos ha]
    simp only [List.getD_cons_zero, List.getD_cons_succ]
    by_cases hc : a = 0 ∧ b = c
    · rw [if_pos hc, if_neg (by omega)]
    · rw [if_neg hc, if_pos (by omega)]
theorem vec_kid {i : Nat} (h : i < t.ks.length) : (t.ks.map (vecM ds env)).getD i (0, 0) = (sortM ds (kid t i), evalM ds env (kid t i)) := by
  rw [getD_map _ h _ default, vecM_pair]; rfl
theorem good_kid (h : sortM ds t ≠ -1) {i : Nat} (hi : i < t.ks.length) : sortM ds (kid t i) ≠ -1 := (sort_parts h).2.1 _ (kid_mem hi)
theorem in_kid (he : envOk ds env = true) (h : sortM ds t ≠ -1) {i : Nat} (hi : i < t.ks.length) : inS (sortM ds (kid t i)) (evalM ds env (kid t i)) := eval_in he _ (good_kid h hi)
theorem one_good {a : Int} (ho : t.op = 1 ∨ t.op = 2 ∨ t.op = 22 ∨ t.op = 25) (h : oneM t a ≠ -1) : (t.op = 25 → a = 0) ∧ (t.op ≠ 25 → 1 ≤ a) ∧ (t.op = 22 → 0 ≤ t.b ∧ t.b ≤ t.a ∧ t.a < a) := by
  unfold oneM at h
  repeat' split at h
  all_goals omega
theorem both_good {o a b : Int} (h : bothM o a b ≠ -1) : ((o = 26 ∨ o = 27) → a = 0 ∧ b = 0) ∧ (¬ (o = 26 ∨ o = 27) → 1 ≤ a ∧ 1 ≤ b ∧ (o = 14 → a + b ≤ 4) ∧ (o ≠ 14 → a = b)) := by
  unfold bothM at h
  repeat' split at h
  all_goals omega
theorem eval_un (he : envOk ds env = true) (h : sortM ds t ≠ -1) (ho : t.op = 1 ∨ t.op = 2) : t.ks.length = 1 ∧ vok (sortM ds (kid t 0)) (evalM ds env (kid t 0)) = true ∧ evalM ds env t = (vecUn t.op (sortM ds (kid t 0)) (evalM ds env (kid t 0))).1.2 := by
  have hf := (sort_parts h).1
  have hl : t.ks.length = 1 := by have := (formed_iff.1 hf).1; rcases ho with e | e <;> rw [e] at this <;> simp [arity] at this <;> omega
  have hs := sort_one (env_ok he).1 hf hl
  rw [hs] at h
  have hg := one_good (by omega) h
  have hv := inS_pos (in_kid he (by rw [hs]; exact h) (i := 0) (by omega)) (by omega)
  refine ⟨hl, hv, ?_⟩
  rw [evalM_eq]
  unfold valK vecUn
  rw [if_neg (by omega), if_neg (by omega), if_neg (by omega), if_neg (by omega), if_neg (by omega), if_neg (by omega), if_neg (by omega), if_neg (by omega), if_pos (by omega), vec_kid (by omega), if_pos ⟨hv, ho⟩]
theorem eval_cut (he : envOk ds env = true) (h : sortM ds t ≠ -1) (ho : t.op = 22) : t.ks.length = 1 ∧ vok (sortM ds (kid t 0)) (evalM ds env (kid t 0)) = true ∧ evalM ds env t = (vecCut (sortM ds (kid t 0)) (evalM ds env (kid t 0)) t.a t.b).1.2 := by
  have hf := (sort_parts h).1
  have hl : t.ks.length = 1 := by have := (formed_iff.1 hf).1; rw [ho] at this; simp [arity] at this; omega
  have hs := sort_one (env_ok he).1 hf hl
  rw [hs] at h
  have hg := one_good (by omega) h
  have hv := inS_pos (in_kid he (by rw [hs]; exact h) (i := 0) (by omega)) (by omega)
  refine ⟨hl, hv, ?_⟩
  rw [evalM_eq]
  unfold valK vecCut
  rw [if_neg (by omega), if_neg (by omega), if_neg (by omega), if_neg (by omega), if_neg (by omega), if_neg (by omega), if_neg (by omega), if_pos (by omega), vec_kid (by omega), if_pos ⟨hv, hg.2.2 ho⟩]
theorem eval_bin (he : envOk ds env = true) (h : sortM ds t ≠ -1) (ho : 3 ≤ t.op) (ho' : t.op ≤ 14) : t.ks.length = 2 ∧ vok (sortM ds (kid t 0)) (evalM ds env (kid t 0)) = true ∧ vok (sortM ds (kid t 1)) (evalM ds env (kid t 1)) = true ∧ evalM ds env t = (vecBin t.op (sortM ds (kid t 0)) (evalM ds env (kid t 0)) (sortM ds (kid t 1)) (evalM ds env (kid t 1))).1.2 := by
  have hf := (sort_parts h).1
  have hl : t.ks.length = 2 := by
    have := (formed_iff.1 hf).1
    unfold arity at this
    rw [if_neg (by omega), if_neg (by omega), if_neg (by omega), if_neg (by omega), if_pos (by omega)] at this; omega
  have hs := sort_two (env_ok he).1 hf hl
  rw [hs] at h
  have hg := (both_good h).2 (by omega)
  have hv := inS_pos (in_kid he (by rw [hs]; exact h) (i := 0) (by omega)) (by omega)
  have hv1 := inS_pos (in_kid he (by rw [hs]; exact h) (i := 1) (by omega)) (by omega)
  refine ⟨hl, hv, hv1, ?_⟩
  rw [evalM_eq]
  unfold valK vecBin
  rw [if_neg (show ¬ t.op = 20 by omega), if_neg (show ¬ t.op = 21 by omega), if_neg (show ¬ t.op = 24 by omega), if_neg (show ¬ t.op = 25 by omega), if_neg (show ¬ t.op = 26 by omega), if_neg (show ¬ t.op = 27 by omega), if_neg (show ¬ t.op = 23 by omega), if_neg (show ¬ t.op = 22 by omega), if_neg (show ¬ t.op ≤ 2 by omega), vec_kid (by omega), vec_kid (by omega), if_pos (show vok _ _ = true ∧ vok _ _ = true from ⟨hv, hv1⟩)]
  by_cases h14 : t.op = 14
  · rw [if_pos h14, if_pos h14, if_pos (hg.2.2.1 h14)]
  · rw [if_neg h14, if_neg h14, if_neg (show ¬ 15 ≤ t.op by omega), if_pos (show 3 ≤ t.op ∧ t.op ≤ 13 ∧ sortM ds (kid t 0) = sortM ds (kid t 1) from ⟨ho, by omega, hg.2.2.2 h14⟩)]
theorem eval_cmp (he : envOk ds env = true) (h : sortM ds t ≠ -1) (ho : 15 ≤ t.op) (ho' : t.op ≤ 17) : t.ks.length = 2 ∧ vok (sortM ds (kid t 0)) (evalM ds env (kid t 0)) = true ∧ vok (sortM ds (kid t 1)) (evalM ds env (kid t 1)) = true ∧ evalM ds env t = b2i (vecCmp t.op (sortM ds (kid t 0)) (evalM ds env (kid t 0)) (sortM ds (kid t 1)) (evalM ds env (kid t 1))).1 := by
  have hf := (sort_parts h).1
  have hl : t.ks.length = 2 := by
    have := (formed_iff.1 hf).1
    unfold arity at this
    rw [if_neg (by omega), if_neg (by omega), if_neg (by omega), if_neg (by omega), if_pos (by omega)] at this; omega
  have hs := sort_two (env_ok he).1 hf hl
  rw [hs] at h
  have hg := (both_good h).2 (by omega)
  have hv := inS_pos (in_kid he (by rw [hs]; exact h) (i := 0) (by omega)) (by omega)
  have hv1 := inS_pos (in_kid he (by rw [hs]; exact h) (i := 1) (by omega)) (by omega)
  refine ⟨hl, hv, hv1, ?_⟩
  rw [evalM_eq]
  unfold valK vecCmp
  rw [if_neg (by omega), if_neg (by omega), if_neg (by omega), if_neg (by omega), if_neg (by omega), if_neg (by omega), if_neg (by omega), if_neg (by omega), if_neg (by omega), vec_kid (by omega), vec_kid (by omega), if_neg (by omega), if_pos (by omega), if_pos ⟨hv, hv1, hg.2.2.2 (by omega), ho, ho'⟩]
theorem eval_no (he : envOk ds env = true) (h : sortM ds t ≠ -1) (ho : t.op = 25) : t.ks.length = 1 ∧ inS 0 (evalM ds env (kid t 0)) ∧ evalM ds env t = 1 - evalM ds env (kid t 0) := by
  have hf := (sort_parts h).1
  have hl : t.ks.length = 1 := by have := (formed_iff.1 hf).1; rw [ho] at this; simp [arity] at this; omega
  have hs := sort_one (env_ok he).1 hf hl
  rw [hs] at h
  have hg := one_good (by omega) h
  have hv := in_kid he (by rw [hs]; exact h) (i := 0) (by omega)
  rw [hg.1 ho] at hv
  refine ⟨hl, hv, ?_⟩
  rw [evalM_eq]
  unfold valK
  rw [if_neg (by omega), if_neg (by omega), if_neg (by omega), if_pos (by omega), vec_kid (by omega)]
  simp only
  rcases inS_zero hv with e | e <;> rw [e] <;> rfl
theorem eval_two (he : envOk ds env = true) (h : sortM ds t ≠ -1) (ho : t.op = 26 ∨ t.op = 27) : t.ks.length = 2 ∧ inS 0 (evalM ds env (kid t 0)) ∧ inS 0 (evalM ds env (kid t 1)) ∧ evalM ds env t = if t.op = 26 then evalM ds env (kid t 0) * evalM ds env (kid t 1) else max (evalM ds env (kid t 0)) (evalM ds env (kid t 1)) := by
  have hf := (sort_parts h).1
  have hl : t.ks.length = 2 := by have := (formed_iff.1 hf).1; rcases ho with e | e <;> rw [e] at this <;> simp [arity] at this <;> omega
  have hs := sort_two (env_ok he).1 hf hl
  rw [hs] at h
  have hg := (both_good h).1 ho
  have hv := in_kid he (by rw [hs]; exact h) (i := 0) (by omega)
  have hv1 := in_kid he (by rw [hs]; exact h) (i := 1) (by omega)
  rw [hg.1] at hv
  rw [hg.2] at hv1
  refine ⟨hl, hv, hv1, ?_⟩
  rw [evalM_eq]
  unfold valK
  rw [if_neg (by omega), if_neg (by omega), if_neg (by omega), if_neg (by omega), vec_kid (by omega), vec_kid (by omega)]
  simp only
  rcases ho with e | e
  · rw [if_pos e, if_pos e]
    rcases inS_zero hv with e | e <;> rcases inS_zero hv1 with e' | e' <;> rw [e, e'] <;> rfl
  · rw [if_neg (by omega), if_pos e, if_neg (by omega)]
    rcases inS_zero hv with e | e <;> rcases inS_zero hv1 with e' | e' <;> rw [e, e'] <;> rfl
theorem eval_if (he : envOk ds env = true) (h : sortM ds t ≠ -1) (ho : t.op = 23) : t.ks.length = 3 ∧ inS 0 (evalM ds env (kid t 0)) ∧ evalM ds env t = if evalM ds env (kid t 0) = 1 then evalM ds env (kid t 1) else evalM ds env (kid t 2) := by
  have hf := (sort_parts h).1
  have hl : t.ks.length = 3 := by have := (formed_iff.1 hf).1; rw [ho] at this; simp [arity] at this; omega
  have hs := sort_three (ds := ds) hf hl
  have hv := in_kid he h (i := 0) (by omega)
  rw [hs] at h
  have hg : sortM ds (kid t 0) = 0 := by
    split at h
    · exact absurd rfl h
    · omega
  rw [hg] at hv
  refine ⟨hl, hv, ?_⟩
  rw [evalM_eq]
  unfold valK
  rw [if_neg (by omega), if_neg (by omega), if_neg (by omega), if_neg (by omega), if_neg (by omega), if_neg (by omega), if_pos ho, vec_kid (by omega), vec_kid (by omega), vec_kid (by omega)]
theorem eval_leaf (h : t.op = 20 ∨ t.op = 21 ∨ t.op = 24) : evalM ds env t = if t.op = 20 then t.b else if t.op = 21 then env.getD (findD ds t.s).toNat 0 else 1 := by
  rw [evalM_eq]
  unfold valK
  rcases h with h | h | h
  · rw [if_pos h, if_pos h]
  · rw [if_neg (by omega), if_pos h, if_neg (by omega), if_pos h]
  · rw [if_neg (by omega), if_neg (by omega), if_pos h, if_neg (by omega), if_neg (by omega)]
theorem name_found (h : sortM ds t ≠ -1) (ho : t.op = 21) : 0 ≤ findD ds t.s := by
  obtain ⟨_, _, hs⟩ := sort_parts h
  rw [hs] at h
  unfold sortK at h
  rw [if_neg (by omega), if_pos ho] at h
  split at h
  · exact absurd rfl h
  · omega
end
end Go.M
end
section
namespace Go.Proofs.YtcfgmgjofmbfhaaGreatDoor
open Go Go.Vc Go.Proofs
variable {w : World} {K : Value → World → Prop} {F G : Nat → Prop}
theorem l2Name_spec {s : ByteArray} (hs : s.size ≤ 9223372036854775807) (hK : K (.bool (M.nameOk s)) w) : vcall PP n_spec_l2Name #[.string s] w K := by
  apply c_spec_l2Name; unfold F_spec_l2Name
  rw [nameOk_eq] at hK
  refine vloop_up s.size (fun i u w' => u = [.int .i64 i] ∧ w' = w ∧ ∀ j, j < i → (decide (97 ≤ (s.data.getD j 0).toNat) && decide ((s.data.getD j 0).toNat ≤ 122)) = true) ⟨rfl, rfl, by omega⟩ ?_
  rintro i _ _ w1 C hi ⟨rfl, rfl, hall⟩ hC
  simp (disch := first | (simp only [push_cast]; done) | omega) only [push_cast, vlen_str str_string]
  have hno : i < s.size → (decide (97 ≤ (s.data.getD i 0).toNat) && decide ((s.data.getD i 0).toNat ≤ 122)) = false → lower s = false := fun hlt h => by
    rw [Bool.eq_false_iff]
    intro hl
    unfold lower at hl
    rw [Array.all_eq_true_iff_forall_mem] at hl
    have hd : i < s.data.size := hlt
    have := hl (s.data.getD i 0) (by rw [Array.getD_eq_getD_getElem?, Array.getElem?_eq_getElem hd]; exact Array.getElem_mem hd)
    rw [h] at this; cases this
  refine vif_dec (fun a => ?_) (fun a => ?_)
  · have hlt : i < s.size := by omega
    rw [vindex_str str_string (by omega) (by omega), Int.toNat_natCast]
    simp only [push_cast]
    refine vif_dec (fun b => ?_) (fun b => ?_)
    · rw [hno hlt (by rw [decide_eq_false (show ¬ 97 ≤ (s.data.getD i 0).toNat by omega)]; rfl), Bool.and_false] at hK
      exact hK
    rw [vindex_str str_string (by omega) (by omega), Int.toNat_natCast]
    simp only [push_cast]
    refine vif_dec (fun c => ?_) (fun c => ?_)
    · rw [hno hlt (by rw [decide_eq_false (show ¬ (s.data.getD i 0).toNat ≤ 122 by omega)]; simp), Bool.and_false] at hK
      exact hK
    rw [inc64' (by omega)]
    refine hC hlt _ _ ⟨rfl, rfl, fun j hj => ?_⟩
    by_cases e : j = i
    · subst e
      simp only [Bool.and_eq_true, decide_eq_true_eq]; omega
    · exact hall j (by omega)
  · have hi' : i = s.size := by omega
    have hl : lower s = true := by
      unfold lower
      rw [Array.all_eq_true_iff_forall_mem]
      intro x hx
      obtain ⟨j, hj, rfl⟩ := Array.getElem_of_mem hx
      have := hall j (by have : s.data.size = s.size := rfl; omega)
      rwa [Array.getD_eq_getD_getElem?, Array.getElem?_eq_getElem hj] at this
    rw [hl, Bool.and_true] at hK
    try simp (disch := first | (simp only [push_cast]; done) | omega) only [push_cast, vlen_str str_string]
    refine vif_dec (fun b => ?_) (fun b => ?_)
    · refine vif_dec (fun c => ?_) (fun c => ?_)
      · rw [decide_eq_true (show 1 ≤ s.size by omega), decide_eq_true (show s.size ≤ 4 by omega)] at hK
        exact hK
      · rw [decide_eq_false (show ¬ s.size ≤ 4 by omega)] at hK
        simpa using hK
    · rw [decide_eq_false (show ¬ 1 ≤ s.size by omega)] at hK
      simpa using hK
theorem l2Find_spec {v : Value} {ds : List M.Dcl} {s : ByteArray} (hd : DclsR F w v ds) (hK : K (.int .i64 (M.findD ds s)) w) : vcall PP n_spec_l2Find #[v, .string s] w K := by
  apply c_spec_l2Find; unfold F_spec_l2Find
  have hsm := hd.small
  refine vloop_up ds.length (fun i u w' => u = [.int .i64 i] ∧ w' = w ∧ ∀ j, j < i → (ds.getD j dcl0).1 ≠ s) ⟨rfl, rfl, by omega⟩ ?_
  rintro i _ _ w1 C hi ⟨rfl, rfl, hall⟩ hC
  simp (disch := (simp only [push_cast]; done)) only [push_cast, hd.len]
  refine vif_dec (fun a => ?_) (fun a => ?_)
  · try simp (disch := first | (simp only [push_cast]; done) | omega) only [push_cast, hd.iaddr]
    try simp (disch := first | (simp only [push_cast]; done) | omega) only [push_cast, hd.load0]
    refine vif_dec (fun b => ?_) (fun b => ?_)
    · rw [M.findD_of (by omega) b hall] at hK
      exact hK
    · rw [inc64' (by omega)]
      refine hC (by omega) _ _ ⟨rfl, rfl, fun j hj => ?_⟩
      by_cases e : j = i
      · subst e; exact b
      · exact hall j (by omega)
  · rw [M.findD_none (fun j hj => hall j (by omega))] at hK
    exact hK
theorem spec_DeclOk_spec {v : Value} {ds : List M.Dcl} (hd : DclsR F w v ds) (hsz : ∀ i, i < ds.length → (ds.getD i dcl0).1.size ≤ 9223372036854775807) (hK : ∀ w', Ext w w' → K (.bool (M.declOk ds)) w') : vcall PP n_spec_DeclOk #[v] w K := by
  apply c_spec_DeclOk; unfold F_spec_DeclOk
  simp (disch := (simp only [push_cast]; done)) only [push_cast, hd.len]
  refine vif_dec (fun a => ?_) (fun a => ?_)
  · have := hK w (Same.refl _ _)
    rwa [show M.declOk ds = false from by rw [Bool.eq_false_iff]; intro h; have := (M.decl_iff.1 h).1; omega] at this
  refine vloop_up ds.length (fun i u w' => u = [.int .i64 (M.bitT ds i), .int .i64 i] ∧ Ext w w' ∧ (∀ j, j < i → M.dclOk ds j = true) ∧ -4 * (i : Int) ≤ M.bitT ds i ∧ M.bitT ds i ≤ 4 * i) ⟨rfl, Same.refl _ _, by omega, by simp [M.bitT], by simp [M.bitT]⟩ ?_
  rintro i _ _ w1 C hi ⟨rfl, he1, hall, hb1, hb2⟩ hC
  have hd1 := hd.ext he1
  simp (disch := (simp only [push_cast]; done)) only [push_cast, hd1.len]
  refine vif_dec (fun b => ?_) (fun b => ?_)
  · have hil : i < ds.length := by omega
    have hno : M.dclOk ds i = false → ∀ w', Ext w w' → K (.bool false) w' := fun e w' he => by
      have := hK w' he
      rwa [show M.declOk ds = false from by rw [Bool.eq_false_iff]; intro h; have := (M.decl_iff.1 h).2.1 i hil; rw [e] at this; cases this] at this
    unfold M.dclOk at hno
    refine vdraw_ext fun w2 he2 _ => ?_
    have hd2 := hd1.ext he2
    have hE2 := he1.trans he2
    simp (disch := first | (simp only [push_cast]; done) | omega) only [push_cast, hd2.iaddr, true_and]
    simp (disch := first | (simp only [push_cast]; done) | omega) only [push_cast, hd2.load0, hd2.load1, true_and]
    have hsi := hsz i hil
    have hsuc := M.bitT_succ hil
    obtain ⟨s, n, hsn⟩ : ∃ s n, ds.getD i dcl0 = (s, n) := ⟨_, _, rfl⟩
    rw [show ds.getD i (M.nada, 0) = (s, n) from hsn] at hsuc
    simp only [hsn] at hno hsi ⊢
    refine l2Name_spec hsi ?_
    simp only [push_cast, true_and]
    refine vif_bool (fun c => ?_) (fun c => ?_)
    · exact hno (by rw [show M.nameOk s = false by simpa using c]; simp) _ hE2
    rw [Bool.not_eq_false'] at c
    rw [c] at hno
    have ecut : ∀ (w : World) (K : Value → World → Prop), vslice PP T_Limpl_Decl v none (some (.int .i64 (i : Int))) none w K = K (cutV v i) w := fun w K => hd2.cut (by intro e; subst e; simp at hil) (by kernel_rfl) (by omega)
    have el0 : ∀ (K : Value → World → Prop), vload PP T_string (.pointer (some ((eaddr v 2 i).add 0))) w2 K = K (.string s) w2 := fun K => by rw [hd2.load0 o_string hil, hsn]
    have el1 : ∀ (K : Value → World → Prop), vload PP T_int (.pointer (some ((eaddr v 2 i).add 1))) w2 K = K (.int .i64 n) w2 := fun K => by rw [hd2.load1 o_int hil, hsn]
    try simp (disch := first | (simp only [push_cast]; done) | omega) only [push_cast, hd2.iaddr, true_and]
    try simp (disch := first | (simp only [push_cast]; done) | omega) only [push_cast, hd2.iaddr, el0, el1, ecut, true_and]
    refine vif_dec (fun c1 => ?_) (fun c1 => ?_)
    · exact hno (by rw [decide_eq_false (show ¬ 1 ≤ n by omega)]; simp) _ hE2
    refine vif_dec (fun c2 => ?_) (fun c2 => ?_)
    · exact hno (by rw [decide_eq_false (show ¬ n ≤ 4 by omega)]; simp) _ hE2
    refine l2Find_spec (hd2.taken (by omega)) ?_
    simp only [push_cast, true_and]
    refine vif_dec (fun c3 => ?_) (fun c3 => ?_)
    · exact hno (by rw [decide_eq_false (show ¬ M.findD (ds.take i) s < 0 by omega)]; simp) _ hE2
    try simp (disch := first | (simp only [push_cast]; done) | omega) only [push_cast, hd2.iaddr]
    try simp (disch := first | (simp only [push_cast]; done) | omega) only [push_cast, el1]
    rw [wrap64 (x := M.bitT ds i + n) (by omega) (by omega), inc64' (by omega), show M.bitT ds i + n = M.bitT ds (i + 1) from hsuc.symm]
    refine hC (by omega) _ _ ⟨rfl, hE2, fun j hj => ?_, by omega, by omega⟩
    by_cases e : j = i
    · subst e
      unfold M.dclOk
      rw [show ds.getD j (M.nada, 0) = (s, n) from hsn, c]
      simp only [Bool.true_and, Bool.and_eq_true, decide_eq_true_eq]
      exact ⟨⟨by omega, by omega⟩, by omega⟩
    · exact hall j (by omega)
  · have hi' : i = ds.length := by omega
    subst hi'
    have := hK w1 he1
    rw [M.bitT_all]
    have e : M.declOk ds = decide (M.bits ds ≤ 8) := by
      rw [Bool.eq_iff_iff, M.decl_iff, decide_eq_true_eq]
      exact ⟨fun h => h.2.2, fun h => ⟨by omega, hall, h⟩⟩
    rwa [e] at this
theorem spec_TermMany_spec : ∀ (t : M.Tm) {w : World} {K : Value → World → Prop} {F : Nat → Prop} {v : Value}, TermR F w v t → (∀ w', Ext w w' → K (.tuple #[.int .i64 (M.manyM t), .int .i64 (M.lvlM t)]) w') → vcall PP n_spec_TermMany #[v] w K := by
  refine M.Tm.ind fun t ih w K F v ht hK => ?_
  apply c_spec_TermMany; unfold F_spec_TermMany
  obtain ⟨ksv, rfl, hks⟩ := ht
  refine vbox_agg fun b1 w1 hb1 he1 hs1 h1 => ?_
  have hsm := hks.small
  have hS := M.szT_all t
  have hD := M.dpT_all t
  have hfit : M.fits t = true ↔ M.sizeM t ≤ 20 ∧ M.deepM t ≤ 7 := M.fits_iff
  refine vloop_up t.ks.length (fun i u w' => ∃ n d : Nat, u = [.int .i64 n, .int .i64 d, .int .i64 i] ∧ Ext w1 w' ∧ n ≤ 41 ∧ d ≤ 8 ∧ (1 + M.szT t.ks i ≤ 20 ∧ M.dpT t.ks i ≤ 7 → n = 1 + M.szT t.ks i ∧ d = M.dpT t.ks i) ∧ (¬ (1 + M.szT t.ks i ≤ 20 ∧ M.dpT t.ks i ≤ 7) → 20 < n ∨ 7 < d))
    ⟨1, 0, rfl, Same.refl _ _, by omega, by omega, fun h => ⟨rfl, rfl⟩, fun h => by
      have e1 : M.szT t.ks 0 = 0 := rfl
      have e2 : M.dpT t.ks 0 = 0 := rfl
      omega⟩ ?_
  rintro i _ _ w2 C hi ⟨n, d, rfl, he2, c1, c2, c3, c4⟩ hC
  have h2 := h1.ext he2
  have hE := he1.trans he2
  have hks2 := hks.ext hE
  have hm1 := M.szT_mono (ks := t.ks) (i := i) (j := t.ks.length) (by omega) (Nat.le_refl _)
  have hm2 := M.dpT_mono (ks := t.ks) (i := i) (j := t.ks.length) (by omega) (Nat.le_refl _)
  have e1 : IntKind.i64.wrap ((d : Int) + 1) = ((d + 1 : Nat) : Int) := inc64' (by omega)
  have hfin : (20 < n ∨ i = t.ks.length) → ∀ K', (K' = K) → vif (.bool (decide ((20 : Int) < n))) (K' (.tuple #[.int .i64 21, .int .i64 8]) w2) (vif (.bool (decide ((7 : Int) < ((d + 1 : Nat) : Int)))) (K' (.tuple #[.int .i64 21, .int .i64 8]) w2) (K' (.tuple #[.int .i64 (n : Int), .int .i64 ((d + 1 : Nat) : Int)]) w2)) := by
    rintro hor K' rfl
    have hk := hK w2 hE
    unfold M.manyM M.lvlM at hk
    have hbad : (20 < n ∨ 7 < d + 1) → ¬ (M.fits t = true) := fun h hf => by
      have hx := hfit.1 hf
      have := c3 (by omega)
      omega
    refine vif_dec (fun a => ?_) (fun a => ?_)
    · rw [if_neg (hbad (by omega)), if_neg (hbad (by omega))] at hk
      exact hk
    refine vif_dec (fun b => ?_) (fun b => ?_)
    · rw [if_neg (hbad (by omega)), if_neg (hbad (by omega))] at hk
      exact hk
    · have hi' : i = t.ks.length := by omega
      subst hi'
      have hg : M.sizeM t ≤ 20 ∧ M.deepM t ≤ 7 := by
        by_cases h : 1 + M.szT t.ks t.ks.length ≤ 20 ∧ M.dpT t.ks t.ks.length ≤ 7
        · have := c3 h; omega
        · have := c4 h; omega
      have h3 := c3 (by omega)
      rw [if_pos (hfit.2 hg), if_pos (hfit.2 hg)] at hk
      rw [show n = M.sizeM t by omega, show d + 1 = M.deepM t by omega]
      exact hk
  refine vjoin_of (fun u w' => u = [] ∧ w' = w2 ∧ i < t.ks.length ∧ n ≤ 20) (fun C' hC' => ?_) ?_
  · simp (disch := (simp only [push_cast]; done)) only [push_cast, h2.ld4, hks2.len, e1]
    refine vif_dec (fun a => ?_) (fun a => ?_)
    · refine vif_dec (fun b => ?_) (fun b => ?_)
      · exact hC' _ _ ⟨rfl, rfl, by omega, by omega⟩
      · exact hfin (.inl (by omega)) K rfl
    · exact hfin (.inr (by omega)) K rfl
  · rintro u g w3 ⟨rfl, rfl, hlt, hn⟩
    have hm3 := M.szT_succ (ks := t.ks) (i := i) (by omega)
    have hm4 := M.dpT_succ (ks := t.ks) (i := i) (by omega)
    have hm5 := M.szT_mono (ks := t.ks) (i := i + 1) (j := t.ks.length) (by omega) (Nat.le_refl _)
    simp (disch := first | (simp only [push_cast]; done) | omega) only [push_cast, h2.ld4, hks2.iaddr]
    refine hks2.load g_impl_Term (by omega) fun x hx => ?_
    refine ih _ (M.getD_mem (by omega) _) hx fun w4 he4 => ?_
    have hfk := M.fits_iff (t := t.ks.getD i default)
    have hn2 : M.manyM (t.ks.getD i default) ≤ 21 := by
      unfold M.manyM
      split
      · have := hfk.1 (by assumption); omega
      · omega
    have hd2 : M.lvlM (t.ks.getD i default) ≤ 8 := by
      unfold M.lvlM
      split
      · have := hfk.1 (by assumption); omega
      · omega
    have hgood : M.sizeM (t.ks.getD i default) ≤ 20 ∧ M.deepM (t.ks.getD i default) ≤ 7 → M.manyM (t.ks.getD i default) = M.sizeM (t.ks.getD i default) ∧ M.lvlM (t.ks.getD i default) = M.deepM (t.ks.getD i default) := fun h => by
      unfold M.manyM M.lvlM
      rw [if_pos (hfk.2 h), if_pos (hfk.2 h)]
      exact ⟨rfl, rfl⟩
    have hbad : ¬ (M.sizeM (t.ks.getD i default) ≤ 20 ∧ M.deepM (t.ks.getD i default) ≤ 7) → M.manyM (t.ks.getD i default) = 21 ∧ M.lvlM (t.ks.getD i default) = 8 := fun h => by
      unfold M.manyM M.lvlM
      rw [if_neg (fun x => h (hfk.1 x)), if_neg (fun x => h (hfk.1 x))]
      exact ⟨rfl, rfl⟩
    generalize M.manyM (t.ks.getD i default) = nk at hn2 hgood hbad ⊢
    generalize M.lvlM (t.ks.getD i default) = dk at hd2 hgood hbad ⊢
    simp only [push_cast]
    refine l1Max_spec ?_
    try simp only [push_cast]
    rw [inc64' (by omega), wrap64 (x := (n : Int) + nk) (by omega) (by omega), show (n : Int) + (nk : Int) = ((n + nk : Nat) : Int) by omega, show max (d : Int) (dk : Int) = ((max d dk : Nat) : Int) by omega]
    refine hC (by omega) _ _ ⟨n + nk, max d dk, rfl, he2.trans he4, by omega, by omega, fun h => ?_, fun h => ?_⟩
    · have := c3 (by omega)
      have := hgood (by omega)
      omega
    · by_cases hg : M.sizeM (t.ks.getD i default) ≤ 20 ∧ M.deepM (t.ks.getD i default) ≤ 7
      · have h5 := hgood hg
        by_cases hg2 : 1 + M.szT t.ks i ≤ 20 ∧ M.dpT t.ks i ≤ 7
        · have := c3 hg2; omega
        · have := c4 hg2; omega
      · have := hbad hg; omega
end Go.Proofs.YtcfgmgjofmbfhaaGreatDoor
end
