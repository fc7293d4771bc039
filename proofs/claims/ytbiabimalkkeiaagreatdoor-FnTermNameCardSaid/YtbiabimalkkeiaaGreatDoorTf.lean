/- The table of kinds is made. -/
import Derived.Test.YtbiabimalkkeiaaGreatDoorTe
set_option linter.unusedVariables false
set_option linter.unusedSimpArgs false
set_option linter.unnecessarySimpa false
set_option linter.unusedSectionVars false
namespace Go.Proofs.YtbiabimalkkeiaaGreatDoor
open Go Go.Vc Go.Proofs
variable {w : World} {K : Value → World → Prop} {F G : Nat → Prop}

theorem mapIntKind : mapB PP T_M_map_int_impl_kind (.int .i64) T_impl_kind := ⟨_, map_M_map_int_impl_kind, by kernel_rfl⟩
/-- A table that holds these kinds. -/
def KS (w0 w : World) (b : Nat) (S : Int → Prop) : Prop := Ext w0 w ∧ w0.heap.size ≤ b ∧ ∃ f, MapF (.int .i64) w b f ∧ (∀ o, S o → ∃ v, (Value.int .i64 o, v) ∈ f ∧ KindR o v) ∧ ∀ p, p ∈ f → ∃ o, p.1 = .int .i64 o ∧ S o
theorem KS.set {w0 w : World} {b : Nat} {S : Int → Prop} {o : Int} {v : Value} (h : KS w0 w b S) (hn : ¬ S o) (hv : KindR o v) (hK : ∀ w', KS w0 w' b (fun x => x = o ∨ S x) → Same (· = b) w w' → K undef w') :
    vmset PP T_M_map_int_impl_kind (.map (some b)) (.int .i64 o) v w K := by
  obtain ⟨he, hb, f, hm, h1, h2⟩ := h
  refine vmset_new mapIntKind hm (isKey_int o) (fun x hx => ?_) fun w' hm' hs _ => hK w' ⟨Ext.then he hs fun y hy => by subst hy; exact hb, hb, _, hm', fun x hx => ?_, fun p hp => ?_⟩ hs
  · obtain ⟨o', he', hS⟩ := h2 _ hx
    cases he'; exact hn hS
  · by_cases e : x = o
    · subst e
      exact ⟨v, List.mem_append.2 (.inr (List.mem_singleton.2 rfl)), hv⟩
    · obtain ⟨u, hu, hk⟩ := h1 x (hx.resolve_left e)
      exact ⟨u, List.mem_append.2 (.inl hu), hk⟩
  · rcases List.mem_append.1 hp with hp | hp
    · obtain ⟨o', he', hS⟩ := h2 _ hp
      exact ⟨o', he', .inr hS⟩
    · rw [List.mem_singleton.1 hp]
      exact ⟨o, rfl, .inl rfl⟩
theorem KS.ext {w0 w w' : World} {b : Nat} {S : Int → Prop} (h : KS w0 w b S) (he : Ext w w') : KS w0 w' b S := by
  obtain ⟨h1, h2, f, hm, r⟩ := h; exact ⟨h1.trans he, h2, f, hm.ext he, r⟩
theorem KS.congr {w0 w : World} {b : Nat} {S S' : Int → Prop} (h : KS w0 w b S) (hS : ∀ x, S x ↔ S' x) : KS w0 w b S' := by
  have : S = S' := funext fun x => propext (hS x)
  subst this; exact h
theorem KS.kinds {w0 w : World} {b : Nat} {S : Int → Prop} (h : KS w0 w b S) (hS : ∀ o, S o ↔ 0 ≤ M.arity o) : KindsR w b := by
  obtain ⟨he, hb, f, hm, h1, h2⟩ := h
  refine ⟨f, hm, fun o ho => h1 o ((hS o).2 ho), fun p hp => ?_⟩
  obtain ⟨o, h3, h4⟩ := h2 p hp
  exact ⟨o, h3, (hS o).1 h4⟩
@[push_cast] theorem bd_named (s : ByteArray) (n : Int) : vbuild PP T_impl_named [(0, .string s), (1, .int .i64 n)] w K = K (KV s n) w := vbuild_eq b_impl_named (us := [[.string s], [.int .i64 n]]) rfl rfl
@[push_cast] theorem bd_unKind (s : ByteArray) (n : Int) : vbuild PP T_impl_unKind [(0, KV s n)] w K = K (KV s n) w := vbuild_eq b_impl_unKind (us := [[.string s, .int .i64 n]]) rfl rfl
@[push_cast] theorem bd_binKind (s : ByteArray) (n : Int) : vbuild PP T_impl_binKind [(0, KV s n)] w K = K (KV s n) w := vbuild_eq b_impl_binKind (us := [[.string s, .int .i64 n]]) rfl rfl
@[push_cast] theorem bd_catKind (s : ByteArray) (n : Int) : vbuild PP T_impl_catKind [(0, KV s n)] w K = K (KV s n) w := vbuild_eq b_impl_catKind (us := [[.string s, .int .i64 n]]) rfl rfl
@[push_cast] theorem bd_cmpKind (s : ByteArray) (n : Int) : vbuild PP T_impl_cmpKind [(0, KV s n)] w K = K (KV s n) w := vbuild_eq b_impl_cmpKind (us := [[.string s, .int .i64 n]]) rfl rfl
@[push_cast] theorem bd_cutKind (s : ByteArray) (n : Int) : vbuild PP T_impl_cutKind [(0, KV s n)] w K = K (KV s n) w := vbuild_eq b_impl_cutKind (us := [[.string s, .int .i64 n]]) rfl rfl
@[push_cast] theorem bd_ifKind (s : ByteArray) (n : Int) : vbuild PP T_impl_ifKind [(0, KV s n)] w K = K (KV s n) w := vbuild_eq b_impl_ifKind (us := [[.string s, .int .i64 n]]) rfl rfl
@[push_cast] theorem bd_vecKind : vbuild PP T_impl_vecKind [] w K = K (KV ⟨#[]⟩ 0) w := vbuild_eq b_impl_vecKind (us := []) rfl rfl
@[push_cast] theorem bd_nameKind : vbuild PP T_impl_nameKind [] w K = K (KV ⟨#[]⟩ 0) w := vbuild_eq b_impl_nameKind (us := []) rfl rfl
@[push_cast] theorem bd_boolKind (s : ByteArray) (n : Int) (f : Fn) (a c : Array Value) : vbuild PP T_impl_boolKind [(0, KV s n), (1, .func f a c)] w K = K (.agg ⟨[.string s, .int .i64 n, .func f a c]⟩) w := vbuild_eq b_impl_boolKind (us := [[.string s, .int .i64 n], [.func f a c]]) rfl rfl
theorem val24 (ds : List M.Dcl) (env : List Int) (t : M.Tm) (ys : List (Int × Int)) (h : t.op = 24) : M.valK ds env t ys = M.b2i true := by simp [M.valK, h, M.b2i]
theorem val25 (ds : List M.Dcl) (env : List Int) (t : M.Tm) (ys : List (Int × Int)) (h : t.op = 25) : M.valK ds env t ys = M.b2i (decide ((ys.getD 0 (0, 0)).2 = 0)) := by unfold M.valK; simp only [h]; rfl
theorem val26 (ds : List M.Dcl) (env : List Int) (t : M.Tm) (ys : List (Int × Int)) (h : t.op = 26) : M.valK ds env t ys = M.b2i (decide ((ys.getD 0 (0, 0)).2 = 1) && decide ((ys.getD 1 (0, 0)).2 = 1)) := by unfold M.valK; simp only [h]; rfl
theorem val27 (ds : List M.Dcl) (env : List Int) (t : M.Tm) (ys : List (Int × Int)) (h : t.op = 27) : M.valK ds env t ys = M.b2i (decide ((ys.getD 0 (0, 0)).2 = 1) || decide ((ys.getD 1 (0, 0)).2 = 1)) := by unfold M.valK; simp only [h]; rfl
def binWords : List ByteArray := [⟨#[97, 110, 100]⟩, ⟨#[111, 114]⟩, ⟨#[120, 111, 114]⟩, ⟨#[97, 100, 100]⟩, ⟨#[115, 117, 98]⟩, ⟨#[109, 117, 108]⟩, ⟨#[100, 105, 118]⟩, ⟨#[114, 101, 109]⟩, ⟨#[115, 104, 108]⟩, ⟨#[115, 104, 114]⟩, ⟨#[115, 97, 114]⟩]
theorem kinds_spec (hK : ∀ w' b, Ext w w' → KindsR w' b → K (.map (some b)) w') : vcall PP n_impl_kinds #[] w K := by
  apply c_impl_kinds; unfold F_impl_kinds
  refine vmkM_map mapIntKind fun b w1 hb hm he hs => ?_
  have h0 : KS w w1 b (fun _ => False) := ⟨he, by omega, [], hm, fun _ h => h.elim, fun _ h => by cases h⟩
  simp only [push_cast]
  refine h0.set (by decide) (kind_un (.inl rfl)) fun w2 h1 _ => ?_
  refine h1.set (by decide) (kind_un (.inr rfl)) fun w3 h2 _ => ?_
  refine h2.set (by decide) kind_cat fun w4 h3 _ => ?_
  refine h3.set (by decide) (kind_cmp (by decide) (by decide)) fun w5 h4 _ => ?_
  refine h4.set (by decide) (kind_cmp (by decide) (by decide)) fun w6 h5 _ => ?_
  refine h5.set (by decide) (kind_cmp (by decide) (by decide)) fun w7 h6 _ => ?_
  refine h6.set (by decide) kind_vec fun w8 h7 _ => ?_
  refine h7.set (by decide) kind_name fun w9 h8 _ => ?_
  refine h8.set (by decide) kind_cut fun w10 h9 _ => ?_
  refine h9.set (by decide) kind_if fun w11 h10 _ => ?_
  refine h10.set (by decide) (kind_bool (m := 0) (by decide) rfl kinds1_fn val24) fun w12 h11 _ => ?_
  refine h11.set (by decide) (kind_bool (m := 1) (by decide) rfl kinds2_fn val25) fun w13 h12 _ => ?_
  refine h12.set (by decide) (kind_bool (m := 2) (by decide) rfl kinds3_fn val26) fun w14 h13 _ => ?_
  refine h13.set (by decide) (kind_bool (m := 2) (by decide) rfl kinds4_fn val27) fun w15 h14 _ => ?_
  refine vbuildS_row1 (xs := binWords.map .string) u_Lstring (by kernel_rfl) zr_string (fun x hx => by obtain ⟨s, _, rfl⟩ := List.mem_map.1 hx; rfl) (by decide) fun bs w16 hb16 he16 hs16 hbl => ?_
  have hsl : Vals (· = bs) w16 (.slice (some ⟨bs, 0, none⟩) (binWords.map Value.string).length (binWords.map Value.string).length) (binWords.map Value.string) := hbl.sl1 rfl (by decide)
  have h15 := h14.ext he16
  have hbs : bs ≠ b := by
    obtain ⟨_, _, f, hm, _⟩ := h14
    have := hm.lt; omega
  have hlen : (binWords.map Value.string).length = 11 := rfl
  simp (disch := (simp only [push_cast]; done)) only [push_cast, hsl.len]
  rw [hlen]
  rw [hlen] at hsl
  refine vloop_up 11 (fun i u w' => u = [.int .i64 i] ∧ Vals (· = bs) w' (.slice (some ⟨bs, 0, none⟩) 11 11) (binWords.map Value.string) ∧ KS w w' b fun x => (3 ≤ x ∧ x < 3 + (i : Int)) ∨ x = 27 ∨ x = 26 ∨ x = 25 ∨ x = 24 ∨ x = 23 ∨ x = 22 ∨ x = 21 ∨ x = 20 ∨ x = 17 ∨ x = 16 ∨ x = 15 ∨ x = 14 ∨ x = 2 ∨ x = 1) ⟨rfl, hsl, h15.congr fun x => by simp only [or_false]; constructor <;> intro h <;> omega⟩ ?_
  rintro i _ _ w17 C hi ⟨rfl, hv, hk⟩ hC
  simp only [push_cast]
  refine vif_dec (fun a => ?_) (fun a => ?_)
  · have hi11 : i < 11 := by omega
    have e1 : (binWords.map Value.string).getD i undef = .string (binWords.getD i ⟨#[]⟩) := M.getD_map _ (show i < binWords.length from hi11) _ _
    have e2 : IntKind.i64.wrap (3 + (i : Int)) = 3 + (i : Int) := wrap64 (by omega) (by omega)
    rw [hv.iaddr (by kernel_rfl) (by omega) (by rw [hlen]; omega), Int.toNat_natCast, hv.load (by kernel_rfl) (by rw [hlen]; omega), e1]
    simp only [push_cast, e2]
    refine hk.set (by omega) (kind_bin (by omega) (by omega)) fun w18 hk2 hs2 => ?_
    try simp only [push_cast]
    rw [inc64' (by omega)]
    exact hC hi11 _ _ ⟨rfl, hv.same hs2 fun x hx _ e => hbs (hx.symm.trans e), hk2.congr fun x => by constructor <;> intro h <;> omega⟩
  · have : i = 11 := by omega
    subst this
    refine hK w17 b hk.1 (hk.kinds fun o => ?_)
    constructor
    · intro h
      have : (1 ≤ o ∧ o ≤ 17) ∨ (20 ≤ o ∧ o ≤ 27) := by omega
      unfold M.arity
      repeat' split
      all_goals omega
    · intro h
      have := M.arity_ops h
      omega
end Go.Proofs.YtbiabimalkkeiaaGreatDoor
