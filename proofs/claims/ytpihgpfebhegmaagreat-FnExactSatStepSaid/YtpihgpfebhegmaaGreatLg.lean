/- Contracts: comparisons, MaxFunc, Clone, copies of lists. -/
import Derived.Test.YtpihgpfebhegmaaGreatLe
import Derived.Test.YtpihgpfebhegmaaGreatM4
set_option linter.unusedVariables false
set_option linter.unusedSimpArgs false
set_option linter.unnecessarySimpa false
set_option linter.unusedSectionVars false
namespace Go.Proofs.YtpihgpfebhegmaaGreat
open Go Go.Vc Go.Proofs Go.M
variable {w : World} {K : Value → World → Prop} {F Fr : Nat → Prop}
def cmpI (a b : Int) : Int := if a < b then -1 else if b < a then 1 else 0
theorem cmpI_pos {a b : Int} : 0 < cmpI a b ↔ b < a := by unfold cmpI; split <;> (try split) <;> omega
theorem isNaN_int {a : Int} (hK : K (.bool false) w) : vcall PP n_cmp_isNaN_int #[.int .i64 a] w K := by
  apply c_cmp_isNaN_int; unfold F_cmp_isNaN_int
  simp only [push_cast, ne_eq, not_true_eq_false, decide_false]
  exact hK
theorem Compare_int {a b : Int} (hK : K (.int .i64 (cmpI a b)) w) : vcall PP n_cmp_Compare_int #[.int .i64 a, .int .i64 b] w K := by
  apply c_cmp_Compare_int; unfold F_cmp_Compare_int
  refine isNaN_int (isNaN_int ?_)
  simp only [push_cast]
  unfold cmpI at hK
  refine vif_dec (fun h => ?_) (fun h => vif_dec (fun h2 => ?_) (fun h2 => ?_))
  · rwa [if_pos h] at hK
  · rwa [if_neg h, if_pos h2] at hK
  · rwa [if_neg h, if_neg h2] at hK
/-- A function value that answers one int. -/
def FnI (w0 : World) (f : Value) (args : Array Value) (b : Int) : Prop :=
  ∀ (w' : World) (K : Value → World → Prop), Ext w0 w' → (∀ w'', Ext w' w'' → K (.int .i64 b) w'') → vcallv PP f args w' K
theorem MaxFunc_Lint {v f : Value} {xs : List Int} {g : Int → Int} (hx : Ints F w v xs) (hne : xs ≠ []) (hf : ∀ a b, a ∈ xs → b ∈ xs → FnI w f #[.int .i64 a, .int .i64 b] (cmpI (g a) (g b)))
    (hK : ∀ w' m, Ext w w' → m ∈ xs → (∀ x, x ∈ xs → g x ≤ g m) → K (.int .i64 m) w') : vcall PP n_slices_MaxFunc_Lint_int #[v, f] w K := by
  apply c_slices_MaxFunc_Lint_int; unfold F_slices_MaxFunc_Lint_int
  have hpos : 0 < xs.length := List.length_pos_iff.2 hne
  have hlen : xs.length ≤ 9223372036854775807 := by obtain ⟨_, _, _, h1, h2, _⟩ := hx.shape; simp at h1; omega
  refine vjoin_of (fun u w' => Ext w w' ∧ w' = w) ?_ ?_
  · intro C hC
    simp (disch := first | (simp only [push_cast]; done) | omega) only [push_cast, hx.len]
    exact vif_dec (fun a => by omega) (fun a => hC _ _ ⟨Same.refl _ _, rfl⟩)
  rintro _ _ _ ⟨-, rfl⟩
  simp (disch := first | (simp only [push_cast]; done) | omega) only [hx.iaddr, Int.toNat_zero, hx.load]
  refine vloop_up (xs.length - 1) (fun i u w' => ∃ m, u = [.int .i64 m, .int .i64 (i + 1 : Nat)] ∧ Ext w' w' ∧ Ext _ w' ∧ m ∈ xs ∧ ∀ j, j ≤ i → g (xs.getD j 0) ≤ g m) ⟨xs.getD 0 0, rfl, Same.refl _ _, Same.refl _ _, getD_mem hpos, fun j hj => by
    have : j = 0 := by omega
    subst this; exact Int.le_refl _⟩ ?_
  rintro i _ _ w1 C hi ⟨m, rfl, -, he, hm, hmax⟩ hC
  have hx1 := hx.ext he
  simp (disch := first | (simp only [push_cast]; done) | omega) only [sl0, sl1, hx1.len, vbin_lss]
  refine vif_dec (fun a => ?_) (fun a => ?_)
  · simp (disch := first | (simp only [push_cast]; done) | omega) only [hx1.iaddr, Int.toNat_natCast, hx1.load]
    have hj : xs.getD (i + 1) 0 ∈ xs := getD_mem (by omega)
    refine hf _ _ hj hm w1 _ he fun w2 he2 => ?_
    have hx2 := hx1.ext he2
    have hadd : IntKind.i64.wrap (((i + 1 : Nat) : Int) + 1) = ((i + 1 + 1 : Nat) : Int) := by rw [wrap64 (by omega) (by omega)]; omega
    simp only [vbin_gtr]
    refine vif_dec (fun b => ?_) (fun b => ?_)
    · simp (disch := first | (simp only [push_cast]; done) | omega) only [hx2.iaddr, Int.toNat_natCast, hx2.load, vbin_add, hadd]
      refine hC (by omega) _ _ ⟨_, rfl, Same.refl _ _, he.trans he2, hj, fun j hj' => ?_⟩
      have hgt : g m < g (xs.getD (i + 1) 0) := cmpI_pos.1 b
      by_cases e : j = i + 1
      · subst e; exact Int.le_refl _
      · have := hmax j (by omega); omega
    · simp only [vbin_add, hadd]
      refine hC (by omega) _ _ ⟨_, rfl, Same.refl _ _, he.trans he2, hm, fun j hj' => ?_⟩
      have hle : g (xs.getD (i + 1) 0) ≤ g m := Int.not_lt.1 fun h => b (cmpI_pos.2 h)
      by_cases e : j = i + 1
      · subst e; exact hle
      · exact hmax j (by omega)
  · refine hK w1 m he hm fun x hx' => ?_
    obtain ⟨j, hj, rfl⟩ := List.getElem_of_mem hx'
    have := hmax j (by omega)
    simpa [List.getD_eq_getElem?_getD, hj] using this
theorem Clone_Lint {v : Value} {xs : List Int} (hx : Ints F w v xs) (hsm : xs.length * 8 ≤ 140737488355328) (hK : ∀ w' v', Ext w w' → OwnI PP T_Lint w' v' xs → (∀ x, v'.ownBlock = some x → w.heap.size ≤ x) → K v' w') :
    vcall PP n_slices_Clone_Lint_int #[v] w K := by
  apply c_slices_Clone_Lint_int; unfold F_slices_Clone_Lint_int
  obtain ⟨a, c, rfl, hc, hcm, hcell⟩ := hx.shape
  simp only [List.length_map] at hx hc ⊢
  rw [vbin_slnil s_Lint]
  refine vif_bool (fun h => ?_) (fun h => ?_)
  · have : xs = [] := by
      refine Decidable.byContradiction fun hne => ?_
      obtain ⟨b, o, e, _⟩ := hcell (by simpa using hne)
      subst e; cases h
    subst this
    exact hK w _ (Same.refl _ _) OwnI.nil fun x hx => by cases hx
  · refine vbuildS_nil u_Lint z_int fun b w1 hb he hz hB => ?_
    have hsz := he.size
    have h0 : OwnI PP T_Lint w1 (.slice (some ⟨b, 0, none⟩) 0 0) [] := Blk.own1 (P := PP) (t := T_Lint) (cs := []) (by rw [eo_Lint]; exact hB) (Nat.zero_le _) rfl rfl (by omega)
    refine h0.app (ys := xs) l_Lint (hx.ext he) (by simp only [List.length_nil]; omega) (by simpa using hsm) fun v' w2 hv hs hn => ?_
    refine hK w2 v' (Ext.then he hs fun x hx => ?_) hv fun x hx => ?_
    · have e : b = x := Option.some.inj hx; omega
    · rcases hn x hx with e | e
      · have e : b = x := Option.some.inj e; omega
      · omega
theorem take_snoc' {α : Type} {l : List (List α)} {i : Nat} (h : i < l.length) : l.take (i + 1) = l.take i ++ [l.getD i []] := by
  rw [List.take_succ_eq_append_getElem h, List.getD_eq_getElem?_getD, List.getElem?_eq_getElem h]; rfl
theorem copyLists_spec {v : Value} {xss : List (List Int)} (hx : Lists F w v xss) (hsm : xss.length * 24 ≤ 140737488355328) (hsm2 : ∀ x, x ∈ xss → x.length * 8 ≤ 140737488355328)
    (hK : ∀ w' v' vs, Ext w w' → OwnV PP T_LLint w' v' vs → vs.length = xss.length → RowsR w.heap.size (fun b => v'.ownBlock ≠ some b) w' vs xss → (∀ x, v'.ownBlock = some x → w.heap.size ≤ x) → K v' w') :
    vcall PP n_impl_copyLists #[v] w K := by
  apply c_impl_copyLists; unfold F_impl_copyLists
  obtain ⟨cs, hcs, hcv, hci⟩ := hx
  simp (disch := first | (simp only [push_cast]; done) | omega) only [push_cast, hcv.len]
  have hlen : cs.length ≤ 9223372036854775807 := by obtain ⟨_, _, _, h1, h2, _⟩ := hcv.shape; simp at h1; omega
  refine vloop_up cs.length (fun i u w' => ∃ v' vs, u = [v', .int .i64 i] ∧ Ext w w' ∧ OwnV PP T_LLint w' v' vs ∧ vs.length = i ∧ RowsR w.heap.size (fun b => v'.ownBlock ≠ some b) w' vs (xss.take i) ∧ (∀ x, v'.ownBlock = some x → w.heap.size ≤ x))
    ⟨.slice none 0 0, [], rfl, Same.refl _ _, OwnV.nil, rfl, by simpa using RowsR.nil (Nat.le_refl _), fun x hx => by cases hx⟩ ?_
  rintro i _ _ w1 C hi ⟨v', vs, rfl, he, hv, hvs, hin, hfr⟩ hC
  simp only [push_cast]
  refine vif_dec (fun a => ?_) (fun a => ?_)
  · have hcv1 := hcv.ext he
    simp (disch := first | (simp only [push_cast]; done) | omega) only [push_cast, hcv1.iaddr, hcv1.load]
    have hm : xss.getD i [] ∈ xss := by rw [List.getD_eq_getElem?_getD, List.getElem?_eq_getElem (by omega)]; exact List.getElem_mem _
    refine Clone_Lint ((hci i (by omega)).ext he) (hsm2 _ hm) fun w2 y he2 hy hyf => ?_
    have hsz1 := he.size
    have hsz2 := he2.size
    refine vbuildS_one u_LLint z_Lint zr_Lint rfl hy.ints.cells1 fun b w3 hb he3 hz3 hB3 => ?_
    have hsz3 := he3.size
    refine OwnV.app1 ((hv.ext he2).ext he3) l_LLint hB3 hy.ints.one (by omega) (by omega) fun v2 w4 hv4 hs4 hn4 => ?_
    have hfr4 : ∀ x, v2.ownBlock = some x → w.heap.size ≤ x := fun x hx => by
      rcases hn4 x hx with e | e
      · exact hfr x e
      · omega
    have hE : Ext w w4 := Ext.then (he.trans (he2.trans he3)) hs4 fun x hx => hfr x hx
    simp (disch := omega) only [push_cast, wrap64]
    refine hC (by omega) _ _ ⟨v2, vs ++ [y], by simp, hE, hv4, by simp [hvs], ?_, hfr4⟩
    rw [take_snoc' (by omega)]
    have hil : (xss.take i).length = i := by rw [List.length_take]; omega
    have hin2 : RowsR w.heap.size (fun b => v'.ownBlock ≠ some b ∧ b < w1.heap.size) w1 vs (xss.take i) := hin.weaken fun x h1 _ h3 => ⟨h1, h3⟩
    refine RowsR.snoc ((((hin2.ext he2).ext he3).same hs4 fun x hx _ e => hx.1 e).weaken fun x hx _ _ e => ?_) (by omega) ((hy.ext he3).same hs4 fun x hx e => ?_) (fun x hx => ⟨fun e => ?_, by have := hyf x hx; omega⟩) fun j x hj hx e => ?_
    · rcases hn4 x e with e' | e'
      · exact hx.1 e'
      · have := hx.2; omega
    · have := hyf x hx; have := hv.lt e; omega
    · have := hyf x hx
      rcases hn4 x e with e' | e'
      · have := hv.lt e'; omega
      · have := hy.lt hx; omega
    · have := (hin2.sub j x hj hx).1.2; have := hyf x e; omega
  · refine hK w1 v' vs he hv (by omega) (by rwa [List.take_of_length_le (by omega)] at hin) hfr
end Go.Proofs.YtpihgpfebhegmaaGreat
