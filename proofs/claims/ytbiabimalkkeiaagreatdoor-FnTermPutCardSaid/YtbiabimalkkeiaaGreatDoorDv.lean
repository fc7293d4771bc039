/- Contracts of the reference's drawing: the draws of the laws on terms. -/
import Derived.Test.YtbiabimalkkeiaaGreatDoorDu
set_option linter.unusedVariables false
set_option linter.unusedSimpArgs false
set_option linter.unnecessarySimpa false
set_option linter.unusedSectionVars false
namespace Go.Proofs.YtbiabimalkkeiaaGreatDoor
open Go Go.Vc Go.Proofs
variable {w : World} {K : Value → World → Prop} {F F' D G : Nat → Prop}
theorem l2Draw_spec {b p : Nat} {v : Value} {xs : List Nat} (h : RdR F w b v xs p) (hF : ∀ x, F x → x < w.heap.size) (hp : p + 300000 < 1099511627776)
    (hK : ∀ w' p' dv tv ds t, Same (· = b) w w' → RdR F w' b v xs p' → p' ≤ p + 300000 → DclsR (fun x => w.heap.size ≤ x) w' dv ds → Dsm ds → TermR (fun x => w.heap.size ≤ x) w' tv t → K (.tuple #[dv, tv]) w') : vcall PP n_spec_l2Draw #[.pointer (some ⟨b, 0, none⟩)] w K := by
  apply c_spec_l2Draw; unfold F_spec_l2Draw
  have lb := h.blk.lt
  refine valloc_agg zr_impl_Term fun b1 w1 hb1 he1 hs1 h1 => ?_
  have hR1 := h.ext he1
  have hz1 := he1.size
  refine l2Decls_spec hR1 (fun x hx => by have := hF x hx; omega) (by omega) fun w2 p2 dv ds hs2 hR2 hp2 hd2 hok => ?_
  have h2 := h1.same hs2 (by omega)
  have hz2 := hs2.size
  have hd2' := hd2.weaken (F' := fun x => w1.heap.size ≤ x ∧ x < w2.heap.size) fun x hx hl => ⟨hx, hl⟩
  refine ints_lit (ns := [0, 0, 0, 1, 2, 3, 4]) (by decide) fun b3 w3 hb3 he3 hi3 => ?_
  have hz3 := he3.size
  refine num_spec (hR2.ext he3) hi3 (by simp) (by decide) (by omega) (fun x hx e => by subst hx; omega) fun w4 m hs4 hz4 hR4 hm => ?_
  have hm4 : 0 ≤ m ∧ m ≤ 4 := by
    simp only [List.mem_cons, List.not_mem_nil, or_false] at hm
    omega
  have hd4 := (hd2'.ext he3).same hs4 fun x hx _ e => by omega
  have h4 := (h2.ext he3).same hs4 (by omega)
  refine l2Some_spec hR4 (fun x hx => by have := hF x hx; omega) hd4 (fun x hx e => by omega) (fun x hx => by omega) hok hm4.1 hm4.2 (by omega) fun w5 p5 tv t hs5 hR5 hp5 ht5 hk3 => ?_
  have hd5 := hd4.same hs5 fun x hx _ e => by omega
  have h5 := h4.same hs5 (by omega)
  have hz5 := hs5.size
  obtain ⟨cs, rfl, hcs5⟩ := ht5.cells
  have hcs5' := hcs5.weaken (F' := fun x => w4.heap.size ≤ x ∧ x < w5.heap.size) fun x hx hl => ⟨hx, hl⟩
  refine valloc_agg zr_impl_Term fun b6 w6 hb6 he6 hs6 h6 => ?_
  refine stTerm h6 rfl (hcs5'.ext he6) fun w7 hw7 hz7 h7 => ?_
  have he7 : Ext w5 w7 := Ext.then he6 hw7 fun y hy => by subst hy; omega
  refine vdraw_ext fun w8 he8 _ => ?_
  have hz8 := he8.size
  have hz7' := he7.size
  have h8 := h7.ext he8
  have hg : aggB PP T_impl_Term cs.length = true := by rw [tmR_len hcs5]; exact g_impl_Term
  rw [h8.ldAgg (t := T_impl_Term) hg]
  refine ⟨rfl, ?_⟩
  have hR8 := (hR5.ext he7).ext he8
  have hd8 := (hd5.ext he7).ext he8
  have hc8 := (hcs5'.ext he7).ext he8
  have hsz8 : w.heap.size ≤ w8.heap.size := by omega
  refine l2Spoil_spec hR8 (fun x hx => by have := hF x hx; omega) hd8 (fun x hx e => by omega) (fun x hx => by omega) hok (by omega) fun w9 p9 dv' ds' hs9 hR9 hp9 hd9 hok9 => ?_
  have h9 := h8.same hs9 (by omega)
  rw [h9.ldAgg (t := T_impl_Term) hg]
  refine ⟨⟨rfl, rfl⟩, ?_⟩
  have hz9 := hs9.size
  have hc9 := hc8.same hs9 fun x hx _ e => by omega
  refine l2Bent_spec hR9 (fun x hx => by have := hF x hx; omega) hc9.term (fun x hx e => by omega) (fun x hx => by omega) (by omega) (by omega) fun w10 p10 tv' t' hs10 hR10 hp10 ht10 => ?_
  have hd10 := hd9.same hs10 fun x hx _ e => by omega
  have h10 := (((h5.ext he7).ext he8).same hs9 (by omega)).same hs10 (by omega)
  obtain ⟨cs', rfl, hcs10⟩ := ht10.cells
  have hs010 : Same (· = b) w w10 := ((((((Same.of_ext he1).trans hs2).trans (Same.of_ext he3)).trans hs4).trans hs5).trans (Same.of_ext (he7.trans he8))).trans (hs9.trans hs10)
  have hz10 := hs10.size
  refine stTerm h10 rfl hcs10 fun w11 hw11 hz11 h11 => ?_
  rw [h11.lv (by rw [tmR_len hcs10]; exact g_impl_Term)]
  refine hK w11 p10 dv' _ ds' t' (same_new hs010 hw11 (by omega)) (hR10.new hw11 (by omega) fun x hx e => by have := hF x hx; omega) (by omega) ((hd10.same hw11 fun x hx _ e => by omega).weaken fun x hx _ => by omega) hok9 ((hcs10.same hw11 fun x hx _ e => by omega).term.weaken fun x hx _ => by omega)
theorem DrawTermEval_spec {v : Value} {xs : List Nat} (hx : Bytes F w v xs) (hF : ∀ b, F b → b < w.heap.size)
    (hK : ∀ w' dv tv ev ds t env, Ext w w' → DclsR (fun x => w.heap.size ≤ x) w' dv ds → Dsm ds → TermR (fun x => w.heap.size ≤ x) w' tv t → Ints (fun x => w.heap.size ≤ x) w' ev env → K (.tuple #[dv, tv, ev]) w') : vcall PP n_spec_DrawTermEval #[v] w K := by
  apply c_spec_DrawTermEval; unfold F_spec_DrawTermEval
  refine valloc_agg zr_impl_Term fun b1 w1 hb1 he1 hs1 h1 => ?_
  have hz1 := he1.size
  refine l12Open_spec (hx.ext he1) (fun b hb => by have := hF b hb; omega) fun w2 b v' ys he2 hR2 hb2 => ?_
  have hz2 := he2.size
  have lb := hR2.blk.lt
  have hR2' := hR2
  refine l2Draw_spec (F := fun x => F x ∧ x < w2.heap.size) ⟨hR2.blk, ⟨hR2.bytes.1.weaken fun x hx hl => ⟨hx, hl⟩, hR2.bytes.2⟩, fun h => hR2.apart h.1, hR2.few⟩ (fun x hx => hx.2) (by omega) fun w3 p3 dv tv ds t hs3 hR3 hp3 hd3 hok ht3 => ?_
  have hz3 := hs3.size
  have q3 := (h1.ext he2).same hs3 (by omega)
  obtain ⟨cs, rfl, hcs3⟩ := ht3.cells
  have hcs3' := hcs3.weaken (F' := fun x => w2.heap.size ≤ x ∧ x < w3.heap.size) fun x hx hl => ⟨hx, hl⟩
  have hd3' := hd3.weaken (F' := fun x => w2.heap.size ≤ x ∧ x < w3.heap.size) fun x hx hl => ⟨hx, hl⟩
  simp only [push_cast]
  refine valloc_agg zr_impl_Term fun b4 w4 hb4 he4 hs4 h4 => ?_
  refine stTerm h4 rfl (hcs3'.ext he4) fun w5 hw5 hz5 h5 => ?_
  have he5 : Ext w3 w5 := Ext.then he4 hw5 fun y hy => by subst hy; omega
  refine vdraw_ext fun w6 he6 _ => ?_
  have hz6 := he6.size
  have hz5' := he5.size
  have h6 := h5.ext he6
  have hg : aggB PP T_impl_Term cs.length = true := by rw [tmR_len hcs3]; exact g_impl_Term
  rw [h6.ldAgg (t := T_impl_Term) hg]
  refine ⟨rfl, ?_⟩
  have hd6 := (hd3'.ext he5).ext he6
  refine l2Env_spec ((hR3.ext he5).ext he6) (fun x hx => by have := hx.2; omega) hd6 (fun x hx e => by omega) (fun x hx => by omega) hok (by omega) fun w7 p7 ev env hs7 hR7 hp7 hi7 => ?_
  have h7 := h6.same hs7 (by omega)
  rw [h7.ldAgg (t := T_impl_Term) hg]
  refine ⟨⟨rfl, rfl⟩, ?_⟩
  have hz7 := hs7.size
  have q7 := ((q3.ext he5).ext he6).same hs7 (by omega)
  have hc7 := (((hcs3'.ext he5).ext he6).same hs7 fun x hx _ e => by omega)
  have hd7 := hd6.same hs7 fun x hx _ e => by omega
  refine stTerm q7 rfl hc7 fun w8 hw8 hz8 h8 => ?_
  rw [h8.lv (by rw [tmR_len hcs3]; exact g_impl_Term)]
  have hX : Ext w w8 := by
    have hE : Same (fun x => w.heap.size ≤ x) w w8 := ((((((Same.of_ext he1).trans (Same.of_ext he2)).trans (hs3.mono fun x _ hx => by subst hx; omega)).trans (Same.of_ext (he5.trans he6))).trans (hs7.mono fun x _ hx => by subst hx; omega)).trans (hw8.mono fun x _ hx => by subst hx; omega))
    exact hE.mono fun x hx hh => by omega
  exact hK w8 dv _ ev ds t env hX ((hd7.same hw8 fun x hx _ e => by omega).weaken fun x hx _ => by omega) hok ((hc7.same hw8 fun x hx _ e => by omega).term.weaken fun x hx _ => by omega) ((hi7.same hw8 fun x hx _ e => by omega).weaken fun x hx _ => by omega)
theorem DrawTermSort_spec {v : Value} {xs : List Nat} (hx : Bytes F w v xs) (hF : ∀ b, F b → b < w.heap.size)
    (hK : ∀ w' dv tv ds t, Ext w w' → DclsR (fun x => w.heap.size ≤ x) w' dv ds → Dsm ds → TermR (fun x => w.heap.size ≤ x) w' tv t → K (.tuple #[dv, tv]) w') : vcall PP n_spec_DrawTermSort #[v] w K := by
  apply c_spec_DrawTermSort; unfold F_spec_DrawTermSort
  refine valloc_agg zr_impl_Term fun b1 w1 hb1 he1 hs1 h1 => ?_
  have hz1 := he1.size
  refine l12Open_spec (hx.ext he1) (fun b hb => by have := hF b hb; omega) fun w2 b v' ys he2 hR2 hb2 => ?_
  have hz2 := he2.size
  have lb := hR2.blk.lt
  refine l2Draw_spec (F := fun x => F x ∧ x < w2.heap.size) ⟨hR2.blk, ⟨hR2.bytes.1.weaken fun x hx hl => ⟨hx, hl⟩, hR2.bytes.2⟩, fun h => hR2.apart h.1, hR2.few⟩ (fun x hx => hx.2) (by omega) fun w3 p3 dv tv ds t hs3 hR3 hp3 hd3 hok ht3 => ?_
  have hz3 := hs3.size
  have q3 := (h1.ext he2).same hs3 (by omega)
  obtain ⟨cs, rfl, hcs3⟩ := ht3.cells
  simp only [push_cast]
  refine stTerm q3 rfl hcs3 fun w8 hw8 hz8 h8 => ?_
  rw [h8.lv (by rw [tmR_len hcs3]; exact g_impl_Term)]
  have hX : Ext w w8 := by
    have hE : Same (fun x => w.heap.size ≤ x) w w8 := (((Same.of_ext he1).trans (Same.of_ext he2)).trans (hs3.mono fun x _ hx => by subst hx; omega)).trans (hw8.mono fun x _ hx => by subst hx; omega)
    exact hE.mono fun x hx hh => by omega
  exact hK w8 dv _ ds t hX ((hd3.same hw8 fun x hx _ e => by omega).weaken fun x hx _ => by omega) hok ((hcs3.same hw8 fun x hx _ e => by omega).term.weaken fun x hx _ => by omega)
end Go.Proofs.YtbiabimalkkeiaaGreatDoor
