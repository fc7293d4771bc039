/- The laws on terms: FnTermName. -/
import Derived.Test.YtbiabimalkkeiaaGreatDoorWc
set_option linter.unusedVariables false
set_option linter.unusedSimpArgs false
set_option linter.unnecessarySimpa false
set_option linter.unusedSectionVars false
namespace Go.Proofs.YtbiabimalkkeiaaGreatDoor
open Go Go.Vc Go.Proofs
variable {w : World} {K : Value → World → Prop} {F F' D G : Nat → Prop}
/-- The term holds the name. -/
def namesM (s : ByteArray) : M.Tm → Bool := M.Tm.fold fun t xs => (decide (t.op = 21) && decide (t.s = s)) || xs.any id
theorem namesM_eq (s : ByteArray) (t : M.Tm) : namesM s t = ((decide (t.op = 21) && decide (t.s = s)) || (t.ks.map (namesM s)).any id) := M.Tm.fold_eq _ t
theorem names_kid {s : ByteArray} {t : M.Tm} (h : namesM s t = false) : (t.op = 21 → t.s ≠ s) ∧ ∀ k, k ∈ t.ks → namesM s k = false := by
  rw [namesM_eq, Bool.or_eq_false_iff] at h
  refine ⟨fun ho hs => by rw [ho, hs] at h; simp at h, fun k hk => ?_⟩
  have := h.2
  rw [List.any_eq_false] at this
  simpa using this _ (List.mem_map_of_mem hk)
theorem eval_other {ds : List M.Dcl} {env : List Int} {k : Nat} {x : Int} : ∀ t : M.Tm, M.sortM ds t ≠ -1 → namesM (ds.getD k (M.nada, 0)).1 t = false → M.vecM ds (env.set k x) t = M.vecM ds env t := by
  refine M.Tm.ind fun t ih hs hn => ?_
  obtain ⟨h1, h2⟩ := names_kid hn
  have hk : t.ks.map (M.vecM ds (env.set k x)) = t.ks.map (M.vecM ds env) := List.map_congr_left fun u hu => ih u hu ((M.sort_parts hs).2.1 u hu) (h2 u hu)
  rw [M.vecM_eq, M.vecM_eq, hk]
  unfold M.vecF
  congr 1
  unfold M.valK
  by_cases h20 : t.op = 20
  · rw [if_pos h20, if_pos h20]
  rw [if_neg h20, if_neg h20]
  by_cases h21 : t.op = 21
  · rw [if_pos h21, if_pos h21]
    have hf := M.name_found hs h21
    have hg := M.findD_get hf
    have : k ≠ (M.findD ds t.s).toNat := fun e => h1 h21 (by rw [e]; exact hg.symm)
    rw [List.getD_eq_getElem?_getD, List.getElem?_set_ne this, ← List.getD_eq_getElem?_getD]
  · rw [if_neg h21, if_neg h21]
theorem env_other {ds : List M.Dcl} {env : List Int} (h : M.envOk ds env = true) {k : Nat} (hk : k < ds.length) : M.envOk ds (env.set k (1 - (env.getD k 0).tmod 2)) = true := by
  obtain ⟨h1, h2, h3⟩ := M.env_ok h
  unfold M.envOk
  rw [h1, List.length_set, decide_eq_true h2]
  simp only [Bool.true_and, List.all_eq_true, List.mem_range]
  intro i hi
  rw [List.getD_eq_getElem?_getD (l := env.set _ _), List.getElem?_set]
  split
  · rename_i e
    subst e
    rw [if_pos (by omega)]
    have hw := M.dcl_wide h1 hi
    have hv := M.vok_lt (h3 k hi)
    have hm : (env.getD k 0).tmod 2 = (env.getD k 0) % 2 := Int.tmod_eq_emod_of_nonneg hv.2.2.1
    rw [hm, Option.getD_some, M.vok_iff]
    have : (2 : Int) ^ 1 ≤ 2 ^ ((ds.getD k (M.nada, 0)).2).toNat := by
      have : (2 : Nat) ^ 1 ≤ 2 ^ ((ds.getD k (M.nada, 0)).2).toNat := Nat.pow_le_pow_right (by decide) (by omega)
      exact_mod_cast this
    omega
  · rw [← List.getD_eq_getElem?_getD]; exact h3 i hi
theorem name_val {ds : List M.Dcl} {env : List Int} (h : M.envOk ds env = true) {k : Nat} (hk : k < ds.length) :
    M.tok ds (.mk 21 0 0 (ds.getD k (M.nada, 0)).1 []) env = true ∧ M.teval ds (.mk 21 0 0 (ds.getD k (M.nada, 0)).1 []) env = env.getD k 0 := by
  have hd := (M.env_ok h).1
  have hf : M.findD ds (ds.getD k (M.nada, 0)).1 = k := M.findD_of hk rfl fun j hj => M.dcl_apart hd hk hj
  have hfo : M.formed (.mk 21 0 0 (ds.getD k (M.nada, 0)).1 []) = true := M.formed_iff.2 ⟨rfl, rfl⟩
  have hfi : M.fits (.mk 21 0 0 (ds.getD k (M.nada, 0)).1 []) = true := by
    rw [M.fits_iff, M.sizeM_eq, M.deepM_eq]
    exact ⟨show 1 + 0 ≤ 20 by decide, show 1 + 0 ≤ 7 by decide⟩
  have ho : (M.Tm.mk 21 0 0 (ds.getD k (M.nada, 0)).1 []).op = 21 := rfl
  have hs : (M.Tm.mk 21 0 0 (ds.getD k (M.nada, 0)).1 []).s = (ds.getD k (M.nada, 0)).1 := rfl
  have hks : (M.Tm.mk 21 0 0 (ds.getD k (M.nada, 0)).1 []).ks = [] := rfl
  generalize M.Tm.mk 21 0 0 (ds.getD k (M.nada, 0)).1 [] = T at *
  have ht : M.tok ds T env = true := by
    refine tok_of h ?_ hfi
    rw [M.sort_leaf hfo (by rw [hks]; rfl)]
    unfold M.sortK
    rw [if_neg (by omega), if_pos ho, hs, hf, if_neg (by omega), Int.toNat_natCast]
    have := M.dcl_wide hd hk
    omega
  refine ⟨ht, ?_⟩
  rw [(tok_sort ht).2.2, M.eval_leaf (.inr (.inl ho)), if_neg (by omega), if_pos ho, hs, hf, Int.toNat_natCast]
theorem wpNames_spec {s : ByteArray} (t : M.Tm) : ∀ {w : World} {K : Value → World → Prop} {F : Nat → Prop} {v : Value}, TermR F w v t → (∀ w', Ext w w' → K (.bool (namesM s t)) w') → vcall PP n_laws_wpNames #[v, .string s] w K := by
  refine M.Tm.ind (p := fun t => ∀ {w : World} {K : Value → World → Prop} {F : Nat → Prop} {v : Value}, TermR F w v t → (∀ w', Ext w w' → K (.bool (namesM s t)) w') → vcall PP n_laws_wpNames #[v, .string s] w K) (fun t ih => ?_) t
  intro w K F v ht hK
  apply c_laws_wpNames; unfold F_laws_wpNames
  obtain ⟨kv, rfl, hks⟩ := ht
  refine vbox_agg fun b1 w1 hb1 he1 hs1 h1 => ?_
  refine vjoin_of (fun u w' => u = [] ∧ w' = w1 ∧ (decide (t.op = 21) && decide (t.s = s)) = false) (fun C hC => ?_) ?_
  · simp (disch := (simp only [push_cast]; done)) only [push_cast, h1.ld0]
    refine vif_dec (fun a => ?_) (fun a => ?_)
    · simp (disch := (simp only [push_cast]; done)) only [push_cast, h1.ld3]
      refine vif_dec (fun b => ?_) (fun b => ?_)
      · have : namesM s t = true := by rw [namesM_eq, decide_eq_true a, decide_eq_true b]; rfl
        rw [← this]
        exact hK _ he1
      · exact hC _ _ ⟨rfl, rfl, by rw [decide_eq_false b, Bool.and_false]⟩
    · exact hC _ _ ⟨rfl, rfl, by rw [decide_eq_false a, Bool.false_and]⟩
  rintro u g w1' ⟨rfl, rfl, hno⟩
  have hsm := hks.small
  refine vloop_up t.ks.length (fun i u w' => u = [.int .i64 i] ∧ Ext w1' w' ∧ ∀ j, j < i → namesM s (t.ks.getD j default) = false) ⟨rfl, Same.refl _ _, fun j hj => absurd hj (by omega)⟩ ?_
  rintro i _ _ w3 C hi ⟨rfl, he3, hall⟩ hC
  have q3 := h1.ext he3
  have hks3 := hks.ext (he1.trans he3)
  simp (disch := first | (simp only [push_cast]; done) | omega) only [push_cast, q3.ld4, hks3.len]
  refine vif_dec (fun a => ?_) (fun a => ?_)
  · simp (disch := first | (simp only [push_cast]; done) | omega) only [push_cast, hks3.iaddr]
    refine hks3.load g_impl_Term (by omega) fun x hx => ?_
    refine ih _ (M.getD_mem (by omega) _) hx fun w4 he4 => ?_
    refine vif_bool (fun b => ?_) (fun b => ?_)
    · have : namesM s t = true := by
        rw [namesM_eq, hno, Bool.false_or, List.any_eq_true]
        exact ⟨true, by rw [← b]; exact List.mem_map_of_mem (M.getD_mem (by omega) _), rfl⟩
      rw [← this]
      exact hK _ (he1.trans (he3.trans he4))
    · rw [inc64' (by omega)]
      refine hC (by omega) _ _ ⟨rfl, he3.trans he4, fun j hj => ?_⟩
      by_cases e : j < i
      · exact hall j e
      · have : j = i := by omega
        subst this; exact b
  · have : namesM s t = false := by
      rw [namesM_eq, hno, Bool.false_or, List.any_eq_false]
      intro x hx
      obtain ⟨y, hy, rfl⟩ := List.mem_map.1 hx
      obtain ⟨j, hj, rfl⟩ := List.getElem_of_mem hy
      have := hall j (by omega)
      rw [List.getD_eq_getElem?_getD, List.getElem?_eq_getElem hj] at this
      simpa using this
    rw [← this]
    exact hK _ (he1.trans he3)
theorem FnTermName_spec {v v' : Value} {xs xs' : List Nat} (hx : Bytes F w v xs) (hx' : Bytes F' w v' xs') (hK : ∀ w', Ext w w' → K (.bool true) w') : vcall PP n_laws_FnTermName #[v, v'] w K := by
  apply c_laws_FnTermName; unfold F_laws_FnTermName
  refine vjoin_of (fun u w' => u = [] ∧ w' = w ∧ xs'.length ≤ 1048576) (fun C hC => ?_) ?_
  · simp (disch := (simp only [push_cast]; done)) only [push_cast, hx.len, hx'.len]
    refine vif_dec (fun _ => hK w (Same.refl _ _)) (fun _ => ?_)
    refine vif_dec (fun _ => hK w (Same.refl _ _)) (fun _ => ?_)
    exact hC _ _ ⟨rfl, rfl, by omega⟩
  rintro u0 g w0 ⟨rfl, rfl, hxl⟩
  refine DrawTermEval_spec hx.below (fun b hb => hb) fun w1 dv tv ev ds t env he1 hd hok ht hi => ?_
  obtain ⟨cs, rfl, hcs⟩ := ht.cells
  simp only [push_cast]
  refine valloc_agg zr_impl_Term fun b2 w2 hb2 he2 hs2 h2 => ?_
  have hcs' := hcs.weaken (F' := fun x => x < w1.heap.size) fun x _ hl => hl
  refine stTerm h2 rfl (hcs'.ext he2) fun w3 hw3 hz3 h3 => ?_
  have he3 : Ext w1 w3 := Ext.then he2 hw3 fun y hy => by subst hy; omega
  have hg : aggB PP T_impl_Term cs.length = true := by rw [tmR_len hcs]; exact g_impl_Term
  have hE3 := he1.trans he3
  have ht3 := anyT (hcs.ext he3).term
  have hd3 := hd.ext he3
  have hi3 := hi.ext he3
  clear hcs' h2 hi hd
  rw [h3.ldAgg (t := T_impl_Term) hg]
  refine TermEval_spec hd3 ht3 hi3 fun w4 he4 => ?_
  simp only [push_cast]
  rw [(h3.ext he4).ldAgg (t := T_impl_Term) hg]
  refine spec_TermEval_spec (dsm_sized hok) (hd3.ext he4) (ht3.ext he4) (hi3.ext he4) fun w5 he5 => ?_
  simp only [push_cast]
  have hE5 := he4.trans he5
  refine vjoin_of (fun u w' => u = [] ∧ Ext w3 w' ∧ M.tok ds t env = true ∧ ds.length ≠ 0) (fun C hC => ?_) ?_
  · rw [bne_self_eq_false]
    simp (disch := (simp only [push_cast]; done)) only [push_cast, beq_self_eq_true, hd3.len]
    refine vif_bool (fun _ => hK _ (hE3.trans hE5)) (fun a => ?_)
    rw [Bool.not_eq_false'] at a
    refine vif_dec (fun _ => hK _ (hE3.trans hE5)) (fun b => ?_)
    exact hC _ _ ⟨rfl, hE5, a, by omega⟩
  rintro u1 g w6 ⟨rfl, hE6, htok, hne⟩
  obtain ⟨henv, hsort, hev⟩ := tok_sort htok
  obtain ⟨hdok, hel, hvs⟩ := M.env_ok henv
  have hdl := (M.decl_iff.1 hdok).1
  have hd6 := hd3.ext hE6
  have hi6 := hi3.ext hE6
  have hrem : ((xs'.length : Int).tmod (ds.length : Int)) = ((xs'.length % ds.length : Nat) : Int) := by rw [Int.tmod_eq_emod_of_nonneg (by omega)]; omega
  have hkl : xs'.length % ds.length < ds.length := Nat.mod_lt _ (by omega)
  generalize hk : xs'.length % ds.length = k at hrem hkl
  have hx6 := hx'.ext (hE3.trans hE6)
  simp (disch := first | (simp only [push_cast]; done) | omega) only [push_cast, hd6.len, hx6.len, vbin_rem, hrem, hd6.iaddr, hd6.load0]
  refine TermEval_spec hd6 (leafR 21 0 0 _ : TmR (fun _ => True) w6 _ _).term hi6 fun w7 he7 => ?_
  obtain ⟨n1, n2⟩ := name_val henv hkl
  rw [n1, n2]
  simp only [push_cast]
  refine vbuildS_nil u_Lint z_int fun b8 w8 hb8 he8 hs8 h8 => ?_
  have o8 : OwnI PP T_Lint w8 (.slice (some ⟨b8, 0, none⟩) 0 0) [] := Blk.own1 (P := PP) (t := T_Lint) (cs := []) (by rw [eo_Lint]; exact h8) (Nat.zero_le _) rfl rfl (by omega)
  have hE8 := hE6.trans (he7.trans he8)
  have hz8 := (he7.trans he8).size
  refine OwnI.app o8 l_Lint (hi3.ext hE8) (by simp; omega) (by simp; omega) fun ov w9 ho9 hw9 hn9 => ?_
  rw [List.nil_append] at ho9
  have hE9 : Ext w3 w9 := Ext.then hE8 hw9 fun y hy => by have e : b8 = y := Option.some.inj hy; have := hE6.size; have := he7.size; omega
  have hi9 := hi3.ext hE9
  simp (disch := first | (simp only [push_cast]; done) | omega) only [push_cast, hi9.iaddr, hi9.load, ho9.ints.iaddr, vbin_rem]
  have hvk := M.vok_lt (hvs k hkl)
  have hm : (env.getD k 0).tmod 2 = (env.getD k 0) % 2 := Int.tmod_eq_emod_of_nonneg hvk.2.2.1
  rw [show IntKind.i64.wrap (1 - (env.getD k 0).tmod 2) = 1 - (env.getD k 0).tmod 2 from wrap64 (by omega) (by omega)]
  refine OwnI.st ho9 z_int (by omega) fun w10 ho10 hw10 hz10 => ?_
  have hnov : ∀ b, ov.ownBlock = some b → w3.heap.size ≤ b := fun b hb => by
    rcases hn9 b hb with h | h
    · have e : b8 = b := Option.some.inj h
      have := hE6.size; have := he7.size; omega
    · have := hE8.size; omega
  have hE10 : Ext w3 w10 := Ext.then hE9 hw10 fun y hy => hnov y hy
  rw [(h3.ext hE10).ldAgg (t := T_impl_Term) hg]
  refine TermEval_spec (hd3.ext hE10) (ht3.ext hE10) ho10.ints fun w11 he11 => ?_
  have henv' := env_other henv hkl
  have htok' : M.tok ds t (env.set k (1 - (env.getD k 0).tmod 2)) = true := tok_of henv' hsort (tok_parts htok).2.2.2.1
  rw [htok']
  simp only [push_cast]
  refine vdraw_ext fun w12 he12 _ => ?_
  have hE12 := hE10.trans (he11.trans he12)
  have hi12 := hi3.ext hE12
  have hd12 := hd3.ext hE12
  simp (disch := first | (simp only [push_cast]; done) | omega) only [push_cast, hi12.iaddr, hi12.load, true_and, decide_true]
  refine vif_dec (fun _ => hK _ (hE3.trans hE12)) (fun c => ?_)
  try simp (disch := first | (simp only [push_cast]; done) | omega) only [push_cast, hd12.iaddr, hd12.load0, true_and, (h3.ext hE12).ldAgg hg]
  refine wpNames_spec t (ht3.ext hE12) fun w13 he13 => ?_
  cases e : namesM (ds.getD k (M.nada, 0)).1 t
  · refine absurd ?_ c
    rw [(tok_sort htok').2.2, hev]
    unfold M.evalM
    rw [eval_other t hsort e]
  · exact hK _ (hE3.trans (hE12.trans he13))
end Go.Proofs.YtbiabimalkkeiaaGreatDoor
