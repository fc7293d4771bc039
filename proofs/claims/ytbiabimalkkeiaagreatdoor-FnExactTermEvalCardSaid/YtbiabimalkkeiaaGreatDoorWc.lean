/- The laws on terms: FnTermEval. -/
import Derived.Test.YtbiabimalkkeiaaGreatDoorWb
set_option linter.unusedVariables false
set_option linter.unusedSimpArgs false
set_option linter.unnecessarySimpa false
set_option linter.unusedSectionVars false
namespace Go.Proofs.YtbiabimalkkeiaaGreatDoor
open Go Go.Vc Go.Proofs
variable {w : World} {K : Value → World → Prop} {F F' D G : Nat → Prop}
theorem fits_kid {t : M.Tm} {i : Nat} (hi : i < t.ks.length) (h : M.fits t = true) : M.fits (M.kid t i) = true := by
  obtain ⟨h1, h2⟩ := M.fits_iff.1 h
  have a := M.szT_all t
  have b := M.dpT_all t
  have c := M.szT_mono (ks := t.ks) (i := i + 1) (j := t.ks.length) (by omega) (by omega)
  have d := M.dpT_mono (ks := t.ks) (i := i + 1) (j := t.ks.length) (by omega) (by omega)
  have e := M.szT_succ hi
  have f := M.dpT_succ hi
  exact M.fits_iff.2 ⟨by unfold M.kid; omega, by unfold M.kid; omega⟩
theorem tok_kid {ds : List M.Dcl} {t : M.Tm} {env : List Int} (h : M.tok ds t env = true) {i : Nat} (hi : i < t.ks.length) :
    M.tok ds (M.kid t i) env = true ∧ M.teval ds (M.kid t i) env = M.evalM ds env (M.kid t i) ∧ M.tsort ds (M.kid t i) = M.sortM ds (M.kid t i) := by
  obtain ⟨he, hs, _, hf, _⟩ := tok_parts h
  have k := tok_of he (M.good_kid hs hi) (fits_kid hi hf)
  obtain ⟨_, _, h3, _, h5⟩ := tok_parts k
  exact ⟨k, h5, h3⟩
theorem wpUn_spec {op wd n : Int} (hK : ∀ w', Ext w w' → K (VecV (M.vecUn op wd n).1.1 (M.vecUn op wd n).1.2) w') : vcall PP n_laws_wpUn #[.int .i64 op, VecV wd n] w K := by
  apply c_laws_wpUn; unfold F_laws_wpUn
  refine vbox_agg fun b1 w1 hb1 he1 hs1 h1 => ?_
  refine valloc_agg zr_impl_Vec fun b2 w2 hb2 he2 hs2 h2 => ?_
  rw [(h1.ext he2).ldAgg (t := T_impl_Vec) g_impl_Vec]
  refine VecUn_spec fun w3 he3 => ?_
  simp only [push_cast]
  refine valloc_agg zr_impl_Vec fun b4 w4 hb4 he4 hs4 h4 => ?_
  have hz3 := he3.size
  refine stVec h4 fun w5 hw5 hz5 h5 => ?_
  rw [h5.ldAgg (t := T_impl_Vec) g_impl_Vec]
  have h25 : Ext w2 w5 := Ext.then (he3.trans he4) hw5 fun y hy => by subst hy; omega
  refine stVec (h2.ext h25) fun w6 hw6 hz6 h6 => ?_
  rw [h6.lv (t := T_impl_Vec) g_impl_Vec]
  exact hK _ (Ext.then (he1.trans (he2.trans h25)) hw6 fun y hy => by subst hy; omega)
theorem wpBin_spec {op wd n v m : Int} (hK : ∀ w', Ext w w' → K (VecV (M.vecBin op wd n v m).1.1 (M.vecBin op wd n v m).1.2) w') : vcall PP n_laws_wpBin #[.int .i64 op, VecV wd n, VecV v m] w K := by
  apply c_laws_wpBin; unfold F_laws_wpBin
  refine vbox_agg fun b0 w0 hb0 he0 hs0 h0 => ?_
  refine vbox_agg fun b1 w1 hb1 he1 hs1 h1 => ?_
  refine valloc_agg zr_impl_Vec fun b2 w2 hb2 he2 hs2 h2 => ?_
  rw [((h0.ext he1).ext he2).ldAgg (t := T_impl_Vec) g_impl_Vec]
  rw [(h1.ext he2).ldAgg (t := T_impl_Vec) g_impl_Vec]
  refine VecBin_spec fun w3 he3 => ?_
  simp only [push_cast]
  refine valloc_agg zr_impl_Vec fun b4 w4 hb4 he4 hs4 h4 => ?_
  have hz3 := he3.size
  refine stVec h4 fun w5 hw5 hz5 h5 => ?_
  rw [h5.ldAgg (t := T_impl_Vec) g_impl_Vec]
  have h25 : Ext w2 w5 := Ext.then (he3.trans he4) hw5 fun y hy => by subst hy; omega
  refine stVec (h2.ext h25) fun w6 hw6 hz6 h6 => ?_
  rw [h6.lv (t := T_impl_Vec) g_impl_Vec]
  exact hK _ (Ext.then (he0.trans (he1.trans (he2.trans h25))) hw6 fun y hy => by subst hy; omega)
theorem FnTermEval_spec {v : Value} {xs : List Nat} (hx : Bytes F w v xs) (hK : ∀ w', Ext w w' → K (.bool true) w') : vcall PP n_laws_FnTermEval #[v] w K := by
  apply c_laws_FnTermEval; unfold F_laws_FnTermEval
  simp (disch := (simp only [push_cast]; done)) only [push_cast, hx.len]
  refine vif_dec (fun _ => hK w (Same.refl _ _)) (fun _ => ?_)
  refine DrawTermEval_spec hx.below (fun b hb => hb) fun w1 dv tv ev ds t env he1 hd hok ht hi => ?_
  obtain ⟨cs, rfl, hcs⟩ := ht.cells
  simp only [push_cast]
  refine valloc_agg zr_impl_Term fun b2 w2 hb2 he2 hs2 h2 => ?_
  have hcs' := hcs.weaken (F' := fun x => x < w1.heap.size) fun x _ hl => hl
  refine stTerm h2 rfl (hcs'.ext he2) fun w3 hw3 hz3 h3 => ?_
  have he3 : Ext w1 w3 := Ext.then he2 hw3 fun y hy => by subst hy; omega
  have hE3 := he1.trans he3
  have hcs3 := hcs.ext he3
  have hd3 := hd.ext he3
  have hi3 := hi.ext he3
  obtain ⟨kv, rfl, hks⟩ := hcs3.inv
  have ht3 := anyT hcs3.term
  clear hcs' hcs hd hi h2 ht
  rw [h3.ldAgg (t := T_impl_Term) g_impl_Term]
  refine TermEval_spec hd3 ht3 hi3 fun w4 he4 => ?_
  simp only [push_cast]
  rw [(h3.ext he4).ldAgg (t := T_impl_Term) g_impl_Term]
  refine spec_TermEval_spec (dsm_sized hok) (hd3.ext he4) (ht3.ext he4) (hi3.ext he4) fun w5 he5 => ?_
  have hE5 := he4.trans he5
  simp only [push_cast]
  refine vjoin_of (fun u w' => u = [] ∧ Ext w3 w' ∧ M.tok ds t env = true) (fun C hC => ?_) ?_
  · refine vif_dec (fun a => absurd rfl a) (fun _ => ?_)
    rw [bne_self_eq_false]
    try simp only [push_cast]
    refine vif_bool (fun _ => ?_) (fun a => ?_)
    · rw [beq_self_eq_true]
      exact hK _ (hE3.trans hE5)
    rw [Bool.not_eq_false'] at a
    exact hC _ _ ⟨rfl, hE5, a⟩
  rintro u1 g w6 ⟨rfl, hE6, htok⟩
  obtain ⟨henv, hsort, _, _, hev⟩ := tok_parts htok
  rw [hev]
  have hz1 := he1.size
  have hz6 := hE6.size
  refine vbuildS_nil u_Lint z_int fun b7 w7 hb7 he7 hs7 h7 => ?_
  refine vbuildS_nil u_Limpl_Vec z_impl_Vec fun b8 w8 hb8 he8 hs8 h8 => ?_
  have o7 : OwnI PP T_Lint w8 (.slice (some ⟨b7, 0, none⟩) 0 0) [] := (Blk.own1 (P := PP) (t := T_Lint) (cs := []) (by rw [eo_Lint]; exact h7) (Nat.zero_le _) rfl rfl (by omega) : OwnI PP T_Lint w7 (.slice (some ⟨b7, 0, none⟩) 0 0) []).ext he8
  have o8 : OwnP PP T_Limpl_Vec w8 (.slice (some ⟨b8, 0, none⟩) 0 0) [] := Blk.ownk (P := PP) (t := T_Limpl_Vec) (css := []) (n := 0) (by rw [eo_Limpl_Vec]; exact h8) (fun x hx => by cases hx) rfl (by decide)
  have hE8 := hE6.trans (he7.trans he8)
  have hz8 := hE8.size
  have hfo := M.formed_iff.1 (M.sort_parts hsort).1
  have har := M.arity_ops (o := t.op) (by omega)
  have hsm : t.ks.length ≤ 3 := by
    have h1 := hfo.1
    unfold M.arity at h1
    repeat' split at h1
    all_goals omega
  refine vloop_up t.ks.length (fun i u w' => ∃ pv sv, u = [pv, sv, .int .i64 i] ∧ Ext w3 w' ∧ OwnI PP T_Lint w' pv ((t.ks.take i).map (M.evalM ds env)) ∧ OwnP PP T_Limpl_Vec w' sv ((t.ks.take i).map (M.vecM ds env)) ∧ (∀ b, pv.ownBlock = some b → w3.heap.size ≤ b) ∧ (∀ b, sv.ownBlock = some b → w3.heap.size ≤ b) ∧ (∀ b, pv.ownBlock = some b → sv.ownBlock ≠ some b))
    ⟨_, _, rfl, hE8, o7, o8, fun b h => by have e : b7 = b := Option.some.inj h; omega, fun b h => by have e : b8 = b := Option.some.inj h; omega, fun b h h' => by
      have e : b7 = b := Option.some.inj h
      have e' : b8 = b := Option.some.inj h'
      omega⟩ ?_
  rintro i _ _ w9 C hi9 ⟨pv, sv, rfl, hE9, hpv, hsv, hnp, hns, hne⟩ hC
  have q9 := h3.ext hE9
  have hks9 := hks.ext hE9
  have hz9 := hE9.size
  simp (disch := first | (simp only [push_cast]; done) | omega) only [push_cast, q9.ld4, hks9.len]
  refine vif_dec (fun a => ?_) (fun a => ?_)
  · have hil : i < t.ks.length := by omega
    obtain ⟨kt, kev, ksr⟩ := tok_kid htok hil
    simp (disch := first | (simp only [push_cast]; done) | omega) only [push_cast, hks9.iaddr]
    refine hks9.load g_impl_Term (by omega) fun x hx => ?_
    refine TermEval_spec (hd3.ext hE9) hx (hi3.ext hE9) fun w10 he10 => ?_
    rw [show t.ks.getD i default = M.kid t i from rfl, kt, kev]
    have hE10 := hE9.trans he10
    simp only [push_cast, Bool.not_true]
    refine vbuildS1 u_Lint z_int zr_int rfl rfl (by decide) fun b11 w11 hb11 he11 hs11 h11 => ?_
    have hl1 : ((t.ks.take i).map (M.evalM ds env)).length = i := by rw [List.length_map, List.length_take]; omega
    have hl2 : ((t.ks.take i).map (M.vecM ds env)).length = i := by rw [List.length_map, List.length_take]; omega
    have hpv11 := (hpv.ext he10).ext he11
    have hsv11 := (hsv.ext he10).ext he11
    refine OwnI.app1 hpv11 l_Lint h11 (by omega) (by omega) fun pv' w12 hpv' hw12 hn12 => ?_
    have hz10 := he10.size
    have hz11 := he11.size
    have hE12 : Ext w3 w12 := Ext.then (hE10.trans he11) hw12 fun y hy => hnp y hy
    have hsv12 := Own.same hsv11 hw12 fun b hb hb' => hne b hb' hb
    have q12 := h3.ext hE12
    have hks12 := hks.ext hE12
    simp (disch := first | (simp only [push_cast]; done) | omega) only [push_cast, q12.ld4, hks12.iaddr]
    refine hks12.load g_impl_Term (by omega) fun x' hx' => ?_
    refine TermSort_spec (hd3.ext hE12) hx' fun w13 he13 => ?_
    rw [show t.ks.getD i default = M.kid t i from rfl, ksr]
    simp only [push_cast]
    refine vbuildS1 u_Limpl_Vec z_impl_Vec zr_impl_Vec rfl rfl (by decide) fun b14 w14 hb14 he14 hs14 h14 => ?_
    have hsv14 := (Own.ext hsv12 he13).ext he14
    have hpv14 := (hpv'.ext he13).ext he14
    refine Own.app1k hsv14 l_Limpl_Vec (by decide) h14 rfl (by intro v hv; simp only [List.mem_cons, List.not_mem_nil, or_false] at hv; rcases hv with rfl | rfl <;> rfl) (by rw [List.length_map, hl2]; omega) (by rw [List.length_map, hl2]; omega) fun sv' w15 hsv' hw15 hn15 => ?_
    rw [inc64' (by omega)]
    have hz12 := hw12.size
    have hz13 := he13.size
    have hz14 := he14.size
    have hpn : ∀ b, pv'.ownBlock = some b → w3.heap.size ≤ b ∧ b < w14.heap.size := fun b hb => by
      have hlt := hpv14.lt hb
      rcases hn12 b hb with h | h
      · exact ⟨hnp b h, hlt⟩
      · exact ⟨by omega, hlt⟩
    have hapart : ∀ b, pv'.ownBlock = some b → sv.ownBlock ≠ some b := fun b hb h => by
      rcases hn12 b hb with h' | h'
      · exact hne b h' h
      · have := Own.lt hsv11 h; omega
    refine hC (by omega) _ _ ⟨pv', sv', rfl, Ext.then ((hE12.trans he13).trans he14) hw15 fun y hy => hns y hy, ?_, ?_, fun b hb => (hpn b hb).1, fun b hb => ?_, fun b hb h => ?_⟩
    · rw [← take_map_succ _ (by omega) default]
      exact hpv14.same hw15 fun b hb hb' => hapart b hb hb'
    · unfold OwnP
      rw [← take_map_succ _ (by omega) default, List.map_append, M.vecM_pair ds env (t.ks.getD i default)]
      exact hsv'
    · rcases hn15 b hb with h | h
      · exact hns b h
      · omega
    · rcases hn15 b h with h' | h'
      · exact hapart b hb h'
      · have := (hpn b hb).2; omega
  have hi' : i = t.ks.length := by omega
  subst hi'
  rw [List.take_length] at hpv hsv
  have hfin : ∀ {w'}, Ext w9 w' → Ext w w' := fun h => hE3.trans (hE9.trans h)
  have pget : ∀ j, j < t.ks.length → (t.ks.map (M.evalM ds env)).getD j 0 = M.evalM ds env (M.kid t j) := fun j hj => M.getD_map _ hj _ default
  have vget : ∀ j, j < t.ks.length → (t.ks.map (M.vecM ds env)).getD j (0, 0) = (M.sortM ds (M.kid t j), M.evalM ds env (M.kid t j)) := fun j hj => M.vec_kid hj
  have hpi : ∀ {w'}, Ext w9 w' → Ints (fun b => pv.ownBlock = some b) w' pv (t.ks.map (M.evalM ds env)) := fun h => (hpv.ext h).ints
  have hvp : ∀ {w'}, Ext w9 w' → PairsR (fun b => sv.ownBlock = some b) w' sv (t.ks.map (M.vecM ds env)) := fun h => (OwnP.ext hsv h).pairs
  have p9 := hpi (Same.refl _ _)
  have v9 := hvp (Same.refl _ _)
  have lp : (t.ks.map (M.evalM ds env)).length = t.ks.length := List.length_map _
  have lv : (t.ks.map (M.vecM ds env)).length = t.ks.length := List.length_map _
  have fin : ∀ {w'}, Ext w9 w' → ∀ {p : Prop} [Decidable p], p → K (.bool (decide p)) w' := fun h p _ hp => by rw [decide_eq_true hp]; exact hK _ (hfin h)
  refine vjoin_of (fun u w' => u = [] ∧ w' = w9 ∧ t.op = 21) (fun C hC => ?_) ?_
  · simp (disch := (simp only [push_cast]; done)) only [push_cast, q9.ld0]
    refine vif_dec (fun o20 => ?_) (fun o20 => ?_)
    · try simp (disch := (simp only [push_cast]; done)) only [push_cast, q9.ld2]
      exact fin (Same.refl _ _) (by rw [M.eval_leaf (.inl o20), if_pos o20])
    try simp (disch := (simp only [push_cast]; done)) only [push_cast, q9.ld0]
    refine vif_dec (fun o24 => ?_) (fun o24 => ?_)
    · exact fin (Same.refl _ _) (by rw [M.eval_leaf (.inr (.inr o24)), if_neg o20, if_neg (by omega)])
    try simp (disch := (simp only [push_cast]; done)) only [push_cast, q9.ld0]
    refine vif_dec (fun o25 => ?_) (fun o25 => ?_)
    · obtain ⟨hl, hin, e⟩ := M.eval_no henv hsort o25
      try simp (disch := first | (simp only [push_cast]; done) | omega) only [push_cast, p9.iaddr, p9.load, pget]
      refine fin (Same.refl _ _) ?_
      rcases M.inS_zero hin with z | z <;> rw [e, z] <;> rfl
    try simp (disch := (simp only [push_cast]; done)) only [push_cast, q9.ld0]
    refine vif_dec (fun o26 => ?_) (fun o26 => ?_)
    · obtain ⟨hl, hin, hin', e⟩ := M.eval_two henv hsort (.inl o26)
      rw [if_pos o26] at e
      refine vdraw_ext fun w10 he10 _ => ?_
      have p10 := hpi he10
      try simp (disch := first | (simp only [push_cast]; done) | omega) only [push_cast, p10.iaddr, p10.load, pget, true_and]
      refine fin he10 ?_
      rcases M.inS_zero hin with z | z <;> rcases M.inS_zero hin' with z' | z' <;> rw [e, z, z'] <;> rfl
    try simp (disch := (simp only [push_cast]; done)) only [push_cast, q9.ld0]
    refine vif_dec (fun o27 => ?_) (fun o27 => ?_)
    · obtain ⟨hl, hin, hin', e⟩ := M.eval_two henv hsort (.inr o27)
      rw [if_neg o26] at e
      refine vdraw_ext fun w10 he10 _ => ?_
      have p10 := hpi he10
      try simp (disch := first | (simp only [push_cast]; done) | omega) only [push_cast, p10.iaddr, p10.load, pget, true_and]
      refine fin he10 ?_
      rcases M.inS_zero hin with z | z <;> rcases M.inS_zero hin' with z' | z' <;> rw [e, z, z'] <;> rfl
    try simp (disch := (simp only [push_cast]; done)) only [push_cast, q9.ld0]
    refine vif_dec (fun o23 => ?_) (fun o23 => ?_)
    · obtain ⟨hl, hin, e⟩ := M.eval_if henv hsort o23
      try simp (disch := first | (simp only [push_cast]; done) | omega) only [push_cast, p9.iaddr, p9.load, pget]
      rcases M.inS_zero hin with z | z
      · rw [z, show IntKind.i64.wrap (2 - 0) = 2 from rfl]
        try simp (disch := first | (simp only [push_cast]; done) | omega) only [push_cast, p9.iaddr, p9.load, pget]
        exact fin (Same.refl _ _) (by rw [e, z, if_neg (by decide)])
      · rw [z, show IntKind.i64.wrap (2 - 1) = 1 from rfl]
        try simp (disch := first | (simp only [push_cast]; done) | omega) only [push_cast, p9.iaddr, p9.load, pget]
        exact fin (Same.refl _ _) (by rw [e, z, if_pos rfl])
    try simp (disch := (simp only [push_cast]; done)) only [push_cast, q9.ld0]
    refine vif_dec (fun o22 => ?_) (fun o22 => ?_)
    · obtain ⟨hl, hin, e⟩ := M.eval_cut henv hsort o22
      refine vjoin_of (fun u w' => ∃ b, u = [.pointer (some ⟨b, 0, none⟩)] ∧ Ext w9 w' ∧ Blk w' b [.int .i64 (M.vecCut (M.sortM ds (M.kid t 0)) (M.evalM ds env (M.kid t 0)) t.a t.b).1.1, .int .i64 (M.vecCut (M.sortM ds (M.kid t 0)) (M.evalM ds env (M.kid t 0)) t.a t.b).1.2] T_impl_Vec) (fun D hD => ?_) ?_
      · refine vdraw_ext fun w10 he10 _ => ?_
        have v10 := hvp he10
        have q10 := q9.ext he10
        try simp (disch := first | (simp only [push_cast]; done) | omega) only [push_cast, v10.iaddr, v10.load, q10.ld1, q10.ld2, vget, true_and]
        refine ⟨?_, ?_, trivial⟩
        · refine VecCut_spec fun w11 he11 => ?_
          simp only [push_cast, true_and]
          refine ⟨?_, trivial⟩
          refine valloc_agg zr_impl_Vec fun b12 w12 hb12 he12 hs12 h12 => ?_
          try simp only [push_cast, true_and, and_self]
          refine ⟨?_, trivial⟩
          refine stVec h12 fun w13 hw13 hz13 h13 => ?_
          try simp only [push_cast, true_and, and_self]
          have := he11.size
          exact hD _ _ ⟨_, rfl, he10.trans (he11.trans (Ext.then he12 hw13 fun y hy => by subst hy; omega)), h13⟩
        · refine valloc_agg zr_impl_Vec fun b12 w12 hb12 he12 hs12 h12 => ?_
          have v12 := hvp (he10.trans he12)
          have q12 := q10.ext he12
          try simp (disch := first | (simp only [push_cast]; done) | omega) only [push_cast, v12.iaddr, v12.load, q12.ld1, q12.ld2, vget, true_and, and_self]
          refine ⟨?_, trivial⟩
          refine VecCut_spec fun w11 he11 => ?_
          simp only [push_cast, true_and, and_self]
          refine ⟨?_, trivial⟩
          refine stVec (h12.ext he11) fun w13 hw13 hz13 h13 => ?_
          try simp only [push_cast, true_and, and_self]
          have := he11.size
          exact hD _ _ ⟨_, rfl, he10.trans (Ext.then (he12.trans he11) hw13 fun y hy => by subst hy; omega), h13⟩
      · rintro u3 g3 w10 ⟨b, rfl, he10, hb⟩
        try simp (disch := first | (simp only [push_cast]; done) | omega) only [push_cast, hb.ld1]
        exact fin he10 e
    try simp (disch := first | (simp only [push_cast]; done) | omega) only [push_cast, q9.ld4, hks9.len]
    refine vif_dec (fun l1 => ?_) (fun l1 => ?_)
    · have h1 := M.arity_one (o := t.op) (by omega)
      obtain ⟨hl, hin, e⟩ := M.eval_un henv hsort (by omega)
      refine vdraw_ext fun w10 he10 _ => ?_
      have v10 := hvp he10
      have q10 := q9.ext he10
      try simp (disch := first | (simp only [push_cast]; done) | omega) only [push_cast, v10.iaddr, v10.load, q10.ld0, vget, true_and]
      refine wpUn_spec fun w11 he11 => ?_
      simp only [push_cast, true_and]
      exact fin (he10.trans he11) e
    refine vjoin_of (fun u w' => ∃ b : Bool, u = [.bool b] ∧ w' = w9 ∧ (b = true ↔ (t.ks.length = 2 ∧ 15 ≤ t.op))) (fun D hD => ?_) ?_
    · try simp (disch := first | (simp only [push_cast]; done) | omega) only [push_cast, q9.ld4, hks9.len]
      refine vif_dec (fun l2 => ?_) (fun l2 => ?_)
      · try simp (disch := first | (simp only [push_cast]; done) | omega) only [push_cast, q9.ld0]
        exact hD _ _ ⟨_, rfl, rfl, by rw [decide_eq_true_eq]; omega⟩
      · exact hD _ _ ⟨false, rfl, rfl, by simp; omega⟩
    rintro u4 g4 w10 ⟨b, rfl, rfl, hb⟩
    simp only [push_cast]
    refine vif_bool (fun bt => ?_) (fun bf => ?_)
    · obtain ⟨l2, o15⟩ := hb.1 bt
      have h2 := M.arity_two (o := t.op) (by omega)
      obtain ⟨hl, hin, hin', e⟩ := M.eval_cmp henv hsort o15 (by omega)
      refine vdraw_ext fun w11 he11 _ => ?_
      have v11 := hvp he11
      have q11 := q9.ext he11
      try simp (disch := first | (simp only [push_cast]; done) | omega) only [push_cast, v11.iaddr, v11.load, q11.ld0, vget, true_and]
      refine VecCmp_spec fun w12 he12 => ?_
      simp only [push_cast, true_and]
      have : ∀ b : Bool, (b == decide (M.b2i b = 1)) = true := fun b => by cases b <;> rfl
      rw [e, this]
      exact hK _ (hfin (he11.trans he12))
    · have nb : ¬ (t.ks.length = 2 ∧ 15 ≤ t.op) := fun h => by have := hb.2 h; rw [bf] at this; cases this
      try simp (disch := first | (simp only [push_cast]; done) | omega) only [push_cast, q9.ld4, hks9.len]
      refine vif_dec (fun l2 => ?_) (fun l2 => ?_)
      · have h2 := M.arity_two (o := t.op) (by omega)
        obtain ⟨hl, hin, hin', e⟩ := M.eval_bin henv hsort (by omega) (by omega)
        refine vdraw_ext fun w11 he11 _ => ?_
        have v11 := hvp he11
        have q11 := q9.ext he11
        try simp (disch := first | (simp only [push_cast]; done) | omega) only [push_cast, v11.iaddr, v11.load, q11.ld0, vget, true_and]
        refine wpBin_spec fun w12 he12 => ?_
        simp only [push_cast, true_and]
        exact fin (he11.trans he12) e
      · refine hC _ _ ⟨rfl, rfl, ?_⟩
        have h1 := hfo.1
        unfold M.arity at h1
        repeat' split at h1
        all_goals omega
  · rintro u5 g5 w10 ⟨rfl, rfl, o21⟩
    try simp (disch := first | (simp only [push_cast]; done) | omega) only [push_cast, q9.ld0]
    exact fin (Same.refl _ _) o21
end Go.Proofs.YtbiabimalkkeiaaGreatDoor
