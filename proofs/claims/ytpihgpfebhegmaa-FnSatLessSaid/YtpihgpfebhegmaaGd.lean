/- The law FnSatLess: fewer clauses admit an earlier model. -/
import Derived.Test.YtpihgpfebhegmaaGc
set_option linter.unusedVariables false
set_option linter.unusedSimpArgs false
set_option linter.unnecessarySimpa false
set_option linter.unusedSectionVars false
namespace Go.Vc
open Go
variable {P : Program} {t : TypeId} {w : World} {v : Value} {vs : List Value} {F : Nat → Prop}
theorem Vals.part (h : Vals F w v vs) (hne : vs ≠ []) (ht : elB P t 1 = true) {n : Nat} (hn : n ≤ vs.length) : ∃ v1, (∀ (kd : IntKind) (w' : World) (K : Value → World → Prop), vslice P t v none (some (.int kd n)) none w' K = K v1 w') ∧ Vals F w v1 (vs.take n) := by
  obtain ⟨hu, hs⟩ := elB_el ht
  obtain ⟨a, c, rfl, hc, hcm, hcell⟩ := h.shape
  obtain ⟨b, o, rfl, hF, hb, hcl⟩ := hcell (by simpa using hne)
  rw [List.length_map] at hc hcl
  refine ⟨.slice (some ⟨b, o, none⟩) n c, fun kd w' K => vrun_eq ?_, ⟨some ⟨b, o, none⟩, c, ?_, ?_, hcm, fun _ => ⟨b, o, rfl, hF, hb, fun i hi => ?_⟩⟩, fun x hx => by obtain ⟨u, _, rfl⟩ := List.mem_map.1 hx; rfl⟩
  · rw [run_sliceAt_slice w' t _ _ _ _ hu, run_slice_h w' t _ _ _ hu kd n (by omega) (by omega), run_sizeOf hs]
    simp [Result.andThen, sliced]
    exact fun _ => rfl
  · simp; omega
  · simp; omega
  · simp only [List.length_map, List.length_take] at hi
    have := hcl i (by omega)
    have e : (List.map (fun x => [x]) (vs.take n)).getD i [] = (List.map (fun x => [x]) vs).getD i [] := by
      simp [List.getD_eq_getElem?_getD, List.getElem?_take, show i < n by omega]
    rw [e]; exact this
theorem Vals.rest (h : Vals F w v vs) (hne : vs ≠ []) (ht : elB P t 1 = true) {n : Nat} (hn : n ≤ vs.length) : ∃ v1, (∀ (kd : IntKind) (w' : World) (K : Value → World → Prop), vslice P t v (some (.int kd n)) none none w' K = K v1 w') ∧ Vals F w v1 (vs.drop n) := by
  obtain ⟨hu, hs⟩ := elB_el ht
  obtain ⟨a, c, rfl, hc, hcm, hcell⟩ := h.shape
  obtain ⟨b, o, rfl, hF, hb, hcl⟩ := hcell (by simpa using hne)
  rw [List.length_map] at hc hcl
  refine ⟨sliced (some ⟨b, o, none⟩) n vs.length c 1, fun kd w' K => vrun_eq ?_, ?_⟩
  · rw [run_sliceAt_slice w' t _ _ _ _ hu, run_slice_l w' t _ _ _ hu kd n (by omega) (by simp; omega), run_sizeOf hs]
    simp [Result.andThen]
  · refine ⟨⟨_, c - n, rfl |> fun (_ : True = True) => by simp [sliced]; rfl, by simp; omega, by omega, fun hne2 => ?_⟩, fun x hx => by obtain ⟨u, _, rfl⟩ := List.mem_map.1 hx; rfl⟩
    have hlt : n < vs.length := by
      refine Nat.lt_of_not_le fun h2 => hne2 ?_
      rw [List.drop_of_length_le h2]; rfl
    rw [if_neg (by omega)]
    refine ⟨b, o + n, by simp [addr_add], hF, hb, fun i hi => ?_⟩
    simp only [List.length_map, List.length_drop] at hi
    have := hcl (n + i) (by omega)
    have e : (List.map (fun x => [x]) (vs.drop n)).getD i [] = (List.map (fun x => [x]) vs).getD (n + i) [] := by
      simp [List.getD_eq_getElem?_getD, List.getElem?_drop]
    rw [e, show o + n + i * 1 = o + (n + i) * 1 by omega]; exact this
end Go.Vc
namespace Go.Proofs.Ytpihgpfebhegmaa
open Go Go.Vc Go.Proofs Go.M
variable {w : World} {K : Value → World → Prop} {F Fr F' : Nat → Prop} {c : Cnf} {s : Sat}
theorem valsM_get {many j : Nat} {put : List Int} (h : j < many) : (valsM many put).getD j false = wayM put (j + 1) := by
  unfold valsM wayM
  rw [List.getD_eq_getElem?_getD, List.getElem?_map, List.getElem?_range h]
  rfl
theorem valsM_len (many : Nat) (put : List Int) : (valsM many put).length = many := by simp [valsM]
theorem wpAfter_spec {va vb : Value} {a b : List Bool} {d : Nat} (ha : Bools F w va a) (hb : Bools F' w vb b) (hl : a.length = b.length) (hd : d < a.length) (he : ∀ j, j < d → a.getD j false = b.getD j false) (h0 : a.getD d false = false) (h1 : b.getD d false = true) (hK : ∀ w', Ext w w' → K (.bool true) w') : vcall PP n_laws_wpAfter #[va, vb] w K := by
  apply c_laws_wpAfter; unfold F_laws_wpAfter
  have hla : a.length ≤ 9223372036854775807 := by obtain ⟨_, _, _, h1, h2, _⟩ := ha.shape; simp at h1; omega
  refine vloop_up d (fun i u w' => u = [.int .i64 i] ∧ Ext w w') ⟨rfl, Same.refl _ _⟩ ?_
  rintro i _ _ w1 C hi ⟨rfl, he1⟩ hC
  have ha1 := ha.ext he1
  simp (disch := (simp only [push_cast]; done)) only [push_cast, ha1.len]
  refine vif_dec (fun h2 => ?_) (fun h2 => absurd (by omega) h2)
  refine vdraw_ext fun w2 he2 _ => ?_
  have ha2 := ha1.ext he2
  have hb2 := (hb.ext he1).ext he2
  simp (disch := first | (simp only [push_cast]; done) | omega) only [push_cast, ha2.iaddr, ha2.load, hb2.iaddr, hb2.load, true_and]
  refine vif_bool (fun h3 => ?_) (fun h3 => ?_)
  · by_cases e : i = d
    · subst e; rw [h1]; exact hK _ (he1.trans he2)
    · rw [he i (by omega)] at h3; simp at h3
  · by_cases e : i = d
    · subst e; rw [h0, h1] at h3; cases h3
    · rw [inc64 (by omega)]
      exact hC (by omega) _ _ ⟨rfl, he1.trans he2⟩
set_option maxRecDepth 20000 in
theorem FnSatLess_spec {v v1 : Value} {xs ys : List Nat} (hx : Bytes F w v xs) (hy : Bytes F' w v1 ys) (hK : ∀ w', Ext w w' → K (.bool true) w') : vcall PP n_laws_FnSatLess #[v, v1] w K := by
  apply c_laws_FnSatLess; unfold F_laws_FnSatLess
  refine vjoin_of (fun _ w' => w' = w) ?_ ?_
  · intro J hJ
    simp (disch := (simp only [push_cast]; done)) only [push_cast, hx.len, hy.len]
    exact vif_dec (fun _ => hK w (Same.refl _ _)) (fun _ => vif_dec (fun _ => hK w (Same.refl _ _)) (fun _ => hJ _ _ rfl))
  rintro _ _ w rfl
  refine front hx fun w1 b3 b5 c fuel lv p y l h1 => ?_
  refine vjoin_of (fun _ w' => LawS w w' b3 b5 c fuel lv p y l ∧ (runA c fuel).code = 1 ∧ c.list.length ≠ 0) ?_ ?_
  · intro J hJ
    have again : ∀ w4, LawS w w4 b3 b5 c fuel lv p y l → vdraw w4 fun w_22 =>
        vload PP T_impl_Sat (.pointer (some ⟨b5, 0, none⟩)) w_22 fun t46 w_23 => w_23 = w_22 ∧
        vload PP T_impl_Cnf (.pointer (some ⟨b3, 0, none⟩)) w_22 fun t47 w_24 => w_24 = w_22 ∧
        vcall PP n_spec_SatRun #[t47, .int .i64 fuel] w_22 fun t49 w_25 => (vload PP T_impl_Sat (.pointer (some ⟨b5, 0, none⟩)) w_25 fun v x => v = t46 ∧ x = w_25) ∧
        vcall PP n_impl_SatSame #[t46, t49] w_25 fun t50 w_26 => K t50 w_26 := fun w4 h4 => by
      refine vdraw_ext fun w5 he5 _ => ?_
      have h5 := h4.ext he5
      simp (disch := (simp only [push_cast]; done)) only [push_cast, h5.A.ldAgg g_impl_Sat, h5.B.ldAgg g_impl_Cnf, true_and]
      refine specSatRun_spec h5.hc rfl h5.m0 h5.m1 fun w6 v6 he6 hv6 => ?_
      have h6 := h5.ext he6
      simp (disch := (simp only [push_cast]; done)) only [push_cast, h6.A.ldAgg g_impl_Sat, true_and, and_self]
      refine SatSame_spec h6.hv hv6 fun w7 he7 => ?_
      rw [show satEq (runA c fuel) (if cnfOk c = true ∧ 0 ≤ fuel ∧ fuel ≤ 4000 then runM c.many.toNat c fuel.toNat emptyS else formS) = true from satEq_self _]
      exact hK w7 (h6.E.trans he7)
    refine vdraw_ext fun w2 he2 _ => ?_
    have h2 := h1.ext he2
    simp (disch := (simp only [push_cast]; done)) only [push_cast, h2.A.ldAgg g_impl_Sat, h2.B.ldAgg g_impl_Cnf, true_and]
    refine specSatRun_spec h2.hc rfl h2.m0 h2.m1 fun w3 v3 he3 hv3 => ?_
    have h3 := h2.ext he3
    simp (disch := (simp only [push_cast]; done)) only [push_cast, h3.A.ldAgg g_impl_Sat, true_and, and_self]
    refine SatSame_spec h3.hv hv3 fun w4 he4 => ?_
    have h4 := h3.ext he4
    rw [show satEq (runA c fuel) (if cnfOk c = true ∧ 0 ≤ fuel ∧ fuel ≤ 4000 then runM c.many.toNat c fuel.toNat emptyS else formS) = true from satEq_self _]
    obtain ⟨lq, hlq, es, hes, hev, hei⟩ := h4.hc
    obtain rfl : lv = lq := by simpa using hlq
    simp (disch := (simp only [push_cast]; done)) only [push_cast, Bool.not_true, true_and, h4.A.ld3, h4.B.ld1, hev.len]
    refine vif_dec (fun a => again w4 h4) (fun a => vif_dec (fun _ => again w4 h4) (fun b => hJ _ _ ⟨h4, by omega, by omega⟩))
  rintro _ _ w2 ⟨h2, x1, hne0⟩
  obtain ⟨n, rfl, hn, hok, hrun⟩ := runA_yes (c := c) (fuel := fuel) (by omega)
  have hfx := runA_fair hok n
  rw [← hrun] at hfx
  obtain ⟨lq, hlq, es, hes, hev, hei⟩ := h2.hc
  obtain rfl : lv = lq := by simpa using hlq
  have hy2 := hy.ext h2.E
  have hyl : ys.length ≤ 9223372036854775807 := hy.small
  have hfew := h2.few
  simp (disch := (simp only [push_cast]; done)) only [push_cast, hy2.len, h2.B.ld1, hev.len]
  rw [hes, vbin_rem (by omega)]
  have hmod : ((ys.length : Int).tmod (c.list.length : Int)) = ((ys.length % c.list.length : Nat) : Int) := rfl
  have hmlt : ys.length % c.list.length < c.list.length := Nat.mod_lt _ (by omega)
  rw [hmod]
  generalize ys.length % c.list.length = k at hmlt
  have hesne : es ≠ [] := fun e => hne0 (by rw [← hes, e]; rfl)
  obtain ⟨va, ha, hva⟩ := hev.part (P := PP) (t := T_LLint) hesne e_LLint (n := k) (by omega)
  obtain ⟨vb, hb, hvb⟩ := hev.rest (P := PP) (t := T_LLint) hesne e_LLint (n := k + 1) (by omega)
  have hb' : ∀ (w' : World) (K : Value → World → Prop), vslice PP T_LLint lv (some (.int .i64 (IntKind.i64.wrap ((k : Int) + 1)))) none none w' K = K vb w' := fun w' K => by
    rw [show (k : Int) + 1 = ((k + 1 : Nat) : Int) from rfl, wrap64 (by omega) (by omega)]; exact hb .i64 w' K
  have hes1 : ∀ u, u ∈ es → u.oneCell' = true := fun u hu => by
    obtain ⟨i, hi, rfl⟩ := List.getElem_of_mem hu
    have := (hei i (by omega)).one
    simpa [List.getD_eq_getElem?_getD, hi] using this
  refine vjoin_of (fun u w' => ∃ b9 lr, u = [.pointer (some ⟨b9, 0, none⟩)] ∧ Ext w2 w' ∧ Blk w' b9 [.int .i64 c.many, lr] T_impl_Cnf ∧ OwnV PP T_LLint w' lr (es.take k ++ es.drop (k + 1)) ∧ ∀ x, lr.ownBlock = some x → w2.heap.size ≤ x) ?_ ?_
  · intro J hJ
    refine vdraw_ext fun w3 he3 _ => ?_
    have chk : ∀ w', Ext w3 w' → Blk w' b3 [.int .i64 c.many, lv] T_impl_Cnf := fun w' he => (h2.B.ext he3).ext he
    have st : ∀ (w9 : World) (b9 : Nat) (lr : Value), Ext w3 w9 → Blk w9 b9 [.int .i64 0, .slice none 0 0] T_impl_Cnf → w3.heap.size ≤ b9 → OwnV PP T_LLint w9 lr (es.take k ++ es.drop (k + 1)) → (∀ x, lr.ownBlock = some x → w3.heap.size ≤ x ∧ x ≠ b9) →
        vstore PP T_impl_Cnf (.pointer (some ⟨b9, 0, none⟩)) (.agg #[.int .i64 c.many, lr]) w9 fun _ w_65 => J [.pointer (some ⟨b9, 0, none⟩)] w_65 := fun w9 b9 lr he9 hB9 hb9 hV9 hn9 => by
      refine hB9.stAgg (cs' := [.int .i64 c.many, lr]) rfl g_impl_Cnf (fun x hx => by simp only [List.mem_cons, List.not_mem_nil, or_false] at hx; rcases hx with rfl | rfl; exact rfl; exact hV9.vals.one) fun w10 hs10 hz10 hB10 => ?_
      exact hJ _ _ ⟨b9, lr, rfl, he3.trans (Ext.then he9 hs10 fun x hx => by omega), hB10, hV9.same hs10 fun x hx e => (hn9 x hx).2 e, fun x hx => by have := hn9 x hx; have := he3.size; omega⟩
    have ap1 : ∀ (w9 : World) (v9 : Value) (K' : Value → World → Prop), Ext w3 w9 → OwnV PP T_LLint w9 v9 [] → (∀ v' w', OwnV PP T_LLint w' v' (es.take k) → Same (fun b => v9.ownBlock = some b) w9 w' → (∀ b, v'.ownBlock = some b → v9.ownBlock = some b ∨ w9.heap.size ≤ b) → K' v' w') → vbi PP .append [T_LLint, T_LLint] T_LLint [v9, va] w9 K' := fun w9 v9 K' he9 hV9 hK' => by
      refine hV9.app l_LLint ((hva.ext he3).ext he9) (fun u hu => hes1 u (List.mem_of_mem_take hu)) (by simp; omega) (by simp; omega) fun v' w' q1 q2 q3 => hK' v' w' (by rwa [List.nil_append] at q1) q2 q3
    have ap2 : ∀ (w9 : World) (v9 : Value) (K' : Value → World → Prop), Ext w3 w9 → OwnV PP T_LLint w9 v9 (es.take k) → (∀ v' w', OwnV PP T_LLint w' v' (es.take k ++ es.drop (k + 1)) → Same (fun b => v9.ownBlock = some b) w9 w' → (∀ b, v'.ownBlock = some b → v9.ownBlock = some b ∨ w9.heap.size ≤ b) → K' v' w') → vbi PP .append [T_LLint, T_LLint] T_LLint [v9, vb] w9 K' := fun w9 v9 K' he9 hV9 hK' => by
      refine hV9.app l_LLint ((hvb.ext he3).ext he9) (fun u hu => hes1 u (List.mem_of_mem_drop hu)) (by simp; omega) (by simp; omega) hK'
    have nilV : ∀ (w9 : World) (b : Nat), Blk w9 b [] T_Lint → OwnV PP T_LLint w9 (.slice (some ⟨b, 0, none⟩) 0 0) [] := fun w9 b hB => Blk.own1 (P := PP) (t := T_LLint) (cs := []) (by rw [eo_LLint]; exact hB) (Nat.zero_le _) rfl rfl (by omega)
    have bd : ∀ (w9 : World) (v9 : Value) (K' : Value → World → Prop), v9.cells = #[v9] → K' (.agg #[.int .i64 c.many, v9]) w9 → vbuild PP T_impl_Cnf [(0, .int .i64 c.many), (1, v9)] w9 K' := fun w9 v9 K' hc hK' =>
      vbuild_str b_impl_Cnf (us := [[.int .i64 c.many], [v9]]) (by simp only [List.map_cons, List.map_nil, hc]; rfl) rfl hK'
    have tl : ∀ (w9 : World) (b9 : Nat) (v9 : Value), Ext w3 w9 → Blk w9 b9 [.int .i64 0, .slice none 0 0] T_impl_Cnf → w3.heap.size ≤ b9 → OwnV PP T_LLint w9 v9 (es.take k) → (∀ x, v9.ownBlock = some x → w3.heap.size ≤ x ∧ x ≠ b9) →
        vbi PP .append [T_LLint, T_LLint] T_LLint [v9, vb] w9 fun t70 w_67 => (vload PP T_int (.pointer (some ⟨b3, 0, none⟩)) w_67 fun v x => v = .int .i64 c.many ∧ x = w_67) ∧ vbuild PP T_impl_Cnf [(0, .int .i64 c.many), (1, t70)] w_67 fun t71 w_68 => w_68 = w_67 ∧
          (vstore PP T_impl_Cnf (.pointer (some ⟨b9, 0, none⟩)) t71 w_67 fun _ w_69 => J [.pointer (some ⟨b9, 0, none⟩)] w_69) ∧ True := fun w9 b9 v9 he9 hB9 hb9 hV9 hn9 => by
      refine ap2 w9 v9 _ he9 hV9 fun v' w' q1 q2 q3 => ?_
      have E' : Ext w3 w' := Ext.then he9 q2 fun x hx => (hn9 x hx).1
      have C' := chk w' E'
      have lb := hB9.lt
      have z9 := he9.size
      simp (disch := first | (simp only [push_cast]; done) | omega) only [push_cast, C'.ld0, true_and]
      refine bd w' v' _ q1.vals.cells1 ⟨rfl, st w' b9 v' E' (hB9.same q2 fun e => (hn9 _ e).2 rfl) hb9 q1 (fun x hx => ?_), trivial⟩
      rcases q3 x hx with e | e
      · exact hn9 x e
      · omega
    have md : ∀ (w9 : World) (b9 : Nat) (v9 : Value), Ext w3 w9 → Blk w9 b9 [.int .i64 0, .slice none 0 0] T_impl_Cnf → w3.heap.size ≤ b9 → OwnV PP T_LLint w9 v9 [] → (∀ x, v9.ownBlock = some x → w3.heap.size ≤ x ∧ x ≠ b9) →
        vbi PP .append [T_LLint, T_LLint] T_LLint [v9, va] w9 fun t64 w_71 => (vload PP T_LLint (.pointer (some ⟨b3, 1, none⟩)) w_71 fun v x => v = lv ∧ x = w_71) ∧ (vload PP T_int (.pointer (some ⟨b3, 0, none⟩)) w_71 fun v x => v = .int .i64 c.many ∧ x = w_71) ∧
          (vbi PP .append [T_LLint, T_LLint] T_LLint [t64, vb] w_71 fun t70 w_67 => (vload PP T_int (.pointer (some ⟨b3, 0, none⟩)) w_67 fun v x => v = .int .i64 c.many ∧ x = w_67) ∧ vbuild PP T_impl_Cnf [(0, .int .i64 c.many), (1, t70)] w_67 fun t71 w_68 => w_68 = w_67 ∧
          (vstore PP T_impl_Cnf (.pointer (some ⟨b9, 0, none⟩)) t71 w_67 fun _ w_69 => J [.pointer (some ⟨b9, 0, none⟩)] w_69) ∧ True) ∧ True := fun w9 b9 v9 he9 hB9 hb9 hV9 hn9 => by
      refine ap1 w9 v9 _ he9 hV9 fun v' w' q1 q2 q3 => ?_
      have E' : Ext w3 w' := Ext.then he9 q2 fun x hx => (hn9 x hx).1
      have C' := chk w' E'
      have lb := hB9.lt
      have z9 := he9.size
      simp (disch := first | (simp only [push_cast]; done) | omega) only [push_cast, C'.ld0, C'.ld1, true_and]
      refine ⟨tl w' b9 v' E' (hB9.same q2 fun e => (hn9 _ e).2 rfl) hb9 q1 (fun x hx => ?_), trivial⟩
      rcases q3 x hx with e | e
      · exact hn9 x e
      · omega
    have C3 := chk w3 (Same.refl _ _)
    simp (disch := first | (simp only [push_cast]; done) | omega) only [push_cast, C3.ld0, C3.ld1, ha, hb', true_and]
    refine ⟨vbuildS_nil u_LLint z_Lint fun b7 w4 hb7 he7 hz7 hB7 => ?_, valloc_new zr_impl_Cnf fun b9 w4 hb9 he9 hz9 hB9 => ?_, trivial⟩
    · have C4 := chk w4 he7
      have V4 := nilV w4 b7 hB7
      have n4 : ∀ x, (Value.slice (some ⟨b7, 0, none⟩) 0 0).ownBlock = some x → x = b7 := fun x hx => (Option.some.inj hx).symm
      simp (disch := first | (simp only [push_cast]; done) | omega) only [push_cast, C4.ld0, C4.ld1, true_and]
      refine ⟨ap1 w4 _ _ he7 V4 fun v5 w5 q1 q2 q3 => ?_, valloc_new zr_impl_Cnf fun b9 w5 hb9 he9 hz9 hB9 => ?_, trivial⟩
      · have E5 : Ext w3 w5 := Ext.then he7 q2 fun x hx => by have := n4 x hx; omega
        have C5 := chk w5 E5
        have n5 : ∀ x, v5.ownBlock = some x → w3.heap.size ≤ x := fun x hx => by
          rcases q3 x hx with e | e
          · have := n4 x e; omega
          · have := he7.size; omega
        simp (disch := first | (simp only [push_cast]; done) | omega) only [push_cast, C5.ld0, C5.ld1, true_and]
        refine ⟨ap2 w5 v5 _ E5 q1 fun v6 w6 r1 r2 r3 => ?_, valloc_new zr_impl_Cnf fun b9 w6 hb9 he9 hz9 hB9 => ?_, trivial⟩
        · have E6 : Ext w3 w6 := Ext.then E5 r2 n5
          have C6 := chk w6 E6
          simp (disch := first | (simp only [push_cast]; done) | omega) only [push_cast, C6.ld0, C6.ld1, true_and]
          refine bd w6 v6 _ r1.vals.cells1 ⟨rfl, valloc_new zr_impl_Cnf fun b9 w7 hb9 he9 hz9 hB9 => ?_, trivial⟩
          have E7 := E6.trans he9
          have C7 := chk w7 E7
          simp (disch := first | (simp only [push_cast]; done) | omega) only [push_cast, C7.ld0, C7.ld1, true_and]
          refine ⟨bd w7 v6 _ r1.vals.cells1 ⟨rfl, rfl⟩, st w7 b9 v6 E7 hB9 (by have := E6.size; omega) (r1.ext he9) (fun x hx => ?_), trivial⟩
          have := r1.lt hx
          rcases r3 x hx with e | e
          · have := n5 x e; omega
          · have := E5.size; omega
        · have E6 := E5.trans he9
          have C6 := chk w6 E6
          simp (disch := first | (simp only [push_cast]; done) | omega) only [push_cast, C6.ld0, C6.ld1, true_and]
          exact ⟨tl w6 b9 v5 E6 hB9 (by have := E5.size; omega) (q1.ext he9) (fun x hx => by have := q1.lt hx; have := n5 x hx; omega), trivial⟩
      · have E5 := he7.trans he9
        have C5 := chk w5 E5
        simp (disch := first | (simp only [push_cast]; done) | omega) only [push_cast, C5.ld0, C5.ld1, true_and]
        exact ⟨md w5 b9 _ E5 hB9 (by omega) (V4.ext he9) (fun x hx => by have := n4 x hx; omega), trivial⟩
    · have C4 := chk w4 he9
      simp (disch := first | (simp only [push_cast]; done) | omega) only [push_cast, C4.ld0, C4.ld1, true_and]
      refine ⟨vbuildS_nil u_LLint z_Lint fun b7 w5 hb7 he7 hz7 hB7 => ?_, trivial⟩
      have E5 := he9.trans he7
      have C5 := chk w5 E5
      have V5 := nilV w5 b7 hB7
      have n5 : ∀ x, (Value.slice (some ⟨b7, 0, none⟩) 0 0).ownBlock = some x → x = b7 := fun x hx => (Option.some.inj hx).symm
      simp (disch := first | (simp only [push_cast]; done) | omega) only [push_cast, C5.ld0, C5.ld1, true_and]
      exact ⟨md w5 b9 _ E5 (hB9.ext he7) (by omega) V5 (fun x hx => by have := n5 x hx; omega), trivial⟩
  rintro _ _ w3 ⟨b9, lr, rfl, he3, hB9, hV9, hn9⟩
  have hzw := h2.E.size
  have hd3 : CnfR (fun x => w.heap.size ≤ x) w3 (.agg #[.int .i64 c.many, lr]) ⟨c.many, c.list.take k ++ c.list.drop (k + 1)⟩ := by
    refine ⟨lr, rfl, es.take k ++ es.drop (k + 1), by simp [hes], hV9.vals.weaken fun x hx _ => by have := hn9 x hx; omega, fun j hj => ?_⟩
    simp only [List.length_append, List.length_take, List.length_drop] at hj
    by_cases e : j < k
    · rw [getD_app_l (by simp; omega), getD_app_l (by simp; omega)]
      have e1 : (es.take k).getD j undef = es.getD j undef := by simp [List.getD_eq_getElem?_getD, List.getElem?_take, e]
      have e2 : (c.list.take k).getD j [] = c.list.getD j [] := by simp [List.getD_eq_getElem?_getD, List.getElem?_take, e]
      rw [e1, e2]
      exact ((hei j (by omega)).ext he3).weaken fun x hx _ => hx.1
    · obtain ⟨q, rfl⟩ : ∃ q, j = k + q := ⟨j - k, by omega⟩
      have l1 : (es.take k).length = k := by simp; omega
      have l2 : (c.list.take k).length = k := by simp; omega
      have e1 : (es.take k ++ es.drop (k + 1)).getD (k + q) undef = es.getD (k + 1 + q) undef := by
        have := getD_app_r (a := es.take k) (b := es.drop (k + 1)) (d := undef) (j := q)
        rw [l1] at this
        rw [this]; simp [List.getD_eq_getElem?_getD, List.getElem?_drop]
      have e2 : (c.list.take k ++ c.list.drop (k + 1)).getD (k + q) [] = c.list.getD (k + 1 + q) [] := by
        have := getD_app_r (a := c.list.take k) (b := c.list.drop (k + 1)) (d := ([] : List Int)) (j := q)
        rw [l2] at this
        rw [this]; simp [List.getD_eq_getElem?_getD, List.getElem?_drop]
      rw [e1, e2]
      exact ((hei (k + 1 + q) (by omega)).ext he3).weaken fun x hx _ => hx.1
  have hsub : ∀ x, x ∈ (⟨c.many, c.list.take k ++ c.list.drop (k + 1)⟩ : Cnf).list → x ∈ c.list := fun x hx => (List.mem_append.1 hx).elim List.mem_of_mem_take List.mem_of_mem_drop
  have hokd : cnfOk ⟨c.many, c.list.take k ++ c.list.drop (k + 1)⟩ = true := by
    obtain ⟨q1, q2, q3, q4⟩ := cnfOk_iff.1 hok
    exact cnfOk_iff.2 ⟨q1, q2, by simp; omega, fun x hx => q4 x (hsub x hx)⟩
  generalize hD : (⟨c.many, c.list.take k ++ c.list.drop (k + 1)⟩ : Cnf) = D at hd3 hsub hokd
  have hDm : D.many = c.many := by rw [← hD]
  simp only [sl0]
  rw [hB9.ldAgg g_impl_Cnf]
  refine SatRun_spec hd3 rfl (by rw [hDm]; exact h2.m0) (by rw [hDm]; exact h2.m1) fun w6 v6 he6 hv6 => ?_
  rw [if_pos ⟨hokd, by omega, by omega⟩, Int.toNat_natCast] at hv6
  have hfy := runA_fair hokd n
  generalize runM D.many.toNat D n emptyS = Y at hv6 hfy
  refine valloc_new zr_impl_Sat fun b8 w7 hb8 he7 hz7 hB7 => ?_
  have hv6' : SatR (fun x => x ≠ b8) w6 v6 Y := hv6.weaken fun x _ h2 => by omega
  obtain ⟨p', y', l', rfl, hone⟩ := hv6'.fields
  refine (show Blk w7 b8 [.slice none 0 0, .slice none 0 0, .slice none 0 0, .int .i64 0] T_impl_Sat from hB7).stAgg (cs' := [p', y', l', .int .i64 Y.code]) rfl g_impl_Sat hone fun w8 hs8 hz8 hB8 => ?_
  have E38 : Ext w3 w8 := Ext.then (he6.trans he7) hs8 fun x hx => by have := he6.size; omega
  have h8 := h2.ext (he3.trans E38)
  have hv8 := (hv6'.ext he7).same hs8 fun x hx _ e => hx e
  have B8 := hB9.ext E38
  have hd8 := hd3.ext E38
  rw [h8.B.ldAgg g_impl_Cnf, h8.A.ldAgg g_impl_Sat]
  refine SatVals_spec h8.hc h8.hv rfl h8.m0 h8.m1 fun w10 va' he10 hva' _ => ?_
  rw [(B8.ext he10).ldAgg g_impl_Cnf, (hB8.ext he10).ldAgg g_impl_Sat]
  refine SatVals_spec (hd8.ext he10) (hv8.ext he10) rfl (by rw [hDm]; exact h2.m0) (by rw [hDm]; exact h2.m1) fun w11 vb' he11 hvb' _ => ?_
  rw [if_pos hfx.ok] at hva'
  rw [if_pos hfy.ok] at hvb'
  have A11 := (hB8.ext he10).ext he11
  have h11 := h8.ext (he10.trans he11)
  have hcm := cnfOk_many hok
  have hdm := cnfOk_many hokd
  have hmod : cnfT (wayM (runA c n).put) D := fun x hx => hfx.model hcm x1 x (hsub x hx)
  simp (disch := (simp only [push_cast]; done)) only [push_cast, A11.ld3]
  refine vif_dec (fun _ => ?_) (fun a => absurd hmod (hfy.no (by omega) _))
  refine vif_dec (fun _ => hK _ h11.E) (fun a => ?_)
  have y1 : Y.code = 1 := by omega
  have hva11 := (hva'.ext he11).bools
  refine wpBools_spec hva11 hvb'.bools fun w12 he12 => ?_
  refine vif_bool (fun _ => hK _ (h11.E.trans he12)) (fun a2 => ?_)
  rcases (hfy.least hdm y1).2 _ hmod with e | ⟨d, d1, d2, d3, d4, d5⟩
  · rw [decide_eq_true (by rw [← hDm]; exact (valsM_way e).symm)] at a2
    cases a2
  · refine wpAfter_spec (d := d - 1) (hvb'.bools.ext he12) (hva11.ext he12) (by rw [valsM_len, valsM_len, hDm]) (by rw [valsM_len]; omega) (fun j hj => ?_) ?_ ?_ fun w13 he13 => hK _ (h11.E.trans (he12.trans he13))
    · rw [valsM_get (by omega), valsM_get (by rw [← hDm]; omega)]
      exact d5 (j + 1) (by omega) (by omega)
    · rw [valsM_get (by omega), show d - 1 + 1 = d by omega]; exact d3
    · rw [valsM_get (by rw [← hDm]; omega), show d - 1 + 1 = d by omega]; exact d4
end Go.Proofs.Ytpihgpfebhegmaa
