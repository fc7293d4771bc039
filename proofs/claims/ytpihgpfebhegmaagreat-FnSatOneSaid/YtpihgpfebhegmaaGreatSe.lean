/- Contracts of the reference, chapter 5: a step of one's own, runs. -/
import Derived.Test.YtpihgpfebhegmaaGreatSd
set_option linter.unusedVariables false
set_option linter.unusedSimpArgs false
set_option linter.unnecessarySimpa false
set_option linter.unusedSectionVars false
namespace Go.Proofs.YtpihgpfebhegmaaGreat
open Go Go.Vc Go.Proofs Go.M
variable {w : World} {K : Value → World → Prop} {F Fr F' : Nat → Prop} {many : Nat} {c : Cnf} {s : Sat}
theorem l5Do_spec {vc v : Value} {Z : Nat → Prop} (hc : CnfR F w vc c) (hs : SpR Z w v s) (hok : satOk many c s) (hcm : c.many = many)
    (hK : ∀ w' v', Same Z w w' → SpR (fun b => Z b ∨ w.heap.size ≤ b) w' v' (goM many c s) → K v' w') : vcall PP n_spec_l5Do #[vc, v] w K := by
  apply c_spec_l5Do; unfold F_spec_l5Do
  have hc' := hc
  have hs' := hs.sat
  have hs0 := hs
  obtain ⟨lv, rfl, hcl⟩ := hc
  obtain ⟨vp, vw, vl, rfl, hp, hw, hd1, hd2, hls⟩ := hs
  have hmany : many ≤ 700 ∧ c.list.length ≤ 2500 := by
    have := hok.cnf
    unfold cnfOk at this
    simp only [Bool.and_eq_true, decide_eq_true_eq] at this
    omega
  have hfew := hok.few
  have hmk := hok.mks
  have hpl := hmk.len
  have hlen := hok.len
  have hbnd : ∀ cl, cl ∈ c.list ++ s.learned → ∀ l, l ∈ cl → l ≠ 0 ∧ l.natAbs ≤ many := fun cl hcl l hl => satOk.bnd hok hcm hcl hl
  refine vbox_new fun b2 w1 hb2 he1 hz1 hB1 => ?_
  refine vbox_new fun b3 w2 hb3 he2 hz2 hB2 => ?_
  refine valloc_new zr_impl_Sat fun b4 w3 hb4 he3 hz3 hB3 => ?_
  have A3 : Blk w3 b2 [.int .i64 c.many, lv] T_impl_Cnf := (hB1.ext he2).ext he3
  have B3 : Blk w3 b3 [vp, vw, vl, .int .i64 s.code] T_impl_Sat := hB2.ext he3
  have R3 : Blk w3 b4 [.slice none 0 0, .slice none 0 0, .slice none 0 0, .int .i64 0] T_impl_Sat := hB3
  have E3 := he1.trans (he2.trans he3)
  rw [A3.ldAgg g_impl_Cnf]
  simp (disch := (simp only [push_cast]; done)) only [push_cast, B3.ld0]
  refine l5Vals_spec (hc'.ext E3) hcm hmany.1 (hp.ext E3).ints hmk fun w4 v4 he4 hv4 hn4 => ?_
  have E4 := E3.trans he4
  have A4 := A3.ext he4
  have B4 := B3.ext he4
  simp (disch := (simp only [push_cast]; done)) only [push_cast, A4.ldAgg g_impl_Cnf, B4.ld2]
  refine l5Find_spec (hc'.ext E4) (hls.ext E4) hv4.ints hmk hmany.1 (by omega) hbnd fun w5 k u x he5 hf => ?_
  have E5 := E4.trans he5
  have A5 := A4.ext he5
  have B5 := B4.ext he5
  have R5 := (R3.ext he4).ext he5
  have hv5 := hv4.ext he5
  have l3 := B5.lt
  have l4 := R5.lt
  have hz5 := E5.size
  have hz4 := he4.size
  simp only [push_cast]
  have ones : ∀ {vp' vw' vl' : Value} {cd : Int}, vp'.oneCell' = true → vw'.oneCell' = true → vl'.oneCell' = true → ∀ x, x ∈ [vp', vw', vl', .int .i64 cd] → x.oneCell' = true := fun h1 h2 h3 x hx => by
    simp only [List.mem_cons, List.not_mem_nil, or_false] at hx
    rcases hx with rfl | rfl | rfl | rfl
    · exact h1
    · exact h2
    · exact h3
    · rfl
  have hgo : goM many c s = (if 0 ≤ k then clashM many c s (atM c s k.toNat) else if 0 ≤ u then { s with put := s.put ++ [x], why := s.why ++ [u] }
    else if s.put.length = many then { s with code := 1 } else { s with put := s.put ++ [-(freeM many s.put : Int)], why := s.why ++ [-1] }) := by
    unfold goM; rw [hf]
  -- a mark more
  have push : ∀ (w6 : World) (l y : Int), Ext w w6 → Blk w6 b3 [vp, vw, vl, .int .i64 s.code] T_impl_Sat → Blk w6 b4 [.slice none 0 0, .slice none 0 0, .slice none 0 0, .int .i64 0] T_impl_Sat → w5.heap.size ≤ w6.heap.size → goM many c s = { s with put := s.put ++ [l], why := s.why ++ [y] } →
      vbuildS PP T_Lint 1 [(0, .int .i64 l)] w6 fun t39 w_28 => vbi PP .append [T_Lint, T_Lint] T_Lint [vp, t39] w_28 fun t40 w_29 => vstore PP T_Lint (.pointer (some ⟨b3, 0, none⟩)) t40 w_29 fun _ w_31 => vload PP T_Lint (.pointer (some ⟨b3, 1, none⟩)) w_31 fun t43 w_33 =>
      vbuildS PP T_Lint 1 [(0, .int .i64 y)] w_33 fun t45 w_34 => vbi PP .append [T_Lint, T_Lint] T_Lint [t43, t45] w_34 fun t46 w_35 => vstore PP T_Lint (.pointer (some ⟨b3, 1, none⟩)) t46 w_35 fun _ w_37 => vload PP T_impl_Sat (.pointer (some ⟨b3, 0, none⟩)) w_37 fun t48 w_38 =>
      vstore PP T_impl_Sat (.pointer (some ⟨b4, 0, none⟩)) t48 w_38 fun _ w_39 => vlv PP T_impl_Sat (.pointer (some ⟨b4, 0, none⟩)) w_39 fun r4_1 w_40 => K r4_1 w_40 := by
    intro w6 l y E6 B6 R6 hz6 hgo'
    have hzE := E6.size
    refine vbuildS_one u_Lint z_int zr_int rfl rfl fun b7 w7 hb7 he7 hz7 hB7 => ?_
    have E7 := E6.trans he7
    refine (hp.ext E7).app1 l_Lint hB7 (by omega) (by omega) fun vp' w8 hp8 hs8 hn8 => ?_
    have nb : ∀ x, vp.ownBlock = some x → x < w.heap.size := fun x hx => hp.lt hx
    have nw : ∀ x, vw.ownBlock = some x → x < w.heap.size := fun x hx => hw.lt hx
    have B8 := (B6.ext he7).same hs8 fun e => by have := nb _ e; omega
    refine B8.st hp8.ints.cells1 hp8.ints.one z_Lint rfl fun w9 hs9 hz9 hB9 => ?_
    have B9 : Blk w9 b3 [vp', vw, vl, .int .i64 s.code] T_impl_Sat := hB9
    have hp9 := hp8.same hs9 fun x hx e => by rcases hn8 x hx with e' | e'; (have := nb _ e'; omega); omega
    have hw9 := ((hw.ext E7).same hs8 fun x hx e => (hd1 x e).2 hx).same hs9 fun x hx e => by have := nw _ hx; omega
    simp (disch := (simp only [push_cast]; done)) only [push_cast, B9.ld1]
    have hz8 := hs8.size
    refine vbuildS_one u_Lint z_int zr_int rfl rfl fun b10 w10 hb10 he10 hz10 hB10 => ?_
    refine (hw9.ext he10).app1 l_Lint hB10 (by omega) (by omega) fun vw' w11 hw11 hs11 hn11 => ?_
    have B11 := (B9.ext he10).same hs11 fun e => by have := nw _ e; omega
    have hp11 := (hp9.ext he10).same hs11 fun x hx e => by
      rcases hn8 x hx with e' | e'
      · exact (hd1 x e').2 e
      · have := nw _ e; omega
    refine B11.st hw11.ints.cells1 hw11.ints.one z_Lint rfl fun w12 hs12 hz12 hB12 => ?_
    have B12 : Blk w12 b3 [vp', vw', vl, .int .i64 s.code] T_impl_Sat := hB12
    have hS : Same (fun x => vp.ownBlock = some x ∨ vw.ownBlock = some x ∨ x = b3) w7 w12 := (hs8.mono fun x _ e => .inl e).trans ((hs9.mono fun x _ e => .inr (.inr e)).trans ((Same.of_ext he10).trans ((hs11.mono fun x _ e => .inr (.inl e)).trans (hs12.mono fun x _ e => .inr (.inr e)))))
    have R12 := (R6.ext he7).same hS (by rintro (e | e | e); exact absurd (nb _ e) (by omega); exact absurd (nw _ e) (by omega); omega)
    have hp12 := hp11.same hs12 fun x hx e => by rcases hn8 x hx with e' | e'; (have := nb _ e'; omega); omega
    have hz11 := hs11.size
    have hw12 := hw11.same hs12 fun x hx e => by rcases hn11 x hx with e' | e'; (have := nw _ e'; omega); omega
    rw [B12.ldAgg g_impl_Sat]
    refine R12.stAgg (cs' := [vp', vw', vl, .int .i64 s.code]) rfl g_impl_Sat (ones hp12.ints.one hw12.ints.one (lists_ones hls)) fun w13 hs13 hz13 hB13 => ?_
    rw [hB13.lv g_impl_Sat]
    have hS13 : Same (fun x => vp.ownBlock = some x ∨ vw.ownBlock = some x ∨ x = b3 ∨ x = b4) w7 w13 := (hS.mono fun x _ e => e.imp id fun e => e.imp id .inl).trans (hs13.mono fun x _ e => .inr (.inr (.inr e)))
    have hSw : Same (fun b => vp.ownBlock = some b ∨ vw.ownBlock = some b) w w13 := by
      refine ⟨hS13.os.trans E7.os, hS13.tape.trans E7.tape, hS13.output.trans E7.output, Nat.le_trans E7.size hS13.size, fun b hb hn => ?_⟩
      rw [hS13.block b (by have := E7.size; omega) (by rintro (e | e | e | e); exact hn (.inl e); exact hn (.inr e); omega; omega), E7.block b hb id]
    have hz12' := hS.size
    refine hK w13 _ (hSw.mono fun b _ e => e.elim (fun e => (hd1 b e).1) (hd2 b)) ?_
    rw [hgo']
    refine ⟨vp', vw', vl, rfl, hp12.same hs13 fun x hx e => by rcases hn8 x hx with e' | e'; (have := nb _ e'; omega); omega, hw12.same hs13 fun x hx e => by rcases hn11 x hx with e' | e'; (have := nw _ e'; omega); omega, fun x hx => ?_, fun x hx => ?_, ?_⟩
    · rcases hn8 x hx with e | e
      · refine ⟨.inl (hd1 x e).1, fun e2 => ?_⟩
        rcases hn11 x e2 with e3 | e3
        · exact (hd1 x e).2 e3
        · have := nb _ e; omega
      · refine ⟨.inr (by omega), fun e2 => ?_⟩
        rcases hn11 x e2 with e3 | e3
        · have := nw _ e3; omega
        · have := hp8.lt hx; omega
    · rcases hn11 x hx with e | e
      · exact .inl (hd2 x e)
      · exact .inr (by omega)
    · refine (((hls.weaken (F' := fun b => (Z b ∧ vp.ownBlock ≠ some b ∧ vw.ownBlock ≠ some b) ∧ b < w.heap.size) fun b h1 h2 => ⟨h1, h2⟩).same hSw fun b hb _ e => e.elim hb.1.2.1 hb.1.2.2).weaken fun x hx _ => ⟨.inl hx.1.1, fun e => ?_, fun e => ?_⟩)
      · rcases hn8 x e with e' | e'
        · exact hx.1.2.1 e'
        · have := hx.2; omega
      · rcases hn11 x e with e' | e'
        · exact hx.1.2.2 e'
        · have := hx.2; omega
  rcases find_cases s.put (c.list ++ s.learned) with ⟨i, u', x', hi, e, hcc⟩ | ⟨hn, ⟨i, x', hi, e, hu, -⟩ | ⟨e, -⟩⟩
  · rw [hf, Prod.mk.injEq, Prod.mk.injEq] at e
    obtain ⟨rfl, rfl, rfl⟩ := e
    rw [List.length_append] at hi
    rw [if_pos (by omega), Int.toNat_natCast] at hgo
    refine vif_dec (fun _ => ?_) (fun b => absurd (by omega) b)
    refine vdraw_ext fun w6 he6 _ => ?_
    have E6 := E5.trans he6
    have A6 := A5.ext he6
    have B6 := B5.ext he6
    simp (disch := (simp only [push_cast]; done)) only [push_cast, A6.ldAgg g_impl_Cnf, B6.ldAgg g_impl_Sat, true_and]
    refine l5At_spec (hc'.ext E6) (hs'.ext E6) hi (by omega) fun w7 v7 he7 hv7 => ?_
    have E7 := E6.trans he7
    have A7 := A6.ext he7
    have B7 := B6.ext he7
    simp (disch := (simp only [push_cast]; done)) only [push_cast, A7.ldAgg g_impl_Cnf, B7.ldAgg g_impl_Sat, true_and, and_self]
    refine l5Clash_spec (hc'.ext E7) (hs0.below.ext E7) hv7 hok hcm hi hcc fun w8 v8 he8 hv8 => ?_
    have R8 := ((R5.ext he6).ext he7).ext he8
    have E8 := E7.trans he8
    rw [← hgo] at hv8
    obtain ⟨p8, y8, l8, rfl, h8⟩ := hv8.sat.fields
    refine R8.stAgg (cs' := [p8, y8, l8, .int .i64 (goM many c s).code]) rfl g_impl_Sat h8 fun w9 hs9 hz9 hB9 => ?_
    rw [hB9.lv g_impl_Sat]
    refine hK w9 _ (Same.of_ext (Ext.then E8 hs9 fun x hx => by omega)) ((hv8.same hs9 fun b hb _ e => ?_).weaken fun b hb _ => ?_)
    · have := E7.size; have := R5.lt; have := he6.size; have := he7.size
      rcases hb with hb | hb
      · have := hb.2; omega
      · omega
    · rcases hb with hb | hb
      · exact .inl hb.1
      · exact .inr (by have := E7.size; omega)
  · rw [hf, Prod.mk.injEq, Prod.mk.injEq] at e
    obtain ⟨rfl, rfl, rfl⟩ := e
    rw [if_neg (by omega), if_pos (by omega)] at hgo
    refine vif_dec (fun b => absurd b (by omega)) (fun _ => vif_dec (fun _ => ?_) (fun b => absurd (by omega) b))
    simp (disch := (simp only [push_cast]; done)) only [push_cast, B5.ld0]
    exact push w5 _ _ E5 B5 R5 (Nat.le_refl _) hgo
  · rw [hf, Prod.mk.injEq, Prod.mk.injEq] at e
    obtain ⟨rfl, rfl, rfl⟩ := e
    rw [if_neg (by omega), if_neg (by omega)] at hgo
    refine vif_dec (fun b => absurd b (by omega)) (fun _ => vif_dec (fun b => absurd b (by omega)) (fun _ => ?_))
    have hpi := (hp.ext E5).ints
    simp (disch := (simp only [push_cast]; done)) only [push_cast, B5.ld0, A5.ld0, hpi.len]
    refine vif_dec (fun b => ?_) (fun b => ?_)
    · rw [if_pos (by omega)] at hgo
      refine B5.st rfl rfl z_int rfl fun w6 hs6 hz6 hB6 => ?_
      have B6 : Blk w6 b3 [vp, vw, vl, .int .i64 1] T_impl_Sat := hB6
      rw [B6.ldAgg g_impl_Sat]
      refine (R5.same hs6 (by omega)).stAgg (cs' := [vp, vw, vl, .int .i64 1]) rfl g_impl_Sat (ones hp.ints.one hw.ints.one (lists_ones hls)) fun w7 hs7 hz7 hB7 => ?_
      rw [hB7.lv g_impl_Sat]
      have hE7 : Ext w w7 := Ext.then E5 ((hs6.mono fun x _ e => (.inl e : x = b3 ∨ x = b4)).trans (hs7.mono fun x _ e => .inr e)) fun x hx => by omega
      refine hK w7 _ (Same.of_ext hE7) ?_
      rw [hgo]
      exact ⟨vp, vw, vl, rfl, hp.ext hE7, hw.ext hE7, fun b hb => ⟨.inl (hd1 b hb).1, (hd1 b hb).2⟩, fun b hb => .inl (hd2 b hb), (hls.ext hE7).weaken fun b hb _ => ⟨.inl hb.1, hb.2⟩⟩
    · rw [if_neg (by omega)] at hgo
      obtain ⟨f1, f2, f3, f4⟩ := free_spec hmk (by omega)
      have hvi := hv5.ints
      have hsl := signs_len many s.put
      refine vloop_up (freeM many s.put - 1) (fun i u w' => u = [.int .i64 (i + 1 : Nat)] ∧ w' = w5) ⟨rfl, rfl⟩ ?_
      rintro i _ _ w5 C hi ⟨rfl, rfl⟩ hC
      have hsg := sgn_pos hmk (m := ((i + 1 : Nat) : Int)) (by omega)
      rw [Int.natAbs_natCast] at hsg
      simp (disch := first | (simp only [push_cast]; done) | omega) only [sl0, hvi.iaddr, Int.toNat_natCast, hvi.load]
      rw [signs_get (by omega), hsg]
      have hz0 : sgnL s.put ((i + 1 : Nat) : Int) = 0 ↔ placeOf s.put (i + 1) = 0 := by
        unfold sgnL
        rw [Int.natAbs_natCast]
        by_cases hm : ((i + 1 : Nat) : Int) ∈ s.put
        · rw [if_pos hm]
          have := placeOf_ne_zero hm
          rw [Int.natAbs_natCast] at this
          exact ⟨fun h => by omega, fun h => absurd h this⟩
        · rw [if_neg hm]
          by_cases hp0 : placeOf s.put (i + 1) = 0
          · rw [if_pos hp0]; simp [hp0]
          · rw [if_neg hp0]; simp [hp0]
      simp only [vbin_neq]
      refine vif_dec (fun b6 => ?_) (fun b6 => ?_)
      · have hlt : i < freeM many s.put - 1 := by
          refine Decidable.byContradiction fun hge => b6 (hz0.2 ?_)
          have : i + 1 = freeM many s.put := by omega
          rw [this]; exact f3
        simp only [vbin_add]
        rw [inc64 (by omega)]
        exact hC hlt _ _ ⟨rfl, rfl⟩
      · have hieq : i + 1 = freeM many s.put := by
          refine Decidable.byContradiction fun hne => f4 (i + 1) (by omega) (by omega) (hz0.1 (by simpa using b6))
        have e1 : IntKind.i64.wrap (0 - ((i + 1 : Nat) : Int)) = -(freeM many s.put : Int) := by rw [wrap64 (by omega) (by omega)]; omega
        simp (disch := (simp only [push_cast]; done)) only [fa_impl_Sat_0, fa_impl_Sat_1, addr_add, Nat.zero_add, B5.ld0, vun_neg, e1]
        exact push w5 _ _ E5 B5 R5 (Nat.le_refl _) hgo
theorem CnfR.same {S : Nat → Prop} {w' : World} {v : Value} (h : CnfR F w v c) (hw : Same S w w') (hs : ∀ b, F b → b < w.heap.size → ¬ S b) : CnfR F w' v c := by
  obtain ⟨lv, e, h⟩ := h; exact ⟨lv, e, h.same hw hs⟩
theorem l5Run_spec {vc : Value} {n : Nat} (hc : CnfR F w vc c) (hok : cnfOk c = true) (hcm : c.many = many) (hn : n ≤ 4000)
    (hK : ∀ w' v', Ext w w' → SpR (fun b => w.heap.size ≤ b) w' v' (runM many c n emptyS) → K v' w') : vcall PP n_spec_l5Run #[vc, .int .i64 n] w K := by
  apply c_spec_l5Run; unfold F_spec_l5Run
  have hc' := hc.below
  obtain ⟨lv, rfl, hcl⟩ := hc
  refine vbox_new fun b2 w1 hb2 he1 hz1 hB1 => ?_
  refine valloc_new zr_impl_Sat fun b4 w2 hb4 he2 hz2 hB2 => ?_
  refine vbuild_str b_impl_Sat (us := []) rfl rfl ?_
  refine valloc_new zr_impl_Sat fun b5 w3 hb5 he3 hz3 hB3 => ?_
  have B3 : Blk w3 b5 [.slice none 0 0, .slice none 0 0, .slice none 0 0, .int .i64 0] T_impl_Sat := hB3
  have A3 : Blk w3 b2 [.int .i64 c.many, lv] T_impl_Cnf := (hB1.ext he2).ext he3
  have R3 : Blk w3 b4 [.slice none 0 0, .slice none 0 0, .slice none 0 0, .int .i64 0] T_impl_Sat := hB2.ext he3
  refine B3.stAgg (cs' := [.slice none 0 0, .slice none 0 0, .slice none 0 0, .int .i64 0]) rfl g_impl_Sat (fun x hx => by simp only [List.mem_cons, List.not_mem_nil, or_false] at hx; rcases hx with rfl | rfl | rfl | rfl <;> rfl) fun w4 hs4 hz4 hB4 => ?_
  have E4 : Ext w w4 := Ext.then (he1.trans (he2.trans he3)) hs4 fun x hx => by have := he1.size; omega
  have A4 := A3.same hs4 (by omega)
  have R4 := R3.same hs4 (by omega)
  have hzE := E4.size
  -- what is done at the end
  have fin : ∀ (w5 : World) (p y l : Value), Ext w w5 → w4.heap.size ≤ w5.heap.size → Blk w5 b4 [.slice none 0 0, .slice none 0 0, .slice none 0 0, .int .i64 0] T_impl_Sat → Blk w5 b5 [p, y, l, .int .i64 (runM many c n emptyS).code] T_impl_Sat → SpR (fun b => w4.heap.size ≤ b) w5 (.agg #[p, y, l, .int .i64 (runM many c n emptyS).code]) (runM many c n emptyS) →
      vload PP T_impl_Sat (.pointer (some ⟨b5, 0, none⟩)) w5 fun t21 w_16 => vstore PP T_impl_Sat (.pointer (some ⟨b4, 0, none⟩)) t21 w_16 fun _ w_17 => vlv PP T_impl_Sat (.pointer (some ⟨b4, 0, none⟩)) w_17 fun r4 w_18 => K r4 w_18 := by
    intro w5 p y l E5 hz5 R5 B5 h5
    rw [B5.ldAgg g_impl_Sat]
    obtain ⟨p', y', l', e, h8⟩ := h5.sat.fields
    obtain ⟨rfl, rfl, rfl⟩ : p = p' ∧ y = y' ∧ l = l' := by simpa using e
    refine R5.stAgg (cs' := [p, y, l, .int .i64 (runM many c n emptyS).code]) rfl g_impl_Sat h8 fun w6 hs6 hz6 hB6 => ?_
    rw [hB6.lv g_impl_Sat]
    exact hK w6 _ (Ext.then E5 hs6 fun x hx => by have := he1.size; omega) ((h5.same hs6 fun b hb _ e => by have := R4.lt; omega).weaken fun b hb _ => by omega)
  refine vloop_up n (fun i u w' => ∃ p y l, u = [.int .i64 i] ∧ Ext w w' ∧ w4.heap.size ≤ w'.heap.size ∧ Blk w' b2 [.int .i64 c.many, lv] T_impl_Cnf ∧ Blk w' b4 [.slice none 0 0, .slice none 0 0, .slice none 0 0, .int .i64 0] T_impl_Sat ∧ Blk w' b5 [p, y, l, .int .i64 (runM many c i emptyS).code] T_impl_Sat ∧ SpR (fun b => w4.heap.size ≤ b) w' (.agg #[p, y, l, .int .i64 (runM many c i emptyS).code]) (runM many c i emptyS))
    ⟨_, _, _, rfl, E4, Nat.le_refl _, A4, R4, hB4, SpR.empty⟩ ?_
  rintro i _ _ w5 C hi ⟨p, y, l, rfl, E5, hz5, A5, R5, B5, h5⟩ hC
  simp only [push_cast]
  refine vif_dec (fun a => ?_) (fun a => ?_)
  · simp (disch := (simp only [push_cast]; done)) only [push_cast, B5.ld3]
    refine vif_dec (fun b => ?_) (fun b => ?_)
    · rw [A5.ldAgg g_impl_Cnf, B5.ldAgg g_impl_Sat]
      have hokn := run_ok (n := i) hcm (empty_ok (many := many) hok)
      refine l5Do_spec (hc'.ext E5) h5 hokn hcm fun w6 v6 hs6 hv6 => ?_
      have hstep : goM many c (runM many c i emptyS) = runM many c (i + 1) emptyS := by rw [run_succ]; unfold stepM; rw [if_pos b]
      rw [hstep] at hv6
      have l2 := A4.lt
      have l4 := R4.lt
      have l5 := hB4.lt
      have hz6 := hs6.size
      have A6 := A5.same hs6 (by omega)
      have R6 := R5.same hs6 (by omega)
      have B6 := B5.same hs6 (by omega)
      obtain ⟨p', y', l', rfl, h8⟩ := hv6.sat.fields
      refine B6.stAgg (cs' := [p', y', l', .int .i64 (runM many c (i + 1) emptyS).code]) rfl g_impl_Sat h8 fun w7 hs7 hz7 hB7 => ?_
      rw [inc64 (by omega)]
      have E6 : Ext w w6 := Ext.then E5 hs6 fun x hx => by omega
      refine hC (by omega) _ _ ⟨p', y', l', rfl, Ext.then E6 hs7 fun x hx => by have := he1.size; omega, by omega, A6.same hs7 (by omega), R6.same hs7 (by omega), hB7, (hv6.same hs7 fun b hb _ e => ?_).weaken fun b hb _ => ?_⟩
      · rcases hb with hb | hb <;> omega
      · rcases hb with hb | hb <;> omega
    · have e : runM many c n emptyS = runM many c i emptyS := by
        rw [show n = i + (n - i) from by omega, run_add, run_stop b]
      rw [← e] at B5 h5
      exact fin w5 p y l E5 hz5 R5 B5 h5
  · have : n = i := by omega
    subst this
    exact fin w5 p y l E5 hz5 R5 B5 h5
end Go.Proofs.YtpihgpfebhegmaaGreat
