/- Contracts of the reference's drawing: clauses, bent clauses. -/
import Derived.Test.YtpihgpfebhegmaaGreatDa
set_option linter.unusedVariables false
set_option linter.unusedSimpArgs false
set_option linter.unnecessarySimpa false
set_option linter.unusedSectionVars false
namespace Go.Proofs.YtpihgpfebhegmaaGreat
open Go Go.Vc Go.Proofs Go.M
variable {w : World} {K : Value → World → Prop} {F Fr F' : Nat → Prop} {c : Cnf}
/-- A literal of ints. -/
theorem vbuildS_ints {xs : List Int} (hsm : xs.length ≤ 1000) (hK : ∀ b w', b = w.heap.size → Ext w w' → w'.heap.size = w.heap.size + 1 → Ints (· = b) w' (.slice (some ⟨b, 0, none⟩) xs.length xs.length) xs → Blk w' b (xs.map fun x => .int .i64 x) T_int → K (.slice (some ⟨b, 0, none⟩) xs.length xs.length) w') :
    vbuildS PP T_Lint xs.length ((xs.map fun x => Value.int .i64 x).zipIdx.map fun p => (p.2, p.1)) w K := by
  have := vbuildS_row1 (w := w) (K := K) (t := T_Lint) (xs := xs.map fun x => Value.int .i64 x) u_Lint z_int zr_int (fun x hx => by obtain ⟨y, _, rfl⟩ := List.mem_map.1 hx; rfl) (by simp; omega) fun b w' h1 h2 h3 h4 => by
    rw [List.length_map]
    exact hK b w' h1 h2 h3 (h4.sl1 (by simp) (by omega)) h4
  rwa [List.length_map] at this
theorem CnfR.weaken {v : Value} (h : CnfR F w v c) (hf : ∀ b, F b → b < w.heap.size → F' b) : CnfR F' w v c := by
  obtain ⟨lv, e, h⟩ := h; exact ⟨lv, e, h.weaken hf⟩
theorem CnfR.fields {v : Value} (h : CnfR F w v c) : ∃ l, v = .agg #[.int .i64 c.many, l] ∧ ∀ x, x ∈ [.int .i64 c.many, l] → x.oneCell' = true := by
  obtain ⟨l, rfl, ls, _, hlv, _⟩ := h
  refine ⟨l, rfl, fun x hx => ?_⟩
  simp only [List.mem_cons, List.not_mem_nil, or_false] at hx
  rcases hx with rfl | rfl
  · rfl
  · exact hlv.one
set_option maxRecDepth 20000 in
theorem l4Cnf_spec {b p : Nat} {v : Value} {xs : List Nat} (h : RdR F w b v xs p) (hF : ∀ x, F x → x < w.heap.size) (hp : p + 200000 < 1099511627776)
    (hK : ∀ w' p' v' c, Same (· = b) w w' → RdR F w' b v xs p' → p' ≤ p + 200000 → CnfR (fun x => w.heap.size ≤ x) w' v' c → 1 ≤ c.many → c.many ≤ 7 → c.list.length ≤ 30 → (∀ x, x ∈ c.list → x.length ≤ 7) → K v' w') :
    vcall PP n_spec_l4Cnf #[.pointer (some ⟨b, 0, none⟩)] w K := by
  apply c_spec_l4Cnf; unfold F_spec_l4Cnf
  have lb := h.blk.lt
  refine valloc_new zr_impl_Cnf fun b2 w1 hb2 he1 hz1 hB1 => ?_
  refine pick_spec (h.ext he1) (by omega) (by omega) fun w2 k hs2 hz2 hR2 hk _ => ?_
  have hk7 := hk (by omega)
  have R2 : Blk w2 b2 [.int .i64 0, .slice none 0 0] T_impl_Cnf := (show Blk w1 b2 [.int .i64 0, .slice none 0 0] T_impl_Cnf from hB1).same hs2 (by omega)
  simp only [push_cast]
  rw [show (1 : Int) + (k : Int) = ((k + 1 : Nat) : Int) from by omega, wrap64 (by omega) (by omega)]
  generalize hmm : k + 1 = mm
  refine vbuild_str b_impl_Cnf (us := [[.int .i64 mm]]) rfl rfl ?_
  refine valloc_new zr_impl_Cnf fun b3 w3 hb3 he3 hz3 hB3 => ?_
  have B3 : Blk w3 b3 [.int .i64 0, .slice none 0 0] T_impl_Cnf := hB3
  refine B3.stAgg (cs' := [.int .i64 mm, .slice none 0 0]) rfl g_impl_Cnf (fun x hx => by simp only [List.mem_cons, List.not_mem_nil, or_false] at hx; rcases hx with rfl | rfl <;> rfl) fun w4 hs4 hz4 hB4 => ?_
  have hS2 : Same (· = b) w w2 := (Same.of_ext he1).trans hs2
  have R4 := (R2.ext he3).same hs4 (by omega)
  have hR4 := (hR2.ext he3).same hs4 (by omega) (fun x hx _ e => by have := hF x hx; omega)
  have hS4 : Same (· = b) w w4 := by
    refine ⟨hs4.os.trans (he3.os.trans hS2.os), hs4.tape.trans (he3.tape.trans hS2.tape), hs4.output.trans (he3.output.trans hS2.output), by omega, fun x hx hn => ?_⟩
    rw [hs4.block x (by omega) (by omega), he3.block x (by omega) id, hS2.block x hx hn]
  refine vbuildS_ints (xs := [3, 6, 10, 16, 24, 30, 20]) (by simp) fun b5 w5 hb5 he5 hz5 hI5 _ => ?_
  refine num_spec (hR4.ext he5) hI5 (by simp) (by simp) (by omega) (by omega) fun w6 m hs6 hz6 hR6 hm => ?_
  have hm30 : 0 ≤ m ∧ m ≤ 30 := by simp at hm; omega
  refine pick_spec hR6 (by omega) (by omega) fun w7 k7 hs7 hz7 hR7 hk7' _ => ?_
  have hk2 := hk7' (by omega)
  have hS46 : Same (· = b) w4 w7 := (Same.of_ext he5).trans (hs6.trans hs7)
  have B7 : Blk w7 b3 [.int .i64 mm, .slice none 0 0] T_impl_Cnf := hB4.same hS46 (by omega)
  have R7 := R4.same hS46 (by omega)
  have hS7 : Same (· = b) w w7 := hS4.trans hS46
  rw [vbin_add, show (2 : Int) + (k7 : Int) = ((k7 + 2 : Nat) : Int) from by omega, wrap64 (by omega) (by omega)]
  generalize hll : k7 + 2 = ll
  obtain ⟨N, rfl⟩ : ∃ N : Nat, m = N := ⟨m.toNat, by omega⟩
  have hz7' := hS7.size
  refine vloop_up N (fun i u w' => ∃ lv vs rows p', u = [.int .i64 i] ∧ Same (· = b) w w' ∧ w7.heap.size ≤ w'.heap.size ∧ RdR F w' b v xs p' ∧ p' ≤ p + 100 + 4000 * i ∧ Blk w' b2 [.int .i64 0, .slice none 0 0] T_impl_Cnf ∧ Blk w' b3 [.int .i64 mm, lv] T_impl_Cnf ∧
      OwnV PP T_LLint w' lv vs ∧ (∀ x, lv.ownBlock = some x → w7.heap.size ≤ x) ∧ vs.length = rows.length ∧ rows.length ≤ i ∧ (∀ x, x ∈ rows → x.length ≤ 7) ∧ ∀ j, j < rows.length → Ints (fun x => w7.heap.size ≤ x ∧ lv.ownBlock ≠ some x) w' (vs.getD j undef) (rows.getD j []))
    ⟨.slice none 0 0, [], [], p + 3, rfl, hS7, Nat.le_refl _, hR7, by omega, R7, B7, OwnV.nil, fun x hx => (by cases hx), rfl, by simp, by simp, fun j hj => by simp at hj⟩ ?_
  rintro i _ _ w8 C hi ⟨lv, vs, rows, p8, rfl, hS8, hz8, hR8, hp8, R8, B8, V8, hn8, hl8, hr8, h78, hrow8⟩ hC
  simp only [push_cast]
  refine vif_dec (fun a => ?_) (fun a => ?_)
  · simp (disch := (simp only [push_cast]; done)) only [push_cast, B8.ld0]
    have hF8 : ∀ x, F x → x < w8.heap.size := fun x hx => by have := hF x hx; omega
    refine l4Draw_spec hR8 hF8 (by omega) (by omega) fun w9 p9 v9 ys hs9 hR9 hp9 hv9 hl9 hn9 => ?_
    have R9 := R8.same hs9 (by omega)
    have B9 := B8.same hs9 (by omega)
    have V9 := V8.same hs9 fun x hx e => by have := hn8 x hx; omega
    have hz9 := hs9.size
    have hys : ys.length ≤ 7 := by omega
    have rows9 : ∀ (w' : World), Same (· = b) w8 w' → ∀ j, j < rows.length → Ints (fun x => w7.heap.size ≤ x ∧ lv.ownBlock ≠ some x) w' (vs.getD j undef) (rows.getD j []) := fun w' hs j hj => (hrow8 j hj).same hs fun x hx _ e => by have := hx.1; omega
    have hi1 := inc64 (i := i) (by omega)
    refine vjoin_of (fun u w' => ∃ bb p', u = [.bool bb] ∧ Same (· = b) w8 w' ∧ w9.heap.size ≤ w'.heap.size ∧ RdR F w' b v xs p' ∧ p' ≤ p8 + 3001 ∧ OwnI PP T_Lint w' v9 ys) ?_ ?_
    · intro J hJ
      have hvi := hv9.ints
      simp (disch := (simp only [push_cast]; done)) only [push_cast, hvi.len]
      refine vif_dec (fun a2 => hJ _ _ ⟨_, _, rfl, hs9, Nat.le_refl _, hR9, by omega, hv9⟩) (fun a2 => ?_)
      refine pick_spec hR9 (by omega) (by omega) fun w10 k10 hs10 hz10 hR10 _ _ => ?_
      simp only [push_cast]
      exact hJ _ _ ⟨_, _, rfl, hs9.trans hs10, by omega, hR10, by omega, hv9.same hs10 fun x hx e => by have := hn9 x hx; omega⟩
    rintro _ _ w10 ⟨bb, p10, rfl, hs10, hz10, hR10, hp10, hv10⟩
    have B10 := B8.same hs10 (by omega)
    have R10 := R8.same hs10 (by omega)
    have V10 := V8.same hs10 fun x hx e => by have := hn8 x hx; omega
    simp only [push_cast]
    refine vif_bool (fun a2 => ?_) (fun a2 => ?_)
    · simp (disch := (simp only [push_cast]; done)) only [push_cast, B10.ld1]
      refine vbuildS_one u_LLint z_Lint zr_Lint rfl hv10.ints.cells1 fun b11 w11 hb11 he11 hz11 hB11 => ?_
      refine OwnV.app1 (V10.ext he11) l_LLint hB11 hv10.ints.one (by omega) (by omega) fun v12 w12 hv12 hs12 hn12 => ?_
      have hn12' : ∀ x, v12.ownBlock = some x → w7.heap.size ≤ x := fun x hx => by
        rcases hn12 x hx with e | e
        · exact hn8 x e
        · omega
      have B12 := (B10.ext he11).same hs12 fun e => by have := hn8 _ e; have := B7.lt; omega
      refine B12.st hv12.vals.cells1 hv12.vals.one z_LLint rfl fun w13 hs13 hz13 hB13 => ?_
      have B13 : Blk w13 b3 [.int .i64 mm, v12] T_impl_Cnf := hB13
      have l3 := B7.lt
      have l2 := R7.lt
      have hz12 := hs12.size
      have hS13 : Same (fun x => lv.ownBlock = some x ∨ x = b3) w10 w13 := (Same.of_ext he11).trans ((hs12.mono fun x _ e => .inl e).trans (hs13.mono fun x _ e => .inr e))
      have far : ∀ x, x < w7.heap.size → x ≠ b3 → ¬ (lv.ownBlock = some x ∨ x = b3) := fun x h1 h2 h => h.elim (fun e => by have := hn8 x e; omega) h2
      have hSw : Same (· = b) w w13 := by
        refine ⟨hS13.os.trans (hs10.os.trans hS8.os), hS13.tape.trans (hs10.tape.trans hS8.tape), hS13.output.trans (hs10.output.trans hS8.output), by have := hS13.size; omega, fun x hx hn => ?_⟩
        rw [hS13.block x (by omega) (far x (by omega) (by omega)), hs10.block x (by omega) hn, hS8.block x hx hn]
      rw [hi1]
      refine hC (by omega) _ _ ⟨v12, vs ++ [v9], rows ++ [ys], p10, rfl, hSw, by have := hS13.size; omega, hR10.same hS13 (far b (by omega) (by omega)) (fun x hx _ => far x (by have := hF x hx; omega) (by have := hF x hx; omega)), by omega, R10.same hS13 (far b2 (by omega) (by omega)), B13, hv12.same hs13 fun x hx e => by have := hn12' x hx; omega, hn12', by simp [hl8], by simp; omega, fun x hx => ?_, fun j hj => ?_⟩
      · rcases List.mem_append.1 hx with hx | hx
        · exact h78 x hx
        · rw [List.mem_singleton] at hx; subst hx; exact hys
      · simp only [List.length_append, List.length_singleton] at hj
        by_cases e : j < rows.length
        · rw [getD_app_l (by omega), getD_app_l e]
          refine (((rows9 w10 hs10 j e).weaken (F' := fun x => (w7.heap.size ≤ x ∧ lv.ownBlock ≠ some x) ∧ x < w10.heap.size) fun x h1 h2 => ⟨h1, h2⟩).same hS13 fun x hx _ h => h.elim hx.1.2 fun e => by have := hx.1.1; omega).weaken fun x hx _ => ⟨hx.1.1, fun e => ?_⟩
          rcases hn12 x e with e | e
          · exact hx.1.2 e
          · have := hx.2; omega
        · have e1 : j = rows.length := by omega
          have e2 : j = vs.length := by omega
          have g1 : (vs ++ [v9]).getD j undef = v9 := by rw [e2]; simp
          have g2 : (rows ++ [ys]).getD j [] = ys := by rw [e1]; simp
          rw [g1, g2]
          refine (hv10.ints.same hS13 fun x hx _ h => ?_).weaken fun x hx _ => ⟨by have := hn9 x hx; omega, fun e => ?_⟩
          · have h9 := hn9 x hx
            exact h.elim (fun e => by have := V8.lt e; omega) fun e => by omega
          · have h9 := hn9 x hx
            rcases hn12 x e with e | e
            · have := V8.lt e; omega
            · have := hv10.lt hx; omega
    · rw [hi1]
      exact hC (by omega) _ _ ⟨lv, vs, rows, p10, rfl, hS8.trans hs10, by omega, hR10, by omega, R10, B10, V10, hn8, hl8, by omega, h78, rows9 w10 hs10⟩
  · rw [B8.ldAgg g_impl_Cnf]
    refine R8.stAgg (cs' := [.int .i64 mm, lv]) rfl g_impl_Cnf (fun x hx => ?_) fun w9 hs9 hz9 hB9 => ?_
    · simp only [List.mem_cons, List.not_mem_nil, or_false] at hx
      rcases hx with rfl | rfl
      · rfl
      · exact V8.vals.one
    rw [hB9.lv g_impl_Cnf]
    have l2 := R7.lt
    refine hK w9 p8 _ ⟨(mm : Int), rows⟩ ?_ (hR8.same hs9 (by omega) fun x hx _ e => by have := hF x hx; omega) (by omega) ⟨lv, rfl, vs, hl8, ?_, fun j hj => ?_⟩ (by show (1 : Int) ≤ (mm : Int); omega) (by show (mm : Int) ≤ 7; omega) (by show rows.length ≤ 30; omega) h78
    · refine ⟨hs9.os.trans hS8.os, hs9.tape.trans hS8.tape, hs9.output.trans hS8.output, by omega, fun x hx hn => ?_⟩
      rw [hs9.block x (by omega) (by omega), hS8.block x hx hn]
    · exact (V8.same hs9 fun x hx e => by have := hn8 x hx; omega).vals.weaken fun x hx _ => by have := hn8 x hx; omega
    · exact ((hrow8 j hj).same hs9 fun x hx _ e => by have := hx.1; omega).weaken fun x hx _ => by have := hx.1; omega
set_option maxRecDepth 20000 in
theorem l4Bent_spec {G : Nat → Prop} {b p : Nat} {v vc : Value} {xs : List Nat} (h : RdR F w b v xs p) (hF : ∀ x, F x → x < w.heap.size) (hc : CnfR G w vc c) (hG : ∀ x, G x → x ≠ b) (hm0 : 0 ≤ c.many) (hm1 : c.many ≤ 1000) (hl : c.list.length ≤ 1000) (hp : p + 200000 < 1099511627776)
    (hK : ∀ w' p' v' c', Same (· = b) w w' → RdR F w' b v xs p' → p' ≤ p + 2 → CnfR (fun x => w.heap.size ≤ x ∨ G x) w' v' c' → -9223372036854775808 ≤ c'.many → c'.many ≤ 9223372036854775807 → c'.list.length ≤ c.list.length + 1 → (∀ x, x ∈ c'.list → x ∈ c.list ∨ x.length ≤ 2) → K v' w') :
    vcall PP n_spec_l4Bent #[.pointer (some ⟨b, 0, none⟩), vc] w K := by
  apply c_spec_l4Bent; unfold F_spec_l4Bent
  have lb := h.blk.lt
  obtain ⟨lv, rfl, es, hes, hev, hei⟩ := hc
  refine vbox_new fun b3 w1 hb3 he1 hz1 hB1 => ?_
  refine valloc_new zr_impl_Cnf fun b4 w2 hb4 he2 hz2 hB2 => ?_
  have B2 : Blk w2 b3 [.int .i64 c.many, lv] T_impl_Cnf := hB1.ext he2
  have R2 : Blk w2 b4 [.int .i64 0, .slice none 0 0] T_impl_Cnf := hB2
  refine vbuildS_nil u_LLint z_Lint fun b5 w3 hb5 he3 hz3 hB3 => ?_
  have B3 := B2.ext he3
  have R3 := R2.ext he3
  have E3 := he1.trans (he2.trans he3)
  have hev3 := hev.ext E3
  simp (disch := (simp only [push_cast]; done)) only [push_cast, B3.ld1]
  have h3 : OwnV PP T_LLint w3 (.slice (some ⟨b5, 0, none⟩) 0 0) [] := Blk.own1 (P := PP) (t := T_LLint) (cs := []) (by rw [eo_LLint]; exact hB3) (Nat.zero_le _) rfl rfl (by omega)
  have hes1 : ∀ u, u ∈ es → u.oneCell' = true := fun u hu => by
    obtain ⟨i, hi, rfl⟩ := List.getElem_of_mem hu
    have := (hei i (by omega)).one
    simpa [List.getD_eq_getElem?_getD, hi] using this
  refine h3.app (us := es) l_LLint hev3 hes1 (by simp; omega) (by simp; omega) fun v4 w4 hv4 hs4 hn4 => ?_
  rw [List.nil_append] at hv4
  have hn4' : ∀ x, v4.ownBlock = some x → b5 ≤ x := fun x hx => by
    rcases hn4 x hx with e | e
    · have e : b5 = x := Option.some.inj e; omega
    · omega
  have hS4 : Same (· = b5) w3 w4 := hs4.mono fun x _ e => (Option.some.inj e).symm
  have E4 : Ext w w4 := Ext.then E3 hS4 fun x hx => by omega
  have B4 := B3.same hS4 (by omega)
  have R4 := R3.same hS4 (by omega)
  have hz4 := hS4.size
  refine pick_spec (h.ext E4) (by omega) (by omega) fun w5 k hs5 hz5 hR5 _ _ => ?_
  have B5 := B4.same hs5 (by omega)
  have R5 := R4.same hs5 (by omega)
  have V5 := hv4.same hs5 fun x hx e => by have := hn4' x hx; omega
  have hS5 : Same (· = b) w w5 := (Same.of_ext E4).trans hs5
  have hzE := E4.size
  have rows5 : ∀ (w' : World), Same (· = b) w w' → ∀ j, j < c.list.length → Ints G w' (es.getD j undef) (c.list.getD j []) := fun w' hs j hj => (hei j hj).same hs fun x hx _ e => hG x hx e
  -- the tail
  have fin : ∀ (w6 : World) (m : Int) (l : Value) (c' : Cnf) (p' : Nat), Same (· = b) w w6 → w5.heap.size ≤ w6.heap.size → RdR F w6 b v xs p' → p' ≤ p + 2 → Blk w6 b3 [.int .i64 m, l] T_impl_Cnf → Blk w6 b4 [.int .i64 0, .slice none 0 0] T_impl_Cnf → c'.many = m → Lists (fun x => (w.heap.size ≤ x ∧ x ≠ b4) ∨ G x ∧ x < w.heap.size) w6 l c'.list → -9223372036854775808 ≤ m → m ≤ 9223372036854775807 → c'.list.length ≤ c.list.length + 1 → (∀ x, x ∈ c'.list → x ∈ c.list ∨ x.length ≤ 2) →
      vload PP T_impl_Cnf (.pointer (some ⟨b3, 0, none⟩)) w6 fun t59 w_17 => vstore PP T_impl_Cnf (.pointer (some ⟨b4, 0, none⟩)) t59 w_17 fun _ w_18 => vlv PP T_impl_Cnf (.pointer (some ⟨b4, 0, none⟩)) w_18 fun r4 w_19 => K r4 w_19 := by
    intro w6 m l c' p' hS6 hz6 hR6 hp6 B6 R6 hm6 hl6 hm7 hm8 hl7 hl8
    rw [B6.ldAgg g_impl_Cnf]
    refine R6.stAgg (cs' := [.int .i64 m, l]) rfl g_impl_Cnf (fun x hx => ?_) fun w7 hs7 hz7 hB7 => ?_
    · simp only [List.mem_cons, List.not_mem_nil, or_false] at hx
      rcases hx with rfl | rfl
      · rfl
      · exact lists_ones hl6
    rw [hB7.lv g_impl_Cnf]
    subst hm6
    refine hK w7 p' _ c' ?_ (hR6.same hs7 (by omega) fun x hx _ e => by have := hF x hx; omega) hp6 ⟨l, rfl, (hl6.same hs7 fun x hx _ e => ?_).weaken fun x hx _ => ?_⟩ hm7 hm8 hl7 hl8
    · refine ⟨hs7.os.trans hS6.os, hs7.tape.trans hS6.tape, hs7.output.trans hS6.output, by have := hS6.size; omega, fun x hx hn => ?_⟩
      rw [hs7.block x (by have := hS6.size; omega) (by omega), hS6.block x hx hn]
    · rcases hx with hx | hx
      · exact hx.2 e
      · omega
    · exact hx.imp (fun h => h.1) fun h => h.1
  have lst : ∀ (w6 : World), Same (· = b) w w6 → w5.heap.size ≤ w6.heap.size → Lists (fun x => (w.heap.size ≤ x ∧ x ≠ b4) ∨ G x ∧ x < w.heap.size) w6 lv c.list := fun w6 hS6 _ =>
    ⟨es, hes, (hev.weaken (F' := fun x => G x ∧ x < w.heap.size) fun x h1 h2 => ⟨h1, h2⟩).same hS6 (fun x hx _ e => hG x hx.1 e) |>.weaken fun x hx _ => .inr hx, fun i hi => ((hei i hi).weaken (F' := fun x => G x ∧ x < w.heap.size) fun x h1 h2 => ⟨h1, h2⟩).same hS6 (fun x hx _ e => hG x hx.1 e) |>.weaken fun x hx _ => .inr hx⟩
  -- a row more
  have add : ∀ (r : List Int), r.length ≤ 2 → vbuildS PP T_Lint r.length ((r.map fun x => Value.int .i64 x).zipIdx.map fun p => (p.2, p.1)) w5 fun t18 w_12 => vbuildS PP T_LLint 1 [(0, t18)] w_12 fun t19 w_13 => vbi PP .append [T_LLint, T_LLint] T_LLint [v4, t19] w_13 fun t20 w_14 => vstore PP T_LLint (.pointer (some ⟨b3, 1, none⟩)) t20 w_14 fun _ w_16 =>
      vload PP T_impl_Cnf (.pointer (some ⟨b3, 0, none⟩)) w_16 fun t59 w_17 => vstore PP T_impl_Cnf (.pointer (some ⟨b4, 0, none⟩)) t59 w_17 fun _ w_18 => vlv PP T_impl_Cnf (.pointer (some ⟨b4, 0, none⟩)) w_18 fun r4 w_19 => K r4 w_19 := by
    intro r hr
    refine vbuildS_ints (by omega) fun b6 w6 hb6 he6 hz6 hI6 hB6 => ?_
    refine vbuildS_one u_LLint z_Lint zr_Lint rfl rfl fun b7 w7 hb7 he7 hz7 hB7 => ?_
    refine OwnV.app1 ((V5.ext he6).ext he7) l_LLint hB7 rfl (by omega) (by omega) fun v8 w8 hv8 hs8 hn8 => ?_
    have hn8' : ∀ x, v8.ownBlock = some x → b5 ≤ x := fun x hx => by
      rcases hn8 x hx with e | e
      · exact hn4' x e
      · omega
    have B8 := ((B5.ext he6).ext he7).same hs8 fun e => by have := hn4' _ e; omega
    refine B8.st hv8.vals.cells1 hv8.vals.one z_LLint rfl fun w9 hs9 hz9 hB9 => ?_
    have B9 : Blk w9 b3 [.int .i64 c.many, v8] T_impl_Cnf := hB9
    have hz8 := hs8.size
    have hS9 : Same (fun x => v4.ownBlock = some x ∨ x = b3) w7 w9 := (hs8.mono fun x _ e => .inl e).trans (hs9.mono fun x _ e => .inr e)
    have far : ∀ x, x < b5 → x ≠ b3 → ¬ (v4.ownBlock = some x ∨ x = b3) := fun x h1 h2 h => h.elim (fun e => by have := hn4' x e; omega) h2
    have R9 := ((R5.ext he6).ext he7).same hS9 (far b4 (by omega) (by omega))
    have hR9 := ((hR5.ext he6).ext he7).same hS9 (far b (by omega) (by omega)) fun x hx _ => far x (by have := hF x hx; omega) (by have := hF x hx; omega)
    have hSw : Same (· = b) w w9 := by
      refine ⟨hS9.os.trans (he7.os.trans (he6.os.trans hS5.os)), hS9.tape.trans (he7.tape.trans (he6.tape.trans hS5.tape)), hS9.output.trans (he7.output.trans (he6.output.trans hS5.output)), by have := hS9.size; omega, fun x hx hn => ?_⟩
      rw [hS9.block x (by omega) (far x (by omega) (by omega)), he7.block x (by omega) id, he6.block x (by omega) id, hS5.block x hx hn]
    refine fin w9 c.many v8 ⟨c.many, c.list ++ [r]⟩ (p + 1) hSw (by omega) hR9 (by omega) B9 R9 rfl ⟨es ++ [Value.slice (some ⟨b6, 0, none⟩) r.length r.length], by simp [hes], ?_, fun j hj => ?_⟩ (by omega) (by omega) (by simp) fun x hx => ?_
    · exact (hv8.same hs9 fun x hx e => by have := hn8' x hx; omega).vals.weaken fun x hx _ => .inl ⟨by have := hn8' x hx; omega, by have := hn8' x hx; omega⟩
    · simp only [List.length_append, List.length_singleton] at hj
      by_cases e : j < c.list.length
      · rw [getD_app_l (by omega), getD_app_l e]
        refine (((hei j e).weaken (F' := fun x => G x ∧ x < w.heap.size) fun x h1 h2 => ⟨h1, h2⟩).same hSw fun x hx _ e => hG x hx.1 e).weaken fun x hx _ => .inr hx
      · have e1 : j = c.list.length := by omega
        have e2 : j = es.length := by omega
        have g1 : (es ++ [Value.slice (some ⟨b6, 0, none⟩) r.length r.length]).getD j undef = .slice (some ⟨b6, 0, none⟩) r.length r.length := by rw [e2]; simp
        have g2 : (c.list ++ [r]).getD j [] = r := by rw [e1]; simp
        rw [g1, g2]
        exact ((hI6.ext he7).same hS9 fun x hx _ h => h.elim (fun e => by have := V5.lt e; omega) fun e => by omega).weaken fun x hx _ => .inl ⟨by omega, by omega⟩
    · rcases List.mem_append.1 hx with hx | hx
      · exact .inl hx
      · rw [List.mem_singleton] at hx; subst hx; exact .inr hr
  simp only [push_cast]
  refine vif_dec (fun _ => ?_) (fun _ => vif_dec (fun _ => ?_) (fun _ => vif_dec (fun _ => ?_) (fun _ => vif_dec (fun _ => ?_) (fun _ => vif_dec (fun _ => ?_) (fun _ => vif_dec (fun _ => ?_) (fun _ => ?_))))))
  · simp (disch := (simp only [push_cast]; done)) only [push_cast, B5.ld0]
    rw [wrap64 (by omega) (by omega)]
    exact add [c.many + 1] (by simp)
  · exact add [1, -1] (by simp)
  · exact add [0] (by simp)
  · simp (disch := (simp only [push_cast]; done)) only [push_cast, B5.ld0]
    rw [wrap64 (by omega) (by omega)]
    refine vbuildS_ints (xs := [-1, 0, 701, 9223372036854775807, c.many + 3]) (by simp) fun b6 w6 hb6 he6 hz6 hI6 _ => ?_
    refine num_spec (hR5.ext he6) hI6 (by simp) (by simp) (by omega) (by omega) fun w7 m hs7 hz7 hR7 hm => ?_
    have hmb : -1 ≤ m ∧ m ≤ 9223372036854775807 := by
      simp only [List.mem_cons, List.not_mem_nil, or_false] at hm
      omega
    have hS7 : Same (· = b) w5 w7 := (Same.of_ext he6).trans hs7
    refine (B5.same hS7 (by omega)).st rfl rfl z_int rfl fun w8 hs8 hz8 hB8 => ?_
    have B8 : Blk w8 b3 [.int .i64 m, lv] T_impl_Cnf := hB8
    have hSw : Same (· = b) w w8 := by
      refine ⟨hs8.os.trans (hS7.os.trans hS5.os), hs8.tape.trans (hS7.tape.trans hS5.tape), hs8.output.trans (hS7.output.trans hS5.output), by omega, fun x hx hn => ?_⟩
      rw [hs8.block x (by omega) (by omega), hS7.block x (by omega) hn, hS5.block x hx hn]
    exact fin w8 m lv ⟨m, c.list⟩ (p + 1 + 1) hSw (by omega) (hR7.same hs8 (by omega) fun x hx _ e => by have := hF x hx; omega) (by omega) B8 ((R5.same hS7 (by omega)).same hs8 (by omega)) rfl (lst w8 hSw (by omega)) (by omega) (by omega) (by show c.list.length ≤ c.list.length + 1; omega) fun x hx => .inl hx
  · exact add [-9223372036854775808] (by simp)
  · exact add [2, 1] (by simp)
  · exact fin w5 c.many lv c (p + 1) hS5 (Nat.le_refl _) hR5 (by omega) B5 R5 rfl (lst w5 hS5 (Nat.le_refl _)) (by omega) (by omega) (by omega) fun x hx => .inl hx
theorem DrawSatRun_spec {v : Value} {xs : List Nat} (hx : Bytes F w v xs)
    (hK : ∀ w' vc c fuel, Ext w w' → CnfR (fun x => w.heap.size ≤ x) w' vc c → -9223372036854775808 ≤ c.many → c.many ≤ 9223372036854775807 → -1 ≤ fuel → fuel ≤ 4001 → c.list.length ≤ 1000 → (∀ x, x ∈ c.list → x.length ≤ 7) → K (.tuple #[vc, .int .i64 fuel]) w') :
    vcall PP n_spec_DrawSatRun #[v] w K := by
  apply c_spec_DrawSatRun; unfold F_spec_DrawSatRun
  have hx0 : Bytes (fun x => F x ∧ x < w.heap.size) w v xs := ⟨hx.1.weaken fun x h1 h2 => ⟨h1, h2⟩, hx.2⟩
  refine valloc_new zr_impl_Cnf fun b2 w1 hb2 he1 hz1 hB1 => ?_
  have R1 : Blk w1 b2 [.int .i64 0, .slice none 0 0] T_impl_Cnf := hB1
  refine l12Open_spec (hx0.ext he1) (fun x hx => by have := hx.2; omega) fun w2 b v2 ys he2 hR2 hb => ?_
  have R2 := R1.ext he2
  have hz2 := he2.size
  have lb := hR2.blk.lt
  refine l4Cnf_spec hR2 (fun x hx => by have := hx.2; omega) (by omega) fun w3 p3 v3 c3 hs3 hR3 hp3 hc3 hm1 hm7 hl3 h73 => ?_
  have R3 := R2.same hs3 (by omega)
  have hz3 := hs3.size
  refine l4Bent_spec hR3 (fun x hx => by have := hx.2; omega) hc3 (fun x hx => by omega) (by omega) (by omega) (by omega) (by omega) fun w4 p4 v4 c4 hs4 hR4 hp4 hc4 hma hmb hl4 h74 => ?_
  have R4 := R3.same hs4 (by omega)
  have hz4 := hs4.size
  refine valloc_new zr_impl_Cnf fun b5 w5 hb5 he5 hz5 hB5 => ?_
  have B5 : Blk w5 b5 [.int .i64 0, .slice none 0 0] T_impl_Cnf := hB5
  have hc4' : CnfR (fun x => (w2.heap.size ≤ x) ∧ x < w4.heap.size) w4 v4 c4 := hc4.weaken fun x h1 h2 => ⟨by omega, h2⟩
  obtain ⟨l4, rfl, hone⟩ := hc4'.fields
  refine B5.stAgg (cs' := [.int .i64 c4.many, l4]) rfl g_impl_Cnf hone fun w6 hs6 hz6 hB6 => ?_
  refine vdraw_ext fun w7 he7 _ => ?_
  have B7 := hB6.ext he7
  simp (disch := (simp only [push_cast]; done)) only [push_cast, B7.ldAgg g_impl_Cnf, true_and]
  refine vbuildS_ints (xs := [4000, 100, 40, 20, 8, 1, 0, -1, 4001, 300]) (by simp) fun b8 w8 hb8 he8 hz8 hI8 _ => ?_
  have B8 := B7.ext he8
  have hz7 := he7.size
  simp (disch := (simp only [push_cast]; done)) only [push_cast, B8.ldAgg g_impl_Cnf, true_and, and_self]
  have hE8 : Same (· = b5) w5 w8 := hs6.trans (Same.of_ext (he7.trans he8))
  have hR8 := (hR4.ext he5).same hE8 (by omega) fun x hx _ e => by have := hx.2; omega
  refine num_spec hR8 hI8 (by simp) (by simp) (by omega) (by omega) fun w9 m hs9 hz9 hR9 hm => ?_
  have hmf : -1 ≤ m ∧ m ≤ 4001 := by simp at hm; omega
  have B9 := B8.same hs9 (by omega)
  simp (disch := (simp only [push_cast]; done)) only [push_cast, B9.ldAgg g_impl_Cnf, true_and, and_self]
  have R9 := ((R4.ext he5).same hE8 (by omega)).same hs9 (by omega)
  refine R9.stAgg (cs' := [.int .i64 c4.many, l4]) rfl g_impl_Cnf hone fun w10 hs10 hz10 hB10 => ?_
  rw [hB10.lv g_impl_Cnf]
  have hS : Same (fun x => x = b ∨ x = b2) w2 w10 := by
    have h1 : Same (· = b) w2 w5 := (hs3.trans hs4).trans (Same.of_ext he5)
    refine ⟨hs10.os.trans (hs9.os.trans (hE8.os.trans h1.os)), hs10.tape.trans (hs9.tape.trans (hE8.tape.trans h1.tape)), hs10.output.trans (hs9.output.trans (hE8.output.trans h1.output)), by have := h1.size; have := hE8.size; omega, fun x hx hn => ?_⟩
    rw [hs10.block x (by omega) (fun e => hn (.inr e)), hs9.block x (by omega) (fun e => hn (.inl e)), hE8.block x (by omega) (by omega), h1.block x hx (fun e => hn (.inl e))]
  have hcf := ((((hc4'.ext he5).same hE8 fun x hx _ e => by omega).same hs9 fun x hx _ e => by omega).same hs10 fun x hx _ e => by omega).weaken (F' := fun x => w.heap.size ≤ x) fun x hx _ => by omega
  exact hK w10 _ c4 m (Ext.then (he1.trans he2) hS fun x hx => by omega) hcf hma hmb hmf.1 hmf.2 (by omega) fun x hx => (h74 x hx).elim (h73 x) fun h => by omega
end Go.Proofs.YtpihgpfebhegmaaGreat
