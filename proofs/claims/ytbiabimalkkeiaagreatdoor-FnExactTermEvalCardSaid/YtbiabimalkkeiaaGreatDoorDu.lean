/- Contracts of the reference's drawing: bent terms; the draws of the laws on terms. -/
import Derived.Test.YtbiabimalkkeiaaGreatDoorDt
set_option linter.unusedVariables false
set_option linter.unusedSimpArgs false
set_option linter.unnecessarySimpa false
set_option linter.unusedSectionVars false
namespace Go.Proofs.YtbiabimalkkeiaaGreatDoor
open Go Go.Vc Go.Proofs
variable {w : World} {K : Value → World → Prop} {F F' D G : Nat → Prop}
theorem ints_lit {ns : List Int} (hsm : ns.length ≤ 1000) (hK : ∀ b2 w', b2 = w.heap.size → Ext w w' → Ints (· = b2) w' (.slice (some ⟨b2, 0, none⟩) ns.length ns.length) ns → K (.slice (some ⟨b2, 0, none⟩) ns.length ns.length) w') : vbuildS PP T_Lint ns.length ((ns.map fun x => Value.int .i64 x).zipIdx.map fun p => (p.2, p.1)) w K := by
  have := vbuildS_row1 (w := w) (K := K) (t := T_Lint) (xs := ns.map fun x => Value.int .i64 x) u_Lint z_int zr_int (fun x hx => by obtain ⟨y, _, rfl⟩ := List.mem_map.1 hx; rfl) (by simp; omega) fun b2 w' h1 h2 h3 h4 => by
    rw [List.length_map]
    exact hK b2 w' h1 h2 (h4.sl1 (by simp) (by omega))
  rwa [List.length_map] at this
theorem cells5 {cs : List Value} (h : cs.length = 5) : ∃ a b c d e, cs = [a, b, c, d, e] := by
  match cs, h with
  | [a, b, c, d, e], _ => exact ⟨a, b, c, d, e, rfl⟩
theorem l2Bent_spec {b p : Nat} {v tv : Value} {xs : List Nat} {t : M.Tm} (h : RdR F w b v xs p) (hF : ∀ x, F x → x < w.heap.size) (ht : TermR G w tv t) (hG : ∀ x, G x → x ≠ b) (hG1 : ∀ x, G x → x < w.heap.size) (hp : p + 10 < 1099511627776) (hsm : t.ks.length ≤ 1000)
    (hK : ∀ w' p' tv' t', Same (· = b) w w' → RdR F w' b v xs p' → p' ≤ p + 10 → TermR (fun x => G x ∨ w.heap.size ≤ x) w' tv' t' → K tv' w') : vcall PP n_spec_l2Bent #[.pointer (some ⟨b, 0, none⟩), tv] w K := by
  apply c_spec_l2Bent; unfold F_spec_l2Bent
  have lb := h.blk.lt
  obtain ⟨kv, rfl, hks⟩ := ht
  refine vbox_agg fun b1 w1 hb1 he1 hs1 h1 => ?_
  refine valloc_agg zr_impl_Term fun b2 w2 hb2 he2 hs2 h2 => ?_
  have q2 := h1.ext he2
  refine vbuildS_row (xs := []) (us := []) (k := 5) u_Limpl_Term z_impl_Term zr_impl_Term rfl (by simp) (by decide) fun b3 w3 hb3 he3 hs3 h3 => ?_
  have ho3 : Own PP 0 5 T_Limpl_Term w3 (.slice (some ⟨b3, 0, none⟩) 0 0) [] := Blk.ownk (css := []) (by rw [eo_Limpl_Term]; exact h3) (by simp) rfl (by decide)
  have q3 := q2.ext he3
  have r3 := h2.ext he3
  have hE3 := (he1.trans he2).trans he3
  have hks3 := hks.ext hE3
  have hR3 := h.ext hE3
  have hz1 := he1.size
  have hz2 := he2.size
  have hz3 := he3.size
  simp (disch := (simp only [push_cast]; done)) only [push_cast, q3.ld4]
  obtain ⟨css, hsl, hcl, hci⟩ := hks3
  have hone : ∀ y, y ∈ css → ∀ c, c ∈ y → c.oneCell' = true := fun y hy c hc => by
    obtain ⟨i, hi, rfl⟩ := List.getElem_of_mem hy
    have hq := hci i (by omega)
    rw [List.getD_eq_getElem?_getD, List.getElem?_eq_getElem hi] at hq
    obtain ⟨kv', he, hk'⟩ := hq.inv
    obtain ⟨css', hs', _⟩ := hk'
    rw [show css[i] = (some css[i]).getD [] from rfl, he] at hc
    simp only [List.mem_cons, List.not_mem_nil, or_false] at hc
    rcases hc with rfl | rfl | rfl | rfl | rfl
    · rfl
    · rfl
    · rfl
    · rfl
    · exact hs'.one
  refine vappend (F := G) l_Limpl_Term (by decide) ho3 hsl hone (Nat.zero_le _) (by simp; omega) (by simp; omega) fun ov w4 ho4 hw4 hn4 => ?_
  replace ho4 : Own PP 0 5 T_Limpl_Term w4 ov css := ho4
  have hz4 := hw4.size
  have hw4' : Same (· = b3) w3 w4 := hw4.mono fun x _ hx => (Option.some.inj hx).symm
  have hn : ∀ x, ov.ownBlock = some x → w2.heap.size ≤ x := fun x hx => by
    rcases hn4 x hx with hx | hx
    · have e : x = b3 := (Option.some.inj hx).symm; omega
    · omega
  have hs04 : Same (· = b) w w4 := same_new (Same.of_ext hE3) hw4' (by omega)
  have hR4 : RdR F w4 b v xs p := hR3.new hw4' (by omega) fun x hx e => by have := hF x hx; omega
  have q4 := q3.same hw4' (by omega)
  have r4 := r3.same hw4' (by omega)
  have hks4 : TmsR G w4 kv t.ks := (hks.ext hE3).same hw4' fun x hx _ e => by have := hG1 x hx; omega
  refine pick_spec hR4 (by omega) (by omega) fun w5 c hs5 hz5 hR5 _ _ => ?_
  have q5 := q4.same hs5 (by omega)
  have r5 := r4.same hs5 (by omega)
  have hks5 : TmsR G w5 kv t.ks := hks4.same hs5 fun x hx _ e => hG x hx e
  have hs05 := hs04.trans hs5
  have ho5 : Own PP 0 5 T_Limpl_Term w5 ov css := ho4.same hs5 fun x hx e => by have := hn x hx; omega
  have hz05 := hs05.size
  -- the end: the variable is read and handed on
  have hfin : ∀ {w6 : World} {p6 : Nat} {cs : List Value} {t' : M.Tm}, Same (· = b) w w6 → RdR F w6 b v xs p6 → p6 ≤ p + 10 → Blk w6 b1 cs T_impl_Term → Blk w6 b2 zeroT T_impl_Term → TmR (fun x => G x ∨ w2.heap.size ≤ x) w6 cs t' →
      vload PP T_impl_Term (.pointer (some ⟨b1, 0, none⟩)) w6 fun t56 w_13 => vstore PP T_impl_Term (.pointer (some ⟨b2, 0, none⟩)) t56 w_13 fun _ w_14 => vlv PP T_impl_Term (.pointer (some ⟨b2, 0, none⟩)) w_14 fun r4 w_15 => K r4 w_15 := by
    intro w6 p6 cs t' hs hR hp6 hq hr hc
    rw [hq.ldAgg (t := T_impl_Term) (by rw [tmR_len hc]; exact g_impl_Term)]
    refine retTerm hr rfl hc (fun x hx e => by rcases hx with hx | hx <;> first | (have := hG1 x hx; omega) | omega) fun w7 hs7 hz7 ht7 => ?_
    exact hK w7 p6 _ t' (same_new hs hs7 (by omega)) (hR.new hs7 (by omega) fun x hx e => by have := hF x hx; omega) hp6 (ht7.weaken fun x hx _ => hx.imp id fun h => by omega)
  -- one field is written
  have hput : ∀ {w6 : World} {p6 : Nat} {i : Nat} {x : Value} {e : TypeId} {t' : M.Tm} {cs' : List Value}, Same (· = b) w w6 → RdR F w6 b v xs p6 → p6 ≤ p + 10 → Blk w6 b1 [.int .i64 t.op, .int .i64 t.a, .int .i64 t.b, .string t.s, kv] T_impl_Term → Blk w6 b2 zeroT T_impl_Term → x.cells = #[x] → x.oneCell' = true → sizeB PP e 1 = true → i < 5 →
      [.int .i64 t.op, .int .i64 t.a, .int .i64 t.b, .string t.s, kv].set i x = cs' → (∀ w7, Same (· = b1) w6 w7 → TmR (fun x => G x ∨ w2.heap.size ≤ x) w7 cs' t') →
      vstore PP e (.pointer (some ⟨b1, i, none⟩)) x w6 fun _ w_12 => vload PP T_impl_Term (.pointer (some ⟨b1, 0, none⟩)) w_12 fun t56 w_13 => vstore PP T_impl_Term (.pointer (some ⟨b2, 0, none⟩)) t56 w_13 fun _ w_14 => vlv PP T_impl_Term (.pointer (some ⟨b2, 0, none⟩)) w_14 fun r4 w_15 => K r4 w_15 := by
    intro w6 p6 i x e t' cs' hs hR hp6 hq hr hx1 hx2 hz hi hset hc
    refine hq.st hx1 hx2 hz (by simp [Nat.blt_eq]; omega) fun w7 hs7 hz7 hq7 => ?_
    rw [hset] at hq7
    exact hfin (same_new hs hs7 (by omega)) (hR.new hs7 (by omega) fun x hx e => by have := hF x hx; omega) hp6 hq7 (hr.same hs7 (by omega)) (hc w7 hs7)
  have hkeep : ∀ {w6 w7 : World}, TmsR G w6 kv t.ks → Same (· = b1) w6 w7 → TmsR (fun x => G x ∨ w2.heap.size ≤ x) w7 kv t.ks := fun hk hs => (hk.same hs fun x hx _ e => by have := hG1 x hx; omega).weaken fun x hx _ => .inl hx
  simp only [push_cast]
  refine vif_dec (fun a0 => ?_) (fun a0 => ?_)
  · refine num_lit (ns := [0, 18, 28, 3, 16, 25]) hR5 (by simp) (by decide) (by omega) fun w6 m hs6 hR6 hm => ?_
    try simp only [push_cast]
    exact hput (t' := .mk m t.a t.b t.s t.ks) (hs05.trans hs6) hR6 (by omega) (q5.same hs6 (by omega)) (r5.same hs6 (by omega)) rfl rfl z_int (by omega) rfl fun w7 hs7 => TmR.of (t := .mk m t.a t.b t.s t.ks) (hkeep (hks5.same hs6 fun x hx _ e => hG x hx e) hs7)
  refine vif_dec (fun a1 => ?_) (fun a1 => ?_)
  · refine vdraw_ext fun w6 he6 _ => ?_
    have q6 := q5.ext he6
    simp (disch := (simp only [push_cast]; done)) only [push_cast, q6.ld1, true_and]
    refine ints_lit (ns := [1, -1]) (by decide) fun b7 w7 hb7 he7 hi7 => ?_
    have q7 := q6.ext he7
    simp (disch := (simp only [push_cast]; done)) only [push_cast, q7.ld1, true_and, and_self]
    have hl6 := (hR5.ext he6).blk.lt
    refine num_spec ((hR5.ext he6).ext he7) hi7 (by simp) (by decide) (by omega) (fun x hx e => by subst hx; omega) fun w8 m hs8 _ hR8 hm => ?_
    have q8 := q7.same hs8 (by omega)
    simp (disch := (simp only [push_cast]; done)) only [push_cast, q8.ld1, true_and, and_self]
    have hs08 := ((hs05.trans (Same.of_ext he6)).trans (Same.of_ext he7)).trans hs8
    exact hput (t' := .mk t.op (IntKind.i64.wrap (t.a + m)) t.b t.s t.ks) hs08 hR8 (by omega) q8 (((r5.ext he6).ext he7).same hs8 (by omega)) rfl rfl z_int (by omega) rfl fun w9 hs9 => TmR.of (t := .mk t.op (IntKind.i64.wrap (t.a + m)) t.b t.s t.ks) (hkeep (((hks5.ext he6).ext he7).same hs8 fun x hx _ e => hG x hx e) hs9)
  refine vif_dec (fun a2 => ?_) (fun a2 => ?_)
  · refine vdraw_ext fun w6 he6 _ => ?_
    have q6 := q5.ext he6
    simp (disch := (simp only [push_cast]; done)) only [push_cast, q6.ld2, true_and]
    refine ints_lit (ns := [1, -1, 16]) (by decide) fun b7 w7 hb7 he7 hi7 => ?_
    have q7 := q6.ext he7
    simp (disch := (simp only [push_cast]; done)) only [push_cast, q7.ld2, true_and, and_self]
    have hl6 := (hR5.ext he6).blk.lt
    refine num_spec ((hR5.ext he6).ext he7) hi7 (by simp) (by decide) (by omega) (fun x hx e => by subst hx; omega) fun w8 m hs8 _ hR8 hm => ?_
    have q8 := q7.same hs8 (by omega)
    simp (disch := (simp only [push_cast]; done)) only [push_cast, q8.ld2, true_and, and_self]
    have hs08 := ((hs05.trans (Same.of_ext he6)).trans (Same.of_ext he7)).trans hs8
    exact hput (t' := .mk t.op t.a (IntKind.i64.wrap (t.b + m)) t.s t.ks) hs08 hR8 (by omega) q8 (((r5.ext he6).ext he7).same hs8 (by omega)) rfl rfl z_int (by omega) rfl fun w9 hs9 => TmR.of (t := .mk t.op t.a (IntKind.i64.wrap (t.b + m)) t.s t.ks) (hkeep (((hks5.ext he6).ext he7).same hs8 fun x hx _ e => hG x hx e) hs9)
  refine vif_dec (fun a3 => ?_) (fun a3 => ?_)
  · exact hput (t' := .mk t.op t.a t.b ⟨#[113]⟩ t.ks) hs05 hR5 (by omega) q5 r5 rfl rfl z_string (by omega) rfl fun w9 hs9 => TmR.of (t := .mk t.op t.a t.b ⟨#[113]⟩ t.ks) (hkeep hks5 hs9)
  refine vif_dec (fun a4 => ?_) (fun a4 => ?_)
  · refine kids1 (G := fun _ => False) (t0 := .mk 24 0 0 ⟨#[]⟩ []) (TmR.term (leafR 24 0 0 _)) fun w6 sa he6 hz6 hk6 => ?_
    obtain ⟨css1, hsl1, hcl1, hci1⟩ := hk6
    have hone1 : ∀ y, y ∈ css1 → ∀ c, c ∈ y → c.oneCell' = true := fun y hy c hc => by
      obtain ⟨i, hi, rfl⟩ := List.getElem_of_mem hy
      have hq := hci1 i (by omega)
      rw [List.getD_eq_getElem?_getD, List.getElem?_eq_getElem hi] at hq
      obtain ⟨kv', he, hk'⟩ := hq.inv
      obtain ⟨css', hs', _⟩ := hk'
      rw [show css1[i] = (some css1[i]).getD [] from rfl, he] at hc
      simp only [List.mem_cons, List.not_mem_nil, or_false] at hc
      rcases hc with rfl | rfl | rfl | rfl | rfl
      · rfl
      · rfl
      · rfl
      · rfl
      · exact hs'.one
    have hl1 : css1.length = 1 := hcl1
    refine vappend l_Limpl_Term (by decide) (ho5.ext he6) hsl1 hone1 (Nat.zero_le _) (by omega) (by omega) fun ov' w7 ho7 hw7 hn7 => ?_
    have hs06 := hs05.trans (Same.of_ext he6)
    have hz06 := hs06.size
    have hs07 : Same (· = b) w w7 := ⟨hw7.os.trans hs06.os, hw7.tape.trans hs06.tape, hw7.output.trans hs06.output, Nat.le_trans hs06.size hw7.size, fun y hy hne => by
      rw [hw7.block y (Nat.lt_of_lt_of_le hy hs06.size) (fun e => by have := hn y e; omega)]; exact hs06.block y hy hne⟩
    have hR7 : RdR F w7 b v xs _ := (hR5.ext he6).same hw7 (fun e => by have := hn b e; omega) fun y hy _ e => by have := hn y e; have := hF y hy; omega
    have q7 := (q5.ext he6).same hw7 (fun e => by have := hn b1 e; omega)
    have r7 := (r5.ext he6).same hw7 (fun e => by have := hn b2 e; omega)
    have hn' : ∀ x, ov'.ownBlock = some x → w2.heap.size ≤ x := fun x hx => by
      rcases hn7 x hx with hx | hx
      · exact hn x hx
      · omega
    have hk7 : TmsR (fun x => G x ∨ w2.heap.size ≤ x) w7 ov' (t.ks ++ [.mk 24 0 0 ⟨#[]⟩ []]) := by
      refine ⟨css ++ css1, ho7.sl.weaken fun x hx _ => .inr (hn' x hx), by rw [List.length_append, List.length_append, hcl, hl1]; rfl, fun i hi => ?_⟩
      rw [List.length_append] at hi
      by_cases hi2 : i < t.ks.length
      · rw [List.getD_eq_getElem?_getD, List.getElem?_append_left (by omega), ← List.getD_eq_getElem?_getD, List.getD_eq_getElem?_getD (l := t.ks ++ _), List.getElem?_append_left hi2, ← List.getD_eq_getElem?_getD]
        exact (((((hci i hi2).same hw4' fun x hx _ e => by have := hG1 x hx; omega).same hs5 fun x hx _ e => hG x hx e).ext he6).same hw7 fun x hx _ e => by have := hn x e; have := hG1 x hx; omega).weaken fun x hx _ => .inl hx
      · have hi3 : i = t.ks.length := by simp at hi; omega
        subst hi3
        rw [List.getD_eq_getElem?_getD, List.getElem?_append_right (by omega), ← List.getD_eq_getElem?_getD, hcl, Nat.sub_self, List.getD_eq_getElem?_getD (l := t.ks ++ _), List.getElem?_append_right (by omega), Nat.sub_self]
        have hx0 := hci1 0 (by simp)
        obtain ⟨kv0, he0, hkk0⟩ := hx0.inv
        rw [he0]
        exact TmR.of (t := .mk 24 0 0 ⟨#[]⟩ []) ((hkk0.same hw7 fun x hx hl e => by
          rcases hx with hx | hx
          · exact hx.elim
          · have := ho5.lt e
            omega).weaken fun x hx _ => by
          rcases hx with hx | hx
          · exact hx.elim
          · right; omega)
    have hone : ov'.cells = #[ov'] ∧ ov'.oneCell' = true := ⟨ho7.sl.cells1, ho7.sl.one⟩
    try simp only [push_cast]
    exact hput (t' := .mk t.op t.a t.b t.s (t.ks ++ [.mk 24 0 0 ⟨#[]⟩ []])) hs07 hR7 (by omega) q7 r7 hone.1 hone.2 z_Limpl_Term (by omega) rfl fun w9 hs9 => TmR.of (t := .mk t.op t.a t.b t.s (t.ks ++ [.mk 24 0 0 ⟨#[]⟩ []])) (hk7.same hs9 fun x hx _ e => by
      rcases hx with hx | hx
      · have := hG1 x hx; omega
      · omega)
  refine vif_dec (fun a5 => ?_) (fun a5 => ?_)
  · refine vloop_up 7 (fun i u w' => ∃ cs t', u = [.int .i64 i] ∧ Same (· = b) w w' ∧ RdR F w' b v xs (p + 1) ∧ Blk w' b1 cs T_impl_Term ∧ Blk w' b2 zeroT T_impl_Term ∧ TmR (fun x => G x ∨ w2.heap.size ≤ x) w' cs t' ∧ w2.heap.size ≤ w'.heap.size) ⟨_, t, rfl, hs05, hR5, q5, r5, TmR.of (hks5.weaken fun x hx _ => .inl hx), by omega⟩ ?_
    rintro i _ _ w6 C hi ⟨cs, t', rfl, hs6, hR6, hq6, hr6, hc6, hz6⟩ hC
    simp only [push_cast]
    refine vif_dec (fun c => ?_) (fun c => ?_)
    · rw [hq6.ldAgg (t := T_impl_Term) (by rw [tmR_len hc6]; exact g_impl_Term)]
      refine kids1 hc6.term fun w7 sa he7 hz7 hk7 => ?_
      simp only [push_cast]
      have hk7' : TmsR (fun x => G x ∨ w2.heap.size ≤ x) w7 (.slice sa 1 1) [t'] := hk7.weaken fun x hx _ => by
        rcases hx with hx | hx
        · exact hx
        · right; omega
      have hc7 : TmR (fun x => G x ∨ w2.heap.size ≤ x) w7 [.int .i64 25, .int .i64 0, .int .i64 0, .string ⟨#[]⟩, .slice sa 1 1] (.mk 25 0 0 ⟨#[]⟩ [t']) := TmR.of (t := .mk 25 0 0 ⟨#[]⟩ [t']) hk7'
      refine stTerm (hq6.ext he7) (tmR_len hc6) hc7 fun w8 hs8 hz8 hq8 => ?_
      try simp only [push_cast]
      rw [inc64' (by omega)]
      refine hC (by omega) _ _ ⟨_, _, rfl, same_new (hs6.trans (Same.of_ext he7)) hs8 (by omega), (hR6.ext he7).new hs8 (by omega) fun x hx e => by have := hF x hx; omega, hq8, (hr6.ext he7).same hs8 (by omega), hc7.same hs8 fun x hx _ e => by
        rcases hx with hx | hx
        · have := hG1 x hx; omega
        · omega, by omega⟩
    · exact hfin hs6 hR6 (by omega) hq6 hr6 hc6
  · exact hfin hs05 hR5 (by omega) q5 r5 (TmR.of (t := t) (hks5.weaken fun x hx _ => .inl hx))
end Go.Proofs.YtbiabimalkkeiaaGreatDoor
