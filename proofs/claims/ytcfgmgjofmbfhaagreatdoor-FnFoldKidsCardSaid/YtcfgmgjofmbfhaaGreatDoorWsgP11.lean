import Derived.Test.YtcfgmgjofmbfhaaGreatDoorWsgP10
import Derived.Test.YtcfgmgjofmbfhaaGreatDoorWsgP2
import Derived.WalkKit
import Derived.ProofKit
import Derived.OpenShut
import Derived.ShutString
import Derived.ChangeOld
import Derived.Below
import Derived.Deep.Slices
import Derived.Test.YtcfgmgjofmbfhaaGreatDoorWsgP9
/- A part of the proof: Du, Wa, Wb, Wc, Rw, Xf, M23, M24, Ya, Yb, Yc. -/
set_option linter.unusedVariables false
set_option linter.unusedSimpArgs false
set_option linter.unnecessarySimpa false
set_option linter.unusedSectionVars false
section
namespace Go.Proofs.YtcfgmgjofmbfhaaGreatDoor
open Go Go.Vc Go.Proofs
variable {w : World} {K : Value → World → Prop} {F F' D G : Nat → Prop}
theorem ints_lit {ns : List Int} (hsm : ns.length ≤ 1000) (hK : ∀ b2 w', b2 = w.heap.size → Ext w w' → Ints (· = b2) w' (.slice (some ⟨b2, 0, none⟩) ns.length ns.length) ns → K (.slice (some ⟨b2, 0, none⟩) ns.length ns.length) w') : vbuildS PP T_Lint ns.length ((ns.map fun x => Value.int .i64 x).zipIdx.map fun p => (p.2, p.1)) w K := by
  have := vbuildS_row1 (w := w) (K := K) (t := T_Lint) (xs := ns.map fun x => Value.int .i64 x) u_Lint z_int zr_int (fun x hx => by obtain ⟨y, _, rfl⟩ := List.mem_map.1 hx; rfl) (by simp; omega) fun b2 w' h1 h2 h3 h4 => by
    rw [List.length_map]
    exact hK b2 w' h1 h2 (h4.sl1 (by simp) (by omega))
  rwa [List.length_map] at this
theorem l2Bent_spec {b p : Nat} {v tv : Value} {xs : List Nat} {t : M.Tm} (h : RdR F w b v xs p) (hF : ∀ x, F x → x < w.heap.size) (ht : TermR G w tv t) (hG : ∀ x, G x → x ≠ b) (hG1 : ∀ x, G x → x < w.heap.size) (hp : p + 10 < 1099511627776) (hsm : t.ks.length ≤ 1000)
    (hK : ∀ w' p' tv' t', Same (· = b) w w' → RdR F w' b v xs p' → p' ≤ p + 10 → TermR (fun x => G x ∨ w.heap.size ≤ x) w' tv' t' → K tv' w') : vcall PP n_spec_l2Bent #[.pointer (some ⟨b, 0, none⟩), tv] w K := by
  apply c_spec_l2Bent; unfold F_spec_l2Bent
  have lb := h.blk.lt
  obtain ⟨kv, rfl, hks⟩ := ht
  refine vbox_agg fun b1 w1 hb1 he1 hs1 h1 => ?_
  refine valloc_agg zr_impl_Term fun b2 w2 hb2 he2 hs2 h2 => ?_
  have q2 := h1.ext he2
  refine vbuildS_row (xs := []) (us := []) (k := 5) u_Limpl_Term z_impl_Term zr_impl_Term rfl (by simp) (by decide) fun b3 w3 hb3 he3 hs3 h3 => ?_
  have ho3 : Own PP 0 5 T_Limpl_Term w3 (.slice (some ⟨b3, 0, none⟩) 0 0) [] := Blk.ownk (css := []) (by rw [eo_Limpl_Term]; exact h3) (by simp) rfl (by decide)
  have q3 := q2.ext he3
  have r3 := h2.ext he3
  have hE3 := (he1.trans he2).trans he3
  have hks3 := hks.ext hE3
  have hR3 := h.ext hE3
  have hz1 := he1.size
  have hz2 := he2.size
  have hz3 := he3.size
  simp (disch := (simp only [push_cast]; done)) only [push_cast, q3.ld4]
  obtain ⟨css, hsl, hcl, hci⟩ := hks3
  have hone : ∀ y, y ∈ css → ∀ c, c ∈ y → c.oneCell' = true := fun y hy c hc => by
    obtain ⟨i, hi, rfl⟩ := List.getElem_of_mem hy
    have hq := hci i (by omega)
    rw [List.getD_eq_getElem?_getD, List.getElem?_eq_getElem hi] at hq
    obtain ⟨kv', he, hk'⟩ := hq.inv
    obtain ⟨css', hs', _⟩ := hk'
    rw [show css[i] = (some css[i]).getD [] from rfl, he] at hc
    simp only [List.mem_cons, List.not_mem_nil, or_false] at hc
    rcases hc with rfl | rfl | rfl | rfl | rfl
    · rfl
    · rfl
    · rfl
    · rfl
    · exact hs'.one
  refine vappend (F := G) l_Limpl_Term (by decide) ho3 hsl hone (Nat.zero_le _) (by simp; omega) (by simp; omega) fun ov w4 ho4 hw4 hn4 => ?_
  replace ho4 : Own PP 0 5 T_Limpl_Term w4 ov css := ho4
  have hz4 := hw4.size
  have hw4' : Same (· = b3) w3 w4 := hw4.mono fun x _ hx => (Option.some.inj hx).symm
  have hn : ∀ x, ov.ownBlock = some x → w2.heap.size ≤ x := fun x hx => by
    rcases hn4 x hx with hx | hx
    · have e : x = b3 := (Option.some.inj hx).symm; omega
    · omega
  have hs04 : Same (· = b) w w4 := same_new (Same.of_ext hE3) hw4' (by omega)
  have hR4 : RdR F w4 b v xs p := hR3.new hw4' (by omega) fun x hx e => by have := hF x hx; omega
  have q4 := q3.same hw4' (by omega)
  have r4 := r3.same hw4' (by omega)
  have hks4 : TmsR G w4 kv t.ks := (hks.ext hE3).same hw4' fun x hx _ e => by have := hG1 x hx; omega
  refine pick_spec hR4 (by omega) (by omega) fun w5 c hs5 hz5 hR5 _ _ => ?_
  have q5 := q4.same hs5 (by omega)
  have r5 := r4.same hs5 (by omega)
  have hks5 : TmsR G w5 kv t.ks := hks4.same hs5 fun x hx _ e => hG x hx e
  have hs05 := hs04.trans hs5
  have ho5 : Own PP 0 5 T_Limpl_Term w5 ov css := ho4.same hs5 fun x hx e => by have := hn x hx; omega
  have hz05 := hs05.size
  have hfin : ∀ {w6 : World} {p6 : Nat} {cs : List Value} {t' : M.Tm}, Same (· = b) w w6 → RdR F w6 b v xs p6 → p6 ≤ p + 10 → Blk w6 b1 cs T_impl_Term → Blk w6 b2 zeroT T_impl_Term → TmR (fun x => G x ∨ w2.heap.size ≤ x) w6 cs t' →
      vload PP T_impl_Term (.pointer (some ⟨b1, 0, none⟩)) w6 fun t56 w_13 => vstore PP T_impl_Term (.pointer (some ⟨b2, 0, none⟩)) t56 w_13 fun _ w_14 => vlv PP T_impl_Term (.pointer (some ⟨b2, 0, none⟩)) w_14 fun r4 w_15 => K r4 w_15 := by
    intro w6 p6 cs t' hs hR hp6 hq hr hc
    rw [hq.ldAgg (t := T_impl_Term) (by rw [tmR_len hc]; exact g_impl_Term)]
    refine retTerm hr rfl hc (fun x hx e => by rcases hx with hx | hx <;> first | (have := hG1 x hx; omega) | omega) fun w7 hs7 hz7 ht7 => ?_
    exact hK w7 p6 _ t' (same_new hs hs7 (by omega)) (hR.new hs7 (by omega) fun x hx e => by have := hF x hx; omega) hp6 (ht7.weaken fun x hx _ => hx.imp id fun h => by omega)
  have hput : ∀ {w6 : World} {p6 : Nat} {i : Nat} {x : Value} {e : TypeId} {t' : M.Tm} {cs' : List Value}, Same (· = b) w w6 → RdR F w6 b v xs p6 → p6 ≤ p + 10 → Blk w6 b1 [.int .i64 t.op, .int .i64 t.a, .int .i64 t.b, .string t.s, kv] T_impl_Term → Blk w6 b2 zeroT T_impl_Term → x.cells = #[x] → x.oneCell' = true → sizeB PP e 1 = true → i < 5 →
      [.int .i64 t.op, .int .i64 t.a, .int .i64 t.b, .string t.s, kv].set i x = cs' → (∀ w7, Same (· = b1) w6 w7 → TmR (fun x => G x ∨ w2.heap.size ≤ x) w7 cs' t') →
      vstore PP e (.pointer (some ⟨b1, i, none⟩)) x w6 fun _ w_12 => vload PP T_impl_Term (.pointer (some ⟨b1, 0, none⟩)) w_12 fun t56 w_13 => vstore PP T_impl_Term (.pointer (some ⟨b2, 0, none⟩)) t56 w_13 fun _ w_14 => vlv PP T_impl_Term (.pointer (some ⟨b2, 0, none⟩)) w_14 fun r4 w_15 => K r4 w_15 := by
    intro w6 p6 i x e t' cs' hs hR hp6 hq hr hx1 hx2 hz hi hset hc
    refine hq.st hx1 hx2 hz (by simp [Nat.blt_eq]; omega) fun w7 hs7 hz7 hq7 => ?_
    rw [hset] at hq7
    exact hfin (same_new hs hs7 (by omega)) (hR.new hs7 (by omega) fun x hx e => by have := hF x hx; omega) hp6 hq7 (hr.same hs7 (by omega)) (hc w7 hs7)
  have hkeep : ∀ {w6 w7 : World}, TmsR G w6 kv t.ks → Same (· = b1) w6 w7 → TmsR (fun x => G x ∨ w2.heap.size ≤ x) w7 kv t.ks := fun hk hs => (hk.same hs fun x hx _ e => by have := hG1 x hx; omega).weaken fun x hx _ => .inl hx
  simp only [push_cast]
  refine vif_dec (fun a0 => ?_) (fun a0 => ?_)
  · refine num_lit (ns := [0, 18, 28, 3, 16, 25]) hR5 (by simp) (by decide) (by omega) fun w6 m hs6 hR6 hm => ?_
    try simp only [push_cast]
    exact hput (t' := .mk m t.a t.b t.s t.ks) (hs05.trans hs6) hR6 (by omega) (q5.same hs6 (by omega)) (r5.same hs6 (by omega)) rfl rfl z_int (by omega) rfl fun w7 hs7 => TmR.of (t := .mk m t.a t.b t.s t.ks) (hkeep (hks5.same hs6 fun x hx _ e => hG x hx e) hs7)
  refine vif_dec (fun a1 => ?_) (fun a1 => ?_)
  · refine vdraw_ext fun w6 he6 _ => ?_
    have q6 := q5.ext he6
    simp (disch := (simp only [push_cast]; done)) only [push_cast, q6.ld1, true_and]
    refine ints_lit (ns := [1, -1]) (by decide) fun b7 w7 hb7 he7 hi7 => ?_
    have q7 := q6.ext he7
    simp (disch := (simp only [push_cast]; done)) only [push_cast, q7.ld1, true_and, and_self]
    have hl6 := (hR5.ext he6).blk.lt
    refine num_spec ((hR5.ext he6).ext he7) hi7 (by simp) (by decide) (by omega) (fun x hx e => by subst hx; omega) fun w8 m hs8 _ hR8 hm => ?_
    have q8 := q7.same hs8 (by omega)
    simp (disch := (simp only [push_cast]; done)) only [push_cast, q8.ld1, true_and, and_self]
    have hs08 := ((hs05.trans (Same.of_ext he6)).trans (Same.of_ext he7)).trans hs8
    exact hput (t' := .mk t.op (IntKind.i64.wrap (t.a + m)) t.b t.s t.ks) hs08 hR8 (by omega) q8 (((r5.ext he6).ext he7).same hs8 (by omega)) rfl rfl z_int (by omega) rfl fun w9 hs9 => TmR.of (t := .mk t.op (IntKind.i64.wrap (t.a + m)) t.b t.s t.ks) (hkeep (((hks5.ext he6).ext he7).same hs8 fun x hx _ e => hG x hx e) hs9)
  refine vif_dec (fun a2 => ?_) (fun a2 => ?_)
  · refine vdraw_ext fun w6 he6 _ => ?_
    have q6 := q5.ext he6
    simp (disch := (simp only [push_cast]; done)) only [push_cast, q6.ld2, true_and]
    refine ints_lit (ns := [1, -1, 16]) (by decide) fun b7 w7 hb7 he7 hi7 => ?_
    have q7 := q6.ext he7
    simp (disch := (simp only [push_cast]; done)) only [push_cast, q7.ld2, true_and, and_self]
    have hl6 := (hR5.ext he6).blk.lt
    refine num_spec ((hR5.ext he6).ext he7) hi7 (by simp) (by decide) (by omega) (fun x hx e => by subst hx; omega) fun w8 m hs8 _ hR8 hm => ?_
    have q8 := q7.same hs8 (by omega)
    simp (disch := (simp only [push_cast]; done)) only [push_cast, q8.ld2, true_and, and_self]
    have hs08 := ((hs05.trans (Same.of_ext he6)).trans (Same.of_ext he7)).trans hs8
    exact hput (t' := .mk t.op t.a (IntKind.i64.wrap (t.b + m)) t.s t.ks) hs08 hR8 (by omega) q8 (((r5.ext he6).ext he7).same hs8 (by omega)) rfl rfl z_int (by omega) rfl fun w9 hs9 => TmR.of (t := .mk t.op t.a (IntKind.i64.wrap (t.b + m)) t.s t.ks) (hkeep (((hks5.ext he6).ext he7).same hs8 fun x hx _ e => hG x hx e) hs9)
  refine vif_dec (fun a3 => ?_) (fun a3 => ?_)
  · exact hput (t' := .mk t.op t.a t.b ⟨#[113]⟩ t.ks) hs05 hR5 (by omega) q5 r5 rfl rfl z_string (by omega) rfl fun w9 hs9 => TmR.of (t := .mk t.op t.a t.b ⟨#[113]⟩ t.ks) (hkeep hks5 hs9)
  refine vif_dec (fun a4 => ?_) (fun a4 => ?_)
  · refine kids1 (G := fun _ => False) (t0 := .mk 24 0 0 ⟨#[]⟩ []) (TmR.term (leafR 24 0 0 _)) fun w6 sa he6 hz6 hk6 => ?_
    obtain ⟨css1, hsl1, hcl1, hci1⟩ := hk6
    have hone1 : ∀ y, y ∈ css1 → ∀ c, c ∈ y → c.oneCell' = true := fun y hy c hc => by
      obtain ⟨i, hi, rfl⟩ := List.getElem_of_mem hy
      have hq := hci1 i (by omega)
      rw [List.getD_eq_getElem?_getD, List.getElem?_eq_getElem hi] at hq
      obtain ⟨kv', he, hk'⟩ := hq.inv
      obtain ⟨css', hs', _⟩ := hk'
      rw [show css1[i] = (some css1[i]).getD [] from rfl, he] at hc
      simp only [List.mem_cons, List.not_mem_nil, or_false] at hc
      rcases hc with rfl | rfl | rfl | rfl | rfl
      · rfl
      · rfl
      · rfl
      · rfl
      · exact hs'.one
    have hl1 : css1.length = 1 := hcl1
    refine vappend l_Limpl_Term (by decide) (ho5.ext he6) hsl1 hone1 (Nat.zero_le _) (by omega) (by omega) fun ov' w7 ho7 hw7 hn7 => ?_
    have hs06 := hs05.trans (Same.of_ext he6)
    have hz06 := hs06.size
    have hs07 : Same (· = b) w w7 := ⟨hw7.os.trans hs06.os, hw7.tape.trans hs06.tape, hw7.output.trans hs06.output, Nat.le_trans hs06.size hw7.size, fun y hy hne => by
      rw [hw7.block y (Nat.lt_of_lt_of_le hy hs06.size) (fun e => by have := hn y e; omega)]; exact hs06.block y hy hne⟩
    have hR7 : RdR F w7 b v xs _ := (hR5.ext he6).same hw7 (fun e => by have := hn b e; omega) fun y hy _ e => by have := hn y e; have := hF y hy; omega
    have q7 := (q5.ext he6).same hw7 (fun e => by have := hn b1 e; omega)
    have r7 := (r5.ext he6).same hw7 (fun e => by have := hn b2 e; omega)
    have hn' : ∀ x, ov'.ownBlock = some x → w2.heap.size ≤ x := fun x hx => by
      rcases hn7 x hx with hx | hx
      · exact hn x hx
      · omega
    have hk7 : TmsR (fun x => G x ∨ w2.heap.size ≤ x) w7 ov' (t.ks ++ [.mk 24 0 0 ⟨#[]⟩ []]) := by
      refine ⟨css ++ css1, ho7.sl.weaken fun x hx _ => .inr (hn' x hx), by rw [List.length_append, List.length_append, hcl, hl1]; rfl, fun i hi => ?_⟩
      rw [List.length_append] at hi
      by_cases hi2 : i < t.ks.length
      · rw [List.getD_eq_getElem?_getD, List.getElem?_append_left (by omega), ← List.getD_eq_getElem?_getD, List.getD_eq_getElem?_getD (l := t.ks ++ _), List.getElem?_append_left hi2, ← List.getD_eq_getElem?_getD]
        exact (((((hci i hi2).same hw4' fun x hx _ e => by have := hG1 x hx; omega).same hs5 fun x hx _ e => hG x hx e).ext he6).same hw7 fun x hx _ e => by have := hn x e; have := hG1 x hx; omega).weaken fun x hx _ => .inl hx
      · have hi3 : i = t.ks.length := by simp at hi; omega
        subst hi3
        rw [List.getD_eq_getElem?_getD, List.getElem?_append_right (by omega), ← List.getD_eq_getElem?_getD, hcl, Nat.sub_self, List.getD_eq_getElem?_getD (l := t.ks ++ _), List.getElem?_append_right (by omega), Nat.sub_self]
        have hx0 := hci1 0 (by simp)
        obtain ⟨kv0, he0, hkk0⟩ := hx0.inv
        rw [he0]
        exact TmR.of (t := .mk 24 0 0 ⟨#[]⟩ []) ((hkk0.same hw7 fun x hx hl e => by
          rcases hx with hx | hx
          · exact hx.elim
          · have := ho5.lt e
            omega).weaken fun x hx _ => by
          rcases hx with hx | hx
          · exact hx.elim
          · right; omega)
    have hone : ov'.cells = #[ov'] ∧ ov'.oneCell' = true := ⟨ho7.sl.cells1, ho7.sl.one⟩
    try simp only [push_cast]
    exact hput (t' := .mk t.op t.a t.b t.s (t.ks ++ [.mk 24 0 0 ⟨#[]⟩ []])) hs07 hR7 (by omega) q7 r7 hone.1 hone.2 z_Limpl_Term (by omega) rfl fun w9 hs9 => TmR.of (t := .mk t.op t.a t.b t.s (t.ks ++ [.mk 24 0 0 ⟨#[]⟩ []])) (hk7.same hs9 fun x hx _ e => by
      rcases hx with hx | hx
      · have := hG1 x hx; omega
      · omega)
  refine vif_dec (fun a5 => ?_) (fun a5 => ?_)
  · refine vloop_up 7 (fun i u w' => ∃ cs t', u = [.int .i64 i] ∧ Same (· = b) w w' ∧ RdR F w' b v xs (p + 1) ∧ Blk w' b1 cs T_impl_Term ∧ Blk w' b2 zeroT T_impl_Term ∧ TmR (fun x => G x ∨ w2.heap.size ≤ x) w' cs t' ∧ w2.heap.size ≤ w'.heap.size) ⟨_, t, rfl, hs05, hR5, q5, r5, TmR.of (hks5.weaken fun x hx _ => .inl hx), by omega⟩ ?_
    rintro i _ _ w6 C hi ⟨cs, t', rfl, hs6, hR6, hq6, hr6, hc6, hz6⟩ hC
    simp only [push_cast]
    refine vif_dec (fun c => ?_) (fun c => ?_)
    · rw [hq6.ldAgg (t := T_impl_Term) (by rw [tmR_len hc6]; exact g_impl_Term)]
      refine kids1 hc6.term fun w7 sa he7 hz7 hk7 => ?_
      simp only [push_cast]
      have hk7' : TmsR (fun x => G x ∨ w2.heap.size ≤ x) w7 (.slice sa 1 1) [t'] := hk7.weaken fun x hx _ => by
        rcases hx with hx | hx
        · exact hx
        · right; omega
      have hc7 : TmR (fun x => G x ∨ w2.heap.size ≤ x) w7 [.int .i64 25, .int .i64 0, .int .i64 0, .string ⟨#[]⟩, .slice sa 1 1] (.mk 25 0 0 ⟨#[]⟩ [t']) := TmR.of (t := .mk 25 0 0 ⟨#[]⟩ [t']) hk7'
      refine stTerm (hq6.ext he7) (tmR_len hc6) hc7 fun w8 hs8 hz8 hq8 => ?_
      try simp only [push_cast]
      rw [inc64' (by omega)]
      refine hC (by omega) _ _ ⟨_, _, rfl, same_new (hs6.trans (Same.of_ext he7)) hs8 (by omega), (hR6.ext he7).new hs8 (by omega) fun x hx e => by have := hF x hx; omega, hq8, (hr6.ext he7).same hs8 (by omega), hc7.same hs8 fun x hx _ e => by
        rcases hx with hx | hx
        · have := hG1 x hx; omega
        · omega, by omega⟩
    · exact hfin hs6 hR6 (by omega) hq6 hr6 hc6
  · exact hfin hs05 hR5 (by omega) q5 r5 (TmR.of (t := t) (hks5.weaken fun x hx _ => .inl hx))
end Go.Proofs.YtcfgmgjofmbfhaaGreatDoor
end
section
namespace Go.Proofs.YtcfgmgjofmbfhaaGreatDoor
open Go Go.Vc Go.Proofs
variable {w : World} {K : Value → World → Prop} {F F' D G : Nat → Prop}
end Go.Proofs.YtcfgmgjofmbfhaaGreatDoor
end
section
namespace Go.Proofs.YtcfgmgjofmbfhaaGreatDoor
open Go Go.Vc Go.Proofs
variable {w : World} {K : Value → World → Prop} {F F' D G : Nat → Prop}
theorem run_eqb (x y : Bool) : (Op.equal T_bool (.bool x) (.bool y)).run PP w = .ok (x == y) w := by
  have hu : PP.underlying T_bool = some .bool := by kernel_rfl
  have : ∀ d, (Op.equalIn (d + 1) T_bool (.bool x) (.bool y)).run PP w = .ok (x == y) w := fun d => by
    rw [Op.equalIn, Sem.run_bind, run_underlying hu]; rfl
  exact this 9999
@[push_cast] theorem vbin_neb (b : Bool) (x y : Bool) : vbin PP .neq T_bool b (.bool x) (.bool y) w K = K (.bool (x != y)) w :=
  vbin_run rfl (by simp [binOp, run_eqb, Result.andThen, bne])
@[push_cast] theorem vbin_eqb (b : Bool) (x y : Bool) : vbin PP .eql T_bool b (.bool x) (.bool y) w K = K (.bool (x == y)) w :=
  vbin_run rfl (by simp [binOp, run_eqb, Result.andThen])
theorem Bytes.below {v : Value} {xs : List Nat} (h : Bytes F w v xs) : Bytes (fun b => b < w.heap.size) w v xs := ⟨h.1.weaken fun _ _ hl => hl, h.2⟩
theorem dtSize {ds : List M.Dcl} {t : M.Tm} : M.tsort ds t = -1 ∨ (0 ≤ M.tsort ds t ∧ M.tsort ds t ≤ 4 ∧ M.tsort ds t = M.sortM ds t ∧ M.fits t = true ∧ M.declOk ds = true) := by
  unfold M.tsort
  split
  · rename_i h
    have := M.sort_range h.2 t
    by_cases e : M.sortM ds t = -1
    · exact .inl e
    · exact .inr ⟨by omega, by omega, rfl, h.1, h.2⟩
  · exact .inl rfl
end Go.Proofs.YtcfgmgjofmbfhaaGreatDoor
end
section
namespace Go.Proofs.YtcfgmgjofmbfhaaGreatDoor
open Go Go.Vc Go.Proofs
variable {w : World} {K : Value → World → Prop} {F F' D G : Nat → Prop}
abbrev nodeM (o : Int) (ks : List M.Tm) : M.Tm := .mk o 0 0 M.nada ks
theorem node_term {o : Int} {a : Option Addr} {l c : Nat} {ks : List M.Tm} (h : TmsR F w (.slice a l c) ks) : TermR F w (.agg ⟨[.int .i64 o, .int .i64 0, .int .i64 0, .string ⟨#[]⟩, .slice a l c]⟩) (nodeM o ks) := ⟨_, rfl, h⟩
theorem node_leaf {o : Int} : TermR F w (.agg ⟨[.int .i64 o, .int .i64 0, .int .i64 0, .string ⟨#[]⟩, .slice none 0 0]⟩) (nodeM o []) := node_term TmsR.nil
end Go.Proofs.YtcfgmgjofmbfhaaGreatDoor
end
section
namespace Go.Proofs.YtcfgmgjofmbfhaaGreatDoor
open Go Go.Vc Go.Proofs
variable {w : World} {K : Value → World → Prop} {F F' D G : Nat → Prop}
theorem fits_kid {t : M.Tm} {i : Nat} (hi : i < t.ks.length) (h : M.fits t = true) : M.fits (M.kid t i) = true := by
  obtain ⟨h1, h2⟩ := M.fits_iff.1 h
  have a := M.szT_all t
  have b := M.dpT_all t
  have c := M.szT_mono (ks := t.ks) (i := i + 1) (j := t.ks.length) (by omega) (by omega)
  have d := M.dpT_mono (ks := t.ks) (i := i + 1) (j := t.ks.length) (by omega) (by omega)
  have e := M.szT_succ hi
  have f := M.dpT_succ hi
  exact M.fits_iff.2 ⟨by unfold M.kid; omega, by unfold M.kid; omega⟩
end Go.Proofs.YtcfgmgjofmbfhaaGreatDoor
end
section
namespace Go.Proofs.YtcfgmgjofmbfhaaGreatDoor
open Go Go.Vc Go.Proofs
variable {w : World} {K : Value → World → Prop} {F F' D G : Nat → Prop}
end Go.Proofs.YtcfgmgjofmbfhaaGreatDoor
end
section
namespace Go.Proofs.YtcfgmgjofmbfhaaGreatDoor
open Go Go.Vc Go.Proofs
variable {w : World} {K : Value → World → Prop} {F F' D G : Nat → Prop}
end Go.Proofs.YtcfgmgjofmbfhaaGreatDoor
end
section
namespace Go.Proofs.YtcfgmgjofmbfhaaGreatDoor
open Go Go.Vc Go.Proofs
open Go.ChangeShapes Go.WideShapes Go.ChangeAt Go.RowKit
theorem row_own : ownKnob PP.godebug = none := by kernel_rfl
theorem row_laidOut : laidOutB PP = true := by kernel_rfl
theorem ext_below {w w' : World} (h : Ext w w') : Below w.heap.size w w' := ⟨h.os, h.tape, h.output, h.size, fun k hk => h.block k hk id⟩
theorem u8_wf {n : Int} (h : (Lit.int .u8 n).wf = true) : 0 ≤ n ∧ n < 256 := by
  simp only [Lit.wf, Bool.and_eq_true, decide_eq_true_eq] at h
  have h1 : IntKind.u8.min = 0 := by decide
  have h2 : IntKind.u8.max = 255 := by decide
  omega
def BytesR (w : World) (v : Value) (xs : List Nat) : Prop := Vals (fun _ => True) w v (xs.map fun x => Value.int .u8 (x : Nat)) ∧ ∀ x, x ∈ xs → x < 256
theorem bytes_nil (w : World) : BytesR w (.slice none 0 0) [] := ⟨⟨⟨none, 0, rfl, by simp, by simp, fun h => absurd rfl h⟩, by simp⟩, by simp⟩
theorem bytes_of {w : World} {x : Addr} {len cap : Nat} {zs : List Int} (hl : len ≤ cap) (hm : cap ≤ maxLen) (hz : zs.length = cap) (hcell : ∀ i, i < zs.length → w.cell? (x.add i) = some (.int .u8 (zs.getD i 0))) (hwz : ∀ n, n ∈ zs → (Lit.int .u8 n).wf = true) :
    BytesR w (.slice (some x) len cap) ((zs.take len).map Int.toNat) := by
  have hmem : ∀ n, n ∈ zs.take len → 0 ≤ n ∧ n < 256 := fun n hn => u8_wf (hwz n (List.mem_of_mem_take hn))
  refine ⟨⟨⟨some x, cap, ?_, ?_, by unfold maxLen at hm; exact hm, fun hne => ?_⟩, fun y hy => by obtain ⟨u, _, rfl⟩ := List.mem_map.1 hy; rfl⟩, fun y hy => ?_⟩
  · simp only [List.length_map, List.length_take]; rw [Nat.min_eq_left (by omega)]
  · simp only [List.length_map, List.length_take]; omega
  · have hlen : 0 < len := by
      refine Nat.pos_of_ne_zero fun e => hne ?_
      subst e; simp
    obtain ⟨b, off, spot⟩ := x
    have hc0 := hcell 0 (by omega)
    have hspot : spot = none := by simpa [Addr.add] using World.cell?_spot hc0
    subst hspot
    refine ⟨b, off, rfl, trivial, World.block_lt_of_cell? w _ hc0, fun i hi => ?_⟩
    simp only [List.length_map, List.length_take] at hi
    intro j v hv
    have hit : i < (zs.take len).length := by simp only [List.length_take]; omega
    have hg : ((((zs.take len).map Int.toNat).map fun x => Value.int .u8 (x : Nat)).map fun x => [x]).getD i [] = [Value.int .u8 (((zs.take len)[i].toNat : Nat) : Int)] := by
      simp [List.getD_eq_getElem?_getD, hi]
    rw [hg] at hv
    have hj : j = 0 := by
      cases j with
      | zero => rfl
      | succ j => simp at hv
    subst hj
    simp only [List.getElem?_cons_zero, Option.some.injEq] at hv
    subst hv
    have hi2 : i < zs.length := by omega
    have hc := hcell i hi2
    have hmi := hmem _ (List.getElem_mem hit)
    have e1 : zs.getD i 0 = (zs.take len)[i] := by simp [List.getD_eq_getElem?_getD, hi2]
    rw [e1, addr_add] at hc
    rw [Int.toNat_of_nonneg hmi.1, addr_add, Nat.add_zero, Nat.mul_one]
    exact hc
  · obtain ⟨n, hn, rfl⟩ := List.mem_map.1 hy
    have := hmem n hn
    omega
end Go.Proofs.YtcfgmgjofmbfhaaGreatDoor
end
section
namespace Go.Proofs.YtcfgmgjofmbfhaaGreatDoor
open Go Go.Vc Go.Proofs
open Go.ChangeShapes Go.WideShapes Go.ChangeAt Go.RowKit
variable {w : World} {K : Value → World → Prop} {F F' D G : Nat → Prop}
section
variable {H : Type} {enc : TypeId × Value → H} {W : World} {cs : List Value} {x : DataW H × List MemPlace} {held : Bool} {fuel : Nat}
end
end Go.Proofs.YtcfgmgjofmbfhaaGreatDoor
end
section
namespace Go.Proofs.YtcfgmgjofmbfhaaGreatDoor
open Go Go.Vc Go.Proofs
variable {w : World} {K : Value → World → Prop} {F F' D G : Nat → Prop}
def fitB : M.Tm → Bool := M.Tm.fold fun t xs => decide (t.ks.length ≤ 1048576) && xs.all id
theorem fitB_eq (t : M.Tm) : fitB t = (decide (t.ks.length ≤ 1048576) && (t.ks.map fitB).all id) := M.Tm.fold_eq _ t
theorem fitB_iff {t : M.Tm} : fitB t = true ↔ t.ks.length ≤ 1048576 ∧ ∀ k, k ∈ t.ks → fitB k = true := by
  rw [fitB_eq, Bool.and_eq_true, decide_eq_true_eq, List.all_eq_true]
  refine and_congr_right fun _ => ⟨fun h k hk => h _ (List.mem_map_of_mem hk), fun h y hy => ?_⟩
  obtain ⟨k, hk, rfl⟩ := List.mem_map.1 hy
  exact h k hk
theorem tmR_one {cs : List Value} {t : M.Tm} (h : TmR F w cs t) : ∀ c, c ∈ cs → c.oneCell' = true := fun c hc => by
  obtain ⟨kv', rfl, css', hs', _⟩ := h.inv
  obtain ⟨a, l, rfl, _⟩ := hs'.shape
  simp only [List.mem_cons, List.not_mem_nil, or_false] at hc
  rcases hc with rfl | rfl | rfl | rfl | rfl <;> rfl
end Go.Proofs.YtcfgmgjofmbfhaaGreatDoor
end
section
namespace Go.M
open Go.Vc
mutual
def sameT : Tm → Tm → Bool
  | .mk o a b s ks, .mk o' a' b' s' ks' => decide (o = o') && decide (a = a') && decide (b = b') && decide (s = s') && sameL ks ks'
def sameL : List Tm → List Tm → Bool
  | [], [] => true
  | x :: xs, y :: ys => sameT x y && sameL xs ys
  | [], _ :: _ => false
  | _ :: _, [] => false
end
theorem sameL_of {xs : List Tm} (ih : ∀ k, k ∈ xs → ∀ y, sameT k y = true ↔ k = y) : ∀ ys, sameL xs ys = true ↔ xs = ys := by
  induction xs with
  | nil => intro ys; cases ys <;> simp [sameL]
  | cons x xs ihx =>
    intro ys
    cases ys with
    | nil => simp [sameL]
    | cons y ys =>
      rw [sameL, Bool.and_eq_true, ih x List.mem_cons_self, ihx (fun k hk => ih k (List.mem_cons_of_mem _ hk)), List.cons.injEq]
theorem sameT_iff : ∀ t u : Tm, sameT t u = true ↔ t = u := by
  refine Tm.ind fun t ih u => ?_
  cases t with
  | mk o a b s ks =>
    cases u with
    | mk o' a' b' s' ks' =>
      rw [sameT, Bool.and_eq_true, sameL_of (xs := ks) ih]
      simp only [Bool.and_eq_true, decide_eq_true_eq, Tm.mk.injEq, and_assoc]
instance : DecidableEq Tm := fun t u => decidable_of_iff _ (sameT_iff t u)
theorem tm_ext {t u : Tm} (h1 : t.op = u.op) (h2 : t.a = u.a) (h3 : t.b = u.b) (h4 : t.s = u.s) (h5 : t.ks = u.ks) : t = u := by
  cases t; cases u
  simp only [Tm.op, Tm.a, Tm.b, Tm.s, Tm.ks] at h1 h2 h3 h4 h5
  rw [h1, h2, h3, h4, h5]
def truT : Tm := .mk 24 0 0 nada []
def flsT : Tm := .mk 25 0 0 nada [truT]
def fixedM (t : Tm) : Option Int := if t = truT then some 1 else if t = flsT then some 0 else if t.op = 20 ∧ t.ks = [] ∧ t.s = nada ∧ vok t.a t.b = true then some t.b else none
def isM (t : Tm) (n : Int) : Bool := decide (fixedM t = some n)
def constM (w n : Int) : Tm := if 0 < w then .mk 20 w n nada [] else if n = 1 then truT else flsT
def zeroE (ds : List Dcl) : List Int := List.replicate ds.length 0
theorem zeroE_ok {ds : List Dcl} (h : declOk ds = true) : envOk ds (zeroE ds) = true := by
  unfold envOk zeroE
  rw [h, List.length_replicate]
  simp only [decide_true, Bool.true_and, List.all_eq_true, List.mem_range]
  intro i hi
  have hw := dcl_wide h hi
  have : (List.replicate ds.length (0 : Int)).getD i 0 = 0 := by simp [List.getD_eq_getElem?_getD, List.getElem?_replicate, hi]
  rw [this, vok_iff]
  exact ⟨hw.1, hw.2, Int.le_refl _, Int.pow_pos (by decide)⟩
section
variable {ds : List Dcl} {env : List Int} {t u : Tm} {w n : Int}
theorem tru_sort : sortM ds truT = 0 := by rw [sort_leaf (formed_iff.2 ⟨rfl, rfl⟩) rfl]; rfl
theorem tru_eval : evalM ds env truT = 1 := by rw [eval_leaf (.inr (.inr rfl))]; rfl
theorem fls_sort (hd : declOk ds = true) : sortM ds flsT = 0 := by
  rw [sort_one hd (formed_iff.2 ⟨rfl, rfl⟩) rfl]
  show oneM _ (sortM ds truT) = 0
  rw [tru_sort]; rfl
theorem fls_eval (he : envOk ds env = true) : evalM ds env flsT = 0 := by
  rw [(eval_no he (by rw [fls_sort (env_ok he).1]; decide) rfl).2.2]
  show (1 : Int) - evalM ds env truT = 0
  rw [tru_eval]; rfl
theorem vec_sort {t : Tm} (h1 : t.op = 20) (h2 : t.ks = []) (h3 : t.s = nada) (hv : vok t.a t.b = true) : sortM ds t = t.a := by
  have hp : plainM t = true := by simp [plainM, h1, h3]
  rw [sort_leaf (formed_iff.2 ⟨by rw [h1, h2]; rfl, hp⟩) (by rw [h2]; rfl)]
  unfold sortK
  rw [if_pos h1, if_pos hv]
theorem fixed_cases (h : fixedM t = some n) : (t = truT ∧ n = 1) ∨ (t = flsT ∧ n = 0) ∨ (t.op = 20 ∧ t.ks = [] ∧ t.s = nada ∧ vok t.a t.b = true ∧ n = t.b) := by
  unfold fixedM at h
  split at h
  · exact .inl ⟨by assumption, (Option.some.inj h).symm⟩
  split at h
  · exact .inr (.inl ⟨by assumption, (Option.some.inj h).symm⟩)
  split at h
  · rename_i hv
    exact .inr (.inr ⟨hv.1, hv.2.1, hv.2.2.1, hv.2.2.2, (Option.some.inj h).symm⟩)
  · cases h
theorem fixed_good (he : envOk ds env = true) (h : fixedM t = some n) : sortM ds t ≠ -1 ∧ evalM ds env t = n ∧ inS (sortM ds t) n := by
  rcases fixed_cases h with ⟨rfl, rfl⟩ | ⟨rfl, rfl⟩ | ⟨h1, h2, h3, h4, rfl⟩
  · rw [tru_sort, tru_eval]; exact ⟨by decide, rfl, .inl ⟨rfl, .inr rfl⟩⟩
  · rw [fls_sort (env_ok he).1, fls_eval he]; exact ⟨by decide, rfl, .inl ⟨rfl, .inl rfl⟩⟩
  · rw [vec_sort h1 h2 h3 h4, eval_leaf (.inl h1), if_pos h1]
    have := vok_lt h4
    exact ⟨by omega, rfl, .inr h4⟩
theorem isM_iff : isM t n = true ↔ fixedM t = some n := by unfold isM; rw [decide_eq_true_eq]
theorem const_fixed (h : inS w n) : fixedM (constM w n) = some n := by
  unfold constM
  rcases h with ⟨h1, h2⟩ | h
  · rw [if_neg (by omega)]
    rcases h2 with e | e
    · rw [e, if_neg (by decide)]; rfl
    · rw [e, if_pos rfl]; rfl
  · have hw := vok_lt h
    rw [if_pos (by omega)]
    have a1 : ¬ Tm.mk 20 w n nada [] = truT := fun e => by
      have e : (20 : Int) = 24 := congrArg Tm.op e
      omega
    have a2 : ¬ Tm.mk 20 w n nada [] = flsT := fun e => by
      have e : (20 : Int) = 25 := congrArg Tm.op e
      omega
    unfold fixedM
    rw [if_neg a1, if_neg a2]
    exact if_pos ⟨rfl, rfl, rfl, h⟩
theorem const_sort (hd : declOk ds = true) (h : inS w n) : sortM ds (constM w n) = w := by
  unfold constM
  rcases h with ⟨h1, h2⟩ | h
  · rw [if_neg (by omega)]
    split
    · rw [tru_sort, h1]
    · rw [fls_sort hd, h1]
  · have hw := vok_lt h
    rw [if_pos (by omega)]
    exact vec_sort rfl rfl rfl h
theorem const_eval (he : envOk ds env = true) (h : inS w n) : evalM ds env (constM w n) = n := (fixed_good he (const_fixed h)).2.1
def allFixed (t : Tm) : Bool := decide (t.ks ≠ []) && t.ks.all fun k => (fixedM k).isSome
def ruleX (ds : List Dcl) (t : Tm) : Option Tm := if allFixed t = true then some (constM (sortM ds t) (evalM ds (zeroE ds) t)) else none
def ruleB (t : Tm) : Option Tm :=
  if t.op = 25 ∧ (kid t 0).op = 25 then some (kid (kid t 0) 0)
  else if t.op ≠ 23 then none
  else if isM (kid t 0) 1 = true then some (kid t 1)
  else if isM (kid t 0) 0 = true then some (kid t 2)
  else if kid t 1 = kid t 2 then some (kid t 1) else none
def neutral (o : Int) : Int := if o = 26 then 1 else 0
def ruleT (t : Tm) : Option Tm :=
  if t.op = 26 ∨ t.op = 27 then
    if isM (kid t 0) (neutral t.op) = true ∨ kid t 0 = kid t 1 then some (kid t 1)
    else if isM (kid t 1) (neutral t.op) = true then some (kid t 0)
    else if isM (kid t 0) (1 - neutral t.op) = true ∨ isM (kid t 1) (1 - neutral t.op) = true then some (constM 0 (1 - neutral t.op)) else none
  else none
def ruleL (ds : List Dcl) (t : Tm) : Option Tm :=
  if t.op = 22 then (if t.b = 0 ∧ t.a = sortM ds (kid t 0) - 1 then some (kid t 0) else none)
  else if (t.op = 1 ∨ t.op = 2) ∧ (kid t 0).op = t.op then some (kid (kid t 0) 0) else none
def ruleW (ds : List Dcl) (t : Tm) : Option Tm :=
  if t.ks.length = 2 ∧ kid t 0 = kid t 1 then
    if t.op = 3 ∨ t.op = 4 then some (kid t 0)
    else if t.op = 5 ∨ t.op = 7 then some (constM (sortM ds t) 0)
    else if t.op = 15 then some (constM 0 1)
    else if t.op = 16 ∨ t.op = 17 then some (constM 0 0) else none
  else none
def ruleS (t : Tm) : Option Tm :=
  if t.ks.length = 2 then
    if isM (kid t 1) 0 = true ∧ (t.op = 4 ∨ t.op = 5 ∨ t.op = 6 ∨ t.op = 7 ∨ t.op = 11 ∨ t.op = 12 ∨ t.op = 13) then some (kid t 0)
    else if isM (kid t 1) 0 = true ∧ (t.op = 3 ∨ t.op = 8) then some (kid t 1)
    else if isM (kid t 1) 1 = true ∧ t.op = 8 then some (kid t 0) else none
  else none
def ruleF (t : Tm) : Option Tm :=
  if t.ks.length = 2 then
    if isM (kid t 0) 0 = true ∧ (t.op = 4 ∨ t.op = 5 ∨ t.op = 6) then some (kid t 1)
    else if isM (kid t 0) 0 = true ∧ (t.op = 3 ∨ t.op = 8) then some (kid t 0)
    else if isM (kid t 0) 1 = true ∧ t.op = 8 then some (kid t 1) else none
  else none
def ruleA (ds : List Dcl) (t : Tm) : Option Tm := ruleX ds t <|> ruleB t <|> ruleT t <|> ruleL ds t <|> ruleW ds t <|> ruleS t <|> ruleF t
def oneT (ds : List Dcl) (t : Tm) : Tm := (ruleA ds t).getD t
def foldT (ds : List Dcl) : Tm → Tm := Tm.fold fun t us => oneT ds (.mk t.op t.a t.b t.s us)
theorem foldT_eq (ds : List Dcl) (t : Tm) : foldT ds t = oneT ds (.mk t.op t.a t.b t.s (t.ks.map (foldT ds))) := Tm.fold_eq _ t
inductive Src (t : Tm) : Tm → Prop
  | kid (i : Nat) (h : i < t.ks.length) : Src t (kid t i)
  | deep (i j : Nat) (h : i < t.ks.length) (h' : j < (M.kid t i).ks.length) : Src t (M.kid (M.kid t i) j)
  | const (w n : Int) (h : t.ks ≠ []) (h' : inS w n) : Src t (constM w n)
structure Step (ds : List Dcl) (t u : Tm) : Prop where
  src : Src t u
  sort : sortM ds u = sortM ds t
  eval : ∀ env, envOk ds env = true → evalM ds env u = evalM ds env t
theorem some_or {α : Type} {a b : Option α} {x : α} (h : (a <|> b) = some x) : a = some x ∨ (a = none ∧ b = some x) := by
  cases a with
  | none => exact .inr ⟨rfl, h⟩
  | some y => exact .inl h
theorem ks_ne {i : Nat} (h : i < t.ks.length) : t.ks ≠ [] := fun e => by rw [e] at h; simp at h
theorem len_of (hs : sortM ds t ≠ -1) : arity t.op = t.ks.length := (formed_iff.1 (sort_parts hs).1).1
theorem allFixed_eval (he : envOk ds env = true) (hs : sortM ds t ≠ -1) (h : allFixed t = true) : evalM ds (zeroE ds) t = evalM ds env t := by
  have hz := zeroE_ok (env_ok he).1
  unfold allFixed at h
  simp only [Bool.and_eq_true, decide_eq_true_eq, List.all_eq_true] at h
  have hk : t.ks.map (vecM ds (zeroE ds)) = t.ks.map (vecM ds env) := List.map_congr_left fun k hk => by
    obtain ⟨n, hn⟩ := Option.isSome_iff_exists.1 (h.2 k hk)
    rw [vecM_pair, vecM_pair, (fixed_good hz hn).2.1, (fixed_good he hn).2.1]
  have h21 : t.op ≠ 21 := fun e => by
    have := len_of hs
    rw [e] at this
    have h0 : t.ks.length = 0 := by simp [arity] at this; omega
    exact h.1 (List.eq_nil_of_length_eq_zero h0)
  rw [evalM_eq, evalM_eq, hk]
  unfold valK
  rw [if_neg h21, if_neg h21]
theorem ruleX_step (hd : declOk ds = true) (hs : sortM ds t ≠ -1) (h : ruleX ds t = some u) : Step ds t u := by
  unfold ruleX at h
  split at h
  · rename_i ha
    obtain rfl := (Option.some.inj h).symm
    have hi := eval_in (zeroE_ok hd) t hs
    refine ⟨.const _ _ (by unfold allFixed at ha; simp only [Bool.and_eq_true, decide_eq_true_eq] at ha; exact ha.1) hi, const_sort hd hi, fun env he => ?_⟩
    rw [const_eval he hi, allFixed_eval he hs ha]
  · cases h
theorem ruleB_step (hd : declOk ds = true) (hs : sortM ds t ≠ -1) (h : ruleB t = some u) : Step ds t u := by
  have hf := (sort_parts hs).1
  have hl := len_of hs
  unfold ruleB at h
  split at h
  · rename_i ho
    obtain rfl := (Option.some.inj h).symm
    have hl1 : t.ks.length = 1 := by rw [ho.1] at hl; simp [arity] at hl; omega
    have k0 := good_kid hs (i := 0) (by omega)
    have hl2 : (kid t 0).ks.length = 1 := by have := len_of k0; rw [ho.2] at this; simp [arity] at this; omega
    have k1 := good_kid k0 (i := 0) (by omega)
    refine ⟨.deep 0 0 (by omega) (by omega), ?_, fun env he => ?_⟩
    · have s0 := sort_one hd hf hl1
      have s1 := sort_one hd (sort_parts k0).1 hl2
      rw [s0] at hs ⊢
      have g0 := (one_good (by omega) hs).1 ho.1
      rw [s1] at k0
      have g1 := (one_good (by omega) k0).1 ho.2
      unfold oneM
      rw [if_pos ho.1, if_pos g0, g1]
    · obtain ⟨_, i0, e0⟩ := eval_no he hs ho.1
      obtain ⟨_, i1, e1⟩ := eval_no he k0 ho.2
      rw [e0, e1]; omega
  · split at h
    · cases h
    · rename_i h23
      have h23 : t.op = 23 := by omega
      have hl3 : t.ks.length = 3 := by rw [h23] at hl; simp [arity] at hl; omega
      have s0 := sort_three (ds := ds) hf hl3
      have hs' := hs
      rw [s0] at hs'
      have gs : sortM ds (kid t 1) = sortM ds (kid t 2) := by
        split at hs'
        · exact absurd rfl hs'
        · omega
      have st : sortM ds t = sortM ds (kid t 1) := by
        rw [s0]
        split at hs'
        · exact absurd rfl hs'
        · rw [if_neg (by assumption)]
      split at h
      · rename_i hi
        obtain rfl := (Option.some.inj h).symm
        refine ⟨.kid 1 (by omega), st.symm, fun env he => ?_⟩
        obtain ⟨_, _, e⟩ := eval_if he hs h23
        rw [e, (fixed_good he (isM_iff.1 hi)).2.1, if_pos rfl]
      · split at h
        · rename_i hi
          obtain rfl := (Option.some.inj h).symm
          refine ⟨.kid 2 (by omega), by rw [st, gs], fun env he => ?_⟩
          obtain ⟨_, _, e⟩ := eval_if he hs h23
          rw [e, (fixed_good he (isM_iff.1 hi)).2.1, if_neg (by decide)]
        · split at h
          · rename_i hi
            obtain rfl := (Option.some.inj h).symm
            refine ⟨.kid 1 (by omega), st.symm, fun env he => ?_⟩
            obtain ⟨_, _, e⟩ := eval_if he hs h23
            rw [e, ← hi]
            split <;> rfl
          · cases h
theorem ruleT_step (hd : declOk ds = true) (hs : sortM ds t ≠ -1) (h : ruleT t = some u) : Step ds t u := by
  have hf := (sort_parts hs).1
  have hl := len_of hs
  unfold ruleT at h
  split at h
  · rename_i ho
    have hl2 : t.ks.length = 2 := by rcases ho with e | e <;> rw [e] at hl <;> simp [arity] at hl <;> omega
    have s0 := sort_two hd hf hl2
    have hs' := hs
    rw [s0] at hs'
    obtain ⟨g0, g1⟩ := (both_good hs').1 ho
    have st : sortM ds t = 0 := by rw [s0]; unfold bothM; rw [if_pos ho, if_pos ⟨g0, g1⟩]
    have hn : neutral t.op = 1 ∧ t.op = 26 ∨ neutral t.op = 0 ∧ t.op = 27 := by
      unfold neutral
      rcases ho with e | e
      · exact .inl ⟨if_pos e, e⟩
      · exact .inr ⟨if_neg (by omega), e⟩
    have ev : ∀ env, envOk ds env = true → inS 0 (evalM ds env (kid t 0)) ∧ inS 0 (evalM ds env (kid t 1)) ∧ evalM ds env t = if t.op = 26 then evalM ds env (kid t 0) * evalM ds env (kid t 1) else max (evalM ds env (kid t 0)) (evalM ds env (kid t 1)) := fun env he => by
      obtain ⟨_, a, b, c⟩ := eval_two he hs ho
      exact ⟨a, b, c⟩
    split at h
    · rename_i hi
      obtain rfl := (Option.some.inj h).symm
      refine ⟨.kid 1 (by omega), by rw [st, g1], fun env he => ?_⟩
      obtain ⟨i0, i1, e⟩ := ev env he
      rw [e]
      rcases hi with hi | hi
      · have := (fixed_good he (isM_iff.1 hi)).2.1
        rw [this]
        rcases hn with ⟨e1, e2⟩ | ⟨e1, e2⟩
        · rw [e1, if_pos e2, Int.one_mul]
        · rw [e1, if_neg (by omega)]
          rcases inS_zero i1 with z | z <;> rw [z] <;> rfl
      · rw [hi]
        rcases inS_zero i1 with z | z <;> rw [z] <;> split <;> rfl
    · split at h
      · rename_i hi
        obtain rfl := (Option.some.inj h).symm
        refine ⟨.kid 0 (by omega), by rw [st, g0], fun env he => ?_⟩
        obtain ⟨i0, i1, e⟩ := ev env he
        rw [e, (fixed_good he (isM_iff.1 hi)).2.1]
        rcases hn with ⟨e1, e2⟩ | ⟨e1, e2⟩
        · rw [e1, if_pos e2, Int.mul_one]
        · rw [e1, if_neg (by omega)]
          rcases inS_zero i0 with z | z <;> rw [z] <;> rfl
      · split at h
        · rename_i hi
          obtain rfl := (Option.some.inj h).symm
          have hin : inS 0 (1 - neutral t.op) := by
            rcases hn with ⟨e1, _⟩ | ⟨e1, _⟩ <;> rw [e1]
            · exact .inl ⟨rfl, .inl rfl⟩
            · exact .inl ⟨rfl, .inr rfl⟩
          refine ⟨.const _ _ (ks_ne (i := 0) (by omega)) hin, by rw [st, const_sort hd hin], fun env he => ?_⟩
          obtain ⟨i0, i1, e⟩ := ev env he
          rw [e, const_eval he hin]
          rcases hi with hi | hi <;> rw [(fixed_good he (isM_iff.1 hi)).2.1]
          · rcases hn with ⟨e1, e2⟩ | ⟨e1, e2⟩
            · rw [e1, if_pos e2]; simp
            · rw [e1, if_neg (by omega)]
              rcases inS_zero i1 with z | z <;> rw [z] <;> rfl
          · rcases hn with ⟨e1, e2⟩ | ⟨e1, e2⟩
            · rw [e1, if_pos e2]; simp
            · rw [e1, if_neg (by omega)]
              rcases inS_zero i0 with z | z <;> rw [z] <;> rfl
        · cases h
  · cases h
theorem cut_all {w a : Int} (h : vok w a = true) : cutM a (w - 1) 0 = a := by
  obtain ⟨h1, h2, h3, h4⟩ := vok_iff.1 h
  unfold cutM
  rw [show (w - 1 - 0 + 1) = w by omega]
  rcases four h1 h2 with rfl | rfl | rfl | rfl <;> simp only [two1, two2, two3, two4] at h4 ⊢ <;> simp <;> omega
theorem un_un {o w a : Int} (h : vok w a = true) : unM o w (unM o w a) = a := by
  obtain ⟨h1, h2, h3, h4⟩ := vok_iff.1 h
  unfold unM
  rcases four h1 h2 with rfl | rfl | rfl | rfl <;> simp only [two1, two2, two3, two4] at h4 ⊢ <;> split <;> omega
theorem ruleL_step (hd : declOk ds = true) (hs : sortM ds t ≠ -1) (h : ruleL ds t = some u) : Step ds t u := by
  have hf := (sort_parts hs).1
  have hl := len_of hs
  unfold ruleL at h
  split at h
  · rename_i ho
    split at h
    · rename_i hc
      obtain rfl := (Option.some.inj h).symm
      have hl1 : t.ks.length = 1 := by rw [ho] at hl; simp [arity] at hl; omega
      have s0 := sort_one hd hf hl1
      have hs' := hs
      rw [s0] at hs'
      have g := one_good (by omega) hs'
      have g2 := g.2.1 (by omega)
      have g3 := g.2.2 ho
      refine ⟨.kid 0 (by omega), ?_, fun env he => ?_⟩
      · rw [s0]; unfold oneM
        rw [if_neg (by omega), if_neg (by omega), if_pos ho, if_pos g3]; omega
      · obtain ⟨_, hv, e⟩ := eval_cut he hs ho
        rw [e]
        unfold vecCut
        rw [if_pos ⟨hv, g3⟩]
        show _ = cutM _ t.a t.b
        rw [hc.1, hc.2, cut_all hv]
    · cases h
  · split at h
    · rename_i ho
      obtain rfl := (Option.some.inj h).symm
      have hl1 : t.ks.length = 1 := by rcases ho.1 with e | e <;> rw [e] at hl <;> simp [arity] at hl <;> omega
      have k0 := good_kid hs (i := 0) (by omega)
      have ho2 : (kid t 0).op = 1 ∨ (kid t 0).op = 2 := by rw [ho.2]; exact ho.1
      have hl2 : (kid t 0).ks.length = 1 := by have := len_of k0; rcases ho2 with e | e <;> rw [e] at this <;> simp [arity] at this <;> omega
      have k1 := good_kid k0 (i := 0) (by omega)
      have un1 : ∀ {t : Tm}, sortM ds t ≠ -1 → (t.op = 1 ∨ t.op = 2) → t.ks.length = 1 → sortM ds t = sortM ds (kid t 0) := fun {t} hs ho hl1 => by
        have s0 := sort_one hd (sort_parts hs).1 hl1
        have hs' := hs
        rw [s0] at hs'
        have g := (one_good (by omega) hs').2.1 (by omega)
        rw [s0]; unfold oneM
        rw [if_neg (by omega), if_neg (by omega), if_neg (by omega)]
      refine ⟨.deep 0 0 (by omega) (by omega), ?_, fun env he => ?_⟩
      · rw [un1 hs ho.1 hl1, un1 k0 ho2 hl2]
      · obtain ⟨_, hv, e⟩ := eval_un he hs ho.1
        obtain ⟨_, hv2, e2⟩ := eval_un he k0 ho2
        rw [e]
        unfold vecUn
        rw [if_pos ⟨hv, ho.1⟩]
        show _ = unM t.op (sortM ds (kid t 0)) (evalM ds env (kid t 0))
        rw [e2]
        unfold vecUn
        rw [if_pos ⟨hv2, ho2⟩]
        show _ = unM t.op (sortM ds (kid t 0)) (unM (kid t 0).op (sortM ds (kid (kid t 0) 0)) (evalM ds env (kid (kid t 0) 0)))
        rw [ho.2, un1 k0 ho2 hl2, un_un hv2]
    · cases h
def binT (w n : Nat) : Prop :=
  (binN 3 w n n = n ∧ binN 4 w n n = n ∧ binN 5 w n n = 0 ∧ binN 7 w n n = 0) ∧
  (binN 4 w n 0 = n ∧ binN 5 w n 0 = n ∧ binN 6 w n 0 = n ∧ binN 7 w n 0 = n ∧ binN 11 w n 0 = n ∧ binN 12 w n 0 = n ∧ binN 13 w n 0 = n) ∧
  (binN 3 w n 0 = 0 ∧ binN 8 w n 0 = 0 ∧ binN 8 w n 1 = n) ∧
  (binN 4 w 0 n = n ∧ binN 5 w 0 n = n ∧ binN 6 w 0 n = n ∧ binN 3 w 0 n = 0 ∧ binN 8 w 0 n = 0 ∧ binN 8 w 1 n = n)
instance (w n : Nat) : Decidable (binT w n) := by unfold binT; infer_instance
theorem bin_tab {w n : Int} (h : vok w n = true) : binT w.toNat n.toNat := small1 (p := binT) (by decide +kernel) h
theorem bin_parts (hd : declOk ds = true) (hs : sortM ds t ≠ -1) (h2 : t.ks.length = 2) (h3 : 3 ≤ t.op) (h13 : t.op ≤ 13) : sortM ds (kid t 0) = sortM ds t ∧ sortM ds (kid t 1) = sortM ds t ∧
    ∀ env, envOk ds env = true → vok (sortM ds t) (evalM ds env (kid t 0)) = true ∧ vok (sortM ds t) (evalM ds env (kid t 1)) = true ∧ evalM ds env t = binN t.op.toNat (sortM ds t).toNat (evalM ds env (kid t 0)).toNat (evalM ds env (kid t 1)).toNat := by
  have s0 := sort_two hd (sort_parts hs).1 h2
  have hs' := hs
  rw [s0] at hs'
  have g := (both_good hs').2 (by omega)
  have e01 := g.2.2.2 (by omega)
  have st : sortM ds t = sortM ds (kid t 0) := by
    rw [s0]; unfold bothM
    rw [if_neg (by omega), if_neg (by omega), if_neg (by omega), if_neg (by omega), if_neg (by omega)]
  refine ⟨st.symm, by rw [st, e01], fun env he => ?_⟩
  obtain ⟨_, v0, v1, e⟩ := eval_bin he hs h3 (by omega)
  refine ⟨by rw [st]; exact v0, by rw [st, e01]; exact v1, ?_⟩
  rw [e]
  unfold vecBin
  rw [if_pos (show vok _ _ = true ∧ vok _ _ = true from ⟨v0, v1⟩), if_neg (show ¬ t.op = 14 by omega), if_pos (show 3 ≤ t.op ∧ t.op ≤ 13 ∧ _ = _ from ⟨h3, h13, e01⟩), st]
  rfl
theorem nat_of {w n : Int} (h : vok w n = true) : ((n.toNat : Nat) : Int) = n := by have := vok_lt h; omega
theorem ruleW_step (hd : declOk ds = true) (hs : sortM ds t ≠ -1) (h : ruleW ds t = some u) : Step ds t u := by
  have hf := (sort_parts hs).1
  unfold ruleW at h
  split at h
  · rename_i hk
    obtain ⟨h2, hk⟩ := hk
    split at h
    · rename_i ho
      obtain rfl := (Option.some.inj h).symm
      obtain ⟨s0, s1, ev⟩ := bin_parts hd hs h2 (by omega) (by omega)
      refine ⟨.kid 0 (by omega), s0, fun env he => ?_⟩
      obtain ⟨v0, v1, e⟩ := ev env he
      have tb := (bin_tab v0).1
      rw [e, ← hk]
      rcases ho with o | o <;> rw [o]
      · show _ = ((binN 3 _ _ _ : Nat) : Int); rw [tb.1, nat_of v0]
      · show _ = ((binN 4 _ _ _ : Nat) : Int); rw [tb.2.1, nat_of v0]
    · split at h
      · rename_i ho
        obtain rfl := (Option.some.inj h).symm
        obtain ⟨s0, s1, ev⟩ := bin_parts hd hs h2 (by omega) (by omega)
        have hin : inS (sortM ds t) 0 := by
          have := (ev _ (zeroE_ok hd)).1
          obtain ⟨a, b, _, _⟩ := vok_iff.1 this
          exact .inr (vok_iff.2 ⟨a, b, Int.le_refl _, Int.pow_pos (by decide)⟩)
        refine ⟨.const _ _ (ks_ne (i := 0) (by omega)) hin, const_sort hd hin, fun env he => ?_⟩
        obtain ⟨v0, v1, e⟩ := ev env he
        have tb := (bin_tab v0).1
        rw [const_eval he hin, e, ← hk]
        rcases ho with o | o <;> rw [o]
        · show _ = ((binN 5 _ _ _ : Nat) : Int); rw [tb.2.2.1]; rfl
        · show _ = ((binN 7 _ _ _ : Nat) : Int); rw [tb.2.2.2]; rfl
      · have cmp : 15 ≤ t.op → t.op ≤ 17 → sortM ds t = 0 ∧ ∀ env, envOk ds env = true → evalM ds env t = b2i (decide (t.op = 15)) := fun h15 h17 => by
          have s0 := sort_two hd hf h2
          have hs' := hs
          rw [s0] at hs'
          have g := (both_good hs').2 (by omega)
          refine ⟨?_, fun env he => ?_⟩
          · rw [s0]; unfold bothM
            rw [if_neg (by omega), if_neg (by omega), if_neg (by omega), if_neg (by have := g.2.2.2 (by omega); omega), if_pos h15]
          · obtain ⟨_, v0, v1, e⟩ := eval_cmp he hs h15 h17
            rw [e]
            unfold vecCmp
            rw [if_pos ⟨v0, v1, g.2.2.2 (by omega), h15, h17⟩, ← hk]
            unfold cmpM
            by_cases o15 : t.op = 15
            · rw [if_pos o15]; simp [o15]
            · rw [if_neg o15]
              by_cases o16 : t.op = 16
              · rw [if_pos o16]; simp [o15]
              · rw [if_neg o16]; simp [o15]
        split at h
        · rename_i ho
          obtain rfl := (Option.some.inj h).symm
          obtain ⟨st, ev⟩ := cmp (by omega) (by omega)
          have hin : inS 0 1 := .inl ⟨rfl, .inr rfl⟩
          exact ⟨.const _ _ (ks_ne (i := 0) (by omega)) hin, by rw [const_sort hd hin, st], fun env he => by rw [const_eval he hin, ev env he, decide_eq_true ho]; rfl⟩
        · split at h
          · rename_i n15 ho
            obtain rfl := (Option.some.inj h).symm
            obtain ⟨st, ev⟩ := cmp (by omega) (by omega)
            have hin : inS 0 0 := .inl ⟨rfl, .inl rfl⟩
            exact ⟨.const _ _ (ks_ne (i := 0) (by omega)) hin, by rw [const_sort hd hin, st], fun env he => by rw [const_eval he hin, ev env he, decide_eq_false n15]; rfl⟩
          · cases h
  · cases h
theorem ruleS_step (hd : declOk ds = true) (hs : sortM ds t ≠ -1) (h : ruleS t = some u) : Step ds t u := by
  unfold ruleS at h
  split at h
  · rename_i h2
    split at h
    · rename_i ho
      obtain rfl := (Option.some.inj h).symm
      obtain ⟨s0, s1, ev⟩ := bin_parts hd hs h2 (by omega) (by omega)
      refine ⟨.kid 0 (by omega), s0, fun env he => ?_⟩
      obtain ⟨v0, v1, e⟩ := ev env he
      have tb := (bin_tab v0).2.1
      rw [e, (fixed_good he (isM_iff.1 ho.1)).2.1]
      rcases ho.2 with o | o | o | o | o | o | o <;> rw [o]
      · show _ = ((binN 4 _ _ 0 : Nat) : Int); rw [tb.1, nat_of v0]
      · show _ = ((binN 5 _ _ 0 : Nat) : Int); rw [tb.2.1, nat_of v0]
      · show _ = ((binN 6 _ _ 0 : Nat) : Int); rw [tb.2.2.1, nat_of v0]
      · show _ = ((binN 7 _ _ 0 : Nat) : Int); rw [tb.2.2.2.1, nat_of v0]
      · show _ = ((binN 11 _ _ 0 : Nat) : Int); rw [tb.2.2.2.2.1, nat_of v0]
      · show _ = ((binN 12 _ _ 0 : Nat) : Int); rw [tb.2.2.2.2.2.1, nat_of v0]
      · show _ = ((binN 13 _ _ 0 : Nat) : Int); rw [tb.2.2.2.2.2.2, nat_of v0]
    · split at h
      · rename_i ho
        obtain rfl := (Option.some.inj h).symm
        obtain ⟨s0, s1, ev⟩ := bin_parts hd hs h2 (by omega) (by omega)
        refine ⟨.kid 1 (by omega), s1, fun env he => ?_⟩
        obtain ⟨v0, v1, e⟩ := ev env he
        have tb := (bin_tab v0).2.2.1
        rw [e, (fixed_good he (isM_iff.1 ho.1)).2.1]
        rcases ho.2 with o | o <;> rw [o]
        · show _ = ((binN 3 _ _ 0 : Nat) : Int); rw [tb.1]; rfl
        · show _ = ((binN 8 _ _ 0 : Nat) : Int); rw [tb.2.1]; rfl
      · split at h
        · rename_i ho
          obtain rfl := (Option.some.inj h).symm
          obtain ⟨s0, s1, ev⟩ := bin_parts hd hs h2 (by omega) (by omega)
          refine ⟨.kid 0 (by omega), s0, fun env he => ?_⟩
          obtain ⟨v0, v1, e⟩ := ev env he
          have tb := (bin_tab v0).2.2.1
          rw [e, (fixed_good he (isM_iff.1 ho.1)).2.1, ho.2]
          show _ = ((binN 8 _ _ 1 : Nat) : Int); rw [tb.2.2, nat_of v0]
        · cases h
  · cases h
theorem ruleF_step (hd : declOk ds = true) (hs : sortM ds t ≠ -1) (h : ruleF t = some u) : Step ds t u := by
  unfold ruleF at h
  split at h
  · rename_i h2
    split at h
    · rename_i ho
      obtain rfl := (Option.some.inj h).symm
      obtain ⟨s0, s1, ev⟩ := bin_parts hd hs h2 (by omega) (by omega)
      refine ⟨.kid 1 (by omega), s1, fun env he => ?_⟩
      obtain ⟨v0, v1, e⟩ := ev env he
      have tb := (bin_tab v1).2.2.2
      rw [e, (fixed_good he (isM_iff.1 ho.1)).2.1]
      rcases ho.2 with o | o | o <;> rw [o]
      · show _ = ((binN 4 _ 0 _ : Nat) : Int); rw [tb.1, nat_of v1]
      · show _ = ((binN 5 _ 0 _ : Nat) : Int); rw [tb.2.1, nat_of v1]
      · show _ = ((binN 6 _ 0 _ : Nat) : Int); rw [tb.2.2.1, nat_of v1]
    · split at h
      · rename_i ho
        obtain rfl := (Option.some.inj h).symm
        obtain ⟨s0, s1, ev⟩ := bin_parts hd hs h2 (by omega) (by omega)
        refine ⟨.kid 0 (by omega), s0, fun env he => ?_⟩
        obtain ⟨v0, v1, e⟩ := ev env he
        have tb := (bin_tab v1).2.2.2
        rw [e, (fixed_good he (isM_iff.1 ho.1)).2.1]
        rcases ho.2 with o | o <;> rw [o]
        · show _ = ((binN 3 _ 0 _ : Nat) : Int); rw [tb.2.2.2.1]; rfl
        · show _ = ((binN 8 _ 0 _ : Nat) : Int); rw [tb.2.2.2.2.1]; rfl
      · split at h
        · rename_i ho
          obtain rfl := (Option.some.inj h).symm
          obtain ⟨s0, s1, ev⟩ := bin_parts hd hs h2 (by omega) (by omega)
          refine ⟨.kid 1 (by omega), s1, fun env he => ?_⟩
          obtain ⟨v0, v1, e⟩ := ev env he
          have tb := (bin_tab v1).2.2.2
          rw [e, (fixed_good he (isM_iff.1 ho.1)).2.1, ho.2]
          show _ = ((binN 8 _ 1 _ : Nat) : Int); rw [tb.2.2.2.2.2, nat_of v1]
        · cases h
  · cases h
theorem rule_step (hd : declOk ds = true) (hs : sortM ds t ≠ -1) (h : ruleA ds t = some u) : Step ds t u := by
  unfold ruleA at h
  rcases some_or h with h | ⟨_, h⟩
  · exact ruleX_step hd hs h
  rcases some_or h with h | ⟨_, h⟩
  · exact ruleB_step hd hs h
  rcases some_or h with h | ⟨_, h⟩
  · exact ruleT_step hd hs h
  rcases some_or h with h | ⟨_, h⟩
  · exact ruleL_step hd hs h
  rcases some_or h with h | ⟨_, h⟩
  · exact ruleW_step hd hs h
  rcases some_or h with h | ⟨_, h⟩
  · exact ruleS_step hd hs h
  · exact ruleF_step hd hs h
theorem one_cases (hd : declOk ds = true) (hs : sortM ds t ≠ -1) : (ruleA ds t = none ∧ oneT ds t = t) ∨ Step ds t (oneT ds t) := by
  unfold oneT
  cases h : ruleA ds t with
  | none => exact .inl ⟨rfl, rfl⟩
  | some u => exact .inr (rule_step hd hs h)
end
end Go.M
end
section
namespace Go.M
open Go.Vc
section
variable {ds : List Dcl} {env : List Int} {t u : Tm} {w n : Int}
theorem kid_size {i : Nat} (h : i < t.ks.length) : sizeM (kid t i) + 1 ≤ sizeM t ∧ deepM (kid t i) + 1 ≤ deepM t := by
  have a := szT_all t
  have b := dpT_all t
  have c := szT_mono (ks := t.ks) (i := i + 1) (j := t.ks.length) (by omega) (by omega)
  have d := dpT_mono (ks := t.ks) (i := i + 1) (j := t.ks.length) (by omega) (by omega)
  have e := szT_succ h
  have f := dpT_succ h
  unfold kid
  omega
theorem size_pos : 1 ≤ sizeM t ∧ 1 ≤ deepM t := by rw [sizeM_eq, deepM_eq]; omega
theorem const_size : sizeM (constM w n) ≤ 2 ∧ deepM (constM w n) ≤ 2 := by
  have leaf : ∀ o a b s, sizeM (.mk o a b s []) = 1 ∧ deepM (.mk o a b s []) = 1 := fun o a b s => by rw [sizeM_eq, deepM_eq]; exact ⟨rfl, rfl⟩
  have h1 : sizeM truT = 1 ∧ deepM truT = 1 := leaf _ _ _ _
  have h2 : sizeM flsT = 2 ∧ deepM flsT = 2 := by
    rw [sizeM_eq, deepM_eq]
    show 1 + (sizeM truT + 0) = 2 ∧ 1 + max 0 (deepM truT) = 2
    rw [h1.1, h1.2]; exact ⟨rfl, rfl⟩
  unfold constM
  split
  · have := leaf 20 w n nada; omega
  · split <;> omega
theorem src_size (h : Src t u) : sizeM u ≤ sizeM t ∧ deepM u ≤ deepM t := by
  cases h with
  | kid i h => have := kid_size h; omega
  | deep i j h h' => have := kid_size h; have := kid_size h'; omega
  | const w n h h' =>
    have hl : 0 < t.ks.length := List.length_pos_iff.2 h
    have := kid_size (t := t) (i := 0) hl
    have := size_pos (t := kid t 0)
    have := const_size (w := w) (n := n)
    omega
theorem one_good' (hd : declOk ds = true) (hs : sortM ds t ≠ -1) : sortM ds (oneT ds t) = sortM ds t ∧ (∀ env, envOk ds env = true → evalM ds env (oneT ds t) = evalM ds env t) ∧ sizeM (oneT ds t) ≤ sizeM t ∧ deepM (oneT ds t) ≤ deepM t := by
  rcases one_cases hd hs with ⟨_, e⟩ | h
  · rw [e]; exact ⟨rfl, fun _ _ => rfl, Nat.le_refl _, Nat.le_refl _⟩
  · exact ⟨h.sort, h.eval, src_size h.src⟩
def remake (t : Tm) (us : List Tm) : Tm := .mk t.op t.a t.b t.s us
theorem remake_sort {us : List Tm} (hl : us.length = t.ks.length) (h : us.map (sortM ds) = t.ks.map (sortM ds)) : sortM ds (remake t us) = sortM ds t := by
  rw [sortM_eq ds (remake t us), sortM_eq ds t]
  show sortF ds (remake t us) (us.map (sortM ds)) = _
  rw [h]
  have hf : formed (remake t us) = formed t := by
    show (decide (arity t.op = (us.length : Int)) && plainM t) = _
    rw [hl]; rfl
  unfold sortF
  rw [hf]; rfl
theorem remake_eval {us : List Tm} (hl : us.length = t.ks.length) (h : us.map (vecM ds env) = t.ks.map (vecM ds env)) : evalM ds env (remake t us) = evalM ds env t := by
  rw [evalM_eq, evalM_eq]
  show valK ds env (remake t us) (us.map (vecM ds env)) = _
  rw [h]; rfl
theorem sum_le {f g : Tm → Nat} : ∀ {ks : List Tm}, (∀ k, k ∈ ks → f k ≤ g k) → (ks.map f).sum ≤ (ks.map g).sum
  | [], _ => Nat.le_refl _
  | k :: r, h => by
    have h1 := h k List.mem_cons_self
    have h2 := sum_le (ks := r) fun x hx => h x (List.mem_cons_of_mem _ hx)
    simp only [List.map_cons, List.sum_cons]; omega
theorem max_le {f g : Tm → Nat} : ∀ {ks : List Tm} {a b : Nat}, a ≤ b → (∀ k, k ∈ ks → f k ≤ g k) → (ks.map f).foldl max a ≤ (ks.map g).foldl max b
  | [], a, b, hab, _ => hab
  | k :: r, a, b, hab, h => by
    have h1 := h k List.mem_cons_self
    simp only [List.map_cons, List.foldl_cons]
    exact max_le (ks := r) (by omega) fun x hx => h x (List.mem_cons_of_mem _ hx)
structure Good (ds : List Dcl) (t u : Tm) : Prop where
  sort : sortM ds u = sortM ds t
  eval : ∀ env, envOk ds env = true → evalM ds env u = evalM ds env t
  size : sizeM u ≤ sizeM t
  deep : deepM u ≤ deepM t
theorem remake_good {f : Tm → Tm} (h : ∀ k, k ∈ t.ks → Good ds k (f k)) : Good ds t (remake t (t.ks.map f)) := by
  have hl : (t.ks.map f).length = t.ks.length := List.length_map _
  refine ⟨remake_sort hl ?_, fun env he => remake_eval hl ?_, ?_, ?_⟩
  · rw [List.map_map]; exact List.map_congr_left fun k hk => (h k hk).sort
  · rw [List.map_map]; exact List.map_congr_left fun k hk => by show vecM ds env (f k) = _; rw [vecM_pair, vecM_pair, (h k hk).sort, (h k hk).eval env he]
  · rw [sizeM_eq, sizeM_eq t]
    show 1 + ((t.ks.map f).map sizeM).sum ≤ _
    rw [List.map_map]
    have := sum_le (f := sizeM ∘ f) (g := sizeM) (ks := t.ks) fun k hk => (h k hk).size
    omega
  · rw [deepM_eq, deepM_eq t]
    show 1 + ((t.ks.map f).map deepM).foldl max 0 ≤ _
    rw [List.map_map]
    have := max_le (f := deepM ∘ f) (g := deepM) (ks := t.ks) (a := 0) (b := 0) (Nat.le_refl _) fun k hk => (h k hk).deep
    omega
theorem foldT_rem (ds : List Dcl) (t : Tm) : foldT ds t = oneT ds (remake t (t.ks.map (foldT ds))) := foldT_eq ds t
theorem fold_good (hd : declOk ds = true) : ∀ t, sortM ds t ≠ -1 → Good ds t (foldT ds t) := by
  refine Tm.ind fun t ih hs => ?_
  have hk := (sort_parts hs).2.1
  have hr : Good ds t (remake t (t.ks.map (foldT ds))) := remake_good fun k hk' => ih k hk' (hk k hk')
  have h1 := one_good' hd (t := remake t (t.ks.map (foldT ds))) (by rw [hr.sort]; exact hs)
  rw [foldT_rem]
  exact ⟨h1.1.trans hr.sort, fun env he => (h1.2.1 env he).trans (hr.eval env he), Nat.le_trans h1.2.2.1 hr.size, Nat.le_trans h1.2.2.2 hr.deep⟩
theorem kids_good (hd : declOk ds = true) (hs : sortM ds t ≠ -1) : Good ds t (remake t (t.ks.map (foldT ds))) := remake_good fun k hk => fold_good hd k ((sort_parts hs).2.1 k hk)
theorem leaf_none (h : t.ks = []) (ho : t.op = 20 ∨ t.op = 21 ∨ t.op = 24) : ruleA ds t = none := by
  have hl : t.ks.length = 0 := by rw [h]; rfl
  have x : ruleX ds t = none := by
    unfold ruleX allFixed
    rw [h]; rfl
  have b : ruleB t = none := by unfold ruleB; rw [if_neg (by omega), if_pos (by omega)]
  have c : ruleT t = none := by unfold ruleT; rw [if_neg (by omega)]
  have d : ruleL ds t = none := by unfold ruleL; rw [if_neg (by omega), if_neg (by omega)]
  have e : ruleW ds t = none := by unfold ruleW; rw [if_neg (by omega)]
  have f : ruleS t = none := by unfold ruleS; rw [if_neg (by omega)]
  have g : ruleF t = none := by unfold ruleF; rw [if_neg (by omega)]
  unfold ruleA
  rw [x, b, c, d, e, f, g]; rfl
theorem leaf_one (h : t.ks = []) (ho : t.op = 20 ∨ t.op = 21 ∨ t.op = 24) : oneT ds t = t := by unfold oneT; rw [leaf_none h ho]; rfl
end
end Go.M
end
section
namespace Go.M
open Go.Vc
section
variable {ds : List Dcl} {env : List Int} {t u : Tm} {d : Dcl} {x : Int}
end
end Go.M
end
section
namespace Go.Proofs.YtcfgmgjofmbfhaaGreatDoor
open Go Go.Vc Go.Proofs
variable {w : World} {K : Value → World → Prop} {F F' D G : Nat → Prop}
@[push_cast] theorem bd_TZ : vbuild PP T_impl_Term [] w K = K (.agg ⟨zeroT⟩) w := vbuild_eq b_impl_Term (us := []) rfl rfl
theorem tms_op {kv : Value} {ks : List M.Tm} (h : TmsR F w kv ks) {i : Nat} (hi : i < ks.length) : vload PP T_int (.pointer (some ((eaddr kv 5 i).add 0))) w K = K (.int .i64 (ks.getD i default).op) w := by
  obtain ⟨css, hs, hl, hk⟩ := h
  obtain ⟨kv', e, _⟩ := (hk i hi).inv
  exact hs.ldField o_int (by omega) (by rw [e]; rfl)
theorem tms_kids {kv : Value} {ks : List M.Tm} (h : TmsR F w kv ks) {i : Nat} (hi : i < ks.length) (hK : ∀ kv', TmsR F w kv' (ks.getD i default).ks → K kv' w) : vload PP T_Limpl_Term (.pointer (some ((eaddr kv 5 i).add 4))) w K := by
  obtain ⟨css, hs, hl, hk⟩ := h
  obtain ⟨kv', e, hk'⟩ := (hk i hi).inv
  rw [hs.ldField o_Limpl_Term (by omega) (by rw [e]; rfl)]
  exact hK kv' hk'
theorem TermSame_spec : ∀ (t : M.Tm) {w : World} {K : Value → World → Prop} {F G : Nat → Prop} {va vb : Value} {u : M.Tm}, TermR F w va t → TermR G w vb u → (∀ w', Ext w w' → K (.bool (decide (t = u))) w') → vcall PP n_impl_TermSame #[va, vb] w K := by
  refine M.Tm.ind fun t ih w K F G va vb u ha hb hK => ?_
  apply c_impl_TermSame; unfold F_impl_TermSame
  obtain ⟨kva, rfl, hka⟩ := ha
  obtain ⟨kvb, rfl, hkb⟩ := hb
  refine vbox_agg fun b1 w1 hb1 he1 hs1 h1 => ?_
  refine vbox_agg fun b2 w2 hb2 he2 hs2 h2 => ?_
  have q1 := h1.ext he2
  have hE := he1.trans he2
  have no : ∀ w', Ext w w' → t ≠ u → K (.bool false) w' := fun w' h hn => by
    have := hK w' h
    rwa [decide_eq_false hn] at this
  simp (disch := (simp only [push_cast]; done)) only [push_cast, q1.ld0, h2.ld0, q1.ld1, h2.ld1, q1.ld2, h2.ld2, q1.ld3, h2.ld3, q1.ld4, h2.ld4]
  refine vif_dec (fun e1 => ?_) (fun e => no _ hE fun h => e (by rw [h]))
  refine vif_dec (fun e2 => ?_) (fun e => no _ hE fun h => e (by rw [h]))
  refine vif_dec (fun e3 => ?_) (fun e => no _ hE fun h => e (by rw [h]))
  refine vif_dec (fun e4 => ?_) (fun e => no _ hE fun h => e (by rw [h]))
  apply c_slices_EqualFunc_Limpl_Term_Limpl_Term_impl_Term_impl_Term; unfold F_slices_EqualFunc_Limpl_Term_Limpl_Term_impl_Term_impl_Term
  have hka2 := hka.ext hE
  have hkb2 := hkb.ext hE
  have hsm := hka.small
  simp (disch := (simp only [push_cast]; done)) only [push_cast, hka2.len, hkb2.len]
  refine vif_dec (fun e => no _ hE fun h => e (by rw [h])) (fun el => ?_)
  have el : t.ks.length = u.ks.length := by omega
  refine vloop_up t.ks.length (fun i x w' => x = [.int .i64 i] ∧ Ext w w' ∧ ∀ j, j < i → t.ks.getD j default = u.ks.getD j default) ⟨rfl, hE, fun j hj => absurd hj (by omega)⟩ ?_
  rintro i _ _ w3 C hi ⟨rfl, he3, hall⟩ hC
  have ha3 := hka.ext he3
  have hb3 := hkb.ext he3
  simp (disch := first | (simp only [push_cast]; done) | omega) only [push_cast, ha3.len]
  refine vif_dec (fun a => ?_) (fun a => ?_)
  · simp (disch := first | (simp only [push_cast]; done) | omega) only [push_cast, ha3.iaddr]
    refine ha3.load g_impl_Term (by omega) fun x hx => ?_
    obtain ⟨cx, rfl, hcx⟩ := hx.cells
    refine valloc_agg zr_impl_Term fun b4 w4 hb4 he4 hs4 h4 => ?_
    refine stTerm h4 rfl ((hcx.weaken (F' := fun b => b < w3.heap.size) fun b _ h => h).ext he4) fun w5 hw5 hz5 h5 => ?_
    have he5 : Ext w3 w5 := Ext.then he4 hw5 fun y hy => by subst hy; omega
    have hb5 := hb3.ext he5
    simp (disch := first | (simp only [push_cast]; done) | omega) only [push_cast, hb5.iaddr]
    refine hb5.load g_impl_Term (by omega) fun y hy => ?_
    obtain ⟨cy, rfl, hcy⟩ := hy.cells
    refine valloc_agg zr_impl_Term fun b6 w6 hb6 he6 hs6 h6 => ?_
    refine stTerm h6 rfl ((hcy.weaken (F' := fun b => b < w5.heap.size) fun b _ h => h).ext he6) fun w7 hw7 hz7 h7 => ?_
    have he7 : Ext w5 w7 := Ext.then he6 hw7 fun y hy => by subst hy; omega
    rw [(h5.ext he7).ldAgg (t := T_impl_Term) (by rw [tmR_len hcx]; exact g_impl_Term), h7.ldAgg (t := T_impl_Term) (by rw [tmR_len hcy]; exact g_impl_Term)]
    simp only [push_cast, List.append_nil, List.nil_append]
    have hE7 := he3.trans (he5.trans he7)
    refine ih _ (M.getD_mem (by omega) _) (hcx.ext (he5.trans he7)).term (hcy.ext he7).term fun w8 he8 => ?_
    simp only [push_cast]
    refine vif_bool (fun b => ?_) (fun b => ?_)
    · rw [Bool.not_eq_true', decide_eq_false_iff_not] at b
      exact no _ (hE7.trans he8) fun h => b (by rw [h])
    · rw [Bool.not_eq_false', decide_eq_true_eq] at b
      rw [inc64' (by omega)]
      refine hC (by omega) _ _ ⟨rfl, hE7.trans he8, fun j hj => ?_⟩
      by_cases e : j < i
      · exact hall j e
      · have : j = i := by omega
        subst this; exact b
  · have : t = u := M.tm_ext e1 e2 e3 e4 (List.ext_getElem el fun j h1 h2 => by
      have := hall j (by omega)
      rwa [List.getD_eq_getElem?_getD, List.getElem?_eq_getElem h1, List.getD_eq_getElem?_getD, List.getElem?_eq_getElem h2] at this)
    have := hK w3 he3
    rwa [decide_eq_true ‹t = u›] at this
theorem falseTerm_spec (hK : ∀ w' v, Ext w w' → TermR (fun b => w.heap.size ≤ b) w' v M.flsT → K v w') : vcall PP n_impl_falseTerm #[] w K := by
  apply c_impl_falseTerm; unfold F_impl_falseTerm
  refine valloc_agg zr_impl_Term fun b1 w1 hb1 he1 hs1 h1 => ?_
  simp only [push_cast]
  refine kids1 (node_leaf (o := 24) (F := fun _ => False)) fun w2 a he2 hs2 k2 => ?_
  simp only [push_cast]
  have hn : TmR (fun b => b ≠ b1 ∧ w.heap.size ≤ b) w2 _ M.flsT := (TmR.of (t := M.flsT) k2).weaken fun z hz _ => by
    rcases hz with h | h
    · exact h.elim
    · exact ⟨by omega, by omega⟩
  refine retTerm (h1.ext he2) rfl hn (fun x hx => hx.1) fun w3 hw3 hz3 ht3 => ?_
  exact hK _ _ (Ext.then (he1.trans he2) hw3 fun y hy => by subst hy; omega) (ht3.weaken fun b hb _ => hb.2)
theorem constant_spec {s n : Int} (hK : ∀ w' v, Ext w w' → TermR (fun b => w.heap.size ≤ b) w' v (M.constM s n) → K v w') : vcall PP n_impl_constant #[.int .i64 s, .int .i64 n] w K := by
  apply c_impl_constant; unfold F_impl_constant
  refine valloc_agg zr_impl_Term fun b1 w1 hb1 he1 hs1 h1 => ?_
  unfold M.constM at hK
  simp only [push_cast]
  refine vif_dec (fun a => ?_) (fun a => ?_)
  · rw [if_pos a] at hK
    refine retTerm h1 rfl (leafR 20 s n _ : TmR (fun _ => False) w1 _ _) (fun x hx => hx.elim) fun w3 hw3 hz3 ht3 => ?_
    exact hK _ _ (Ext.then he1 hw3 fun y hy => by subst hy; omega) (ht3.weaken fun b hb _ => hb.elim)
  · rw [if_neg a] at hK
    refine vif_dec (fun b => ?_) (fun b => ?_)
    · rw [if_pos b] at hK
      refine retTerm h1 rfl (leafR 24 0 0 _ : TmR (fun _ => False) w1 _ _) (fun x hx => hx.elim) fun w3 hw3 hz3 ht3 => ?_
      exact hK _ _ (Ext.then he1 hw3 fun y hy => by subst hy; omega) (ht3.weaken fun b hb _ => hb.elim)
    · rw [if_neg b] at hK
      refine falseTerm_spec fun w2 v he2 ht2 => ?_
      obtain ⟨cs, rfl, hcs⟩ := ht2.cells
      refine retTerm (h1.ext he2) rfl hcs (fun x hx => by omega) fun w3 hw3 hz3 ht3 => ?_
      exact hK _ _ (Ext.then (he1.trans he2) hw3 fun y hy => by subst hy; omega) (ht3.weaken fun b hb _ => by have := he1.size; omega)
theorem fixed_vec {t : M.Tm} (h : t.op = 20) : M.fixedM t = if t.ks = [] ∧ t.s = M.nada ∧ M.vok t.a t.b = true then some t.b else none := by
  unfold M.fixedM
  rw [if_neg (fun e => by rw [e] at h; exact absurd h (by decide)), if_neg (fun e => by rw [e] at h; exact absurd h (by decide))]
  by_cases hc : t.ks = [] ∧ t.s = M.nada ∧ M.vok t.a t.b = true
  · rw [if_pos hc, if_pos ⟨h, hc⟩]
  · rw [if_neg hc, if_neg (fun x => hc x.2)]
theorem nil_len {ks : List M.Tm} : ((ks.length : Int) = 0) ↔ ks = [] := by
  rw [← List.length_eq_zero_iff]; omega
theorem TermFixed_spec {v : Value} {t : M.Tm} (ht : TermR F w v t) (hK : ∀ w', Ext w w' → K (.tuple #[.int .i64 ((M.fixedM t).getD 0), .bool (M.fixedM t).isSome]) w') : vcall PP n_impl_TermFixed #[v] w K := by
  apply c_impl_TermFixed; unfold F_impl_TermFixed
  have ht' := ht
  obtain ⟨kv, rfl, hks⟩ := ht
  refine vbox_agg fun b1 w1 hb1 he1 hs1 h1 => ?_
  have out : ∀ w' o, Ext w w' → M.fixedM t = o → K (.tuple #[.int .i64 (o.getD 0), .bool o.isSome]) w' := fun w' o h e => by rw [← e]; exact hK w' h
  have hsz : (M.truT).s = M.nada ∧ (M.flsT).s = M.nada := ⟨rfl, rfl⟩
  simp (disch := (simp only [push_cast]; done)) only [push_cast, h1.ld3]
  refine vif_dec (fun a => ?_) (fun a => ?_)
  · refine out w1 none he1 ?_
    have hn : t.s ≠ M.nada := a
    unfold M.fixedM
    rw [if_neg (fun e => hn (by rw [e]; rfl)), if_neg (fun e => hn (by rw [e]; rfl)), if_neg (fun e => hn e.2.2.1)]
  have hs : t.s = M.nada := by
    by_cases h : t.s = M.nada
    · exact h
    · exact absurd h a
  refine vjoin_of (fun u w' => ∃ b : Bool, u = [.bool b] ∧ Ext w1 w' ∧ (b = true ↔ t.op = 20 ∧ t.ks = [] ∧ M.vok t.a t.b = true)) (fun C hC => ?_) ?_
  · simp (disch := (simp only [push_cast]; done)) only [push_cast, h1.ld0]
    refine vif_dec (fun c => ?_) (fun c => ?_)
    · simp (disch := (simp only [push_cast]; done)) only [push_cast, h1.ld4, hks.len]
      refine vif_dec (fun d => ?_) (fun d => ?_)
      · try simp (disch := (simp only [push_cast]; done)) only [push_cast, h1.ld1, h1.ld2]
        refine VecOk_spec fun w2 he2 => ?_
        exact hC _ _ ⟨_, rfl, he2, ⟨fun h => ⟨c, nil_len.1 d, h⟩, fun h => h.2.2⟩⟩
      · exact hC _ _ ⟨false, rfl, Same.refl _ _, ⟨fun h => (by cases h), fun h => absurd (nil_len.2 h.2.1) d⟩⟩
    · exact hC _ _ ⟨false, rfl, Same.refl _ _, ⟨fun h => (by cases h), fun h => absurd h.1 c⟩⟩
  rintro u g w2 ⟨b, rfl, he2, hb⟩
  have q2 := h1.ext he2
  have hE2 := he1.trans he2
  simp only [push_cast]
  refine vif_bool (fun c => ?_) (fun c => ?_)
  · obtain ⟨c1, c2, c3⟩ := hb.1 c
    simp (disch := (simp only [push_cast]; done)) only [push_cast, q2.ld2]
    refine out w2 (some t.b) hE2 ?_
    rw [fixed_vec c1, if_pos ⟨c2, hs, c3⟩]
  have hnv : ¬ (t.op = 20 ∧ t.ks = [] ∧ t.s = M.nada ∧ M.vok t.a t.b = true) := fun h => by
    have := hb.2 ⟨h.1, h.2.1, h.2.2.2⟩
    rw [c] at this; cases this
  rw [q2.ldAgg (t := T_impl_Term) g_impl_Term]
  try simp only [push_cast]
  refine TermSame_spec t (ht'.ext hE2) (node_leaf (o := 24) (F := fun _ => False)) fun w3 he3 => ?_
  have hE3 := hE2.trans he3
  refine vif_dec (fun d => ?_) (fun d => ?_)
  · exact out w3 (some 1) hE3 (if_pos d)
  have d' : ¬ t = M.truT := d
  refine vdraw_ext fun w4 he4 _ => ?_
  have hE4 := hE3.trans he4
  have q4 := q2.ext (he3.trans he4)
  simp (disch := (simp only [push_cast]; done)) only [push_cast, q4.ld0, true_and]
  refine vif_dec (fun e => ?_) (fun e => ?_)
  · simp (disch := (simp only [push_cast]; done)) only [push_cast, q4.ldAgg (t := T_impl_Term) g_impl_Term, true_and]
    refine falseTerm_spec fun w5 fv he5 hf5 => ?_
    have q5 := q4.ext he5
    simp (disch := (simp only [push_cast]; done)) only [push_cast, q5.ldAgg (t := T_impl_Term) g_impl_Term, true_and, and_self]
    refine TermSame_spec t (ht'.ext (hE4.trans he5)) hf5 fun w6 he6 => ?_
    have hE6 := hE4.trans (he5.trans he6)
    refine vif_dec (fun f => ?_) (fun f => ?_)
    · refine out w6 (some 0) hE6 ?_
      unfold M.fixedM
      rw [if_neg d', if_pos f]
    · refine out w6 none hE6 ?_
      unfold M.fixedM
      rw [if_neg d', if_neg f, if_neg hnv]
  · refine out w4 none hE4 ?_
    unfold M.fixedM
    rw [if_neg d', if_neg (fun x => e (by rw [x]; rfl)), if_neg hnv]
theorem is_spec {v : Value} {t : M.Tm} {n : Int} (ht : TermR F w v t) (hK : ∀ w', Ext w w' → K (.bool (M.isM t n)) w') : vcall PP n_impl_is #[v, .int .i64 n] w K := by
  apply c_impl_is; unfold F_impl_is
  obtain ⟨cs, rfl, hcs⟩ := ht.cells
  refine vbox_agg fun b1 w1 hb1 he1 hs1 h1 => ?_
  rw [h1.ldAgg (t := T_impl_Term) (by rw [tmR_len hcs]; exact g_impl_Term)]
  refine TermFixed_spec (hcs.ext he1).term fun w2 he2 => ?_
  have := hK w2 (he1.trans he2)
  unfold M.isM at this
  simp only [push_cast]
  cases e : M.fixedM t with
  | none => rw [e] at this; exact this
  | some m =>
    rw [e] at this
    simp only [Option.some.injEq] at this
    exact this
theorem among_spec {v av : Value} {t : M.Tm} {xs : List Int} (ht : TermR F w v t) (hx : Ints G w av xs) (hsm : xs.length ≤ 100) (hK : ∀ w', Ext w w' → K (.bool (decide (t.op ∈ xs))) w') : vcall PP n_impl_among #[v, av] w K := by
  apply c_impl_among; unfold F_impl_among
  obtain ⟨kv, rfl, hks⟩ := ht
  refine vbox_agg fun b1 w1 hb1 he1 hs1 h1 => ?_
  simp (disch := (simp only [push_cast]; done)) only [push_cast, h1.ld0]
  apply c_slices_Contains_Lint_int; unfold F_slices_Contains_Lint_int
  apply c_slices_Index_Lint_int; unfold F_slices_Index_Lint_int
  have hx1 := hx.ext he1
  simp (disch := (simp only [push_cast]; done)) only [push_cast, hx1.len]
  refine vloop_up xs.length (fun i u w' => u = [.int .i64 i] ∧ Ext w w' ∧ ∀ j, j < i → t.op ≠ xs.getD j 0) ⟨rfl, he1, fun j hj => absurd hj (by omega)⟩ ?_
  rintro i _ _ w3 C hi ⟨rfl, he3, hall⟩ hC
  have hx3 := hx.ext he3
  simp only [push_cast]
  refine vif_dec (fun a => ?_) (fun a => ?_)
  · simp (disch := first | (simp only [push_cast]; done) | omega) only [push_cast, hx3.iaddr, hx3.load]
    refine vif_dec (fun b => ?_) (fun b => ?_)
    · have hm : t.op ∈ xs := by rw [b]; exact M.getD_mem (by omega) _
      have := hK w3 he3
      rw [decide_eq_true hm] at this
      try simp only [push_cast]
      rw [decide_eq_true (by omega)]
      exact this
    · rw [inc64' (by omega)]
      refine hC (by omega) _ _ ⟨rfl, he3, fun j hj => ?_⟩
      by_cases e : j < i
      · exact hall j e
      · have : j = i := by omega
        subst this; exact b
  · have hm : ¬ t.op ∈ xs := fun h => by
      obtain ⟨j, hj, e⟩ := List.getElem_of_mem h
      have := hall j (by omega)
      rw [List.getD_eq_getElem?_getD, List.getElem?_eq_getElem hj] at this
      exact this e.symm
    have := hK w3 he3
    rw [decide_eq_false hm] at this
    exact this
theorem chosen_spec {v : Value} {t : M.Tm} {b : Bool} (ht : TermR F w v t) (hK : ∀ w' v', Ext w w' → TermR F w' v' t → K (.tuple #[v', .bool b]) w') : vcall PP n_impl_chosen #[.bool b, v] w K := by
  apply c_impl_chosen; unfold F_impl_chosen
  obtain ⟨cs, rfl, hcs⟩ := ht.cells
  refine vbox_agg fun b1 w1 hb1 he1 hs1 h1 => ?_
  refine valloc_agg zr_impl_Term fun b2 w2 hb2 he2 hs2 h2 => ?_
  rw [(h1.ext he2).ldAgg (t := T_impl_Term) (by rw [tmR_len hcs]; exact g_impl_Term)]
  have hE := he1.trans he2
  have hc : TmR (fun b => F b ∧ b < w.heap.size) w2 cs t := (hcs.weaken (F' := fun b => F b ∧ b < w.heap.size) fun b h hl => ⟨h, hl⟩).ext hE
  have hz1 := he1.size
  refine retTerm (K := fun r w => K (.tuple #[r, .bool b]) w) h2 rfl hc (fun x hx => by omega) fun w3 hw3 hz3 ht3 => ?_
  exact hK _ _ (Ext.then hE hw3 fun y hy => by subst hy; omega) (ht3.weaken fun b hb _ => hb.1)
end Go.Proofs.YtcfgmgjofmbfhaaGreatDoor
end
section
namespace Go.Proofs.YtcfgmgjofmbfhaaGreatDoor
open Go Go.Vc Go.Proofs
variable {w : World} {K : Value → World → Prop} {F F' D G : Nat → Prop}
abbrev ptr (b : Nat) : Value := .pointer (some ⟨b, 0, none⟩)
def pairReg (t3 : Value) (w : World) (J : List Value → World → Prop) : Prop :=
 vdraw w fun w_12 =>
 vfaddr PP T_impl_Term t3 4 w_12 fun t13 w_13 => w_13 = w_12 ∧
 vload PP T_Limpl_Term t13 w_12 fun t14 w_14 => w_14 = w_12 ∧
 viaddr PP T_Limpl_Term t14 (.int .i64 0) w_12 fun t15 w_15 => w_15 = w_12 ∧
 vload PP T_impl_Term t15 w_12 fun t16 w_16 => w_16 = w_12 ∧
 vfaddr PP T_impl_Term t3 4 w_12 fun t17 w_17 => w_17 = w_12 ∧
 vload PP T_Limpl_Term t17 w_12 fun t18 w_18 => w_18 = w_12 ∧
 viaddr PP T_Limpl_Term t18 (.int .i64 1) w_12 fun t19 w_19 => w_19 = w_12 ∧
 vload PP T_impl_Term t19 w_12 fun t20 w_20 => w_20 = w_12 ∧
 (valloc PP T_impl_Term w_12 fun t6 w_21 => (vload PP T_impl_Term t19 w_21 fun v x => v = t20 ∧ x = w_21) ∧ (viaddr PP T_Limpl_Term t18 (.int .i64 1) w_21 fun v x => v = t19 ∧ x = w_21) ∧ (vload PP T_Limpl_Term t17 w_21 fun v x => v = t18 ∧ x = w_21) ∧ (vfaddr PP T_impl_Term t3 4 w_21 fun v x => v = t17 ∧ x = w_21) ∧ (vload PP T_impl_Term t15 w_21 fun v x => v = t16 ∧ x = w_21) ∧ (viaddr PP T_Limpl_Term t14 (.int .i64 0) w_21 fun v x => v = t15 ∧ x = w_21) ∧ (vload PP T_Limpl_Term t13 w_21 fun v x => v = t14 ∧ x = w_21) ∧ (vfaddr PP T_impl_Term t3 4 w_21 fun v x => v = t13 ∧ x = w_21) ∧
 (valloc PP T_impl_Term w_21 fun t7 w_22 => (vload PP T_impl_Term t19 w_22 fun v x => v = t20 ∧ x = w_22) ∧ (viaddr PP T_Limpl_Term t18 (.int .i64 1) w_22 fun v x => v = t19 ∧ x = w_22) ∧ (vload PP T_Limpl_Term t17 w_22 fun v x => v = t18 ∧ x = w_22) ∧ (vfaddr PP T_impl_Term t3 4 w_22 fun v x => v = t17 ∧ x = w_22) ∧ (vload PP T_impl_Term t15 w_22 fun v x => v = t16 ∧ x = w_22) ∧ (viaddr PP T_Limpl_Term t14 (.int .i64 0) w_22 fun v x => v = t15 ∧ x = w_22) ∧ (vload PP T_Limpl_Term t13 w_22 fun v x => v = t14 ∧ x = w_22) ∧ (vfaddr PP T_impl_Term t3 4 w_22 fun v x => v = t13 ∧ x = w_22) ∧
 (vstore PP T_impl_Term t6 t16 w_22 fun _ w_23 => (vload PP T_impl_Term t19 w_23 fun v x => v = t20 ∧ x = w_23) ∧ (viaddr PP T_Limpl_Term t18 (.int .i64 1) w_23 fun v x => v = t19 ∧ x = w_23) ∧ (vload PP T_Limpl_Term t17 w_23 fun v x => v = t18 ∧ x = w_23) ∧ (vfaddr PP T_impl_Term t3 4 w_23 fun v x => v = t17 ∧ x = w_23) ∧
 (vstore PP T_impl_Term t7 t20 w_23 fun _ w_24 =>
 J [t6, t7] w_24) ∧
 True) ∧
 True) ∧
 True) ∧
 (valloc PP T_impl_Term w_12 fun t7_1 w_25 => (vload PP T_impl_Term t19 w_25 fun v x => v = t20 ∧ x = w_25) ∧ (viaddr PP T_Limpl_Term t18 (.int .i64 1) w_25 fun v x => v = t19 ∧ x = w_25) ∧ (vload PP T_Limpl_Term t17 w_25 fun v x => v = t18 ∧ x = w_25) ∧ (vfaddr PP T_impl_Term t3 4 w_25 fun v x => v = t17 ∧ x = w_25) ∧ (vload PP T_impl_Term t15 w_25 fun v x => v = t16 ∧ x = w_25) ∧ (viaddr PP T_Limpl_Term t14 (.int .i64 0) w_25 fun v x => v = t15 ∧ x = w_25) ∧ (vload PP T_Limpl_Term t13 w_25 fun v x => v = t14 ∧ x = w_25) ∧ (vfaddr PP T_impl_Term t3 4 w_25 fun v x => v = t13 ∧ x = w_25) ∧
 (valloc PP T_impl_Term w_25 fun t6_1 w_26 => (vload PP T_impl_Term t19 w_26 fun v x => v = t20 ∧ x = w_26) ∧ (viaddr PP T_Limpl_Term t18 (.int .i64 1) w_26 fun v x => v = t19 ∧ x = w_26) ∧ (vload PP T_Limpl_Term t17 w_26 fun v x => v = t18 ∧ x = w_26) ∧ (vfaddr PP T_impl_Term t3 4 w_26 fun v x => v = t17 ∧ x = w_26) ∧ (vload PP T_impl_Term t15 w_26 fun v x => v = t16 ∧ x = w_26) ∧ (viaddr PP T_Limpl_Term t14 (.int .i64 0) w_26 fun v x => v = t15 ∧ x = w_26) ∧ (vload PP T_Limpl_Term t13 w_26 fun v x => v = t14 ∧ x = w_26) ∧ (vfaddr PP T_impl_Term t3 4 w_26 fun v x => v = t13 ∧ x = w_26) ∧
 (vstore PP T_impl_Term t6_1 t16 w_26 fun _ w_27 => (vload PP T_impl_Term t19 w_27 fun v x => v = t20 ∧ x = w_27) ∧ (viaddr PP T_Limpl_Term t18 (.int .i64 1) w_27 fun v x => v = t19 ∧ x = w_27) ∧ (vload PP T_Limpl_Term t17 w_27 fun v x => v = t18 ∧ x = w_27) ∧ (vfaddr PP T_impl_Term t3 4 w_27 fun v x => v = t17 ∧ x = w_27) ∧
 (vstore PP T_impl_Term t7_1 t20 w_27 fun _ w_28 =>
 J [t6_1, t7_1] w_28) ∧
 True) ∧
 True) ∧
 True) ∧
 True
theorem pairReg_ok {b3 : Nat} {F0 : Nat → Prop} {kv : Value} {t : M.Tm} {J : List Value → World → Prop} (q : Blk w b3 [.int .i64 t.op, .int .i64 t.a, .int .i64 t.b, .string t.s, kv] T_impl_Term) (hk : TmsR F0 w kv t.ks) (h2 : 2 ≤ t.ks.length)
    (hJ : ∀ w' b b' c c', Ext w w' → Blk w' b c T_impl_Term → TmR F0 w' c (M.kid t 0) → Blk w' b' c' T_impl_Term → TmR F0 w' c' (M.kid t 1) → J [ptr b, ptr b'] w') : pairReg (ptr b3) w J := by
  unfold pairReg
  refine vdraw_ext fun w1 he1 _ => ?_
  obtain ⟨css, hs, hl, hc⟩ := hk.ext he1
  have q1 := q.ext he1
  have hz1 := he1.size
  simp (disch := first | (simp only [push_cast]; done) | omega) only [push_cast, q1.ld4, hs.iaddr, hs.ldAgg, true_and]
  have c0 := hc 0 (by omega)
  have c1 := hc 1 (by omega)
  refine ⟨?_, ?_, trivial⟩
  · refine valloc_agg zr_impl_Term fun b2 w2 hb2 he2 hs2 h2 => ?_
    have s2 := hs.ext he2
    have q2 := q1.ext he2
    simp (disch := first | (simp only [push_cast]; done) | omega) only [push_cast, q2.ld4, s2.iaddr, s2.ldAgg, true_and, and_self]
    refine ⟨?_, trivial⟩
    refine valloc_agg zr_impl_Term fun b3 w3 hb3 he3 hs3 h3 => ?_
    have s3 := s2.ext he3
    have q3 := q2.ext he3
    simp (disch := first | (simp only [push_cast]; done) | omega) only [push_cast, q3.ld4, s3.iaddr, s3.ldAgg, true_and, and_self]
    refine ⟨?_, trivial⟩
    refine stTerm (h2.ext he3) rfl (c0.ext (he2.trans he3)) fun w4 hw4 hz4 h4 => ?_
    have e14 : Ext w1 w4 := Ext.then (he2.trans he3) hw4 fun y hy => by subst hy; omega
    have s4 := hs.ext e14
    have q4 := q1.ext e14
    simp (disch := first | (simp only [push_cast]; done) | omega) only [push_cast, q4.ld4, s4.iaddr, s4.ldAgg, true_and, and_self]
    refine ⟨?_, trivial⟩
    refine stTerm (h3.same hw4 (by omega)) rfl (c1.ext e14) fun w5 hw5 hz5 h5 => ?_
    have e15 : Ext w1 w5 := Ext.then e14 hw5 fun y hy => by subst hy; omega
    exact hJ _ _ _ _ _ (he1.trans e15) (h4.same hw5 (by omega)) (c0.ext e15) h5 (c1.ext e15)
  · refine valloc_agg zr_impl_Term fun b2 w2 hb2 he2 hs2 h2 => ?_
    have s2 := hs.ext he2
    have q2 := q1.ext he2
    simp (disch := first | (simp only [push_cast]; done) | omega) only [push_cast, q2.ld4, s2.iaddr, s2.ldAgg, true_and, and_self]
    refine ⟨?_, trivial⟩
    refine valloc_agg zr_impl_Term fun b3 w3 hb3 he3 hs3 h3 => ?_
    have s3 := s2.ext he3
    have q3 := q2.ext he3
    simp (disch := first | (simp only [push_cast]; done) | omega) only [push_cast, q3.ld4, s3.iaddr, s3.ldAgg, true_and, and_self]
    refine ⟨?_, trivial⟩
    refine stTerm h3 rfl (c0.ext (he2.trans he3)) fun w4 hw4 hz4 h4 => ?_
    have e14 : Ext w1 w4 := Ext.then (he2.trans he3) hw4 fun y hy => by subst hy; omega
    have s4 := hs.ext e14
    have q4 := q1.ext e14
    simp (disch := first | (simp only [push_cast]; done) | omega) only [push_cast, q4.ld4, s4.iaddr, s4.ldAgg, true_and, and_self]
    refine ⟨?_, trivial⟩
    refine stTerm ((h2.ext he3).same hw4 (by omega)) rfl (c1.ext e14) fun w5 hw5 hz5 h5 => ?_
    have e15 : Ext w1 w5 := Ext.then e14 hw5 fun y hy => by subst hy; omega
    exact hJ _ _ _ _ _ (he1.trans e15) (h4.same hw5 (by omega)) (c0.ext e15) h5 (c1.ext e15)
structure RS (G : Nat → Prop) (w0 w : World) (b2 b3 b4 : Nat) (dv kv : Value) (mb : Nat) (ds : List M.Dcl) (t : M.Tm) : Prop where
  ext : Ext w0 w
  f : Blk w b2 [dv, .map (some mb)] T_impl_folder
  q : Blk w b3 [.int .i64 t.op, .int .i64 t.a, .int .i64 t.b, .string t.s, kv] T_impl_Term
  r : Blk w b4 zeroT T_impl_Term
  k : TmsR (fun x => G x ∧ x < w0.heap.size) w kv t.ks
  d : DclsR (fun x => x < w0.heap.size) w dv ds
  m : KindsR w mb
  lo : w0.heap.size ≤ b4
section
variable {w0 w' : World} {b2 b3 b4 mb : Nat} {dv kv : Value} {ds : List M.Dcl} {t : M.Tm}
theorem rs_ext (h : RS G w0 w b2 b3 b4 dv kv mb ds t) (he : Ext w w') : RS G w0 w' b2 b3 b4 dv kv mb ds t :=
  ⟨h.ext.trans he, h.f.ext he, h.q.ext he, h.r.ext he, h.k.ext he, h.d.ext he, h.m.ext he, h.lo⟩
abbrev folderV (dv : Value) (mb : Nat) : Value := .agg ⟨[dv, .map (some mb)]⟩
theorem rs_enter {tv : Value} {B : Value → Value → Value → World → Prop} (hd : DclsR F w dv ds) (hm : KindsR w mb) (ht : TermR G w tv t) (hK : ∀ w' b2 b3 b4 kv, RS G w w' b2 b3 b4 dv kv mb ds t → B (ptr b2) (ptr b3) (ptr b4) w') :
    vbox PP T_impl_folder (folderV dv mb) w fun t2 w_1 => vbox PP T_impl_Term tv w_1 fun t3 w_2 => valloc PP T_impl_Term w_2 fun t4 w_3 => B t2 t3 t4 w_3 := by
  obtain ⟨kv, rfl, hks⟩ := ht
  refine vbox_agg fun b1 w1 hb1 he1 hs1 h1 => ?_
  refine vbox_agg fun b2 w2 hb2 he2 hs2 h2 => ?_
  refine valloc_agg zr_impl_Term fun b3 w3 hb3 he3 hs3 h3 => ?_
  have hE := he1.trans (he2.trans he3)
  exact hK _ _ _ _ kv ⟨hE, (h1.ext he2).ext he3, h2.ext he3, h3, (hks.weaken fun b h h' => ⟨h, h'⟩).ext hE, (hd.weaken fun b _ h => h).ext hE, hm.ext hE, by omega⟩
abbrev RuleK (K : Value → World → Prop) (w : World) (G : Nat → Prop) (o : Option M.Tm) : Prop := ∀ w' rv u, Ext w w' → TermR (fun x => G x ∨ w.heap.size ≤ x) w' rv u → (∀ x, o = some x → u = x) → K (.tuple #[rv, .bool o.isSome]) w'
theorem rs_give (h : RS G w0 w b2 b3 b4 dv kv mb ds t) {rv : Value} {u : M.Tm} {b : Bool} (hu : TermR (fun x => (G x ∨ w0.heap.size ≤ x) ∧ x ≠ b4) w rv u) (hK : ∀ w' rv', Ext w0 w' → TermR (fun x => G x ∨ w0.heap.size ≤ x) w' rv' u → K (.tuple #[rv', .bool b]) w') :
    vstore PP T_impl_Term (ptr b4) rv w fun _ w1 => vlv PP T_impl_Term (ptr b4) w1 fun r w2 => K (.tuple #[r, .bool b]) w2 := by
  obtain ⟨cs, rfl, hcs⟩ := hu.cells
  refine retTerm (K := fun r w => K (.tuple #[r, .bool b]) w) h.r rfl hcs (fun x hx => hx.2) fun w3 hw3 hz3 ht3 => ?_
  exact hK _ _ (Ext.then h.ext hw3 fun y hy => by subst hy; exact h.lo) (ht3.weaken fun x hx _ => hx.1)
theorem rs_kid (h : RS G w0 w b2 b3 b4 dv kv mb ds t) {rv : Value} {u : M.Tm} (hu : TermR (fun x => G x ∧ x < w0.heap.size) w' rv u) : TermR (fun x => (G x ∨ w0.heap.size ≤ x) ∧ x ≠ b4) w' rv u := hu.weaken fun x hx _ => ⟨.inl hx.1, by have := h.lo; omega⟩
theorem rs_new (h : RS G w0 w b2 b3 b4 dv kv mb ds t) (he : Ext w w') {rv : Value} {u : M.Tm} (hu : TermR (fun x => w.heap.size ≤ x) w' rv u) : TermR (fun x => (G x ∨ w0.heap.size ≤ x) ∧ x ≠ b4) w' rv u := hu.weaken fun x hx _ => ⟨.inr (by have := h.ext.size; omega), by have := h.r.lt; omega⟩
theorem rs_zero : TermR F w (.agg ⟨zeroT⟩) (.mk 0 0 0 M.nada []) := (leafR 0 0 0 _ : TmR F w _ _).term
end
theorem folder_sort_spec {dv tv : Value} {mb : Nat} {ds : List M.Dcl} {t : M.Tm} (hd : DclsR F w dv ds) (hm : KindsR w mb) (hok : M.declOk ds = true) (ht : TermR G w tv t) (hK : ∀ w', Ext w w' → K (.int .i64 (M.sortM ds t)) w') : vcall PP n_impl_folder_sort #[folderV dv mb, tv] w K := by
  apply c_impl_folder_sort; unfold F_impl_folder_sort
  obtain ⟨cs, rfl, hcs⟩ := ht.cells
  refine vbox_agg fun b1 w1 hb1 he1 hs1 h1 => ?_
  refine vbox_agg fun b2 w2 hb2 he2 hs2 h2 => ?_
  have q1 := h1.ext he2
  have hE := he1.trans he2
  simp (disch := (simp only [push_cast]; done)) only [push_cast, q1.ld0, q1.ld1]
  rw [h2.ldAgg (t := T_impl_Term) (by rw [tmR_len hcs]; exact g_impl_Term)]
  refine sortOf_spec t (hm.ext hE) (hd.ext hE) hok (hcs.ext hE).term fun w3 he3 => ?_
  exact hK _ (hE.trans he3)
theorem nn_fixed {t : M.Tm} {n : Int} (h : M.fixedM t = some n) : nnB t = true := by
  rcases M.fixed_cases h with ⟨rfl, _⟩ | ⟨rfl, _⟩ | ⟨h1, h2, _⟩
  · rfl
  · rfl
  · exact nnB_iff.2 ⟨by omega, fun k hk => by rw [h2] at hk; cases hk⟩
theorem fixed_spec {dv tv : Value} {mb : Nat} {ds : List M.Dcl} {t : M.Tm} (hd : DclsR F w dv ds) (hm : KindsR w mb) (hok : M.declOk ds = true) (ht : TermR G w tv t) (hs : M.sortM ds t ≠ -1) (hK : RuleK K w G (M.ruleX ds t)) : vcall PP n_impl_folder_fixed #[folderV dv mb, tv] w K := by
  apply c_impl_folder_fixed; unfold F_impl_folder_fixed
  have hks0 : TermR G w tv t := ht
  refine rs_enter (B := fun t2 t3 t4 w_3 => _) hd hm ht fun w1 b2 b3 b4 kv rs => ?_
  have no : ∀ w', RS G w w' b2 b3 b4 dv kv mb ds t → M.allFixed t = false → vstore PP T_impl_Term (ptr b4) (.agg ⟨zeroT⟩) w' fun _ w1 => vlv PP T_impl_Term (ptr b4) w1 fun r w2 => K (.tuple #[r, .bool false]) w2 := fun w' rs' h => by
    have e : M.ruleX ds t = none := by unfold M.ruleX; rw [h]; rfl
    rw [e] at hK
    exact rs_give rs' rs_zero fun w2 rv hE hr => hK w2 rv _ hE hr fun x hx => by cases hx
  refine vjoin_of (fun u w' => u = [] ∧ Ext w1 w' ∧ M.allFixed t = true) (fun C hC => ?_) ?_
  · simp (disch := (simp only [push_cast]; done)) only [push_cast, rs.q.ld4, rs.k.len]
    refine vif_dec (fun a => ?_) (fun a => ?_)
    · exact no _ rs (by unfold M.allFixed; rw [decide_eq_false (fun h => h (nil_len.1 a))]; rfl)
    · try simp (disch := (simp only [push_cast]; done)) only [push_cast, rs.q.ld4]
      apply c_slices_ContainsFunc_Limpl_Term_impl_Term; unfold F_slices_ContainsFunc_Limpl_Term_impl_Term
      apply c_slices_IndexFunc_Limpl_Term_impl_Term; unfold F_slices_IndexFunc_Limpl_Term_impl_Term
      have hsm := rs.k.small
      simp (disch := (simp only [push_cast]; done)) only [push_cast, rs.k.len]
      refine vloop_up t.ks.length (fun i u w' => u = [.int .i64 i] ∧ Ext w1 w' ∧ ∀ j, j < i → (M.fixedM (t.ks.getD j default)).isSome = true) ⟨rfl, Same.refl _ _, fun j hj => absurd hj (by omega)⟩ ?_
      rintro i _ _ w3 C hi ⟨rfl, he3, hall⟩ hC'
      have r3 := rs_ext rs he3
      simp only [push_cast]
      refine vif_dec (fun b => ?_) (fun b => ?_)
      · have hk3 := r3.k
        simp (disch := first | (simp only [push_cast]; done) | omega) only [push_cast, hk3.iaddr]
        refine hk3.load g_impl_Term (by omega) fun x hx => ?_
        simp only [push_cast, List.append_nil, List.nil_append]
        apply c_impl_folder_fixed_1; unfold F_impl_folder_fixed_1
        obtain ⟨cx, rfl, hcx⟩ := hx.cells
        refine vbox_agg fun b5 w5 hb5 he5 hs5 h5 => ?_
        rw [h5.ldAgg (t := T_impl_Term) (by rw [tmR_len hcx]; exact g_impl_Term)]
        refine TermFixed_spec (hcx.ext he5).term fun w6 he6 => ?_
        simp only [push_cast]
        have r6 := rs_ext r3 (he5.trans he6)
        refine vif_bool (fun c => ?_) (fun c => ?_)
        · try simp only [push_cast]
          rw [decide_eq_true (by omega)]
          refine no _ r6 ?_
          rw [Bool.not_eq_true'] at c
          unfold M.allFixed
          rw [Bool.and_eq_false_iff]
          right
          rw [List.all_eq_false]
          exact ⟨_, M.getD_mem (l := t.ks) (i := i) (by omega) default, by rw [c]; decide⟩
        · rw [Bool.not_eq_false'] at c
          rw [inc64' (by omega)]
          refine hC' (by omega) _ _ ⟨rfl, he3.trans (he5.trans he6), fun j hj => ?_⟩
          by_cases e : j < i
          · exact hall j e
          · have : j = i := by omega
            subst this; exact c
      · try simp only [push_cast]
        rw [decide_eq_false (by omega)]
        refine hC _ _ ⟨rfl, he3, ?_⟩
        unfold M.allFixed
        rw [Bool.and_eq_true, decide_eq_true_eq, List.all_eq_true]
        refine ⟨fun h => a (nil_len.2 h), fun k hk => ?_⟩
        obtain ⟨j, hj, rfl⟩ := List.getElem_of_mem hk
        have := hall j (by omega)
        rwa [List.getD_eq_getElem?_getD, List.getElem?_eq_getElem hj] at this
  rintro u g w2 ⟨rfl, he2, hall⟩
  have e : M.ruleX ds t = some (M.constM (M.sortM ds t) (M.evalM ds (M.zeroE ds) t)) := by unfold M.ruleX; rw [if_pos hall]
  rw [e] at hK
  have hnn : nnB t = true := by
    unfold M.allFixed at hall
    simp only [Bool.and_eq_true, decide_eq_true_eq, List.all_eq_true] at hall
    refine nnB_iff.2 ⟨fun h21 => ?_, fun k hk => ?_⟩
    · have := M.len_of hs
      rw [h21] at this
      have h0 : t.ks.length = 0 := by simp [M.arity] at this; omega
      exact hall.1 (List.eq_nil_of_length_eq_zero h0)
    · obtain ⟨n, hn⟩ := Option.isSome_iff_exists.1 (hall.2 k hk)
      exact nn_fixed hn
  refine vdraw_ext fun w3 he3 _ => ?_
  have r3 := rs_ext rs (he2.trans he3)
  have tm : ∀ {w'}, RS G w w' b2 b3 b4 dv kv mb ds t → TermR (fun x => G x ∧ x < w.heap.size) w' (.agg ⟨[.int .i64 t.op, .int .i64 t.a, .int .i64 t.b, .string t.s, kv]⟩) t := fun h => ⟨kv, rfl, h.k⟩
  simp (disch := (simp only [push_cast]; done)) only [push_cast, r3.f.ldAgg (t := T_impl_folder) g_impl_folder, r3.q.ldAgg (t := T_impl_Term) g_impl_Term, r3.f.ld0, r3.f.ld1, true_and]
  refine folder_sort_spec r3.d r3.m hok (tm r3) fun w4 he4 => ?_
  have r4 := rs_ext r3 he4
  simp (disch := (simp only [push_cast]; done)) only [push_cast, r4.q.ldAgg (t := T_impl_Term) g_impl_Term, r4.f.ld0, r4.f.ld1, true_and, and_self]
  refine valueOf_specG t r4.m r4.d (M.zeroE_ok hok) (.inr hnn) (tm r4) hs fun w5 he5 => ?_
  have r5 := rs_ext r4 he5
  simp only [push_cast, true_and]
  refine constant_spec fun w6 v6 he6 hv6 => ?_
  have r6 := rs_ext r5 he6
  exact rs_give r6 (rs_new r5 he6 hv6) fun w7 rv hE hr => hK w7 rv _ hE hr fun x hx => Option.some.inj hx
end Go.Proofs.YtcfgmgjofmbfhaaGreatDoor
end
section
namespace Go.Proofs.YtcfgmgjofmbfhaaGreatDoor
open Go Go.Vc Go.Proofs
variable {w : World} {K : Value → World → Prop} {F F' D G : Nat → Prop}
theorem rk_some {o : Option M.Tm} {u : M.Tm} (hK : RuleK K w G o) (e : o = some u) : ∀ w' rv, Ext w w' → TermR (fun x => G x ∨ w.heap.size ≤ x) w' rv u → K (.tuple #[rv, .bool true]) w' := fun w' rv hE hr => by
  subst e; exact hK w' rv u hE hr fun x hx => Option.some.inj hx
theorem rk_none {o : Option M.Tm} (hK : RuleK K w G o) (e : o = none) {u : M.Tm} : ∀ w' rv, Ext w w' → TermR (fun x => G x ∨ w.heap.size ≤ x) w' rv u → K (.tuple #[rv, .bool false]) w' := fun w' rv hE hr => by
  subst e; exact hK w' rv u hE hr fun x hx => by cases hx
theorem rk_if {o : Option M.Tm} {u : M.Tm} {b : Bool} (hK : RuleK K w G o) (e : o = if b = true then some u else none) : ∀ w' rv, Ext w w' → TermR (fun x => G x ∨ w.heap.size ≤ x) w' rv u → K (.tuple #[rv, .bool b]) w' := by
  cases b
  · exact rk_none hK (by rw [e]; rfl)
  · exact rk_some hK (by rw [e]; rfl)
theorem intsL {xs : List Int} (hsm : xs.length ≤ 100) (hK : ∀ w' v, Ext w w' → Ints (fun _ => True) w' v xs → K v w') : vbuildS PP T_Lint (xs.map fun x => Value.int .i64 x).length ((xs.map fun x => Value.int .i64 x).zipIdx.map fun p => (p.2, p.1)) w K := by
  refine vbuildS_row1 u_Lint z_int zr_int (fun x hx => by obtain ⟨y, _, rfl⟩ := List.mem_map.1 hx; rfl) (by rw [List.length_map]; omega) fun b w' hb he hs hB => ?_
  rw [List.length_map]
  have o : OwnI PP T_Lint w' (.slice (some ⟨b, 0, none⟩) xs.length xs.length) xs := Blk.own1 (P := PP) (t := T_Lint) (by rw [eo_Lint]; exact hB) (Nat.zero_le _) (by simp) (by simp) (by omega)
  exact hK w' _ he (o.ints.weaken fun _ _ _ => trivial)
theorem branches_spec {dv tv : Value} {mb : Nat} {ds : List M.Dcl} {t : M.Tm} (hd : DclsR F w dv ds) (hm : KindsR w mb) (hok : M.declOk ds = true) (ht : TermR G w tv t) (hs : M.sortM ds t ≠ -1) (hK : RuleK K w G (M.ruleB t)) : vcall PP n_impl_folder_branches #[folderV dv mb, tv] w K := by
  apply c_impl_folder_branches; unfold F_impl_folder_branches
  refine rs_enter (B := fun t2 t3 t4 w_3 => _) hd hm ht fun w1 b2 b3 b4 kv rs => ?_
  have hlen := M.len_of hs
  have l25 : t.op = 25 → t.ks.length = 1 := fun h => by rw [h] at hlen; simp [M.arity] at hlen; omega
  have l23 : t.op = 23 → t.ks.length = 3 := fun h => by rw [h] at hlen; simp [M.arity] at hlen; omega
  refine vjoin_of (fun u w' => u = [] ∧ Ext w1 w' ∧ t.op = 23 ∧ M.isM (M.kid t 0) 1 = false ∧ M.isM (M.kid t 0) 0 = false) (fun C hC => ?_) ?_
  · refine vjoin_of (fun u w' => ∃ b : Bool, u = [.bool b] ∧ w' = w1 ∧ (b = true ↔ t.op = 25 ∧ (M.kid t 0).op = 25)) (fun D hD => ?_) ?_
    · simp (disch := (simp only [push_cast]; done)) only [push_cast, rs.q.ld0]
      refine vif_dec (fun a => ?_) (fun a => ?_)
      · have := l25 a
        simp (disch := first | (simp only [push_cast]; done) | omega) only [push_cast, rs.q.ld4, rs.k.iaddr]
        rw [tms_op rs.k (by omega)]
        simp only [push_cast]
        exact hD _ _ ⟨_, rfl, rfl, by rw [decide_eq_true_eq]; exact ⟨fun h => ⟨a, h⟩, fun h => h.2⟩⟩
      · exact hD _ _ ⟨false, rfl, rfl, ⟨fun h => (by cases h), fun h => absurd h.1 a⟩⟩
    rintro u1 g1 w2 ⟨b, rfl, rfl, hb⟩
    simp only [push_cast]
    refine vif_bool (fun c => ?_) (fun c => ?_)
    · obtain ⟨o1, o2⟩ := hb.1 c
      have hl := l25 o1
      have k0 := M.good_kid hs (i := 0) (by omega)
      have hl2 : (M.kid t 0).ks.length = 1 := by have := M.len_of k0; rw [o2] at this; simp [M.arity] at this; omega
      simp (disch := first | (simp only [push_cast]; done) | omega) only [push_cast, rs.q.ld4, rs.k.iaddr]
      refine tms_kids rs.k (by omega) fun kv' hk' => ?_
      have hl2' : (t.ks.getD 0 default).ks.length = 1 := hl2
      simp (disch := first | (simp only [push_cast]; done) | omega) only [push_cast, hk'.iaddr]
      refine hk'.load g_impl_Term (by omega) fun x hx => ?_
      exact rs_give rs (rs_kid rs hx) (rk_some hK (by unfold M.ruleB; rw [if_pos ⟨o1, o2⟩]; rfl))
    have nb : ¬ (t.op = 25 ∧ (M.kid t 0).op = 25) := fun h => by have := hb.2 h; rw [c] at this; cases this
    simp (disch := (simp only [push_cast]; done)) only [push_cast, rs.q.ld0]
    refine vif_dec (fun a => ?_) (fun a => ?_)
    · try simp only [push_cast]
      exact rs_give rs rs_zero (rk_none hK (by unfold M.ruleB; rw [if_neg nb, if_pos a]))
    have o23 : t.op = 23 := by omega
    have hl := l23 o23
    simp (disch := first | (simp only [push_cast]; done) | omega) only [push_cast, rs.q.ld4, rs.k.iaddr]
    refine rs.k.load g_impl_Term (by omega) fun x hx => ?_
    refine is_spec hx fun w3 he3 => ?_
    have r3 := rs_ext rs he3
    simp (disch := first | (simp only [push_cast]; done) | omega) only [push_cast, r3.q.ld4, r3.k.iaddr]
    refine vif_bool (fun d => ?_) (fun d => ?_)
    · refine r3.k.load g_impl_Term (by omega) fun y hy => ?_
      exact rs_give r3 (rs_kid r3 hy) (rk_some hK (by unfold M.ruleB; rw [if_neg nb, if_neg a]; exact if_pos d))
    refine r3.k.load g_impl_Term (by omega) fun y hy => ?_
    refine is_spec hy fun w4 he4 => ?_
    have r4 := rs_ext r3 he4
    simp (disch := first | (simp only [push_cast]; done) | omega) only [push_cast, r4.q.ld4, r4.k.iaddr]
    refine vif_bool (fun e => ?_) (fun e => ?_)
    · refine r4.k.load g_impl_Term (by omega) fun z hz => ?_
      refine rs_give r4 (rs_kid r4 hz) (rk_some hK ?_)
      unfold M.ruleB
      rw [if_neg nb, if_neg a, if_neg (by rw [show M.isM (M.kid t 0) 1 = false from d]; decide)]
      exact if_pos e
    exact hC _ _ ⟨rfl, he3.trans he4, o23, d, e⟩
  rintro u g w2 ⟨rfl, he2, o23, i1, i0⟩
  have hl := l23 o23
  refine vdraw_ext fun w3 he3 _ => ?_
  have r3 := rs_ext rs (he2.trans he3)
  obtain ⟨css, hsl, hln, hc⟩ := r3.k
  simp (disch := first | (simp only [push_cast]; done) | omega) only [push_cast, r3.q.ld4, hsl.iaddr, hsl.ldAgg, true_and]
  refine TermSame_spec _ (hc 1 (by omega)).term (hc 2 (by omega)).term fun w4 he4 => ?_
  have r4 := rs_ext r3 he4
  have sl4 := hsl.ext he4
  simp (disch := first | (simp only [push_cast]; done) | omega) only [push_cast, r4.q.ld4, sl4.iaddr, sl4.ldAgg, true_and, and_self]
  refine chosen_spec ((hc 1 (by omega)).ext he4).term fun w5 v5 he5 hv5 => ?_
  have r5 := rs_ext r4 he5
  simp only [push_cast, true_and]
  refine rs_give r5 (rs_kid r5 hv5) (rk_if hK ?_)
  unfold M.ruleB
  rw [if_neg (by omega), if_neg (by omega), if_neg (by rw [i1]; decide), if_neg (by rw [i0]; decide)]
  simp only [decide_eq_true_eq]
  rfl
theorem layers_spec {dv tv : Value} {mb : Nat} {ds : List M.Dcl} {t : M.Tm} (hd : DclsR F w dv ds) (hm : KindsR w mb) (hok : M.declOk ds = true) (ht : TermR G w tv t) (hs : M.sortM ds t ≠ -1) (hK : RuleK K w G (M.ruleL ds t)) : vcall PP n_impl_folder_layers #[folderV dv mb, tv] w K := by
  apply c_impl_folder_layers; unfold F_impl_folder_layers
  refine rs_enter (B := fun t2 t3 t4 w_3 => _) hd hm ht fun w1 b2 b3 b4 kv rs => ?_
  have hlen := M.len_of hs
  simp (disch := (simp only [push_cast]; done)) only [push_cast, rs.q.ld0]
  refine vif_dec (fun a => ?_) (fun a => ?_)
  · have hl : t.ks.length = 1 := by rw [a] at hlen; simp [M.arity] at hlen; omega
    refine vdraw_ext fun w2 he2 _ => ?_
    have r2 := rs_ext rs he2
    obtain ⟨css, hsl, hln, hc⟩ := r2.k
    simp (disch := first | (simp only [push_cast]; done) | omega) only [push_cast, r2.q.ld1, r2.q.ld2, r2.q.ld4, r2.f.ldAgg (t := T_impl_folder) g_impl_folder, hsl.iaddr, hsl.ldAgg, true_and]
    refine vif_dec (fun b => ?_) (fun b => ?_)
    · refine folder_sort_spec r2.d r2.m hok (hc 0 (by omega)).term fun w3 he3 => ?_
      have r3 := rs_ext r2 he3
      have sl3 := hsl.ext he3
      have hw := M.sort_range hok (M.kid t 0)
      simp (disch := first | (simp only [push_cast]; done) | omega) only [push_cast, r3.q.ld1, r3.q.ld4, sl3.iaddr, sl3.ldAgg, true_and, and_self]
      rw [show t.ks.getD 0 default = M.kid t 0 from rfl, show IntKind.i64.wrap (M.sortM ds (M.kid t 0) - 1) = M.sortM ds (M.kid t 0) - 1 from wrap64 (by omega) (by omega)]
      refine chosen_spec ((hc 0 (by omega)).ext he3).term fun w5 v5 he5 hv5 => ?_
      have r5 := rs_ext r3 he5
      simp only [push_cast, true_and]
      refine rs_give r5 (rs_kid r5 hv5) (rk_if hK ?_)
      unfold M.ruleL
      rw [if_pos a]
      by_cases e : t.a = M.sortM ds (M.kid t 0) - 1
      · rw [if_pos ⟨b, e⟩, if_pos (decide_eq_true e)]; rfl
      · rw [if_neg (fun x => e x.2), if_neg (by rw [decide_eq_false e]; decide)]
    · refine chosen_spec (hc 0 (by omega)).term fun w5 v5 he5 hv5 => ?_
      have r5 := rs_ext r2 he5
      simp only [push_cast, true_and]
      refine rs_give r5 (rs_kid r5 hv5) (rk_if hK ?_)
      unfold M.ruleL
      rw [if_pos a, if_neg (fun x => b x.1)]; rfl
  have nothing : ¬ ((t.op = 1 ∨ t.op = 2) ∧ (M.kid t 0).op = t.op) → M.ruleL ds t = none := fun h => by unfold M.ruleL; rw [if_neg a, if_neg h]
  refine vjoin_of (fun u w' => ∃ b : Bool, u = [.bool b] ∧ w' = w1 ∧ (b = true ↔ t.op = 1 ∨ t.op = 2)) (fun D hD => ?_) ?_
  · try simp only [push_cast]
    refine vif_dec (fun b => ?_) (fun b => ?_)
    · exact hD _ _ ⟨_, rfl, rfl, by rw [decide_eq_true_eq]; exact ⟨.inl, fun h => by omega⟩⟩
    · exact hD _ _ ⟨_, rfl, rfl, by rw [decide_eq_true_eq]; exact ⟨.inr, fun h => by omega⟩⟩
  rintro u g w2 ⟨b, rfl, rfl, hb⟩
  simp only [push_cast]
  refine vif_bool (fun c => ?_) (fun c => ?_)
  · have o12 := hb.1 c
    have hl : t.ks.length = 1 := by rcases o12 with e | e <;> rw [e] at hlen <;> simp [M.arity] at hlen <;> omega
    refine vdraw_ext fun w3 he3 _ => ?_
    have r3 := rs_ext rs he3
    simp (disch := first | (simp only [push_cast]; done) | omega) only [push_cast, r3.q.ld0, r3.q.ld4, r3.k.iaddr, true_and]
    rw [tms_op r3.k (by omega)]
    simp (disch := first | (simp only [push_cast]; done) | omega) only [push_cast, r3.q.ld0, r3.q.ld4, r3.k.iaddr, true_and]
    refine vif_dec (fun e => ?_) (fun e => ?_)
    · have k0 := M.good_kid hs (i := 0) (by omega)
      have hl2 : (t.ks.getD 0 default).ks.length = 1 := by
        have := M.len_of k0
        rw [show (M.kid t 0).op = t.op from e] at this
        rcases o12 with o | o <;> rw [o] at this <;> simp [M.arity] at this <;> (unfold M.kid at this; omega)
      refine tms_kids r3.k (by omega) fun kv' hk' => ?_
      simp (disch := first | (simp only [push_cast]; done) | omega) only [push_cast, hk'.iaddr]
      refine hk'.load g_impl_Term (by omega) fun x hx => ?_
      exact rs_give r3 (rs_kid r3 hx) (rk_some hK (by unfold M.ruleL; rw [if_neg a]; exact if_pos ⟨o12, e⟩))
    · try simp only [push_cast]
      exact rs_give r3 rs_zero (rk_none hK (nothing fun h => e h.2))
  · have n12 : ¬ (t.op = 1 ∨ t.op = 2) := fun h => by have := hb.2 h; rw [c] at this; cases this
    try simp only [push_cast]
    exact rs_give rs rs_zero (rk_none hK (nothing fun h => n12 h.1))
theorem twins_spec {dv tv : Value} {mb : Nat} {ds : List M.Dcl} {t : M.Tm} (hd : DclsR F w dv ds) (hm : KindsR w mb) (hok : M.declOk ds = true) (ht : TermR G w tv t) (hs : M.sortM ds t ≠ -1) (hK : RuleK K w G (M.ruleW ds t)) : vcall PP n_impl_folder_twins #[folderV dv mb, tv] w K := by
  apply c_impl_folder_twins; unfold F_impl_folder_twins
  refine rs_enter (B := fun t2 t3 t4 w_3 => _) hd hm ht fun w1 b2 b3 b4 kv rs => ?_
  have no : ∀ w', RS G w w' b2 b3 b4 dv kv mb ds t → ¬ (t.ks.length = 2 ∧ M.kid t 0 = M.kid t 1) → vstore PP T_impl_Term (ptr b4) (.agg ⟨zeroT⟩) w' fun _ w1 => vlv PP T_impl_Term (ptr b4) w1 fun r w2 => K (.tuple #[r, .bool false]) w2 := fun w' rs' h =>
    rs_give rs' rs_zero (rk_none hK (by unfold M.ruleW; rw [if_neg h]))
  refine vjoin_of (fun u w' => u = [] ∧ Ext w1 w' ∧ t.ks.length = 2 ∧ M.kid t 0 = M.kid t 1) (fun C hC => ?_) ?_
  · refine vdraw_ext fun w2 he2 _ => ?_
    have r2 := rs_ext rs he2
    obtain ⟨css, hsl, hln, hc⟩ := r2.k
    simp (disch := first | (simp only [push_cast]; done) | omega) only [push_cast, r2.q.ld4, r2.k.len, true_and]
    refine vif_dec (fun a => ?_) (fun a => ?_)
    · try simp only [push_cast]
      exact no _ r2 fun h => a (by rw [h.1]; rfl)
    have h2 : t.ks.length = 2 := by omega
    simp (disch := first | (simp only [push_cast]; done) | omega) only [push_cast, r2.q.ld4, hsl.iaddr, hsl.ldAgg, true_and]
    refine TermSame_spec _ (hc 0 (by omega)).term (hc 1 (by omega)).term fun w4 he4 => ?_
    have r4 := rs_ext r2 he4
    simp only [push_cast, true_and]
    refine vif_bool (fun b => ?_) (fun b => ?_)
    · rw [Bool.not_eq_true', decide_eq_false_iff_not] at b
      try simp only [push_cast]
      exact no _ r4 fun h => b h.2
    · rw [Bool.not_eq_false', decide_eq_true_eq] at b
      exact hC _ _ ⟨rfl, he2.trans he4, h2, b⟩
  rintro u g w2 ⟨rfl, he2, h2, hk⟩
  have r2 := rs_ext rs he2
  have W : M.ruleW ds t = if t.op = 3 ∨ t.op = 4 then some (M.kid t 0) else if t.op = 5 ∨ t.op = 7 then some (M.constM (M.sortM ds t) 0) else if t.op = 15 then some (M.constM 0 1) else if t.op = 16 ∨ t.op = 17 then some (M.constM 0 0) else none := by
    unfold M.ruleW; rw [if_pos ⟨h2, hk⟩]
  simp (disch := (simp only [push_cast]; done)) only [push_cast, r2.q.ld0]
  refine vjoin_of (fun u w' => ∃ b : Bool, u = [.bool b] ∧ w' = w2 ∧ (b = true ↔ t.op = 3 ∨ t.op = 4)) (fun D hD => ?_) ?_
  · try simp only [push_cast]
    refine vif_dec (fun b => ?_) (fun b => ?_)
    · exact hD _ _ ⟨_, rfl, rfl, by rw [decide_eq_true_eq]; exact ⟨.inl, fun h => by omega⟩⟩
    · exact hD _ _ ⟨_, rfl, rfl, by rw [decide_eq_true_eq]; exact ⟨.inr, fun h => by omega⟩⟩
  rintro u1 g1 w2' ⟨b, rfl, rfl, hb⟩
  simp only [push_cast]
  refine vif_bool (fun c => ?_) (fun c => ?_)
  · simp (disch := first | (simp only [push_cast]; done) | omega) only [push_cast, r2.q.ld4, r2.k.iaddr]
    refine r2.k.load g_impl_Term (by omega) fun x hx => ?_
    exact rs_give r2 (rs_kid r2 hx) (rk_some hK (by rw [W, if_pos (hb.1 c)]; rfl))
  have n1 : ¬ (t.op = 3 ∨ t.op = 4) := fun h => by have := hb.2 h; rw [c] at this; cases this
  refine vjoin_of (fun u w' => ∃ b : Bool, u = [.bool b] ∧ w' = w2' ∧ (b = true ↔ t.op = 5 ∨ t.op = 7)) (fun D hD => ?_) ?_
  · try simp only [push_cast]
    refine vif_dec (fun b => ?_) (fun b => ?_)
    · exact hD _ _ ⟨_, rfl, rfl, by rw [decide_eq_true_eq]; exact ⟨.inl, fun h => by omega⟩⟩
    · exact hD _ _ ⟨_, rfl, rfl, by rw [decide_eq_true_eq]; exact ⟨.inr, fun h => by omega⟩⟩
  rintro u2 g2 w2'' ⟨b', rfl, rfl, hb'⟩
  simp only [push_cast]
  refine vif_bool (fun c' => ?_) (fun c' => ?_)
  · rw [r2.f.ldAgg (t := T_impl_folder) g_impl_folder, r2.q.ldAgg (t := T_impl_Term) g_impl_Term]
    refine folder_sort_spec r2.d r2.m hok ⟨kv, rfl, r2.k⟩ fun w3 he3 => ?_
    refine constant_spec fun w4 v4 he4 hv4 => ?_
    exact rs_give (rs_ext r2 (he3.trans he4)) (rs_new (rs_ext r2 he3) he4 hv4) (rk_some hK (by rw [W, if_neg n1, if_pos (hb'.1 c')]))
  have n2 : ¬ (t.op = 5 ∨ t.op = 7) := fun h => by have := hb'.2 h; rw [c'] at this; cases this
  try simp only [push_cast]
  refine vif_dec (fun e => ?_) (fun e => ?_)
  · refine constant_spec fun w4 v4 he4 hv4 => ?_
    exact rs_give (rs_ext r2 he4) (rs_new r2 he4 hv4) (rk_some hK (by rw [W, if_neg n1, if_neg n2, if_pos e]))
  by_cases h16 : t.op = 16
  · simp only [h16, decide_true, push_cast]
    refine constant_spec fun w4 v4 he4 hv4 => ?_
    exact rs_give (rs_ext r2 he4) (rs_new r2 he4 hv4) (rk_some hK (by rw [W, if_neg n1, if_neg n2, if_neg e, if_pos (.inl h16)]))
  · simp only [h16, decide_false, push_cast]
    refine vif_dec (fun f => ?_) (fun f => ?_)
    · refine constant_spec fun w4 v4 he4 hv4 => ?_
      exact rs_give (rs_ext r2 he4) (rs_new r2 he4 hv4) (rk_some hK (by rw [W, if_neg n1, if_neg n2, if_neg e, if_pos (.inr f)]))
    · try simp only [push_cast]
      exact rs_give r2 rs_zero (rk_none hK (by rw [W, if_neg n1, if_neg n2, if_neg e, if_neg (by omega)]))
end Go.Proofs.YtcfgmgjofmbfhaaGreatDoor
end
