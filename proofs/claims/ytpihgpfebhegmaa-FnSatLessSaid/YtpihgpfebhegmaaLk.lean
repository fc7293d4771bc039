/- Contracts of chapter 5: reading a state, whole. -/
import Derived.Test.YtpihgpfebhegmaaLj
set_option linter.unusedVariables false
set_option linter.unusedSimpArgs false
set_option linter.unnecessarySimpa false
set_option linter.unusedSectionVars false
namespace Go.Proofs.Ytpihgpfebhegmaa
open Go Go.Vc Go.Proofs Go.M
variable {w : World} {K : Value → World → Prop} {F Fr : Nat → Prop} {many bs : Nat} {c : Cnf} {s : Sat} {σ : SV}
theorem readSat_1_spec {v : Value} {xs : List Int} {b : Nat} {r : List Value} {t : TypeId} {m : Int} (hx : Ints F w v xs) (hb : Blk w b (.int .i64 m :: r) t) (h0 : 0 ≤ m) (h1 : m ≤ 9223372036854775807)
    (hK : K (.bool (!clauseOk m xs)) w) : vcall PP n_impl_readSat_1 #[v, .pointer (some ⟨b, 0, none⟩)] w K := by
  apply c_impl_readSat_1; unfold F_impl_readSat_1
  simp (disch := (simp only [push_cast]; done)) only [push_cast, hb.ld0]
  refine clauseOk_spec hx h0 h1 ?_
  simp only [push_cast]
  exact hK
theorem readSat_2_spec {vw : Value} {why : List Int} {b k : Nat} {x0 : Value} {r : List Value} {t : TypeId} (hw : Ints F w vw why) (hb : Blk w b (x0 :: vw :: r) t) (hk : k < why.length)
    (hK : K (.bool ((decs why).getD k false)) w) : vcall PP n_impl_readSat_2 #[.int .i64 k, .pointer (some ⟨b, 0, none⟩)] w K := by
  apply c_impl_readSat_2; unfold F_impl_readSat_2
  simp (disch := first | (simp only [push_cast]; done) | omega) only [push_cast, hb.ld1, hw.iaddr, hw.load]
  have : (decs why).getD k false = decide (why.getD k 0 = -1) := by simp [decs, List.getD_eq_getElem?_getD, hk]
  rwa [this] at hK
theorem TrailR.reframe {Fr' : Nat → Prop} {bt : Nat} {put : List Int} {ds : List Bool} {vp vpl vl : Value} (h : TrailR Fr w bt many put ds vp vpl vl) (hf : ∀ x, tfoot bt vp vpl vl x → ¬ Fr' x) : TrailR Fr' w bt many put ds vp vpl vl := by
  obtain ⟨hs, _⟩ := sep4.1 h.sep
  exact ⟨h.blk, h.rp, h.rpl, h.rl, sep4.2 ⟨hs, fun x e => hf x (.inl (Option.some.inj e).symm), fun x e => hf x (.inr (.inl e)), fun x e => hf x (.inr (.inr (.inl e))), fun x e => hf x (.inr (.inr (.inr e)))⟩, h.len, h.dis, h.bnd, h.few⟩
theorem readSat_spec {F' : Nat → Prop} {vc v : Value} (hc : CnfR F w vc c) (hv : SatR F' w v s) (hcm0 : many = c.many.toNat) (hc0 : -9223372036854775808 ≤ c.many) (hc1 : c.many ≤ 9223372036854775807)
    (hno : ¬ satOk many c s → ∀ w', Ext w w' → K (.tuple #[.pointer none, .bool false]) w')
    (hK : satOk many c s → ∀ Fr bs σ w', Ext w w' → SR Fr w' bs many c s σ → (∀ b, σ.foot bs b → w.heap.size ≤ b) → (∀ b, Fr b → b < w'.heap.size) → (∀ b, Fr b → F b ∨ w.heap.size ≤ b) → K (.tuple #[.pointer (some ⟨bs, 0, none⟩), .bool true]) w') :
    vcall PP n_impl_readSat #[vc, v] w K := by
  apply c_impl_readSat; unfold F_impl_readSat
  have hCR := hc
  obtain ⟨vlist, rfl, hl⟩ := hc
  obtain ⟨vp, vw, vl, rfl, hp, hw, hln⟩ := hv
  refine vbox_new fun b1 w1 hb1 he1 hz1 hB1 => ?_
  refine vbox_new fun b2 w2 hb2 he2 hz2 hB2 => ?_
  have E2 := he1.trans he2
  have A2 : Blk w2 b1 [.int .i64 c.many, vlist] T_impl_Cnf := hB1.ext he2
  have B2 : Blk w2 b2 [vp, vw, vl, .int .i64 s.code] T_impl_Sat := hB2
  refine vjoin_of (fun u w' => Ext w2 w' ∧ cnfOk c = true ∧ s.learned.length ≤ 300 ∧ 0 ≤ s.code ∧ s.code ≤ 3 ∧ s.put.length = s.why.length) ?_ ?_
  · intro C hC
    rw [A2.ldAgg g_impl_Cnf]
    refine CnfOk_spec (hCR.ext E2) (by omega) hc1 fun w3 he3 => ?_
    have E3 := E2.trans he3
    have B3 := B2.ext he3
    simp only [push_cast]
    refine vif_bool (fun a => ?_) (fun a => ?_)
    · exact hno (fun h => by rw [h.cnf] at a; cases a) w3 E3
    have a' : cnfOk c = true := by simpa using a
    obtain ⟨ls, hls, hlv, hli⟩ := hln.ext E3
    have hp3 := hp.ext E3
    have hw3 := hw.ext E3
    simp (disch := (simp only [push_cast]; done)) only [push_cast, B3.ld0, B3.ld1, B3.ld2, B3.ld3, hlv.len, hp3.len, hw3.len]
    refine vif_dec (fun a1 => hno (fun h => by have := h.few; omega) w3 E3) (fun a1 => ?_)
    refine vif_dec (fun a2 => hno (fun h => by have := h.c0; omega) w3 E3) (fun a2 => ?_)
    refine vif_dec (fun a3 => hno (fun h => by have := h.c3; omega) w3 E3) (fun a3 => ?_)
    refine vif_dec (fun a4 => hno (fun h => by have := h.len; omega) w3 E3) (fun a4 => ?_)
    exact hC _ _ ⟨he3, a', by omega, by omega, by omega, by omega⟩
  rintro _ _ w3 ⟨he3, hok, h300, hc0', hc3, hlen⟩
  have hcm : c.many = many := by
    have := hok
    unfold cnfOk at this
    simp only [Bool.and_eq_true, decide_eq_true_eq] at this
    omega
  have E3 := E2.trans he3
  have A3 := A2.ext he3
  have B3 := B2.ext he3
  have h700 : many ≤ 700 := by
    unfold cnfOk at hok
    simp only [Bool.and_eq_true, decide_eq_true_eq] at hok
    omega
  obtain ⟨ls, hls, hlv, hli⟩ := hln
  have hlv3 := hlv.ext E3
  simp (disch := (simp only [push_cast]; done)) only [push_cast, B3.ld2]
  refine ContainsFunc_LLint_Lint (p := fun i => !clauseOk c.many (s.learned.getD i [])) hlv3 (fun i hi w' K he hK' => ?_) fun w4 he4 => ?_
  · simp only [push_cast]
    exact readSat_1_spec ((hli i (by omega)).ext (E3.trans he)) (A3.ext he) (by omega) hc1 (hK' _ (Same.refl _ _))
  have hmany : c.many = (many : Int) := hcm
  have E4 := E3.trans he4
  have A4 := A3.ext he4
  have B4 := B3.ext he4
  have hall : ((List.range ls.length).any fun i => !clauseOk c.many (s.learned.getD i [])) = false ↔ ∀ x, x ∈ s.learned → clauseOk c.many x = true := by
    rw [List.any_eq_false]
    constructor
    · intro h x hx
      obtain ⟨i, hi, rfl⟩ := List.getElem_of_mem hx
      have := h i (List.mem_range.2 (by omega))
      simpa [List.getD_eq_getElem?_getD, hi] using this
    · intro h i hi
      have hi' := List.mem_range.1 hi
      have := h (s.learned.getD i []) (by rw [List.getD_eq_getElem?_getD, List.getElem?_eq_getElem (by omega)]; exact List.getElem_mem _)
      rw [this]; simp
  refine vif_bool (fun a => hno (fun h => by rw [hall.2 h.lrn] at a; cases a) w4 E4) (fun a => ?_)
  have hlrn := hall.1 a
  simp (disch := (simp only [push_cast]; done)) only [push_cast, A4.ld0, B4.ld0]
  rw [hmany]
  have hp4 := hp.ext E4
  have hsz4 := E4.size
  refine trailOk_spec (Fr := fun x => F x ∧ x < w.heap.size) (dd := decs s.why) hp4 h700 (by rw [decs_len]; omega) (fun k hk w' K he hK' => ?_) (fun x hx => by omega) (fun hm w5 he5 => ?_) (fun hm bt tp tpl tl w5 he5 ht5 hn5 => ?_)
  · simp only [push_cast]
    exact readSat_2_spec (hw.ext (E4.trans he)) (B4.ext he) (by omega) (hK' _ (Same.refl _ _))
  · simp only [push_cast, Bool.not_false]
    exact hno (fun h => hm h.mks) w5 (E4.trans he5)
  have E5 := E4.trans he5
  have A5 := A4.ext he5
  have B5 := B4.ext he5
  simp only [push_cast, Bool.not_true]
  refine vdraw_ext fun w6 he6 _ => ?_
  have E6 := E5.trans he6
  have A6 := A5.ext he6
  have B6 := B5.ext he6
  rw [A6.ldAgg g_impl_Cnf]
  have hll6 : Lists F' w6 vl s.learned := Lists.ext ⟨ls, hls, hlv, hli⟩ E6
  simp (disch := (simp only [push_cast]; done)) only [push_cast, B6.ld1, B6.ld2, B6.ld3, true_and]
  refine Clone_Lint (hw.ext E6) (by have := TrailR.few' ht5; have := ht5.few; omega) fun w7 vw7 he7 hw7 hwf7 => ?_
  have E7 := E6.trans he7
  have A7 := A6.ext he7
  have B7 := B6.ext he7
  rw [A7.ldAgg g_impl_Cnf]
  simp (disch := (simp only [push_cast]; done)) only [push_cast, B7.ld2, B7.ld3, true_and, and_self]
  refine copyLists_spec (hll6.ext he7) (by omega) (fun x hx => ?_) fun w8 vr vs he8 hr8 hvs hvi hrf => ?_
  · have hx' := hlrn x hx
    rw [hmany] at hx'
    have := clauseOk_len hx'
    omega
  have E8 := E7.trans he8
  have A8 := A7.ext he8
  have B8 := B7.ext he8
  rw [A8.ldAgg g_impl_Cnf]
  simp (disch := (simp only [push_cast]; done)) only [push_cast, B8.ld3, true_and, and_self]
  refine vbuild_str b_impl_search (us := [[.int .i64 c.many, vlist], [.pointer (some ⟨bt, 0, none⟩)], [vw7], [vr], [.int .i64 s.code]]) ?_ rfl ?_
  · simp only [List.map_cons, List.map_nil, hw7.ints.cells1, hr8.vals.cells1]; rfl
  simp only [true_and]
  refine vbox_new fun bs w9 hbs he9 hz9 hB9 => ?_
  have E9 := E8.trans he9
  have hz6 := E6.size
  have hz7 := he7.size
  have hz8 := he8.size
  have hz5 := he5.size
  have hz65 := he6.size
  have htl : ∀ x, tfoot bt tp tpl tl x → x < w5.heap.size := by
    rintro x (rfl | e | e | e)
    · exact ht5.blk.lt
    · exact ht5.rp.lt e
    · exact ht5.rpl.lt e
    · exact ht5.rl.lt e
  have hSR : SR (fun x => (F x ∧ x < w.heap.size) ∨ (w7.heap.size ≤ x ∧ x < w8.heap.size ∧ vr.ownBlock ≠ some x)) w9 bs many c s ⟨vlist, bt, tp, tpl, tl, vw7, vr, vs⟩ := by
    have hwl : ∀ {x : Nat}, vw7.ownBlock = some x → x < w7.heap.size := fun e => hw7.lt e
    have hrl : ∀ {x : Nat}, vr.ownBlock = some x → x < w8.heap.size := fun e => hr8.lt e
    refine ⟨by rw [hmany] at hB9; exact hB9, hcm, ?_, ?_, ?_, hr8.ext he9, hvs, fun i hi => ?_, ?_, ?_, ?_, ?_, ?_⟩
    · exact (hl.weaken fun x hx hlt => .inl ⟨hx, hlt⟩).ext E9
    · refine TrailR.reframe ((((ht5.ext he6).ext he7).ext he8).ext he9) fun x hx hF => ?_
      have := hn5 x hx
      have := htl x hx
      rcases hF with hF | hF <;> omega
    · exact (hw7.ext he8).ext he9
    · exact ((hvi i hi).weaken fun x hx hlt => .inr ⟨hx.1, hlt, hx.2⟩).ext he9
    · intro x hx; have := hwl hx; omega
    · intro x hx; have := hrl hx; omega
    · intro x hx e; have := hwl hx; have := hrf x e; omega
    · rintro x (e | e | e) ht
      · have := htl x ht; omega
      · have := htl x ht; have := hwf7 x e; omega
      · have := htl x ht; have := hrf x e; omega
    · rintro x (e | e | e) hF
      · rcases hF with hF | hF <;> omega
      · have := hwl e; have := hwf7 x e
        rcases hF with hF | hF <;> omega
      · have := hrf x e
        rcases hF with hF | hF
        · omega
        · exact hF.2.2 e
  have hfoot : ∀ x, (SV.mk vlist bt tp tpl tl vw7 vr vs).foot bs x → w.heap.size ≤ x := by
    rintro x (e | e | e | e)
    · have := hn5 x e; omega
    · omega
    · have := hwf7 x e; omega
    · have := hrf x e; omega
  generalize hFr : (fun x => (F x ∧ x < w.heap.size) ∨ (w7.heap.size ≤ x ∧ x < w8.heap.size ∧ vr.ownBlock ≠ some x)) = Fr at hSR
  have hFr1 : ∀ x, Fr x → x < w9.heap.size := by subst hFr; rintro x (h | h) <;> omega
  have hFr2 : ∀ x, Fr x → F x ∨ w.heap.size ≤ x := by
    subst hFr
    rintro x (h | h)
    · exact .inl h.1
    · exact .inr (by omega)
  have hws : s.why.length ≤ 700 := by have := TrailR.few' ht5; omega
  have hc25 : c.list.length ≤ 2500 := by
    unfold cnfOk at hok
    simp only [Bool.and_eq_true, decide_eq_true_eq] at hok
    omega
  have hcok : ∀ x, x ∈ c.list → clauseOk c.many x = true := fun x hx => by
    unfold cnfOk at hok
    rw [Bool.and_eq_true] at hok
    obtain ⟨i, hi, rfl⟩ := List.getElem_of_mem hx
    have := allI_iff.1 hok.2 i hi
    simpa [List.getD_eq_getElem?_getD, hi] using this
  have hall2 : ∀ k, k < c.list.length + s.learned.length → ∀ l, l ∈ atM c s k → l.natAbs ≤ many := fun k hk l hl' => by
    have hm' : atM c s k ∈ c.list ++ s.learned := by
      unfold atM; rw [List.getD_eq_getElem?_getD, List.getElem?_eq_getElem (by rw [List.length_append]; omega)]; exact List.getElem_mem _
    have := (List.mem_append.1 hm').elim (hcok _) (hlrn _)
    have := clauseOk_lit this hl'
    omega
  have B9 := B8.ext he9
  have hw9 := hw.ext E9
  simp (disch := (simp only [push_cast]; done)) only [push_cast, B9.ld1, hw9.len]
  refine vloop_up s.why.length (fun i u w' => u = [.int .i64 i] ∧ Ext w9 w' ∧ ∀ k, k < i → whyOk c s k) ⟨rfl, Same.refl _ _, by omega⟩ ?_
  rintro i _ _ w10 C hi ⟨rfl, he10, hdone⟩ hC
  have E10 := E9.trans he10
  simp only [push_cast]
  have hbad : ∀ w', Ext w10 w' → i < s.why.length → ¬ whyOk c s i → K (.tuple #[.pointer none, .bool false]) w' := fun w' he hlt hb => hno (fun h => hb (h.why i hlt)) w' (E10.trans he)
  have hgood : ∀ w', Ext w10 w' → i < s.why.length → whyOk c s i → C [.int .i64 ((i : Int) + 1)] w' := fun w' he hlt hb => hC hlt _ _ ⟨by simp, he10.trans he, fun k hk => by
    by_cases e : k = i
    · subst e; exact hb
    · exact hdone k (by omega)⟩
  refine vif_dec (fun a => ?_) (fun a => ?_)
  · have hw10 := hw.ext E10
    have hlt : i < s.why.length := by omega
    simp (disch := first | (simp only [push_cast]; done) | omega) only [push_cast, hw10.iaddr, hw10.load]
    refine vif_dec (fun b => ?_) (fun b => ?_)
    · simp (disch := omega) only [push_cast, wrap64]
      exact hgood w10 (Same.refl _ _) hlt (.inl b)
    refine vif_dec (fun b2 => hbad w10 (Same.refl _ _) hlt (fun h => by rcases h with h | ⟨h, _⟩ <;> omega)) (fun b2 => ?_)
    have A10 := (A8.ext he9).ext he10
    have B10 := B9.ext he10
    obtain ⟨cl, hcl, hclv, _⟩ := hl.ext E10
    have hlv10 := hlv.ext E10
    simp (disch := first | (simp only [push_cast]; done) | omega) only [push_cast, A10.ld1, B10.ld2, hclv.len, hlv10.len, wrap64]
    refine vif_dec (fun b3 => hbad w10 (Same.refl _ _) hlt (fun h => by rcases h with h | ⟨_, h, _⟩ <;> omega)) (fun b3 => ?_)
    obtain ⟨y, hy⟩ : ∃ y : Nat, s.why.getD i 0 = y := ⟨(s.why.getD i 0).toNat, by omega⟩
    have hyk : y < c.list.length + s.learned.length := by omega
    rw [hy]
    have hS10 := hSR.ext he10
    refine clause_spec hS10 hyk (by omega) fun v' w11 he11 hcv' => ?_
    refine implies_spec (hS10.tr.ext he11) hcv' (by omega) (hall2 y hyk) fun w12 he12 => ?_
    simp only [push_cast]
    refine vif_bool (fun b4 => ?_) (fun b4 => ?_)
    · refine hbad w12 (he11.trans he12) hlt fun h => ?_
      rcases h with h | ⟨_, _, h⟩
      · omega
      · rw [hy, Int.toNat_natCast] at h
        rw [h] at b4; cases b4
    · refine hgood w12 (he11.trans he12) hlt (.inr ⟨by omega, by omega, ?_⟩)
      rw [hy, Int.toNat_natCast]
      simpa using b4
  · refine hK ⟨hok, h300, hc0', hc3, hlen, hlrn, hm, fun k hk => hdone k (by omega)⟩ Fr bs _ w10 E10 (hSR.ext he10) hfoot (fun x hx => ?_) hFr2
    have := hFr1 x hx
    have := he10.size
    omega
end Go.Proofs.Ytpihgpfebhegmaa
