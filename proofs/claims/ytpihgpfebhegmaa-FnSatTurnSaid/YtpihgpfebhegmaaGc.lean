/- The law FnSatTurn: the order of clauses does not change the answer. -/
import Derived.Test.YtpihgpfebhegmaaGb
import Derived.Test.YtpihgpfebhegmaaM11
set_option linter.unusedVariables false
set_option linter.unusedSimpArgs false
set_option linter.unnecessarySimpa false
set_option linter.unusedSectionVars false
namespace Go.Proofs.Ytpihgpfebhegmaa
open Go Go.Vc Go.Proofs Go.M
variable {w : World} {K : Value → World → Prop} {F Fr F' : Nat → Prop} {c : Cnf} {s : Sat}
theorem cnfOk_iff : cnfOk c = true ↔ 0 ≤ c.many ∧ c.many ≤ 700 ∧ c.list.length ≤ 2500 ∧ ∀ x, x ∈ c.list → clauseOk c.many x = true := by
  constructor
  · intro h
    have h2 := fun x hx => cnfOk_clause h (x := x) hx
    unfold cnfOk at h
    simp only [Bool.and_eq_true, decide_eq_true_eq] at h
    exact ⟨h.1.1.1, h.1.1.2, h.1.2, h2⟩
  · rintro ⟨a, b, d, e⟩
    unfold cnfOk
    simp only [Bool.and_eq_true, decide_eq_true_eq]
    exact ⟨⟨⟨a, b⟩, d⟩, allI_iff.2 fun k hk => e _ (by rw [List.getD_eq_getElem?_getD, List.getElem?_eq_getElem hk]; exact List.getElem_mem hk)⟩
theorem runA_fair (hok : cnfOk c = true) (n : Nat) : FairS c.many.toNat c (runM c.many.toNat c n emptyS) := run_fair (cnfOk_many hok) (empty_fair hok)
theorem valsM_way {many : Nat} {a b : List Int} (h : ∀ u, 1 ≤ u → u ≤ many → wayM a u = wayM b u) : valsM many a = valsM many b := by
  unfold valsM
  refine List.map_congr_left fun j hj => ?_
  rw [List.mem_range] at hj
  exact h (j + 1) (by omega) (by omega)
theorem least_eq {many : Nat} {c d : Cnf} {a b : Nat → Bool} (hcd : ∀ x, x ∈ c.list ↔ x ∈ d.list) (ha : Least many c a) (hb : Least many d b) : ∀ u, 1 ≤ u → u ≤ many → a u = b u :=
  LexLe.antisymm (ha.2 b fun x hx => hb.1 x ((hcd x).1 hx)) (hb.2 a fun x hx => ha.1 x ((hcd x).2 hx))
theorem run_eqb (x y : Bool) : (Op.equal T_bool (.bool x) (.bool y)).run PP w = .ok (x == y) w := by
  have hu : PP.underlying T_bool = some .bool := by kernel_rfl
  have : ∀ d, (Op.equalIn (d + 1) T_bool (.bool x) (.bool y)).run PP w = .ok (x == y) w := fun d => by
    rw [Op.equalIn, Sem.run_bind, run_underlying hu]; rfl
  exact this 9999
@[push_cast] theorem vbin_neb (b : Bool) (x y : Bool) : vbin PP .neq T_bool b (.bool x) (.bool y) w K = K (.bool (x != y)) w :=
  vbin_run rfl (by simp [binOp, run_eqb, Result.andThen, bne])
theorem wpBools_spec {va vb : Value} {a b : List Bool} (ha : Bools F w va a) (hb : Bools F' w vb b) (hK : ∀ w', Ext w w' → K (.bool (decide (a = b))) w') : vcall PP n_laws_wpBools #[va, vb] w K := by
  apply c_laws_wpBools; unfold F_laws_wpBools
  have hla : a.length ≤ 9223372036854775807 := by obtain ⟨_, _, _, h1, h2, _⟩ := ha.shape; simp at h1; omega
  simp (disch := (simp only [push_cast]; done)) only [push_cast, ha.len, hb.len]
  refine vif_dec (fun h => ?_) (fun h => ?_)
  · have := hK w (Same.refl _ _)
    rwa [decide_eq_false (fun e => h (by rw [e]))] at this
  refine vloop_up a.length (fun i u w' => u = [.int .i64 i] ∧ Ext w w' ∧ ∀ j, j < i → a.getD j false = b.getD j false) ⟨rfl, Same.refl _ _, by omega⟩ ?_
  rintro i _ _ w1 C hi ⟨rfl, he, hp⟩ hC
  have ha1 := ha.ext he
  have hb1 := hb.ext he
  simp (disch := (simp only [push_cast]; done)) only [push_cast, ha1.len]
  refine vif_dec (fun h2 => ?_) (fun h2 => ?_)
  · refine vdraw_ext fun w2 he2 _ => ?_
    have ha2 := ha1.ext he2
    have hb2 := hb1.ext he2
    simp (disch := first | (simp only [push_cast]; done) | omega) only [push_cast, ha2.iaddr, ha2.load, hb2.iaddr, hb2.load, true_and]
    refine vif_bool (fun h3 => ?_) (fun h3 => ?_)
    · have := hK w2 (he.trans he2)
      rwa [decide_eq_false (fun e => by subst e; simp at h3)] at this
    · rw [inc64 (by omega)]
      refine hC (by omega) _ _ ⟨rfl, he.trans he2, fun j hj => ?_⟩
      by_cases e : j = i
      · subst e; simpa using h3
      · exact hp j (by omega)
  · have := hK w1 he
    have e : a = b := List.ext_getElem (by omega) fun j h1 h2 => by have := hp j (by omega); simpa [List.getD_eq_getElem?_getD, h1, h2] using this
    rwa [decide_eq_true e] at this
set_option maxRecDepth 20000 in
theorem FnSatTurn_spec {v : Value} {xs : List Nat} (hx : Bytes F w v xs) (hK : ∀ w', Ext w w' → K (.bool true) w') : vcall PP n_laws_FnSatTurn #[v] w K := by
  apply c_laws_FnSatTurn; unfold F_laws_FnSatTurn
  simp (disch := (simp only [push_cast]; done)) only [push_cast, hx.len]
  refine vif_dec (fun _ => hK w (Same.refl _ _)) (fun _ => ?_)
  refine front hx fun w1 b3 b5 c fuel lv p y l h1 => ?_
  refine vjoin_of (fun _ w' => LawS w w' b3 b5 c fuel lv p y l ∧ (runA c fuel).code ≠ 4) ?_ ?_
  · intro J hJ
    refine vdraw_ext fun w2 he2 _ => ?_
    have h2 := h1.ext he2
    simp (disch := (simp only [push_cast]; done)) only [push_cast, h2.A.ldAgg g_impl_Sat, h2.B.ldAgg g_impl_Cnf, true_and]
    refine specSatRun_spec h2.hc rfl h2.m0 h2.m1 fun w3 v3 he3 hv3 => ?_
    have h3 := h2.ext he3
    simp (disch := (simp only [push_cast]; done)) only [push_cast, h3.A.ldAgg g_impl_Sat, true_and, and_self]
    refine SatSame_spec h3.hv hv3 fun w4 he4 => ?_
    have h4 := h3.ext he4
    rw [show satEq (runA c fuel) (if cnfOk c = true ∧ 0 ≤ fuel ∧ fuel ≤ 4000 then runM c.many.toNat c fuel.toNat emptyS else formS) = true from satEq_self _]
    simp (disch := (simp only [push_cast]; done)) only [push_cast, Bool.not_true, true_and, h4.A.ld3]
    refine vif_dec (fun a => ?_) (fun a => hJ _ _ ⟨h4, a⟩)
    refine vdraw_ext fun w5 he5 _ => ?_
    have h5 := h4.ext he5
    simp (disch := (simp only [push_cast]; done)) only [push_cast, h5.A.ldAgg g_impl_Sat, h5.B.ldAgg g_impl_Cnf, true_and]
    refine specSatRun_spec h5.hc rfl h5.m0 h5.m1 fun w6 v6 he6 hv6 => ?_
    have h6 := h5.ext he6
    simp (disch := (simp only [push_cast]; done)) only [push_cast, h6.A.ldAgg g_impl_Sat, true_and, and_self]
    refine SatSame_spec h6.hv hv6 fun w7 he7 => ?_
    rw [show satEq (runA c fuel) (if cnfOk c = true ∧ 0 ≤ fuel ∧ fuel ≤ 4000 then runM c.many.toNat c fuel.toNat emptyS else formS) = true from satEq_self _]
    exact hK w7 (h6.E.trans he7)
  rintro _ _ w2 ⟨h2, hcode⟩
  obtain ⟨n, rfl, hn, hok, hrun⟩ := runA_yes hcode
  have hfx := runA_fair hok n
  rw [← hrun] at hfx
  simp (disch := (simp only [push_cast]; done)) only [push_cast, h2.B.ld0]
  refine vbuild_str b_impl_Cnf (us := [[.int .i64 c.many]]) rfl rfl ?_
  refine valloc_new zr_impl_Cnf fun b6 w3 hb6 he3 hz3 hB3 => ?_
  refine (show Blk w3 b6 [.int .i64 0, .slice none 0 0] T_impl_Cnf from hB3).stAgg (cs' := [.int .i64 c.many, .slice none 0 0]) rfl g_impl_Cnf (fun x hx => by simp only [List.mem_cons, List.not_mem_nil, or_false] at hx; rcases hx with rfl | rfl <;> rfl) fun w4 hs4 hz4 hB4 => ?_
  have E4 : Ext w2 w4 := Ext.then he3 hs4 fun x hx => by omega
  obtain ⟨lq, hlq, es, hes, hev, hei⟩ := h2.hc
  obtain rfl : lv = lq := by simpa using hlq
  have h4 := h2.ext E4
  have hev4 := hev.ext E4
  simp (disch := (simp only [push_cast]; done)) only [push_cast, h4.B.ld1, hev4.len]
  have hfew := h2.few
  generalize hN : c.list.length = N at *
  rw [hes]
  have hzE := E4.size
  have hes1 : ∀ i, i < N → (es.getD i undef).oneCell' = true ∧ (es.getD i undef).cells = #[es.getD i undef] := fun i hi => ⟨(hei i (by omega)).one, (hei i (by omega)).cells1⟩
  rw [wrap64 (by omega) (by omega)]
  refine vloop_up N (fun i u w' => ∃ lr, u = [.int .i64 ((N : Int) - 1 - (i : Int))] ∧ Ext w2 w' ∧ Blk w' b6 [.int .i64 c.many, lr] T_impl_Cnf ∧ OwnV PP T_LLint w' lr (es.reverse.take i) ∧ ∀ x, lr.ownBlock = some x → w2.heap.size ≤ x ∧ x ≠ b6)
    ⟨.slice none 0 0, by simp, E4, hB4, by rw [List.take_zero]; exact OwnV.nil, fun x hx => by cases hx⟩ ?_
  rintro i _ _ w5 C hi ⟨lr, rfl, he5, hB5, hV5, hn5⟩ hC
  simp only [sl0, vbin_geq]
  have hz5 := he5.size
  refine vif_dec (fun a => ?_) (fun a => ?_)
  · refine vdraw_ext fun w6 he6 _ => ?_
    have E6 := he5.trans he6
    have h6 := h2.ext E6
    have B6 := hB5.ext he6
    have V6 := hV5.ext he6
    have hev6 := hev.ext E6
    have hz6 := he6.size
    obtain ⟨q, hq⟩ : ∃ q, q = N - 1 - i := ⟨_, rfl⟩
    rw [show (N : Int) - 1 - (i : Int) = (q : Int) by omega]
    obtain ⟨o1, o2⟩ := hes1 q (by omega)
    simp (disch := first | (simp only [push_cast]; done) | omega) only [push_cast, h6.B.ld1, B6.ld1, hev6.iaddr, hev6.load, true_and]
    refine vbuildS_one u_LLint z_Lint zr_Lint rfl o2 fun b7 w7 hb7 he7 hz7 hB7 => ?_
    have B7 := B6.ext he7
    have lb6 := hB5.lt
    simp (disch := first | (simp only [push_cast]; done) | omega) only [push_cast, B7.ld1, and_self, true_and]
    have hlt : (es.reverse.take i).length = i := by rw [List.length_take, List.length_reverse]; omega
    refine OwnV.app1 (V6.ext he7) l_LLint hB7 o1 (by omega) (by omega) fun v8 w8 hv8 hs8 hn8 => ?_
    have B8 := B7.same hs8 fun e => (hn5 _ e).2 rfl
    refine B8.st hv8.vals.cells1 hv8.vals.one z_LLint rfl fun w9 hs9 hz9 hB9 => ?_
    have hn8' : ∀ x, v8.ownBlock = some x → w2.heap.size ≤ x ∧ x ≠ b6 := fun x hx => by
      rcases hn8 x hx with e | e
      · exact hn5 x e
      · omega
    have hz8 := hs8.size
    have E9 : Ext w2 w9 := Ext.then (E6.trans he7) ((hs8.mono fun x _ e => .inl e).trans (hs9.mono fun x _ e => .inr e) : Same (fun x => lr.ownBlock = some x ∨ x = b6) w7 w9) fun x h => h.elim (fun e => by have := hn5 x e; omega) fun e => by omega
    rw [wrap64 (by omega) (by omega)]
    refine hC (by omega) _ _ ⟨v8, by rw [show (q : Int) - 1 = (N : Int) - 1 - ((i + 1 : Nat) : Int) by omega], E9, hB9, ?_, hn8'⟩
    have hv9 := hv8.same hs9 fun x hx e => (hn8' x hx).2 e
    have : es.reverse.take (i + 1) = es.reverse.take i ++ [es.getD q undef] := by
      rw [List.take_add_one, List.getElem?_reverse (by omega), hes, ← hq, List.getD_eq_getElem?_getD, List.getElem?_eq_getElem (by omega)]
      rfl
    rw [this]; exact hv9
  have hiN : i = N := by omega
  subst hiN
  rw [List.take_of_length_le (by rw [List.length_reverse]; omega)] at hV5
  have hd5 : CnfR (fun x => w.heap.size ≤ x) w5 (.agg #[.int .i64 c.many, lr]) ⟨c.many, c.list.reverse⟩ := by
    have hzw := h2.E.size
    refine ⟨lr, rfl, es.reverse, by simp [hes, hN], hV5.vals.weaken fun x hx _ => by have := hn5 x hx; omega, fun j hj => ?_⟩
    simp only [List.length_reverse, hN] at hj
    have e1 : es.reverse.getD j undef = es.getD (i - 1 - j) undef := by
      rw [List.getD_eq_getElem?_getD, List.getD_eq_getElem?_getD, List.getElem?_reverse (by omega), hes]
    have e2 : c.list.reverse.getD j [] = c.list.getD (i - 1 - j) [] := by
      rw [List.getD_eq_getElem?_getD, List.getD_eq_getElem?_getD, List.getElem?_reverse (by omega), hN]
    simp only [e1, e2]
    exact ((hei (i - 1 - j) (by omega)).ext he5).weaken fun x hx _ => hx.1
  have hokd : cnfOk ⟨c.many, c.list.reverse⟩ = true := by
    obtain ⟨q1, q2, q3, q4⟩ := cnfOk_iff.1 hok
    exact cnfOk_iff.2 ⟨q1, q2, by simpa using q3, fun x hx => q4 x (by simpa using hx)⟩
  rw [hB5.ldAgg g_impl_Cnf]
  refine SatRun_spec hd5 rfl h2.m0 h2.m1 fun w6 v6 he6 hv6 => ?_
  rw [if_pos ⟨hokd, by omega, by omega⟩, Int.toNat_natCast] at hv6
  have hfy := runA_fair hokd n
  simp only at hv6 hfy
  generalize runM c.many.toNat ⟨c.many, c.list.reverse⟩ n emptyS = Y at hv6 hfy
  refine valloc_new zr_impl_Sat fun b8 w7 hb8 he7 hz7 hB7 => ?_
  have hv6' : SatR (fun x => x ≠ b8) w6 v6 Y := hv6.weaken fun x _ h2 => by omega
  obtain ⟨p', y', l', rfl, hone⟩ := hv6'.fields
  refine (show Blk w7 b8 [.slice none 0 0, .slice none 0 0, .slice none 0 0, .int .i64 0] T_impl_Sat from hB7).stAgg (cs' := [p', y', l', .int .i64 Y.code]) rfl g_impl_Sat hone fun w8 hs8 hz8 hB8 => ?_
  have E58 : Ext w5 w8 := Ext.then (he6.trans he7) hs8 fun x hx => by have := he6.size; omega
  have h8 := h2.ext (he5.trans E58)
  have hv8 := (hv6'.ext he7).same hs8 fun x hx _ e => hx e
  have B8 := hB5.ext E58
  have hd8 := hd5.ext E58
  have hsame : ∀ x, x ∈ c.list ↔ x ∈ (⟨c.many, c.list.reverse⟩ : Cnf).list := fun x => by simp
  refine vjoin_of (fun _ w' => Ext w8 w' ∧ (runA c n).code ≠ 0 ∧ (runA c n).code ≠ 3 ∧ Y.code ≠ 0 ∧ Y.code ≠ 3) ?_ ?_
  · intro J hJ
    simp (disch := (simp only [push_cast]; done)) only [push_cast, h8.A.ld3, hB8.ld3]
    exact vif_dec (fun _ => hK _ h8.E) fun a => vif_dec (fun _ => hK _ h8.E) fun b => vif_dec (fun _ => hK _ h8.E) fun d => vif_dec (fun _ => hK _ h8.E) fun e => hJ _ _ ⟨Same.refl _ _, a, d, b, e⟩
  rintro _ _ w9 ⟨he9, c1, c2, c3, c4⟩
  have hc0 := hfx.ok.c0
  have hc3 := hfx.ok.c3
  have hy0 := hfy.ok.c0
  have hy3 := hfy.ok.c3
  have hcm := cnfOk_many hok
  have hcode2 : (runA c n).code = Y.code := by
    have : (runA c n).code = 1 ∨ (runA c n).code = 2 := by omega
    have : Y.code = 1 ∨ Y.code = 2 := by omega
    rcases ‹(runA c n).code = 1 ∨ (runA c n).code = 2› with a | a <;> rcases this with b | b
    · omega
    · exact absurd (fun x hx => hfx.model hcm a x ((hsame x).2 hx)) (hfy.no b _)
    · exact absurd (fun x hx => hfy.model hcm b x ((hsame x).1 hx)) (hfx.no a _)
    · omega
  refine vdraw_ext fun w10 he10 _ => ?_
  have h10 := h8.ext (he9.trans he10)
  have B10 := B8.ext (he9.trans he10)
  have A10 := hB8.ext (he9.trans he10)
  have hd10 := hd8.ext (he9.trans he10)
  have hv10 := hv8.ext (he9.trans he10)
  simp (disch := (simp only [push_cast]; done)) only [push_cast, h10.A.ld3, A10.ld3, true_and]
  refine vif_dec (fun _ => ?_) (fun a => absurd hcode2 a)
  refine vif_dec (fun _ => hK _ h10.E) (fun a2 => ?_)
  have x1 : (runA c n).code = 1 := by omega
  have y1 : Y.code = 1 := by omega
  simp (disch := (simp only [push_cast]; done)) only [push_cast, h10.B.ldAgg g_impl_Cnf, h10.A.ldAgg g_impl_Sat, B10.ldAgg g_impl_Cnf, A10.ldAgg g_impl_Sat, true_and]
  refine SatVals_spec h10.hc h10.hv rfl h10.m0 h10.m1 fun w11 va he11 hva _ => ?_
  have B11 := B10.ext he11
  have A11 := A10.ext he11
  simp (disch := (simp only [push_cast]; done)) only [push_cast, B11.ldAgg g_impl_Cnf, A11.ldAgg g_impl_Sat, true_and, and_self]
  refine SatVals_spec (hd10.ext he11) (hv10.ext he11) rfl h10.m0 h10.m1 fun w12 vb he12 hvb _ => ?_
  rw [if_pos hfx.ok] at hva
  rw [if_pos hfy.ok] at hvb
  refine wpBools_spec (hva.ext he12).bools hvb.bools fun w13 he13 => ?_
  rw [decide_eq_true (valsM_way (least_eq hsame (hfx.least hcm x1) (hfy.least hcm y1)))]
  exact hK _ (h10.E.trans (he11.trans (he12.trans he13)))
end Go.Proofs.Ytpihgpfebhegmaa
