/- The law FnSatLeast: search finds the least model, or none exactly if there is none. -/
import Derived.Test.YtpihgpfebhegmaaGreatGc
import Derived.Test.YtpihgpfebhegmaaGreatM11
set_option linter.unusedVariables false
set_option linter.unusedSimpArgs false
set_option linter.unnecessarySimpa false
set_option linter.unusedSectionVars false
namespace Go.Proofs.YtpihgpfebhegmaaGreat
open Go Go.Vc Go.Proofs Go.M
variable {w : World} {K : Value → World → Prop} {F Fr F' : Nat → Prop} {c : Cnf} {s : Sat} {bs : List Bool}
@[push_cast] theorem vbin_eqb (b : Bool) (x y : Bool) : vbin PP .eql T_bool b (.bool x) (.bool y) w K = K (.bool (x == y)) w :=
  vbin_run rfl (by simp [binOp, run_eqb, Result.andThen])
theorem holds_spec {v : Value} {l : Int} (hb : Bools F w v bs) (hs : bs.length ≤ 1000) (hl : l ≠ 0 ∧ -(bs.length : Int) ≤ l ∧ l ≤ bs.length) (hK : K (.bool (litT (wayB bs) l)) w) : vcall PP n_impl_literal_holds #[.int .i64 l, v] w K := by
  apply c_impl_literal_holds; unfold F_impl_literal_holds
  simp (disch := (simp only [push_cast]; done)) only [push_cast, hb.len]
  refine of_spec (by omega) (by omega) ?_
  rw [show litOk (bs.length : Int) l = true from by simp only [litOk, decide_eq_true_eq]; omega]
  refine vif_bool (fun _ => ?_) (fun a => by cases a)
  refine variable_spec (by omega) (by omega) ?_
  obtain ⟨q, hq⟩ : ∃ q, l.natAbs = q + 1 := ⟨l.natAbs - 1, by omega⟩
  rw [hq, show (((q + 1 : Nat) : Int)) = (q : Int) + 1 from rfl, vbin_sub, Int.add_sub_cancel, wrap64 (by omega) (by omega)]
  simp (disch := first | (simp only [push_cast]; done) | omega) only [push_cast, hb.iaddr, hb.load]
  have e : (bs.getD q false == decide (0 < l)) = litT (wayB bs) l := by
    unfold litT wayB
    rw [hq, Nat.add_sub_cancel]
    by_cases h : 0 < l
    · rw [if_pos h, decide_eq_true h]; simp
    · rw [if_neg h, decide_eq_false h]; simp
  rw [e]; exact hK
theorem ClauseHas_spec {v vx : Value} {xs : List Int} (hx : Ints F w vx xs) (hb : Bools F' w v bs) (hs : bs.length ≤ 1000) (hok : clauseOk bs.length xs = true) (hK : ∀ w', Ext w w' → K (.bool (clB (wayB bs) xs)) w') : vcall PP n_impl_ClauseHas #[vx, v] w K := by
  apply c_impl_ClauseHas; unfold F_impl_ClauseHas
  refine vbox_new fun b w1 hb1 he1 hz1 hB1 => ?_
  rw [hb.cells1] at hB1
  simp only [push_cast]
  refine ContainsFunc_Lint_int (p := fun i => litT (wayB bs) (xs.getD i 0)) (hx.ext he1) (fun i hi w' K' he hK' => ?_) fun w2 he2 => ?_
  · rw [List.length_map] at hi
    have B := hB1.ext he
    rw [ints_getD hi]
    simp only [push_cast]
    apply c_impl_ClauseHas_1; unfold F_impl_ClauseHas_1
    have B' : Blk w' b [v] T_Lbool := B
    simp (disch := (simp only [push_cast]; done)) only [push_cast, B'.ld0]
    exact holds_spec (hb.ext (he1.trans he)) hs (clauseOk_lit hok (getD_mem hi)) (hK' _ (Same.refl _ _))
  · rw [List.length_map]
    exact hK _ (he1.trans he2)
theorem holdsAll_spec {v vx : Value} {L : List (List Int)} (hx : Lists F w vx L) (hb : Bools F' w v bs) (hs : bs.length ≤ 1000) (hok : ∀ x, x ∈ L → clauseOk bs.length x = true) (hK : ∀ w', Ext w w' → K (.bool (cnfB (wayB bs) L)) w') : vcall PP n_impl_holdsAll #[vx, v] w K := by
  apply c_impl_holdsAll; unfold F_impl_holdsAll
  obtain ⟨es, hes, hev, hei⟩ := hx
  refine vbox_new fun b w1 hb1 he1 hz1 hB1 => ?_
  rw [hb.cells1] at hB1
  simp only [push_cast]
  refine ContainsFunc_LLint_Lint (p := fun i => !clB (wayB bs) (L.getD i [])) (hev.ext he1) (fun i hi w' K' he hK' => ?_) fun w2 he2 => ?_
  · have B' : Blk w' b [v] T_Lbool := hB1.ext he
    simp only [push_cast]
    apply c_impl_holdsAll_1; unfold F_impl_holdsAll_1
    simp (disch := (simp only [push_cast]; done)) only [push_cast, B'.ld0]
    refine ClauseHas_spec ((hei i (by omega)).ext (he1.trans he)) (hb.ext (he1.trans he)) hs (hok _ (by rw [List.getD_eq_getElem?_getD, List.getElem?_eq_getElem (by omega)]; exact List.getElem_mem _)) fun w3 he3 => ?_
    simp only [push_cast]
    exact hK' _ he3
  · simp only [push_cast]
    have := hK _ (he1.trans he2)
    unfold cnfB at this
    rw [hes]; exact this
theorem countUp_spec {v : Value} (h : OwnB PP T_Lbool w v bs) (hs : bs.length ≤ 1000)
    (hK1 : ∀ d w', d < bs.length → bs.getD d false = false → (∀ j, d < j → j < bs.length → bs.getD j false = true) → OwnB PP T_Lbool w' v (nextB bs d) → Same (fun b => v.ownBlock = some b) w w' → K (.bool true) w')
    (hK2 : (∀ j, j < bs.length → bs.getD j false = true) → ∀ w', Same (fun b => v.ownBlock = some b) w w' → K (.bool false) w') : vcall PP n_impl_countUp #[v] w K := by
  apply c_impl_countUp; unfold F_impl_countUp
  have hb := h.bools
  simp (disch := (simp only [push_cast]; done)) only [push_cast, hb.len]
  generalize hn : bs.length = n at *
  rw [wrap64 (by omega) (by omega)]
  refine vloop_up n (fun k u w' => u = [.int .i64 ((n : Int) - 1 - (k : Int))] ∧ OwnB PP T_Lbool w' v (bs.take (n - k) ++ List.replicate k false) ∧ Same (fun b => v.ownBlock = some b) w w' ∧ ∀ j, n - k ≤ j → j < n → bs.getD j false = true)
    ⟨by simp, by simpa [← hn] using h, Same.refl _ _, fun j h1 h2 => by omega⟩ ?_
  rintro k _ _ w1 C hk ⟨rfl, h1, hs1, ht⟩ hC
  simp only [sl0, vbin_geq]
  refine vif_dec (fun a => ?_) (fun a => hK2 (fun j hj => ht j (by omega) hj) _ hs1)
  obtain ⟨q, hq⟩ : ∃ q, n - k = q + 1 := ⟨n - k - 1, by omega⟩
  rw [show (n : Int) - 1 - (k : Int) = (q : Int) by omega]
  rw [hq] at h1
  have hlen : (bs.take (q + 1) ++ List.replicate k false).length = n := by simp; omega
  have hb1 := h1.bools
  have hg : (bs.take (q + 1) ++ List.replicate k false).getD q false = bs.getD q false := by
    rw [getD_app_l (by simp; omega)]
    simp [List.getD_eq_getElem?_getD, List.getElem?_take]
  simp (disch := first | (simp only [push_cast]; done) | omega) only [push_cast, hb1.iaddr, hb1.load, hg]
  refine h1.st z_bool (by omega) fun w2 h2 hs2 hz2 => ?_
  have hset : (bs.take (q + 1) ++ List.replicate k false).set q (!bs.getD q false) = bs.take q ++ (!bs.getD q false) :: List.replicate k false := by
    have e : bs.take (q + 1) = bs.take q ++ [bs.getD q false] := take_snoc (by omega)
    rw [e, List.append_assoc, List.set_append_right _ _ (by simp; omega)]
    simp [show q - min q bs.length = 0 by omega]
  rw [hset] at h2
  have hb2 := h2.bools
  have hlen2 : (bs.take q ++ (!bs.getD q false) :: List.replicate k false).length = n := by simp; omega
  have hg2 : (bs.take q ++ (!bs.getD q false) :: List.replicate k false).getD q false = !bs.getD q false := by
    have := getD_app_r (a := bs.take q) (b := (!bs.getD q false) :: List.replicate k false) (d := false) (j := 0)
    rw [show (bs.take q).length + 0 = q by simp; omega] at this
    rw [this]; rfl
  simp (disch := first | (simp only [push_cast]; done) | omega) only [push_cast, hb2.iaddr, hb2.load, hg2]
  have hs12 := hs1.trans hs2
  refine vif_bool (fun e => ?_) (fun e => ?_)
  · have e' : bs.getD q false = false := by simpa using e
    refine hK1 q w2 (by omega) e' (fun j h3 h4 => ht j (by omega) h4) ?_ hs12
    rw [e'] at h2
    unfold nextB
    rw [hn, show n - q - 1 = k by omega]
    exact h2
  · have e' : bs.getD q false = true := by simpa using e
    rw [wrap64 (by omega) (by omega)]
    refine hC (by omega) _ _ ⟨by rw [show (q : Int) - 1 = (n : Int) - 1 - ((k + 1 : Nat) : Int) by omega], ?_, hs12, fun j h3 h4 => ?_⟩
    · rw [e'] at h2
      rw [show n - (k + 1) = q by omega, List.replicate_succ]
      exact h2
    · by_cases e2 : j = q
      · subst e2; exact e'
      · exact ht j (by omega) h4
theorem CnfLeast_spec {v : Value} {many : Nat} (hc : CnfR F w v c) (hok : cnfOk c = true) (hcm : c.many = many) (h10 : many ≤ 10)
    (hK1 : ∀ w' v' bs, Ext w w' → OwnB PP T_Lbool w' v' bs → bs.length = many → Least many c (wayB bs) → K (.tuple #[v', .bool true]) w')
    (hK2 : ∀ w', Ext w w' → (∀ a, ¬ cnfT a c) → K (.tuple #[.slice none 0 0, .bool false]) w') : vcall PP n_impl_CnfLeast #[v] w K := by
  apply c_impl_CnfLeast; unfold F_impl_CnfLeast
  have hc0 := hc
  obtain ⟨lv, rfl, hl⟩ := hc
  refine vbox_new fun b w1 hb he1 hz1 hB1 => ?_
  have B1 : Blk w1 b [.int .i64 c.many, lv] T_impl_Cnf := hB1
  refine vjoin_of (fun _ w' => Ext w1 w') ?_ ?_
  · intro J hJ
    rw [B1.ldAgg g_impl_Cnf]
    refine CnfOk_spec (hc0.ext he1) (by omega) (by omega) fun w2 he2 => ?_
    have B2 := B1.ext he2
    rw [hok]
    simp (disch := (simp only [push_cast]; done)) only [push_cast, Bool.not_true, B2.ld0]
    exact vif_dec (fun a => absurd a (by omega)) fun _ => hJ _ _ he2
  rintro _ _ w2 he2
  have B2 := B1.ext he2
  simp (disch := (simp only [push_cast]; done)) only [push_cast, B2.ld0]
  rw [hcm]
  refine vmkS_own (z := .bool false) l_Lbool (by kernel_rfl) zr_bool rfl (by omega) (by omega) fun v3 w3 hv3 he3 hn3 => ?_
  have hv3' : OwnB PP T_Lbool w3 v3 (List.replicate many false) := by unfold OwnB; rw [List.map_replicate]; exact hv3
  have hclause := (cnfOk_iff.1 hok).2.2.2
  have lb := B1.lt
  refine vloop_of (fun m _ w' => ∃ bs, Ext w2 w' ∧ OwnB PP T_Lbool w' v3 bs ∧ bs.length = many ∧ m = 2 ^ many - rank many (marks bs) ∧ ∀ a, cnfT a c → LexLe many (wayB bs) a) _ ⟨_, he3, hv3', by simp, rfl, fun a _ => lexLe_tail (d := 0) (fun u h1 h2 => by omega) fun u h1 h2 => by
    unfold wayB
    simp only [List.getD_eq_getElem?_getD, List.getElem?_replicate]
    split <;> rfl⟩ ?_
  rintro m _ _ w4 C ⟨bs, he4, hv4, hlen, rfl, hlex⟩ hC
  have B4 := B2.ext he4
  have E4 := he1.trans (he2.trans he4)
  simp (disch := (simp only [push_cast]; done)) only [push_cast, B4.ld1]
  refine holdsAll_spec (hl.ext E4) hv4.bools (by omega) (fun x hx => by rw [hlen, ← hcm]; exact hclause x hx) fun w5 he5 => ?_
  simp only [push_cast]
  have hv5 := hv4.ext he5
  have E5 := E4.trans he5
  refine vif_bool (fun a => ?_) (fun a => ?_)
  · have hno : ¬ cnfT (wayB bs) c := fun h => by rw [cnfB_iff.2 h] at a; cases a
    have hne : ∀ v, cnfT v c → ¬ ∀ u, 1 ≤ u → u ≤ many → wayB bs u = v u := fun v hv h => hno (cnfT_congr hok hcm (fun u h1 h2 => (h u h1 h2).symm) hv)
    refine countUp_spec hv5 (by omega) (fun d w6 h1 h2 h3 h4 h5 => ?_) (fun h1 w6 h5 => ?_)
    · simp only [push_cast, Bool.not_true]
      have hr := nextB_rank h1 h2
      have hr2 := rank_lt (n := many) (r := marks (nextB bs d)) (by simp [marks, nextB_len h1, hlen])
      rw [hlen] at hr
      have hz2 := he2.size
      refine hC (2 ^ many - rank many (marks (nextB bs d))) _ _ (by omega) ⟨_, Ext.then (he4.trans he5) h5 fun x hx => hn3 x hx, h4, by rw [nextB_len h1, hlen], rfl, fun v hv => lex_nextB hlen (hlex v hv) (hne v hv) h1 h2 h3⟩
    · simp only [push_cast, Bool.not_false]
      refine hK2 _ (Ext.then E5 h5 fun x hx => ?_) fun v hv => hne v hv (lexLe_true (hlex v hv) fun u h2 h3 => h1 (u - 1) (by omega))
      have := hn3 x hx
      have := (he1.trans he2).size
      omega
  · have hyes : cnfT (wayB bs) c := cnfB_iff.1 (by simpa using a)
    exact hK1 _ _ _ E5 hv5 hlen ⟨hyes, hlex⟩
set_option maxRecDepth 20000 in
theorem FnSatLeast_spec {v : Value} {xs : List Nat} (hx : Bytes F w v xs) (hK : ∀ w', Ext w w' → K (.bool true) w') : vcall PP n_laws_FnSatLeast #[v] w K := by
  apply c_laws_FnSatLeast; unfold F_laws_FnSatLeast
  simp (disch := (simp only [push_cast]; done)) only [push_cast, hx.len]
  refine vif_dec (fun _ => hK w (Same.refl _ _)) (fun _ => ?_)
  refine front hx fun w1 b3 b5 c fuel lv p y l h1 => ?_
  refine vjoin_of (fun _ w' => LawS w w' b3 b5 c fuel lv p y l ∧ (runA c fuel).code ≠ 4 ∧ c.many ≤ 10) ?_ ?_
  · intro J hJ
    have again : ∀ w4, LawS w w4 b3 b5 c fuel lv p y l → vdraw w4 fun w_22 =>
        vload PP T_impl_Sat (.pointer (some ⟨b5, 0, none⟩)) w_22 fun t46 w_23 => w_23 = w_22 ∧
        vload PP T_impl_Cnf (.pointer (some ⟨b3, 0, none⟩)) w_22 fun t47 w_24 => w_24 = w_22 ∧
        vcall PP n_spec_SatRun #[t47, .int .i64 fuel] w_22 fun t49 w_25 => (vload PP T_impl_Sat (.pointer (some ⟨b5, 0, none⟩)) w_25 fun v x => v = t46 ∧ x = w_25) ∧
        vcall PP n_impl_SatSame #[t46, t49] w_25 fun t50 w_26 => K t50 w_26 := fun w4 h4 => by
      refine vdraw_ext fun w5 he5 _ => ?_
      have h5 := h4.ext he5
      simp (disch := (simp only [push_cast]; done)) only [push_cast, h5.A.ldAgg g_impl_Sat, h5.B.ldAgg g_impl_Cnf, true_and]
      refine specSatRun_spec h5.hc rfl h5.m0 h5.m1 fun w6 v6 he6 hv6 => ?_
      have h6 := h5.ext he6
      simp (disch := (simp only [push_cast]; done)) only [push_cast, h6.A.ldAgg g_impl_Sat, true_and, and_self]
      refine SatSame_spec h6.hv hv6 fun w7 he7 => ?_
      rw [show satEq (runA c fuel) (if cnfOk c = true ∧ 0 ≤ fuel ∧ fuel ≤ 4000 then runM c.many.toNat c fuel.toNat emptyS else formS) = true from satEq_self _]
      exact hK w7 (h6.E.trans he7)
    refine vdraw_ext fun w2 he2 _ => ?_
    have h2 := h1.ext he2
    simp (disch := (simp only [push_cast]; done)) only [push_cast, h2.A.ldAgg g_impl_Sat, h2.B.ldAgg g_impl_Cnf, true_and]
    refine specSatRun_spec h2.hc rfl h2.m0 h2.m1 fun w3 v3 he3 hv3 => ?_
    have h3 := h2.ext he3
    simp (disch := (simp only [push_cast]; done)) only [push_cast, h3.A.ldAgg g_impl_Sat, true_and, and_self]
    refine SatSame_spec h3.hv hv3 fun w4 he4 => ?_
    have h4 := h3.ext he4
    rw [show satEq (runA c fuel) (if cnfOk c = true ∧ 0 ≤ fuel ∧ fuel ≤ 4000 then runM c.many.toNat c fuel.toNat emptyS else formS) = true from satEq_self _]
    simp (disch := (simp only [push_cast]; done)) only [push_cast, Bool.not_true, true_and, h4.A.ld3, h4.B.ld0]
    refine vif_dec (fun a => again w4 h4) (fun a => vif_dec (fun _ => again w4 h4) (fun b => hJ _ _ ⟨h4, b, by omega⟩))
  rintro _ _ w2 ⟨h2, hcode, h10⟩
  obtain ⟨n, rfl, hn, hok, hrun⟩ := runA_yes hcode
  have hfx := runA_fair hok n
  have hcm := cnfOk_many hok
  have hbx : Bnd c.many.toNat c (runM c.many.toNat c n emptyS) := run_bnd hcm empty_bnd (empty_ok hok)
  have hend : (runM c.many.toNat c n emptyS).code = 0 → n < 4000 := fun h => Nat.lt_of_not_le fun hle => run_ends hcm hok (by omega) hle h
  rw [← hrun] at hfx hbx hend
  generalize hM : c.many.toNat = M at *
  rw [h2.B.ldAgg g_impl_Cnf]
  have hc0 := hfx.ok.c0
  have hc3 := hfx.ok.c3
  refine CnfLeast_spec h2.hc hok hcm (by omega) (fun w3 v3 bs he3 hv3 hlen hleast => ?_) (fun w3 he3 hno => ?_)
  all_goals
    have h3 := h2.ext he3
    simp only [vextract_two0, vextract_two1]
    simp (disch := (simp only [push_cast]; done)) only [push_cast, h3.A.ld3]
  · refine vif_dec (fun x1 => ?_) (fun x1 => vif_dec (fun x2 => ?_) (fun x2 => vif_dec (fun x3 => ?_) (fun x3 => ?_)))
    · rw [h3.B.ldAgg g_impl_Cnf, h3.A.ldAgg g_impl_Sat]
      refine SatVals_spec h3.hc h3.hv hM.symm h3.m0 h3.m1 fun w4 va he4 hva _ => ?_
      rw [if_pos hfx.ok] at hva
      refine wpBools_spec hva.bools (hv3.ext he4).bools fun w5 he5 => ?_
      have hlm := hfx.least hcm x1
      have e : valsM M (runA c n).put = bs := wayB_inj (by simp [valsM]) hlen fun u a b => by
        have := LexLe.antisymm (hlm.2 _ hleast.1) (hleast.2 _ hlm.1) u a b
        rw [← this]
        unfold wayB valsM wayM
        rw [List.getD_eq_getElem?_getD, List.getElem?_map, List.getElem?_range (by omega)]
        show decide (((u - 1 + 1 : Nat) : Int) ∈ (runA c n).put) = _
        rw [show u - 1 + 1 = u by omega]
      rw [decide_eq_true e]
      exact hK _ (h3.E.trans (he4.trans he5))
    · exact absurd hleast.1 (hfx.no x2 _)
    · have := hbx.much x3
      obtain ⟨lq, yq, pq, hq, -, -, es, hes, hev, hei⟩ := h3.hv
      obtain ⟨rfl, rfl, rfl⟩ : p = lq ∧ y = yq ∧ l = pq := by simpa using hq
      simp (disch := (simp only [push_cast]; done)) only [push_cast, h3.A.ld2, hev.len]
      refine vif_dec (fun _ => ?_) (fun a => absurd (by omega) a)
      simp (disch := (simp only [push_cast]; done)) only [push_cast, h3.B.ld0]
      rw [decide_eq_true]
      · exact hK _ h3.E
      · have h8 : 7 < M := Nat.lt_of_not_le fun hle => by
          have := Nat.pow_le_pow_right (n := 2) (by omega) hle
          omega
        omega
    · refine vif_dec (fun x0 => ?_) (fun x0 => absurd (by omega) x0)
      rw [decide_eq_true (by have := hend x0; omega)]
      exact hK _ h3.E
  · refine vif_dec (fun x1 => ?_) (fun x1 => vif_dec (fun x2 => ?_) (fun x2 => vif_dec (fun x3 => ?_) (fun x3 => ?_)))
    · exact absurd (hfx.model hcm x1) (hno _)
    · simp only [push_cast, Bool.not_false]
      exact hK _ h3.E
    · have := hbx.much x3
      obtain ⟨lq, yq, pq, hq, -, -, es, hes, hev, hei⟩ := h3.hv
      obtain ⟨rfl, rfl, rfl⟩ : p = lq ∧ y = yq ∧ l = pq := by simpa using hq
      simp (disch := (simp only [push_cast]; done)) only [push_cast, h3.A.ld2, hev.len]
      refine vif_dec (fun _ => ?_) (fun a => absurd (by omega) a)
      simp (disch := (simp only [push_cast]; done)) only [push_cast, h3.B.ld0]
      rw [decide_eq_true]
      · exact hK _ h3.E
      · have h8 : 7 < M := Nat.lt_of_not_le fun hle => by
          have := Nat.pow_le_pow_right (n := 2) (by omega) hle
          omega
        omega
    · refine vif_dec (fun x0 => ?_) (fun x0 => absurd (by omega) x0)
      rw [decide_eq_true (by have := hend x0; omega)]
      exact hK _ h3.E
end Go.Proofs.YtpihgpfebhegmaaGreat
