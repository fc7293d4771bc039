import Derived.Test.YtcfgmgjofmbfhaaGreatDoorWsnP10
/- A part of the proof: Tl, Dp, Dq, Dr, Ds, Dt. -/
set_option linter.unusedVariables false
set_option linter.unusedSimpArgs false
set_option linter.unnecessarySimpa false
set_option linter.unusedSectionVars false
section
namespace Go.Proofs.YtcfgmgjofmbfhaaGreatDoor
open Go Go.Vc Go.Proofs
variable {w : World} {K : Value → World → Prop} {F G : Nat → Prop}
theorem l2Arity_spec {o : Int} (hK : K (.int .i64 (M.arity o)) w) : vcall PP n_spec_l2Arity #[.int .i64 o] w K := by
  apply c_spec_l2Arity; unfold F_spec_l2Arity
  have hK' : ∀ c, M.arity o = c → K (.int .i64 c) w := fun c e => e ▸ hK
  refine vjoin_of (fun u w' => u = [.bool (decide (o = 20 ∨ o = 21 ∨ o = 24))] ∧ w' = w) (fun C hC => ?_) ?_
  · simp only [push_cast]
    refine vif_dec (fun a => ?_) (fun a => ?_)
    · exact hC _ _ ⟨by rw [decide_eq_true a, decide_eq_true (.inl a)], rfl⟩
    refine vif_dec (fun b => ?_) (fun b => ?_)
    · exact hC _ _ ⟨by rw [decide_eq_true b, decide_eq_true (.inr (.inl b))], rfl⟩
    · refine hC _ _ ⟨?_, rfl⟩
      by_cases c : o = 24
      · rw [decide_eq_true c, decide_eq_true (.inr (.inr c))]
      · rw [decide_eq_false c, decide_eq_false (by omega)]
  · rintro u g w1 ⟨rfl, rfl⟩
    simp only [push_cast]
    repeat' first
      | exact hK' _ (by unfold M.arity; repeat' split
                        all_goals omega)
      | refine vif_dec (fun _ => ?_) (fun _ => ?_)
theorem l2Plain_spec {v : Value} {t : M.Tm} (ht : TermR F w v t) (hK : ∀ w', Ext w w' → K (.bool (M.formed t)) w') : vcall PP n_spec_l2Plain #[v] w K := by
  apply c_spec_l2Plain; unfold F_spec_l2Plain
  obtain ⟨ksv, rfl, hks⟩ := ht
  refine vbox_agg fun b1 w1 hb1 he1 hs1 h1 => ?_
  have hk := hK _ he1
  have hno : M.plainM t = false → K (.bool false) w1 := fun h => by
    unfold M.formed at hk
    rwa [h, Bool.and_false] at hk
  unfold M.plainM at hno
  refine vjoin_of (fun u w' => u = [] ∧ w' = w1 ∧ (decide (t.op = 21) || decide (t.s = M.nada)) = true) (fun C hC => ?_) ?_
  · simp (disch := (simp only [push_cast]; done)) only [push_cast, h1.ld0, h1.ld3]
    refine vif_dec (fun a => ?_) (fun a => ?_)
    · refine vif_dec (fun b => ?_) (fun b => ?_)
      · exact hno (by rw [decide_eq_false a, show decide (t.s = M.nada) = false from decide_eq_false b]; simp)
      · exact hC _ _ ⟨rfl, rfl, by rw [show decide (t.s = M.nada) = true from decide_eq_true (Classical.not_not.1 b)]; simp⟩
    · exact hC _ _ ⟨rfl, rfl, by rw [decide_eq_true (Classical.not_not.1 a)]; simp⟩
  rintro u g w2 ⟨rfl, rfl, hn⟩
  rw [hn, Bool.and_true] at hno
  refine vjoin_of (fun u w' => u = [] ∧ w' = w2 ∧ (decide (t.op = 20) || decide (t.op = 22) || (decide (t.a = 0) && decide (t.b = 0))) = true) (fun C hC => ?_) ?_
  · simp (disch := (simp only [push_cast]; done)) only [push_cast, h1.ld0, h1.ld1, h1.ld2]
    refine vif_dec (fun a => ?_) (fun a => ?_)
    · refine vif_dec (fun b => ?_) (fun b => ?_)
      · refine vif_dec (fun c => ?_) (fun c => ?_)
        · exact hno (by rw [decide_eq_false a, decide_eq_false b, decide_eq_false c]; simp)
        refine vif_dec (fun d => ?_) (fun d => ?_)
        · exact hno (by rw [decide_eq_false a, decide_eq_false b, decide_eq_false d]; simp)
        · exact hC _ _ ⟨rfl, rfl, by rw [decide_eq_true (Classical.not_not.1 c), decide_eq_true (Classical.not_not.1 d)]; simp⟩
      · exact hC _ _ ⟨rfl, rfl, by rw [decide_eq_true (Classical.not_not.1 b)]; simp⟩
    · exact hC _ _ ⟨rfl, rfl, by rw [decide_eq_true (Classical.not_not.1 a)]; simp⟩
  rintro u g w3 ⟨rfl, rfl, hm⟩
  refine vdraw_ext fun w4 he4 _ => ?_
  have h4 := h1.ext he4
  have hks4 := hks.ext (he1.trans he4)
  simp (disch := (simp only [push_cast]; done)) only [push_cast, h4.ld0, h4.ld4, hks4.len, true_and]
  refine l2Arity_spec ?_
  simp (disch := (simp only [push_cast]; done)) only [push_cast, h4.ld4, hks4.len, true_and, and_self]
  have := hK _ (he1.trans he4)
  have e : M.formed t = decide ((t.ks.length : Int) = M.arity t.op) := by
    unfold M.formed M.plainM
    rw [hm, hn]
    simp only [Bool.and_true]
    by_cases h : M.arity t.op = t.ks.length
    · rw [decide_eq_true h, decide_eq_true h.symm]
    · rw [decide_eq_false h, decide_eq_false (fun x => h x.symm)]
  rwa [e] at this
theorem l2One_spec {v : Value} {t : M.Tm} {a : Int} (ht : TermR F w v t) (hr : -1 ≤ a ∧ a ≤ 4) (hK : ∀ w', Ext w w' → K (.int .i64 (M.oneM t a)) w') : vcall PP n_spec_l2One #[v, .int .i64 a] w K := by
  apply c_spec_l2One; unfold F_spec_l2One
  obtain ⟨ksv, rfl, hks⟩ := ht
  refine vbox_agg fun b1 w1 hb1 he1 hs1 h1 => ?_
  have hk : ∀ c, M.oneM t a = c → K (.int .i64 c) w1 := fun c e => e ▸ hK _ he1
  unfold M.oneM at hk
  refine vjoin_of (fun u w' => u = [.bool (decide (t.op = 25 ∧ a = 0))] ∧ w' = w1) (fun C hC => ?_) ?_
  · simp (disch := (simp only [push_cast]; done)) only [push_cast, h1.ld0]
    refine vif_dec (fun b => ?_) (fun b => ?_)
    · refine hC _ _ ⟨?_, rfl⟩
      simp only [b, true_and]
    · exact hC _ _ ⟨by rw [decide_eq_false (fun h => b h.1)], rfl⟩
  rintro u g w2 ⟨rfl, rfl⟩
  simp only [push_cast]
  refine vif_dec (fun b => ?_) (fun b => ?_)
  · exact hk _ (by rw [if_pos b.1, if_pos b.2])
  refine vjoin_of (fun u w' => u = [.bool (decide (t.op = 25 ∨ a < 1))] ∧ w' = w2) (fun C hC => ?_) ?_
  · simp (disch := (simp only [push_cast]; done)) only [push_cast, h1.ld0]
    refine vif_dec (fun c => ?_) (fun c => ?_)
    · exact hC _ _ ⟨by rw [decide_eq_true (.inl c)], rfl⟩
    · refine hC _ _ ⟨?_, rfl⟩
      simp only [c, false_or]
  rintro u g w3 ⟨rfl, rfl⟩
  simp only [push_cast]
  refine vif_dec (fun c => ?_) (fun c => ?_)
  · exact hk _ (by repeat' split
                   all_goals omega)
  simp (disch := (simp only [push_cast]; done)) only [push_cast, h1.ld0]
  refine vif_dec (fun d => ?_) (fun d => ?_)
  · refine vjoin_of (fun u w' => u = [.bool (decide (0 ≤ t.b ∧ t.b ≤ t.a ∧ t.a < a))] ∧ w' = w3) (fun C hC => ?_) ?_
    · simp (disch := (simp only [push_cast]; done)) only [push_cast, h1.ld1, h1.ld2]
      refine vif_dec (fun e => ?_) (fun e => ?_)
      · refine vif_dec (fun f => ?_) (fun f => ?_)
        · refine hC _ _ ⟨?_, rfl⟩
          simp only [e, f, true_and]
        · exact hC _ _ ⟨by rw [decide_eq_false (fun h => f h.2.1)], rfl⟩
      · exact hC _ _ ⟨by rw [decide_eq_false (fun h => e h.1)], rfl⟩
    rintro u g w4 ⟨rfl, rfl⟩
    simp only [push_cast]
    refine vif_dec (fun e => ?_) (fun e => ?_)
    · simp (disch := (simp only [push_cast]; done)) only [push_cast, h1.ld1, h1.ld2]
      rw [wrap64 (x := t.a - t.b) (by omega) (by omega), wrap64 (by omega) (by omega)]
      exact hk _ (by rw [if_neg (by omega), if_neg (by omega), if_pos d, if_pos e])
    · exact hk _ (by rw [if_neg (by omega), if_neg (by omega), if_pos d, if_neg e])
  · exact hk _ (by rw [if_neg (by omega), if_neg (by omega), if_neg d])
theorem l2Both_spec {o a b : Int} (hr : -1 ≤ a ∧ a ≤ 4) (hr' : -1 ≤ b ∧ b ≤ 4) (hK : K (.int .i64 (M.bothM o a b)) w) : vcall PP n_spec_l2Both #[.int .i64 o, .int .i64 a, .int .i64 b] w K := by
  apply c_spec_l2Both; unfold F_spec_l2Both
  have hk : ∀ c, M.bothM o a b = c → K (.int .i64 c) w := fun c e => e ▸ hK
  unfold M.bothM at hk
  refine vjoin_of (fun u w' => u = [.bool (decide (o = 26 ∨ o = 27))] ∧ w' = w) (fun C hC => ?_) ?_
  · simp only [push_cast]
    refine vif_dec (fun c => ?_) (fun c => ?_)
    · exact hC _ _ ⟨by rw [decide_eq_true (.inl c)], rfl⟩
    · refine hC _ _ ⟨?_, rfl⟩
      simp only [c, false_or]
  rintro u g w2 ⟨rfl, rfl⟩
  simp only [push_cast]
  refine vif_dec (fun c => ?_) (fun c => ?_)
  · repeat' first
      | exact hk _ (by repeat' split
                       all_goals omega)
      | refine vif_dec (fun _ => ?_) (fun _ => ?_)
  refine vjoin_of (fun u w' => u = [.bool (decide (a < 1 ∨ b < 1))] ∧ w' = w2) (fun C hC => ?_) ?_
  · try simp only [push_cast]
    refine vif_dec (fun d => ?_) (fun d => ?_)
    · exact hC _ _ ⟨by rw [decide_eq_true (.inl d)], rfl⟩
    · refine hC _ _ ⟨?_, rfl⟩
      simp only [d, false_or]
  rintro u g w3 ⟨rfl, rfl⟩
  have e1 : IntKind.i64.wrap (a + b) = a + b := wrap64 (by omega) (by omega)
  simp only [push_cast, e1]
  repeat' first
    | exact hk _ (by repeat' split
                     all_goals omega)
    | refine vif_dec (fun _ => ?_) (fun _ => ?_)
theorem l2Sort_spec : ∀ (t : M.Tm) {w : World} {K : Value → World → Prop} {F G : Nat → Prop} {dv v : Value} {ds : List M.Dcl}, DclsR F w dv ds → M.declOk ds = true → TermR G w v t → (∀ w', Ext w w' → K (.int .i64 (M.sortM ds t)) w') → vcall PP n_spec_l2Sort #[dv, v] w K := by
  refine M.Tm.ind fun t ih w K F G dv v ds hd hok ht hK => ?_
  apply c_spec_l2Sort; unfold F_spec_l2Sort
  obtain ⟨ksv, rfl, hks⟩ := ht
  refine vbox_agg fun b1 w1 hb1 he1 hs1 h1 => ?_
  have hk : ∀ c w', M.sortM ds t = c → Ext w w' → K (.int .i64 c) w' := fun c w' e he => e ▸ hK _ he
  rw [h1.ldAgg (t := T_impl_Term) g_impl_Term]
  refine l2Plain_spec (F := G) (t := t) ⟨ksv, rfl, hks.ext he1⟩ fun w2 he2 => ?_
  have hE := he1.trans he2
  have h2 := h1.ext he2
  simp only [push_cast]
  refine vif_bool (fun a => ?_) (fun a => ?_)
  · exact hk _ _ (M.sort_bad (by rw [Bool.not_eq_true]; simpa using a)) hE
  have hf : M.formed t = true := by simpa using a
  have har := (M.formed_iff.1 hf).1
  have hd2 := hd.ext hE
  simp (disch := (simp only [push_cast]; done)) only [push_cast, h2.ld0]
  refine vif_dec (fun c20 => ?_) (fun c20 => ?_)
  · have hl : t.ks.length = 0 := by rw [c20] at har; simp [M.arity] at har; omega
    have hs := M.sort_leaf (ds := ds) hf hl
    simp (disch := (simp only [push_cast]; done)) only [push_cast, h2.ld1, h2.ld2]
    refine spec_VecOk_spec fun w3 he3 => ?_
    have h3 := h2.ext he3
    refine vif_bool (fun b => ?_) (fun b => ?_)
    · simp (disch := (simp only [push_cast]; done)) only [push_cast, h3.ld1]
      exact hk _ _ (by rw [hs]; unfold M.sortK; rw [if_pos c20, if_pos b]) (hE.trans he3)
    · exact hk _ _ (by rw [hs]; unfold M.sortK; rw [if_pos c20, b]; rfl) (hE.trans he3)
  refine vif_dec (fun c21 => ?_) (fun c21 => ?_)
  · have hl : t.ks.length = 0 := by rw [c21] at har; simp [M.arity] at har; omega
    have hs := M.sort_leaf (ds := ds) hf hl
    have hfd := M.findD_lt ds t.s
    simp (disch := (simp only [push_cast]; done)) only [push_cast, h2.ld3]
    refine l2Find_spec hd2 ?_
    try simp only [push_cast]
    refine vif_dec (fun b => ?_) (fun b => ?_)
    · exact hk _ _ (by rw [hs]; unfold M.sortK; rw [if_neg c20, if_pos c21, if_pos b]) hE
    · try simp (disch := first | (simp only [push_cast]; done) | omega) only [push_cast, hd2.iaddr]
      try simp (disch := first | (simp only [push_cast]; done) | omega) only [push_cast, hd2.load1]
      exact hk _ _ (by rw [hs]; unfold M.sortK; rw [if_neg c20, if_pos c21, if_neg b]) hE
  refine vif_dec (fun c24 => ?_) (fun c24 => ?_)
  · have hl : t.ks.length = 0 := by rw [c24] at har; simp [M.arity] at har; omega
    have hs := M.sort_leaf (ds := ds) hf hl
    exact hk _ _ (by rw [hs]; unfold M.sortK; rw [if_neg c20, if_neg c21, if_pos (by omega)]; rfl) hE
  have hlen : t.ks.length = 1 ∨ t.ks.length = 2 ∨ t.ks.length = 3 := by
    have h0 : M.arity t.op ≠ 0 := fun h => by have := M.arity_zero h; omega
    have h4 : M.arity t.op ≤ 3 := by
      unfold M.arity
      repeat' split
      all_goals omega
    omega
  have hks2 := hks.ext hE
  simp (disch := first | (simp only [push_cast]; done) | omega) only [push_cast, h2.ld4, hks2.iaddr]
  refine hks2.load g_impl_Term (by omega) fun x0 hx0 => ?_
  refine ih (M.kid t 0) (M.kid_mem (by omega)) hd2 hok hx0 fun w3 he3 => ?_
  have h3 := h2.ext he3
  have hE3 := hE.trans he3
  have hks3 := hks.ext hE3
  have hr0 := M.sort_range hok (M.kid t 0)
  simp (disch := first | (simp only [push_cast]; done) | omega) only [push_cast, h3.ld4, hks3.len]
  refine vif_dec (fun l1 => ?_) (fun l1 => ?_)
  · rw [h3.ldAgg (t := T_impl_Term) g_impl_Term]
    refine l2One_spec (F := G) (t := t) ⟨ksv, rfl, hks3⟩ hr0 fun w4 he4 => ?_
    exact hk _ _ (M.sort_one hok hf (by omega)) (hE3.trans he4)
  simp (disch := first | (simp only [push_cast]; done) | omega) only [push_cast, h3.ld4, hks3.iaddr]
  refine hks3.load g_impl_Term (by omega) fun x1 hx1 => ?_
  refine ih (M.kid t 1) (M.kid_mem (by omega)) (hd.ext hE3) hok hx1 fun w4 he4 => ?_
  have h4 := h3.ext he4
  have hE4 := hE3.trans he4
  have hks4 := hks.ext hE4
  have hr1 := M.sort_range hok (M.kid t 1)
  simp (disch := first | (simp only [push_cast]; done) | omega) only [push_cast, h4.ld4, h4.ld0, hks4.len]
  refine vif_dec (fun l2 => ?_) (fun l2 => ?_)
  · refine l2Both_spec hr0 hr1 ?_
    exact hk _ _ (M.sort_two hok hf (by omega)) hE4
  have hs3 := M.sort_three (ds := ds) hf (by omega)
  refine vif_dec (fun z => ?_) (fun z => ?_)
  · exact hk _ _ (by rw [hs3, if_pos (.inl z)]) hE4
  simp (disch := first | (simp only [push_cast]; done) | omega) only [push_cast, h4.ld4, hks4.iaddr]
  refine hks4.load g_impl_Term (by omega) fun x2 hx2 => ?_
  refine ih (M.kid t 2) (M.kid_mem (by omega)) (hd.ext hE4) hok hx2 fun w5 he5 => ?_
  simp only [push_cast]
  refine vif_dec (fun z2 => ?_) (fun z2 => ?_)
  · exact hk _ _ (by rw [hs3, if_pos (.inr z2)]) (hE4.trans he5)
  · exact hk _ _ (by rw [hs3, if_neg (fun h => h.elim z z2)]) (hE4.trans he5)
def Sized (ds : List M.Dcl) : Prop := ∀ i, i < ds.length → (ds.getD i dcl0).1.size ≤ 9223372036854775807
theorem spec_TermSort_spec {dv v : Value} {ds : List M.Dcl} {t : M.Tm} (hsz : Sized ds) (hd : DclsR F w dv ds) (ht : TermR G w v t) (hK : ∀ w', Ext w w' → K (.int .i64 (M.tsort ds t)) w') : vcall PP n_spec_TermSort #[dv, v] w K := by
  apply c_spec_TermSort; unfold F_spec_TermSort
  obtain ⟨cs, rfl, hcs⟩ := ht.cells
  refine vbox_agg fun b1 w1 hb1 he1 hs1 h1 => ?_
  rw [h1.ldAgg (t := T_impl_Term) (by rw [tmR_len hcs]; exact g_impl_Term)]
  refine spec_TermMany_spec t (hcs.ext he1).term fun w2 he2 => ?_
  simp only [push_cast]
  have hE2 := he1.trans he2
  refine spec_DeclOk_spec (hd.ext hE2) hsz fun w3 he3 => ?_
  have hE3 := hE2.trans he3
  have hk := hK w3 hE3
  unfold M.tsort at hk
  simp only [push_cast]
  refine vif_bool (fun a => ?_) (fun a => ?_)
  · rwa [if_neg (fun h => by rw [h.2] at a; cases a)] at hk
  rw [Bool.not_eq_false'] at a
  refine vif_dec (fun b => ?_) (fun b => ?_)
  · rw [if_neg (fun h => by
      have h1 := M.fits_iff.1 h.1
      unfold M.manyM at b
      rw [if_pos h.1] at b; omega)] at hk
    exact hk
  have hf : M.fits t = true := by
    by_cases h : M.fits t = true
    · exact h
    · unfold M.manyM at b
      rw [if_neg h] at b; omega
  refine vif_dec (fun c => ?_) (fun c => ?_)
  · unfold M.lvlM at c
    rw [if_pos hf] at c
    have := M.fits_iff.1 hf
    omega
  have h3 := (h1.ext he2).ext he3
  rw [h3.ldAgg (t := T_impl_Term) (by rw [tmR_len hcs]; exact g_impl_Term)]
  refine l2Sort_spec t (hd.ext hE3) a (hcs.ext hE3).term fun w4 he4 => ?_
  have := hK w4 (hE3.trans he4)
  unfold M.tsort at this
  rwa [if_pos ⟨hf, a⟩] at this
theorem l2Bool_spec {b : Bool} (hK : K (.int .i64 (M.b2i b)) w) : vcall PP n_spec_l2Bool #[.bool b] w K := by
  apply c_spec_l2Bool; unfold F_spec_l2Bool
  refine vif_bool (fun h => ?_) (fun h => ?_) <;> subst h <;> exact hK
def EnvX (H : Nat → Prop) (w : World) (ev : Value) (env : List Int) (t : M.Tm) : Prop := Ints H w ev env ∨ nnB t = true
theorem envX_ext {H : Nat → Prop} {ev : Value} {env : List Int} {t : M.Tm} {w w' : World} (h : EnvX H w ev env t) (he : Ext w w') : EnvX H w' ev env t := h.imp (fun h => h.ext he) id
theorem envX_kid {H : Nat → Prop} {ev : Value} {env : List Int} {t k : M.Tm} (h : EnvX H w ev env t) (hk : k ∈ t.ks) : EnvX H w ev env k := h.imp id fun h => (nnB_iff.1 h).2 k hk
theorem envX_ints {H : Nat → Prop} {ev : Value} {env : List Int} {t : M.Tm} (h : EnvX H w ev env t) (ho : t.op = 21) : Ints H w ev env := h.elim id fun h => absurd ho (nnB_iff.1 h).1
def EvalOk (t : M.Tm) : Prop := ∀ {w : World} {K : Value → World → Prop} {F G H : Nat → Prop} {dv v ev : Value} {ds : List M.Dcl} {env : List Int}, DclsR F w dv ds → M.envOk ds env = true → TermR G w v t → EnvX H w ev env t → M.sortM ds t ≠ -1 → (∀ w', Ext w w' → K (.int .i64 (M.evalM ds env t)) w') → vcall PP n_spec_l2Eval #[dv, v, ev] w K
theorem l2Vec_spec {t : M.Tm} (ih : EvalOk t) {H : Nat → Prop} {dv v ev : Value} {ds : List M.Dcl} {env : List Int} (hd : DclsR F w dv ds) (he : M.envOk ds env = true) (ht : TermR G w v t) (hx : EnvX H w ev env t) (hs : M.sortM ds t ≠ -1) (hK : ∀ w', Ext w w' → K (VecV (M.sortM ds t) (M.evalM ds env t)) w') : vcall PP n_spec_l2Vec #[dv, v, ev] w K := by
  apply c_spec_l2Vec; unfold F_spec_l2Vec
  obtain ⟨cs, rfl, hcs⟩ := ht.cells
  refine vbox_agg fun b1 w1 hb1 he1 hs1 h1 => ?_
  refine valloc_agg zr_impl_Vec fun b2 w2 hb2 he2 hs2 h2 => ?_
  refine vdraw_ext fun w3 he3 _ => ?_
  have q3 := (h1.ext he2).ext he3
  have hE3 := (he1.trans he2).trans he3
  have hg : aggB PP T_impl_Term cs.length = true := by rw [tmR_len hcs]; exact g_impl_Term
  rw [q3.ldAgg (t := T_impl_Term) hg]
  refine ⟨rfl, ?_⟩
  rw [q3.ldAgg (t := T_impl_Term) hg]
  refine ⟨rfl, l2Sort_spec t (hd.ext hE3) (M.env_ok he).1 (hcs.ext hE3).term fun w4 he4 => ?_⟩
  rw [(q3.ext he4).ldAgg (t := T_impl_Term) hg]
  have hE4 := hE3.trans he4
  refine ⟨⟨rfl, rfl⟩, ih (hd.ext hE4) he (hcs.ext hE4).term (envX_ext hx hE4) hs fun w5 he5 => ?_⟩
  simp only [push_cast, true_and]
  refine stVec (((h2.ext he3).ext he4).ext he5) fun w6 hw6 _ h6 => ?_
  rw [h6.lv (by kernel_rfl)]
  exact hK _ (Ext.then (hE4.trans he5) hw6 fun y hy => by subst hy; have := he1.size; omega)
theorem l2Do_spec {t : M.Tm} (ih : ∀ k, k ∈ t.ks → EvalOk k) {H : Nat → Prop} {dv v ev : Value} {ds : List M.Dcl} {env : List Int} (hd : DclsR F w dv ds) (he : M.envOk ds env = true) (ht : TermR G w v t) (hx : EnvX H w ev env t) (hs : M.sortM ds t ≠ -1)
    (ho : (1 ≤ t.op ∧ t.op ≤ 17) ∨ t.op = 22) (hK : ∀ w', Ext w w' → K (.int .i64 (M.evalM ds env t)) w') : vcall PP n_spec_l2Do #[dv, v, ev] w K := by
  apply c_spec_l2Do; unfold F_spec_l2Do
  obtain ⟨ksv, rfl, hks⟩ := ht
  have hkl : 1 ≤ t.ks.length := by
    rcases (by omega : t.op = 22 ∨ (t.op = 1 ∨ t.op = 2) ∨ (3 ≤ t.op ∧ t.op ≤ 14) ∨ (15 ≤ t.op ∧ t.op ≤ 17)) with h | h | h | h
    · have := (M.eval_cut he hs h).1; omega
    · have := (M.eval_un he hs h).1; omega
    · have := (M.eval_bin he hs h.1 h.2).1; omega
    · have := (M.eval_cmp he hs h.1 h.2).1; omega
  refine vbox_agg fun b1 w1 hb1 he1 hs1 h1 => ?_
  have hks1 := hks.ext he1
  simp (disch := first | (simp only [push_cast]; done) | omega) only [push_cast, h1.ld4, hks1.iaddr]
  refine hks1.load g_impl_Term (by omega) fun x0 hx0 => ?_
  refine l2Vec_spec (ih (M.kid t 0) (M.kid_mem (by omega))) (hd.ext he1) he hx0 (envX_kid (envX_ext hx he1) (M.kid_mem (by omega))) (M.good_kid hs (by omega)) fun w2 he2 => ?_
  refine valloc_agg zr_impl_Vec fun b2 w3 hb2 he3 hs3 h3 => ?_
  refine stVec h3 fun w4 hw4 _ h4 => ?_
  have hz1 := he1.size
  have hz2 := he2.size
  have hE4 : Ext w w4 := Ext.then ((he1.trans he2).trans he3) hw4 fun y hy => by subst hy; omega
  have hl1 := h1.lt
  have q4 := ((h1.ext he2).ext he3).same hw4 (by omega)
  simp (disch := (simp only [push_cast]; done)) only [push_cast, q4.ld0]
  refine vif_dec (fun c22 => ?_) (fun c22 => ?_)
  · obtain ⟨hl, hv, hev⟩ := M.eval_cut he hs c22
    simp (disch := (simp only [push_cast]; done)) only [push_cast, h4.ldAgg (t := T_impl_Vec) g_impl_Vec, q4.ld1, q4.ld2]
    refine spec_VecCut_spec fun w5 he5 => ?_
    simp only [push_cast]
    refine valloc_agg zr_impl_Vec fun b3 w6 hb3 he6 hs6 h6 => ?_
    refine stVec h6 fun w7 hw7 _ h7 => ?_
    simp (disch := (simp only [push_cast]; done)) only [push_cast, h7.ld1]
    have := hK w7 (Ext.then ((hE4.trans he5).trans he6) hw7 fun y hy => by subst hy; have := (hE4.trans he5).size; omega)
    rwa [hev] at this
  have hks4 := hks.ext hE4
  simp (disch := (simp only [push_cast]; done)) only [push_cast, q4.ld4, hks4.len]
  refine vif_dec (fun l1 => ?_) (fun l1 => ?_)
  · have hop : t.op = 1 ∨ t.op = 2 := by
      rcases (by omega : (t.op = 1 ∨ t.op = 2) ∨ (3 ≤ t.op ∧ t.op ≤ 14) ∨ (15 ≤ t.op ∧ t.op ≤ 17)) with h | h | h
      · exact h
      · have := (M.eval_bin he hs h.1 h.2).1; omega
      · have := (M.eval_cmp he hs h.1 h.2).1; omega
    obtain ⟨hl, hv, hev⟩ := M.eval_un he hs hop
    simp (disch := (simp only [push_cast]; done)) only [push_cast, h4.ldAgg (t := T_impl_Vec) g_impl_Vec, q4.ld0]
    refine spec_VecUn_spec fun w5 he5 => ?_
    simp only [push_cast]
    refine valloc_agg zr_impl_Vec fun b3 w6 hb3 he6 hs6 h6 => ?_
    refine stVec h6 fun w7 hw7 _ h7 => ?_
    simp (disch := (simp only [push_cast]; done)) only [push_cast, h7.ld1]
    have := hK w7 (Ext.then ((hE4.trans he5).trans he6) hw7 fun y hy => by subst hy; have := (hE4.trans he5).size; omega)
    rwa [hev] at this
  have hop : 3 ≤ t.op ∧ t.op ≤ 17 := by
    rcases (by omega : (t.op = 1 ∨ t.op = 2) ∨ (3 ≤ t.op ∧ t.op ≤ 17)) with h | h
    · have := (M.eval_un he hs h).1; omega
    · exact h
  have hl2 : t.ks.length = 2 := by
    rcases (by omega : (3 ≤ t.op ∧ t.op ≤ 14) ∨ (15 ≤ t.op ∧ t.op ≤ 17)) with h | h
    · exact (M.eval_bin he hs h.1 h.2).1
    · exact (M.eval_cmp he hs h.1 h.2).1
  simp (disch := first | (simp only [push_cast]; done) | omega) only [push_cast, q4.ld4, hks4.iaddr]
  refine hks4.load g_impl_Term (by omega) fun x1 hx1 => ?_
  refine l2Vec_spec (ih (M.kid t 1) (M.kid_mem (by omega))) (hd.ext hE4) he hx1 (envX_kid (envX_ext hx hE4) (M.kid_mem (by omega))) (M.good_kid hs (by omega)) fun w5 he5 => ?_
  refine valloc_agg zr_impl_Vec fun b3 w6 hb3 he6 hs6 h6 => ?_
  refine stVec h6 fun w7 hw7 _ h7 => ?_
  have hz4 := hE4.size
  have hz5 := he5.size
  have hE7 : Ext w w7 := Ext.then ((hE4.trans he5).trans he6) hw7 fun y hy => by subst hy; omega
  have hl4 := h4.lt
  have hl4' := q4.lt
  have q7 := ((q4.ext he5).ext he6).same hw7 (by omega)
  have p7 := ((h4.ext he5).ext he6).same hw7 (by omega)
  simp (disch := (simp only [push_cast]; done)) only [push_cast, q7.ld0]
  refine vif_dec (fun c15 => ?_) (fun c15 => ?_)
  · obtain ⟨_, _, _, hev⟩ := M.eval_cmp he hs (by omega) hop.2
    simp (disch := (simp only [push_cast]; done)) only [push_cast, p7.ldAgg (t := T_impl_Vec) g_impl_Vec, h7.ldAgg (t := T_impl_Vec) g_impl_Vec, q7.ld0]
    refine spec_VecCmp_spec fun w8 he8 => ?_
    simp only [push_cast]
    refine l2Bool_spec ?_
    have := hK _ (hE7.trans he8)
    rwa [hev] at this
  · obtain ⟨_, _, _, hev⟩ := M.eval_bin he hs hop.1 (by omega)
    simp (disch := (simp only [push_cast]; done)) only [push_cast, p7.ldAgg (t := T_impl_Vec) g_impl_Vec, h7.ldAgg (t := T_impl_Vec) g_impl_Vec, q7.ld0]
    refine spec_VecBin_spec fun w8 he8 => ?_
    simp only [push_cast]
    refine valloc_agg zr_impl_Vec fun b4 w9 hb4 he9 hs9 h9 => ?_
    refine stVec h9 fun w10 hw10 _ h10 => ?_
    simp (disch := (simp only [push_cast]; done)) only [push_cast, h10.ld1]
    have := hK w10 (Ext.then ((hE7.trans he8).trans he9) hw10 fun y hy => by subst hy; have := (hE7.trans he8).size; omega)
    rwa [hev] at this
theorem l2Eval_spec : ∀ (t : M.Tm), EvalOk t := by
  refine M.Tm.ind fun t ih => ?_
  intro w K F G H dv v ev ds env hd he ht hx hs hK
  apply c_spec_l2Eval; unfold F_spec_l2Eval
  obtain ⟨ksv, rfl, hks⟩ := ht
  refine vbox_agg fun b1 w1 hb1 he1 hs1 h1 => ?_
  have hks1 := hks.ext he1
  have hk : ∀ c w', M.evalM ds env t = c → Ext w w' → K (.int .i64 c) w' := fun c w' e he => e ▸ hK _ he
  have hops := M.arity_ops (o := t.op) (by have := (M.formed_iff.1 (M.sort_parts hs).1).1; omega)
  simp (disch := (simp only [push_cast]; done)) only [push_cast, h1.ld0]
  refine vif_dec (fun c20 => ?_) (fun c20 => ?_)
  · simp (disch := (simp only [push_cast]; done)) only [push_cast, h1.ld2]
    exact hk _ _ (by rw [M.eval_leaf (.inl c20), if_pos c20]) he1
  refine vif_dec (fun c21 => ?_) (fun c21 => ?_)
  · have hfd := M.findD_lt ds t.s
    have hf0 := M.name_found hs c21
    have hel := (M.env_ok he).2.1
    have hx1 := (envX_ints hx c21).ext he1
    simp (disch := (simp only [push_cast]; done)) only [push_cast, h1.ld3]
    refine l2Find_spec (hd.ext he1) ?_
    simp (disch := first | (simp only [push_cast]; done) | omega) only [push_cast, hx1.iaddr, hx1.load]
    exact hk _ _ (by rw [M.eval_leaf (.inr (.inl c21)), if_neg c20, if_pos c21]) he1
  refine vif_dec (fun c24 => ?_) (fun c24 => ?_)
  · exact hk _ _ (by rw [M.eval_leaf (.inr (.inr c24)), if_neg c20, if_neg c21]) he1
  refine vif_dec (fun c25 => ?_) (fun c25 => ?_)
  · obtain ⟨hl, hb, hev⟩ := M.eval_no he hs c25
    simp (disch := first | (simp only [push_cast]; done) | omega) only [push_cast, h1.ld4, hks1.iaddr]
    refine hks1.load g_impl_Term (by omega) fun x0 hx0 => ?_
    refine ih (M.kid t 0) (M.kid_mem (by omega)) (hd.ext he1) he hx0 (envX_kid (envX_ext hx he1) (M.kid_mem (by omega))) (M.good_kid hs (by omega)) fun w2 he2 => ?_
    simp only [push_cast]
    have hb2 := M.inS_zero hb
    rw [wrap64 (by omega) (by omega)]
    exact hk _ _ hev (he1.trans he2)
  refine vif_dec (fun c26 => ?_) (fun c26 => ?_)
  · obtain ⟨hl, hb, hb', hev⟩ := M.eval_two he hs (.inl c26)
    rw [if_pos c26] at hev
    refine vdraw_ext fun w2 he2 _ => ?_
    have h2 := h1.ext he2
    have hE2 := he1.trans he2
    have hks2 := hks.ext hE2
    simp (disch := first | (simp only [push_cast]; done) | omega) only [push_cast, h2.ld4, hks2.iaddr, true_and]
    obtain ⟨css, hsl, hcl, hci⟩ := hks2
    rw [hsl.ldAgg g_impl_Term (i := 0) (by omega)]
    simp only [true_and]
    rw [hsl.ldAgg g_impl_Term (i := 1) (by omega)]
    simp only [true_and]
    refine ih (M.kid t 0) (M.kid_mem (by omega)) (hd.ext hE2) he (hci 0 (by omega)).term (envX_kid (envX_ext hx hE2) (M.kid_mem (by omega))) (M.good_kid hs (by omega)) fun w3 he3 => ?_
    have h3 := h2.ext he3
    have hks3 := hks.ext (hE2.trans he3)
    have hsl3 := hsl.ext he3
    simp (disch := first | (simp only [push_cast]; done) | omega) only [push_cast, h3.ld4, hks3.iaddr, true_and]
    rw [hsl3.ldAgg g_impl_Term (i := 1) (by omega)]
    refine ⟨⟨rfl, rfl⟩, ?_⟩
    try simp only [true_and, and_self]
    refine ih (M.kid t 1) (M.kid_mem (by omega)) (hd.ext (hE2.trans he3)) he ((hci 1 (by omega)).ext he3).term (envX_kid (envX_ext hx (hE2.trans he3)) (M.kid_mem (by omega))) (M.good_kid hs (by omega)) fun w4 he4 => ?_
    simp only [push_cast, true_and]
    have e : IntKind.i64.wrap (M.evalM ds env (M.kid t 0) * M.evalM ds env (M.kid t 1)) = M.evalM ds env (M.kid t 0) * M.evalM ds env (M.kid t 1) := by
      rcases M.inS_zero hb with e | e <;> rcases M.inS_zero hb' with e' | e' <;> rw [e, e'] <;> rfl
    rw [e]
    exact hk _ _ hev ((hE2.trans he3).trans he4)
  refine vif_dec (fun c27 => ?_) (fun c27 => ?_)
  · obtain ⟨hl, hb, hb', hev⟩ := M.eval_two he hs (.inr c27)
    rw [if_neg c26] at hev
    refine vdraw_ext fun w2 he2 _ => ?_
    have h2 := h1.ext he2
    have hE2 := he1.trans he2
    have hks2 := hks.ext hE2
    simp (disch := first | (simp only [push_cast]; done) | omega) only [push_cast, h2.ld4, hks2.iaddr, true_and]
    obtain ⟨css, hsl, hcl, hci⟩ := hks2
    rw [hsl.ldAgg g_impl_Term (i := 0) (by omega)]
    simp only [true_and]
    rw [hsl.ldAgg g_impl_Term (i := 1) (by omega)]
    simp only [true_and]
    refine ih (M.kid t 0) (M.kid_mem (by omega)) (hd.ext hE2) he (hci 0 (by omega)).term (envX_kid (envX_ext hx hE2) (M.kid_mem (by omega))) (M.good_kid hs (by omega)) fun w3 he3 => ?_
    have h3 := h2.ext he3
    have hks3 := hks.ext (hE2.trans he3)
    have hsl3 := hsl.ext he3
    simp (disch := first | (simp only [push_cast]; done) | omega) only [push_cast, h3.ld4, hks3.iaddr, true_and]
    rw [hsl3.ldAgg g_impl_Term (i := 1) (by omega)]
    refine ⟨⟨rfl, rfl⟩, ?_⟩
    try simp only [true_and, and_self]
    refine ih (M.kid t 1) (M.kid_mem (by omega)) (hd.ext (hE2.trans he3)) he ((hci 1 (by omega)).ext he3).term (envX_kid (envX_ext hx (hE2.trans he3)) (M.kid_mem (by omega))) (M.good_kid hs (by omega)) fun w4 he4 => ?_
    refine l1Max_spec ?_
    exact hk _ _ hev ((hE2.trans he3).trans he4)
  refine vif_dec (fun c23 => ?_) (fun c23 => ?_)
  · obtain ⟨hl, hb, hev⟩ := M.eval_if he hs c23
    simp (disch := first | (simp only [push_cast]; done) | omega) only [push_cast, h1.ld4, hks1.iaddr]
    refine hks1.load g_impl_Term (by omega) fun x0 hx0 => ?_
    refine ih (M.kid t 0) (M.kid_mem (by omega)) (hd.ext he1) he hx0 (envX_kid (envX_ext hx he1) (M.kid_mem (by omega))) (M.good_kid hs (by omega)) fun w2 he2 => ?_
    have h2 := h1.ext he2
    have hE2 := he1.trans he2
    have hks2 := hks.ext hE2
    simp only [push_cast]
    refine vif_dec (fun b => ?_) (fun b => ?_)
    · rw [if_pos b] at hev
      simp (disch := first | (simp only [push_cast]; done) | omega) only [push_cast, h2.ld4, hks2.iaddr]
      refine hks2.load g_impl_Term (by omega) fun x1 hx1 => ?_
      refine ih (M.kid t 1) (M.kid_mem (by omega)) (hd.ext hE2) he hx1 (envX_kid (envX_ext hx hE2) (M.kid_mem (by omega))) (M.good_kid hs (by omega)) fun w3 he3 => ?_
      exact hk _ _ hev (hE2.trans he3)
    · rw [if_neg b] at hev
      simp (disch := first | (simp only [push_cast]; done) | omega) only [push_cast, h2.ld4, hks2.iaddr]
      refine hks2.load g_impl_Term (by omega) fun x1 hx1 => ?_
      refine ih (M.kid t 2) (M.kid_mem (by omega)) (hd.ext hE2) he hx1 (envX_kid (envX_ext hx hE2) (M.kid_mem (by omega))) (M.good_kid hs (by omega)) fun w3 he3 => ?_
      exact hk _ _ hev (hE2.trans he3)
  · rw [h1.ldAgg (t := T_impl_Term) g_impl_Term]
    refine l2Do_spec (G := G) (t := t) (fun k hk => ih k hk) (hd.ext he1) he ⟨ksv, rfl, hks1⟩ (envX_ext hx he1) hs (by omega) fun w2 he2 => ?_
    exact hK _ (he1.trans he2)
end Go.Proofs.YtcfgmgjofmbfhaaGreatDoor
end
section
namespace Go.Proofs.YtcfgmgjofmbfhaaGreatDoor
open Go Go.Vc Go.Proofs
variable {w : World} {K : Value → World → Prop} {F Fr F' : Nat → Prop}
def Bytes (F : Nat → Prop) (w : World) (v : Value) (xs : List Nat) : Prop := Vals F w v (xs.map fun x => Value.int .u8 (x : Nat)) ∧ ∀ x, x ∈ xs → x < 256
theorem Bytes.same {S : Nat → Prop} {w' : World} {v : Value} {xs : List Nat} (h : Bytes F w v xs) (hw : Same S w w') (hs : ∀ b, F b → b < w.heap.size → ¬ S b) : Bytes F w' v xs := ⟨h.1.same hw hs, h.2⟩
theorem Bytes.ext {w' : World} {v : Value} {xs : List Nat} (h : Bytes F w v xs) (hw : Ext w w') : Bytes F w' v xs := ⟨h.1.ext hw, h.2⟩
theorem Bytes.load {v : Value} {xs : List Nat} (h : Bytes F w v xs) {e : TypeId} (he : oneB PP e = true) {i : Nat} (hi : i < xs.length) : vload PP e (.pointer (some (eaddr v 1 i))) w K = K (.int .u8 (xs.getD i 0 : Nat)) w := by
  rw [Vals.load h.1 he (by simpa using hi)]
  simp [List.getD_eq_getElem?_getD, hi]
theorem Bytes.len {w' : World} {v : Value} {xs : List Nat} (h : Bytes F w v xs) {t : TypeId} (ht : isSl PP t = true) (ty : TypeId) : vbi PP .len [t] ty [v] w' K = K (.int .i64 xs.length) w' := by
  have := Vals.len (K := K) (w' := w') h.1 ht ty; rwa [List.length_map] at this
theorem Bytes.iaddr {w' : World} {v : Value} {xs : List Nat} (h : Bytes F w v xs) {t : TypeId} (ht : elB PP t 1 = true) {kd : IntKind} {i : Int} (h0 : 0 ≤ i) (h1 : i < xs.length) :
    viaddr PP t v (.int kd i) w' K = K (.pointer (some (eaddr v 1 i.toNat))) w' := Vals.iaddr h.1 ht h0 (by simpa using h1)
theorem Bytes.small {v : Value} {xs : List Nat} (h : Bytes F w v xs) : xs.length ≤ 9223372036854775807 := by
  obtain ⟨_, _, _, h1, h2, _⟩ := h.1.shape; simp at h1; omega
structure RdR (F : Nat → Prop) (w : World) (b : Nat) (v : Value) (xs : List Nat) (p : Nat) : Prop where
  blk : Blk w b [v, .int .i64 p] T_spec_l12Rd
  bytes : Bytes F w v xs
  apart : ¬ F b
  few : xs.length ≤ 2000
theorem RdR.same {S : Nat → Prop} {w' : World} {b p : Nat} {v : Value} {xs : List Nat} (h : RdR F w b v xs p) (hw : Same S w w') (hb : ¬ S b) (hs : ∀ b, F b → b < w.heap.size → ¬ S b) : RdR F w' b v xs p :=
  ⟨h.blk.same hw hb, h.bytes.same hw hs, h.apart, h.few⟩
theorem RdR.ext {w' : World} {b p : Nat} {v : Value} {xs : List Nat} (h : RdR F w b v xs p) (hw : Ext w w') : RdR F w' b v xs p := h.same hw id fun _ _ _ h => h
theorem l12Open_spec {v : Value} {xs : List Nat} (hx : Bytes F w v xs) (hF : ∀ b, F b → b < w.heap.size)
    (hK : ∀ w' b v' ys, Ext w w' → RdR F w' b v' ys 0 → w.heap.size ≤ b → K (.pointer (some ⟨b, 0, none⟩)) w') : vcall PP n_spec_l12Open #[v] w K := by
  apply c_spec_l12Open; unfold F_spec_l12Open
  simp (disch := (simp only [push_cast]; done)) only [push_cast, hx.len]
  have fin : ∀ (v' : Value) (ys : List Nat), Bytes F w v' ys → ys.length ≤ 2000 → vbuild PP T_spec_l12Rd [(0, v')] w fun t9 w_4 => vbox PP T_spec_l12Rd t9 w_4 fun t10 w_5 => K t10 w_5 := fun v' ys hy hl => by
    refine vbuild_str b_spec_l12Rd (us := [[v']]) (by simp [hy.1.cells1]) rfl ?_
    refine vbox_new fun b w1 hb he1 hz1 hB => ?_
    exact hK w1 b v' ys he1 ⟨hB, hy.ext he1, fun h => by have := hF b h; omega, hl⟩ (by omega)
  refine vif_dec (fun a => ?_) (fun a => fin v xs hx (by omega))
  have hcut : vslice PP T_Luint8 v none (some (.int .i64 (2000 : Nat))) none w fun t7 w_3 => vbuild PP T_spec_l12Rd [(0, t7)] w_3 fun t9 w_4 => vbox PP T_spec_l12Rd t9 w_4 fun t10 w_5 => K t10 w_5 := by
    obtain ⟨a0, c0, rfl, hc, hcm, hcell⟩ := hx.1.shape
    rw [Sl.cut hx.1 (fun a l c e => ?_) e_Luint8 (by simp; omega)]
    · refine fin _ (xs.take 2000) ⟨⟨⟨a0, c0, ?_, ?_, hcm, fun hne => ?_⟩, fun y hy => ?_⟩, fun y hy => hx.2 y (List.mem_of_mem_take hy)⟩ (by simp; omega)
      · simp only [cutV, List.length_map, List.length_take]
        rw [Nat.min_eq_left (by omega)]
      · simp at hc ⊢; omega
      · obtain ⟨b, o, h1, h2, h3, h4⟩ := hcell (fun e => by simp at e; subst e; simp at a)
        refine ⟨b, o, h1, h2, h3, fun i hi => ?_⟩
        simp only [List.length_map, List.length_take] at hi
        have := h4 i (by simp; omega)
        have e : (((xs.take 2000).map fun x => Value.int .u8 (x : Nat)).map fun x => [x]).getD i [] = ((xs.map fun x => Value.int .u8 (x : Nat)).map fun x => [x]).getD i [] := by
          simp only [List.getD_eq_getElem?_getD, List.getElem?_map, List.getElem?_take]
          rw [if_pos (by omega)]
        rw [e]; exact this
      · obtain ⟨u, _, rfl⟩ := List.mem_map.1 hy; rfl
    · injection e with e1 e2 e3
      obtain ⟨b, o, h1, _⟩ := hcell (fun e => by simp at e; subst e; simp at a)
      exact ⟨b, o, by rw [h1] at e1; exact (Option.some.inj e1).symm⟩
  exact hcut
theorem pick_spec {b p : Nat} {v : Value} {xs : List Nat} {n : Int} (h : RdR F w b v xs p) (hn : n ≤ 1099511627776) (hp : p < 1099511627776)
    (hK : ∀ w' (k : Nat), Same (· = b) w w' → w'.heap.size = w.heap.size → RdR F w' b v xs (p + 1) → (1 ≤ n → (k : Int) < n) → (n < 1 → k = 0) → K (.int .i64 k) w') : vcall PP n_spec_l12Rd_pick #[.pointer (some ⟨b, 0, none⟩), .int .i64 n] w K := by
  apply c_spec_l12Rd_pick; unfold F_spec_l12Rd_pick
  have hfew := h.few
  simp (disch := (simp only [push_cast]; done)) only [push_cast, h.blk.ld1]
  have hinc : IntKind.i64.wrap ((p : Int) + 1) = ((p + 1 : Nat) : Int) := by rw [wrap64 (by omega) (by omega)]; omega
  rw [hinc]
  refine h.blk.st rfl rfl z_int rfl fun w1 hs1 hz1 hB1 => ?_
  have B1 : Blk w1 b [v, .int .i64 (p + 1 : Nat)] T_spec_l12Rd := hB1
  have hR : RdR F w1 b v xs (p + 1) := ⟨B1, h.bytes.same hs1 fun x hx _ e => h.apart (e ▸ hx), h.apart, h.few⟩
  have hx := hR.bytes
  refine vjoin_of (fun _ w' => w' = w1 ∧ 1 ≤ n ∧ xs.length ≠ 0) ?_ ?_
  · intro J hJ
    refine vif_dec (fun a => ?_) (fun a => ?_)
    · exact hK w1 0 hs1 hz1 hR (fun h => by omega) fun _ => rfl
    · simp (disch := (simp only [push_cast]; done)) only [push_cast, B1.ld0, hx.len]
      refine vif_dec (fun a2 => ?_) (fun a2 => ?_)
      · exact hK w1 0 hs1 hz1 hR (fun h => by omega) fun _ => rfl
      · exact hJ _ _ ⟨rfl, by omega, by omega⟩
  rintro _ _ _ ⟨rfl, h1, hne⟩
  simp (disch := (simp only [push_cast]; done)) only [B1.ld0, B1.ld1, vnil_ptr, fa_spec_l12Rd_0, fa_spec_l12Rd_1, addr_add, Nat.zero_add, vbin_sub, hx.len]
  rw [show ((p + 1 : Nat) : Int) - 1 = (p : Int) from by omega, wrap64 (by omega) (by omega)]
  simp only [vbin_lss]
  have hget : ∀ i, i < xs.length → xs.getD i 0 < 256 := fun i hi => hx.2 _ (by rw [List.getD_eq_getElem?_getD, List.getElem?_eq_getElem hi]; exact List.getElem_mem hi)
  have hmod : ∀ x : Nat, ((x : Int).tmod n) = ((x % n.toNat : Nat) : Int) ∧ ((x % n.toNat : Nat) : Int) < n := fun x => by
    obtain ⟨m, rfl⟩ : ∃ m : Nat, n = m := ⟨n.toNat, by omega⟩
    rw [Int.toNat_natCast]
    exact ⟨rfl, by have := Nat.mod_lt x (show 0 < m by omega); omega⟩
  refine vif_dec (fun a => ?_) (fun a => ?_)
  · simp (disch := first | (simp only [push_cast]; done) | omega) only [B1.ld0, hx.iaddr, Int.toNat_natCast, hx.load, vconv_int sm_uint8 ik_int]
    have hb := hget p (by omega)
    rw [wrap64 (by omega) (by omega), vbin_rem (by omega)]
    obtain ⟨m1, m2⟩ := hmod (xs.getD p 0)
    rw [m1]
    exact hK _ _ hs1 hz1 hR (fun _ => m2) fun h => by omega
  · refine vdraw_ext fun w2 he2 hheap => ?_
    have B2 := B1.ext he2
    have hx2 := hx.ext he2
    have hl0 : (xs.length : Int) ≠ 0 := by omega
    have e1 : ((p : Int).tmod xs.length) = ((p % xs.length : Nat) : Int) := by rw [Int.tmod_eq_emod_of_nonneg (by omega)]; rfl
    have l1 : p % xs.length < xs.length := Nat.mod_lt _ (by omega)
    have e2 : IntKind.i64.wrap ((p : Int) * 7) = ((p * 7 : Nat) : Int) := by rw [wrap64 (by omega) (by omega)]; omega
    have e3 : IntKind.i64.wrap (((p * 7 : Nat) : Int) + 3) = ((p * 7 + 3 : Nat) : Int) := by rw [wrap64 (by omega) (by omega)]; omega
    have e4 : (((p * 7 + 3 : Nat) : Int).tmod xs.length) = (((p * 7 + 3) % xs.length : Nat) : Int) := by rw [Int.tmod_eq_emod_of_nonneg (by omega)]; rfl
    have l2 : (p * 7 + 3) % xs.length < xs.length := Nat.mod_lt _ (by omega)
    have b1 := hget _ l1
    have b2 := hget _ l2
    generalize hx1 : xs.getD (p % xs.length) 0 = x1 at b1
    generalize hx2' : xs.getD ((p * 7 + 3) % xs.length) 0 = x2 at b2
    have e5 : IntKind.i64.wrap ((x1 : Nat) : Int) = ((x1 : Nat) : Int) := wrap64 (by omega) (by omega)
    have e6 : IntKind.i64.wrap ((x2 : Nat) : Int) = ((x2 : Nat) : Int) := wrap64 (by omega) (by omega)
    have e7 : IntKind.i64.wrap (((x1 : Nat) : Int) * 131) = ((x1 * 131 : Nat) : Int) := by rw [wrap64 (by omega) (by omega)]; omega
    have e8 : IntKind.i64.wrap (((x2 : Nat) : Int) * 1117) = ((x2 * 1117 : Nat) : Int) := by rw [wrap64 (by omega) (by omega)]; omega
    have e9 : IntKind.i64.wrap (((x1 * 131 : Nat) : Int) + ((x2 * 1117 : Nat) : Int)) = ((x1 * 131 + x2 * 1117 : Nat) : Int) := by rw [wrap64 (by omega) (by omega)]; omega
    have e10 : IntKind.i64.wrap ((p : Int) * 29) = ((p * 29 : Nat) : Int) := by rw [wrap64 (by omega) (by omega)]; omega
    have e11 : IntKind.i64.wrap (((x1 * 131 + x2 * 1117 : Nat) : Int) + ((p * 29 : Nat) : Int)) = ((x1 * 131 + x2 * 1117 + p * 29 : Nat) : Int) := by rw [wrap64 (by omega) (by omega)]; omega
    obtain ⟨Q, hQ⟩ : ∃ Q, Q = p / xs.length := ⟨_, rfl⟩
    have hq : Q ≤ p := by rw [hQ]; exact Nat.div_le_self _ _
    have e12 : IntKind.i64.wrap ((p : Int).tdiv xs.length) = ((Q : Nat) : Int) := by
      have : (p : Int).tdiv xs.length = (Q : Int) := by rw [hQ]; rfl
      rw [this]; exact wrap64 (by omega) (by omega)
    have e13 : IntKind.i64.wrap (((Q : Nat) : Int) * 53) = ((Q * 53 : Nat) : Int) := by rw [wrap64 (by omega) (by omega)]; omega
    have e14 : IntKind.i64.wrap (((x1 * 131 + x2 * 1117 + p * 29 : Nat) : Int) + ((Q * 53 : Nat) : Int)) = ((x1 * 131 + x2 * 1117 + p * 29 + Q * 53 : Nat) : Int) := by rw [wrap64 (by omega) (by omega)]; omega
    simp (disch := first | (simp only [push_cast]; done) | omega) only [B2.ld0, vnil_ptr, fa_spec_l12Rd_0, addr_add, Nat.zero_add, true_and, hx2.len, vbin_rem hl0, vbin_quo hl0, vbin_mul, vbin_add, e1, e2, e3, e4, e12, hx2.iaddr, Int.toNat_natCast, hx2.load, hx1, hx2', vconv_int sm_uint8 ik_int, e5, e6, e7, e8, e9, e10, e11, e13, e14]
    have hX : x1 * 131 + x2 * 1117 + p * 29 + Q * 53 < 9223372036854775808 := by omega
    generalize x1 * 131 + x2 * 1117 + p * 29 + Q * 53 = X at hX ⊢
    have e15 : IntKind.i64.wrap ((X : Int).tdiv 64) = ((X / 64 : Nat) : Int) := by
      have : (X : Int).tdiv 64 = ((X / 64 : Nat) : Int) := rfl
      rw [this]; exact wrap64 (by omega) (by omega)
    rw [vbin_quo (by omega), e15, vbin_xor64 hX (by omega), vbin_rem (by omega)]
    obtain ⟨m1, m2⟩ := hmod (X ^^^ X / 64)
    rw [m1]
    exact hK _ _ (hs1.trans (Same.of_ext he2)) (by rw [hheap]; exact hz1) (hR.ext he2) (fun _ => m2) fun h => by omega
theorem num_spec {b p : Nat} {v vs : Value} {xs : List Nat} {ns : List Int} (h : RdR F w b v xs p) (hv : Ints F' w vs ns) (hne : ns ≠ []) (hsm : ns.length ≤ 1000) (hp : p < 1099511627776) (hF' : ∀ x, F' x → x ≠ b)
    (hK : ∀ w' m, Same (· = b) w w' → w'.heap.size = w.heap.size → RdR F w' b v xs (p + 1) → m ∈ ns → K (.int .i64 m) w') : vcall PP n_spec_l12Rd_num #[.pointer (some ⟨b, 0, none⟩), vs] w K := by
  apply c_spec_l12Rd_num; unfold F_spec_l12Rd_num
  have hpos := List.length_pos_iff.2 hne
  simp (disch := (simp only [push_cast]; done)) only [push_cast, hv.len]
  refine pick_spec h (by omega) hp fun w1 k hs hz hR h1 _ => ?_
  have hk := h1 (by omega)
  have hv1 := hv.same hs fun x hx _ e => hF' x hx e
  simp (disch := first | (simp only [push_cast]; done) | omega) only [push_cast, hv1.iaddr, hv1.load]
  exact hK w1 _ hs hz hR (M.getD_mem (by omega) _)
end Go.Proofs.YtcfgmgjofmbfhaaGreatDoor
end
section
namespace Go.Proofs.YtcfgmgjofmbfhaaGreatDoor
open Go Go.Vc Go.Proofs
variable {w : World} {K : Value → World → Prop} {F F' D : Nat → Prop}
@[push_cast] theorem bd_Decl (s : ByteArray) (n : Int) : vbuild PP T_impl_Decl [(0, .string s), (1, .int .i64 n)] w K = K (.agg ⟨[.string s, .int .i64 n]⟩) w := vbuild_eq b_impl_Decl (us := [[.string s], [.int .i64 n]]) rfl rfl
abbrev OwnD (w : World) (v : Value) (ds : List M.Dcl) : Prop := Own PP 0 2 T_Limpl_Decl w v (ds.map fun d => [.string d.1, .int .i64 d.2])
def Dok (ds : List M.Dcl) : Prop := ds.length ≤ 4 ∧ ∀ i, i < ds.length → 1 ≤ (ds.getD i dcl0).2 ∧ (ds.getD i dcl0).2 ≤ 4 ∧ (ds.getD i dcl0).1.size ≤ 1
theorem OwnD.dcls {v : Value} {ds : List M.Dcl} (h : OwnD w v ds) : DclsR (fun b => v.ownBlock = some b) w v ds := Own.sl h
def drawNames : List ByteArray := [⟨#[120]⟩, ⟨#[121]⟩, ⟨#[122]⟩, ⟨#[119]⟩]
set_option maxRecDepth 20000 in
theorem gd_ok {ds : List M.Dcl} (h : Dok ds) (hn : ds.map (·.1) = drawNames.take ds.length) (hb : M.bits ds ≤ 8) : M.declOk ds = true := by
  have hl := h.1
  have nm : ∀ i, i < ds.length → (ds.getD i (M.nada, 0)).1 = drawNames.getD i M.nada := fun i hi => by
    rw [← M.getD_map (·.1) hi M.nada (M.nada, 0), hn, M.take_getD hi]
  refine M.decl_iff.2 ⟨hl, fun i hi => ?_, hb⟩
  have hw := h.2 i hi
  have hap : ∀ j, j < i → (ds.getD j (M.nada, 0)).1 ≠ (ds.getD i (M.nada, 0)).1 := fun j hj => by
    rw [nm j (by omega), nm i hi]
    have : ∀ a b : Fin 4, b.1 < a.1 → drawNames.getD b.1 M.nada ≠ drawNames.getD a.1 M.nada := by decide
    exact this ⟨i, by omega⟩ ⟨j, by omega⟩ hj
  have hf : M.findD (ds.take i) (ds.getD i (M.nada, 0)).1 = -1 := M.findD_none fun j hj => by
    rw [List.length_take] at hj
    rw [M.take_getD (by omega)]
    exact hap j (by omega)
  have hk : M.nameOk (ds.getD i (M.nada, 0)).1 = true := by
    rw [nm i hi]
    have : ∀ a : Fin 4, M.nameOk (drawNames.getD a.1 M.nada) = true := by decide +kernel
    exact this ⟨i, by omega⟩
  unfold M.dclOk
  rw [hk, hf]
  have h1 : 1 ≤ (ds.getD i (M.nada, 0)).2 ∧ (ds.getD i (M.nada, 0)).2 ≤ 4 := ⟨hw.1, hw.2.1⟩
  rw [decide_eq_true h1.1, decide_eq_true h1.2]; rfl
set_option maxRecDepth 20000 in
theorem l2Decls_spec2 {b p : Nat} {v : Value} {xs : List Nat} (h : RdR F w b v xs p) (hF : ∀ x, F x → x < w.heap.size) (hp : p + 100 < 1099511627776)
    (hK : ∀ w' p' dv ds, Same (· = b) w w' → RdR F w' b v xs p' → p' ≤ p + 100 → DclsR (fun x => w.heap.size ≤ x) w' dv ds → Dok ds → M.declOk ds = true → K dv w') : vcall PP n_spec_l2Decls #[.pointer (some ⟨b, 0, none⟩)] w K := by
  apply c_spec_l2Decls; unfold F_spec_l2Decls
  have lb := h.blk.lt
  refine vbuildS_row1 (xs := drawNames.map .string) u_Lstring (by kernel_rfl) zr_string (fun x hx => by obtain ⟨s, _, rfl⟩ := List.mem_map.1 hx; rfl) (by decide) fun b1 w1 hb1 he1 hs1 hbl => ?_
  have hnm : Vals (· = b1) w1 (.slice (some ⟨b1, 0, none⟩) (drawNames.map Value.string).length (drawNames.map Value.string).length) (drawNames.map Value.string) := hbl.sl1 rfl (by decide)
  refine vbuildS_row (xs := []) (us := []) (k := 2) u_Limpl_Decl z_impl_Decl zr_impl_Decl rfl (by simp) (by decide) fun b2 w2 hb2 he2 hs2 h2 => ?_
  have ho : OwnD w2 (.slice (some ⟨b2, 0, none⟩) 0 0) [] := Blk.ownk (css := []) h2 (by simp) rfl (by decide)
  have hR2 := (h.ext he1).ext he2
  refine vloop_up 4 (fun i u w' => ∃ sv ds p' , ∃ bits : Int, u = [sv, .int .i64 bits, .int .i64 i] ∧ Same (· = b) w w' ∧ RdR F w' b v xs p' ∧ p' ≤ p + 2 * i ∧ OwnD w' sv ds ∧ (∀ x, sv.ownBlock = some x → w1.heap.size ≤ x) ∧ ds.length = i ∧ Dok ds ∧ 0 ≤ bits ∧ bits ≤ 4 * i ∧ Vals (· = b1) w' (.slice (some ⟨b1, 0, none⟩) (drawNames.map Value.string).length (drawNames.map Value.string).length) (drawNames.map Value.string) ∧ ds.map (·.1) = drawNames.take i ∧ bits = M.bits ds ∧ bits ≤ 8)
    ⟨_, [], p, 0, rfl, Same.of_ext (he1.trans he2), hR2, by omega, ho, fun x hx => by have e : x = b2 := (Option.some.inj hx).symm; omega, rfl, ⟨by simp, fun i hi => by simp at hi⟩, by omega, by omega, hnm.ext he2, rfl, rfl, by omega⟩ ?_
  rintro i _ _ w3 C hi ⟨sv, ds, p', bits, rfl, hs3, hR3, hp3, ho3, hn3, hl3, hd3, hb0, hb4, hv3, hnm3, hbt3, hb8⟩ hC
  have hz3 := hs3.size
  have hz1 := he1.size
  have hret : ∀ w4 p4, Same (· = b) w3 w4 → RdR F w4 b v xs p4 → p4 ≤ p + 2 * i + 2 → K sv w4 := fun w4 p4 hs hR hp4 => by
    refine hK w4 p4 sv ds (hs3.trans hs) hR (by omega) ?_ hd3 (gd_ok hd3 (by rw [hl3]; exact hnm3) (by omega))
    exact ((ho3.same hs fun x hx e => by have := hn3 x hx; omega).sl).weaken fun x hx _ => by have := hn3 x hx; omega
  refine vjoin_of (fun u w4 => u = [] ∧ Same (· = b) w3 w4 ∧ RdR F w4 b v xs (p' + 1) ∧ i < 4) (fun C' hC' => ?_) ?_
  · refine pick_spec hR3 (by omega) (by omega) fun w4 k hs4 hz4 hR4 hk _ => ?_
    have := hk (by omega)
    simp only [push_cast]
    rw [wrap64 (x := 1 + (k : Int)) (by omega) (by omega)]
    refine vif_dec (fun a => ?_) (fun a => ?_)
    · refine vif_dec (fun c => ?_) (fun c => ?_)
      · exact hC' _ _ ⟨rfl, hs4, hR4, by omega⟩
      · exact hret _ _ hs4 hR4 (by omega)
    · exact hret _ _ hs4 hR4 (by omega)
  · rintro u g w4 ⟨rfl, hs4, hR4, hi4⟩
    refine pick_spec hR4 (by omega) (by omega) fun w5 k hs5 hz5 hR5 hk _ => ?_
    have hk4 := hk (by omega)
    have hs35 := hs4.trans hs5
    simp only [push_cast]
    rw [wrap64 (x := 1 + (k : Int)) (by omega) (by omega), wrap64 (x := 8 - bits) (by omega) (by omega)]
    refine l1Min_spec ?_
    obtain ⟨n, hn⟩ : ∃ n : Int, n = min (1 + (k : Int)) (8 - bits) := ⟨_, rfl⟩
    rw [← hn]
    simp only [push_cast]
    refine vif_dec (fun a => ?_) (fun a => ?_)
    · exact hret _ _ hs35 hR5 (by omega)
    · have hv5 := hv3.same hs35 fun x hx _ e => by have := h.blk.lt; have := he1.size; omega
      have hlen : (drawNames.map Value.string).length = 4 := rfl
      have e1 : (drawNames.map Value.string).getD i undef = .string (drawNames.getD i ⟨#[]⟩) := M.getD_map _ (show i < drawNames.length from hi4) _ _
      rw [hv5.iaddr (by kernel_rfl) (by omega) (by rw [hlen]; omega), Int.toNat_natCast, hv5.load (by kernel_rfl) (by rw [hlen]; omega), e1]
      have hsz : (drawNames.getD i ⟨#[]⟩).size ≤ 1 := by
        rcases (by omega : i = 0 ∨ i = 1 ∨ i = 2 ∨ i = 3) with rfl | rfl | rfl | rfl <;> decide
      generalize hnm' : drawNames.getD i ⟨#[]⟩ = nm at hsz ⊢
      simp only [push_cast]
      refine vbuildS1 u_Limpl_Decl z_impl_Decl zr_impl_Decl rfl rfl (by decide) fun b3 w6 hb3 he6 hs6 h6 => ?_
      have ho6 := (ho3.same hs35 fun x hx e => by have := hn3 x hx; omega).ext he6
      refine Own.app1k ho6 l_Limpl_Decl (by decide) h6 rfl (by intro v hv; simp only [List.mem_cons, List.not_mem_nil, or_false] at hv; rcases hv with rfl | rfl <;> rfl) (by rw [List.length_map, hl3]; omega) (by rw [List.length_map, hl3]; omega) fun sv' w7 ho7 hw7 hn7 => ?_
      have hz5 := hs35.size
      have hz6 := he6.size
      have hs67 : Same (· = b) w w7 := by
        refine ⟨hw7.os.trans (he6.os.trans (hs35.os.trans hs3.os)), hw7.tape.trans (he6.tape.trans (hs35.tape.trans hs3.tape)), hw7.output.trans (he6.output.trans (hs35.output.trans hs3.output)), Nat.le_trans (((hs3.trans hs35).trans (Same.of_ext he6)).size) hw7.size, fun x hx hne => ?_⟩
        rw [hw7.block x (by have := ((hs3.trans hs35).trans (Same.of_ext he6)).size; omega) (fun e => by have := hn3 x e; omega)]
        exact ((hs3.trans hs35).trans (Same.of_ext he6)).block x hx hne
      have hR7 : RdR F w7 b v xs (p' + 1 + 1) := (hR5.ext he6).same hw7 (fun e => by have := hn3 b e; omega) fun x hx _ e => by have := hn3 x e; have := hF x hx; omega
      have hv7 := (hv5.ext he6).same hw7 (fun x hx _ e => by have := hn3 x e; omega)
      rw [inc64' (by omega), wrap64 (x := bits + n) (by omega) (by omega)]
      refine hC (by omega) _ _ ⟨sv', ds ++ [(nm, n)], p' + 1 + 1, bits + n, rfl, hs67, hR7, by omega, by rw [OwnD, List.map_append]; exact ho7, fun x hx => ?_, by rw [List.length_append]; simp [hl3], ⟨by rw [List.length_append]; simp; omega, fun j hj => ?_⟩, by omega, by omega, hv7, ?_, ?_, by omega⟩
      · rcases hn7 x hx with h | h
        · exact hn3 x h
        · omega
      · rw [List.length_append] at hj
        by_cases hj2 : j < ds.length
        · rw [List.getD_eq_getElem?_getD, List.getElem?_append_left hj2, ← List.getD_eq_getElem?_getD]
          exact hd3.2 j hj2
        · have : j = ds.length := by simp at hj; omega
          subst this
          rw [List.getD_eq_getElem?_getD, List.getElem?_append_right (by omega)]
          simp only [Nat.sub_self, List.getElem?_cons_zero, Option.getD_some]
          exact ⟨by omega, by omega, hsz⟩
      · rw [List.map_append, hnm3, M.take_add (show i < drawNames.length from hi4) ⟨#[]⟩, hnm']; rfl
      · rw [hbt3]; unfold M.bits; rw [List.map_append, List.sum_append]; simp
@[push_cast] theorem bd_T3 (o a b : Int) : vbuild PP T_impl_Term [(0, .int .i64 o), (1, .int .i64 a), (2, .int .i64 b)] w K = K (.agg ⟨[.int .i64 o, .int .i64 a, .int .i64 b, .string ⟨#[]⟩, .slice none 0 0]⟩) w := vbuild_eq b_impl_Term (us := [[.int .i64 o], [.int .i64 a], [.int .i64 b]]) rfl rfl
@[push_cast] theorem bd_T1 (o : Int) : vbuild PP T_impl_Term [(0, .int .i64 o)] w K = K (.agg ⟨[.int .i64 o, .int .i64 0, .int .i64 0, .string ⟨#[]⟩, .slice none 0 0]⟩) w := vbuild_eq b_impl_Term (us := [[.int .i64 o]]) rfl rfl
@[push_cast] theorem bd_Tn (o : Int) (s : ByteArray) : vbuild PP T_impl_Term [(0, .int .i64 o), (3, .string s)] w K = K (.agg ⟨[.int .i64 o, .int .i64 0, .int .i64 0, .string s, .slice none 0 0]⟩) w := vbuild_eq b_impl_Term (us := [[.int .i64 o], [.string s]]) rfl rfl
@[push_cast] theorem bd_Tk (o : Int) (a : Option Addr) (l c : Nat) : vbuild PP T_impl_Term [(0, .int .i64 o), (4, .slice a l c)] w K = K (.agg ⟨[.int .i64 o, .int .i64 0, .int .i64 0, .string ⟨#[]⟩, .slice a l c]⟩) w := vbuild_eq b_impl_Term (us := [[.int .i64 o], [.slice a l c]]) rfl rfl
@[push_cast] theorem bd_Tc (o x y : Int) (a : Option Addr) (l c : Nat) : vbuild PP T_impl_Term [(0, .int .i64 o), (1, .int .i64 x), (2, .int .i64 y), (4, .slice a l c)] w K = K (.agg ⟨[.int .i64 o, .int .i64 x, .int .i64 y, .string ⟨#[]⟩, .slice a l c]⟩) w := vbuild_eq b_impl_Term (us := [[.int .i64 o], [.int .i64 x], [.int .i64 y], [.slice a l c]]) rfl rfl
theorem retTerm {b : Nat} {cs cs' : List Value} {t : TypeId} {G : Nat → Prop} {t' : M.Tm} (h : Blk w b cs t) (hl : cs.length = 5) (hc : TmR G w cs' t') (hG : ∀ x, G x → x ≠ b) (hK : ∀ w', Same (· = b) w w' → w'.heap.size = w.heap.size → TermR G w' (.agg ⟨cs'⟩) t' → K (.agg ⟨cs'⟩) w') :
    vstore PP T_impl_Term (.pointer (some ⟨b, 0, none⟩)) (.agg ⟨cs'⟩) w fun _ w1 => vlv PP T_impl_Term (.pointer (some ⟨b, 0, none⟩)) w1 fun r w2 => K r w2 := by
  refine stTerm h hl hc fun w' hw' hz' h' => ?_
  rw [h'.lv (by rw [tmR_len hc]; exact g_impl_Term)]
  exact hK w' hw' hz' (hc.same hw' fun x hx _ e => hG x hx e).term
theorem leafR {G : Nat → Prop} (o a b : Int) (s : ByteArray) : TmR G w [.int .i64 o, .int .i64 a, .int .i64 b, .string s, .slice none 0 0] (.mk o a b s []) := TmR.of (t := .mk o a b s []) TmsR.nil
abbrev DrawT (K : Value → World → Prop) (F : Nat → Prop) (w : World) (b p c : Nat) (v : Value) (xs : List Nat) : Prop := ∀ w' p' tv t, Same (· = b) w w' → RdR F w' b v xs p' → p' ≤ p + c → TermR (fun x => w.heap.size ≤ x) w' tv t → t.ks.length ≤ 3 → K tv w'
theorem same_new {b b2 : Nat} {w w1 w2 : World} (h : Same (· = b) w w1) (h2 : Same (· = b2) w1 w2) (hb : w.heap.size ≤ b2) : Same (· = b) w w2 :=
  ⟨h2.os.trans h.os, h2.tape.trans h.tape, h2.output.trans h.output, Nat.le_trans h.size h2.size, fun x hx hne => by
    rw [h2.block x (Nat.lt_of_lt_of_le hx h.size) (fun e => by subst e; omega)]; exact h.block x hx hne⟩
theorem RdR.new {b b2 p : Nat} {v : Value} {xs : List Nat} {w1 : World} (h : RdR F w b v xs p) (hs : Same (· = b2) w w1) (hb : b ≠ b2) (hF : ∀ x, F x → x ≠ b2) : RdR F w1 b v xs p := h.same hs hb fun x hx _ e => hF x hx e
theorem l2Leafy_spec {b p : Nat} {v dv : Value} {xs : List Nat} {ds : List M.Dcl} {sort : Int} (h : RdR F w b v xs p) (hF : ∀ x, F x → x < w.heap.size) (hd : DclsR D w dv ds) (hD : ∀ x, D x → x ≠ b) (hok : Dok ds) (hs0 : 0 ≤ sort) (hs4 : sort ≤ 4) (hp : p + 100 < 1099511627776)
    (hK : DrawT K F w b p 100 v xs) : vcall PP n_spec_l2Leafy #[.pointer (some ⟨b, 0, none⟩), dv, .int .i64 sort] w K := by
  apply c_spec_l2Leafy; unfold F_spec_l2Leafy
  have lb := h.blk.lt
  refine valloc_agg zr_impl_Term fun b1 w1 hb1 he1 hs1 h1 => ?_
  have hR1 := h.ext he1
  have hd1 := hd.ext he1
  have hfin : ∀ w2 p2 cs t, Same (· = b) w w2 → RdR F w2 b v xs p2 → p2 ≤ p + 100 → Blk w2 b1 [.int .i64 0, .int .i64 0, .int .i64 0, .string ⟨#[]⟩, .slice none 0 0] T_impl_Term → TmR (fun _ => False) w2 cs t → t.ks.length ≤ 3 →
      vstore PP T_impl_Term (.pointer (some ⟨b1, 0, none⟩)) (.agg ⟨cs⟩) w2 fun _ w1 => vlv PP T_impl_Term (.pointer (some ⟨b1, 0, none⟩)) w1 fun r w2 => K r w2 := by
    intro w2 p2 cs t hs hR hp2 hB hc hk3
    refine retTerm hB rfl hc (fun x hx => hx.elim) fun w3 hs3 hz3 ht => ?_
    exact hK w3 p2 _ t (same_new hs hs3 (by omega)) (hR.new hs3 (by omega) fun x hx e => by have := hF x hx; omega) hp2 (ht.weaken fun x hx _ => hx.elim) hk3
  simp only [push_cast]
  refine vif_dec (fun a => ?_) (fun a => ?_)
  · exact hfin _ _ _ _ (Same.of_ext he1) hR1 (by omega) h1 (leafR 24 0 0 _) (Nat.zero_le _)
  simp (disch := (simp only [push_cast]; done)) only [push_cast, hd1.len]
  have hlen := hok.1
  refine pick_spec hR1 (by omega) (by omega) fun w2 at_ hs2 hz2 hR2 hk _ => ?_
  have h2 := h1.same hs2 (by omega)
  have hvec : ∀ w3 p3, Same (· = b) w w3 → RdR F w3 b v xs p3 → p3 ≤ p + 50 → Blk w3 b1 [.int .i64 0, .int .i64 0, .int .i64 0, .string ⟨#[]⟩, .slice none 0 0] T_impl_Term →
      vcall PP n_spec_l1Two #[.int .i64 sort] w3 fun t52 w_13 => vcall PP n_spec_l12Rd_pick #[.pointer (some ⟨b, 0, none⟩), t52] w_13 fun t53 w_14 => vbuild PP T_impl_Term [(0, (.int .i64 20)), (1, .int .i64 sort), (2, t53)] w_14 fun t54 w_15 => vstore PP T_impl_Term (.pointer (some ⟨b1, 0, none⟩)) t54 w_15 fun _ w_16 => vlv PP T_impl_Term (.pointer (some ⟨b1, 0, none⟩)) w_16 fun r6_1 w_17 => K r6_1 w_17 := by
    intro w3 p3 hs hR hp3 hB
    refine l1Two_spec (by omega) ?_
    have hpw : 2 ^ sort.toNat ≤ 2 ^ 4 := Nat.pow_le_pow_right (by omega) (by omega)
    refine pick_spec hR (by omega) (by omega) fun w4 k hs4 hz4 hR4 _ _ => ?_
    simp only [push_cast]
    exact hfin _ _ _ _ (hs.trans hs4) hR4 (by omega) (hB.same hs4 (by have := he1.size; omega)) (leafR 20 sort k _) (Nat.zero_le _)
  refine vloop_up ds.length (fun i u w' => ∃ p', u = [.int .i64 i] ∧ Same (· = b) w w' ∧ RdR F w' b v xs p' ∧ p' ≤ p + 1 + i ∧ Blk w' b1 [.int .i64 0, .int .i64 0, .int .i64 0, .string ⟨#[]⟩, .slice none 0 0] T_impl_Term ∧ DclsR D w' dv ds)
    ⟨p + 1, rfl, (Same.of_ext he1).trans hs2, hR2, by omega, h2, hd1.same hs2 fun x hx _ e => hD x hx e⟩ ?_
  rintro i _ _ w3 C hi ⟨p', rfl, hs3, hR3, hp3, hB3, hd3⟩ hC
  refine vjoin_of (fun u w' => u = [] ∧ i < ds.length ∧ Same (· = b) w w' ∧ RdR F w' b v xs (p' + 1) ∧ Blk w' b1 [.int .i64 0, .int .i64 0, .int .i64 0, .string ⟨#[]⟩, .slice none 0 0] T_impl_Term ∧ DclsR D w' dv ds) (fun C' hC' => ?_) ?_
  · simp only [push_cast]
    refine vif_dec (fun c => ?_) (fun c => ?_)
    · refine pick_spec hR3 (by omega) (by omega) fun w4 k hs4' hz4 hR4 _ _ => ?_
      have hB4 := hB3.same hs4' (by omega)
      simp only [push_cast]
      refine vif_dec (fun e => ?_) (fun e => ?_)
      · exact hC' _ _ ⟨rfl, by omega, hs3.trans hs4', hR4, hB4, hd3.same hs4' fun x hx _ e => hD x hx e⟩
      · exact hvec _ _ (hs3.trans hs4') hR4 (by omega) hB4
    · exact hvec _ _ hs3 hR3 (by omega) hB3
  · rintro u g w4 ⟨rfl, hil, hs4', hR4, hB4, hd4⟩
    have hat : at_ < ds.length := by have := hk (by omega); omega
    have e1 : IntKind.i64.wrap ((at_ : Int) + (i : Int)) = ((at_ + i : Nat) : Int) := by rw [wrap64 (by omega) (by omega)]; omega
    have eR : ∀ (w : World) (K : Value → World → Prop), vbin PP .rem T_int false (.int .i64 ((at_ + i : Nat) : Int)) (.int .i64 (ds.length : Int)) w K = K (.int .i64 (((at_ + i) % ds.length : Nat) : Int)) w := fun w K => by rw [vbin_rem (by omega)]; rfl
    have hm : (at_ + i) % ds.length < ds.length := Nat.mod_lt _ (by omega)
    obtain ⟨q, hq⟩ : ∃ q, q = at_ + i := ⟨_, rfl⟩
    rw [← hq] at e1 eR hm
    obtain ⟨j, hj⟩ : ∃ j, j = q % ds.length := ⟨_, rfl⟩
    rw [← hj] at eR hm
    simp (disch := first | (simp only [push_cast]; done) | omega) only [push_cast, e1, eR, hd4.iaddr]
    try simp (disch := first | (simp only [push_cast]; done) | omega) only [push_cast, hd4.load0, hd4.load1]
    refine vif_dec (fun c => ?_) (fun c => ?_)
    · exact hfin _ _ _ _ hs4' hR4 (by omega) hB4 (leafR 21 0 0 _) (Nat.zero_le _)
    · rw [inc64' (by omega)]
      exact hC (by omega) _ _ ⟨p' + 1, rfl, hs4', hR4, by omega, hB4, hd4⟩
end Go.Proofs.YtcfgmgjofmbfhaaGreatDoor
end
section
namespace Go.Proofs.YtcfgmgjofmbfhaaGreatDoor
open Go Go.Vc Go.Proofs
variable {w : World} {K : Value → World → Prop} {F F' D G : Nat → Prop}
theorem kidsL {css : List (List Value)} {ts : List M.Tm} (hl : css.length = ts.length) (hsm : css.length ≤ 100) (h : ∀ i, i < ts.length → TmR G w (css.getD i []) (ts.getD i default))
    (hK : ∀ w' a, Ext w w' → w'.heap.size = w.heap.size + 1 → TmsR (fun z => G z ∨ z = w.heap.size) w' (.slice a css.length css.length) ts → K (.slice a css.length css.length) w') :
    vbuildS PP T_Limpl_Term (css.map fun c => Value.agg ⟨c⟩).length ((css.map fun c => Value.agg ⟨c⟩).zipIdx.map fun p => (p.2, p.1)) w K := by
  have hwd : ∀ u, u ∈ css → u.length = 5 := fun u hu => by
    obtain ⟨i, hi, rfl⟩ := List.getElem_of_mem hu
    have := tmR_len (h i (by omega))
    rwa [List.getD_eq_getElem?_getD, List.getElem?_eq_getElem hi] at this
  refine vbuildS_row (us := css) (k := 5) u_Limpl_Term z_impl_Term zr_impl_Term (by rw [List.map_map]; rfl) hwd (by rw [List.length_map]; omega) fun b w' hb he hs hB => ?_
  rw [List.length_map]
  refine hK w' _ he hs ⟨css, ?_, hl, fun i hi => ((h i hi).ext he).weaken fun x hx _ => .inl hx⟩
  have ho : Own PP 0 5 T_Limpl_Term w' (.slice (some ⟨b, 0, none⟩) css.length css.length) css := Blk.ownk (by rw [eo_Limpl_Term]; exact hB) hwd rfl (by omega)
  exact ho.sl.weaken fun x hx _ => .inr (by have e : x = b := (Option.some.inj hx).symm; omega)
theorem kids1 {v0 : Value} {t0 : M.Tm} (h0 : TermR G w v0 t0) (hK : ∀ w' a, Ext w w' → w'.heap.size = w.heap.size + 1 → TmsR (fun z => G z ∨ z = w.heap.size) w' (.slice a 1 1) [t0] → K (.slice a 1 1) w') : vbuildS PP T_Limpl_Term 1 [(0, v0)] w K := by
  obtain ⟨c0, rfl, q0⟩ := h0.cells
  refine kidsL (css := [c0]) (ts := [t0]) rfl (by simp) (fun i hi => ?_) hK
  have : i = 0 := by simpa using hi
  subst this; exact q0
theorem kids2 {v0 v1 : Value} {t0 t1 : M.Tm} (h0 : TermR G w v0 t0) (h1 : TermR G w v1 t1) (hK : ∀ w' a, Ext w w' → w'.heap.size = w.heap.size + 1 → TmsR (fun z => G z ∨ z = w.heap.size) w' (.slice a 2 2) [t0, t1] → K (.slice a 2 2) w') : vbuildS PP T_Limpl_Term 2 [(0, v0), (1, v1)] w K := by
  obtain ⟨c0, rfl, q0⟩ := h0.cells
  obtain ⟨c1, rfl, q1⟩ := h1.cells
  refine kidsL (css := [c0, c1]) (ts := [t0, t1]) rfl (by simp) (fun i hi => ?_) hK
  match i, hi with
  | 0, _ => exact q0
  | 1, _ => exact q1
theorem kids3 {v0 v1 v2 : Value} {t0 t1 t2 : M.Tm} (h0 : TermR G w v0 t0) (h1 : TermR G w v1 t1) (h2 : TermR G w v2 t2) (hK : ∀ w' a, Ext w w' → w'.heap.size = w.heap.size + 1 → TmsR (fun z => G z ∨ z = w.heap.size) w' (.slice a 3 3) [t0, t1, t2] → K (.slice a 3 3) w') : vbuildS PP T_Limpl_Term 3 [(0, v0), (1, v1), (2, v2)] w K := by
  obtain ⟨c0, rfl, q0⟩ := h0.cells
  obtain ⟨c1, rfl, q1⟩ := h1.cells
  obtain ⟨c2, rfl, q2⟩ := h2.cells
  refine kidsL (css := [c0, c1, c2]) (ts := [t0, t1, t2]) rfl (by simp) (fun i hi => ?_) hK
  match i, hi with
  | 0, _ => exact q0
  | 1, _ => exact q1
  | 2, _ => exact q2
abbrev zeroT : List Value := [.int .i64 0, .int .i64 0, .int .i64 0, .string ⟨#[]⟩, .slice none 0 0]
structure Dw (F D : Nat → Prop) (w0 : World) (b b1 : Nat) (v dv : Value) (xs : List Nat) (ds : List M.Dcl) (w : World) (p : Nat) : Prop where
  same : Same (· = b) w0 w
  rd : RdR F w b v xs p
  var : Blk w b1 zeroT T_impl_Term
  dcl : DclsR D w dv ds
  old : b < w0.heap.size
  new : b1 = w0.heap.size
  size : b1 < w.heap.size
  hF : ∀ x, F x → x < w0.heap.size
  hD : ∀ x, D x → x ≠ b
  hD1 : ∀ x, D x → x < w0.heap.size
section
variable {w0 : World} {b b1 p : Nat} {v dv : Value} {xs : List Nat} {ds : List M.Dcl}
theorem Dw.step {w1 : World} {p1 : Nat} (h : Dw F D w0 b b1 v dv xs ds w p) (hs : Same (· = b) w w1) (hR : RdR F w1 b v xs p1) : Dw F D w0 b b1 v dv xs ds w1 p1 :=
  ⟨h.same.trans hs, hR, h.var.same hs (by have := h.old; have := h.new; omega), h.dcl.same hs fun x hx _ e => h.hD x hx e, h.old, h.new, Nat.lt_of_lt_of_le h.size hs.size, h.hF, h.hD, h.hD1⟩
theorem Dw.ext {w1 : World} (h : Dw F D w0 b b1 v dv xs ds w p) (he : Ext w w1) : Dw F D w0 b b1 v dv xs ds w1 p := h.step (Same.of_ext he) (h.rd.ext he)
theorem Dw.begin (h : RdR F w b v xs p) (hF : ∀ x, F x → x < w.heap.size) (hd : DclsR D w dv ds) (hD : ∀ x, D x → x ≠ b) (hD1 : ∀ x, D x → x < w.heap.size) {K : Value → World → Prop} (hK : ∀ w1, Dw F D w b w.heap.size v dv xs ds w1 p → K (.pointer (some ⟨w.heap.size, 0, none⟩)) w1) : valloc PP T_impl_Term w K := by
  refine valloc_agg zr_impl_Term fun b1 w1 hb1 he1 hs1 h1 => ?_
  subst hb1
  exact hK w1 ⟨Same.of_ext he1, h.ext he1, h1, hd.ext he1, h.blk.lt, rfl, by omega, hF, hD, hD1⟩
abbrev Nw (b1 : Nat) (x : Nat) : Prop := b1 < x
theorem Dw.fin {c : Nat} {cs : List Value} {t : M.Tm} (h : Dw F D w0 b b1 v dv xs ds w p) {p0 : Nat} (hp : p ≤ p0 + c) (ht : TmR (Nw b1) w cs t) (hk3 : t.ks.length ≤ 3) (hK : DrawT K F w0 b p0 c v xs) :
    vstore PP T_impl_Term (.pointer (some ⟨b1, 0, none⟩)) (.agg ⟨cs⟩) w fun _ w1 => vlv PP T_impl_Term (.pointer (some ⟨b1, 0, none⟩)) w1 fun r w2 => K r w2 := by
  have := h.old
  have := h.new
  refine retTerm h.var rfl ht (fun x hx e => by subst e; exact Nat.lt_irrefl _ hx) fun w3 hs3 hz3 ht3 => ?_
  exact hK w3 p _ t (same_new h.same hs3 (by omega)) (h.rd.new hs3 (by omega) fun x hx e => by have := h.hF x hx; omega) hp (ht3.weaken fun x hx _ => by have hx' : b1 < x := hx; omega) hk3
theorem Dw.pick {n : Int} (h : Dw F D w0 b b1 v dv xs ds w p) (hn : n ≤ 1099511627776) (hp : p < 1099511627776) (hK : ∀ w1 (k : Nat), Dw F D w0 b b1 v dv xs ds w1 (p + 1) → Same (· = b) w w1 → (1 ≤ n → (k : Int) < n) → (n < 1 → k = 0) → K (.int .i64 k) w1) : vcall PP n_spec_l12Rd_pick #[.pointer (some ⟨b, 0, none⟩), .int .i64 n] w K :=
  pick_spec h.rd hn hp fun w1 k hs hz hR h1 h2 => hK w1 k (h.step hs hR) hs h1 h2
theorem Dw.sub {g : Nat} {args : Array Value} {c : Nat} (h : Dw F D w0 b b1 v dv xs ds w p) (hc : ∀ K', DrawT K' F w b p c v xs → vcall PP g args w K') (hK : ∀ w1 p1 tv t, Dw F D w0 b b1 v dv xs ds w1 p1 → Same (· = b) w w1 → p1 ≤ p + c → TermR (Nw b1) w1 tv t → t.ks.length ≤ 3 → K tv w1) : vcall PP g args w K :=
  hc K fun w1 p1 tv t hs hR hp ht hk3 => hK w1 p1 tv t (h.step hs hR) hs hp (ht.weaken fun x hx _ => by have := h.size; show b1 < x; omega) hk3
theorem Dw.keep {tv : Value} {t : M.Tm} {w1 : World} (h : Dw F D w0 b b1 v dv xs ds w p) (ht : TermR (Nw b1) w tv t) (hs : Same (· = b) w w1) : TermR (Nw b1) w1 tv t :=
  ht.same hs fun x hx _ e => by subst e; have := h.old; have := h.new; have hx' : b1 < x := hx; omega
theorem Dw.tms {kv : Value} {ks : List M.Tm} (h : Dw F D w0 b b1 v dv xs ds w p) {w1 : World} (hk : TmsR (fun z => Nw b1 z ∨ z = w.heap.size) w1 kv ks) : TmsR (Nw b1) w1 kv ks :=
  hk.weaken fun x hx _ => by
    rcases hx with hx | hx
    · exact hx
    · have := h.size; show b1 < x; omega
end
def cost (d : Nat) : Nat := 100 * 4 ^ d
theorem cost_succ (d : Nat) : cost (d + 1) = 4 * cost d := by unfold cost; rw [Nat.pow_succ]; omega
theorem cost_ge (d : Nat) : 100 ≤ cost d := by
  have : 1 ≤ 4 ^ d := Nat.pow_pos (by omega)
  unfold cost; omega
def TermDraws (d : Nat) : Prop := ∀ {w : World} {K : Value → World → Prop} {F D : Nat → Prop} {b p : Nat} {v dv : Value} {xs : List Nat} {ds : List M.Dcl} {sort deep : Int}, RdR F w b v xs p → (∀ x, F x → x < w.heap.size) → DclsR D w dv ds → (∀ x, D x → x ≠ b) → (∀ x, D x → x < w.heap.size) → Dok ds → 0 ≤ sort → sort ≤ 4 → -100 ≤ deep → deep ≤ d →
  p + cost d < 1099511627776 → DrawT K F w b p (cost d) v xs → vcall PP n_spec_l2Term #[.pointer (some ⟨b, 0, none⟩), dv, .int .i64 sort, .int .i64 deep] w K
theorem num_draw {w0 : World} {b b1 p : Nat} {v dv : Value} {xs : List Nat} {ds : List M.Dcl} {ns : List Int} (h : Dw F D w0 b b1 v dv xs ds w p) (hne : ns ≠ []) (hsm : ns.length ≤ 1000) (hp : p < 1099511627776) (hK : ∀ w1 m, Dw F D w0 b b1 v dv xs ds w1 (p + 1) → Same (· = b) w w1 → m ∈ ns → K (.int .i64 m) w1) :
    vbuildS PP T_Lint ns.length ((ns.map fun x => Value.int .i64 x).zipIdx.map fun p => (p.2, p.1)) w fun s w1 => vcall PP n_spec_l12Rd_num #[.pointer (some ⟨b, 0, none⟩), s] w1 K := by
  have := vbuildS_row1 (w := w) (K := fun s w1 => vcall PP n_spec_l12Rd_num #[.pointer (some ⟨b, 0, none⟩), s] w1 K) (t := T_Lint) (xs := ns.map fun x => Value.int .i64 x) u_Lint z_int zr_int (fun x hx => by obtain ⟨y, _, rfl⟩ := List.mem_map.1 hx; rfl) (by simp; omega) fun b2 w' h1 h2 h3 h4 => by
    have hv : Ints (· = b2) w' (.slice (some ⟨b2, 0, none⟩) (ns.map fun x => Value.int .i64 x).length (ns.map fun x => Value.int .i64 x).length) ns := h4.sl1 rfl (by simp; omega)
    have hh := h.ext h2
    have := h.rd.blk.lt
    refine num_spec hh.rd hv hne hsm hp (fun x hx e => by subst hx; omega) fun w2 m hs hz hR hm => ?_
    exact hK w2 m (hh.step hs hR) ((Same.of_ext h2).trans hs) hm
  rwa [List.length_map] at this
theorem l2Asks_spec {d : Nat} (hT : TermDraws d) {b p : Nat} {v dv : Value} {xs : List Nat} {ds : List M.Dcl} {deep : Int} (h : RdR F w b v xs p) (hF : ∀ x, F x → x < w.heap.size) (hd : DclsR D w dv ds) (hD : ∀ x, D x → x ≠ b) (hD1 : ∀ x, D x → x < w.heap.size) (hok : Dok ds) (hd1 : 1 ≤ deep) (hd2 : deep ≤ d + 1) (hd9 : d ≤ 9)
    (hp : p + 2 * cost d + 10 < 1099511627776) (hK : DrawT K F w b p (2 * cost d + 10) v xs) : vcall PP n_spec_l2Asks #[.pointer (some ⟨b, 0, none⟩), dv, .int .i64 deep] w K := by
  apply c_spec_l2Asks; unfold F_spec_l2Asks
  refine Dw.begin h hF hd hD hD1 fun w1 h1 => ?_
  have hg := h1.new
  have e1 : IntKind.i64.wrap (deep - 1) = deep - 1 := wrap64 (by omega) (by omega)
  have hsub : ∀ {w2 : World} {p2 : Nat} {s : Int} {K' : Value → World → Prop}, Dw F D w b w.heap.size v dv xs ds w2 p2 → 0 ≤ s → s ≤ 4 → p2 + cost d < 1099511627776 → (∀ w3 p3 tv t, Dw F D w b w.heap.size v dv xs ds w3 p3 → Same (· = b) w2 w3 → p3 ≤ p2 + cost d → TermR (Nw w.heap.size) w3 tv t → t.ks.length ≤ 3 → K' tv w3) →
      vcall PP n_spec_l2Term #[.pointer (some ⟨b, 0, none⟩), dv, .int .i64 s, .int .i64 (deep - 1)] w2 K' := fun h2 hs0 hs4 hp2 hK' =>
    h2.sub (fun K' hk => hT h2.rd (fun x hx => Nat.lt_of_lt_of_le (hF x hx) h2.same.size) h2.dcl hD (fun x hx => Nat.lt_of_lt_of_le (hD1 x hx) h2.same.size) hok hs0 hs4 (by omega) (by omega) hp2 hk) hK'
  refine h1.pick (by omega) (by omega) fun w2 k h2 hs2 hk _ => ?_
  simp only [push_cast, e1]
  refine vif_dec (fun a => ?_) (fun a => ?_)
  · refine hsub h2 (by omega) (by omega) (by omega) fun w3 p3 t0v t0 h3 hs3 hp3 ht0 _ => ?_
    refine kids1 ht0 fun w4 sa he4 hz4 hks => ?_
    have h4 := h3.ext he4
    simp only [push_cast]
    exact h4.fin (p0 := p) (by omega) (TmR.of (t := .mk 25 0 0 _ [t0]) (h3.tms hks)) (Nat.le_of_ble_eq_true rfl) hK
  refine vif_dec (fun a1 => ?_) (fun a1 => ?_)
  · refine hsub h2 (by omega) (by omega) (by omega) fun w3 p3 t0v t0 h3 hs3 hp3 ht0 _ => ?_
    refine hsub h3 (by omega) (by omega) (by omega) fun w4 p4 t1v t1 h4 hs4 hp4 ht1 _ => ?_
    refine kids2 (h3.keep ht0 hs4) ht1 fun w5 sa he5 hz5 hks => ?_
    have h5 := h4.ext he5
    simp only [push_cast]
    exact h5.fin (p0 := p) (by omega) (TmR.of (t := .mk 26 0 0 _ [t0, t1]) (h4.tms hks)) (Nat.le_of_ble_eq_true rfl) hK
  refine vif_dec (fun a2 => ?_) (fun a2 => ?_)
  · refine hsub h2 (by omega) (by omega) (by omega) fun w3 p3 t0v t0 h3 hs3 hp3 ht0 _ => ?_
    refine hsub h3 (by omega) (by omega) (by omega) fun w4 p4 t1v t1 h4 hs4 hp4 ht1 _ => ?_
    refine kids2 (h3.keep ht0 hs4) ht1 fun w5 sa he5 hz5 hks => ?_
    have h5 := h4.ext he5
    simp only [push_cast]
    exact h5.fin (p0 := p) (by omega) (TmR.of (t := .mk 27 0 0 _ [t0, t1]) (h4.tms hks)) (Nat.le_of_ble_eq_true rfl) hK
  refine h2.pick (by omega) (by omega) fun w3 k3 h3 hs3 hk3 _ => ?_
  have hk3' := hk3 (by omega)
  simp only [push_cast]
  rw [wrap64 (x := 1 + (k3 : Int)) (by omega) (by omega)]
  refine vjoin_of (fun u w4 => ∃ s p4, u = [.int .i64 s] ∧ 0 ≤ s ∧ s ≤ 4 ∧ p4 ≤ p + 4 ∧ Dw F D w b w.heap.size v dv xs ds w4 p4) (fun C hC => ?_) ?_
  · have hlen := hok.1
    have hdc3 := h3.dcl
    simp (disch := (simp only [push_cast]; done)) only [push_cast, hdc3.len]
    refine vif_dec (fun c => ?_) (fun c => ?_)
    · refine h3.pick (by omega) (by omega) fun w4 k4 h4 hs4 hk4 _ => ?_
      have hdc4 := h4.dcl
      simp only [push_cast]
      refine vif_dec (fun e => ?_) (fun e => ?_)
      · try simp (disch := (simp only [push_cast]; done)) only [push_cast, hdc4.len]
        refine h4.pick (by omega) (by omega) fun w5 k5 h5 hs5 hk5 _ => ?_
        have hk5' := hk5 (by omega)
        have hdc5 := h5.dcl
        simp (disch := first | (simp only [push_cast]; done) | omega) only [push_cast, hdc5.iaddr]
        try simp (disch := first | (simp only [push_cast]; done) | omega) only [push_cast, hdc5.load1]
        have hwd : 1 ≤ (ds.getD k5 (M.nada, 0)).2 ∧ (ds.getD k5 (M.nada, 0)).2 ≤ 4 ∧ _ := hok.2 k5 (by omega)
        exact hC _ _ ⟨_, _, rfl, by omega, by omega, by omega, h5⟩
      · exact hC _ _ ⟨_, _, rfl, by omega, by omega, by omega, h4⟩
    · exact hC _ _ ⟨_, _, rfl, by omega, by omega, by omega, h3⟩
  · rintro u g w4 ⟨s, p4, rfl, hs0, hs4, hp4, h4⟩
    refine num_draw (ns := [15, 16, 17, 15]) h4 (by simp) (by decide) (by omega) fun w5 m h5 hs5 hm => ?_
    simp only [push_cast, e1]
    refine hsub h5 hs0 hs4 (by omega) fun w6 p6 t0v t0 h6 hs6 hp6 ht0 _ => ?_
    refine hsub h6 hs0 hs4 (by omega) fun w7 p7 t1v t1 h7 hs7 hp7 ht1 _ => ?_
    refine kids2 (h6.keep ht0 hs7) ht1 fun w8 sa he8 hz8 hks => ?_
    have h8 := h7.ext he8
    simp only [push_cast]
    exact h8.fin (p0 := p) (by omega) (TmR.of (t := .mk m 0 0 _ [t0, t1]) (h7.tms hks)) (Nat.le_of_ble_eq_true rfl) hK
end Go.Proofs.YtcfgmgjofmbfhaaGreatDoor
end
section
namespace Go.Proofs.YtcfgmgjofmbfhaaGreatDoor
open Go Go.Vc Go.Proofs
variable {w : World} {K : Value → World → Prop} {F F' D G : Nat → Prop}
theorem l2Term_step {d : Nat} (hd9 : d ≤ 9) (hT : ∀ e, e < d → TermDraws e) : TermDraws d := by
  intro w K F D b p v dv xs ds sort deep h hF hd hD hD1 hok hs0 hs4 hdl hdh hp hK
  apply c_spec_l2Term; unfold F_spec_l2Term
  refine Dw.begin h hF hd hD hD1 fun w1 h1 => ?_
  have hc100 := cost_ge d
  have hleaf : ∀ {w2 : World} {p2 : Nat}, Dw F D w b w.heap.size v dv xs ds w2 p2 → p2 ≤ p + 1 → cost d = 100 ∨ 0 < d → p2 + 100 ≤ p + cost d ∨ d = 0 → (d = 0 → p2 = p) →
      vcall PP n_spec_l2Leafy #[.pointer (some ⟨b, 0, none⟩), dv, .int .i64 sort] w2 fun t27 w_4 => vstore PP T_impl_Term (.pointer (some ⟨w.heap.size, 0, none⟩)) t27 w_4 fun _ w_5 => vlv PP T_impl_Term (.pointer (some ⟨w.heap.size, 0, none⟩)) w_5 fun r8 w_6 => K r8 w_6 := by
    intro w2 p2 h2 hp2 _ hc hz
    refine h2.sub (c := 100) (fun K' hk => l2Leafy_spec h2.rd (fun x hx => Nat.lt_of_lt_of_le (hF x hx) h2.same.size) h2.dcl hD hok hs0 hs4 (by rcases hc with hc | hc <;> omega) hk) fun w3 p3 tv t h3 hs3 hp3 ht hk3 => ?_
    obtain ⟨cs, rfl, hcs⟩ := ht.cells
    refine h3.fin (p0 := p) (c := cost d) ?_ hcs hk3 hK
    rcases hc with hc | hc
    · omega
    · have := hz hc; omega
  refine vjoin_of (fun u w' => ∃ p', u = [] ∧ Dw F D w b w.heap.size v dv xs ds w' p' ∧ p' ≤ p + 1 ∧ 1 ≤ deep) (fun C hC => ?_) ?_
  · simp only [push_cast]
    refine vif_dec (fun a => ?_) (fun a => ?_)
    · refine hleaf h1 (by omega) (by by_cases h0 : d = 0
                                     · subst h0; left; rfl
                                     · right; omega) ?_ (fun _ => rfl)
      by_cases h0 : d = 0
      · exact .inr h0
      · left; omega
    · have hdpos : 1 ≤ d := by omega
      have hc4 : cost d = 4 * cost (d - 1) := by
        obtain ⟨e, rfl⟩ : ∃ e, d = e + 1 := ⟨d - 1, by omega⟩
        exact cost_succ e
      have hc99 := cost_ge (d - 1)
      refine vif_dec (fun c => ?_) (fun c => ?_)
      · refine h1.pick (by omega) (by omega) fun w2 k h2 hs2 hk _ => ?_
        simp only [push_cast]
        refine vif_dec (fun e => ?_) (fun e => ?_)
        · exact hleaf h2 (by omega) (.inr (by omega)) (.inl (by omega)) (by omega)
        · exact hC _ _ ⟨p + 1, rfl, h2, by omega, by omega⟩
      · exact hC _ _ ⟨p, rfl, h1, by omega, by omega⟩
  rintro u g w2 ⟨p2, rfl, h2, hp2, hd1⟩
  have hdpos : 1 ≤ d := by omega
  obtain ⟨d', hd'⟩ : ∃ d', d = d' + 1 := ⟨d - 1, by omega⟩
  have hc4 : cost d = 4 * cost d' := by rw [hd', cost_succ]
  have hc99 := cost_ge d'
  have e1 : IntKind.i64.wrap (deep - 1) = deep - 1 := wrap64 (by omega) (by omega)
  have hsub : ∀ {w2 : World} {p2 : Nat} {s : Int} {K' : Value → World → Prop}, Dw F D w b w.heap.size v dv xs ds w2 p2 → 0 ≤ s → s ≤ 4 → p2 + cost d' < 1099511627776 → (∀ w3 p3 tv t, Dw F D w b w.heap.size v dv xs ds w3 p3 → Same (· = b) w2 w3 → p3 ≤ p2 + cost d' → TermR (Nw w.heap.size) w3 tv t → t.ks.length ≤ 3 → K' tv w3) →
      vcall PP n_spec_l2Term #[.pointer (some ⟨b, 0, none⟩), dv, .int .i64 s, .int .i64 (deep - 1)] w2 K' := fun h2 hs0 hs4 hp2 hK' =>
    h2.sub (fun K' hk => hT d' (by omega) h2.rd (fun x hx => Nat.lt_of_lt_of_le (hF x hx) h2.same.size) h2.dcl hD (fun x hx => Nat.lt_of_lt_of_le (hD1 x hx) h2.same.size) hok hs0 hs4 (by omega) (by omega) hp2 hk) hK'
  refine h2.pick (by omega) (by omega) fun w3 k h3 hs3 hk _ => ?_
  have hk' := hk (by omega)
  simp only [push_cast, e1]
  refine vif_dec (fun a => ?_) (fun a => ?_)
  · refine hsub h3 (by omega) (by omega) (by omega) fun w4 p4 t0v t0 h4 hs4' hp4 ht0 _ => ?_
    refine hsub h4 hs0 hs4 (by omega) fun w5 p5 t1v t1 h5 hs5 hp5 ht1 _ => ?_
    refine hsub h5 hs0 hs4 (by omega) fun w6 p6 t2v t2 h6 hs6 hp6 ht2 _ => ?_
    refine kids3 (h5.keep (h4.keep ht0 hs5) hs6) (h5.keep ht1 hs6) ht2 fun w7 sa he7 hz7 hks => ?_
    have h7 := h6.ext he7
    simp only [push_cast]
    exact h7.fin (p0 := p) (by omega) (TmR.of (t := .mk 23 0 0 _ [t0, t1, t2]) (h6.tms hks)) (Nat.le_of_ble_eq_true rfl) hK
  refine vif_dec (fun a0 => ?_) (fun a0 => ?_)
  · refine h3.sub (c := 2 * cost d' + 10) (fun K' hk => l2Asks_spec (hT d' (by omega)) h3.rd (fun x hx => Nat.lt_of_lt_of_le (hF x hx) h3.same.size) h3.dcl hD (fun x hx => Nat.lt_of_lt_of_le (hD1 x hx) h3.same.size) hok hd1 (by omega) (by omega) (by omega) hk) fun w4 p4 tv t h4 hs4' hp4 ht hk3 => ?_
    obtain ⟨cs, rfl, hcs⟩ := ht.cells
    exact h4.fin (p0 := p) (by omega) hcs hk3 hK
  refine vif_dec (fun a1 => ?_) (fun a1 => ?_)
  · rw [wrap64 (x := 5 - sort) (by omega) (by omega)]
    refine h3.pick (by omega) (by omega) fun w4 k4 h4 hs4' hk4 hk4' => ?_
    have hw4 : sort + (k4 : Int) ≤ 4 := by
      by_cases hn : 1 ≤ 5 - sort
      · have := hk4 hn; omega
      · have := hk4' (by omega); omega
    simp only [push_cast]
    rw [wrap64 (x := sort + (k4 : Int)) (by omega) (by omega), wrap64 (x := sort + (k4 : Int) - sort) (by omega) (by omega), wrap64 (x := sort + (k4 : Int) - sort + 1) (by omega) (by omega)]
    refine h4.pick (by omega) (by omega) fun w5 k5 h5 hs5 hk5 _ => ?_
    have hk5' := hk5 (by omega)
    simp only [push_cast]
    refine hsub h5 (by omega) hw4 (by omega) fun w6 p6 t0v t0 h6 hs6 hp6 ht0 _ => ?_
    refine kids1 ht0 fun w7 sa he7 hz7 hks => ?_
    have h7 := h6.ext he7
    simp only [push_cast]
    exact h7.fin (p0 := p) (by omega) (TmR.of (t := .mk 22 _ _ _ [t0]) (h6.tms hks)) (Nat.le_of_ble_eq_true rfl) hK
  refine vjoin_of (fun u w' => u = [] ∧ w' = w3) (fun C hC => ?_) ?_
  · refine vjoin_of (fun u w' => u = [.bool (decide (k = 2 ∧ 1 < sort))] ∧ w' = w3) (fun C' hC' => ?_) ?_
    · try simp only [push_cast]
      refine vif_dec (fun c => ?_) (fun c => ?_)
      · refine hC' _ _ ⟨?_, rfl⟩
        have c' : k = 2 := by omega
        simp only [c', true_and]
      · exact hC' _ _ ⟨by rw [decide_eq_false (by omega)], rfl⟩
    rintro u g w4 ⟨rfl, rfl⟩
    simp only [push_cast]
    refine vif_dec (fun c => ?_) (fun c => ?_)
    · rw [wrap64 (x := sort - 1) (by omega) (by omega)]
      refine h3.pick (by omega) (by omega) fun w5 k5 h5 hs5 hk5 _ => ?_
      have hk5' := hk5 (by omega)
      try simp only [push_cast]
      rw [wrap64 (x := 1 + (k5 : Int)) (by omega) (by omega)]
      refine hsub h5 (by omega) (by omega) (by omega) fun w6 p6 t0v t0 h6 hs6 hp6 ht0 _ => ?_
      try simp only [push_cast]
      rw [wrap64 (x := sort - (1 + (k5 : Int))) (by omega) (by omega)]
      refine hsub h6 (by omega) (by omega) (by omega) fun w7 p7 t1v t1 h7 hs7 hp7 ht1 _ => ?_
      refine kids2 (h6.keep ht0 hs7) ht1 fun w8 sa he8 hz8 hks => ?_
      have h8 := h7.ext he8
      simp only [push_cast]
      exact h8.fin (p0 := p) (by omega) (TmR.of (t := .mk 14 0 0 _ [t0, t1]) (h7.tms hks)) (Nat.le_of_ble_eq_true rfl) hK
    · exact hC _ _ ⟨rfl, rfl⟩
  rintro u g w4 ⟨rfl, rfl⟩
  try simp only [push_cast]
  refine vif_dec (fun c => ?_) (fun c => ?_)
  · refine h3.pick (by omega) (by omega) fun w5 k5 h5 hs5 hk5 _ => ?_
    have hk5' := hk5 (by omega)
    try simp only [push_cast]
    rw [wrap64 (x := 1 + (k5 : Int)) (by omega) (by omega)]
    refine hsub h5 hs0 hs4 (by omega) fun w6 p6 t0v t0 h6 hs6 hp6 ht0 _ => ?_
    refine kids1 ht0 fun w7 sa he7 hz7 hks => ?_
    have h7 := h6.ext he7
    simp only [push_cast]
    exact h7.fin (p0 := p) (by omega) (TmR.of (t := .mk _ 0 0 _ [t0]) (h6.tms hks)) (Nat.le_of_ble_eq_true rfl) hK
  · refine h3.pick (by omega) (by omega) fun w5 k5 h5 hs5 hk5 _ => ?_
    have hk5' := hk5 (by omega)
    try simp only [push_cast]
    rw [wrap64 (x := 3 + (k5 : Int)) (by omega) (by omega)]
    refine hsub h5 hs0 hs4 (by omega) fun w6 p6 t0v t0 h6 hs6 hp6 ht0 _ => ?_
    refine hsub h6 hs0 hs4 (by omega) fun w7 p7 t1v t1 h7 hs7 hp7 ht1 _ => ?_
    refine kids2 (h6.keep ht0 hs7) ht1 fun w8 sa he8 hz8 hks => ?_
    have h8 := h7.ext he8
    simp only [push_cast]
    exact h8.fin (p0 := p) (by omega) (TmR.of (t := .mk _ 0 0 _ [t0, t1]) (h7.tms hks)) (Nat.le_of_ble_eq_true rfl) hK
theorem l2Term_spec : ∀ d, d ≤ 9 → TermDraws d := by
  intro d
  induction d using Nat.strongRecOn with
  | _ d ih => intro hd; exact l2Term_step hd fun e he => ih e he (by omega)
theorem dok_sized {ds : List M.Dcl} (h : Dok ds) : Sized ds := fun i hi => by have := (h.2 i hi).2.2; omega
theorem l2Some_spec {b p : Nat} {v dv : Value} {xs : List Nat} {ds : List M.Dcl} {sort : Int} (h : RdR F w b v xs p) (hF : ∀ x, F x → x < w.heap.size) (hd : DclsR D w dv ds) (hD : ∀ x, D x → x ≠ b) (hD1 : ∀ x, D x → x < w.heap.size) (hok : Dok ds) (hs0 : 0 ≤ sort) (hs4 : sort ≤ 4)
    (hp : p + 200000 < 1099511627776) (hK : DrawT K F w b p 200000 v xs) : vcall PP n_spec_l2Some #[.pointer (some ⟨b, 0, none⟩), dv, .int .i64 sort] w K := by
  apply c_spec_l2Some; unfold F_spec_l2Some
  refine Dw.begin h hF hd hD hD1 fun w1 h1 => ?_
  have hcost : cost 4 = 25600 := rfl
  refine vloop_up 4 (fun i u w' => ∃ p', u = [.int .i64 (4 - (i : Int))] ∧ Dw F D w b w.heap.size v dv xs ds w' p' ∧ p' ≤ p + 25600 * i) ⟨p, rfl, h1, by omega⟩ ?_
  rintro i _ _ w2 C hi ⟨p2, rfl, h2, hp2⟩ hC
  have hold := h2.old
  have hnew := h2.new
  simp only [push_cast]
  refine vif_dec (fun a => ?_) (fun a => ?_)
  · refine h2.sub (c := cost 4) (fun K' hk => l2Term_spec 4 (by omega) h2.rd (fun x hx => Nat.lt_of_lt_of_le (hF x hx) h2.same.size) h2.dcl hD (fun x hx => Nat.lt_of_lt_of_le (hD1 x hx) h2.same.size) hok hs0 hs4 (by omega) (by omega) (by omega) hk) fun w3 p3 tv t h3 hs3 hp3 ht hk3 => ?_
    obtain ⟨cs, rfl, hcs⟩ := ht.cells
    have hcs3 := hcs.weaken (F' := fun x => Nw w.heap.size x ∧ x < w3.heap.size) fun x hx hl => ⟨hx, hl⟩
    refine valloc_agg zr_impl_Term fun b2 w4 hb2 he4 hs4' h4 => ?_
    refine stTerm h4 rfl (hcs3.ext he4) fun w5 hw5 _ h5 => ?_
    have he5 : Ext w3 w5 := Ext.then he4 hw5 fun y hy => by subst hy; omega
    have hg : aggB PP T_impl_Term cs.length = true := by rw [tmR_len hcs]; exact g_impl_Term
    rw [h5.ldAgg (t := T_impl_Term) hg]
    have h5' := h3.ext he5
    refine spec_TermSort_spec (dok_sized hok) h5'.dcl (hcs.ext he5).term fun w6 he6 => ?_
    have h6' := h5'.ext he6
    simp only [push_cast]
    refine vif_dec (fun c => ?_) (fun c => ?_)
    · rw [(h5.ext he6).ldAgg (t := T_impl_Term) hg]
      exact h6'.fin (p0 := p) (by omega) ((hcs.ext he5).ext he6) hk3 hK
    · rw [wrap64 (by omega) (by omega), show 4 - (i : Int) - 1 = 4 - ((i + 1 : Nat) : Int) by omega]
      exact hC (by omega) _ _ ⟨p3, rfl, h6', by omega⟩
  · refine h2.sub (c := 100) (fun K' hk => l2Leafy_spec h2.rd (fun x hx => Nat.lt_of_lt_of_le (hF x hx) h2.same.size) h2.dcl hD hok hs0 hs4 (by omega) hk) fun w3 p3 tv t h3 hs3 hp3 ht hk3 => ?_
    obtain ⟨cs, rfl, hcs⟩ := ht.cells
    exact h3.fin (p0 := p) (by omega) hcs hk3 hK
end Go.Proofs.YtcfgmgjofmbfhaaGreatDoor
end
section
namespace Go.Proofs.YtcfgmgjofmbfhaaGreatDoor
open Go Go.Vc Go.Proofs
variable {w : World} {K : Value → World → Prop} {F F' D G : Nat → Prop}
theorem of_spec {b p : Nat} {v vs : Value} {xs : List Nat} {ss : List ByteArray} (h : RdR F w b v xs p) (hv : Vals F' w vs (ss.map .string)) (hne : ss ≠ []) (hsm : ss.length ≤ 1000) (hp : p < 1099511627776) (hF' : ∀ x, F' x → x ≠ b)
    (hK : ∀ w' s, Same (· = b) w w' → w'.heap.size = w.heap.size → RdR F w' b v xs (p + 1) → s ∈ ss → K (.string s) w') : vcall PP n_spec_l12Rd_of #[.pointer (some ⟨b, 0, none⟩), vs] w K := by
  apply c_spec_l12Rd_of; unfold F_spec_l12Rd_of
  have hpos := List.length_pos_iff.2 hne
  have hl : (ss.map Value.string).length = ss.length := List.length_map _
  simp (disch := (simp only [push_cast]; done)) only [push_cast, hv.len]
  refine pick_spec h (by omega) hp fun w1 k hs hz hR h1 _ => ?_
  have hk := h1 (by omega)
  have hv1 := hv.same hs fun x hx _ e => hF' x hx e
  rw [hv1.iaddr (by kernel_rfl) (by omega) (by omega), Int.toNat_natCast, hv1.load (by kernel_rfl) (by omega), M.getD_map _ (by omega) _ M.nada]
  exact hK w1 _ hs hz hR (M.getD_mem (by omega) _)
theorem of_lit {b p : Nat} {v : Value} {xs : List Nat} {ss : List ByteArray} (h : RdR F w b v xs p) (hF : ∀ x, F x → x < w.heap.size) (hne : ss ≠ []) (hsm : ss.length ≤ 1000) (hp : p < 1099511627776) (hK : ∀ w1 s, Same (· = b) w w1 → RdR F w1 b v xs (p + 1) → s ∈ ss → K (.string s) w1) :
    vbuildS PP T_Lstring ss.length ((ss.map Value.string).zipIdx.map fun p => (p.2, p.1)) w fun s w1 => vcall PP n_spec_l12Rd_of #[.pointer (some ⟨b, 0, none⟩), s] w1 K := by
  have := vbuildS_row1 (w := w) (K := fun s w1 => vcall PP n_spec_l12Rd_of #[.pointer (some ⟨b, 0, none⟩), s] w1 K) (t := T_Lstring) (xs := ss.map Value.string) u_Lstring (by kernel_rfl) zr_string (fun x hx => by obtain ⟨y, _, rfl⟩ := List.mem_map.1 hx; rfl) (by rw [List.length_map]; omega) fun b2 w' h1 h2 h3 h4 => by
    have hv : Vals (· = b2) w' (.slice (some ⟨b2, 0, none⟩) (ss.map Value.string).length (ss.map Value.string).length) (ss.map Value.string) := h4.sl1 rfl (by rw [List.length_map]; omega)
    have := h.blk.lt
    refine of_spec (h.ext h2) hv hne hsm hp (fun x hx e => by subst hx; omega) fun w2 m hs hz hR hm => ?_
    exact hK w2 m ((Same.of_ext h2).trans hs) hR hm
  rwa [List.length_map] at this
theorem num_lit {b p : Nat} {v : Value} {xs : List Nat} {ns : List Int} (h : RdR F w b v xs p) (hne : ns ≠ []) (hsm : ns.length ≤ 1000) (hp : p < 1099511627776) (hK : ∀ w1 m, Same (· = b) w w1 → RdR F w1 b v xs (p + 1) → m ∈ ns → K (.int .i64 m) w1) :
    vbuildS PP T_Lint ns.length ((ns.map fun x => Value.int .i64 x).zipIdx.map fun p => (p.2, p.1)) w fun s w1 => vcall PP n_spec_l12Rd_num #[.pointer (some ⟨b, 0, none⟩), s] w1 K := by
  have := vbuildS_row1 (w := w) (K := fun s w1 => vcall PP n_spec_l12Rd_num #[.pointer (some ⟨b, 0, none⟩), s] w1 K) (t := T_Lint) (xs := ns.map fun x => Value.int .i64 x) u_Lint z_int zr_int (fun x hx => by obtain ⟨y, _, rfl⟩ := List.mem_map.1 hx; rfl) (by simp; omega) fun b2 w' h1 h2 h3 h4 => by
    have hv : Ints (· = b2) w' (.slice (some ⟨b2, 0, none⟩) (ns.map fun x => Value.int .i64 x).length (ns.map fun x => Value.int .i64 x).length) ns := h4.sl1 rfl (by simp; omega)
    have := h.blk.lt
    refine num_spec (h.ext h2) hv hne hsm hp (fun x hx e => by subst hx; omega) fun w2 m hs hz hR hm => ?_
    exact hK w2 m ((Same.of_ext h2).trans hs) hR hm
  rwa [List.length_map] at this
def Dsm (ds : List M.Dcl) : Prop := ds.length ≤ 6 ∧ ∀ i, i < ds.length → (ds.getD i dcl0).1.size ≤ 5
theorem dsm_sized {ds : List M.Dcl} (h : Dsm ds) : Sized ds := fun i hi => by have := h.2 i hi; omega
theorem dok_dsm {ds : List M.Dcl} (h : Dok ds) : Dsm ds := ⟨by have := h.1; omega, fun i hi => by have := (h.2 i hi).2.2; omega⟩
theorem getD_setD {ds : List M.Dcl} {k j : Nat} {d : M.Dcl} (hk : k < ds.length) : (ds.set k d).getD j dcl0 = if k = j then d else ds.getD j dcl0 := by
  rw [List.getD_eq_getElem?_getD, List.getElem?_set]
  split
  · rename_i e
    rfl
  · rw [← List.getD_eq_getElem?_getD]
theorem set_cells {ds : List M.Dcl} {k : Nat} {d : M.Dcl} (c : List Value) (hc : c = [Value.string d.1, Value.int .i64 d.2]) : (ds.map fun d => [Value.string d.1, Value.int .i64 d.2]).set k c = (ds.set k d).map fun d => [Value.string d.1, Value.int .i64 d.2] := by
  rw [List.map_set, hc]
theorem empty_own {b : Nat} (h : Blk w b [] T_impl_Decl) : OwnD w (.slice (some ⟨b, 0, none⟩) 0 0) [] := Blk.ownk (css := []) (by rw [eo_Limpl_Decl]; exact h) (by simp) rfl (by decide)
abbrev cellsD (ds : List M.Dcl) : List (List Value) := ds.map fun d => [Value.string d.1, Value.int .i64 d.2]
theorem one_cellsD {ds : List M.Dcl} : ∀ y, y ∈ cellsD ds → ∀ c, c ∈ y → c.oneCell' = true := fun y hy c hc => by
  obtain ⟨d, _, rfl⟩ := List.mem_map.1 hy
  simp only [List.mem_cons, List.not_mem_nil, or_false] at hc
  rcases hc with rfl | rfl <;> rfl
theorem l2Spoil_spec {b p : Nat} {v dv : Value} {xs : List Nat} {ds : List M.Dcl} (h : RdR F w b v xs p) (hF : ∀ x, F x → x < w.heap.size) (hd : DclsR D w dv ds) (hD : ∀ x, D x → x ≠ b) (hD1 : ∀ x, D x → x < w.heap.size) (hok : Dok ds) (hp : p + 10 < 1099511627776)
    (hK : ∀ w' p' dv' ds', Same (· = b) w w' → RdR F w' b v xs p' → p' ≤ p + 10 → DclsR (fun x => w.heap.size ≤ x) w' dv' ds' → Dsm ds' → K dv' w') : vcall PP n_spec_l2Spoil #[.pointer (some ⟨b, 0, none⟩), dv] w K := by
  apply c_spec_l2Spoil; unfold F_spec_l2Spoil
  have lb := h.blk.lt
  have hlen := hok.1
  refine vbuildS_row (xs := []) (us := []) (k := 2) u_Limpl_Decl z_impl_Decl zr_impl_Decl rfl (by simp) (by decide) fun b1 w1 hb1 he1 hs1 h1 => ?_
  have ho1 := empty_own h1
  refine vappend (F := D) (ys := cellsD ds) l_Limpl_Decl (by decide) ho1 (show Sl D w1 2 dv (cellsD ds) from hd.ext he1) one_cellsD (Nat.zero_le _) (by simp; omega) (by simp; omega) fun ov w2 ho2 hw2 hn2 => ?_
  replace ho2 : OwnD w2 ov ds := ho2
  have hz1 := he1.size
  have hz2 := hw2.size
  have hw2' : Same (· = b1) w1 w2 := hw2.mono fun x _ hx => (Option.some.inj hx).symm
  have hn : ∀ x, ov.ownBlock = some x → w.heap.size ≤ x := fun x hx => by
    rcases hn2 x hx with hx | hx
    · have e : x = b1 := (Option.some.inj hx).symm; omega
    · omega
  have hs2 : Same (· = b) w w2 := same_new (Same.of_ext he1) hw2' (by omega)
  have hR2 : RdR F w2 b v xs p := (h.ext he1).new hw2' (by omega) fun x hx e => by have := hF x hx; omega
  have hd2 : DclsR D w2 dv ds := (hd.ext he1).same hw2' fun x hx _ e => by have := hD1 x hx; omega
  have hret : ∀ w3 p3 ds3, Same (· = b) w w3 → RdR F w3 b v xs p3 → p3 ≤ p + 10 → OwnD w3 ov ds3 → Dsm ds3 → K ov w3 := fun w3 p3 ds3 hs hR hp3 ho hds => hK w3 p3 ov ds3 hs hR hp3 (ho.dcls.weaken fun x hx _ => hn x hx) hds
  simp (disch := (simp only [push_cast]; done)) only [push_cast, hd2.len]
  refine vif_dec (fun a => ?_) (fun a => ?_)
  · exact hret _ _ _ hs2 hR2 (by omega) ho2 (dok_dsm hok)
  refine pick_spec hR2 (by omega) (by omega) fun w3 k hs3 hz3 hR3 hk _ => ?_
  have hk' := hk (by omega)
  refine pick_spec hR3 (by omega) (by omega) fun w4 c hs4 hz4 hR4 hc _ => ?_
  have ho4 : OwnD w4 ov ds := (ho2.same hs3 fun x hx e => by have := hn x hx; omega).same hs4 fun x hx e => by have := hn x hx; omega
  have hs4' := (hs2.trans hs3).trans hs4
  have hz4' := hs4'.size
  have hF4 : ∀ x, F x → x < w4.heap.size := fun x hx => Nat.lt_of_lt_of_le (hF x hx) hz4'
  have hstore : ∀ {w5 : World} {p5 : Nat} {d : M.Dcl} {x : Value} {j : Nat} {e : TypeId}, OwnD w5 ov ds → Same (· = b) w w5 → RdR F w5 b v xs p5 → p5 ≤ p + 10 → x.cells = #[x] → x.oneCell' = true → sizeB PP e 1 = true → j < 2 → ([Value.string (ds.getD k dcl0).1, Value.int .i64 (ds.getD k dcl0).2].set j x) = [Value.string d.1, Value.int .i64 d.2] → d.1.size ≤ 5 →
      vstore PP e (.pointer (some ((eaddr ov 2 k).add j))) x w5 fun _ w6 => K ov w6 := by
    intro w5 p5 d x j e ho hs hR hp5 hx1 hx2 hz hj hset hsz
    refine Own.stCell ho hx1 hx2 hz (by rw [List.length_map]; omega) hj fun w6 ho6 hs6 _ => ?_
    have hg : (cellsD ds).getD k [] = [Value.string (ds.getD k dcl0).1, Value.int .i64 (ds.getD k dcl0).2] := dcl_getD (by omega)
    rw [show (ds.map fun d => [Value.string d.1, Value.int .i64 d.2]).getD k [] = _ from hg, hset, set_cells (d := d) _ rfl] at ho6
    have hs56 : Same (· = b) w w6 := ⟨hs6.os.trans hs.os, hs6.tape.trans hs.tape, hs6.output.trans hs.output, Nat.le_trans hs.size hs6.size, fun y hy hne => by
      rw [hs6.block y (Nat.lt_of_lt_of_le hy hs.size) (fun e => by have := hn y e; omega)]; exact hs.block y hy hne⟩
    refine hret w6 p5 _ hs56 (hR.same hs6 (fun e => by have := hn b e; omega) fun y hy _ e => by have := hn y e; have := hF y hy; omega) hp5 ho6 ⟨by rw [List.length_set]; omega, fun i hi => ?_⟩
    rw [List.length_set] at hi
    rw [getD_setD (by omega)]
    split
    · exact hsz
    · have := (hok.2 i hi).2.2; omega
  have hnk := (hok.2 k (by omega)).2.2
  simp only [push_cast]
  refine vif_dec (fun a0 => ?_) (fun a0 => ?_)
  · refine num_lit (ns := [0, 5, -1, 4]) hR4 (by simp) (by decide) (by omega) fun w5 m hs5 hR5 hm => ?_
    have ho5 : OwnD w5 ov ds := ho4.same hs5 fun x hx e => by have := hn x hx; omega
    have hi := ho5.dcls
    simp (disch := first | (simp only [push_cast]; done) | omega) only [push_cast, hi.iaddr]
    exact hstore (d := ((ds.getD k dcl0).1, m)) (j := 1) ho5 (hs4'.trans hs5) hR5 (by omega) rfl rfl z_int (by omega) rfl (by show (ds.getD k dcl0).1.size ≤ 5; omega)
  refine vif_dec (fun a1 => ?_) (fun a1 => ?_)
  · refine of_lit (ss := [⟨#[]⟩, ⟨#[116, 114, 117, 101]⟩, ⟨#[97, 98, 99, 100, 101]⟩, ⟨#[65]⟩, ⟨#[110, 111, 116]⟩, ⟨#[120]⟩]) hR4 hF4 (by simp) (by decide) (by omega) fun w5 s hs5 hR5 hm => ?_
    have ho5 : OwnD w5 ov ds := ho4.same hs5 fun x hx e => by have := hn x hx; omega
    have hi := ho5.dcls
    have hsz : s.size ≤ 5 := by
      simp only [List.mem_cons, List.not_mem_nil, or_false] at hm
      rcases hm with rfl | rfl | rfl | rfl | rfl | rfl <;> decide
    simp (disch := first | (simp only [push_cast]; done) | omega) only [push_cast, hi.iaddr]
    exact hstore (d := (s, (ds.getD k dcl0).2)) (j := 0) ho5 (hs4'.trans hs5) hR5 (by omega) rfl rfl z_string (by omega) rfl hsz
  refine vif_dec (fun a2 => ?_) (fun a2 => ?_)
  · refine vbuildS_row (xs := [.agg ⟨[.string ⟨#[113]⟩, .int .i64 4]⟩, .agg ⟨[.string ⟨#[112]⟩, .int .i64 1]⟩]) (us := cellsD [(⟨#[113]⟩, 4), (⟨#[112]⟩, 1)]) (k := 2) u_Limpl_Decl z_impl_Decl zr_impl_Decl rfl (by simp) (by decide) fun b5 w5 hb5 he5 hs5 h5 => ?_
    have hlit : OwnD w5 (.slice (some ⟨b5, 0, none⟩) 2 2) [(⟨#[113]⟩, 4), (⟨#[112]⟩, 1)] := Blk.ownk (css := cellsD [(⟨#[113]⟩, 4), (⟨#[112]⟩, 1)]) (by rw [eo_Limpl_Decl]; exact h5) (by simp) rfl (by decide)
    refine vappend (ys := cellsD [(⟨#[113]⟩, 4), (⟨#[112]⟩, 1)]) l_Limpl_Decl (by decide) (ho4.ext he5) hlit.sl one_cellsD (Nat.zero_le _) (by simp; omega) (by simp; omega) fun ov' w6 ho6 hw6 hn6 => ?_
    have hz5 := he5.size
    have hs6 : Same (· = b) w w6 := ⟨hw6.os.trans ((hs4'.trans (Same.of_ext he5)).os), hw6.tape.trans ((hs4'.trans (Same.of_ext he5)).tape), hw6.output.trans ((hs4'.trans (Same.of_ext he5)).output), Nat.le_trans (hs4'.trans (Same.of_ext he5)).size hw6.size, fun y hy hne => by
      rw [hw6.block y (Nat.lt_of_lt_of_le hy (hs4'.trans (Same.of_ext he5)).size) (fun e => by have := hn y e; omega)]; exact (hs4'.trans (Same.of_ext he5)).block y hy hne⟩
    have hR6 : RdR F w6 b v xs _ := (hR4.ext he5).same hw6 (fun e => by have := hn b e; omega) fun y hy _ e => by have := hn y e; have := hF y hy; omega
    have ho6' : OwnD w6 ov' (ds ++ [(⟨#[113]⟩, 4), (⟨#[112]⟩, 1)]) := by
      rw [OwnD, List.map_append]; exact ho6
    refine hK w6 _ ov' _ hs6 hR6 (by omega) (ho6'.dcls.weaken fun x hx _ => ?_) ⟨by rw [List.length_append]; simp; omega, fun i hi => ?_⟩
    · rcases hn6 x hx with h | h
      · exact hn x h
      · omega
    · rw [List.length_append] at hi
      by_cases hi2 : i < ds.length
      · rw [List.getD_eq_getElem?_getD, List.getElem?_append_left hi2, ← List.getD_eq_getElem?_getD]
        have := (hok.2 i hi2).2.2; omega
      · rw [List.getD_eq_getElem?_getD, List.getElem?_append_right (by omega)]
        have : i - ds.length = 0 ∨ i - ds.length = 1 := by simp at hi; omega
        rcases this with e | e <;> rw [e] <;> decide
  refine vif_dec (fun a3 => ?_) (fun a3 => ?_)
  · refine vbuildS_row (xs := []) (us := []) (k := 2) u_Limpl_Decl z_impl_Decl zr_impl_Decl rfl (by simp) (by decide) fun b5 w5 hb5 he5 hs5 h5 => ?_
    have ho5 := empty_own h5
    exact hK w5 _ _ [] (hs4'.trans (Same.of_ext he5)) (hR4.ext he5) (by omega) (ho5.dcls.weaken fun x hx _ => by have e : x = b5 := (Option.some.inj hx).symm; omega) ⟨by simp, fun i hi => by simp at hi⟩
  · exact hret _ _ _ hs4' hR4 (by omega) ho4 (dok_dsm hok)
end Go.Proofs.YtcfgmgjofmbfhaaGreatDoor
end
