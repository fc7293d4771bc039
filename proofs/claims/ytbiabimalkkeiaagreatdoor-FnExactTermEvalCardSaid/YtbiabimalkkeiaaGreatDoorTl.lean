/- Contracts of the reference's terms: sorts and values. -/
import Derived.Test.YtbiabimalkkeiaaGreatDoorTk
set_option linter.unusedVariables false
set_option linter.unusedSimpArgs false
set_option linter.unnecessarySimpa false
set_option linter.unusedSectionVars false
namespace Go.Proofs.YtbiabimalkkeiaaGreatDoor
open Go Go.Vc Go.Proofs
variable {w : World} {K : Value → World → Prop} {F G : Nat → Prop}

theorem l2Arity_spec {o : Int} (hK : K (.int .i64 (M.arity o)) w) : vcall PP n_spec_l2Arity #[.int .i64 o] w K := by
  apply c_spec_l2Arity; unfold F_spec_l2Arity
  have hK' : ∀ c, M.arity o = c → K (.int .i64 c) w := fun c e => e ▸ hK
  refine vjoin_of (fun u w' => u = [.bool (decide (o = 20 ∨ o = 21 ∨ o = 24))] ∧ w' = w) (fun C hC => ?_) ?_
  · simp only [push_cast]
    refine vif_dec (fun a => ?_) (fun a => ?_)
    · exact hC _ _ ⟨by rw [decide_eq_true a, decide_eq_true (.inl a)], rfl⟩
    refine vif_dec (fun b => ?_) (fun b => ?_)
    · exact hC _ _ ⟨by rw [decide_eq_true b, decide_eq_true (.inr (.inl b))], rfl⟩
    · refine hC _ _ ⟨?_, rfl⟩
      by_cases c : o = 24
      · rw [decide_eq_true c, decide_eq_true (.inr (.inr c))]
      · rw [decide_eq_false c, decide_eq_false (by omega)]
  · rintro u g w1 ⟨rfl, rfl⟩
    simp only [push_cast]
    repeat' first
      | exact hK' _ (by unfold M.arity; repeat' split
                        all_goals omega)
      | refine vif_dec (fun _ => ?_) (fun _ => ?_)
theorem l2Plain_spec {v : Value} {t : M.Tm} (ht : TermR F w v t) (hK : ∀ w', Ext w w' → K (.bool (M.formed t)) w') : vcall PP n_spec_l2Plain #[v] w K := by
  apply c_spec_l2Plain; unfold F_spec_l2Plain
  obtain ⟨ksv, rfl, hks⟩ := ht
  refine vbox_agg fun b1 w1 hb1 he1 hs1 h1 => ?_
  have hk := hK _ he1
  have hno : M.plainM t = false → K (.bool false) w1 := fun h => by
    unfold M.formed at hk
    rwa [h, Bool.and_false] at hk
  unfold M.plainM at hno
  refine vjoin_of (fun u w' => u = [] ∧ w' = w1 ∧ (decide (t.op = 21) || decide (t.s = M.nada)) = true) (fun C hC => ?_) ?_
  · simp (disch := (simp only [push_cast]; done)) only [push_cast, h1.ld0, h1.ld3]
    refine vif_dec (fun a => ?_) (fun a => ?_)
    · refine vif_dec (fun b => ?_) (fun b => ?_)
      · exact hno (by rw [decide_eq_false a, show decide (t.s = M.nada) = false from decide_eq_false b]; simp)
      · exact hC _ _ ⟨rfl, rfl, by rw [show decide (t.s = M.nada) = true from decide_eq_true (Classical.not_not.1 b)]; simp⟩
    · exact hC _ _ ⟨rfl, rfl, by rw [decide_eq_true (Classical.not_not.1 a)]; simp⟩
  rintro u g w2 ⟨rfl, rfl, hn⟩
  rw [hn, Bool.and_true] at hno
  refine vjoin_of (fun u w' => u = [] ∧ w' = w2 ∧ (decide (t.op = 20) || decide (t.op = 22) || (decide (t.a = 0) && decide (t.b = 0))) = true) (fun C hC => ?_) ?_
  · simp (disch := (simp only [push_cast]; done)) only [push_cast, h1.ld0, h1.ld1, h1.ld2]
    refine vif_dec (fun a => ?_) (fun a => ?_)
    · refine vif_dec (fun b => ?_) (fun b => ?_)
      · refine vif_dec (fun c => ?_) (fun c => ?_)
        · exact hno (by rw [decide_eq_false a, decide_eq_false b, decide_eq_false c]; simp)
        refine vif_dec (fun d => ?_) (fun d => ?_)
        · exact hno (by rw [decide_eq_false a, decide_eq_false b, decide_eq_false d]; simp)
        · exact hC _ _ ⟨rfl, rfl, by rw [decide_eq_true (Classical.not_not.1 c), decide_eq_true (Classical.not_not.1 d)]; simp⟩
      · exact hC _ _ ⟨rfl, rfl, by rw [decide_eq_true (Classical.not_not.1 b)]; simp⟩
    · exact hC _ _ ⟨rfl, rfl, by rw [decide_eq_true (Classical.not_not.1 a)]; simp⟩
  rintro u g w3 ⟨rfl, rfl, hm⟩
  refine vdraw_ext fun w4 he4 _ => ?_
  have h4 := h1.ext he4
  have hks4 := hks.ext (he1.trans he4)
  simp (disch := (simp only [push_cast]; done)) only [push_cast, h4.ld0, h4.ld4, hks4.len, true_and]
  refine l2Arity_spec ?_
  simp (disch := (simp only [push_cast]; done)) only [push_cast, h4.ld4, hks4.len, true_and, and_self]
  have := hK _ (he1.trans he4)
  have e : M.formed t = decide ((t.ks.length : Int) = M.arity t.op) := by
    unfold M.formed M.plainM
    rw [hm, hn]
    simp only [Bool.and_true]
    by_cases h : M.arity t.op = t.ks.length
    · rw [decide_eq_true h, decide_eq_true h.symm]
    · rw [decide_eq_false h, decide_eq_false (fun x => h x.symm)]
  rwa [e] at this
theorem l2One_spec {v : Value} {t : M.Tm} {a : Int} (ht : TermR F w v t) (hr : -1 ≤ a ∧ a ≤ 4) (hK : ∀ w', Ext w w' → K (.int .i64 (M.oneM t a)) w') : vcall PP n_spec_l2One #[v, .int .i64 a] w K := by
  apply c_spec_l2One; unfold F_spec_l2One
  obtain ⟨ksv, rfl, hks⟩ := ht
  refine vbox_agg fun b1 w1 hb1 he1 hs1 h1 => ?_
  have hk : ∀ c, M.oneM t a = c → K (.int .i64 c) w1 := fun c e => e ▸ hK _ he1
  unfold M.oneM at hk
  refine vjoin_of (fun u w' => u = [.bool (decide (t.op = 25 ∧ a = 0))] ∧ w' = w1) (fun C hC => ?_) ?_
  · simp (disch := (simp only [push_cast]; done)) only [push_cast, h1.ld0]
    refine vif_dec (fun b => ?_) (fun b => ?_)
    · refine hC _ _ ⟨?_, rfl⟩
      simp only [b, true_and]
    · exact hC _ _ ⟨by rw [decide_eq_false (fun h => b h.1)], rfl⟩
  rintro u g w2 ⟨rfl, rfl⟩
  simp only [push_cast]
  refine vif_dec (fun b => ?_) (fun b => ?_)
  · exact hk _ (by rw [if_pos b.1, if_pos b.2])
  refine vjoin_of (fun u w' => u = [.bool (decide (t.op = 25 ∨ a < 1))] ∧ w' = w2) (fun C hC => ?_) ?_
  · simp (disch := (simp only [push_cast]; done)) only [push_cast, h1.ld0]
    refine vif_dec (fun c => ?_) (fun c => ?_)
    · exact hC _ _ ⟨by rw [decide_eq_true (.inl c)], rfl⟩
    · refine hC _ _ ⟨?_, rfl⟩
      simp only [c, false_or]
  rintro u g w3 ⟨rfl, rfl⟩
  simp only [push_cast]
  refine vif_dec (fun c => ?_) (fun c => ?_)
  · exact hk _ (by repeat' split
                   all_goals omega)
  simp (disch := (simp only [push_cast]; done)) only [push_cast, h1.ld0]
  refine vif_dec (fun d => ?_) (fun d => ?_)
  · refine vjoin_of (fun u w' => u = [.bool (decide (0 ≤ t.b ∧ t.b ≤ t.a ∧ t.a < a))] ∧ w' = w3) (fun C hC => ?_) ?_
    · simp (disch := (simp only [push_cast]; done)) only [push_cast, h1.ld1, h1.ld2]
      refine vif_dec (fun e => ?_) (fun e => ?_)
      · refine vif_dec (fun f => ?_) (fun f => ?_)
        · refine hC _ _ ⟨?_, rfl⟩
          simp only [e, f, true_and]
        · exact hC _ _ ⟨by rw [decide_eq_false (fun h => f h.2.1)], rfl⟩
      · exact hC _ _ ⟨by rw [decide_eq_false (fun h => e h.1)], rfl⟩
    rintro u g w4 ⟨rfl, rfl⟩
    simp only [push_cast]
    refine vif_dec (fun e => ?_) (fun e => ?_)
    · simp (disch := (simp only [push_cast]; done)) only [push_cast, h1.ld1, h1.ld2]
      rw [wrap64 (x := t.a - t.b) (by omega) (by omega), wrap64 (by omega) (by omega)]
      exact hk _ (by rw [if_neg (by omega), if_neg (by omega), if_pos d, if_pos e])
    · exact hk _ (by rw [if_neg (by omega), if_neg (by omega), if_pos d, if_neg e])
  · exact hk _ (by rw [if_neg (by omega), if_neg (by omega), if_neg d])
theorem l2Both_spec {o a b : Int} (hr : -1 ≤ a ∧ a ≤ 4) (hr' : -1 ≤ b ∧ b ≤ 4) (hK : K (.int .i64 (M.bothM o a b)) w) : vcall PP n_spec_l2Both #[.int .i64 o, .int .i64 a, .int .i64 b] w K := by
  apply c_spec_l2Both; unfold F_spec_l2Both
  have hk : ∀ c, M.bothM o a b = c → K (.int .i64 c) w := fun c e => e ▸ hK
  unfold M.bothM at hk
  refine vjoin_of (fun u w' => u = [.bool (decide (o = 26 ∨ o = 27))] ∧ w' = w) (fun C hC => ?_) ?_
  · simp only [push_cast]
    refine vif_dec (fun c => ?_) (fun c => ?_)
    · exact hC _ _ ⟨by rw [decide_eq_true (.inl c)], rfl⟩
    · refine hC _ _ ⟨?_, rfl⟩
      simp only [c, false_or]
  rintro u g w2 ⟨rfl, rfl⟩
  simp only [push_cast]
  refine vif_dec (fun c => ?_) (fun c => ?_)
  · repeat' first
      | exact hk _ (by repeat' split
                       all_goals omega)
      | refine vif_dec (fun _ => ?_) (fun _ => ?_)
  refine vjoin_of (fun u w' => u = [.bool (decide (a < 1 ∨ b < 1))] ∧ w' = w2) (fun C hC => ?_) ?_
  · try simp only [push_cast]
    refine vif_dec (fun d => ?_) (fun d => ?_)
    · exact hC _ _ ⟨by rw [decide_eq_true (.inl d)], rfl⟩
    · refine hC _ _ ⟨?_, rfl⟩
      simp only [d, false_or]
  rintro u g w3 ⟨rfl, rfl⟩
  have e1 : IntKind.i64.wrap (a + b) = a + b := wrap64 (by omega) (by omega)
  simp only [push_cast, e1]
  repeat' first
    | exact hk _ (by repeat' split
                     all_goals omega)
    | refine vif_dec (fun _ => ?_) (fun _ => ?_)
theorem l2Sort_spec : ∀ (t : M.Tm) {w : World} {K : Value → World → Prop} {F G : Nat → Prop} {dv v : Value} {ds : List M.Dcl}, DclsR F w dv ds → M.declOk ds = true → TermR G w v t → (∀ w', Ext w w' → K (.int .i64 (M.sortM ds t)) w') → vcall PP n_spec_l2Sort #[dv, v] w K := by
  refine M.Tm.ind fun t ih w K F G dv v ds hd hok ht hK => ?_
  apply c_spec_l2Sort; unfold F_spec_l2Sort
  obtain ⟨ksv, rfl, hks⟩ := ht
  refine vbox_agg fun b1 w1 hb1 he1 hs1 h1 => ?_
  have hk : ∀ c w', M.sortM ds t = c → Ext w w' → K (.int .i64 c) w' := fun c w' e he => e ▸ hK _ he
  rw [h1.ldAgg (t := T_impl_Term) g_impl_Term]
  refine l2Plain_spec (F := G) (t := t) ⟨ksv, rfl, hks.ext he1⟩ fun w2 he2 => ?_
  have hE := he1.trans he2
  have h2 := h1.ext he2
  simp only [push_cast]
  refine vif_bool (fun a => ?_) (fun a => ?_)
  · exact hk _ _ (M.sort_bad (by rw [Bool.not_eq_true]; simpa using a)) hE
  have hf : M.formed t = true := by simpa using a
  have har := (M.formed_iff.1 hf).1
  have hd2 := hd.ext hE
  simp (disch := (simp only [push_cast]; done)) only [push_cast, h2.ld0]
  refine vif_dec (fun c20 => ?_) (fun c20 => ?_)
  · have hl : t.ks.length = 0 := by rw [c20] at har; simp [M.arity] at har; omega
    have hs := M.sort_leaf (ds := ds) hf hl
    simp (disch := (simp only [push_cast]; done)) only [push_cast, h2.ld1, h2.ld2]
    refine spec_VecOk_spec fun w3 he3 => ?_
    have h3 := h2.ext he3
    refine vif_bool (fun b => ?_) (fun b => ?_)
    · simp (disch := (simp only [push_cast]; done)) only [push_cast, h3.ld1]
      exact hk _ _ (by rw [hs]; unfold M.sortK; rw [if_pos c20, if_pos b]) (hE.trans he3)
    · exact hk _ _ (by rw [hs]; unfold M.sortK; rw [if_pos c20, b]; rfl) (hE.trans he3)
  refine vif_dec (fun c21 => ?_) (fun c21 => ?_)
  · have hl : t.ks.length = 0 := by rw [c21] at har; simp [M.arity] at har; omega
    have hs := M.sort_leaf (ds := ds) hf hl
    have hfd := M.findD_lt ds t.s
    simp (disch := (simp only [push_cast]; done)) only [push_cast, h2.ld3]
    refine l2Find_spec hd2 ?_
    try simp only [push_cast]
    refine vif_dec (fun b => ?_) (fun b => ?_)
    · exact hk _ _ (by rw [hs]; unfold M.sortK; rw [if_neg c20, if_pos c21, if_pos b]) hE
    · try simp (disch := first | (simp only [push_cast]; done) | omega) only [push_cast, hd2.iaddr]
      try simp (disch := first | (simp only [push_cast]; done) | omega) only [push_cast, hd2.load1]
      exact hk _ _ (by rw [hs]; unfold M.sortK; rw [if_neg c20, if_pos c21, if_neg b]) hE
  refine vif_dec (fun c24 => ?_) (fun c24 => ?_)
  · have hl : t.ks.length = 0 := by rw [c24] at har; simp [M.arity] at har; omega
    have hs := M.sort_leaf (ds := ds) hf hl
    exact hk _ _ (by rw [hs]; unfold M.sortK; rw [if_neg c20, if_neg c21, if_pos (by omega)]; rfl) hE
  have hlen : t.ks.length = 1 ∨ t.ks.length = 2 ∨ t.ks.length = 3 := by
    have h0 : M.arity t.op ≠ 0 := fun h => by have := M.arity_zero h; omega
    have h4 : M.arity t.op ≤ 3 := by
      unfold M.arity
      repeat' split
      all_goals omega
    omega
  have hks2 := hks.ext hE
  simp (disch := first | (simp only [push_cast]; done) | omega) only [push_cast, h2.ld4, hks2.iaddr]
  refine hks2.load g_impl_Term (by omega) fun x0 hx0 => ?_
  refine ih (M.kid t 0) (M.kid_mem (by omega)) hd2 hok hx0 fun w3 he3 => ?_
  have h3 := h2.ext he3
  have hE3 := hE.trans he3
  have hks3 := hks.ext hE3
  have hr0 := M.sort_range hok (M.kid t 0)
  simp (disch := first | (simp only [push_cast]; done) | omega) only [push_cast, h3.ld4, hks3.len]
  refine vif_dec (fun l1 => ?_) (fun l1 => ?_)
  · rw [h3.ldAgg (t := T_impl_Term) g_impl_Term]
    refine l2One_spec (F := G) (t := t) ⟨ksv, rfl, hks3⟩ hr0 fun w4 he4 => ?_
    exact hk _ _ (M.sort_one hok hf (by omega)) (hE3.trans he4)
  simp (disch := first | (simp only [push_cast]; done) | omega) only [push_cast, h3.ld4, hks3.iaddr]
  refine hks3.load g_impl_Term (by omega) fun x1 hx1 => ?_
  refine ih (M.kid t 1) (M.kid_mem (by omega)) (hd.ext hE3) hok hx1 fun w4 he4 => ?_
  have h4 := h3.ext he4
  have hE4 := hE3.trans he4
  have hks4 := hks.ext hE4
  have hr1 := M.sort_range hok (M.kid t 1)
  simp (disch := first | (simp only [push_cast]; done) | omega) only [push_cast, h4.ld4, h4.ld0, hks4.len]
  refine vif_dec (fun l2 => ?_) (fun l2 => ?_)
  · refine l2Both_spec hr0 hr1 ?_
    exact hk _ _ (M.sort_two hok hf (by omega)) hE4
  have hs3 := M.sort_three (ds := ds) hf (by omega)
  refine vif_dec (fun z => ?_) (fun z => ?_)
  · exact hk _ _ (by rw [hs3, if_pos (.inl z)]) hE4
  simp (disch := first | (simp only [push_cast]; done) | omega) only [push_cast, h4.ld4, hks4.iaddr]
  refine hks4.load g_impl_Term (by omega) fun x2 hx2 => ?_
  refine ih (M.kid t 2) (M.kid_mem (by omega)) (hd.ext hE4) hok hx2 fun w5 he5 => ?_
  simp only [push_cast]
  refine vif_dec (fun z2 => ?_) (fun z2 => ?_)
  · exact hk _ _ (by rw [hs3, if_pos (.inr z2)]) (hE4.trans he5)
  · exact hk _ _ (by rw [hs3, if_neg (fun h => h.elim z z2)]) (hE4.trans he5)
/-- Names of a size that a number holds. -/
def Sized (ds : List M.Dcl) : Prop := ∀ i, i < ds.length → (ds.getD i dcl0).1.size ≤ 9223372036854775807
theorem spec_TermSort_spec {dv v : Value} {ds : List M.Dcl} {t : M.Tm} (hsz : Sized ds) (hd : DclsR F w dv ds) (ht : TermR G w v t) (hK : ∀ w', Ext w w' → K (.int .i64 (M.tsort ds t)) w') : vcall PP n_spec_TermSort #[dv, v] w K := by
  apply c_spec_TermSort; unfold F_spec_TermSort
  obtain ⟨cs, rfl, hcs⟩ := ht.cells
  refine vbox_agg fun b1 w1 hb1 he1 hs1 h1 => ?_
  rw [h1.ldAgg (t := T_impl_Term) (by rw [tmR_len hcs]; exact g_impl_Term)]
  refine spec_TermMany_spec t (hcs.ext he1).term fun w2 he2 => ?_
  simp only [push_cast]
  have hE2 := he1.trans he2
  refine spec_DeclOk_spec (hd.ext hE2) hsz fun w3 he3 => ?_
  have hE3 := hE2.trans he3
  have hk := hK w3 hE3
  unfold M.tsort at hk
  simp only [push_cast]
  refine vif_bool (fun a => ?_) (fun a => ?_)
  · rwa [if_neg (fun h => by rw [h.2] at a; cases a)] at hk
  rw [Bool.not_eq_false'] at a
  refine vif_dec (fun b => ?_) (fun b => ?_)
  · rw [if_neg (fun h => by
      have h1 := M.fits_iff.1 h.1
      unfold M.manyM at b
      rw [if_pos h.1] at b; omega)] at hk
    exact hk
  have hf : M.fits t = true := by
    by_cases h : M.fits t = true
    · exact h
    · unfold M.manyM at b
      rw [if_neg h] at b; omega
  refine vif_dec (fun c => ?_) (fun c => ?_)
  · unfold M.lvlM at c
    rw [if_pos hf] at c
    have := M.fits_iff.1 hf
    omega
  have h3 := (h1.ext he2).ext he3
  rw [h3.ldAgg (t := T_impl_Term) (by rw [tmR_len hcs]; exact g_impl_Term)]
  refine l2Sort_spec t (hd.ext hE3) a (hcs.ext hE3).term fun w4 he4 => ?_
  have := hK w4 (hE3.trans he4)
  unfold M.tsort at this
  rwa [if_pos ⟨hf, a⟩] at this
theorem l2Bool_spec {b : Bool} (hK : K (.int .i64 (M.b2i b)) w) : vcall PP n_spec_l2Bool #[.bool b] w K := by
  apply c_spec_l2Bool; unfold F_spec_l2Bool
  refine vif_bool (fun h => ?_) (fun h => ?_) <;> subst h <;> exact hK
/-- What the reference's evaluation of a term does. -/
def EvalOk (t : M.Tm) : Prop := ∀ {w : World} {K : Value → World → Prop} {F G H : Nat → Prop} {dv v ev : Value} {ds : List M.Dcl} {env : List Int}, DclsR F w dv ds → M.envOk ds env = true → TermR G w v t → Ints H w ev env → M.sortM ds t ≠ -1 → (∀ w', Ext w w' → K (.int .i64 (M.evalM ds env t)) w') → vcall PP n_spec_l2Eval #[dv, v, ev] w K
theorem l2Vec_spec {t : M.Tm} (ih : EvalOk t) {H : Nat → Prop} {dv v ev : Value} {ds : List M.Dcl} {env : List Int} (hd : DclsR F w dv ds) (he : M.envOk ds env = true) (ht : TermR G w v t) (hx : Ints H w ev env) (hs : M.sortM ds t ≠ -1) (hK : ∀ w', Ext w w' → K (VecV (M.sortM ds t) (M.evalM ds env t)) w') : vcall PP n_spec_l2Vec #[dv, v, ev] w K := by
  apply c_spec_l2Vec; unfold F_spec_l2Vec
  obtain ⟨cs, rfl, hcs⟩ := ht.cells
  refine vbox_agg fun b1 w1 hb1 he1 hs1 h1 => ?_
  refine valloc_agg zr_impl_Vec fun b2 w2 hb2 he2 hs2 h2 => ?_
  refine vdraw_ext fun w3 he3 _ => ?_
  have q3 := (h1.ext he2).ext he3
  have hE3 := (he1.trans he2).trans he3
  have hg : aggB PP T_impl_Term cs.length = true := by rw [tmR_len hcs]; exact g_impl_Term
  rw [q3.ldAgg (t := T_impl_Term) hg]
  refine ⟨rfl, ?_⟩
  rw [q3.ldAgg (t := T_impl_Term) hg]
  refine ⟨rfl, l2Sort_spec t (hd.ext hE3) (M.env_ok he).1 (hcs.ext hE3).term fun w4 he4 => ?_⟩
  rw [(q3.ext he4).ldAgg (t := T_impl_Term) hg]
  have hE4 := hE3.trans he4
  refine ⟨⟨rfl, rfl⟩, ih (hd.ext hE4) he (hcs.ext hE4).term (hx.ext hE4) hs fun w5 he5 => ?_⟩
  simp only [push_cast, true_and]
  refine stVec (((h2.ext he3).ext he4).ext he5) fun w6 hw6 _ h6 => ?_
  rw [h6.lv (by kernel_rfl)]
  exact hK _ (Ext.then (hE4.trans he5) hw6 fun y hy => by subst hy; have := he1.size; omega)
theorem l2Do_spec {t : M.Tm} (ih : ∀ k, k ∈ t.ks → EvalOk k) {H : Nat → Prop} {dv v ev : Value} {ds : List M.Dcl} {env : List Int} (hd : DclsR F w dv ds) (he : M.envOk ds env = true) (ht : TermR G w v t) (hx : Ints H w ev env) (hs : M.sortM ds t ≠ -1)
    (ho : (1 ≤ t.op ∧ t.op ≤ 17) ∨ t.op = 22) (hK : ∀ w', Ext w w' → K (.int .i64 (M.evalM ds env t)) w') : vcall PP n_spec_l2Do #[dv, v, ev] w K := by
  apply c_spec_l2Do; unfold F_spec_l2Do
  obtain ⟨ksv, rfl, hks⟩ := ht
  have hkl : 1 ≤ t.ks.length := by
    rcases (by omega : t.op = 22 ∨ (t.op = 1 ∨ t.op = 2) ∨ (3 ≤ t.op ∧ t.op ≤ 14) ∨ (15 ≤ t.op ∧ t.op ≤ 17)) with h | h | h | h
    · have := (M.eval_cut he hs h).1; omega
    · have := (M.eval_un he hs h).1; omega
    · have := (M.eval_bin he hs h.1 h.2).1; omega
    · have := (M.eval_cmp he hs h.1 h.2).1; omega
  refine vbox_agg fun b1 w1 hb1 he1 hs1 h1 => ?_
  have hks1 := hks.ext he1
  simp (disch := first | (simp only [push_cast]; done) | omega) only [push_cast, h1.ld4, hks1.iaddr]
  refine hks1.load g_impl_Term (by omega) fun x0 hx0 => ?_
  refine l2Vec_spec (ih (M.kid t 0) (M.kid_mem (by omega))) (hd.ext he1) he hx0 (hx.ext he1) (M.good_kid hs (by omega)) fun w2 he2 => ?_
  refine valloc_agg zr_impl_Vec fun b2 w3 hb2 he3 hs3 h3 => ?_
  refine stVec h3 fun w4 hw4 _ h4 => ?_
  have hz1 := he1.size
  have hz2 := he2.size
  have hE4 : Ext w w4 := Ext.then ((he1.trans he2).trans he3) hw4 fun y hy => by subst hy; omega
  have hl1 := h1.lt
  have q4 := ((h1.ext he2).ext he3).same hw4 (by omega)
  simp (disch := (simp only [push_cast]; done)) only [push_cast, q4.ld0]
  refine vif_dec (fun c22 => ?_) (fun c22 => ?_)
  · obtain ⟨hl, hv, hev⟩ := M.eval_cut he hs c22
    simp (disch := (simp only [push_cast]; done)) only [push_cast, h4.ldAgg (t := T_impl_Vec) g_impl_Vec, q4.ld1, q4.ld2]
    refine spec_VecCut_spec fun w5 he5 => ?_
    simp only [push_cast]
    refine valloc_agg zr_impl_Vec fun b3 w6 hb3 he6 hs6 h6 => ?_
    refine stVec h6 fun w7 hw7 _ h7 => ?_
    simp (disch := (simp only [push_cast]; done)) only [push_cast, h7.ld1]
    have := hK w7 (Ext.then ((hE4.trans he5).trans he6) hw7 fun y hy => by subst hy; have := (hE4.trans he5).size; omega)
    rwa [hev] at this
  have hks4 := hks.ext hE4
  simp (disch := (simp only [push_cast]; done)) only [push_cast, q4.ld4, hks4.len]
  refine vif_dec (fun l1 => ?_) (fun l1 => ?_)
  · have hop : t.op = 1 ∨ t.op = 2 := by
      rcases (by omega : (t.op = 1 ∨ t.op = 2) ∨ (3 ≤ t.op ∧ t.op ≤ 14) ∨ (15 ≤ t.op ∧ t.op ≤ 17)) with h | h | h
      · exact h
      · have := (M.eval_bin he hs h.1 h.2).1; omega
      · have := (M.eval_cmp he hs h.1 h.2).1; omega
    obtain ⟨hl, hv, hev⟩ := M.eval_un he hs hop
    simp (disch := (simp only [push_cast]; done)) only [push_cast, h4.ldAgg (t := T_impl_Vec) g_impl_Vec, q4.ld0]
    refine spec_VecUn_spec fun w5 he5 => ?_
    simp only [push_cast]
    refine valloc_agg zr_impl_Vec fun b3 w6 hb3 he6 hs6 h6 => ?_
    refine stVec h6 fun w7 hw7 _ h7 => ?_
    simp (disch := (simp only [push_cast]; done)) only [push_cast, h7.ld1]
    have := hK w7 (Ext.then ((hE4.trans he5).trans he6) hw7 fun y hy => by subst hy; have := (hE4.trans he5).size; omega)
    rwa [hev] at this
  have hop : 3 ≤ t.op ∧ t.op ≤ 17 := by
    rcases (by omega : (t.op = 1 ∨ t.op = 2) ∨ (3 ≤ t.op ∧ t.op ≤ 17)) with h | h
    · have := (M.eval_un he hs h).1; omega
    · exact h
  have hl2 : t.ks.length = 2 := by
    rcases (by omega : (3 ≤ t.op ∧ t.op ≤ 14) ∨ (15 ≤ t.op ∧ t.op ≤ 17)) with h | h
    · exact (M.eval_bin he hs h.1 h.2).1
    · exact (M.eval_cmp he hs h.1 h.2).1
  simp (disch := first | (simp only [push_cast]; done) | omega) only [push_cast, q4.ld4, hks4.iaddr]
  refine hks4.load g_impl_Term (by omega) fun x1 hx1 => ?_
  refine l2Vec_spec (ih (M.kid t 1) (M.kid_mem (by omega))) (hd.ext hE4) he hx1 (hx.ext hE4) (M.good_kid hs (by omega)) fun w5 he5 => ?_
  refine valloc_agg zr_impl_Vec fun b3 w6 hb3 he6 hs6 h6 => ?_
  refine stVec h6 fun w7 hw7 _ h7 => ?_
  have hz4 := hE4.size
  have hz5 := he5.size
  have hE7 : Ext w w7 := Ext.then ((hE4.trans he5).trans he6) hw7 fun y hy => by subst hy; omega
  have hl4 := h4.lt
  have hl4' := q4.lt
  have q7 := ((q4.ext he5).ext he6).same hw7 (by omega)
  have p7 := ((h4.ext he5).ext he6).same hw7 (by omega)
  simp (disch := (simp only [push_cast]; done)) only [push_cast, q7.ld0]
  refine vif_dec (fun c15 => ?_) (fun c15 => ?_)
  · obtain ⟨_, _, _, hev⟩ := M.eval_cmp he hs (by omega) hop.2
    simp (disch := (simp only [push_cast]; done)) only [push_cast, p7.ldAgg (t := T_impl_Vec) g_impl_Vec, h7.ldAgg (t := T_impl_Vec) g_impl_Vec, q7.ld0]
    refine spec_VecCmp_spec fun w8 he8 => ?_
    simp only [push_cast]
    refine l2Bool_spec ?_
    have := hK _ (hE7.trans he8)
    rwa [hev] at this
  · obtain ⟨_, _, _, hev⟩ := M.eval_bin he hs hop.1 (by omega)
    simp (disch := (simp only [push_cast]; done)) only [push_cast, p7.ldAgg (t := T_impl_Vec) g_impl_Vec, h7.ldAgg (t := T_impl_Vec) g_impl_Vec, q7.ld0]
    refine spec_VecBin_spec fun w8 he8 => ?_
    simp only [push_cast]
    refine valloc_agg zr_impl_Vec fun b4 w9 hb4 he9 hs9 h9 => ?_
    refine stVec h9 fun w10 hw10 _ h10 => ?_
    simp (disch := (simp only [push_cast]; done)) only [push_cast, h10.ld1]
    have := hK w10 (Ext.then ((hE7.trans he8).trans he9) hw10 fun y hy => by subst hy; have := (hE7.trans he8).size; omega)
    rwa [hev] at this
theorem l2Eval_spec : ∀ (t : M.Tm), EvalOk t := by
  refine M.Tm.ind fun t ih => ?_
  intro w K F G H dv v ev ds env hd he ht hx hs hK
  apply c_spec_l2Eval; unfold F_spec_l2Eval
  obtain ⟨ksv, rfl, hks⟩ := ht
  refine vbox_agg fun b1 w1 hb1 he1 hs1 h1 => ?_
  have hks1 := hks.ext he1
  have hk : ∀ c w', M.evalM ds env t = c → Ext w w' → K (.int .i64 c) w' := fun c w' e he => e ▸ hK _ he
  have hops := M.arity_ops (o := t.op) (by have := (M.formed_iff.1 (M.sort_parts hs).1).1; omega)
  simp (disch := (simp only [push_cast]; done)) only [push_cast, h1.ld0]
  refine vif_dec (fun c20 => ?_) (fun c20 => ?_)
  · simp (disch := (simp only [push_cast]; done)) only [push_cast, h1.ld2]
    exact hk _ _ (by rw [M.eval_leaf (.inl c20), if_pos c20]) he1
  refine vif_dec (fun c21 => ?_) (fun c21 => ?_)
  · have hfd := M.findD_lt ds t.s
    have hf0 := M.name_found hs c21
    have hel := (M.env_ok he).2.1
    have hx1 := hx.ext he1
    simp (disch := (simp only [push_cast]; done)) only [push_cast, h1.ld3]
    refine l2Find_spec (hd.ext he1) ?_
    simp (disch := first | (simp only [push_cast]; done) | omega) only [push_cast, hx1.iaddr, hx1.load]
    exact hk _ _ (by rw [M.eval_leaf (.inr (.inl c21)), if_neg c20, if_pos c21]) he1
  refine vif_dec (fun c24 => ?_) (fun c24 => ?_)
  · exact hk _ _ (by rw [M.eval_leaf (.inr (.inr c24)), if_neg c20, if_neg c21]) he1
  refine vif_dec (fun c25 => ?_) (fun c25 => ?_)
  · obtain ⟨hl, hb, hev⟩ := M.eval_no he hs c25
    simp (disch := first | (simp only [push_cast]; done) | omega) only [push_cast, h1.ld4, hks1.iaddr]
    refine hks1.load g_impl_Term (by omega) fun x0 hx0 => ?_
    refine ih (M.kid t 0) (M.kid_mem (by omega)) (hd.ext he1) he hx0 (hx.ext he1) (M.good_kid hs (by omega)) fun w2 he2 => ?_
    simp only [push_cast]
    have hb2 := M.inS_zero hb
    rw [wrap64 (by omega) (by omega)]
    exact hk _ _ hev (he1.trans he2)
  refine vif_dec (fun c26 => ?_) (fun c26 => ?_)
  · obtain ⟨hl, hb, hb', hev⟩ := M.eval_two he hs (.inl c26)
    rw [if_pos c26] at hev
    refine vdraw_ext fun w2 he2 _ => ?_
    have h2 := h1.ext he2
    have hE2 := he1.trans he2
    have hks2 := hks.ext hE2
    simp (disch := first | (simp only [push_cast]; done) | omega) only [push_cast, h2.ld4, hks2.iaddr, true_and]
    obtain ⟨css, hsl, hcl, hci⟩ := hks2
    rw [hsl.ldAgg g_impl_Term (i := 0) (by omega)]
    simp only [true_and]
    rw [hsl.ldAgg g_impl_Term (i := 1) (by omega)]
    simp only [true_and]
    refine ih (M.kid t 0) (M.kid_mem (by omega)) (hd.ext hE2) he (hci 0 (by omega)).term (hx.ext hE2) (M.good_kid hs (by omega)) fun w3 he3 => ?_
    have h3 := h2.ext he3
    have hks3 := hks.ext (hE2.trans he3)
    have hsl3 := hsl.ext he3
    simp (disch := first | (simp only [push_cast]; done) | omega) only [push_cast, h3.ld4, hks3.iaddr, true_and]
    rw [hsl3.ldAgg g_impl_Term (i := 1) (by omega)]
    refine ⟨⟨rfl, rfl⟩, ?_⟩
    try simp only [true_and, and_self]
    refine ih (M.kid t 1) (M.kid_mem (by omega)) (hd.ext (hE2.trans he3)) he ((hci 1 (by omega)).ext he3).term (hx.ext (hE2.trans he3)) (M.good_kid hs (by omega)) fun w4 he4 => ?_
    simp only [push_cast, true_and]
    have e : IntKind.i64.wrap (M.evalM ds env (M.kid t 0) * M.evalM ds env (M.kid t 1)) = M.evalM ds env (M.kid t 0) * M.evalM ds env (M.kid t 1) := by
      rcases M.inS_zero hb with e | e <;> rcases M.inS_zero hb' with e' | e' <;> rw [e, e'] <;> rfl
    rw [e]
    exact hk _ _ hev ((hE2.trans he3).trans he4)
  refine vif_dec (fun c27 => ?_) (fun c27 => ?_)
  · obtain ⟨hl, hb, hb', hev⟩ := M.eval_two he hs (.inr c27)
    rw [if_neg c26] at hev
    refine vdraw_ext fun w2 he2 _ => ?_
    have h2 := h1.ext he2
    have hE2 := he1.trans he2
    have hks2 := hks.ext hE2
    simp (disch := first | (simp only [push_cast]; done) | omega) only [push_cast, h2.ld4, hks2.iaddr, true_and]
    obtain ⟨css, hsl, hcl, hci⟩ := hks2
    rw [hsl.ldAgg g_impl_Term (i := 0) (by omega)]
    simp only [true_and]
    rw [hsl.ldAgg g_impl_Term (i := 1) (by omega)]
    simp only [true_and]
    refine ih (M.kid t 0) (M.kid_mem (by omega)) (hd.ext hE2) he (hci 0 (by omega)).term (hx.ext hE2) (M.good_kid hs (by omega)) fun w3 he3 => ?_
    have h3 := h2.ext he3
    have hks3 := hks.ext (hE2.trans he3)
    have hsl3 := hsl.ext he3
    simp (disch := first | (simp only [push_cast]; done) | omega) only [push_cast, h3.ld4, hks3.iaddr, true_and]
    rw [hsl3.ldAgg g_impl_Term (i := 1) (by omega)]
    refine ⟨⟨rfl, rfl⟩, ?_⟩
    try simp only [true_and, and_self]
    refine ih (M.kid t 1) (M.kid_mem (by omega)) (hd.ext (hE2.trans he3)) he ((hci 1 (by omega)).ext he3).term (hx.ext (hE2.trans he3)) (M.good_kid hs (by omega)) fun w4 he4 => ?_
    refine l1Max_spec ?_
    exact hk _ _ hev ((hE2.trans he3).trans he4)
  refine vif_dec (fun c23 => ?_) (fun c23 => ?_)
  · obtain ⟨hl, hb, hev⟩ := M.eval_if he hs c23
    simp (disch := first | (simp only [push_cast]; done) | omega) only [push_cast, h1.ld4, hks1.iaddr]
    refine hks1.load g_impl_Term (by omega) fun x0 hx0 => ?_
    refine ih (M.kid t 0) (M.kid_mem (by omega)) (hd.ext he1) he hx0 (hx.ext he1) (M.good_kid hs (by omega)) fun w2 he2 => ?_
    have h2 := h1.ext he2
    have hE2 := he1.trans he2
    have hks2 := hks.ext hE2
    simp only [push_cast]
    refine vif_dec (fun b => ?_) (fun b => ?_)
    · rw [if_pos b] at hev
      simp (disch := first | (simp only [push_cast]; done) | omega) only [push_cast, h2.ld4, hks2.iaddr]
      refine hks2.load g_impl_Term (by omega) fun x1 hx1 => ?_
      refine ih (M.kid t 1) (M.kid_mem (by omega)) (hd.ext hE2) he hx1 (hx.ext hE2) (M.good_kid hs (by omega)) fun w3 he3 => ?_
      exact hk _ _ hev (hE2.trans he3)
    · rw [if_neg b] at hev
      simp (disch := first | (simp only [push_cast]; done) | omega) only [push_cast, h2.ld4, hks2.iaddr]
      refine hks2.load g_impl_Term (by omega) fun x1 hx1 => ?_
      refine ih (M.kid t 2) (M.kid_mem (by omega)) (hd.ext hE2) he hx1 (hx.ext hE2) (M.good_kid hs (by omega)) fun w3 he3 => ?_
      exact hk _ _ hev (hE2.trans he3)
  · rw [h1.ldAgg (t := T_impl_Term) g_impl_Term]
    refine l2Do_spec (G := G) (t := t) (fun k hk => ih k hk) (hd.ext he1) he ⟨ksv, rfl, hks1⟩ (hx.ext he1) hs (by omega) fun w2 he2 => ?_
    exact hK _ (he1.trans he2)
theorem spec_TermEval_spec {dv v ev : Value} {ds : List M.Dcl} {t : M.Tm} {env : List Int} {H : Nat → Prop} (hsz : Sized ds) (hd : DclsR F w dv ds) (ht : TermR G w v t) (hx : Ints H w ev env) (hK : ∀ w', Ext w w' → K (.tuple #[.int .i64 (M.teval ds t env), .bool (M.tok ds t env)]) w') : vcall PP n_spec_TermEval #[dv, v, ev] w K := by
  apply c_spec_TermEval; unfold F_spec_TermEval
  obtain ⟨cs, rfl, hcs⟩ := ht.cells
  have hg : aggB PP T_impl_Term cs.length = true := by rw [tmR_len hcs]; exact g_impl_Term
  refine vbox_agg fun b1 w1 hb1 he1 hs1 h1 => ?_
  rw [h1.ldAgg (t := T_impl_Term) hg]
  refine spec_TermSort_spec hsz (hd.ext he1) (hcs.ext he1).term fun w2 he2 => ?_
  have hE2 := he1.trans he2
  have hno : M.tok ds t env = false → ∀ w', Ext w w' → K (.tuple #[.int .i64 0, .bool false]) w' := fun e w' he => by
    have := hK w' he
    unfold M.teval at this
    rw [e] at this
    exact this
  unfold M.tok at hno
  have hr : M.tsort ds t = -1 ∨ (0 ≤ M.tsort ds t ∧ M.tsort ds t = M.sortM ds t) := by
    unfold M.tsort
    split
    · rename_i h
      have := M.sort_range h.2 t
      omega
    · exact .inl rfl
  simp only [push_cast]
  refine vif_dec (fun a => ?_) (fun a => ?_)
  · exact hno (by rw [show decide (M.tsort ds t ≠ -1) = false from decide_eq_false (fun h => h (by omega))]; rfl) _ hE2
  · refine spec_EnvOk_spec (hd.ext hE2) hsz (hx.ext hE2) fun w3 he3 => ?_
    have hE3 := hE2.trans he3
    simp only [push_cast]
    refine vif_bool (fun b => ?_) (fun b => ?_)
    · exact hno (by rw [show M.envOk ds env = false by simpa using b, Bool.and_false]) _ hE3
    · rw [Bool.not_eq_false'] at b
      have ht0 : M.tok ds t env = true := by
        unfold M.tok
        rw [show decide (M.tsort ds t ≠ -1) = true from decide_eq_true (by omega), b]; rfl
      rw [((h1.ext he2).ext he3).ldAgg (t := T_impl_Term) hg]
      refine l2Eval_spec t (hd.ext hE3) b (hcs.ext hE3).term (hx.ext hE3) (by omega) fun w4 he4 => ?_
      have := hK w4 (hE3.trans he4)
      unfold M.teval at this
      rw [ht0] at this
      exact this
end Go.Proofs.YtbiabimalkkeiaaGreatDoor
