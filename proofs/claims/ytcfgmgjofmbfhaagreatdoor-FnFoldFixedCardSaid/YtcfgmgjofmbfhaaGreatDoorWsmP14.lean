import Derived.Test.YtcfgmgjofmbfhaaGreatDoorWsmP13
import Derived.Test.YtcfgmgjofmbfhaaGreatDoorWsmP9
/- A part of the proof: Yg, Yh, Yi, Dx, Wf, Lz. -/
set_option linter.unusedVariables false
set_option linter.unusedSimpArgs false
set_option linter.unnecessarySimpa false
set_option linter.unusedSectionVars false
section
namespace Go.Proofs.YtcfgmgjofmbfhaaGreatDoor
open Go Go.Vc Go.Proofs
variable {w : World} {K : Value → World → Prop} {F F' D G : Nat → Prop}
def Qb (G : Nat → Prop) (n b4 : Nat) (x : Nat) : Prop := (G x ∧ x < n) ∨ b4 < x
structure RT (G : Nat → Prop) (w0 w : World) (b3 b4 : Nat) (kv : Value) (t : M.Tm) : Prop where
  ext : Ext w0 w
  q : Blk w b3 [.int .i64 t.op, .int .i64 t.a, .int .i64 t.b, .string t.s, kv] T_impl_Term
  r : Blk w b4 zeroT T_impl_Term
  k : TmsR (fun x => G x ∧ x < w0.heap.size) w kv t.ks
  lo : w0.heap.size ≤ b4
section
variable {w0 w' : World} {b3 b4 : Nat} {kv : Value} {t : M.Tm}
theorem rt_ext (h : RT G w0 w b3 b4 kv t) (he : Ext w w') : RT G w0 w' b3 b4 kv t := ⟨h.ext.trans he, h.q.ext he, h.r.ext he, h.k.ext he, h.lo⟩
theorem rt_enter {tv : Value} {B : Value → Value → World → Prop} (ht : TermR G w tv t) (hK : ∀ w' b3 b4 kv, RT G w w' b3 b4 kv t → B (ptr b3) (ptr b4) w') :
    vbox PP T_impl_Term tv w fun t3 w_2 => valloc PP T_impl_Term w_2 fun t4 w_3 => B t3 t4 w_3 := by
  obtain ⟨kv, rfl, hks⟩ := ht
  refine vbox_agg fun b2 w2 hb2 he2 hs2 h2 => ?_
  refine valloc_agg zr_impl_Term fun b3 w3 hb3 he3 hs3 h3 => ?_
  have hE := he2.trans he3
  exact hK _ _ _ kv ⟨hE, h2.ext he3, h3, (hks.weaken fun b h h' => ⟨h, h'⟩).ext hE, by omega⟩
abbrev OutK (K : Value → World → Prop) (w : World) (G : Nat → Prop) (u : M.Tm) : Prop := ∀ w' rv, Ext w w' → TermR (fun x => G x ∨ w.heap.size ≤ x) w' rv u → K rv w'
theorem rt_give (h : RT G w0 w b3 b4 kv t) {rv : Value} {u : M.Tm} (hu : TermR (Qb G w0.heap.size b4) w rv u) (hK : OutK K w0 G u) :
    vstore PP T_impl_Term (ptr b4) rv w fun _ w1 => vlv PP T_impl_Term (ptr b4) w1 fun r w2 => K r w2 := by
  obtain ⟨cs, rfl, hcs⟩ := hu.cells
  have hlo := h.lo
  refine retTerm h.r rfl hcs (fun x hx => by rcases hx with h | h <;> omega) fun w3 hw3 hz3 ht3 => ?_
  exact hK _ _ (Ext.then h.ext hw3 fun y hy => by subst hy; exact h.lo) (ht3.weaken fun x hx _ => by
    rcases hx with h | h
    · exact .inl h.1
    · exact .inr (by omega))
theorem rt_kid {n : Nat} {rv : Value} {u : M.Tm} (hu : TermR (fun x => G x ∧ x < n) w' rv u) : TermR (Qb G n b4) w' rv u := hu.weaken fun x hx _ => .inl hx
theorem rt_new (h : RT G w0 w b3 b4 kv t) {rv : Value} {u : M.Tm} (hu : TermR (fun x => w.heap.size ≤ x) w' rv u) : TermR (Qb G w0.heap.size b4) w' rv u := hu.weaken fun x hx _ => .inr (by have := h.r.lt; omega)
theorem rt_self (h : RT G w0 w b3 b4 kv t) : TermR (fun x => G x ∧ x < w0.heap.size) w (.agg ⟨[.int .i64 t.op, .int .i64 t.a, .int .i64 t.b, .string t.s, kv]⟩) t := ⟨kv, rfl, h.k⟩
end
theorem spec_TermSame_spec : ∀ (t : M.Tm) {w : World} {K : Value → World → Prop} {F G : Nat → Prop} {va vb : Value} {u : M.Tm}, TermR F w va t → TermR G w vb u → (∀ w', Ext w w' → K (.bool (decide (t = u))) w') → vcall PP n_spec_TermSame #[va, vb] w K := by
  refine M.Tm.ind fun t ih w K F G va vb u ha hb hK => ?_
  apply c_spec_TermSame; unfold F_spec_TermSame
  obtain ⟨kva, rfl, hka⟩ := ha
  obtain ⟨kvb, rfl, hkb⟩ := hb
  refine vbox_agg fun b1 w1 hb1 he1 hs1 h1 => ?_
  refine vbox_agg fun b2 w2 hb2 he2 hs2 h2 => ?_
  have q1 := h1.ext he2
  have hE := he1.trans he2
  have no : ∀ w', Ext w w' → t ≠ u → K (.bool false) w' := fun w' h hn => by
    have := hK w' h
    rwa [decide_eq_false hn] at this
  refine vjoin_of (fun x w' => x = [] ∧ w' = w2 ∧ t.op = u.op ∧ t.a = u.a ∧ t.b = u.b ∧ t.s = u.s ∧ t.ks.length = u.ks.length) (fun C hC => ?_) ?_
  · simp (disch := (simp only [push_cast]; done)) only [push_cast, q1.ld0, h2.ld0, q1.ld1, h2.ld1, q1.ld2, h2.ld2, q1.ld3, h2.ld3, q1.ld4, h2.ld4, (hka.ext hE).len, (hkb.ext hE).len]
    refine vif_dec (fun e => no _ hE fun h => e (by rw [h])) (fun e1 => ?_)
    refine vif_dec (fun e => no _ hE fun h => e (by rw [h])) (fun e2 => ?_)
    refine vif_dec (fun e => no _ hE fun h => e (by rw [h])) (fun e3 => ?_)
    refine vif_dec (fun e => no _ hE fun h => e (by rw [h])) (fun e4 => ?_)
    refine vif_dec (fun e => no _ hE fun h => e (by rw [h])) (fun e5 => ?_)
    exact hC _ _ ⟨rfl, rfl, by omega, by omega, by omega, by simpa using e4, by omega⟩
  rintro x g w2' ⟨rfl, rfl, e1, e2, e3, e4, el⟩
  have hsm := hka.small
  refine vloop_up t.ks.length (fun i x w' => x = [.int .i64 i] ∧ Ext w2' w' ∧ ∀ j, j < i → t.ks.getD j default = u.ks.getD j default) ⟨rfl, Same.refl _ _, fun j hj => absurd hj (by omega)⟩ ?_
  rintro i _ _ w3 C hi ⟨rfl, he3, hall⟩ hC
  have hE3 := hE.trans he3
  have ha3 := hka.ext hE3
  have p3 := q1.ext he3
  simp (disch := first | (simp only [push_cast]; done) | omega) only [push_cast, p3.ld4, ha3.len]
  refine vif_dec (fun a => ?_) (fun a => ?_)
  · refine vdraw_ext fun w4 he4 _ => ?_
    have hE4 := hE3.trans he4
    have p4 := p3.ext he4
    have r4 := h2.ext (he3.trans he4)
    obtain ⟨ca, sa, la, ka⟩ := hka.ext hE4
    obtain ⟨cb, sb, lb, kb⟩ := hkb.ext hE4
    simp (disch := first | (simp only [push_cast]; done) | omega) only [push_cast, p4.ld4, r4.ld4, sa.iaddr, sa.ldAgg, sb.iaddr, sb.ldAgg, true_and]
    refine ih _ (M.getD_mem (by omega) _) (ka i (by omega)).term (kb i (by omega)).term fun w8 he8 => ?_
    simp only [push_cast, true_and]
    refine vif_bool (fun b => ?_) (fun b => ?_)
    · rw [Bool.not_eq_true', decide_eq_false_iff_not] at b
      exact no _ (hE4.trans he8) fun h => b (by rw [h])
    · rw [Bool.not_eq_false', decide_eq_true_eq] at b
      rw [inc64' (by omega)]
      refine hC (by omega) _ _ ⟨rfl, he3.trans (he4.trans he8), fun j hj => ?_⟩
      by_cases e : j < i
      · exact hall j e
      · have : j = i := by omega
        subst this; exact b
  · have : t = u := M.tm_ext e1 e2 e3 e4 (List.ext_getElem el fun j h1 h2 => by
      have := hall j (by omega)
      rwa [List.getD_eq_getElem?_getD, List.getElem?_eq_getElem h1, List.getD_eq_getElem?_getD, List.getElem?_eq_getElem h2] at this)
    have := hK w3 hE3
    rwa [decide_eq_true ‹t = u›] at this
theorem l3False_spec (hK : ∀ w' v, Ext w w' → TermR (fun b => w.heap.size ≤ b) w' v M.flsT → K v w') : vcall PP n_spec_l3False #[] w K := by
  apply c_spec_l3False; unfold F_spec_l3False
  refine valloc_agg zr_impl_Term fun b1 w1 hb1 he1 hs1 h1 => ?_
  simp only [push_cast]
  refine kids1 (node_leaf (o := 24) (F := fun _ => False)) fun w2 a he2 hs2 k2 => ?_
  simp only [push_cast]
  have hn : TmR (fun b => b ≠ b1 ∧ w.heap.size ≤ b) w2 _ M.flsT := (TmR.of (t := M.flsT) k2).weaken fun z hz _ => by
    rcases hz with h | h
    · exact h.elim
    · exact ⟨by omega, by omega⟩
  refine retTerm (h1.ext he2) rfl hn (fun x hx => hx.1) fun w3 hw3 hz3 ht3 => ?_
  exact hK _ _ (Ext.then (he1.trans he2) hw3 fun y hy => by subst hy; omega) (ht3.weaken fun b hb _ => hb.2)
theorem l3Bool_spec {b : Bool} (hK : ∀ w' v, Ext w w' → TermR (fun b => w.heap.size ≤ b) w' v (M.boolM b) → K v w') : vcall PP n_spec_l3Bool #[.bool b] w K := by
  apply c_spec_l3Bool; unfold F_spec_l3Bool
  refine valloc_agg zr_impl_Term fun b1 w1 hb1 he1 hs1 h1 => ?_
  refine vif_bool (fun a => ?_) (fun a => ?_)
  · subst a
    simp only [push_cast]
    refine retTerm h1 rfl (leafR 24 0 0 _ : TmR (fun _ => False) w1 _ _) (fun x hx => hx.elim) fun w3 hw3 hz3 ht3 => ?_
    exact hK _ _ (Ext.then he1 hw3 fun y hy => by subst hy; omega) (ht3.weaken fun b hb _ => hb.elim)
  · subst a
    refine l3False_spec fun w2 v he2 ht2 => ?_
    obtain ⟨cs, rfl, hcs⟩ := ht2.cells
    refine retTerm (h1.ext he2) rfl hcs (fun x hx => by omega) fun w3 hw3 hz3 ht3 => ?_
    exact hK _ _ (Ext.then (he1.trans he2) hw3 fun y hy => by subst hy; omega) (ht3.weaken fun b hb _ => by have := he1.size; omega)
@[push_cast] theorem bd_T2 (o a : Int) : vbuild PP T_impl_Term [(0, .int .i64 o), (1, .int .i64 a)] w K = K (.agg ⟨[.int .i64 o, .int .i64 a, .int .i64 0, .string ⟨#[]⟩, .slice none 0 0]⟩) w := vbuild_eq b_impl_Term (us := [[.int .i64 o], [.int .i64 a]]) rfl rfl
theorem l3Zero_spec {s : Int} (hK : ∀ w' v, Ext w w' → TermR (fun b => w.heap.size ≤ b) w' v (.mk 20 s 0 M.nada []) → K v w') : vcall PP n_spec_l3Zero #[.int .i64 s] w K := by
  apply c_spec_l3Zero; unfold F_spec_l3Zero
  refine valloc_agg zr_impl_Term fun b1 w1 hb1 he1 hs1 h1 => ?_
  simp only [push_cast]
  refine retTerm h1 rfl (leafR 20 s 0 _ : TmR (fun _ => False) w1 _ _) (fun x hx => hx.elim) fun w3 hw3 hz3 ht3 => ?_
  exact hK _ _ (Ext.then he1 hw3 fun y hy => by subst hy; omega) (ht3.weaken fun b hb _ => hb.elim)
theorem spec_TermFixed_spec {v : Value} {t : M.Tm} (ht : TermR F w v t) (hK : ∀ w', Ext w w' → K (.tuple #[.int .i64 ((M.fixedM t).getD 0), .bool (M.fixedM t).isSome]) w') : vcall PP n_spec_TermFixed #[v] w K := by
  apply c_spec_TermFixed; unfold F_spec_TermFixed
  have ht' := ht
  obtain ⟨kv, rfl, hks⟩ := ht
  refine vbox_agg fun b1 w1 hb1 he1 hs1 h1 => ?_
  have out : ∀ w' o, Ext w w' → M.fixedM t = o → K (.tuple #[.int .i64 (o.getD 0), .bool o.isSome]) w' := fun w' o h e => by rw [← e]; exact hK w' h
  rw [h1.ldAgg (t := T_impl_Term) g_impl_Term]
  simp only [push_cast]
  refine spec_TermSame_spec t (ht'.ext he1) (node_leaf (o := 24) (F := fun _ => False)) fun w3 he3 => ?_
  have hE3 := he1.trans he3
  refine vif_dec (fun d => ?_) (fun d => ?_)
  · exact out w3 (some 1) hE3 (if_pos d)
  have d' : ¬ t = M.truT := d
  refine vdraw_ext fun w4 he4 _ => ?_
  have hE4 := hE3.trans he4
  have q4 := h1.ext (he3.trans he4)
  simp (disch := (simp only [push_cast]; done)) only [push_cast, q4.ldAgg (t := T_impl_Term) g_impl_Term, true_and]
  refine l3False_spec fun w5 fv he5 hf5 => ?_
  have q5 := q4.ext he5
  simp (disch := (simp only [push_cast]; done)) only [push_cast, q5.ldAgg (t := T_impl_Term) g_impl_Term, true_and, and_self]
  refine spec_TermSame_spec t (ht'.ext (hE4.trans he5)) hf5 fun w6 he6 => ?_
  have hE6 := hE4.trans (he5.trans he6)
  have q6 := q5.ext he6
  refine vif_dec (fun f => ?_) (fun f => ?_)
  · refine out w6 (some 0) hE6 ?_
    unfold M.fixedM
    rw [if_neg d', if_pos f]
  have f' : ¬ t = M.flsT := f
  have no : ∀ w', Ext w w' → ¬ (t.op = 20 ∧ t.ks = [] ∧ t.s = M.nada ∧ M.vok t.a t.b = true) → K (.tuple #[.int .i64 0, .bool false]) w' := fun w' h hn => out w' none h (by unfold M.fixedM; rw [if_neg d', if_neg f', if_neg hn])
  simp (disch := (simp only [push_cast]; done)) only [push_cast, q6.ld0]
  refine vif_dec (fun c1 => ?_) (fun c1 => no _ hE6 fun h => c1 h.1)
  simp (disch := (simp only [push_cast]; done)) only [push_cast, q6.ld4, (hks.ext hE6).len]
  refine vif_dec (fun c2 => ?_) (fun c2 => no _ hE6 fun h => c2 (nil_len.2 h.2.1))
  try simp (disch := (simp only [push_cast]; done)) only [push_cast, q6.ld3]
  refine vif_dec (fun c3 => ?_) (fun c3 => no _ hE6 fun h => c3 h.2.2.1)
  try simp (disch := (simp only [push_cast]; done)) only [push_cast, q6.ld1, q6.ld2]
  refine spec_VecOk_spec fun w7 he7 => ?_
  have q7 := q6.ext he7
  refine vif_bool (fun c4 => ?_) (fun c4 => no _ (hE6.trans he7) fun h => by rw [h.2.2.2] at c4; cases c4)
  simp (disch := (simp only [push_cast]; done)) only [push_cast, q7.ld2]
  refine out w7 (some t.b) (hE6.trans he7) ?_
  rw [fixed_vec c1, if_pos ⟨nil_len.1 c2, c3, c4⟩]
theorem l3Is_spec {v : Value} {t : M.Tm} {n : Int} (ht : TermR F w v t) (hK : ∀ w', Ext w w' → K (.bool (M.isM t n)) w') : vcall PP n_spec_l3Is #[v, .int .i64 n] w K := by
  apply c_spec_l3Is; unfold F_spec_l3Is
  obtain ⟨cs, rfl, hcs⟩ := ht.cells
  refine vbox_agg fun b1 w1 hb1 he1 hs1 h1 => ?_
  rw [h1.ldAgg (t := T_impl_Term) (by rw [tmR_len hcs]; exact g_impl_Term)]
  refine spec_TermFixed_spec (hcs.ext he1).term fun w2 he2 => ?_
  have := hK w2 (he1.trans he2)
  unfold M.isM at this
  simp only [push_cast]
  cases e : M.fixedM t with
  | none => rw [e] at this; exact this
  | some m =>
    rw [e] at this
    simp only [Option.some.injEq] at this
    exact this
theorem l3All_spec {v : Value} {t : M.Tm} (ht : TermR F w v t) (hK : ∀ w', Ext w w' → K (.bool (M.allFixed t)) w') : vcall PP n_spec_l3All #[v] w K := by
  apply c_spec_l3All; unfold F_spec_l3All
  obtain ⟨kv, rfl, hks⟩ := ht
  refine vbox_agg fun b1 w1 hb1 he1 hs1 h1 => ?_
  have hsm := hks.small
  refine vloop_up t.ks.length (fun i u w' => u = [.int .i64 i] ∧ Ext w1 w' ∧ ∀ j, j < i → (M.fixedM (t.ks.getD j default)).isSome = true) ⟨rfl, Same.refl _ _, fun j hj => absurd hj (by omega)⟩ ?_
  rintro i _ _ w3 C hi ⟨rfl, he3, hall⟩ hC
  have hE3 := he1.trans he3
  have q3 := h1.ext he3
  have hk3 := hks.ext hE3
  simp (disch := (simp only [push_cast]; done)) only [push_cast, q3.ld4, hk3.len]
  refine vif_dec (fun b => ?_) (fun b => ?_)
  · simp (disch := first | (simp only [push_cast]; done) | omega) only [push_cast, hk3.iaddr]
    refine hk3.load g_impl_Term (by omega) fun x hx => ?_
    refine spec_TermFixed_spec hx fun w6 he6 => ?_
    simp only [push_cast]
    refine vif_bool (fun c => ?_) (fun c => ?_)
    · rw [Bool.not_eq_true'] at c
      have : M.allFixed t = false := by
        unfold M.allFixed
        rw [Bool.and_eq_false_iff]
        right
        rw [List.all_eq_false]
        exact ⟨_, M.getD_mem (l := t.ks) (i := i) (by omega) default, by rw [c]; decide⟩
      have h := hK w6 (hE3.trans he6)
      rwa [this] at h
    · rw [Bool.not_eq_false'] at c
      rw [inc64' (by omega)]
      refine hC (by omega) _ _ ⟨rfl, he3.trans he6, fun j hj => ?_⟩
      by_cases e : j < i
      · exact hall j e
      · have : j = i := by omega
        subst this; exact c
  · try simp (disch := (simp only [push_cast]; done)) only [push_cast, q3.ld4, hk3.len]
    have : M.allFixed t = decide (0 < (t.ks.length : Int)) := by
      unfold M.allFixed
      have ha : (t.ks.all fun k => (M.fixedM k).isSome) = true := by
        rw [List.all_eq_true]
        intro k hk
        obtain ⟨j, hj, rfl⟩ := List.getElem_of_mem hk
        have := hall j (by omega)
        rwa [List.getD_eq_getElem?_getD, List.getElem?_eq_getElem hj] at this
      rw [ha, Bool.and_true]
      have e : (t.ks ≠ []) ↔ 0 < (t.ks.length : Int) := by rw [← List.length_pos_iff]; omega
      exact decide_eq_decide.2 e
    have h := hK w3 hE3
    rwa [this] at h
theorem l3Right_spec {v : Value} {t : M.Tm} (ht : TermR G w v t) (h2 : t.ks.length = 2) (hK : OutK K w G (M.rightS t)) : vcall PP n_spec_l3Right #[v] w K := by
  apply c_spec_l3Right; unfold F_spec_l3Right
  refine rt_enter (B := fun t3 t4 w_3 => _) ht fun w1 b3 b4 kv rs => ?_
  simp (disch := first | (simp only [push_cast]; done) | omega) only [push_cast, rs.q.ld4, rs.k.iaddr]
  refine rs.k.load g_impl_Term (by omega) fun x hx => ?_
  obtain ⟨c, rfl, hc⟩ := hx.cells
  refine valloc_agg zr_impl_Term fun b5 w2 hb5 he2 hs2 h5 => ?_
  refine stTerm h5 rfl (hc.ext he2) fun w3 hw3 hz3 h5' => ?_
  have e13 : Ext w1 w3 := Ext.then he2 hw3 fun y hy => by subst hy; omega
  have r3 := rt_ext rs e13
  simp (disch := first | (simp only [push_cast]; done) | omega) only [push_cast, r3.q.ld4, r3.k.iaddr]
  refine r3.k.load g_impl_Term (by omega) fun y hy => ?_
  obtain ⟨c', rfl, hc'⟩ := hy.cells
  refine valloc_agg zr_impl_Term fun b6 w4 hb6 he4 hs4 h6 => ?_
  refine stTerm h6 rfl (hc'.ext he4) fun w5 hw5 hz5 h6' => ?_
  have e35 : Ext w3 w5 := Ext.then he4 hw5 fun y hy => by subst hy; omega
  have r5 := rt_ext r3 e35
  have A5 := h5'.ext e35
  have gc : aggB PP T_impl_Term c.length = true := by rw [tmR_len hc]; exact g_impl_Term
  have gc' : aggB PP T_impl_Term c'.length = true := by rw [tmR_len hc']; exact g_impl_Term
  have hc5 : TmR (fun x => G x ∧ x < w.heap.size) w5 c (M.kid t 0) := hc.ext (e13.trans e35)
  have hc5' : TmR (fun x => G x ∧ x < w.heap.size) w5 c' (M.kid t 1) := hc'.ext e35
  simp (disch := (simp only [push_cast]; done)) only [push_cast, r5.q.ld0]
  refine vjoin_of (fun u w' => ∃ b : Bool, u = [.bool b] ∧ w' = w5 ∧ (b = true ↔ t.op = 4 ∨ t.op = 5 ∨ t.op = 6 ∨ t.op = 7 ∨ t.op = 11 ∨ t.op = 12 ∨ t.op = 13)) (fun D hD => ?_) ?_
  · try simp only [push_cast]
    refine vif_dec (fun c => hD _ _ ⟨_, rfl, rfl, ⟨fun _ => by omega, fun _ => by rw [decide_eq_true_eq]; exact c⟩⟩) (fun c1 => ?_)
    refine vif_dec (fun c => hD _ _ ⟨_, rfl, rfl, ⟨fun _ => by omega, fun _ => by rw [decide_eq_true_eq]; exact c⟩⟩) (fun c2 => ?_)
    refine vif_dec (fun c => hD _ _ ⟨_, rfl, rfl, ⟨fun _ => by omega, fun _ => by rw [decide_eq_true_eq]; exact c⟩⟩) (fun c3 => ?_)
    refine vif_dec (fun c => hD _ _ ⟨_, rfl, rfl, ⟨fun _ => by omega, fun _ => by rw [decide_eq_true_eq]; exact c⟩⟩) (fun c4 => ?_)
    refine vif_dec (fun c => hD _ _ ⟨_, rfl, rfl, ⟨fun _ => by omega, fun _ => by rw [decide_eq_true_eq]; exact c⟩⟩) (fun c5 => ?_)
    refine vif_dec (fun c => hD _ _ ⟨_, rfl, rfl, ⟨fun _ => by omega, fun _ => by rw [decide_eq_true_eq]; exact c⟩⟩) (fun c6 => ?_)
    exact hD _ _ ⟨_, rfl, rfl, ⟨fun h => by rw [decide_eq_true_eq] at h; omega, fun h => by rw [decide_eq_true_eq]; omega⟩⟩
  rintro u g w5' ⟨b, rfl, rfl, hb⟩
  simp only [push_cast]
  have self : ∀ {w'}, RT G w w' b3 b4 kv t → M.rightS t = t → vload PP T_impl_Term (ptr b3) w' fun r w2 => vstore PP T_impl_Term (ptr b4) r w2 fun _ w3 => vlv PP T_impl_Term (ptr b4) w3 fun r w4 => K r w4 := fun {w'} h e => by
    rw [h.q.ldAgg (t := T_impl_Term) g_impl_Term]
    rw [e] at hK
    exact rt_give h (rt_kid (rt_self h)) hK
  refine vif_bool (fun o => ?_) (fun o => ?_)
  · have o4 := hb.1 o
    rw [h6'.ldAgg (t := T_impl_Term) gc']
    refine l3Is_spec hc5'.term fun w6 he6 => ?_
    have r6 := rt_ext r5 he6
    have e : M.rightS t = if M.isM (M.kid t 1) 0 = true then M.kid t 0 else t := by unfold M.rightS; rw [if_pos o4]
    refine vif_bool (fun i => ?_) (fun i => ?_)
    · rw [(A5.ext he6).ldAgg (t := T_impl_Term) gc]
      rw [e, if_pos i] at hK
      exact rt_give r6 (rt_kid (hc5.ext he6).term) hK
    · exact self r6 (by rw [e, i]; rfl)
  have no4 : ¬ (t.op = 4 ∨ t.op = 5 ∨ t.op = 6 ∨ t.op = 7 ∨ t.op = 11 ∨ t.op = 12 ∨ t.op = 13) := fun h => by have := hb.2 h; rw [o] at this; cases this
  try simp only [push_cast]
  refine vif_dec (fun o3 => ?_) (fun o3 => ?_)
  · rw [h6'.ldAgg (t := T_impl_Term) gc']
    refine l3Is_spec hc5'.term fun w6 he6 => ?_
    have r6 := rt_ext r5 he6
    have e : M.rightS t = if M.isM (M.kid t 1) 0 = true then M.kid t 1 else t := by unfold M.rightS; rw [if_neg no4, if_pos o3]
    refine vif_bool (fun i => ?_) (fun i => ?_)
    · rw [(h6'.ext he6).ldAgg (t := T_impl_Term) gc']
      rw [e, if_pos i] at hK
      exact rt_give r6 (rt_kid (hc5'.ext he6).term) hK
    · exact self r6 (by rw [e, i]; rfl)
  try simp only [push_cast]
  refine vif_dec (fun o8 => ?_) (fun o8 => ?_)
  · rw [h6'.ldAgg (t := T_impl_Term) gc']
    refine l3Is_spec hc5'.term fun w6 he6 => ?_
    have r6 := rt_ext r5 he6
    have e : M.rightS t = if M.isM (M.kid t 1) 0 = true then M.kid t 1 else if M.isM (M.kid t 1) 1 = true then M.kid t 0 else t := by unfold M.rightS; rw [if_neg no4, if_neg o3, if_pos o8]
    refine vif_bool (fun i => ?_) (fun i => ?_)
    · rw [(h6'.ext he6).ldAgg (t := T_impl_Term) gc']
      rw [e, if_pos i] at hK
      exact rt_give r6 (rt_kid (hc5'.ext he6).term) hK
    · rw [(h6'.ext he6).ldAgg (t := T_impl_Term) gc']
      refine l3Is_spec (hc5'.ext he6).term fun w7 he7 => ?_
      have r7 := rt_ext r6 he7
      refine vif_bool (fun j => ?_) (fun j => ?_)
      · rw [(A5.ext (he6.trans he7)).ldAgg (t := T_impl_Term) gc]
        rw [e, i, if_neg (by decide), if_pos j] at hK
        exact rt_give r7 (rt_kid (hc5.ext (he6.trans he7)).term) hK
      · exact self r7 (by rw [e, i, j]; rfl)
  · exact self r5 (by unfold M.rightS; rw [if_neg no4, if_neg o3, if_neg o8])
theorem l3Alike_spec {v : Value} {t : M.Tm} {s : Int} (ht : TermR G w v t) (h2 : t.ks.length = 2) (hK : OutK K w G (M.alikeS t s)) : vcall PP n_spec_l3Alike #[v, .int .i64 s] w K := by
  apply c_spec_l3Alike; unfold F_spec_l3Alike
  refine rt_enter (B := fun t3 t4 w_3 => _) ht fun w1 b3 b4 kv rs => ?_
  simp (disch := (simp only [push_cast]; done)) only [push_cast, rs.q.ld0]
  refine vjoin_of (fun u w' => ∃ b : Bool, u = [.bool b] ∧ w' = w1 ∧ (b = true ↔ t.op = 3 ∨ t.op = 4)) (fun D hD => ?_) ?_
  · try simp only [push_cast]
    refine vif_dec (fun c => hD _ _ ⟨_, rfl, rfl, ⟨fun _ => by omega, fun _ => by rw [decide_eq_true_eq]; exact c⟩⟩) (fun c1 => ?_)
    exact hD _ _ ⟨_, rfl, rfl, ⟨fun h => by rw [decide_eq_true_eq] at h; omega, fun h => by rw [decide_eq_true_eq]; omega⟩⟩
  rintro u g w1' ⟨b, rfl, rfl, hb⟩
  simp only [push_cast]
  refine vif_bool (fun o => ?_) (fun o => ?_)
  · simp (disch := first | (simp only [push_cast]; done) | omega) only [push_cast, rs.q.ld4, rs.k.iaddr]
    refine rs.k.load g_impl_Term (by omega) fun x hx => ?_
    have e : M.alikeS t s = M.kid t 0 := by unfold M.alikeS; rw [if_pos (hb.1 o)]
    rw [e] at hK
    exact rt_give rs (rt_kid hx) hK
  have n1 : ¬ (t.op = 3 ∨ t.op = 4) := fun h => by have := hb.2 h; rw [o] at this; cases this
  refine vjoin_of (fun u w' => ∃ b : Bool, u = [.bool b] ∧ w' = w1' ∧ (b = true ↔ t.op = 5 ∨ t.op = 7)) (fun D hD => ?_) ?_
  · try simp only [push_cast]
    refine vif_dec (fun c => hD _ _ ⟨_, rfl, rfl, ⟨fun _ => by omega, fun _ => by rw [decide_eq_true_eq]; exact c⟩⟩) (fun c1 => ?_)
    exact hD _ _ ⟨_, rfl, rfl, ⟨fun h => by rw [decide_eq_true_eq] at h; omega, fun h => by rw [decide_eq_true_eq]; omega⟩⟩
  rintro u2 g2 w1'' ⟨b', rfl, rfl, hb'⟩
  simp only [push_cast]
  refine vif_bool (fun o => ?_) (fun o => ?_)
  · have e : M.alikeS t s = .mk 20 s 0 M.nada [] := by unfold M.alikeS; rw [if_neg n1, if_pos (hb'.1 o)]
    rw [e] at hK
    refine l3Zero_spec fun w2 v2 he2 hv2 => ?_
    exact rt_give (rt_ext rs he2) (rt_new rs hv2) hK
  have n2 : ¬ (t.op = 5 ∨ t.op = 7) := fun h => by have := hb'.2 h; rw [o] at this; cases this
  try simp only [push_cast]
  refine vif_dec (fun o15 => ?_) (fun o15 => ?_)
  · have e : M.alikeS t s = M.boolM true := by unfold M.alikeS; rw [if_neg n1, if_neg n2, if_pos o15]; rfl
    rw [e] at hK
    refine l3Bool_spec fun w2 v2 he2 hv2 => ?_
    exact rt_give (rt_ext rs he2) (rt_new rs hv2) hK
  by_cases h16 : t.op = 16
  · have e : M.alikeS t s = M.boolM false := by unfold M.alikeS; rw [if_neg n1, if_neg n2, if_neg o15, if_pos (.inl h16)]; rfl
    rw [e] at hK
    simp only [h16, decide_true, push_cast]
    refine l3Bool_spec fun w2 v2 he2 hv2 => ?_
    exact rt_give (rt_ext rs he2) (rt_new rs hv2) hK
  · simp only [h16, decide_false, push_cast]
    refine vif_dec (fun f => ?_) (fun f => ?_)
    · have e : M.alikeS t s = M.boolM false := by unfold M.alikeS; rw [if_neg n1, if_neg n2, if_neg o15, if_pos (.inr f)]; rfl
      rw [e] at hK
      refine l3Bool_spec fun w2 v2 he2 hv2 => ?_
      exact rt_give (rt_ext rs he2) (rt_new rs hv2) hK
    · have e : M.alikeS t s = t := by unfold M.alikeS; rw [if_neg n1, if_neg n2, if_neg o15, if_neg (by omega)]
      rw [e] at hK
      rw [rs.q.ldAgg (t := T_impl_Term) g_impl_Term]
      exact rt_give rs (rt_kid (rt_self rs)) hK
end Go.Proofs.YtcfgmgjofmbfhaaGreatDoor
end
section
namespace Go.Proofs.YtcfgmgjofmbfhaaGreatDoor
open Go Go.Vc Go.Proofs
variable {w : World} {K : Value → World → Prop} {F F' D G : Nat → Prop}
theorem l3Logic_spec {v : Value} {t : M.Tm} {ds : List M.Dcl} (ht : TermR G w v t) (hs : M.sortM ds t ≠ -1) (h23 : 23 ≤ t.op) (hne : t.ks ≠ []) (hK : OutK K w G (M.logicS t)) : vcall PP n_spec_l3Logic #[v] w K := by
  have hlen := M.len_of hs
  have hlp : 0 < t.ks.length := List.length_pos_iff.2 hne
  have hops := M.arity_ops (o := t.op) (by omega)
  have l25 : t.op = 25 → t.ks.length = 1 := fun h => by rw [h] at hlen; simp [M.arity] at hlen; omega
  have l23 : t.op = 23 → t.ks.length = 3 := fun h => by rw [h] at hlen; simp [M.arity] at hlen; omega
  apply c_spec_l3Logic; unfold F_spec_l3Logic
  refine rt_enter (B := fun t3 t4 w_3 => _) ht fun w1 b3 b4 kv rs => ?_
  simp (disch := first | (simp only [push_cast]; done) | omega) only [push_cast, rs.q.ld4, rs.k.iaddr]
  refine rs.k.load g_impl_Term (by omega) fun x hx => ?_
  obtain ⟨c, rfl, hc⟩ := hx.cells
  have gc : aggB PP T_impl_Term c.length = true := by rw [tmR_len hc]; exact g_impl_Term
  refine valloc_agg zr_impl_Term fun b5 w2 hb5 he2 hs2 h5 => ?_
  refine stTerm h5 rfl (hc.ext he2) fun w3 hw3 hz3 h5' => ?_
  have e13 : Ext w1 w3 := Ext.then he2 hw3 fun y hy => by subst hy; omega
  have r3 := rt_ext rs e13
  have hc3 : TmR (fun x => G x ∧ x < w.heap.size) w3 c (M.kid t 0) := hc.ext e13
  simp (disch := (simp only [push_cast]; done)) only [push_cast, r3.q.ld0]
  refine vif_dec (fun o25 => ?_) (fun o25 => ?_)
  · obtain ⟨kv0, rfl, hk0⟩ := hc3.inv
    simp (disch := (simp only [push_cast]; done)) only [push_cast, h5'.ld0]
    refine vif_dec (fun d => ?_) (fun d => ?_)
    · have k0 := M.good_kid hs (i := 0) (by have := l25 o25; omega)
      have hl2 : (M.kid t 0).ks.length = 1 := by have := M.len_of k0; rw [d] at this; simp [M.arity] at this; omega
      simp (disch := first | (simp only [push_cast]; done) | omega) only [push_cast, h5'.ld4, hk0.iaddr]
      refine hk0.load g_impl_Term (by omega) fun y hy => ?_
      have e : M.logicS t = M.kid (M.kid t 0) 0 := by unfold M.logicS; rw [if_pos o25, if_pos d]
      rw [e] at hK
      exact rt_give r3 (rt_kid hy) hK
    · have e : M.logicS t = t := by unfold M.logicS; rw [if_pos o25, if_neg d]
      rw [e] at hK
      rw [r3.q.ldAgg (t := T_impl_Term) g_impl_Term]
      exact rt_give r3 (rt_kid (rt_self r3)) hK
  try simp only [push_cast]
  refine vif_dec (fun o23 => ?_) (fun o23 => ?_)
  · have hl3 := l23 o23
    have E : M.logicS t = if M.isM (M.kid t 0) 1 = true ∨ (M.kid t 1 = M.kid t 2 ∧ ¬ M.isM (M.kid t 0) 0 = true) then M.kid t 1 else if M.isM (M.kid t 0) 0 = true then M.kid t 2 else t := by unfold M.logicS; rw [if_neg o25, if_pos o23]
    have give1 : ∀ {w'}, RT G w w' b3 b4 kv t → (M.isM (M.kid t 0) 1 = true ∨ (M.kid t 1 = M.kid t 2 ∧ ¬ M.isM (M.kid t 0) 0 = true)) → ∀ x, TermR (fun x => G x ∧ x < w.heap.size) w' x (M.kid t 1) → vstore PP T_impl_Term (ptr b4) x w' fun _ w1 => vlv PP T_impl_Term (ptr b4) w1 fun r w2 => K r w2 := fun h hc x hx => by
      rw [E, if_pos hc] at hK
      exact rt_give h (rt_kid hx) hK
    refine vjoin_of (fun u w' => u = [] ∧ Ext w3 w' ∧ ¬ (M.isM (M.kid t 0) 1 = true ∨ (M.kid t 1 = M.kid t 2 ∧ ¬ M.isM (M.kid t 0) 0 = true))) (fun C hC => ?_) ?_
    · refine vdraw_ext fun w4 he4 _ => ?_
      have r4 := rt_ext r3 he4
      have A4 := h5'.ext he4
      have hc4 := hc3.ext he4
      simp (disch := (simp only [push_cast]; done)) only [push_cast, A4.ldAgg (t := T_impl_Term) gc, true_and]
      refine l3Is_spec hc4.term fun w5 he5 => ?_
      have r5 := rt_ext r4 he5
      obtain ⟨cks, hsl, hln, hck⟩ := r5.k
      refine vif_bool (fun i => ?_) (fun i => ?_)
      · simp (disch := first | (simp only [push_cast]; done) | omega) only [push_cast, r5.q.ld4, hsl.iaddr, hsl.ldAgg]
        exact give1 r5 (.inl i) _ (hck 1 (by omega)).term
      · simp (disch := first | (simp only [push_cast]; done) | omega) only [push_cast, r5.q.ld4, hsl.iaddr, hsl.ldAgg, true_and]
        refine spec_TermSame_spec _ (hck 1 (by omega)).term (hck 2 (by omega)).term fun w6 he6 => ?_
        have r6 := rt_ext r5 he6
        refine vif_dec (fun s => ?_) (fun s => ?_)
        · have A6 := A4.ext (he5.trans he6)
          simp (disch := (simp only [push_cast]; done)) only [push_cast, A6.ldAgg (t := T_impl_Term) gc, true_and]
          refine l3Is_spec (hc4.ext (he5.trans he6)).term fun w7 he7 => ?_
          have r7 := rt_ext r6 he7
          have s7 := hsl.ext (he6.trans he7)
          simp only [push_cast, true_and]
          refine vif_bool (fun j => ?_) (fun j => ?_)
          · rw [Bool.not_eq_true'] at j
            simp (disch := first | (simp only [push_cast]; done) | omega) only [push_cast, r7.q.ld4, s7.iaddr, s7.ldAgg]
            exact give1 r7 (.inr ⟨s, by rw [j]; decide⟩) _ ((hck 1 (by omega)).ext (he6.trans he7)).term
          · rw [Bool.not_eq_false'] at j
            exact hC _ _ ⟨rfl, he4.trans (he5.trans (he6.trans he7)), fun h => h.elim (fun h => by rw [i] at h; cases h) fun h => h.2 j⟩
        · exact hC _ _ ⟨rfl, he4.trans (he5.trans he6), fun h => h.elim (fun h => by rw [i] at h; cases h) fun h => s h.1⟩
    rintro u g w4 ⟨rfl, he4, hn⟩
    have r4 := rt_ext r3 he4
    rw [(h5'.ext he4).ldAgg (t := T_impl_Term) gc]
    refine l3Is_spec (hc3.ext he4).term fun w5 he5 => ?_
    have r5 := rt_ext r4 he5
    refine vif_bool (fun i => ?_) (fun i => ?_)
    · simp (disch := first | (simp only [push_cast]; done) | omega) only [push_cast, r5.q.ld4, r5.k.iaddr]
      refine r5.k.load g_impl_Term (by omega) fun y hy => ?_
      rw [E, if_neg hn, if_pos i] at hK
      exact rt_give r5 (rt_kid hy) hK
    · rw [E, if_neg hn, i, if_neg (by decide)] at hK
      rw [r5.q.ldAgg (t := T_impl_Term) g_impl_Term]
      exact rt_give r5 (rt_kid (rt_self r5)) hK
  have o : t.op = 26 ∨ t.op = 27 := by
    unfold M.arity at hlen
    repeat' split at hlen
    all_goals omega
  have l2 : t.ks.length = 2 := by rcases o with e | e <;> rw [e] at hlen <;> simp [M.arity] at hlen <;> omega
  simp (disch := first | (simp only [push_cast]; done) | omega) only [push_cast, r3.q.ld4, r3.k.iaddr]
  refine r3.k.load g_impl_Term (by omega) fun y hy => ?_
  obtain ⟨c', rfl, hc'⟩ := hy.cells
  have gc' : aggB PP T_impl_Term c'.length = true := by rw [tmR_len hc']; exact g_impl_Term
  refine valloc_agg zr_impl_Term fun b6 w4 hb6 he4 hs4 h6 => ?_
  refine stTerm h6 rfl (hc'.ext he4) fun w5 hw5 hz5 h6' => ?_
  have e35 : Ext w3 w5 := Ext.then he4 hw5 fun y hy => by subst hy; omega
  have r5 := rt_ext r3 e35
  have A5 := h5'.ext e35
  have hc5 := hc3.ext e35
  have hc5' : TmR (fun x => G x ∧ x < w.heap.size) w5 c' (M.kid t 1) := hc'.ext e35
  simp (disch := (simp only [push_cast]; done)) only [push_cast, r5.q.ld0]
  refine l2Bool_spec ?_
  generalize hone : M.b2i (decide (t.op = 26)) = one
  have h01 : one = 0 ∨ one = 1 := by rw [← hone]; unfold M.b2i; split <;> omega
  have E : M.logicS t = if M.isM (M.kid t 0) one = true ∨ M.kid t 0 = M.kid t 1 then M.kid t 1 else if M.isM (M.kid t 1) one = true then M.kid t 0 else if M.isM (M.kid t 0) (1 - one) = true ∨ M.isM (M.kid t 1) (1 - one) = true then M.boolM (decide (one = 0)) else t := by
    unfold M.logicS; rw [if_neg o25, if_neg o23, hone]
  refine vjoin_of (fun u w' => ∃ e : Bool, u = [.bool e] ∧ Ext w5 w' ∧ (e = true ↔ M.isM (M.kid t 0) one = true ∨ M.kid t 0 = M.kid t 1)) (fun C hC => ?_) ?_
  · rw [A5.ldAgg (t := T_impl_Term) gc]
    refine l3Is_spec hc5.term fun w6 he6 => ?_
    refine vif_bool (fun i => ?_) (fun i => ?_)
    · exact hC _ _ ⟨true, rfl, he6, ⟨fun _ => .inl i, fun _ => rfl⟩⟩
    · try simp only [push_cast]
      rw [(A5.ext he6).ldAgg (t := T_impl_Term) gc, (h6'.ext he6).ldAgg (t := T_impl_Term) gc']
      refine spec_TermSame_spec _ (hc5.ext he6).term (hc5'.ext he6).term fun w7 he7 => ?_
      refine hC _ _ ⟨_, rfl, he6.trans he7, ?_⟩
      rw [decide_eq_true_eq]
      exact ⟨.inr, fun h => h.elim (fun x => by rw [i] at x; cases x) id⟩
  rintro u g w6 ⟨e, rfl, he6, hee⟩
  have r6 := rt_ext r5 he6
  simp only [push_cast]
  refine vif_bool (fun i => ?_) (fun i => ?_)
  · rw [(h6'.ext he6).ldAgg (t := T_impl_Term) gc']
    rw [E, if_pos (hee.1 i)] at hK
    exact rt_give r6 (rt_kid (hc5'.ext he6).term) hK
  have n1 : ¬ (M.isM (M.kid t 0) one = true ∨ M.kid t 0 = M.kid t 1) := fun h => by have := hee.2 h; rw [i] at this; cases this
  rw [(h6'.ext he6).ldAgg (t := T_impl_Term) gc']
  refine l3Is_spec (hc5'.ext he6).term fun w7 he7 => ?_
  have r7 := rt_ext r6 he7
  have e57 := he6.trans he7
  refine vif_bool (fun j => ?_) (fun j => ?_)
  · rw [(A5.ext e57).ldAgg (t := T_impl_Term) gc]
    rw [E, if_neg n1, if_pos j] at hK
    exact rt_give r7 (rt_kid (hc5.ext e57).term) hK
  have n2 : ¬ M.isM (M.kid t 1) one = true := by rw [j]; decide
  have hw1 : IntKind.i64.wrap (1 - one) = 1 - one := wrap64 (by omega) (by omega)
  rw [(A5.ext e57).ldAgg (t := T_impl_Term) gc]
  simp only [push_cast, hw1]
  refine l3Is_spec (hc5.ext e57).term fun w8 he8 => ?_
  have r8 := rt_ext r7 he8
  refine vif_bool (fun k => ?_) (fun k => ?_)
  · try simp only [push_cast]
    refine l3Bool_spec fun w9 v9 he9 hv9 => ?_
    rw [E, if_neg n1, if_neg n2, if_pos (.inl k)] at hK
    exact rt_give (rt_ext r8 he9) (rt_new r8 hv9) hK
  have e58 := e57.trans he8
  rw [(h6'.ext e58).ldAgg (t := T_impl_Term) gc']
  try simp only [push_cast, hw1]
  refine l3Is_spec (hc5'.ext e58).term fun w9 he9 => ?_
  have r9 := rt_ext r8 he9
  refine vif_bool (fun l => ?_) (fun l => ?_)
  · try simp only [push_cast]
    refine l3Bool_spec fun w10 v10 he10 hv10 => ?_
    rw [E, if_neg n1, if_neg n2, if_pos (.inr l)] at hK
    exact rt_give (rt_ext r9 he10) (rt_new r9 hv10) hK
  · rw [E, if_neg n1, if_neg n2, if_neg (fun h => h.elim (fun h => by rw [k] at h; cases h) fun h => by rw [l] at h; cases h)] at hK
    rw [r9.q.ldAgg (t := T_impl_Term) g_impl_Term]
    exact rt_give r9 (rt_kid (rt_self r9)) hK
theorem l3Two_spec {v : Value} {t : M.Tm} {s : Int} (ht : TermR G w v t) (h2 : t.ks.length = 2) (hK : OutK K w G (M.twoS t s)) : vcall PP n_spec_l3Two #[v, .int .i64 s] w K := by
  apply c_spec_l3Two; unfold F_spec_l3Two
  refine rt_enter (B := fun t3 t4 w_3 => _) ht fun w1 b3 b4 kv rs => ?_
  have l4 := rs.r.lt
  have hlo := rs.lo
  have low : ∀ {w' : World} {cs : List Value} {u : M.Tm}, Ext w1 w' → TmR (fun x => (G x ∧ x < w.heap.size) ∨ w'.heap.size ≤ x) w' cs u → True := fun _ _ => trivial
  clear low
  refine vjoin_of (fun u w' => u = [] ∧ Ext w1 w' ∧ ¬ (M.kid t 0 = M.kid t 1 ∧ M.alikeS t s ≠ t)) (fun C hC => ?_) ?_
  · refine vdraw_ext fun w2 he2 _ => ?_
    have r2 := rt_ext rs he2
    obtain ⟨cks, hsl, hln, hck⟩ := r2.k
    simp (disch := first | (simp only [push_cast]; done) | omega) only [push_cast, r2.q.ld4, hsl.iaddr, hsl.ldAgg, true_and]
    refine spec_TermSame_spec _ (hck 0 (by omega)).term (hck 1 (by omega)).term fun w3 he3 => ?_
    have r3 := rt_ext r2 he3
    refine vif_dec (fun a => ?_) (fun a => ?_)
    · rw [r3.q.ldAgg (t := T_impl_Term) g_impl_Term]
      refine l3Alike_spec (rt_self r3) h2 fun w4 rv he4 hrv => ?_
      have r4 := rt_ext r3 he4
      obtain ⟨c, rfl, hc⟩ := hrv.cells
      have gc : aggB PP T_impl_Term c.length = true := by rw [tmR_len hc]; exact g_impl_Term
      have hz3 := r3.r.lt
      refine valloc_agg zr_impl_Term fun b5 w5 hb5 he5 hs5 h5 => ?_
      have hcw := (hc.weaken (F' := fun x => ((G x ∧ x < w.heap.size) ∨ b4 < x) ∧ x < w4.heap.size) fun b h h' => ⟨h.imp id fun h => (by omega), h'⟩).ext he5
      refine stTerm h5 rfl hcw fun w6 hw6 hz6 h6 => ?_
      have e46 : Ext w4 w6 := Ext.then he5 hw6 fun y hy => by subst hy; omega
      have r6 := rt_ext r4 e46
      have hc6 : TmR (Qb G w.heap.size b4) w6 c (M.alikeS t s) := (hcw.same hw6 fun x hx _ e => by omega).weaken fun x hx _ => hx.1
      rw [h6.ldAgg (t := T_impl_Term) gc, r6.q.ldAgg (t := T_impl_Term) g_impl_Term]
      refine spec_TermSame_spec _ hc6.term (rt_self r6) fun w7 he7 => ?_
      have r7 := rt_ext r6 he7
      simp only [push_cast]
      refine vif_bool (fun d => ?_) (fun d => ?_)
      · rw [Bool.not_eq_true', decide_eq_false_iff_not] at d
        rw [(h6.ext he7).ldAgg (t := T_impl_Term) gc]
        have E : M.twoS t s = M.alikeS t s := by unfold M.twoS; rw [if_pos ⟨a, d⟩]
        rw [E] at hK
        exact rt_give r7 (hc6.ext he7).term hK
      · rw [Bool.not_eq_false', decide_eq_true_eq] at d
        exact hC _ _ ⟨rfl, he2.trans (he3.trans (he4.trans (e46.trans he7))), fun h => h.2 d⟩
    · exact hC _ _ ⟨rfl, he2.trans he3, fun h => a h.1⟩
  rintro u g w3 ⟨rfl, he3, n1⟩
  have r3 := rt_ext rs he3
  have l3 := r3.r.lt
  rw [r3.q.ldAgg (t := T_impl_Term) g_impl_Term]
  refine l3Right_spec (rt_self r3) h2 fun w4 rv he4 hrv => ?_
  have r4 := rt_ext r3 he4
  obtain ⟨c, rfl, hc⟩ := hrv.cells
  have gc : aggB PP T_impl_Term c.length = true := by rw [tmR_len hc]; exact g_impl_Term
  refine valloc_agg zr_impl_Term fun b5 w5 hb5 he5 hs5 h5 => ?_
  have hcw := (hc.weaken (F' := fun x => ((G x ∧ x < w.heap.size) ∨ b4 < x) ∧ x < w4.heap.size) fun b h h' => ⟨h.imp id fun h => (by omega), h'⟩).ext he5
  refine stTerm h5 rfl hcw fun w6 hw6 hz6 h6 => ?_
  have e46 : Ext w4 w6 := Ext.then he5 hw6 fun y hy => by subst hy; omega
  have r6 := rt_ext r4 e46
  have hc6 : TmR (Qb G w.heap.size b4) w6 c (M.rightS t) := (hcw.same hw6 fun x hx _ e => by omega).weaken fun x hx _ => hx.1
  rw [h6.ldAgg (t := T_impl_Term) gc, r6.q.ldAgg (t := T_impl_Term) g_impl_Term]
  refine spec_TermSame_spec _ hc6.term (rt_self r6) fun w7 he7 => ?_
  have r7 := rt_ext r6 he7
  simp only [push_cast]
  refine vif_bool (fun d => ?_) (fun d => ?_)
  · rw [Bool.not_eq_true', decide_eq_false_iff_not] at d
    rw [(h6.ext he7).ldAgg (t := T_impl_Term) gc]
    have E : M.twoS t s = M.rightS t := by unfold M.twoS; rw [if_neg n1, if_pos d]
    rw [E] at hK
    exact rt_give r7 (hc6.ext he7).term hK
  rw [Bool.not_eq_false', decide_eq_true_eq] at d
  have E : M.twoS t s = if (t.op = 3 ∨ t.op = 4 ∨ t.op = 5 ∨ t.op = 6 ∨ t.op = 8) ∧ M.otherS t (M.rightS (M.swapS t)) then M.rightS (M.swapS t) else t := by
    unfold M.twoS; rw [if_neg n1, if_neg (fun h => h d)]
  refine vjoin_of (fun u w' => u = [] ∧ Ext w7 w' ∧ ¬ ((t.op = 3 ∨ t.op = 4 ∨ t.op = 5 ∨ t.op = 6 ∨ t.op = 8) ∧ M.otherS t (M.rightS (M.swapS t)))) (fun C hC => ?_) ?_
  · simp (disch := (simp only [push_cast]; done)) only [push_cast, r7.q.ld0]
    refine vjoin_of (fun u w' => ∃ b : Bool, u = [.bool b] ∧ w' = w7 ∧ (b = true ↔ t.op = 3 ∨ t.op = 4 ∨ t.op = 5 ∨ t.op = 6 ∨ t.op = 8)) (fun D hD => ?_) ?_
    · try simp only [push_cast]
      refine vif_dec (fun c => hD _ _ ⟨_, rfl, rfl, ⟨fun _ => by omega, fun _ => by rw [decide_eq_true_eq]; exact c⟩⟩) (fun c1 => ?_)
      refine vif_dec (fun c => hD _ _ ⟨_, rfl, rfl, ⟨fun _ => by omega, fun _ => by rw [decide_eq_true_eq]; exact c⟩⟩) (fun c2 => ?_)
      refine vif_dec (fun c => hD _ _ ⟨_, rfl, rfl, ⟨fun _ => by omega, fun _ => by rw [decide_eq_true_eq]; exact c⟩⟩) (fun c3 => ?_)
      refine vif_dec (fun c => hD _ _ ⟨_, rfl, rfl, ⟨fun _ => by omega, fun _ => by rw [decide_eq_true_eq]; exact c⟩⟩) (fun c4 => ?_)
      exact hD _ _ ⟨_, rfl, rfl, ⟨fun h => by rw [decide_eq_true_eq] at h; omega, fun h => by rw [decide_eq_true_eq]; omega⟩⟩
    rintro u2 g2 w7' ⟨b, rfl, rfl, hb⟩
    simp only [push_cast]
    refine vif_bool (fun o => ?_) (fun o => hC _ _ ⟨rfl, Same.refl _ _, fun h => by have := hb.2 h.1; rw [o] at this; cases this⟩)
    have o' := hb.1 o
    have l7 := r7.r.lt
    refine vjoin_of (fun u w' => ∃ b c, u = [ptr b] ∧ Ext w7' w' ∧ Blk w' b c T_impl_Term ∧ TmR (Qb G w.heap.size b4) w' c (M.rightS (M.swapS t))) (fun D hD => ?_) ?_
    · refine vdraw_ext fun w8 he8 _ => ?_
      have r8 := rt_ext r7 he8
      have l8 := r8.r.lt
      obtain ⟨cks, hsl, hln, hck⟩ := r8.k
      simp (disch := first | (simp only [push_cast]; done) | omega) only [push_cast, r8.q.ld0, r8.q.ld4, hsl.iaddr, hsl.ldAgg, true_and]
      have hz8 := he8.size
      have fin : ∀ {wa wb : World} {bb : Nat} {z : List Value} {rv : Value}, Ext w8 wa → Blk wa bb z T_impl_Term → z.length = 5 → w8.heap.size ≤ bb → (∀ y, y = bb → TermR (fun x => ((G x ∧ x < w.heap.size) ∨ b4 < x) ∧ x ≠ y) wa rv (M.rightS (M.swapS t))) → vstore PP T_impl_Term (ptr bb) rv wa fun _ w' => D [ptr bb] w' := fun {wa wb bb z rv} hwa hB hz hbb hr => by
        obtain ⟨cr, rfl, hcr⟩ := (hr bb rfl).cells
        refine stTerm hB hz hcr fun w' hw' hz' h' => ?_
        exact hD _ _ ⟨bb, cr, rfl, he8.trans (Ext.then hwa hw' fun y hy => by subst hy; omega), h', (hcr.same hw' fun x hx _ e => hx.2 e).weaken fun x hx _ => hx.1⟩
      refine ⟨?_, ?_, trivial⟩
      · refine kids2 (hck 1 (by omega)).term (hck 0 (by omega)).term fun w9 a9 he9 hs9 k9 => ?_
        have r9 := rt_ext r8 he9
        have hsw : TermR (fun z => (G z ∧ z < w.heap.size) ∨ z = w8.heap.size) w9 _ (M.swapS t) := (node_term (o := t.op) k9 : TermR _ w9 _ (nodeM t.op [t.ks.getD 1 default, t.ks.getD 0 default]))
        simp (disch := (simp only [push_cast]; done)) only [push_cast, r9.q.ld0, true_and, and_self]
        refine ⟨?_, ?_, trivial⟩
        · refine l3Right_spec hsw rfl fun w10 rv he10 hrv => ?_
          refine ⟨?_, trivial⟩
          refine valloc_agg zr_impl_Term fun b11 w11 hb11 he11 hs11 h11 => ?_
          refine ⟨?_, trivial⟩
          have hz9 := he9.size
          have hz10 := he10.size
          refine fin (wb := w11) (he9.trans (he10.trans he11)) h11 rfl (by omega) fun y hy => ((hrv.weaken (F' := fun x => (((G x ∧ x < w.heap.size) ∨ x = w8.heap.size) ∨ w9.heap.size ≤ x) ∧ x < w10.heap.size) fun b h h' => ⟨h, h'⟩).ext he11).weaken fun x hx _ => ?_
          rcases hx.1 with (h | h) | h
          · exact ⟨.inl h, by omega⟩
          · exact ⟨.inr (by omega), by omega⟩
          · exact ⟨.inr (by omega), by omega⟩
        · refine valloc_agg zr_impl_Term fun b11 w11 hb11 he11 hs11 h11 => ?_
          have r11 := rt_ext r9 he11
          simp (disch := (simp only [push_cast]; done)) only [push_cast, r11.q.ld0, true_and, and_self]
          refine ⟨?_, trivial⟩
          refine l3Right_spec (hsw.ext he11) rfl fun w10 rv he10 hrv => ?_
          refine ⟨?_, trivial⟩
          have hz9 := he9.size
          refine fin (wb := w11) (he9.trans (he11.trans he10)) (h11.ext he10) rfl (by omega) fun y hy => hrv.weaken fun x hx _ => ?_
          rcases hx with (h | h) | h
          · exact ⟨.inl h, by omega⟩
          · exact ⟨.inr (by omega), by omega⟩
          · exact ⟨.inr (by omega), by omega⟩
      · refine valloc_agg zr_impl_Term fun b11 w11 hb11 he11 hs11 h11 => ?_
        have r11 := rt_ext r8 he11
        have s11 := hsl.ext he11
        simp (disch := first | (simp only [push_cast]; done) | omega) only [push_cast, r11.q.ld0, r11.q.ld4, s11.iaddr, s11.ldAgg, true_and, and_self]
        refine ⟨?_, trivial⟩
        refine kids2 ((hck 1 (by omega)).ext he11).term ((hck 0 (by omega)).ext he11).term fun w9 a9 he9 hs9 k9 => ?_
        have r9 := rt_ext r11 he9
        have hsw : TermR (fun z => (G z ∧ z < w.heap.size) ∨ z = w11.heap.size) w9 _ (M.swapS t) := (node_term (o := t.op) k9 : TermR _ w9 _ (nodeM t.op [t.ks.getD 1 default, t.ks.getD 0 default]))
        simp (disch := (simp only [push_cast]; done)) only [push_cast, r9.q.ld0, true_and, and_self]
        refine ⟨?_, trivial⟩
        refine l3Right_spec hsw rfl fun w10 rv he10 hrv => ?_
        refine ⟨?_, trivial⟩
        have hz9 := he9.size
        refine fin (wb := w11) (he11.trans (he9.trans he10)) ((h11.ext he9).ext he10) rfl (by omega) fun y hy => hrv.weaken fun x hx _ => ?_
        rcases hx with (h | h) | h
        · exact ⟨.inl h, by omega⟩
        · exact ⟨.inr (by omega), by omega⟩
        · exact ⟨.inr (by omega), by omega⟩
    rintro u3 g3 w8 ⟨b, cv, rfl, he8, hB, hcv⟩
    have gv : aggB PP T_impl_Term cv.length = true := by rw [tmR_len hcv]; exact g_impl_Term
    have r8 := rt_ext r7 he8
    generalize hV : M.rightS (M.swapS t) = V at *
    have give : ∀ {w'}, Ext w8 w' → M.otherS t V → vload PP T_impl_Term (ptr b) w' fun r w2 => vstore PP T_impl_Term (ptr b4) r w2 fun _ w3 => vlv PP T_impl_Term (ptr b4) w3 fun r w4 => K r w4 := fun {w'} h ho => by
      rw [(hB.ext h).ldAgg (t := T_impl_Term) gv]
      rw [E, if_pos ⟨o', ho⟩] at hK
      exact rt_give (rt_ext r8 h) (hcv.ext h).term hK
    obtain ⟨kvv, rfl, hkv⟩ := hcv.inv
    simp only [push_cast]
    refine vdraw_ext fun w9 he9 _ => ?_
    have r9 := rt_ext r8 he9
    have B9 := hB.ext he9
    have kv9 := hkv.ext he9
    simp (disch := (simp only [push_cast]; done)) only [push_cast, B9.ld4, kv9.len, true_and]
    refine vif_dec (fun c1 => give he9 (.inl (by omega))) (fun c1 => ?_)
    have vl : V.ks.length = 2 := by omega
    obtain ⟨cks, hsl, hln, hck⟩ := r9.k
    obtain ⟨vks, vsl, vln, vck⟩ := kv9
    simp (disch := first | (simp only [push_cast]; done) | omega) only [push_cast, B9.ld4, r9.q.ld4, hsl.iaddr, hsl.ldAgg, vsl.iaddr, vsl.ldAgg, true_and]
    refine spec_TermSame_spec _ (vck 0 (by omega)).term (hck 1 (by omega)).term fun w10 he10 => ?_
    have B10 := B9.ext he10
    have r10 := rt_ext r9 he10
    have s10 := hsl.ext he10
    have t10 := vsl.ext he10
    simp only [push_cast, true_and]
    refine vif_bool (fun c2 => ?_) (fun c2 => ?_)
    · rw [Bool.not_eq_true', decide_eq_false_iff_not] at c2
      exact give (he9.trans he10) (.inr (.inl c2))
    rw [Bool.not_eq_false', decide_eq_true_eq] at c2
    simp (disch := first | (simp only [push_cast]; done) | omega) only [push_cast, B10.ld4, r10.q.ld4, s10.iaddr, s10.ldAgg, t10.iaddr, t10.ldAgg, true_and]
    refine spec_TermSame_spec _ ((vck 1 (by omega)).ext he10).term ((hck 0 (by omega)).ext he10).term fun w11 he11 => ?_
    have B11 := B10.ext he11
    have r11 := rt_ext r10 he11
    simp only [push_cast, true_and]
    refine vif_bool (fun c3 => ?_) (fun c3 => ?_)
    · rw [Bool.not_eq_true', decide_eq_false_iff_not] at c3
      exact give (he9.trans (he10.trans he11)) (.inr (.inr (.inl c3)))
    rw [Bool.not_eq_false', decide_eq_true_eq] at c3
    simp (disch := first | (simp only [push_cast]; done) | omega) only [push_cast, B11.ld0, r11.q.ld0, true_and]
    refine vif_dec (fun c4 => give (he9.trans (he10.trans he11)) (.inr (.inr (.inr c4)))) (fun c4 => ?_)
    refine hC _ _ ⟨rfl, he8.trans (he9.trans (he10.trans he11)), fun h => ?_⟩
    rcases h.2 with h | h | h | h
    · exact h vl
    · exact h c2
    · exact h c3
    · exact c4 h
  rintro u4 g4 w8 ⟨rfl, he8, n3⟩
  have r8 := rt_ext r7 he8
  rw [E, if_neg n3] at hK
  rw [r8.q.ldAgg (t := T_impl_Term) g_impl_Term]
  exact rt_give r8 (rt_kid (rt_self r8)) hK
theorem l3One_spec {dv v : Value} {t : M.Tm} {ds : List M.Dcl} (hd : DclsR F w dv ds) (hok : M.declOk ds = true) (ht : TermR G w v t) (hs : M.sortM ds t ≠ -1) (hK : OutK K w G (M.oneT ds t)) : vcall PP n_spec_l3One #[dv, v] w K := by
  rw [← M.oneS_eq hok hs] at hK
  have hlen := M.len_of hs
  apply c_spec_l3One; unfold F_spec_l3One
  refine rt_enter (B := fun t3 t4 w_3 => _) ht fun w1 b3 b4 kv rs => ?_
  rw [rs.q.ldAgg (t := T_impl_Term) g_impl_Term]
  refine l2Sort_spec t (hd.ext rs.ext) hok (rt_self rs) fun w2 he2 => ?_
  have r2 := rt_ext rs he2
  rw [r2.q.ldAgg (t := T_impl_Term) g_impl_Term]
  refine l3All_spec (rt_self r2) fun w3 he3 => ?_
  have r3 := rt_ext r2 he3
  refine vif_bool (fun a => ?_) (fun a => ?_)
  · have hnn : nnB t = true := by
      have hall := a
      unfold M.allFixed at hall
      simp only [Bool.and_eq_true, decide_eq_true_eq, List.all_eq_true] at hall
      refine nnB_iff.2 ⟨fun h21 => ?_, fun k hk => ?_⟩
      · rw [h21] at hlen
        have h0 : t.ks.length = 0 := by simp [M.arity] at hlen; omega
        exact hall.1 (List.eq_nil_of_length_eq_zero h0)
      · obtain ⟨n, hn⟩ := Option.isSome_iff_exists.1 (hall.2 k hk)
        exact nn_fixed hn
    have E : M.oneS ds t = if M.sortM ds t = 0 then M.boolM (decide (M.evalM ds (M.zeroE ds) t = 1)) else .mk 20 (M.sortM ds t) (M.evalM ds (M.zeroE ds) t) M.nada [] := by unfold M.oneS; rw [if_pos a]
    rw [r3.q.ldAgg (t := T_impl_Term) g_impl_Term]
    refine vbuildS_nil u_Lint z_int fun b7 w4 hb7 he4 hs4 h7 => ?_
    have r4 := rt_ext r3 he4
    refine l2Eval_spec t (H := F) (hd.ext r4.ext) (M.zeroE_ok hok) (rt_self r4) (.inr hnn) hs fun w5 he5 => ?_
    have r5 := rt_ext r4 he5
    simp only [push_cast]
    refine vif_dec (fun c => ?_) (fun c => ?_)
    · refine l3Bool_spec fun w6 v6 he6 hv6 => ?_
      rw [E, if_pos c] at hK
      exact rt_give (rt_ext r5 he6) (rt_new r5 hv6) hK
    · try simp only [push_cast]
      rw [E, if_neg c] at hK
      exact rt_give r5 (leafR 20 _ _ _ : TmR _ w5 _ (.mk 20 (M.sortM ds t) (M.evalM ds (M.zeroE ds) t) M.nada [])).term hK
  have na : ¬ M.allFixed t = true := by rw [a]; decide
  simp (disch := (simp only [push_cast]; done)) only [push_cast, r3.q.ld4, r3.k.len]
  refine vif_dec (fun l0 => ?_) (fun l0 => ?_)
  · rw [r3.q.ldAgg (t := T_impl_Term) g_impl_Term]
    have E : M.oneS ds t = t := by unfold M.oneS; rw [if_neg na, if_pos (nil_len.1 l0)]
    rw [E] at hK
    exact rt_give r3 (rt_kid (rt_self r3)) hK
  have hne : ¬ t.ks = [] := fun h => l0 (nil_len.2 h)
  have hlp : 0 < t.ks.length := List.length_pos_iff.2 hne
  simp (disch := (simp only [push_cast]; done)) only [push_cast, r3.q.ld0]
  refine vif_dec (fun o23 => ?_) (fun o23 => ?_)
  · rw [r3.q.ldAgg (t := T_impl_Term) g_impl_Term]
    have E : M.oneS ds t = M.logicS t := by unfold M.oneS; rw [if_neg na, if_neg hne, if_pos (by omega)]
    rw [E] at hK
    refine l3Logic_spec (rt_self r3) hs (by omega) hne fun w4 rv he4 hrv => ?_
    have r4 := rt_ext r3 he4
    have l3 := r3.r.lt
    exact rt_give r4 (hrv.weaken fun x hx _ => hx.imp id fun h => (by omega)) hK
  have n23 : ¬ 23 ≤ t.op := by omega
  try simp (disch := (simp only [push_cast]; done)) only [push_cast, r3.q.ld0]
  refine vif_dec (fun o22 => ?_) (fun o22 => ?_)
  · have hl : t.ks.length = 1 := by rw [o22] at hlen; simp [M.arity] at hlen; omega
    simp (disch := first | (simp only [push_cast]; done) | omega) only [push_cast, r3.q.ld4, r3.k.iaddr]
    refine r3.k.load g_impl_Term (by omega) fun x hx => ?_
    refine l2Sort_spec _ (hd.ext r3.ext) hok hx fun w4 he4 => ?_
    have r4 := rt_ext r3 he4
    have E : M.oneS ds t = if M.sortM ds t = M.sortM ds (M.kid t 0) then M.kid t 0 else t := by unfold M.oneS; rw [if_neg na, if_neg hne, if_neg n23, if_pos o22]
    simp only [push_cast]
    refine vif_dec (fun c => ?_) (fun c => ?_)
    · simp (disch := first | (simp only [push_cast]; done) | omega) only [push_cast, r4.q.ld4, r4.k.iaddr]
      refine r4.k.load g_impl_Term (by omega) fun y hy => ?_
      rw [E, if_pos (show M.sortM ds t = M.sortM ds (M.kid t 0) from c)] at hK
      exact rt_give r4 (rt_kid hy) hK
    · rw [r4.q.ldAgg (t := T_impl_Term) g_impl_Term]
      rw [E, if_neg (show ¬ M.sortM ds t = M.sortM ds (M.kid t 0) from c)] at hK
      exact rt_give r4 (rt_kid (rt_self r4)) hK
  simp (disch := (simp only [push_cast]; done)) only [push_cast, r3.q.ld4, r3.k.len]
  have hops := M.arity_ops (o := t.op) (by omega)
  refine vif_dec (fun l1 => ?_) (fun l1 => ?_)
  · have l1' : t.ks.length = 1 := by omega
    have ho := M.arity_one (o := t.op) (by omega)
    have E : M.oneS ds t = if (M.kid t 0).op = t.op then M.kid (M.kid t 0) 0 else t := by unfold M.oneS; rw [if_neg na, if_neg hne, if_neg n23, if_neg o22, if_pos l1']
    refine vdraw_ext fun w4 he4 _ => ?_
    have r4 := rt_ext r3 he4
    simp (disch := first | (simp only [push_cast]; done) | omega) only [push_cast, r4.q.ld0, r4.q.ld4, r4.k.iaddr, true_and]
    rw [tms_op r4.k (by omega)]
    simp (disch := first | (simp only [push_cast]; done) | omega) only [push_cast, r4.q.ld0, r4.q.ld4, r4.k.iaddr, true_and]
    refine vif_dec (fun c => ?_) (fun c => ?_)
    · have k0 := M.good_kid hs (i := 0) (by omega)
      have hl2 : (t.ks.getD 0 default).ks.length = 1 := by
        have := M.len_of k0
        rw [show (M.kid t 0).op = t.op from c] at this
        have h12 : t.op = 1 ∨ t.op = 2 := by omega
        rcases h12 with o | o <;> rw [o] at this <;> simp [M.arity] at this <;> (unfold M.kid at this; omega)
      refine tms_kids r4.k (by omega) fun kv' hk' => ?_
      simp (disch := first | (simp only [push_cast]; done) | omega) only [push_cast, hk'.iaddr]
      refine hk'.load g_impl_Term (by omega) fun x hx => ?_
      rw [E, if_pos (show (M.kid t 0).op = t.op from c)] at hK
      exact rt_give r4 (rt_kid hx) hK
    · rw [r4.q.ldAgg (t := T_impl_Term) g_impl_Term]
      rw [E, if_neg (show ¬ (M.kid t 0).op = t.op from c)] at hK
      exact rt_give r4 (rt_kid (rt_self r4)) hK
  · have l2 : t.ks.length = 2 := by
      unfold M.arity at hlen
      repeat' split at hlen
      all_goals omega
    have E : M.oneS ds t = M.twoS t (M.sortM ds (M.kid t 0)) := by unfold M.oneS; rw [if_neg na, if_neg hne, if_neg n23, if_neg o22, if_neg (by omega)]
    rw [E] at hK
    refine vdraw_ext fun w4 he4 _ => ?_
    have r4 := rt_ext r3 he4
    obtain ⟨cks, hsl, hln, hck⟩ := r4.k
    simp (disch := first | (simp only [push_cast]; done) | omega) only [push_cast, r4.q.ld4, r4.q.ldAgg (t := T_impl_Term) g_impl_Term, hsl.iaddr, hsl.ldAgg, true_and]
    refine l2Sort_spec _ (hd.ext r4.ext) hok (hck 0 (by omega)).term fun w5 he5 => ?_
    have r5 := rt_ext r4 he5
    simp (disch := first | (simp only [push_cast]; done) | omega) only [push_cast, r5.q.ldAgg (t := T_impl_Term) g_impl_Term, true_and, and_self]
    refine l3Two_spec (rt_self r5) l2 fun w6 rv he6 hrv => ?_
    have r6 := rt_ext r5 he6
    have l5 := r5.r.lt
    exact rt_give r6 (hrv.weaken fun x hx _ => hx.imp id fun h => (by omega)) hK
end Go.Proofs.YtcfgmgjofmbfhaaGreatDoor
end
section
namespace Go.Proofs.YtcfgmgjofmbfhaaGreatDoor
open Go Go.Vc Go.Proofs
variable {w : World} {K : Value → World → Prop} {F F' D G : Nat → Prop}
theorem l3Fold_spec : ∀ (t : M.Tm) {w : World} {K : Value → World → Prop} {F G : Nat → Prop} {dv tv : Value} {ds : List M.Dcl}, DclsR F w dv ds → M.declOk ds = true → TermR G w tv t → M.sortM ds t ≠ -1 → OutK K w G (M.foldT ds t) → vcall PP n_spec_l3Fold #[dv, tv] w K := by
  refine M.Tm.ind fun t ih w K F G dv tv ds hd hok ht hs hK => ?_
  have hlen := M.len_of hs
  have hsm : t.ks.length ≤ 3 := by
    unfold M.arity at hlen
    repeat' split at hlen
    all_goals omega
  apply c_spec_l3Fold; unfold F_spec_l3Fold
  obtain ⟨kv, rfl, hks⟩ := ht
  refine vbox_agg fun b1 w1 hb1 he1 hs1 h1 => ?_
  refine valloc_agg zr_impl_Term fun b2 w2 hb2 he2 hs2 h2 => ?_
  have hz1 := he1.size
  have q2 := h1.ext he2
  simp (disch := (simp only [push_cast]; done)) only [push_cast, q2.ld0, q2.ld1, q2.ld2, q2.ld3]
  refine valloc_agg zr_impl_Term fun b3 w3 hb3 he3 hs3 h3 => ?_
  refine stTerm h3 rfl (leafR t.op t.a t.b t.s : TmR (fun _ => False) w3 _ _) fun w4 hw4 hz4 h4 => ?_
  have e14 : Ext w1 w4 := Ext.then (he2.trans he3) hw4 fun y hy => by subst hy; omega
  have hE4 := he1.trans e14
  have q4 := h1.ext e14
  have r4 := (h2.ext he3).same hw4 (by omega)
  have hk4 : TmsR (fun x => G x ∧ x < w.heap.size) w4 kv t.ks := (hks.weaken fun b h h' => ⟨h, h'⟩).ext hE4
  have hz4' := hE4.size
  refine vloop_up t.ks.length (fun i u w' => u = [.int .i64 i] ∧ Same (fun b => b = b3) w4 w' ∧ ∃ kv' css, Blk w' b3 [.int .i64 t.op, .int .i64 t.a, .int .i64 t.b, .string t.s, kv'] T_impl_Term ∧ Own PP 0 5 T_Limpl_Term w' kv' css ∧ css.length = i ∧ (∀ b, kv'.ownBlock = some b → w4.heap.size ≤ b) ∧
      ∀ j, j < i → TmR (fun x => (G x ∧ x < w.heap.size) ∨ (w4.heap.size ≤ x ∧ kv'.ownBlock ≠ some x)) w' (css.getD j []) (M.foldT ds (t.ks.getD j default)))
    ⟨rfl, Same.refl _ _, _, [], h4, Own.nil _ _ _ _ _, rfl, fun b h => (by cases h), fun j hj => absurd hj (by omega)⟩ ?_
  rintro i _ _ w5 C hi ⟨rfl, hs5, kv', css, h5, ho5, hl5, hlo5, hkk5⟩ hC
  have hz5 := hs5.size
  have hE5 : Ext w w5 := Ext.then hE4 hs5 fun y hy => by subst hy; omega
  have hk5 := hk4.same hs5 fun b hb _ e => by omega
  have q5 := q4.same hs5 (by omega)
  simp (disch := (simp only [push_cast]; done)) only [push_cast, q5.ld4, hk5.len]
  refine vif_dec (fun a => ?_) (fun a => ?_)
  · refine vdraw_ext fun w8 he8 _ => ?_
    have q8 := q5.ext he8
    have p8 := h5.ext he8
    obtain ⟨cks, hsl, hln, hc⟩ := hk5.ext he8
    simp (disch := first | (simp only [push_cast]; done) | omega) only [push_cast, q8.ld4, p8.ld4, hsl.iaddr, hsl.ldAgg, true_and]
    have hmem : t.ks.getD i default ∈ t.ks := M.getD_mem (by omega) _
    have hz8 := he8.size
    refine ih _ hmem (hd.ext (hE5.trans he8)) hok (hc i (by omega)).term ((M.sort_parts hs).2.1 _ hmem) fun w9 rv he9 hrv => ?_
    obtain ⟨cr, rfl, hcr⟩ := hrv.cells
    have p9 := p8.ext he9
    simp (disch := (simp only [push_cast]; done)) only [push_cast, p9.ld4, true_and, and_self]
    have hz9 := he9.size
    refine vbuildS1 u_Limpl_Term z_impl_Term zr_impl_Term rfl (tmR_len hcr) (by decide) fun b10 w10 hb10 he10 hs10 h10 => ?_
    have p10 := p9.ext he10
    simp (disch := (simp only [push_cast]; done)) only [push_cast, p10.ld4, true_and, and_self]
    have e510 := he8.trans (he9.trans he10)
    have ho10 := ho5.ext e510
    refine Own.app1k ho10 l_Limpl_Term (by decide) h10 (tmR_len hcr) (tmR_one hcr) (by omega) (by omega) fun kv2 w11 ho11 hw11 hn11 => ?_
    have q11 := p10.same hw11 (fun e => by have := hlo5 _ e; have := h5.lt; omega)
    have hz11 := hw11.size
    try simp only [push_cast, true_and]
    have hkc : kv2.cells = #[kv2] ∧ kv2.oneCell' = true := by
      obtain ⟨a, c, rfl, _⟩ := ho11.sl.shape
      exact ⟨rfl, rfl⟩
    refine q11.st (i := 4) hkc.1 hkc.2 z_Limpl_Term rfl fun w12 hw12 hz12 h12 => ?_
    replace h12 : Blk w12 b3 [.int .i64 t.op, .int .i64 t.a, .int .i64 t.b, .string t.s, kv2] T_impl_Term := h12
    rw [inc64' (by omega)]
    have hz10 := he10.size
    have hkv2 : ∀ b, kv2.ownBlock = some b → w4.heap.size ≤ b := fun b hb => by
      rcases hn11 b hb with h | h
      · exact hlo5 b h
      · omega
    have hS : Same (fun b => b = b3 ∨ kv'.ownBlock = some b) w5 w12 := (Same.of_ext e510).trans ((hw11.mono fun _ _ h => .inr h).trans (hw12.mono fun _ _ h => .inl h))
    have hS4 : Same (fun b => b = b3) w4 w12 := ⟨hS.os.trans hs5.os, hS.tape.trans hs5.tape, hS.output.trans hs5.output, Nat.le_trans hs5.size hS.size, fun b hb hne => (hS.block b (by omega) (fun e => e.elim hne fun e => by have := hlo5 b e; omega)).trans (hs5.block b hb hne)⟩
    refine hC (by omega) _ _ ⟨rfl, hS4, kv2, css ++ [cr], h12, ho11.same hw12 (fun b hb e => by have := hkv2 b hb; omega), by simp [hl5], hkv2, fun j hj => ?_⟩
    by_cases ej : j < i
    · rw [List.getD_eq_getElem?_getD, List.getElem?_append_left (by omega), ← List.getD_eq_getElem?_getD]
      refine ((hkk5 j ej).weaken (F' := fun x => ((G x ∧ x < w.heap.size) ∨ (w4.heap.size ≤ x ∧ kv'.ownBlock ≠ some x)) ∧ x < w5.heap.size) fun b h h' => ⟨h, h'⟩).same hS (fun b hb _ e => ?_) |>.weaken fun b hb _ => ?_
      · rcases hb.1 with h | h
        · rcases e with e | e
          · omega
          · have := hlo5 b e; omega
        · rcases e with e | e
          · omega
          · exact h.2 e
      · rcases hb.1 with h | h
        · exact .inl h
        · refine .inr ⟨h.1, fun e => ?_⟩
          rcases hn11 b e with e | e
          · exact h.2 e
          · omega
    · have : j = i := by omega
      subst this
      rw [List.getD_eq_getElem?_getD, List.getElem?_append_right (by omega), hl5, Nat.sub_self]
      show TmR _ w12 cr _
      refine (((hcr.weaken (F' := fun x => ((G x ∧ x < w.heap.size) ∨ w8.heap.size ≤ x) ∧ x < w9.heap.size) fun b h h' => ⟨h, h'⟩).ext he10).same hw11 (fun b hb _ e => ?_)).same hw12 (fun b hb _ e => ?_) |>.weaken fun b hb _ => ?_
      · have := hlo5 b e
        have := (ho5.lt e).2
        rcases hb.1 with h | h <;> omega
      · rcases hb.1 with h | h <;> omega
      · rcases hb.1 with h | h
        · exact .inl h
        · refine .inr ⟨by omega, fun e => ?_⟩
          rcases hn11 b e with e | e
          · have := (ho5.lt e).2; omega
          · omega
  · have hi' : i = t.ks.length := by omega
    subst hi'
    rw [h5.ldAgg (t := T_impl_Term) g_impl_Term]
    have hkk : TmsR (fun x => (G x ∧ x < w.heap.size) ∨ w4.heap.size ≤ x) w5 kv' (t.ks.map (M.foldT ds)) := by
      refine ⟨css, ho5.sl.weaken fun b hb _ => .inr (hlo5 b hb), by rw [hl5, List.length_map], fun j hj => ?_⟩
      rw [List.length_map] at hj
      rw [M.getD_map _ hj _ default]
      exact (hkk5 j hj).weaken fun b hb _ => hb.imp id fun h => h.1
    have hgood := M.kids_good hok hs
    refine l3One_spec (t := M.remake t (t.ks.map (M.foldT ds))) (hd.ext hE5) hok ⟨kv', rfl, hkk⟩ (by rw [hgood.sort]; exact hs) fun w6 rv he6 hrv => ?_
    rw [← M.foldT_rem] at hrv
    obtain ⟨cr, rfl, hcr⟩ := hrv.cells
    have r6 := (r4.same hs5 (by omega)).ext he6
    refine retTerm r6 rfl hcr (fun x hx => by rcases hx with (h | h) | h <;> omega) fun w7 hw7 hz7 ht7 => ?_
    exact hK _ _ (Ext.then (hE5.trans he6) hw7 fun y hy => by subst hy; omega) (ht7.weaken fun x hx _ => by
      rcases hx with (h | h) | h
      · exact .inl h.1
      · exact .inr (by omega)
      · exact .inr (by omega))
theorem spec_TermFold_spec {dv tv : Value} {ds : List M.Dcl} {t : M.Tm} (hz : Sized ds) (hd : DclsR F w dv ds) (ht : TermR G w tv t) (hK : ∀ w' cs, Ext w w' → TmO w' (fun b => w.heap.size ≤ b ∧ b < w'.heap.size) cs (foldA ds t) → K (.agg ⟨cs⟩) w') : vcall PP n_spec_TermFold #[dv, tv] w K := by
  apply c_spec_TermFold; unfold F_spec_TermFold
  obtain ⟨ct, rfl, hct⟩ := ht.cells
  have hg : aggB PP T_impl_Term ct.length = true := by rw [tmR_len hct]; exact g_impl_Term
  refine vbox_agg fun b1 w1 hb1 he1 hs1 h1 => ?_
  refine valloc_agg zr_impl_Term fun b2 w2 hb2 he2 hs2 h2 => ?_
  have q2 := h1.ext he2
  have hE2 := he1.trans he2
  have hz1 := he1.size
  rw [q2.ldAgg (t := T_impl_Term) hg]
  refine spec_TermSort_spec hz (hd.ext hE2) (ht.ext hE2) fun w3 he3 => ?_
  have hE3 := hE2.trans he3
  have r3 := h2.ext he3
  have hz3 := he3.size
  simp only [push_cast]
  unfold foldA at hK
  have hr := dtSize (ds := ds) (t := t)
  refine vif_dec (fun a => ?_) (fun a => ?_)
  · rw [if_pos (show M.tsort ds t = -1 by omega)] at hK
    try simp only [push_cast]
    refine retO (G := fun _ => False) r3 rfl zeroO (fun x hx => hx.elim) fun w4 hw4 hz4 ho4 => ?_
    exact hK _ _ (Ext.then hE3 hw4 fun y hy => by subst hy; omega) (tmO_weaken ho4 fun b hb => hb.elim)
  · have a' : M.tsort ds t ≠ -1 := by omega
    rw [if_neg a'] at hK
    obtain ⟨hok, hs, hsz⟩ := small_of a'
    rw [(q2.ext he3).ldAgg (t := T_impl_Term) hg]
    refine l3Fold_spec t (G := fun x => x < w.heap.size) (hd.ext hE3) hok ((ht.weaken fun b _ h => h).ext hE3) hs fun w6 rv he6 hrv => ?_
    have hE6 := hE3.trans he6
    have hgood := (M.fold_good hok t hs).size
    refine l3Copy_spec _ hrv (fit_size _ (by omega)) fun w7 cs he7 ho7 => ?_
    have hz6 := he6.size
    refine retO (r3.ext (he6.trans he7)) rfl ho7 (fun x hx => by omega) fun w8 hw8 hz8 ho8 => ?_
    exact hK _ _ (Ext.then (hE6.trans he7) hw8 fun y hy => by subst hy; omega) (tmO_weaken ho8 fun b hb => ⟨by omega, by omega⟩)
end Go.Proofs.YtcfgmgjofmbfhaaGreatDoor
end
section
namespace Go.Proofs.YtcfgmgjofmbfhaaGreatDoor
open Go Go.Vc Go.Proofs
variable {w : World} {K : Value → World → Prop} {F F' D G : Nat → Prop}
@[push_cast] theorem bd_T14 (o x : Int) (a : Option Addr) (l c : Nat) : vbuild PP T_impl_Term [(0, .int .i64 o), (1, .int .i64 x), (4, .slice a l c)] w K = K (.agg ⟨[.int .i64 o, .int .i64 x, .int .i64 0, .string ⟨#[]⟩, .slice a l c]⟩) w := vbuild_eq b_impl_Term (us := [[.int .i64 o], [.int .i64 x], [.slice a l c]]) rfl rfl
structure DS (F G : Nat → Prop) (w0 : World) (b b1 b2 : Nat) (v : Value) (xs : List Nat) (cs : List Value) (t : M.Tm) (w : World) (p : Nat) : Prop where
  same : Same (· = b) w0 w
  rd : RdR F w b v xs p
  var : Blk w b1 cs T_impl_Term
  res : Blk w b2 zeroT T_impl_Term
  trm : TmR G w cs t
section
variable {w0 w' : World} {b b1 b2 p : Nat} {v : Value} {xs : List Nat} {cs : List Value} {t : M.Tm}
theorem ds_ext (h : DS F G w0 b b1 b2 v xs cs t w p) (he : Ext w w') : DS F G w0 b b1 b2 v xs cs t w' p := ⟨h.same.trans (Same.of_ext he), h.rd.ext he, h.var.ext he, h.res.ext he, h.trm.ext he⟩
theorem ds_ld (h : DS F G w0 b b1 b2 v xs cs t w p) : vload PP T_impl_Term (ptr b1) w K = K (.agg ⟨cs⟩) w := h.var.ldAgg (by rw [tmR_len h.trm]; exact g_impl_Term)
abbrev Qd (G : Nat → Prop) (n b2 : Nat) (x : Nat) : Prop := G x ∨ (n ≤ x ∧ x ≠ b2)
theorem ds_trm (h : DS F G w0 b b1 b2 v xs cs t w p) : TermR (Qd G w0.heap.size b2) w (.agg ⟨cs⟩) t := h.trm.term.weaken fun x hx _ => .inl hx
theorem ds_new (h : DS F G w0 b b1 b2 v xs cs t w p) {rv : Value} {u : M.Tm} (hu : TermR (fun x => w.heap.size ≤ x) w' rv u) : TermR (Qd G w0.heap.size b2) w' rv u := hu.weaken fun x hx _ => .inr ⟨by have := h.same.size; omega, by have := h.res.lt; omega⟩
theorem ds_k1 (h : DS F G w0 b b1 b2 v xs cs t w p) {v0 : Value} {t0 : M.Tm} (h0 : TermR (Qd G w0.heap.size b2) w v0 t0) (hK : ∀ w' a, Ext w w' → TmsR (Qd G w0.heap.size b2) w' (.slice a 1 1) [t0] → K (.slice a 1 1) w') : vbuildS PP T_Limpl_Term 1 [(0, v0)] w K :=
  kids1 h0 fun w' a he _ hk => hK w' a he (hk.weaken fun x hx _ => hx.elim id fun e => .inr ⟨by have := h.same.size; omega, by have := h.res.lt; omega⟩)
theorem ds_k2 (h : DS F G w0 b b1 b2 v xs cs t w p) {v0 v1 : Value} {t0 t1 : M.Tm} (h0 : TermR (Qd G w0.heap.size b2) w v0 t0) (h1 : TermR (Qd G w0.heap.size b2) w v1 t1) (hK : ∀ w' a, Ext w w' → TmsR (Qd G w0.heap.size b2) w' (.slice a 2 2) [t0, t1] → K (.slice a 2 2) w') : vbuildS PP T_Limpl_Term 2 [(0, v0), (1, v1)] w K :=
  kids2 h0 h1 fun w' a he _ hk => hK w' a he (hk.weaken fun x hx _ => hx.elim id fun e => .inr ⟨by have := h.same.size; omega, by have := h.res.lt; omega⟩)
theorem ds_k3 (h : DS F G w0 b b1 b2 v xs cs t w p) {v0 v1 v2 : Value} {t0 t1 t2 : M.Tm} (h0 : TermR (Qd G w0.heap.size b2) w v0 t0) (h1 : TermR (Qd G w0.heap.size b2) w v1 t1) (h2 : TermR (Qd G w0.heap.size b2) w v2 t2) (hK : ∀ w' a, Ext w w' → TmsR (Qd G w0.heap.size b2) w' (.slice a 3 3) [t0, t1, t2] → K (.slice a 3 3) w') : vbuildS PP T_Limpl_Term 3 [(0, v0), (1, v1), (2, v2)] w K :=
  kids3 h0 h1 h2 fun w' a he _ hk => hK w' a he (hk.weaken fun x hx _ => hx.elim id fun e => .inr ⟨by have := h.same.size; omega, by have := h.res.lt; omega⟩)
theorem ds_pick {n : Int} (h : DS F G w0 b b1 b2 v xs cs t w p) (hn : n ≤ 1099511627776) (hp : p < 1099511627776) (hb1 : b ≠ b1) (hb2 : b ≠ b2) (hG : ∀ x, G x → x ≠ b)
    (hK : ∀ w' (k : Nat), DS F G w0 b b1 b2 v xs cs t w' (p + 1) → Same (· = b) w w' → w'.heap.size = w.heap.size → (1 ≤ n → (k : Int) < n) → K (.int .i64 k) w') : vcall PP n_spec_l12Rd_pick #[.pointer (some ⟨b, 0, none⟩), .int .i64 n] w K :=
  pick_spec h.rd hn hp fun w' k hs hz hr h1 _ => hK w' k ⟨h.same.trans hs, hr, h.var.same hs (by omega), h.res.same hs (by omega), h.trm.same hs fun x hx _ e => hG x hx e⟩ hs hz h1
abbrev DullK (K : Value → World → Prop) (F G : Nat → Prop) (w : World) (b p : Nat) (v : Value) (xs : List Nat) : Prop := ∀ w' p' tv t, Same (· = b) w w' → RdR F w' b v xs p' → p' ≤ p + 10 → TermR (fun x => G x ∨ w.heap.size ≤ x) w' tv t → t.ks.length ≤ 3 → K tv w'
theorem ds_give {p0 : Nat} {rv : Value} {u : M.Tm} (h : DS F G w0 b b1 b2 v xs cs t w p) (hF : ∀ x, F x → x < w0.heap.size) (hG : ∀ x, G x → x < w0.heap.size) (hb : b < w0.heap.size) (hb2 : w0.heap.size ≤ b2) (hp : p ≤ p0 + 10) (hu : TermR (Qd G w0.heap.size b2) w rv u) (hl : u.ks.length ≤ 3) (hK : DullK K F G w0 b p0 v xs) :
    vstore PP T_impl_Term (ptr b2) rv w fun _ w1 => vlv PP T_impl_Term (ptr b2) w1 fun r w2 => K r w2 := by
  obtain ⟨c, rfl, hc⟩ := hu.cells
  refine retTerm h.res rfl hc (fun x hx => by rcases hx with hx | hx; · have := hG x hx; omega
                                              · exact hx.2) fun w3 hw3 hz3 ht3 => ?_
  exact hK _ p _ _ (same_new h.same hw3 hb2) (h.rd.new hw3 (by omega) fun x hx e => by have := hF x hx; omega) hp (ht3.weaken fun x hx _ => hx.imp id fun h => h.1) hl
end
theorem l3Dull_spec {b p : Nat} {v dv tv : Value} {xs : List Nat} {ds : List M.Dcl} {t : M.Tm} (h : RdR F w b v xs p) (hF : ∀ x, F x → x < w.heap.size) (hd : DclsR D w dv ds) (hok : M.declOk ds = true) (ht : TermR G w tv t) (hG : ∀ x, G x → x ≠ b) (hG1 : ∀ x, G x → x < w.heap.size) (hp : p + 10 < 1099511627776)
    (hK : DullK K F G w b p v xs) : vcall PP n_spec_l3Dull #[.pointer (some ⟨b, 0, none⟩), dv, tv] w K := by
  apply c_spec_l3Dull; unfold F_spec_l3Dull
  have lb := h.blk.lt
  obtain ⟨cs, rfl, hcs⟩ := ht.cells
  refine vbox_agg fun b1 w1 hb1 he1 hs1 h1 => ?_
  refine valloc_agg zr_impl_Term fun b2 w2 hb2 he2 hs2 h2 => ?_
  have hE2 := he1.trans he2
  have d2 : DS F G w b b1 b2 v xs cs t w2 p := ⟨Same.of_ext hE2, h.ext hE2, h1.ext he2, h2, hcs.ext hE2⟩
  rw [ds_ld d2]
  refine l2Sort_spec t (hd.ext hE2) hok d2.trm.term fun w3 he3 => ?_
  have d3 := ds_ext d2 he3
  have hsr := M.sort_range hok t
  generalize M.sortM ds t = s at hsr
  have pk : ∀ {w' : World} {q : Nat} {n : Int} {K' : Value → World → Prop}, DS F G w b b1 b2 v xs cs t w' q → n ≤ 1099511627776 → q ≤ p + 5 → (∀ w'' (k : Nat), DS F G w b b1 b2 v xs cs t w'' (q + 1) → Same (· = b) w' w'' → w''.heap.size = w'.heap.size → (1 ≤ n → (k : Int) < n) → K' (.int .i64 k) w'') → vcall PP n_spec_l12Rd_pick #[.pointer (some ⟨b, 0, none⟩), .int .i64 n] w' K' :=
    fun d hn hq hK' => ds_pick d hn (by omega) (by omega) (by omega) hG hK'
  have gv : ∀ {w' : World} {q : Nat} {rv : Value} {u : M.Tm}, DS F G w b b1 b2 v xs cs t w' q → q ≤ p + 10 → TermR (Qd G w.heap.size b2) w' rv u → u.ks.length ≤ 3 → vstore PP T_impl_Term (ptr b2) rv w' fun _ w1 => vlv PP T_impl_Term (ptr b2) w1 fun r w2 => K r w2 :=
    fun d hq hu hl => ds_give d hF hG1 lb (by omega) hq hu hl hK
  refine pk d3 (by decide) (by omega) fun w4 k d4 hs4 hz4 hk => ?_
  have hk8 := hk (by decide)
  simp only [push_cast]
  refine vif_dec (fun c0 => ?_) (fun c0 => ?_)
  · refine vjoin_of (fun u w' => u = [] ∧ w' = w4) (fun C hC => ?_) ?_
    · refine vjoin_of (fun u w' => ∃ e : Bool, u = [.bool e] ∧ w' = w4) (fun E hE => ?_) ?_
      · try simp only [push_cast]
        refine vif_dec (fun _ => hE _ _ ⟨_, rfl, rfl⟩) (fun _ => hE _ _ ⟨_, rfl, rfl⟩)
      rintro u g w4' ⟨e, rfl, rfl⟩
      simp only [push_cast]
      refine vif_bool (fun _ => ?_) (fun _ => ?_)
      · rw [ds_ld d4]
        refine ds_k1 d4 (ds_trm d4) fun w5 a5 he5 k5 => ?_
        simp only [push_cast]
        refine ds_k1 (ds_ext d4 he5) (node_term (o := 25) k5) fun w6 a6 he6 k6 => ?_
        simp only [push_cast]
        exact gv (ds_ext (ds_ext d4 he5) he6) (by omega) (node_term (o := 25) k6) (by show 1 ≤ 3; decide)
      · try simp only [push_cast]
        refine vif_dec (fun _ => ?_) (fun _ => ?_)
        · rw [ds_ld d4]
          try simp only [push_cast]
          refine ds_k2 d4 (ds_trm d4) (node_leaf (o := 24)) fun w5 a5 he5 k5 => ?_
          simp only [push_cast]
          exact gv (ds_ext d4 he5) (by omega) (node_term (o := 26) k5) (by show 2 ≤ 3; decide)
        try simp only [push_cast]
        refine vif_dec (fun _ => ?_) (fun _ => ?_)
        · refine vdraw_ext fun w5 he5 _ => ?_
          have d5 := ds_ext d4 he5
          rw [ds_ld d5]
          refine ⟨rfl, ?_⟩
          refine l3False_spec fun w6 v6 he6 hv6 => ?_
          have d6 := ds_ext d5 he6
          rw [ds_ld d6]
          refine ⟨⟨rfl, rfl⟩, ?_⟩
          refine ds_k2 d6 (ds_new d5 hv6) (ds_trm d6) fun w7 a7 he7 k7 => ?_
          simp only [push_cast, true_and]
          exact gv (ds_ext d6 he7) (by omega) (node_term (o := 27) k7) (by show 2 ≤ 3; decide)
        try simp only [push_cast]
        refine vif_dec (fun _ => ?_) (fun _ => hC _ _ ⟨rfl, rfl⟩)
        rw [ds_ld d4, ds_ld d4]
        refine ds_k2 d4 (ds_trm d4) (ds_trm d4) fun w5 a5 he5 k5 => ?_
        simp only [push_cast]
        exact gv (ds_ext d4 he5) (by omega) (node_term (o := 27) k5) (by show 2 ≤ 3; decide)
    rintro u g w4' ⟨rfl, rfl⟩
    rw [ds_ld d4, ds_ld d4, ds_ld d4]
    refine ds_k3 d4 (ds_trm d4) (ds_trm d4) (ds_trm d4) fun w5 a5 he5 k5 => ?_
    simp only [push_cast]
    exact gv (ds_ext d4 he5) (by omega) (node_term (o := 23) k5) (by show 3 ≤ 3; decide)
  try simp only [push_cast]
  refine vif_dec (fun _ => ?_) (fun _ => ?_)
  · rw [ds_ld d4]
    refine ds_k1 d4 (ds_trm d4) fun w5 a5 he5 k5 => ?_
    simp only [push_cast]
    refine ds_k1 (ds_ext d4 he5) (node_term (o := 2) k5) fun w6 a6 he6 k6 => ?_
    simp only [push_cast]
    exact gv (ds_ext (ds_ext d4 he5) he6) (by omega) (node_term (o := 2) k6) (by show 1 ≤ 3; decide)
  try simp only [push_cast]
  refine vif_dec (fun _ => ?_) (fun _ => ?_)
  · refine vdraw_ext fun w5 he5 _ => ?_
    have d5 := ds_ext d4 he5
    rw [ds_ld d5]
    refine ⟨rfl, ?_⟩
    refine pk d5 (by decide) (by omega) fun w6 j d6 hs6 hz6 hj => ?_
    rw [ds_ld d6]
    refine ⟨⟨rfl, rfl⟩, ?_⟩
    simp only [push_cast, true_and]
    refine l3Zero_spec fun w7 v7 he7 hv7 => ?_
    have d7 := ds_ext d6 he7
    rw [ds_ld d7]
    simp only [push_cast, true_and, and_self]
    refine ds_k2 d7 (ds_trm d7) (ds_new d6 hv7) fun w8 a8 he8 k8 => ?_
    simp only [push_cast, true_and, and_self]
    exact gv (ds_ext d7 he8) (by omega) (node_term k8) (by show 2 ≤ 3; decide)
  try simp only [push_cast]
  refine vif_dec (fun _ => ?_) (fun _ => ?_)
  · refine vdraw_ext fun w5 he5 _ => ?_
    have d5 := ds_ext d4 he5
    rw [ds_ld d5]
    refine ⟨rfl, ?_⟩
    refine pk d5 (by decide) (by omega) fun w6 j d6 hs6 hz6 hj => ?_
    rw [ds_ld d6]
    refine ⟨⟨rfl, rfl⟩, ?_⟩
    simp only [push_cast, true_and]
    refine l3Zero_spec fun w7 v7 he7 hv7 => ?_
    have d7 := ds_ext d6 he7
    rw [ds_ld d7]
    simp only [push_cast, true_and, and_self]
    refine ds_k2 d7 (ds_new d6 hv7) (ds_trm d7) fun w8 a8 he8 k8 => ?_
    simp only [push_cast, true_and, and_self]
    exact gv (ds_ext d7 he8) (by omega) (node_term k8) (by show 2 ≤ 3; decide)
  have two : ∀ {n : Int} {base : Int}, n ≤ 1099511627776 → vdraw w4 fun w5 => vload PP T_impl_Term (ptr b1) w5 fun t81 w6 => w6 = w5 ∧ vload PP T_impl_Term (ptr b1) w5 fun t82 w7 => w7 = w5 ∧
      (vcall PP n_spec_l12Rd_pick #[ptr b, .int .i64 n] w5 fun t79 w8 => (vload PP T_impl_Term (ptr b1) w8 fun v x => v = t82 ∧ x = w8) ∧ (vload PP T_impl_Term (ptr b1) w8 fun v x => v = t81 ∧ x = w8) ∧
        vbin PP .add T_int true (.int .i64 base) t79 w8 fun t80 w9 => w9 = w8 ∧
        (vbuildS PP T_Limpl_Term 2 [(0, t81), (1, t82)] w8 fun t83 w10 => (vbin PP .add T_int true (.int .i64 base) t79 w10 fun v x => v = t80 ∧ x = w10) ∧
          vbuild PP T_impl_Term [(0, t80), (4, t83)] w10 fun t84 w11 => w11 = w10 ∧
          (vstore PP T_impl_Term (ptr b2) t84 w10 fun _ w12 => vlv PP T_impl_Term (ptr b2) w12 fun r w13 => K r w13) ∧ True) ∧ True) ∧
      (vbuildS PP T_Limpl_Term 2 [(0, t81), (1, t82)] w5 fun t83 w14 =>
        (vcall PP n_spec_l12Rd_pick #[ptr b, .int .i64 n] w14 fun t79 w15 =>
          vbin PP .add T_int true (.int .i64 base) t79 w15 fun t80 w16 => w16 = w15 ∧
          vbuild PP T_impl_Term [(0, t80), (4, t83)] w15 fun t84 w17 => w17 = w15 ∧
          (vstore PP T_impl_Term (ptr b2) t84 w15 fun _ w18 => vlv PP T_impl_Term (ptr b2) w18 fun r w19 => K r w19) ∧ True) ∧ True) ∧ True := fun {n base} hn => by
    refine vdraw_ext fun w5 he5 _ => ?_
    have d5 := ds_ext d4 he5
    rw [ds_ld d5]
    refine ⟨rfl, ?_⟩
    rw [ds_ld d5]
    refine ⟨rfl, ?_, ?_, trivial⟩
    · refine pk d5 hn (by omega) fun w6 j d6 hs6 hz6 hj => ?_
      rw [ds_ld d6]
      refine ⟨⟨rfl, rfl⟩, ⟨rfl, rfl⟩, ?_⟩
      simp only [push_cast, true_and]
      refine ⟨?_, trivial⟩
      refine ds_k2 d6 (ds_trm d6) (ds_trm d6) fun w8 a8 he8 k8 => ?_
      simp only [push_cast, true_and, and_self]
      refine ⟨?_, trivial⟩
      exact gv (ds_ext d6 he8) (by omega) (node_term k8) (by show 2 ≤ 3; decide)
    · refine ds_k2 d5 (ds_trm d5) (ds_trm d5) fun w6 a6 he6 k6 => ?_
      refine ⟨?_, trivial⟩
      have l2 := d5.res.lt
      have hz6 := he6.size
      refine pk (ds_ext d5 he6) hn (by omega) fun w7 j d7 hs7 hz7 hj => ?_
      simp only [push_cast, true_and]
      refine ⟨?_, trivial⟩
      refine gv d7 (by omega) (node_term (k6.same hs7 fun x hx _ e => ?_)) (by show 2 ≤ 3; decide)
      rcases hx with hx | hx
      · exact hG x hx e
      · omega
  try simp only [push_cast]
  refine vif_dec (fun _ => ?_) (fun _ => ?_)
  · have := two (n := 11) (base := 3) (by decide)
    try simp only [push_cast] at this
    exact this
  try simp only [push_cast]
  refine vif_dec (fun _ => ?_) (fun _ => ?_)
  · have := two (n := 3) (base := 15) (by decide)
    try simp only [push_cast] at this
    exact this
  clear two
  try simp only [push_cast]
  refine vif_dec (fun _ => ?_) (fun _ => ?_)
  · rw [ds_ld d4]
    refine ds_k1 d4 (ds_trm d4) fun w5 a5 he5 k5 => ?_
    simp only [push_cast]
    exact gv (u := .mk 22 _ 0 M.nada [t]) (ds_ext d4 he5) (by omega) ⟨_, rfl, k5⟩ (by show 1 ≤ 3; decide)
  try simp only [push_cast]
  refine vif_dec (fun _ => ?_) (fun _ => ?_)
  · rw [ds_ld d4]
    have lf : TermR (Qd G w.heap.size b2) w4 (.agg ⟨[.int .i64 20, .int .i64 s, .int .i64 1, .string ⟨#[]⟩, .slice none 0 0]⟩) (.mk 20 s 1 M.nada []) := ⟨.slice none 0 0, rfl, TmsR.nil⟩
    refine ds_k2 d4 lf (ds_trm d4) fun w5 a5 he5 k5 => ?_
    simp only [push_cast]
    exact gv (ds_ext d4 he5) (by omega) (node_term (o := 8) k5) (by show 2 ≤ 3; decide)
  · refine vdraw_ext fun w5 he5 _ => ?_
    have d5 := ds_ext d4 he5
    try simp only [push_cast, true_and]
    rw [ds_ld d5]
    refine ⟨rfl, ?_⟩
    refine l3Zero_spec fun w7 v7 he7 hv7 => ?_
    have d7 := ds_ext d5 he7
    rw [ds_ld d7]
    refine ⟨⟨rfl, rfl⟩, ?_⟩
    try simp only [push_cast, true_and, and_self]
    refine ds_k3 d7 (node_leaf (o := 24)) (ds_trm d7) (ds_new d5 hv7) fun w8 a8 he8 k8 => ?_
    simp only [push_cast, true_and]
    exact gv (ds_ext d7 he8) (by omega) (node_term (o := 23) k8) (by show 3 ≤ 3; decide)
theorem l3Draw_spec {b p : Nat} {v : Value} {xs : List Nat} (h : RdR F w b v xs p) (hF : ∀ x, F x → x < w.heap.size) (hp : p + 300100 < 1099511627776)
    (hK : ∀ w' p' dv tv ds t, Same (· = b) w w' → RdR F w' b v xs p' → p' ≤ p + 300100 → DclsR (fun x => w.heap.size ≤ x) w' dv ds → Dsm ds → TermR (fun x => w.heap.size ≤ x) w' tv t → K (.tuple #[dv, tv]) w') : vcall PP n_spec_l3Draw #[.pointer (some ⟨b, 0, none⟩)] w K := by
  apply c_spec_l3Draw; unfold F_spec_l3Draw
  have lb := h.blk.lt
  refine valloc_agg zr_impl_Term fun b1 w1 hb1 he1 hs1 h1 => ?_
  have hR1 := h.ext he1
  have hz1 := he1.size
  refine l2Decls_spec2 hR1 (fun x hx => by have := hF x hx; omega) (by omega) fun w2 p2 dv ds hs2 hR2 hp2 hd2 hok hgd => ?_
  have h2 := h1.same hs2 (by omega)
  have hz2 := hs2.size
  have hd2' := hd2.weaken (F' := fun x => w1.heap.size ≤ x ∧ x < w2.heap.size) fun x hx hl => ⟨hx, hl⟩
  refine ints_lit (ns := [0, 0, 1, 2, 3, 4]) (by decide) fun b3 w3 hb3 he3 hi3 => ?_
  have hz3 := he3.size
  refine num_spec (hR2.ext he3) hi3 (by simp) (by decide) (by omega) (fun x hx e => by subst hx; omega) fun w4 m hs4 hz4 hR4 hm => ?_
  have hm4 : 0 ≤ m ∧ m ≤ 4 := by
    simp only [List.mem_cons, List.not_mem_nil, or_false] at hm
    omega
  have hd4 := (hd2'.ext he3).same hs4 fun x hx _ e => by omega
  have h4 := (h2.ext he3).same hs4 (by omega)
  refine l2Some_spec hR4 (fun x hx => by have := hF x hx; omega) hd4 (fun x hx e => by omega) (fun x hx => by omega) hok hm4.1 hm4.2 (by omega) fun w5 p5 tv t hs5 hR5 hp5 ht5 hk3 => ?_
  have hd5 := hd4.same hs5 fun x hx _ e => by omega
  have h5 := h4.same hs5 (by omega)
  have hz5 := hs5.size
  obtain ⟨cs, rfl, hcs5⟩ := ht5.cells
  have hcs5' := hcs5.weaken (F' := fun x => w4.heap.size ≤ x ∧ x < w5.heap.size) fun x hx hl => ⟨hx, hl⟩
  refine valloc_agg zr_impl_Term fun b6 w6 hb6 he6 hs6 h6 => ?_
  refine stTerm h6 rfl (hcs5'.ext he6) fun w7 hw7 hz7 h7 => ?_
  have he7 : Ext w5 w7 := Ext.then he6 hw7 fun y hy => by subst hy; omega
  have hR7 := hR5.ext he7
  refine pick_spec hR7 (by decide) (by omega) fun w8 k hs8 hz8 hR8 hk _ => ?_
  have hk2 := hk (by decide)
  have hz7' := he7.size
  have hz8' := hs8.size
  have d8 := (hd5.ext he7).same hs8 fun x hx _ e => by omega
  have r8 := (h5.ext he7).same hs8 (by omega)
  have t8 := h7.same hs8 (by omega)
  have c8 : TmR (fun x => w4.heap.size ≤ x ∧ x ≠ b6) w8 cs t := (((hcs5'.ext he7).same hs8 fun x hx _ e => by omega).weaken fun x hx _ => ⟨hx.1, by omega⟩)
  have s08 : Same (· = b) w w8 := (((((Same.of_ext he1).trans hs2).trans (Same.of_ext he3)).trans hs4).trans hs5).trans ((Same.of_ext he7).trans hs8)
  refine vloop_up k (fun i u w' => ∃ c u' p', u = [.int .i64 ((k - i : Nat) : Int)] ∧ Same (· = b) w w' ∧ RdR F w' b v xs p' ∧ p' ≤ p5 + 1 + 10 * i ∧ w8.heap.size ≤ w'.heap.size ∧ DclsR (fun x => w1.heap.size ≤ x ∧ x < w2.heap.size) w' dv ds ∧ Blk w' b1 zeroT T_impl_Term ∧ Blk w' b6 c T_impl_Term ∧ TmR (fun x => w4.heap.size ≤ x ∧ x ≠ b6) w' c u' ∧ u'.ks.length ≤ 3)
    ⟨cs, t, p5 + 1, rfl, s08, hR8, by omega, Nat.le_refl _, d8, r8, t8, c8, hk3⟩ ?_
  rintro i _ _ w9 C hi ⟨c, u', p9, rfl, s9, hR9, hp9, hsz9, d9, r9, t9, c9, hk9⟩ hC
  have gc : aggB PP T_impl_Term c.length = true := by rw [tmR_len c9]; exact g_impl_Term
  simp only [push_cast]
  refine vif_dec (fun a => ?_) (fun a => ?_)
  · have hik : i < k := by omega
    rw [t9.ldAgg (t := T_impl_Term) gc]
    have c9' := c9.weaken (F' := fun x => (w4.heap.size ≤ x ∧ x ≠ b6) ∧ x < w9.heap.size) fun x hx hl => ⟨hx, hl⟩
    refine l3Dull_spec hR9 (fun x hx => by have := hF x hx; omega) d9 hgd c9'.term (fun x hx e => by omega) (fun x hx => hx.2) (by omega) fun w10 p10 rv u10 hs10 hR10 hp10 hrv hl10 => ?_
    obtain ⟨cr, rfl, hcr⟩ := hrv.cells
    have hz10 := hs10.size
    have d10 := d9.same hs10 fun x hx _ e => by omega
    have r10 := r9.same hs10 (by omega)
    have t10 := t9.same hs10 (by omega)
    have c10 := c9'.same hs10 fun x hx _ e => by omega
    have gr : aggB PP T_impl_Term cr.length = true := by rw [tmR_len hcr]; exact g_impl_Term
    refine valloc_agg zr_impl_Term fun b11 w11 hb11 he11 hs11 h11 => ?_
    have hcr' := (hcr.weaken (F' := fun x => (((w4.heap.size ≤ x ∧ x ≠ b6) ∧ x < w9.heap.size) ∨ w9.heap.size ≤ x) ∧ x < w10.heap.size) fun x hx hl => ⟨hx, hl⟩).ext he11
    refine stTerm h11 rfl hcr' fun w12 hw12 hz12 h12 => ?_
    have e12 : Ext w10 w12 := Ext.then he11 hw12 fun y hy => by subst hy; omega
    rw [h12.ldAgg (t := T_impl_Term) gr]
    have hcr12 : TmR (fun x => w4.heap.size ≤ x ∧ x ≠ b6) w12 cr u10 := (hcr'.same hw12 fun x hx _ e => by omega).weaken fun x hx _ => by
      rcases hx.1 with h | h
      · exact h.1
      · exact ⟨by omega, by omega⟩
    refine spec_TermSort_spec (dsm_sized (dok_dsm hok)) (d10.ext e12) hcr12.term fun w13 he13 => ?_
    have e13 := e12.trans he13
    have hz13 := e13.size
    have sub1 : IntKind.i64.wrap (((k - i : Nat) : Int) - 1) = ((k - (i + 1) : Nat) : Int) := by rw [wrap64 (by omega) (by omega)]; omega
    have s13 : Same (· = b) w w13 := (s9.trans hs10).trans (Same.of_ext e13)
    simp only [push_cast]
    refine vif_dec (fun _ => ?_) (fun _ => ?_)
    · rw [(h12.ext he13).ldAgg (t := T_impl_Term) gr]
      refine stTerm (t10.ext e13) (tmR_len c9) (hcr12.ext he13) fun w14 hw14 hz14 h14 => ?_
      rw [sub1]
      refine hC hik _ _ ⟨cr, u10, p10, rfl, same_new s13 hw14 (by omega), (hR10.ext e13).new hw14 (by omega) (fun x hx e => by have := hF x hx; omega), by omega, by omega, (d10.ext e13).same hw14 fun x hx _ e => by omega, (r10.ext e13).same hw14 (by omega), h14, (hcr12.ext he13).same hw14 (fun x hx _ e => hx.2 e), hl10⟩
    · rw [sub1]
      exact hC hik _ _ ⟨c, u', p10, rfl, s13, hR10.ext e13, by omega, by omega, d10.ext e13, r10.ext e13, t10.ext e13, (c10.ext e13).weaken fun x hx _ => hx.1, hk9⟩
  · refine vdraw_ext fun w10 he10 _ => ?_
    have t10 := t9.ext he10
    rw [t10.ldAgg (t := T_impl_Term) gc]
    refine ⟨rfl, ?_⟩
    have hz10 := he10.size
    have d10 := d9.ext he10
    have c10 := (c9.weaken (F' := fun x => (w4.heap.size ≤ x ∧ x ≠ b6) ∧ x < w9.heap.size) fun x hx hl => ⟨hx, hl⟩).ext he10
    refine l2Spoil_spec (hR9.ext he10) (fun x hx => by have := hF x hx; omega) d10 (fun x hx e => by omega) (fun x hx => by omega) hok (by omega) fun w11 p11 dv' ds' hs11 hR11 hp11 hd11 hok11 => ?_
    have t11 := t10.same hs11 (by omega)
    rw [t11.ldAgg (t := T_impl_Term) gc]
    refine ⟨⟨rfl, rfl⟩, ?_⟩
    have hz11 := hs11.size
    have c11 := c10.same hs11 fun x hx _ e => by omega
    refine l2Bent_spec hR11 (fun x hx => by have := hF x hx; omega) c11.term (fun x hx e => by omega) (fun x hx => by omega) (by omega) (by omega) fun w12 p12 tv' t' hs12 hR12 hp12 ht12 _ => ?_
    have hd12 := hd11.same hs12 fun x hx _ e => by omega
    have r12 := ((r9.ext he10).same hs11 (by omega)).same hs12 (by omega)
    obtain ⟨cs', rfl, hcs12⟩ := ht12.cells
    have hs012 : Same (· = b) w w12 := (s9.trans (Same.of_ext he10)).trans (hs11.trans hs12)
    have hz12 := hs12.size
    refine stTerm r12 rfl hcs12 fun w13 hw13 hz13 h13 => ?_
    rw [h13.lv (by rw [tmR_len hcs12]; exact g_impl_Term)]
    refine hK w13 p12 dv' _ ds' t' (same_new hs012 hw13 (by omega)) (hR12.new hw13 (by omega) fun x hx e => by have := hF x hx; omega) (by omega) ((hd12.same hw13 fun x hx _ e => by omega).weaken fun x hx _ => by omega) hok11 ((hcs12.same hw13 fun x hx _ e => by omega).term.weaken fun x hx _ => by omega)
theorem DrawTermFold_spec {v : Value} {xs : List Nat} (hx : Bytes F w v xs) (hF : ∀ b, F b → b < w.heap.size)
    (hK : ∀ w' dv tv ds t, Ext w w' → DclsR (fun x => w.heap.size ≤ x) w' dv ds → Dsm ds → TermR (fun x => w.heap.size ≤ x) w' tv t → K (.tuple #[dv, tv]) w') : vcall PP n_spec_DrawTermFold #[v] w K := by
  apply c_spec_DrawTermFold; unfold F_spec_DrawTermFold
  refine valloc_agg zr_impl_Term fun b1 w1 hb1 he1 hs1 h1 => ?_
  have hz1 := he1.size
  refine l12Open_spec (hx.ext he1) (fun b hb => by have := hF b hb; omega) fun w2 b v' ys he2 hR2 hb2 => ?_
  have hz2 := he2.size
  have lb := hR2.blk.lt
  refine l3Draw_spec (F := fun x => F x ∧ x < w2.heap.size) ⟨hR2.blk, ⟨hR2.bytes.1.weaken fun x hx hl => ⟨hx, hl⟩, hR2.bytes.2⟩, fun h => hR2.apart h.1, hR2.few⟩ (fun x hx => hx.2) (by omega) fun w3 p3 dv tv ds t hs3 hR3 hp3 hd3 hok ht3 => ?_
  have hz3 := hs3.size
  have q3 := (h1.ext he2).same hs3 (by omega)
  obtain ⟨cs, rfl, hcs3⟩ := ht3.cells
  simp only [push_cast]
  refine stTerm q3 rfl hcs3 fun w8 hw8 hz8 h8 => ?_
  rw [h8.lv (by rw [tmR_len hcs3]; exact g_impl_Term)]
  have hX : Ext w w8 := by
    have hE : Same (fun x => w.heap.size ≤ x) w w8 := (((Same.of_ext he1).trans (Same.of_ext he2)).trans (hs3.mono fun x _ hx => by subst hx; omega)).trans (hw8.mono fun x _ hx => by subst hx; omega)
    exact hE.mono fun x hx hh => by omega
  exact hK w8 dv _ ds t hX ((hd3.same hw8 fun x hx _ e => by omega).weaken fun x hx _ => by omega) hok ((hcs3.same hw8 fun x hx _ e => by omega).term.weaken fun x hx _ => by omega)
end Go.Proofs.YtcfgmgjofmbfhaaGreatDoor
end
section
namespace Go.Proofs.YtcfgmgjofmbfhaaGreatDoor
open Go Go.Vc Go.Proofs
variable {w : World} {K : Value → World → Prop} {F F' D G : Nat → Prop}
theorem tsort_of {ds : List M.Dcl} {t : M.Tm} (hd : M.declOk ds = true) (hf : M.fits t = true) : M.tsort ds t = M.sortM ds t := by unfold M.tsort; rw [if_pos ⟨hf, hd⟩]
theorem right_parts {ds : List M.Dcl} {t : M.Tm} (h : M.tsort ds t ≠ -1) : M.declOk ds = true ∧ M.sortM ds t ≠ -1 ∧ M.fits t = true := by
  rcases dtSize (ds := ds) (t := t) with e | ⟨h1, h2, h3, h4, h5⟩
  · exact absurd e h
  · exact ⟨h5, by omega, h4⟩
theorem foldA_of {ds : List M.Dcl} {t : M.Tm} (hd : M.declOk ds = true) (hf : M.fits t = true) (hs : M.sortM ds t ≠ -1) : foldA ds t = M.foldT ds t := by
  unfold foldA; rw [if_neg (by rw [tsort_of hd hf]; exact hs)]
end Go.Proofs.YtcfgmgjofmbfhaaGreatDoor
end
section
namespace Go.Proofs.YtcfgmgjofmbfhaaGreatDoor
open Go Go.Vc Go.Proofs
variable {w : World} {K : Value → World → Prop} {F F' D G : Nat → Prop}
theorem Clone_Lint {v : Value} {xs : List Int} (hx : Ints F w v xs) (hsm : xs.length * 8 ≤ 140737488355328) (hK : ∀ w' v', Ext w w' → OwnI PP T_Lint w' v' xs → (∀ x, v'.ownBlock = some x → w.heap.size ≤ x) → K v' w') :
    vcall PP n_slices_Clone_Lint_int #[v] w K := by
  apply c_slices_Clone_Lint_int; unfold F_slices_Clone_Lint_int
  obtain ⟨a, c, rfl, hc, hcm, hcell⟩ := hx.shape
  simp only [List.length_map] at hx hc ⊢
  rw [vbin_slnil s_Lint]
  refine vif_bool (fun h => ?_) (fun h => ?_)
  · have : xs = [] := by
      refine Decidable.byContradiction fun hne => ?_
      obtain ⟨b, o, e, _⟩ := hcell (by simpa using hne)
      subst e; cases h
    subst this
    exact hK w _ (Same.refl _ _) OwnI.nil fun x hx => by cases hx
  · refine vbuildS_nil u_Lint z_int fun b w1 hb he hz hB => ?_
    have hsz := he.size
    have h0 : OwnI PP T_Lint w1 (.slice (some ⟨b, 0, none⟩) 0 0) [] := Blk.own1 (P := PP) (t := T_Lint) (cs := []) (by rw [eo_Lint]; exact hB) (Nat.zero_le _) rfl rfl (by omega)
    refine h0.app (ys := xs) l_Lint (hx.ext he) (by simp only [List.length_nil]; omega) (by simpa using hsm) fun v' w2 hv hs hn => ?_
    refine hK w2 v' (Ext.then he hs fun x hx => ?_) hv fun x hx => ?_
    · have e : b = x := Option.some.inj hx; omega
    · rcases hn x hx with e | e
      · have e : b = x := Option.some.inj e; omega
      · omega
end Go.Proofs.YtcfgmgjofmbfhaaGreatDoor
end
