/- Contracts of the exact laws: sizes, copies and comparisons of declarations, terms and numbers. -/
import Derived.Test.YtbiabimalkkeiaaGreatDoorXe
set_option linter.unusedVariables false
set_option linter.unusedSimpArgs false
set_option linter.unnecessarySimpa false
set_option linter.unusedSectionVars false
namespace Go.Proofs.YtbiabimalkkeiaaGreatDoor
open Go Go.Vc Go.Proofs
variable {w : World} {K : Value → World → Prop} {F F' D G : Nat → Prop}
theorem ext_getD {xs ys : List Int} (hl : xs.length = ys.length) (h : ∀ j, j < xs.length → xs.getD j 0 = ys.getD j 0) : xs = ys :=
  List.ext_getElem hl fun j h1 h2 => by have := h j h1; simpa [List.getD_eq_getElem?_getD, h1, h2] using this
theorem getD_set {α : Type} {xs : List α} {i j : Nat} {x d : α} (hi : i < xs.length) : (xs.set i x).getD j d = if i = j then x else xs.getD j d := by
  simp only [List.getD_eq_getElem?_getD, List.getElem?_set]
  by_cases e : i = j
  · subst e; simp [hi]
  · simp [e]
theorem ints_small {v : Value} {xs : List Int} (h : Ints F w v xs) : xs.length ≤ 9223372036854775807 := by
  obtain ⟨_, _, _, h1, h2, _⟩ := h.shape; simp at h1; omega
/-- `make([]T, n)`, elements of some cells. -/
theorem vmkS_agg {P : Program} {bs n k : Nat} {t : TypeId} {cs : List Value} {k1 k2 : IntKind} (hT : elZ P t k bs = true) (hk : 0 < k) (hz : zeroB P (elOf P t) (.agg ⟨cs⟩)) (h48 : bs * n ≤ 281474976710656) (h63 : n ≤ 9223372036854775807)
    (hK : ∀ v' w', Own P 0 k t w' v' (List.replicate n cs) → Ext w w' → (∀ b, v'.ownBlock = some b → w.heap.size ≤ b) → K v' w') : vmkS P t (.int k1 n) (.int k2 n) w K := by
  obtain ⟨hu, i, z', hi, hz', hsz, hby, hzs⟩ := elZ_eq hT
  have : z' = .agg ⟨cs⟩ := by
    unfold zeroB at hz; rw [hi] at hz; simp only [hz', Option.some.injEq] at hz; exact hz
  subst this
  subst hby
  have hcl : cs.length = k := hzs
  obtain ⟨w', hr, hown, hgr⟩ := run_make_full (P := P) w 0 t (elOf P t) i _ k hu hi hz' hsz k1 k2 n h48 (by simpa [maxLen] using h63) (by omega)
  have hw : ∀ x, x ∈ List.replicate n cs → x.length = k := fun x hx => by rw [List.eq_of_mem_replicate hx]; exact hcl
  refine ⟨_, w', hr, hK _ w' ⟨?_, hw⟩ ((Same.of_grown hgr).mono fun _ _ h => by cases h) fun b hb => by cases hb; exact Nat.le_refl _⟩
  have e : (madeCells (Value.agg ⟨cs⟩).cells (n * k)).toList = (List.replicate n cs).flatten := by
    refine List.ext_getElem (by rw [flatten_len hw]; simp [madeCells]) fun j h1 h2 => ?_
    have hj : j < n * k := by rw [flatten_len hw, List.length_replicate] at h2; exact h2
    have hq : j / k < n := Nat.div_lt_of_lt_mul (by rw [Nat.mul_comm]; exact hj)
    have hr' := Nat.mod_lt j hk
    have hf := flatten_get hw (i := j / k) (j := j % k) (by simpa using hq) hr'
    have hjk : j / k * k + j % k = j := by rw [Nat.mul_comm]; exact Nat.div_add_mod j k
    rw [hjk, List.getElem?_eq_getElem h2] at hf
    have hg : (List.replicate n cs).getD (j / k) [] = cs := by simp [List.getD_eq_getElem?_getD, hq]
    rw [hg, List.getElem?_eq_getElem (by omega)] at hf
    rw [Option.some.inj hf]
    simp [madeCells, Value.cells, hcl, hr']
  rw [List.length_replicate]
  rw [e] at hown
  exact hown
theorem eqIntS_same {va vb : Value} {a : List Int} (ha : Ints F w va a) (hb : Ints F' w vb a) (hK : ∀ w', Ext w w' → K (.bool true) w') : vcall PP n_laws_eqIntS #[va, vb] w K := by
  apply c_laws_eqIntS; unfold F_laws_eqIntS
  have hla := ints_small ha
  simp (disch := (simp only [push_cast]; done)) only [push_cast, ha.len, hb.len]
  refine vif_dec (fun h => absurd rfl h) (fun h => ?_)
  refine vloop_up a.length (fun i u w' => u = [.int .i64 i] ∧ Ext w w') ⟨rfl, Same.refl _ _⟩ ?_
  rintro i _ _ w1 C hi ⟨rfl, he⟩ hC
  have ha1 := ha.ext he
  have hb1 := hb.ext he
  simp (disch := (simp only [push_cast]; done)) only [push_cast, ha1.len]
  refine vif_dec (fun h2 => ?_) (fun h2 => ?_)
  · refine vdraw_ext fun w2 he2 _ => ?_
    have ha2 := ha1.ext he2
    have hb2 := hb1.ext he2
    simp (disch := first | (simp only [push_cast]; done) | omega) only [push_cast, ha2.iaddr, ha2.load, hb2.iaddr, hb2.load, true_and]
    refine vif_dec (fun h3 => absurd rfl h3) (fun h3 => ?_)
    rw [inc64' (by omega)]
    exact hC (by omega) _ _ ⟨rfl, he.trans he2⟩
  · exact hK w1 he
theorem toIntS_spec {v : Value} {xs : List Int} (hx : Ints F w v xs) (hsm : xs.length ≤ 1048576) (hK : ∀ w' v', Ext w w' → OwnI PP T_Lint w' v' xs → (∀ b, v'.ownBlock = some b → w.heap.size ≤ b) → K v' w') : vcall PP n_laws_toIntS #[v] w K := by
  apply c_laws_toIntS; unfold F_laws_toIntS
  simp (disch := (simp only [push_cast]; done)) only [push_cast, hx.len]
  refine vmkS_own (z := .int .i64 0) l_Lint (by kernel_rfl) zr_int rfl (by omega) (by omega) fun v1 w1 hv1 he1 hn1 => ?_
  have hv1' : OwnI PP T_Lint w1 v1 (List.replicate xs.length 0) := by unfold OwnI; rw [List.map_replicate]; exact hv1
  refine vloop_up xs.length (fun i u w' => u = [.int .i64 i] ∧ Ext w w' ∧ ∃ ys : List Int, ys.length = xs.length ∧ OwnI PP T_Lint w' v1 ys ∧ ∀ j, j < i → ys.getD j 0 = xs.getD j 0) ⟨rfl, he1, _, by simp, hv1', by omega⟩ ?_
  rintro i _ _ w2 C hi ⟨rfl, he2, ys, hl, hv2, hp⟩ hC
  have hx2 := hx.ext he2
  simp (disch := (simp only [push_cast]; done)) only [push_cast, hx2.len]
  refine vif_dec (fun a => ?_) (fun a => ?_)
  · have hvi := hv2.ints
    simp (disch := first | (simp only [push_cast]; done) | omega) only [push_cast, hx2.iaddr, hx2.load, hvi.iaddr]
    refine hv2.st z_int (by omega) fun w3 hv3 hs3 hz3 => ?_
    rw [inc64' (by omega)]
    refine hC (by omega) _ _ ⟨rfl, Ext.then he2 hs3 fun b hb => hn1 b hb, _, by rw [List.length_set]; exact hl, hv3, fun j hj => ?_⟩
    rw [getD_set (by omega)]
    by_cases e : i = j
    · subst e; rw [if_pos rfl]
    · rw [if_neg e]; exact hp j (by omega)
  · have : ys = xs := ext_getD hl fun j hj => hp j (by omega)
    subst this
    exact hK w2 v1 he2 hv2 hn1
theorem szDecl_spec {s : ByteArray} {n left : Int} (h0 : 0 ≤ left) (h1 : left ≤ 1048576) (hs : s.size ≤ 9223372036854775807) (hK : ∀ w' r, Ext w w' → (r = -1 ∨ 0 ≤ r ∧ r ≤ left ∧ (s.size : Int) ≤ left) → K (.int .i64 r) w') : vcall PP n_laws_szDecl #[.agg ⟨[.string s, .int .i64 n]⟩, .int .i64 left] w K := by
  apply c_laws_szDecl; unfold F_laws_szDecl
  refine vbox_agg fun b1 w1 hb1 he1 hs1 q1 => ?_
  simp (disch := first | (simp only [push_cast]; done) | exact us_string) only [push_cast, q1.ld0, vlen_str]
  rw [show IntKind.i64.wrap (left - (s.size : Int)) = left - s.size from wrap64 (by omega) (by omega)]
  refine vif_dec (fun a => ?_) (fun a => ?_)
  · exact hK _ _ he1 (.inl rfl)
  · exact hK _ _ he1 (.inr (by omega))
theorem szDeclS_spec {v : Value} {ds : List M.Dcl} {left : Int} (h0 : 0 ≤ left) (h1 : left ≤ 1048576) (hz : Sized ds) (hd : DclsR F w v ds) (hK : ∀ w' r, Ext w w' → (r = -1 ∨ 0 ≤ r ∧ r ≤ left ∧ (ds.length : Int) ≤ left) → K (.int .i64 r) w') : vcall PP n_laws_szDeclS #[v, .int .i64 left] w K := by
  apply c_laws_szDeclS; unfold F_laws_szDeclS
  have hsm := hd.small
  simp (disch := (simp only [push_cast]; done)) only [push_cast, hd.len]
  rw [show IntKind.i64.wrap (left - (ds.length : Int)) = left - ds.length from wrap64 (by omega) (by omega)]
  refine vif_dec (fun a => hK _ _ (Same.refl _ _) (.inl rfl)) (fun a => ?_)
  refine vloop_up ds.length (fun i u w' => ∃ r : Int, u = [.int .i64 r, .int .i64 i] ∧ Ext w w' ∧ 0 ≤ r ∧ r ≤ left) ⟨_, rfl, Same.refl _ _, by omega, by omega⟩ ?_
  rintro i _ _ w1 C hi ⟨r, rfl, he, r0, r1⟩ hC
  have hd1 := hd.ext he
  simp (disch := first | (simp only [push_cast]; done) | omega) only [push_cast, hd1.len]
  refine vif_dec (fun c => ?_) (fun c => ?_)
  · simp (disch := first | (simp only [push_cast]; done) | omega) only [push_cast, hd1.iaddr, hd1.load]
    refine szDecl_spec r0 (by omega) (hz i (by omega)) fun w2 r2 he2 hr2 => ?_
    simp only [push_cast]
    refine vif_dec (fun d => hK _ _ (he.trans he2) (.inl rfl)) (fun d => ?_)
    rw [inc64' (by omega)]
    exact hC (by omega) _ _ ⟨r2, rfl, he.trans he2, by omega, by omega⟩
  · exact hK _ _ he (.inr (by omega))
/-- The lists in a term are not too long. -/
def fitB : M.Tm → Bool := M.Tm.fold fun t xs => decide (t.ks.length ≤ 1048576) && xs.all id
theorem fitB_eq (t : M.Tm) : fitB t = (decide (t.ks.length ≤ 1048576) && (t.ks.map fitB).all id) := M.Tm.fold_eq _ t
theorem fitB_iff {t : M.Tm} : fitB t = true ↔ t.ks.length ≤ 1048576 ∧ ∀ k, k ∈ t.ks → fitB k = true := by
  rw [fitB_eq, Bool.and_eq_true, decide_eq_true_eq, List.all_eq_true]
  refine and_congr_right fun _ => ⟨fun h k hk => h _ (List.mem_map_of_mem hk), fun h y hy => ?_⟩
  obtain ⟨k, hk, rfl⟩ := List.mem_map.1 hy
  exact h k hk
abbrev SzT (t : M.Tm) : Prop := ∀ {w : World} {K : Value → World → Prop} {F : Nat → Prop} {v : Value} {left : Int}, TermR F w v t → strOk t = true → 0 ≤ left → left ≤ 1048576 → (∀ w' r, Ext w w' → (r = -1 ∨ 0 ≤ r ∧ r ≤ left ∧ fitB t = true) → K (.int .i64 r) w') → vcall PP n_laws_szTerm #[v, .int .i64 left] w K
theorem szTermS_of {ks : List M.Tm} (ih : ∀ k, k ∈ ks → SzT k) {v : Value} {left : Int} (hk : TmsR F w v ks) (hs : ∀ k, k ∈ ks → strOk k = true) (h0 : 0 ≤ left) (h1 : left ≤ 1048576)
    (hK : ∀ w' r, Ext w w' → (r = -1 ∨ 0 ≤ r ∧ r ≤ left ∧ (ks.length : Int) ≤ left ∧ ∀ k, k ∈ ks → fitB k = true) → K (.int .i64 r) w') : vcall PP n_laws_szTermS #[v, .int .i64 left] w K := by
  apply c_laws_szTermS; unfold F_laws_szTermS
  have hsm := hk.small
  simp (disch := (simp only [push_cast]; done)) only [push_cast, hk.len]
  rw [show IntKind.i64.wrap (left - (ks.length : Int)) = left - ks.length from wrap64 (by omega) (by omega)]
  refine vif_dec (fun a => hK _ _ (Same.refl _ _) (.inl rfl)) (fun a => ?_)
  refine vloop_up ks.length (fun i u w' => ∃ r : Int, u = [.int .i64 r, .int .i64 i] ∧ Ext w w' ∧ 0 ≤ r ∧ r ≤ left ∧ ∀ j, j < i → fitB (ks.getD j default) = true) ⟨_, rfl, Same.refl _ _, by omega, by omega, fun j hj => absurd hj (by omega)⟩ ?_
  rintro i _ _ w1 C hi ⟨r, rfl, he, r0, r1, hp⟩ hC
  have hk1 := hk.ext he
  simp (disch := first | (simp only [push_cast]; done) | omega) only [push_cast, hk1.len]
  refine vif_dec (fun c => ?_) (fun c => ?_)
  · have hmem : ks.getD i default ∈ ks := M.getD_mem (by omega) _
    simp (disch := first | (simp only [push_cast]; done) | omega) only [push_cast, hk1.iaddr]
    refine hk1.load g_laws_Term (by omega) fun x hx => ?_
    refine ih _ hmem hx (hs _ hmem) r0 (by omega) fun w2 r2 he2 hr2 => ?_
    simp only [push_cast]
    refine vif_dec (fun d => hK _ _ (he.trans he2) (.inl rfl)) (fun d => ?_)
    rw [inc64' (by omega)]
    rcases hr2 with h | ⟨g0, g1, g2⟩
    · omega
    refine hC (by omega) _ _ ⟨r2, rfl, he.trans he2, g0, by omega, fun j hj => ?_⟩
    by_cases e : j < i
    · exact hp j e
    · have : j = i := by omega
      subst this; exact g2
  · refine hK _ _ he (.inr ⟨r0, r1, by omega, fun k hk => ?_⟩)
    obtain ⟨j, hj, rfl⟩ := List.getElem_of_mem hk
    have := hp j (by omega)
    rwa [List.getD_eq_getElem?_getD, List.getElem?_eq_getElem hj] at this
theorem szTerm_spec : ∀ t : M.Tm, SzT t := by
  refine M.Tm.ind fun t ih => ?_
  intro w K F v left ht hs h0 h1 hK
  apply c_laws_szTerm; unfold F_laws_szTerm
  obtain ⟨kv, rfl, hks⟩ := ht
  obtain ⟨s1, s2⟩ := strOk_iff.1 hs
  refine vbox_agg fun b1 w1 hb1 he1 hs1 q1 => ?_
  simp (disch := first | (simp only [push_cast]; done) | exact us_string) only [push_cast, q1.ld3, q1.ld4, vlen_str]
  rw [show IntKind.i64.wrap (left - (t.s.size : Int)) = left - t.s.size from wrap64 (by omega) (by omega)]
  refine vif_dec (fun a => hK _ _ he1 (.inl rfl)) (fun a => ?_)
  refine szTermS_of ih (hks.ext he1) s2 (by omega) (by omega) fun w2 r he2 hr => ?_
  simp only [push_cast]
  refine vif_dec (fun d => hK _ _ (he1.trans he2) (.inl rfl)) (fun d => ?_)
  rcases hr with h | ⟨g0, g1, g2, g3⟩
  · omega
  exact hK _ _ (he1.trans he2) (.inr ⟨g0, by omega, fitB_iff.2 ⟨by omega, g3⟩⟩)
theorem toDecl_spec {s : ByteArray} {n : Int} (hK : ∀ w', Ext w w' → K (.agg ⟨[.string s, .int .i64 n]⟩) w') : vcall PP n_laws_toDecl #[.agg ⟨[.string s, .int .i64 n]⟩] w K := by
  apply c_laws_toDecl; unfold F_laws_toDecl
  refine vbox_agg fun b1 w1 hb1 he1 hs1 h1 => ?_
  refine valloc_agg zr_impl_Decl fun b2 w2 hb2 he2 hs2 h2 => ?_
  refine valloc_agg zr_impl_Decl fun b3 w3 hb3 he3 hs3 h3 => ?_
  have q1 := (h1.ext he2).ext he3
  simp (disch := (simp only [push_cast]; done)) only [push_cast, q1.ld0]
  refine h3.st (i := 0) rfl rfl z_string rfl fun w4 hw4 hz4 h4 => ?_
  have q4 := q1.same hw4 (by omega)
  simp (disch := (simp only [push_cast]; done)) only [push_cast, q4.ld1]
  refine h4.st (i := 1) rfl rfl z_int rfl fun w5 hw5 hz5 h5 => ?_
  replace h5 : Blk w5 b3 [.string s, .int .i64 n] T_impl_Decl := h5
  rw [h5.ldAgg (t := T_impl_Decl) g_impl_Decl]
  have h25 : Same (fun b => b = b3) w3 w5 := hw4.trans hw5
  have h2' := (h2.ext he3).same h25 (by omega)
  refine stDecl h2' fun w6 hw6 hz6 h6 => ?_
  rw [h6.lv (t := T_impl_Decl) g_impl_Decl]
  refine hK _ (Ext.then (Ext.then ((he1.trans he2).trans he3) h25 fun y hy => by subst hy; omega) hw6 fun y hy => by subst hy; omega)
theorem toDeclS_spec {v : Value} {ds : List M.Dcl} (hd : DclsR F w v ds) (hsm : ds.length ≤ 1048576) (hK : ∀ w' v', Ext w w' → DclsR (fun b => w.heap.size ≤ b) w' v' ds → K v' w') : vcall PP n_laws_toDeclS #[v] w K := by
  apply c_laws_toDeclS; unfold F_laws_toDeclS
  simp (disch := (simp only [push_cast]; done)) only [push_cast, hd.len]
  refine vmkS_agg (cs := [.string ⟨#[]⟩, .int .i64 0]) l_Limpl_Decl (by decide) (by rw [eo_Limpl_Decl]; exact zr_impl_Decl) (by omega) (by omega) fun v1 w1 hv1 he1 hn1 => ?_
  refine vloop_up ds.length (fun i u w' => u = [.int .i64 i] ∧ Ext w w' ∧ ∃ css, css.length = ds.length ∧ Own PP 0 2 T_Limpl_Decl w' v1 css ∧ ∀ j, j < i → css.getD j [] = [.string (ds.getD j dcl0).1, .int .i64 (ds.getD j dcl0).2]) ⟨rfl, he1, _, by simp, hv1, by omega⟩ ?_
  rintro i _ _ w2 C hi ⟨rfl, he2, css, hl, hv2, hp⟩ hC
  have hd2 := hd.ext he2
  simp (disch := (simp only [push_cast]; done)) only [push_cast, hd2.len]
  refine vif_dec (fun a => ?_) (fun a => ?_)
  · simp (disch := first | (simp only [push_cast]; done) | omega) only [push_cast, hd2.iaddr, hd2.load]
    refine toDecl_spec fun w3 he3 => ?_
    have hv3 := hv2.ext he3
    have hvi := hv3.sl
    simp (disch := first | (simp only [push_cast]; done) | omega) only [push_cast, hvi.iaddr]
    refine own_stEl hv3 (by decide) rfl (by intro v hv; simp only [List.mem_cons, List.not_mem_nil, or_false] at hv; rcases hv with rfl | rfl <;> rfl) g_impl_Decl (by omega) fun w4 hv4 hw4 hz4 => ?_
    rw [inc64' (by omega)]
    refine hC (by omega) _ _ ⟨rfl, Ext.then (he2.trans he3) hw4 fun b hb => hn1 b hb, _, by rw [List.length_set]; exact hl, hv4, fun j hj => ?_⟩
    rw [getD_set (by omega)]
    by_cases e : i = j
    · subst e; rw [if_pos rfl]
    · rw [if_neg e]; exact hp j (by omega)
  · refine hK w2 v1 he2 ?_
    have e : css = ds.map fun d => [Value.string d.1, Value.int .i64 d.2] := by
      refine List.ext_getElem (by simp; omega) fun j g1 g2 => ?_
      have := hp j (by omega)
      rw [List.getD_eq_getElem?_getD, List.getElem?_eq_getElem g1, List.getD_eq_getElem?_getD, List.getElem?_eq_getElem (by omega)] at this
      simpa using this
    subst e
    exact hv2.sl.weaken fun b hb _ => hn1 b hb
abbrev CpT (t : M.Tm) : Prop := ∀ {w : World} {K : Value → World → Prop} {F : Nat → Prop} {v : Value}, TermR F w v t → fitB t = true → (∀ w' v', Ext w w' → TermR (fun b => w.heap.size ≤ b) w' v' t → K v' w') → vcall PP n_laws_toTerm #[v] w K
theorem tmR_one {cs : List Value} {t : M.Tm} (h : TmR F w cs t) : ∀ c, c ∈ cs → c.oneCell' = true := fun c hc => by
  obtain ⟨kv', rfl, css', hs', _⟩ := h.inv
  obtain ⟨a, l, rfl, _⟩ := hs'.shape
  simp only [List.mem_cons, List.not_mem_nil, or_false] at hc
  rcases hc with rfl | rfl | rfl | rfl | rfl <;> rfl
theorem toTermS_of {ks : List M.Tm} (ih : ∀ k, k ∈ ks → CpT k) {v : Value} (hk : TmsR F w v ks) (hsm : ks.length ≤ 1048576) (hf : ∀ k, k ∈ ks → fitB k = true)
    (hK : ∀ w' v', Ext w w' → TmsR (fun b => w.heap.size ≤ b) w' v' ks → K v' w') : vcall PP n_laws_toTermS #[v] w K := by
  apply c_laws_toTermS; unfold F_laws_toTermS
  simp (disch := (simp only [push_cast]; done)) only [push_cast, hk.len]
  refine vmkS_agg (cs := zeroT) l_Limpl_Term (by decide) (by rw [eo_Limpl_Term]; exact zr_impl_Term) (by omega) (by omega) fun v1 w1 hv1 he1 hn1 => ?_
  have hz1 := he1.size
  refine vloop_up ks.length (fun i u w' => u = [.int .i64 i] ∧ Ext w w' ∧ ∃ css, css.length = ks.length ∧ Own PP 0 5 T_Limpl_Term w' v1 css ∧ ∀ j, j < i → TmR (fun b => w.heap.size ≤ b ∧ v1.ownBlock ≠ some b) w' (css.getD j []) (ks.getD j default)) ⟨rfl, he1, _, by simp, hv1, by omega⟩ ?_
  rintro i _ _ w2 C hi ⟨rfl, he2, css, hl, hv2, hp⟩ hC
  have hk2 := hk.ext he2
  have hz2 := he2.size
  simp (disch := (simp only [push_cast]; done)) only [push_cast, hk2.len]
  refine vif_dec (fun a => ?_) (fun a => ?_)
  · have hmem : ks.getD i default ∈ ks := M.getD_mem (by omega) _
    simp (disch := first | (simp only [push_cast]; done) | omega) only [push_cast, hk2.iaddr]
    refine hk2.load g_laws_Term (by omega) fun x hx => ?_
    refine ih _ hmem hx (hf _ hmem) fun w3 v3 he3 ht3 => ?_
    obtain ⟨c3, rfl, hc3⟩ := ht3.cells
    have hv3 := hv2.ext he3
    have hvi := hv3.sl
    simp (disch := first | (simp only [push_cast]; done) | omega) only [push_cast, hvi.iaddr]
    have hlt : ∀ b, v1.ownBlock = some b → b < w2.heap.size := fun b hb => (hv2.lt hb).2
    refine own_stEl hv3 (by decide) (tmR_len hc3) (tmR_one hc3) g_impl_Term (by omega) fun w4 hv4 hw4 hz4 => ?_
    rw [inc64' (by omega)]
    refine hC (by omega) _ _ ⟨rfl, Ext.then (he2.trans he3) hw4 fun b hb => hn1 b hb, _, by rw [List.length_set]; exact hl, hv4, fun j hj => ?_⟩
    rw [getD_set (by omega)]
    by_cases e : i = j
    · subst e; rw [if_pos rfl]
      refine (hc3.weaken (F' := fun b => w.heap.size ≤ b ∧ v1.ownBlock ≠ some b) fun b hb _ => ⟨by omega, fun e => by have := hlt b e; omega⟩).same hw4 fun b hb _ e => hb.2 e
    · rw [if_neg e]; exact ((hp j (by omega)).ext he3).same hw4 fun b hb _ e => hb.2 e
  · exact hK w2 v1 he2 ⟨css, hv2.sl.weaken fun b hb _ => hn1 b hb, hl, fun j hj => (hp j (by omega)).weaken fun b hb _ => hb.1⟩
theorem toTerm_spec : ∀ t : M.Tm, CpT t := by
  refine M.Tm.ind fun t ih => ?_
  intro w K F v ht hf hK
  apply c_laws_toTerm; unfold F_laws_toTerm
  obtain ⟨kv, rfl, hks⟩ := ht
  obtain ⟨f1, f2⟩ := fitB_iff.1 hf
  refine vbox_agg fun b1 w1 hb1 he1 hs1 h1 => ?_
  refine valloc_agg zr_impl_Term fun b2 w2 hb2 he2 hs2 h2 => ?_
  refine valloc_agg zr_impl_Term fun b3 w3 hb3 he3 hs3 h3 => ?_
  have q3 := (h1.ext he2).ext he3
  simp (disch := (simp only [push_cast]; done)) only [push_cast, q3.ld0]
  refine h3.st (i := 0) rfl rfl z_int rfl fun w4 hw4 hz4 h4 => ?_
  have q4 := q3.same hw4 (by omega)
  simp (disch := (simp only [push_cast]; done)) only [push_cast, q4.ld1]
  refine h4.st (i := 1) rfl rfl z_int rfl fun w5 hw5 hz5 h5 => ?_
  have q5 := q4.same hw5 (by omega)
  simp (disch := (simp only [push_cast]; done)) only [push_cast, q5.ld2]
  refine h5.st (i := 2) rfl rfl z_int rfl fun w6 hw6 hz6 h6 => ?_
  have q6 := q5.same hw6 (by omega)
  simp (disch := (simp only [push_cast]; done)) only [push_cast, q6.ld3]
  refine h6.st (i := 3) rfl rfl z_string rfl fun w7 hw7 hz7 h7 => ?_
  have q7 := q6.same hw7 (by omega)
  simp (disch := (simp only [push_cast]; done)) only [push_cast, q7.ld4]
  have h37 : Same (fun b => b = b3) w3 w7 := hw4.trans (hw5.trans (hw6.trans hw7))
  have he13 := (he1.trans he2).trans he3
  have he7 : Ext w w7 := Ext.then he13 h37 fun y hy => by subst hy; omega
  refine toTermS_of ih (hks.ext he7) f1 f2 fun w8 kv' he8 hk8 => ?_
  have h8 := h7.ext he8
  have hkc : kv'.cells = #[kv'] ∧ kv'.oneCell' = true := by
    obtain ⟨css, hs, _⟩ := hk8
    obtain ⟨a, c, rfl, _⟩ := hs.shape
    exact ⟨rfl, rfl⟩
  have hz8 := he8.size
  have hz37 := h37.size
  try simp only [push_cast]
  refine h8.st (i := 4) hkc.1 hkc.2 z_Limpl_Term rfl fun w9 hw9 hz9 h9 => ?_
  replace h9 : Blk w9 b3 [.int .i64 t.op, .int .i64 t.a, .int .i64 t.b, .string t.s, kv'] T_impl_Term := h9
  rw [h9.ldAgg (t := T_impl_Term) g_impl_Term]
  have hk9 : TmsR (fun b => w7.heap.size ≤ b) w9 kv' t.ks := hk8.same hw9 fun b hb _ e => by omega
  have h2' := (((h2.ext he3).same h37 (by omega)).ext he8).same hw9 (by omega)
  refine retTerm h2' rfl (TmR.of (t := t) hk9) (fun x hx => by omega) fun w10 hw10 hz10 ht10 => ?_
  exact hK _ _ (Ext.then (Ext.then (he7.trans he8) hw9 fun y hy => by subst hy; omega) hw10 fun y hy => by subst hy; omega) (ht10.weaken fun b hb _ => by have := he7.size; omega)
theorem eqDecl_same {s : ByteArray} {n : Int} (hK : ∀ w', Ext w w' → K (.bool true) w') : vcall PP n_laws_eqDecl #[.agg ⟨[.string s, .int .i64 n]⟩, .agg ⟨[.string s, .int .i64 n]⟩] w K := by
  apply c_laws_eqDecl; unfold F_laws_eqDecl
  refine vbox_agg fun b1 w1 hb1 he1 hs1 h1 => ?_
  refine vbox_agg fun b2 w2 hb2 he2 hs2 h2 => ?_
  have q1 := h1.ext he2
  simp (disch := (simp only [push_cast]; done)) only [push_cast, q1.ld0, h2.ld0, q1.ld1, h2.ld1]
  refine vif_dec (fun h => absurd rfl h) (fun _ => ?_)
  try simp (disch := (simp only [push_cast]; done)) only [push_cast, q1.ld0, h2.ld0, q1.ld1, h2.ld1]
  refine vif_dec (fun h => absurd rfl h) (fun _ => ?_)
  exact hK _ (he1.trans he2)
theorem eqDeclS_same {va vb : Value} {ds : List M.Dcl} (ha : DclsR F w va ds) (hb : DclsR F' w vb ds) (hK : ∀ w', Ext w w' → K (.bool true) w') : vcall PP n_laws_eqDeclS #[va, vb] w K := by
  apply c_laws_eqDeclS; unfold F_laws_eqDeclS
  have hla := ha.small
  simp (disch := (simp only [push_cast]; done)) only [push_cast, ha.len, hb.len]
  refine vif_dec (fun h => absurd rfl h) (fun h => ?_)
  refine vloop_up ds.length (fun i u w' => u = [.int .i64 i] ∧ Ext w w') ⟨rfl, Same.refl _ _⟩ ?_
  rintro i _ _ w1 C hi ⟨rfl, he⟩ hC
  have ha1 := ha.ext he
  have hb1 := hb.ext he
  simp (disch := (simp only [push_cast]; done)) only [push_cast, ha1.len]
  refine vif_dec (fun h2 => ?_) (fun h2 => ?_)
  · refine vdraw_ext fun w2 he2 _ => ?_
    have ha2 := ha1.ext he2
    have hb2 := hb1.ext he2
    simp (disch := first | (simp only [push_cast]; done) | omega) only [push_cast, ha2.iaddr, ha2.load, hb2.iaddr, hb2.load, true_and]
    refine eqDecl_same fun w3 he3 => ?_
    simp only [push_cast, Bool.not_true, true_and]
    rw [inc64' (by omega)]
    exact hC (by omega) _ _ ⟨rfl, he.trans (he2.trans he3)⟩
  · exact hK w1 he
abbrev EqT (t : M.Tm) : Prop := ∀ {w : World} {K : Value → World → Prop} {F G : Nat → Prop} {va vb : Value}, TermR F w va t → TermR G w vb t → (∀ w', Ext w w' → K (.bool true) w') → vcall PP n_laws_eqTerm #[va, vb] w K
theorem eqTermS_of {ks : List M.Tm} (ih : ∀ k, k ∈ ks → EqT k) {va vb : Value} (ha : TmsR F w va ks) (hb : TmsR F' w vb ks) (hK : ∀ w', Ext w w' → K (.bool true) w') : vcall PP n_laws_eqTermS #[va, vb] w K := by
  apply c_laws_eqTermS; unfold F_laws_eqTermS
  have hla := ha.small
  simp (disch := (simp only [push_cast]; done)) only [push_cast, ha.len, hb.len]
  refine vif_dec (fun h => absurd rfl h) (fun h => ?_)
  refine vloop_up ks.length (fun i u w' => u = [.int .i64 i] ∧ Ext w w') ⟨rfl, Same.refl _ _⟩ ?_
  rintro i _ _ w1 C hi ⟨rfl, he⟩ hC
  have ha1 := ha.ext he
  have hb1 := hb.ext he
  simp (disch := (simp only [push_cast]; done)) only [push_cast, ha1.len]
  refine vif_dec (fun h2 => ?_) (fun h2 => ?_)
  · refine vdraw_ext fun w2 he2 _ => ?_
    obtain ⟨cssa, sa, la, ka⟩ := ha1.ext he2
    obtain ⟨cssb, sb, lb, kb⟩ := hb1.ext he2
    have hmem : ks.getD i default ∈ ks := M.getD_mem (by omega) _
    have ga : aggB PP T_impl_Term 5 = true := g_impl_Term
    simp (disch := first | (simp only [push_cast]; done) | omega) only [push_cast, sa.iaddr, sa.ldAgg, sb.iaddr, sb.ldAgg, true_and]
    refine ih _ hmem (ka i (by omega)).term (kb i (by omega)).term fun w3 he3 => ?_
    simp only [push_cast, Bool.not_true, true_and]
    rw [inc64' (by omega)]
    exact hC (by omega) _ _ ⟨rfl, he.trans (he2.trans he3)⟩
  · exact hK w1 he
theorem eqTerm_same : ∀ t : M.Tm, EqT t := by
  refine M.Tm.ind fun t ih => ?_
  intro w K F G va vb ha hb hK
  apply c_laws_eqTerm; unfold F_laws_eqTerm
  obtain ⟨kva, rfl, hka⟩ := ha
  obtain ⟨kvb, rfl, hkb⟩ := hb
  refine vbox_agg fun b1 w1 hb1 he1 hs1 h1 => ?_
  refine vbox_agg fun b2 w2 hb2 he2 hs2 h2 => ?_
  have q1 := h1.ext he2
  simp (disch := (simp only [push_cast]; done)) only [push_cast, q1.ld0, h2.ld0, q1.ld1, h2.ld1, q1.ld2, h2.ld2, q1.ld3, h2.ld3, q1.ld4, h2.ld4]
  refine vif_dec (fun h => absurd rfl h) (fun _ => ?_)
  refine vif_dec (fun h => absurd rfl h) (fun _ => ?_)
  refine vif_dec (fun h => absurd rfl h) (fun _ => ?_)
  refine vif_dec (fun h => absurd rfl h) (fun _ => ?_)
  have hE := he1.trans he2
  refine eqTermS_of ih (hka.ext hE) (hkb.ext hE) fun w3 he3 => ?_
  simp only [push_cast, Bool.not_true]
  exact hK _ (hE.trans he3)
theorem FnExactTermEval_spec {dv tv ev : Value} {ds : List M.Dcl} {t : M.Tm} {env : List Int} (hd : DclsR F w dv ds) (hz : Sized ds) (ht : TermR F' w tv t) (hs : strOk t = true) (hi : Ints G w ev env) (hK : ∀ w', Ext w w' → K (.bool true) w') : vcall PP n_laws_FnExactTermEval #[dv, tv, ev] w K := by
  apply c_laws_FnExactTermEval; unfold F_laws_FnExactTermEval
  obtain ⟨cs, rfl, hcs⟩ := ht.cells
  have hg : aggB PP T_laws_Term cs.length = true := by rw [tmR_len hcs]; exact g_laws_Term
  have hg' : aggB PP T_impl_Term cs.length = true := by rw [tmR_len hcs]; exact g_impl_Term
  refine vbox_agg fun b1 w1 hb1 he1 hs1 h1 => ?_
  simp (disch := (simp only [push_cast]; done)) only [push_cast, hi.len]
  refine vif_dec (fun _ => hK _ he1) (fun hsm => ?_)
  refine szDeclS_spec (by decide) (by decide) hz (hd.ext he1) fun w2 r he2 hr => ?_
  simp only [push_cast]
  have hE2 := he1.trans he2
  refine vif_dec (fun _ => hK _ hE2) (fun c => ?_)
  rcases hr with h | ⟨r0, r1, r2⟩
  · omega
  rw [(h1.ext he2).ldAgg (t := T_laws_Term) hg]
  refine szTerm_spec t (ht.ext hE2) hs r0 r1 fun w3 r' he3 hr' => ?_
  simp only [push_cast]
  have hE3 := hE2.trans he3
  refine vif_dec (fun _ => hK _ hE3) (fun c' => ?_)
  rcases hr' with h | ⟨r0', r1', hfit⟩
  · omega
  have hdl : ds.length ≤ 1048576 := by omega
  have q3 := h1.ext (he2.trans he3)
  refine vdraw_ext fun w4 he4 _ => ?_
  have hE4 := hE3.trans he4
  have q4 := q3.ext he4
  simp only [q4.ldAgg (t := T_laws_Term) hg, true_and]
  refine toDeclS_spec (hd.ext hE4) hdl fun w5 dv5 he5 hd5 => ?_
  have q5 := q4.ext he5
  have hE5 := hE4.trans he5
  simp only [q5.ldAgg (t := T_laws_Term) hg, true_and, and_self]
  refine toTerm_spec t (ht.ext hE5) hfit fun w6 tv6 he6 ht6 => ?_
  have hE6 := hE5.trans he6
  refine toIntS_spec (hi.ext hE6) (by omega) fun w7 ev7 he7 hi7 _ => ?_
  have hE7 := hE6.trans he7
  refine spec_TermEval_spec hz (hd5.ext (he6.trans he7)) (ht6.ext he7) hi7.ints fun w8 he8 => ?_
  have hE8 := hE7.trans he8
  simp only [push_cast, true_and]
  refine toDeclS_spec (hd.ext hE8) hdl fun w9 dv9 he9 hd9 => ?_
  have hE9 := hE8.trans he9
  have q9 := q5.ext (he6.trans (he7.trans (he8.trans he9)))
  rw [q9.ldAgg (t := T_laws_Term) hg]
  refine toTerm_spec t (ht.ext hE9) hfit fun w10 tv10 he10 ht10 => ?_
  obtain ⟨c10, rfl, hc10⟩ := ht10.cells
  have hgc : aggB PP T_impl_Term c10.length = true := by rw [tmR_len hc10]; exact g_impl_Term
  refine valloc_agg zr_impl_Term fun b11 w11 hb11 he11 hs11 h11 => ?_
  refine stTerm h11 rfl ((hc10.weaken (F' := fun b => b < w10.heap.size) fun b _ h => h).ext he11) fun w12 hw12 hz12 h12 => ?_
  have he12 : Ext w10 w12 := Ext.then he11 hw12 fun y hy => by subst hy; omega
  have hE12 := hE9.trans (he10.trans he12)
  have ht12 := ht10.ext he12
  refine toIntS_spec (hi.ext hE12) (by omega) fun w13 ev13 he13 hi13 hn13 => ?_
  have hE13 := hE12.trans he13
  have q13 := h12.ext he13
  rw [q13.ldAgg (t := T_impl_Term) hgc]
  have hd13 := hd9.ext (he10.trans (he12.trans he13))
  have ht13 := ht12.ext he13
  refine TermEval_spec hd13 ht13 hi13.ints fun w14 he14 => ?_
  have hE14 := hE13.trans he14
  simp only [push_cast]
  refine vjoin_of (fun u w' => u = [] ∧ w' = w14) (fun C hC => ?_) ?_
  · refine vif_dec (fun a => absurd rfl a) (fun _ => ?_)
    rw [bne_self_eq_false]
    try simp only [push_cast]
    exact hC _ _ ⟨rfl, rfl⟩
  rintro u g w14' ⟨rfl, rfl⟩
  refine toDeclS_spec (hd.ext hE14) hdl fun w15 dv15 he15 hd15 => ?_
  have hE15 := hE14.trans he15
  refine eqDeclS_same (hd13.ext (he14.trans he15)) hd15 fun w16 he16 => ?_
  have hE16 := hE15.trans he16
  simp only [push_cast, Bool.not_true]
  refine vdraw_ext fun w17 he17 _ => ?_
  have hE17 := hE16.trans he17
  have e1317 := he14.trans (he15.trans (he16.trans he17))
  have q17 := q13.ext e1317
  have qq17 := q9.ext (he10.trans (he12.trans (he13.trans e1317)))
  simp only [q17.ldAgg (t := T_impl_Term) hgc, qq17.ldAgg (t := T_laws_Term) hg, true_and]
  refine toTerm_spec t (ht.ext hE17) hfit fun w18 tv18 he18 ht18 => ?_
  simp only [(q17.ext he18).ldAgg (t := T_impl_Term) hgc, true_and, and_self]
  refine eqTerm_same t (ht13.ext (e1317.trans he18)) ht18 fun w19 he19 => ?_
  have hE19 := hE17.trans (he18.trans he19)
  simp only [push_cast, Bool.not_true, true_and]
  refine toIntS_spec (hi.ext hE19) (by omega) fun w20 ev20 he20 hi20 _ => ?_
  refine eqIntS_same (hi13.ints.ext (e1317.trans (he18.trans (he19.trans he20)))) hi20.ints fun w21 he21 => ?_
  simp only [push_cast, Bool.not_true]
  exact hK _ (hE19.trans (he20.trans he21))
end Go.Proofs.YtbiabimalkkeiaaGreatDoor
