/- Contracts of the program's terms: sorts, values, how large they are. -/
import Derived.Test.YtbiabimalkkeiaaGreatDoorTf
set_option linter.unusedVariables false
set_option linter.unusedSimpArgs false
set_option linter.unnecessarySimpa false
set_option linter.unusedSectionVars false
namespace Go.Proofs.YtbiabimalkkeiaaGreatDoor
open Go Go.Vc Go.Proofs
variable {w : World} {K : Value → World → Prop} {F G : Nat → Prop}

/-- A whole term is written. -/
theorem stTerm {b : Nat} {cs cs' : List Value} {t : TypeId} {t' : M.Tm} (h : Blk w b cs t) (hl : cs.length = 5) (hc : TmR F w cs' t') (hK : ∀ w', Same (· = b) w w' → w'.heap.size = w.heap.size → Blk w' b cs' t → K undef w') : vstore PP T_impl_Term (.pointer (some ⟨b, 0, none⟩)) (.agg ⟨cs'⟩) w K := by
  obtain ⟨kv, rfl, hk⟩ := hc.inv
  obtain ⟨css, hs, _⟩ := hk
  refine h.stAgg (by simp [hl]) g_impl_Term ?_ hK
  intro v hv
  simp only [List.mem_cons, List.not_mem_nil, or_false] at hv
  rcases hv with rfl | rfl | rfl | rfl | rfl
  · rfl
  · rfl
  · rfl
  · rfl
  · exact hs.one
theorem tmR_len {cs : List Value} {t : M.Tm} (h : TmR F w cs t) : cs.length = 5 := by
  obtain ⟨kv, rfl, _⟩ := h.inv; rfl
theorem plain_spec {v : Value} {t : M.Tm} (ht : TermR F w v t) (hK : ∀ w', Ext w w' → K (.bool (M.plainM t)) w') : vcall PP n_impl_plain #[v] w K := by
  apply c_impl_plain; unfold F_impl_plain
  obtain ⟨ksv, rfl, hks⟩ := ht
  refine vbox_agg fun b1 w1 hb1 he1 hs1 h1 => ?_
  have hk := hK _ he1
  unfold M.plainM at hk
  refine vjoin_of (fun u w' => u = [.bool (decide (t.op = 20) || decide (t.op = 22) || (decide (t.a = 0) && decide (t.b = 0)))] ∧ w' = w1) (fun C hC => ?_) ?_
  · simp (disch := (simp only [push_cast]; done)) only [push_cast, h1.ld0, h1.ld1, h1.ld2]
    refine vif_dec (fun a => ?_) (fun a => ?_)
    · exact hC _ _ ⟨by rw [decide_eq_true a]; rfl, rfl⟩
    refine vif_dec (fun b => ?_) (fun b => ?_)
    · exact hC _ _ ⟨by rw [decide_eq_true b]; simp, rfl⟩
    refine vif_dec (fun c => ?_) (fun c => ?_)
    · exact hC _ _ ⟨by rw [decide_eq_false a, decide_eq_false b, decide_eq_true c]; rfl, rfl⟩
    · exact hC _ _ ⟨by rw [decide_eq_false a, decide_eq_false b, decide_eq_false c]; rfl, rfl⟩
  · rintro u g w2 ⟨rfl, rfl⟩
    simp (disch := (simp only [push_cast]; done)) only [push_cast, h1.ld0, h1.ld3]
    refine vif_bool (fun a => ?_) (fun a => ?_)
    · rw [a, Bool.true_and] at hk
      refine vif_dec (fun b => ?_) (fun b => ?_)
      · rwa [decide_eq_true b, Bool.true_or] at hk
      · rw [decide_eq_false b, Bool.false_or] at hk
        exact hk
    · rwa [a, Bool.false_and] at hk
theorem look_kind {mb : Nat} {o : Int} {ok : Bool} (h : KindsR w mb) (ho : 0 ≤ M.arity o) (hK : ∀ v, KindR o v → K (if ok then .tuple #[v, .bool true] else v) w) : vlook PP T_M_map_int_impl_kind (.map (some mb)) (.int .i64 o) ok w K := by
  obtain ⟨f, hm, h1, h2⟩ := h
  obtain ⟨v, hv, hk⟩ := h1 o ho
  rw [vlook_in mapIntKind hm (isKey_int o) hv]
  exact hK v hk
theorem look_none {mb : Nat} {o : Int} (h : KindsR w mb) (ho : ¬ 0 ≤ M.arity o) (hK : K (.tuple #[.nilIface, .bool false]) w) : vlook PP T_M_map_int_impl_kind (.map (some mb)) (.int .i64 o) true w K := by
  obtain ⟨f, hm, h1, h2⟩ := h
  rw [vlook_out mapIntKind (z := .nilIface) (by unfold zeroB; kernel_rfl) hm (isKey_int o) fun v hv => ?_]
  · exact hK
  · obtain ⟨o', e, ha⟩ := h2 _ hv
    cases e; exact ho ha
theorem look_again {mb : Nat} {o : Int} {w w2 : World} {N : Value → World → Prop} (h : KindsR w mb) (ho : 0 ≤ M.arity o) (he : Ext w w2) (hN : ∀ v, KindR o v → (∀ w3, Ext w w3 → vlook PP T_M_map_int_impl_kind (.map (some mb)) (.int .i64 o) false w3 fun x y => x = v ∧ y = w3) → N v w) : vlook PP T_M_map_int_impl_kind (.map (some mb)) (.int .i64 o) false w N := by
  obtain ⟨f, hm, h1, h2⟩ := h
  obtain ⟨v, hv, hk⟩ := h1 o ho
  rw [vlook_in mapIntKind hm (isKey_int o) hv]
  refine hN v hk fun w3 he3 => ?_
  rw [vlook_in mapIntKind (hm.ext he3) (isKey_int o) hv]
  exact ⟨rfl, rfl⟩
theorem take_map_succ {α β : Type} (f : α → β) {l : List α} {i : Nat} (h : i < l.length) (d : α) : (l.take i).map f ++ [f (l.getD i d)] = (l.take (i + 1)).map f := by
  rw [List.take_add_one, List.getElem?_eq_getElem h, List.map_append, List.getD_eq_getElem?_getD, List.getElem?_eq_getElem h]
  rfl
theorem mem_take_succ {α : Type} {l : List α} {i : Nat} {x : α} (h : x ∈ l.take i) : x ∈ l := List.mem_of_mem_take h
theorem sortOf_spec : ∀ (t : M.Tm) {w : World} {K : Value → World → Prop} {F G : Nat → Prop} {mb : Nat} {dv v : Value} {ds : List M.Dcl}, KindsR w mb → DclsR F w dv ds → M.declOk ds = true → TermR G w v t →
    (∀ w', Ext w w' → K (.int .i64 (M.sortM ds t)) w') → vcall PP n_impl_sortOf #[.map (some mb), dv, v] w K := by
  refine M.Tm.ind fun t ih w K F G mb dv v ds hm hd hok ht hK => ?_
  apply c_impl_sortOf; unfold F_impl_sortOf
  obtain ⟨ksv, rfl, hks⟩ := ht
  refine vbox_agg fun b1 w1 hb1 he1 hs1 h1 => ?_
  have hm1 := hm.ext he1
  simp (disch := (simp only [push_cast]; done)) only [push_cast, h1.ld0]
  have hno : ¬ (M.formed t = true) → ∀ w', Ext w w' → K (.int .i64 (-1)) w' := fun hn w' he => by
    have := hK w' he
    rw [M.sortM_eq] at this
    unfold M.sortF at this
    rwa [if_neg (fun h => hn h.1)] at this
  by_cases ho' : ¬ 0 ≤ M.arity t.op
  · have ho := ho'
    refine look_none hm1 ho ?_
    simp only [push_cast]
    refine vjoin_of (fun _ _ => False) (fun C hC => ?_) (fun _ _ _ h => h.elim)
    refine vdraw_ext fun w2 he2 _ => ?_
    simp only [push_cast, true_and]
    refine hno (fun h => ho ?_) _ (he1.trans he2)
    simp only [M.formed, Bool.and_eq_true, decide_eq_true_eq] at h
    omega
  have ho : 0 ≤ M.arity t.op := by omega
  refine look_kind hm1 ho fun kv hkv => ?_
  simp only [push_cast, if_true]
  have hsm := hks.small
  refine vjoin_of (fun u w' => u = [] ∧ Ext w1 w' ∧ M.formed t = true) (fun C hC => ?_) ?_
  · refine vdraw_ext fun w2 he2 _ => ?_
    have h2 := h1.ext he2
    simp (disch := (simp only [push_cast]; done)) only [push_cast, h2.ld4, hks.len, true_and]
    refine hkv.kids _ _ fun w3 he3 => ?_
    have h3 := h2.ext he3
    simp (disch := (simp only [push_cast]; done)) only [push_cast, h3.ld4, hks.len, true_and, and_self]
    refine vif_dec (fun a => ?_) (fun a => ?_)
    · refine hno (fun h => ?_) _ ((he1.trans he2).trans he3)
      simp only [M.formed, Bool.and_eq_true, decide_eq_true_eq] at h
      omega
    · simp (disch := (simp only [push_cast]; done)) only [push_cast, h3.ldAgg (t := T_impl_Term) g_impl_Term, true_and]
      refine plain_spec (F := G) (t := t) ⟨ksv, rfl, hks.ext ((he1.trans he2).trans he3)⟩ fun w4 he4 => ?_
      simp only [push_cast, true_and]
      refine vif_bool (fun b => ?_) (fun b => ?_)
      · refine hno (fun h => ?_) _ (((he1.trans he2).trans he3).trans he4)
        simp only [M.formed, Bool.and_eq_true] at h
        rw [h.2] at b; cases b
      · refine hC _ _ ⟨rfl, (he2.trans he3).trans he4, ?_⟩
        simp only [M.formed, Bool.and_eq_true, decide_eq_true_eq]
        exact ⟨by omega, by simpa using b⟩
  · rintro u g w2 ⟨rfl, he2, hf⟩
    have h2 := h1.ext he2
    have hE := he1.trans he2
    have hzE := hE.size
    simp (disch := (simp only [push_cast]; done)) only [push_cast, h2.ld4, hks.len]
    have hfa := hf
    simp only [M.formed, Bool.and_eq_true, decide_eq_true_eq] at hfa
    have har : t.ks.length ≤ 3 := by
      have h1 := hfa.1
      unfold M.arity at h1
      repeat' split at h1
      all_goals omega
    refine vloop_up t.ks.length (fun i u w' => ∃ sv, u = [sv, .int .i64 i] ∧ Ext w2 w' ∧ OwnI PP T_Lint w' sv ((t.ks.take i).map (M.sortM ds)) ∧ (∀ b, sv.ownBlock = some b → w2.heap.size ≤ b) ∧ (∀ x, x ∈ (t.ks.take i).map (M.sortM ds) → x ≠ -1)) ⟨_, rfl, Same.refl _ _, OwnI.nil, (fun b h => by cases h), by simp⟩ ?_
    rintro i _ _ w3 C hi ⟨sv, rfl, he3, hsv, hnb, hall⟩ hC
    have hE3 := hE.trans he3
    have hks3 := hks.ext hE3
    simp only [push_cast]
    refine vif_dec (fun a => ?_) (fun a => ?_)
    · simp (disch := first | (simp only [push_cast]; done) | omega) only [push_cast, hks3.iaddr]
      refine hks3.load g_impl_Term (by omega) fun x hx => ?_
      obtain ⟨cs, rfl, hcs⟩ := hx.cells
      refine valloc_agg zr_impl_Term fun b2 w4 hb2 he4 hs4 h4 => ?_
      refine stTerm h4 rfl (hcs.ext he4) fun w5 hw5 hz5 h5 => ?_
      have he5 : Ext w3 w5 := Ext.then he4 hw5 fun y hy => by subst hy; omega
      rw [h5.ldAgg (t := T_impl_Term) (by rw [tmR_len hcs]; exact g_impl_Term)]
      refine ih _ (M.getD_mem (by omega) _) (hm.ext (hE3.trans he5)) (hd.ext (hE3.trans he5)) hok (hcs.ext he5).term fun w6 he6 => ?_
      simp only [push_cast]
      have he36 := he5.trans he6
      refine vif_dec (fun b => ?_) (fun b => ?_)
      · have := hK _ (hE3.trans he36)
        rw [M.sortM_eq] at this
        unfold M.sortF at this
        rwa [if_neg (fun h => h.2 (b ▸ List.mem_map_of_mem (M.getD_mem (by omega) _)))] at this
      · refine vbuildS1 u_Lint z_int zr_int rfl rfl (by decide) fun b3 w7 hb3 he7 hs7 h7 => ?_
        have hsv7 := (hsv.ext he36).ext he7
        have hlen : ((t.ks.take i).map (M.sortM ds)).length = i := by rw [List.length_map, List.length_take]; omega
        refine hsv7.app1 l_Lint h7 (by rw [hlen]; omega) (by rw [hlen]; omega) fun sv' w8 hsv' hw8 hn8 => ?_
        try simp only [push_cast]
        rw [inc64' (by omega)]
        rw [take_map_succ _ (by omega)] at hsv'
        refine hC (by omega) _ _ ⟨sv', rfl, Ext.then ((he3.trans he36).trans he7) hw8 fun y hy => hnb y hy, hsv', fun y hy => ?_, fun x hx => ?_⟩
        · rcases hn8 y hy with h | h
          · exact hnb y h
          · have := (he3.trans he36).size; have := he7.size; omega
        · rw [← take_map_succ _ (by omega) default] at hx
          rcases List.mem_append.1 hx with hx | hx
          · exact hall x hx
          · rw [List.mem_singleton.1 hx]; exact b
    · have hi' : i = t.ks.length := by omega
      subst hi'
      rw [List.take_length] at hsv hall
      have h3 := h2.ext he3
      simp (disch := (simp only [push_cast]; done)) only [push_cast, h3.ldAgg (t := T_impl_Term) g_impl_Term]
      refine hkv.sort _ _ F G _ _ _ _ ds t _ rfl (hd.ext hE3) ⟨ksv, rfl, hks3⟩ hsv.ints (by rw [List.length_map]; omega) (fun j => ?_) fun w4 he4 => ?_
      · by_cases hj : j < t.ks.length
        · rw [M.getD_map _ hj 0 default]; exact M.sort_range hok _
        · rw [List.getD_eq_getElem?_getD, List.getElem?_eq_none (by simpa using hj)]; simp
      · have := hK _ (hE3.trans he4)
        rw [M.sortM_eq] at this
        unfold M.sortF at this
        rwa [if_pos ⟨hf, fun h => hall _ h rfl⟩] at this
theorem valueOf_spec : ∀ (t : M.Tm) {w : World} {K : Value → World → Prop} {F G : Nat → Prop} {mb eb : Nat} {dv v : Value} {ds : List M.Dcl} {env : List Int}, KindsR w mb → DclsR F w dv ds → M.envOk ds env = true → EnvM w eb ds env → TermR G w v t → M.sortM ds t ≠ -1 →
    (∀ w', Ext w w' → K (VecV (M.sortM ds t) (M.evalM ds env t)) w') → vcall PP n_impl_valueOf #[.map (some mb), dv, v, .map (some eb)] w K := by
  refine M.Tm.ind fun t ih w K F G mb eb dv v ds env hm hd hen hE ht hsort hK => ?_
  have hok := (M.env_ok hen).1
  apply c_impl_valueOf; unfold F_impl_valueOf
  obtain ⟨ksv, rfl, hks⟩ := ht
  obtain ⟨hf, hkids, hsk⟩ := M.sort_parts hsort
  have hfa := hf
  simp only [M.formed, Bool.and_eq_true, decide_eq_true_eq] at hfa
  have har : t.ks.length ≤ 3 := by
    have h1 := hfa.1
    unfold M.arity at h1
    repeat' split at h1
    all_goals omega
  have ho : 0 ≤ M.arity t.op := by omega
  refine vbox_agg fun b1 w1 hb1 he1 hs1 h1 => ?_
  refine valloc_agg zr_impl_Vec fun b2 w2 hb2 he2 hs2 h2 => ?_
  have q1 := h1.ext he2
  have hE2 := he1.trans he2
  have hz2 := hE2.size
  have hsm := hks.small
  simp (disch := (simp only [push_cast]; done)) only [push_cast, q1.ld4, hks.len]
  refine vloop_up t.ks.length (fun i u w' => ∃ sv, u = [sv, .int .i64 i] ∧ Ext w2 w' ∧ OwnP PP T_Limpl_Vec w' sv ((t.ks.take i).map (M.vecM ds env)) ∧ (∀ b, sv.ownBlock = some b → w2.heap.size ≤ b)) ⟨_, rfl, Same.refl _ _, OwnP.nil _, fun b h => by cases h⟩ ?_
  rintro i _ _ w3 C hi ⟨sv, rfl, he3, hsv, hnb⟩ hC
  have hE3 := hE2.trans he3
  have hks3 := hks.ext hE3
  have hz3 := he3.size
  simp only [push_cast]
  refine vif_dec (fun a => ?_) (fun a => ?_)
  · simp (disch := first | (simp only [push_cast]; done) | omega) only [push_cast, hks3.iaddr]
    refine hks3.load g_impl_Term (by omega) fun x hx => ?_
    obtain ⟨cs, rfl, hcs⟩ := hx.cells
    refine valloc_agg zr_impl_Term fun b3 w4 hb3 he4 hs4 h4 => ?_
    refine stTerm h4 rfl (hcs.ext he4) fun w5 hw5 hz5 h5 => ?_
    have he5 : Ext w3 w5 := Ext.then he4 hw5 fun y hy => by subst hy; omega
    rw [h5.ldAgg (t := T_impl_Term) (by rw [tmR_len hcs]; exact g_impl_Term)]
    refine ih _ (M.getD_mem (by omega) _) (hm.ext (hE3.trans he5)) (hd.ext (hE3.trans he5)) hen (hE.ext (hE3.trans he5)) (hcs.ext he5).term (hkids _ (M.getD_mem (by omega) _)) fun w6 he6 => ?_
    have he36 := he5.trans he6
    refine vbuildS1 u_Limpl_Vec z_impl_Vec zr_impl_Vec rfl rfl (by decide) fun b4 w7 hb4 he7 hs7 h7 => ?_
    have hsv7 := (hsv.ext he36).ext he7
    have hlen : ((t.ks.take i).map (M.vecM ds env)).length = i := by rw [List.length_map, List.length_take]; omega
    refine Own.app1k hsv7 l_Limpl_Vec (by decide) h7 rfl (by intro v hv; simp only [List.mem_cons, List.not_mem_nil, or_false] at hv; rcases hv with rfl | rfl <;> rfl) (by rw [List.length_map, hlen]; omega) (by rw [List.length_map, hlen]; omega) fun sv' w8 hsv' hw8 hn8 => ?_
    rw [inc64' (by omega)]
    have hsv2 : OwnP PP T_Limpl_Vec w8 sv' ((t.ks.take (i + 1)).map (M.vecM ds env)) := by
      unfold OwnP
      rw [← take_map_succ _ (by omega) default, List.map_append, M.vecM_pair ds env (t.ks.getD i default)]
      exact hsv'
    refine hC (by omega) _ _ ⟨sv', rfl, Ext.then ((he3.trans he36).trans he7) hw8 fun y hy => hnb y hy, hsv2, fun y hy => ?_⟩
    rcases hn8 y hy with h | h
    · exact hnb y h
    · have := he36.size; have := he7.size; omega
  · have hi' : i = t.ks.length := by omega
    subst hi'
    rw [List.take_length] at hsv
    refine vdraw_ext fun w4 he4 _ => ?_
    have q4 := (q1.ext he3).ext he4
    have hE4 := hE3.trans he4
    have hks4 := hks.ext hE4
    simp (disch := (simp only [push_cast]; done)) only [push_cast, q4.ld0, q4.ldAgg (t := T_impl_Term) g_impl_Term, true_and]
    refine look_again (hm.ext hE4) ho (Same.refl _ _) fun kv hkv hlk => ⟨rfl, ?_⟩
    refine sortOf_spec t (hm.ext hE4) (hd.ext hE4) hok ⟨ksv, rfl, hks4⟩ fun w5 he5 => ?_
    have q5 := q4.ext he5
    simp (disch := (simp only [push_cast]; done)) only [push_cast, q5.ld0, q5.ldAgg (t := T_impl_Term) g_impl_Term, true_and, and_self]
    refine ⟨hlk _ he5, ?_⟩
    have hE5 := hE4.trans he5
    have hlv : (t.ks.map (M.vecM ds env)).length = t.ks.length := List.length_map _
    have hget : ∀ j, j < t.ks.length → (t.ks.map (M.vecM ds env)).getD j (0, 0) = (M.sortM ds (t.ks.getD j default), M.evalM ds env (t.ks.getD j default)) := fun j hj => by rw [M.getD_map _ hj _ default, M.vecM_pair]
    have hfst : (t.ks.map (M.vecM ds env)).map (·.1) = t.ks.map (M.sortM ds) := by
      rw [List.map_map]; exact List.map_congr_left fun k _ => M.vecM_sort ds env k
    refine hkv.value _ _ G _ eb _ _ ds env t _ rfl (hE.ext hE5) ⟨ksv, rfl, hks.ext hE5⟩ ((hsv.ext (he4.trans he5)).pairs) (by rw [hlv]; omega) (fun j hj => ?_) (by rw [hfst, ← hsk]; exact hsort) fun w6 he6 => ?_
    · rw [hlv] at hj
      rw [hget j hj]
      exact M.eval_in hen _ (hkids _ (M.getD_mem hj _))
    · simp only [push_cast, true_and]
      have h6 := (((h2.ext he3).ext he4).ext he5).ext he6
      refine stVec h6 fun w7 hw7 _ h7 => ?_
      rw [h7.lv (by kernel_rfl)]
      have hX : Ext w w7 := Ext.then (hE5.trans he6) hw7 fun y hy => by subst hy; have := he1.size; omega
      have := hK w7 hX
      rw [M.evalM_eq] at this
      exact this
theorem count_spec : ∀ (t : M.Tm) {w : World} {K : Value → World → Prop} {F : Nat → Prop} {v : Value} {m deep mb : Nat} {ty : TypeId}, TermR F w v t → Blk w mb [.int .i64 m] ty → (∀ b, F b → b ≠ mb) → m ≤ 20 → 1 ≤ deep → deep ≤ 8 →
    (∀ w' (r m' : Nat), Same (· = mb) w w' → Blk w' mb [.int .i64 m'] ty → m < m' → m' ≤ 21 → deep ≤ r → r ≤ 8 → (m + M.sizeM t ≤ 20 ∧ deep - 1 + M.deepM t ≤ 7 → m' = m + M.sizeM t ∧ r = deep - 1 + M.deepM t) → (¬ (m + M.sizeM t ≤ 20 ∧ deep - 1 + M.deepM t ≤ 7) → 20 < m' ∨ 7 < r) → K (.int .i64 r) w') →
    vcall PP n_impl_count #[v, .int .i64 deep, .pointer (some ⟨mb, 0, none⟩)] w K := by
  refine M.Tm.ind fun t ih w K F v m deep mb ty ht hb hF hm hd1 hd8 hK => ?_
  apply c_impl_count; unfold F_impl_count
  obtain ⟨ksv, rfl, hks⟩ := ht
  refine vbox_agg fun b1 w1 hb1 he1 hs1 h1 => ?_
  have hb' := hb.ext he1
  have hmlt := hb.lt
  have hsm := hks.small
  have hS := M.szT_all t
  have hD := M.dpT_all t
  simp (disch := (simp only [push_cast]; done)) only [push_cast, hb'.ld0]
  rw [inc64' (by omega)]
  refine hb'.st (i := 0) rfl rfl z_int rfl fun w2 hw2 hz2 h2 => ?_
  have hs2 : Same (· = mb) w w2 := (Same.of_ext he1).trans hw2
  have q2 := h1.same hw2 (by omega)
  replace h2 : Blk w2 mb [.int .i64 (m + 1 : Nat)] ty := h2
  refine vif_dec (fun a => ?_) (fun a => ?_)
  · exact hK w2 deep (m + 1) hs2 h2 (by omega) (by omega) (by omega) (by omega) (fun h => by omega) (fun h => by omega)
  simp (disch := (simp only [push_cast]; done)) only [push_cast, q2.ld4, hks.len]
  refine vloop_up t.ks.length (fun i u w' => ∃ r mi : Nat, u = [.int .i64 r, .int .i64 i] ∧ Same (· = mb) w2 w' ∧ Blk w' mb [.int .i64 mi] ty ∧ m < mi ∧ mi ≤ 21 ∧ deep ≤ r ∧ r ≤ 8 ∧ (m + 1 + M.szT t.ks i ≤ 20 ∧ deep + M.dpT t.ks i ≤ 7 → mi = m + 1 + M.szT t.ks i ∧ r = deep + M.dpT t.ks i) ∧ (¬ (m + 1 + M.szT t.ks i ≤ 20 ∧ deep + M.dpT t.ks i ≤ 7) → 20 < mi ∨ 7 < r))
    ⟨deep, m + 1, rfl, Same.refl _ _, h2, by omega, by omega, by omega, by omega, fun h => by simp [M.szT, M.dpT], fun h => by
      have e1 : M.szT t.ks 0 = 0 := rfl
      have e2 : M.dpT t.ks 0 = 0 := rfl
      omega⟩ ?_
  rintro i _ _ w3 C hi ⟨r, mi, rfl, hs3, h3, c1, c2, c3, c4, c5, c6⟩ hC
  have hS3 : Same (· = mb) w w3 := hs2.trans hs3
  have hks3 : TmsR F w3 ksv t.ks := hks.same hS3 fun b hb _ e => hF b hb e
  have hz3 := hS3.size
  simp only [push_cast]
  refine vif_dec (fun b => ?_) (fun b => ?_)
  · have hm1 := M.szT_mono (ks := t.ks) (i := i) (j := t.ks.length) (by omega) (Nat.le_refl _)
    have hm2 := M.dpT_mono (ks := t.ks) (i := i) (j := t.ks.length) (by omega) (Nat.le_refl _)
    have hm3 := M.szT_succ (ks := t.ks) (i := i) (by omega)
    have hm4 := M.dpT_succ (ks := t.ks) (i := i) (by omega)
    simp (disch := first | (simp only [push_cast]; done) | omega) only [push_cast, hks3.iaddr]
    refine hks3.load g_impl_Term (by omega) fun x hx => ?_
    obtain ⟨cs, rfl, hcs⟩ := hx.cells
    refine valloc_agg zr_impl_Term fun b2 w4 hb2 he4 hs4 h4 => ?_
    refine stTerm h4 rfl (hcs.ext he4) fun w5 hw5 hz5 h5 => ?_
    have he5 : Ext w3 w5 := Ext.then he4 hw5 fun y hy => by subst hy; omega
    have hb5 := h3.ext he5
    have hl3 := h3.lt
    simp (disch := (simp only [push_cast]; done)) only [push_cast, hb5.ld0]
    refine vif_dec (fun c => ?_) (fun c => ?_)
    · exact hK w5 r mi (hS3.trans (Same.of_ext he5)) hb5 c1 c2 c3 c4 (fun h => by omega) (fun h => by omega)
    · rw [h5.ldAgg (t := T_impl_Term) (by rw [tmR_len hcs]; exact g_impl_Term)]
      have e1 : IntKind.i64.wrap ((deep : Int) + 1) = ((deep + 1 : Nat) : Int) := inc64' (by omega)
      rw [e1]
      refine ih _ (M.getD_mem (by omega) _) (hcs.ext he5).term hb5 hF (by omega) (by omega) (by omega) fun w6 r2 m2 hs6 h6 d1 d2 d3 d4 d5 d6 => ?_
      simp only [push_cast]
      rw [inc64' (by omega), show max (r : Int) (r2 : Int) = ((max r r2 : Nat) : Int) by omega]
      refine hC (by omega) _ _ ⟨max r r2, m2, rfl, (hs3.trans (Same.of_ext he5)).trans hs6, h6, by omega, d2, by omega, by omega, fun h => ?_, fun h => ?_⟩
      · have := c5 (by omega)
        have := d5 (by omega)
        omega
      · by_cases hg : m + 1 + M.szT t.ks i ≤ 20 ∧ deep + M.dpT t.ks i ≤ 7
        · have := c5 hg
          have := d6 (by omega)
          omega
        · have := c6 hg
          omega
  · have hi' : i = t.ks.length := by omega
    subst hi'
    refine hK w3 r mi hS3 h3 c1 c2 c3 c4 (fun h => ?_) (fun h => ?_)
    · have := c5 (by omega)
      omega
    · exact c6 (by omega)
theorem TermMany_spec {v : Value} {t : M.Tm} (ht : TermR F w v t) (hK : ∀ w', Ext w w' → K (.tuple #[.int .i64 (M.manyM t), .int .i64 (M.lvlM t)]) w') : vcall PP n_impl_TermMany #[v] w K := by
  apply c_impl_TermMany; unfold F_impl_TermMany
  have ht' := ht.weaken (F' := fun b => b < w.heap.size) fun b _ h => h
  obtain ⟨ksv, rfl, hks⟩ := ht
  refine vbox_agg fun b1 w1 hb1 he1 hs1 h1 => ?_
  refine valloc_new zr_int fun b2 w2 hb2 he2 hs2 h2 => ?_
  replace h2 : Blk w2 b2 [.int .i64 0] T_int := h2
  refine h2.st (i := 0) rfl rfl z_int rfl fun w3 hw3 hz3 h3 => ?_
  replace h3 : Blk w3 b2 [.int .i64 ((0 : Nat) : Int)] T_int := h3
  have q3 := (h1.ext he2).same hw3 (by omega)
  have he3 : Ext w w3 := Ext.then (he1.trans he2) hw3 fun y hy => by subst hy; omega
  rw [q3.ldAgg (t := T_impl_Term) g_impl_Term]
  refine count_spec t (m := 0) (deep := 1) (ht'.ext he3) h3 (fun b hb e => by omega) (by omega) (by omega) (by omega) fun w4 r m' hs4 h4 c1 c2 c3 c4 c5 c6 => ?_
  have he4 : Ext w w4 := Ext.then he3 hs4 fun y hy => by subst hy; omega
  have hk := hK w4 he4
  have hfit : M.fits t = true ↔ M.sizeM t ≤ 20 ∧ M.deepM t ≤ 7 := M.fits_iff
  unfold M.manyM M.lvlM at hk
  simp (disch := (simp only [push_cast]; done)) only [push_cast, h4.ld0]
  refine vif_dec (fun a => ?_) (fun a => ?_)
  · rw [if_neg (fun h => by have hx := hfit.1 h; have := c5 (by omega); omega), if_neg (fun h => by have hx := hfit.1 h; have := c5 (by omega); omega)] at hk
    exact hk
  · refine vif_dec (fun b => ?_) (fun b => ?_)
    · rw [if_neg (fun h => by have hx := hfit.1 h; have := c5 (by omega); omega), if_neg (fun h => by have hx := hfit.1 h; have := c5 (by omega); omega)] at hk
      exact hk
    · have hg : M.sizeM t ≤ 20 ∧ M.deepM t ≤ 7 := by
        by_cases h : M.sizeM t ≤ 20 ∧ M.deepM t ≤ 7
        · exact h
        · have := c6 (by omega); omega
      have h5 := c5 (by omega)
      rw [if_pos (hfit.2 hg), if_pos (hfit.2 hg)] at hk
      rw [show m' = M.sizeM t by omega, show r = M.deepM t by omega]
      exact hk
end Go.Proofs.YtbiabimalkkeiaaGreatDoor
