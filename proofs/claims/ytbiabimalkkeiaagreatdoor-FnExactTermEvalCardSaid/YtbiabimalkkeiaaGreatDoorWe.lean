/- The laws on terms: FnTermPut. -/
import Derived.Test.YtbiabimalkkeiaaGreatDoorWd
set_option linter.unusedVariables false
set_option linter.unusedSimpArgs false
set_option linter.unnecessarySimpa false
set_option linter.unusedSectionVars false
namespace Go.Proofs.YtbiabimalkkeiaaGreatDoor
open Go Go.Vc Go.Proofs
variable {w : World} {K : Value → World → Prop} {F F' D G : Nat → Prop}
theorem flatten_setEl {k : Nat} : ∀ {xs : List (List Value)} (_ : ∀ x, x ∈ xs → x.length = k) {i : Nat} {y : List Value}, y.length = k → i < xs.length → (xs.set i y).flatten = xs.flatten.take (i * k) ++ y ++ xs.flatten.drop (i * k + k)
  | [], _, i, y, _, hi => by simp at hi
  | x :: r, h, i, y, hy, hi => by
    have hx := h x List.mem_cons_self
    cases i with
    | zero =>
      simp only [List.set_cons_zero, List.flatten_cons, Nat.zero_mul, List.take_zero, List.nil_append, Nat.zero_add]
      rw [List.drop_append, List.drop_of_length_le (by omega), List.nil_append, show k - x.length = 0 by omega, List.drop_zero]
    | succ i =>
      simp only [List.set_cons_succ, List.flatten_cons]
      have e0 : (i + 1) * k = x.length + i * k := by rw [Nat.add_mul]; omega
      have e1 : x.length + i * k + k = x.length + (i * k + k) := by omega
      rw [flatten_setEl (fun z hz => h z (List.mem_cons_of_mem _ hz)) hy (by simpa using hi), e0, e1, List.take_length_add_append, List.drop_length_add_append]
      simp only [List.append_assoc]
/-- An element is written whole. -/
theorem own_stEl {P : Program} {v : Value} {k : Nat} {t e : TypeId} {xs : List (List Value)} {y : List Value} (h : Own P 0 k t w v xs) (hk : 0 < k) (hy : y.length = k) (h1 : ∀ c, c ∈ y → c.oneCell' = true) (hz : aggB P e k = true) {i : Nat} (hi : i < xs.length)
    (hK : ∀ w', Own P 0 k t w' v (xs.set i y) → Same (fun b => v.ownBlock = some b) w w' → w'.heap.size = w.heap.size → K undef w') : vstore P e (.pointer (some (eaddr v k i))) (.agg ⟨y⟩) w K := by
  have hfl := flatten_len h.wide
  rcases h.row with ⟨hr1, hr2⟩
  rcases hr2 with ⟨rfl, hn⟩ | ⟨g, cap, cur, rfl, hbg, hg, hnc, hcm, hcs, htake⟩
  · omega
  · have hik : i * k + k ≤ xs.length * k := by rw [← Nat.succ_mul]; exact Nat.mul_le_mul_right _ hi
    have hlk : xs.length * k ≤ cap * k := Nat.mul_le_mul_right _ hnc
    have hrun := run_storeCells_at (P := P) g (i * k) (elOf P t) y 0 cur w hg (by omega) h1
    have he : eaddr (.slice (some ⟨g, 0, none⟩) xs.length cap) k i = ⟨g, i * k, none⟩ := by
      simp only [eaddr, Nat.zero_add]
    rw [he]
    have hcl : cur.toList.length = cap * k := by simpa using hcs
    have hsz : (cur.toList.take (i * k + 0) ++ y ++ cur.toList.drop (i * k + 0 + y.length)).toArray.size = cap * k := by
      simp only [List.size_toArray, List.length_append, List.length_take, List.length_drop]
      omega
    have hnew : (cur.toList.take (i * k + 0) ++ y ++ cur.toList.drop (i * k + 0 + y.length)).toArray.toList.take (xs.length * k) = (xs.set i y).flatten := by
      rw [flatten_setEl h.wide hy hi, ← htake, hy]
      simp only [Nat.add_zero]
      have e1 : (cur.toList.take (i * k)).length = i * k := by rw [List.length_take]; omega
      rw [List.take_append, List.take_append, List.take_of_length_le (l := List.take (i * k) cur.toList) (by omega), List.take_of_length_le (l := y) (by omega), List.take_take, Nat.min_eq_left (by omega), List.drop_take]
      congr 2
      rw [List.length_append, List.length_take]
      omega
    refine ⟨(), _, ?_, hK (w.setRow g (cur.toList.take (i * k + 0) ++ y ++ cur.toList.drop (i * k + 0 + y.length)).toArray) ⟨?_, ?_⟩ ⟨rfl, rfl, rfl, by simp, fun q _ hq => setRow_other w g q _ (fun e => hq (by rw [e]; rfl))⟩ (by simp)⟩
    · simp only [Instr.storeAt, Instr.sureAddr, Sem.run_bind, Sem.run_pure, Result.andThen_ok, storeVar, run_sizeOf_agg hz, Value.cells]
      simp only [List.size_toArray, hy, ne_eq, not_true_eq_false, if_false]
      rw [hy] at hrun
      exact hrun
    · rw [List.length_set]
      refine ⟨?_, .inr ⟨g, cap, _, rfl, hbg, setRow_heap w g _ _ _ _ hg, hnc, hcm, hsz, hnew⟩⟩
      rw [← hnew, List.length_take]
      have := hsz
      simp only [List.size_toArray] at this
      simp only [List.toList_toArray, this]
      omega
    · intro z hz
      obtain ⟨q, hq, rfl⟩ := List.getElem_of_mem hz
      rw [List.getElem_set]
      split
      · exact hy
      · exact h.wide _ (List.getElem_mem _)
/-- The term with another part in this place. -/
def setKid (t : M.Tm) (k : Nat) (p : M.Tm) : M.Tm := .mk t.op t.a t.b t.s (t.ks.set k p)
theorem vec_set {ds : List M.Dcl} {env : List Int} {t p : M.Tm} {k : Nat} (hk : k < t.ks.length) (h : M.vecM ds env p = M.vecM ds env (M.kid t k)) : M.vecM ds env (setKid t k p) = M.vecM ds env t := by
  have e : (t.ks.set k p).map (M.vecM ds env) = t.ks.map (M.vecM ds env) := by
    rw [List.map_set, h]
    refine List.ext_getElem (by rw [List.length_set]) fun i h1 h2 => ?_
    rw [List.getElem_set]
    split
    · rename_i e; subst e
      rw [List.getElem_map]
      unfold M.kid
      rw [List.getD_eq_getElem?_getD, List.getElem?_eq_getElem hk]; rfl
    · rfl
  rw [M.vecM_eq ds env (setKid t k p), M.vecM_eq ds env t]
  show M.vecF ds env (setKid t k p) ((t.ks.set k p).map (M.vecM ds env)) = _
  rw [e]
  have hf : M.formed (setKid t k p) = M.formed t := by
    show (decide (M.arity t.op = ((t.ks.set k p).length : Int)) && M.plainM t) = _
    rw [List.length_set]; rfl
  unfold M.vecF M.sortF
  rw [hf]
  rfl
theorem fits_of {t : M.Tm} (h1 : ¬ (20 : Int) < M.manyM t) : M.fits t = true := by
  unfold M.manyM at h1
  split at h1
  · assumption
  · omega
/-- The constant of this sort and value. -/
def putM (w x : Int) : M.Tm := if w = 0 then (if x = 0 then nodeM 25 [nodeM 24 []] else nodeM 24 []) else .mk 20 w x M.nada []
theorem put_vec {ds : List M.Dcl} {env : List Int} (he : M.envOk ds env = true) {w x : Int} (h : M.inS w x) : M.vecM ds env (putM w x) = (w, x) := by
  have hd := (M.env_ok he).1
  rw [M.vecM_pair]
  have h24 : M.sortM ds (nodeM 24 []) = 0 := by
    rw [M.sort_leaf (M.formed_iff.2 ⟨rfl, rfl⟩) rfl]; rfl
  have v24 : M.evalM ds env (nodeM 24 []) = 1 := by rw [M.eval_leaf (.inr (.inr rfl))]; rfl
  unfold putM
  by_cases hw : w = 0
  · subst hw
    rw [if_pos rfl]
    by_cases hx : x = 0
    · subst hx
      rw [if_pos rfl]
      have hs : M.sortM ds (nodeM 25 [nodeM 24 []]) = 0 := by
        rw [M.sort_one hd (M.formed_iff.2 ⟨rfl, rfl⟩) rfl]
        show M.oneM _ (M.sortM ds (nodeM 24 [])) = 0
        rw [h24]; rfl
      rw [hs, (M.eval_no he (by rw [hs]; decide) rfl).2.2]
      show ((0 : Int), 1 - M.evalM ds env (nodeM 24 [])) = _
      rw [v24]; rfl
    · rw [if_neg hx, h24, v24]
      rcases M.inS_zero h with z | z
      · exact absurd z hx
      · rw [z]
  · rw [if_neg hw]
    have hv : M.vok w x = true := by
      rcases h with h | h
      · exact absurd h.1 hw
      · exact h
    have hs : M.sortM ds (.mk 20 w x M.nada []) = w := by
      rw [M.sort_leaf (M.formed_iff.2 ⟨rfl, rfl⟩) rfl]
      show (if M.vok w x = true then w else -1) = w
      rw [if_pos hv]
    rw [hs, M.eval_leaf (.inl rfl)]
    rfl
theorem FnTermPut_spec {v v' : Value} {xs xs' : List Nat} (hx : Bytes F w v xs) (hx' : Bytes F' w v' xs') (hK : ∀ w', Ext w w' → K (.bool true) w') : vcall PP n_laws_FnTermPut #[v, v'] w K := by
  apply c_laws_FnTermPut; unfold F_laws_FnTermPut
  refine vjoin_of (fun u w' => u = [] ∧ w' = w ∧ xs'.length ≤ 1048576) (fun C hC => ?_) ?_
  · simp (disch := (simp only [push_cast]; done)) only [push_cast, hx.len, hx'.len]
    refine vif_dec (fun _ => hK w (Same.refl _ _)) (fun _ => ?_)
    refine vif_dec (fun _ => hK w (Same.refl _ _)) (fun _ => ?_)
    exact hC _ _ ⟨rfl, rfl, by omega⟩
  rintro u0 g w0 ⟨rfl, rfl, hxl⟩
  refine DrawTermEval_spec hx.below (fun b hb => hb) fun w1 dv tv ev ds t env he1 hd hok ht hi => ?_
  obtain ⟨cs, rfl, hcs⟩ := ht.cells
  simp only [push_cast]
  refine valloc_agg zr_impl_Term fun b2 w2 hb2 he2 hs2 h2 => ?_
  have hcs' := hcs.weaken (F' := fun x => x < w1.heap.size) fun x _ hl => hl
  refine stTerm h2 rfl (hcs'.ext he2) fun w3 hw3 hz3 h3 => ?_
  have he3 : Ext w1 w3 := Ext.then he2 hw3 fun y hy => by subst hy; omega
  have hE3 := he1.trans he3
  have hcs3 := hcs.ext he3
  have ht3 := anyT hcs3.term
  have hd3 := hd.ext he3
  have hi3 := hi.ext he3
  obtain ⟨kv, rfl, hks⟩ := hcs3.inv
  clear hcs' h2 hi hd
  rw [h3.ldAgg (t := T_impl_Term) g_impl_Term]
  refine TermEval_spec hd3 ht3 hi3 fun w4 he4 => ?_
  simp only [push_cast]
  rw [(h3.ext he4).ldAgg (t := T_impl_Term) g_impl_Term]
  refine spec_TermEval_spec (dsm_sized hok) (hd3.ext he4) (ht3.ext he4) (hi3.ext he4) fun w5 he5 => ?_
  simp only [push_cast]
  have hE5 := he4.trans he5
  refine vjoin_of (fun u w' => u = [] ∧ Ext w3 w' ∧ M.tok ds t env = true ∧ t.ks.length ≠ 0) (fun C hC => ?_) ?_
  · rw [bne_self_eq_false]
    have q5 := h3.ext hE5
    simp (disch := (simp only [push_cast]; done)) only [push_cast, beq_self_eq_true, q5.ld4, hks.len]
    refine vif_bool (fun _ => hK _ (hE3.trans hE5)) (fun a => ?_)
    rw [Bool.not_eq_false'] at a
    refine vif_dec (fun _ => hK _ (hE3.trans hE5)) (fun b => ?_)
    exact hC _ _ ⟨rfl, hE5, a, by omega⟩
  rintro u1 g w6 ⟨rfl, hE6, htok, hne⟩
  obtain ⟨henv, hsort, hev⟩ := tok_sort htok
  have hfo := M.formed_iff.1 (M.sort_parts hsort).1
  have hsm : t.ks.length ≤ 3 := by
    have h1 := hfo.1
    unfold M.arity at h1
    repeat' split at h1
    all_goals omega
  have q6 := h3.ext hE6
  have hks6 := hks.ext hE6
  have hrem : ((xs'.length : Int).tmod (t.ks.length : Int)) = ((xs'.length % t.ks.length : Nat) : Int) := by rw [Int.tmod_eq_emod_of_nonneg (by omega)]; omega
  have hkl : xs'.length % t.ks.length < t.ks.length := Nat.mod_lt _ (by omega)
  generalize hk : xs'.length % t.ks.length = k at hrem hkl
  have hx6 := hx'.ext (hE3.trans hE6)
  simp (disch := first | (simp only [push_cast]; done) | omega) only [push_cast, q6.ld4, hks6.len, hx6.len, vbin_rem, hrem, hks6.iaddr]
  refine hks6.load g_impl_Term hkl fun y hy => ?_
  refine TermSort_spec (hd3.ext hE6) hy fun w7 he7 => ?_
  have hE7 := hE6.trans he7
  have q7 := h3.ext hE7
  have hks7 := hks.ext hE7
  simp (disch := first | (simp only [push_cast]; done) | omega) only [push_cast, q7.ld4, hks7.iaddr]
  refine hks7.load g_impl_Term hkl fun y' hy' => ?_
  refine TermEval_spec (hd3.ext hE7) hy' (hi3.ext hE7) fun w8 he8 => ?_
  have hE8 := hE7.trans he8
  obtain ⟨kt, kev, ksr⟩ := tok_kid htok hkl
  have hin := M.in_kid henv hsort hkl
  have kv2 := M.vecM_pair ds env (M.kid t k)
  rw [show t.ks.getD k default = M.kid t k from rfl, kt, kev, ksr]
  generalize M.sortM ds (M.kid t k) = ws at hin kv2
  generalize M.evalM ds env (M.kid t k) = x at hin kv2
  simp only [push_cast]
  have hz8 := hE8.size
  refine valloc_agg zr_impl_Term fun b9 w9 hb9 he9 hs9 h9 => ?_
  refine stTerm h9 rfl (leafR 20 ws x _ : TmR (fun _ => False) w9 _ _) fun w10 hw10 hz10 h10 => ?_
  have hE10 : Ext w3 w10 := Ext.then (hE8.trans he9) hw10 fun y hy => by subst hy; omega
  have hb9' : w3.heap.size ≤ b9 := by omega
  refine vjoin_of (fun u w' => u = [] ∧ Ext w3 w' ∧ ∃ cp, Blk w' b9 cp T_impl_Term ∧ TmR (fun _ => False) w' cp (if ws = 0 then nodeM 24 [] else .mk 20 ws x M.nada [])) (fun C hC => ?_) ?_
  · try simp only [push_cast]
    refine vif_dec (fun c => ?_) (fun c => ?_)
    · refine stTerm h10 rfl (leafR 24 0 0 _ : TmR (fun _ => False) w10 _ _) fun w11 hw11 hz11 h11 => ?_
      exact hC _ _ ⟨rfl, Ext.then hE10 hw11 fun y hy => by subst hy; omega, _, h11, by rw [if_pos c]; exact leafR 24 0 0 _⟩
    · exact hC _ _ ⟨rfl, hE10, _, h10, by rw [if_neg c]; exact leafR 20 ws x _⟩
  rintro u2 g w11 ⟨rfl, hE11, cp, h11, hcp⟩
  refine vjoin_of (fun u w' => u = [] ∧ Ext w3 w' ∧ ∃ cp, Blk w' b9 cp T_impl_Term ∧ TmR (fun b => b ≠ b9 ∧ b < w'.heap.size) w' cp (putM ws x)) (fun C hC => ?_) ?_
  · try simp only [push_cast]
    have cpl := tmR_len hcp
    have l9 := h11.lt
    refine vif_dec (fun c => ?_) (fun c => ?_)
    · try simp only [push_cast]
      refine vif_dec (fun d => ?_) (fun d => ?_)
      · try simp only [push_cast]
        refine kids1 (node_leaf (o := 24) (F := fun _ => False)) fun w12 a12 he12 hs12 k12 => ?_
        simp only [push_cast]
        have hn : TmR (fun b => b ≠ b9 ∧ b < w12.heap.size) w12 _ (nodeM 25 [nodeM 24 []]) := (TmR.of (t := nodeM 25 [nodeM 24 []]) k12).weaken fun z hz hlz => by
          rcases hz with h | h
          · exact h.elim
          · exact ⟨by omega, hlz⟩
        refine stTerm (h11.ext he12) cpl hn fun w13 hw13 hz13 h13 => ?_
        refine hC _ _ ⟨rfl, Ext.then (hE11.trans he12) hw13 fun y hy => by subst hy; omega, _, h13, ?_⟩
        rw [hz13]
        unfold putM; rw [if_pos c, if_pos d]
        exact hn.same hw13 fun z hz _ => hz.1
      · refine hC _ _ ⟨rfl, hE11, _, h11, ?_⟩
        unfold putM; rw [if_pos c] at hcp ⊢; rw [if_neg d]
        exact hcp.weaken fun z hz _ => hz.elim
    · refine hC _ _ ⟨rfl, hE11, _, h11, ?_⟩
      unfold putM; rw [if_neg c] at hcp ⊢
      exact hcp.weaken fun z hz _ => hz.elim
  clear hcp h11
  rintro u3 g w12 ⟨rfl, hE12, cp, h12, hcp⟩
  have cpl := tmR_len hcp
  have hz12 := hE12.size
  rw [(h3.ext hE12).ldAgg (t := T_impl_Term) g_impl_Term]
  refine valloc_agg zr_impl_Term fun b13 w13 hb13 he13 hs13 h13 => ?_
  refine stTerm h13 rfl (hcs3.ext (hE12.trans he13)) fun w14 hw14 hz14 h14 => ?_
  have he14 : Ext w12 w14 := Ext.then he13 hw14 fun y hy => by subst hy; omega
  refine vbuildS_nil u_Limpl_Term z_impl_Term fun b15 w15 hb15 he15 hs15 h15 => ?_
  have o15 : Own PP 0 5 T_Limpl_Term w15 (.slice (some ⟨b15, 0, none⟩) 0 0) [] := Blk.ownk (P := PP) (t := T_Limpl_Term) (css := []) (n := 0) (by rw [eo_Limpl_Term]; exact h15) (fun x hx => by cases hx) rfl (by decide)
  have he15' := he14.trans he15
  have hE15 := hE12.trans he15'
  have q15 := h3.ext hE15
  have hksn := hks.weaken (F' := fun b => b < w3.heap.size) fun b _ h => h
  obtain ⟨css, hcsl, hcln, hcsk⟩ := hksn.ext hE15
  have hone : ∀ y, y ∈ css → ∀ c, c ∈ y → c.oneCell' = true := fun y hy c hc => by
    obtain ⟨i, hi, rfl⟩ := List.getElem_of_mem hy
    have hti := hcsk i (by omega)
    rw [List.getD_eq_getElem?_getD, List.getElem?_eq_getElem hi] at hti
    obtain ⟨kv', e, css', hs', _⟩ := hti.inv
    have e' : css[i] = [.int .i64 (t.ks.getD i default).op, .int .i64 (t.ks.getD i default).a, .int .i64 (t.ks.getD i default).b, .string (t.ks.getD i default).s, kv'] := e
    rw [e'] at hc
    obtain ⟨a, l, rfl, _⟩ := hs'.shape
    simp only [List.mem_cons, List.not_mem_nil, or_false] at hc
    rcases hc with rfl | rfl | rfl | rfl | rfl <;> rfl
  simp (disch := (simp only [push_cast]; done)) only [push_cast, q15.ld4]
  refine vappend l_Limpl_Term (by decide) o15 hcsl hone (Nat.zero_le _) (by simp; omega) (by simp; omega) fun ov w16 hov hw16 hn16 => ?_
  rw [List.nil_append] at hov
  have hz14' := he14.size
  have hz15 := he15.size
  have hz16 := hw16.size
  have he16 : Ext w12 w16 := Ext.then he15' hw16 fun y hy => by have e : b15 = y := Option.some.inj hy; omega
  have hnov : ∀ b, ov.ownBlock = some b → w14.heap.size ≤ b := fun b hb => by
    rcases hn16 b hb with h | h
    · have e : b15 = b := Option.some.inj h; omega
    · omega
  have h16 := (h14.ext he15).same hw16 (fun e => by have e : b15 = b13 := Option.some.inj e; omega)
  obtain ⟨oa, oc, rfl, _⟩ := hov.sl.shape
  refine h16.st (i := 4) rfl rfl z_Limpl_Term rfl fun w17 hw17 hz17 h17 => ?_
  replace h17 : Blk w17 b13 [.int .i64 t.op, .int .i64 t.a, .int .i64 t.b, .string t.s, .slice oa css.length oc] T_impl_Term := h17
  have he17 : Ext w12 w17 := Ext.then he16 hw17 fun y hy => by subst hy; omega
  have hov17 := Own.same hov hw17 fun b hb e => by have := hnov b hb; omega
  have r17 := h12.ext he17
  simp (disch := (simp only [push_cast]; done)) only [push_cast, h17.ld4]
  rw [r17.ldAgg (t := T_impl_Term) (by rw [cpl]; exact g_impl_Term)]
  simp (disch := first | (simp only [push_cast]; done) | omega) only [push_cast, hov17.sl.iaddr]
  have honep : ∀ c, c ∈ cp → c.oneCell' = true := fun c hc => by
    obtain ⟨kv', rfl, css', hs', _⟩ := hcp.inv
    obtain ⟨a, l, rfl, _⟩ := hs'.shape
    simp only [List.mem_cons, List.not_mem_nil, or_false] at hc
    rcases hc with rfl | rfl | rfl | rfl | rfl <;> rfl
  refine own_stEl hov17 (by decide) cpl honep g_impl_Term (by omega) fun w18 hov18 hw18 hz18 => ?_
  have he18 : Ext w12 w18 := Ext.then he17 hw18 fun y hy => by have := hnov y hy; omega
  have h18 := h17.same hw18 (fun e => by have := hnov _ e; omega)
  have hE18 := hE12.trans he18
  have hcp18 := hcp.ext he18
  have hks18 : TmsR (fun _ => True) w18 (.slice oa css.length oc) (t.ks.set k (putM ws x)) := by
    refine ⟨css.set k cp, hov18.sl.weaken fun _ _ _ => trivial, by rw [List.length_set, List.length_set]; exact hcln, fun i hi => ?_⟩
    rw [List.length_set] at hi
    rw [List.getD_eq_getElem?_getD, List.getElem?_set, List.getD_eq_getElem?_getD, List.getElem?_set]
    by_cases e : k = i
    · subst e
      rw [if_pos rfl, if_pos (by omega), if_pos rfl, if_pos (by omega)]
      exact hcp18.weaken fun _ _ _ => trivial
    · rw [if_neg e, if_neg e, ← List.getD_eq_getElem?_getD, ← List.getD_eq_getElem?_getD]
      refine ((((hcsk i hi).same hw16 fun b hb _ e => ?_).same hw17 fun b hb _ e => ?_).same hw18 fun b hb _ e => ?_).weaken fun _ _ _ => trivial
      · have e : b15 = b := Option.some.inj e
        omega
      · subst e; omega
      · have := hnov b e; omega
  have hu : TermR (fun _ => True) w18 (.agg ⟨[.int .i64 t.op, .int .i64 t.a, .int .i64 t.b, .string t.s, .slice oa css.length oc]⟩) (setKid t k (putM ws x)) := ⟨_, rfl, hks18⟩
  rw [h18.ldAgg (t := T_impl_Term) g_impl_Term]
  refine TermEval_spec (hd3.ext hE18) hu (hi3.ext hE18) fun w19 he19 => ?_
  simp only [push_cast]
  rw [(h18.ext he19).ldAgg (t := T_impl_Term) g_impl_Term]
  refine TermMany_spec (hu.ext he19) fun w20 he20 => ?_
  have hfin := hE3.trans (hE18.trans (he19.trans he20))
  simp only [push_cast]
  refine vif_dec (fun _ => hK _ hfin) (fun c => ?_)
  refine vif_dec (fun _ => hK _ hfin) (fun d => ?_)
  have hfits := fits_of c
  have hvec : M.vecM ds env (setKid t k (putM ws x)) = M.vecM ds env t := vec_set hkl (by rw [put_vec henv hin, kv2])
  have hso : M.sortM ds (setKid t k (putM ws x)) ≠ -1 := by
    rw [← M.vecM_sort ds env, hvec, M.vecM_sort]; exact hsort
  have htok2 := tok_of henv hso hfits
  rw [htok2, (tok_sort htok2).2.2, hev]
  simp only [push_cast]
  unfold M.evalM
  rw [hvec, decide_eq_true rfl]
  exact hK _ hfin
end Go.Proofs.YtbiabimalkkeiaaGreatDoor
