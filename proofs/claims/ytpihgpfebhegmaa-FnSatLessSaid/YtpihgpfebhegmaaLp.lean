/- Contracts of chapter 5: a conflict; a step. -/
import Derived.Test.YtpihgpfebhegmaaLo
import Derived.Test.YtpihgpfebhegmaaLk
set_option linter.unusedVariables false
set_option linter.unusedSimpArgs false
set_option linter.unnecessarySimpa false
set_option linter.unusedSectionVars false
namespace Go.Proofs.Ytpihgpfebhegmaa
open Go Go.Vc Go.Proofs Go.M
variable {w : World} {K : Value → World → Prop} {F Fr : Nat → Prop} {many bs : Nat} {c : Cnf} {s : Sat} {σ : SV}
theorem topL_pos {put : List Int} {ds : List Bool} {cl : List Int} : (topL put ds cl ≠ 0) ↔ ((List.range cl.length).any fun i => decide (0 < lvM put ds (cl.getD i 0))) = true := by
  rw [List.any_eq_true]
  constructor
  · intro h
    rcases maxL_mem (xs := cl.map (lvM put ds)) with e | e
    · exact absurd e h
    · obtain ⟨q, hq, e⟩ := List.mem_map.1 e
      obtain ⟨i, hi, rfl⟩ := List.getElem_of_mem hq
      refine ⟨i, List.mem_range.2 hi, ?_⟩
      have : cl.getD i 0 = cl[i] := by simp [List.getD_eq_getElem?_getD, hi]
      rw [this, decide_eq_true_eq, e]
      unfold topL at h; omega
  · rintro ⟨i, hi, h⟩
    rw [List.mem_range] at hi
    rw [decide_eq_true_eq] at h
    have : lvM put ds (cl.getD i 0) ≤ topL put ds cl := le_maxL (List.mem_map_of_mem (getD_mem hi))
    omega
/-- The search's code is set. -/
theorem SR.setCode (h : SR Fr w bs many c s σ) {k : Int} (hK : ∀ w', SR Fr w' bs many c { s with code := k } σ → Same (σ.foot bs) w w' → w'.heap.size = w.heap.size → K undef w') :
    vstore PP T_int (.pointer (some ⟨bs, 5, none⟩)) (.int .i64 k) w K := by
  refine h.blk.st rfl rfl z_int rfl fun w1 hs hz hB => ?_
  have hS : Same (σ.foot bs) w w1 := hs.mono fun x _ e => .inr (.inl e)
  have hbs : ∀ x, σ.tf x → x ≠ bs := fun x hx e => h.st x (.inl e) hx
  refine hK w1 ⟨hB, h.cm, h.cl.same hS fun x hF _ hx => h.notF hx hF, h.tr.same hs fun x hx e => hbs x hx e, h.rw.same hs fun x hx e => h.s1 x hx e, h.rl.same hs fun x hx e => h.s2 x hx e, h.lsl, fun i hi => (h.ll i hi).same hS fun x hF _ hx => h.notF hx hF, h.s1, h.s2, h.s3, h.st, h.sf⟩ hS hz
/-- What a step leaves. -/
def StepTo (Fr : Nat → Prop) (w : World) (bs many : Nat) (c : Cnf) (s' : Sat) (σ : SV) (w' : World) : Prop :=
  ∃ Fr' σ', SR Fr' w' bs many c s' σ' ∧ Same (σ.foot bs) w w' ∧ (∀ b, σ'.foot bs b → σ.foot bs b ∨ w.heap.size ≤ b) ∧ (∀ b, Fr' b → Fr b ∨ w.heap.size ≤ b) ∧ (∀ b, Fr' b → b < w'.heap.size)
theorem StepTo.trans {s2 : Sat} {w1 w2 : World} {F1 : Nat → Prop} {σ1 : SV} (a2 : Same (σ.foot bs) w w1) (a3 : ∀ b, σ1.foot bs b → σ.foot bs b ∨ w.heap.size ≤ b) (a4 : ∀ b, F1 b → Fr b ∨ w.heap.size ≤ b) (h2 : StepTo F1 w1 bs many c s2 σ1 w2) : StepTo Fr w bs many c s2 σ w2 := by
  obtain ⟨F2, σ2, b1, b2, b3, b4, b5⟩ := h2
  have hz := a2.size
  refine ⟨F2, σ2, b1, ⟨b2.os.trans a2.os, b2.tape.trans a2.tape, b2.output.trans a2.output, Nat.le_trans hz b2.size, fun b hb hn => ?_⟩, fun b hb => ?_, fun b hb => ?_, b5⟩
  · rw [b2.block b (by omega) fun hx => ?_, a2.block b hb hn]
    rcases a3 b hx with e | e
    · exact hn e
    · omega
  · rcases b3 b hb with e | e
    · exact a3 b e
    · exact .inr (by omega)
  · rcases b4 b hb with e | e
    · exact a4 b e
    · exact .inr (by omega)
theorem StepTo.refl (h : SR Fr w bs many c s σ) (hF : ∀ b, Fr b → b < w.heap.size) : StepTo Fr w bs many c s σ w := ⟨Fr, σ, h, Same.refl _ _, fun _ h => .inl h, fun _ h => .inl h, hF⟩
theorem StepTo.ext {w1 w' : World} (h : StepTo Fr w1 bs many c s σ w') (he : Ext w w1) : StepTo Fr w bs many c s σ w' := by
  obtain ⟨F1, σ1, a1, a2, a3, a4, a5⟩ := h
  have hz := he.size
  exact ⟨F1, σ1, a1, (Same.of_ext he).trans a2, fun b hb => (a3 b hb).imp id fun h => by omega, fun b hb => (a4 b hb).imp id fun h => by omega, a5⟩
theorem resolve_spec {v : Value} {k : Nat} (h : SR Fr w bs many c s σ) (hok : satOk many c s) (hcm : c.many = many) (hk : k < c.list.length + s.learned.length) (hx : Ints F w v (atM c s k)) (hc : clashC s.put (atM c s k)) (hFr : ∀ b, Fr b → b < w.heap.size)
    (hK : ∀ w', StepTo Fr w bs many c (clashM many c s (atM c s k)) σ w' → K (.tuple #[]) w') :
    vcall PP n_impl_search_resolve #[.pointer (some ⟨bs, 0, none⟩), v] w K := by
  apply c_impl_search_resolve; unfold F_impl_search_resolve
  obtain ⟨hmany, hcl⟩ := satOk.many' hok hcm
  have hfew := hok.few
  have hmk := hok.mks
  refine vbox_new fun p w1 hp he1 hz1 hP1 => ?_
  have hP1' : Blk w1 p [.pointer (some ⟨bs, 0, none⟩)] T_P_impl_search := hP1
  simp only [push_cast]
  have bounds : ∀ x, x ∈ atM c s k → x.natAbs ≤ many ∧ placeOf s.put x.natAbs ≠ 0 := fun x hx => ⟨(hok.lit hcm hk hx).2, (hc x hx).2⟩
  refine ContainsFunc_Lint_int (p := fun i => decide (0 < lvM s.put (decs s.why) ((atM c s k).getD i 0))) (hx.ext he1) (fun i hi w' K' he hK' => ?_) fun w2 he2 => ?_
  · rw [List.length_map] at hi
    rw [ints_getD hi]
    obtain ⟨b1, b2⟩ := bounds _ (getD_mem hi)
    exact resolve_1_spec (h.ext (he1.trans he)) (hP1'.ext he) b1 b2 fun w'' he'' => hK' w'' he''
  have E2 := he1.trans he2
  have h2 := h.ext E2
  have hP2 := hP1'.ext he2
  rw [List.length_map]
  simp only [push_cast]
  refine vif_bool (fun a => ?_) (fun a => ?_)
  · -- all of level 0
    have htop : topL s.put (decs s.why) (atM c s k) = 0 := Decidable.byContradiction fun hne => by
      have := topL_pos.1 hne
      rw [this] at a; cases a
    simp (disch := (simp only [push_cast]; done)) only [push_cast, hP2.ld0]
    refine h2.setCode fun w3 h3 hs3 hz3 => hK w3 ⟨Fr, σ, ?_, (Same.of_ext E2).trans hs3, fun b hb => .inl hb, fun b hb => .inl hb, fun b hb => ?_⟩
    · unfold clashM; rw [if_pos htop]; exact h3
    · have := hFr b hb; have := E2.size; omega
  have htop : topL s.put (decs s.why) (atM c s k) ≠ 0 := topL_pos.2 (by simpa using a)
  have hlv := h2.lists
  have hlsl := h2.lsl
  simp (disch := (simp only [push_cast]; done)) only [push_cast, hP2.ld0, h2.blk.ld4, hlv.len]
  refine vif_dec (fun b => ?_) (fun b => ?_)
  · refine h2.setCode fun w3 h3 hs3 hz3 => hK w3 ⟨Fr, σ, ?_, (Same.of_ext E2).trans hs3, fun b hb => .inl hb, fun b hb => .inl hb, fun b hb => ?_⟩
    · unfold clashM; rw [if_neg htop, if_pos (by omega)]; exact h3
    · have := hFr b hb; have := E2.size; omega
  refine learn_spec h2 hok hcm hk (hx.ext E2) hc htop (fun b hb => by have := hFr b hb; have := E2.size; omega) fun w3 v3 he3 hv3 hn3 => ?_
  have E3 := E2.trans he3
  have hz3 := he3.size
  have hz2 := E2.size
  simp only [push_cast]
  refine vdraw_ext fun w4 he4 _ => ?_
  have h4 := h2.ext (he3.trans he4)
  have hP4 := (hP2.ext he3).ext he4
  have hv4 := hv3.ext he4
  have hz4 := he4.size
  simp (disch := (simp only [push_cast]; done)) only [push_cast, hP4.ld0, h4.blk.ld4, true_and]
  refine vbuildS_one u_LLint z_Lint zr_Lint rfl hv4.ints.cells1 fun b5 w5 hb5 he5 hz5 hB5 => ?_
  have h5 := h4.ext he5
  have hP5 := hP4.ext he5
  have hv5 := hv4.ext he5
  simp (disch := (simp only [push_cast]; done)) only [push_cast, hP5.ld0, h5.blk.ld4, true_and, and_self]
  refine OwnV.app1 h5.rl l_LLint hB5 hv5.ints.one (by omega) (by omega) fun vr6 w6 hr6 hs6 hn6 => ?_
  have hpn : ∀ x, σ.foot bs x → x ≠ p := fun x hx e => by have := h.lt hx; omega
  have hP6 := hP5.same hs6 fun e => hpn p (.inr (.inr (.inr e))) rfl
  have hbs6 := h5.blk.same hs6 fun e => h.s2 _ e rfl
  have hS6 : Same (σ.foot bs) w5 w6 := hs6.mono fun x _ e => .inr (.inr (.inr e))
  simp (disch := (simp only [push_cast]; done)) only [push_cast, hP6.ld0, true_and]
  have hvn : ∀ x, v3.ownBlock = some x → w.heap.size ≤ x ∧ x < w5.heap.size := fun x hx => ⟨by have := hn3 x hx; omega, hv5.lt hx⟩
  have hrn : ∀ x, vr6.ownBlock = some x → σ.vr.ownBlock = some x ∨ w5.heap.size ≤ x := hn6
  refine hbs6.st hr6.vals.cells1 hr6.vals.one z_LLint rfl fun w7 hs7 hz7 hB7 => ?_
  have hS57 : Same (σ.foot bs) w5 w7 := hS6.trans (hs7.mono fun x _ e => .inr (.inl e))
  have hS7b : Same (fun x => x = bs ∨ σ.vr.ownBlock = some x) w5 w7 := (hs6.mono fun x _ e => .inr e).trans (hs7.mono fun x _ e => .inl e)
  have hP7 := hP6.same hs7 fun e => hpn bs (.inr (.inl rfl)) e.symm
  have hz6 := hs6.size
  have hvr : ∀ x, vr6.ownBlock = some x → x ≠ bs := fun x hx e => by
    rcases hrn x hx with e' | e'
    · exact h.s2 x e' e
    · have := h.lt (.inr (.inl (rfl : bs = bs))); omega
  -- the search with the clause more
  have hSR : SR (fun b => Fr b ∨ v3.ownBlock = some b) w7 bs many c { s with learned := s.learned ++ [learnM many c s s.put.length (atM c s k)] } { σ with vr := vr6, ls := σ.ls ++ [v3] } := by
    have fr : ∀ {x}, σ.foot bs x → ¬ (Fr x ∨ v3.ownBlock = some x) := fun {x} hx e => by
      rcases e with e | e
      · exact h.notF hx e
      · have := h.lt hx; have := (hvn x e).1; omega
    refine ⟨hB7, h.cm, (h5.cl.same hS57 fun x hF _ hx => h.notF hx hF).weaken fun x hx _ => .inl hx, ?_, ?_, ?_, by simp [h.lsl], fun i hi => ?_, h.s1, hvr, ?_, ?_, ?_⟩
    · refine (h5.tr.same hS7b fun x hx e => ?_).reframe fun x hx => fr (.inl hx)
      rcases e with e | e
      · exact h.st x (.inl e) hx
      · exact h.st x (.inr (.inr e)) hx
    · refine h5.rw.same hS7b fun x hx e => ?_
      rcases e with e | e
      · exact h.s1 x hx e
      · exact h.s3 x hx e
    · exact hr6.same hs7 fun x hx e => hvr x hx e
    · simp only [List.length_append, List.length_singleton] at hi
      by_cases hil : i < s.learned.length
      · rw [getD_app_l (by rw [h.lsl]; exact hil), getD_app_l hil]
        exact ((h5.ll i hil).same hS57 fun x hF _ hx => h.notF hx hF).weaken fun x hx _ => .inl hx
      · have e1 : i = s.learned.length := by omega
        have e2 : i = σ.ls.length := by rw [h.lsl]; exact e1
        have g1 : (σ.ls ++ [v3]).getD i undef = v3 := by rw [e2]; simp
        have g2 : (s.learned ++ [learnM many c s s.put.length (atM c s k)]).getD i [] = learnM many c s s.put.length (atM c s k) := by rw [e1]; simp
        rw [g1, g2]
        refine (hv5.ints.same hS57 fun x hx _ hf => ?_).weaken fun x hx _ => .inr hx
        have := h.lt hf; have := (hvn x hx).1; omega
    · intro x hx e
      rcases hrn x e with e' | e'
      · exact h.s3 x hx e'
      · have := h.lt (.inr (.inr (.inl hx))); omega
    · rintro x (e | e | e) ht
      · exact h.st x (.inl e) ht
      · exact h.st x (.inr (.inl e)) ht
      · rcases hrn x e with e' | e'
        · exact h.st x (.inr (.inr e')) ht
        · have := h.lt (.inl ht); omega
    · rintro x (e | e | e) hF
      · exact fr (.inr (.inl e)) hF
      · exact fr (.inr (.inr (.inl e))) hF
      · rcases hrn x e with e' | e'
        · exact fr (.inr (.inr (.inr e'))) hF
        · rcases hF with hF | hF
          · have := hFr x hF; omega
          · have := (hvn x hF).2; omega
  simp (disch := (simp only [push_cast]; done)) only [push_cast, hP7.ld0]
  have hz7' := hS57.size
  refine goBack_spec hSR fun σ8 w8 n hn hS8 hs8 hf8 => ?_
  subst hn
  have hff : ∀ x, (SV.foot { σ with vr := vr6, ls := σ.ls ++ [v3] } bs) x → σ.foot bs x ∨ w5.heap.size ≤ x := by
    rintro x (e | e | e | e)
    · exact .inl (.inl e)
    · exact .inl (.inr (.inl e))
    · exact .inl (.inr (.inr (.inl e)))
    · exact (hrn x e).imp (fun e => .inr (.inr (.inr e))) id
  have hz8 := hs8.size
  refine hK w8 ⟨fun b => Fr b ∨ v3.ownBlock = some b, σ8, ?_, ?_, fun x hx => ?_, fun x hx => ?_, fun x hx => ?_⟩
  · unfold clashM; rw [if_neg htop, if_neg (by omega)]; exact hS8
  · have hE5 : Ext w w5 := E3.trans (he4.trans he5)
    have hz5' := hE5.size
    refine ⟨(hs8.os.trans hS57.os).trans hE5.os, (hs8.tape.trans hS57.tape).trans hE5.tape, (hs8.output.trans hS57.output).trans hE5.output, by omega, fun x hx hn => ?_⟩
    rw [hs8.block x (by omega) fun hf => ?_, hS57.block x (by omega) hn, hE5.block x hx id]
    rcases hff x hf with e | e
    · exact hn e
    · omega
  · rcases hff x (hf8 x hx) with e | e
    · exact .inl e
    · exact .inr (by omega)
  · rcases hx with e | e
    · exact .inl e
    · exact .inr (hvn x e).1
  · rcases hx with e | e
    · have := hFr x e; omega
    · have := (hvn x e).2; omega
theorem neg_ne {n : Nat} (h : 1 ≤ n) : -(n : Int) ≠ 0 := by omega
theorem satOk.bnd (h : satOk many c s) (hcm : c.many = many) {cl : List Int} (hcl : cl ∈ c.list ++ s.learned) {l : Int} (hl : l ∈ cl) : l ≠ 0 ∧ l.natAbs ≤ many := by
  have := clauseOk_lit (satOk.cls h hcl) hl
  omega
theorem SR.step (h : SR Fr w bs many c s σ) (hF : ∀ b, Fr b → b < w.heap.size) {w' : World} (he : Ext w w') : ∀ b, Fr b → b < w'.heap.size := fun b hb => by have := hF b hb; have := he.size; omega
theorem step_spec (h : SR Fr w bs many c s σ) (hok : satOk many c s) (hcm : c.many = many) (hFr : ∀ b, Fr b → b < w.heap.size)
    (hK : ∀ w', StepTo Fr w bs many c (stepM many c s) σ w' → K (.tuple #[]) w') :
    vcall PP n_impl_search_step #[.pointer (some ⟨bs, 0, none⟩)] w K := by
  apply c_impl_search_step; unfold F_impl_search_step
  obtain ⟨hmany, hcl⟩ := satOk.many' hok hcm
  have hfew := hok.few
  simp (disch := (simp only [push_cast]; done)) only [push_cast, h.blk.ld5]
  refine vif_dec (fun a => hK w (by unfold stepM; rw [if_neg (by simpa using a)]; exact StepTo.refl h hFr)) (fun a => ?_)
  have hst : stepM many c s = goM many c s := if_pos (by simpa using a)
  rw [hst] at hK
  clear hst
  refine vdraw_ext fun w1 he1 _ => ?_
  have h1 := h.ext he1
  simp (disch := (simp only [push_cast]; done)) only [push_cast, h1.blk.ld1, h1.blk.ld2, h1.blk.ld4, true_and]
  obtain ⟨cs, hcs, hcv, hci⟩ := h1.cl
  refine vbuildS_row1 (xs := [σ.vc, σ.vr]) u_LLLint z_LLint zr_LLint (fun x hx => ?_) (by simp) fun b2 w2 hb2 he2 hz2 hB2 => ?_
  · simp only [List.mem_cons, List.not_mem_nil, or_false] at hx
    rcases hx with rfl | rfl
    · exact hcv.cells1
    · exact h1.lists.cells1
  have E2 := he1.trans he2
  have h2 := h.ext E2
  simp (disch := (simp only [push_cast]; done)) only [push_cast, h2.blk.ld2, true_and]
  have hll2 : Lists (fun _ => True) w2 σ.vr s.learned := ⟨σ.ls, h2.lsl, h2.lists.weaken fun _ _ _ => trivial, fun i hi => (h2.ll i hi).weaken fun _ _ _ => trivial⟩
  have hcl2 : Lists (fun _ => True) w2 σ.vc c.list := h2.cl.weaken fun _ _ _ => trivial
  have hfl : ([c.list, s.learned] : List (List (List Int))).flatten = c.list ++ s.learned := by simp
  refine next_spec (F := fun _ => True) (vs := [σ.vc, σ.vr]) (lls := [c.list, s.learned]) h2.tr (Sl.weaken (hB2.sl1 rfl (by simp)) fun _ _ _ => trivial) rfl (fun i hi => ?_) (fun cl hcl l hl => ?_) ?_ fun w3 k u x he3 hf => ?_
  · match i, hi with
    | 0, _ => exact hcl2
    | 1, _ => exact hll2
    | n + 2, hi => exact absurd hi (by simp)
  · rw [hfl] at hcl; exact (satOk.bnd hok hcm hcl hl).2
  · rw [hfl, List.length_append]; omega
  rw [hfl] at hf
  have E3 := E2.trans he3
  have h3 := h.ext E3
  have hz3 := E3.size
  have hFr3 : ∀ b, Fr b → b < w3.heap.size := fun b hb => by have := hFr b hb; omega
  simp only [push_cast, true_and]
  have hgo : goM many c s = (if 0 ≤ k then clashM many c s (atM c s k.toNat) else if 0 ≤ u then { s with put := s.put ++ [x], why := s.why ++ [u] }
    else if s.put.length = many then { s with code := 1 } else { s with put := s.put ++ [-(freeM many s.put : Int)], why := s.why ++ [-1] }) := by
    unfold goM; rw [hf]
  have hlen := hok.len
  have hpl := (satOk.mks hok).len
  rcases find_cases s.put (c.list ++ s.learned) with ⟨i, u', x', hi, e, hc⟩ | ⟨hn, ⟨i, x', hi, e, hu, -⟩ | ⟨e, -⟩⟩
  · rw [hf, Prod.mk.injEq, Prod.mk.injEq] at e
    obtain ⟨rfl, rfl, rfl⟩ := e
    rw [List.length_append] at hi
    rw [if_pos (by omega), Int.toNat_natCast] at hgo
    refine vif_dec (fun _ => ?_) (fun b => absurd (by omega) b)
    refine clause_spec h3 (by omega) (by omega) fun v4 w4 he4 hv4 => ?_
    have h4 := h3.ext he4
    refine resolve_spec h4 hok hcm hi hv4 hc (fun b hb => by have := hFr3 b hb; have := he4.size; omega) fun w5 h5 => ?_
    rw [hgo] at hK
    exact hK w5 (h5.ext (E3.trans he4))
  · rw [hf, Prod.mk.injEq, Prod.mk.injEq] at e
    obtain ⟨rfl, rfl, rfl⟩ := e
    rw [List.length_append] at hi
    rw [if_neg (by omega), if_pos (by omega)] at hgo
    refine vif_dec (fun b => absurd b (by omega)) (fun _ => vif_dec (fun _ => ?_) (fun b => absurd (by omega) b))
    obtain ⟨hx1, hx2⟩ := unit_mem hu
    have hb := satOk.bnd hok hcm (atM_mem (s := s) hi) hx1
    refine assign_spec h3 hb.1 hb.2 hx2 hFr3 fun σ' w4 h4 hs4 hf4 => ?_
    rw [hgo] at hK
    refine hK w4 (StepTo.ext ⟨Fr, σ', h4, hs4, hf4, fun b hb => .inl hb, fun b hb => ?_⟩ E3)
    have := hFr3 b hb; have := hs4.size; omega
  · rw [hf, Prod.mk.injEq, Prod.mk.injEq] at e
    obtain ⟨rfl, rfl, rfl⟩ := e
    rw [if_neg (by omega), if_neg (by omega)] at hgo
    refine vif_dec (fun b => absurd b (by omega)) (fun _ => vif_dec (fun b => absurd b (by omega)) (fun _ => ?_))
    refine vdraw_ext fun w4 he4 _ => ?_
    have h4 := h3.ext he4
    have E4 := E3.trans he4
    have hp4 : Ints _ w4 σ.vp s.put := h4.tr.rp.ints
    simp (disch := (simp only [push_cast]; done)) only [push_cast, h4.blk.ld0, h4.blk.ld2, h4.tr.blk.ld0, hp4.len, true_and]
    refine vif_dec (fun b => ?_) (fun b => ?_)
    · rw [if_pos (by omega)] at hgo
      refine h4.setCode fun w5 h5 hs5 hz5 => ?_
      rw [hgo] at hK
      refine hK w5 (StepTo.ext ⟨Fr, σ, h5, hs5, fun b hb => .inl hb, fun b hb => .inl hb, fun b hb => ?_⟩ E4)
      have := hFr b hb; have := E4.size; omega
    · rw [if_neg (by omega)] at hgo
      obtain ⟨f1, f2, f3, f4⟩ := free_spec hok.mks (by omega)
      refine vloop_up (freeM many s.put - 1) (fun i u w' => u = [.int .i64 (i + 1 : Nat)] ∧ Ext w w') ⟨rfl, E4⟩ ?_
      rintro i _ _ w5 C hi ⟨rfl, hE⟩ hC
      have h5 := h.ext hE
      simp (disch := (simp only [push_cast]; done)) only [push_cast, h5.blk.ld2]
      refine assigned_spec h5.tr (by omega) fun w6 he6 => ?_
      rw [show ((i : Int) + 1).natAbs = i + 1 from by omega]
      refine vif_dec (fun b6 => ?_) (fun b6 => ?_)
      · have hlt : i < freeM many s.put - 1 := by
          refine Decidable.byContradiction fun hge => ?_
          have : i + 1 = freeM many s.put := by omega
          rw [this] at b6; exact b6 f3
        simp (disch := omega) only [push_cast, wrap64]
        exact hC hlt _ _ ⟨by simp, hE.trans he6⟩
      · have hieq : i + 1 = freeM many s.put := by
          refine Decidable.byContradiction fun hne => b6 (f4 _ (by omega) (by omega))
        have e1 : IntKind.i64.wrap (0 - ((i : Int) + 1)) = -(freeM many s.put : Int) := by rw [wrap64 (by omega) (by omega)]; omega
        rw [e1]
        have h6 := h5.ext he6
        have hFr6 : ∀ b, Fr b → b < w6.heap.size := fun b hb => by have := hFr b hb; have := (hE.trans he6).size; omega
        refine assign_spec h6 (neg_ne f1) (by rw [Int.natAbs_neg, Int.natAbs_natCast]; exact f2) (by rw [Int.natAbs_neg, Int.natAbs_natCast]; exact f3) hFr6 fun σ' w7 h7 hs7 hf7 => ?_
        rw [hgo] at hK
        refine hK w7 (StepTo.ext ⟨Fr, σ', h7, hs7, hf7, fun b hb => .inl hb, fun b hb => ?_⟩ (hE.trans he6))
        have := hFr6 b hb; have := hs7.size; omega
end Go.Proofs.Ytpihgpfebhegmaa
