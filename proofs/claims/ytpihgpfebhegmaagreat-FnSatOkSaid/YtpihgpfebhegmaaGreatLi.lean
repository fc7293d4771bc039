/- Contracts of chapter 5: results of searches. -/
import Derived.Test.YtpihgpfebhegmaaGreatLh
set_option linter.unusedVariables false
set_option linter.unusedSimpArgs false
set_option linter.unnecessarySimpa false
set_option linter.unusedSectionVars false
namespace Go.Proofs.YtpihgpfebhegmaaGreat
open Go Go.Vc Go.Proofs Go.M
variable {w : World} {K : Value → World → Prop} {F Fr : Nat → Prop} {many bs : Nat} {c : Cnf} {s : Sat} {σ : SV}
/-- A search's state in memory, as a value. -/
def SatR (F : Nat → Prop) (w : World) (v : Value) (s : Sat) : Prop :=
  ∃ vp vw vl, v = .agg #[vp, vw, vl, .int .i64 s.code] ∧ Ints F w vp s.put ∧ Ints F w vw s.why ∧ Lists F w vl s.learned
theorem SatR.ext {v : Value} {w' : World} (h : SatR F w v s) (hw : Ext w w') : SatR F w' v s := by
  obtain ⟨vp, vw, vl, hv, h1, h2, h3⟩ := h; exact ⟨vp, vw, vl, hv, h1.ext hw, h2.ext hw, h3.ext hw⟩
theorem SatR.weaken {F' : Nat → Prop} {v : Value} (h : SatR F w v s) (hf : ∀ b, F b → b < w.heap.size → F' b) : SatR F' w v s := by
  obtain ⟨vp, vw, vl, hv, h1, h2, h3⟩ := h; exact ⟨vp, vw, vl, hv, h1.weaken hf, h2.weaken hf, h3.weaken hf⟩
theorem sat_spec (h : SR Fr w bs many c s σ) (hK : ∀ w' v, Ext w w' → SatR (fun b => w.heap.size ≤ b ∨ σ.vr.ownBlock = some b ∨ Fr b) w' v s → K v w') : vcall PP n_impl_search_sat #[.pointer (some ⟨bs, 0, none⟩)] w K := by
  apply c_impl_search_sat; unfold F_impl_search_sat
  have hfw := h.tr.few
  have hfew := h.tr.few'
  have hlen := h.tr.len
  rw [decs_len] at hlen
  refine valloc_new zr_impl_Sat fun b w1 hb he1 hz1 hB1 => ?_
  refine vdraw_ext fun w2 he2 _ => ?_
  have h2 := h.ext (he1.trans he2)
  simp (disch := (simp only [push_cast]; done)) only [push_cast, h2.blk.ld2, h2.blk.ld3, h2.blk.ld4, h2.blk.ld5, h2.tr.blk.ld0, true_and]
  refine Clone_Lint h2.tr.rp.ints (by omega) fun w3 vp he3 hp hpf => ?_
  have h3 := h2.ext he3
  simp (disch := (simp only [push_cast]; done)) only [push_cast, h3.blk.ld3, h3.blk.ld4, h3.blk.ld5, true_and, and_self]
  refine Clone_Lint h3.rw.ints (by omega) fun w4 vw he4 hw hwf => ?_
  have h4 := h3.ext he4
  simp (disch := (simp only [push_cast]; done)) only [push_cast, h4.blk.ld4, h4.blk.ld5, true_and, and_self]
  refine vbuild_str b_impl_Sat (us := [[vp], [vw], [σ.vr], [.int .i64 s.code]]) ?_ rfl ?_
  · simp [hp.ints.cells1, hw.ints.cells1, h.rl.vals.cells1]; rfl
  simp only [true_and]
  have hz1' := he1.size
  have hz2 := he2.size
  have hz3 := he3.size
  have hB4 : Blk w4 b [.slice none 0 0, .slice none 0 0, .slice none 0 0, .int .i64 0] T_impl_Sat := ((hB1.ext he2).ext he3).ext he4
  refine hB4.stAgg (cs' := [vp, vw, σ.vr, .int .i64 s.code]) rfl g_impl_Sat ?_ fun w5 hs5 hz5 hB5 => ?_
  · intro v hv
    simp only [List.mem_cons, List.not_mem_nil, or_false] at hv
    rcases hv with rfl | rfl | rfl | rfl
    · exact hp.ints.one
    · exact hw.ints.one
    · exact h.rl.vals.one
    · rfl
  rw [hB5.lv g_impl_Sat]
  have hE : Ext w w5 := Ext.then (he1.trans (he2.trans (he3.trans he4))) hs5 fun x hx => by omega
  refine hK w5 _ hE ⟨vp, vw, σ.vr, rfl, ?_, ?_, σ.ls, h.lsl, ?_, fun i hi => ?_⟩
  · refine ((hp.ext he4).same hs5 fun x hx e => ?_).ints.weaken fun x hx _ => .inl ?_
    · have := hpf x hx; omega
    · have := hpf x hx; omega
  · refine (hw.same hs5 fun x hx e => ?_).ints.weaken fun x hx _ => .inl ?_
    · have := hwf x hx; omega
    · have := hwf x hx; omega
  · exact (h.rl.vals.ext hE).weaken fun x hx _ => .inr (.inl hx)
  · exact ((h.ll i hi).ext hE).weaken fun x hx _ => .inr (.inr hx)
theorem EqualFunc_LL {F' : Nat → Prop} {v v' : Value} {xs ys : List (List Int)} (hx : Lists F w v xs) (hy : Lists F' w v' ys) (hK : ∀ w', Ext w w' → K (.bool (decide (xs = ys))) w') :
    vcall PP n_slices_EqualFunc_LLint_LLint_Lint_Lint #[v, v', .func (.func n_slices_Equal_Lint_int) #[] #[]] w K := by
  apply c_slices_EqualFunc_LLint_LLint_Lint_Lint; unfold F_slices_EqualFunc_LLint_LLint_Lint_Lint
  obtain ⟨cx, hcx, hvx, hix⟩ := hx
  obtain ⟨cy, hcy, hvy, hiy⟩ := hy
  simp (disch := first | (simp only [push_cast]; done) | omega) only [push_cast, hvx.len, hvy.len]
  have hlen : cx.length ≤ 9223372036854775807 := by obtain ⟨_, _, _, h1, h2, _⟩ := hvx.shape; simp at h1; omega
  refine vif_dec (fun hne => ?_) (fun heq => ?_)
  · have := hK w (Same.refl _ _)
    rwa [decide_eq_false (fun e => hne (by rw [hcx, hcy, e]))] at this
  refine vloop_up cx.length (fun i u w' => u = [.int .i64 i] ∧ Ext w w' ∧ ∀ j, j < i → xs.getD j [] = ys.getD j []) ⟨rfl, Same.refl _ _, by omega⟩ ?_
  rintro i _ g w1 C hi ⟨rfl, he, hp⟩ hC
  simp only [push_cast]
  refine vif_dec (fun hlt => ?_) (fun hge => ?_)
  · have hx1 := hvx.ext he
    have hy1 := hvy.ext he
    simp (disch := first | (simp only [push_cast]; done) | omega) only [push_cast, hx1.iaddr, hx1.load, hy1.iaddr, hy1.load]
    refine Equal_Lint ((hix i (by omega)).ext he) ((hiy i (by omega)).ext he) fun w2 he2 => ?_
    simp only [push_cast]
    refine vif_bool (fun hb => ?_) (fun hb => ?_)
    · have hb' : ¬ xs.getD i [] = ys.getD i [] := by simpa using hb
      have := hK w2 (he.trans he2)
      rwa [decide_eq_false (fun e => hb' (by rw [e]))] at this
    · have hb' : xs.getD i [] = ys.getD i [] := by simpa using hb
      simp (disch := omega) only [push_cast, wrap64]
      exact hC (by omega) _ _ ⟨by simp, he.trans he2, fun j hj => by
        by_cases h : j = i
        · subst h; exact hb'
        · exact hp j (by omega)⟩
  · have := hK w1 he
    rwa [decide_eq_true (List.ext_getElem (by omega) fun j h1 h2 => by have := hp j (by omega); simpa [List.getD_eq_getElem?_getD, h1, h2] using this)] at this
theorem sameLists_spec {F' : Nat → Prop} {v v' : Value} {xs ys : List (List Int)} (hx : Lists F w v xs) (hy : Lists F' w v' ys) (hK : ∀ w', Ext w w' → K (.bool (decide (xs = ys))) w') : vcall PP n_impl_sameLists #[v, v'] w K := by
  apply c_impl_sameLists; unfold F_impl_sameLists
  exact EqualFunc_LL hx hy hK
def satEq (a b : Sat) : Bool := decide (a.put = b.put) && (decide (a.why = b.why) && (decide (a.learned = b.learned) && decide (a.code = b.code)))
theorem satEq_iff {a b : Sat} : satEq a b = true ↔ a = b := by
  cases a; cases b; simp [satEq]
theorem SatSame_spec {F' : Nat → Prop} {v v' : Value} {a b : Sat} (hx : SatR F w v a) (hy : SatR F' w v' b) (hK : ∀ w', Ext w w' → K (.bool (satEq a b)) w') : vcall PP n_impl_SatSame #[v, v'] w K := by
  apply c_impl_SatSame; unfold F_impl_SatSame
  obtain ⟨p1, y1, l1, rfl, hp1, hy1, hl1⟩ := hx
  obtain ⟨p2, y2, l2, rfl, hp2, hy2, hl2⟩ := hy
  refine vbox_new fun b1 w1 hb1 he1 hs1 hB1 => ?_
  refine vbox_new fun b2 w2 hb2 he2 hs2 hB2 => ?_
  simp only [push_cast] at hB1 hB2
  have hB1' := hB1.ext he2
  have E2 := he1.trans he2
  simp (disch := (simp only [push_cast]; done)) only [push_cast, hB1'.ld0, hB2.ld0]
  refine Equal_Lint (hp1.ext E2) (hp2.ext E2) fun w3 he3 => ?_
  have E3 := E2.trans he3
  have A3 := hB1'.ext he3
  have C3 := hB2.ext he3
  refine vif_dec (fun h => ?_) (fun h => ?_)
  · simp (disch := (simp only [push_cast]; done)) only [push_cast, A3.ld1, C3.ld1]
    refine Equal_Lint (hy1.ext E3) (hy2.ext E3) fun w4 he4 => ?_
    have E4 := E3.trans he4
    have A4 := A3.ext he4
    have C4 := C3.ext he4
    refine vif_dec (fun h2 => ?_) (fun h2 => ?_)
    · simp (disch := (simp only [push_cast]; done)) only [push_cast, A4.ld2, C4.ld2]
      refine sameLists_spec (hl1.ext E4) (hl2.ext E4) fun w5 he5 => ?_
      have A5 := A4.ext he5
      have C5 := C4.ext he5
      refine vif_dec (fun h3 => ?_) (fun h3 => ?_)
      · simp (disch := (simp only [push_cast]; done)) only [push_cast, A5.ld3, C5.ld3]
        have := hK w5 (E4.trans he5)
        rwa [satEq, decide_eq_true h, decide_eq_true h2, decide_eq_true h3, Bool.true_and, Bool.true_and, Bool.true_and] at this
      · have := hK w5 (E4.trans he5)
        rwa [satEq, decide_eq_true h, decide_eq_true h2, decide_eq_false h3, Bool.true_and, Bool.true_and, Bool.false_and] at this
    · have := hK w4 E4
      rwa [satEq, decide_eq_true h, decide_eq_false h2, Bool.true_and, Bool.false_and] at this
  · have := hK w3 E3
    rwa [satEq, decide_eq_false h, Bool.false_and] at this
end Go.Proofs.YtpihgpfebhegmaaGreat
