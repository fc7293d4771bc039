/- Contracts of the reference's drawing: where a search is. -/
import Derived.Test.YtpihgpfebhegmaaGreatSi
import Derived.Test.YtpihgpfebhegmaaGreatDb
set_option linter.unusedVariables false
set_option linter.unusedSimpArgs false
set_option linter.unnecessarySimpa false
set_option linter.unusedSectionVars false
namespace Go.Proofs.YtpihgpfebhegmaaGreat
open Go Go.Vc Go.Proofs Go.M
variable {w : World} {K : Value → World → Prop} {F Fr F' : Nat → Prop} {many : Nat} {c : Cnf} {s : Sat}
/-- A cell that holds a state. -/
structure CellR (Z : Nat → Prop) (w : World) (b5 : Nat) (vp vw vl : Value) (es : List Value) (s : Sat) : Prop where
  blk : Blk w b5 [vp, vw, vl, .int .i64 s.code] T_impl_Sat
  cp : CpF Z w vp vw vl es s
  apart : ¬ Z b5
  up : ∀ b, w.heap.size ≤ b → Z b
  sp : s.put.length ≤ 1000
  sw : s.why.length ≤ 1000
  sl : s.learned.length ≤ 1000
section
variable {Z : Nat → Prop} {b5 : Nat} {vp vw vl : Value} {es : List Value} {w' : World}
theorem CellR.same {S : Nat → Prop} (h : CellR Z w b5 vp vw vl es s) (hw : Same S w w') (hS : ∀ b, Z b → b < w.heap.size → ¬ S b) (h5 : ¬ S b5) : CellR Z w' b5 vp vw vl es s :=
  ⟨h.blk.same hw h5, h.cp.same hw hS, h.apart, fun b hb => h.up b (Nat.le_trans hw.size hb), h.sp, h.sw, h.sl⟩
theorem CellR.ext (h : CellR Z w b5 vp vw vl es s) (hw : Ext w w') : CellR Z w' b5 vp vw vl es s := h.same hw (fun _ _ _ h => h) id
/-- A field is written back. -/
theorem CellR.st_put {vp' : Value} {xs : List Int} {R : World → Prop} (h : CellR Z w b5 vp vw vl es s) (hw : Same (fun b => vp.ownBlock = some b) w w') (hv : OwnI PP T_Lint w' vp' xs) (hn : ∀ b, vp'.ownBlock = some b → vp.ownBlock = some b ∨ w.heap.size ≤ b) (hl : xs.length ≤ 1000)
    (hK : ∀ w2, Same (fun x => Z x ∨ x = b5) w w2 → CellR Z w2 b5 vp' vw vl es { s with put := xs } → R w2) : vstore PP T_Lint (.pointer (some ⟨b5, 0, none⟩)) vp' w' fun _ w2 => R w2 := by
  have hc := h.cp.toPut hw hv hn fun b hb _ => h.up b hb
  refine (h.blk.same hw fun e => h.apart (h.cp.dp _ e).1).st hv.ints.cells1 hv.ints.one z_Lint rfl fun w2 hs2 hz2 hB2 => ?_
  exact hK w2 ((hw.mono fun x _ e => .inl (h.cp.dp x e).1).trans (hs2.mono fun x _ e => .inr e)) ⟨hB2, hc.same hs2 fun b hb _ e => h.apart (e ▸ hb), h.apart, fun b hb => h.up b (by have := hw.size; omega), hl, h.sw, h.sl⟩
theorem CellR.st_why {vw' : Value} {xs : List Int} {R : World → Prop} (h : CellR Z w b5 vp vw vl es s) (hw : Same (fun b => vw.ownBlock = some b) w w') (hv : OwnI PP T_Lint w' vw' xs) (hn : ∀ b, vw'.ownBlock = some b → vw.ownBlock = some b ∨ w.heap.size ≤ b) (hl : xs.length ≤ 1000)
    (hK : ∀ w2, Same (fun x => Z x ∨ x = b5) w w2 → CellR Z w2 b5 vp vw' vl es { s with why := xs } → R w2) : vstore PP T_Lint (.pointer (some ⟨b5, 1, none⟩)) vw' w' fun _ w2 => R w2 := by
  have hc := h.cp.toWhy hw hv hn fun b hb _ => h.up b hb
  refine (h.blk.same hw fun e => h.apart (h.cp.dw _ e).1).st hv.ints.cells1 hv.ints.one z_Lint rfl fun w2 hs2 hz2 hB2 => ?_
  exact hK w2 ((hw.mono fun x _ e => .inl (h.cp.dw x e).1).trans (hs2.mono fun x _ e => .inr e)) ⟨hB2, hc.same hs2 fun b hb _ e => h.apart (e ▸ hb), h.apart, fun b hb => h.up b (by have := hw.size; omega), h.sp, hl, h.sl⟩
/-- An element is written. -/
theorem CellR.inPut {xs : List Int} (h : CellR Z w b5 vp vw vl es s) (hw : Same (fun b => vp.ownBlock = some b) w w') (hv : OwnI PP T_Lint w' vp xs) (hl : xs.length ≤ 1000) : CellR Z w' b5 vp vw vl es { s with put := xs } :=
  ⟨h.blk.same hw fun e => h.apart (h.cp.dp _ e).1, h.cp.toPut hw hv (fun b hb => .inl hb) fun b hb _ => h.up b hb, h.apart, fun b hb => h.up b (by have := hw.size; omega), hl, h.sw, h.sl⟩
theorem CellR.inWhy {xs : List Int} (h : CellR Z w b5 vp vw vl es s) (hw : Same (fun b => vw.ownBlock = some b) w w') (hv : OwnI PP T_Lint w' vw xs) (hl : xs.length ≤ 1000) : CellR Z w' b5 vp vw vl es { s with why := xs } :=
  ⟨h.blk.same hw fun e => h.apart (h.cp.dw _ e).1, h.cp.toWhy hw hv (fun b hb => .inl hb) fun b hb _ => h.up b hb, h.apart, fun b hb => h.up b (by have := hw.size; omega), h.sp, hl, h.sl⟩
/-- `s.Put = append(s.Put, m)`, the literal being built. -/
theorem CellR.app_put {b7 : Nat} {m : Int} {R : World → Prop} (h : CellR Z w b5 vp vw vl es s) (hB : Blk w b7 [.int .i64 m] T_int) (hl : s.put.length ≤ 900)
    (hK : ∀ w2 vp', Same (fun x => Z x ∨ x = b5) w w2 → CellR Z w2 b5 vp' vw vl es { s with put := s.put ++ [m] } → R w2) : vbi PP .append [T_Lint, T_Lint] T_Lint [vp, .slice (some ⟨b7, 0, none⟩) 1 1] w fun t w1 => vstore PP T_Lint (.pointer (some ⟨b5, 0, none⟩)) t w1 fun _ w2 => R w2 :=
  h.cp.put.app1 l_Lint hB (by omega) (by omega) fun _ _ hv hs hn => h.st_put hs hv hn (by simp; omega) fun w2 a b => hK w2 _ a b
theorem CellR.app_why {b7 : Nat} {m : Int} {R : World → Prop} (h : CellR Z w b5 vp vw vl es s) (hB : Blk w b7 [.int .i64 m] T_int) (hl : s.why.length ≤ 900)
    (hK : ∀ w2 vw', Same (fun x => Z x ∨ x = b5) w w2 → CellR Z w2 b5 vp vw' vl es { s with why := s.why ++ [m] } → R w2) : vbi PP .append [T_Lint, T_Lint] T_Lint [vw, .slice (some ⟨b7, 0, none⟩) 1 1] w fun t w1 => vstore PP T_Lint (.pointer (some ⟨b5, 1, none⟩)) t w1 fun _ w2 => R w2 :=
  h.cp.why.app1 l_Lint hB (by omega) (by omega) fun _ _ hv hs hn => h.st_why hs hv hn (by simp; omega) fun w2 a b => hK w2 _ a b
end
theorem list_int (n : Nat) : n ≤ 1000 → n < 9223372036854775807 := by omega
set_option maxRecDepth 20000 in
theorem l5State_spec {b p : Nat} {v vc : Value} {xs : List Nat} {G : Nat → Prop} (h : RdR F w b v xs p) (hF : ∀ x, F x → x < w.heap.size) (hc : CnfR G w vc c) (hG : ∀ x, G x → x ≠ b) (hc0 : -9223372036854775808 ≤ c.many) (hc1 : c.many ≤ 9223372036854775807) (hp : p + 1000 < 1099511627776)
    (hK : ∀ w' v' s, Same (· = b) w w' → SatR (fun x => w.heap.size ≤ x) w' v' s → K v' w') : vcall PP n_spec_l5State #[.pointer (some ⟨b, 0, none⟩), vc] w K := by
  apply c_spec_l5State; unfold F_spec_l5State
  have lb := h.blk.lt
  have hc' := hc.below
  obtain ⟨lv, rfl, -⟩ := hc
  refine vbox_new fun b3 w1 hb3 he1 hz1 hB1 => ?_
  refine valloc_new zr_impl_Sat fun b4 w2 hb4 he2 hz2 hB2 => ?_
  have E2 := he1.trans he2
  have A2 : Blk w2 b3 [.int .i64 c.many, lv] T_impl_Cnf := hB1.ext he2
  have R2 : Blk w2 b4 [.slice none 0 0, .slice none 0 0, .slice none 0 0, .int .i64 0] T_impl_Sat := hB2
  rw [A2.ldAgg g_impl_Cnf]
  refine specCnfOk_spec (hc'.ext E2) hc0 hc1 fun w3 he3 => ?_
  have E3 := E2.trans he3
  have A3 := A2.ext he3
  have R3 := R2.ext he3
  have hz3 := he3.size
  simp only [push_cast]
  refine vif_bool (fun a => ?_) (fun a => ?_)
  · refine vbuild_str b_impl_Sat (us := []) rfl rfl ?_
    refine R3.stAgg (cs' := [.slice none 0 0, .slice none 0 0, .slice none 0 0, .int .i64 0]) rfl g_impl_Sat (fun x hx => by simp only [List.mem_cons, List.not_mem_nil, or_false] at hx; rcases hx with rfl | rfl | rfl | rfl <;> rfl) fun w4 hs4 hz4 hB4 => ?_
    rw [hB4.lv g_impl_Sat]
    exact hK w4 _ emptyS (Same.of_ext (Ext.then E3 hs4 fun x hx => by omega)) ⟨_, _, _, rfl, Ints_nil, Ints_nil, Lists_nil⟩
  have hok : cnfOk c = true := by simpa using a
  obtain ⟨m0, m7, -, -⟩ := cnfOk_iff.1 hok
  have hcm : c.many = (c.many.toNat : Int) := by omega
  generalize hmm : c.many.toNat = M at hcm
  refine vdraw_ext fun w4 he4 _ => ?_
  have E4 := E3.trans he4
  have A4 := A3.ext he4
  have R4 := R3.ext he4
  have hz4 := E4.size
  simp (disch := (simp only [push_cast]; done)) only [push_cast, A4.ldAgg g_impl_Cnf, true_and]
  have hR4 := h.ext E4
  have hc4 := hc'.ext E4
  have l3 := A4.lt
  have l4 := R4.lt
  refine ⟨fun d u w' => Same (· = b) w4 w' ∧ (∃ p', p' ≤ p + 1 ∧ (¬ d 3 → p' = p) ∧ RdR F w' b v xs p') ∧ ∃ o : Option Nat, (∀ x, o = some x → w4.heap.size ≤ x ∧ x < w'.heap.size) ∧
      (d 2 → Ints (fun x => w4.heap.size ≤ x ∧ o ≠ some x) w' (sl 1 u) [2, 5, 9, 14, 20, 30, 50, 1, 0]) ∧ (d 3 → ∃ n : Nat, n ≤ 50 ∧ sl 2 u = .int .i64 n) ∧
      (d 4 → ∃ n, SatR (fun x => w4.heap.size ≤ x ∧ o ≠ some x) w' (sl 3 u) (runM M c n emptyS)) ∧
      (d 5 → ∃ n vp vw vl es, sl 4 u = .agg #[vp, vw, vl, .int .i64 (runM M c n emptyS).code] ∧ CpF (fun x => w4.heap.size ≤ x ∧ o ≠ some x) w' vp vw vl es (runM M c n emptyS) ∧
        (d 7 → ∀ b5, o = some b5 → Blk w' b5 [vp, vw, vl, .int .i64 (runM M c n emptyS).code] T_impl_Sat)) ∧
      (d 6 → ∃ b5, o = some b5 ∧ sl 0 u = .pointer (some ⟨b5, 0, none⟩) ∧ (¬ d 7 → Blk w' b5 [.slice none 0 0, .slice none 0 0, .slice none 0 0, .int .i64 0] T_impl_Sat)) ∧ (¬ d 6 → o = none) ∧ (d 7 → d 6 ∧ d 5),
    ⟨Same.refl _ _, ⟨p, by omega, fun _ => rfl, hR4⟩, none, by simp, by simp, by simp, by simp, by simp, by simp, by simp, by simp⟩, ?_⟩
  rintro d u _ w5 ⟨hs5, ⟨p5, hp5, hp5', hR5⟩, o, ho, h2, h3, h4, h5, h6, h6n, h7⟩
  generalize sl 0 u = a0 at *
  generalize sl 1 u = a1 at *
  generalize sl 2 u = a2 at *
  generalize sl 3 u = a3 at *
  generalize sl 4 u = a4 at *
  have hz5 := hs5.size
  have A5 := A4.same hs5 (by omega)
  have R5 := R4.same hs5 (by omega)
  have hc5 := hc4.same hs5 fun x hx _ e => by have := hG x hx.1; omega
  simp (disch := (simp only [push_cast]; done)) only [push_cast, A5.ldAgg g_impl_Cnf, true_and, and_self]
  -- what a new block does not touch
  have keep : ∀ {w6 : World} (_ : Same (· = b) w5 w6) (o' : Option Nat) (_ : ∀ x, o' = some x → o = some x ∨ w5.heap.size ≤ x), ∀ x, (w4.heap.size ≤ x ∧ o ≠ some x) → x < w5.heap.size → (w4.heap.size ≤ x ∧ o' ≠ some x) := fun _ o' ho' x hx hl => ⟨hx.1, fun e => by
    rcases ho' x e with e2 | e2
    · exact hx.2 e2
    · omega⟩
  refine ⟨⟨fun n2 => ?_, fun n3 p2 => ?_, fun n4 p3 _ => ?_, fun n5 p4 _ => ?_, fun n6 => ?_, fun n7 p6 p5' _ _ _ _ _ _ => ?_, trivial⟩, fun p2 p3 p4 p5' p6 p7 => ?_⟩
  · refine vbuildS_ints (xs := [2, 5, 9, 14, 20, 30, 50, 1, 0]) (by simp) fun b6 w6 hb6 he6 hz6 hI6 _ => ?_
    refine ⟨hs5.trans (Same.of_ext he6), ⟨p5, hp5, fun e => hp5' fun e2 => e (.inr e2), hR5.ext he6⟩, o, fun x hx => ⟨(ho x hx).1, by have := (ho x hx).2; omega⟩, fun _ => ?_, fun q => by simpa [sl2] using h3 (by simpa using q), fun q => ?_, fun q => ?_, fun q => ?_, fun q => h6n fun e => q (.inr e), fun q => by simpa using h7 (by simpa using q)⟩
    · exact hI6.weaken fun x hx _ => ⟨by omega, fun e => by have := (ho x e).2; omega⟩
    · obtain ⟨n, hn⟩ := h4 (by simpa using q); exact ⟨n, hn.ext he6⟩
    · obtain ⟨n, vp, vw, vl, es, e1, e2, e3⟩ := h5 (by simpa using q)
      exact ⟨n, vp, vw, vl, es, e1, e2.ext he6, fun q7 b5 hb5 => (e3 (by simpa using q7) b5 hb5).ext he6⟩
    · obtain ⟨b5, e1, e2, e3⟩ := h6 (by simpa using q)
      exact ⟨b5, e1, e2, fun q7 => (e3 (by simpa using q7)).ext he6⟩
  · have hI := h2 p2
    obtain rfl : p5 = p := hp5' n3
    refine num_spec hR5 hI (by simp) (by simp) (by omega) (fun x hx => by omega) fun w6 m hs6 hz6 hR6 hm => ?_
    have hmb : 0 ≤ m ∧ m ≤ 50 := by simp at hm; omega
    refine ⟨hs5.trans hs6, ⟨p5 + 1, by omega, by simp, hR6⟩, o, fun x hx => ⟨(ho x hx).1, by have := (ho x hx).2; omega⟩, fun _ => ?_, fun _ => ⟨m.toNat, by omega, ?_⟩, fun q => ?_, fun q => ?_, fun q => ?_, fun q => h6n fun e => q (.inr e), fun q => by simpa using h7 (by simpa using q)⟩
    · exact hI.same hs6 fun x hx _ e => by omega
    · show Value.int .i64 m = _; rw [Int.toNat_of_nonneg hmb.1]
    · obtain ⟨n, hn⟩ := h4 (by simpa using q); exact ⟨n, hn.same hs6 fun x hx _ e => by omega⟩
    · obtain ⟨n, vp, vw, vl, es, e1, e2, e3⟩ := h5 (by simpa using q)
      exact ⟨n, vp, vw, vl, es, e1, e2.same hs6 fun x hx _ e => by omega, fun q7 b5 hb5 => (e3 (by simpa using q7) b5 hb5).same hs6 (by have := ho _ hb5; omega)⟩
    · obtain ⟨b5, e1, e2, e3⟩ := h6 (by simpa using q)
      exact ⟨b5, e1, e2, fun q7 => (e3 (by simpa using q7)).same hs6 (by have := ho _ e1; omega)⟩
  · obtain ⟨n, hn, rfl⟩ := h3 p3
    refine l5Run_spec (many := M) (n := n) hc5 hok hcm (by omega) fun w6 v6 he6 hv6 => ?_
    refine ⟨hs5.trans (Same.of_ext he6), ⟨p5, hp5, fun e => hp5' fun e2 => e (.inr e2), hR5.ext he6⟩, o, fun x hx => ⟨(ho x hx).1, by have := (ho x hx).2; have := he6.size; omega⟩, fun q => ?_, fun _ => ⟨n, hn, rfl⟩, fun _ => ⟨n, ?_⟩, fun q => ?_, fun q => ?_, fun q => h6n fun e => q (.inr e), fun q => by simpa using h7 (by simpa using q)⟩
    · exact (h2 (by simpa using q)).ext he6
    · exact hv6.sat.weaken fun x hx _ => ⟨by omega, fun e => by have := (ho x e).2; omega⟩
    · obtain ⟨n, vp, vw, vl, es, e1, e2, e3⟩ := h5 (by simpa using q)
      exact ⟨n, vp, vw, vl, es, e1, e2.ext he6, fun q7 b5 hb5 => (e3 (by simpa using q7) b5 hb5).ext he6⟩
    · obtain ⟨b5, e1, e2, e3⟩ := h6 (by simpa using q)
      exact ⟨b5, e1, e2, fun q7 => (e3 (by simpa using q7)).ext he6⟩
  · obtain ⟨n, hn⟩ := h4 p4
    obtain ⟨r1, r2, r3, r4⟩ := run_few (n := n) hok hcm
    refine l5Copy_own hn (by omega) (by omega) (by omega) (fun x hx => by have := r4 x hx; omega) fun w6 vp vw vl es he6 hv6 => ?_
    refine ⟨hs5.trans (Same.of_ext he6), ⟨p5, hp5, fun e => hp5' fun e2 => e (.inr e2), hR5.ext he6⟩, o, fun x hx => ⟨(ho x hx).1, by have := (ho x hx).2; have := he6.size; omega⟩, fun q => ?_, fun q => by simpa [sl2] using h3 (by simpa using q), fun _ => ⟨n, hn.ext he6⟩, fun q => ⟨n, vp, vw, vl, es, rfl, ?_, fun q7 => ?_⟩, fun q => ?_, fun q => h6n fun e => q (.inr e), fun q => ?_⟩
    · exact (h2 (by simpa using q)).ext he6
    · exact hv6.weaken fun x hx _ => ⟨by omega, fun e => by have := (ho x e).2; omega⟩
    · exact absurd (h7 (by simpa using q7)).2 n5
    · obtain ⟨b5, e1, e2, e3⟩ := h6 (by simpa using q)
      exact ⟨b5, e1, e2, fun q7 => (e3 (by simpa using q7)).ext he6⟩
    · exact absurd (h7 (by simpa using q)).2 n5
  · refine valloc_new zr_impl_Sat fun b5 w6 hb5 he6 hz6 hB6 => ?_
    have hon := h6n n6
    have up : ∀ x, (w4.heap.size ≤ x ∧ o ≠ some x) → x < w5.heap.size → (w4.heap.size ≤ x ∧ some b5 ≠ some x) := fun x hx hl => ⟨hx.1, fun e => by have := Option.some.inj e; omega⟩
    have n7 : ¬ d 7 := fun q => n6 (h7 q).1
    refine ⟨hs5.trans (Same.of_ext he6), ⟨p5, hp5, fun e => hp5' fun e2 => e (.inr e2), hR5.ext he6⟩, some b5, fun x hx => ?_, fun q => ?_, fun q => by simpa [sl2] using h3 (by simpa using q), fun q => ?_, fun q => ?_, fun q => ⟨b5, rfl, rfl, fun _ => hB6⟩, fun q => absurd (.inl trivial) q, fun q => absurd (by simpa using q) n7⟩
    · have := Option.some.inj hx; have := hB6.lt; omega
    · exact ((h2 (by simpa using q)).weaken up).ext he6
    · obtain ⟨n, hn⟩ := h4 (by simpa using q); exact ⟨n, (hn.weaken up).ext he6⟩
    · obtain ⟨n, vp, vw, vl, es, e1, e2, e3⟩ := h5 (by simpa using q)
      exact ⟨n, vp, vw, vl, es, e1, (e2.weaken up).ext he6, fun q7 => absurd (by simpa using q7) n7⟩
  · obtain ⟨n, vp, vw, vl, es, rfl, e2, -⟩ := h5 p5'
    obtain ⟨b5, e1, rfl, e3⟩ := h6 p6
    refine (e3 n7).stAgg (cs' := [vp, vw, vl, .int .i64 (runM M c n emptyS).code]) rfl g_impl_Sat (fun x hx => ?_) fun w6 hs6 hz6 hB6 => ?_
    · simp only [List.mem_cons, List.not_mem_nil, or_false] at hx
      rcases hx with rfl | rfl | rfl | rfl
      · exact e2.put.ints.one
      · exact e2.why.ints.one
      · exact e2.lst.vals.one
      · rfl
    have hb5 := ho b5 e1
    refine ⟨?_, ⟨p5, hp5, fun e => hp5' fun e2 => e (.inr e2), hR5.same hs6 (by omega) fun x hx _ e => by have := hF x hx; omega⟩, o, fun x hx => ⟨(ho x hx).1, by have := (ho x hx).2; omega⟩, fun q => ?_, fun q => by simpa [sl2] using h3 (by simpa using q), fun q => ?_, fun q => ⟨n, vp, vw, vl, es, rfl, e2.same hs6 fun x hx _ e => hx.2 (e ▸ e1), fun _ b5' hb5' => ?_⟩, fun q => ⟨b5, e1, rfl, fun q7 => absurd (.inl trivial) q7⟩, fun q => h6n fun e => q (.inr e), fun q => ⟨.inr p6, .inr p5'⟩⟩
    · refine ⟨hs6.os.trans hs5.os, hs6.tape.trans hs5.tape, hs6.output.trans hs5.output, by omega, fun x hx hn => ?_⟩
      rw [hs6.block x (by omega) (by omega), hs5.block x hx hn]
    · exact (h2 (by simpa using q)).same hs6 fun x hx _ e => hx.2 (e ▸ e1)
    · obtain ⟨n', hn'⟩ := h4 (by simpa using q); exact ⟨n', hn'.same hs6 fun x hx _ e => hx.2 (e ▸ e1)⟩
    · obtain rfl : b5 = b5' := Option.some.inj (e1.symm.trans hb5')
      exact hB6
  · obtain ⟨n, vp, vw, vl, es, rfl, e2, e3⟩ := h5 p5'
    obtain ⟨b5, e1, rfl, -⟩ := h6 p6
    have hb5 := ho b5 e1
    have C0 := e3 p7 b5 e1
    clear h2 h3 h4 h5 h6 h6n h7 hp5' keep p2 p3 p4 p5' p6 p7 R4 A4 hc4
    obtain ⟨r1, r2, r3, -⟩ := run_few (n := n) hok hcm
    have hlen := (run_ok (n := n) hcm (empty_ok hok)).len
    generalize runM M c n emptyS = s at *
    have ob : ∀ x, o ≠ some x ↔ x ≠ b5 := fun x => by rw [e1]; exact ⟨fun h e => h (by rw [e]), fun h e => h (Option.some.inj e).symm⟩
    have D5 : CellR (fun x => w4.heap.size ≤ x ∧ x ≠ b5) w5 b5 vp vw vl es s := ⟨C0, e2.weaken fun x hx _ => ⟨hx.1, (ob x).1 hx.2⟩, fun hx => hx.2 rfl, fun x hx => ⟨by omega, by omega⟩, by omega, by omega, by omega⟩
    have hpi := D5.cp.put.ints
    simp (disch := (simp only [push_cast]; done)) only [push_cast, D5.blk.ld0, hpi.len]
    refine vjoin_of (fun _ w' => Same (· = b) w4 w' ∧ Blk w' b4 [.slice none 0 0, .slice none 0 0, .slice none 0 0, .int .i64 0] T_impl_Sat ∧ ∃ vp vw vl es s, CellR (fun x => w4.heap.size ≤ x ∧ x ≠ b5) w' b5 vp vw vl es s) ?_ ?_
    · intro J hJ
      refine pick_spec hR5 (by omega) (by omega) fun w6 k hs6 hz6 hR6 _ _ => ?_
      have D6 := D5.same hs6 (fun x hx _ e => by have := hx.1; omega) (by omega)
      have A6 := A5.same hs6 (by omega)
      have R6 := R5.same hs6 (by omega)
      have hsw := hs5.trans hs6
      -- what comes back to the join
      have done : ∀ (w' : World) {vp vw vl : Value} {es : List Value} {s : Sat}, Same (fun x => x = b ∨ w4.heap.size ≤ x) w6 w' → CellR (fun x => w4.heap.size ≤ x ∧ x ≠ b5) w' b5 vp vw vl es s → J [] w' := fun w' {vp vw vl es s} hs hD => by
        refine hJ _ _ ⟨⟨hs.os.trans hsw.os, hs.tape.trans hsw.tape, hs.output.trans hsw.output, Nat.le_trans hsw.size hs.size, fun x hx hn => ?_⟩, R6.same hs (by omega), vp, vw, vl, es, s, hD⟩
        rw [hs.block x (Nat.lt_of_lt_of_le hx hsw.size) (fun e => e.elim hn fun e => by omega), hsw.block x hx hn]
      have upS : ∀ {w1 w2 : World}, Same (fun x => (w4.heap.size ≤ x ∧ x ≠ b5) ∨ x = b5) w1 w2 → Same (fun x => x = b ∨ w4.heap.size ≤ x) w1 w2 := fun h => h.mono fun x _ e => e.elim (fun e => .inr e.1) (fun e => .inr (by omega))
      have upE : ∀ {w1 w2 : World}, Ext w1 w2 → Same (fun x => x = b ∨ w4.heap.size ≤ x) w1 w2 := fun h => Same.of_ext h
      have upB : ∀ {w1 w2 : World}, Same (· = b) w1 w2 → Same (fun x => x = b ∨ w4.heap.size ≤ x) w1 w2 := fun h => h.mono fun x _ e => .inl e
      have rd : ∀ {w1 w2 : World} {q : Nat}, Same (fun x => (w4.heap.size ≤ x ∧ x ≠ b5) ∨ x = b5) w1 w2 → RdR F w1 b v xs q → RdR F w2 b v xs q := fun h hR => hR.same h (by omega) fun x hx _ e => by have := hF x hx; rcases e with e | e <;> omega
      have cb : ∀ {w1 w2 : World} {vp vw vl : Value} {es : List Value} {s : Sat}, Same (· = b) w1 w2 → CellR (fun x => w4.heap.size ≤ x ∧ x ≠ b5) w1 b5 vp vw vl es s → CellR (fun x => w4.heap.size ≤ x ∧ x ≠ b5) w2 b5 vp vw vl es s := fun h hD => hD.same h (fun x hx _ e => by have := hx.1; omega) (by omega)
      have hz6' : w5.heap.size ≤ w6.heap.size := hs6.size
      simp only [push_cast]
      refine vif_dec (fun _ => ?_) (fun _ => vif_dec (fun _ => ?_) (fun _ => vif_dec (fun _ => ?_) (fun _ => vif_dec (fun _ => ?_) (fun _ => vif_dec (fun _ => ?_) (fun _ => vif_dec (fun _ => ?_) (fun _ => vif_dec (fun _ => ?_) (fun _ => vif_dec (fun _ => ?_) (fun _ => ?_))))))))
      · refine vbuildS_ints (xs := [-1, 1, 3, 4, 2]) (by simp) fun b7 w7 hb7 he7 hz7 hI7 _ => ?_
        refine num_spec (hR6.ext he7) hI7 (by simp) (by simp) (by omega) (fun x hx => by omega) fun w8 m hs8 hz8 hR8 _ => ?_
        have D8 := cb hs8 (D6.ext he7)
        refine D8.blk.st rfl rfl z_int rfl fun w9 hs9 hz9 hB9 => ?_
        exact done (s := { s with code := m }) w9 ((upE he7).trans ((upB hs8).trans (hs9.mono fun x _ e => .inr (by omega)))) ⟨hB9, (D8.cp.same hs9 fun x hx _ e => hx.2 e).code m, D8.apart, fun x hx => D8.up x (by omega), D8.sp, D8.sw, D8.sl⟩
      · refine vdraw_ext fun w7 he7 _ => ?_
        have D7 := D6.ext he7
        simp (disch := (simp only [push_cast]; done)) only [push_cast, D7.blk.ld0, true_and, and_self]
        refine vbuildS_ints (xs := [0, 9, 1, -1, -9223372036854775808]) (by simp) fun b8 w8 hb8 he8 hz8 hI8 _ => ?_
        have D8 := D7.ext he8
        simp (disch := (simp only [push_cast]; done)) only [push_cast, D8.blk.ld0, true_and, and_self]
        have hz7 := he7.size
        refine num_spec ((hR6.ext he7).ext he8) hI8 (by simp) (by simp) (by omega) (fun x hx => by omega) fun w9 m hs9 hz9 hR9 _ => ?_
        have D9 := cb hs9 D8
        simp (disch := (simp only [push_cast]; done)) only [push_cast, D9.blk.ld0, true_and, and_self]
        refine vbuildS_one u_Lint z_int zr_int rfl rfl fun b10 w10 hb10 he10 hz10 hB10 => ?_
        have D10 := D9.ext he10
        simp (disch := (simp only [push_cast]; done)) only [push_cast, D10.blk.ld0, true_and, and_self]
        refine D10.app_put hB10 (by omega) fun w11 vp' hs11 D11 => ?_
        refine vdraw_ext fun w12 he12 _ => ?_
        have D12 := D11.ext he12
        simp (disch := (simp only [push_cast]; done)) only [push_cast, D12.blk.ld1, true_and, and_self]
        refine vbuildS_ints (xs := [-1, 0, -2, 99]) (by simp) fun b13 w13 hb13 he13 hz13 hI13 _ => ?_
        have D13 := D12.ext he13
        simp (disch := (simp only [push_cast]; done)) only [push_cast, D13.blk.ld1, true_and, and_self]
        have hz11 := hs11.size
        have hz12 := he12.size
        refine num_spec (((rd hs11 (hR9.ext he10)).ext he12).ext he13) hI13 (by simp) (by simp) (by omega) (fun x hx => by omega) fun w14 m2 hs14 hz14 hR14 _ => ?_
        have D14 := cb hs14 D13
        simp (disch := (simp only [push_cast]; done)) only [push_cast, D14.blk.ld1, true_and, and_self]
        refine vbuildS_one u_Lint z_int zr_int rfl rfl fun b15 w15 hb15 he15 hz15 hB15 => ?_
        have D15 := D14.ext he15
        simp (disch := (simp only [push_cast]; done)) only [push_cast, D15.blk.ld1, true_and, and_self]
        refine D15.app_why hB15 (show s.why.length ≤ 900 by omega) fun w16 vw' hs16 D16 => ?_
        exact done w16 ((upE (he7.trans he8)).trans ((upB hs9).trans ((upE he10).trans ((upS hs11).trans ((upE (he12.trans he13)).trans ((upB hs14).trans ((upE he15).trans (upS hs16)))))))) D16
      · simp (disch := (simp only [push_cast]; done)) only [push_cast, D6.blk.ld1]
        refine vbuildS_one u_Lint z_int zr_int rfl rfl fun b7 w7 hb7 he7 hz7 hB7 => ?_
        have D7 := D6.ext he7
        refine D7.app_why hB7 (by omega) fun w8 vw' hs8 D8 => ?_
        exact done w8 ((upE he7).trans (upS hs8)) D8
      · refine vdraw_ext fun w7 he7 _ => ?_
        have D7 := D6.ext he7
        simp (disch := (simp only [push_cast]; done)) only [push_cast, D7.blk.ld2, true_and, and_self]
        refine pick_spec (hR6.ext he7) (by omega) (by omega) fun w8 k8 hs8 hz8 hR8 _ _ => ?_
        have D8 := cb hs8 D7
        simp (disch := (simp only [push_cast]; done)) only [push_cast, D8.blk.ld2, true_and, and_self]
        refine vbuildS_one u_Lint z_int zr_int rfl rfl fun b9 w9 hb9 he9 hz9 hB9 => ?_
        have D9 := D8.ext he9
        simp (disch := (simp only [push_cast]; done)) only [push_cast, D9.blk.ld2, true_and, and_self]
        refine vbuildS_one u_LLint z_Lint zr_Lint rfl rfl fun b10 w10 hb10 he10 hz10 hB10 => ?_
        have D10 := D9.ext he10
        simp (disch := (simp only [push_cast]; done)) only [push_cast, D10.blk.ld2, true_and, and_self]
        have hlen := D10.cp.len
        refine D10.cp.lst.app1 l_LLint hB10 rfl (by omega) (by omega) fun vl' w11 hv11 hs11 hn11 => ?_
        have hz9' := D8.blk.lt
        have hC := D10.cp.toLearned (N := b9) (x := .slice (some ⟨b9, 0, none⟩) 1 1) (xs := [IntKind.i64.wrap ((k8 : Int) - 1)]) hs11 hv11 hn11 (fun x hx _ => ⟨by have := he7.size; omega, by omega⟩) (((show Ints (· = b9) w9 (.slice (some ⟨b9, 0, none⟩) 1 1) [IntKind.i64.wrap ((k8 : Int) - 1)] from hB9.sl1 rfl (by simp)).weaken (F' := fun x => b9 ≤ x ∧ x < w10.heap.size) fun x hx hl => ⟨by omega, by omega⟩).ext he10) (by omega)
          fun x hx => ⟨fun e => by have := D8.cp.put.lt e; omega, fun e => by have := D8.cp.why.lt e; omega, fun e => by have := D8.cp.lst.lt e; omega⟩
        refine ((D10.blk.same hs11 fun e => D10.apart (D10.cp.dl _ e)).st hv11.vals.cells1 hv11.vals.one z_LLint rfl) fun w12 hs12 hz12 hB12 => ?_
        exact done (s := { s with learned := s.learned ++ [[IntKind.i64.wrap ((k8 : Int) - 1)]] }) w12 ((upE he7).trans ((upB hs8).trans ((upE (he9.trans he10)).trans ((hs11.mono fun x _ e => .inr (D10.cp.dl x e).1).trans (hs12.mono fun x _ e => .inr (by omega)))))) ⟨hB12, hC.same hs12 fun x hx _ e => hx.2 e, D10.apart, fun x hx => D10.up x (by have := hs11.size; omega), D10.sp, D10.sw, by have := D6.sl; show (s.learned ++ _).length ≤ 1000; rw [List.length_append]; simp only [List.length_cons, List.length_nil]; omega⟩
      · refine vif_dec (fun a4 => ?_) (fun _ => done w6 (Same.refl _ _) D6)
        refine vdraw_ext fun w7 he7 _ => ?_
        have D7 := D6.ext he7
        have hz7 := he7.size
        simp (disch := (simp only [push_cast]; done)) only [push_cast, D7.blk.ld0, true_and, and_self]
        -- the write, in either order
        have wrt : ∀ (w9 : World) (k : Nat) (m : Int), Same (fun x => x = b ∨ w4.heap.size ≤ x) w6 w9 → k < s.put.length → CellR (fun x => w4.heap.size ≤ x ∧ x ≠ b5) w9 b5 vp vw vl es s → viaddr PP T_Lint vp (.int .i64 k) w9 fun t76 w_73 => w_73 = w9 ∧ (vstore PP T_int t76 (.int .i64 m) w9 fun _ w_74 => J [] w_74) := fun w9 k m hS hk D9 => by
          have hpi := D9.cp.put.ints
          simp (disch := first | (simp only [push_cast]; done) | omega) only [push_cast, hpi.iaddr, true_and]
          refine D9.cp.put.st z_int (by omega) fun w10 hv10 hs10 hz10 => ?_
          exact done w10 (hS.trans (hs10.mono fun x _ e => .inr (D9.cp.dp x e).1.1)) (D9.inPut hs10 hv10 (by simp; omega))
        refine ⟨?_, ?_, trivial⟩
        · refine pick_spec (hR6.ext he7) (by omega) (by omega) fun w8 k8 hs8 hz8 hR8 hk8 _ => ?_
          have D8 := cb hs8 D7
          simp (disch := (simp only [push_cast]; done)) only [push_cast, D8.blk.ld0, true_and, and_self, and_true]
          refine vbuildS_ints (xs := [1, -1, 2]) (by simp) fun b9 w9 hb9 he9 hz9 hI9 _ => ?_
          have D9 := D8.ext he9
          simp (disch := (simp only [push_cast]; done)) only [push_cast, D9.blk.ld0, true_and, and_self, and_true]
          refine num_spec (hR8.ext he9) hI9 (by simp) (by simp) (by omega) (fun x hx => by omega) fun w10 m hs10 hz10 hR10 _ => ?_
          have D10 := cb hs10 D9
          simp (disch := (simp only [push_cast]; done)) only [push_cast, D10.blk.ld0, true_and, and_self, and_true]
          have := wrt w10 k8 m ((upE he7).trans ((upB hs8).trans ((upE he9).trans (upB hs10)))) (by have := hk8 (by omega); omega) D10
          simpa only [and_true] using this
        · refine vbuildS_ints (xs := [1, -1, 2]) (by simp) fun b8 w8 hb8 he8 hz8 hI8 _ => ?_
          have D8 := D7.ext he8
          simp (disch := (simp only [push_cast]; done)) only [push_cast, D8.blk.ld0, true_and, and_self, and_true]
          refine pick_spec ((hR6.ext he7).ext he8) (by omega) (by omega) fun w9 k9 hs9 hz9 hR9 hk9 _ => ?_
          have D9 := cb hs9 D8
          have hI9 := hI8.same hs9 fun x hx _ e => by omega
          simp (disch := (simp only [push_cast]; done)) only [push_cast, D9.blk.ld0, true_and, and_self, and_true]
          refine num_spec hR9 hI9 (by simp) (by simp) (by omega) (fun x hx => by omega) fun w10 m hs10 hz10 hR10 _ => ?_
          have D10 := cb hs10 D9
          simp (disch := (simp only [push_cast]; done)) only [push_cast, D10.blk.ld0, true_and, and_self, and_true]
          have := wrt w10 k9 m ((upE (he7.trans he8)).trans ((upB hs9).trans (upB hs10))) (by have := hk9 (by omega); omega) D10
          simpa only [and_true] using this
      · refine vif_dec (fun a4 => ?_) (fun _ => done w6 (Same.refl _ _) D6)
        refine vdraw_ext fun w7 he7 _ => ?_
        have D7 := D6.ext he7
        have hz7 := he7.size
        simp (disch := (simp only [push_cast]; done)) only [push_cast, D7.blk.ld1, true_and, and_self]
        -- the write, in either order
        have wrt : ∀ (w9 : World) (k : Nat) (m : Int), Same (fun x => x = b ∨ w4.heap.size ≤ x) w6 w9 → k < s.put.length → CellR (fun x => w4.heap.size ≤ x ∧ x ≠ b5) w9 b5 vp vw vl es s → viaddr PP T_Lint vw (.int .i64 k) w9 fun t76 w_73 => w_73 = w9 ∧ (vstore PP T_int t76 (.int .i64 m) w9 fun _ w_74 => J [] w_74) := fun w9 k m hS hk D9 => by
          have hpi := D9.cp.why.ints
          simp (disch := first | (simp only [push_cast]; done) | omega) only [push_cast, hpi.iaddr, true_and]
          refine D9.cp.why.st z_int (by omega) fun w10 hv10 hs10 hz10 => ?_
          exact done w10 (hS.trans (hs10.mono fun x _ e => .inr (D9.cp.dw x e).1.1)) (D9.inWhy hs10 hv10 (by simp; omega))
        refine ⟨?_, ?_, trivial⟩
        · refine pick_spec (hR6.ext he7) (by omega) (by omega) fun w8 k8 hs8 hz8 hR8 hk8 _ => ?_
          have D8 := cb hs8 D7
          simp (disch := (simp only [push_cast]; done)) only [push_cast, D8.blk.ld1, true_and, and_self, and_true]
          refine vbuildS_ints (xs := [-1, 0, 1, -2]) (by simp) fun b9 w9 hb9 he9 hz9 hI9 _ => ?_
          have D9 := D8.ext he9
          simp (disch := (simp only [push_cast]; done)) only [push_cast, D9.blk.ld1, true_and, and_self, and_true]
          refine num_spec (hR8.ext he9) hI9 (by simp) (by simp) (by omega) (fun x hx => by omega) fun w10 m hs10 hz10 hR10 _ => ?_
          have D10 := cb hs10 D9
          simp (disch := (simp only [push_cast]; done)) only [push_cast, D10.blk.ld1, true_and, and_self, and_true]
          have := wrt w10 k8 m ((upE he7).trans ((upB hs8).trans ((upE he9).trans (upB hs10)))) (by have := hk8 (by omega); omega) D10
          simpa only [and_true] using this
        · refine vbuildS_ints (xs := [-1, 0, 1, -2]) (by simp) fun b8 w8 hb8 he8 hz8 hI8 _ => ?_
          have D8 := D7.ext he8
          simp (disch := (simp only [push_cast]; done)) only [push_cast, D8.blk.ld1, true_and, and_self, and_true]
          refine pick_spec ((hR6.ext he7).ext he8) (by omega) (by omega) fun w9 k9 hs9 hz9 hR9 hk9 _ => ?_
          have D9 := cb hs9 D8
          have hI9 := hI8.same hs9 fun x hx _ e => by omega
          simp (disch := (simp only [push_cast]; done)) only [push_cast, D9.blk.ld1, true_and, and_self, and_true]
          refine num_spec hR9 hI9 (by simp) (by simp) (by omega) (fun x hx => by omega) fun w10 m hs10 hz10 hR10 _ => ?_
          have D10 := cb hs10 D9
          simp (disch := (simp only [push_cast]; done)) only [push_cast, D10.blk.ld1, true_and, and_self, and_true]
          have := wrt w10 k9 m ((upE (he7.trans he8)).trans ((upB hs9).trans (upB hs10))) (by have := hk9 (by omega); omega) D10
          simpa only [and_true] using this
      · refine vif_dec (fun a6 => ?_) (fun _ => done w6 (Same.refl _ _) D6)
        have e1 : IntKind.i64.wrap ((s.put.length : Int) - 1) = ((s.put.length - 1 : Nat) : Int) := by rw [wrap64 (by omega) (by omega)]; omega
        simp (disch := (simp only [push_cast]; done)) only [push_cast, D6.blk.ld0, e1]
        rw [D6.cp.put.cut e_Lint (by omega)]
        refine D6.st_put (Same.refl _ _) (D6.cp.put.taken (n := s.put.length - 1) (by omega)) (fun x hx => .inl (by rwa [cutV_own] at hx)) (by simp; omega) fun w7 hs7 D7 => ?_
        simp (disch := (simp only [push_cast]; done)) only [push_cast, D7.blk.ld1, e1]
        rw [D7.cp.why.cut e_Lint (n := s.put.length - 1) (by show _ ≤ s.why.length; omega)]
        refine D7.st_why (Same.refl _ _) (D7.cp.why.taken (n := s.put.length - 1) (by show _ ≤ s.why.length; omega)) (fun x hx => .inl (by rwa [cutV_own] at hx)) (by simp; omega) fun w8 hs8 D8 => ?_
        exact done w8 ((upS hs7).trans (upS hs8)) D8
      · simp (disch := (simp only [push_cast]; done)) only [push_cast, D6.blk.ld0, A6.ld0]
        refine vbuildS_one u_Lint z_int zr_int rfl rfl fun b7 w7 hb7 he7 hz7 hB7 => ?_
        have D7 := D6.ext he7
        refine D7.app_put hB7 (by omega) fun w8 vp' hs8 D8 => ?_
        simp (disch := (simp only [push_cast]; done)) only [push_cast, D8.blk.ld1]
        refine vbuildS_one u_Lint z_int zr_int rfl rfl fun b9 w9 hb9 he9 hz9 hB9 => ?_
        have D9 := D8.ext he9
        refine D9.app_why hB9 (show s.why.length ≤ 900 by omega) fun w10 vw' hs10 D10 => ?_
        exact done w10 ((upE he7).trans ((upS hs8).trans ((upE he9).trans (upS hs10)))) D10
      · exact done w6 (Same.refl _ _) D6
    rintro _ _ w6 ⟨hs6, R6, vp, vw, vl, es, s, D6⟩
    have hone := D6.cp.spr.sat.fields
    obtain ⟨p', y', l', e, hone⟩ := hone
    obtain ⟨rfl, rfl, rfl⟩ : vp = p' ∧ vw = y' ∧ vl = l' := by simpa using e
    rw [D6.blk.ldAgg g_impl_Sat]
    refine R6.stAgg (cs' := [vp, vw, vl, .int .i64 s.code]) rfl g_impl_Sat hone fun w7 hs7 hz7 hB7 => ?_
    rw [hB7.lv g_impl_Sat]
    refine hK w7 _ s ⟨hs7.os.trans (hs6.os.trans E4.os), hs7.tape.trans (hs6.tape.trans E4.tape), hs7.output.trans (hs6.output.trans E4.output), by have := hs6.size; omega, fun x hx hn => ?_⟩ ((D6.cp.spr.sat.same hs7 fun x hx _ e => by have := hx.1; omega).weaken fun x hx _ => by have := hx.1; omega)
    rw [hs7.block x (by have := hs6.size; omega) (by omega), hs6.block x (by omega) hn, E4.block x hx id]
theorem l5Some_spec {b p : Nat} {v : Value} {xs : List Nat} (h : RdR F w b v xs p) (hF : ∀ x, F x → x < w.heap.size) (hp : p + 500000 < 1099511627776)
    (hK : ∀ w' vc vs c s, Same (· = b) w w' → CnfR (fun x => w.heap.size ≤ x) w' vc c → SatR (fun x => w.heap.size ≤ x) w' vs s → -9223372036854775808 ≤ c.many → c.many ≤ 9223372036854775807 → K (.tuple #[vc, vs]) w') :
    vcall PP n_spec_l5Some #[.pointer (some ⟨b, 0, none⟩)] w K := by
  apply c_spec_l5Some; unfold F_spec_l5Some
  have lb := h.blk.lt
  refine valloc_new zr_impl_Cnf fun b2 w1 hb2 he1 hz1 hB1 => ?_
  refine valloc_new zr_impl_Sat fun b3 w2 hb3 he2 hz2 hB2 => ?_
  have R2 : Blk w2 b2 [.int .i64 0, .slice none 0 0] T_impl_Cnf := hB1.ext he2
  have Q2 : Blk w2 b3 [.slice none 0 0, .slice none 0 0, .slice none 0 0, .int .i64 0] T_impl_Sat := hB2
  have E2 := he1.trans he2
  refine l4Cnf_spec (h.ext E2) (fun x hx => by have := hF x hx; omega) (by omega) fun w3 p3 v3 c3 hs3 hR3 hp3 hc3 hm1 hm7 hl3 h73 => ?_
  have R3 := R2.same hs3 (by omega)
  have Q3 := Q2.same hs3 (by omega)
  have hz3 := hs3.size
  refine valloc_new zr_impl_Cnf fun b4 w4 hb4 he4 hz4 hB4 => ?_
  have hc3' := hc3.below
  obtain ⟨l3, rfl, hone3⟩ := hc3'.fields
  refine (show Blk w4 b4 [.int .i64 0, .slice none 0 0] T_impl_Cnf from hB4).stAgg (cs' := [.int .i64 c3.many, l3]) rfl g_impl_Cnf hone3 fun w5 hs5 hz5 hB5 => ?_
  have hc5 := (hc3'.ext he4).same hs5 fun x hx _ e => by have := hx.2; omega
  have R5 := (R3.ext he4).same hs5 (by omega)
  have Q5 := (Q3.ext he4).same hs5 (by omega)
  have hR5 := (hR3.ext he4).same hs5 (by omega) fun x hx _ e => by have := hF x hx; omega
  refine pick_spec hR5 (by omega) (by omega) fun w6 k hs6 hz6 hR6 _ _ => ?_
  have hc6 := hc5.same hs6 fun x hx _ e => by have := hx.1; omega
  have B6 := hB5.same hs6 (by omega)
  have R6 := R5.same hs6 (by omega)
  have Q6 := Q5.same hs6 (by omega)
  have hS6 : Same (· = b) w w6 := by
    refine ⟨hs6.os.trans (hs5.os.trans (he4.os.trans (hs3.os.trans E2.os))), hs6.tape.trans (hs5.tape.trans (he4.tape.trans (hs3.tape.trans E2.tape))), hs6.output.trans (hs5.output.trans (he4.output.trans (hs3.output.trans E2.output))), by omega, fun x hx hn => ?_⟩
    rw [hs6.block x (by omega) hn, hs5.block x (by omega) (by omega), he4.block x (by omega) id, hs3.block x (by omega) hn, E2.block x hx id]
  -- the state behind it
  have fin : ∀ (w7 : World) (c : Cnf) (l : Value) (p7 : Nat), Same (· = b) w w7 → w6.heap.size ≤ w7.heap.size → RdR F w7 b v xs p7 → p7 ≤ p + 300000 → Blk w7 b4 [.int .i64 c.many, l] T_impl_Cnf → Blk w7 b2 [.int .i64 0, .slice none 0 0] T_impl_Cnf → Blk w7 b3 [.slice none 0 0, .slice none 0 0, .slice none 0 0, .int .i64 0] T_impl_Sat →
      CnfR (fun x => w2.heap.size ≤ x ∧ x ≠ b4) w7 (.agg #[.int .i64 c.many, l]) c → -9223372036854775808 ≤ c.many → c.many ≤ 9223372036854775807 →
      (vdraw w7 fun w_19 => vload PP T_impl_Cnf (.pointer (some ⟨b4, 0, none⟩)) w_19 fun t13_1 w_20 => w_20 = w_19 ∧ vload PP T_impl_Cnf (.pointer (some ⟨b4, 0, none⟩)) w_19 fun t15_1 w_21 => w_21 = w_19 ∧
        vcall PP n_spec_l5State #[.pointer (some ⟨b, 0, none⟩), t15_1] w_19 fun t16_1 w_22 => (vload PP T_impl_Cnf (.pointer (some ⟨b4, 0, none⟩)) w_22 fun v x => v = t13_1 ∧ x = w_22) ∧
        vstore PP T_impl_Cnf (.pointer (some ⟨b2, 0, none⟩)) t13_1 w_22 fun _ w_23 => vstore PP T_impl_Sat (.pointer (some ⟨b3, 0, none⟩)) t16_1 w_23 fun _ w_24 => vlv PP T_impl_Cnf (.pointer (some ⟨b2, 0, none⟩)) w_24 fun r2_1 w_25 => vlv PP T_impl_Sat (.pointer (some ⟨b3, 0, none⟩)) w_25 fun r3_1 w_26 => K (.tuple #[r2_1, r3_1]) w_26) := by
    intro w7 c l p7 hS7 hz7 hR7 hp7 B7 R7 Q7 hc7 m0 m1
    refine vdraw_ext fun w8 he8 _ => ?_
    have B8 := B7.ext he8
    have hz8 := he8.size
    simp (disch := (simp only [push_cast]; done)) only [push_cast, B8.ldAgg g_impl_Cnf, true_and]
    have hc8 := (hc7.ext he8).below
    refine l5State_spec (hR7.ext he8) (fun x hx => by have := hF x hx; omega) hc8 (fun x hx => by have := hx.1.1; omega) m0 m1 (by omega) fun w9 v9 s hs9 hv9 => ?_
    have B9 := B8.same hs9 (by omega)
    have hz9 := hs9.size
    simp (disch := (simp only [push_cast]; done)) only [push_cast, B9.ldAgg g_impl_Cnf, true_and, and_self]
    have hc9 := hc8.same hs9 fun x hx _ e => by have := hx.1.1; omega
    obtain ⟨l', e, hone⟩ := hc9.fields
    obtain rfl : l = l' := by simpa using e
    have hc9' : CnfR (fun x => w.heap.size ≤ x ∧ x ≠ b2 ∧ x ≠ b3) w9 (.agg #[.int .i64 c.many, l]) c := hc9.weaken fun x hx _ => by have := hx.1.1; omega
    refine ((R7.ext he8).same hs9 (by omega)).stAgg (cs' := [.int .i64 c.many, l]) rfl g_impl_Cnf hone fun w10 hs10 hz10 hB10 => ?_
    obtain ⟨pp, yy, ll, rfl, hone2⟩ := hv9.fields
    refine (((Q7.ext he8).same hs9 (by omega)).same hs10 (by omega)).stAgg (cs' := [pp, yy, ll, .int .i64 s.code]) rfl g_impl_Sat hone2 fun w11 hs11 hz11 hB11 => ?_
    have B11 := hB10.same hs11 (by omega)
    rw [B11.lv g_impl_Cnf, hB11.lv g_impl_Sat]
    refine hK w11 _ _ c s ⟨hs11.os.trans (hs10.os.trans (hs9.os.trans (he8.os.trans hS7.os))), hs11.tape.trans (hs10.tape.trans (hs9.tape.trans (he8.tape.trans hS7.tape))), hs11.output.trans (hs10.output.trans (hs9.output.trans (he8.output.trans hS7.output))), by omega, fun x hx hn => ?_⟩
      (((hc9'.same hs10 fun x hx _ e => hx.2.1 e).same hs11 fun x hx _ e => hx.2.2 e).weaken fun x hx _ => hx.1) (((hv9.same hs10 fun x hx _ e => by omega).same hs11 fun x hx _ e => by omega).weaken fun x hx _ => by omega) m0 m1
    rw [hs11.block x (by omega) (by omega), hs10.block x (by omega) (by omega), hs9.block x (by omega) hn, he8.block x (by omega) id, hS7.block x hx hn]
  simp only [push_cast]
  refine vif_dec (fun _ => ?_) (fun _ => fin w6 c3 l3 (p3 + 1) hS6 (Nat.le_refl _) hR6 (by omega) B6 R6 Q6 (hc6.weaken fun x hx _ => ⟨hx.1, by have := hx.2; omega⟩) (by omega) (by omega))
  rw [B6.ldAgg g_impl_Cnf]
  refine l4Bent_spec hR6 (fun x hx => by have := hF x hx; omega) hc6 (fun x hx => by have := hx.1; omega) (by omega) (by omega) (by omega) (by omega) fun w7 p7 v7 c7 hs7 hR7 hp7 hc7 hma hmb hl7 h77 => ?_
  have hc7' : CnfR (fun x => w2.heap.size ≤ x ∧ x ≠ b4) w7 v7 c7 := hc7.weaken fun x hx _ => by
    rcases hx with hx | hx
    · omega
    · have := hx.1; have := hx.2; omega
  obtain ⟨l7, rfl, hone7⟩ := hc7'.fields
  have hz7 := hs7.size
  refine (B6.same hs7 (by omega)).stAgg (cs' := [.int .i64 c7.many, l7]) rfl g_impl_Cnf hone7 fun w8 hs8 hz8 hB8 => ?_
  refine fin w8 c7 l7 p7 ⟨hs8.os.trans (hs7.os.trans hS6.os), hs8.tape.trans (hs7.tape.trans hS6.tape), hs8.output.trans (hs7.output.trans hS6.output), by omega, fun x hx hn => ?_⟩ (by omega) (hR7.same hs8 (by omega) fun x hx _ e => by have := hF x hx; omega) (by omega) hB8 ((R6.same hs7 (by omega)).same hs8 (by omega)) ((Q6.same hs7 (by omega)).same hs8 (by omega)) (hc7'.same hs8 fun x hx _ e => hx.2 e) hma hmb
  rw [hs8.block x (by omega) (by omega), hs7.block x (by omega) hn, hS6.block x hx hn]
theorem DrawSatStep_spec {v : Value} {xs : List Nat} (hx : Bytes F w v xs)
    (hK : ∀ w' vc vs c s, Ext w w' → CnfR (fun x => w.heap.size ≤ x) w' vc c → SatR (fun x => w.heap.size ≤ x) w' vs s → -9223372036854775808 ≤ c.many → c.many ≤ 9223372036854775807 → K (.tuple #[vc, vs]) w') :
    vcall PP n_spec_DrawSatStep #[v] w K := by
  apply c_spec_DrawSatStep; unfold F_spec_DrawSatStep
  have hx0 : Bytes (fun x => F x ∧ x < w.heap.size) w v xs := ⟨hx.1.weaken fun x h1 h2 => ⟨h1, h2⟩, hx.2⟩
  refine valloc_new zr_impl_Cnf fun b2 w1 hb2 he1 hz1 hB1 => ?_
  refine valloc_new zr_impl_Sat fun b3 w2 hb3 he2 hz2 hB2 => ?_
  have R2 : Blk w2 b2 [.int .i64 0, .slice none 0 0] T_impl_Cnf := hB1.ext he2
  have Q2 : Blk w2 b3 [.slice none 0 0, .slice none 0 0, .slice none 0 0, .int .i64 0] T_impl_Sat := hB2
  have E2 := he1.trans he2
  refine l12Open_spec (hx0.ext E2) (fun x hx => by have := hx.2; omega) fun w3 b v3 ys he3 hR3 hb => ?_
  have hz3 := he3.size
  refine l5Some_spec hR3 (fun x hx => by have := hx.2; omega) (by omega) fun w4 vc vs c s hs4 hc4 hv4 m0 m1 => ?_
  have hz4 := hs4.size
  simp only [push_cast]
  have R4 := (R2.ext he3).same hs4 (by omega)
  have Q4 := (Q2.ext he3).same hs4 (by omega)
  obtain ⟨l4, rfl, hone4⟩ := hc4.fields
  refine R4.stAgg (cs' := [.int .i64 c.many, l4]) rfl g_impl_Cnf hone4 fun w5 hs5 hz5 hB5 => ?_
  obtain ⟨pp, yy, ll, rfl, hone5⟩ := hv4.fields
  refine (Q4.same hs5 (by omega)).stAgg (cs' := [pp, yy, ll, .int .i64 s.code]) rfl g_impl_Sat hone5 fun w6 hs6 hz6 hB6 => ?_
  have B6 := hB5.same hs6 (by omega)
  rw [B6.lv g_impl_Cnf, hB6.lv g_impl_Sat]
  have E3 := E2.trans he3
  refine hK w6 _ _ c s (Ext.then E3 (S := fun x => x = b ∨ x = b2 ∨ x = b3) ((hs4.mono fun x _ e => .inl e).trans ((hs5.mono fun x _ e => .inr (.inl e)).trans (hs6.mono fun x _ e => .inr (.inr e)))) fun x hx => by omega)
    (((hc4.same hs5 fun x hx _ e => by omega).same hs6 fun x hx _ e => by omega).weaken fun x hx _ => by omega) (((hv4.same hs5 fun x hx _ e => by omega).same hs6 fun x hx _ e => by omega).weaken fun x hx _ => by omega) m0 m1
end Go.Proofs.YtpihgpfebhegmaaGreat
