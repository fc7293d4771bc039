/- Contracts of the reference, chapter 5: a state in new memory; SatRun. -/
import Derived.Test.YtpihgpfebhegmaaSe
set_option linter.unusedVariables false
set_option linter.unusedSimpArgs false
set_option linter.unnecessarySimpa false
set_option linter.unusedSectionVars false
namespace Go.Proofs.Ytpihgpfebhegmaa
open Go Go.Vc Go.Proofs Go.M
variable {w : World} {K : Value → World → Prop} {F Fr F' : Nat → Prop} {many : Nat} {c : Cnf} {s : Sat}
/-- A list that is being copied: d0: its literal is there; d1: it is copied. -/
def ChainI (w3 w' : World) (d0 d1 : Prop) (x y : Value) (xs : List Int) (o : Option Nat) : Prop :=
  (∀ b, o = some b → w3.heap.size ≤ b ∧ b < w'.heap.size) ∧ (d0 → ¬ d1 → ∃ b, o = some b ∧ x = .slice (some ⟨b, 0, none⟩) 0 0 ∧ Blk w' b [] T_int) ∧ (d1 → OwnI PP T_Lint w' y xs ∧ o = y.ownBlock)
def BoxI (w3 w' : World) (d0 d1 : Prop) (x : Value) (cs : List Value) (o : Option Nat) : Prop :=
  (∀ b, o = some b → w3.heap.size ≤ b ∧ b < w'.heap.size) ∧ (d0 → ∃ b, o = some b ∧ x = .pointer (some ⟨b, 0, none⟩) ∧ (¬ d1 → Blk w' b [.slice none 0 0, .slice none 0 0, .slice none 0 0, .int .i64 0] T_impl_Sat) ∧ (d1 → Blk w' b cs T_impl_Sat))
theorem ChainI.same {w3 w1 w2 : World} {d0 d1 : Prop} {x y : Value} {xs : List Int} {o : Option Nat} {S : Nat → Prop} (h : ChainI w3 w1 d0 d1 x y xs o) (hs : Same S w1 w2) (hn : ∀ b, o = some b → ¬ S b) : ChainI w3 w2 d0 d1 x y xs o := by
  obtain ⟨h1, h2, h3⟩ := h
  have hz := hs.size
  refine ⟨fun b hb => ⟨(h1 b hb).1, by have := (h1 b hb).2; omega⟩, fun a b => ?_, fun a => ?_⟩
  · obtain ⟨b, e1, e2, e3⟩ := h2 a b
    exact ⟨b, e1, e2, e3.same hs (hn b e1)⟩
  · obtain ⟨g1, g2⟩ := h3 a
    exact ⟨g1.same hs fun b hb => hn b (by rw [g2]; exact hb), g2⟩
theorem BoxI.same {w3 w1 w2 : World} {d0 d1 : Prop} {x : Value} {cs : List Value} {o : Option Nat} {S : Nat → Prop} (h : BoxI w3 w1 d0 d1 x cs o) (hs : Same S w1 w2) (hn : ∀ b, o = some b → ¬ S b) : BoxI w3 w2 d0 d1 x cs o := by
  obtain ⟨h1, h2⟩ := h
  have hz := hs.size
  refine ⟨fun b hb => ⟨(h1 b hb).1, by have := (h1 b hb).2; omega⟩, fun a => ?_⟩
  obtain ⟨b, e1, e2, e3, e4⟩ := h2 a
  exact ⟨b, e1, e2, fun n => (e3 n).same hs (hn b e1), fun n => (e4 n).same hs (hn b e1)⟩
theorem BoxI.cs {w3 w1 : World} {d0 d1 : Prop} {x : Value} {cs cs' : List Value} {o : Option Nat} (h : BoxI w3 w1 d0 d1 x cs o) (hd : ¬ d1) : BoxI w3 w1 d0 d1 x cs' o := by
  obtain ⟨h1, h2⟩ := h
  refine ⟨h1, fun a => ?_⟩
  obtain ⟨b, e1, e2, e3, e4⟩ := h2 a
  exact ⟨b, e1, e2, e3, fun n => absurd n hd⟩
theorem chain_new {w3 w1 : World} {y : Value} {xs : List Int} {d1 : Prop} {b : Nat} (hB : Blk w1 b [] T_int) (hb : w3.heap.size ≤ b) (hd : ¬ d1) : ChainI w3 w1 True d1 (.slice (some ⟨b, 0, none⟩) 0 0) y xs (some b) :=
  ⟨fun x hx => by have := Option.some.inj hx; have := hB.lt; omega, fun _ _ => ⟨b, rfl, rfl, hB⟩, fun h => absurd h hd⟩
/-- What is known while the region runs. -/
def CopyI (w3 : World) (s : Sat) (d : Nat → Prop) (u : List Value) (w' : World) : Prop :=
  Ext w3 w' ∧ ∃ oa ob oc : Option Nat, ChainI w3 w' (d 0) (d 3) (sl 1 u) (sl 2 u) s.put oa ∧ ChainI w3 w' (d 4) (d 7) (sl 3 u) (sl 4 u) s.why ob ∧ BoxI w3 w' (d 11) (d 12) (sl 0 u) [sl 2 u, sl 4 u, .slice none 0 0, .int .i64 s.code] oc ∧
    (d 10 → sl 5 u = .agg #[sl 2 u, sl 4 u, .slice none 0 0, .int .i64 s.code]) ∧ (∀ b, oa = some b → ob ≠ some b ∧ oc ≠ some b) ∧ (∀ b, ob = some b → oc ≠ some b) ∧ (d 12 → d 3 ∧ d 7 ∧ d 11) ∧ (d 3 → d 0) ∧ (d 7 → d 4) ∧ (d 10 → d 3 ∧ d 7)
theorem l5Copy_spec {v : Value} (hs : SatR F w v s) (h1 : s.put.length ≤ 1000000) (h2 : s.why.length ≤ 1000000) (h3 : s.learned.length ≤ 1000000) (h4 : ∀ x, x ∈ s.learned → x.length ≤ 1000000)
    (hK : ∀ w' v', Ext w w' → SpR (fun b => w.heap.size ≤ b) w' v' s → K v' w') : vcall PP n_spec_l5Copy #[v] w K := by
  apply c_spec_l5Copy; unfold F_spec_l5Copy
  obtain ⟨vp, vw, vl, rfl, hp, hw, es, hes, hev, hei⟩ := hs
  refine vbox_new fun b1 w1 hb1 he1 hz1 hB1 => ?_
  refine valloc_new zr_impl_Sat fun b2 w2 hb2 he2 hz2 hB2 => ?_
  have B2 : Blk w2 b1 [vp, vw, vl, .int .i64 s.code] T_impl_Sat := hB1.ext he2
  have R2 : Blk w2 b2 [.slice none 0 0, .slice none 0 0, .slice none 0 0, .int .i64 0] T_impl_Sat := hB2
  refine vdraw_ext fun w3 he3 _ => ?_
  have B3 := B2.ext he3
  have R3 := R2.ext he3
  have E3 := he1.trans (he2.trans he3)
  have l1 := B3.lt
  have l2 := R3.lt
  simp (disch := (simp only [push_cast]; done)) only [push_cast, B3.ld0, B3.ld1, B3.ld3, true_and]
  refine ⟨CopyI w3 s, ⟨Same.refl _ _, none, none, none, ⟨by simp, by simp, by simp⟩, ⟨by simp, by simp, by simp⟩, ⟨by simp, by simp⟩, by simp, by simp, by simp, by simp, by simp, by simp, by simp⟩, ?_⟩
  rintro d u _ w4 ⟨he, oa, ob, oc, hA, hB, hC, h10, dA, dB, h12, h30, h74, h10c⟩
  generalize sl 0 u = a0 at *
  generalize sl 1 u = a1 at *
  generalize sl 2 u = a2 at *
  generalize sl 3 u = a3 at *
  generalize sl 4 u = a4 at *
  generalize sl 5 u = a5 at *
  have B4 := B3.ext he
  have R4 := R3.ext he
  have E4 := E3.trans he
  have hz4 := he.size
  have ltA : ∀ b, oa = some b → b < w4.heap.size := fun b hb => (hA.1 b hb).2
  have ltB : ∀ b, ob = some b → b < w4.heap.size := fun b hb => (hB.1 b hb).2
  have ltC : ∀ b, oc = some b → b < w4.heap.size := fun b hb => (hC.1 b hb).2
  simp (disch := (simp only [push_cast]; done)) only [push_cast, B4.ld0, B4.ld1, B4.ld3, true_and, and_self]
  refine ⟨⟨fun n0 => ?_, fun n3 p0 => ?_, fun n4 => ?_, fun n7 p4 p3 => ?_, fun n10 p3 p7 => ?_, fun n11 => ?_, fun n12 p11 p10 p7 p0 p3 p4 _ _ _ => ?_, trivial⟩, fun p0 p3 p4 p7 p10 p11 p12 => ?_⟩
  · refine vbuildS_nil u_Lint z_int fun b w5 hb he5 hz5 hB5 => ⟨he.trans he5, some b, ob, oc, ?_, ?_, ?_, ?_, fun x hx => ?_, dB, by simpa using h12, by simp, by simpa using h74, by simpa using h10c⟩
    · simpa [sl1, sl2] using chain_new (y := a2) (xs := s.put) hB5 (by omega) (fun p3 => n0 (h30 p3))
    · simpa [sl3, sl4] using hB.same he5 fun _ _ h => h
    · simpa [sl0, sl2, sl4] using hC.same he5 fun _ _ h => h
    · simpa [sl2, sl4, sl5] using h10
    · have := Option.some.inj hx
      exact ⟨fun e => by have := ltB x e; omega, fun e => by have := ltC x e; omega⟩
  · obtain ⟨b, e1, e2, e3⟩ := hA.2.1 p0 n3
    subst e2
    have n12 : ¬ d 12 := fun p => n3 (h12 p).1
    have n10 : ¬ d 10 := fun p => n3 (h10c p).1
    refine copy_ints e3 (hp.ext E4) (by omega) fun v5 w5 hv5 hs5 hn5 => ⟨Ext.then he hs5 fun x hx => by have := (hA.1 b e1).1; omega, v5.ownBlock, ob, oc, ?_, ?_, ?_, ?_, fun x hx => ?_, dB, by simp [n12], by simpa using p0, by simpa using h74, by simp [n10]⟩
    · refine ⟨fun x hx => ⟨?_, hv5.lt hx⟩, by simp, fun _ => ?_⟩
      · rcases hn5 x hx with e | e
        · have := (hA.1 b e1).1; omega
        · omega
      · simpa [sl2] using hv5
    · simpa [sl3, sl4] using hB.same hs5 fun x hx e => by subst e; exact (dA _ e1).1 hx
    · have := (hC.cs (cs' := [v5, a4, .slice none 0 0, .int .i64 s.code]) n12).same hs5 fun x hx e => by subst e; exact (dA _ e1).2 hx
      simpa [sl0, sl2, sl4] using this
    · simp [n10]
    · rcases hn5 x hx with e | e
      · subst e; exact dA _ e1
      · exact ⟨fun e' => by have := ltB x e'; omega, fun e' => by have := ltC x e'; omega⟩
  · refine vbuildS_nil u_Lint z_int fun b w5 hb he5 hz5 hB5 => ⟨he.trans he5, oa, some b, oc, ?_, ?_, ?_, ?_, fun x hx => ⟨fun e => ?_, (dA x hx).2⟩, fun x hx e => ?_, by simpa using h12, by simpa using h30, by simp, by simpa using h10c⟩
    · simpa [sl1, sl2] using hA.same he5 fun _ _ h => h
    · simpa [sl3, sl4] using chain_new (y := a4) (xs := s.why) hB5 (by omega) (fun p7 => n4 (h74 p7))
    · simpa [sl0, sl2, sl4] using hC.same he5 fun _ _ h => h
    · simpa [sl2, sl4, sl5] using h10
    · have := Option.some.inj e; have := ltA x hx; omega
    · have := Option.some.inj hx; have := ltC x e; omega
  · obtain ⟨b, e1, e2, e3⟩ := hB.2.1 p4 n7
    subst e2
    have n12 : ¬ d 12 := fun p => n7 (h12 p).2.1
    have n10 : ¬ d 10 := fun p => n7 (h10c p).2
    refine copy_ints e3 (hw.ext E4) (by omega) fun v5 w5 hv5 hs5 hn5 => ⟨Ext.then he hs5 fun x hx => by have := (hB.1 b e1).1; omega, oa, v5.ownBlock, oc, ?_, ?_, ?_, ?_, fun x hx => ⟨fun e => ?_, (dA x hx).2⟩, fun x hx e => ?_, by simp [n12], by simpa using h30, by simpa using p4, by simp [n10]⟩
    · simpa [sl1, sl2] using hA.same hs5 fun x hx e => by subst e; exact (dA _ hx).1 e1
    · refine ⟨fun x hx => ⟨?_, hv5.lt hx⟩, by simp, fun _ => ?_⟩
      · rcases hn5 x hx with e | e
        · have := (hB.1 b e1).1; omega
        · omega
      · simpa [sl4] using hv5
    · have := (hC.cs (cs' := [a2, v5, .slice none 0 0, .int .i64 s.code]) n12).same hs5 fun x hx e => by subst e; exact dB _ e1 hx
      simpa [sl0, sl2, sl4] using this
    · simp [n10]
    · rcases hn5 x e with e' | e'
      · subst e'; exact (dA _ hx).1 e1
      · have := ltA x hx; omega
    · rcases hn5 x hx with e' | e'
      · subst e'; exact dB _ e1 e
      · have := ltC x e; omega
  · obtain ⟨g1, g2⟩ := hA.2.2 p3
    obtain ⟨g3, g4⟩ := hB.2.2 p7
    refine vbuild_str b_impl_Sat (us := [[a2], [a4], [.int .i64 s.code]]) (by simp [g1.ints.cells1, g3.ints.cells1]; rfl) rfl ?_
    refine ⟨rfl, he, oa, ob, oc, by simpa [sl1, sl2] using hA, by simpa [sl3, sl4] using hB, by simpa [sl0, sl2, sl4] using hC, fun _ => rfl, dA, dB, by simpa using h12, by simpa using h30, by simpa using h74, fun _ => ⟨.inr p3, .inr p7⟩⟩
  · refine valloc_new zr_impl_Sat fun b w5 hb he5 hz5 hB5 => ?_
    have n12 : ¬ d 12 := fun p => n11 (h12 p).2.2
    refine ⟨he.trans he5, oa, ob, some b, by simpa [sl1, sl2] using hA.same he5 fun _ _ h => h, by simpa [sl3, sl4] using hB.same he5 fun _ _ h => h, ?_, by simpa [sl2, sl4, sl5] using h10, fun x hx => ⟨(dA x hx).1, fun e => ?_⟩, fun x hx e => ?_, by simp [n12], by simpa using h30, by simpa using h74, by simpa using h10c⟩
    · refine ⟨fun x hx => ?_, fun _ => ⟨b, rfl, rfl, fun _ => hB5, by simp [n12]⟩⟩
      have := Option.some.inj hx; have := hB5.lt; omega
    · have := Option.some.inj e; have := ltA x hx; omega
    · have := Option.some.inj e; have := ltB x hx; omega
  · obtain ⟨b, e1, e2, e3, -⟩ := hC.2 p11
    obtain ⟨g1, g2⟩ := hA.2.2 p3
    obtain ⟨g3, g4⟩ := hB.2.2 p7
    subst e2
    rw [h10 p10]
    refine (e3 n12).stAgg (cs' := [a2, a4, .slice none 0 0, .int .i64 s.code]) rfl g_impl_Sat (fun x hx => ?_) fun w5 hs5 hz5 hB5 => ?_
    · simp only [List.mem_cons, List.not_mem_nil, or_false] at hx
      rcases hx with rfl | rfl | rfl | rfl
      · exact g1.ints.one
      · exact g3.ints.one
      · rfl
      · rfl
    refine ⟨Ext.then he hs5 fun x hx => by have := (hC.1 b e1).1; omega, oa, ob, oc, ?_, ?_, ?_, by simpa [sl2, sl4, sl5] using h10, dA, dB, fun _ => by simp [p3, p7, p11], by simpa using h30, by simpa using h74, by simpa using h10c⟩
    · simpa [sl1, sl2] using hA.same hs5 fun x hx e => by subst e; exact (dA _ hx).2 e1
    · simpa [sl3, sl4] using hB.same hs5 fun x hx e => by subst e; exact dB _ hx e1
    · refine ⟨fun x hx => ⟨(hC.1 x hx).1, by have := (hC.1 x hx).2; omega⟩, fun _ => ⟨b, e1, rfl, by simp, fun _ => ?_⟩⟩
      simpa [sl2, sl4] using hB5
  · obtain ⟨b, e1, e2, -, e3⟩ := hC.2 p11
    obtain ⟨g1, g2⟩ := hA.2.2 p3
    obtain ⟨g3, g4⟩ := hB.2.2 p7
    subst e2
    have C4 := e3 p12
    have hbl := (hC.1 b e1).1
    have hE3 := E3.size
    have nA : ∀ x, a2.ownBlock = some x → w3.heap.size ≤ x ∧ x < w4.heap.size ∧ x ≠ b := fun x hx => by
      have h := hA.1 x (by rw [g2]; exact hx)
      exact ⟨h.1, h.2, fun e => (dA x (by rw [g2]; exact hx)).2 (by rw [e]; exact e1)⟩
    have nB : ∀ x, a4.ownBlock = some x → w3.heap.size ≤ x ∧ x < w4.heap.size ∧ x ≠ b := fun x hx => by
      have h := hB.1 x (by rw [g4]; exact hx)
      exact ⟨h.1, h.2, fun e => dB x (by rw [g4]; exact hx) (by rw [e]; exact e1)⟩
    have nAB : ∀ x, a2.ownBlock = some x → a4.ownBlock ≠ some x := fun x hx e => (dA x (by rw [g2]; exact hx)).1 (by rw [g4]; exact e)
    have hev4 := hev.ext E4
    have lb := C4.lt
    clear hA hB hC h10 dA dB h12 h30 h74 h10c e3
    refine vloop_up s.learned.length (fun i u w' => ∃ vl' es', u = [.int .i64 i] ∧ Ext w w' ∧ w4.heap.size ≤ w'.heap.size ∧ Blk w' b1 [vp, vw, vl, .int .i64 s.code] T_impl_Sat ∧ Blk w' b2 [.slice none 0 0, .slice none 0 0, .slice none 0 0, .int .i64 0] T_impl_Sat ∧ Blk w' b [a2, a4, vl', .int .i64 s.code] T_impl_Sat ∧
        OwnI PP T_Lint w' a2 s.put ∧ OwnI PP T_Lint w' a4 s.why ∧ OwnV PP T_LLint w' vl' es' ∧ (∀ x, vl'.ownBlock = some x → w4.heap.size ≤ x) ∧ es'.length = i ∧ ∀ j, j < i → Ints (fun x => w4.heap.size ≤ x ∧ vl'.ownBlock ≠ some x) w' (es'.getD j undef) (s.learned.getD j []))
      ⟨.slice none 0 0, [], rfl, E4, Nat.le_refl _, B4, R4, C4, g1, g3, OwnV.nil, fun x hx => (by cases hx), rfl, by omega⟩ ?_
    rintro i _ _ w5 C hi ⟨vl', es', rfl, E5, hz5, B5, R5, C5, P5, W5, V5, hn5, hl5, hr5⟩ hC
    have hev5 := hev.ext E5
    simp (disch := (simp only [push_cast]; done)) only [push_cast, B5.ld2, hev5.len]
    refine vif_dec (fun a => ?_) (fun a => ?_)
    · have hil : i < s.learned.length := by omega
      refine vdraw_ext fun w6 he6 _ => ?_
      have B6 := B5.ext he6
      have C6 := C5.ext he6
      have hev6 := hev5.ext he6
      have hz6 := he6.size
      simp (disch := first | (simp only [push_cast]; done) | omega) only [push_cast, B6.ld2, C6.ld2, hev6.iaddr, hev6.load, true_and]
      refine vbuildS_nil u_Lint z_int fun b7 w7 hb7 he7 hz7 hB7 => ?_
      have B7 := B6.ext he7
      have C7 := C6.ext he7
      have hev7 := hev6.ext he7
      simp (disch := first | (simp only [push_cast]; done) | omega) only [push_cast, B7.ld2, C7.ld2, hev7.iaddr, hev7.load, true_and, and_self]
      have hrow := (hei i hil).ext (E5.trans (he6.trans he7))
      have hrl := h4 _ (show s.learned.getD i [] ∈ s.learned by rw [List.getD_eq_getElem?_getD, List.getElem?_eq_getElem hil]; exact List.getElem_mem hil)
      refine copy_ints hB7 hrow (by omega) fun v8 w8 hv8 hs8 hn8 => ?_
      have C8 := C7.same hs8 (by omega)
      simp (disch := first | (simp only [push_cast]; done) | omega) only [push_cast, C8.ld2, true_and, and_self]
      refine vbuildS_one u_LLint z_Lint zr_Lint rfl hv8.ints.cells1 fun b9 w9 hb9 he9 hz9 hB9 => ?_
      have C9 := C8.ext he9
      simp (disch := first | (simp only [push_cast]; done) | omega) only [push_cast, C9.ld2, true_and, and_self]
      have V9 : OwnV PP T_LLint w9 vl' es' := (((V5.ext he6).ext he7).same hs8 fun x hx e => by have := V5.lt hx; omega).ext he9
      have hz8 := hs8.size
      refine OwnV.app1 V9 l_LLint hB9 hv8.ints.one (by omega) (by omega) fun v10 w10 hv10 hs10 hn10 => ?_
      have C10 := C9.same hs10 fun e => by have := hn5 _ e; omega
      refine C10.st hv10.vals.cells1 hv10.vals.one z_LLint rfl fun w11 hs11 hz11 hB11 => ?_
      have C11 : Blk w11 b [a2, a4, v10, .int .i64 s.code] T_impl_Sat := hB11
      rw [inc64 (by omega)]
      have hz10 := hs10.size
      have hE9 : Ext w5 w9 := Ext.then (he6.trans he7) hs8 (fun x hx => by omega) |>.trans he9
      have hn10' : ∀ x, v10.ownBlock = some x → w4.heap.size ≤ x := fun x hx => by
        rcases hn10 x hx with e | e
        · exact hn5 x e
        · omega
      have hS : Same (fun x => vl'.ownBlock = some x ∨ x = b) w9 w11 := (hs10.mono fun x _ e => .inl e).trans (hs11.mono fun x _ e => .inr e)
      have keep : ∀ x, x < w4.heap.size → x ≠ b → ¬ (vl'.ownBlock = some x ∨ x = b) := fun x h1 h2 h => h.elim (fun e => by have := hn5 x e; omega) h2
      have E11 : Ext w w11 := Ext.then (E5.trans hE9) hS fun x hx => hx.elim (fun e => by have := hn5 x e; omega) (fun e => by omega)
      refine hC hil _ _ ⟨v10, es' ++ [v8], rfl, E11, by omega, (B5.ext hE9).same hS (keep b1 (by omega) (by omega)), (R5.ext hE9).same hS (keep b2 (by omega) (by omega)), C11,
        (P5.ext hE9).same hS fun x hx => keep x (nA x hx).2.1 (nA x hx).2.2, (W5.ext hE9).same hS fun x hx => keep x (nB x hx).2.1 (nB x hx).2.2, hv10.same hs11 fun x hx e => by have := hn10' x hx; omega, hn10', by simp [hl5], fun j hj => ?_⟩
      by_cases e : j < i
      · rw [getD_app_l (by omega)]
        refine (((hr5 j e).weaken (F' := fun x => (w4.heap.size ≤ x ∧ vl'.ownBlock ≠ some x) ∧ x < w5.heap.size) fun x h1 h2 => ⟨h1, h2⟩).ext hE9).same hS (fun x hx _ h => ?_) |>.weaken fun x hx _ => ⟨hx.1.1, fun e => ?_⟩
        · exact h.elim hx.1.2 fun e => by have := hx.1.1; omega
        · rcases hn10 x e with e | e
          · exact hx.1.2 e
          · have := hx.2; omega
      · have e1 : j = es'.length := by omega
        have g1 : (es' ++ [v8]).getD j undef = v8 := by rw [e1]; simp
        rw [g1, show j = i from by omega]
        refine ((hv8.ext he9).ints.same hS fun x hx _ h => ?_).weaken fun x hx _ => ⟨?_, fun e => ?_⟩
        · have h8 : w5.heap.size ≤ x := by rcases hn8 x hx with e | e <;> omega
          exact h.elim (fun e => by have := V5.lt e; omega) fun e => by omega
        · rcases hn8 x hx with e | e <;> omega
        · have h8 : w5.heap.size ≤ x := by rcases hn8 x hx with e | e <;> omega
          rcases hn10 x e with e | e
          · have := V5.lt e; omega
          · have := hv8.lt hx; omega
    · rw [C5.ldAgg g_impl_Sat]
      refine R5.stAgg (cs' := [a2, a4, vl', .int .i64 s.code]) rfl g_impl_Sat (fun x hx => ?_) fun w6 hs6 hz6 hB6 => ?_
      · simp only [List.mem_cons, List.not_mem_nil, or_false] at hx
        rcases hx with rfl | rfl | rfl | rfl
        · exact P5.ints.one
        · exact W5.ints.one
        · exact V5.vals.one
        · rfl
      rw [hB6.lv g_impl_Sat]
      have hil : es'.length = s.learned.length := by omega
      refine hK w6 _ (Ext.then E5 hs6 fun x hx => by have := he1.size; omega) ⟨a2, a4, vl', rfl, P5.same hs6 fun x hx e => by have := (nA x hx).1; omega, W5.same hs6 fun x hx e => by have := (nB x hx).1; omega, fun x hx => ⟨by have := (nA x hx).1; omega, nAB x hx⟩, fun x hx => by have := (nB x hx).1; omega, es', hil, ?_, fun j hj => ?_⟩
      · exact (V5.same hs6 fun x hx e => by have := hn5 x hx; omega).vals.weaken fun x hx _ => ⟨by have := hn5 x hx; omega, fun e => by have := (nA x e).2.1; have := hn5 x hx; omega, fun e => by have := (nB x e).2.1; have := hn5 x hx; omega⟩
      · exact ((hr5 j (by omega)).same hs6 fun x hx _ e => by have := hx.1; omega).weaken fun x hx _ => ⟨by have := hx.1; omega, fun e => by have := (nA x e).2.1; have := hx.1; omega, fun e => by have := (nB x e).2.1; have := hx.1; omega⟩
theorem run_few {n : Nat} (hok : cnfOk c = true) (hcm : c.many = many) : (runM many c n emptyS).put.length ≤ 700 ∧ (runM many c n emptyS).why.length ≤ 700 ∧ (runM many c n emptyS).learned.length ≤ 300 ∧ ∀ x, x ∈ (runM many c n emptyS).learned → x.length ≤ 700 := by
  have h := run_ok (n := n) hcm (empty_ok (many := many) hok)
  have h7 : many ≤ 700 := by
    have := hok
    unfold cnfOk at this
    simp only [Bool.and_eq_true, decide_eq_true_eq] at this
    omega
  have h1 := h.mks.len
  have h2 := h.len
  refine ⟨by omega, by omega, h.few, fun x hx => ?_⟩
  have := clauseOk_len (m := many) (by have := h.lrn x hx; rwa [hcm] at this)
  omega
theorem specSatRun_spec {vc : Value} {fuel : Int} (hc : CnfR F w vc c) (hcm : many = c.many.toNat) (hc0 : -9223372036854775808 ≤ c.many) (hc1 : c.many ≤ 9223372036854775807)
    (hK : ∀ w' v, Ext w w' → SatR (fun b => w.heap.size ≤ b) w' v (if cnfOk c = true ∧ 0 ≤ fuel ∧ fuel ≤ 4000 then runM many c fuel.toNat emptyS else formS) → K v w') : vcall PP n_spec_SatRun #[vc, .int .i64 fuel] w K := by
  apply c_spec_SatRun; unfold F_spec_SatRun
  have hc' := hc.below
  obtain ⟨lv, rfl, hl⟩ := hc
  refine vbox_new fun b1 w1 hb1 he1 hz1 hB1 => ?_
  refine valloc_new zr_impl_Sat fun b3 w3 hb3 he3 hz3 hB3 => ?_
  have A3 : Blk w3 b1 [.int .i64 c.many, lv] T_impl_Cnf := hB1.ext he3
  have E3 := he1.trans he3
  have hB3' : Blk w3 b3 [.slice none 0 0, .slice none 0 0, .slice none 0 0, .int .i64 0] T_impl_Sat := hB3
  rw [A3.ldAgg g_impl_Cnf]
  refine specCnfOk_spec (hc'.ext E3) hc0 hc1 fun w4 he4 => ?_
  have E4 := E3.trans he4
  have hB4 := hB3'.ext he4
  have A4 := A3.ext he4
  have hz4 := he4.size
  have hb3' := hB3.lt
  have no : ¬ (cnfOk c = true ∧ 0 ≤ fuel ∧ fuel ≤ 4000) → vbuild PP T_impl_Sat [(3, .int .i64 4)] w4 fun t16 w_6 => vstore PP T_impl_Sat (.pointer (some ⟨b3, 0, none⟩)) t16 w_6 fun _ w_7 => vlv PP T_impl_Sat (.pointer (some ⟨b3, 0, none⟩)) w_7 fun r4 w_8 => K r4 w_8 := fun hn => by
    refine vbuild_str b_impl_Sat (us := [[.int .i64 4]]) rfl rfl ?_
    refine hB4.stAgg (cs' := [.slice none 0 0, .slice none 0 0, .slice none 0 0, .int .i64 4]) rfl g_impl_Sat (fun x hx => by simp only [List.mem_cons, List.not_mem_nil, or_false] at hx; rcases hx with rfl | rfl | rfl | rfl <;> rfl) fun w5 hs5 hz5 hB5 => ?_
    rw [hB5.lv g_impl_Sat]
    exact hK w5 _ (Ext.then E4 hs5 fun x hx => by omega) (by rw [if_neg hn]; exact form_R)
  simp only [push_cast]
  refine vif_bool (fun a => no fun h => by rw [h.1] at a; cases a) (fun a => ?_)
  have hok : cnfOk c = true := by simpa using a
  refine vif_dec (fun a1 => no fun h => by omega) (fun a1 => vif_dec (fun a2 => no fun h => by omega) (fun a2 => ?_))
  have hcm' : c.many = many := by
    have := hok
    unfold cnfOk at this
    simp only [Bool.and_eq_true, decide_eq_true_eq] at this
    omega
  rw [A4.ldAgg g_impl_Cnf]
  obtain ⟨n, rfl⟩ : ∃ n : Nat, fuel = n := ⟨fuel.toNat, by omega⟩
  refine l5Run_spec (hc'.ext E4) hok hcm' (by omega) fun w5 v5 he5 hv5 => ?_
  obtain ⟨r1, r2, r3, r4⟩ := run_few (n := n) hok hcm'
  refine l5Copy_spec hv5.sat (by omega) (by omega) (by omega) (fun x hx => by have := r4 x hx; omega) fun w6 v6 he6 hv6 => ?_
  rw [if_pos ⟨hok, by omega, by omega⟩, Int.toNat_natCast] at hK
  have hB6 := (hB4.ext he5).ext he6
  have E6 : Ext w w6 := E4.trans (he5.trans he6)
  have hz5 := he5.size
  have hz6 := E4.size
  obtain ⟨p6, y6, l6, rfl, h1⟩ := hv6.sat.fields
  refine hB6.stAgg (cs' := [p6, y6, l6, .int .i64 (runM many c n emptyS).code]) rfl g_impl_Sat h1 fun w7 hs7 hz7 hB7 => ?_
  rw [hB7.lv g_impl_Sat]
  exact hK w7 _ (Ext.then E6 hs7 fun x hx => by omega) ((hv6.sat.same hs7 fun x hx _ e => by omega).weaken fun x hx _ => by omega)
end Go.Proofs.Ytpihgpfebhegmaa
