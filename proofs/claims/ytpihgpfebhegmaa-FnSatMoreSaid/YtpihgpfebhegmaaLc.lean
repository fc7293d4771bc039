/- Contracts of chapter 5: trails. -/
import Derived.Test.YtpihgpfebhegmaaLb
import Derived.Test.YtpihgpfebhegmaaM5
set_option linter.unusedVariables false
set_option linter.unusedSimpArgs false
set_option linter.unnecessarySimpa false
set_option linter.unusedSectionVars false
namespace Go.Proofs.Ytpihgpfebhegmaa
open Go Go.Vc Go.Proofs Go.M
variable {w : World} {K : Value → World → Prop} {F Fr : Nat → Prop}

/-- Blocks that lie apart, and outside of a set. -/
def Sep (Fr : Nat → Prop) (os : List (Option Nat)) : Prop := os.Pairwise (fun a b => ∀ x, a = some x → b ≠ some x) ∧ ∀ o, o ∈ os → ∀ x, o = some x → ¬ Fr x

/-- A trail in memory. -/
structure TrailR (Fr : Nat → Prop) (w : World) (bt many : Nat) (put : List Int) (ds : List Bool) (vp vpl vl : Value) : Prop where
  blk : Blk w bt [vp, vpl, vl] T_impl_trail
  rp : OwnI PP T_Lint w vp put
  rpl : OwnI PP T_Lint w vpl (places many put)
  rl : OwnI PP T_Lint w vl (levels ds)
  sep : Sep Fr [some bt, vp.ownBlock, vpl.ownBlock, vl.ownBlock]
  len : ds.length = put.length
  dis : Distinct put
  bnd : ∀ x, x ∈ put → x ≠ 0 ∧ x.natAbs ≤ many
  few : many ≤ 700
def tfoot (bt : Nat) (vp vpl vl : Value) (b : Nat) : Prop := b = bt ∨ vp.ownBlock = some b ∨ vpl.ownBlock = some b ∨ vl.ownBlock = some b

section
variable {bt many : Nat} {put : List Int} {ds : List Bool} {vp vpl vl : Value}
theorem TrailR.same {S : Nat → Prop} {w' : World} (h : TrailR Fr w bt many put ds vp vpl vl) (hw : Same S w w') (hs : ∀ b, tfoot bt vp vpl vl b → ¬ S b) : TrailR Fr w' bt many put ds vp vpl vl :=
  ⟨h.blk.same hw (hs _ (.inl rfl)), h.rp.same hw fun b hb => hs _ (.inr (.inl hb)), h.rpl.same hw fun b hb => hs _ (.inr (.inr (.inl hb))), h.rl.same hw fun b hb => hs _ (.inr (.inr (.inr hb))), h.sep, h.len, h.dis, h.bnd, h.few⟩
theorem TrailR.ext {w' : World} (h : TrailR Fr w bt many put ds vp vpl vl) (hw : Ext w w') : TrailR Fr w' bt many put ds vp vpl vl := h.same hw fun _ _ h => h
theorem nodup_le {m : Nat} {xs : List Nat} (hd : xs.Nodup) (hb : ∀ x, x ∈ xs → 1 ≤ x ∧ x ≤ m) : xs.length ≤ m := by
  have := hd.length_le_of_subset (l₂ := (List.range' 1 m)) fun x hx => by rw [List.mem_range'_1]; have := hb x hx; omega
  simpa using this
theorem TrailR.few' (h : TrailR Fr w bt many put ds vp vpl vl) : put.length ≤ many := by
  have := nodup_le (m := many) h.dis fun x hx => by
    obtain ⟨y, hy, rfl⟩ := List.mem_map.1 hx
    have := h.bnd y hy
    omega
  simpa using this

theorem newTrail_spec (hm : many ≤ 700) (hFr : ∀ b, Fr b → b < w.heap.size) (hK : ∀ bt vp vpl vl w', Ext w w' → TrailR Fr w' bt many [] [] vp vpl vl → (∀ b, tfoot bt vp vpl vl b → w.heap.size ≤ b) → K (.pointer (some ⟨bt, 0, none⟩)) w') :
    vcall PP n_impl_newTrail #[.int .i64 many] w K := by
  apply c_impl_newTrail; unfold F_impl_newTrail
  simp (disch := omega) only [push_cast, wrap64]
  rw [show ((many : Int) + 1) = ((many + 1 : Nat) : Int) from by omega]
  refine vmkS_own (bs := 8) l_Lint eo_Lint zr_int rfl (by omega) (by omega) fun v1 w1 h1 he1 hn1 => ?_
  refine vbuild_str b_impl_trail (us := [[v1]]) (by simp [h1.vals.cells1]) rfl ?_
  refine vbox_new fun b w2 hb he2 _ hB => ?_
  have h2 : OwnI PP T_Lint w2 v1 (places many []) := by rw [places_nil]; unfold OwnI; rw [List.map_replicate]; exact h1.ext he2
  refine hK b (.slice none 0 0) v1 (.slice none 0 0) w2 (he1.trans he2) ⟨hB, OwnI.nil, h2, OwnI.nil, ⟨?_, ?_⟩, rfl, List.nodup_nil, (fun x hx => by cases hx), hm⟩ ?_
  · have hlt : ∀ x, v1.ownBlock = some x → x < b := fun x hx => by have := h1.lt hx; omega
    simp [Value.ownBlock]
    intro e; have := hlt b e; omega
  · have hsz := he1.size
    intro o ho x hx hF
    have := hFr x hF
    simp only [List.mem_cons, List.not_mem_nil, or_false] at ho
    rcases ho with rfl | rfl | rfl | rfl
    · cases hx; omega
    · cases hx
    · have := hn1 x hx; omega
    · cases hx
  · have hsz := he1.size
    rintro x (rfl | h | h | h)
    · omega
    · cases h
    · exact hn1 x h
    · cases h
theorem assigned_spec {l : Int} (h : TrailR Fr w bt many put ds vp vpl vl) (hl : l.natAbs ≤ many) (hK : ∀ w', Ext w w' → K (.bool (decide (placeOf put l.natAbs ≠ 0))) w') :
    vcall PP n_impl_trail_assigned #[.pointer (some ⟨bt, 0, none⟩), .int .i64 l] w K := by
  apply c_impl_trail_assigned; unfold F_impl_trail_assigned
  have hf := h.few
  refine vdraw_ext fun w1 he1 _ => ?_
  have h1 := h.ext he1
  have hpl := h1.rpl.ints
  have hpn := places_len many put
  simp (disch := (simp only [push_cast]; done)) only [push_cast, h1.blk.ld1, true_and]
  refine variable_spec (by omega) (by omega) ?_
  simp (disch := first | (simp only [push_cast]; done) | omega) only [push_cast, h1.blk.ld1, true_and, hpl.iaddr, hpl.load, and_self, places_get hl]
  have := hK w1 he1
  simpa using this
theorem isTrue_spec {l : Int} (h : TrailR Fr w bt many put ds vp vpl vl) (hl : l.natAbs ≤ many) (hK : ∀ w', Ext w w' → K (.bool (decide (l ∈ put))) w') :
    vcall PP n_impl_trail_isTrue #[.pointer (some ⟨bt, 0, none⟩), .int .i64 l] w K := by
  apply c_impl_trail_isTrue; unfold F_impl_trail_isTrue
  have hf := h.few
  refine vdraw_ext fun w1 he1 _ => ?_
  refine assigned_spec (h.ext he1) hl fun w2 he2 => vif_dec (fun a => ?_) (fun a => ?_)
  · have h2 := h.ext (he1.trans he2)
    have hp := h2.rp.ints
    have hpl := h2.rpl.ints
    have hpn := places_len many put
    have hle := placeOf_le put l.natAbs
    have hfew := h.few'
    simp (disch := first | (simp only [push_cast]; done) | omega) only [push_cast, h2.blk.ld0, h2.blk.ld1, true_and]
    refine variable_spec (by omega) (by omega) ?_
    simp (disch := first | (simp only [push_cast]; done) | omega) only [push_cast, h2.blk.ld0, h2.blk.ld1, true_and, and_self, hpl.iaddr, hpl.load, places_get hl, wrap64]
    obtain ⟨q, hq⟩ : ∃ q, placeOf put l.natAbs = q + 1 := ⟨placeOf put l.natAbs - 1, by omega⟩
    rw [hq, show (((q + 1 : Nat) : Int) - 1) = (q : Int) from by omega]
    simp (disch := first | (simp only [push_cast]; done) | omega) only [push_cast, true_and, hp.iaddr, hp.load]
    rw [show q = placeOf put l.natAbs - 1 from by omega]
    have := hK w2 (he1.trans he2)
    have e : l ∈ put ↔ put.getD (placeOf put l.natAbs - 1) 0 = l := (mem_iff_place h.dis).trans ⟨fun h => h.2, fun h => ⟨a, h⟩⟩
    rwa [decide_eq_decide.2 e] at this
  · have := hK w2 (he1.trans he2)
    rwa [decide_eq_false (fun hm => a (placeOf_ne_zero hm))] at this
theorem place_spec {l : Int} (h : TrailR Fr w bt many put ds vp vpl vl) (hl : l.natAbs ≤ many) (hK : ∀ w', Ext w w' → K (.int .i64 ((placeOf put l.natAbs : Int) - 1)) w') :
    vcall PP n_impl_trail_place #[.pointer (some ⟨bt, 0, none⟩), .int .i64 l] w K := by
  apply c_impl_trail_place; unfold F_impl_trail_place
  have hf := h.few
  refine vdraw_ext fun w1 he1 _ => ?_
  have h1 := h.ext he1
  have hpl := h1.rpl.ints
  have hpn := places_len many put
  have hle := placeOf_le put l.natAbs
  have hfew := h.few'
  simp (disch := (simp only [push_cast]; done)) only [push_cast, h1.blk.ld1, true_and]
  refine variable_spec (by omega) (by omega) ?_
  simp (disch := first | (simp only [push_cast]; done) | omega) only [push_cast, h1.blk.ld1, true_and, hpl.iaddr, hpl.load, and_self, places_get hl, wrap64]
  exact hK w1 he1
theorem level_spec {l : Int} (h : TrailR Fr w bt many put ds vp vpl vl) (hl : l.natAbs ≤ many) (ha : placeOf put l.natAbs ≠ 0) (hK : ∀ w', Ext w w' → K (.int .i64 (lvl ds (placeOf put l.natAbs - 1))) w') :
    vcall PP n_impl_trail_level #[.pointer (some ⟨bt, 0, none⟩), .int .i64 l] w K := by
  apply c_impl_trail_level; unfold F_impl_trail_level
  have hf := h.few
  have hfew := h.few'
  have hlen := h.len
  have hle := placeOf_le put l.natAbs
  refine vdraw_ext fun w1 he1 _ => ?_
  have h1 := h.ext he1
  simp (disch := (simp only [push_cast]; done)) only [push_cast, h1.blk.ld2, true_and]
  refine place_spec h1 hl fun w2 he2 => ?_
  have h2 := h1.ext he2
  have hv := h2.rl.ints
  have hvn := levels_len ds
  obtain ⟨q, hq⟩ : ∃ q, placeOf put l.natAbs = q + 1 := ⟨placeOf put l.natAbs - 1, by omega⟩
  rw [hq, show (((q + 1 : Nat) : Int) - 1) = (q : Int) from by omega]
  simp (disch := first | (simp only [push_cast]; done) | omega) only [push_cast, h2.blk.ld2, true_and, hv.iaddr, hv.load, and_self]
  rw [levels_get (by omega), show q = placeOf put l.natAbs - 1 from by omega]
  exact hK w2 (he1.trans he2)
theorem look_spec {v : Value} {c : List Int} {F : Nat → Prop} (h : TrailR Fr w bt many put ds vp vpl vl) (hx : Ints F w v c) (hl : ∀ l, l ∈ c → l.natAbs ≤ many)
    (hK : ∀ w' b n x, Ext w w' → lookM put c 0 0 = (b, n, x) → K (.tuple #[.bool b, .int .i64 n, .int .i64 x]) w') :
    vcall PP n_impl_trail_look #[.pointer (some ⟨bt, 0, none⟩), v] w K := by
  apply c_impl_trail_look; unfold F_impl_trail_look
  simp (disch := first | (simp only [push_cast]; done) | omega) only [push_cast, hx.len]
  have hlen : c.length ≤ 9223372036854775807 := by obtain ⟨_, _, _, h1, h2, _⟩ := hx.shape; simp at h1; omega
  refine vloop_up c.length (fun i u w' => ∃ n x, u = [.int .i64 (n : Nat), .int .i64 x, .int .i64 i] ∧ Ext w w' ∧ n ≤ i ∧ lookM put (c.drop i) n x = lookM put c 0 0) ⟨0, 0, rfl, Same.refl _ _, by omega, rfl⟩ ?_
  rintro i _ g w1 C hi ⟨n, x, rfl, he, hn, hr⟩ hC
  simp only [push_cast]
  refine vif_dec (fun hlt => ?_) (fun hge => ?_)
  · have hx1 := hx.ext he
    simp (disch := first | (simp only [push_cast]; done) | omega) only [push_cast, hx1.iaddr, hx1.load]
    have hd := drop_cons (d := 0) (show i < c.length by omega)
    have hm : c.getD i 0 ∈ c := getD_mem (by omega)
    rw [hd, lookM_cons] at hr
    refine isTrue_spec (h.ext he) (hl _ hm) fun w2 he2 => vif_dec (fun a => ?_) (fun a => ?_)
    · rw [if_pos a] at hr
      exact hK w2 true 0 0 (he.trans he2) hr.symm
    · rw [if_neg a] at hr
      refine assigned_spec (h.ext (he.trans he2)) (hl _ hm) fun w3 he3 => ?_
      simp only [push_cast]
      refine vif_bool (fun b => ?_) (fun b => ?_)
      · have b' : placeOf put (c.getD i 0).natAbs = 0 := by simpa using b
        rw [if_pos b'] at hr
        simp (disch := omega) only [push_cast, wrap64]
        exact hC (by omega) _ _ ⟨n + 1, _, by simp, he.trans (he2.trans he3), by omega, hr⟩
      · have b' : ¬ placeOf put (c.getD i 0).natAbs = 0 := by simpa using b
        rw [if_neg b'] at hr
        simp (disch := omega) only [push_cast, wrap64]
        exact hC (by omega) _ _ ⟨n, _, by simp, he.trans (he2.trans he3), by omega, hr⟩
  · rw [List.drop_eq_nil_of_le (by omega)] at hr
    exact hK w1 false n x he hr.symm
end
end Go.Proofs.Ytpihgpfebhegmaa
