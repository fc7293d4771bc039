/- Contracts of chapter 5: searches. -/
import Derived.Test.YtpihgpfebhegmaaLd
set_option linter.unusedVariables false
set_option linter.unusedSimpArgs false
set_option linter.unnecessarySimpa false
set_option linter.unusedSectionVars false
namespace Go.Proofs.Ytpihgpfebhegmaa
open Go Go.Vc Go.Proofs Go.M
variable {w : World} {K : Value → World → Prop} {F Fr : Nat → Prop} {many bs : Nat} {c : Cnf} {s : Sat}
/-- The values in a search. -/
structure SV where
  (vc : Value) (bt : Nat) (vp vpl vl vw vr : Value) (ls : List Value)
def SV.tf (σ : SV) : Nat → Prop := tfoot σ.bt σ.vp σ.vpl σ.vl
def SV.f3 (σ : SV) (bs b : Nat) : Prop := b = bs ∨ σ.vw.ownBlock = some b ∨ σ.vr.ownBlock = some b
def SV.foot (σ : SV) (bs b : Nat) : Prop := σ.tf b ∨ σ.f3 bs b
/-- A search in memory. -/
structure SR (Fr : Nat → Prop) (w : World) (bs many : Nat) (c : Cnf) (s : Sat) (σ : SV) : Prop where
  blk : Blk w bs [.int .i64 many, σ.vc, .pointer (some ⟨σ.bt, 0, none⟩), σ.vw, σ.vr, .int .i64 s.code] T_impl_search
  cm : c.many = many
  cl : Lists Fr w σ.vc c.list
  tr : TrailR Fr w σ.bt many s.put (decs s.why) σ.vp σ.vpl σ.vl
  rw : OwnI PP T_Lint w σ.vw s.why
  rl : OwnV PP T_LLint w σ.vr σ.ls
  lsl : σ.ls.length = s.learned.length
  ll : ∀ i, i < s.learned.length → Ints Fr w (σ.ls.getD i undef) (s.learned.getD i [])
  s1 : ∀ x, σ.vw.ownBlock = some x → x ≠ bs
  s2 : ∀ x, σ.vr.ownBlock = some x → x ≠ bs
  s3 : ∀ x, σ.vw.ownBlock = some x → σ.vr.ownBlock ≠ some x
  st : ∀ x, σ.f3 bs x → ¬ σ.tf x
  sf : ∀ x, σ.f3 bs x → ¬ Fr x
section
variable {σ : SV} {w' : World} {S : Nat → Prop}
theorem SR.notF (h : SR Fr w bs many c s σ) {x : Nat} (hx : σ.foot bs x) : ¬ Fr x := by
  obtain ⟨_, f1, f2, f3, f4⟩ := sep4.1 h.tr.sep
  rcases hx with (rfl | e | e | e) | e
  · exact f1 _ rfl
  · exact f2 _ e
  · exact f3 _ e
  · exact f4 _ e
  · exact h.sf _ e
theorem SR.lt (h : SR Fr w bs many c s σ) {x : Nat} (hx : σ.foot bs x) : x < w.heap.size := by
  rcases hx with (rfl | e | e | e) | rfl | e | e
  · exact h.tr.blk.lt
  · exact h.tr.rp.lt e
  · exact h.tr.rpl.lt e
  · exact h.tr.rl.lt e
  · exact h.blk.lt
  · exact h.rw.lt e
  · exact h.rl.lt e
theorem SR.same (h : SR Fr w bs many c s σ) (hw : Same S w w') (hs : ∀ x, σ.foot bs x → ¬ S x) (hF : ∀ x, Fr x → x < w.heap.size → ¬ S x) : SR Fr w' bs many c s σ :=
  ⟨h.blk.same hw (hs _ (.inr (.inl rfl))), h.cm, h.cl.same hw hF, h.tr.same hw fun b hb => hs _ (.inl hb), h.rw.same hw fun b hb => hs _ (.inr (.inr (.inl hb))), h.rl.same hw fun b hb => hs _ (.inr (.inr (.inr hb))), h.lsl, fun i hi => (h.ll i hi).same hw hF, h.s1, h.s2, h.s3, h.st, h.sf⟩
theorem SR.ext (h : SR Fr w bs many c s σ) (hw : Ext w w') : SR Fr w' bs many c s σ := h.same hw (fun _ _ h => h) fun _ _ _ h => h
theorem SR.lists (h : SR Fr w bs many c s σ) : Vals (fun b => σ.vr.ownBlock = some b) w σ.vr σ.ls := h.rl.vals

theorem clause_spec {k : Nat} (h : SR Fr w bs many c s σ) (hk : k < c.list.length + s.learned.length) (hsm : c.list.length + s.learned.length ≤ 1000000)
    (hK : ∀ v w', Ext w w' → Ints Fr w' v (atM c s k) → K v w') : vcall PP n_impl_search_clause #[.pointer (some ⟨bs, 0, none⟩), .int .i64 k] w K := by
  apply c_impl_search_clause; unfold F_impl_search_clause
  obtain ⟨cs, hcl, hcv, hci⟩ := h.cl
  simp (disch := first | (simp only [push_cast]; done) | omega) only [push_cast, h.blk.ld1, hcv.len]
  refine vif_dec (fun a => ?_) (fun a => vdraw_ext fun w1 he1 _ => ?_)
  · simp (disch := first | (simp only [push_cast]; done) | omega) only [push_cast, h.blk.ld1, hcv.iaddr, hcv.load]
    refine hK _ w (Same.refl _ _) ?_
    have := hci k (by omega)
    rwa [atM, getD_app_l (by omega)]
  · have h1 := h.ext he1
    have hcv1 := hcv.ext he1
    obtain ⟨j, rfl⟩ : ∃ j, k = cs.length + j := ⟨k - cs.length, by omega⟩
    have hr1 := h1.lists
    have hln := h.lsl
    simp (disch := first | (simp only [push_cast]; done) | omega) only [push_cast, h1.blk.ld1, h1.blk.ld4, hcv1.len, true_and]
    rw [show (cs.length : Int) + j - cs.length = (j : Int) from by omega]
    simp (disch := first | (simp only [push_cast]; done) | omega) only [push_cast, wrap64, hr1.iaddr, hr1.load, true_and]
    refine hK _ w1 he1 ?_
    have := h1.ll j (by omega)
    rwa [atM, hcl, getD_app_r]
theorem assign_spec {l y : Int} (h : SR Fr w bs many c s σ) (hl0 : l ≠ 0) (hl : l.natAbs ≤ many) (hfree : placeOf s.put l.natAbs = 0) (hFr : ∀ b, Fr b → b < w.heap.size)
    (hK : ∀ σ' w', SR Fr w' bs many c { s with put := s.put ++ [l], why := s.why ++ [y] } σ' → Same (σ.foot bs) w w' → (∀ b, σ'.foot bs b → σ.foot bs b ∨ w.heap.size ≤ b) → K (.tuple #[]) w') :
    vcall PP n_impl_search_assign #[.pointer (some ⟨bs, 0, none⟩), .int .i64 l, .int .i64 y] w K := by
  apply c_impl_search_assign; unfold F_impl_search_assign
  simp (disch := first | (simp only [push_cast]; done) | omega) only [push_cast, h.blk.ld2]
  refine push_spec (d := decide (y = -1)) h.tr hl0 hl hfree hFr fun vp' vl' w1 ht1 hs1 hn1 => ?_
  have hsz1 := hs1.size
  have hnt : ∀ x, σ.f3 bs x → ¬ tfoot σ.bt σ.vp σ.vpl σ.vl x := fun x hx => h.st x hx
  have hB1 := h.blk.same hs1 (hnt bs (.inl rfl))
  have hw1 := h.rw.same hs1 fun x hx => hnt x (.inr (.inl hx))
  have hr1 := h.rl.same hs1 fun x hx => hnt x (.inr (.inr hx))
  have hfew := h.tr.few'
  have hfw := h.tr.few
  have hlen := h.tr.len
  rw [decs_len] at hlen
  simp (disch := first | (simp only [push_cast]; done) | omega) only [push_cast, hB1.ld3]
  refine vbuildS_one u_Lint z_int zr_int rfl rfl fun b1 w2 hb1 he2 hz2 hL2 => ?_
  have hsz2 := he2.size
  refine (hw1.ext he2).app1 l_Lint hL2 (by omega) (by omega) fun vw' w3 hw3 hs3 hn3 => ?_
  have hsz3 := hs3.size
  have hB3 := (hB1.ext he2).same hs3 fun e => h.s1 _ e rfl
  have hnw : ∀ x, vw'.ownBlock = some x → σ.vw.ownBlock = some x ∨ w1.heap.size ≤ x := fun x hx => (hn3 x hx).imp id fun h => by omega
  have hbs := h.lt (.inr (.inl rfl))
  have hvbs : ∀ x, vw'.ownBlock = some x → x ≠ bs := fun x hx e => by
    rcases hnw x hx with e' | e'
    · exact h.s1 x e' e
    · omega
  refine hB3.st hw3.ints.cells1 hw3.ints.one z_Lint rfl fun w4 hs4 hz4 hB4 => ?_
  have ht' : ∀ x, tfoot σ.bt vp' σ.vpl vl' x → x < w1.heap.size := by
    rintro x (rfl | e | e | e)
    · exact ht1.blk.lt
    · exact ht1.rp.lt e
    · exact ht1.rpl.lt e
    · exact ht1.rl.lt e
  have hst : ∀ x, σ.f3 bs x → ¬ tfoot σ.bt vp' σ.vpl vl' x := fun x hx ht => by
    rcases hn1 x ht with e | e
    · exact h.st x hx e
    · have := h.lt (.inr hx); omega
  have hS : Same (σ.f3 bs) w1 w4 := (Same.of_ext he2).trans ((hs3.mono fun x _ e => .inr (.inl e)).trans (hs4.mono fun x _ e => .inl e))
  have hf3 : ∀ x, (SV.mk σ.vc σ.bt vp' σ.vpl vl' vw' σ.vr σ.ls).f3 bs x → σ.f3 bs x ∨ w1.heap.size ≤ x := by
    rintro x (e | e | e)
    · exact .inl (.inl e)
    · exact (hnw x e).imp (fun e => .inr (.inl e)) id
    · exact .inl (.inr (.inr e))
  refine hK ⟨σ.vc, σ.bt, vp', σ.vpl, vl', vw', σ.vr, σ.ls⟩ w4 ⟨hB4, h.cm, (h.cl.same hs1 ?_).same hS ?_, ?_, hw3.same hs4 hvbs, ?_, h.lsl, ?_, hvbs, h.s2, ?_, ?_, ?_⟩ ?_ ?_
  · exact fun x hF _ ht => h.notF (.inl ht) hF
  · exact fun x hF _ ht => h.notF (.inr ht) hF
  · have := ht1.same hS fun x hx e => hst x e hx
    rwa [← decs_snoc] at this
  · exact ((hr1.ext he2).same hs3 fun x hx e => h.s3 x e hx).same hs4 fun x hx e => h.s2 x hx e
  · exact fun i hi => ((h.ll i hi).same hs1 fun x hF _ ht => h.notF (.inl ht) hF).same hS fun x hF _ ht => h.notF (.inr ht) hF
  · intro x hx e
    rcases hnw x hx with e' | e'
    · exact h.s3 x e' e
    · have := h.lt (.inr (.inr (.inr e))); omega
  · intro x hx ht
    rcases hf3 x hx with e | e
    · exact hst x e ht
    · have := ht' x ht; omega
  · intro x hx hF
    rcases hf3 x hx with e | e
    · exact h.sf x e hF
    · have := hFr x hF; omega
  · exact (hs1.mono fun x _ e => .inl e).trans (hS.mono fun x _ e => .inr e)
  · rintro x (e | e)
    · exact (hn1 x e).imp (fun e => .inl e) id
    · exact (hf3 x e).imp (fun e => .inr e) fun h => by omega
theorem pop_take {α : Type} {d : α} {xs : List α} {n : Nat} (h : xs.length = n + 1) : xs = xs.take n ++ [xs.getD n d] := by
  have := List.take_append_drop n xs
  rw [drop_cons (d := d) (show n < xs.length by omega), List.drop_eq_nil_of_le (show xs.length ≤ n + 1 by omega)] at this
  exact this.symm
/-- The last mark is taken from a search. -/
theorem goBack_spec {L : Int} (h : SR Fr w bs many c s σ)
    (hK : ∀ σ' w' n, n = backN (decs s.why) L s.put.length → SR Fr w' bs many c { s with put := s.put.take n, why := s.why.take n } σ' → Same (σ.foot bs) w w' → (∀ b, σ'.foot bs b → σ.foot bs b) → K (.tuple #[]) w') :
    vcall PP n_impl_search_goBack #[.pointer (some ⟨bs, 0, none⟩), .int .i64 L] w K := by
  apply c_impl_search_goBack; unfold F_impl_search_goBack
  simp (disch := first | (simp only [push_cast]; done) | omega) only [push_cast, h.blk.ld2]
  have hfew := h.tr.few'
  have hfw := h.tr.few
  have hlen := h.tr.len
  rw [decs_len] at hlen
  refine vloop_up s.put.length (fun i u w' => ∃ σ', SR Fr w' bs many c { s with put := s.put.take (s.put.length - i), why := s.why.take (s.put.length - i) } σ' ∧ σ'.bt = σ.bt ∧ Same (σ.foot bs) w w' ∧ (∀ b, σ'.foot bs b → σ.foot bs b) ∧ backN (decs s.why) L (s.put.length - i) = backN (decs s.why) L s.put.length) ⟨σ, ?_, rfl, Same.refl _ _, fun _ h => h, by simp⟩ ?_
  · rw [Nat.sub_zero, List.take_length, ← hlen, List.take_length]; exact h
  rintro i u g w1 C hi ⟨σ', h1, hbt, hS1, hf1, hbk⟩ hC
  generalize hn : s.put.length - i = n at *
  have hpl : (s.put.take n).length = n := by simp; omega
  have hwl : (s.why.take n).length = n := by simp; omega
  have hdl : (decs (s.why.take n)).length = n := by rw [decs_len]; exact hwl
  have hdone : n = backN (decs s.why) L s.put.length → K (.tuple #[]) w1 := fun e => hK σ' w1 n e h1 hS1 hf1
  rw [← hbt]
  refine vjoin_of (fun u w' => Ext w1 w' ∧ ∃ m, n = m + 1 ∧ L < lvl (decs s.why) m) ?_ ?_
  · intro J hJ
    refine vdraw_ext fun w2 he2 _ => ?_
    have h2 := h1.ext he2
    have hp2 : Ints _ w2 σ'.vp (s.put.take n) := h2.tr.rp.ints
    have hl2 : Ints _ w2 σ'.vl (levels (decs (s.why.take n))) := h2.tr.rl.ints
    have hll := levels_len (decs (s.why.take n))
    simp (disch := first | (simp only [push_cast]; done) | omega) only [push_cast, h2.tr.blk.ld0, hp2.len, true_and]
    have hdone' : n = backN (decs s.why) L s.put.length → K (.tuple #[]) w2 := fun e => hK σ' w2 n e h2 (hS1.trans (Same.of_ext he2)) hf1
    refine vif_dec (fun a => ?_) (fun a => ?_)
    · obtain ⟨m, rfl⟩ : ∃ m, n = m + 1 := ⟨n - 1, by omega⟩
      simp (disch := first | (simp only [push_cast]; done) | omega) only [push_cast, h2.tr.blk.ld0, h2.tr.blk.ld2, hp2.len, true_and]
      rw [hpl, show (((m + 1 : Nat) : Int) - 1) = (m : Int) from by omega]
      simp (disch := first | (simp only [push_cast]; done) | omega) only [push_cast, wrap64, hl2.iaddr, hl2.load, true_and]
      rw [levels_get (by omega), ← decs_take, lvl_take (by omega)]
      refine vif_dec (fun b => hJ _ _ ⟨he2, m, rfl, b⟩) (fun b => hdone' ?_)
      rw [← hbk, backN, if_neg b]
    · refine hdone' ?_
      rw [← hbk, show n = 0 from by omega]; rfl
  rintro _ g2 w2 ⟨he2, m, rfl, hL⟩
  have h2 := h1.ext he2
  have hp2 : OwnI PP T_Lint w2 σ'.vp (s.put.take (m + 1)) := h2.tr.rp
  have hp2' := hp2.ints
  simp (disch := first | (simp only [push_cast]; done) | omega) only [push_cast, h2.tr.blk.ld0, hp2'.len]
  rw [hpl, show (((m + 1 : Nat) : Int) - 1) = (m : Int) from by omega]
  simp (disch := omega) only [push_cast, wrap64]
  refine vdraw_ext fun w3 he3 _ => ?_
  have h3 := h2.ext he3
  have hp3 : OwnI PP T_Lint w3 σ'.vp (s.put.take (m + 1)) := h3.tr.rp
  have hpl3 : OwnI PP T_Lint w3 σ'.vpl (places many (s.put.take (m + 1))) := h3.tr.rpl
  have hl3 : OwnI PP T_Lint w3 σ'.vl (levels (decs (s.why.take (m + 1)))) := h3.tr.rl
  have hw3 : OwnI PP T_Lint w3 σ'.vw (s.why.take (m + 1)) := h3.rw
  have hp3' := hp3.ints
  have hpl3' := hpl3.ints
  have hpn := places_len many (s.put.take (m + 1))
  have hm : (s.put.take (m + 1)).getD m 0 ∈ s.put.take (m + 1) := getD_mem (by omega)
  have hbd := h3.tr.bnd _ hm
  simp (disch := first | (simp only [push_cast]; done) | omega) only [push_cast, h3.tr.blk.ld0, h3.tr.blk.ld1, hp3'.iaddr, hp3'.load, true_and]
  refine variable_spec (by omega) (by omega) ?_
  simp (disch := first | (simp only [push_cast]; done) | omega) only [push_cast, h3.tr.blk.ld1, hpl3'.iaddr, true_and, and_self]
  refine hpl3.st z_int (by omega) fun w4 hpl4 hs4 hz4 => ?_
  have hsplit := pop_take (d := 0) hpl
  rw [List.take_take, Nat.min_eq_left (by omega : m ≤ m + 1)] at hsplit
  generalize hx : (s.put.take (m + 1)).getD m 0 = x at *
  have hpl4' : OwnI PP T_Lint w4 σ'.vpl (places many (s.put.take m)) := by
    have hd : Distinct (s.put.take m ++ [x]) := by rw [← hsplit]; exact h3.tr.dis
    rw [← places_unsnoc (many := many) hd, ← hsplit]
    simpa using hpl4
  obtain ⟨⟨t1, t2, t3, t4, t5, t6⟩, f1, f2, f3, f4⟩ := sep4.1 h3.tr.sep
  have k1 : ∀ y, σ'.f3 bs y → σ'.vpl.ownBlock ≠ some y := fun y hy e => h3.st y hy (.inr (.inr (.inl e)))
  have hB4 : Blk w4 σ'.bt [σ'.vp, σ'.vpl, σ'.vl] T_impl_trail := h3.tr.blk.same hs4 fun e => t2 _ rfl e
  have hbs4 : Blk w4 bs [.int .i64 many, σ'.vc, .pointer (some ⟨σ'.bt, 0, none⟩), σ'.vw, σ'.vr, .int .i64 s.code] T_impl_search := h3.blk.same hs4 fun e => k1 _ (.inl rfl) e
  have hp4 := hp3.same hs4 fun y hy e => t4 y hy e
  have hl4 := hl3.same hs4 fun y hy e => t6 y e hy
  have hw4 := hw3.same hs4 fun y hy e => k1 y (.inr (.inl hy)) e
  have hr4 := h3.rl.same hs4 fun y hy e => k1 y (.inr (.inr hy)) e
  refine vdraw_ext fun w5 he5 _ => ?_
  have hB5 := hB4.ext he5
  have hbs5 := hbs4.ext he5
  have hp5 := hp4.ext he5
  have hl5 := hl4.ext he5
  have hw5 := hw4.ext he5
  have hll := levels_len (decs (s.why.take (m + 1)))
  simp (disch := first | (simp only [push_cast]; done) | omega) only [push_cast, hB5.ld0, hB5.ld2, hbs5.ld3, hp5.cut, hl5.cut, hw5.cut, true_and]
  refine hB5.st (hp5.taken (n := m) (by omega)).ints.cells1 (hp5.taken (n := m) (by omega)).ints.one z_Lint rfl fun w6 hs6 hz6 hB6 => ?_
  try simp (disch := first | (simp only [push_cast]; done) | omega) only [push_cast, hl5.cut, hw5.cut, true_and, and_self]
  refine hB6.st (hl5.taken (n := m) (by omega)).ints.cells1 (hl5.taken (n := m) (by omega)).ints.one z_Lint rfl fun w7 hs7 hz7 hB7 => ?_
  try simp (disch := first | (simp only [push_cast]; done) | omega) only [push_cast, hw5.cut, true_and, and_self]
  have hnb : bs ≠ σ'.bt := fun e => h3.st bs (.inl rfl) (.inl e)
  have hbs7 := (hbs5.same hs6 hnb).same hs7 hnb
  refine hbs7.st (hw5.taken (n := m) (by omega)).ints.cells1 (hw5.taken (n := m) (by omega)).ints.one z_Lint rfl fun w8 hs8 hz8 hB8 => ?_
  have hS67 : Same (· = σ'.bt) w5 w7 := hs6.trans hs7
  have mv : ∀ {xs : List Int} {v : Value}, OwnI PP T_Lint w5 v xs → (∀ y, v.ownBlock = some y → y ≠ σ'.bt ∧ y ≠ bs) → OwnI PP T_Lint w8 v xs := fun hv hy => (hv.same hS67 fun y e => (hy y e).1).same hs8 fun y e => (hy y e).2
  have nbt : ∀ y, σ'.tf y → y ≠ bs := fun y hy e => h3.st bs (.inl rfl) (e ▸ hy)
  have hP := hp5.taken (n := m) (by omega)
  have hL' := hl5.taken (n := m) (by rw [hll]; omega)
  have hW := hw5.taken (n := m) (by omega)
  rw [List.take_take, Nat.min_eq_left (by omega : m ≤ m + 1)] at hP hW
  rw [levels_take, decs_take, List.take_take, Nat.min_eq_left (by omega : m ≤ m + 1)] at hL'
  have hS38 : Same (σ.foot bs) w3 w8 := (hs4.mono fun y _ e => hf1 _ (.inl (.inr (.inr (.inl e))))).trans ((Same.of_ext he5).trans ((hS67.mono fun y _ e => hf1 _ (.inl (.inl e))).trans (hs8.mono fun y _ e => hf1 _ (.inr (.inl e)))))
  have hS38' : Same (σ'.foot bs) w3 w8 := (hs4.mono fun y _ e => (.inl (.inr (.inr (.inl e))))).trans ((Same.of_ext he5).trans ((hS67.mono fun y _ e => (.inl (.inl e))).trans (hs8.mono fun y _ e => (.inr (.inl e)))))
  have hmin : s.put.length - (i + 1) = m := by omega
  refine hC (by omega) _ _ ⟨⟨σ'.vc, σ'.bt, cutV σ'.vp m, σ'.vpl, cutV σ'.vl m, cutV σ'.vw m, σ'.vr, σ'.ls⟩, ?_, hbt, ?_, ?_, ?_⟩
  · rw [hmin]
    refine ⟨hB8, h3.cm, h3.cl.same hS38' fun y hy _ ht => h3.notF ht hy, ?_, ?_, ?_, h3.lsl, fun j hj => (h3.ll j hj).same hS38' fun y hy _ ht => h3.notF ht hy, ?_, h3.s2, ?_, ?_, ?_⟩
    · refine ⟨(show Blk w7 σ'.bt [cutV σ'.vp m, σ'.vpl, cutV σ'.vl m] T_impl_trail from hB7).same hs8 fun e => hnb e.symm, mv hP fun y e => ?_, mv (hpl4'.ext he5) fun y e => ?_, mv hL' fun y e => ?_, ?_, ?_, ?_, ?_, hfw⟩
      · rw [cutV_own] at e; exact ⟨fun e' => t1 _ rfl (e' ▸ e), nbt y (.inr (.inl e))⟩
      · exact ⟨fun e' => t2 _ rfl (e' ▸ e), nbt y (.inr (.inr (.inl e)))⟩
      · rw [cutV_own] at e; exact ⟨fun e' => t3 _ rfl (e' ▸ e), nbt y (.inr (.inr (.inr e)))⟩
      · rw [cutV_own, cutV_own]; exact h3.tr.sep
      · show (decs (s.why.take m)).length = (s.put.take m).length
        rw [decs_len, List.length_take, List.length_take]; omega
      · have := distinct_take h3.tr.dis m
        rwa [List.take_take, Nat.min_eq_left (by omega : m ≤ m + 1)] at this
      · intro y hy
        refine h3.tr.bnd y ?_
        show y ∈ s.put.take (m + 1)
        rw [hsplit]; exact List.mem_append_left _ hy
    · refine mv hW fun y e => ?_
      rw [cutV_own] at e
      exact ⟨fun e' => h3.st y (.inr (.inl e)) (.inl e'), h3.s1 y e⟩
    · exact ((hr4.ext he5).same hS67 fun y e e' => h3.st y (.inr (.inr e)) (.inl e')).same hs8 fun y e e' => h3.s2 y e e'
    · intro y e
      rw [cutV_own] at e; exact h3.s1 y e
    · intro y e
      rw [cutV_own] at e; exact h3.s3 y e
    · intro y hy ht
      refine h3.st y ?_ ?_
      · rcases hy with e | e | e
        · exact .inl e
        · exact .inr (.inl (by rwa [cutV_own] at e))
        · exact .inr (.inr e)
      · rcases ht with e | e | e | e
        · exact .inl e
        · exact .inr (.inl (by rwa [cutV_own] at e))
        · exact .inr (.inr (.inl e))
        · exact .inr (.inr (.inr (by rwa [cutV_own] at e)))
    · intro y hy
      refine h3.sf y ?_
      rcases hy with e | e | e
      · exact .inl e
      · exact .inr (.inl (by rwa [cutV_own] at e))
      · exact .inr (.inr e)
  · exact hS1.trans ((Same.of_ext (he2.trans he3)).trans hS38)
  · intro y hy
    refine hf1 y ?_
    rcases hy with (e | e | e | e) | e | e | e
    · exact .inl (.inl e)
    · exact .inl (.inr (.inl (by rwa [cutV_own] at e)))
    · exact .inl (.inr (.inr (.inl e)))
    · exact .inl (.inr (.inr (.inr (by rwa [cutV_own] at e))))
    · exact .inr (.inl e)
    · exact .inr (.inr (.inl (by rwa [cutV_own] at e)))
    · exact .inr (.inr (.inr e))
  · rw [hmin, ← hbk, backN, if_pos hL]
end
end Go.Proofs.Ytpihgpfebhegmaa
