/- Contracts of the reference, chapter 5: conflicts, steps, runs. -/
import Derived.Test.YtpihgpfebhegmaaSc
import Derived.Test.YtpihgpfebhegmaaLq
set_option linter.unusedVariables false
set_option linter.unusedSimpArgs false
set_option linter.unnecessarySimpa false
set_option linter.unusedSectionVars false
namespace Go.Proofs.Ytpihgpfebhegmaa
open Go Go.Vc Go.Proofs Go.M
variable {w : World} {K : Value → World → Prop} {F Fr F' : Nat → Prop} {many : Nat} {c : Cnf} {s : Sat}
/-- A state that owns its trail and its reasons; all of its blocks satisfy Z. -/
def SpR (Z : Nat → Prop) (w : World) (v : Value) (s : Sat) : Prop :=
  ∃ vp vw vl, v = .agg #[vp, vw, vl, .int .i64 s.code] ∧ OwnI PP T_Lint w vp s.put ∧ OwnI PP T_Lint w vw s.why ∧ (∀ b, vp.ownBlock = some b → Z b ∧ vw.ownBlock ≠ some b) ∧ (∀ b, vw.ownBlock = some b → Z b) ∧
    Lists (fun b => Z b ∧ vp.ownBlock ≠ some b ∧ vw.ownBlock ≠ some b) w vl s.learned
section
variable {Z Z' : Nat → Prop} {v : Value} {w' : World}
theorem SpR.ext (h : SpR Z w v s) (he : Ext w w') : SpR Z w' v s := by
  obtain ⟨vp, vw, vl, e, h1, h2, h3, h4, h5⟩ := h
  exact ⟨vp, vw, vl, e, h1.ext he, h2.ext he, h3, h4, h5.ext he⟩
theorem SpR.same {S : Nat → Prop} (h : SpR Z w v s) (hw : Same S w w') (hS : ∀ b, Z b → b < w.heap.size → ¬ S b) : SpR Z w' v s := by
  obtain ⟨vp, vw, vl, e, h1, h2, h3, h4, h5⟩ := h
  exact ⟨vp, vw, vl, e, h1.same hw fun b hb => hS b (h3 b hb).1 (h1.lt hb), h2.same hw fun b hb => hS b (h4 b hb) (h2.lt hb), h3, h4, h5.same hw fun b hb => hS b hb.1⟩
theorem SpR.weaken (h : SpR Z w v s) (hZ : ∀ b, Z b → b < w.heap.size → Z' b) : SpR Z' w v s := by
  obtain ⟨vp, vw, vl, e, h1, h2, h3, h4, h5⟩ := h
  exact ⟨vp, vw, vl, e, h1, h2, fun b hb => ⟨hZ b (h3 b hb).1 (h1.lt hb), (h3 b hb).2⟩, fun b hb => hZ b (h4 b hb) (h2.lt hb), h5.weaken fun b hb hl => ⟨hZ b hb.1 hl, hb.2⟩⟩
theorem SpR.below (h : SpR Z w v s) : SpR (fun b => Z b ∧ b < w.heap.size) w v s := h.weaken fun _ h1 h2 => ⟨h1, h2⟩
theorem SpR.sat (h : SpR Z w v s) : SatR Z w v s := by
  obtain ⟨vp, vw, vl, e, h1, h2, h3, h4, h5⟩ := h
  exact ⟨vp, vw, vl, e, h1.ints.weaken fun b hb _ => (h3 b hb).1, h2.ints.weaken fun b hb _ => h4 b hb, h5.weaken fun b hb _ => hb.1⟩
theorem SpR.empty : SpR Z w (.agg #[.slice none 0 0, .slice none 0 0, .slice none 0 0, .int .i64 0]) emptyS :=
  ⟨_, _, _, rfl, OwnI.nil, OwnI.nil, fun b hb => (by cases hb), fun b hb => (by cases hb), Lists_nil⟩
end
/-- A list in new memory: append([]int{}, xs...). -/
theorem copy_ints {v : Value} {xs : List Int} {b : Nat} {t : TypeId} (hB : Blk w b [] T_int) (hx : Ints F w v xs) (hsm : xs.length * 8 ≤ 140737488355328)
    (hK : ∀ v' w', OwnI PP T_Lint w' v' xs → Same (· = b) w w' → (∀ x, v'.ownBlock = some x → x = b ∨ w.heap.size ≤ x) → K v' w') : vbi PP .append [T_Lint, T_Lint] t [.slice (some ⟨b, 0, none⟩) 0 0, v] w K := by
  have h0 : OwnI PP T_Lint w (.slice (some ⟨b, 0, none⟩) 0 0) [] := Blk.own1 (P := PP) (t := T_Lint) (cs := []) (by rw [eo_Lint]; exact hB) (Nat.zero_le _) rfl rfl (by omega)
  refine h0.app (ys := xs) l_Lint hx (by simp only [List.length_nil]; omega) (by simpa using hsm) fun v' w2 hv hs hn => hK v' w2 hv (hs.mono fun x _ hx => ?_) fun x hx => ?_
  · exact (Option.some.inj hx).symm
  · exact (hn x hx).imp (fun e => (Option.some.inj e).symm) id
theorem l5Back_spec {vp vw vl : Value} {L : Nat} (hp : OwnI PP T_Lint w vp s.put) (hw : OwnI PP T_Lint w vw s.why) (hvl : vl.oneCell' = true) (hlen : s.put.length = s.why.length) (h700 : s.put.length ≤ 700) (hL : L ≤ 700) (hwhy : ∀ k, k < s.why.length → s.why.getD k 0 = -1 ∨ 0 ≤ s.why.getD k 0)
    (hK : ∀ w' vp' vw', Ext w w' → OwnI PP T_Lint w' vp' (s.put.take (backN (decs s.why) L s.put.length)) → OwnI PP T_Lint w' vw' (s.why.take (backN (decs s.why) L s.put.length)) → (∀ b, vp'.ownBlock = some b → w.heap.size ≤ b ∧ vw'.ownBlock ≠ some b) → (∀ b, vw'.ownBlock = some b → w.heap.size ≤ b) → K (.agg #[vp', vw', vl, .int .i64 s.code]) w') :
    vcall PP n_spec_l5Back #[.agg #[vp, vw, vl, .int .i64 s.code], .int .i64 L] w K := by
  apply c_spec_l5Back; unfold F_spec_l5Back
  refine vbox_new fun b2 w2 hb2 he2 hz2 hB2 => ?_
  refine valloc_new zr_impl_Sat fun b4 w4 hb4 he4 hz4 hB4 => ?_
  have B4 : Blk w4 b2 [vp, vw, vl, .int .i64 s.code] T_impl_Sat := hB2.ext he4
  have R4 : Blk w4 b4 [.slice none 0 0, .slice none 0 0, .slice none 0 0, .int .i64 0] T_impl_Sat := hB4
  have E4 := he2.trans he4
  have hp4 := hp.ext E4
  have hw4 := hw.ext E4
  have hpi := hp4.ints
  have hwi := hw4.ints
  have hdl := decs_len s.why
  refine vjoin_of (fun u w' => w' = w4 ∧ u = [.int .i64 (backN (decs s.why) L s.put.length : Nat)]) ?_ ?_
  · intro J hJ
    have done : ∀ n, n ≤ s.put.length → (∀ i, i < n → (lvl (decs s.why) i : Int) ≤ L) → (n = s.put.length ∨ (L : Int) < (lvl (decs s.why) n : Int)) → J [.int .i64 (n : Nat)] w4 := fun n h1 h2 h3 => hJ _ _ ⟨rfl, by rw [backN_eq h1 h2 h3]⟩
    refine vloop_up s.put.length (fun n u w' => w' = w4 ∧ u = [.int .i64 n, .int .i64 (((decs s.why).take n).count true : Nat)] ∧ ∀ i, i < n → (lvl (decs s.why) i : Int) ≤ L) ⟨rfl, rfl, by omega⟩ ?_
    rintro n _ _ w4 C hn ⟨rfl, rfl, hlow⟩ hC
    simp (disch := (simp only [push_cast]; done)) only [push_cast, B4.ld0, hpi.len]
    refine vif_dec (fun a => ?_) (fun a => done n hn hlow (.inl (by omega)))
    have hnl : n < s.put.length := by omega
    have hct := count_take_succ (ds := decs s.why) (i := n) (by omega)
    have hls := lvl_succ (ds := decs s.why) (i := n) (by omega)
    have hcl : ((decs s.why).take n).count true ≤ 700 := Nat.le_trans List.count_le_length (by simp; omega)
    have hdg := decs_get (why := s.why) (k := n) (by omega)
    have hwv := hwhy n (by omega)
    simp (disch := first | (simp only [push_cast]; done) | omega) only [push_cast, B4.ld1, hwi.iaddr, hwi.load]
    have hnext : ∀ k : Nat, k = lvl (decs s.why) n → ¬ (L : Int) < k → (n < s.put.length → ∀ (u' : List Value) (w'' : World), (w'' = w4 ∧ u' = [.int .i64 (n + 1 : Nat), .int .i64 (((decs s.why).take (n + 1)).count true : Nat)] ∧ ∀ i, i < n + 1 → (lvl (decs s.why) i : Int) ≤ L) → C u' w'') → C [.int .i64 (n + 1 : Nat), .int .i64 k] w4 := fun k hk hlt h => by
      refine h hnl _ _ ⟨rfl, by rw [hct, ← hls, hk], fun i hi => ?_⟩
      by_cases e : i = n
      · subst e; omega
      · exact hlow i (by omega)
    refine vif_dec (fun b => ?_) (fun b => ?_)
    · have hk : ((decs s.why).take n).count true + 1 = lvl (decs s.why) n := by rw [hls, hdg, decide_eq_true (by omega)]; rfl
      rw [inc64 (by omega)]
      refine vif_dec (fun b2 => done n hn hlow (.inr (by omega))) (fun b2 => ?_)
      rw [inc64 (by omega)]
      exact hnext _ hk b2 hC
    · have hk : ((decs s.why).take n).count true = lvl (decs s.why) n := by rw [hls, hdg, decide_eq_false (by omega)]; rfl
      refine vif_dec (fun b2 => done n hn hlow (.inr (by omega))) (fun b2 => ?_)
      rw [inc64 (by omega)]
      exact hnext _ hk b2 hC
  rintro _ _ _ ⟨rfl, rfl⟩
  have hbn := backN_le (decs s.why) L s.put.length
  generalize backN (decs s.why) L s.put.length = n at *
  have hz4' := E4.size
  refine vbuildS_nil u_Lint z_int fun b5 w5 hb5 he5 hz5 hB5 => ?_
  have B5 := B4.ext he5
  have hp5 := hp4.ext he5
  simp (disch := first | (simp only [push_cast]; done) | omega) only [push_cast, B5.ld0, hp5.cut]
  have hpt := hp5.taken (n := n) (by omega)
  refine copy_ints hB5 hpt.ints (by simp; omega) fun v6 w6 hv6 hs6 hn6 => ?_
  have B6 := B5.same hs6 (by omega)
  refine B6.st hv6.ints.cells1 hv6.ints.one z_Lint rfl fun w7 hs7 hz7 hB7 => ?_
  have B7 : Blk w7 b2 [v6, vw, vl, .int .i64 s.code] T_impl_Sat := hB7
  have hz6 := hs6.size
  have hv7 := hv6.same hs7 fun x hx e => by rcases hn6 x hx with e' | e' <;> omega
  have hS47 : Same (fun x => x = b5 ∨ x = b2) w5 w7 := (hs6.mono fun x _ e => .inl e).trans (hs7.mono fun x _ e => .inr e)
  have hE7 : Ext w w7 := Ext.then (E4.trans he5) hS47 fun x hx => by omega
  refine vbuildS_nil u_Lint z_int fun b8 w8 hb8 he8 hz8 hB8 => ?_
  have B8 := B7.ext he8
  have hw8 := hw.ext (hE7.trans he8)
  simp (disch := first | (simp only [push_cast]; done) | omega) only [push_cast, B8.ld1, hw8.cut]
  have hwt := hw8.taken (n := n) (by omega)
  refine copy_ints hB8 hwt.ints (by simp; omega) fun v9 w9 hv9 hs9 hn9 => ?_
  have B9 := B8.same hs9 (by omega)
  have hv9' := (hv7.ext he8).same hs9 fun x hx e => by have := hv7.lt hx; omega
  refine B9.st hv9.ints.cells1 hv9.ints.one z_Lint rfl fun w10 hs10 hz10 hB10 => ?_
  have B10 : Blk w10 b2 [v6, v9, vl, .int .i64 s.code] T_impl_Sat := hB10
  have hz9 := hs9.size
  have hv10 := hv9'.same hs10 fun x hx e => by rcases hn6 x hx with e' | e' <;> omega
  have hw10 := hv9.same hs10 fun x hx e => by rcases hn9 x hx with e' | e' <;> omega
  have hS : Same (fun x => x = b8 ∨ x = b2) w8 w10 := (hs9.mono fun x _ e => .inl e).trans (hs10.mono fun x _ e => .inr e)
  have hE10 : Ext w w10 := Ext.then (hE7.trans he8) hS fun x hx => by omega
  have R10 : Blk w10 b4 [.slice none 0 0, .slice none 0 0, .slice none 0 0, .int .i64 0] T_impl_Sat := ((((R4.ext he5).same hS47 (by omega)).ext he8).same hS (by omega))
  rw [B10.ldAgg g_impl_Sat]
  refine R10.stAgg (cs' := [v6, v9, vl, .int .i64 s.code]) rfl g_impl_Sat (fun x hx => ?_) fun w11 hs11 hz11 hB11 => ?_
  · simp only [List.mem_cons, List.not_mem_nil, or_false] at hx
    rcases hx with rfl | rfl | rfl | rfl
    · exact hv6.ints.one
    · exact hv9.ints.one
    · exact hvl
    · rfl
  rw [hB11.lv g_impl_Sat]
  refine hK w11 v6 v9 (Ext.then hE10 hs11 fun x hx => by omega) (hv10.same hs11 fun x hx e => ?_) (hw10.same hs11 fun x hx e => ?_) (fun x hx => ⟨?_, fun e => ?_⟩) (fun x hx => ?_)
  · rcases hn6 x hx with e' | e' <;> omega
  · rcases hn9 x hx with e' | e' <;> omega
  · rcases hn6 x hx with e' | e' <;> omega
  · have := hv7.lt hx
    rcases hn9 x e with e' | e' <;> omega
  · rcases hn9 x hx with e' | e' <;> omega
theorem lists_ones {vl : Value} {xss : List (List Int)} (h : Lists F w vl xss) : vl.oneCell' = true := by
  obtain ⟨vs, _, hv, _⟩ := h; exact hv.one
theorem l5Clash_spec {vc v v2 : Value} {Z : Nat → Prop} {k : Nat} (hc : CnfR F w vc c) (hs : SpR Z w v s) (hx : Ints F' w v2 (atM c s k)) (hok : satOk many c s) (hcm : c.many = many) (hk : k < c.list.length + s.learned.length) (hcc : clashC s.put (atM c s k))
    (hK : ∀ w' v', Ext w w' → SpR (fun b => Z b ∨ w.heap.size ≤ b) w' v' (clashM many c s (atM c s k)) → K v' w') : vcall PP n_spec_l5Clash #[vc, v, v2] w K := by
  apply c_spec_l5Clash; unfold F_spec_l5Clash
  have hc' := hc
  have hs' := hs.sat
  obtain ⟨lv, rfl, hcl⟩ := hc
  obtain ⟨vp, vw, vl, rfl, hp, hw, hd1, hd2, hls⟩ := hs
  have hmany : many ≤ 700 ∧ c.list.length ≤ 2500 := by
    have := hok.cnf
    unfold cnfOk at this
    simp only [Bool.and_eq_true, decide_eq_true_eq] at this
    omega
  have hfew := hok.few
  have hmk := hok.mks
  have hpl := hmk.len
  have hlen := hok.len
  have hdl : (decs s.why).length ≤ 700 := by rw [decs_len]; omega
  have hwhy : ∀ k, k < s.why.length → s.why.getD k 0 = -1 ∨ 0 ≤ s.why.getD k 0 := fun k hk => (hok.why k hk).imp id fun h => h.1
  have bounds : ∀ {cl' : List Int}, Fls s.put cl' → ∀ x, x ∈ cl' → x.natAbs ≤ many ∧ placeOf s.put x.natAbs ≠ 0 := fun hF x hx => by
    have h1 := hmk.2 _ (hF x hx)
    have h2 := placeOf_ne_zero (hF x hx)
    rw [Int.natAbs_neg] at h2
    exact ⟨by omega, h2⟩
  have hatl := clauseOk_len (m := many) (by have := hok.atOk hk; rwa [hcm] at this)
  obtain ⟨z1, z2, z3, z4⟩ := learn_ok hok hcm hk hcc
  refine vbox_new fun b3 w1 hb3 he1 hz1 hB1 => ?_
  refine vbox_new fun b4 w2 hb4 he2 hz2 hB2 => ?_
  refine valloc_new zr_impl_Sat fun b6 w3 hb6 he3 hz3 hB3 => ?_
  have A3 : Blk w3 b3 [.int .i64 c.many, lv] T_impl_Cnf := (hB1.ext he2).ext he3
  have B3 : Blk w3 b4 [vp, vw, vl, .int .i64 s.code] T_impl_Sat := hB2.ext he3
  have R3 : Blk w3 b6 [.slice none 0 0, .slice none 0 0, .slice none 0 0, .int .i64 0] T_impl_Sat := hB3
  have E3 := he1.trans (he2.trans he3)
  rw [A3.ldAgg g_impl_Cnf, B3.ldAgg g_impl_Sat]
  refine l5Levels_spec (hc'.ext E3) (hs'.ext E3) hcm hmany.1 hmk hlen hwhy fun w4 vlev he4 hlev hnlev => ?_
  have E4 := E3.trans he4
  refine l5Top_spec hlev.ints hmany.1 hdl (hx.ext E4) (bounds (clash_fls hcc)) ?_
  have A4 := A3.ext he4
  have B4 := B3.ext he4
  have R4 := R3.ext he4
  have hz4 := he4.size
  have ones : ∀ {vp' vw' vl' : Value} {cd : Int}, vp'.oneCell' = true → vw'.oneCell' = true → vl'.oneCell' = true → ∀ x, x ∈ [vp', vw', vl', .int .i64 cd] → x.oneCell' = true := fun h1 h2 h3 x hx => by
    simp only [List.mem_cons, List.not_mem_nil, or_false] at hx
    rcases hx with rfl | rfl | rfl | rfl
    · exact h1
    · exact h2
    · exact h3
    · rfl
  -- the code is set, nothing else
  have code : ∀ (cd : Int), clashM many c s (atM c s k) = { s with code := cd } → vstore PP T_int (.pointer (some ⟨b4, 3, none⟩)) (.int .i64 cd) w4 fun _ w_12 => vload PP T_impl_Sat (.pointer (some ⟨b4, 0, none⟩)) w_12 fun t22 w_13 => vstore PP T_impl_Sat (.pointer (some ⟨b6, 0, none⟩)) t22 w_13 fun _ w_14 => vlv PP T_impl_Sat (.pointer (some ⟨b6, 0, none⟩)) w_14 fun r6 w_15 => K r6 w_15 := fun cd hcd => by
    refine B4.st rfl rfl z_int rfl fun w5 hs5 hz5 hB5 => ?_
    have B5 : Blk w5 b4 [vp, vw, vl, .int .i64 cd] T_impl_Sat := hB5
    rw [B5.ldAgg g_impl_Sat]
    refine (R4.same hs5 (by omega)).stAgg (cs' := [vp, vw, vl, .int .i64 cd]) rfl g_impl_Sat (ones hp.ints.one hw.ints.one (lists_ones hls)) fun w6 hs6 hz6 hB6 => ?_
    rw [hB6.lv g_impl_Sat]
    have hE6 : Ext w w6 := Ext.then E4 ((hs5.mono fun x _ e => (.inl e : x = b4 ∨ x = b6)).trans (hs6.mono fun x _ e => .inr e)) fun x hx => by omega
    refine hK w6 _ hE6 ?_
    rw [hcd]
    exact ⟨vp, vw, vl, rfl, hp.ext hE6, hw.ext hE6, fun b hb => ⟨.inl (hd1 b hb).1, (hd1 b hb).2⟩, fun b hb => .inl (hd2 b hb), (hls.ext hE6).weaken fun b hb _ => ⟨.inl hb.1, hb.2⟩⟩
  simp only [push_cast]
  refine vif_dec (fun a => ?_) (fun a => ?_)
  · exact code 2 (by unfold clashM; rw [if_pos (by omega)])
  obtain ⟨es, hes, hev, hei⟩ := hls
  have hev4 := hev.ext E4
  simp (disch := (simp only [push_cast]; done)) only [push_cast, B4.ld2, hev4.len]
  refine vif_dec (fun a2 => ?_) (fun a2 => ?_)
  · exact code 3 (by unfold clashM; rw [if_neg (by omega), if_pos (by omega)])
  clear code
  have hcd : clashM many c s (atM c s k) = { s with put := s.put.take (backN (decs s.why) (belowM s.put (decs s.why) (learnM many c s s.put.length (atM c s k))) s.put.length), why := s.why.take (backN (decs s.why) (belowM s.put (decs s.why) (learnM many c s s.put.length (atM c s k))) s.put.length), learned := s.learned ++ [learnM many c s s.put.length (atM c s k)] } := by
    unfold clashM; rw [if_neg (by omega), if_neg (by omega)]
  rw [hcd] at hK
  clear hcd
  refine vdraw_ext fun w5 he5 _ => ?_
  have A5 := A4.ext he5
  have B5 := B4.ext he5
  simp (disch := (simp only [push_cast]; done)) only [push_cast, A5.ldAgg g_impl_Cnf, B5.ldAgg g_impl_Sat, true_and]
  refine vbuildS_nil u_Lint z_int fun b7 w7 hb7 he7 hz7 hB7 => ?_
  have E7 := E4.trans (he5.trans he7)
  have A7 := A5.ext he7
  have B7 := B5.ext he7
  simp (disch := (simp only [push_cast]; done)) only [push_cast, A7.ldAgg g_impl_Cnf, B7.ldAgg g_impl_Sat, true_and, and_self]
  have hz5 := he5.size
  have hz7' := he7.size
  refine copy_ints hB7 (hx.ext E7) (by omega) fun v8 w8 hv8 hs8 hn8 => ?_
  have A8 := A7.same hs8 (by omega)
  have B8 := B7.same hs8 (by omega)
  have hE8 : Ext w w8 := Ext.then E7 hs8 fun x hx => by have := E4.size; omega
  simp (disch := (simp only [push_cast]; done)) only [push_cast, A8.ldAgg g_impl_Cnf, B8.ldAgg g_impl_Sat, true_and, and_self]
  have hz8 := hs8.size
  have hlev8 := ((hlev.ext he5).ext he7).same hs8 fun x hx e => by have := hlev.lt hx; omega
  refine l5Learn_spec (hc'.ext hE8) (hs'.ext hE8) hlev8.ints hv8 hok hcm hk hcc fun w9 v9 he9 hv9 hn9 => ?_
  have E9 := hE8.trans he9
  have hz9 := he9.size
  have hn9' : ∀ x, v9.ownBlock = some x → w4.heap.size ≤ x := fun x hx => by
    rcases hn9 x hx with e | e
    · rcases hn8 x e with e | e <;> omega
    · omega
  generalize hlc : learnM many c s s.put.length (atM c s k) = lc at *
  refine vbuildS_nil u_LLint z_Lint fun b10 w10 hb10 he10 hz10 hB10 => ?_
  have B10 := (B8.ext he9).ext he10
  have E10 := E9.trans he10
  have hev10 := hev.ext E10
  simp (disch := (simp only [push_cast]; done)) only [push_cast, B10.ld2]
  have h10 : OwnV PP T_LLint w10 (.slice (some ⟨b10, 0, none⟩) 0 0) [] := Blk.own1 (P := PP) (t := T_LLint) (cs := []) (by rw [eo_LLint]; exact hB10) (Nat.zero_le _) rfl rfl (by omega)
  have hes1 : ∀ u, u ∈ es → u.oneCell' = true := fun u hu => by
    obtain ⟨i, hi, rfl⟩ := List.getElem_of_mem hu
    have := (hei i (by omega)).one
    simpa [List.getD_eq_getElem?_getD, hi] using this
  refine h10.app (us := es) l_LLint hev10 hes1 (by simp; omega) (by simp; omega) fun v11 w11 hv11 hs11 hn11 => ?_
  have hn11' : ∀ x, v11.ownBlock = some x → w9.heap.size ≤ x := fun x hx => by
    rcases hn11 x hx with e | e
    · have e : b10 = x := Option.some.inj e; omega
    · omega
  have hS11 : Same (· = b10) w10 w11 := hs11.mono fun x _ e => (Option.some.inj e).symm
  have B11 := B10.same hS11 (by omega)
  have hz10' := he10.size
  have hz11 := hs11.size
  have hv9b := (hv9.ext he10).same hS11 fun x hx e => by have := hv9.lt hx; omega
  have hE11 : Ext w w11 := Ext.then E10 hS11 fun x hx => by have := E9.size; omega
  refine vbuildS_one u_LLint z_Lint zr_Lint rfl hv9b.ints.cells1 fun b12 w12 hb12 he12 hz12 hB12 => ?_
  rw [List.nil_append] at hv11
  refine OwnV.app1 (hv11.ext he12) l_LLint hB12 hv9b.ints.one (by omega) (by omega) fun v13 w13 hv13 hs13 hn13 => ?_
  have hn13' : ∀ x, v13.ownBlock = some x → w9.heap.size ≤ x := fun x hx => by
    rcases hn13 x hx with e | e
    · exact hn11' x e
    · have := he12.size; omega
  have hz12' := he12.size
  have hz13 := hs13.size
  have B13 := (B11.ext he12).same hs13 fun e => by have := hn11' _ e; have := B8.lt; omega
  have hE13 : Ext w w13 := Ext.then (hE11.trans he12) hs13 fun x hx => by have := hn11' x hx; have := E9.size; omega
  have hv9c := (hv9b.ext he12).same hs13 fun x hx e => by have := hn11' x e; have := hv9.lt hx; omega
  refine B13.st hv13.vals.cells1 hv13.vals.one z_LLint rfl fun w14 hs14 hz14 hB14 => ?_
  have B14 : Blk w14 b4 [vp, vw, v13, .int .i64 s.code] T_impl_Sat := hB14
  have hE14 : Ext w w14 := Ext.then hE13 hs14 fun x hx => by omega
  have hv13b := hv13.same hs14 fun x hx e => by have := hn13' x hx; have := B8.lt; omega
  have hv9d := hv9c.same hs14 fun x hx e => by have := hn9' x hx; have := B4.lt; omega
  have hlev14 : OwnI PP T_Lint w14 vlev (levs many s.put (decs s.why)) := ((((hlev8.ext he9).ext he10).same hS11 fun x hx e => by have := hlev.lt hx; omega).ext he12 |>.same hs13 fun x hx e => by have := hn11' x e; have := hlev.lt hx; omega).same hs14 fun x hx e => by have := hnlev x hx; have := B3.lt; omega
  refine vdraw_ext fun w15 he15 _ => ?_
  have B15 := B14.ext he15
  simp (disch := (simp only [push_cast]; done)) only [push_cast, B15.ldAgg g_impl_Sat, true_and]
  have hE15 := hE14.trans he15
  have hz14' := hs14.size
  have hz15 := he15.size
  rw [← z3]
  refine l5Below_spec (hlev14.ext he15).ints hmany.1 (hv9d.ext he15).ints (bounds z1) ?_
  simp (disch := (simp only [push_cast]; done)) only [push_cast, B15.ldAgg g_impl_Sat, true_and, and_self]
  have hbl : belowM s.put (decs s.why) lc ≤ 700 := by
    unfold belowM
    rcases maxL_mem (xs := (lc.filter fun k => decide (lvM s.put (decs s.why) k < topL s.put (decs s.why) lc)).map (lvM s.put (decs s.why))) with e | e
    · omega
    · obtain ⟨q, _, e⟩ := List.mem_map.1 e
      rw [← e]
      exact Nat.le_trans (lvl_le _ _) hdl
  refine l5Back_spec (s := { s with code := s.code }) (hp.ext hE15) (hw.ext hE15) hv13.vals.one hlen (by omega) hbl hwhy fun w16 vp' vw' he16 hp16 hw16 hd3 hd4 => ?_
  have R16 : Blk w16 b6 [.slice none 0 0, .slice none 0 0, .slice none 0 0, .int .i64 0] T_impl_Sat := by
    have h6 := R3.lt
    exact (((((((((R4.ext he5).ext he7).same hs8 (by omega)).ext he9).ext he10).same hS11 (by omega)).ext he12).same hs13 fun e => by have := hn11' _ e; omega).same hs14 (by omega) |>.ext he15).ext he16
  refine R16.stAgg (cs' := [vp', vw', v13, .int .i64 s.code]) rfl g_impl_Sat (ones hp16.ints.one hw16.ints.one hv13.vals.one) fun w17 hs17 hz17 hB17 => ?_
  rw [hB17.lv g_impl_Sat]
  have hE17 : Ext w w17 := Ext.then (hE15.trans he16) hs17 fun x hx => by omega
  have hb6l := R3.lt
  have hz16 := he16.size
  refine hK w17 _ hE17 ⟨vp', vw', v13, rfl, hp16.same hs17 fun x hx e => by have := (hd3 x hx).1; omega, hw16.same hs17 fun x hx e => by have := hd4 x hx; omega, fun x hx => ⟨.inr (by have := (hd3 x hx).1; have := hE15.size; omega), (hd3 x hx).2⟩, fun x hx => .inr (by have := hd4 x hx; have := hE15.size; omega), es ++ [v9], by simp [hes], ?_, fun i hi => ?_⟩
  · have h17 := ((hv13b.ext he15).ext he16).same hs17 fun x hx e => by have := hn13' x hx; omega
    refine h17.vals.weaken fun x hx _ => ⟨.inr (by have := hn13' x hx; have := E9.size; omega), fun e => ?_, fun e => ?_⟩
    · have := (hd3 x e).1; have := hv13b.lt hx; omega
    · have := hd4 x e; have := hv13b.lt hx; omega
  · simp only [List.length_append, List.length_singleton] at hi
    by_cases hil : i < s.learned.length
    · rw [getD_app_l (by omega), getD_app_l hil]
      refine (((hei i hil).weaken (F' := fun x => (Z x ∧ vp.ownBlock ≠ some x ∧ vw.ownBlock ≠ some x) ∧ x < w.heap.size) fun x h1 h2 => ⟨h1, h2⟩).ext hE17).weaken fun x hx _ => ⟨.inl hx.1.1, fun e => ?_, fun e => ?_⟩
      · have := (hd3 x e).1; have := hE15.size; omega
      · have := hd4 x e; have := hE15.size; omega
    · have e1 : i = s.learned.length := by omega
      have e2 : i = es.length := by omega
      have g1 : (es ++ [v9]).getD i undef = v9 := by rw [e2]; simp
      have g2 : (s.learned ++ [lc]).getD i [] = lc := by rw [e1]; simp
      rw [g1, g2]
      have h17 := ((hv9d.ext he15).ext he16).same hs17 fun x hx e => by have := hn9' x hx; omega
      refine h17.ints.weaken fun x hx _ => ⟨.inr (by have := hn9' x hx; have := E4.size; omega), fun e => ?_, fun e => ?_⟩
      · have := (hd3 x e).1; have := hv9d.lt hx; omega
      · have := hd4 x e; have := hv9d.lt hx; omega
end Go.Proofs.Ytpihgpfebhegmaa
