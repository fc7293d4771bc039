/- Contracts of the reference, chapter 5: learning, going back. -/
import Derived.Test.YtpihgpfebhegmaaGreatSb
set_option linter.unusedVariables false
set_option linter.unusedSimpArgs false
set_option linter.unnecessarySimpa false
set_option linter.unusedSectionVars false
namespace Go.Proofs.YtpihgpfebhegmaaGreat
open Go Go.Vc Go.Proofs Go.M
variable {w : World} {K : Value → World → Prop} {F Fr F' : Nat → Prop} {many : Nat} {c : Cnf} {s : Sat}
theorem joinA_len (arr : List Int) (m n : Nat) : (joinA arr m n).length ≤ n := by
  unfold joinA
  refine Nat.le_trans (List.length_filterMap_le _ _) (by simp)
theorem l5Join_spec {va vb : Value} {a b : List Int} {m : Nat} (ha : Ints F w va a) (hb : Ints F' w vb b) (h700 : many ≤ 700) (hbd : ∀ k, k ∈ a ++ b → k ≠ 0 ∧ k.natAbs ≤ many) (hc : ∀ k, k ∈ a ++ b → k.natAbs ≠ m → -k ∉ a ++ b)
    (hK : ∀ w' v', Ext w w' → OwnI PP T_Lint w' v' (joinM many a b m) → (∀ x, v'.ownBlock = some x → w.heap.size ≤ x) → K v' w') : vcall PP n_spec_l5Join #[.int .i64 many, va, vb, .int .i64 m] w K := by
  apply c_spec_l5Join; unfold F_spec_l5Join
  have hla : a.length ≤ 9223372036854775807 := by obtain ⟨_, _, _, h1, h2, _⟩ := ha.shape; simp at h1; omega
  have hlb : b.length ≤ 9223372036854775807 := by obtain ⟨_, _, _, h1, h2, _⟩ := hb.shape; simp at h1; omega
  refine vbuildS_nil u_Lint z_int fun b0 w0 hb0 he0 hz0 hB0 => ?_
  simp only [push_cast]
  rw [wrap64 (by omega) (by omega), show ((many : Int) + 1) = ((many + 1 : Nat) : Int) from by omega]
  refine vmkS_own (bs := 8) l_Lint eo_Lint zr_int rfl (by omega) (by omega) fun v1 w1 h1 he1 hn1 => ?_
  have h1' : OwnI PP T_Lint w1 v1 (List.replicate (many + 1) 0) := by unfold OwnI; rw [List.map_replicate]; exact h1
  have E1 := he0.trans he1
  have hz0' := he0.size
  have hN : ∀ x, v1.ownBlock = some x → w.heap.size ≤ x := fun x hx => by have := hn1 x hx; omega
  have hB1 : Blk w1 b0 [] T_int := hB0.ext he1
  have hbv : ∀ x, v1.ownBlock = some x → x ≠ b0 := fun x hx e => by have := hn1 x hx; have := hB0.lt; omega
  refine vloop_up a.length (fun i u w' => u = [.int .i64 i] ∧ Ext w w' ∧ Blk w' b0 [] T_int ∧ ∃ arr, OwnI PP T_Lint w' v1 arr ∧ ArrP many (a.take i) arr) ⟨rfl, E1, hB1, _, h1', by simpa using arr_nil many⟩ ?_
  rintro i _ _ w2 C hi ⟨rfl, he2, hB2, arr, hv2, har⟩ hC
  have ha2 := ha.ext he2
  simp (disch := (simp only [push_cast]; done)) only [push_cast, ha2.len]
  refine vif_dec (fun c1 => ?_) (fun c1 => ?_)
  · have hil : i < a.length := by omega
    refine vdraw_ext fun w3 he3 _ => ?_
    have ha3 := ha2.ext he3
    have hv3 := hv2.ext he3
    have hvi := hv3.ints
    have hal := har.len
    obtain ⟨g1, g2⟩ := hbd _ (List.mem_append_left _ (getD_mem hil))
    simp (disch := first | (simp only [push_cast]; done) | omega) only [push_cast, ha3.iaddr, ha3.load, true_and]
    refine l4Abs_spec (by omega) ?_
    simp (disch := first | (simp only [push_cast]; done) | omega) only [push_cast, ha3.iaddr, ha3.load, true_and, and_self, hvi.iaddr]
    refine hv3.st z_int (by omega) fun w4 hv4 hs4 hz4 => ?_
    rw [inc64 (by omega)]
    refine hC hil _ _ ⟨rfl, Ext.then (he2.trans he3) hs4 hN, (hB2.ext he3).same hs4 fun e => hbv _ e rfl, _, hv4, ?_⟩
    rw [M.take_snoc' (d := 0) hil]
    exact arr_snoc har g1 g2
  clear hC
  rw [List.take_of_length_le (by omega)] at har
  refine vloop_up b.length (fun i u w' => u = [.int .i64 i] ∧ Ext w w' ∧ Blk w' b0 [] T_int ∧ ∃ arr, OwnI PP T_Lint w' v1 arr ∧ ArrP many (a ++ b.take i) arr) ⟨rfl, he2, hB2, arr, hv2, by simpa using har⟩ ?_
  clear har hv2 arr hB2 ha2 he2 w2
  rintro j _ _ w2 C hj ⟨rfl, he2, hB2, arr, hv2, har⟩ hC
  have hb2 := hb.ext he2
  simp (disch := (simp only [push_cast]; done)) only [push_cast, hb2.len]
  refine vif_dec (fun c2 => ?_) (fun c2 => ?_)
  · have hil : j < b.length := by omega
    refine vdraw_ext fun w3 he3 _ => ?_
    have hb3 := hb2.ext he3
    have hv3 := hv2.ext he3
    have hvi := hv3.ints
    have hal := har.len
    obtain ⟨g1, g2⟩ := hbd _ (List.mem_append_right _ (getD_mem hil))
    simp (disch := first | (simp only [push_cast]; done) | omega) only [push_cast, hb3.iaddr, hb3.load, true_and]
    refine l4Abs_spec (by omega) ?_
    simp (disch := first | (simp only [push_cast]; done) | omega) only [push_cast, hb3.iaddr, hb3.load, true_and, and_self, hvi.iaddr]
    refine hv3.st z_int (by omega) fun w4 hv4 hs4 hz4 => ?_
    rw [inc64 (by omega)]
    refine hC hil _ _ ⟨rfl, Ext.then (he2.trans he3) hs4 hN, (hB2.ext he3).same hs4 fun e => hbv _ e rfl, _, hv4, ?_⟩
    rw [M.take_snoc' (d := 0) hil, ← List.append_assoc]
    exact arr_snoc har g1 g2
  clear hC
  rw [List.take_of_length_le (by omega)] at har
  have hal := har.len
  have hv0 : OwnI PP T_Lint w2 (.slice (some ⟨b0, 0, none⟩) 0 0) [] := Blk.own1 (P := PP) (t := T_Lint) (cs := []) (by rw [eo_Lint]; exact hB2) (Nat.zero_le _) rfl rfl (by omega)
  refine vloop_up many (fun n u w' => ∃ v, u = [v, .int .i64 (n + 1 : Nat)] ∧ Ext w w' ∧ OwnI PP T_Lint w' v1 arr ∧ OwnI PP T_Lint w' v (joinA arr m n) ∧ (∀ x, v.ownBlock = some x → w.heap.size ≤ x ∧ v1.ownBlock ≠ some x)) ⟨_, rfl, he2, hv2, hv0, fun x hx => ?_⟩ ?_
  · have e : b0 = x := Option.some.inj hx
    subst e
    exact ⟨by omega, fun e => hbv _ e rfl⟩
  rintro n _ _ w3 C3 hn ⟨v, rfl, he3, hv3, hr3, hf3⟩ hC3
  simp only [push_cast]
  have hjl := joinA_len arr m n
  refine vif_dec (fun c3 => ?_) (fun c3 => ?_)
  · have hs := joinA_succ arr m n
    have hinc : IntKind.i64.wrap ((n : Int) + 1 + 1) = ((n + 1 + 1 : Nat) : Int) := by rw [wrap64 (by omega) (by omega)]; omega
    have hvi := hv3.ints
    rw [hinc]
    refine vif_dec (fun c4 => ?_) (fun c4 => ?_)
    · rw [if_neg (by omega)] at hs
      have e1 : ((n : Int) + 1) = ((n + 1 : Nat) : Int) := rfl
      rw [e1]
      simp (disch := first | (simp only [push_cast]; done) | omega) only [hvi.iaddr, Int.toNat_natCast, hvi.load, vbin_neq]
      refine vif_dec (fun c5 => ?_) (fun c5 => ?_)
      · rw [if_neg c5] at hs
        refine vbuildS_one u_Lint z_int zr_int rfl rfl fun b4 w4 hb4 he4 hz4 hB4 => ?_
        refine (hr3.ext he4).app1 l_Lint hB4 (by omega) (by omega) fun v5 w5 hv5 hs5 hn5 => ?_
        have hz3 := he3.size
        refine hC3 (by omega) _ _ ⟨v5, rfl, Ext.then (he3.trans he4) hs5 fun x hx => (hf3 x hx).1, (hv3.ext he4).same hs5 fun x hx e => (hf3 x e).2 hx, by rw [hs]; exact hv5, fun x hx => ?_⟩
        rcases hn5 x hx with e | e
        · exact hf3 x e
        · exact ⟨by omega, fun e' => by have := hv3.lt e'; omega⟩
      · rw [if_pos (by simpa using c5), List.append_nil] at hs
        exact hC3 (by omega) _ _ ⟨v, rfl, he3, hv3, by rw [hs]; exact hr3, hf3⟩
    · rw [if_pos (by omega), List.append_nil] at hs
      exact hC3 (by omega) _ _ ⟨v, rfl, he3, hv3, by rw [hs]; exact hr3, hf3⟩
  · have : n = many := by omega
    subst this
    rw [joinA_eq har hc] at hr3
    exact hK w3 v he3 hr3 fun x hx => (hf3 x hx).1
theorem learnS_cons {cl : List Int} (hok : satOk many c s) (hcm : c.many = many) (hF : Fls s.put cl) (hs : Srt cl) (h2 : 2 ≤ (tops s.put (decs s.why) cl).length) :
    lastPl s.put cl - 1 < s.put.length ∧ lastPl s.put cl ≠ 0 ∧ 0 ≤ s.why.getD (lastPl s.put cl - 1) 0 ∧ s.why.getD (lastPl s.put cl - 1) 0 < c.list.length + s.learned.length ∧
    (∀ l, l ∈ cl ++ atM c s (s.why.getD (lastPl s.put cl - 1) 0).toNat → l ≠ 0 ∧ l.natAbs ≤ many) ∧ (∀ l, l ∈ cl ++ atM c s (s.why.getD (lastPl s.put cl - 1) 0).toNat → l.natAbs ≠ (s.put.getD (lastPl s.put cl - 1) 0).natAbs → -l ∉ cl ++ atM c s (s.why.getD (lastPl s.put cl - 1) 0).toNat) := by
  have ht := topOf_tops (put := s.put) (ds := decs s.why) (srt_nodup hs)
  have hne : cl ≠ [] := fun e => by subst e; simp [tops] at h2
  have hp := lastPl_pos hF hne
  obtain ⟨k, hk⟩ : ∃ k, lastPl s.put cl = k + 1 := ⟨lastPl s.put cl - 1, by omega⟩
  rw [hk, Nat.add_sub_cancel]
  obtain ⟨hkl, hpc, hy0, hyn, himp, -⟩ := last_reason hok hF ht h2 hk
  obtain ⟨hpr, hoth⟩ := (impl_iff hok.mks).1 himp
  have hyn' : (s.why.getD k 0).toNat < c.list.length + s.learned.length := by omega
  have off : ∀ l, l ∈ cl ++ atM c s (s.why.getD k 0).toNat → l.natAbs ≠ (s.put.getD k 0).natAbs → -l ∈ s.put := fun l hl hne => by
    rcases List.mem_append.1 hl with hl | hl
    · exact hF l hl
    · exact List.mem_of_mem_take (hoth l hl fun e => hne (by rw [e]))
  refine ⟨hkl, by omega, hy0, hyn, fun l hl => ?_, fun l hl hne hn => ?_⟩
  · rcases List.mem_append.1 hl with hl | hl
    · have := hok.mks.2 _ (hF l hl); omega
    · exact hok.lit hcm hyn' hl
  · have h1 := off l hl hne
    have h3 := off (-l) hn (by rwa [Int.natAbs_neg])
    exact hok.mks.neg h1 h3
theorem l5Learn_spec {vc v vl v3 : Value} {k : Nat} (hc : CnfR F w vc c) (hs : SatR F' w v s) (hl : Ints Fr w vl (levs many s.put (decs s.why))) (hv : OwnI PP T_Lint w v3 (atM c s k)) (hok : satOk many c s) (hcm : c.many = many) (hk : k < c.list.length + s.learned.length) (hcc : clashC s.put (atM c s k))
    (hK : ∀ w' v', Ext w w' → OwnI PP T_Lint w' v' (learnM many c s s.put.length (atM c s k)) → (∀ x, v'.ownBlock = some x → v3.ownBlock = some x ∨ w.heap.size ≤ x) → K v' w') : vcall PP n_spec_l5Learn #[vc, v, vl, v3] w K := by
  apply c_spec_l5Learn; unfold F_spec_l5Learn
  have hc' := hc
  have hs' := hs
  obtain ⟨lv, rfl, hcl⟩ := hc
  obtain ⟨vp, vw, vls, rfl, hp, hw, hls⟩ := hs
  have hmany : many ≤ 700 ∧ c.list.length ≤ 2500 := by
    have := hok.cnf
    unfold cnfOk at this
    simp only [Bool.and_eq_true, decide_eq_true_eq] at this
    omega
  have hfew := hok.few
  have hmk := hok.mks
  have hpl := hmk.len
  have hlen := hok.len
  have hFc := clash_fls hcc
  have hSc := clauseOk_srt (hok.atOk hk)
  have hdl : (decs s.why).length ≤ 700 := by rw [decs_len]; omega
  have bounds : ∀ {cl' : List Int}, Fls s.put cl' → ∀ x, x ∈ cl' → x.natAbs ≤ many ∧ placeOf s.put x.natAbs ≠ 0 := fun hF x hx => by
    have h1 := hmk.2 _ (hF x hx)
    have h2 := placeOf_ne_zero (hF x hx)
    rw [Int.natAbs_neg] at h2
    exact ⟨by omega, h2⟩
  generalize atM c s k = cl at *
  refine vbox_new fun b1 w1 hb1 he1 hz1 hB1 => ?_
  refine vbox_new fun b2 w2 hb2 he2 hz2 hB2 => ?_
  have A2 : Blk w2 b1 [.int .i64 c.many, lv] T_impl_Cnf := hB1.ext he2
  have B2 : Blk w2 b2 [vp, vw, vls, .int .i64 s.code] T_impl_Sat := hB2
  have E2 := he1.trans he2
  refine l5Top_spec (hl.ext E2) hmany.1 hdl (hv.ext E2).ints (bounds hFc) ?_
  simp only [push_cast]
  refine vloop_of (fun n u w' => ∃ cl' f v, n = lastPl s.put cl' ∧ u = [v, .int .i64 (tops s.put (decs s.why) cl').length] ∧ Ext w w' ∧ Blk w' b1 [.int .i64 c.many, lv] T_impl_Cnf ∧ Blk w' b2 [vp, vw, vls, .int .i64 s.code] T_impl_Sat ∧
      OwnI PP T_Lint w' v cl' ∧ (∀ x, v.ownBlock = some x → v3.ownBlock = some x ∨ w.heap.size ≤ x) ∧ Fls s.put cl' ∧ Srt cl' ∧ lastPl s.put cl' ≤ f ∧ learnM many c s f cl' = learnM many c s s.put.length cl) _
    ⟨cl, s.put.length, v3, rfl, rfl, E2, A2, B2, hv.ext E2, fun x hx => .inl hx, hFc, hSc, lastPl_le, rfl⟩ ?_
  rintro _ _ _ w3 C ⟨cl', f, v, rfl, rfl, E3, A3, B3, hv3, hn3, hF, hS, hlf, hlm⟩ hC
  simp only [push_cast]
  refine vif_dec (fun a => ?_) (fun a => ?_)
  · have h2 : 2 ≤ (tops s.put (decs s.why) cl').length := by omega
    obtain ⟨g1, g2, g3, g4, g5, g6⟩ := learnS_cons hok hcm hF hS h2
    obtain ⟨k1, k2, k3, k4⟩ := learnS_ok hok hcm hF hS h2
    obtain ⟨f, rfl⟩ : ∃ f', f = f' + 1 := ⟨f - 1, by omega⟩
    rw [learnM, if_neg (by omega)] at hlm
    rw [B3.ldAgg g_impl_Sat]
    refine l5Last_spec (hs'.ext E3) hmk hmany.1 hv3.ints (fun l hl => by have := (bounds hF l hl).1; omega) fun w4 he4 => ?_
    have E4 := E3.trans he4
    refine vdraw_ext fun w5 he5 _ => ?_
    have E5 := E4.trans he5
    have A5 := (A3.ext he4).ext he5
    have B5 := (B3.ext he4).ext he5
    obtain ⟨q, hq⟩ : ∃ q, lastPl s.put cl' = q + 1 := ⟨lastPl s.put cl' - 1, by omega⟩
    have hls : learnS many c s cl' = joinM many cl' (atM c s (s.why.getD q 0).toNat) (s.put.getD q 0).natAbs := by unfold learnS; rw [hq, Nat.add_sub_cancel]
    rw [hq, Nat.add_sub_cancel] at g1 g3 g4 g5 g6
    rw [hq, show ((q + 1 : Nat) : Int) - 1 = (q : Int) from by omega]
    have hp5 := hp.ext E5
    have hw5 := hw.ext E5
    simp (disch := first | (simp only [push_cast]; done) | omega) only [push_cast, A5.ldAgg g_impl_Cnf, B5.ldAgg g_impl_Sat, A5.ld0, B5.ld0, B5.ld1, true_and, hp5.iaddr, hp5.load, hw5.iaddr, hw5.load]
    obtain ⟨y, hy⟩ : ∃ y : Nat, s.why.getD q 0 = y := ⟨(s.why.getD q 0).toNat, by omega⟩
    rw [hy] at g4 g5 g6 hls ⊢
    rw [Int.toNat_natCast] at g5 g6 hls
    refine l5At_spec (hc'.ext E5) (hs'.ext E5) (by omega) (by omega) fun w6 v6 he6 hv6 => ?_
    have E6 := E5.trans he6
    have A6 := A5.ext he6
    have B6 := B5.ext he6
    have hp6 := hp.ext E6
    simp (disch := first | (simp only [push_cast]; done) | omega) only [push_cast, A6.ld0, B6.ld0, true_and, and_self, hp6.iaddr, hp6.load]
    have hbm := hmk.2 _ (getD_mem g1)
    refine l4Abs_spec (by omega) ?_
    simp (disch := first | (simp only [push_cast]; done) | omega) only [push_cast, A6.ld0, true_and, and_self]
    rw [hcm]
    have hv6' := (((hv3.ext he4).ext he5).ext he6)
    refine l5Join_spec hv6'.ints hv6 hmany.1 g5 g6 fun w7 v7 he7 hv7 hn7 => ?_
    have E7 := E6.trans he7
    rw [← hls] at hv7
    refine l5Top_spec (hl.ext E7) hmany.1 hdl hv7.ints (bounds k1) ?_
    simp only [push_cast]
    refine hC (lastPl s.put (learnS many c s cl')) _ _ k3 ⟨_, f, v7, rfl, rfl, E7, A6.ext he7, B6.ext he7, hv7, fun x hx => .inr ?_, k1, k2, by omega, hlm⟩
    have := hn7 x hx; have := E6.size; omega
  · have hend : learnM many c s s.put.length cl = cl' := by
      rw [← hlm]
      cases f with
      | zero => rfl
      | succ f => rw [learnM, if_pos (by omega)]
    rw [hend] at hK
    exact hK w3 v E3 hv3 hn3
theorem l4Max_spec {a b : Nat} (hK : K (.int .i64 (max a b : Nat)) w) : vcall PP n_spec_l4Max #[.int .i64 a, .int .i64 b] w K := by
  apply c_spec_l4Max; unfold F_spec_l4Max
  simp only [push_cast]
  refine vif_dec (fun h => ?_) (fun h => ?_)
  · rwa [show max a b = a from by omega] at hK
  · rwa [show max a b = b from by omega] at hK
theorem l5Below_spec {v v' : Value} {put cl : List Int} {ds : List Bool} (hx : Ints F w v (levs many put ds)) (h700 : many ≤ 700) (hcl : Ints Fr w v' cl) (hb : ∀ l, l ∈ cl → l.natAbs ≤ many ∧ placeOf put l.natAbs ≠ 0)
    (hK : K (.int .i64 (belowM put ds cl : Nat)) w) : vcall PP n_spec_l5Below #[v, v', .int .i64 (topL put ds cl : Nat)] w K := by
  apply c_spec_l5Below; unfold F_spec_l5Below
  have hlen : cl.length ≤ 9223372036854775807 := by obtain ⟨_, _, _, h1, h2, _⟩ := hcl.shape; simp at h1; omega
  have hsl := levs_len many put ds
  generalize hT : topL put ds cl = T
  refine vloop_up cl.length (fun i u w' => w' = w ∧ u = [.int .i64 (maxL (((cl.take i).filter fun k => decide (lvM put ds k < T)).map (lvM put ds)) : Nat), .int .i64 i]) ⟨rfl, rfl⟩ ?_
  rintro i _ _ _ C hi ⟨rfl, rfl⟩ hC
  simp (disch := (simp only [push_cast]; done)) only [push_cast, hcl.len]
  refine vif_dec (fun a => ?_) (fun a => ?_)
  · have hil : i < cl.length := by omega
    simp (disch := first | (simp only [push_cast]; done) | omega) only [push_cast, hcl.iaddr, hcl.load]
    obtain ⟨hb1, hb2⟩ := hb _ (getD_mem hil)
    refine l4Abs_spec (by omega) ?_
    simp (disch := first | (simp only [push_cast]; done) | omega) only [push_cast, hx.iaddr, hx.load]
    rw [levs_get hb1, levV_lit hb2]
    have hfil : (cl.take (i + 1)).filter (fun k => decide (lvM put ds k < T)) = (cl.take i).filter (fun k => decide (lvM put ds k < T)) ++ (if lvM put ds (cl.getD i 0) < T then [cl.getD i 0] else []) := by
      rw [M.take_snoc' (d := 0) hil, List.filter_append, List.filter_cons, List.filter_nil]
      simp only [decide_eq_true_eq]
    have hsn : ∀ A : List Int, maxL ((A ++ [cl.getD i 0]).map (lvM put ds)) = max (maxL (A.map (lvM put ds))) (lvM put ds (cl.getD i 0)) := fun A => by
      rw [List.map_append]; exact maxL_snoc _ _ _ rfl
    refine vif_dec (fun b => ?_) (fun b => ?_)
    · refine l4Max_spec ?_
      rw [inc64 (by omega)]
      rw [if_pos (by omega)] at hfil
      refine hC hil _ _ ⟨rfl, ?_⟩
      rw [hfil, hsn]
    · rw [inc64 (by omega)]
      rw [if_neg (by omega), List.append_nil] at hfil
      exact hC hil _ _ ⟨rfl, by rw [hfil]⟩
  · rw [List.take_of_length_le (by omega), ← hT]
    exact hK
end Go.Proofs.YtpihgpfebhegmaaGreat
