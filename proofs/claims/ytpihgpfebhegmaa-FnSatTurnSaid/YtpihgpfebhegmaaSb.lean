/- Contracts of the reference, chapter 5: finding clauses, levels, learning. -/
import Derived.Test.YtpihgpfebhegmaaSa
import Derived.Test.YtpihgpfebhegmaaLi
import Derived.Test.YtpihgpfebhegmaaM10
set_option linter.unusedVariables false
set_option linter.unusedSimpArgs false
set_option linter.unnecessarySimpa false
set_option linter.unusedSectionVars false
namespace Go.Proofs.Ytpihgpfebhegmaa
open Go Go.Vc Go.Proofs Go.M
variable {w : World} {K : Value → World → Prop} {F Fr F' : Nat → Prop} {many : Nat} {c : Cnf} {s : Sat}
theorem inc64 {i : Nat} (h : i < 9223372036854775807) : IntKind.i64.wrap ((i : Int) + 1) = ((i + 1 : Nat) : Int) := by rw [wrap64 (by omega) (by omega)]; omega
theorem l5Find_spec {vc vl v : Value} {put : List Int} {ls : List (List Int)} (hc : CnfR F w vc c) (hl : Lists F' w vl ls) (hx : Ints Fr w v (signs many put)) (hm : marksOk many put) (h700 : many ≤ 700) (hsm : c.list.length + ls.length ≤ 1000000)
    (hb : ∀ cl, cl ∈ c.list ++ ls → ∀ l, l ∈ cl → l ≠ 0 ∧ l.natAbs ≤ many)
    (hK : ∀ w' k u x, Ext w w' → findM put (c.list ++ ls) 0 (-1) 0 = (k, u, x) → K (.tuple #[.int .i64 k, .int .i64 (if 0 ≤ k then -1 else u), .int .i64 (if 0 ≤ k then 0 else x)]) w') : vcall PP n_spec_l5Find #[vc, vl, v] w K := by
  apply c_spec_l5Find; unfold F_spec_l5Find
  obtain ⟨lv, rfl, hlc⟩ := hc
  obtain ⟨cs, hcs, hcv, hci⟩ := hlc
  obtain ⟨es, hes, hev, hei⟩ := hl
  refine vbox_new fun b w1 hb1 he1 hz1 hB => ?_
  have hB1 : Blk w1 b [.int .i64 c.many, lv] T_impl_Cnf := hB
  have hcv1 := hcv.ext he1
  simp (disch := (simp only [push_cast]; done)) only [push_cast, hB1.ld1, hcv1.len]
  refine vloop_up (c.list.length + ls.length) (fun i u w' => ∃ (y x : Int), u = [.int .i64 y, .int .i64 x, .int .i64 i] ∧ Ext w w' ∧ Blk w' b [.int .i64 c.many, lv] T_impl_Cnf ∧ findM put ((c.list ++ ls).drop i) i y x = findM put (c.list ++ ls) 0 (-1) 0) ⟨-1, 0, rfl, he1, hB1, rfl⟩ ?_
  rintro i _ _ w2 C hi ⟨y, x, rfl, he2, hB2, hr⟩ hC
  have hev2 := hev.ext he2
  simp (disch := (simp only [push_cast]; done)) only [push_cast, hev2.len]
  rw [hcs, hes, wrap64 (by omega) (by omega)]
  refine vif_dec (fun a => ?_) (fun a => ?_)
  · have hil : i < c.list.length + ls.length := by omega
    refine vbuildS_nil u_Lint z_int fun b3 w3 hb3 he3 hz3 hB3 => ?_
    have E3 := he2.trans he3
    have hB3' := hB2.ext he3
    have hcv3 := hcv.ext E3
    have hev3 := hev.ext E3
    refine vjoin_of (fun u w' => w' = w3 ∧ ∃ v4, u = [v4] ∧ Ints (fun _ => True) w3 v4 ((c.list ++ ls).getD i [])) ?_ ?_
    · intro J hJ
      refine vif_dec (fun a3 => ?_) (fun a3 => ?_)
      · simp (disch := first | (simp only [push_cast]; done) | omega) only [push_cast, hB3'.ld1, hcv3.iaddr, hcv3.load]
        refine hJ _ _ ⟨rfl, _, rfl, ?_⟩
        rw [getD_app_l (by omega)]
        exact ((hci i (by omega)).ext E3).weaken fun _ _ _ => trivial
      · obtain ⟨j, rfl⟩ : ∃ j, i = c.list.length + j := ⟨i - c.list.length, by omega⟩
        rw [show ((c.list.length + j : Nat) : Int) - (c.list.length : Int) = (j : Int) from by omega, wrap64 (by omega) (by omega)]
        simp (disch := first | (simp only [push_cast]; done) | omega) only [push_cast, hev3.iaddr, hev3.load]
        refine hJ _ _ ⟨rfl, _, rfl, ?_⟩
        rw [getD_app_r]
        exact ((hei j (by omega)).ext E3).weaken fun _ _ _ => trivial
    rintro _ _ _ ⟨rfl, v4, rfl, h4⟩
    have hlt : i < (c.list ++ ls).length := by rw [List.length_append]; exact hil
    have hmem : (c.list ++ ls).getD i [] ∈ c.list ++ ls := by rw [List.getD_eq_getElem?_getD, List.getElem?_eq_getElem hlt]; exact List.getElem_mem _
    rw [drop_cons (d := []) hlt, findM_cons] at hr
    simp only [push_cast]
    refine l5Look_spec (hx.ext E3) hm h700 h4 (hb _ hmem) fun b' n x' hlook => ?_
    rw [hlook] at hr
    dsimp only at hr
    simp only [push_cast]
    rw [inc64 (by omega)]
    have hnn : ¬ (b' = true) → ((if b' then (-1 : Int) else (n : Int)) = n ∧ (if b' then (0 : Int) else x') = x') := fun h => ⟨if_neg h, if_neg h⟩
    by_cases hbt : b' = true
    · rw [if_pos hbt] at hr
      refine vif_dec (fun e => absurd e (by rw [if_pos hbt]; omega)) (fun _ => vif_dec (fun e => absurd e (by rw [if_pos hbt]; omega)) (fun _ => ?_))
      exact hC hil _ _ ⟨y, x, rfl, E3, hB3', hr⟩
    rw [if_neg hbt] at hr
    rw [(hnn hbt).1, (hnn hbt).2]
    refine vif_dec (fun e => ?_) (fun e => vif_dec (fun e1 => ?_) (fun e1 => ?_))
    · rw [if_pos (by omega)] at hr
      have := hK _ _ _ _ E3 hr.symm
      rwa [if_pos (by omega), if_pos (by omega)] at this
    · rw [if_neg (by omega), if_pos (by omega)] at hr
      refine vif_dec (fun e2 => ?_) (fun e2 => ?_)
      · rw [if_pos e2] at hr
        exact hC hil _ _ ⟨i, x', rfl, E3, hB3', hr⟩
      · rw [if_neg e2] at hr
        exact hC hil _ _ ⟨y, x, rfl, E3, hB3', hr⟩
    · rw [if_neg (by omega), if_neg (by omega)] at hr
      exact hC hil _ _ ⟨y, x, rfl, E3, hB3', hr⟩
  · rw [List.drop_eq_nil_of_le (by rw [List.length_append]; omega)] at hr
    have := hK w2 _ _ _ he2 hr.symm
    rwa [if_neg (by omega), if_neg (by omega)] at this
theorem l5At_spec {vc v : Value} {k : Nat} (hc : CnfR F w vc c) (hs : SatR F' w v s) (hk : k < c.list.length + s.learned.length) (hsm : c.list.length + s.learned.length ≤ 1000000)
    (hK : ∀ w' v', Ext w w' → Ints (fun b => F b ∨ F' b) w' v' (atM c s k) → K v' w') : vcall PP n_spec_l5At #[vc, v, .int .i64 k] w K := by
  apply c_spec_l5At; unfold F_spec_l5At
  obtain ⟨lv, rfl, cs, hcs, hcv, hci⟩ := hc
  obtain ⟨vp, vw, vl, rfl, -, -, es, hes, hev, hei⟩ := hs
  refine vbox_new fun b1 w1 hb1 he1 hz1 hB1 => ?_
  refine vbox_new fun b2 w2 hb2 he2 hz2 hB2 => ?_
  have A2 : Blk w2 b1 [.int .i64 c.many, lv] T_impl_Cnf := hB1.ext he2
  have B2 : Blk w2 b2 [vp, vw, vl, .int .i64 s.code] T_impl_Sat := hB2
  have E2 := he1.trans he2
  have hcv2 := hcv.ext E2
  have hev2 := hev.ext E2
  simp (disch := (simp only [push_cast]; done)) only [push_cast, A2.ld1, hcv2.len]
  refine vif_dec (fun a => ?_) (fun a => ?_)
  · simp (disch := first | (simp only [push_cast]; done) | omega) only [push_cast, hcv2.iaddr, hcv2.load]
    refine hK w2 _ E2 ?_
    rw [atM, getD_app_l (by omega)]
    exact ((hci k (by omega)).ext E2).weaken fun _ h _ => .inl h
  · obtain ⟨j, rfl⟩ : ∃ j, k = c.list.length + j := ⟨k - c.list.length, by omega⟩
    simp (disch := (simp only [push_cast]; done)) only [B2.ld2, A2.ld1, hcv2.len, fa_impl_Sat_2, fa_impl_Cnf_1, addr_add, Nat.zero_add, vbin_sub]
    rw [hcs, show ((c.list.length + j : Nat) : Int) - (c.list.length : Int) = (j : Int) from by omega, wrap64 (by omega) (by omega)]
    simp (disch := first | (simp only [push_cast]; done) | omega) only [push_cast, hev2.iaddr, hev2.load]
    refine hK w2 _ E2 ?_
    rw [atM, getD_app_r]
    exact ((hei j (by omega)).ext E2).weaken fun _ h _ => .inr h
theorem l5Levels_spec {vc v : Value} (hc : CnfR F w vc c) (hs : SatR F' w v s) (hcm : c.many = many) (h700 : many ≤ 700) (hm : marksOk many s.put) (hlen : s.put.length = s.why.length) (hwhy : ∀ k, k < s.why.length → s.why.getD k 0 = -1 ∨ 0 ≤ s.why.getD k 0)
    (hK : ∀ w' v', Ext w w' → OwnI PP T_Lint w' v' (levs many s.put (decs s.why)) → (∀ x, v'.ownBlock = some x → w.heap.size ≤ x) → K v' w') : vcall PP n_spec_l5Levels #[vc, v] w K := by
  apply c_spec_l5Levels; unfold F_spec_l5Levels
  obtain ⟨lv, rfl, -⟩ := hc
  obtain ⟨vp, vw, vl, rfl, hp, hw, -⟩ := hs
  have hl7 := hm.len
  refine vbox_new fun b1 w1 hb1 he1 hz1 hB1 => ?_
  refine vbox_new fun b2 w2 hb2 he2 hz2 hB2 => ?_
  have A2 : Blk w2 b1 [.int .i64 c.many, lv] T_impl_Cnf := hB1.ext he2
  have B2 : Blk w2 b2 [vp, vw, vl, .int .i64 s.code] T_impl_Sat := hB2
  have E2 := he1.trans he2
  simp (disch := (simp only [push_cast]; done)) only [push_cast, A2.ld0]
  rw [hcm, wrap64 (by omega) (by omega), show ((many : Int) + 1) = ((many + 1 : Nat) : Int) from by omega]
  refine vmkS_own (bs := 8) l_Lint eo_Lint zr_int rfl (by omega) (by omega) fun v1 w3 h3 he3 hn3 => ?_
  have h3' : OwnI PP T_Lint w3 v1 (levs many [] (decs s.why)) := by rw [levs_nil]; unfold OwnI; rw [List.map_replicate]; exact h3
  have hz2' := E2.size
  refine vloop_up s.put.length (fun i u w' => u = [.int .i64 ((decs s.why).take i |>.count true : Nat), .int .i64 i] ∧ Ext w w' ∧ Blk w' b2 [vp, vw, vl, .int .i64 s.code] T_impl_Sat ∧ OwnI PP T_Lint w' v1 (levs many (s.put.take i) (decs s.why))) ⟨rfl, E2.trans he3, B2.ext he3, by simpa using h3'⟩ ?_
  rintro i _ _ w4 C hi ⟨rfl, he4, hB4, hv⟩ hC
  have hp4 := hp.ext he4
  have hw4 := hw.ext he4
  have hsl := levs_len many (s.put.take i) (decs s.why)
  have hdl := decs_len s.why
  simp (disch := (simp only [push_cast]; done)) only [push_cast, hB4.ld0, hp4.len]
  refine vif_dec (fun a => ?_) (fun a => ?_)
  · have hil : i < s.put.length := by omega
    have hct := count_take_succ (ds := decs s.why) (i := i) (by omega)
    have hcl : ((decs s.why).take i).count true ≤ 700 := Nat.le_trans List.count_le_length (by simp; omega)
    refine vjoin_of (fun u w' => w' = w4 ∧ u = [.int .i64 ((decs s.why).take (i + 1) |>.count true : Nat)]) ?_ ?_
    · intro J hJ
      simp (disch := first | (simp only [push_cast]; done) | omega) only [push_cast, hB4.ld1, hw4.iaddr, hw4.load]
      have hdg := decs_get (why := s.why) (k := i) (by omega)
      have hwi := hwhy i (by omega)
      refine vif_dec (fun b => ?_) (fun b => ?_)
      · rw [inc64 (by omega)]
        refine hJ _ _ ⟨rfl, ?_⟩
        rw [hct, hdg, decide_eq_true (by omega)]; rfl
      · refine hJ _ _ ⟨rfl, ?_⟩
        rw [hct, hdg, decide_eq_false (by omega)]; rfl
    rintro _ _ _ ⟨rfl, rfl⟩
    simp (disch := first | (simp only [push_cast]; done) | omega) only [push_cast, hB4.ld0, hp4.iaddr, hp4.load]
    have hb := hm.2 _ (getD_mem hil)
    have hts := M.take_snoc' (d := 0) hil
    have hd := distinct_take hm.1 (i + 1)
    have hfree : placeOf (s.put.take i) (s.put.getD i 0).natAbs = 0 := by
      refine placeOf_zero fun x hx e => ?_
      rw [hts] at hd
      unfold Distinct at hd
      rw [List.map_append, List.nodup_append] at hd
      exact hd.2.2 _ (List.mem_map_of_mem hx) _ (by simp) e
    have hss := levs_snoc (many := many) (ds := decs s.why) hfree
    rw [← hts, List.length_take, Nat.min_eq_left (by omega), lvl_succ (by omega), ← hct] at hss
    have hvi := hv.ints
    refine l4Abs_spec (by omega) ?_
    simp (disch := first | (simp only [push_cast]; done) | omega) only [push_cast, hvi.iaddr]
    refine hv.st z_int (by omega) fun w5 hv5 hs5 hz5 => ?_
    rw [inc64 (by omega)]
    refine hC hil _ _ ⟨rfl, Ext.then he4 hs5 fun x hx => by have := hn3 x hx; omega, hB4.same hs5 fun e => by have := hn3 _ e; have := B2.lt; omega, by rw [hss]; exact hv5⟩
  · rw [List.take_of_length_le (by omega)] at hv
    exact hK w4 v1 he4 hv fun x hx => by have := hn3 x hx; omega
theorem l5Top_spec {v v' : Value} {put cl : List Int} {ds : List Bool} (hx : Ints F w v (levs many put ds)) (h700 : many ≤ 700) (hds : ds.length ≤ 700) (hcl : Ints Fr w v' cl) (hb : ∀ l, l ∈ cl → l.natAbs ≤ many ∧ placeOf put l.natAbs ≠ 0)
    (hK : K (.tuple #[.int .i64 (topL put ds cl : Nat), .int .i64 (tops put ds cl).length]) w) : vcall PP n_spec_l5Top #[v, v'] w K := by
  apply c_spec_l5Top; unfold F_spec_l5Top
  have hlen : cl.length ≤ 9223372036854775807 := by obtain ⟨_, _, _, h1, h2, _⟩ := hcl.shape; simp at h1; omega
  have hsl := levs_len many put ds
  refine vloop_up cl.length (fun i u w' => w' = w ∧ u = [.int .i64 (topL put ds (cl.take i) : Nat), .int .i64 (tops put ds (cl.take i)).length, .int .i64 i]) ⟨rfl, rfl⟩ ?_
  rintro i _ _ _ C hi ⟨rfl, rfl⟩ hC
  simp (disch := (simp only [push_cast]; done)) only [push_cast, hcl.len]
  refine vif_dec (fun a => ?_) (fun a => ?_)
  · have hil : i < cl.length := by omega
    simp (disch := first | (simp only [push_cast]; done) | omega) only [push_cast, hcl.iaddr, hcl.load]
    obtain ⟨hb1, hb2⟩ := hb _ (getD_mem hil)
    refine l4Abs_spec (by omega) ?_
    simp (disch := first | (simp only [push_cast]; done) | omega) only [push_cast, hx.iaddr, hx.load]
    rw [levs_get hb1, levV_lit hb2]
    obtain ⟨t1, t2⟩ := top_step (put := put) (ds := ds) hil _ rfl
    generalize lvM put ds (cl.getD i 0) = k at *
    have hn : (tops put ds (cl.take i)).length ≤ i := Nat.le_trans (List.length_filter_le _ _) (by simp; omega)
    refine vif_dec (fun b => ?_) (fun b => ?_)
    · rw [if_pos (by omega)] at t1 t2
      refine vif_dec (fun _ => ?_) (fun e => absurd trivial e)
      rw [inc64 (by omega)]
      exact hC hil _ _ ⟨rfl, by rw [t1, t2]; rfl⟩
    · rw [if_neg (by omega)] at t1 t2
      refine vif_dec (fun e => ?_) (fun e => ?_)
      · rw [if_pos (by omega)] at t2
        rw [inc64 (by omega), inc64 (by omega)]
        exact hC hil _ _ ⟨rfl, by rw [t1, t2]⟩
      · rw [if_neg (by omega)] at t2
        rw [inc64 (by omega)]
        exact hC hil _ _ ⟨rfl, by rw [t1, t2]⟩
  · rwa [List.take_of_length_le (by omega)]
theorem l5Has_spec {v : Value} {cl : List Int} {m : Nat} (hcl : Ints Fr w v cl) (hb : ∀ l, l ∈ cl → l.natAbs ≤ 700) (hyes : (∃ q, q ∈ cl ∧ q.natAbs = m) → K (.bool true) w) (hno : (∀ q, q ∈ cl → q.natAbs ≠ m) → K (.bool false) w) : vcall PP n_spec_l5Has #[v, .int .i64 m] w K := by
  apply c_spec_l5Has; unfold F_spec_l5Has
  have hlen : cl.length ≤ 9223372036854775807 := by obtain ⟨_, _, _, h1, h2, _⟩ := hcl.shape; simp at h1; omega
  refine vloop_up cl.length (fun i u w' => w' = w ∧ u = [.int .i64 i] ∧ ∀ q, q ∈ cl.take i → q.natAbs ≠ m) ⟨rfl, rfl, by simp⟩ ?_
  rintro i _ _ _ C hi ⟨rfl, rfl, hp⟩ hC
  simp (disch := (simp only [push_cast]; done)) only [push_cast, hcl.len]
  refine vif_dec (fun a => ?_) (fun a => ?_)
  · have hil : i < cl.length := by omega
    simp (disch := first | (simp only [push_cast]; done) | omega) only [push_cast, hcl.iaddr, hcl.load]
    have hmem : cl.getD i 0 ∈ cl := getD_mem hil
    have hbb := hb _ hmem
    refine l4Abs_spec (by omega) ?_
    simp only [push_cast]
    refine vif_dec (fun b => hyes ⟨_, hmem, by omega⟩) (fun b => ?_)
    rw [inc64 (by omega)]
    refine hC hil _ _ ⟨rfl, rfl, fun q hq => ?_⟩
    rw [M.take_snoc' (d := 0) hil, List.mem_append, List.mem_singleton] at hq
    rcases hq with hq | rfl
    · exact hp q hq
    · omega
  · rw [List.take_of_length_le (by omega)] at hp
    exact hno hp
theorem l5Last_spec {v v' : Value} {cl : List Int} (hs : SatR F w v s) (hm : marksOk many s.put) (h700 : many ≤ 700) (hcl : Ints Fr w v' cl) (hb : ∀ l, l ∈ cl → l.natAbs ≤ 700)
    (hK : ∀ w', Ext w w' → K (.int .i64 ((lastPl s.put cl : Int) - 1)) w') : vcall PP n_spec_l5Last #[v, v'] w K := by
  apply c_spec_l5Last; unfold F_spec_l5Last
  obtain ⟨vp, vw, vl, rfl, hp, -, -⟩ := hs
  have hl7 := hm.len
  refine vbox_new fun b2 w2 hb2 he2 hz2 hB2 => ?_
  have B2 : Blk w2 b2 [vp, vw, vl, .int .i64 s.code] T_impl_Sat := hB2
  have hp2 := hp.ext he2
  simp (disch := (simp only [push_cast]; done)) only [push_cast, B2.ld0, hp2.len]
  rw [wrap64 (by omega) (by omega)]
  refine vloop_up s.put.length (fun i u w' => w' = w2 ∧ u = [.int .i64 ((s.put.length : Int) - 1 - i)] ∧ ∀ j, s.put.length - i ≤ j → j < s.put.length → ∀ q, q ∈ cl → q.natAbs ≠ (s.put.getD j 0).natAbs) ⟨rfl, by simp, fun j h1 h2 => by omega⟩ ?_
  rintro i _ _ _ C hi ⟨rfl, rfl, hj⟩ hC
  simp only [push_cast]
  refine vif_dec (fun a => ?_) (fun a => ?_)
  · obtain ⟨k, hk⟩ : ∃ k : Nat, (s.put.length : Int) - 1 - i = k := ⟨s.put.length - 1 - i, by omega⟩
    have hkl : k < s.put.length := by omega
    rw [hk]
    simp (disch := first | (simp only [push_cast]; done) | omega) only [push_cast, B2.ld0, hp2.iaddr, hp2.load]
    have hbm := hm.2 _ (getD_mem hkl)
    refine l4Abs_spec (by omega) ?_
    refine l5Has_spec (hcl.ext he2) hb (fun h => ?_) (fun h => ?_)
    · simp only [push_cast]
      have hl := lastPl_eq hm hkl h fun j h1 h2 => hj j (by omega) h2
      have := hK _ he2
      rwa [hl, show ((k + 1 : Nat) : Int) - 1 = (k : Int) from by omega] at this
    · simp only [push_cast]
      rw [wrap64 (by omega) (by omega)]
      refine hC (by omega) _ _ ⟨rfl, by rw [show (s.put.length : Int) - 1 - ((i + 1 : Nat) : Int) = (k : Int) - 1 from by omega], fun j h1 h2 => ?_⟩
      by_cases e : j = k
      · subst e; exact h
      · exact hj j (by omega) h2
  · have hl := lastPl_none (put := s.put) (cl := cl) fun j h2 => hj j (by omega) h2
    have := hK _ he2
    rw [hl] at this
    exact this
end Go.Proofs.Ytpihgpfebhegmaa
