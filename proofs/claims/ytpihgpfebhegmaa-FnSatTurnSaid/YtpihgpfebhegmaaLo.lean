/- Contracts of chapter 5: learning. -/
import Derived.Test.YtpihgpfebhegmaaLm
import Derived.Test.YtpihgpfebhegmaaLj
import Derived.Test.YtpihgpfebhegmaaM8
set_option linter.unusedVariables false
set_option linter.unusedSimpArgs false
set_option linter.unnecessarySimpa false
set_option linter.unusedSectionVars false
namespace Go.Proofs.Ytpihgpfebhegmaa
open Go Go.Vc Go.Proofs Go.M
variable {w : World} {K : Value → World → Prop} {F Fr : Nat → Prop} {many bs : Nat} {c : Cnf} {s : Sat} {σ : SV}
theorem satOk.many' (h : satOk many c s) (hcm : c.many = many) : many ≤ 700 ∧ c.list.length ≤ 2500 := by
  have := h.cnf
  unfold cnfOk at this
  simp only [Bool.and_eq_true, decide_eq_true_eq] at this
  omega
theorem learn_spec {v : Value} {k : Nat} (h : SR Fr w bs many c s σ) (hok : satOk many c s) (hcm : c.many = many) (hk : k < c.list.length + s.learned.length) (hx : Ints F w v (atM c s k)) (hc : clashC s.put (atM c s k)) (htop : topL s.put (decs s.why) (atM c s k) ≠ 0) (hFr : ∀ b, Fr b → b < w.heap.size)
    (hK : ∀ w' v', Ext w w' → OwnI PP T_Lint w' v' (learnM many c s s.put.length (atM c s k)) → (∀ x, v'.ownBlock = some x → w.heap.size ≤ x) → K (.tuple #[v', .int .i64 (belowM s.put (decs s.why) (learnM many c s s.put.length (atM c s k)))]) w') :
    vcall PP n_impl_search_learn #[.pointer (some ⟨bs, 0, none⟩), v] w K := by
  apply c_impl_search_learn; unfold F_impl_search_learn
  obtain ⟨hmany, hcl⟩ := satOk.many' hok hcm
  have hfew := hok.few
  have hmk := hok.mks
  obtain ⟨z1, z2, z3, z4⟩ := learn_ok hok hcm hk hc
  have hFc := clash_fls hc
  have hSc := clauseOk_srt (hok.atOk hk)
  generalize atM c s k = cl at *
  refine vbox_new fun p w1 hp he1 hz1 hP1 => ?_
  refine vmkM_new fun bm w2 hbm hm2 he2 => ?_
  have hz2 := he2.size
  have hlen : cl.length ≤ 9223372036854775807 := by obtain ⟨_, _, _, h1, h2, _⟩ := hx.shape; simp at h1; omega
  simp (disch := first | (simp only [push_cast]; done) | omega) only [push_cast, hx.len]
  have hP2 : Blk w2 p [.pointer (some ⟨bs, 0, none⟩)] T_P_impl_search := hP1.ext he2
  -- what stays through all: what is changed is the map
  have keep : ∀ {w3 w4 : World} {S : Nat → Prop}, (Ext w w3 ∧ Blk w3 p [.pointer (some ⟨bs, 0, none⟩)] T_P_impl_search) → Same S w3 w4 → (∀ x, S x → w1.heap.size ≤ x) → (Ext w w4 ∧ Blk w4 p [.pointer (some ⟨bs, 0, none⟩)] T_P_impl_search) := by
    rintro w3 w4 S ⟨a, b⟩ hs hS
    exact ⟨a.then hs fun x hx => by have := hS x hx; omega, b.same hs fun e => by have := hS p e; omega⟩
  refine vloop_up cl.length (fun i u w' => ∃ ks, u = [.int .i64 i] ∧ (Ext w w' ∧ Blk w' p [.pointer (some ⟨bs, 0, none⟩)] T_P_impl_search) ∧ ISet w' bm ks ∧ ∀ x, x ∈ ks ↔ x ∈ cl.take i) ⟨[], rfl, ⟨he1.trans he2, hP2⟩, hm2, by simp⟩ ?_
  rintro i _ _ w3 C hi ⟨ks, rfl, hE, hm3, hks⟩ hC
  simp only [push_cast]
  refine vif_dec (fun a => ?_) (fun a => ?_)
  · have hx3 := hx.ext hE.1
    simp (disch := first | (simp only [push_cast]; done) | omega) only [push_cast, hx3.iaddr, hx3.load]
    refine vmset_set im_impl_clauseBits hm3 fun w4 hm4 hs4 hz4 => ?_
    simp (disch := omega) only [push_cast, wrap64]
    refine hC (by omega) _ _ ⟨_, by simp, keep hE hs4 (fun x hx => by omega), hm4, fun x => ?_⟩
    rw [take_snoc (d := 0) (by omega), List.mem_append, List.mem_singleton, ← hks]
    split
    · rename_i hin
      exact ⟨.inl, fun e => e.elim id fun e => e ▸ hin⟩
    · rw [List.mem_append, List.mem_singleton]
  clear hC
  rw [List.take_of_length_le (by omega)] at hks
  clear hm2 hi a
  -- a set of false literals
  have bounds : ∀ {cl' : List Int}, Fls s.put cl' → ∀ x, x ∈ cl' → x ≠ 0 ∧ x.natAbs ≤ many ∧ placeOf s.put x.natAbs ≠ 0 := fun hF x hx => by
    have h1 := hmk.2 _ (hF x hx)
    have h2 := placeOf_ne_zero (hF x hx)
    rw [Int.natAbs_neg] at h2
    exact ⟨by omega, by omega, h2⟩
  have hR3 := h.ext hE.1
  simp (disch := (simp only [push_cast]; done)) only [push_cast, hE.2.ld0, hR3.blk.ld2]
  refine greatest_spec hR3.tr hm3 (fun x hx => (bounds hFc x ((hks x).1 hx)).2) fun w4 top v4 xs he4 ht4 hv4 hn4 => ?_
  simp only [push_cast]
  have ht4' : TopOf s.put (decs s.why) cl top xs := topOf_congr hks ht4
  refine vloop_of (fun n u w' => ∃ ks cl' f top v xs, n = lastPl s.put cl' ∧ u = [v] ∧ (Ext w w' ∧ Blk w' p [.pointer (some ⟨bs, 0, none⟩)] T_P_impl_search) ∧ ISet w' bm ks ∧ (∀ x, x ∈ ks ↔ x ∈ cl') ∧
      Fls s.put cl' ∧ Srt cl' ∧ TopOf s.put (decs s.why) cl' top xs ∧ OwnI PP T_Lint w' v xs ∧ (∀ x, v.ownBlock = some x → w.heap.size ≤ x ∧ x ≠ bm ∧ x ≠ p) ∧ lastPl s.put cl' ≤ f ∧ learnM many c s f cl' = learnM many c s s.put.length cl) _
    ⟨ks, cl, s.put.length, top, v4, xs, rfl, rfl, keep hE (S := fun _ => False) he4 (fun _ h => h.elim), hm3.ext he4, hks, hFc, hSc, ht4', hv4, fun x hx => ?_, lastPl_le, rfl⟩ ?_
  · have := hn4 x hx
    have := hm3.lt
    have := hE.2.lt
    have := hE.1.size
    exact ⟨by omega, by omega, by omega⟩
  clear hm3 hks ht4 ht4' hv4 hn4 he4 hR3 ks top v4 xs hE
  clear w3 w4
  rintro _ _ _ w3 C ⟨ks, cl', f, top, v3, xs, rfl, rfl, hE, hm3, hks, hF, hS, ht, hv3, hn3, hlf, hlm⟩ hC
  have hR3 := h.ext hE.1
  have hxs := hv3.ints
  have hbd := bounds hF
  have hxsub : ∀ x, x ∈ xs → x ∈ cl' := fun x hx => ((ht.mem x).1 hx).1
  have hxlen : xs.length ≤ 1401 := few_ints ht.nd fun x hx => by have := hbd x (hxsub x hx); omega
  have htt := topOf_tops (put := s.put) (ds := decs s.why) (srt_nodup hS)
  have hxl : xs.length = (tops s.put (decs s.why) cl').length := topOf_len ht htt
  have htopv : top = topL s.put (decs s.why) cl' := topOf_top ht htt
  simp (disch := (simp only [push_cast]; done)) only [push_cast, hxs.len]
  refine vif_dec (fun a => ?_) (fun a => ?_)
  · -- one step of learning
    have h2 : 2 ≤ xs.length := by omega
    have hf : f ≠ 0 := fun e => by
      subst e
      have : xs ≠ [] := fun e => by subst e; simp at h2
      obtain ⟨q, hq⟩ := List.exists_mem_of_ne_nil _ this
      exact lastPl_pos hF (fun e => by have := hxsub q hq; rw [e] at this; cases this) (by omega)
    obtain ⟨f, rfl⟩ : ∃ f', f = f' + 1 := ⟨f - 1, by omega⟩
    rw [learnM, if_neg (by omega)] at hlm
    obtain ⟨k1, k2, k3, k4⟩ := learnS_ok hok hcm hF hS (by omega)
    refine MaxFunc_Lint (g := plM s.put) hxs (fun e => by rw [e] at h2; simp at h2) (fun a b ha hb w' K' he' hK' => ?_) fun w4 m he4 hm hmax => ?_
    · exact learn_1_spec (hR3.ext he') (hE.2.ext he') (hbd a (hxsub a ha)).2.1 (hbd b (hxsub b hb)).2.1 hK'
    have hmb := hbd m (hxsub m hm)
    have hpm : placeOf s.put m.natAbs = lastPl s.put cl' := lastPl_top ht hm fun x hx => by have := hmax x hx; unfold plM at this; omega
    refine vdelete_set im_impl_clauseBits (hm3.ext he4) fun w5 hm5 hs5 hz5 => ?_
    have hE4 := keep hE (S := fun _ => False) he4 (fun _ h => h.elim)
    have hE5 := keep hE4 hs5 (fun x hx => by omega)
    refine vdraw_ext fun w6 he6 _ => ?_
    have hE6 := keep hE5 (S := fun _ => False) he6 (fun _ h => h.elim)
    have hR6 := h.ext hE6.1
    have hwn := hR6.rw.ints
    simp (disch := (simp only [push_cast]; done)) only [push_cast, hE6.2.ld0, hR6.blk.ld2, hR6.blk.ld3, true_and]
    refine place_spec hR6.tr hmb.2.1 fun w7 he7 => ?_
    have hE7 := keep hE6 (S := fun _ => False) he7 (fun _ h => h.elim)
    have hR7 := h.ext hE7.1
    have hwn7 := hR7.rw.ints
    obtain ⟨q, hq⟩ : ∃ q, lastPl s.put cl' = q + 1 := ⟨lastPl s.put cl' - 1, by omega⟩
    have hpq : (placeOf s.put m.natAbs : Int) - 1 = (q : Int) := by omega
    have hlw := hok.len
    have hple := placeOf_le s.put m.natAbs
    obtain ⟨r1, r2, r3, r4, r5, -⟩ := last_reason hok hF ht h2 hq
    have hput : s.put.getD q 0 = -m := by
      refine distinct_eq hmk.1 (getD_mem r1) (hF m (hxsub m hm)) ?_
      have := (placeOf_pos hmb.2.2).2
      rw [hpm, hq, Nat.add_sub_cancel] at this
      rw [this, Int.natAbs_neg]
    rw [hpq]
    simp (disch := first | (simp only [push_cast]; done) | omega) only [push_cast, hE7.2.ld0, hR7.blk.ld2, hR7.blk.ld3, true_and, and_self, hwn7.iaddr, hwn7.load]
    obtain ⟨y, hy⟩ : ∃ y : Nat, s.why.getD q 0 = y := ⟨(s.why.getD q 0).toNat, by omega⟩
    have hyq : s.why.getD q 0 = (y : Int) := hy
    rw [hyq]
    refine clause_spec hR7 (by omega) (by omega) fun v8 w8 he8 hv8 => ?_
    have hE8 := keep hE7 (S := fun _ => False) he8 (fun _ h => h.elim)
    have hsm8 := clauseOk_len (m := many) (by have := hok.atOk (k := y) (by omega); rwa [hcm] at this)
    simp (disch := first | (simp only [push_cast]; done) | omega) only [push_cast, hv8.len, true_and]
    have hm8 : ISet w8 bm (ks.erase m) := ((hm5.ext he6).ext he7).ext he8
    have hnd : ks.Nodup := hm3.nodup
    have hv3' : OwnI PP T_Lint w8 v3 xs := ((((hv3.ext he4).same hs5 fun x hx => (hn3 x hx).2.1).ext he6).ext he7).ext he8
    -- what the join holds
    have hj : learnS many c s cl' = joinM many cl' (atM c s y) (s.put.getD q 0).natAbs := by
      unfold learnS; rw [hq, Nat.add_sub_cancel, hyq, Int.toNat_natCast]
    have hjm : ∀ l, l ∈ learnS many c s cl' ↔ (l ∈ cl' ∧ l ≠ m) ∨ (l ∈ atM c s y ∧ l ≠ -m) := fun l => by
      have := (learn_join hok hcm hF ht h2 hq).1 l
      rw [hyq, Int.toNat_natCast, ← hj, hput, Int.neg_neg] at this
      exact this
    refine vloop_up (atM c s y).length (fun i u w' => ∃ ks', u = [.int .i64 i] ∧ (Ext w w' ∧ Blk w' p [.pointer (some ⟨bs, 0, none⟩)] T_P_impl_search) ∧ Ints Fr w' v8 (atM c s y) ∧ ISet w' bm ks' ∧ (∀ x, x ∈ ks' ↔ (x ∈ cl' ∧ x ≠ m) ∨ (x ∈ (atM c s y).take i ∧ x ≠ -m)))
      ⟨ks.erase m, rfl, hE8, hv8, hm8, fun x => by rw [hnd.mem_erase_iff, hks]; simp [and_comm]⟩ ?_
    rintro i _ _ w9 C9 hi ⟨ks9, rfl, hE9, hv9, hm9, hks9⟩ hC9
    simp only [push_cast]
    refine vif_dec (fun a9 => ?_) (fun a9 => ?_)
    · simp (disch := first | (simp only [push_cast]; done) | omega) only [push_cast, hv9.iaddr, hv9.load]
      have hts := take_snoc (d := 0) (xs := atM c s y) (show i < (atM c s y).length by omega)
      have hFv : ∀ x, Fr x → x < w.heap.size → ¬ (x = bm) := fun x _ hx e => by omega
      have e1 : IntKind.i64.wrap (0 - m) = -m := by rw [wrap64 (by omega) (by omega)]; omega
      have e2 : IntKind.i64.wrap ((i : Int) + 1) = ((i + 1 : Nat) : Int) := by rw [wrap64 (by omega) (by omega)]; omega
      simp only [e1, e2]
      refine vif_dec (fun b9 => ?_) (fun b9 => ?_)
      · refine vmset_set im_impl_clauseBits hm9 fun w10 hm10 hs10 hz10 => ?_
        simp (disch := omega) only [push_cast, wrap64]
        have hv10 : Ints Fr w10 v8 (atM c s y) := hv9.same hs10 fun x hx _ e => by have := hFr x hx; omega
        refine hC9 (by omega) _ _ ⟨_, rfl, keep hE9 hs10 (fun x hx => by omega), hv10, hm10, fun x => ?_⟩
        rw [hts, List.mem_append, List.mem_singleton]
        split
        · rename_i hin
          rw [hks9]
          constructor
          · rintro (e | ⟨e1, e2⟩)
            · exact .inl e
            · exact .inr ⟨.inl e1, e2⟩
          · rintro (e | ⟨e1 | e1, e2⟩)
            · exact .inl e
            · exact .inr ⟨e1, e2⟩
            · rw [e1]; exact (hks9 _).1 hin
        · rw [List.mem_append, List.mem_singleton, hks9]
          constructor
          · rintro ((e | ⟨e1, e2⟩) | e)
            · exact .inl e
            · exact .inr ⟨.inl e1, e2⟩
            · exact .inr ⟨.inr e, by rw [e]; exact b9⟩
          · rintro (e | ⟨e1 | e1, e2⟩)
            · exact .inl (.inl e)
            · exact .inl (.inr ⟨e1, e2⟩)
            · exact .inr e1
      · refine hC9 (by omega) _ _ ⟨_, rfl, hE9, hv9, hm9, fun x => ?_⟩
        rw [hts, List.mem_append, List.mem_singleton, hks9]
        constructor
        · rintro (e | ⟨e1, e2⟩)
          · exact .inl e
          · exact .inr ⟨.inl e1, e2⟩
        · rintro (e | ⟨e1 | e1, e2⟩)
          · exact .inl e
          · exact .inr ⟨e1, e2⟩
          · exact absurd (by rw [← e1]; exact e2) b9
    · rw [List.take_of_length_le (by omega)] at hks9
      have hks9' : ∀ x, x ∈ ks9 ↔ x ∈ learnS many c s cl' := fun x => by rw [hks9, hjm]
      have hR9 := h.ext hE9.1
      have hbS := bounds k1
      simp (disch := (simp only [push_cast]; done)) only [push_cast, hE9.2.ld0, hR9.blk.ld2]
      refine greatest_spec hR9.tr hm9 (fun x hx => (hbS x ((hks9' x).1 hx)).2) fun w10 top' v10 xs' he10 ht10 hv10 hn10 => ?_
      simp only [push_cast]
      have hz9 := hE9.1.size
      have := hm9.lt
      have := hE9.2.lt
      refine hC (lastPl s.put (learnS many c s cl')) _ _ k3 ⟨ks9, learnS many c s cl', f, top', v10, xs', rfl, rfl, keep hE9 (S := fun _ => False) he10 (fun _ h => h.elim), hm9.ext he10, hks9', k1, k2, topOf_congr hks9' ht10, hv10, fun x hx => ?_, by omega, hlm⟩
      have := hn10 x hx
      exact ⟨by omega, by omega, by omega⟩
  · -- the end: the literals are put into a list
    have hend : learnM many c s s.put.length cl = cl' := by
      rw [← hlm]
      cases f with
      | zero => rfl
      | succ f => rw [learnM, if_pos (by omega)]
    rw [hend] at hK z1 z2 z3 z4
    rw [z3] at htopv
    have hx1 : xs.length = 1 := by
      have := ht.ne
      rcases this with e | e
      · omega
      · have := List.length_pos_iff.2 e; omega
    obtain ⟨t0, rfl⟩ := List.length_eq_one_iff.1 hx1
    have hbel : ∀ x, x ∈ cl' → (x ≠ t0 ↔ lvM s.put (decs s.why) x < topL s.put (decs s.why) cl') := fun x hx => by
      have h1 := ht.mem x
      have h2 := ht.le x hx
      rw [List.mem_singleton] at h1
      rw [z3]
      constructor
      · intro hne
        have : ¬ lvM s.put (decs s.why) x = top := fun e => hne (h1.2 ⟨hx, e⟩)
        omega
      · intro hlt e
        have := (h1.1 e).2
        omega
    refine vrange_set im_impl_clauseBits hm3 fun r w4 hr hi4 he4 => ?_
    have hkl := few_ints hm3.nodup fun x hx => by have := hbd x ((hks x).1 hx); omega
    have hz3 := hE.1.size
    have hml := hm3.lt
    have hpl := hE.2.lt
    refine vloop_up ks.length (fun i u w' => ∃ dn v, dn.length = i ∧ u = [.int .i64 (maxL ((dn.filter fun k => decide (lvM s.put (decs s.why) k < topL s.put (decs s.why) cl')).map (lvM s.put (decs s.why))) : Nat), v] ∧ (Ext w w' ∧ Blk w' p [.pointer (some ⟨bs, 0, none⟩)] T_P_impl_search) ∧ IterR w' r bm ks dn ∧ OwnI PP T_Lint w' v dn ∧ OwnI PP T_Lint w' v3 [t0] ∧ (∀ x, v.ownBlock = some x → w3.heap.size < x))
      ⟨[], .slice none 0 0, rfl, rfl, keep hE (S := fun _ => False) he4 (fun _ h => h.elim), hi4, OwnI.nil, hv3.ext he4, fun x hx => by cases hx⟩ ?_
    rintro i _ _ w5 C5 hi ⟨dn, v5, hdn, rfl, hE5, hit5, hv5, ht5, hn5⟩ hC5
    refine vnext_set hit5 (fun hall => ?_) fun k' x' w6 hk6 hkd hit6 hs6 hz6 => ?_
    · -- sorted
      simp only [push_cast]
      have hdk : ∀ x, x ∈ dn ↔ x ∈ cl' := fun x => ⟨fun h => (hks x).1 (hit5.sub h), fun h => hall x ((hks x).2 h)⟩
      have hdne : dn ≠ [] := fun e => by
        have := (ht.mem t0).1 (by simp)
        have := (hdk t0).2 this.1
        rw [e] at this; cases this
      have hdd : (dn.map Int.natAbs).Nodup := by
        have h1 := hit5.nd
        unfold List.Nodup at h1 ⊢
        rw [List.pairwise_map]
        refine List.pairwise_iff_forall_sublist.2 fun {a c} hs => ?_
        have hac : a ≠ c := by
          have := h1.sublist hs
          simpa using this
        have ha := (hdk a).1 (hs.subset (by simp))
        have hc' := (hdk c).1 (hs.subset (by simp))
        intro e
        exact hac (by have := distinct_eq hmk.1 (hF a ha) (hF c hc') (by omega); omega)
      refine SortFunc_learn hv5 hdne (fun x hx => by have := hbd x ((hdk x).1 hx); omega) hdd fun w6 zs hv6 hS6 hm6 hs6 => ?_
      have hzs : zs = cl' := srt_ext hS6 hS fun x => by rw [hm6, hdk]
      subst hzs
      have hmax : maxL ((dn.filter fun k => decide (lvM s.put (decs s.why) k < topL s.put (decs s.why) zs)).map (lvM s.put (decs s.why))) = belowM s.put (decs s.why) zs := by
        unfold belowM
        exact maxL_congr fun x => by simp only [List.mem_map, List.mem_filter, hm6]
      simp only [push_cast, hmax]
      exact hK w6 v5 (hE5.1.then hs6 fun x hx => by have := hn5 x hx; omega) hv6 fun x hx => by have := hn5 x hx; omega
    · simp only [push_cast]
      refine ventry_set hit6 fun x'' => ?_
      simp only [push_cast]
      refine vbuildS_one u_Lint z_int zr_int rfl rfl fun b7 w7 hb7 he7 hz7 hB7 => ?_
      have hir := hit5.lt
      have hE6 := keep hE5 hs6 (fun x hx => by have := he2.size; have := hE.1.size; omega)
      have hE7 := keep hE6 (S := fun _ => False) he7 (fun _ h => h.elim)
      have hsz5 := hE5.1.size
      have hv7 := (hv5.same hs6 fun x hx e => by have := hn5 x hx; omega).ext he7
      have ht7 := (ht5.same hs6 fun x hx e => by have := hn3 x hx; have := hv3.lt hx; omega).ext he7
      have hit7 := hit6.ext he7
      have hdl : i < ks.length := by have := hit6.len; simp at this; omega
      refine hv7.app1 l_Lint hB7 (by omega) (by omega) fun v8 w8 hv8 hs8 hn8 => ?_
      have hn8' : ∀ x, v8.ownBlock = some x → w3.heap.size < x := fun x hx => by
        rcases hn8 x hx with e | e
        · exact hn5 x e
        · have := he4.size; have := hit5.lt; omega
      have hE8 := keep hE7 hs8 (fun x hx => by have := hn5 x hx; omega)
      have ht8 := ht7.same hs8 fun x hx e => by have := hn5 x e; have := hv3.lt hx; omega
      have hit8 := hit7.same hs8 (fun e => by have := hn5 _ e; omega) (fun e => by have := hn5 _ e; omega)
      have htI := ht8.ints
      have hkc : k' ∈ cl' := (hks k').1 hk6
      have hkb := hbd k' hkc
      refine vjoin_of (fun u w' => u = [.bool (decide (k' ≠ t0))] ∧ w' = w8) ?_ ?_
      · intro J hJ
        simp (disch := first | (simp only [push_cast]; done) | omega) only [push_cast, htI.len, htI.iaddr, htI.load]
        exact hJ _ _ ⟨rfl, rfl⟩
      rintro _ _ _ ⟨rfl, rfl⟩
      simp only [push_cast]
      have hfil : (dn ++ [k']).filter (fun k => decide (lvM s.put (decs s.why) k < topL s.put (decs s.why) cl')) = dn.filter (fun k => decide (lvM s.put (decs s.why) k < topL s.put (decs s.why) cl')) ++ (if lvM s.put (decs s.why) k' < topL s.put (decs s.why) cl' then [k'] else []) := by
        rw [List.filter_append]; simp [List.filter_cons]
      refine vif_dec (fun b => ?_) (fun b => ?_)
      · have hR8 := h.ext hE8.1
        simp (disch := (simp only [push_cast]; done)) only [push_cast, hE8.2.ld0, hR8.blk.ld2]
        refine level_spec hR8.tr hkb.2.1 hkb.2.2 fun w9 he9 => ?_
        simp only [push_cast]
        refine hC5 hdl _ _ ⟨dn ++ [k'], v8, by simp [hdn], ?_, keep hE8 (S := fun _ => False) he9 (fun _ h => h.elim), hit8.ext he9, hv8.ext he9, ht8.ext he9, hn8'⟩
        rw [hfil, if_pos ((hbel k' hkc).1 b), List.map_append, maxL_snoc _ ([k'].map (lvM s.put (decs s.why))) (lvM s.put (decs s.why) k') rfl]
        simp only [List.cons.injEq, Value.int.injEq, true_and, and_true]
        show (max _ ((lvM s.put (decs s.why) k' : Nat) : Int)) = _
        omega
      · refine hC5 hdl _ _ ⟨dn ++ [k'], v8, by simp [hdn], ?_, hE8, hit8, hv8, ht8, hn8'⟩
        rw [hfil, if_neg fun e => b ((hbel k' hkc).2 e), List.append_nil]
end Go.Proofs.Ytpihgpfebhegmaa
