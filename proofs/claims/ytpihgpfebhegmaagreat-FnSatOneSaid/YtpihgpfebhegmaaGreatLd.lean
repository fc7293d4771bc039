/- Contracts of chapter 5: what changes a trail. -/
import Derived.Test.YtpihgpfebhegmaaGreatLc
set_option linter.unusedVariables false
set_option linter.unusedSimpArgs false
set_option linter.unnecessarySimpa false
set_option linter.unusedSectionVars false
namespace Go.Proofs.YtpihgpfebhegmaaGreat
open Go Go.Vc Go.Proofs Go.M
variable {w : World} {K : Value → World → Prop} {F Fr : Nat → Prop} {bt many : Nat} {put : List Int} {ds : List Bool} {vp vpl vl : Value}
theorem next_spec {v : Value} {vs : List Value} {lls : List (List (List Int))} (h : TrailR Fr w bt many put ds vp vpl vl) (hv : Vals F w v vs) (hn : vs.length = lls.length) (hi : ∀ i, i < lls.length → Lists F w (vs.getD i undef) (lls.getD i []))
    (hl : ∀ c, c ∈ lls.flatten → ∀ l, l ∈ c → l.natAbs ≤ many) (hsm : lls.flatten.length ≤ 1000000)
    (hK : ∀ w' k u x, Ext w w' → findM put lls.flatten 0 (-1) 0 = (k, u, x) → K (.tuple #[.int .i64 k, .int .i64 u, .int .i64 x]) w') :
    vcall PP n_impl_trail_next #[.pointer (some ⟨bt, 0, none⟩), v] w K := by
  apply c_impl_trail_next; unfold F_impl_trail_next
  simp (disch := first | (simp only [push_cast]; done) | omega) only [push_cast, hv.len]
  have hlen : vs.length ≤ 9223372036854775807 := by obtain ⟨_, _, _, h1, h2, _⟩ := hv.shape; simp at h1; omega
  refine vloop_up vs.length (fun i u w' => ∃ (k : Nat) (b x : Int), u = [.int .i64 (-1), .int .i64 b, .int .i64 x, .int .i64 k, .int .i64 i] ∧ Ext w w' ∧ k + (lls.drop i).flatten.length = lls.flatten.length ∧ findM put (lls.drop i).flatten k b x = findM put lls.flatten 0 (-1) 0) ⟨0, -1, 0, rfl, Same.refl _ _, by simp, rfl⟩ ?_
  rintro i _ g w1 C hi1 ⟨k, b, x, rfl, he, hk, hr⟩ hC
  simp only [push_cast]
  refine vif_dec (fun hlt => ?_) (fun hge => ?_)
  · have hv1 := hv.ext he
    obtain ⟨cs, hcs, hcv, hci⟩ := hi i (by omega)
    have hcv1 := hcv.ext he
    simp (disch := first | (simp only [push_cast]; done) | omega) only [push_cast, hv1.iaddr, hv1.load, hcv1.len]
    have hlen2 : cs.length ≤ 9223372036854775807 := by obtain ⟨_, _, _, h1, h2, _⟩ := hcv.shape; simp at h1; omega
    have hd := drop_cons (d := []) (show i < lls.length by omega)
    rw [hd, List.flatten_cons] at hr hk
    have hmem : ∀ c, c ∈ lls.getD i [] → c ∈ lls.flatten := fun c hc => List.mem_flatten.2 ⟨_, by rw [List.getD_eq_getElem?_getD, List.getElem?_eq_getElem (by omega)]; exact List.getElem_mem _, hc⟩
    generalize lls.getD i [] = L at *
    generalize (lls.drop (i + 1)).flatten = T at *
    rw [List.length_append] at hk
    refine vloop_up cs.length (fun j u w' => ∃ (k' : Nat) (b x : Int), u = [.int .i64 (-1), .int .i64 b, .int .i64 x, .int .i64 k', .int .i64 j] ∧ Ext w w' ∧ k' = k + j ∧ findM put (L.drop j ++ T) k' b x = findM put lls.flatten 0 (-1) 0) ⟨k, b, x, rfl, he, by omega, hr⟩ ?_
    rintro j _ g2 w2 C2 hj ⟨k', b, x, rfl, he2, hk', hr⟩ hC2
    simp only [push_cast]
    refine vif_dec (fun hlt2 => ?_) (fun hge2 => ?_)
    · have hcv2 := hcv.ext he2
      simp (disch := first | (simp only [push_cast]; done) | omega) only [push_cast, hcv2.iaddr, hcv2.load]
      have hm : L.getD j [] ∈ L := by rw [List.getD_eq_getElem?_getD, List.getElem?_eq_getElem (by omega)]; exact List.getElem_mem _
      rw [drop_cons (d := []) (show j < L.length by omega), List.cons_append, findM_cons] at hr
      refine look_spec (h.ext he2) ((hci j (by omega)).ext he2) (hl _ (hmem _ hm)) fun w3 b' n y he3 hlook => ?_
      rw [hlook] at hr; dsimp only at hr
      simp (disch := omega) only [push_cast, wrap64]
      have he' := he2.trans he3
      refine vif_bool (fun hb => ?_) (fun hb => ?_)
      · rw [if_pos hb] at hr
        exact hC2 (by omega) _ _ ⟨k' + 1, _, _, by simp <;> exact ⟨rfl, rfl⟩, he', by omega, hr⟩
      rw [if_neg (by simp [hb])] at hr
      refine vif_dec (fun hn0 => ?_) (fun hn0 => ?_)
      · rw [if_pos (by omega)] at hr
        exact hK w3 _ _ _ he' hr.symm
      rw [if_neg (by omega)] at hr
      refine vif_dec (fun hn1 => ?_) (fun hn1 => ?_)
      · rw [if_pos (by omega)] at hr
        refine vif_dec (fun hu => ?_) (fun hu => ?_)
        · rw [if_pos hu] at hr
          exact hC2 (by omega) _ _ ⟨k' + 1, _, _, by simp <;> exact ⟨rfl, rfl⟩, he', by omega, hr⟩
        · rw [if_neg hu] at hr
          exact hC2 (by omega) _ _ ⟨k' + 1, _, _, by simp <;> exact ⟨rfl, rfl⟩, he', by omega, hr⟩
      · rw [if_neg (by omega)] at hr
        exact hC2 (by omega) _ _ ⟨k' + 1, _, _, by simp <;> exact ⟨rfl, rfl⟩, he', by omega, hr⟩
    · rw [List.drop_eq_nil_of_le (show L.length ≤ j by omega), List.nil_append] at hr
      simp (disch := omega) only [push_cast, wrap64]
      exact hC (by omega) _ _ ⟨k', _, _, by simp <;> exact ⟨rfl, rfl⟩, he2, by omega, hr⟩
  · rw [List.drop_eq_nil_of_le (by omega)] at hr
    exact hK w1 _ _ _ he hr.symm
theorem sep4 {a b c d : Option Nat} : Sep Fr [a, b, c, d] ↔ ((∀ x, a = some x → b ≠ some x) ∧ (∀ x, a = some x → c ≠ some x) ∧ (∀ x, a = some x → d ≠ some x) ∧ (∀ x, b = some x → c ≠ some x) ∧ (∀ x, b = some x → d ≠ some x) ∧ (∀ x, c = some x → d ≠ some x)) ∧
    (∀ x, a = some x → ¬ Fr x) ∧ (∀ x, b = some x → ¬ Fr x) ∧ (∀ x, c = some x → ¬ Fr x) ∧ (∀ x, d = some x → ¬ Fr x) := by
  unfold Sep
  simp only [List.pairwise_cons, List.mem_cons, List.not_mem_nil, or_false, forall_eq_or_imp, forall_eq]
  constructor
  · rintro ⟨⟨⟨a1, a2, a3⟩, ⟨b1, b2⟩, c1, -⟩, f1, f2, f3, f4⟩; exact ⟨⟨a1, a2, a3, b1, b2, c1⟩, f1, f2, f3, f4⟩
  · rintro ⟨⟨a1, a2, a3, b1, b2, c1⟩, f1, f2, f3, f4⟩; exact ⟨⟨⟨a1, a2, a3⟩, ⟨b1, b2⟩, c1, fun _ h => h.elim, List.Pairwise.nil⟩, f1, f2, f3, f4⟩
theorem push_spec {l : Int} {d : Bool} (h : TrailR Fr w bt many put ds vp vpl vl) (hl0 : l ≠ 0) (hl : l.natAbs ≤ many) (hfree : placeOf put l.natAbs = 0) (hFr : ∀ b, Fr b → b < w.heap.size)
    (hK : ∀ vp' vl' w', TrailR Fr w' bt many (put ++ [l]) (ds ++ [d]) vp' vpl vl' → Same (tfoot bt vp vpl vl) w w' → (∀ b, tfoot bt vp' vpl vl' b → tfoot bt vp vpl vl b ∨ w.heap.size ≤ b) → K (.tuple #[]) w') :
    vcall PP n_impl_trail_push #[.pointer (some ⟨bt, 0, none⟩), .int .i64 l, .bool d] w K := by
  apply c_impl_trail_push; unfold F_impl_trail_push
  have hf := h.few
  have hfew := h.few'
  have hlen := h.len
  have hvn := levels_len ds
  have hc := List.count_le_length (l := ds) (a := true)
  refine vjoin_of (fun u w' => u = [.int .i64 (ds.count true)] ∧ Ext w w') ?_ ?_
  · intro C hC
    have hv := h.rl.ints
    simp (disch := first | (simp only [push_cast]; done) | omega) only [push_cast, h.blk.ld2, hv.len]
    refine vif_dec (fun a => vdraw_ext fun w1 he1 _ => ?_) (fun a => hC _ _ ⟨?_, Same.refl _ _⟩)
    · have h1 := h.ext he1
      have hv1 := h1.rl.ints
      obtain ⟨q, hq⟩ : ∃ q, ds.length = q + 1 := ⟨ds.length - 1, by omega⟩
      simp (disch := first | (simp only [push_cast]; done) | omega) only [push_cast, h1.blk.ld2, hv1.len, true_and]
      rw [hvn, hq, show (((q + 1 : Nat) : Int) - 1) = (q : Int) from by omega]
      simp (disch := first | (simp only [push_cast]; done) | omega) only [push_cast, wrap64, hv1.iaddr, hv1.load, true_and]
      refine hC _ _ ⟨?_, he1⟩
      rw [levels_get (by omega), lvl_all (by omega)]
    · have : ds = [] := List.eq_nil_of_length_eq_zero (by omega)
      subst this; rfl
  rintro _ g w1 ⟨rfl, he1⟩
  refine vjoin_of (fun u w' => u = [.int .i64 ((ds.count true + d.toNat : Nat) : Int)] ∧ w' = w1) ?_ ?_
  · intro C hC
    cases d
    · exact hC _ _ ⟨rfl, rfl⟩
    · simp (disch := omega) only [push_cast, wrap64]
      exact hC _ _ ⟨rfl, rfl⟩
  rintro _ g2 _ ⟨rfl, rfl⟩
  have h1 := h.ext he1
  have hsz1 := he1.size
  simp (disch := first | (simp only [push_cast]; done) | omega) only [push_cast, h1.blk.ld0]
  obtain ⟨⟨s1, s2, s3, s4, s5, s6⟩, f1, f2, f3, f4⟩ := sep4.1 h.sep
  refine vbuildS_one u_Lint z_int zr_int rfl rfl fun b1 w2 hb1 he2 hz2 hB1 => ?_
  have h2 := h1.ext he2
  refine h2.rp.app1 l_Lint hB1 (by omega) (by omega) fun vp' w3 hp3 hs3 hn3 => ?_
  have hB3 : Blk w3 bt [vp, vpl, vl] T_impl_trail := h2.blk.same hs3 fun e => s1 bt rfl e
  refine hB3.st hp3.ints.cells1 hp3.ints.one z_Lint rfl fun w4 hs4 hz4 hB4 => ?_
  have hB4' : Blk w4 bt [vp', vpl, vl] T_impl_trail := hB4
  simp (disch := first | (simp only [push_cast]; done) | omega) only [push_cast, hB4'.ld2]
  have hsz2 := he2.size
  have hsz3 := hs3.size
  have hnp : ∀ x, vp'.ownBlock = some x → vp.ownBlock = some x ∨ w.heap.size ≤ x := fun x hx => (hn3 x hx).imp id fun h => by omega
  have l1 := h.blk.lt
  have hlt : ∀ x, tfoot bt vp vpl vl x → x < w.heap.size := by
    rintro x (rfl | e | e | e)
    · exact l1
    · exact h.rp.lt e
    · exact h.rpl.lt e
    · exact h.rl.lt e
  have hl4 : OwnI PP T_Lint w4 vl (levels ds) := (h2.rl.same hs3 fun x hx e => s5 x e hx).same hs4 fun x hx e => s3 x (by rw [e]) hx
  have hpl4 : OwnI PP T_Lint w4 vpl (places many put) := (h2.rpl.same hs3 fun x hx e => s4 x e hx).same hs4 fun x hx e => s2 x (by rw [e]) hx
  have hp4 : OwnI PP T_Lint w4 vp' (put ++ [l]) := hp3.same hs4 fun x hx e => by
    rcases hnp x hx with e' | e'
    · exact s1 x (by rw [e]) e'
    · have := hlt bt (.inl rfl); omega
  refine vbuildS_one u_Lint z_int zr_int rfl rfl fun b2 w5 hb2 he5 hz5 hB5 => ?_
  refine (hl4.ext he5).app1 l_Lint hB5 (by omega) (by omega) fun vl' w6 hl6 hs6 hn6 => ?_
  have hB6 : Blk w6 bt [vp', vpl, vl] T_impl_trail := (hB4'.ext he5).same hs6 fun e => s3 bt rfl e
  refine hB6.st hl6.ints.cells1 hl6.ints.one z_Lint rfl fun w7 hs7 hz7 hB7 => ?_
  have hB7' : Blk w7 bt [vp', vpl, vl'] T_impl_trail := hB7
  have hsz5 := he5.size
  have hsz6 := hs6.size
  have hnl : ∀ x, vl'.ownBlock = some x → vl.ownBlock = some x ∨ w3.heap.size ≤ x := fun x hx => (hn6 x hx).imp id fun h => by omega
  have hnl' : ∀ x, vl'.ownBlock = some x → vl.ownBlock = some x ∨ w.heap.size ≤ x := fun x hx => (hnl x hx).imp id fun h => by omega
  have hp7 : OwnI PP T_Lint w7 vp' (put ++ [l]) := ((hp4.ext he5).same hs6 fun x hx e => by
    rcases hnp x hx with e' | e'
    · exact s5 x e' e
    · have := hlt x (.inr (.inr (.inr e))); omega).same hs7 fun x hx e => by
    rcases hnp x hx with e' | e'
    · exact s1 x (by rw [e]) e'
    · have := hlt bt (.inl rfl); omega
  have hpl7 : OwnI PP T_Lint w7 vpl (places many put) := ((hpl4.ext he5).same hs6 fun x hx e => s6 x hx e).same hs7 fun x hx e => s2 x (by rw [e]) hx
  have hl7 : OwnI PP T_Lint w7 vl' (levels (ds ++ [d])) := by
    rw [levels_snoc]
    refine hl6.same hs7 fun x hx e => ?_
    rcases hnl x hx with e' | e'
    · exact s3 x (by rw [e]) e'
    · have := hlt bt (.inl rfl); omega
  refine vdraw_ext fun w8 he8 _ => ?_
  have hB8 := hB7'.ext he8
  have hp8 := hp7.ext he8
  have hpl8 := hpl7.ext he8
  have hl8 := hl7.ext he8
  have hpi := hp8.ints
  have hpli := hpl8.ints
  have hpn := places_len many put
  simp (disch := first | (simp only [push_cast]; done) | omega) only [push_cast, hB8.ld0, hB8.ld1, hpi.len, true_and]
  refine variable_spec (by omega) (by omega) ?_
  simp (disch := first | (simp only [push_cast]; done) | omega) only [push_cast, hB8.ld0, hB8.ld1, hpi.len, hpli.iaddr, true_and, and_self]
  refine hpl8.st z_int (by omega) fun w9 hpl9 hs9 hz9 => ?_
  have hpl9' : OwnI PP T_Lint w9 vpl (places many (put ++ [l])) := by
    rw [places_snoc hfree]
    simpa using hpl9
  have hnp' : ∀ x, vp'.ownBlock = some x → vpl.ownBlock ≠ some x := fun x hx e => by
    rcases hnp x hx with e' | e'
    · exact s4 x e' e
    · have := hlt x (.inr (.inr (.inl e))); omega
  have hnl'' : ∀ x, vpl.ownBlock = some x → vl'.ownBlock ≠ some x := fun x hx e => by
    rcases hnl x e with e' | e'
    · exact s6 x hx e'
    · have := hlt x (.inr (.inr (.inl hx))); omega
  have hsz7 := hs7.size
  have hsz8 := he8.size
  have hbig : ∀ x, w.heap.size ≤ x → ¬ Fr x := fun x hx hF => by have := hFr x hF; omega
  refine hK vp' vl' w9 ⟨hB8.same hs9 fun e => s2 bt rfl e, hp8.same hs9 hnp', hpl9', hl8.same hs9 fun x hx e => hnl'' x e hx, ?_, by simp [hlen], distinct_snoc h.dis hfree, ?_, h.few⟩ ?_ ?_
  · rw [sep4]
    refine ⟨⟨?_, s2, ?_, hnp', ?_, hnl''⟩, f1, ?_, f3, ?_⟩
    · rintro x e e2
      cases e
      rcases hnp _ e2 with e' | e'
      · exact s1 _ rfl e'
      · have := hlt _ (.inl rfl); omega
    · rintro x e e2
      cases e
      rcases hnl _ e2 with e' | e'
      · exact s3 _ rfl e'
      · have := hlt _ (.inl rfl); omega
    · intro x e e2
      have hx := hp3.lt e
      rcases hnl x e2 with e3 | e3
      · rcases hnp x e with e' | e'
        · exact s5 x e' e3
        · have := hlt x (.inr (.inr (.inr e3))); omega
      · omega
    · intro x e
      rcases hnp x e with e' | e'
      · exact f2 x e'
      · exact hbig x e'
    · intro x e
      rcases hnl' x e with e' | e'
      · exact f4 x e'
      · exact hbig x e'
  · intro x hx
    rw [List.mem_append, List.mem_singleton] at hx
    rcases hx with hx | rfl
    · exact h.bnd x hx
    · exact ⟨hl0, hl⟩
  · have S0 : Same (tfoot bt vp vpl vl) w w2 := Same.of_ext (he1.trans he2)
    have S3 : Same (tfoot bt vp vpl vl) w2 w3 := hs3.mono fun x _ e => .inr (.inl e)
    have S4 : Same (tfoot bt vp vpl vl) w3 w4 := hs4.mono fun x _ e => .inl e
    have S5 : Same (tfoot bt vp vpl vl) w4 w5 := Same.of_ext he5
    have S6 : Same (tfoot bt vp vpl vl) w5 w6 := hs6.mono fun x _ e => .inr (.inr (.inr e))
    have S7 : Same (tfoot bt vp vpl vl) w6 w7 := hs7.mono fun x _ e => .inl e
    have S8 : Same (tfoot bt vp vpl vl) w7 w8 := Same.of_ext he8
    have S9 : Same (tfoot bt vp vpl vl) w8 w9 := hs9.mono fun x _ e => .inr (.inr (.inl e))
    exact S0.trans (S3.trans (S4.trans (S5.trans (S6.trans (S7.trans (S8.trans S9))))))
  · rintro x (e | e | e | e)
    · exact .inl (.inl e)
    · exact (hnp x e).imp (fun e => .inr (.inl e)) id
    · exact .inl (.inr (.inr (.inl e)))
    · exact (hnl' x e).imp (fun e => .inr (.inr (.inr e))) id
end Go.Proofs.YtpihgpfebhegmaaGreat