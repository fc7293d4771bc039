/- Contracts of chapter 5: learning. -/
import Derived.Test.YtpihgpfebhegmaaLe
set_option linter.unusedVariables false
set_option linter.unusedSimpArgs false
set_option linter.unnecessarySimpa false
set_option linter.unusedSectionVars false
namespace Go.Proofs.Ytpihgpfebhegmaa
open Go Go.Vc Go.Proofs Go.M
variable {w : World} {K : Value → World → Prop} {F Fr : Nat → Prop} {many bs : Nat}
theorem few_ints {ks : List Int} (hd : ks.Nodup) (hb : ∀ k, k ∈ ks → k.natAbs ≤ 700) : ks.length ≤ 1401 := by
  have h1 : (ks.map fun k => (k + 701).toNat).Nodup := by
    unfold List.Nodup
    rw [List.pairwise_map]
    refine (List.pairwise_iff_forall_sublist.2 fun {a c} hs => ?_)
    have ha : a ∈ ks := hs.subset (by simp)
    have hc : c ∈ ks := hs.subset (by simp)
    have := hb a ha
    have := hb c hc
    have hne : a ≠ c := by
      have := hd.sublist hs
      simpa using this
    omega
  have := nodup_le (m := 1401) h1 fun x hx => by
    obtain ⟨k, hk, rfl⟩ := List.mem_map.1 hx
    have := hb k hk
    omega
  simpa using this
theorem greatest_spec {bt b : Nat} {put ks : List Int} {ds : List Bool} {vp vpl vl : Value} (h : TrailR Fr w bt many put ds vp vpl vl) (hm : ISet w b ks) (hks : ∀ k, k ∈ ks → k.natAbs ≤ many ∧ placeOf put k.natAbs ≠ 0)
    (hK : ∀ w' top v xs, Ext w w' → TopOf put ds ks top xs → OwnI PP T_Lint w' v xs → (∀ x, v.ownBlock = some x → w.heap.size ≤ x) → K (.tuple #[.int .i64 (top : Nat), v]) w') :
    vcall PP n_impl_trail_greatest #[.pointer (some ⟨bt, 0, none⟩), .map (some b)] w K := by
  apply c_impl_trail_greatest; unfold F_impl_trail_greatest
  have hfw := h.few
  have hfew := h.few'
  have hlen := h.len
  have hkn := hm.nodup
  have hsm : ks.length ≤ 1401 := few_ints hkn fun k hk => by have := (hks k hk).1; omega
  refine vrange_set im_impl_clauseBits hm fun r w1 hr hi1 he1 => ?_
  refine vloop_up ks.length (fun i u w' => ∃ dn top v xs, dn.length = i ∧ u = [.int .i64 (top : Nat), v] ∧ IterR w' r b ks dn ∧ OwnI PP T_Lint w' v xs ∧ TopOf put ds dn top xs ∧ Ext w w' ∧ r < w'.heap.size ∧ top ≤ 700 ∧ (∀ x, v.ownBlock = some x → w.heap.size ≤ x ∧ x ≠ r))
    ⟨[], 0, .slice none 0 0, [], rfl, rfl, hi1, OwnI.nil, ⟨by simp, by simp, .inl rfl, List.nodup_nil⟩, he1, ?_, by omega, fun x hx => by cases hx⟩ ?_
  · exact hi1.lt
  rintro i _ g w2 C hi ⟨dn, top, v, xs, hdn, rfl, hit, hv, ht, he, hrl, htop, hfr⟩ hC
  refine vnext_set hit (fun hall => ?_) fun k x w3 hk hkd hit3 hs3 hz3 => ?_
  · simp only [push_cast]
    refine hK w2 top v xs he ⟨fun k hk => ht.le k (hall k hk), fun k => ?_, ht.ne, ht.nd⟩ hv fun x hx => (hfr x hx).1
    rw [ht.mem]
    obtain ⟨_, _, _, _, _, _, _, _, h2, _⟩ := hit
    exact ⟨fun ⟨a, b⟩ => ⟨h2 k a, b⟩, fun ⟨a, b⟩ => ⟨hall k a, b⟩⟩
  have he3 : Ext w w3 := he.then hs3 fun y hy => by subst hy; omega
  have hv3 := hv.same hs3 fun y hy => (hfr y hy).2
  simp only [push_cast]
  refine ventry_set hit3 fun x' => ?_
  simp only [push_cast]
  obtain ⟨hk1, hk2⟩ := hks k hk
  refine level_spec (h.ext he3) hk1 hk2 fun w4 he4 => ?_
  have hv4 := hv3.ext he4
  have hit4 := hit3.ext he4
  have hlv : lvl ds (placeOf put k.natAbs - 1) = lvM put ds k := rfl
  have hlle : lvM put ds k ≤ 700 := by have := lvl_le ds (placeOf put k.natAbs - 1); rw [hlv] at this; omega
  rw [hlv]
  simp only [push_cast]
  have hlt : i < ks.length := by have := hit3.len; simp at this; omega
  have hsub : ∀ y, y ∈ xs → y ∈ dn := fun y hy => ((ht.mem y).1 hy).1
  have hxl : xs.length ≤ i := by have := List.Nodup.length_le_of_subset ht.nd hsub; omega
  have hsz3 := he3.size
  have hsz4 := he4.size
  have hrl4 := hit4.lt
  have hkx : k ∉ xs := fun h => hkd (hsub k h)
  have memd : ∀ y, y ∈ dn ++ [k] ↔ y ∈ dn ∨ y = k := fun y => by simp
  refine vif_dec (fun a => ?_) (fun a => ?_)
  · refine vbuildS_one u_Lint z_int zr_int rfl rfl fun b1 w5 hb1 he5 hz5 hB5 => ?_
    refine hC hlt _ _ ⟨dn ++ [k], lvM put ds k, _, [k], by simp [hdn], rfl, hit4.ext he5, Blk.own1 (P := PP) (t := T_Lint) (cs := [.int .i64 k]) (by rw [eo_Lint]; exact hB5) (Nat.zero_le _) rfl rfl (by omega), ⟨fun y hy => ?_, fun y => ?_, .inr (by simp), by simp⟩, he3.trans (he4.trans he5), by omega, hlle, ?_⟩
    · rcases (memd y).1 hy with hy | rfl
      · have := ht.le y hy; omega
      · exact Nat.le_refl _
    · rw [memd, List.mem_singleton]
      constructor
      · rintro rfl; exact ⟨.inr rfl, rfl⟩
      · rintro ⟨hy | rfl, e⟩
        · have := ht.le y hy; omega
        · rfl
    · intro x hx; have e : b1 = x := Option.some.inj hx; omega
  · refine vif_dec (fun a2 => ?_) (fun a2 => ?_)
    · refine vbuildS_one u_Lint z_int zr_int rfl rfl fun b1 w5 hb1 he5 hz5 hB5 => ?_
      have hv5 := hv4.ext he5
      refine hv5.app1 l_Lint hB5 (by omega) (by omega) fun v' w6 hv6 hs6 hn6 => ?_
      have hsz5 := he5.size
      have hsz6 := hs6.size
      have hfr' : ∀ x, v'.ownBlock = some x → w.heap.size ≤ x ∧ x ≠ r := fun x hx => by
        rcases hn6 x hx with e | e
        · exact hfr x e
        · have := he.size; constructor <;> omega
      have hit6 := (hit4.ext he5).same hs6 (fun e => by have := (hfr b e).1; have := hm.lt; omega) fun e => (hfr r e).2 rfl
      have hE : Ext w w6 := Ext.then (he3.trans (he4.trans he5)) hs6 fun x hx => (hfr x hx).1
      refine hC hlt _ _ ⟨dn ++ [k], top, v', xs ++ [k], by simp [hdn], rfl, hit6, hv6, ⟨fun y hy => ?_, fun y => ?_, .inr (by simp), ?_⟩, hE, by omega, htop, hfr'⟩
      · rcases (memd y).1 hy with hy | rfl
        · exact ht.le y hy
        · omega
      · rw [memd, List.mem_append, List.mem_singleton, ht.mem]
        constructor
        · rintro (⟨h1, h2⟩ | rfl)
          · exact ⟨.inl h1, h2⟩
          · exact ⟨.inr rfl, by omega⟩
        · rintro ⟨h1 | h1, h2⟩
          · exact .inl ⟨h1, h2⟩
          · exact .inr h1
      · rw [List.nodup_append]
        exact ⟨ht.nd, by simp, fun a ha c hc e => by simp at hc; subst hc; subst e; exact hkx ha⟩
    · refine hC hlt _ _ ⟨dn ++ [k], top, v, xs, by simp [hdn], rfl, hit4, hv4, ⟨fun y hy => ?_, fun y => ?_, ht.ne, ht.nd⟩, he3.trans he4, hrl4, htop, hfr⟩
      · rcases (memd y).1 hy with hy | rfl
        · exact ht.le y hy
        · omega
      · rw [memd, ht.mem]
        constructor
        · rintro ⟨h1, h2⟩; exact ⟨.inl h1, h2⟩
        · rintro ⟨h1 | rfl, h2⟩
          · exact ⟨h1, h2⟩
          · omega
end Go.Proofs.Ytpihgpfebhegmaa
