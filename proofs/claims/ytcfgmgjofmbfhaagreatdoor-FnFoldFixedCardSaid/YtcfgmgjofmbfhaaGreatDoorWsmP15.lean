import Derived.Test.YtcfgmgjofmbfhaaGreatDoorWsmP14
import Derived.Test.YtcfgmgjofmbfhaaGreatDoorWsmP12
/- A part of the proof: Ea, Ec. -/
set_option linter.unusedVariables false
set_option linter.unusedSimpArgs false
set_option linter.unnecessarySimpa false
set_option linter.unusedSectionVars false
section
namespace Go.Proofs.YtcfgmgjofmbfhaaGreatDoor
open Go Go.Vc Go.Proofs
variable {w : World} {K : Value → World → Prop} {F F' D G : Nat → Prop}
theorem lv0 {b : Nat} {x : Value} {t0 t : TypeId} (h : Blk w b [x] t0) (ho : oneB PP t = true) : vlv PP t (.pointer (some ⟨b, 0, none⟩)) w K = K x w := vlv_eq (by rw [h.ld0 ho]; exact ⟨rfl, rfl⟩)
def manyE (ds : List M.Dcl) : Int := if M.declOk ds = true then 2 ^ (M.bits ds).toNat else 0
theorem bits_take {ds : List M.Dcl} : ∀ {i : Nat}, i < ds.length → M.bits (ds.take (i + 1)) = M.bits (ds.take i) + (ds.getD i (M.nada, 0)).2 := fun {i} h => by
  unfold M.bits
  rw [List.take_succ_eq_append_getElem h, List.map_append, List.sum_append, List.getD_eq_getElem?_getD, List.getElem?_eq_getElem h]
  simp
theorem bits_all {ds : List M.Dcl} (h : M.declOk ds = true) (i : Nat) : 0 ≤ M.bits (ds.take i) ∧ M.bits (ds.take i) ≤ M.bits ds ∧ M.bits ds ≤ 8 := by
  have hw := fun i (hi : i < ds.length) => M.dcl_wide h hi
  have hb := (M.decl_iff.1 h).2.2
  have pos : ∀ d, d ∈ ds → 0 ≤ d.2 := fun d hd => by
    obtain ⟨j, hj, rfl⟩ := List.getElem_of_mem hd
    have := hw j hj
    rw [List.getD_eq_getElem?_getD, List.getElem?_eq_getElem hj] at this
    simp at this; omega
  refine ⟨M.bits_nonneg fun d hd => pos d (List.mem_of_mem_take hd), ?_, hb⟩
  have e : M.bits ds = M.bits (ds.take i) + M.bits (ds.drop i) := by
    unfold M.bits
    rw [← List.sum_append, ← List.map_append, List.take_append_drop]
  have := M.bits_nonneg (ds := ds.drop i) fun d hd => pos d (List.mem_of_mem_drop hd)
  omega
theorem pow8 {b : Int} (h0 : 0 ≤ b) (h8 : b ≤ 8) : 1 ≤ (2 : Int) ^ b.toNat ∧ (2 : Int) ^ b.toNat ≤ 256 := by
  obtain ⟨n, rfl⟩ : ∃ n : Nat, b = n := ⟨b.toNat, by omega⟩
  have : n ≤ 8 := by omega
  have e : n = 0 ∨ n = 1 ∨ n = 2 ∨ n = 3 ∨ n = 4 ∨ n = 5 ∨ n = 6 ∨ n = 7 ∨ n = 8 := by omega
  rcases e with rfl | rfl | rfl | rfl | rfl | rfl | rfl | rfl | rfl <;> decide
theorem shl1 {c : Bool} {t : TypeId} {yk : IntKind} {y : Int} (h0 : 0 ≤ y) (h8 : y ≤ 8) : vbin PP .shl t c (.int .i64 1) (.int yk y) w K = K (.int .i64 (2 ^ y.toNat)) w := by
  rw [vbin_shl h0]
  have hp := pow8 h0 h8
  have e : min y.toNat IntKind.i64.bits = y.toNat := Nat.min_eq_left (by show y.toNat ≤ 64; omega)
  rw [e, Int.one_mul, wrap64 (by omega) (by omega)]
theorem EnvMany_spec {v : Value} {ds : List M.Dcl} (hd : DclsR F w v ds) (hK : ∀ w', Ext w w' → K (.int .i64 (manyE ds)) w') : vcall PP n_impl_EnvMany #[v] w K := by
  apply c_impl_EnvMany; unfold F_impl_EnvMany
  refine DeclOk_spec hd fun w1 he1 => ?_
  simp only [push_cast]
  unfold manyE at hK
  have hd1 := hd.ext he1
  refine vif_bool (fun a => ?_) (fun a => ?_)
  · rw [if_neg (by simpa using a)] at hK
    exact hK _ he1
  have hok : M.declOk ds = true := by simpa using a
  rw [if_pos hok] at hK
  have hsm := hd.small
  simp (disch := (simp only [push_cast]; done)) only [push_cast, hd1.len]
  refine vloop_up ds.length (fun i u w' => u = [.int .i64 (M.bits (ds.take i)), .int .i64 i] ∧ Ext w w') ⟨rfl, he1⟩ ?_
  rintro i _ _ w2 C hi ⟨rfl, he2⟩ hC
  have hd2 := hd.ext he2
  simp only [push_cast]
  refine vif_dec (fun a => ?_) (fun a => ?_)
  · simp (disch := first | (simp only [push_cast]; done) | omega) only [push_cast, hd2.iaddr, hd2.load]
    refine valloc_agg zr_impl_Decl fun b3 w3 hb3 he3 hs3 h3 => ?_
    refine stDecl h3 fun w4 hw4 hz4 h4 => ?_
    simp (disch := (simp only [push_cast]; done)) only [push_cast, h4.ld1]
    have b1 := bits_all hok i
    have b2 := bits_all hok (i + 1)
    rw [bits_take (by omega)] at b2
    rw [wrap64 (by omega) (by omega), inc64' (by omega)]
    exact hC (by omega) _ _ ⟨by rw [bits_take (by omega)], Ext.then (he2.trans he3) hw4 fun y hy => by subst hy; have := he2.size; omega⟩
  · have : i = ds.length := by omega
    subst this
    rw [List.take_length]
    have b1 := bits_all hok 0
    have b2 := bits_all hok ds.length
    rw [List.take_length] at b2
    rw [shl1 b2.1 b2.2.2]
    exact hK _ he2
def bumpL (env : List Int) (i n : Nat) : List Int := env.take i ++ (env.getD i 0 + 1) :: List.replicate n 0
theorem set_cut {env : List Int} {i m : Nat} {x : Int} (hi : i < env.length) (hm : m = m) : (env.take (i + 1) ++ List.replicate m 0).set i x = env.take i ++ x :: List.replicate m 0 := by
  rw [List.set_append_left _ _ (by rw [List.length_take]; omega), List.take_succ_eq_append_getElem hi, List.set_append_right _ _ (by rw [List.length_take]; omega)]
  have : i - (env.take i).length = 0 := by rw [List.length_take]; omega
  rw [this, List.append_assoc]
  rfl
theorem bump_zero {env : List Int} {i n : Nat} (hi : i < env.length) (hn : i < n) : (bumpL env i (n - i - 1)).set i 0 = env.take i ++ List.replicate (n - i) 0 := by
  unfold bumpL
  rw [List.set_append_right _ _ (by rw [List.length_take]; omega)]
  have : i - (env.take i).length = 0 := by rw [List.length_take]; omega
  rw [this, show n - i = (n - i - 1) + 1 by omega, List.replicate_succ]
  rfl
theorem app_getDR {α : Type} {l r : List α} {i : Nat} {e : α} (h : l.length ≤ i) : (l ++ r).getD i e = r.getD (i - l.length) e := by
  rw [List.getD_eq_getElem?_getD, List.getElem?_append_right h, ← List.getD_eq_getElem?_getD]
theorem bump_ok {ds : List M.Dcl} {env : List Int} {i : Nat} (h : M.envOk ds env = true) (hi : i < ds.length) (hx : env.getD i 0 + 1 < 2 ^ ((ds.getD i (M.nada, 0)).2).toNat) : M.envOk ds (M.bump env i) = true := by
  obtain ⟨h1, h2, h3⟩ := M.env_ok h
  have hl : (M.bump env i).length = ds.length := by unfold M.bump; rw [List.length_append, List.length_take, List.length_cons, List.length_replicate]; omega
  unfold M.envOk
  rw [h1, hl]
  simp only [Bool.true_and, decide_true, List.all_eq_true, List.mem_range]
  intro q hq
  have hw := M.dcl_wide h1 hq
  obtain ⟨_, _, q3, _⟩ := M.vok_iff.1 (h3 q hq)
  unfold M.bump
  rcases Nat.lt_trichotomy q i with e | e | e
  · rw [M.app_getD (by rw [List.length_take]; omega), M.take_getD e]
    exact h3 q hq
  · subst e
    rw [app_getDR (l := env.take q) (by rw [List.length_take]; omega)]
    have : q - (env.take q).length = 0 := by rw [List.length_take]; omega
    rw [this]
    exact M.vok_iff.2 ⟨hw.1, hw.2, by show 0 ≤ env.getD q 0 + 1; omega, hx⟩
  · rw [app_getDR (l := env.take i) (by rw [List.length_take]; omega)]
    obtain ⟨r, hr⟩ : ∃ r, q - (env.take i).length = r + 1 := ⟨q - (env.take i).length - 1, by rw [List.length_take]; omega⟩
    rw [hr, List.getD_cons_succ]
    have e0 : (List.replicate (env.length - i - 1) (0 : Int)).getD r 0 = 0 := by
      rw [List.getD_eq_getElem?_getD, List.getElem?_replicate]; split <;> rfl
    rw [e0]
    have := pow8 (b := (ds.getD q (M.nada, 0)).2) (by omega) (by omega)
    exact M.vok_iff.2 ⟨hw.1, hw.2, Int.le_refl _, by omega⟩
theorem environments_1_spec {yv : Value} {bd : Nat} {dv : Value} {t0 : TypeId} {ds : List M.Dcl} {k : Int} {S : Nat → Prop} {R : Int → World → Prop} {Z : World → Prop} (hok : M.declOk ds = true) (hk0 : 0 ≤ k) (hk : k < 2 ^ (M.bits ds).toNat)
    (hb : Blk w bd [dv] t0) (hd : DclsR F w dv ds) (hSb : ¬ S bd) (hSF : ∀ b, F b → ¬ S b) (hSl : ∀ b, S b → b < w.heap.size) (h0 : R 0 w)
    (hR : ∀ j w' w'', R j w' → Same (fun b => w.heap.size ≤ b) w' w'' → R j w'')
    (hy : ∀ (j : Int) (w' : World) (v : Value) (env : List Int) (K' : Value → World → Prop), 0 ≤ j → j ≤ k → R j w' → OwnI PP T_Lint w' v env → (∀ b, v.ownBlock = some b → w.heap.size ≤ b) → M.envOk ds env = true → M.rankE ds env = j →
      (j < k → ∀ w'', R (j + 1) w'' → Same S w' w'' → K' (.bool true) w'') → (j = k → ∀ w'', Z w'' → K' (.bool false) w'') → vcallv PP yv #[v] w' K')
    (hZ : ∀ w', Z w' → K (.tuple #[]) w') : vcall PP n_impl_environments_1 #[yv, .pointer (some ⟨bd, 0, none⟩)] w K := by
  apply c_impl_environments_1; unfold F_impl_environments_1
  have hsm := hd.small
  have hdl := (M.decl_iff.1 hok).1
  rw [hb.ld0 o_Limpl_Decl]
  simp (disch := (simp only [push_cast]; done)) only [push_cast, hd.len]
  refine vmkS_own (z := .int .i64 0) l_Lint (by kernel_rfl) zr_int rfl (by omega) (by omega) fun v w1 hv he1 hn1 => ?_
  have hv1 : OwnI PP T_Lint w1 v (List.replicate ds.length 0) := by unfold OwnI; rw [List.map_replicate]; exact hv
  have hlt1 : ∀ b, v.ownBlock = some b → b < w1.heap.size := fun b hb => hv1.lt hb
  have hz1 := he1.size
  have hpos : ∀ d, d ∈ ds → 0 ≤ d.2 := fun d hd => by
    obtain ⟨j, hj, rfl⟩ := List.getElem_of_mem hd
    have := M.dcl_wide hok hj
    rw [List.getD_eq_getElem?_getD, List.getElem?_eq_getElem hj] at this
    simp at this; omega
  have henv0 : M.envOk ds (List.replicate ds.length 0) = true := by
    unfold M.envOk
    rw [hok, List.length_replicate]
    simp only [Bool.true_and, decide_true, List.all_eq_true, List.mem_range]
    intro i hi
    have := M.dcl_wide hok hi
    have e : (List.replicate ds.length (0 : Int)).getD i 0 = 0 := by simp [List.getD_eq_getElem?_getD, hi]
    rw [e]
    refine M.vok_iff.2 ⟨this.1, this.2, Int.le_refl _, ?_⟩
    have := pow8 (b := (ds.getD i (M.nada, 0)).2) (by omega) (by omega)
    omega
  let S' : Nat → Prop := fun b => S b ∨ v.ownBlock = some b
  refine vloop_of (fun n u w' => ∃ (j : Int) (env : List Int), u = [] ∧ n = (k - j).toNat ∧ 0 ≤ j ∧ j ≤ k ∧ R j w' ∧ OwnI PP T_Lint w' v env ∧ M.envOk ds env = true ∧ M.rankE ds env = j ∧ Same S' w1 w') (k - 0).toNat
    ⟨0, _, rfl, rfl, Int.le_refl _, hk0, hR 0 w w1 h0 (he1.mono fun _ _ h => h.elim), hv1, henv0, M.rank_zero _ _, Same.refl _ _⟩ ?_
  rintro _ _ _ w2 C ⟨j, env, rfl, rfl, hj0, hjk, hRj, hv2, henv, hrank, hs2⟩ hC
  have hSb' : ¬ S' bd := fun h => h.elim hSb fun h => by have := hn1 _ h; have := hb.lt; omega
  have hSF' : ∀ b, F b → b < w.heap.size → ¬ S' b := fun b hF hlt h => h.elim (hSF b hF) fun h => by have := hn1 _ h; omega
  have dcl : ∀ w', Same S' w1 w' → Blk w' bd [dv] t0 ∧ DclsR (fun b => F b ∧ b < w.heap.size) w' dv ds := fun w' h =>
    ⟨(hb.ext he1).same h hSb', ((hd.weaken (F' := fun b => F b ∧ b < w.heap.size) fun b h1 h2 => ⟨h1, h2⟩).ext he1).same h fun b hF _ => hSF' b hF.1 hF.2⟩
  obtain ⟨_, hlen, hvoks⟩ := M.env_ok henv
  refine hy j w2 v env _ hj0 hjk hRj hv2 hn1 henv hrank (fun hlt w3 hR3 hs3 => ?_) (fun _ w3 hz => ?_)
  · simp only [push_cast, Bool.not_true]
    have hs13 : Same S' w1 w3 := hs2.trans (hs3.mono fun _ _ h => .inl h)
    have hnS : ∀ b, v.ownBlock = some b → ¬ S b := fun b hb h => by have := hSl b h; have := hn1 b hb; omega
    have hv3 := hv2.same hs3 hnS
    obtain ⟨hb3, hd3⟩ := dcl w3 hs13
    rw [hb3.ld0 o_Limpl_Decl]
    simp (disch := (simp only [push_cast]; done)) only [push_cast, hd3.len]
    rw [show IntKind.i64.wrap ((ds.length : Int) - 1) = (ds.length : Int) - 1 from wrap64 (by omega) (by omega)]
    refine vloop_of (fun n u w' => ∃ cur : List Int, u = [.int .i64 ((n : Int) - 1)] ∧ n ≤ ds.length ∧ cur = env.take n ++ List.replicate (ds.length - n) 0 ∧ M.Tops ds env n ∧ OwnI PP T_Lint w' v cur ∧ Same (fun b => v.ownBlock = some b) w3 w') ds.length
      ⟨env, rfl, Nat.le_refl _, by rw [Nat.sub_self, ← hlen, List.take_length]; simp, fun i h1 h2 => absurd h2 (by omega), hv3, Same.refl _ _⟩ ?_
    rintro n _ _ w4 C1 ⟨cur, rfl, hn, hcur, htop, hv4, hs4⟩ hC1
    have hs14 : Same S' w1 w4 := hs13.trans (hs4.mono fun _ _ h => .inr h)
    have hR4 : R (j + 1) w4 := hR _ _ _ hR3 (hs4.mono fun b _ h => hn1 b h)
    have hclen : cur.length = ds.length := by rw [hcur, List.length_append, List.length_take, List.length_replicate]; omega
    simp only [push_cast]
    refine vif_dec (fun a => ?_) (fun a => ?_)
    · obtain ⟨i, rfl⟩ : ∃ i, n = i + 1 := ⟨n - 1, by omega⟩
      have hin : i < ds.length := by omega
      have ei : ((i + 1 : Nat) : Int) - 1 = i := by omega
      have hcuri : cur.getD i 0 = env.getD i 0 := by
        rw [hcur, M.app_getD (by rw [List.length_take]; omega), M.take_getD (by omega)]
      obtain ⟨hw1, hw2, hw3, hw4⟩ := M.vok_iff.1 (hvoks i hin)
      have hp4 := pow8 (b := (ds.getD i (M.nada, 0)).2) (by omega) (by omega)
      rw [ei]
      have hvi := hv4.ints
      simp (disch := first | (simp only [push_cast]; done) | omega) only [push_cast, hvi.iaddr, hvi.load, hcuri]
      rw [wrap64 (by omega) (by omega)]
      refine hv4.st z_int (by omega) fun w5 hv5 hs5 hz5 => ?_
      refine vdraw_ext fun w6 he6 _ => ?_
      have hv6 := hv5.ext he6
      have hs16 : Same S' w1 w6 := hs14.trans ((hs5.mono fun _ _ h => .inr h).trans (Same.of_ext he6))
      have hs36 : Same (fun b => v.ownBlock = some b) w3 w6 := hs4.trans (hs5.trans (Same.of_ext he6))
      obtain ⟨hb6, hd6⟩ := dcl w6 hs16
      have hvi6 := hv6.ints
      have hl6 : i < (cur.set i (env.getD i 0 + 1)).length := by rw [List.length_set]; omega
      simp (disch := first | (simp only [push_cast]; done) | (rw [List.length_set]; omega) | omega) only [push_cast, hvi6.iaddr, hvi6.load, hb6.ld0, hd6.iaddr, hd6.load1, true_and]
      rw [shl1 (y := (ds.getD i (M.nada, 0)).2) (by omega) (by omega)]
      rw [getD_set (by omega)]
      simp only [push_cast, true_and, if_true]
      have hset : cur.set i (env.getD i 0 + 1) = bumpL env i (ds.length - i - 1) := by
        rw [hcur]; exact set_cut (by omega) (by omega)
      refine vif_dec (fun a2 => ?_) (fun a2 => ?_)
      · refine vif_dec (fun a3 => by omega) (fun _ => ?_)
        have eb : bumpL env i (ds.length - i - 1) = M.bump env i := by unfold M.bump bumpL; rw [hlen]
        rw [hset, eb] at hv6
        have hrb := M.rank_bump (ds := ds) (env := env) (i := i) hlen hpos hin htop
        refine hC (k - (j + 1)).toNat _ _ (by omega) ⟨j + 1, _, rfl, rfl, by omega, by omega, hR _ _ _ hR4 ((hs5.trans (Same.of_ext he6)).mono fun b _ h => hn1 b h), hv6, bump_ok henv hin a2, by rw [hrb, hrank], hs16⟩
      · refine hv6.st z_int (by omega) fun w7 hv7 hs7 hz7 => ?_
        rw [show IntKind.i64.wrap ((i : Int) - 1) = (i : Int) - 1 from wrap64 (by omega) (by omega)]
        refine hC1 i _ _ (by omega) ⟨_, rfl, by omega, ?_, fun q h1 h2 => ?_, hv7, hs36.trans hs7⟩
        · rw [hset]; exact bump_zero (by omega) (by omega)
        · by_cases e : q = i
          · subst e; omega
          · exact htop q (by omega) h2
    · exfalso
      have hn0 : n = 0 := by omega
      subst hn0
      have := M.rank_top hlen hpos htop
      omega
  · simp only [push_cast, Bool.not_false]
    exact hZ _ hz
theorem _root_.Go.Vc.Same.trans' {a b c : Nat} {w0 w1 w2 w3 : World} (h1 : Same (· = a) w0 w1) (h2 : Same (· = b) w1 w2) (h3 : Same (· = c) w2 w3) : Same (fun x => x = a ∨ x = b ∨ x = c) w0 w3 :=
  (h1.mono fun _ _ h => .inl h).trans ((h2.mono fun _ _ h => .inr (.inl h)).trans (h3.mono fun _ _ h => .inr (.inr h)))
theorem same_later {S T : Nat → Prop} {w0 w1 w2 : World} (h1 : Same S w0 w1) (h2 : Same T w1 w2) (h : ∀ b, b < w0.heap.size → T b → S b) : Same S w0 w2 :=
  ⟨h2.os.trans h1.os, h2.tape.trans h1.tape, h2.output.trans h1.output, Nat.le_trans h1.size h2.size, fun b hb hn => (h2.block b (Nat.lt_of_lt_of_le hb h1.size) fun e => hn (h b hb e)).trans (h1.block b hb hn)⟩
theorem EnvAll_spec {dv : Value} {ds : List M.Dcl} {k : Int} (hd : DclsR F w dv ds) (hok : M.declOk ds = true) (hk0 : 0 ≤ k) (hk : k < 2 ^ (M.bits ds).toNat)
    (hK : ∀ w' v env, Ext w w' → OwnI PP T_Lint w' v env → (∀ b, v.ownBlock = some b → w.heap.size ≤ b) → M.envOk ds env = true → M.rankE ds env = k → K (.tuple #[v, .bool true]) w') : vcall PP n_impl_EnvAll #[dv, .int .i64 k] w K := by
  apply c_impl_EnvAll; unfold F_impl_EnvAll
  have hbk := bits_all hok 0
  have hp := pow8 (b := M.bits ds) (by omega) hbk.2.2
  refine vbox_new fun b1 w1 hb1 he1 hs1 h1 => ?_
  replace h1 : Blk w1 b1 [.int .i64 k] T_int := h1
  refine valloc_new zr_Lint fun b2 w2 hb2 he2 hs2 h2 => ?_
  replace h2 : Blk w2 b2 [.slice none 0 0] T_Lint := h2
  refine valloc_new zr_bool fun b3 w3 hb3 he3 hs3 h3 => ?_
  replace h3 : Blk w3 b3 [.bool false] T_bool := h3
  refine vdraw_ext fun w4 he4 _ => ?_
  have e14 := (he2.trans he3).trans he4
  have hE4 := he1.trans e14
  have q1 := h1.ext e14
  simp (disch := (simp only [push_cast]; done)) only [push_cast, q1.ld0, true_and]
  refine vif_dec (fun a => by omega) (fun _ => ?_)
  refine EnvMany_spec (hd.ext hE4) fun w5 he5 => ?_
  have q5 := q1.ext he5
  have hmany : manyE ds = 2 ^ (M.bits ds).toNat := by unfold manyE; rw [if_pos hok]
  simp (disch := (simp only [push_cast]; done)) only [push_cast, q5.ld0, true_and, and_self]
  refine vif_dec (fun a => by omega) (fun _ => ?_)
  apply c_impl_environments; unfold F_impl_environments
  obtain ⟨da, dc, rfl, _⟩ := hd.shape
  rw [List.length_map] at *
  refine vbox_new fun b6 w6 hb6 he6 hs6 h6 => ?_
  replace h6 : Blk w6 b6 [.slice da ds.length dc] T_Limpl_Decl := h6
  simp only [push_cast]
  have hE6 := hE4.trans (he5.trans he6)
  refine ⟨n_impl_environments_1, ⟨[.pointer (some ⟨b6, 0, none⟩)]⟩, rfl, fun l D w7 RR hD hl he7 hs7 hD7 hst hr7 hround => ?_⟩
  have hE7 := hE6.trans he7
  have z1 := he1.size
  have z4 := he4.size
  have z5 := he5.size
  have z6 := he6.size
  have e37 : Ext w3 w7 := he4.trans (he5.trans (he6.trans he7))
  have p1 : Blk w7 b1 [.int .i64 k] T_int := q5.ext (he6.trans he7)
  have p2 : Blk w7 b2 [.slice none 0 0] T_Lint := (h2.ext he3).ext e37
  have p3 : Blk w7 b3 [.bool false] T_bool := h3.ext e37
  have z37 := e37.size
  show vcall PP n_impl_environments_1 #[.func (.yield l) #[] #[], .pointer (some ⟨b6, 0, none⟩)] w7 _
  let S : Nat → Prop := fun b => b = l ∨ b = b1 ∨ b = b2 ∨ b = b3
  have hRs : ∀ {st pe} {T : Nat → Prop} {w' w'' : World}, RR st pe w' → Same T w' w'' → w7.heap.size ≤ w'.heap.size → ¬ T l → RR st pe w'' := fun h hT hz hn => hst _ _ _ _ h (hT.block l (by omega) hn)
  have hDs : ∀ {T : Nat → Prop} {w' w'' : World}, w'.heap[D]? = some (.deferred (some [])) → Same T w' w'' → w7.heap.size ≤ w'.heap.size → ¬ T D → w''.heap[D]? = some (.deferred (some [])) := fun h hT hz hn => (hT.block D (by omega) hn).trans h
  refine environments_1_spec (F := fun b => F b ∧ b < w.heap.size) (S := S) (ds := ds) (k := k)
    (R := fun j w' => RR .ready none w' ∧ Blk w' b1 [.int .i64 (k - j)] T_int ∧ Blk w' b2 [.slice none 0 0] T_Lint ∧ Blk w' b3 [.bool false] T_bool ∧ w'.heap[D]? = some (.deferred (some [])) ∧ Same S w7 w')
    (Z := fun w' => RR .done (some .ret) w' ∧ w'.heap[D]? = some (.deferred (some [])) ∧ Same S w7 w' ∧ ∃ v env, Blk w' b2 [v] T_Lint ∧ Blk w' b3 [.bool true] T_bool ∧ OwnI PP T_Lint w' v env ∧ (∀ b, v.ownBlock = some b → w7.heap.size ≤ b) ∧ M.envOk ds env = true ∧ M.rankE ds env = k)
    hok hk0 hk (h6.ext he7) ((hd.weaken fun b h1 h2 => ⟨h1, h2⟩).ext hE7) (fun h => by rcases h with h | h | h | h <;> omega) (fun b hb h => by rcases h with h | h | h | h <;> omega) (fun b h => by rcases h with h | h | h | h <;> omega)
    ⟨hr7, by rw [Int.sub_zero]; exact p1, p2, p3, hD7, Same.refl _ _⟩ ?_ ?_ ?_
  · rintro j w8 w9 ⟨g1, g2, g3, g4, g5, g6⟩ hs
    have z := g6.size
    exact ⟨hRs g1 hs z (by omega), g2.same hs (by omega), g3.same hs (by omega), g4.same hs (by omega), hDs g5 hs z (by omega), same_later g6 hs fun b hb h => by omega⟩
  · rintro j w8 v env K' hr0 hjk ⟨g1, g2, g3, g4, g5, g6⟩ hv hvn henv hrank hT hZ
    have z78 := g6.size
    refine hround [v] w8 K' rfl g1 ⟨g1, fun w9 hs9 hz9 hb9 => ?_⟩
    have k1 := g2.same hs9 (by omega)
    have k2 := g3.same hs9 (by omega)
    have k3 := g4.same hs9 (by omega)
    have k5 := hDs g5 hs9 z78 (by omega)
    have k6 : Same S w7 w9 := same_later g6 hs9 fun b _ h => .inl h
    simp (disch := (simp only [push_cast]; done)) only [push_cast, k1.ld0]
    refine vif_dec (fun a => ?_) (fun a => ?_)
    · have hin := (hv.same hs9 fun b hb e => by have := hvn b hb; omega).ints
      have hel := (M.env_ok henv).2.1
      have hdl := (M.decl_iff.1 hok).1
      refine Clone_Lint hin (by omega) fun w10 v2 he10 hv2 hn2 => ?_
      have hc : v2.cells = #[v2] ∧ v2.oneCell' = true := by
        obtain ⟨a', c', e, _⟩ := hv2.ints.shape
        subst e; exact ⟨rfl, rfl⟩
      have z10 := he10.size
      refine (k2.ext he10).st (i := 0) hc.1 hc.2 z_Lint rfl fun w11 hw11 hz11 h11 => ?_
      replace h11 : Blk w11 b2 [v2] T_Lint := h11
      refine ((k3.ext he10).same hw11 (by omega)).st (i := 0) rfl rfl z_bool rfl fun w12 hw12 hz12 h12 => ?_
      replace h12 : Blk w12 b3 [.bool true] T_bool := h12
      have hs912 : Same (fun b => b = b2 ∨ b = b3) w9 w12 := (Same.of_ext he10).trans ((hw11.mono fun _ _ h => .inl h).trans (hw12.mono fun _ _ h => .inr h))
      have k7 : Same S w7 w12 := same_later k6 hs912 fun b _ h => .inr (.inr h)
      refine ⟨hRs hb9 hs912 (by omega) (by omega), fun w13 hs13 hz13 hr13 => hZ (by omega) w13 ⟨hr13, hDs (hDs k5 hs912 (by omega) (by omega)) hs13 (by omega) (by omega), same_later k7 hs13 fun b _ h => .inl h, v2, env, (h11.same hw12 (by omega)).same hs13 (by omega), h12.same hs13 (by omega), ?_, fun b hb => by have := hn2 b hb; omega, henv, by omega⟩⟩
      exact hv2.same (hw11.trans' hw12 hs13) fun b hb e => by have := hn2 b hb; omega
    · try simp (disch := (simp only [push_cast]; done)) only [push_cast, k1.ld0]
      rw [wrap64 (by omega) (by omega)]
      refine k1.st (i := 0) rfl rfl z_int rfl fun w10 hw10 hz10 h10 => ?_
      replace h10 : Blk w10 b1 [.int .i64 (k - (j + 1))] T_int := by rw [show k - (j + 1) = k - j - 1 by omega]; exact h10
      refine ⟨hRs hb9 hw10 (by omega) (by omega), fun w11 hs11 hz11 hr11 => hT (by omega) w11 ⟨hr11, h10.same hs11 (by omega), (k2.same hw10 (by omega)).same hs11 (by omega), (k3.same hw10 (by omega)).same hs11 (by omega), hDs (hDs k5 hw10 (by omega) (by omega)) hs11 (by omega) (by omega), ?_⟩ ?_⟩
      · exact same_later (same_later k6 hw10 fun b _ h => .inr (.inl h)) hs11 fun b _ h => .inl h
      · exact (hs9.mono fun b _ h => .inl h).trans ((hw10.mono fun b _ h => .inr (.inl h)).trans (hs11.mono fun b _ h => .inl h))
  · rintro w8 ⟨g1, g2, g3, v, env, g4, g5, g6, g7, g8, g9⟩
    have z78 := g3.size
    refine ⟨.done, some .ret, by decide, g1, fun w9 hs9 hz9 => ?_⟩
    refine ⟨hDs g2 hs9 z78 (by omega), fun w10 hs10 hz10 => ?_⟩
    have hs : Same (fun b => b = l ∨ b = D) w8 w10 := (hs9.mono fun _ _ h => .inl h).trans (hs10.mono fun _ _ h => .inr h)
    show vlv PP T_Lint (.pointer (some ⟨b2, 0, none⟩)) w10 _
    rw [lv0 (g4.same hs (by omega)) o_Lint, lv0 (g5.same hs (by omega)) o_bool]
    refine hK _ v env (Ext.then (Ext.then hE7 g3 fun y hy => by rcases hy with h | h | h | h <;> omega) hs fun y hy => by omega) (g6.same hs fun b hb h => by have := g7 b hb; omega) (fun b hb => by have := g7 b hb; omega) g8 g9
end Go.Proofs.YtcfgmgjofmbfhaaGreatDoor
end
section
namespace Go.Proofs.YtcfgmgjofmbfhaaGreatDoor
open Go Go.Vc Go.Proofs
variable {w : World} {K : Value → World → Prop} {F F' D G : Nat → Prop}
end Go.Proofs.YtcfgmgjofmbfhaaGreatDoor
end
section
namespace Go.Proofs.YtcfgmgjofmbfhaaGreatDoor
open Go Go.Vc Go.Proofs
variable {w : World} {K : Value → World → Prop} {F F' D G : Nat → Prop}
theorem DrawTermFixed_spec {v : Value} {xs : List Nat} (hx : Bytes F w v xs) (hF : ∀ b, F b → b < w.heap.size)
    (hK : ∀ w' tv t, Ext w w' → TermR (fun x => w.heap.size ≤ x) w' tv t → K tv w') : vcall PP n_spec_DrawTermFixed #[v] w K := by
  apply c_spec_DrawTermFixed; unfold F_spec_DrawTermFixed
  refine valloc_agg zr_impl_Term fun b1 w1 hb1 he1 hs1 h1 => ?_
  have hz1 := he1.size
  refine l12Open_spec (hx.ext he1) (fun b hb => by have := hF b hb; omega) fun w2 b v' ys he2 hR2 hb2 => ?_
  have hz2 := he2.size
  have lb := hR2.blk.lt
  have h2 := h1.ext he2
  have hE2 := he1.trans he2
  replace hR2 : RdR (fun x => F x ∧ x < w2.heap.size) w2 b v' ys 0 := ⟨hR2.blk, ⟨hR2.bytes.1.weaken fun x hx hl => ⟨hx, hl⟩, hR2.bytes.2⟩, fun h => hR2.apart h.1, hR2.few⟩
  have fin : ∀ {w3 w' : World} {tv : Value} {t : M.Tm}, Same (· = b) w2 w3 → TermR (fun x => w2.heap.size ≤ x) w3 tv t → vstore PP T_impl_Term (.pointer (some ⟨b1, 0, none⟩)) tv w3 fun _ w_10 => vlv PP T_impl_Term (.pointer (some ⟨b1, 0, none⟩)) w_10 fun r2 w_11 => K r2 w_11 := fun {w3 _ tv t} hs ht => by
    obtain ⟨cs, rfl, hcs⟩ := ht.cells
    have hz := hs.size
    refine retTerm (h2.same hs (by omega)) rfl hcs (fun x hx => by omega) fun w4 hw4 hz4 ht4 => ?_
    refine hK w4 _ t ?_ (ht4.weaken fun x hx _ => by omega)
    exact Ext.then (Ext.then hE2 hs fun y hy => by subst hy; omega) hw4 fun y hy => by subst hy; omega
  refine vjoin_of (fun u w' => u = [] ∧ Same (· = b) w2 w' ∧ RdR (fun x => F x ∧ x < w2.heap.size) w' b v' ys 1) (fun C hC => ?_) ?_
  · refine pick_spec hR2 (by decide) (by omega) fun w3 k hs3 hz3 hR3 hk _ => ?_
    simp only [push_cast]
    refine vif_dec (fun a0 => ?_) (fun a0 => ?_)
    · refine pick_spec hR3 (by decide) (by omega) fun w4 m hs4 hz4 hR4 hm _ => ?_
      simp only [push_cast]
      refine l3Bool_spec fun w5 bv he5 hbv => ?_
      have hs25 := (hs3.trans hs4).trans (Same.of_ext he5)
      have hz5 := he5.size
      have hbv' := hbv.weaken (F' := fun x => w4.heap.size ≤ x ∧ x < w5.heap.size) fun x h1 h2 => ⟨h1, h2⟩
      refine l2Bent_spec (hR4.ext he5) (fun x hx => by omega) hbv' (fun x hx => by omega) (fun x hx => hx.2) (by omega) ?_ fun w6 p6 tv t hs6 hR6 hp6 ht6 _ => ?_
      · unfold M.boolM; split <;> decide
      · exact fin (w' := w6) (hs25.trans hs6) (ht6.weaken fun x hx _ => by omega)
    · refine vjoin_of (fun u w' => w' = w3 ∧ ∃ c : Bool, u = [.bool c]) (fun C2 hC2 => ?_) ?_
      · refine vif_dec (fun a1 => hC2 _ _ ⟨rfl, _, rfl⟩) (fun a1 => hC2 _ _ ⟨rfl, _, rfl⟩)
      rintro _ _ _ ⟨rfl, c, rfl⟩
      simp only [push_cast]
      refine vif_bool (fun a2 => ?_) (fun a2 => ?_)
      · refine vbuildS1 u_Limpl_Decl z_impl_Decl zr_impl_Decl rfl rfl (by decide) fun b4 w4 hb4 he4 hs4 h4 => ?_
        have hd4 : DclsR (· = b4) w4 (.slice (some ⟨b4, 0, none⟩) 1 1) [(⟨#[120]⟩, 2)] := Blk.sl1k h4 rfl
        refine pick_spec (hR3.ext he4) (by decide) (by omega) fun w5 m hs5 hz5 hR5 hm _ => ?_
        have hz4 := he4.size
        have z3 := hs3.size
        have hd5 := hd4.same hs5 fun x hx _ e => by omega
        have hok : Dok [(⟨#[120]⟩, 2)] := ⟨by decide, fun i hi => by
          have : i = 0 := by simpa using hi
          subst this
          exact ⟨by decide, by decide, by decide⟩⟩
        refine l2Leafy_spec hR5 (fun x hx => by omega) hd5 (fun x hx => by omega) hok (by omega) (by have := hm (by decide); omega) (by omega) fun w6 p6 tv6 t6 hs6 hR6 hp6 ht6 hk6 => ?_
        have z6 := hs6.size
        have ht6' := ht6.weaken (F' := fun x => w5.heap.size ≤ x ∧ x < w6.heap.size) fun x h1 h2 => ⟨h1, h2⟩
        refine l2Bent_spec hR6 (fun x hx => by omega) ht6' (fun x hx => by omega) (fun x hx => hx.2) (by omega) (by omega) fun w7 p7 tv7 t7 hs7 hR7 hp7 ht7 hk7 => ?_
        have z7 := hs7.size
        have ht7' := ht7.weaken (F' := fun x => w5.heap.size ≤ x ∧ x < w7.heap.size) fun x h1 h2 => by omega
        refine l2Bent_spec hR7 (fun x hx => by omega) ht7' (fun x hx => by omega) (fun x hx => hx.2) (by omega) (by omega) fun w8 p8 tv8 t8 hs8 hR8 hp8 ht8 _ => ?_
        exact fin (w' := w8) ((((hs3.trans (Same.of_ext he4)).trans hs5).trans hs6).trans (hs7.trans hs8)) (ht8.weaken fun x hx _ => by omega)
      · exact hC _ _ ⟨rfl, hs3, hR3⟩
  rintro _ _ w3 ⟨rfl, hs3, hR3⟩
  have z3 := hs3.size
  refine l3Draw_spec hR3 (fun x hx => by omega) (by omega) fun w4 p4 dv tv ds t hs4 hR4 hp4 hd4 hok ht4 => ?_
  simp only [push_cast]
  obtain ⟨cs, rfl, hcs⟩ := ht4.cells
  have z4 := hs4.size
  refine valloc_agg zr_impl_Term fun b5 w5 hb5 he5 hs5 h5 => ?_
  have hcs' := (hcs.weaken (F' := fun x => w3.heap.size ≤ x ∧ x < w4.heap.size) fun x h1 h2 => ⟨h1, h2⟩).ext he5
  refine stTerm h5 rfl hcs' fun w6 hw6 hz6 h6 => ?_
  have he46 : Ext w4 w6 := Ext.then he5 hw6 fun y hy => by subst hy; omega
  rw [h6.ldAgg (t := T_impl_Term) (by rw [tmR_len hcs]; exact g_impl_Term)]
  exact fin (w' := w6) ((hs3.trans hs4).trans (Same.of_ext he46)) ((hcs'.same hw6 fun x hx _ e => by omega).weaken fun x hx _ => by omega).term
theorem names_T {s : ByteArray} {t : M.Tm} : namesM s t = M.namesT s t := rfl
theorem names_dcl {ds : List M.Dcl} {s : ByteArray} : ∀ t : M.Tm, M.sortM ds t ≠ -1 → M.namesT s t = true → ∃ i, i < ds.length ∧ (ds.getD i (M.nada, 0)).1 = s := by
  refine M.Tm.ind fun t ih hs hn => ?_
  rcases M.namesT_iff.1 hn with ⟨ho, rfl⟩ | ⟨k, hk, h⟩
  · have hf := M.name_found hs ho
    exact ⟨_, by have := (M.findD_lt ds t.s).2; omega, M.findD_get hf⟩
  · exact ih k hk ((M.sort_parts hs).2.1 k hk) h
theorem FnFoldFixed_spec {v v' : Value} {xs ys : List Nat} (hx : Bytes F w v xs) (hy : Bytes F' w v' ys) (hK : ∀ w', Ext w w' → K (.bool true) w') : vcall PP n_laws_FnFoldFixed #[v, v'] w K := by
  apply c_laws_FnFoldFixed; unfold F_laws_FnFoldFixed
  refine vjoin_of (fun u w' => u = [] ∧ w' = w) (fun C hC => ?_) ?_
  · simp (disch := (simp only [push_cast]; done)) only [push_cast, hx.len, hy.len]
    refine vif_dec (fun _ => hK w (Same.refl _ _)) (fun _ => ?_)
    exact vif_dec (fun _ => hK w (Same.refl _ _)) (fun _ => hC _ _ ⟨rfl, rfl⟩)
  rintro _ _ _ ⟨rfl, rfl⟩
  rename_i w
  refine DrawTermFold_spec hx.below (fun b hb => hb) fun w1 dv tv ds t he1 hd hok ht => ?_
  obtain ⟨cs, rfl, hcs⟩ := ht.cells
  simp only [push_cast]
  refine valloc_agg zr_impl_Term fun b2 w2 hb2 he2 hs2 h2 => ?_
  refine stTerm h2 rfl ((hcs.weaken (F' := fun x => x < w1.heap.size) fun x _ hl => hl).ext he2) fun w3 hw3 hz3 h3 => ?_
  have he3 : Ext w1 w3 := Ext.then he2 hw3 fun y hy => by subst hy; omega
  have hg : aggB PP T_impl_Term cs.length = true := by rw [tmR_len hcs]; exact g_impl_Term
  have hE3 := he1.trans he3
  rw [h3.ldAgg (t := T_impl_Term) hg]
  refine TermFold_spec (hd.ext he3) (hcs.ext he3).term fun w4 cu he4 hu4 => ?_
  have hcu4 := tmO_R _ hu4
  have gu : aggB PP T_impl_Term cu.length = true := by rw [tmR_len hcu4]; exact g_impl_Term
  refine valloc_agg zr_impl_Term fun b5 w5 hb5 he5 hs5 h5 => ?_
  refine stTerm h5 rfl ((hcu4.weaken (F' := fun x => x < w4.heap.size) fun x _ hl => hl).ext he5) fun w6 hw6 hz6 h6 => ?_
  have e46 : Ext w4 w6 := Ext.then he5 hw6 fun y hy => by subst hy; omega
  have e36 := he4.trans e46
  have e16 := he3.trans e36
  have h36 := h3.ext e36
  have hd6 := hd.ext e16
  have hc6 := hcs.ext e16
  have hu6 := hcu4.ext e46
  have hE6 := hE3.trans e36
  refine DrawTermFixed_spec (hy.below.ext hE6) (fun b hb => Nat.lt_of_lt_of_le hb hE6.size) fun w7 sv s he7 hsv => ?_
  obtain ⟨css, rfl, hcss⟩ := hsv.cells
  have gs : aggB PP T_impl_Term css.length = true := by rw [tmR_len hcss]; exact g_impl_Term
  refine valloc_agg zr_impl_Term fun b8 w8 hb8 he8 hs8 h8 => ?_
  have hcss8 := (hcss.weaken (F' := fun x => x < w7.heap.size) fun x _ hl => hl).ext he8
  refine stTerm h8 rfl hcss8 fun w9 hw9 hz9 h9 => ?_
  have e79 : Ext w7 w9 := Ext.then he8 hw9 fun y hy => by subst hy; omega
  have hcss9 := hcss8.same hw9 fun x hx _ e => by omega
  have e69 := he7.trans e79
  rw [h9.ldAgg (t := T_impl_Term) gs]
  refine TermFixed_spec hcss9.term fun w10 he10 => ?_
  simp only [push_cast]
  rw [(h9.ext he10).ldAgg (t := T_impl_Term) gs]
  refine spec_TermFixed_spec (hcss9.ext he10).term fun w11 he11 => ?_
  simp only [push_cast]
  have e611 := e69.trans (he10.trans he11)
  refine vjoin_of (fun u w' => u = [] ∧ Ext w6 w' ∧ M.tsort ds t ≠ -1) (fun C hC => ?_) ?_
  · refine vjoin_of (fun u w' => Ext w6 w' ∧ ∃ c : Bool, u = [.bool c] ∧ (c = false → M.tsort ds t ≠ -1)) (fun C2 hC2 => ?_) ?_
    · refine vdraw_ext fun w12 he12 _ => ?_
      have e612 := e611.trans he12
      simp only [push_cast, true_and]
      refine vif_dec (fun h => absurd rfl h) (fun _ => ?_)
      simp only [push_cast, bne_self_eq_false, true_and, (h6.ext e612).ldAgg (t := T_impl_Term) gu, (h36.ext e612).ldAgg (t := T_impl_Term) hg]
      refine spec_TermFold_spec (dsm_sized hok) (hd6.ext e612) (hc6.ext e612).term fun w13 cv he13 hv13 => ?_
      have e613 := e612.trans he13
      simp only [(h6.ext e613).ldAgg (t := T_impl_Term) gu, true_and, and_self]
      refine TermSame_spec _ (hu6.ext e613).term (tmO_R _ hv13).term fun w14 he14 => ?_
      have e614 := e613.trans he14
      rw [decide_eq_true rfl]
      simp only [push_cast, Bool.not_true, true_and, (h36.ext e614).ldAgg (t := T_impl_Term) hg]
      refine spec_TermSort_spec (dsm_sized hok) (hd6.ext e614) (hc6.ext e614).term fun w15 he15 => ?_
      simp only [push_cast, true_and]
      exact hC2 _ _ ⟨e614.trans he15, _, rfl, fun h => by have := of_decide_eq_false h; omega⟩
    · rintro _ _ w12 ⟨e612, c, rfl, hc⟩
      simp only [push_cast]
      refine vif_bool (fun a => ?_) (fun a => hC _ _ ⟨rfl, e612, hc a⟩)
      refine vdraw_ext fun w13 he13 _ => ?_
      have e613 := e612.trans he13
      simp only [push_cast, true_and]
      refine vif_dec (fun _ => ?_) (fun h => absurd trivial h)
      simp only [push_cast, beq_self_eq_true, true_and, (h6.ext e613).ldAgg (t := T_impl_Term) gu, (h36.ext e613).ldAgg (t := T_impl_Term) hg]
      refine spec_TermFold_spec (dsm_sized hok) (hd6.ext e613) (hc6.ext e613).term fun w14 cv he14 hv14 => ?_
      have e614 := e613.trans he14
      simp only [(h6.ext e614).ldAgg (t := T_impl_Term) gu, true_and, and_self]
      refine TermSame_spec _ (hu6.ext e614).term (tmO_R _ hv14).term fun w15 he15 => ?_
      rw [decide_eq_true rfl]
      exact hK _ (hE6.trans (e614.trans he15))
  rintro _ _ w12 ⟨rfl, e612, hts⟩
  obtain ⟨hdk, hso, hfi⟩ := right_parts hts
  rw [foldA_of hdk hfi hso] at hu6
  have hgood := M.fold_good hdk t hso
  have hsm := hd.small
  refine vloop_up ds.length (fun i u w' => u = [.int .i64 i] ∧ Ext w6 w' ∧ ∀ j, j < i → M.namesT (ds.getD j (M.nada, 0)).1 t = false) ⟨rfl, e612, fun j hj => absurd hj (by omega)⟩ ?_
  rintro i _ _ w13 C hi ⟨rfl, e613, hno⟩ hC
  have hd13 := hd6.ext e613
  simp (disch := (simp only [push_cast]; done)) only [push_cast, hd13.len]
  refine vif_dec (fun a => ?_) (fun a => ?_)
  · have hil : i < ds.length := by omega
    refine vdraw_ext fun w14 he14 _ => ?_
    have e614 := e613.trans he14
    have hd14 := hd6.ext e614
    simp (disch := first | (simp only [push_cast]; done) | omega) only [push_cast, (h6.ext e614).ldAgg (t := T_impl_Term) gu, hd14.iaddr, hd14.load0, true_and]
    refine wpNames_spec _ (hu6.ext e614).term fun w15 he15 => ?_
    have e615 := e614.trans he15
    rw [names_T]
    refine vif_bool (fun hn => ?_) (fun _ => ?_)
    · have hd15 := hd6.ext e615
      simp (disch := first | (simp only [push_cast]; done) | omega) only [push_cast, (h36.ext e615).ldAgg (t := T_impl_Term) hg, hd15.iaddr, hd15.load0, true_and]
      refine wpNames_spec t (hc6.ext e615).term fun w16 he16 => ?_
      rw [names_T, M.fold_names hdk t hso hn]
      simp only [push_cast, Bool.not_true, true_and]
      refine vdraw_ext fun w17 he17 _ => ?_
      have e617 := (e615.trans he16).trans he17
      have hd17 := hd6.ext e617
      try simp (disch := first | (simp only [push_cast]; done) | omega) only [push_cast, (h36.ext e617).ldAgg (t := T_impl_Term) hg, hd17.iaddr, hd17.load0, true_and]
      refine wpNames_spec t (hc6.ext e617).term fun w18 he18 => ?_
      rw [names_T]
      refine vif_bool (fun _ => hK _ (hE6.trans (e617.trans he18))) (fun hn => ?_)
      try simp only [push_cast]
      rw [inc64' (by omega)]
      refine hC (by omega) _ _ ⟨rfl, e617.trans he18, fun j hj => ?_⟩
      by_cases e : j < i
      · exact hno j e
      · have : j = i := by omega
        subst this; exact hn
    · skip
      refine vdraw_ext fun w17 he17 _ => ?_
      have e617 := e615.trans he17
      have hd17 := hd6.ext e617
      try simp (disch := first | (simp only [push_cast]; done) | omega) only [push_cast, (h36.ext e617).ldAgg (t := T_impl_Term) hg, hd17.iaddr, hd17.load0, true_and]
      refine wpNames_spec t (hc6.ext e617).term fun w18 he18 => ?_
      rw [names_T]
      refine vif_bool (fun _ => hK _ (hE6.trans (e617.trans he18))) (fun hn => ?_)
      try simp only [push_cast]
      rw [inc64' (by omega)]
      refine hC (by omega) _ _ ⟨rfl, e617.trans he18, fun j hj => ?_⟩
      by_cases e : j < i
      · exact hno j e
      · have : j = i := by omega
        subst this; exact hn
  · have hi' : i = ds.length := by omega
    have hbk := bits_all hdk 0
    have hp := pow8 (b := M.bits ds) (by omega) hbk.2.2
    refine EnvAll_spec hd13 hdk (Int.le_refl _) (by omega) fun w14 ev env he14 hev _ henv _ => ?_
    have e614 := e613.trans he14
    simp only [push_cast]
    rw [(h36.ext e614).ldAgg (t := T_impl_Term) hg]
    refine TermEval_spec (hd6.ext e614) (hc6.ext e614).term hev.ints fun w15 he15 => ?_
    have e615 := e614.trans he15
    simp only [push_cast]
    rw [(h6.ext e615).ldAgg (t := T_impl_Term) gu]
    refine TermFixed_spec (hu6.ext e615).term fun w16 he16 => ?_
    have htok := tok_of henv hso hfi
    obtain ⟨n, hn⟩ := M.fold_closed hdk t hso fun s => by
      cases e : M.namesT s t
      · rfl
      · obtain ⟨j, hj, rfl⟩ := names_dcl t hso e
        rw [hno j (by omega)] at e; cases e
    have hev2 := (M.fixed_good henv hn).2.1
    rw [hgood.eval env henv] at hev2
    have hte : M.teval ds t env = n := by unfold M.teval; rw [if_pos htok]; exact hev2
    simp only [push_cast, htok, hn, hte, Option.isSome_some, Option.getD_some]
    rw [decide_eq_true trivial]
    exact hK _ (hE6.trans (e615.trans he16))
end Go.Proofs.YtcfgmgjofmbfhaaGreatDoor
end
