import Derived.Test.YtcfgmgjofmbfhaaGreatDoorWsnP14
import Derived.Test.YtcfgmgjofmbfhaaGreatDoorWsnP12
/- A part of the proof: Ea, Ed. -/
set_option linter.unusedVariables false
set_option linter.unusedSimpArgs false
set_option linter.unnecessarySimpa false
set_option linter.unusedSectionVars false
section
namespace Go.Proofs.YtcfgmgjofmbfhaaGreatDoor
open Go Go.Vc Go.Proofs
variable {w : World} {K : Value → World → Prop} {F F' D G : Nat → Prop}
theorem lv0 {b : Nat} {x : Value} {t0 t : TypeId} (h : Blk w b [x] t0) (ho : oneB PP t = true) : vlv PP t (.pointer (some ⟨b, 0, none⟩)) w K = K x w := vlv_eq (by rw [h.ld0 ho]; exact ⟨rfl, rfl⟩)
def manyE (ds : List M.Dcl) : Int := if M.declOk ds = true then 2 ^ (M.bits ds).toNat else 0
theorem bits_take {ds : List M.Dcl} : ∀ {i : Nat}, i < ds.length → M.bits (ds.take (i + 1)) = M.bits (ds.take i) + (ds.getD i (M.nada, 0)).2 := fun {i} h => by
  unfold M.bits
  rw [List.take_succ_eq_append_getElem h, List.map_append, List.sum_append, List.getD_eq_getElem?_getD, List.getElem?_eq_getElem h]
  simp
theorem bits_all {ds : List M.Dcl} (h : M.declOk ds = true) (i : Nat) : 0 ≤ M.bits (ds.take i) ∧ M.bits (ds.take i) ≤ M.bits ds ∧ M.bits ds ≤ 8 := by
  have hw := fun i (hi : i < ds.length) => M.dcl_wide h hi
  have hb := (M.decl_iff.1 h).2.2
  have pos : ∀ d, d ∈ ds → 0 ≤ d.2 := fun d hd => by
    obtain ⟨j, hj, rfl⟩ := List.getElem_of_mem hd
    have := hw j hj
    rw [List.getD_eq_getElem?_getD, List.getElem?_eq_getElem hj] at this
    simp at this; omega
  refine ⟨M.bits_nonneg fun d hd => pos d (List.mem_of_mem_take hd), ?_, hb⟩
  have e : M.bits ds = M.bits (ds.take i) + M.bits (ds.drop i) := by
    unfold M.bits
    rw [← List.sum_append, ← List.map_append, List.take_append_drop]
  have := M.bits_nonneg (ds := ds.drop i) fun d hd => pos d (List.mem_of_mem_drop hd)
  omega
theorem pow8 {b : Int} (h0 : 0 ≤ b) (h8 : b ≤ 8) : 1 ≤ (2 : Int) ^ b.toNat ∧ (2 : Int) ^ b.toNat ≤ 256 := by
  obtain ⟨n, rfl⟩ : ∃ n : Nat, b = n := ⟨b.toNat, by omega⟩
  have : n ≤ 8 := by omega
  have e : n = 0 ∨ n = 1 ∨ n = 2 ∨ n = 3 ∨ n = 4 ∨ n = 5 ∨ n = 6 ∨ n = 7 ∨ n = 8 := by omega
  rcases e with rfl | rfl | rfl | rfl | rfl | rfl | rfl | rfl | rfl <;> decide
theorem shl1 {c : Bool} {t : TypeId} {yk : IntKind} {y : Int} (h0 : 0 ≤ y) (h8 : y ≤ 8) : vbin PP .shl t c (.int .i64 1) (.int yk y) w K = K (.int .i64 (2 ^ y.toNat)) w := by
  rw [vbin_shl h0]
  have hp := pow8 h0 h8
  have e : min y.toNat IntKind.i64.bits = y.toNat := Nat.min_eq_left (by show y.toNat ≤ 64; omega)
  rw [e, Int.one_mul, wrap64 (by omega) (by omega)]
theorem manyE_le (ds : List M.Dcl) : 0 ≤ manyE ds ∧ manyE ds ≤ 256 := by
  unfold manyE
  split
  · next h =>
    have := bits_all h 0
    have := pow8 (b := M.bits ds) (by have := (bits_all h 0).1; have := (bits_all h 0).2.1; omega) this.2.2
    omega
  · omega
theorem EnvMany_spec {v : Value} {ds : List M.Dcl} (hd : DclsR F w v ds) (hK : ∀ w', Ext w w' → K (.int .i64 (manyE ds)) w') : vcall PP n_impl_EnvMany #[v] w K := by
  apply c_impl_EnvMany; unfold F_impl_EnvMany
  refine DeclOk_spec hd fun w1 he1 => ?_
  simp only [push_cast]
  unfold manyE at hK
  have hd1 := hd.ext he1
  refine vif_bool (fun a => ?_) (fun a => ?_)
  · rw [if_neg (by simpa using a)] at hK
    exact hK _ he1
  have hok : M.declOk ds = true := by simpa using a
  rw [if_pos hok] at hK
  have hsm := hd.small
  simp (disch := (simp only [push_cast]; done)) only [push_cast, hd1.len]
  refine vloop_up ds.length (fun i u w' => u = [.int .i64 (M.bits (ds.take i)), .int .i64 i] ∧ Ext w w') ⟨rfl, he1⟩ ?_
  rintro i _ _ w2 C hi ⟨rfl, he2⟩ hC
  have hd2 := hd.ext he2
  simp only [push_cast]
  refine vif_dec (fun a => ?_) (fun a => ?_)
  · simp (disch := first | (simp only [push_cast]; done) | omega) only [push_cast, hd2.iaddr, hd2.load]
    refine valloc_agg zr_impl_Decl fun b3 w3 hb3 he3 hs3 h3 => ?_
    refine stDecl h3 fun w4 hw4 hz4 h4 => ?_
    simp (disch := (simp only [push_cast]; done)) only [push_cast, h4.ld1]
    have b1 := bits_all hok i
    have b2 := bits_all hok (i + 1)
    rw [bits_take (by omega)] at b2
    rw [wrap64 (by omega) (by omega), inc64' (by omega)]
    exact hC (by omega) _ _ ⟨by rw [bits_take (by omega)], Ext.then (he2.trans he3) hw4 fun y hy => by subst hy; have := he2.size; omega⟩
  · have : i = ds.length := by omega
    subst this
    rw [List.take_length]
    have b1 := bits_all hok 0
    have b2 := bits_all hok ds.length
    rw [List.take_length] at b2
    rw [shl1 b2.1 b2.2.2]
    exact hK _ he2
def bumpL (env : List Int) (i n : Nat) : List Int := env.take i ++ (env.getD i 0 + 1) :: List.replicate n 0
theorem set_cut {env : List Int} {i m : Nat} {x : Int} (hi : i < env.length) (hm : m = m) : (env.take (i + 1) ++ List.replicate m 0).set i x = env.take i ++ x :: List.replicate m 0 := by
  rw [List.set_append_left _ _ (by rw [List.length_take]; omega), List.take_succ_eq_append_getElem hi, List.set_append_right _ _ (by rw [List.length_take]; omega)]
  have : i - (env.take i).length = 0 := by rw [List.length_take]; omega
  rw [this, List.append_assoc]
  rfl
theorem bump_zero {env : List Int} {i n : Nat} (hi : i < env.length) (hn : i < n) : (bumpL env i (n - i - 1)).set i 0 = env.take i ++ List.replicate (n - i) 0 := by
  unfold bumpL
  rw [List.set_append_right _ _ (by rw [List.length_take]; omega)]
  have : i - (env.take i).length = 0 := by rw [List.length_take]; omega
  rw [this, show n - i = (n - i - 1) + 1 by omega, List.replicate_succ]
  rfl
theorem app_getDR {α : Type} {l r : List α} {i : Nat} {e : α} (h : l.length ≤ i) : (l ++ r).getD i e = r.getD (i - l.length) e := by
  rw [List.getD_eq_getElem?_getD, List.getElem?_append_right h, ← List.getD_eq_getElem?_getD]
theorem bump_ok {ds : List M.Dcl} {env : List Int} {i : Nat} (h : M.envOk ds env = true) (hi : i < ds.length) (hx : env.getD i 0 + 1 < 2 ^ ((ds.getD i (M.nada, 0)).2).toNat) : M.envOk ds (M.bump env i) = true := by
  obtain ⟨h1, h2, h3⟩ := M.env_ok h
  have hl : (M.bump env i).length = ds.length := by unfold M.bump; rw [List.length_append, List.length_take, List.length_cons, List.length_replicate]; omega
  unfold M.envOk
  rw [h1, hl]
  simp only [Bool.true_and, decide_true, List.all_eq_true, List.mem_range]
  intro q hq
  have hw := M.dcl_wide h1 hq
  obtain ⟨_, _, q3, _⟩ := M.vok_iff.1 (h3 q hq)
  unfold M.bump
  rcases Nat.lt_trichotomy q i with e | e | e
  · rw [M.app_getD (by rw [List.length_take]; omega), M.take_getD e]
    exact h3 q hq
  · subst e
    rw [app_getDR (l := env.take q) (by rw [List.length_take]; omega)]
    have : q - (env.take q).length = 0 := by rw [List.length_take]; omega
    rw [this]
    exact M.vok_iff.2 ⟨hw.1, hw.2, by show 0 ≤ env.getD q 0 + 1; omega, hx⟩
  · rw [app_getDR (l := env.take i) (by rw [List.length_take]; omega)]
    obtain ⟨r, hr⟩ : ∃ r, q - (env.take i).length = r + 1 := ⟨q - (env.take i).length - 1, by rw [List.length_take]; omega⟩
    rw [hr, List.getD_cons_succ]
    have e0 : (List.replicate (env.length - i - 1) (0 : Int)).getD r 0 = 0 := by
      rw [List.getD_eq_getElem?_getD, List.getElem?_replicate]; split <;> rfl
    rw [e0]
    have := pow8 (b := (ds.getD q (M.nada, 0)).2) (by omega) (by omega)
    exact M.vok_iff.2 ⟨hw.1, hw.2, Int.le_refl _, by omega⟩
theorem environments_1_spec {yv : Value} {bd : Nat} {dv : Value} {t0 : TypeId} {ds : List M.Dcl} {k : Int} {S : Nat → Prop} {R : Int → World → Prop} {Z : World → Prop} (hok : M.declOk ds = true) (hk0 : 0 ≤ k) (hk : k < 2 ^ (M.bits ds).toNat)
    (hb : Blk w bd [dv] t0) (hd : DclsR F w dv ds) (hSb : ¬ S bd) (hSF : ∀ b, F b → ¬ S b) (hSl : ∀ b, S b → b < w.heap.size) (h0 : R 0 w)
    (hR : ∀ j w' w'', R j w' → Same (fun b => w.heap.size ≤ b) w' w'' → R j w'')
    (hy : ∀ (j : Int) (w' : World) (v : Value) (env : List Int) (K' : Value → World → Prop), 0 ≤ j → j ≤ k → R j w' → OwnI PP T_Lint w' v env → (∀ b, v.ownBlock = some b → w.heap.size ≤ b) → M.envOk ds env = true → M.rankE ds env = j →
      (j < k → ∀ w'', R (j + 1) w'' → Same S w' w'' → K' (.bool true) w'') → (j = k → ∀ w'', Z w'' → K' (.bool false) w'') → vcallv PP yv #[v] w' K')
    (hZ : ∀ w', Z w' → K (.tuple #[]) w') : vcall PP n_impl_environments_1 #[yv, .pointer (some ⟨bd, 0, none⟩)] w K := by
  apply c_impl_environments_1; unfold F_impl_environments_1
  have hsm := hd.small
  have hdl := (M.decl_iff.1 hok).1
  rw [hb.ld0 o_Limpl_Decl]
  simp (disch := (simp only [push_cast]; done)) only [push_cast, hd.len]
  refine vmkS_own (z := .int .i64 0) l_Lint (by kernel_rfl) zr_int rfl (by omega) (by omega) fun v w1 hv he1 hn1 => ?_
  have hv1 : OwnI PP T_Lint w1 v (List.replicate ds.length 0) := by unfold OwnI; rw [List.map_replicate]; exact hv
  have hlt1 : ∀ b, v.ownBlock = some b → b < w1.heap.size := fun b hb => hv1.lt hb
  have hz1 := he1.size
  have hpos : ∀ d, d ∈ ds → 0 ≤ d.2 := fun d hd => by
    obtain ⟨j, hj, rfl⟩ := List.getElem_of_mem hd
    have := M.dcl_wide hok hj
    rw [List.getD_eq_getElem?_getD, List.getElem?_eq_getElem hj] at this
    simp at this; omega
  have henv0 : M.envOk ds (List.replicate ds.length 0) = true := by
    unfold M.envOk
    rw [hok, List.length_replicate]
    simp only [Bool.true_and, decide_true, List.all_eq_true, List.mem_range]
    intro i hi
    have := M.dcl_wide hok hi
    have e : (List.replicate ds.length (0 : Int)).getD i 0 = 0 := by simp [List.getD_eq_getElem?_getD, hi]
    rw [e]
    refine M.vok_iff.2 ⟨this.1, this.2, Int.le_refl _, ?_⟩
    have := pow8 (b := (ds.getD i (M.nada, 0)).2) (by omega) (by omega)
    omega
  let S' : Nat → Prop := fun b => S b ∨ v.ownBlock = some b
  refine vloop_of (fun n u w' => ∃ (j : Int) (env : List Int), u = [] ∧ n = (k - j).toNat ∧ 0 ≤ j ∧ j ≤ k ∧ R j w' ∧ OwnI PP T_Lint w' v env ∧ M.envOk ds env = true ∧ M.rankE ds env = j ∧ Same S' w1 w') (k - 0).toNat
    ⟨0, _, rfl, rfl, Int.le_refl _, hk0, hR 0 w w1 h0 (he1.mono fun _ _ h => h.elim), hv1, henv0, M.rank_zero _ _, Same.refl _ _⟩ ?_
  rintro _ _ _ w2 C ⟨j, env, rfl, rfl, hj0, hjk, hRj, hv2, henv, hrank, hs2⟩ hC
  have hSb' : ¬ S' bd := fun h => h.elim hSb fun h => by have := hn1 _ h; have := hb.lt; omega
  have hSF' : ∀ b, F b → b < w.heap.size → ¬ S' b := fun b hF hlt h => h.elim (hSF b hF) fun h => by have := hn1 _ h; omega
  have dcl : ∀ w', Same S' w1 w' → Blk w' bd [dv] t0 ∧ DclsR (fun b => F b ∧ b < w.heap.size) w' dv ds := fun w' h =>
    ⟨(hb.ext he1).same h hSb', ((hd.weaken (F' := fun b => F b ∧ b < w.heap.size) fun b h1 h2 => ⟨h1, h2⟩).ext he1).same h fun b hF _ => hSF' b hF.1 hF.2⟩
  obtain ⟨_, hlen, hvoks⟩ := M.env_ok henv
  refine hy j w2 v env _ hj0 hjk hRj hv2 hn1 henv hrank (fun hlt w3 hR3 hs3 => ?_) (fun _ w3 hz => ?_)
  · simp only [push_cast, Bool.not_true]
    have hs13 : Same S' w1 w3 := hs2.trans (hs3.mono fun _ _ h => .inl h)
    have hnS : ∀ b, v.ownBlock = some b → ¬ S b := fun b hb h => by have := hSl b h; have := hn1 b hb; omega
    have hv3 := hv2.same hs3 hnS
    obtain ⟨hb3, hd3⟩ := dcl w3 hs13
    rw [hb3.ld0 o_Limpl_Decl]
    simp (disch := (simp only [push_cast]; done)) only [push_cast, hd3.len]
    rw [show IntKind.i64.wrap ((ds.length : Int) - 1) = (ds.length : Int) - 1 from wrap64 (by omega) (by omega)]
    refine vloop_of (fun n u w' => ∃ cur : List Int, u = [.int .i64 ((n : Int) - 1)] ∧ n ≤ ds.length ∧ cur = env.take n ++ List.replicate (ds.length - n) 0 ∧ M.Tops ds env n ∧ OwnI PP T_Lint w' v cur ∧ Same (fun b => v.ownBlock = some b) w3 w') ds.length
      ⟨env, rfl, Nat.le_refl _, by rw [Nat.sub_self, ← hlen, List.take_length]; simp, fun i h1 h2 => absurd h2 (by omega), hv3, Same.refl _ _⟩ ?_
    rintro n _ _ w4 C1 ⟨cur, rfl, hn, hcur, htop, hv4, hs4⟩ hC1
    have hs14 : Same S' w1 w4 := hs13.trans (hs4.mono fun _ _ h => .inr h)
    have hR4 : R (j + 1) w4 := hR _ _ _ hR3 (hs4.mono fun b _ h => hn1 b h)
    have hclen : cur.length = ds.length := by rw [hcur, List.length_append, List.length_take, List.length_replicate]; omega
    simp only [push_cast]
    refine vif_dec (fun a => ?_) (fun a => ?_)
    · obtain ⟨i, rfl⟩ : ∃ i, n = i + 1 := ⟨n - 1, by omega⟩
      have hin : i < ds.length := by omega
      have ei : ((i + 1 : Nat) : Int) - 1 = i := by omega
      have hcuri : cur.getD i 0 = env.getD i 0 := by
        rw [hcur, M.app_getD (by rw [List.length_take]; omega), M.take_getD (by omega)]
      obtain ⟨hw1, hw2, hw3, hw4⟩ := M.vok_iff.1 (hvoks i hin)
      have hp4 := pow8 (b := (ds.getD i (M.nada, 0)).2) (by omega) (by omega)
      rw [ei]
      have hvi := hv4.ints
      simp (disch := first | (simp only [push_cast]; done) | omega) only [push_cast, hvi.iaddr, hvi.load, hcuri]
      rw [wrap64 (by omega) (by omega)]
      refine hv4.st z_int (by omega) fun w5 hv5 hs5 hz5 => ?_
      refine vdraw_ext fun w6 he6 _ => ?_
      have hv6 := hv5.ext he6
      have hs16 : Same S' w1 w6 := hs14.trans ((hs5.mono fun _ _ h => .inr h).trans (Same.of_ext he6))
      have hs36 : Same (fun b => v.ownBlock = some b) w3 w6 := hs4.trans (hs5.trans (Same.of_ext he6))
      obtain ⟨hb6, hd6⟩ := dcl w6 hs16
      have hvi6 := hv6.ints
      have hl6 : i < (cur.set i (env.getD i 0 + 1)).length := by rw [List.length_set]; omega
      simp (disch := first | (simp only [push_cast]; done) | (rw [List.length_set]; omega) | omega) only [push_cast, hvi6.iaddr, hvi6.load, hb6.ld0, hd6.iaddr, hd6.load1, true_and]
      rw [shl1 (y := (ds.getD i (M.nada, 0)).2) (by omega) (by omega)]
      rw [getD_set (by omega)]
      simp only [push_cast, true_and, if_true]
      have hset : cur.set i (env.getD i 0 + 1) = bumpL env i (ds.length - i - 1) := by
        rw [hcur]; exact set_cut (by omega) (by omega)
      refine vif_dec (fun a2 => ?_) (fun a2 => ?_)
      · refine vif_dec (fun a3 => by omega) (fun _ => ?_)
        have eb : bumpL env i (ds.length - i - 1) = M.bump env i := by unfold M.bump bumpL; rw [hlen]
        rw [hset, eb] at hv6
        have hrb := M.rank_bump (ds := ds) (env := env) (i := i) hlen hpos hin htop
        refine hC (k - (j + 1)).toNat _ _ (by omega) ⟨j + 1, _, rfl, rfl, by omega, by omega, hR _ _ _ hR4 ((hs5.trans (Same.of_ext he6)).mono fun b _ h => hn1 b h), hv6, bump_ok henv hin a2, by rw [hrb, hrank], hs16⟩
      · refine hv6.st z_int (by omega) fun w7 hv7 hs7 hz7 => ?_
        rw [show IntKind.i64.wrap ((i : Int) - 1) = (i : Int) - 1 from wrap64 (by omega) (by omega)]
        refine hC1 i _ _ (by omega) ⟨_, rfl, by omega, ?_, fun q h1 h2 => ?_, hv7, hs36.trans hs7⟩
        · rw [hset]; exact bump_zero (by omega) (by omega)
        · by_cases e : q = i
          · subst e; omega
          · exact htop q (by omega) h2
    · exfalso
      have hn0 : n = 0 := by omega
      subst hn0
      have := M.rank_top hlen hpos htop
      omega
  · simp only [push_cast, Bool.not_false]
    exact hZ _ hz
theorem _root_.Go.Vc.Same.trans' {a b c : Nat} {w0 w1 w2 w3 : World} (h1 : Same (· = a) w0 w1) (h2 : Same (· = b) w1 w2) (h3 : Same (· = c) w2 w3) : Same (fun x => x = a ∨ x = b ∨ x = c) w0 w3 :=
  (h1.mono fun _ _ h => .inl h).trans ((h2.mono fun _ _ h => .inr (.inl h)).trans (h3.mono fun _ _ h => .inr (.inr h)))
theorem same_later {S T : Nat → Prop} {w0 w1 w2 : World} (h1 : Same S w0 w1) (h2 : Same T w1 w2) (h : ∀ b, b < w0.heap.size → T b → S b) : Same S w0 w2 :=
  ⟨h2.os.trans h1.os, h2.tape.trans h1.tape, h2.output.trans h1.output, Nat.le_trans h1.size h2.size, fun b hb hn => (h2.block b (Nat.lt_of_lt_of_le hb h1.size) fun e => hn (h b hb e)).trans (h1.block b hb hn)⟩
theorem EnvAll_spec {dv : Value} {ds : List M.Dcl} {k : Int} (hd : DclsR F w dv ds) (hok : M.declOk ds = true) (hk0 : 0 ≤ k) (hk : k < 2 ^ (M.bits ds).toNat)
    (hK : ∀ w' v env, Ext w w' → OwnI PP T_Lint w' v env → (∀ b, v.ownBlock = some b → w.heap.size ≤ b) → M.envOk ds env = true → M.rankE ds env = k → K (.tuple #[v, .bool true]) w') : vcall PP n_impl_EnvAll #[dv, .int .i64 k] w K := by
  apply c_impl_EnvAll; unfold F_impl_EnvAll
  have hbk := bits_all hok 0
  have hp := pow8 (b := M.bits ds) (by omega) hbk.2.2
  refine vbox_new fun b1 w1 hb1 he1 hs1 h1 => ?_
  replace h1 : Blk w1 b1 [.int .i64 k] T_int := h1
  refine valloc_new zr_Lint fun b2 w2 hb2 he2 hs2 h2 => ?_
  replace h2 : Blk w2 b2 [.slice none 0 0] T_Lint := h2
  refine valloc_new zr_bool fun b3 w3 hb3 he3 hs3 h3 => ?_
  replace h3 : Blk w3 b3 [.bool false] T_bool := h3
  refine vdraw_ext fun w4 he4 _ => ?_
  have e14 := (he2.trans he3).trans he4
  have hE4 := he1.trans e14
  have q1 := h1.ext e14
  simp (disch := (simp only [push_cast]; done)) only [push_cast, q1.ld0, true_and]
  refine vif_dec (fun a => by omega) (fun _ => ?_)
  refine EnvMany_spec (hd.ext hE4) fun w5 he5 => ?_
  have q5 := q1.ext he5
  have hmany : manyE ds = 2 ^ (M.bits ds).toNat := by unfold manyE; rw [if_pos hok]
  simp (disch := (simp only [push_cast]; done)) only [push_cast, q5.ld0, true_and, and_self]
  refine vif_dec (fun a => by omega) (fun _ => ?_)
  apply c_impl_environments; unfold F_impl_environments
  obtain ⟨da, dc, rfl, _⟩ := hd.shape
  rw [List.length_map] at *
  refine vbox_new fun b6 w6 hb6 he6 hs6 h6 => ?_
  replace h6 : Blk w6 b6 [.slice da ds.length dc] T_Limpl_Decl := h6
  simp only [push_cast]
  have hE6 := hE4.trans (he5.trans he6)
  refine ⟨n_impl_environments_1, ⟨[.pointer (some ⟨b6, 0, none⟩)]⟩, rfl, fun l D w7 RR hD hl he7 hs7 hD7 hst hr7 hround => ?_⟩
  have hE7 := hE6.trans he7
  have z1 := he1.size
  have z4 := he4.size
  have z5 := he5.size
  have z6 := he6.size
  have e37 : Ext w3 w7 := he4.trans (he5.trans (he6.trans he7))
  have p1 : Blk w7 b1 [.int .i64 k] T_int := q5.ext (he6.trans he7)
  have p2 : Blk w7 b2 [.slice none 0 0] T_Lint := (h2.ext he3).ext e37
  have p3 : Blk w7 b3 [.bool false] T_bool := h3.ext e37
  have z37 := e37.size
  show vcall PP n_impl_environments_1 #[.func (.yield l) #[] #[], .pointer (some ⟨b6, 0, none⟩)] w7 _
  let S : Nat → Prop := fun b => b = l ∨ b = b1 ∨ b = b2 ∨ b = b3
  have hRs : ∀ {st pe} {T : Nat → Prop} {w' w'' : World}, RR st pe w' → Same T w' w'' → w7.heap.size ≤ w'.heap.size → ¬ T l → RR st pe w'' := fun h hT hz hn => hst _ _ _ _ h (hT.block l (by omega) hn)
  have hDs : ∀ {T : Nat → Prop} {w' w'' : World}, w'.heap[D]? = some (.deferred (some [])) → Same T w' w'' → w7.heap.size ≤ w'.heap.size → ¬ T D → w''.heap[D]? = some (.deferred (some [])) := fun h hT hz hn => (hT.block D (by omega) hn).trans h
  refine environments_1_spec (F := fun b => F b ∧ b < w.heap.size) (S := S) (ds := ds) (k := k)
    (R := fun j w' => RR .ready none w' ∧ Blk w' b1 [.int .i64 (k - j)] T_int ∧ Blk w' b2 [.slice none 0 0] T_Lint ∧ Blk w' b3 [.bool false] T_bool ∧ w'.heap[D]? = some (.deferred (some [])) ∧ Same S w7 w')
    (Z := fun w' => RR .done (some .ret) w' ∧ w'.heap[D]? = some (.deferred (some [])) ∧ Same S w7 w' ∧ ∃ v env, Blk w' b2 [v] T_Lint ∧ Blk w' b3 [.bool true] T_bool ∧ OwnI PP T_Lint w' v env ∧ (∀ b, v.ownBlock = some b → w7.heap.size ≤ b) ∧ M.envOk ds env = true ∧ M.rankE ds env = k)
    hok hk0 hk (h6.ext he7) ((hd.weaken fun b h1 h2 => ⟨h1, h2⟩).ext hE7) (fun h => by rcases h with h | h | h | h <;> omega) (fun b hb h => by rcases h with h | h | h | h <;> omega) (fun b h => by rcases h with h | h | h | h <;> omega)
    ⟨hr7, by rw [Int.sub_zero]; exact p1, p2, p3, hD7, Same.refl _ _⟩ ?_ ?_ ?_
  · rintro j w8 w9 ⟨g1, g2, g3, g4, g5, g6⟩ hs
    have z := g6.size
    exact ⟨hRs g1 hs z (by omega), g2.same hs (by omega), g3.same hs (by omega), g4.same hs (by omega), hDs g5 hs z (by omega), same_later g6 hs fun b hb h => by omega⟩
  · rintro j w8 v env K' hr0 hjk ⟨g1, g2, g3, g4, g5, g6⟩ hv hvn henv hrank hT hZ
    have z78 := g6.size
    refine hround [v] w8 K' rfl g1 ⟨g1, fun w9 hs9 hz9 hb9 => ?_⟩
    have k1 := g2.same hs9 (by omega)
    have k2 := g3.same hs9 (by omega)
    have k3 := g4.same hs9 (by omega)
    have k5 := hDs g5 hs9 z78 (by omega)
    have k6 : Same S w7 w9 := same_later g6 hs9 fun b _ h => .inl h
    simp (disch := (simp only [push_cast]; done)) only [push_cast, k1.ld0]
    refine vif_dec (fun a => ?_) (fun a => ?_)
    · have hin := (hv.same hs9 fun b hb e => by have := hvn b hb; omega).ints
      have hel := (M.env_ok henv).2.1
      have hdl := (M.decl_iff.1 hok).1
      refine Clone_Lint hin (by omega) fun w10 v2 he10 hv2 hn2 => ?_
      have hc : v2.cells = #[v2] ∧ v2.oneCell' = true := by
        obtain ⟨a', c', e, _⟩ := hv2.ints.shape
        subst e; exact ⟨rfl, rfl⟩
      have z10 := he10.size
      refine (k2.ext he10).st (i := 0) hc.1 hc.2 z_Lint rfl fun w11 hw11 hz11 h11 => ?_
      replace h11 : Blk w11 b2 [v2] T_Lint := h11
      refine ((k3.ext he10).same hw11 (by omega)).st (i := 0) rfl rfl z_bool rfl fun w12 hw12 hz12 h12 => ?_
      replace h12 : Blk w12 b3 [.bool true] T_bool := h12
      have hs912 : Same (fun b => b = b2 ∨ b = b3) w9 w12 := (Same.of_ext he10).trans ((hw11.mono fun _ _ h => .inl h).trans (hw12.mono fun _ _ h => .inr h))
      have k7 : Same S w7 w12 := same_later k6 hs912 fun b _ h => .inr (.inr h)
      refine ⟨hRs hb9 hs912 (by omega) (by omega), fun w13 hs13 hz13 hr13 => hZ (by omega) w13 ⟨hr13, hDs (hDs k5 hs912 (by omega) (by omega)) hs13 (by omega) (by omega), same_later k7 hs13 fun b _ h => .inl h, v2, env, (h11.same hw12 (by omega)).same hs13 (by omega), h12.same hs13 (by omega), ?_, fun b hb => by have := hn2 b hb; omega, henv, by omega⟩⟩
      exact hv2.same (hw11.trans' hw12 hs13) fun b hb e => by have := hn2 b hb; omega
    · try simp (disch := (simp only [push_cast]; done)) only [push_cast, k1.ld0]
      rw [wrap64 (by omega) (by omega)]
      refine k1.st (i := 0) rfl rfl z_int rfl fun w10 hw10 hz10 h10 => ?_
      replace h10 : Blk w10 b1 [.int .i64 (k - (j + 1))] T_int := by rw [show k - (j + 1) = k - j - 1 by omega]; exact h10
      refine ⟨hRs hb9 hw10 (by omega) (by omega), fun w11 hs11 hz11 hr11 => hT (by omega) w11 ⟨hr11, h10.same hs11 (by omega), (k2.same hw10 (by omega)).same hs11 (by omega), (k3.same hw10 (by omega)).same hs11 (by omega), hDs (hDs k5 hw10 (by omega) (by omega)) hs11 (by omega) (by omega), ?_⟩ ?_⟩
      · exact same_later (same_later k6 hw10 fun b _ h => .inr (.inl h)) hs11 fun b _ h => .inl h
      · exact (hs9.mono fun b _ h => .inl h).trans ((hw10.mono fun b _ h => .inr (.inl h)).trans (hs11.mono fun b _ h => .inl h))
  · rintro w8 ⟨g1, g2, g3, v, env, g4, g5, g6, g7, g8, g9⟩
    have z78 := g3.size
    refine ⟨.done, some .ret, by decide, g1, fun w9 hs9 hz9 => ?_⟩
    refine ⟨hDs g2 hs9 z78 (by omega), fun w10 hs10 hz10 => ?_⟩
    have hs : Same (fun b => b = l ∨ b = D) w8 w10 := (hs9.mono fun _ _ h => .inl h).trans (hs10.mono fun _ _ h => .inr h)
    show vlv PP T_Lint (.pointer (some ⟨b2, 0, none⟩)) w10 _
    rw [lv0 (g4.same hs (by omega)) o_Lint, lv0 (g5.same hs (by omega)) o_bool]
    refine hK _ v env (Ext.then (Ext.then hE7 g3 fun y hy => by rcases hy with h | h | h | h <;> omega) hs fun y hy => by omega) (g6.same hs fun b hb h => by have := g7 b hb; omega) (fun b hb => by have := g7 b hb; omega) g8 g9
end Go.Proofs.YtcfgmgjofmbfhaaGreatDoor
end
section
namespace Go.Proofs.YtcfgmgjofmbfhaaGreatDoor
open Go Go.Vc Go.Proofs
variable {w : World} {K : Value → World → Prop} {F F' D G : Nat → Prop}
end Go.Proofs.YtcfgmgjofmbfhaaGreatDoor
end
section
namespace Go.Proofs.YtcfgmgjofmbfhaaGreatDoor
open Go Go.Vc Go.Proofs
variable {w : World} {K : Value → World → Prop} {F F' D G : Nat → Prop}
end Go.Proofs.YtcfgmgjofmbfhaaGreatDoor
end
section
namespace Go.Proofs.YtcfgmgjofmbfhaaGreatDoor
open Go Go.Vc Go.Proofs
variable {w : World} {K : Value → World → Prop} {F F' D G : Nat → Prop}
theorem more_decls {dv : Value} {ds : List M.Dcl} {s : ByteArray} {n : Int} {K : Value → World → Prop} (hd : DclsR F w dv ds) (hsm : ds.length ≤ 1048576)
    (hK : ∀ w' v', Ext w w' → DclsR (fun b => w.heap.size ≤ b) w' v' (ds ++ [(s, n)]) → K v' w') :
    vbuildS PP T_Limpl_Decl 0 [] w fun t49 w_35 => vbi PP .append [T_Limpl_Decl, T_Limpl_Decl] T_Limpl_Decl [t49, dv] w_35 fun t51 w_36 =>
      vbuildS PP T_Limpl_Decl 1 [(0, .agg ⟨[.string s, .int .i64 n]⟩)] w_36 fun t53 w_38 => vbi PP .append [T_Limpl_Decl, T_Limpl_Decl] T_Limpl_Decl [t51, t53] w_38 fun t54 w_39 => K t54 w_39 := by
  refine vbuildS_row (xs := []) (us := []) (k := 2) u_Limpl_Decl z_impl_Decl zr_impl_Decl rfl (by simp) (by decide) fun b1 w1 hb1 he1 hs1 h1 => ?_
  have ho1 : Own PP 0 2 T_Limpl_Decl w1 (.slice (some ⟨b1, 0, none⟩) 0 0) [] := Blk.ownk (css := []) (by rw [eo_Limpl_Decl]; exact h1) (by simp) rfl (by decide)
  have hone : ∀ (l : List M.Dcl), ∀ y, y ∈ l.map (fun d => [Value.string d.1, Value.int .i64 d.2]) → ∀ c, c ∈ y → c.oneCell' = true := fun l y hy c hc => by
    obtain ⟨d, _, rfl⟩ := List.mem_map.1 hy
    simp only [List.mem_cons, List.not_mem_nil, or_false] at hc
    rcases hc with rfl | rfl <;> rfl
  refine vappend l_Limpl_Decl (by decide) ho1 (hd.ext he1) (hone ds) (Nat.zero_le _) (by simp; omega) (by simp; omega) fun v2 w2 ho2 hw2 hn2 => ?_
  rw [List.nil_append] at ho2
  have hz1 := he1.size
  have hz2 := hw2.size
  have hn2' : ∀ b, v2.ownBlock = some b → w.heap.size ≤ b := fun b hb => by
    rcases hn2 b hb with h | h
    · have e : b = b1 := (Option.some.inj h).symm; omega
    · omega
  have hE2 : Ext w w2 := Ext.then he1 hw2 fun y hy => by have e : y = b1 := (Option.some.inj hy).symm; omega
  refine vbuildS1 u_Limpl_Decl z_impl_Decl zr_impl_Decl rfl rfl (by decide) fun b3 w3 hb3 he3 hs3 h3 => ?_
  refine Own.app1k (ho2.ext he3) l_Limpl_Decl (by decide) h3 rfl (fun c hc => by
    simp only [List.mem_cons, List.not_mem_nil, or_false] at hc
    rcases hc with rfl | rfl <;> rfl) (by rw [List.length_map]; omega) (by rw [List.length_map]; omega) fun v4 w4 ho4 hw4 hn4 => ?_
  have hz3 := he3.size
  refine hK w4 v4 (Ext.then (hE2.trans he3) hw4 fun y hy => hn2' y hy) ?_
  unfold DclsR
  rw [List.map_append]
  exact ho4.sl.weaken fun b hb _ => by
    rcases hn4 b hb with h | h
    · exact hn2' b h
    · omega
theorem FnEnvMore_spec {v v' : Value} {xs ys : List Nat} (hx : Bytes F w v xs) (hy : Bytes F' w v' ys) (hK : ∀ w', Ext w w' → K (.bool true) w') : vcall PP n_laws_FnEnvMore #[v, v'] w K := by
  apply c_laws_FnEnvMore; unfold F_laws_FnEnvMore
  refine vjoin_of (fun u w' => u = [] ∧ w' = w ∧ (ys.length : Int) ≤ 1048576) (fun C hC => ?_) ?_
  · simp (disch := (simp only [push_cast]; done)) only [push_cast, hx.len, hy.len]
    refine vif_dec (fun _ => hK w (Same.refl _ _)) (fun _ => ?_)
    exact vif_dec (fun _ => hK w (Same.refl _ _)) (fun _ => hC _ _ ⟨rfl, rfl, by omega⟩)
  rintro _ _ _ ⟨rfl, rfl, hysm⟩
  rename_i w
  refine DrawTermFold_spec hx.below (fun b hb => hb) fun w1 dv tv ds t he1 hd hok ht => ?_
  obtain ⟨cs, rfl, hcs⟩ := ht.cells
  simp only [push_cast]
  refine valloc_agg zr_impl_Term fun b2 w2 hb2 he2 hs2 h2 => ?_
  refine stTerm h2 rfl ((hcs.weaken (F' := fun x => x < w1.heap.size) fun x _ hl => hl).ext he2) fun w3 hw3 hz3 h3 => ?_
  have he3 : Ext w1 w3 := Ext.then he2 hw3 fun y hy => by subst hy; omega
  have hg : aggB PP T_impl_Term cs.length = true := by rw [tmR_len hcs]; exact g_impl_Term
  have hE3 := he1.trans he3
  rw [h3.ldAgg (t := T_impl_Term) hg]
  refine TermFold_spec (hd.ext he3) (hcs.ext he3).term fun w4 cu he4 hu4 => ?_
  have hcu4 := tmO_R _ hu4
  have gu : aggB PP T_impl_Term cu.length = true := by rw [tmR_len hcu4]; exact g_impl_Term
  refine valloc_agg zr_impl_Term fun b5 w5 hb5 he5 hs5 h5 => ?_
  refine stTerm h5 rfl ((hcu4.weaken (F' := fun x => x < w4.heap.size) fun x _ hl => hl).ext he5) fun w6 hw6 hz6 h6 => ?_
  have e46 : Ext w4 w6 := Ext.then he5 hw6 fun y hy => by subst hy; omega
  have e36 := he4.trans e46
  have e16 := he3.trans e36
  have h36 := h3.ext e36
  have hd6 := hd.ext e16
  have hc6 := hcs.ext e16
  have hu6 := hcu4.ext e46
  have hE6 := hE3.trans e36
  refine vjoin_of (fun u w' => u = [] ∧ Ext w6 w' ∧ M.tsort ds t ≠ -1) (fun C hC => ?_) ?_
  · refine vdraw_ext fun w12 he12 _ => ?_
    simp only [(h6.ext he12).ldAgg (t := T_impl_Term) gu, (h36.ext he12).ldAgg (t := T_impl_Term) hg, true_and]
    refine spec_TermFold_spec (dsm_sized hok) (hd6.ext he12) (hc6.ext he12).term fun w13 cv he13 hv13 => ?_
    have e613 := he12.trans he13
    simp only [(h6.ext e613).ldAgg (t := T_impl_Term) gu, true_and, and_self]
    refine TermSame_spec _ (hu6.ext e613).term (tmO_R _ hv13).term fun w14 he14 => ?_
    have e614 := e613.trans he14
    rw [decide_eq_true rfl]
    simp only [push_cast, Bool.not_true, true_and, (h36.ext e614).ldAgg (t := T_impl_Term) hg]
    refine spec_TermSort_spec (dsm_sized hok) (hd6.ext e614) (hc6.ext e614).term fun w15 he15 => ?_
    have e615 := e614.trans he15
    simp only [push_cast, true_and]
    refine vif_dec (fun a => ?_) (fun a => hC _ _ ⟨rfl, e615, by omega⟩)
    refine vdraw_ext fun w16 he16 _ => ?_
    have e616 := e615.trans he16
    simp only [(h6.ext e616).ldAgg (t := T_impl_Term) gu, (h36.ext e616).ldAgg (t := T_impl_Term) hg, true_and]
    refine spec_TermFold_spec (dsm_sized hok) (hd6.ext e616) (hc6.ext e616).term fun w17 cv he17 hv17 => ?_
    have e617 := e616.trans he17
    simp only [(h6.ext e617).ldAgg (t := T_impl_Term) gu, true_and, and_self]
    refine TermSame_spec _ (hu6.ext e617).term (tmO_R _ hv17).term fun w18 he18 => ?_
    rw [decide_eq_true rfl]
    exact hK _ (hE6.trans (e617.trans he18))
  rintro _ _ w7 ⟨rfl, e67, hts⟩
  obtain ⟨hdk, hso, hfi⟩ := right_parts hts
  rw [foldA_of hdk hfi hso] at hu6
  have hgood := M.fold_good hdk t hso
  have hdl := (M.decl_iff.1 hdk).1
  refine more_decls (s := ⟨#[109, 111, 114, 101]⟩) (n := 1) (hd6.ext e67) (by omega) ?_
  intro w8 ev he8 hev
  have e68 := e67.trans he8
  refine DeclOk_spec hev fun w9 he9 => ?_
  have e69 := e68.trans he9
  simp only [push_cast]
  refine vif_bool (fun a => ?_) (fun a => ?_)
  · refine EnvMany_spec (hev.ext he9) fun w10 he10 => ?_
    have : manyE (ds ++ [(⟨#[109, 111, 114, 101]⟩, 1)]) = 0 := by unfold manyE; rw [if_neg (by simpa using a)]
    rw [this]
    simp only [push_cast]
    rw [decide_eq_true trivial]
    exact hK _ (hE6.trans (e69.trans he10))
  have hek : M.declOk (ds ++ [(⟨#[109, 111, 114, 101]⟩, 1)]) = true := by simpa using a
  have hbk := bits_all hdk 0
  have hp := pow8 (b := M.bits ds) (by omega) hbk.2.2
  have hmany : manyE ds = 2 ^ (M.bits ds).toNat := by unfold manyE; rw [if_pos hdk]
  have hmore : manyE (ds ++ [(⟨#[109, 111, 114, 101]⟩, 1)]) = 2 * manyE ds := by
    unfold manyE
    rw [if_pos hek, if_pos hdk, M.bits_more, show (M.bits ds + 1).toNat = (M.bits ds).toNat + 1 by omega, Int.pow_succ]
    omega
  have hE9 := hE6.trans e69
  simp (disch := (simp only [push_cast]; done)) only [push_cast, hy.len]
  refine EnvMany_spec (hd6.ext e69) fun w10 he10 => ?_
  have e610 := e69.trans he10
  rw [vbin_rem (by omega)]
  have hr : (ys.length : Int).tmod (manyE ds) = (ys.length : Int) % manyE ds := Int.tmod_eq_emod_of_nonneg (by omega)
  have hr0 := Int.emod_nonneg (ys.length : Int) (b := manyE ds) (by omega)
  have hr1 := Int.emod_lt_of_pos (ys.length : Int) (b := manyE ds) (by omega)
  rw [hr]
  refine EnvAll_spec (hd6.ext e610) hdk hr0 (by omega) fun w11 nv env he11 hnv hnn henv hrank => ?_
  have e611 := e610.trans he11
  simp only [push_cast]
  rw [(h36.ext e611).ldAgg (t := T_impl_Term) hg]
  refine TermEval_spec (hd6.ext e611) (hc6.ext e611).term hnv.ints fun w12 he12 => ?_
  have e612 := e611.trans he12
  simp only [push_cast]
  have hnv12 := hnv.ext he12
  have hlen := (M.env_ok henv).2.1
  obtain ⟨x, hxd⟩ : ∃ x : Int, x = (ys.length : Int).tmod 2 := ⟨_, rfl⟩
  have hx2 : x = 0 ∨ x = 1 := by rw [hxd, Int.tmod_eq_emod_of_nonneg (by omega)]; omega
  have he812 := he9.trans (he10.trans (he11.trans he12))
  have hev12 := hev.ext he812
  refine vjoin_of (fun u w' => u = [.int .i64 (M.teval (ds ++ [(⟨#[109, 111, 114, 101]⟩, 1)]) t (env ++ [x])), .bool (M.tok (ds ++ [(⟨#[109, 111, 114, 101]⟩, 1)]) t (env ++ [x]))] ∧ Ext w12 w') (fun C hC => ?_) ?_
  · refine vdraw_ext fun w13 he13 _ => ?_
    have q13 := (h36.ext e612).ext he13
    have hz13 := he13.size
    simp (disch := (simp only [push_cast]; done)) only [push_cast, q13.ldAgg (t := T_impl_Term) hg, hy.len, true_and]
    have fin : ∀ {w14 : World} {v84 : Value} {b88 : Nat}, Ext w13 w14 → OwnI PP T_Lint w14 v84 env → (∀ b, v84.ownBlock = some b → w13.heap.size ≤ b) → Blk w14 b88 [.int .i64 x] T_int →
        vbi PP .append [T_Lint, T_Lint] T_Lint [v84, .slice (some ⟨b88, 0, none⟩) 1 1] w14 fun t89 w_62 => (vload PP T_impl_Term (.pointer (some ⟨b2, 0, none⟩)) w_62 fun v x => v = .agg ⟨cs⟩ ∧ x = w_62) ∧
          (vcall PP n_impl_TermEval #[ev, .agg ⟨cs⟩, t89] w_62 fun t90 w_63 =>
                    vextract PP t90 0 w_63 fun t91 w_64 => w_64 = w_63 ∧
                    vextract PP t90 1 w_63 fun t92 w_65 => w_65 = w_63 ∧
                    C [t91, t92] w_63) ∧ True := fun {w14 v84 b88} he14 hv hvn hb => by
      refine hv.app1 l_Lint hb (by omega) (by omega) fun v15 w15 hv15 hw15 hn15 => ?_
      have e1315 : Ext w13 w15 := Ext.then he14 hw15 fun y hy => hvn y hy
      rw [(q13.ext e1315).ldAgg (t := T_impl_Term) hg]
      refine ⟨⟨rfl, rfl⟩, ?_, trivial⟩
      refine TermEval_spec (hev12.ext (he13.trans e1315)) ((hc6.ext e612).ext (he13.trans e1315)).term hv15.ints fun w16 he16 => ?_
      simp only [push_cast, true_and]
      exact hC _ _ ⟨rfl, he13.trans (e1315.trans he16)⟩
    have hnil : ∀ {w14 w15 : World} {b : Nat}, Blk w15 b [] T_int → OwnI PP T_Lint w15 (.slice (some ⟨b, 0, none⟩) 0 0) [] := fun h => Blk.own1 (P := PP) (t := T_Lint) (cs := []) (by rw [eo_Lint]; exact h) (Nat.zero_le _) rfl rfl (by omega)
    rw [vbin_rem (by decide), ← hxd]
    have hrem : ∀ w', vbin PP .rem T_int true (.int .i64 ys.length) (.int .i64 2) w' fun v x_1 => v = .int .i64 x ∧ x_1 = w' := fun w' => by rw [vbin_rem (by decide), ← hxd]; exact ⟨rfl, rfl⟩
    have hld : ∀ {w'}, Ext w13 w' → vload PP T_impl_Term (.pointer (some ⟨b2, 0, none⟩)) w' fun v x => v = .agg ⟨cs⟩ ∧ x = w' := fun {w'} h => by rw [(q13.ext h).ldAgg (t := T_impl_Term) hg]; exact ⟨rfl, rfl⟩
    have hnv13 := hnv12.ext he13
    refine ⟨rfl, ?_, ?_, trivial⟩
    · refine vbuildS_nil u_Lint z_int fun b1 w14 hb1 he14 hs14 hB => ⟨hrem _, hld he14, ?_, ?_, trivial⟩
      · refine (hnil (w14 := w14) hB).app (ys := env) l_Lint (hnv13.ints.ext he14) (by simp; omega) (by simp; omega) fun v84 w15 hv15 hw15 hn15 => ?_
        have hown : ∀ b, v84.ownBlock = some b → w13.heap.size ≤ b := fun b hb => by
          rcases hn15 b hb with h | h
          · have e : b = b1 := (Option.some.inj h).symm; omega
          · omega
        have e15 : Ext w13 w15 := Ext.then he14 hw15 fun y hy => by have e : y = b1 := (Option.some.inj hy).symm; omega
        refine ⟨hrem _, hld e15, ?_, trivial⟩
        refine vbuildS1 (y := [.int .i64 x]) u_Lint z_int zr_int rfl rfl (by decide) fun b88 w16 hb16 he16 hs16 h16 => ⟨hld (e15.trans he16), ?_, trivial⟩
        exact fin (e15.trans he16) (hv15.ext he16) hown h16
      · refine vbuildS1 (y := [.int .i64 x]) u_Lint z_int zr_int rfl rfl (by decide) fun b88 w15 hb15 he15 hs15 h15 => ⟨hld (he14.trans he15), ?_, trivial⟩
        refine ((hnil (w14 := w14) hB).ext he15).app (ys := env) l_Lint (hnv13.ints.ext (he14.trans he15)) (by simp; omega) (by simp; omega) fun v84 w16 hv16 hw16 hn16 => ?_
        have hown : ∀ b, v84.ownBlock = some b → w13.heap.size ≤ b := fun b hb => by
          rcases hn16 b hb with h | h
          · have e : b = b1 := (Option.some.inj h).symm; omega
          · omega
        have e16 : Ext w13 w16 := Ext.then (he14.trans he15) hw16 fun y hy => by have e : y = b1 := (Option.some.inj hy).symm; omega
        refine ⟨hld e16, ?_, trivial⟩
        exact fin e16 hv16 hown (h15.same hw16 fun e => by have e : b88 = b1 := (Option.some.inj e).symm; omega)
    · refine vbuildS1 (y := [.int .i64 x]) u_Lint z_int zr_int rfl rfl (by decide) fun b88 w14 hb14 he14 hs14 h14 => ⟨hld he14, ?_, trivial⟩
      refine vbuildS_nil u_Lint z_int fun b1 w15 hb1 he15 hs15 hB => ⟨hld (he14.trans he15), ?_, trivial⟩
      refine (hnil (w14 := w14) hB).app (ys := env) l_Lint (hnv13.ints.ext (he14.trans he15)) (by simp; omega) (by simp; omega) fun v84 w16 hv16 hw16 hn16 => ?_
      have hown : ∀ b, v84.ownBlock = some b → w13.heap.size ≤ b := fun b hb => by
        rcases hn16 b hb with h | h
        · have e : b = b1 := (Option.some.inj h).symm; omega
        · omega
      have e16 : Ext w13 w16 := Ext.then (he14.trans he15) hw16 fun y hy => by have e : y = b1 := (Option.some.inj hy).symm; omega
      refine ⟨hld e16, ?_, trivial⟩
      exact fin e16 hv16 hown ((h14.ext he15).same hw16 fun e => by have e : b88 = b1 := (Option.some.inj e).symm; omega)
  · rintro _ _ w13 ⟨rfl, he13⟩
    have henv2 : M.envOk (ds ++ [(⟨#[109, 111, 114, 101]⟩, 1)]) (env ++ [x]) = true := M.more_env hek henv (M.vok_iff.2 ⟨by decide, by decide, by omega, by rcases hx2 with h | h <;> rw [h] <;> decide⟩)
    have hso2 := M.more_sort hek t hso
    have ht1 := tok_of henv hso hfi
    have ht2 := tok_of (ds := ds ++ [(⟨#[109, 111, 114, 101]⟩, 1)]) henv2 (t := t) (by rw [hso2]; exact hso) hfi
    have hte : M.teval (ds ++ [(⟨#[109, 111, 114, 101]⟩, 1)]) t (env ++ [x]) = M.teval ds t env := by
      unfold M.teval
      rw [if_pos ht1, if_pos ht2, M.more_eval hek hlen hso]
    have hfo : foldA (ds ++ [(⟨#[109, 111, 114, 101]⟩, 1)]) t = M.foldT ds t := by
      rw [foldA_of hek hfi (by rw [hso2]; exact hso), M.more_fold hdk hek t hso]
    refine vdraw_ext fun w14 he14 _ => ?_
    have e1214 := he13.trans he14
    refine EnvMany_spec (hev12.ext e1214) fun w15 he15 => ?_
    have e1215 := e1214.trans he15
    refine EnvMany_spec (hd6.ext (e612.trans e1215)) fun w16 he16 => ?_
    have e616 := e612.trans (e1215.trans he16)
    have hml := manyE_le ds
    simp only [push_cast, hmore, true_and]
    rw [wrap64 (by omega) (by omega), decide_eq_true rfl, ht1, ht2, hte]
    simp only [push_cast, true_and]
    refine vif_dec (fun _ => ?_) (fun h => absurd trivial h)
    simp only [(h36.ext e616).ldAgg (t := T_impl_Term) hg, (h6.ext e616).ldAgg (t := T_impl_Term) gu, true_and]
    refine TermFold_spec (hev12.ext (e1215.trans he16)) (hc6.ext e616).term fun w17 cf he17 hf17 => ?_
    simp only [(h6.ext (e616.trans he17)).ldAgg (t := T_impl_Term) gu, true_and, and_self]
    have hf := (tmO_R _ hf17).term
    rw [hfo] at hf
    refine TermSame_spec _ hf (hu6.ext (e616.trans he17)).term fun w18 he18 => ?_
    rw [decide_eq_true rfl]
    exact hK _ (hE6.trans (e616.trans (he17.trans he18)))
end Go.Proofs.YtcfgmgjofmbfhaaGreatDoor
end
