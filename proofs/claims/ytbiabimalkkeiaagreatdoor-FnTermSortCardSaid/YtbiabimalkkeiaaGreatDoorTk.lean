/- Contracts of the reference's terms: sorts. -/
import Derived.Test.YtbiabimalkkeiaaGreatDoorTj
import Derived.Test.YtbiabimalkkeiaaGreatDoorTh
import Derived.Test.YtbiabimalkkeiaaGreatDoorM22
set_option linter.unusedVariables false
set_option linter.unusedSimpArgs false
set_option linter.unnecessarySimpa false
set_option linter.unusedSectionVars false
namespace Go.Proofs.YtbiabimalkkeiaaGreatDoor
open Go Go.Vc Go.Proofs
variable {w : World} {K : Value → World → Prop} {F G : Nat → Prop}

theorem l2Name_spec {s : ByteArray} (hs : s.size ≤ 9223372036854775807) (hK : K (.bool (M.nameOk s)) w) : vcall PP n_spec_l2Name #[.string s] w K := by
  apply c_spec_l2Name; unfold F_spec_l2Name
  rw [nameOk_eq] at hK
  refine vloop_up s.size (fun i u w' => u = [.int .i64 i] ∧ w' = w ∧ ∀ j, j < i → (decide (97 ≤ (s.data.getD j 0).toNat) && decide ((s.data.getD j 0).toNat ≤ 122)) = true) ⟨rfl, rfl, by omega⟩ ?_
  rintro i _ _ w1 C hi ⟨rfl, rfl, hall⟩ hC
  simp (disch := first | (simp only [push_cast]; done) | omega) only [push_cast, vlen_str str_string]
  have hno : i < s.size → (decide (97 ≤ (s.data.getD i 0).toNat) && decide ((s.data.getD i 0).toNat ≤ 122)) = false → lower s = false := fun hlt h => by
    rw [Bool.eq_false_iff]
    intro hl
    unfold lower at hl
    rw [Array.all_eq_true_iff_forall_mem] at hl
    have hd : i < s.data.size := hlt
    have := hl (s.data.getD i 0) (by rw [Array.getD_eq_getD_getElem?, Array.getElem?_eq_getElem hd]; exact Array.getElem_mem hd)
    rw [h] at this; cases this
  refine vif_dec (fun a => ?_) (fun a => ?_)
  · have hlt : i < s.size := by omega
    rw [vindex_str str_string (by omega) (by omega), Int.toNat_natCast]
    simp only [push_cast]
    refine vif_dec (fun b => ?_) (fun b => ?_)
    · rw [hno hlt (by rw [decide_eq_false (show ¬ 97 ≤ (s.data.getD i 0).toNat by omega)]; rfl), Bool.and_false] at hK
      exact hK
    rw [vindex_str str_string (by omega) (by omega), Int.toNat_natCast]
    simp only [push_cast]
    refine vif_dec (fun c => ?_) (fun c => ?_)
    · rw [hno hlt (by rw [decide_eq_false (show ¬ (s.data.getD i 0).toNat ≤ 122 by omega)]; simp), Bool.and_false] at hK
      exact hK
    rw [inc64' (by omega)]
    refine hC hlt _ _ ⟨rfl, rfl, fun j hj => ?_⟩
    by_cases e : j = i
    · subst e
      simp only [Bool.and_eq_true, decide_eq_true_eq]; omega
    · exact hall j (by omega)
  · have hi' : i = s.size := by omega
    have hl : lower s = true := by
      unfold lower
      rw [Array.all_eq_true_iff_forall_mem]
      intro x hx
      obtain ⟨j, hj, rfl⟩ := Array.getElem_of_mem hx
      have := hall j (by have : s.data.size = s.size := rfl; omega)
      rwa [Array.getD_eq_getD_getElem?, Array.getElem?_eq_getElem hj] at this
    rw [hl, Bool.and_true] at hK
    try simp (disch := first | (simp only [push_cast]; done) | omega) only [push_cast, vlen_str str_string]
    refine vif_dec (fun b => ?_) (fun b => ?_)
    · refine vif_dec (fun c => ?_) (fun c => ?_)
      · rw [decide_eq_true (show 1 ≤ s.size by omega), decide_eq_true (show s.size ≤ 4 by omega)] at hK
        exact hK
      · rw [decide_eq_false (show ¬ s.size ≤ 4 by omega)] at hK
        simpa using hK
    · rw [decide_eq_false (show ¬ 1 ≤ s.size by omega)] at hK
      simpa using hK
theorem l2Find_spec {v : Value} {ds : List M.Dcl} {s : ByteArray} (hd : DclsR F w v ds) (hK : K (.int .i64 (M.findD ds s)) w) : vcall PP n_spec_l2Find #[v, .string s] w K := by
  apply c_spec_l2Find; unfold F_spec_l2Find
  have hsm := hd.small
  refine vloop_up ds.length (fun i u w' => u = [.int .i64 i] ∧ w' = w ∧ ∀ j, j < i → (ds.getD j dcl0).1 ≠ s) ⟨rfl, rfl, by omega⟩ ?_
  rintro i _ _ w1 C hi ⟨rfl, rfl, hall⟩ hC
  simp (disch := (simp only [push_cast]; done)) only [push_cast, hd.len]
  refine vif_dec (fun a => ?_) (fun a => ?_)
  · try simp (disch := first | (simp only [push_cast]; done) | omega) only [push_cast, hd.iaddr]
    try simp (disch := first | (simp only [push_cast]; done) | omega) only [push_cast, hd.load0]
    refine vif_dec (fun b => ?_) (fun b => ?_)
    · rw [M.findD_of (by omega) b hall] at hK
      exact hK
    · rw [inc64' (by omega)]
      refine hC (by omega) _ _ ⟨rfl, rfl, fun j hj => ?_⟩
      by_cases e : j = i
      · subst e; exact b
      · exact hall j (by omega)
  · rw [M.findD_none (fun j hj => hall j (by omega))] at hK
    exact hK
theorem spec_DeclOk_spec {v : Value} {ds : List M.Dcl} (hd : DclsR F w v ds) (hsz : ∀ i, i < ds.length → (ds.getD i dcl0).1.size ≤ 9223372036854775807) (hK : ∀ w', Ext w w' → K (.bool (M.declOk ds)) w') : vcall PP n_spec_DeclOk #[v] w K := by
  apply c_spec_DeclOk; unfold F_spec_DeclOk
  simp (disch := (simp only [push_cast]; done)) only [push_cast, hd.len]
  refine vif_dec (fun a => ?_) (fun a => ?_)
  · have := hK w (Same.refl _ _)
    rwa [show M.declOk ds = false from by rw [Bool.eq_false_iff]; intro h; have := (M.decl_iff.1 h).1; omega] at this
  refine vloop_up ds.length (fun i u w' => u = [.int .i64 (M.bitT ds i), .int .i64 i] ∧ Ext w w' ∧ (∀ j, j < i → M.dclOk ds j = true) ∧ -4 * (i : Int) ≤ M.bitT ds i ∧ M.bitT ds i ≤ 4 * i) ⟨rfl, Same.refl _ _, by omega, by simp [M.bitT], by simp [M.bitT]⟩ ?_
  rintro i _ _ w1 C hi ⟨rfl, he1, hall, hb1, hb2⟩ hC
  have hd1 := hd.ext he1
  simp (disch := (simp only [push_cast]; done)) only [push_cast, hd1.len]
  refine vif_dec (fun b => ?_) (fun b => ?_)
  · have hil : i < ds.length := by omega
    have hno : M.dclOk ds i = false → ∀ w', Ext w w' → K (.bool false) w' := fun e w' he => by
      have := hK w' he
      rwa [show M.declOk ds = false from by rw [Bool.eq_false_iff]; intro h; have := (M.decl_iff.1 h).2.1 i hil; rw [e] at this; cases this] at this
    unfold M.dclOk at hno
    refine vdraw_ext fun w2 he2 _ => ?_
    have hd2 := hd1.ext he2
    have hE2 := he1.trans he2
    simp (disch := first | (simp only [push_cast]; done) | omega) only [push_cast, hd2.iaddr, true_and]
    simp (disch := first | (simp only [push_cast]; done) | omega) only [push_cast, hd2.load0, hd2.load1, true_and]
    have hsi := hsz i hil
    have hsuc := M.bitT_succ hil
    obtain ⟨s, n, hsn⟩ : ∃ s n, ds.getD i dcl0 = (s, n) := ⟨_, _, rfl⟩
    rw [show ds.getD i (M.nada, 0) = (s, n) from hsn] at hsuc
    simp only [hsn] at hno hsi ⊢
    refine l2Name_spec hsi ?_
    simp only [push_cast, true_and]
    refine vif_bool (fun c => ?_) (fun c => ?_)
    · exact hno (by rw [show M.nameOk s = false by simpa using c]; simp) _ hE2
    rw [Bool.not_eq_false'] at c
    rw [c] at hno
    have ecut : ∀ (w : World) (K : Value → World → Prop), vslice PP T_Limpl_Decl v none (some (.int .i64 (i : Int))) none w K = K (cutV v i) w := fun w K => hd2.cut (by intro e; subst e; simp at hil) (by kernel_rfl) (by omega)
    have el0 : ∀ (K : Value → World → Prop), vload PP T_string (.pointer (some ((eaddr v 2 i).add 0))) w2 K = K (.string s) w2 := fun K => by rw [hd2.load0 o_string hil, hsn]
    have el1 : ∀ (K : Value → World → Prop), vload PP T_int (.pointer (some ((eaddr v 2 i).add 1))) w2 K = K (.int .i64 n) w2 := fun K => by rw [hd2.load1 o_int hil, hsn]
    try simp (disch := first | (simp only [push_cast]; done) | omega) only [push_cast, hd2.iaddr, true_and]
    try simp (disch := first | (simp only [push_cast]; done) | omega) only [push_cast, hd2.iaddr, el0, el1, ecut, true_and]
    refine vif_dec (fun c1 => ?_) (fun c1 => ?_)
    · exact hno (by rw [decide_eq_false (show ¬ 1 ≤ n by omega)]; simp) _ hE2
    refine vif_dec (fun c2 => ?_) (fun c2 => ?_)
    · exact hno (by rw [decide_eq_false (show ¬ n ≤ 4 by omega)]; simp) _ hE2
    refine l2Find_spec (hd2.taken (by omega)) ?_
    simp only [push_cast, true_and]
    refine vif_dec (fun c3 => ?_) (fun c3 => ?_)
    · exact hno (by rw [decide_eq_false (show ¬ M.findD (ds.take i) s < 0 by omega)]; simp) _ hE2
    try simp (disch := first | (simp only [push_cast]; done) | omega) only [push_cast, hd2.iaddr]
    try simp (disch := first | (simp only [push_cast]; done) | omega) only [push_cast, el1]
    rw [wrap64 (x := M.bitT ds i + n) (by omega) (by omega), inc64' (by omega), show M.bitT ds i + n = M.bitT ds (i + 1) from hsuc.symm]
    refine hC (by omega) _ _ ⟨rfl, hE2, fun j hj => ?_, by omega, by omega⟩
    by_cases e : j = i
    · subst e
      unfold M.dclOk
      rw [show ds.getD j (M.nada, 0) = (s, n) from hsn, c]
      simp only [Bool.true_and, Bool.and_eq_true, decide_eq_true_eq]
      exact ⟨⟨by omega, by omega⟩, by omega⟩
    · exact hall j (by omega)
  · have hi' : i = ds.length := by omega
    subst hi'
    have := hK w1 he1
    rw [M.bitT_all]
    have e : M.declOk ds = decide (M.bits ds ≤ 8) := by
      rw [Bool.eq_iff_iff, M.decl_iff, decide_eq_true_eq]
      exact ⟨fun h => h.2.2, fun h => ⟨by omega, hall, h⟩⟩
    rwa [e] at this
theorem spec_EnvOk_spec {v ev : Value} {ds : List M.Dcl} {env : List Int} (hd : DclsR F w v ds) (hsz : ∀ i, i < ds.length → (ds.getD i dcl0).1.size ≤ 9223372036854775807) (hx : Ints G w ev env) (hK : ∀ w', Ext w w' → K (.bool (M.envOk ds env)) w') : vcall PP n_spec_EnvOk #[v, ev] w K := by
  apply c_spec_EnvOk; unfold F_spec_EnvOk
  have hsm := hd.small
  refine vjoin_of (fun u w' => u = [] ∧ Ext w w' ∧ M.declOk ds = true ∧ env.length = ds.length) (fun C hC => ?_) ?_
  · refine spec_DeclOk_spec hd hsz fun w1 he1 => ?_
    have hd1 := hd.ext he1
    have hx1 := hx.ext he1
    have hk := hK w1 he1
    unfold M.envOk at hk
    simp only [push_cast]
    refine vif_bool (fun a => ?_) (fun a => ?_)
    · rw [show M.declOk ds = false by simpa using a] at hk
      exact hk
    · rw [Bool.not_eq_false'] at a
      simp (disch := (simp only [push_cast]; done)) only [push_cast, hx1.len, hd1.len]
      refine vif_dec (fun b => ?_) (fun b => ?_)
      · rw [a, decide_eq_false (show ¬ env.length = ds.length by omega)] at hk
        exact hk
      · exact hC _ _ ⟨rfl, he1, a, by omega⟩
  · rintro u g w1 ⟨rfl, he1, hok, hl⟩
    refine vloop_up ds.length (fun i u w' => u = [.int .i64 i] ∧ Ext w w' ∧ ∀ j, j < i → M.vok (ds.getD j dcl0).2 (env.getD j 0) = true) ⟨rfl, he1, by omega⟩ ?_
    rintro i _ _ w2 C hi ⟨rfl, he2, hall⟩ hC
    have hd2 := hd.ext he2
    simp (disch := (simp only [push_cast]; done)) only [push_cast, hd2.len]
    refine vif_dec (fun a => ?_) (fun a => ?_)
    · refine vdraw_ext fun w3 he3 _ => ?_
      have hd3 := hd2.ext he3
      have hx3 := (hx.ext he2).ext he3
      simp (disch := first | (simp only [push_cast]; done) | omega) only [push_cast, hx3.iaddr, hx3.load, hd3.iaddr, true_and]
      try simp (disch := first | (simp only [push_cast]; done) | omega) only [push_cast, hd3.load1, true_and]
      refine spec_VecOk_spec fun w4 he4 => ?_
      simp only [push_cast, true_and]
      refine vif_bool (fun b => ?_) (fun b => ?_)
      · have hk := hK w4 ((he2.trans he3).trans he4)
        rwa [show M.envOk ds env = false from by
          rw [Bool.eq_false_iff]; intro h
          have := (M.env_ok h).2.2 i (by omega)
          rw [this] at b; cases b] at hk
      · rw [inc64' (by omega)]
        refine hC (by omega) _ _ ⟨rfl, (he2.trans he3).trans he4, fun j hj => ?_⟩
        by_cases e : j = i
        · subst e; simpa using b
        · exact hall j (by omega)
    · have hk := hK w2 he2
      rwa [show M.envOk ds env = true from by
        simp only [M.envOk, Bool.and_eq_true, List.all_eq_true, List.mem_range, decide_eq_true_eq]
        exact ⟨⟨hok, hl⟩, fun j hj => hall j (by omega)⟩] at hk
theorem spec_TermMany_spec : ∀ (t : M.Tm) {w : World} {K : Value → World → Prop} {F : Nat → Prop} {v : Value}, TermR F w v t → (∀ w', Ext w w' → K (.tuple #[.int .i64 (M.manyM t), .int .i64 (M.lvlM t)]) w') → vcall PP n_spec_TermMany #[v] w K := by
  refine M.Tm.ind fun t ih w K F v ht hK => ?_
  apply c_spec_TermMany; unfold F_spec_TermMany
  obtain ⟨ksv, rfl, hks⟩ := ht
  refine vbox_agg fun b1 w1 hb1 he1 hs1 h1 => ?_
  have hsm := hks.small
  have hS := M.szT_all t
  have hD := M.dpT_all t
  have hfit : M.fits t = true ↔ M.sizeM t ≤ 20 ∧ M.deepM t ≤ 7 := M.fits_iff
  refine vloop_up t.ks.length (fun i u w' => ∃ n d : Nat, u = [.int .i64 n, .int .i64 d, .int .i64 i] ∧ Ext w1 w' ∧ n ≤ 41 ∧ d ≤ 8 ∧ (1 + M.szT t.ks i ≤ 20 ∧ M.dpT t.ks i ≤ 7 → n = 1 + M.szT t.ks i ∧ d = M.dpT t.ks i) ∧ (¬ (1 + M.szT t.ks i ≤ 20 ∧ M.dpT t.ks i ≤ 7) → 20 < n ∨ 7 < d))
    ⟨1, 0, rfl, Same.refl _ _, by omega, by omega, fun h => ⟨rfl, rfl⟩, fun h => by
      have e1 : M.szT t.ks 0 = 0 := rfl
      have e2 : M.dpT t.ks 0 = 0 := rfl
      omega⟩ ?_
  rintro i _ _ w2 C hi ⟨n, d, rfl, he2, c1, c2, c3, c4⟩ hC
  have h2 := h1.ext he2
  have hE := he1.trans he2
  have hks2 := hks.ext hE
  have hm1 := M.szT_mono (ks := t.ks) (i := i) (j := t.ks.length) (by omega) (Nat.le_refl _)
  have hm2 := M.dpT_mono (ks := t.ks) (i := i) (j := t.ks.length) (by omega) (Nat.le_refl _)
  have e1 : IntKind.i64.wrap ((d : Int) + 1) = ((d + 1 : Nat) : Int) := inc64' (by omega)
  have hfin : (20 < n ∨ i = t.ks.length) → ∀ K', (K' = K) → vif (.bool (decide ((20 : Int) < n))) (K' (.tuple #[.int .i64 21, .int .i64 8]) w2) (vif (.bool (decide ((7 : Int) < ((d + 1 : Nat) : Int)))) (K' (.tuple #[.int .i64 21, .int .i64 8]) w2) (K' (.tuple #[.int .i64 (n : Int), .int .i64 ((d + 1 : Nat) : Int)]) w2)) := by
    rintro hor K' rfl
    have hk := hK w2 hE
    unfold M.manyM M.lvlM at hk
    have hbad : (20 < n ∨ 7 < d + 1) → ¬ (M.fits t = true) := fun h hf => by
      have hx := hfit.1 hf
      have := c3 (by omega)
      omega
    refine vif_dec (fun a => ?_) (fun a => ?_)
    · rw [if_neg (hbad (by omega)), if_neg (hbad (by omega))] at hk
      exact hk
    refine vif_dec (fun b => ?_) (fun b => ?_)
    · rw [if_neg (hbad (by omega)), if_neg (hbad (by omega))] at hk
      exact hk
    · have hi' : i = t.ks.length := by omega
      subst hi'
      have hg : M.sizeM t ≤ 20 ∧ M.deepM t ≤ 7 := by
        by_cases h : 1 + M.szT t.ks t.ks.length ≤ 20 ∧ M.dpT t.ks t.ks.length ≤ 7
        · have := c3 h; omega
        · have := c4 h; omega
      have h3 := c3 (by omega)
      rw [if_pos (hfit.2 hg), if_pos (hfit.2 hg)] at hk
      rw [show n = M.sizeM t by omega, show d + 1 = M.deepM t by omega]
      exact hk
  refine vjoin_of (fun u w' => u = [] ∧ w' = w2 ∧ i < t.ks.length ∧ n ≤ 20) (fun C' hC' => ?_) ?_
  · simp (disch := (simp only [push_cast]; done)) only [push_cast, h2.ld4, hks2.len, e1]
    refine vif_dec (fun a => ?_) (fun a => ?_)
    · refine vif_dec (fun b => ?_) (fun b => ?_)
      · exact hC' _ _ ⟨rfl, rfl, by omega, by omega⟩
      · exact hfin (.inl (by omega)) K rfl
    · exact hfin (.inr (by omega)) K rfl
  · rintro u g w3 ⟨rfl, rfl, hlt, hn⟩
    have hm3 := M.szT_succ (ks := t.ks) (i := i) (by omega)
    have hm4 := M.dpT_succ (ks := t.ks) (i := i) (by omega)
    have hm5 := M.szT_mono (ks := t.ks) (i := i + 1) (j := t.ks.length) (by omega) (Nat.le_refl _)
    simp (disch := first | (simp only [push_cast]; done) | omega) only [push_cast, h2.ld4, hks2.iaddr]
    refine hks2.load g_impl_Term (by omega) fun x hx => ?_
    refine ih _ (M.getD_mem (by omega) _) hx fun w4 he4 => ?_
    have hfk := M.fits_iff (t := t.ks.getD i default)
    have hn2 : M.manyM (t.ks.getD i default) ≤ 21 := by
      unfold M.manyM
      split
      · have := hfk.1 (by assumption); omega
      · omega
    have hd2 : M.lvlM (t.ks.getD i default) ≤ 8 := by
      unfold M.lvlM
      split
      · have := hfk.1 (by assumption); omega
      · omega
    have hgood : M.sizeM (t.ks.getD i default) ≤ 20 ∧ M.deepM (t.ks.getD i default) ≤ 7 → M.manyM (t.ks.getD i default) = M.sizeM (t.ks.getD i default) ∧ M.lvlM (t.ks.getD i default) = M.deepM (t.ks.getD i default) := fun h => by
      unfold M.manyM M.lvlM
      rw [if_pos (hfk.2 h), if_pos (hfk.2 h)]
      exact ⟨rfl, rfl⟩
    have hbad : ¬ (M.sizeM (t.ks.getD i default) ≤ 20 ∧ M.deepM (t.ks.getD i default) ≤ 7) → M.manyM (t.ks.getD i default) = 21 ∧ M.lvlM (t.ks.getD i default) = 8 := fun h => by
      unfold M.manyM M.lvlM
      rw [if_neg (fun x => h (hfk.1 x)), if_neg (fun x => h (hfk.1 x))]
      exact ⟨rfl, rfl⟩
    generalize M.manyM (t.ks.getD i default) = nk at hn2 hgood hbad ⊢
    generalize M.lvlM (t.ks.getD i default) = dk at hd2 hgood hbad ⊢
    simp only [push_cast]
    refine l1Max_spec ?_
    try simp only [push_cast]
    rw [inc64' (by omega), wrap64 (x := (n : Int) + nk) (by omega) (by omega), show (n : Int) + (nk : Int) = ((n + nk : Nat) : Int) by omega, show max (d : Int) (dk : Int) = ((max d dk : Nat) : Int) by omega]
    refine hC (by omega) _ _ ⟨n + nk, max d dk, rfl, he2.trans he4, by omega, by omega, fun h => ?_, fun h => ?_⟩
    · have := c3 (by omega)
      have := hgood (by omega)
      omega
    · by_cases hg : M.sizeM (t.ks.getD i default) ≤ 20 ∧ M.deepM (t.ks.getD i default) ≤ 7
      · have h5 := hgood hg
        by_cases hg2 : 1 + M.szT t.ks i ≤ 20 ∧ M.dpT t.ks i ≤ 7
        · have := c3 hg2; omega
        · have := c4 hg2; omega
      · have := hbad hg; omega
end Go.Proofs.YtbiabimalkkeiaaGreatDoor
