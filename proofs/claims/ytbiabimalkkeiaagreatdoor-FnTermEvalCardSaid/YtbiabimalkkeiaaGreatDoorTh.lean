/- Contracts of the program's terms: declarations, environments, sorts and values. -/
import Derived.Test.YtbiabimalkkeiaaGreatDoorTg
import Derived.Test.YtbiabimalkkeiaaGreatDoorSh
set_option linter.unusedVariables false
set_option linter.unusedSimpArgs false
set_option linter.unnecessarySimpa false
set_option linter.unusedSectionVars false
namespace Go.Proofs.YtbiabimalkkeiaaGreatDoor
open Go Go.Vc Go.Proofs
variable {w : World} {K : Value → World → Prop} {F G : Nat → Prop}

theorem dw_nil {α : Type} {p : α → Bool} : ∀ {l : List α}, l.dropWhile p = [] ↔ ∀ x, x ∈ l → p x = true
  | [] => by simp
  | a :: l => by
    rw [List.dropWhile_cons]
    split
    · rename_i h
      rw [dw_nil]
      constructor
      · intro hl x hx
        rcases List.mem_cons.1 hx with rfl | hx
        · exact h
        · exact hl x hx
      · intro hl x hx; exact hl x (List.mem_cons_of_mem _ hx)
    · rename_i h
      constructor
      · intro hl; cases hl
      · intro hl; exact absurd (hl a List.mem_cons_self) h
theorem dw_head {α : Type} {p : α → Bool} : ∀ {l : List α}, l.dropWhile p ≠ [] → ∃ x, x ∈ l.dropWhile p ∧ p x = false
  | [], h => absurd rfl h
  | a :: l, h => by
    rw [List.dropWhile_cons] at h ⊢
    split
    · rename_i hp
      rw [if_pos hp] at h
      exact dw_head h
    · rename_i hp
      exact ⟨a, List.mem_cons_self, by simpa using hp⟩
theorem dw_sub {α : Type} {p : α → Bool} : ∀ {l : List α} {x : α}, x ∈ l.dropWhile p → x ∈ l
  | [], _, h => h
  | a :: l, x, h => by
    rw [List.dropWhile_cons] at h
    split at h
    · exact List.mem_cons_of_mem _ (dw_sub h)
    · exact h
theorem trim_nil {l cs : List UInt8} : Lib.trimS l cs = [] ↔ ∀ x, x ∈ l → cs.contains x = true := by
  unfold Lib.trimS Lib.trimLeftS Lib.trimRightS
  rw [dw_nil]
  constructor
  · intro h
    by_cases hall : ∀ x, x ∈ l → cs.contains x = true
    · exact hall
    · exfalso
      have hne : List.dropWhile (fun x => cs.contains x) l.reverse ≠ [] := fun e => hall fun x hx => dw_nil.1 e x (List.mem_reverse.2 hx)
      obtain ⟨y, hy, hp⟩ := dw_head hne
      have h2 := h y (List.mem_reverse.2 hy)
      rw [hp] at h2; cases h2
  · intro h x hx
    exact h x (List.mem_reverse.1 (dw_sub (List.mem_reverse.1 hx)))
def abc : ByteArray := ⟨#[97, 98, 99, 100, 101, 102, 103, 104, 105, 106, 107, 108, 109, 110, 111, 112, 113, 114, 115, 116, 117, 118, 119, 120, 121, 122]⟩
theorem abc_in (x : UInt8) : abc.data.toList.contains x = (decide (97 ≤ x.toNat) && decide (x.toNat ≤ 122)) := by
  have hall : ∀ n : Fin 256, abc.data.toList.contains (UInt8.ofNat n.1) = (decide (97 ≤ (UInt8.ofNat n.1).toNat) && decide ((UInt8.ofNat n.1).toNat ≤ 122)) := by decide +kernel
  have := hall ⟨x.toNat, x.toNat_lt⟩
  simpa using this
theorem below_ext {w w' : World} (h : Go.RowKit.Below w.heap.size w w') : Ext w w' := ⟨h.os, h.tape, h.output, h.size, fun b hb _ => h.block b hb⟩
/-- A name of small letters is trimmed away. -/
def lower (s : ByteArray) : Bool := s.data.all fun c => decide (97 ≤ c.toNat) && decide (c.toNat ≤ 122)
theorem Trim_spec {s : ByteArray} (hs : s.size ≤ 9223372036854775807) (hK : ∀ w' r, Ext w w' → (r = ⟨#[]⟩ ↔ lower s = true) → K (.string r) w') : vcall PP n_strings_Trim #[.string s, .string abc] w K := by
  refine ⟨by kernel_rfl, ?_⟩
  refine (Any.strings_Trim_laid YtbiabimalkkeiaaGreatDoor.trimL (by kernel_rfl) s abc w hs (by decide) (ascii_of_all (by decide))).mono ?_
  rintro e w' ⟨rfl, hb⟩
  refine hK w' _ (below_ext hb) ?_
  have e1 : ((⟨(Lib.trimS s.data.toList abc.data.toList).toArray⟩ : ByteArray) = ⟨#[]⟩) ↔ Lib.trimS s.data.toList abc.data.toList = [] := by
    constructor
    · intro h
      have h2 := congrArg (fun b : ByteArray => b.data.toList) h
      simpa using h2
    · intro h; rw [h]
  rw [e1, trim_nil]
  unfold lower
  rw [Array.all_eq_true_iff_forall_mem]
  constructor
  · intro h x hx
    rw [← abc_in]; exact h x (Array.mem_toList_iff.2 hx)
  · intro h x hx
    rw [abc_in]; exact h x (Array.mem_toList_iff.1 hx)
theorem stDecl {b : Nat} {x y : Value} {t : TypeId} {s : ByteArray} {n : Int} (h : Blk w b [x, y] t) (hK : ∀ w', Same (· = b) w w' → w'.heap.size = w.heap.size → Blk w' b [.string s, .int .i64 n] t → K undef w') : vstore PP T_impl_Decl (.pointer (some ⟨b, 0, none⟩)) (.agg ⟨[.string s, .int .i64 n]⟩) w K :=
  h.stAgg rfl (by kernel_rfl) (by intro v hv; simp only [List.mem_cons, List.not_mem_nil, or_false] at hv; rcases hv with rfl | rfl <;> rfl) hK
theorem nameOk_eq (s : ByteArray) : M.nameOk s = (decide (1 ≤ s.size) && decide (s.size ≤ 4) && decide (s ≠ M.tru) && lower s) := rfl
theorem DeclOk_spec {v : Value} {ds : List M.Dcl} (hd : DclsR F w v ds) (hK : ∀ w', Ext w w' → K (.bool (M.declOk ds)) w') : vcall PP n_impl_DeclOk #[v] w K := by
  apply c_impl_DeclOk; unfold F_impl_DeclOk
  simp (disch := (simp only [push_cast]; done)) only [push_cast, hd.len]
  refine vif_dec (fun a => ?_) (fun a => ?_)
  · have := hK w (Same.refl _ _)
    rwa [show M.declOk ds = false from by rw [Bool.eq_false_iff]; intro h; have := (M.decl_iff.1 h).1; omega] at this
  refine vloop_up ds.length (fun i u w' => u = [.int .i64 (M.bitT ds i), .int .i64 i] ∧ Ext w w' ∧ (∀ j, j < i → M.dclOk ds j = true) ∧ -4 * (i : Int) ≤ M.bitT ds i ∧ M.bitT ds i ≤ 4 * i) ⟨rfl, Same.refl _ _, by omega, by simp [M.bitT], by simp [M.bitT]⟩ ?_
  rintro i _ _ w1 C hi ⟨rfl, he1, hall, hb1, hb2⟩ hC
  have hd1 := hd.ext he1
  simp only [push_cast]
  refine vif_dec (fun b => ?_) (fun b => ?_)
  · have hil : i < ds.length := by omega
    have hno : M.dclOk ds i = false → ∀ w', Ext w w' → K (.bool false) w' := fun e w' he => by
      have := hK w' he
      rwa [show M.declOk ds = false from by rw [Bool.eq_false_iff]; intro h; have := (M.decl_iff.1 h).2.1 i hil; rw [e] at this; cases this] at this
    unfold M.dclOk at hno
    rw [nameOk_eq] at hno
    simp (disch := first | (simp only [push_cast]; done) | omega) only [push_cast, hd1.iaddr, hd1.load]
    obtain ⟨s, n, hsn⟩ : ∃ s n, ds.getD i dcl0 = (s, n) := ⟨_, _, rfl⟩
    simp only [hsn] at hno ⊢
    refine valloc_agg zr_impl_Decl fun b1 w2 hb1' he2 hs2 h2 => ?_
    refine stDecl h2 fun w3 hw3 _ h3 => ?_
    have hz1 := he1.size
    have he3 : Ext w w3 := Ext.then (he1.trans he2) hw3 fun y hy => by subst hy; omega
    refine vjoin_of (fun u w' => u = [] ∧ Ext w3 w' ∧ M.nameOk s = true) (fun C' hC' => ?_) ?_
    · simp (disch := first | (simp only [push_cast]; done) | omega) only [push_cast, h3.ld0, vlen_str str_string]
      refine vif_dec (fun c => ?_) (fun c => ?_)
      · exact hno (by rw [decide_eq_false (show ¬ 1 ≤ s.size by omega)]; simp) _ he3
      refine vif_dec (fun c2 => ?_) (fun c2 => ?_)
      · exact hno (by rw [decide_eq_false (show ¬ s.size ≤ 4 by omega)]; simp) _ he3
      refine vif_dec (fun c3 => ?_) (fun c3 => ?_)
      · exact hno (by rw [show decide (s ≠ M.tru) = false from decide_eq_false (fun h => h c3)]; simp) _ he3
      refine Trim_spec (by omega) fun w4 r he4 hr => ?_
      simp only [push_cast]
      refine vif_dec (fun c4 => ?_) (fun c4 => ?_)
      · have : lower s = false := by
          rw [Bool.eq_false_iff]; exact fun h => c4 (hr.2 h)
        exact hno (by rw [this]; simp) _ (he3.trans he4)
      · have c4' : r = ⟨#[]⟩ := by
          by_cases h : r = ⟨#[]⟩
          · exact h
          · exact absurd h c4
        refine hC' _ _ ⟨rfl, he4, ?_⟩
        rw [nameOk_eq, decide_eq_true (show 1 ≤ s.size by omega), decide_eq_true (show s.size ≤ 4 by omega), show decide (s ≠ M.tru) = true from decide_eq_true c3, hr.1 c4']
        rfl
    · rintro u g w4 ⟨rfl, he4, hnm⟩
      have h4 := h3.ext he4
      have hE4 := he3.trans he4
      have hd4 := hd.ext hE4
      rw [nameOk_eq] at hnm
      rw [hnm] at hno
      rw [hd4.cut (by intro e; subst e; simp at hil) (by kernel_rfl) (by omega)]
      simp only [push_cast]
      have hlt : (ds.take i).length = i := by rw [List.length_take]; omega
      refine ContainsFunc_Decl (p := fun j => decide (((ds.take i).getD j dcl0).1 = s)) (hd4.taken (by omega)) (fun j hj => ?_) fun w5 he5 => ?_
      · intro w' K he hK
        simp only [push_cast]
        apply c_impl_DeclOk_1; unfold F_impl_DeclOk_1
        refine vbox_agg fun b3 w6 hb3 he6 hs6 h6 => ?_
        have h7 := (h4.ext he).ext he6
        simp (disch := first | (simp only [push_cast]; done) | omega) only [push_cast, h6.ld0, h7.ld0]
        exact hK _ he6
      · rw [← idxI_nonneg]
        have h5 := h4.ext he5
        have efd : idxI (ds.take i).length (fun j => decide (((ds.take i).getD j dcl0).1 = s)) = M.findD (ds.take i) s := rfl
        rw [efd]
        refine vif_dec (fun c => ?_) (fun c => ?_)
        · exact hno (by rw [decide_eq_false (show ¬ M.findD (ds.take i) s < 0 by omega)]; simp) _ (hE4.trans he5)
        simp (disch := first | (simp only [push_cast]; done) | omega) only [push_cast, h5.ld1]
        refine vif_dec (fun c1 => ?_) (fun c1 => ?_)
        · exact hno (by rw [decide_eq_false (show ¬ 1 ≤ n by omega)]; simp) _ (hE4.trans he5)
        refine vif_dec (fun c2 => ?_) (fun c2 => ?_)
        · exact hno (by rw [decide_eq_false (show ¬ n ≤ 4 by omega)]; simp) _ (hE4.trans he5)
        have hsuc := M.bitT_succ hil
        rw [show ds.getD i (M.nada, 0) = (s, n) from hsn] at hsuc
        rw [wrap64 (x := M.bitT ds i + n) (by omega) (by omega), inc64' (by omega), show M.bitT ds i + n = M.bitT ds (i + 1) from hsuc.symm]
        refine hC (by omega) _ _ ⟨rfl, hE4.trans he5, fun j hj => ?_, by omega, by omega⟩
        by_cases e : j = i
        · subst e
          unfold M.dclOk
          rw [show ds.getD j (M.nada, 0) = (s, n) from hsn, nameOk_eq, hnm]
          simp only [Bool.true_and, Bool.and_eq_true, decide_eq_true_eq]
          exact ⟨⟨by omega, by omega⟩, by omega⟩
        · exact hall j (by omega)
  · have hi' : i = ds.length := by omega
    subst hi'
    have := hK w1 he1
    rw [M.bitT_all]
    have e : M.declOk ds = decide (M.bits ds ≤ 8) := by
      rw [Bool.eq_iff_iff, M.decl_iff, decide_eq_true_eq]
      exact ⟨fun h => h.2.2, fun h => ⟨by omega, hall, h⟩⟩
    rwa [e] at this
theorem EnvOk_spec {v ev : Value} {ds : List M.Dcl} {env : List Int} (hd : DclsR F w v ds) (hx : Ints G w ev env) (hK : ∀ w', Ext w w' → K (.bool (M.envOk ds env)) w') : vcall PP n_impl_EnvOk #[v, ev] w K := by
  apply c_impl_EnvOk; unfold F_impl_EnvOk
  have hsm := hd.small
  refine vjoin_of (fun u w' => u = [] ∧ Ext w w' ∧ M.declOk ds = true ∧ env.length = ds.length) (fun C hC => ?_) ?_
  · refine DeclOk_spec hd fun w1 he1 => ?_
    have hd1 := hd.ext he1
    have hx1 := hx.ext he1
    have hk := hK w1 he1
    unfold M.envOk at hk
    simp only [push_cast]
    refine vif_bool (fun a => ?_) (fun a => ?_)
    · rw [show M.declOk ds = false by simpa using a] at hk
      exact hk
    · rw [Bool.not_eq_false'] at a
      simp (disch := (simp only [push_cast]; done)) only [push_cast, hx1.len, hd1.len]
      refine vif_dec (fun b => ?_) (fun b => ?_)
      · rw [a, decide_eq_false (show ¬ env.length = ds.length by omega)] at hk
        exact hk
      · exact hC _ _ ⟨rfl, he1, a, by omega⟩
  · rintro u g w1 ⟨rfl, he1, hok, hl⟩
    have hx1 := hx.ext he1
    simp (disch := (simp only [push_cast]; done)) only [push_cast, hx1.len]
    refine vloop_up env.length (fun i u w' => u = [.int .i64 i] ∧ Ext w w' ∧ ∀ j, j < i → M.vok (ds.getD j dcl0).2 (env.getD j 0) = true) ⟨rfl, he1, by omega⟩ ?_
    rintro i _ _ w2 C hi ⟨rfl, he2, hall⟩ hC
    have hd2 := hd.ext he2
    have hx2 := hx.ext he2
    simp only [push_cast]
    refine vif_dec (fun a => ?_) (fun a => ?_)
    · simp (disch := first | (simp only [push_cast]; done) | omega) only [push_cast, hx2.iaddr, hx2.load, hd2.iaddr]
      try simp (disch := first | (simp only [push_cast]; done) | omega) only [push_cast, hd2.load1]
      refine VecOk_spec fun w3 he3 => ?_
      simp only [push_cast]
      refine vif_bool (fun b => ?_) (fun b => ?_)
      · have hk := hK w3 (he2.trans he3)
        rwa [show M.envOk ds env = false from by
          rw [Bool.eq_false_iff]; intro h
          have := (M.env_ok h).2.2 i (by omega)
          rw [this] at b; cases b] at hk
      · rw [inc64' (by omega)]
        refine hC (by omega) _ _ ⟨rfl, he2.trans he3, fun j hj => ?_⟩
        by_cases e : j = i
        · subst e; simpa using b
        · exact hall j (by omega)
    · have hk := hK w2 he2
      rwa [show M.envOk ds env = true from by
        simp only [M.envOk, Bool.and_eq_true, List.all_eq_true, List.mem_range, decide_eq_true_eq]
        exact ⟨⟨hok, hl⟩, fun j hj => hall j (by omega)⟩] at hk
theorem envMap_spec {v ev : Value} {ds : List M.Dcl} {env : List Int} (hd : DclsR F w v ds) (hx : Ints G w ev env) (hok : M.envOk ds env = true) (hK : ∀ w' b, Ext w w' → EnvM w' b ds env → K (.map (some b)) w') : vcall PP n_impl_envMap #[v, ev] w K := by
  apply c_impl_envMap; unfold F_impl_envMap
  have hsm := hd.small
  obtain ⟨hdk, hl, _⟩ := M.env_ok hok
  refine vmkM_map mapStrInt fun b w1 hb hm he1 hs1 => ?_
  have hd1 := hd.ext he1
  simp (disch := (simp only [push_cast]; done)) only [push_cast, hd1.len]
  refine vloop_up ds.length (fun i u w' => u = [.int .i64 i] ∧ Ext w w' ∧ MapF .string w' b ((List.range i).map fun j => (Value.string (ds.getD j dcl0).1, Value.int .i64 (env.getD j 0)))) ⟨rfl, he1, hm⟩ ?_
  rintro i _ _ w2 C hi ⟨rfl, he2, hm2⟩ hC
  have hd2 := hd.ext he2
  have hz2 := he2.size
  have hml := hm2.lt
  simp only [push_cast]
  refine vif_dec (fun a => ?_) (fun a => ?_)
  · simp (disch := first | (simp only [push_cast]; done) | omega) only [push_cast, hd2.iaddr, hd2.load]
    refine valloc_agg zr_impl_Decl fun b1 w3 hb3 he3 hs3 h3 => ?_
    refine stDecl h3 fun w4 hw4 _ h4 => ?_
    have he4 : Ext w2 w4 := Ext.then he3 hw4 fun y hy => by subst hy; omega
    refine vdraw_ext fun w5 he5 _ => ?_
    have h5 := h4.ext he5
    have hE5 := (he2.trans he4).trans he5
    have hx5 := hx.ext hE5
    have hm5 := (hm2.ext he4).ext he5
    simp (disch := first | (simp only [push_cast]; done) | omega) only [push_cast, h5.ld0, hx5.iaddr, hx5.load, true_and]
    refine vmset_new mapStrInt hm5 (isKey_str _) (fun x hx => ?_) fun w6 hm6 hs6 _ => ?_
    · obtain ⟨j, hj, e⟩ := List.mem_map.1 hx
      injection e with e1 e2
      injection e1 with e1
      exact M.dcl_apart hdk (i := i) (j := j) (by omega) (List.mem_range.1 hj) e1
    · try simp only [push_cast]
      rw [inc64' (by omega)]
      refine hC (by omega) _ _ ⟨rfl, Ext.then hE5 hs6 fun y hy => by subst hy; omega, ?_⟩
      rw [List.range_succ, List.map_append]
      exact hm6
  · have hi' : i = ds.length := by omega
    subst hi'
    refine hK w2 b he2 ⟨_, hm2, fun s hs => ?_⟩
    have hlt := M.findD_lt ds s
    refine List.mem_map.2 ⟨(M.findD ds s).toNat, List.mem_range.2 (by omega), ?_⟩
    rw [show (ds.getD (M.findD ds s).toNat dcl0).1 = s from M.findD_get hs]
theorem TermSort_spec {dv v : Value} {ds : List M.Dcl} {t : M.Tm} (hd : DclsR F w dv ds) (ht : TermR G w v t) (hK : ∀ w', Ext w w' → K (.int .i64 (M.tsort ds t)) w') : vcall PP n_impl_TermSort #[dv, v] w K := by
  apply c_impl_TermSort; unfold F_impl_TermSort
  obtain ⟨cs, rfl, hcs⟩ := ht.cells
  refine vbox_agg fun b1 w1 hb1 he1 hs1 h1 => ?_
  rw [h1.ldAgg (t := T_impl_Term) (by rw [tmR_len hcs]; exact g_impl_Term)]
  refine TermMany_spec (hcs.ext he1).term fun w2 he2 => ?_
  simp only [push_cast]
  have hE2 := he1.trans he2
  refine DeclOk_spec (hd.ext hE2) fun w3 he3 => ?_
  have hE3 := hE2.trans he3
  have hk := hK w3 hE3
  unfold M.tsort at hk
  simp only [push_cast]
  refine vif_bool (fun a => ?_) (fun a => ?_)
  · rwa [if_neg (fun h => by rw [h.2] at a; cases a)] at hk
  · rw [Bool.not_eq_false'] at a
    refine vif_dec (fun b => ?_) (fun b => ?_)
    · rw [if_neg (fun h => by
        have h1 := M.fits_iff.1 h.1
        unfold M.manyM at b
        rw [if_pos h.1] at b; omega)] at hk
      exact hk
    · have hf : M.fits t = true := by
        by_cases h : M.fits t = true
        · exact h
        · unfold M.manyM at b
          rw [if_neg h] at b; omega
      refine vdraw_ext fun w4 he4 _ => ?_
      have h4 := ((h1.ext he2).ext he3).ext he4
      rw [h4.ldAgg (t := T_impl_Term) (by rw [tmR_len hcs]; exact g_impl_Term)]
      refine ⟨rfl, kinds_spec fun w5 mb he5 hm => ?_⟩
      have h5 := h4.ext he5
      rw [h5.ldAgg (t := T_impl_Term) (by rw [tmR_len hcs]; exact g_impl_Term)]
      have hE5 := (hE3.trans he4).trans he5
      refine ⟨⟨rfl, rfl⟩, sortOf_spec t hm (hd.ext hE5) a (hcs.ext hE5).term fun w6 he6 => ?_⟩
      have := hK w6 (hE5.trans he6)
      unfold M.tsort at this
      rwa [if_pos ⟨hf, a⟩] at this
theorem TermEval_spec {dv v ev : Value} {ds : List M.Dcl} {t : M.Tm} {env : List Int} {H : Nat → Prop} (hd : DclsR F w dv ds) (ht : TermR G w v t) (hx : Ints H w ev env) (hK : ∀ w', Ext w w' → K (.tuple #[.int .i64 (M.teval ds t env), .bool (M.tok ds t env)]) w') : vcall PP n_impl_TermEval #[dv, v, ev] w K := by
  apply c_impl_TermEval; unfold F_impl_TermEval
  obtain ⟨cs, rfl, hcs⟩ := ht.cells
  refine vbox_agg fun b1 w1 hb1 he1 hs1 h1 => ?_
  rw [h1.ldAgg (t := T_impl_Term) (by rw [tmR_len hcs]; exact g_impl_Term)]
  refine TermSort_spec (hd.ext he1) (hcs.ext he1).term fun w2 he2 => ?_
  have hE2 := he1.trans he2
  have hno : M.tok ds t env = false → ∀ w', Ext w w' → K (.tuple #[.int .i64 0, .bool false]) w' := fun e w' he => by
    have := hK w' he
    unfold M.teval at this
    rw [e] at this
    exact this
  unfold M.tok at hno
  simp only [push_cast]
  refine vif_dec (fun a => ?_) (fun a => ?_)
  · exact hno (by rw [show decide (M.tsort ds t ≠ -1) = false from decide_eq_false (fun h => h a)]; rfl) _ hE2
  · refine EnvOk_spec (hd.ext hE2) (hx.ext hE2) fun w3 he3 => ?_
    have hE3 := hE2.trans he3
    simp only [push_cast]
    refine vif_bool (fun b => ?_) (fun b => ?_)
    · exact hno (by rw [show M.envOk ds env = false by simpa using b, Bool.and_false]) _ hE3
    · rw [Bool.not_eq_false'] at b
      have ht0 : M.tok ds t env = true := by
        unfold M.tok
        rw [show decide (M.tsort ds t ≠ -1) = true from decide_eq_true a, b]; rfl
      have hsort : M.sortM ds t ≠ -1 := by
        unfold M.tsort at a
        split at a
        · exact a
        · exact absurd rfl a
      have hts : M.tsort ds t = M.sortM ds t := by
        unfold M.tsort at a ⊢
        split at a
        · rename_i h; rw [if_pos h]
        · exact absurd rfl a
      refine vdraw_ext fun w4 he4 _ => ?_
      have h4 := ((h1.ext he2).ext he3).ext he4
      rw [h4.ldAgg (t := T_impl_Term) (by rw [tmR_len hcs]; exact g_impl_Term)]
      refine ⟨rfl, kinds_spec fun w5 mb he5 hm => ?_⟩
      have h5 := h4.ext he5
      rw [h5.ldAgg (t := T_impl_Term) (by rw [tmR_len hcs]; exact g_impl_Term)]
      have hE5 := (hE3.trans he4).trans he5
      refine ⟨⟨rfl, rfl⟩, envMap_spec (hd.ext hE5) (hx.ext hE5) b fun w6 eb he6 hem => ?_⟩
      have h6 := h5.ext he6
      rw [h6.ldAgg (t := T_impl_Term) (by rw [tmR_len hcs]; exact g_impl_Term)]
      have hE6 := hE5.trans he6
      refine ⟨⟨rfl, rfl⟩, valueOf_spec t (hm.ext he6) (hd.ext hE6) b hem (hcs.ext hE6).term hsort fun w7 he7 => ?_⟩
      simp only [push_cast, true_and]
      have := hK w7 (hE6.trans he7)
      unfold M.teval at this
      rw [ht0] at this
      exact this
end Go.Proofs.YtbiabimalkkeiaaGreatDoor
