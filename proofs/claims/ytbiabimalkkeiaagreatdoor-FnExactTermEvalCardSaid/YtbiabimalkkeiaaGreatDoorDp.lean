/- Contracts of the reference's drawing: reading a code byte by byte; clauses that are drawn. -/
import Derived.Test.YtbiabimalkkeiaaGreatDoorTl
set_option linter.unusedVariables false
set_option linter.unusedSimpArgs false
set_option linter.unnecessarySimpa false
set_option linter.unusedSectionVars false
namespace Go.Proofs.YtbiabimalkkeiaaGreatDoor
open Go Go.Vc Go.Proofs
variable {w : World} {K : Value → World → Prop} {F Fr F' : Nat → Prop}
/-- A slice of bytes. -/
def Bytes (F : Nat → Prop) (w : World) (v : Value) (xs : List Nat) : Prop := Vals F w v (xs.map fun x => Value.int .u8 (x : Nat)) ∧ ∀ x, x ∈ xs → x < 256
theorem Bytes.same {S : Nat → Prop} {w' : World} {v : Value} {xs : List Nat} (h : Bytes F w v xs) (hw : Same S w w') (hs : ∀ b, F b → b < w.heap.size → ¬ S b) : Bytes F w' v xs := ⟨h.1.same hw hs, h.2⟩
theorem Bytes.ext {w' : World} {v : Value} {xs : List Nat} (h : Bytes F w v xs) (hw : Ext w w') : Bytes F w' v xs := ⟨h.1.ext hw, h.2⟩
theorem Bytes.load {v : Value} {xs : List Nat} (h : Bytes F w v xs) {e : TypeId} (he : oneB PP e = true) {i : Nat} (hi : i < xs.length) : vload PP e (.pointer (some (eaddr v 1 i))) w K = K (.int .u8 (xs.getD i 0 : Nat)) w := by
  rw [Vals.load h.1 he (by simpa using hi)]
  simp [List.getD_eq_getElem?_getD, hi]
theorem Bytes.len {w' : World} {v : Value} {xs : List Nat} (h : Bytes F w v xs) {t : TypeId} (ht : isSl PP t = true) (ty : TypeId) : vbi PP .len [t] ty [v] w' K = K (.int .i64 xs.length) w' := by
  have := Vals.len (K := K) (w' := w') h.1 ht ty; rwa [List.length_map] at this
theorem Bytes.iaddr {w' : World} {v : Value} {xs : List Nat} (h : Bytes F w v xs) {t : TypeId} (ht : elB PP t 1 = true) {kd : IntKind} {i : Int} (h0 : 0 ≤ i) (h1 : i < xs.length) :
    viaddr PP t v (.int kd i) w' K = K (.pointer (some (eaddr v 1 i.toNat))) w' := Vals.iaddr h.1 ht h0 (by simpa using h1)
theorem Bytes.small {v : Value} {xs : List Nat} (h : Bytes F w v xs) : xs.length ≤ 9223372036854775807 := by
  obtain ⟨_, _, _, h1, h2, _⟩ := h.1.shape; simp at h1; omega
/-- A reader: its bytes, and how many numbers have been read. -/
structure RdR (F : Nat → Prop) (w : World) (b : Nat) (v : Value) (xs : List Nat) (p : Nat) : Prop where
  blk : Blk w b [v, .int .i64 p] T_spec_l12Rd
  bytes : Bytes F w v xs
  apart : ¬ F b
  few : xs.length ≤ 2000
theorem RdR.same {S : Nat → Prop} {w' : World} {b p : Nat} {v : Value} {xs : List Nat} (h : RdR F w b v xs p) (hw : Same S w w') (hb : ¬ S b) (hs : ∀ b, F b → b < w.heap.size → ¬ S b) : RdR F w' b v xs p :=
  ⟨h.blk.same hw hb, h.bytes.same hw hs, h.apart, h.few⟩
theorem RdR.ext {w' : World} {b p : Nat} {v : Value} {xs : List Nat} (h : RdR F w b v xs p) (hw : Ext w w') : RdR F w' b v xs p := h.same hw id fun _ _ _ h => h
theorem l12Open_spec {v : Value} {xs : List Nat} (hx : Bytes F w v xs) (hF : ∀ b, F b → b < w.heap.size)
    (hK : ∀ w' b v' ys, Ext w w' → RdR F w' b v' ys 0 → w.heap.size ≤ b → K (.pointer (some ⟨b, 0, none⟩)) w') : vcall PP n_spec_l12Open #[v] w K := by
  apply c_spec_l12Open; unfold F_spec_l12Open
  simp (disch := (simp only [push_cast]; done)) only [push_cast, hx.len]
  have fin : ∀ (v' : Value) (ys : List Nat), Bytes F w v' ys → ys.length ≤ 2000 → vbuild PP T_spec_l12Rd [(0, v')] w fun t9 w_4 => vbox PP T_spec_l12Rd t9 w_4 fun t10 w_5 => K t10 w_5 := fun v' ys hy hl => by
    refine vbuild_str b_spec_l12Rd (us := [[v']]) (by simp [hy.1.cells1]) rfl ?_
    refine vbox_new fun b w1 hb he1 hz1 hB => ?_
    exact hK w1 b v' ys he1 ⟨hB, hy.ext he1, fun h => by have := hF b h; omega, hl⟩ (by omega)
  refine vif_dec (fun a => ?_) (fun a => fin v xs hx (by omega))
  have hcut : vslice PP T_Luint8 v none (some (.int .i64 (2000 : Nat))) none w fun t7 w_3 => vbuild PP T_spec_l12Rd [(0, t7)] w_3 fun t9 w_4 => vbox PP T_spec_l12Rd t9 w_4 fun t10 w_5 => K t10 w_5 := by
    obtain ⟨a0, c0, rfl, hc, hcm, hcell⟩ := hx.1.shape
    rw [Sl.cut hx.1 (fun a l c e => ?_) e_Luint8 (by simp; omega)]
    · refine fin _ (xs.take 2000) ⟨⟨⟨a0, c0, ?_, ?_, hcm, fun hne => ?_⟩, fun y hy => ?_⟩, fun y hy => hx.2 y (List.mem_of_mem_take hy)⟩ (by simp; omega)
      · simp only [cutV, List.length_map, List.length_take]
        rw [Nat.min_eq_left (by omega)]
      · simp at hc ⊢; omega
      · obtain ⟨b, o, h1, h2, h3, h4⟩ := hcell (fun e => by simp at e; subst e; simp at a)
        refine ⟨b, o, h1, h2, h3, fun i hi => ?_⟩
        simp only [List.length_map, List.length_take] at hi
        have := h4 i (by simp; omega)
        have e : (((xs.take 2000).map fun x => Value.int .u8 (x : Nat)).map fun x => [x]).getD i [] = ((xs.map fun x => Value.int .u8 (x : Nat)).map fun x => [x]).getD i [] := by
          simp only [List.getD_eq_getElem?_getD, List.getElem?_map, List.getElem?_take]
          rw [if_pos (by omega)]
        rw [e]; exact this
      · obtain ⟨u, _, rfl⟩ := List.mem_map.1 hy; rfl
    · injection e with e1 e2 e3
      obtain ⟨b, o, h1, _⟩ := hcell (fun e => by simp at e; subst e; simp at a)
      exact ⟨b, o, by rw [h1] at e1; exact (Option.some.inj e1).symm⟩
  exact hcut
theorem pick_spec {b p : Nat} {v : Value} {xs : List Nat} {n : Int} (h : RdR F w b v xs p) (hn : n ≤ 1099511627776) (hp : p < 1099511627776)
    (hK : ∀ w' (k : Nat), Same (· = b) w w' → w'.heap.size = w.heap.size → RdR F w' b v xs (p + 1) → (1 ≤ n → (k : Int) < n) → (n < 1 → k = 0) → K (.int .i64 k) w') : vcall PP n_spec_l12Rd_pick #[.pointer (some ⟨b, 0, none⟩), .int .i64 n] w K := by
  apply c_spec_l12Rd_pick; unfold F_spec_l12Rd_pick
  have hfew := h.few
  simp (disch := (simp only [push_cast]; done)) only [push_cast, h.blk.ld1]
  have hinc : IntKind.i64.wrap ((p : Int) + 1) = ((p + 1 : Nat) : Int) := by rw [wrap64 (by omega) (by omega)]; omega
  rw [hinc]
  refine h.blk.st rfl rfl z_int rfl fun w1 hs1 hz1 hB1 => ?_
  have B1 : Blk w1 b [v, .int .i64 (p + 1 : Nat)] T_spec_l12Rd := hB1
  have hR : RdR F w1 b v xs (p + 1) := ⟨B1, h.bytes.same hs1 fun x hx _ e => h.apart (e ▸ hx), h.apart, h.few⟩
  have hx := hR.bytes
  refine vjoin_of (fun _ w' => w' = w1 ∧ 1 ≤ n ∧ xs.length ≠ 0) ?_ ?_
  · intro J hJ
    refine vif_dec (fun a => ?_) (fun a => ?_)
    · exact hK w1 0 hs1 hz1 hR (fun h => by omega) fun _ => rfl
    · simp (disch := (simp only [push_cast]; done)) only [push_cast, B1.ld0, hx.len]
      refine vif_dec (fun a2 => ?_) (fun a2 => ?_)
      · exact hK w1 0 hs1 hz1 hR (fun h => by omega) fun _ => rfl
      · exact hJ _ _ ⟨rfl, by omega, by omega⟩
  rintro _ _ _ ⟨rfl, h1, hne⟩
  simp (disch := (simp only [push_cast]; done)) only [B1.ld0, B1.ld1, vnil_ptr, fa_spec_l12Rd_0, fa_spec_l12Rd_1, addr_add, Nat.zero_add, vbin_sub, hx.len]
  rw [show ((p + 1 : Nat) : Int) - 1 = (p : Int) from by omega, wrap64 (by omega) (by omega)]
  simp only [vbin_lss]
  have hget : ∀ i, i < xs.length → xs.getD i 0 < 256 := fun i hi => hx.2 _ (by rw [List.getD_eq_getElem?_getD, List.getElem?_eq_getElem hi]; exact List.getElem_mem hi)
  have hmod : ∀ x : Nat, ((x : Int).tmod n) = ((x % n.toNat : Nat) : Int) ∧ ((x % n.toNat : Nat) : Int) < n := fun x => by
    obtain ⟨m, rfl⟩ : ∃ m : Nat, n = m := ⟨n.toNat, by omega⟩
    rw [Int.toNat_natCast]
    exact ⟨rfl, by have := Nat.mod_lt x (show 0 < m by omega); omega⟩
  refine vif_dec (fun a => ?_) (fun a => ?_)
  · simp (disch := first | (simp only [push_cast]; done) | omega) only [B1.ld0, hx.iaddr, Int.toNat_natCast, hx.load, vconv_int sm_uint8 ik_int]
    have hb := hget p (by omega)
    rw [wrap64 (by omega) (by omega), vbin_rem (by omega)]
    obtain ⟨m1, m2⟩ := hmod (xs.getD p 0)
    rw [m1]
    exact hK _ _ hs1 hz1 hR (fun _ => m2) fun h => by omega
  · refine vdraw_ext fun w2 he2 hheap => ?_
    have B2 := B1.ext he2
    have hx2 := hx.ext he2
    have hl0 : (xs.length : Int) ≠ 0 := by omega
    have e1 : ((p : Int).tmod xs.length) = ((p % xs.length : Nat) : Int) := by rw [Int.tmod_eq_emod_of_nonneg (by omega)]; rfl
    have l1 : p % xs.length < xs.length := Nat.mod_lt _ (by omega)
    have e2 : IntKind.i64.wrap ((p : Int) * 7) = ((p * 7 : Nat) : Int) := by rw [wrap64 (by omega) (by omega)]; omega
    have e3 : IntKind.i64.wrap (((p * 7 : Nat) : Int) + 3) = ((p * 7 + 3 : Nat) : Int) := by rw [wrap64 (by omega) (by omega)]; omega
    have e4 : (((p * 7 + 3 : Nat) : Int).tmod xs.length) = (((p * 7 + 3) % xs.length : Nat) : Int) := by rw [Int.tmod_eq_emod_of_nonneg (by omega)]; rfl
    have l2 : (p * 7 + 3) % xs.length < xs.length := Nat.mod_lt _ (by omega)
    have b1 := hget _ l1
    have b2 := hget _ l2
    generalize hx1 : xs.getD (p % xs.length) 0 = x1 at b1
    generalize hx2' : xs.getD ((p * 7 + 3) % xs.length) 0 = x2 at b2
    have e5 : IntKind.i64.wrap ((x1 : Nat) : Int) = ((x1 : Nat) : Int) := wrap64 (by omega) (by omega)
    have e6 : IntKind.i64.wrap ((x2 : Nat) : Int) = ((x2 : Nat) : Int) := wrap64 (by omega) (by omega)
    have e7 : IntKind.i64.wrap (((x1 : Nat) : Int) * 131) = ((x1 * 131 : Nat) : Int) := by rw [wrap64 (by omega) (by omega)]; omega
    have e8 : IntKind.i64.wrap (((x2 : Nat) : Int) * 1117) = ((x2 * 1117 : Nat) : Int) := by rw [wrap64 (by omega) (by omega)]; omega
    have e9 : IntKind.i64.wrap (((x1 * 131 : Nat) : Int) + ((x2 * 1117 : Nat) : Int)) = ((x1 * 131 + x2 * 1117 : Nat) : Int) := by rw [wrap64 (by omega) (by omega)]; omega
    have e10 : IntKind.i64.wrap ((p : Int) * 29) = ((p * 29 : Nat) : Int) := by rw [wrap64 (by omega) (by omega)]; omega
    have e11 : IntKind.i64.wrap (((x1 * 131 + x2 * 1117 : Nat) : Int) + ((p * 29 : Nat) : Int)) = ((x1 * 131 + x2 * 1117 + p * 29 : Nat) : Int) := by rw [wrap64 (by omega) (by omega)]; omega
    obtain ⟨Q, hQ⟩ : ∃ Q, Q = p / xs.length := ⟨_, rfl⟩
    have hq : Q ≤ p := by rw [hQ]; exact Nat.div_le_self _ _
    have e12 : IntKind.i64.wrap ((p : Int).tdiv xs.length) = ((Q : Nat) : Int) := by
      have : (p : Int).tdiv xs.length = (Q : Int) := by rw [hQ]; rfl
      rw [this]; exact wrap64 (by omega) (by omega)
    have e13 : IntKind.i64.wrap (((Q : Nat) : Int) * 53) = ((Q * 53 : Nat) : Int) := by rw [wrap64 (by omega) (by omega)]; omega
    have e14 : IntKind.i64.wrap (((x1 * 131 + x2 * 1117 + p * 29 : Nat) : Int) + ((Q * 53 : Nat) : Int)) = ((x1 * 131 + x2 * 1117 + p * 29 + Q * 53 : Nat) : Int) := by rw [wrap64 (by omega) (by omega)]; omega
    simp (disch := first | (simp only [push_cast]; done) | omega) only [B2.ld0, vnil_ptr, fa_spec_l12Rd_0, addr_add, Nat.zero_add, true_and, hx2.len, vbin_rem hl0, vbin_quo hl0, vbin_mul, vbin_add, e1, e2, e3, e4, e12, hx2.iaddr, Int.toNat_natCast, hx2.load, hx1, hx2', vconv_int sm_uint8 ik_int, e5, e6, e7, e8, e9, e10, e11, e13, e14]
    have hX : x1 * 131 + x2 * 1117 + p * 29 + Q * 53 < 9223372036854775808 := by omega
    generalize x1 * 131 + x2 * 1117 + p * 29 + Q * 53 = X at hX ⊢
    have e15 : IntKind.i64.wrap ((X : Int).tdiv 64) = ((X / 64 : Nat) : Int) := by
      have : (X : Int).tdiv 64 = ((X / 64 : Nat) : Int) := rfl
      rw [this]; exact wrap64 (by omega) (by omega)
    rw [vbin_quo (by omega), e15, vbin_xor64 hX (by omega), vbin_rem (by omega)]
    obtain ⟨m1, m2⟩ := hmod (X ^^^ X / 64)
    rw [m1]
    exact hK _ _ (hs1.trans (Same.of_ext he2)) (by rw [hheap]; exact hz1) (hR.ext he2) (fun _ => m2) fun h => by omega
theorem num_spec {b p : Nat} {v vs : Value} {xs : List Nat} {ns : List Int} (h : RdR F w b v xs p) (hv : Ints F' w vs ns) (hne : ns ≠ []) (hsm : ns.length ≤ 1000) (hp : p < 1099511627776) (hF' : ∀ x, F' x → x ≠ b)
    (hK : ∀ w' m, Same (· = b) w w' → w'.heap.size = w.heap.size → RdR F w' b v xs (p + 1) → m ∈ ns → K (.int .i64 m) w') : vcall PP n_spec_l12Rd_num #[.pointer (some ⟨b, 0, none⟩), vs] w K := by
  apply c_spec_l12Rd_num; unfold F_spec_l12Rd_num
  have hpos := List.length_pos_iff.2 hne
  simp (disch := (simp only [push_cast]; done)) only [push_cast, hv.len]
  refine pick_spec h (by omega) hp fun w1 k hs hz hR h1 _ => ?_
  have hk := h1 (by omega)
  have hv1 := hv.same hs fun x hx _ e => hF' x hx e
  simp (disch := first | (simp only [push_cast]; done) | omega) only [push_cast, hv1.iaddr, hv1.load]
  exact hK w1 _ hs hz hR (M.getD_mem (by omega) _)
end Go.Proofs.YtbiabimalkkeiaaGreatDoor
