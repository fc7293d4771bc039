/- Contracts of the reference's drawing: names, terms. -/
import Derived.Test.YtbiabimalkkeiaaGreatDoorDp
set_option linter.unusedVariables false
set_option linter.unusedSimpArgs false
set_option linter.unnecessarySimpa false
set_option linter.unusedSectionVars false
namespace Go.Proofs.YtbiabimalkkeiaaGreatDoor
open Go Go.Vc Go.Proofs
variable {w : World} {K : Value → World → Prop} {F F' D : Nat → Prop}
@[push_cast] theorem bd_Decl (s : ByteArray) (n : Int) : vbuild PP T_impl_Decl [(0, .string s), (1, .int .i64 n)] w K = K (.agg ⟨[.string s, .int .i64 n]⟩) w := vbuild_eq b_impl_Decl (us := [[.string s], [.int .i64 n]]) rfl rfl
/-- Declarations in a row that is one's own. -/
abbrev OwnD (w : World) (v : Value) (ds : List M.Dcl) : Prop := Own PP 0 2 T_Limpl_Decl w v (ds.map fun d => [.string d.1, .int .i64 d.2])
/-- Drawn declarations. -/
def Dok (ds : List M.Dcl) : Prop := ds.length ≤ 4 ∧ ∀ i, i < ds.length → 1 ≤ (ds.getD i dcl0).2 ∧ (ds.getD i dcl0).2 ≤ 4 ∧ (ds.getD i dcl0).1.size ≤ 1
theorem OwnD.dcls {v : Value} {ds : List M.Dcl} (h : OwnD w v ds) : DclsR (fun b => v.ownBlock = some b) w v ds := Own.sl h
def drawNames : List ByteArray := [⟨#[120]⟩, ⟨#[121]⟩, ⟨#[122]⟩, ⟨#[119]⟩]
set_option maxRecDepth 20000 in
theorem l2Decls_spec {b p : Nat} {v : Value} {xs : List Nat} (h : RdR F w b v xs p) (hF : ∀ x, F x → x < w.heap.size) (hp : p + 100 < 1099511627776)
    (hK : ∀ w' p' dv ds, Same (· = b) w w' → RdR F w' b v xs p' → p' ≤ p + 100 → DclsR (fun x => w.heap.size ≤ x) w' dv ds → Dok ds → K dv w') : vcall PP n_spec_l2Decls #[.pointer (some ⟨b, 0, none⟩)] w K := by
  apply c_spec_l2Decls; unfold F_spec_l2Decls
  have lb := h.blk.lt
  refine vbuildS_row1 (xs := drawNames.map .string) u_Lstring (by kernel_rfl) zr_string (fun x hx => by obtain ⟨s, _, rfl⟩ := List.mem_map.1 hx; rfl) (by decide) fun b1 w1 hb1 he1 hs1 hbl => ?_
  have hnm : Vals (· = b1) w1 (.slice (some ⟨b1, 0, none⟩) (drawNames.map Value.string).length (drawNames.map Value.string).length) (drawNames.map Value.string) := hbl.sl1 rfl (by decide)
  refine vbuildS_row (xs := []) (us := []) (k := 2) u_Limpl_Decl z_impl_Decl zr_impl_Decl rfl (by simp) (by decide) fun b2 w2 hb2 he2 hs2 h2 => ?_
  have ho : OwnD w2 (.slice (some ⟨b2, 0, none⟩) 0 0) [] := Blk.ownk (css := []) h2 (by simp) rfl (by decide)
  have hR2 := (h.ext he1).ext he2
  refine vloop_up 4 (fun i u w' => ∃ sv ds p' , ∃ bits : Int, u = [sv, .int .i64 bits, .int .i64 i] ∧ Same (· = b) w w' ∧ RdR F w' b v xs p' ∧ p' ≤ p + 2 * i ∧ OwnD w' sv ds ∧ (∀ x, sv.ownBlock = some x → w1.heap.size ≤ x) ∧ ds.length = i ∧ Dok ds ∧ 0 ≤ bits ∧ bits ≤ 4 * i ∧ Vals (· = b1) w' (.slice (some ⟨b1, 0, none⟩) (drawNames.map Value.string).length (drawNames.map Value.string).length) (drawNames.map Value.string))
    ⟨_, [], p, 0, rfl, Same.of_ext (he1.trans he2), hR2, by omega, ho, fun x hx => by have e : x = b2 := (Option.some.inj hx).symm; omega, rfl, ⟨by simp, fun i hi => by simp at hi⟩, by omega, by omega, hnm.ext he2⟩ ?_
  rintro i _ _ w3 C hi ⟨sv, ds, p', bits, rfl, hs3, hR3, hp3, ho3, hn3, hl3, hd3, hb0, hb4, hv3⟩ hC
  have hz3 := hs3.size
  have hz1 := he1.size
  have hret : ∀ w4 p4, Same (· = b) w3 w4 → RdR F w4 b v xs p4 → p4 ≤ p + 2 * i + 2 → K sv w4 := fun w4 p4 hs hR hp4 => by
    refine hK w4 p4 sv ds (hs3.trans hs) hR (by omega) ?_ hd3
    exact ((ho3.same hs fun x hx e => by have := hn3 x hx; omega).sl).weaken fun x hx _ => by have := hn3 x hx; omega
  refine vjoin_of (fun u w4 => u = [] ∧ Same (· = b) w3 w4 ∧ RdR F w4 b v xs (p' + 1) ∧ i < 4) (fun C' hC' => ?_) ?_
  · refine pick_spec hR3 (by omega) (by omega) fun w4 k hs4 hz4 hR4 hk _ => ?_
    have := hk (by omega)
    simp only [push_cast]
    rw [wrap64 (x := 1 + (k : Int)) (by omega) (by omega)]
    refine vif_dec (fun a => ?_) (fun a => ?_)
    · refine vif_dec (fun c => ?_) (fun c => ?_)
      · exact hC' _ _ ⟨rfl, hs4, hR4, by omega⟩
      · exact hret _ _ hs4 hR4 (by omega)
    · exact hret _ _ hs4 hR4 (by omega)
  · rintro u g w4 ⟨rfl, hs4, hR4, hi4⟩
    refine pick_spec hR4 (by omega) (by omega) fun w5 k hs5 hz5 hR5 hk _ => ?_
    have hk4 := hk (by omega)
    have hs35 := hs4.trans hs5
    simp only [push_cast]
    rw [wrap64 (x := 1 + (k : Int)) (by omega) (by omega), wrap64 (x := 8 - bits) (by omega) (by omega)]
    refine l1Min_spec ?_
    obtain ⟨n, hn⟩ : ∃ n : Int, n = min (1 + (k : Int)) (8 - bits) := ⟨_, rfl⟩
    rw [← hn]
    simp only [push_cast]
    refine vif_dec (fun a => ?_) (fun a => ?_)
    · exact hret _ _ hs35 hR5 (by omega)
    · have hv5 := hv3.same hs35 fun x hx _ e => by have := h.blk.lt; have := he1.size; omega
      have hlen : (drawNames.map Value.string).length = 4 := rfl
      have e1 : (drawNames.map Value.string).getD i undef = .string (drawNames.getD i ⟨#[]⟩) := M.getD_map _ (show i < drawNames.length from hi4) _ _
      rw [hv5.iaddr (by kernel_rfl) (by omega) (by rw [hlen]; omega), Int.toNat_natCast, hv5.load (by kernel_rfl) (by rw [hlen]; omega), e1]
      have hsz : (drawNames.getD i ⟨#[]⟩).size ≤ 1 := by
        rcases (by omega : i = 0 ∨ i = 1 ∨ i = 2 ∨ i = 3) with rfl | rfl | rfl | rfl <;> decide
      generalize drawNames.getD i ⟨#[]⟩ = nm at hsz ⊢
      simp only [push_cast]
      refine vbuildS1 u_Limpl_Decl z_impl_Decl zr_impl_Decl rfl rfl (by decide) fun b3 w6 hb3 he6 hs6 h6 => ?_
      have ho6 := (ho3.same hs35 fun x hx e => by have := hn3 x hx; omega).ext he6
      refine Own.app1k ho6 l_Limpl_Decl (by decide) h6 rfl (by intro v hv; simp only [List.mem_cons, List.not_mem_nil, or_false] at hv; rcases hv with rfl | rfl <;> rfl) (by rw [List.length_map, hl3]; omega) (by rw [List.length_map, hl3]; omega) fun sv' w7 ho7 hw7 hn7 => ?_
      have hz5 := hs35.size
      have hz6 := he6.size
      have hs67 : Same (· = b) w w7 := by
        refine ⟨hw7.os.trans (he6.os.trans (hs35.os.trans hs3.os)), hw7.tape.trans (he6.tape.trans (hs35.tape.trans hs3.tape)), hw7.output.trans (he6.output.trans (hs35.output.trans hs3.output)), Nat.le_trans (((hs3.trans hs35).trans (Same.of_ext he6)).size) hw7.size, fun x hx hne => ?_⟩
        rw [hw7.block x (by have := ((hs3.trans hs35).trans (Same.of_ext he6)).size; omega) (fun e => by have := hn3 x e; omega)]
        exact ((hs3.trans hs35).trans (Same.of_ext he6)).block x hx hne
      have hR7 : RdR F w7 b v xs (p' + 1 + 1) := (hR5.ext he6).same hw7 (fun e => by have := hn3 b e; omega) fun x hx _ e => by have := hn3 x e; have := hF x hx; omega
      have hv7 := (hv5.ext he6).same hw7 (fun x hx _ e => by have := hn3 x e; omega)
      rw [inc64' (by omega), wrap64 (x := bits + n) (by omega) (by omega)]
      refine hC (by omega) _ _ ⟨sv', ds ++ [(nm, n)], p' + 1 + 1, bits + n, rfl, hs67, hR7, by omega, by rw [OwnD, List.map_append]; exact ho7, fun x hx => ?_, by rw [List.length_append]; simp [hl3], ⟨by rw [List.length_append]; simp; omega, fun j hj => ?_⟩, by omega, by omega, hv7⟩
      · rcases hn7 x hx with h | h
        · exact hn3 x h
        · omega
      · rw [List.length_append] at hj
        by_cases hj2 : j < ds.length
        · rw [List.getD_eq_getElem?_getD, List.getElem?_append_left hj2, ← List.getD_eq_getElem?_getD]
          exact hd3.2 j hj2
        · have : j = ds.length := by simp at hj; omega
          subst this
          rw [List.getD_eq_getElem?_getD, List.getElem?_append_right (by omega)]
          simp only [Nat.sub_self, List.getElem?_cons_zero, Option.getD_some]
          exact ⟨by omega, by omega, hsz⟩
@[push_cast] theorem bd_T3 (o a b : Int) : vbuild PP T_impl_Term [(0, .int .i64 o), (1, .int .i64 a), (2, .int .i64 b)] w K = K (.agg ⟨[.int .i64 o, .int .i64 a, .int .i64 b, .string ⟨#[]⟩, .slice none 0 0]⟩) w := vbuild_eq b_impl_Term (us := [[.int .i64 o], [.int .i64 a], [.int .i64 b]]) rfl rfl
@[push_cast] theorem bd_T1 (o : Int) : vbuild PP T_impl_Term [(0, .int .i64 o)] w K = K (.agg ⟨[.int .i64 o, .int .i64 0, .int .i64 0, .string ⟨#[]⟩, .slice none 0 0]⟩) w := vbuild_eq b_impl_Term (us := [[.int .i64 o]]) rfl rfl
@[push_cast] theorem bd_Tn (o : Int) (s : ByteArray) : vbuild PP T_impl_Term [(0, .int .i64 o), (3, .string s)] w K = K (.agg ⟨[.int .i64 o, .int .i64 0, .int .i64 0, .string s, .slice none 0 0]⟩) w := vbuild_eq b_impl_Term (us := [[.int .i64 o], [.string s]]) rfl rfl
@[push_cast] theorem bd_Tk (o : Int) (a : Option Addr) (l c : Nat) : vbuild PP T_impl_Term [(0, .int .i64 o), (4, .slice a l c)] w K = K (.agg ⟨[.int .i64 o, .int .i64 0, .int .i64 0, .string ⟨#[]⟩, .slice a l c]⟩) w := vbuild_eq b_impl_Term (us := [[.int .i64 o], [.slice a l c]]) rfl rfl
@[push_cast] theorem bd_Tc (o x y : Int) (a : Option Addr) (l c : Nat) : vbuild PP T_impl_Term [(0, .int .i64 o), (1, .int .i64 x), (2, .int .i64 y), (4, .slice a l c)] w K = K (.agg ⟨[.int .i64 o, .int .i64 x, .int .i64 y, .string ⟨#[]⟩, .slice a l c]⟩) w := vbuild_eq b_impl_Term (us := [[.int .i64 o], [.int .i64 x], [.int .i64 y], [.slice a l c]]) rfl rfl
/-- A result is laid into its variable and read. -/
theorem retTerm {b : Nat} {cs cs' : List Value} {t : TypeId} {G : Nat → Prop} {t' : M.Tm} (h : Blk w b cs t) (hl : cs.length = 5) (hc : TmR G w cs' t') (hG : ∀ x, G x → x ≠ b) (hK : ∀ w', Same (· = b) w w' → w'.heap.size = w.heap.size → TermR G w' (.agg ⟨cs'⟩) t' → K (.agg ⟨cs'⟩) w') :
    vstore PP T_impl_Term (.pointer (some ⟨b, 0, none⟩)) (.agg ⟨cs'⟩) w fun _ w1 => vlv PP T_impl_Term (.pointer (some ⟨b, 0, none⟩)) w1 fun r w2 => K r w2 := by
  refine stTerm h hl hc fun w' hw' hz' h' => ?_
  rw [h'.lv (by rw [tmR_len hc]; exact g_impl_Term)]
  exact hK w' hw' hz' (hc.same hw' fun x hx _ e => hG x hx e).term
theorem leafR {G : Nat → Prop} (o a b : Int) (s : ByteArray) : TmR G w [.int .i64 o, .int .i64 a, .int .i64 b, .string s, .slice none 0 0] (.mk o a b s []) := TmR.of (t := .mk o a b s []) TmsR.nil
/-- What a drawing of a term hands on. -/
abbrev DrawT (K : Value → World → Prop) (F : Nat → Prop) (w : World) (b p c : Nat) (v : Value) (xs : List Nat) : Prop := ∀ w' p' tv t, Same (· = b) w w' → RdR F w' b v xs p' → p' ≤ p + c → TermR (fun x => w.heap.size ≤ x) w' tv t → t.ks.length ≤ 3 → K tv w'
theorem same_new {b b2 : Nat} {w w1 w2 : World} (h : Same (· = b) w w1) (h2 : Same (· = b2) w1 w2) (hb : w.heap.size ≤ b2) : Same (· = b) w w2 :=
  ⟨h2.os.trans h.os, h2.tape.trans h.tape, h2.output.trans h.output, Nat.le_trans h.size h2.size, fun x hx hne => by
    rw [h2.block x (Nat.lt_of_lt_of_le hx h.size) (fun e => by subst e; omega)]; exact h.block x hx hne⟩
theorem RdR.new {b b2 p : Nat} {v : Value} {xs : List Nat} {w1 : World} (h : RdR F w b v xs p) (hs : Same (· = b2) w w1) (hb : b ≠ b2) (hF : ∀ x, F x → x ≠ b2) : RdR F w1 b v xs p := h.same hs hb fun x hx _ e => hF x hx e
theorem l2Leafy_spec {b p : Nat} {v dv : Value} {xs : List Nat} {ds : List M.Dcl} {sort : Int} (h : RdR F w b v xs p) (hF : ∀ x, F x → x < w.heap.size) (hd : DclsR D w dv ds) (hD : ∀ x, D x → x ≠ b) (hok : Dok ds) (hs0 : 0 ≤ sort) (hs4 : sort ≤ 4) (hp : p + 100 < 1099511627776)
    (hK : DrawT K F w b p 100 v xs) : vcall PP n_spec_l2Leafy #[.pointer (some ⟨b, 0, none⟩), dv, .int .i64 sort] w K := by
  apply c_spec_l2Leafy; unfold F_spec_l2Leafy
  have lb := h.blk.lt
  refine valloc_agg zr_impl_Term fun b1 w1 hb1 he1 hs1 h1 => ?_
  have hR1 := h.ext he1
  have hd1 := hd.ext he1
  have hfin : ∀ w2 p2 cs t, Same (· = b) w w2 → RdR F w2 b v xs p2 → p2 ≤ p + 100 → Blk w2 b1 [.int .i64 0, .int .i64 0, .int .i64 0, .string ⟨#[]⟩, .slice none 0 0] T_impl_Term → TmR (fun _ => False) w2 cs t → t.ks.length ≤ 3 →
      vstore PP T_impl_Term (.pointer (some ⟨b1, 0, none⟩)) (.agg ⟨cs⟩) w2 fun _ w1 => vlv PP T_impl_Term (.pointer (some ⟨b1, 0, none⟩)) w1 fun r w2 => K r w2 := by
    intro w2 p2 cs t hs hR hp2 hB hc hk3
    refine retTerm hB rfl hc (fun x hx => hx.elim) fun w3 hs3 hz3 ht => ?_
    exact hK w3 p2 _ t (same_new hs hs3 (by omega)) (hR.new hs3 (by omega) fun x hx e => by have := hF x hx; omega) hp2 (ht.weaken fun x hx _ => hx.elim) hk3
  simp only [push_cast]
  refine vif_dec (fun a => ?_) (fun a => ?_)
  · exact hfin _ _ _ _ (Same.of_ext he1) hR1 (by omega) h1 (leafR 24 0 0 _) (Nat.zero_le _)
  simp (disch := (simp only [push_cast]; done)) only [push_cast, hd1.len]
  have hlen := hok.1
  refine pick_spec hR1 (by omega) (by omega) fun w2 at_ hs2 hz2 hR2 hk _ => ?_
  have h2 := h1.same hs2 (by omega)
  have hvec : ∀ w3 p3, Same (· = b) w w3 → RdR F w3 b v xs p3 → p3 ≤ p + 50 → Blk w3 b1 [.int .i64 0, .int .i64 0, .int .i64 0, .string ⟨#[]⟩, .slice none 0 0] T_impl_Term →
      vcall PP n_spec_l1Two #[.int .i64 sort] w3 fun t52 w_13 => vcall PP n_spec_l12Rd_pick #[.pointer (some ⟨b, 0, none⟩), t52] w_13 fun t53 w_14 => vbuild PP T_impl_Term [(0, (.int .i64 20)), (1, .int .i64 sort), (2, t53)] w_14 fun t54 w_15 => vstore PP T_impl_Term (.pointer (some ⟨b1, 0, none⟩)) t54 w_15 fun _ w_16 => vlv PP T_impl_Term (.pointer (some ⟨b1, 0, none⟩)) w_16 fun r6_1 w_17 => K r6_1 w_17 := by
    intro w3 p3 hs hR hp3 hB
    refine l1Two_spec (by omega) ?_
    have hpw : 2 ^ sort.toNat ≤ 2 ^ 4 := Nat.pow_le_pow_right (by omega) (by omega)
    refine pick_spec hR (by omega) (by omega) fun w4 k hs4 hz4 hR4 _ _ => ?_
    simp only [push_cast]
    exact hfin _ _ _ _ (hs.trans hs4) hR4 (by omega) (hB.same hs4 (by have := he1.size; omega)) (leafR 20 sort k _) (Nat.zero_le _)
  refine vloop_up ds.length (fun i u w' => ∃ p', u = [.int .i64 i] ∧ Same (· = b) w w' ∧ RdR F w' b v xs p' ∧ p' ≤ p + 1 + i ∧ Blk w' b1 [.int .i64 0, .int .i64 0, .int .i64 0, .string ⟨#[]⟩, .slice none 0 0] T_impl_Term ∧ DclsR D w' dv ds)
    ⟨p + 1, rfl, (Same.of_ext he1).trans hs2, hR2, by omega, h2, hd1.same hs2 fun x hx _ e => hD x hx e⟩ ?_
  rintro i _ _ w3 C hi ⟨p', rfl, hs3, hR3, hp3, hB3, hd3⟩ hC
  refine vjoin_of (fun u w' => u = [] ∧ i < ds.length ∧ Same (· = b) w w' ∧ RdR F w' b v xs (p' + 1) ∧ Blk w' b1 [.int .i64 0, .int .i64 0, .int .i64 0, .string ⟨#[]⟩, .slice none 0 0] T_impl_Term ∧ DclsR D w' dv ds) (fun C' hC' => ?_) ?_
  · simp only [push_cast]
    refine vif_dec (fun c => ?_) (fun c => ?_)
    · refine pick_spec hR3 (by omega) (by omega) fun w4 k hs4' hz4 hR4 _ _ => ?_
      have hB4 := hB3.same hs4' (by omega)
      simp only [push_cast]
      refine vif_dec (fun e => ?_) (fun e => ?_)
      · exact hC' _ _ ⟨rfl, by omega, hs3.trans hs4', hR4, hB4, hd3.same hs4' fun x hx _ e => hD x hx e⟩
      · exact hvec _ _ (hs3.trans hs4') hR4 (by omega) hB4
    · exact hvec _ _ hs3 hR3 (by omega) hB3
  · rintro u g w4 ⟨rfl, hil, hs4', hR4, hB4, hd4⟩
    have hat : at_ < ds.length := by have := hk (by omega); omega
    have e1 : IntKind.i64.wrap ((at_ : Int) + (i : Int)) = ((at_ + i : Nat) : Int) := by rw [wrap64 (by omega) (by omega)]; omega
    have eR : ∀ (w : World) (K : Value → World → Prop), vbin PP .rem T_int false (.int .i64 ((at_ + i : Nat) : Int)) (.int .i64 (ds.length : Int)) w K = K (.int .i64 (((at_ + i) % ds.length : Nat) : Int)) w := fun w K => by rw [vbin_rem (by omega)]; rfl
    have hm : (at_ + i) % ds.length < ds.length := Nat.mod_lt _ (by omega)
    obtain ⟨q, hq⟩ : ∃ q, q = at_ + i := ⟨_, rfl⟩
    rw [← hq] at e1 eR hm
    obtain ⟨j, hj⟩ : ∃ j, j = q % ds.length := ⟨_, rfl⟩
    rw [← hj] at eR hm
    simp (disch := first | (simp only [push_cast]; done) | omega) only [push_cast, e1, eR, hd4.iaddr]
    try simp (disch := first | (simp only [push_cast]; done) | omega) only [push_cast, hd4.load0, hd4.load1]
    refine vif_dec (fun c => ?_) (fun c => ?_)
    · exact hfin _ _ _ _ hs4' hR4 (by omega) hB4 (leafR 21 0 0 _) (Nat.zero_le _)
    · rw [inc64' (by omega)]
      exact hC (by omega) _ _ ⟨p' + 1, rfl, hs4', hR4, by omega, hB4, hd4⟩
end Go.Proofs.YtbiabimalkkeiaaGreatDoor
