/- Contracts of the reference's drawing: spoilt names, bent terms, numbers for names. -/
import Derived.Test.YtbiabimalkkeiaaGreatDoorDs
set_option linter.unusedVariables false
set_option linter.unusedSimpArgs false
set_option linter.unnecessarySimpa false
set_option linter.unusedSectionVars false
namespace Go.Proofs.YtbiabimalkkeiaaGreatDoor
open Go Go.Vc Go.Proofs
variable {w : World} {K : Value → World → Prop} {F F' D G : Nat → Prop}
theorem of_spec {b p : Nat} {v vs : Value} {xs : List Nat} {ss : List ByteArray} (h : RdR F w b v xs p) (hv : Vals F' w vs (ss.map .string)) (hne : ss ≠ []) (hsm : ss.length ≤ 1000) (hp : p < 1099511627776) (hF' : ∀ x, F' x → x ≠ b)
    (hK : ∀ w' s, Same (· = b) w w' → w'.heap.size = w.heap.size → RdR F w' b v xs (p + 1) → s ∈ ss → K (.string s) w') : vcall PP n_spec_l12Rd_of #[.pointer (some ⟨b, 0, none⟩), vs] w K := by
  apply c_spec_l12Rd_of; unfold F_spec_l12Rd_of
  have hpos := List.length_pos_iff.2 hne
  have hl : (ss.map Value.string).length = ss.length := List.length_map _
  simp (disch := (simp only [push_cast]; done)) only [push_cast, hv.len]
  refine pick_spec h (by omega) hp fun w1 k hs hz hR h1 _ => ?_
  have hk := h1 (by omega)
  have hv1 := hv.same hs fun x hx _ e => hF' x hx e
  rw [hv1.iaddr (by kernel_rfl) (by omega) (by omega), Int.toNat_natCast, hv1.load (by kernel_rfl) (by omega), M.getD_map _ (by omega) _ M.nada]
  exact hK w1 _ hs hz hR (M.getD_mem (by omega) _)
theorem of_lit {b p : Nat} {v : Value} {xs : List Nat} {ss : List ByteArray} (h : RdR F w b v xs p) (hF : ∀ x, F x → x < w.heap.size) (hne : ss ≠ []) (hsm : ss.length ≤ 1000) (hp : p < 1099511627776) (hK : ∀ w1 s, Same (· = b) w w1 → RdR F w1 b v xs (p + 1) → s ∈ ss → K (.string s) w1) :
    vbuildS PP T_Lstring ss.length ((ss.map Value.string).zipIdx.map fun p => (p.2, p.1)) w fun s w1 => vcall PP n_spec_l12Rd_of #[.pointer (some ⟨b, 0, none⟩), s] w1 K := by
  have := vbuildS_row1 (w := w) (K := fun s w1 => vcall PP n_spec_l12Rd_of #[.pointer (some ⟨b, 0, none⟩), s] w1 K) (t := T_Lstring) (xs := ss.map Value.string) u_Lstring (by kernel_rfl) zr_string (fun x hx => by obtain ⟨y, _, rfl⟩ := List.mem_map.1 hx; rfl) (by rw [List.length_map]; omega) fun b2 w' h1 h2 h3 h4 => by
    have hv : Vals (· = b2) w' (.slice (some ⟨b2, 0, none⟩) (ss.map Value.string).length (ss.map Value.string).length) (ss.map Value.string) := h4.sl1 rfl (by rw [List.length_map]; omega)
    have := h.blk.lt
    refine of_spec (h.ext h2) hv hne hsm hp (fun x hx e => by subst hx; omega) fun w2 m hs hz hR hm => ?_
    exact hK w2 m ((Same.of_ext h2).trans hs) hR hm
  rwa [List.length_map] at this
theorem num_lit {b p : Nat} {v : Value} {xs : List Nat} {ns : List Int} (h : RdR F w b v xs p) (hne : ns ≠ []) (hsm : ns.length ≤ 1000) (hp : p < 1099511627776) (hK : ∀ w1 m, Same (· = b) w w1 → RdR F w1 b v xs (p + 1) → m ∈ ns → K (.int .i64 m) w1) :
    vbuildS PP T_Lint ns.length ((ns.map fun x => Value.int .i64 x).zipIdx.map fun p => (p.2, p.1)) w fun s w1 => vcall PP n_spec_l12Rd_num #[.pointer (some ⟨b, 0, none⟩), s] w1 K := by
  have := vbuildS_row1 (w := w) (K := fun s w1 => vcall PP n_spec_l12Rd_num #[.pointer (some ⟨b, 0, none⟩), s] w1 K) (t := T_Lint) (xs := ns.map fun x => Value.int .i64 x) u_Lint z_int zr_int (fun x hx => by obtain ⟨y, _, rfl⟩ := List.mem_map.1 hx; rfl) (by simp; omega) fun b2 w' h1 h2 h3 h4 => by
    have hv : Ints (· = b2) w' (.slice (some ⟨b2, 0, none⟩) (ns.map fun x => Value.int .i64 x).length (ns.map fun x => Value.int .i64 x).length) ns := h4.sl1 rfl (by simp; omega)
    have := h.blk.lt
    refine num_spec (h.ext h2) hv hne hsm hp (fun x hx e => by subst hx; omega) fun w2 m hs hz hR hm => ?_
    exact hK w2 m ((Same.of_ext h2).trans hs) hR hm
  rwa [List.length_map] at this
/-- Names that are not long, and not many. -/
def Dsm (ds : List M.Dcl) : Prop := ds.length ≤ 6 ∧ ∀ i, i < ds.length → (ds.getD i dcl0).1.size ≤ 5
theorem dsm_sized {ds : List M.Dcl} (h : Dsm ds) : Sized ds := fun i hi => by have := h.2 i hi; omega
theorem dok_dsm {ds : List M.Dcl} (h : Dok ds) : Dsm ds := ⟨by have := h.1; omega, fun i hi => by have := (h.2 i hi).2.2; omega⟩
theorem getD_setD {ds : List M.Dcl} {k j : Nat} {d : M.Dcl} (hk : k < ds.length) : (ds.set k d).getD j dcl0 = if k = j then d else ds.getD j dcl0 := by
  rw [List.getD_eq_getElem?_getD, List.getElem?_set]
  split
  · rename_i e
    rfl
  · rw [← List.getD_eq_getElem?_getD]
theorem set_cells {ds : List M.Dcl} {k : Nat} {d : M.Dcl} (c : List Value) (hc : c = [Value.string d.1, Value.int .i64 d.2]) : (ds.map fun d => [Value.string d.1, Value.int .i64 d.2]).set k c = (ds.set k d).map fun d => [Value.string d.1, Value.int .i64 d.2] := by
  rw [List.map_set, hc]
theorem empty_own {b : Nat} (h : Blk w b [] T_impl_Decl) : OwnD w (.slice (some ⟨b, 0, none⟩) 0 0) [] := Blk.ownk (css := []) (by rw [eo_Limpl_Decl]; exact h) (by simp) rfl (by decide)
abbrev cellsD (ds : List M.Dcl) : List (List Value) := ds.map fun d => [Value.string d.1, Value.int .i64 d.2]
theorem one_cellsD {ds : List M.Dcl} : ∀ y, y ∈ cellsD ds → ∀ c, c ∈ y → c.oneCell' = true := fun y hy c hc => by
  obtain ⟨d, _, rfl⟩ := List.mem_map.1 hy
  simp only [List.mem_cons, List.not_mem_nil, or_false] at hc
  rcases hc with rfl | rfl <;> rfl
theorem l2Spoil_spec {b p : Nat} {v dv : Value} {xs : List Nat} {ds : List M.Dcl} (h : RdR F w b v xs p) (hF : ∀ x, F x → x < w.heap.size) (hd : DclsR D w dv ds) (hD : ∀ x, D x → x ≠ b) (hD1 : ∀ x, D x → x < w.heap.size) (hok : Dok ds) (hp : p + 10 < 1099511627776)
    (hK : ∀ w' p' dv' ds', Same (· = b) w w' → RdR F w' b v xs p' → p' ≤ p + 10 → DclsR (fun x => w.heap.size ≤ x) w' dv' ds' → Dsm ds' → K dv' w') : vcall PP n_spec_l2Spoil #[.pointer (some ⟨b, 0, none⟩), dv] w K := by
  apply c_spec_l2Spoil; unfold F_spec_l2Spoil
  have lb := h.blk.lt
  have hlen := hok.1
  refine vbuildS_row (xs := []) (us := []) (k := 2) u_Limpl_Decl z_impl_Decl zr_impl_Decl rfl (by simp) (by decide) fun b1 w1 hb1 he1 hs1 h1 => ?_
  have ho1 := empty_own h1
  refine vappend (F := D) (ys := cellsD ds) l_Limpl_Decl (by decide) ho1 (show Sl D w1 2 dv (cellsD ds) from hd.ext he1) one_cellsD (Nat.zero_le _) (by simp; omega) (by simp; omega) fun ov w2 ho2 hw2 hn2 => ?_
  replace ho2 : OwnD w2 ov ds := ho2
  have hz1 := he1.size
  have hz2 := hw2.size
  have hw2' : Same (· = b1) w1 w2 := hw2.mono fun x _ hx => (Option.some.inj hx).symm
  have hn : ∀ x, ov.ownBlock = some x → w.heap.size ≤ x := fun x hx => by
    rcases hn2 x hx with hx | hx
    · have e : x = b1 := (Option.some.inj hx).symm; omega
    · omega
  have hs2 : Same (· = b) w w2 := same_new (Same.of_ext he1) hw2' (by omega)
  have hR2 : RdR F w2 b v xs p := (h.ext he1).new hw2' (by omega) fun x hx e => by have := hF x hx; omega
  have hd2 : DclsR D w2 dv ds := (hd.ext he1).same hw2' fun x hx _ e => by have := hD1 x hx; omega
  have hret : ∀ w3 p3 ds3, Same (· = b) w w3 → RdR F w3 b v xs p3 → p3 ≤ p + 10 → OwnD w3 ov ds3 → Dsm ds3 → K ov w3 := fun w3 p3 ds3 hs hR hp3 ho hds => hK w3 p3 ov ds3 hs hR hp3 (ho.dcls.weaken fun x hx _ => hn x hx) hds
  simp (disch := (simp only [push_cast]; done)) only [push_cast, hd2.len]
  refine vif_dec (fun a => ?_) (fun a => ?_)
  · exact hret _ _ _ hs2 hR2 (by omega) ho2 (dok_dsm hok)
  refine pick_spec hR2 (by omega) (by omega) fun w3 k hs3 hz3 hR3 hk _ => ?_
  have hk' := hk (by omega)
  refine pick_spec hR3 (by omega) (by omega) fun w4 c hs4 hz4 hR4 hc _ => ?_
  have ho4 : OwnD w4 ov ds := (ho2.same hs3 fun x hx e => by have := hn x hx; omega).same hs4 fun x hx e => by have := hn x hx; omega
  have hs4' := (hs2.trans hs3).trans hs4
  have hz4' := hs4'.size
  have hF4 : ∀ x, F x → x < w4.heap.size := fun x hx => Nat.lt_of_lt_of_le (hF x hx) hz4'
  have hstore : ∀ {w5 : World} {p5 : Nat} {d : M.Dcl} {x : Value} {j : Nat} {e : TypeId}, OwnD w5 ov ds → Same (· = b) w w5 → RdR F w5 b v xs p5 → p5 ≤ p + 10 → x.cells = #[x] → x.oneCell' = true → sizeB PP e 1 = true → j < 2 → ([Value.string (ds.getD k dcl0).1, Value.int .i64 (ds.getD k dcl0).2].set j x) = [Value.string d.1, Value.int .i64 d.2] → d.1.size ≤ 5 →
      vstore PP e (.pointer (some ((eaddr ov 2 k).add j))) x w5 fun _ w6 => K ov w6 := by
    intro w5 p5 d x j e ho hs hR hp5 hx1 hx2 hz hj hset hsz
    refine Own.stCell ho hx1 hx2 hz (by rw [List.length_map]; omega) hj fun w6 ho6 hs6 _ => ?_
    have hg : (cellsD ds).getD k [] = [Value.string (ds.getD k dcl0).1, Value.int .i64 (ds.getD k dcl0).2] := dcl_getD (by omega)
    rw [show (ds.map fun d => [Value.string d.1, Value.int .i64 d.2]).getD k [] = _ from hg, hset, set_cells (d := d) _ rfl] at ho6
    have hs56 : Same (· = b) w w6 := ⟨hs6.os.trans hs.os, hs6.tape.trans hs.tape, hs6.output.trans hs.output, Nat.le_trans hs.size hs6.size, fun y hy hne => by
      rw [hs6.block y (Nat.lt_of_lt_of_le hy hs.size) (fun e => by have := hn y e; omega)]; exact hs.block y hy hne⟩
    refine hret w6 p5 _ hs56 (hR.same hs6 (fun e => by have := hn b e; omega) fun y hy _ e => by have := hn y e; have := hF y hy; omega) hp5 ho6 ⟨by rw [List.length_set]; omega, fun i hi => ?_⟩
    rw [List.length_set] at hi
    rw [getD_setD (by omega)]
    split
    · exact hsz
    · have := (hok.2 i hi).2.2; omega
  have hnk := (hok.2 k (by omega)).2.2
  simp only [push_cast]
  refine vif_dec (fun a0 => ?_) (fun a0 => ?_)
  · refine num_lit (ns := [0, 5, -1, 4]) hR4 (by simp) (by decide) (by omega) fun w5 m hs5 hR5 hm => ?_
    have ho5 : OwnD w5 ov ds := ho4.same hs5 fun x hx e => by have := hn x hx; omega
    have hi := ho5.dcls
    simp (disch := first | (simp only [push_cast]; done) | omega) only [push_cast, hi.iaddr]
    exact hstore (d := ((ds.getD k dcl0).1, m)) (j := 1) ho5 (hs4'.trans hs5) hR5 (by omega) rfl rfl z_int (by omega) rfl (by show (ds.getD k dcl0).1.size ≤ 5; omega)
  refine vif_dec (fun a1 => ?_) (fun a1 => ?_)
  · refine of_lit (ss := [⟨#[]⟩, ⟨#[116, 114, 117, 101]⟩, ⟨#[97, 98, 99, 100, 101]⟩, ⟨#[65]⟩, ⟨#[110, 111, 116]⟩, ⟨#[120]⟩]) hR4 hF4 (by simp) (by decide) (by omega) fun w5 s hs5 hR5 hm => ?_
    have ho5 : OwnD w5 ov ds := ho4.same hs5 fun x hx e => by have := hn x hx; omega
    have hi := ho5.dcls
    have hsz : s.size ≤ 5 := by
      simp only [List.mem_cons, List.not_mem_nil, or_false] at hm
      rcases hm with rfl | rfl | rfl | rfl | rfl | rfl <;> decide
    simp (disch := first | (simp only [push_cast]; done) | omega) only [push_cast, hi.iaddr]
    exact hstore (d := (s, (ds.getD k dcl0).2)) (j := 0) ho5 (hs4'.trans hs5) hR5 (by omega) rfl rfl z_string (by omega) rfl hsz
  refine vif_dec (fun a2 => ?_) (fun a2 => ?_)
  · refine vbuildS_row (xs := [.agg ⟨[.string ⟨#[113]⟩, .int .i64 4]⟩, .agg ⟨[.string ⟨#[112]⟩, .int .i64 1]⟩]) (us := cellsD [(⟨#[113]⟩, 4), (⟨#[112]⟩, 1)]) (k := 2) u_Limpl_Decl z_impl_Decl zr_impl_Decl rfl (by simp) (by decide) fun b5 w5 hb5 he5 hs5 h5 => ?_
    have hlit : OwnD w5 (.slice (some ⟨b5, 0, none⟩) 2 2) [(⟨#[113]⟩, 4), (⟨#[112]⟩, 1)] := Blk.ownk (css := cellsD [(⟨#[113]⟩, 4), (⟨#[112]⟩, 1)]) (by rw [eo_Limpl_Decl]; exact h5) (by simp) rfl (by decide)
    refine vappend (ys := cellsD [(⟨#[113]⟩, 4), (⟨#[112]⟩, 1)]) l_Limpl_Decl (by decide) (ho4.ext he5) hlit.sl one_cellsD (Nat.zero_le _) (by simp; omega) (by simp; omega) fun ov' w6 ho6 hw6 hn6 => ?_
    have hz5 := he5.size
    have hs6 : Same (· = b) w w6 := ⟨hw6.os.trans ((hs4'.trans (Same.of_ext he5)).os), hw6.tape.trans ((hs4'.trans (Same.of_ext he5)).tape), hw6.output.trans ((hs4'.trans (Same.of_ext he5)).output), Nat.le_trans (hs4'.trans (Same.of_ext he5)).size hw6.size, fun y hy hne => by
      rw [hw6.block y (Nat.lt_of_lt_of_le hy (hs4'.trans (Same.of_ext he5)).size) (fun e => by have := hn y e; omega)]; exact (hs4'.trans (Same.of_ext he5)).block y hy hne⟩
    have hR6 : RdR F w6 b v xs _ := (hR4.ext he5).same hw6 (fun e => by have := hn b e; omega) fun y hy _ e => by have := hn y e; have := hF y hy; omega
    have ho6' : OwnD w6 ov' (ds ++ [(⟨#[113]⟩, 4), (⟨#[112]⟩, 1)]) := by
      rw [OwnD, List.map_append]; exact ho6
    refine hK w6 _ ov' _ hs6 hR6 (by omega) (ho6'.dcls.weaken fun x hx _ => ?_) ⟨by rw [List.length_append]; simp; omega, fun i hi => ?_⟩
    · rcases hn6 x hx with h | h
      · exact hn x h
      · omega
    · rw [List.length_append] at hi
      by_cases hi2 : i < ds.length
      · rw [List.getD_eq_getElem?_getD, List.getElem?_append_left hi2, ← List.getD_eq_getElem?_getD]
        have := (hok.2 i hi2).2.2; omega
      · rw [List.getD_eq_getElem?_getD, List.getElem?_append_right (by omega)]
        have : i - ds.length = 0 ∨ i - ds.length = 1 := by simp at hi; omega
        rcases this with e | e <;> rw [e] <;> decide
  refine vif_dec (fun a3 => ?_) (fun a3 => ?_)
  · refine vbuildS_row (xs := []) (us := []) (k := 2) u_Limpl_Decl z_impl_Decl zr_impl_Decl rfl (by simp) (by decide) fun b5 w5 hb5 he5 hs5 h5 => ?_
    have ho5 := empty_own h5
    exact hK w5 _ _ [] (hs4'.trans (Same.of_ext he5)) (hR4.ext he5) (by omega) (ho5.dcls.weaken fun x hx _ => by have e : x = b5 := (Option.some.inj hx).symm; omega) ⟨by simp, fun i hi => by simp at hi⟩
  · exact hret _ _ _ hs4' hR4 (by omega) ho4 (dok_dsm hok)
theorem l2Env_spec {b p : Nat} {v dv : Value} {xs : List Nat} {ds : List M.Dcl} (h : RdR F w b v xs p) (hF : ∀ x, F x → x < w.heap.size) (hd : DclsR D w dv ds) (hD : ∀ x, D x → x ≠ b) (hD1 : ∀ x, D x → x < w.heap.size) (hok : Dsm ds) (hp : p + 20 < 1099511627776)
    (hK : ∀ w' p' ev env, Same (· = b) w w' → RdR F w' b v xs p' → p' ≤ p + 20 → Ints (fun x => w.heap.size ≤ x) w' ev env → K ev w') : vcall PP n_spec_l2Env #[.pointer (some ⟨b, 0, none⟩), dv] w K := by
  apply c_spec_l2Env; unfold F_spec_l2Env
  have lb := h.blk.lt
  have hlen := hok.1
  refine vbuildS_row1 (xs := []) u_Lint z_int zr_int (by simp) (by decide) fun b1 w1 hb1 he1 hs1 h1 => ?_
  have ho1 : OwnI PP T_Lint w1 (.slice (some ⟨b1, 0, none⟩) 0 0) [] := Blk.own1 (base := 0) (by rw [eo_Lint]; exact h1) (Nat.zero_le _) rfl rfl (by decide)
  have happ : ∀ {ov : Value} {ws : World} {es : List Int} {p2 : Nat} {x : Int} {K' : Value → World → Prop}, OwnI PP T_Lint ws ov es → (∀ y, ov.ownBlock = some y → w.heap.size ≤ y) → Same (· = b) w ws → RdR F ws b v xs p2 → es.length ≤ 100 →
      (∀ w' ov', OwnI PP T_Lint w' ov' (es ++ [x]) → (∀ y, ov'.ownBlock = some y → w.heap.size ≤ y) → Same (· = b) w w' → (DclsR D ws dv ds → DclsR D w' dv ds) → RdR F w' b v xs p2 → K' ov' w') →
      vbuildS PP T_Lint 1 [(0, .int .i64 x)] ws fun s w' => vbi PP .append [T_Lint, T_Lint] T_Lint [ov, s] w' K' := by
    intro ov ws es p2 x K' ho hn hs hR hl hk
    refine vbuildS1 u_Lint z_int zr_int rfl rfl (by decide) fun b3 w6 hb3 he6 hs6 h6 => ?_
    have hz6 := he6.size
    have hzs := hs.size
    refine (ho.ext he6).app1 l_Lint h6 (by omega) (by omega) fun ov' w7 ho7 hw7 hn7 => ?_
    have hs6' := hs.trans (Same.of_ext he6)
    refine hk w7 ov' ho7 (fun y hy => ?_) ⟨hw7.os.trans hs6'.os, hw7.tape.trans hs6'.tape, hw7.output.trans hs6'.output, Nat.le_trans hs6'.size hw7.size, fun y hy hne => by
      rw [hw7.block y (Nat.lt_of_lt_of_le hy hs6'.size) (fun e => by have := hn y e; omega)]; exact hs6'.block y hy hne⟩ (fun hd => (hd.ext he6).same hw7 fun y hy _ e => by have := hn y e; have := hD1 y hy; omega) ((hR.ext he6).same hw7 (fun e => by have := hn b e; omega) fun y hy _ e => by have := hn y e; have := hF y hy; omega)
    rcases hn7 y hy with h | h
    · exact hn y h
    · omega
  refine vloop_up ds.length (fun i u w' => ∃ ov es p', u = [ov, .int .i64 i] ∧ OwnI PP T_Lint w' ov es ∧ es.length = i ∧ (∀ y, ov.ownBlock = some y → w.heap.size ≤ y) ∧ Same (· = b) w w' ∧ RdR F w' b v xs p' ∧ p' ≤ p + i ∧ DclsR D w' dv ds)
    ⟨_, [], p, rfl, ho1, rfl, fun y hy => by have e : y = b1 := (Option.some.inj hy).symm; omega, Same.of_ext he1, h.ext he1, by omega, hd.ext he1⟩ ?_
  rintro i _ _ w2 C hi ⟨ov, es, p2, rfl, ho2, hl2, hn2, hs2, hR2, hp2, hd2⟩ hC
  have hz2 := hs2.size
  have hret : ∀ w3 p3 es3, Same (· = b) w w3 → RdR F w3 b v xs p3 → p3 ≤ p + 20 → OwnI PP T_Lint w3 ov es3 → K ov w3 := fun w3 p3 es3 hs hR hp3 ho => hK w3 p3 ov es3 hs hR hp3 (ho.ints.weaken fun x hx _ => hn2 x hx)
  simp (disch := (simp only [push_cast]; done)) only [push_cast, hd2.len]
  refine vif_dec (fun a => ?_) (fun a => ?_)
  · simp (disch := first | (simp only [push_cast]; done) | omega) only [push_cast, hd2.iaddr]
    try simp (disch := first | (simp only [push_cast]; done) | omega) only [push_cast, hd2.load1]
    refine l1Min_spec ?_
    refine l1Max_spec ?_
    refine l1Two_spec (by omega) ?_
    have hpw : 2 ^ (max 0 (min (ds.getD i (M.nada, 0)).2 4)).toNat ≤ 2 ^ 4 := Nat.pow_le_pow_right (by omega) (by omega)
    refine pick_spec hR2 (by omega) (by omega) fun w3 k hs3 hz3 hR3 _ _ => ?_
    refine happ (x := (k : Int)) (ho2.same hs3 fun x hx e => by have := hn2 x hx; omega) hn2 (hs2.trans hs3) hR3 (by omega) fun w4 ov' ho4 hn4 hs4 hd4 hR4 => ?_
    try simp only [push_cast]
    rw [inc64' (by omega)]
    exact hC (by omega) _ _ ⟨ov', _, _, rfl, ho4, by rw [List.length_append]; simp; omega, hn4, hs4, hR4, by omega, hd4 (hd2.same hs3 fun x hx _ e => hD x hx e)⟩
  refine pick_spec hR2 (by omega) (by omega) fun w3 k hs3 hz3 hR3 _ _ => ?_
  have ho3 : OwnI PP T_Lint w3 ov es := ho2.same hs3 fun x hx e => by have := hn2 x hx; omega
  have hs3' := hs2.trans hs3
  simp only [push_cast]
  refine vif_dec (fun a0 => ?_) (fun a0 => ?_)
  · refine happ (x := 0) ho3 hn2 hs3' hR3 (by omega) fun w4 ov' ho4 hn4 hs4 hd4 hR4 => ?_
    exact hK w4 _ ov' _ hs4 hR4 (by omega) (ho4.ints.weaken fun x hx _ => hn4 x hx)
  refine vif_dec (fun a1 => ?_) (fun a1 => ?_)
  · have hi3 := ho3.ints
    simp (disch := (simp only [push_cast]; done)) only [push_cast, hi3.len]
    refine vif_dec (fun a2 => ?_) (fun a2 => ?_)
    · refine num_lit (ns := [-1, 16, 9223372036854775807]) hR3 (by simp) (by decide) (by omega) fun w4 m hs4 hR4 hm => ?_
      have ho4 : OwnI PP T_Lint w4 ov es := ho3.same hs4 fun x hx e => by have := hn2 x hx; omega
      have hi4 := ho4.ints
      simp (disch := first | (simp only [push_cast]; done) | omega) only [push_cast, hi4.iaddr]
      have hs4' := hs3'.trans hs4
      refine ho4.st z_int (by omega) fun w5 ho5 hs5 _ => ?_
      refine hret w5 _ _ ⟨hs5.os.trans hs4'.os, hs5.tape.trans hs4'.tape, hs5.output.trans hs4'.output, Nat.le_trans hs4'.size hs5.size, fun y hy hne => by
        rw [hs5.block y (Nat.lt_of_lt_of_le hy hs4'.size) (fun e => by have := hn2 y e; omega)]; exact hs4'.block y hy hne⟩ (hR4.same hs5 (fun e => by have := hn2 b e; omega) fun y hy _ e => by have := hn2 y e; have := hF y hy; omega) (by omega) ho5
    · exact hret _ _ _ hs3' hR3 (by omega) ho3
  · exact hret _ _ _ hs3' hR3 (by omega) ho3
end Go.Proofs.YtbiabimalkkeiaaGreatDoor
