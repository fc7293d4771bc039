/- Maps with any values; interfaces; strings; shifts and bits of unsigned numbers. -/
import Derived.Test.YtbiabimalkkeiaaGreatDoorVcX
import Derived.Laws.Strings2
import Derived.Laws.Concat
import Derived.Laws.StructEq
import Derived.Laws.Shifts
import Derived.Laws.Build
set_option linter.unusedVariables false
set_option linter.unusedSimpArgs false
set_option linter.unnecessarySimpa false
set_option linter.unusedSectionVars false
namespace Go.Vc
open Go Go.MapKept

/-- A map whose entries are these. -/
def MapF (d : TypeDesc) (w : World) (b : Nat) (f : List (Value × Value)) : Prop :=
  ∃ es clock, w.heap[b]? = some (.map es clock) ∧ Stamped es clock ∧ (∀ x ∈ es.toList, IsKey d x.key) ∧ es.toList.map (fun e => (e.key, e.val)) = f
def mapB (P : Program) (t : TypeId) (d : TypeDesc) (e : TypeId) : Prop := ∃ kt, P.underlying t = some (.map kt e) ∧ P.underlying kt = some d

section
variable {P : Program} {t e : TypeId} {d : TypeDesc} {w w' : World} {K : Value → World → Prop} {b : Nat} {f : List (Value × Value)} {S : Nat → Prop}

theorem MapF.lt (h : MapF d w b f) : b < w.heap.size := by
  obtain ⟨es, cl, hb, _⟩ := h; exact (Array.getElem?_eq_some_iff.1 hb).1
theorem MapF.same (h : MapF d w b f) (hw : Same S w w') (hs : ¬ S b) : MapF d w' b f := by
  have hlt := h.lt
  obtain ⟨es, cl, hb, r⟩ := h; exact ⟨es, cl, (hw.block b hlt hs).trans hb, r⟩
theorem MapF.ext (h : MapF d w b f) (hw : Ext w w') : MapF d w' b f := h.same hw id
theorem MapF.nodup (h : MapF d w b f) : (f.map (·.1)).Nodup := by
  obtain ⟨es, cl, hb, hst, hks, rfl⟩ := h
  have := hst.2.2
  rw [List.map_map]
  exact this
theorem MapF.keys (h : MapF d w b f) : ∀ p, p ∈ f → IsKey d p.1 := by
  obtain ⟨es, cl, hb, hst, hks, rfl⟩ := h
  intro p hp
  obtain ⟨x, hx, rfl⟩ := List.mem_map.1 hp
  exact hks x hx

theorem vmkM_mapR {r : Option Value} {k : IntKind} {n : Nat} (hT : mapB P t d e) (hr : r = none ∨ r = some (.int k n)) (hK : ∀ b w', b = w.heap.size → MapF d w' b [] → Ext w w' → w'.heap.size = w.heap.size + 1 → K (.map (some b)) w') : vmkM P t r w K := by
  refine ⟨.map (some w.heap.size), w.alloc (.map #[] 0), ?_, hK _ _ rfl ⟨#[], 0, (heap_alloc w _).1, stamped_empty 0, by simp, rfl⟩ ⟨rfl, rfl, rfl, by simp, fun k hk _ => (heap_alloc w _).2 k hk⟩ (by simp)⟩
  obtain ⟨kt, hm, hd⟩ := hT
  rcases hr with rfl | rfl
  · simp [Instr.makeMap, newObj, Sem.run]
  · simp only [Instr.makeMap, Sem.run_bind, run_under hm, Result.andThen_ok]
    simp [asInt, asIntOf, newObj, Sem.run, Result.andThen]
theorem vmkM_map (hT : mapB P t d e) (hK : ∀ b w', b = w.heap.size → MapF d w' b [] → Ext w w' → w'.heap.size = w.heap.size + 1 → K (.map (some b)) w') : vmkM P t none w K := vmkM_mapR (k := .i64) (n := 0) hT (.inl rfl) hK

/-- A new key. -/
theorem vmset_new {k x : Value} (hT : mapB P t d e) (h : MapF d w b f) (hk : IsKey d k) (hn : ∀ v, (k, v) ∉ f)
    (hK : ∀ w', MapF d w' b (f ++ [(k, x)]) → Same (· = b) w w' → w'.heap.size = w.heap.size → K undef w') : vmset P t (.map (some b)) k x w K := by
  obtain ⟨kt, hm, hd⟩ := hT
  obtain ⟨es, cl, hb, hst, hks, rfl⟩ := h
  rcases findNow_spec hk es.toList 0 hks with ⟨h1, h2⟩ | ⟨j, e, h1, h2, h3⟩
  · refine ⟨(), { w with heap := w.heap.setIfInBounds b (.map (es.push { key := k, val := x, born := cl }) (cl + 1)) }, ?_, hK _ ⟨_, _, (heap_set hb).1, stamped_push hst h2, fun y hy => ?_, by simp⟩ (same_set hb) (by simp)⟩
    · simp [Instr.mapUpdate, run_underlying hm, MapKept.run_getObj_map hb, run_checkKey hd hk, run_findKey hd h1, run_setObj_map _ hb, Result.andThen]
    · rw [Array.toList_push] at hy
      rcases List.mem_append.1 hy with hy | hy
      · exact hks y hy
      · rw [List.mem_singleton.1 hy]; exact hk
  · exact absurd (List.mem_map.2 ⟨e, List.mem_of_getElem? h2, by rw [h3]⟩) (hn e.val)

theorem vlook_in {k v : Value} {ok : Bool} (hT : mapB P t d e) (h : MapF d w b f) (hk : IsKey d k) (hin : (k, v) ∈ f) :
    vlook P t (.map (some b)) k ok w K = K (if ok then .tuple #[v, .bool true] else v) w := by
  obtain ⟨kt, hm, hd⟩ := hT
  have hnd := h.nodup
  obtain ⟨es, cl, hb, hst, hks, rfl⟩ := h
  rcases findNow_spec hk es.toList 0 hks with ⟨h1, h2⟩ | ⟨j, e, h1, h2, h3⟩
  · obtain ⟨x, hx, e⟩ := List.mem_map.1 hin
    cases e; exact absurd rfl (h2 x hx)
  · obtain ⟨x, hx, e'⟩ := List.mem_map.1 hin
    have hxe : x = e := by
      have hm2 : e ∈ es.toList := List.mem_of_getElem? h2
      have hp := hst.2.2
      cases e'
      have hp' : es.toList.Pairwise fun a b => a.key ≠ b.key := List.pairwise_map.1 hp
      by_cases hne : x = e
      · exact hne
      · obtain ⟨i1, hi1, e1⟩ := List.getElem_of_mem hx
        obtain ⟨i2, hi2, e2⟩ := List.getElem_of_mem hm2
        rcases Nat.lt_trichotomy i1 i2 with hlt | heq | hlt
        · exact absurd (by rw [e1, e2]; exact h3.symm) (List.pairwise_iff_getElem.1 hp' i1 i2 hi1 hi2 hlt)
        · subst heq; exact absurd (e1.symm.trans e2) hne
        · exact absurd (by rw [e1, e2]; exact h3) (List.pairwise_iff_getElem.1 hp' i2 i1 hi2 hi1 hlt)
    subst hxe
    cases e'
    refine vrun_eq ?_
    cases ok <;> simp [Instr.lookup, run_underlying hm, MapKept.run_getObj_map hb, run_checkKey hd hk, run_findKey hd h1, Result.andThen]
theorem vlook_out {k z : Value} {ok : Bool} (hT : mapB P t d e) (hz : zeroB P e z) (h : MapF d w b f) (hk : IsKey d k) (hn : ∀ v, (k, v) ∉ f) :
    vlook P t (.map (some b)) k ok w K = K (if ok then .tuple #[z, .bool false] else z) w := by
  obtain ⟨kt, hm, hd⟩ := hT
  obtain ⟨es, cl, hb, hst, hks, rfl⟩ := h
  rcases findNow_spec hk es.toList 0 hks with ⟨h1, h2⟩ | ⟨j, e, h1, h2, h3⟩
  · refine vrun_eq ?_
    cases ok <;> simp [Instr.lookup, run_underlying hm, MapKept.run_getObj_map hb, run_checkKey hd hk, run_findKey hd h1, run_zero hz, Result.andThen]
  · exact absurd (List.mem_map.2 ⟨e, List.mem_of_getElem? h2, by rw [h3]⟩) (hn e.val)

/-! ### Interfaces -/
theorem vinvoke_of {ty : TypeId} {v rcv : Value} {name : String} {args : Array Value} {g : Nat} (hm : ∀ w : World, (method (P.types.size + Made.depth) ty v name).run P w = .ok (g, rcv) w) (h : vcall P g ⟨rcv :: args.toList⟩ w K) : vinvoke P (.iface ty v) name args w K :=
  ⟨g, rcv, hm w, h⟩
def concB (P : Program) (t : TypeId) : Bool := match P.underlying t with | some (.interface _) => false | some _ => true | none => false
theorem vmkI_eq (h : concB P t = true) (v : Value) : vmkI P t v w K = K (.iface t v) w := by
  refine vrun_eq ?_
  unfold concB at h
  cases hu : P.underlying t with
  | none => rw [hu] at h; cases h
  | some x =>
    rw [hu] at h
    simp only [Instr.makeInterface, Sem.run_bind, run_under hu, Result.andThen_ok]
    cases x <;> first | (cases h; done) | simp

/-! ### Strings -/
theorem bytes_dec (a b : ByteArray) : (a.toList == b.toList) = decide (a = b) := by
  rw [← beq_toListBytes]
  by_cases h : a = b
  · subst h; rw [decide_eq_true rfl]; exact (MapKept.bytes_beq a a).2 rfl
  · rw [decide_eq_false h, Bool.eq_false_iff]; exact fun e => h ((MapKept.bytes_beq a b).1 e)
@[push_cast] theorem vbin_streq {c : Bool} (t : TypeId) (a b : ByteArray) : vbin P .eql t c (.string a) (.string b) w K = K (.bool (decide (a = b))) w :=
  vbin_run rfl (by rw [binOp_string_eql, bytes_dec]; rfl)
@[push_cast] theorem vbin_strne {c : Bool} (t : TypeId) (a b : ByteArray) : vbin P .neq t c (.string a) (.string b) w K = K (.bool (decide (a ≠ b))) w :=
  vbin_run rfl (by rw [binOp_string_neq, bytes_dec, decide_not]; rfl)
theorem vbin_stradd {c : Bool} {t : TypeId} {a b : ByteArray} (h : a.size + b.size ≤ 9223372036854775807) : vbin P .add t c (.string a) (.string b) w K = K (.string (a ++ b)) w :=
  vbin_run rfl (by simp only [binOp_string_add]; exact run_string_add_sum w a b h)
theorem vlen_str {t ty : TypeId} {s : ByteArray} (h : P.underlying t = some .string) : vbi P .len [t] ty [.string s] w K = K (.int .i64 s.size) w :=
  vrun_eq (run_len_string (P := P) (w := w) t ty s h)
theorem vindex_str {t : TypeId} {s : ByteArray} {k : IntKind} {i : Int} (h : P.underlying t = some .string) (h0 : 0 ≤ i) (h1 : i < s.size) : vindex P t (.string s) (.int k i) w K = K (.int .u8 ((s.data.getD i.toNat 0).toNat : Int)) w := by
  refine vrun_eq ?_
  rw [run_index_string (P := P) (w := w) t s k i h]
  have hlt : i.toNat < s.size := by omega
  have hd : i.toNat < s.data.size := hlt
  rw [dif_pos ⟨h0, h1⟩, Array.getD_eq_getD_getElem?, Array.getElem?_eq_getElem hd]
  rfl
theorem vslice_str {t : TypeId} {s : ByteArray} {k k' : IntKind} {i j : Int} (h : P.underlying t = some .string) (h0 : 0 ≤ i) (h1 : i ≤ j) (h2 : j ≤ s.size) : vslice P t (.string s) (some (.int k i)) (some (.int k' j)) none w K = K (.string (s.extract i.toNat j.toNat)) w := by
  refine vrun_eq ?_
  rw [run_sliceAt_string w t _ _ _ _ h]
  exact run_slice_string (P := P) w t s k k' i j h h0 h1 h2
/-! ### Shifts and bits of unsigned numbers -/
theorem vbin_shl {c : Bool} {t : TypeId} {k yk : IntKind} {x y : Int} (h : 0 ≤ y) : vbin P .shl t c (.int k x) (.int yk y) w K = K (.int k (k.wrap (x * 2 ^ min y.toNat k.bits))) w :=
  vbin_run rfl (by simp [binOp, shift_shl_any, h])
theorem vbin_shr {c : Bool} {t : TypeId} {k yk : IntKind} {x y : Int} (h : 0 ≤ y) : vbin P .shr t c (.int k x) (.int yk y) w K = K (.int k (x / 2 ^ min y.toNat k.bits)) w :=
  vbin_run rfl (by simp [binOp, shift_shr_any, h])
theorem wrapU {n : Nat} (h : n < 18446744073709551616) : IntKind.u64.wrap (n : Int) = n := by
  simp only [IntKind.wrap, IntKind.bits, IntKind.signed, Bool.false_and, Bool.false_eq_true, if_false]
  omega
theorem wrapN {n : Nat} (h : n < 9223372036854775808) : IntKind.i64.wrap (n : Int) = n := wrap64 (by omega) (by omega)
theorem ofIntN (n : Nat) : BitVec.ofInt 64 (n : Int) = BitVec.ofNat 64 n := by simp
theorem vbin_andU {c : Bool} {t : TypeId} {a b : Nat} (ha : a < 18446744073709551616) (hb : b < 18446744073709551616) : vbin P .and t c (.int .u64 a) (.int .u64 b) w K = K (.int .u64 (a &&& b : Nat)) w :=
  vbin_run rfl (by
    have h1 : a &&& b < 18446744073709551616 := Nat.lt_of_le_of_lt Nat.and_le_left ha
    have e : (BitVec.ofInt 64 (a : Int) &&& BitVec.ofInt 64 (b : Int)).toNat = a &&& b := by
      rw [ofIntN, ofIntN, BitVec.toNat_and, BitVec.toNat_ofNat, BitVec.toNat_ofNat, Nat.mod_eq_of_lt ha, Nat.mod_eq_of_lt hb]
    simp only [binOp, ne_eq, not_true_eq_false, if_false, Op.intBits]
    show (pure (Value.int .u64 (IntKind.u64.wrap ((BitVec.ofInt 64 (a : Int) &&& BitVec.ofInt 64 (b : Int)).toNat : Int))) : Sem Value).run P w = _
    rw [e, wrapU h1]; rfl)
theorem vbin_orU {c : Bool} {t : TypeId} {a b : Nat} (ha : a < 18446744073709551616) (hb : b < 18446744073709551616) : vbin P .or t c (.int .u64 a) (.int .u64 b) w K = K (.int .u64 (a ||| b : Nat)) w :=
  vbin_run rfl (by
    have h1 : a ||| b < 2 ^ 64 := Nat.or_lt_two_pow ha hb
    have e : (BitVec.ofInt 64 (a : Int) ||| BitVec.ofInt 64 (b : Int)).toNat = a ||| b := by
      rw [ofIntN, ofIntN, BitVec.toNat_or, BitVec.toNat_ofNat, BitVec.toNat_ofNat, Nat.mod_eq_of_lt ha, Nat.mod_eq_of_lt hb]
    simp only [binOp, ne_eq, not_true_eq_false, if_false, Op.intBits]
    show (pure (Value.int .u64 (IntKind.u64.wrap ((BitVec.ofInt 64 (a : Int) ||| BitVec.ofInt 64 (b : Int)).toNat : Int))) : Sem Value).run P w = _
    rw [e, wrapU h1]; rfl)
theorem vbin_xorU {c : Bool} {t : TypeId} {a b : Nat} (ha : a < 18446744073709551616) (hb : b < 18446744073709551616) : vbin P .xor t c (.int .u64 a) (.int .u64 b) w K = K (.int .u64 (a ^^^ b : Nat)) w :=
  vbin_run rfl (by
    have h1 : a ^^^ b < 2 ^ 64 := Nat.xor_lt_two_pow ha hb
    have e : (BitVec.ofInt 64 (a : Int) ^^^ BitVec.ofInt 64 (b : Int)).toNat = a ^^^ b := by
      rw [ofIntN, ofIntN, BitVec.toNat_xor, BitVec.toNat_ofNat, BitVec.toNat_ofNat, Nat.mod_eq_of_lt ha, Nat.mod_eq_of_lt hb]
    simp only [binOp, ne_eq, not_true_eq_false, if_false, Op.intBits]
    show (pure (Value.int .u64 (IntKind.u64.wrap ((BitVec.ofInt 64 (a : Int) ^^^ BitVec.ofInt 64 (b : Int)).toNat : Int))) : Sem Value).run P w = _
    rw [e, wrapU h1]; rfl)
theorem vbin_orI {c : Bool} {t : TypeId} {a b : Nat} (ha : a < 9223372036854775808) (hb : b < 9223372036854775808) : vbin P .or t c (.int .i64 a) (.int .i64 b) w K = K (.int .i64 (a ||| b : Nat)) w :=
  vbin_run rfl (by
    have h1 : a ||| b < 2 ^ 63 := Nat.or_lt_two_pow ha hb
    have e : (BitVec.ofInt 64 (a : Int) ||| BitVec.ofInt 64 (b : Int)).toNat = a ||| b := by
      rw [ofIntN, ofIntN, BitVec.toNat_or, BitVec.toNat_ofNat, BitVec.toNat_ofNat, Nat.mod_eq_of_lt (by omega), Nat.mod_eq_of_lt (by omega)]
    simp only [binOp, ne_eq, not_true_eq_false, if_false, Op.intBits]
    show (pure (Value.int .i64 (IntKind.i64.wrap ((BitVec.ofInt 64 (a : Int) ||| BitVec.ofInt 64 (b : Int)).toNat : Int))) : Sem Value).run P w = _
    rw [e, wrapN h1]; rfl)
theorem vun_xorU {a : Nat} (ha : a < 18446744073709551616) : vun P .xor (.int .u64 a) w K = K (.int .u64 (18446744073709551615 - a : Nat)) w := by
  refine vrun_eq ?_
  have e : (BitVec.ofInt 64 (18446744073709551615 : Int) ^^^ BitVec.ofInt 64 (a : Int)).toNat = 18446744073709551615 - a := by
    have e0 : BitVec.ofInt 64 (18446744073709551615 : Int) = BitVec.allOnes 64 := by decide
    rw [e0, ofIntN, BitVec.allOnes_xor, BitVec.toNat_not, BitVec.toNat_ofNat, Nat.mod_eq_of_lt ha]
  show (pure (Value.int .u64 (IntKind.u64.wrap ((BitVec.ofInt 64 (18446744073709551615 : Int) ^^^ BitVec.ofInt 64 (a : Int)).toNat : Int))) : Sem Value).run P w = _
  rw [e, wrapU (by omega)]; rfl
theorem vbin_shlU {c : Bool} {t : TypeId} {yk : IntKind} {x y : Nat} (hy : y < 64) (h : x * 2 ^ y < 18446744073709551616) : vbin P .shl t c (.int .u64 x) (.int yk y) w K = K (.int .u64 (x * 2 ^ y : Nat)) w := by
  rw [vbin_shl (by omega)]
  have e : ((x : Int) * 2 ^ min (y : Int).toNat IntKind.u64.bits) = ((x * 2 ^ y : Nat) : Int) := by
    have : min (y : Int).toNat IntKind.u64.bits = y := by show min y 64 = y; omega
    rw [this]; simp
  rw [e, wrapU h]
theorem vbin_shlI {c : Bool} {t : TypeId} {yk : IntKind} {x y : Nat} (hy : y < 64) (h : x * 2 ^ y < 9223372036854775808) : vbin P .shl t c (.int .i64 x) (.int yk y) w K = K (.int .i64 (x * 2 ^ y : Nat)) w := by
  rw [vbin_shl (by omega)]
  have e : ((x : Int) * 2 ^ min (y : Int).toNat IntKind.i64.bits) = ((x * 2 ^ y : Nat) : Int) := by
    have : min (y : Int).toNat IntKind.i64.bits = y := by show min y 64 = y; omega
    rw [this]; simp
  rw [e, wrapN h]
theorem vbin_shrU {c : Bool} {t : TypeId} {yk : IntKind} {x y : Nat} (hy : y < 64) : vbin P .shr t c (.int .u64 x) (.int yk y) w K = K (.int .u64 (x / 2 ^ y : Nat)) w := by
  rw [vbin_shr (by omega)]
  have : min (y : Int).toNat IntKind.u64.bits = y := by show min y 64 = y; omega
  rw [this]; simp
theorem vbox_agg {t : TypeId} {cs : List Value} (h : ∀ b w', b = w.heap.size → Ext w w' → w'.heap.size = w.heap.size + 1 → Blk w' b cs t → K (.pointer (some ⟨b, 0, none⟩)) w') : vbox P t (.agg ⟨cs⟩) w K := vbox_new h
theorem valloc_agg {t : TypeId} {cs : List Value} (hz : zeroB P t (.agg ⟨cs⟩)) (h : ∀ b w', b = w.heap.size → Ext w w' → w'.heap.size = w.heap.size + 1 → Blk w' b cs t → K (.pointer (some ⟨b, 0, none⟩)) w') : valloc P t w K := valloc_new hz h
theorem vbuild_eq {t : TypeId} {pl : List (Nat × Nat)} {ps : List (Nat × Value)} {us : List (List Value)} {zs cs : List Value} (h : strF P t = some (pl, zs)) (hv : ps.map (fun p => p.2.cells) = us.map List.toArray)
    (hf : fillC pl zs (ps.map (·.1)) us = some cs) : vbuild P t ps w K = K (.agg ⟨cs⟩) w := by
  refine vrun_eq (run_build (P := P) w t ⟨ps⟩ ⟨cs⟩ ?_)
  unfold strF at h
  split at h
  · rename_i fs i hu hi
    split at h
    · rename_i pl' z hp hz
      simp only [Option.some.injEq, Prod.mk.injEq] at h
      obtain ⟨rfl, rfl⟩ := h
      simp only [Program.built, hu, hi, hz, hp]
      exact fill_eq hv hf
    · cases h
  · cases h
theorem isKey_str (s : ByteArray) : IsKey .string (.string s) := by simp [IsKey]
theorem oc_int (k : IntKind) (n : Int) : (Value.int k n).oneCell' = true := rfl
theorem oc_str (s : ByteArray) : (Value.string s).oneCell' = true := rfl
theorem oc_bool (s : Bool) : (Value.bool s).oneCell' = true := rfl
theorem oc_map (s : Option Nat) : (Value.map s).oneCell' = true := rfl
theorem oc_iface (t : TypeId) (v : Value) : (Value.iface t v).oneCell' = true := rfl
theorem oc_func (f : Fn) (a b : Array Value) : (Value.func f a b).oneCell' = true := rfl
theorem inc64' {i : Nat} (h : i < 9223372036854775807) : IntKind.i64.wrap ((i : Int) + 1) = ((i + 1 : Nat) : Int) := by rw [wrap64 (by omega) (by omega)]; omega
end
end Go.Vc
