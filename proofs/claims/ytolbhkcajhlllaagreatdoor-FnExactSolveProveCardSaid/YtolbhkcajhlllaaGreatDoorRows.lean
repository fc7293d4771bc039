/-
  NARROWER THAN 'FOR EVERY INPUT', by the rows' own cells (each row's printed sentence says how): FnExactSolve: loops, ifaces, laid · FnExactSolveProve: loops, ifaces, laid · FnSolveFold: ifaces, laid.
  DERIVED. THE GIVEN ROWS OF THIS SEAT. 3 by the template 'for every input the law returns true; each argument reads behind the call as it read before'; 0 by the template 'total and deterministic' (their statements: YtolbhkcajhlllaaGreatDoorTotals.lean).
  GIVEN WITH THE SEED: the statements are not yours to turn. If you find one false, say at which input.
  Laid BY PROGRAM, IN A SANDBOX (cutbox-rows.mjs): the forced cells as the released guide's own fill.sh prints them over the translation ef362c824a93e818… (all of the seat's roots in one cut). By AI agents, Wed Nov 11 2026. No macro, syntax, notation, axiom, sorry.
-/
import Derived.Test.YtolbhkcajhlllaaGreatDoorChecked
import GoSem.PinnedTables
import GoSem.Claim
import GoSem.ClaimJoined
import GoSem.ClaimMapViews
import Derived.JoinedTies
import Derived.KernelRfl
namespace Go.Proofs.YtolbhkcajhlllaaGreatDoor
/- THE CELL 'sum', in the pinned program and in every row, IS THE sha256 OF THE DUMP (.gsa) THAT YtolbhkcajhlllaaGreatDoorProg.lean LOADS. Nothing in Lean hashes anything: it is a label: what it is worth is what the hold of that sum in a sandbox is worth. -/
noncomputable def Tryz.pinned : Pinned := { name := "ytolbhkcajhlllaagreatdoor", sum := "ef362c824a93e818508f082631ef2057a1a9a8cec8994e1518567c4c3c0c070a", checked := Tryz.checked }
namespace Rows
def none {H : Type} : Left H := { results := [], args := [] }

/- WHAT THE LISTED PACKAGE-LEVEL VARIABLES READ AS WHEN THE CALL BEGINS. Each datum BY PROGRAM (the guide's laid-datum.mjs) off the statement by which the dump's own 'gosem.cut.vars' lays the variable. In a bare row this is a premise. The card (YtolbhkcajhlllaaGreatDoorCards.lean) ties it to the program's text. -/
def laid_math_bits_deBruijn32tab {H : Type} : DataW H := .agg [.lit (.int .u8 0), .lit (.int .u8 1), .lit (.int .u8 28), .lit (.int .u8 2), .lit (.int .u8 29), .lit (.int .u8 14), .lit (.int .u8 24), .lit (.int .u8 3), .lit (.int .u8 30), .lit (.int .u8 22), .lit (.int .u8 20), .lit (.int .u8 15), .lit (.int .u8 25), .lit (.int .u8 17), .lit (.int .u8 4), .lit (.int .u8 8), .lit (.int .u8 31), .lit (.int .u8 27), .lit (.int .u8 13), .lit (.int .u8 23), .lit (.int .u8 21), .lit (.int .u8 19), .lit (.int .u8 16), .lit (.int .u8 7), .lit (.int .u8 26), .lit (.int .u8 12), .lit (.int .u8 18), .lit (.int .u8 6), .lit (.int .u8 11), .lit (.int .u8 5), .lit (.int .u8 10), .lit (.int .u8 9)]
def laid_math_bits_deBruijn64tab {H : Type} : DataW H := .agg [.lit (.int .u8 0), .lit (.int .u8 1), .lit (.int .u8 56), .lit (.int .u8 2), .lit (.int .u8 57), .lit (.int .u8 49), .lit (.int .u8 28), .lit (.int .u8 3), .lit (.int .u8 61), .lit (.int .u8 58), .lit (.int .u8 42), .lit (.int .u8 50), .lit (.int .u8 38), .lit (.int .u8 29), .lit (.int .u8 17), .lit (.int .u8 4), .lit (.int .u8 62), .lit (.int .u8 47), .lit (.int .u8 59), .lit (.int .u8 36), .lit (.int .u8 45), .lit (.int .u8 43), .lit (.int .u8 51), .lit (.int .u8 22), .lit (.int .u8 53), .lit (.int .u8 39), .lit (.int .u8 33), .lit (.int .u8 30), .lit (.int .u8 24), .lit (.int .u8 18), .lit (.int .u8 12), .lit (.int .u8 5), .lit (.int .u8 63), .lit (.int .u8 55), .lit (.int .u8 48), .lit (.int .u8 27), .lit (.int .u8 60), .lit (.int .u8 41), .lit (.int .u8 37), .lit (.int .u8 16), .lit (.int .u8 46), .lit (.int .u8 35), .lit (.int .u8 44), .lit (.int .u8 21), .lit (.int .u8 52), .lit (.int .u8 32), .lit (.int .u8 23), .lit (.int .u8 11), .lit (.int .u8 54), .lit (.int .u8 26), .lit (.int .u8 40), .lit (.int .u8 15), .lit (.int .u8 34), .lit (.int .u8 20), .lit (.int .u8 31), .lit (.int .u8 10), .lit (.int .u8 25), .lit (.int .u8 14), .lit (.int .u8 19), .lit (.int .u8 9), .lit (.int .u8 13), .lit (.int .u8 8), .lit (.int .u8 7), .lit (.int .u8 6)]
def laid_internal_strconv_uint64pow10 {H : Type} : DataW H := .agg [.lit (.int .u64 1), .lit (.int .u64 10), .lit (.int .u64 100), .lit (.int .u64 1000), .lit (.int .u64 10000), .lit (.int .u64 100000), .lit (.int .u64 1000000), .lit (.int .u64 10000000), .lit (.int .u64 100000000), .lit (.int .u64 1000000000), .lit (.int .u64 10000000000), .lit (.int .u64 100000000000), .lit (.int .u64 1000000000000), .lit (.int .u64 10000000000000), .lit (.int .u64 100000000000000), .lit (.int .u64 1000000000000000), .lit (.int .u64 10000000000000000), .lit (.int .u64 100000000000000000), .lit (.int .u64 1000000000000000000), .lit (.int .u64 10000000000000000000)]
def laid_unicode_utf8_acceptRanges {H : Type} : DataW H := .agg [.agg [.lit (.int .u8 128), .lit (.int .u8 191)], .agg [.lit (.int .u8 160), .lit (.int .u8 191)], .agg [.lit (.int .u8 128), .lit (.int .u8 159)], .agg [.lit (.int .u8 144), .lit (.int .u8 191)], .agg [.lit (.int .u8 128), .lit (.int .u8 143)], .agg [.lit (.int .u8 0), .lit (.int .u8 0)], .agg [.lit (.int .u8 0), .lit (.int .u8 0)], .agg [.lit (.int .u8 0), .lit (.int .u8 0)], .agg [.lit (.int .u8 0), .lit (.int .u8 0)], .agg [.lit (.int .u8 0), .lit (.int .u8 0)], .agg [.lit (.int .u8 0), .lit (.int .u8 0)], .agg [.lit (.int .u8 0), .lit (.int .u8 0)], .agg [.lit (.int .u8 0), .lit (.int .u8 0)], .agg [.lit (.int .u8 0), .lit (.int .u8 0)], .agg [.lit (.int .u8 0), .lit (.int .u8 0)], .agg [.lit (.int .u8 0), .lit (.int .u8 0)]]
def laid_loop_example_seedlip_impl_errRoom {H : Type} : DataW H := .iface "*errors.errorString" (.ptr (.agg [.lit (.string [110, 111, 32, 114, 111, 111, 109, 32, 102, 111, 114, 32, 97, 32, 103, 97, 116, 101])]))
def laid_loop_example_seedlip_impl_errBits {H : Type} : DataW H := .iface "*errors.errorString" (.ptr (.agg [.lit (.string [105, 110, 118, 97, 108, 105, 100, 32, 111, 112, 101, 114, 97, 110, 100, 115])]))
def laid_loop_example_seedlip_impl_errTerms {H : Type} : DataW H := .iface "*errors.errorString" (.ptr (.agg [.lit (.string [105, 110, 118, 97, 108, 105, 100, 32, 116, 101, 114, 109, 115])]))
def laid_loop_example_seedlip_impl_errNo {H : Type} : DataW H := .iface "*errors.errorString" (.ptr (.agg [.lit (.string [110, 111, 32, 115, 111, 108, 117, 116, 105, 111, 110])]))
def laid_loop_example_seedlip_impl_errMuch {H : Type} : DataW H := .iface "*errors.errorString" (.ptr (.agg [.lit (.string [116, 111, 111, 32, 109, 117, 99, 104])]))
/-- One of Go's own tables, pinned by name: the form's constant. -/
def laid_unicode_utf8_first : DataW Unit := Go.Pinned.utf8First

/-- 'laws.FnExactSolve': WHATEVER THE INPUT: true; the input reads as it did. -/
def fnExactSolveSpec : ChangeSpec := { name := "fnExactSolve", vars := ["loop.example/seedlip/impl.errTerms", "loop.example/seedlip/impl.errNo", "loop.example/seedlip/impl.errMuch", "loop.example/seedlip/impl.errRoom", "loop.example/seedlip/impl.errBits"], fn := fun _ => fun
  | [d1, d2, g1, g2, g3, g4, g5] => { results := [.lit (.bool true)], args := [d1, d2], vars := [g1, g2, g3, g4, g5] }
  | _ => none }
def fnExactSolveRow : OpenClaim := { program := "ytolbhkcajhlllaagreatdoor", sum := "ef362c824a93e818508f082631ef2057a1a9a8cec8994e1518567c4c3c0c070a", func := "loop.example/seedlip/laws.FnExactSolve", spec := "fnExactSolve", inPlace := ["internal/bytealg.IndexByteString", "internal/bytealg.IndexString", "internal/abi.NoEscape", "internal/bytealg.MakeNoZero", "internal/reflectlite.TypeOf"], unfollowed := true, recurses := true, named := ["loop.example/seedlip/impl.errTerms", "loop.example/seedlip/impl.errNo", "loop.example/seedlip/impl.errMuch", "loop.example/seedlip/impl.errRoom", "unicode/utf8.first", "unicode/utf8.acceptRanges", "internal/strconv.uint64pow10", "math/bits.deBruijn32tab", "math/bits.deBruijn64tab", "loop.example/seedlip/impl.errBits", "internal/bytealg.MaxLen"], ifaces := true, loops := true, plainKeys := false, apart := false, laid := [("math/bits.deBruijn32tab", laid_math_bits_deBruijn32tab), ("math/bits.deBruijn64tab", laid_math_bits_deBruijn64tab), ("internal/strconv.uint64pow10", laid_internal_strconv_uint64pow10), ("unicode/utf8.acceptRanges", laid_unicode_utf8_acceptRanges), ("loop.example/seedlip/impl.errRoom", laid_loop_example_seedlip_impl_errRoom), ("loop.example/seedlip/impl.errBits", laid_loop_example_seedlip_impl_errBits), ("loop.example/seedlip/impl.errTerms", laid_loop_example_seedlip_impl_errTerms), ("loop.example/seedlip/impl.errNo", laid_loop_example_seedlip_impl_errNo), ("loop.example/seedlip/impl.errMuch", laid_loop_example_seedlip_impl_errMuch), ("unicode/utf8.first", laid_unicode_utf8_first)] }
def FnExactSolveSaid : Prop := fnExactSolveRow.holds Tryz.pinned (OpenSpec.ofChange fnExactSolveSpec)

/-- ITS FALSE NEIGHBOUR: 'it returns false'. Refute it at one input. -/
def fnExactSolveWrong : ChangeSpec := { name := "fnExactSolve", vars := ["loop.example/seedlip/impl.errTerms", "loop.example/seedlip/impl.errNo", "loop.example/seedlip/impl.errMuch", "loop.example/seedlip/impl.errRoom", "loop.example/seedlip/impl.errBits"], fn := fun _ => fun
  | [d1, d2, g1, g2, g3, g4, g5] => { results := [.lit (.bool false)], args := [d1, d2], vars := [g1, g2, g3, g4, g5] }
  | _ => none }
def FnExactSolveWrongFalsely : Prop := fnExactSolveRow.holds Tryz.pinned (OpenSpec.ofChange fnExactSolveWrong)

/-- 'laws.FnExactSolveProve': WHATEVER THE INPUT: true; the input reads as it did. -/
def fnExactSolveProveSpec : ChangeSpec := { name := "fnExactSolveProve", vars := ["loop.example/seedlip/impl.errTerms", "loop.example/seedlip/impl.errNo", "loop.example/seedlip/impl.errMuch", "loop.example/seedlip/impl.errRoom", "loop.example/seedlip/impl.errBits"], fn := fun _ => fun
  | [d1, d2, d3, g1, g2, g3, g4, g5] => { results := [.lit (.bool true)], args := [d1, d2, d3], vars := [g1, g2, g3, g4, g5] }
  | _ => none }
def fnExactSolveProveRow : OpenClaim := { program := "ytolbhkcajhlllaagreatdoor", sum := "ef362c824a93e818508f082631ef2057a1a9a8cec8994e1518567c4c3c0c070a", func := "loop.example/seedlip/laws.FnExactSolveProve", spec := "fnExactSolveProve", inPlace := ["internal/bytealg.IndexByteString", "internal/bytealg.IndexString", "internal/abi.NoEscape", "internal/bytealg.MakeNoZero", "internal/reflectlite.TypeOf"], unfollowed := true, recurses := true, named := ["loop.example/seedlip/impl.errTerms", "loop.example/seedlip/impl.errNo", "loop.example/seedlip/impl.errMuch", "loop.example/seedlip/impl.errRoom", "unicode/utf8.first", "unicode/utf8.acceptRanges", "internal/strconv.uint64pow10", "math/bits.deBruijn32tab", "math/bits.deBruijn64tab", "loop.example/seedlip/impl.errBits", "internal/bytealg.MaxLen"], ifaces := true, loops := true, plainKeys := false, apart := false, laid := [("math/bits.deBruijn32tab", laid_math_bits_deBruijn32tab), ("math/bits.deBruijn64tab", laid_math_bits_deBruijn64tab), ("internal/strconv.uint64pow10", laid_internal_strconv_uint64pow10), ("unicode/utf8.acceptRanges", laid_unicode_utf8_acceptRanges), ("loop.example/seedlip/impl.errRoom", laid_loop_example_seedlip_impl_errRoom), ("loop.example/seedlip/impl.errBits", laid_loop_example_seedlip_impl_errBits), ("loop.example/seedlip/impl.errTerms", laid_loop_example_seedlip_impl_errTerms), ("loop.example/seedlip/impl.errNo", laid_loop_example_seedlip_impl_errNo), ("loop.example/seedlip/impl.errMuch", laid_loop_example_seedlip_impl_errMuch), ("unicode/utf8.first", laid_unicode_utf8_first)] }
def FnExactSolveProveSaid : Prop := fnExactSolveProveRow.holds Tryz.pinned (OpenSpec.ofChange fnExactSolveProveSpec)

/-- ITS FALSE NEIGHBOUR: 'it returns false'. Refute it at one input. -/
def fnExactSolveProveWrong : ChangeSpec := { name := "fnExactSolveProve", vars := ["loop.example/seedlip/impl.errTerms", "loop.example/seedlip/impl.errNo", "loop.example/seedlip/impl.errMuch", "loop.example/seedlip/impl.errRoom", "loop.example/seedlip/impl.errBits"], fn := fun _ => fun
  | [d1, d2, d3, g1, g2, g3, g4, g5] => { results := [.lit (.bool false)], args := [d1, d2, d3], vars := [g1, g2, g3, g4, g5] }
  | _ => none }
def FnExactSolveProveWrongFalsely : Prop := fnExactSolveProveRow.holds Tryz.pinned (OpenSpec.ofChange fnExactSolveProveWrong)

/-- 'laws.FnSolveFold': WHATEVER THE INPUT: true; the input reads as it did. -/
def fnSolveFoldSpec : ChangeSpec := { name := "fnSolveFold", vars := ["loop.example/seedlip/impl.errTerms", "loop.example/seedlip/impl.errNo", "loop.example/seedlip/impl.errMuch", "loop.example/seedlip/impl.errRoom", "loop.example/seedlip/impl.errBits"], fn := fun _ => fun
  | [d, g1, g2, g3, g4, g5] => { results := [.lit (.bool true)], args := [d], vars := [g1, g2, g3, g4, g5] }
  | _ => none }
def fnSolveFoldRow : OpenClaim := { program := "ytolbhkcajhlllaagreatdoor", sum := "ef362c824a93e818508f082631ef2057a1a9a8cec8994e1518567c4c3c0c070a", func := "loop.example/seedlip/laws.FnSolveFold", spec := "fnSolveFold", inPlace := ["internal/bytealg.IndexByteString", "internal/bytealg.IndexString", "internal/abi.NoEscape", "internal/bytealg.MakeNoZero", "internal/reflectlite.TypeOf"], unfollowed := true, recurses := true, named := ["loop.example/seedlip/impl.errTerms", "loop.example/seedlip/impl.errNo", "loop.example/seedlip/impl.errMuch", "loop.example/seedlip/impl.errRoom", "unicode/utf8.first", "unicode/utf8.acceptRanges", "internal/strconv.uint64pow10", "math/bits.deBruijn32tab", "math/bits.deBruijn64tab", "loop.example/seedlip/impl.errBits", "internal/bytealg.MaxLen"], ifaces := true, plainKeys := false, apart := false, laid := [("math/bits.deBruijn32tab", laid_math_bits_deBruijn32tab), ("math/bits.deBruijn64tab", laid_math_bits_deBruijn64tab), ("internal/strconv.uint64pow10", laid_internal_strconv_uint64pow10), ("unicode/utf8.acceptRanges", laid_unicode_utf8_acceptRanges), ("loop.example/seedlip/impl.errRoom", laid_loop_example_seedlip_impl_errRoom), ("loop.example/seedlip/impl.errBits", laid_loop_example_seedlip_impl_errBits), ("loop.example/seedlip/impl.errTerms", laid_loop_example_seedlip_impl_errTerms), ("loop.example/seedlip/impl.errNo", laid_loop_example_seedlip_impl_errNo), ("loop.example/seedlip/impl.errMuch", laid_loop_example_seedlip_impl_errMuch), ("unicode/utf8.first", laid_unicode_utf8_first)] }
def FnSolveFoldSaid : Prop := fnSolveFoldRow.holds Tryz.pinned (OpenSpec.ofChange fnSolveFoldSpec)

/-- ITS FALSE NEIGHBOUR: 'it returns false'. Refute it at one input. -/
def fnSolveFoldWrong : ChangeSpec := { name := "fnSolveFold", vars := ["loop.example/seedlip/impl.errTerms", "loop.example/seedlip/impl.errNo", "loop.example/seedlip/impl.errMuch", "loop.example/seedlip/impl.errRoom", "loop.example/seedlip/impl.errBits"], fn := fun _ => fun
  | [d, g1, g2, g3, g4, g5] => { results := [.lit (.bool false)], args := [d], vars := [g1, g2, g3, g4, g5] }
  | _ => none }
def FnSolveFoldWrongFalsely : Prop := fnSolveFoldRow.holds Tryz.pinned (OpenSpec.ofChange fnSolveFoldWrong)

/- THE SECOND FORM. 'bulk': how many values and letters a reading holds, each counted each time it is reached (what is shared counts as often as it is met; a slice's spare places count too). A statement '..UptoSaid' is the law's where the arguments, and the package variables that the reading takes, are together of bulk at most 1048576: NARROWER than '..Said'. Prove '..Said' where nothing that the law and all that it calls make is longer than what came in: it says more and counts as full. Else prove '..UptoSaid'. A law counts once. -/
mutual
def uptoBulk {H : Type} : DataW H → Nat
  | .lit (.string bytes) => bytes.length + 1
  | .lit _ => 1
  | .nil => 1
  | .ptr d => uptoBulk d + 1
  | .slice elems spare => uptoBulkAll elems + uptoBulkAll spare + 1
  | .agg parts => uptoBulkAll parts + 1
  | .iface _ d => uptoBulk d + 1
  | .map entries => uptoBulkEntries entries + 1
  | .held _ => 1
def uptoBulkAll {H : Type} : List (DataW H) → Nat
  | [] => 0
  | d :: r => uptoBulk d + uptoBulkAll r
def uptoBulkEntries {H : Type} : List (Lit × DataW H) → Nat
  | [] => 0
  | x :: r => uptoBulkEntry x + uptoBulkEntries r
def uptoBulkEntry {H : Type} : Lit × DataW H → Nat
  | (.string bytes, d) => bytes.length + uptoBulk d + 1
  | (_, d) => uptoBulk d + 1
 end
def uptoSmall : (H : Type) → List (DataW H) → Bool := fun _ ds => decide (uptoBulkAll ds ≤ 1048576)
def OpenSpec.upto (s : _root_.Go.ChangeSpec) : _root_.Go.OpenSpec := { _root_.Go.OpenSpec.ofChange s with cond := some uptoSmall }

/-- 'laws.FnExactSolve', WHERE WHAT IT READS IS OF BULK AT MOST 1048576: true; the input reads as it did. -/
def fnExactSolveUptoRow : OpenClaim := { program := "ytolbhkcajhlllaagreatdoor", sum := "ef362c824a93e818508f082631ef2057a1a9a8cec8994e1518567c4c3c0c070a", func := "loop.example/seedlip/laws.FnExactSolve", spec := "fnExactSolve", inPlace := ["internal/bytealg.IndexByteString", "internal/bytealg.IndexString", "internal/abi.NoEscape", "internal/bytealg.MakeNoZero", "internal/reflectlite.TypeOf"], unfollowed := true, recurses := true, named := ["loop.example/seedlip/impl.errTerms", "loop.example/seedlip/impl.errNo", "loop.example/seedlip/impl.errMuch", "loop.example/seedlip/impl.errRoom", "unicode/utf8.first", "unicode/utf8.acceptRanges", "internal/strconv.uint64pow10", "math/bits.deBruijn32tab", "math/bits.deBruijn64tab", "loop.example/seedlip/impl.errBits", "internal/bytealg.MaxLen"], ifaces := true, loops := true, plainKeys := false, apart := false, laid := [("math/bits.deBruijn32tab", laid_math_bits_deBruijn32tab), ("math/bits.deBruijn64tab", laid_math_bits_deBruijn64tab), ("internal/strconv.uint64pow10", laid_internal_strconv_uint64pow10), ("unicode/utf8.acceptRanges", laid_unicode_utf8_acceptRanges), ("loop.example/seedlip/impl.errRoom", laid_loop_example_seedlip_impl_errRoom), ("loop.example/seedlip/impl.errBits", laid_loop_example_seedlip_impl_errBits), ("loop.example/seedlip/impl.errTerms", laid_loop_example_seedlip_impl_errTerms), ("loop.example/seedlip/impl.errNo", laid_loop_example_seedlip_impl_errNo), ("loop.example/seedlip/impl.errMuch", laid_loop_example_seedlip_impl_errMuch), ("unicode/utf8.first", laid_unicode_utf8_first)], narrowed := true }
def FnExactSolveUptoSaid : Prop := fnExactSolveUptoRow.holds Tryz.pinned (OpenSpec.upto fnExactSolveSpec)

/-- 'laws.FnExactSolveProve', WHERE WHAT IT READS IS OF BULK AT MOST 1048576: true; the input reads as it did. -/
def fnExactSolveProveUptoRow : OpenClaim := { program := "ytolbhkcajhlllaagreatdoor", sum := "ef362c824a93e818508f082631ef2057a1a9a8cec8994e1518567c4c3c0c070a", func := "loop.example/seedlip/laws.FnExactSolveProve", spec := "fnExactSolveProve", inPlace := ["internal/bytealg.IndexByteString", "internal/bytealg.IndexString", "internal/abi.NoEscape", "internal/bytealg.MakeNoZero", "internal/reflectlite.TypeOf"], unfollowed := true, recurses := true, named := ["loop.example/seedlip/impl.errTerms", "loop.example/seedlip/impl.errNo", "loop.example/seedlip/impl.errMuch", "loop.example/seedlip/impl.errRoom", "unicode/utf8.first", "unicode/utf8.acceptRanges", "internal/strconv.uint64pow10", "math/bits.deBruijn32tab", "math/bits.deBruijn64tab", "loop.example/seedlip/impl.errBits", "internal/bytealg.MaxLen"], ifaces := true, loops := true, plainKeys := false, apart := false, laid := [("math/bits.deBruijn32tab", laid_math_bits_deBruijn32tab), ("math/bits.deBruijn64tab", laid_math_bits_deBruijn64tab), ("internal/strconv.uint64pow10", laid_internal_strconv_uint64pow10), ("unicode/utf8.acceptRanges", laid_unicode_utf8_acceptRanges), ("loop.example/seedlip/impl.errRoom", laid_loop_example_seedlip_impl_errRoom), ("loop.example/seedlip/impl.errBits", laid_loop_example_seedlip_impl_errBits), ("loop.example/seedlip/impl.errTerms", laid_loop_example_seedlip_impl_errTerms), ("loop.example/seedlip/impl.errNo", laid_loop_example_seedlip_impl_errNo), ("loop.example/seedlip/impl.errMuch", laid_loop_example_seedlip_impl_errMuch), ("unicode/utf8.first", laid_unicode_utf8_first)], narrowed := true }
def FnExactSolveProveUptoSaid : Prop := fnExactSolveProveUptoRow.holds Tryz.pinned (OpenSpec.upto fnExactSolveProveSpec)

/-- 'laws.FnSolveFold', WHERE WHAT IT READS IS OF BULK AT MOST 1048576: true; the input reads as it did. -/
def fnSolveFoldUptoRow : OpenClaim := { program := "ytolbhkcajhlllaagreatdoor", sum := "ef362c824a93e818508f082631ef2057a1a9a8cec8994e1518567c4c3c0c070a", func := "loop.example/seedlip/laws.FnSolveFold", spec := "fnSolveFold", inPlace := ["internal/bytealg.IndexByteString", "internal/bytealg.IndexString", "internal/abi.NoEscape", "internal/bytealg.MakeNoZero", "internal/reflectlite.TypeOf"], unfollowed := true, recurses := true, named := ["loop.example/seedlip/impl.errTerms", "loop.example/seedlip/impl.errNo", "loop.example/seedlip/impl.errMuch", "loop.example/seedlip/impl.errRoom", "unicode/utf8.first", "unicode/utf8.acceptRanges", "internal/strconv.uint64pow10", "math/bits.deBruijn32tab", "math/bits.deBruijn64tab", "loop.example/seedlip/impl.errBits", "internal/bytealg.MaxLen"], ifaces := true, plainKeys := false, apart := false, laid := [("math/bits.deBruijn32tab", laid_math_bits_deBruijn32tab), ("math/bits.deBruijn64tab", laid_math_bits_deBruijn64tab), ("internal/strconv.uint64pow10", laid_internal_strconv_uint64pow10), ("unicode/utf8.acceptRanges", laid_unicode_utf8_acceptRanges), ("loop.example/seedlip/impl.errRoom", laid_loop_example_seedlip_impl_errRoom), ("loop.example/seedlip/impl.errBits", laid_loop_example_seedlip_impl_errBits), ("loop.example/seedlip/impl.errTerms", laid_loop_example_seedlip_impl_errTerms), ("loop.example/seedlip/impl.errNo", laid_loop_example_seedlip_impl_errNo), ("loop.example/seedlip/impl.errMuch", laid_loop_example_seedlip_impl_errMuch), ("unicode/utf8.first", laid_unicode_utf8_first)], narrowed := true }
def FnSolveFoldUptoSaid : Prop := fnSolveFoldUptoRow.holds Tryz.pinned (OpenSpec.upto fnSolveFoldSpec)

end Rows
end Go.Proofs.YtolbhkcajhlllaaGreatDoor
