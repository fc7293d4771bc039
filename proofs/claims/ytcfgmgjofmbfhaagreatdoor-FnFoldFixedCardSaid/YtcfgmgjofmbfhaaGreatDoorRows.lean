/-
  NARROWER THAN 'FOR EVERY INPUT', by the rows' own cells (each row's printed sentence says how): FnFoldKids: laid · FnFoldTwice: laid · FnExactTermOne: loops, laid · FnExactTermFold: loops, laid · FnEnvMore: laid · FnFoldOne: laid · FnFold: laid · FnFoldFixed: laid.
  DERIVED. THE GIVEN ROWS OF THIS SEAT. 8 by the template 'for every input the law returns true; each argument reads behind the call as it read before'; 0 by the template 'total and deterministic' (their statements: YtcfgmgjofmbfhaaGreatDoorTotals.lean).
  GIVEN WITH THE SEED: the statements are not yours to turn. If you find one false, say at which input.
  Laid BY PROGRAM, IN A SANDBOX (cutbox-rows.mjs): the forced cells as the released guide's own fill.sh prints them over the translation cf3ff413e3d186b5… (all of the seat's roots in one cut). By AI agents, Wed Nov 11 2026. No macro, syntax, notation, axiom, sorry.
-/
import Derived.Test.YtcfgmgjofmbfhaaGreatDoorChecked
import GoSem.PinnedTables
import GoSem.Claim
import GoSem.ClaimJoined
import GoSem.ClaimMapViews
import Derived.JoinedTies
import Derived.KernelRfl
namespace Go.Proofs.YtcfgmgjofmbfhaaGreatDoor
/- THE CELL 'sum', in the pinned program and in every row, IS THE sha256 OF THE DUMP (.gsa) THAT YtcfgmgjofmbfhaaGreatDoorProg.lean LOADS. Nothing in Lean hashes anything: it is a label: what it is worth is what the hold of that sum in a sandbox is worth. -/
noncomputable def Tryz.pinned : Pinned := { name := "ytcfgmgjofmbfhaagreatdoor", sum := "cf3ff413e3d186b5de5ae97ef59512330785cf92a8804b0a3f3540468b03fc57", checked := Tryz.checked }
namespace Rows
def none {H : Type} : Left H := { results := [], args := [] }

/- WHAT THE LISTED PACKAGE-LEVEL VARIABLES READ AS WHEN THE CALL BEGINS. Each datum BY PROGRAM (the guide's laid-datum.mjs) off the statement by which the dump's own 'gosem.cut.vars' lays the variable. In a bare row this is a premise. The card (YtcfgmgjofmbfhaaGreatDoorCards.lean) ties it to the program's text. -/
def laid_unicode_utf8_acceptRanges {H : Type} : DataW H := .agg [.agg [.lit (.int .u8 128), .lit (.int .u8 191)], .agg [.lit (.int .u8 160), .lit (.int .u8 191)], .agg [.lit (.int .u8 128), .lit (.int .u8 159)], .agg [.lit (.int .u8 144), .lit (.int .u8 191)], .agg [.lit (.int .u8 128), .lit (.int .u8 143)], .agg [.lit (.int .u8 0), .lit (.int .u8 0)], .agg [.lit (.int .u8 0), .lit (.int .u8 0)], .agg [.lit (.int .u8 0), .lit (.int .u8 0)], .agg [.lit (.int .u8 0), .lit (.int .u8 0)], .agg [.lit (.int .u8 0), .lit (.int .u8 0)], .agg [.lit (.int .u8 0), .lit (.int .u8 0)], .agg [.lit (.int .u8 0), .lit (.int .u8 0)], .agg [.lit (.int .u8 0), .lit (.int .u8 0)], .agg [.lit (.int .u8 0), .lit (.int .u8 0)], .agg [.lit (.int .u8 0), .lit (.int .u8 0)], .agg [.lit (.int .u8 0), .lit (.int .u8 0)]]
/-- One of Go's own tables, pinned by name: the form's constant. -/
def laid_unicode_utf8_first : DataW Unit := Go.Pinned.utf8First

/-- 'laws.FnFoldKids': WHATEVER THE INPUT: true; the input reads as it did. -/
def fnFoldKidsSpec : ChangeSpec := { name := "fnFoldKids", fn := fun _ => fun
  | [d] => { results := [.lit (.bool true)], args := [d] }
  | _ => none }
def fnFoldKidsRow : OpenClaim := { program := "ytcfgmgjofmbfhaagreatdoor", sum := "cf3ff413e3d186b5de5ae97ef59512330785cf92a8804b0a3f3540468b03fc57", func := "loop.example/seedlip/laws.FnFoldKids", spec := "fnFoldKids", inPlace := ["internal/bytealg.IndexByteString", "internal/bytealg.IndexString"], unfollowed := true, recurses := true, named := ["unicode/utf8.first", "unicode/utf8.acceptRanges", "internal/bytealg.MaxLen"], apart := false, laid := [("unicode/utf8.acceptRanges", laid_unicode_utf8_acceptRanges), ("unicode/utf8.first", laid_unicode_utf8_first)] }
def FnFoldKidsSaid : Prop := fnFoldKidsRow.holds Tryz.pinned (OpenSpec.ofChange fnFoldKidsSpec)

/-- ITS FALSE NEIGHBOUR: 'it returns false'. Refute it at one input. -/
def fnFoldKidsWrong : ChangeSpec := { name := "fnFoldKids", fn := fun _ => fun
  | [d] => { results := [.lit (.bool false)], args := [d] }
  | _ => none }
def FnFoldKidsWrongFalsely : Prop := fnFoldKidsRow.holds Tryz.pinned (OpenSpec.ofChange fnFoldKidsWrong)

/-- 'laws.FnFoldTwice': WHATEVER THE INPUT: true; the input reads as it did. -/
def fnFoldTwiceSpec : ChangeSpec := { name := "fnFoldTwice", fn := fun _ => fun
  | [d] => { results := [.lit (.bool true)], args := [d] }
  | _ => none }
def fnFoldTwiceRow : OpenClaim := { program := "ytcfgmgjofmbfhaagreatdoor", sum := "cf3ff413e3d186b5de5ae97ef59512330785cf92a8804b0a3f3540468b03fc57", func := "loop.example/seedlip/laws.FnFoldTwice", spec := "fnFoldTwice", inPlace := ["internal/bytealg.IndexByteString", "internal/bytealg.IndexString"], unfollowed := true, recurses := true, named := ["unicode/utf8.first", "unicode/utf8.acceptRanges", "internal/bytealg.MaxLen"], apart := false, laid := [("unicode/utf8.acceptRanges", laid_unicode_utf8_acceptRanges), ("unicode/utf8.first", laid_unicode_utf8_first)] }
def FnFoldTwiceSaid : Prop := fnFoldTwiceRow.holds Tryz.pinned (OpenSpec.ofChange fnFoldTwiceSpec)

/-- ITS FALSE NEIGHBOUR: 'it returns false'. Refute it at one input. -/
def fnFoldTwiceWrong : ChangeSpec := { name := "fnFoldTwice", fn := fun _ => fun
  | [d] => { results := [.lit (.bool false)], args := [d] }
  | _ => none }
def FnFoldTwiceWrongFalsely : Prop := fnFoldTwiceRow.holds Tryz.pinned (OpenSpec.ofChange fnFoldTwiceWrong)

/-- 'laws.FnExactTermOne': WHATEVER THE INPUT: true; the input reads as it did. -/
def fnExactTermOneSpec : ChangeSpec := { name := "fnExactTermOne", fn := fun _ => fun
  | [d1, d2] => { results := [.lit (.bool true)], args := [d1, d2] }
  | _ => none }
def fnExactTermOneRow : OpenClaim := { program := "ytcfgmgjofmbfhaagreatdoor", sum := "cf3ff413e3d186b5de5ae97ef59512330785cf92a8804b0a3f3540468b03fc57", func := "loop.example/seedlip/laws.FnExactTermOne", spec := "fnExactTermOne", inPlace := ["internal/bytealg.IndexByteString", "internal/bytealg.IndexString"], unfollowed := true, recurses := true, named := ["unicode/utf8.first", "unicode/utf8.acceptRanges", "internal/bytealg.MaxLen"], loops := true, apart := false, laid := [("unicode/utf8.acceptRanges", laid_unicode_utf8_acceptRanges), ("unicode/utf8.first", laid_unicode_utf8_first)] }
def FnExactTermOneSaid : Prop := fnExactTermOneRow.holds Tryz.pinned (OpenSpec.ofChange fnExactTermOneSpec)

/-- ITS FALSE NEIGHBOUR: 'it returns false'. Refute it at one input. -/
def fnExactTermOneWrong : ChangeSpec := { name := "fnExactTermOne", fn := fun _ => fun
  | [d1, d2] => { results := [.lit (.bool false)], args := [d1, d2] }
  | _ => none }
def FnExactTermOneWrongFalsely : Prop := fnExactTermOneRow.holds Tryz.pinned (OpenSpec.ofChange fnExactTermOneWrong)

/-- 'laws.FnExactTermFold': WHATEVER THE INPUT: true; the input reads as it did. -/
def fnExactTermFoldSpec : ChangeSpec := { name := "fnExactTermFold", fn := fun _ => fun
  | [d1, d2] => { results := [.lit (.bool true)], args := [d1, d2] }
  | _ => none }
def fnExactTermFoldRow : OpenClaim := { program := "ytcfgmgjofmbfhaagreatdoor", sum := "cf3ff413e3d186b5de5ae97ef59512330785cf92a8804b0a3f3540468b03fc57", func := "loop.example/seedlip/laws.FnExactTermFold", spec := "fnExactTermFold", inPlace := ["internal/bytealg.IndexByteString", "internal/bytealg.IndexString"], unfollowed := true, recurses := true, named := ["unicode/utf8.first", "unicode/utf8.acceptRanges", "internal/bytealg.MaxLen"], loops := true, apart := false, laid := [("unicode/utf8.acceptRanges", laid_unicode_utf8_acceptRanges), ("unicode/utf8.first", laid_unicode_utf8_first)] }
def FnExactTermFoldSaid : Prop := fnExactTermFoldRow.holds Tryz.pinned (OpenSpec.ofChange fnExactTermFoldSpec)

/-- ITS FALSE NEIGHBOUR: 'it returns false'. Refute it at one input. -/
def fnExactTermFoldWrong : ChangeSpec := { name := "fnExactTermFold", fn := fun _ => fun
  | [d1, d2] => { results := [.lit (.bool false)], args := [d1, d2] }
  | _ => none }
def FnExactTermFoldWrongFalsely : Prop := fnExactTermFoldRow.holds Tryz.pinned (OpenSpec.ofChange fnExactTermFoldWrong)

/-- 'laws.FnEnvMore': WHATEVER THE INPUT: true; the input reads as it did. -/
def fnEnvMoreSpec : ChangeSpec := { name := "fnEnvMore", fn := fun _ => fun
  | [d1, d2] => { results := [.lit (.bool true)], args := [d1, d2] }
  | _ => none }
def fnEnvMoreRow : OpenClaim := { program := "ytcfgmgjofmbfhaagreatdoor", sum := "cf3ff413e3d186b5de5ae97ef59512330785cf92a8804b0a3f3540468b03fc57", func := "loop.example/seedlip/laws.FnEnvMore", spec := "fnEnvMore", inPlace := ["internal/bytealg.IndexByteString", "internal/bytealg.IndexString"], unfollowed := true, recurses := true, named := ["unicode/utf8.first", "unicode/utf8.acceptRanges", "internal/bytealg.MaxLen"], apart := false, laid := [("unicode/utf8.acceptRanges", laid_unicode_utf8_acceptRanges), ("unicode/utf8.first", laid_unicode_utf8_first)] }
def FnEnvMoreSaid : Prop := fnEnvMoreRow.holds Tryz.pinned (OpenSpec.ofChange fnEnvMoreSpec)

/-- ITS FALSE NEIGHBOUR: 'it returns false'. Refute it at one input. -/
def fnEnvMoreWrong : ChangeSpec := { name := "fnEnvMore", fn := fun _ => fun
  | [d1, d2] => { results := [.lit (.bool false)], args := [d1, d2] }
  | _ => none }
def FnEnvMoreWrongFalsely : Prop := fnEnvMoreRow.holds Tryz.pinned (OpenSpec.ofChange fnEnvMoreWrong)

/-- 'laws.FnFoldOne': WHATEVER THE INPUT: true; the input reads as it did. -/
def fnFoldOneSpec : ChangeSpec := { name := "fnFoldOne", fn := fun _ => fun
  | [d] => { results := [.lit (.bool true)], args := [d] }
  | _ => none }
def fnFoldOneRow : OpenClaim := { program := "ytcfgmgjofmbfhaagreatdoor", sum := "cf3ff413e3d186b5de5ae97ef59512330785cf92a8804b0a3f3540468b03fc57", func := "loop.example/seedlip/laws.FnFoldOne", spec := "fnFoldOne", inPlace := ["internal/bytealg.IndexByteString", "internal/bytealg.IndexString"], unfollowed := true, recurses := true, named := ["unicode/utf8.first", "unicode/utf8.acceptRanges", "internal/bytealg.MaxLen"], apart := false, laid := [("unicode/utf8.acceptRanges", laid_unicode_utf8_acceptRanges), ("unicode/utf8.first", laid_unicode_utf8_first)] }
def FnFoldOneSaid : Prop := fnFoldOneRow.holds Tryz.pinned (OpenSpec.ofChange fnFoldOneSpec)

/-- ITS FALSE NEIGHBOUR: 'it returns false'. Refute it at one input. -/
def fnFoldOneWrong : ChangeSpec := { name := "fnFoldOne", fn := fun _ => fun
  | [d] => { results := [.lit (.bool false)], args := [d] }
  | _ => none }
def FnFoldOneWrongFalsely : Prop := fnFoldOneRow.holds Tryz.pinned (OpenSpec.ofChange fnFoldOneWrong)

/-- 'laws.FnFold': WHATEVER THE INPUT: true; the input reads as it did. -/
def fnFoldSpec : ChangeSpec := { name := "fnFold", fn := fun _ => fun
  | [d] => { results := [.lit (.bool true)], args := [d] }
  | _ => none }
def fnFoldRow : OpenClaim := { program := "ytcfgmgjofmbfhaagreatdoor", sum := "cf3ff413e3d186b5de5ae97ef59512330785cf92a8804b0a3f3540468b03fc57", func := "loop.example/seedlip/laws.FnFold", spec := "fnFold", inPlace := ["internal/bytealg.IndexByteString", "internal/bytealg.IndexString"], unfollowed := true, recurses := true, named := ["unicode/utf8.first", "unicode/utf8.acceptRanges", "internal/bytealg.MaxLen"], apart := false, laid := [("unicode/utf8.acceptRanges", laid_unicode_utf8_acceptRanges), ("unicode/utf8.first", laid_unicode_utf8_first)] }
def FnFoldSaid : Prop := fnFoldRow.holds Tryz.pinned (OpenSpec.ofChange fnFoldSpec)

/-- ITS FALSE NEIGHBOUR: 'it returns false'. Refute it at one input. -/
def fnFoldWrong : ChangeSpec := { name := "fnFold", fn := fun _ => fun
  | [d] => { results := [.lit (.bool false)], args := [d] }
  | _ => none }
def FnFoldWrongFalsely : Prop := fnFoldRow.holds Tryz.pinned (OpenSpec.ofChange fnFoldWrong)

/-- 'laws.FnFoldFixed': WHATEVER THE INPUT: true; the input reads as it did. -/
def fnFoldFixedSpec : ChangeSpec := { name := "fnFoldFixed", fn := fun _ => fun
  | [d1, d2] => { results := [.lit (.bool true)], args := [d1, d2] }
  | _ => none }
def fnFoldFixedRow : OpenClaim := { program := "ytcfgmgjofmbfhaagreatdoor", sum := "cf3ff413e3d186b5de5ae97ef59512330785cf92a8804b0a3f3540468b03fc57", func := "loop.example/seedlip/laws.FnFoldFixed", spec := "fnFoldFixed", inPlace := ["internal/bytealg.IndexByteString", "internal/bytealg.IndexString"], unfollowed := true, recurses := true, named := ["unicode/utf8.first", "unicode/utf8.acceptRanges", "internal/bytealg.MaxLen"], apart := false, laid := [("unicode/utf8.acceptRanges", laid_unicode_utf8_acceptRanges), ("unicode/utf8.first", laid_unicode_utf8_first)] }
def FnFoldFixedSaid : Prop := fnFoldFixedRow.holds Tryz.pinned (OpenSpec.ofChange fnFoldFixedSpec)

/-- ITS FALSE NEIGHBOUR: 'it returns false'. Refute it at one input. -/
def fnFoldFixedWrong : ChangeSpec := { name := "fnFoldFixed", fn := fun _ => fun
  | [d1, d2] => { results := [.lit (.bool false)], args := [d1, d2] }
  | _ => none }
def FnFoldFixedWrongFalsely : Prop := fnFoldFixedRow.holds Tryz.pinned (OpenSpec.ofChange fnFoldFixedWrong)

/- THE SECOND FORM. 'bulk': how many values and letters a reading holds, each counted each time it is reached (what is shared counts as often as it is met; a slice's spare places count too). A statement '..UptoSaid' is the law's where the arguments, and the package variables that the reading takes, are together of bulk at most 1048576: NARROWER than '..Said'. Prove '..Said' where nothing that the law and all that it calls make is longer than what came in: it says more and counts as full. Else prove '..UptoSaid'. A law counts once. -/
mutual
def uptoBulk {H : Type} : DataW H → Nat
  | .lit (.string bytes) => bytes.length + 1
  | .lit _ => 1
  | .nil => 1
  | .ptr d => uptoBulk d + 1
  | .slice elems spare => uptoBulkAll elems + uptoBulkAll spare + 1
  | .agg parts => uptoBulkAll parts + 1
  | .iface _ d => uptoBulk d + 1
  | .map entries => uptoBulkEntries entries + 1
  | .held _ => 1
def uptoBulkAll {H : Type} : List (DataW H) → Nat
  | [] => 0
  | d :: r => uptoBulk d + uptoBulkAll r
def uptoBulkEntries {H : Type} : List (Lit × DataW H) → Nat
  | [] => 0
  | x :: r => uptoBulkEntry x + uptoBulkEntries r
def uptoBulkEntry {H : Type} : Lit × DataW H → Nat
  | (.string bytes, d) => bytes.length + uptoBulk d + 1
  | (_, d) => uptoBulk d + 1
 end
def uptoSmall : (H : Type) → List (DataW H) → Bool := fun _ ds => decide (uptoBulkAll ds ≤ 1048576)
def OpenSpec.upto (s : _root_.Go.ChangeSpec) : _root_.Go.OpenSpec := { _root_.Go.OpenSpec.ofChange s with cond := some uptoSmall }

/-- 'laws.FnFoldKids', WHERE WHAT IT READS IS OF BULK AT MOST 1048576: true; the input reads as it did. -/
def fnFoldKidsUptoRow : OpenClaim := { program := "ytcfgmgjofmbfhaagreatdoor", sum := "cf3ff413e3d186b5de5ae97ef59512330785cf92a8804b0a3f3540468b03fc57", func := "loop.example/seedlip/laws.FnFoldKids", spec := "fnFoldKids", inPlace := ["internal/bytealg.IndexByteString", "internal/bytealg.IndexString"], unfollowed := true, recurses := true, named := ["unicode/utf8.first", "unicode/utf8.acceptRanges", "internal/bytealg.MaxLen"], apart := false, laid := [("unicode/utf8.acceptRanges", laid_unicode_utf8_acceptRanges), ("unicode/utf8.first", laid_unicode_utf8_first)], narrowed := true }
def FnFoldKidsUptoSaid : Prop := fnFoldKidsUptoRow.holds Tryz.pinned (OpenSpec.upto fnFoldKidsSpec)

/-- 'laws.FnFoldTwice', WHERE WHAT IT READS IS OF BULK AT MOST 1048576: true; the input reads as it did. -/
def fnFoldTwiceUptoRow : OpenClaim := { program := "ytcfgmgjofmbfhaagreatdoor", sum := "cf3ff413e3d186b5de5ae97ef59512330785cf92a8804b0a3f3540468b03fc57", func := "loop.example/seedlip/laws.FnFoldTwice", spec := "fnFoldTwice", inPlace := ["internal/bytealg.IndexByteString", "internal/bytealg.IndexString"], unfollowed := true, recurses := true, named := ["unicode/utf8.first", "unicode/utf8.acceptRanges", "internal/bytealg.MaxLen"], apart := false, laid := [("unicode/utf8.acceptRanges", laid_unicode_utf8_acceptRanges), ("unicode/utf8.first", laid_unicode_utf8_first)], narrowed := true }
def FnFoldTwiceUptoSaid : Prop := fnFoldTwiceUptoRow.holds Tryz.pinned (OpenSpec.upto fnFoldTwiceSpec)

/-- 'laws.FnExactTermOne', WHERE WHAT IT READS IS OF BULK AT MOST 1048576: true; the input reads as it did. -/
def fnExactTermOneUptoRow : OpenClaim := { program := "ytcfgmgjofmbfhaagreatdoor", sum := "cf3ff413e3d186b5de5ae97ef59512330785cf92a8804b0a3f3540468b03fc57", func := "loop.example/seedlip/laws.FnExactTermOne", spec := "fnExactTermOne", inPlace := ["internal/bytealg.IndexByteString", "internal/bytealg.IndexString"], unfollowed := true, recurses := true, named := ["unicode/utf8.first", "unicode/utf8.acceptRanges", "internal/bytealg.MaxLen"], loops := true, apart := false, laid := [("unicode/utf8.acceptRanges", laid_unicode_utf8_acceptRanges), ("unicode/utf8.first", laid_unicode_utf8_first)], narrowed := true }
def FnExactTermOneUptoSaid : Prop := fnExactTermOneUptoRow.holds Tryz.pinned (OpenSpec.upto fnExactTermOneSpec)

/-- 'laws.FnExactTermFold', WHERE WHAT IT READS IS OF BULK AT MOST 1048576: true; the input reads as it did. -/
def fnExactTermFoldUptoRow : OpenClaim := { program := "ytcfgmgjofmbfhaagreatdoor", sum := "cf3ff413e3d186b5de5ae97ef59512330785cf92a8804b0a3f3540468b03fc57", func := "loop.example/seedlip/laws.FnExactTermFold", spec := "fnExactTermFold", inPlace := ["internal/bytealg.IndexByteString", "internal/bytealg.IndexString"], unfollowed := true, recurses := true, named := ["unicode/utf8.first", "unicode/utf8.acceptRanges", "internal/bytealg.MaxLen"], loops := true, apart := false, laid := [("unicode/utf8.acceptRanges", laid_unicode_utf8_acceptRanges), ("unicode/utf8.first", laid_unicode_utf8_first)], narrowed := true }
def FnExactTermFoldUptoSaid : Prop := fnExactTermFoldUptoRow.holds Tryz.pinned (OpenSpec.upto fnExactTermFoldSpec)

/-- 'laws.FnEnvMore', WHERE WHAT IT READS IS OF BULK AT MOST 1048576: true; the input reads as it did. -/
def fnEnvMoreUptoRow : OpenClaim := { program := "ytcfgmgjofmbfhaagreatdoor", sum := "cf3ff413e3d186b5de5ae97ef59512330785cf92a8804b0a3f3540468b03fc57", func := "loop.example/seedlip/laws.FnEnvMore", spec := "fnEnvMore", inPlace := ["internal/bytealg.IndexByteString", "internal/bytealg.IndexString"], unfollowed := true, recurses := true, named := ["unicode/utf8.first", "unicode/utf8.acceptRanges", "internal/bytealg.MaxLen"], apart := false, laid := [("unicode/utf8.acceptRanges", laid_unicode_utf8_acceptRanges), ("unicode/utf8.first", laid_unicode_utf8_first)], narrowed := true }
def FnEnvMoreUptoSaid : Prop := fnEnvMoreUptoRow.holds Tryz.pinned (OpenSpec.upto fnEnvMoreSpec)

/-- 'laws.FnFoldOne', WHERE WHAT IT READS IS OF BULK AT MOST 1048576: true; the input reads as it did. -/
def fnFoldOneUptoRow : OpenClaim := { program := "ytcfgmgjofmbfhaagreatdoor", sum := "cf3ff413e3d186b5de5ae97ef59512330785cf92a8804b0a3f3540468b03fc57", func := "loop.example/seedlip/laws.FnFoldOne", spec := "fnFoldOne", inPlace := ["internal/bytealg.IndexByteString", "internal/bytealg.IndexString"], unfollowed := true, recurses := true, named := ["unicode/utf8.first", "unicode/utf8.acceptRanges", "internal/bytealg.MaxLen"], apart := false, laid := [("unicode/utf8.acceptRanges", laid_unicode_utf8_acceptRanges), ("unicode/utf8.first", laid_unicode_utf8_first)], narrowed := true }
def FnFoldOneUptoSaid : Prop := fnFoldOneUptoRow.holds Tryz.pinned (OpenSpec.upto fnFoldOneSpec)

/-- 'laws.FnFold', WHERE WHAT IT READS IS OF BULK AT MOST 1048576: true; the input reads as it did. -/
def fnFoldUptoRow : OpenClaim := { program := "ytcfgmgjofmbfhaagreatdoor", sum := "cf3ff413e3d186b5de5ae97ef59512330785cf92a8804b0a3f3540468b03fc57", func := "loop.example/seedlip/laws.FnFold", spec := "fnFold", inPlace := ["internal/bytealg.IndexByteString", "internal/bytealg.IndexString"], unfollowed := true, recurses := true, named := ["unicode/utf8.first", "unicode/utf8.acceptRanges", "internal/bytealg.MaxLen"], apart := false, laid := [("unicode/utf8.acceptRanges", laid_unicode_utf8_acceptRanges), ("unicode/utf8.first", laid_unicode_utf8_first)], narrowed := true }
def FnFoldUptoSaid : Prop := fnFoldUptoRow.holds Tryz.pinned (OpenSpec.upto fnFoldSpec)

/-- 'laws.FnFoldFixed', WHERE WHAT IT READS IS OF BULK AT MOST 1048576: true; the input reads as it did. -/
def fnFoldFixedUptoRow : OpenClaim := { program := "ytcfgmgjofmbfhaagreatdoor", sum := "cf3ff413e3d186b5de5ae97ef59512330785cf92a8804b0a3f3540468b03fc57", func := "loop.example/seedlip/laws.FnFoldFixed", spec := "fnFoldFixed", inPlace := ["internal/bytealg.IndexByteString", "internal/bytealg.IndexString"], unfollowed := true, recurses := true, named := ["unicode/utf8.first", "unicode/utf8.acceptRanges", "internal/bytealg.MaxLen"], apart := false, laid := [("unicode/utf8.acceptRanges", laid_unicode_utf8_acceptRanges), ("unicode/utf8.first", laid_unicode_utf8_first)], narrowed := true }
def FnFoldFixedUptoSaid : Prop := fnFoldFixedUptoRow.holds Tryz.pinned (OpenSpec.upto fnFoldFixedSpec)

end Rows
end Go.Proofs.YtcfgmgjofmbfhaaGreatDoor
