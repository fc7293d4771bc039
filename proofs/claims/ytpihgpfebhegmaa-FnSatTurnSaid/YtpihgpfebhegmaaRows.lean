/-
  No cell of these rows narrows 'for every input' (looked for: loops, veiled, ifaces, maps, wideKeys, modest, calm, conditions, laid).
  DERIVED. THE GIVEN ROWS OF THIS SEAT. 4 by the template 'for every input the law returns true; each argument reads behind the call as it read before'; 0 by the template 'total and deterministic' (their statements: YtpihgpfebhegmaaTotals.lean).
  GIVEN WITH THE SEED: the statements are not yours to turn. If you find one false, say at which input.
  Laid BY PROGRAM, IN A SANDBOX (cutbox-rows.mjs): the forced cells as the released guide's own fill.sh prints them over the translation 2f6267c6edd3f30e… (all of the seat's roots in one cut). By AI agents, Wed Nov 11 2026. No macro, syntax, notation, axiom, sorry.
-/
import Derived.Test.YtpihgpfebhegmaaChecked
import GoSem.Claim
import GoSem.ClaimJoined
import GoSem.ClaimMapViews
import Derived.JoinedTies
import Derived.KernelRfl
namespace Go.Proofs.Ytpihgpfebhegmaa
/- THE CELL 'sum', in the pinned program and in every row, IS THE sha256 OF THE DUMP (.gsa) THAT YtpihgpfebhegmaaProg.lean LOADS. Nothing in Lean hashes anything: it is a label: what it is worth is what the hold of that sum in a sandbox is worth. -/
noncomputable def Try.pinned : Pinned := { name := "ytpihgpfebhegmaa", sum := "2f6267c6edd3f30e14eb431612508c0ff7da61eb00a264eb04468de1388d71aa", checked := Try.checked }
namespace Rows
def none {H : Type} : Left H := { results := [], args := [] }

/-- 'laws.FnSatRun': WHATEVER THE INPUT: true; the input reads as it did. -/
def fnSatRunSpec : ChangeSpec := { name := "fnSatRun", fn := fun _ => fun
  | [d] => { results := [.lit (.bool true)], args := [d] }
  | _ => none }
def fnSatRunRow : OpenClaim := { program := "ytpihgpfebhegmaa", sum := "2f6267c6edd3f30e14eb431612508c0ff7da61eb00a264eb04468de1388d71aa", func := "loop.example/seedlip/laws.FnSatRun", spec := "fnSatRun", unfollowed := true, recurses := true, apart := false }
def FnSatRunSaid : Prop := fnSatRunRow.holds Try.pinned (OpenSpec.ofChange fnSatRunSpec)

/-- ITS FALSE NEIGHBOUR: 'it returns false'. Refute it at one input. -/
def fnSatRunWrong : ChangeSpec := { name := "fnSatRun", fn := fun _ => fun
  | [d] => { results := [.lit (.bool false)], args := [d] }
  | _ => none }
def FnSatRunWrongFalsely : Prop := fnSatRunRow.holds Try.pinned (OpenSpec.ofChange fnSatRunWrong)

/-- 'laws.FnSatMore': WHATEVER THE INPUT: true; the input reads as it did. -/
def fnSatMoreSpec : ChangeSpec := { name := "fnSatMore", fn := fun _ => fun
  | [d1, d2] => { results := [.lit (.bool true)], args := [d1, d2] }
  | _ => none }
def fnSatMoreRow : OpenClaim := { program := "ytpihgpfebhegmaa", sum := "2f6267c6edd3f30e14eb431612508c0ff7da61eb00a264eb04468de1388d71aa", func := "loop.example/seedlip/laws.FnSatMore", spec := "fnSatMore", unfollowed := true, recurses := true, apart := false }
def FnSatMoreSaid : Prop := fnSatMoreRow.holds Try.pinned (OpenSpec.ofChange fnSatMoreSpec)

/-- ITS FALSE NEIGHBOUR: 'it returns false'. Refute it at one input. -/
def fnSatMoreWrong : ChangeSpec := { name := "fnSatMore", fn := fun _ => fun
  | [d1, d2] => { results := [.lit (.bool false)], args := [d1, d2] }
  | _ => none }
def FnSatMoreWrongFalsely : Prop := fnSatMoreRow.holds Try.pinned (OpenSpec.ofChange fnSatMoreWrong)

/-- 'laws.FnSatTurn': WHATEVER THE INPUT: true; the input reads as it did. -/
def fnSatTurnSpec : ChangeSpec := { name := "fnSatTurn", fn := fun _ => fun
  | [d] => { results := [.lit (.bool true)], args := [d] }
  | _ => none }
def fnSatTurnRow : OpenClaim := { program := "ytpihgpfebhegmaa", sum := "2f6267c6edd3f30e14eb431612508c0ff7da61eb00a264eb04468de1388d71aa", func := "loop.example/seedlip/laws.FnSatTurn", spec := "fnSatTurn", unfollowed := true, recurses := true, apart := false }
def FnSatTurnSaid : Prop := fnSatTurnRow.holds Try.pinned (OpenSpec.ofChange fnSatTurnSpec)

/-- ITS FALSE NEIGHBOUR: 'it returns false'. Refute it at one input. -/
def fnSatTurnWrong : ChangeSpec := { name := "fnSatTurn", fn := fun _ => fun
  | [d] => { results := [.lit (.bool false)], args := [d] }
  | _ => none }
def FnSatTurnWrongFalsely : Prop := fnSatTurnRow.holds Try.pinned (OpenSpec.ofChange fnSatTurnWrong)

/-- 'laws.FnSatLess': WHATEVER THE INPUT: true; the input reads as it did. -/
def fnSatLessSpec : ChangeSpec := { name := "fnSatLess", fn := fun _ => fun
  | [d1, d2] => { results := [.lit (.bool true)], args := [d1, d2] }
  | _ => none }
def fnSatLessRow : OpenClaim := { program := "ytpihgpfebhegmaa", sum := "2f6267c6edd3f30e14eb431612508c0ff7da61eb00a264eb04468de1388d71aa", func := "loop.example/seedlip/laws.FnSatLess", spec := "fnSatLess", unfollowed := true, recurses := true, apart := false }
def FnSatLessSaid : Prop := fnSatLessRow.holds Try.pinned (OpenSpec.ofChange fnSatLessSpec)

/-- ITS FALSE NEIGHBOUR: 'it returns false'. Refute it at one input. -/
def fnSatLessWrong : ChangeSpec := { name := "fnSatLess", fn := fun _ => fun
  | [d1, d2] => { results := [.lit (.bool false)], args := [d1, d2] }
  | _ => none }
def FnSatLessWrongFalsely : Prop := fnSatLessRow.holds Try.pinned (OpenSpec.ofChange fnSatLessWrong)

/- THE SECOND FORM. 'bulk': how many values and letters a reading holds, each counted each time it is reached (what is shared counts as often as it is met; a slice's spare places count too). A statement '..UptoSaid' is the law's where the arguments, and the package variables that the reading takes, are together of bulk at most 1048576: NARROWER than '..Said'. Prove '..Said' where nothing that the law and all that it calls make is longer than what came in: it says more and counts as full. Else prove '..UptoSaid'. A law counts once. -/
mutual
def uptoBulk {H : Type} : DataW H → Nat
  | .lit (.string bytes) => bytes.length + 1
  | .lit _ => 1
  | .nil => 1
  | .ptr d => uptoBulk d + 1
  | .slice elems spare => uptoBulkAll elems + uptoBulkAll spare + 1
  | .agg parts => uptoBulkAll parts + 1
  | .iface _ d => uptoBulk d + 1
  | .map entries => uptoBulkEntries entries + 1
  | .held _ => 1
def uptoBulkAll {H : Type} : List (DataW H) → Nat
  | [] => 0
  | d :: r => uptoBulk d + uptoBulkAll r
def uptoBulkEntries {H : Type} : List (Lit × DataW H) → Nat
  | [] => 0
  | x :: r => uptoBulkEntry x + uptoBulkEntries r
def uptoBulkEntry {H : Type} : Lit × DataW H → Nat
  | (.string bytes, d) => bytes.length + uptoBulk d + 1
  | (_, d) => uptoBulk d + 1
 end
def uptoSmall : (H : Type) → List (DataW H) → Bool := fun _ ds => decide (uptoBulkAll ds ≤ 1048576)
def OpenSpec.upto (s : _root_.Go.ChangeSpec) : _root_.Go.OpenSpec := { _root_.Go.OpenSpec.ofChange s with cond := some uptoSmall }

/-- 'laws.FnSatRun', WHERE WHAT IT READS IS OF BULK AT MOST 1048576: true; the input reads as it did. -/
def fnSatRunUptoRow : OpenClaim := { program := "ytpihgpfebhegmaa", sum := "2f6267c6edd3f30e14eb431612508c0ff7da61eb00a264eb04468de1388d71aa", func := "loop.example/seedlip/laws.FnSatRun", spec := "fnSatRun", unfollowed := true, recurses := true, apart := false, narrowed := true }
def FnSatRunUptoSaid : Prop := fnSatRunUptoRow.holds Try.pinned (OpenSpec.upto fnSatRunSpec)

/-- 'laws.FnSatMore', WHERE WHAT IT READS IS OF BULK AT MOST 1048576: true; the input reads as it did. -/
def fnSatMoreUptoRow : OpenClaim := { program := "ytpihgpfebhegmaa", sum := "2f6267c6edd3f30e14eb431612508c0ff7da61eb00a264eb04468de1388d71aa", func := "loop.example/seedlip/laws.FnSatMore", spec := "fnSatMore", unfollowed := true, recurses := true, apart := false, narrowed := true }
def FnSatMoreUptoSaid : Prop := fnSatMoreUptoRow.holds Try.pinned (OpenSpec.upto fnSatMoreSpec)

/-- 'laws.FnSatTurn', WHERE WHAT IT READS IS OF BULK AT MOST 1048576: true; the input reads as it did. -/
def fnSatTurnUptoRow : OpenClaim := { program := "ytpihgpfebhegmaa", sum := "2f6267c6edd3f30e14eb431612508c0ff7da61eb00a264eb04468de1388d71aa", func := "loop.example/seedlip/laws.FnSatTurn", spec := "fnSatTurn", unfollowed := true, recurses := true, apart := false, narrowed := true }
def FnSatTurnUptoSaid : Prop := fnSatTurnUptoRow.holds Try.pinned (OpenSpec.upto fnSatTurnSpec)

/-- 'laws.FnSatLess', WHERE WHAT IT READS IS OF BULK AT MOST 1048576: true; the input reads as it did. -/
def fnSatLessUptoRow : OpenClaim := { program := "ytpihgpfebhegmaa", sum := "2f6267c6edd3f30e14eb431612508c0ff7da61eb00a264eb04468de1388d71aa", func := "loop.example/seedlip/laws.FnSatLess", spec := "fnSatLess", unfollowed := true, recurses := true, apart := false, narrowed := true }
def FnSatLessUptoSaid : Prop := fnSatLessUptoRow.holds Try.pinned (OpenSpec.upto fnSatLessSpec)

end Rows
end Go.Proofs.Ytpihgpfebhegmaa
