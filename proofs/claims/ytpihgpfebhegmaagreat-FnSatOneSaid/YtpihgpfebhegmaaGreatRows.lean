/-
  No cell of these rows narrows 'for every input' (looked for: loops, veiled, ifaces, maps, wideKeys, modest, calm, conditions, laid).
  DERIVED. THE GIVEN ROWS OF THIS SEAT. 4 by the template 'for every input the law returns true; each argument reads behind the call as it read before'; 0 by the template 'total and deterministic' (their statements: YtpihgpfebhegmaaGreatTotals.lean).
  GIVEN WITH THE SEED: the statements are not yours to turn. If you find one false, say at which input.
  Laid BY PROGRAM, IN A SANDBOX (cutbox-rows.mjs): the forced cells as the released guide's own fill.sh prints them over the translation be37101b25ce380f… (all of the seat's roots in one cut). By AI agents, Wed Nov 11 2026. No macro, syntax, notation, axiom, sorry.
-/
import Derived.Test.YtpihgpfebhegmaaGreatChecked
import GoSem.Claim
import GoSem.ClaimJoined
import GoSem.ClaimMapViews
import Derived.JoinedTies
import Derived.KernelRfl
namespace Go.Proofs.YtpihgpfebhegmaaGreat
/- THE CELL 'sum', in the pinned program and in every row, IS THE sha256 OF THE DUMP (.gsa) THAT YtpihgpfebhegmaaGreatProg.lean LOADS. Nothing in Lean hashes anything: it is a label: what it is worth is what the hold of that sum in a sandbox is worth. -/
noncomputable def Tryz.pinned : Pinned := { name := "ytpihgpfebhegmaagreat", sum := "be37101b25ce380f8f56e38dba27103e32c18d7c203cee5d5bf1a8cb3a23e103", checked := Tryz.checked }
namespace Rows
def none {H : Type} : Left H := { results := [], args := [] }

/-- 'laws.FnSatLeast': WHATEVER THE INPUT: true; the input reads as it did. -/
def fnSatLeastSpec : ChangeSpec := { name := "fnSatLeast", fn := fun _ => fun
  | [d] => { results := [.lit (.bool true)], args := [d] }
  | _ => none }
def fnSatLeastRow : OpenClaim := { program := "ytpihgpfebhegmaagreat", sum := "be37101b25ce380f8f56e38dba27103e32c18d7c203cee5d5bf1a8cb3a23e103", func := "loop.example/seedlip/laws.FnSatLeast", spec := "fnSatLeast", unfollowed := true, recurses := true, apart := false }
def FnSatLeastSaid : Prop := fnSatLeastRow.holds Tryz.pinned (OpenSpec.ofChange fnSatLeastSpec)

/-- ITS FALSE NEIGHBOUR: 'it returns false'. Refute it at one input. -/
def fnSatLeastWrong : ChangeSpec := { name := "fnSatLeast", fn := fun _ => fun
  | [d] => { results := [.lit (.bool false)], args := [d] }
  | _ => none }
def FnSatLeastWrongFalsely : Prop := fnSatLeastRow.holds Tryz.pinned (OpenSpec.ofChange fnSatLeastWrong)

/-- 'laws.FnSatOne': WHATEVER THE INPUT: true; the input reads as it did. -/
def fnSatOneSpec : ChangeSpec := { name := "fnSatOne", fn := fun _ => fun
  | [d] => { results := [.lit (.bool true)], args := [d] }
  | _ => none }
def fnSatOneRow : OpenClaim := { program := "ytpihgpfebhegmaagreat", sum := "be37101b25ce380f8f56e38dba27103e32c18d7c203cee5d5bf1a8cb3a23e103", func := "loop.example/seedlip/laws.FnSatOne", spec := "fnSatOne", unfollowed := true, recurses := true, apart := false }
def FnSatOneSaid : Prop := fnSatOneRow.holds Tryz.pinned (OpenSpec.ofChange fnSatOneSpec)

/-- ITS FALSE NEIGHBOUR: 'it returns false'. Refute it at one input. -/
def fnSatOneWrong : ChangeSpec := { name := "fnSatOne", fn := fun _ => fun
  | [d] => { results := [.lit (.bool false)], args := [d] }
  | _ => none }
def FnSatOneWrongFalsely : Prop := fnSatOneRow.holds Tryz.pinned (OpenSpec.ofChange fnSatOneWrong)

/-- 'laws.FnSatOk': WHATEVER THE INPUT: true; the input reads as it did. -/
def fnSatOkSpec : ChangeSpec := { name := "fnSatOk", fn := fun _ => fun
  | [d] => { results := [.lit (.bool true)], args := [d] }
  | _ => none }
def fnSatOkRow : OpenClaim := { program := "ytpihgpfebhegmaagreat", sum := "be37101b25ce380f8f56e38dba27103e32c18d7c203cee5d5bf1a8cb3a23e103", func := "loop.example/seedlip/laws.FnSatOk", spec := "fnSatOk", unfollowed := true, recurses := true, apart := false }
def FnSatOkSaid : Prop := fnSatOkRow.holds Tryz.pinned (OpenSpec.ofChange fnSatOkSpec)

/-- ITS FALSE NEIGHBOUR: 'it returns false'. Refute it at one input. -/
def fnSatOkWrong : ChangeSpec := { name := "fnSatOk", fn := fun _ => fun
  | [d] => { results := [.lit (.bool false)], args := [d] }
  | _ => none }
def FnSatOkWrongFalsely : Prop := fnSatOkRow.holds Tryz.pinned (OpenSpec.ofChange fnSatOkWrong)

/-- 'laws.FnExactSatStep': WHATEVER THE INPUT: true; the input reads as it did. -/
def fnExactSatStepSpec : ChangeSpec := { name := "fnExactSatStep", fn := fun _ => fun
  | [d1, d2] => { results := [.lit (.bool true)], args := [d1, d2] }
  | _ => none }
def fnExactSatStepRow : OpenClaim := { program := "ytpihgpfebhegmaagreat", sum := "be37101b25ce380f8f56e38dba27103e32c18d7c203cee5d5bf1a8cb3a23e103", func := "loop.example/seedlip/laws.FnExactSatStep", spec := "fnExactSatStep", unfollowed := true, recurses := true, apart := false }
def FnExactSatStepSaid : Prop := fnExactSatStepRow.holds Tryz.pinned (OpenSpec.ofChange fnExactSatStepSpec)

/-- ITS FALSE NEIGHBOUR: 'it returns false'. Refute it at one input. -/
def fnExactSatStepWrong : ChangeSpec := { name := "fnExactSatStep", fn := fun _ => fun
  | [d1, d2] => { results := [.lit (.bool false)], args := [d1, d2] }
  | _ => none }
def FnExactSatStepWrongFalsely : Prop := fnExactSatStepRow.holds Tryz.pinned (OpenSpec.ofChange fnExactSatStepWrong)

/- THE SECOND FORM. 'bulk': how many values and letters a reading holds, each counted each time it is reached (what is shared counts as often as it is met; a slice's spare places count too). A statement '..UptoSaid' is the law's where the arguments, and the package variables that the reading takes, are together of bulk at most 1048576: NARROWER than '..Said'. Prove '..Said' where nothing that the law and all that it calls make is longer than what came in: it says more and counts as full. Else prove '..UptoSaid'. A law counts once. -/
mutual
def uptoBulk {H : Type} : DataW H → Nat
  | .lit (.string bytes) => bytes.length + 1
  | .lit _ => 1
  | .nil => 1
  | .ptr d => uptoBulk d + 1
  | .slice elems spare => uptoBulkAll elems + uptoBulkAll spare + 1
  | .agg parts => uptoBulkAll parts + 1
  | .iface _ d => uptoBulk d + 1
  | .map entries => uptoBulkEntries entries + 1
  | .held _ => 1
def uptoBulkAll {H : Type} : List (DataW H) → Nat
  | [] => 0
  | d :: r => uptoBulk d + uptoBulkAll r
def uptoBulkEntries {H : Type} : List (Lit × DataW H) → Nat
  | [] => 0
  | x :: r => uptoBulkEntry x + uptoBulkEntries r
def uptoBulkEntry {H : Type} : Lit × DataW H → Nat
  | (.string bytes, d) => bytes.length + uptoBulk d + 1
  | (_, d) => uptoBulk d + 1
 end
def uptoSmall : (H : Type) → List (DataW H) → Bool := fun _ ds => decide (uptoBulkAll ds ≤ 1048576)
def OpenSpec.upto (s : _root_.Go.ChangeSpec) : _root_.Go.OpenSpec := { _root_.Go.OpenSpec.ofChange s with cond := some uptoSmall }

/-- 'laws.FnSatLeast', WHERE WHAT IT READS IS OF BULK AT MOST 1048576: true; the input reads as it did. -/
def fnSatLeastUptoRow : OpenClaim := { program := "ytpihgpfebhegmaagreat", sum := "be37101b25ce380f8f56e38dba27103e32c18d7c203cee5d5bf1a8cb3a23e103", func := "loop.example/seedlip/laws.FnSatLeast", spec := "fnSatLeast", unfollowed := true, recurses := true, apart := false, narrowed := true }
def FnSatLeastUptoSaid : Prop := fnSatLeastUptoRow.holds Tryz.pinned (OpenSpec.upto fnSatLeastSpec)

/-- 'laws.FnSatOne', WHERE WHAT IT READS IS OF BULK AT MOST 1048576: true; the input reads as it did. -/
def fnSatOneUptoRow : OpenClaim := { program := "ytpihgpfebhegmaagreat", sum := "be37101b25ce380f8f56e38dba27103e32c18d7c203cee5d5bf1a8cb3a23e103", func := "loop.example/seedlip/laws.FnSatOne", spec := "fnSatOne", unfollowed := true, recurses := true, apart := false, narrowed := true }
def FnSatOneUptoSaid : Prop := fnSatOneUptoRow.holds Tryz.pinned (OpenSpec.upto fnSatOneSpec)

/-- 'laws.FnSatOk', WHERE WHAT IT READS IS OF BULK AT MOST 1048576: true; the input reads as it did. -/
def fnSatOkUptoRow : OpenClaim := { program := "ytpihgpfebhegmaagreat", sum := "be37101b25ce380f8f56e38dba27103e32c18d7c203cee5d5bf1a8cb3a23e103", func := "loop.example/seedlip/laws.FnSatOk", spec := "fnSatOk", unfollowed := true, recurses := true, apart := false, narrowed := true }
def FnSatOkUptoSaid : Prop := fnSatOkUptoRow.holds Tryz.pinned (OpenSpec.upto fnSatOkSpec)

/-- 'laws.FnExactSatStep', WHERE WHAT IT READS IS OF BULK AT MOST 1048576: true; the input reads as it did. -/
def fnExactSatStepUptoRow : OpenClaim := { program := "ytpihgpfebhegmaagreat", sum := "be37101b25ce380f8f56e38dba27103e32c18d7c203cee5d5bf1a8cb3a23e103", func := "loop.example/seedlip/laws.FnExactSatStep", spec := "fnExactSatStep", unfollowed := true, recurses := true, apart := false, narrowed := true }
def FnExactSatStepUptoSaid : Prop := fnExactSatStepUptoRow.holds Tryz.pinned (OpenSpec.upto fnExactSatStepSpec)

end Rows
end Go.Proofs.YtpihgpfebhegmaaGreat
