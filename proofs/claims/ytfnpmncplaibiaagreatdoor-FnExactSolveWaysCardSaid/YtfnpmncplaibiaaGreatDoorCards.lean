/-
  DERIVED. GIVEN WITH THE SEED: THE CARDS: each row of YtfnpmncplaibiaaGreatDoorRows.lean that lists a variable, with what it lists TIED to the program's text (the seventh form; the later family's looks); each row that meets fmt, with fmt's text TOLD by the authors' own Lean function (tested against real Go, not proved from fmt's source: count such statements apart). THE CARD IS WHAT COUNTS. Prove the row's statement (the work); the ties are given (YtfnpmncplaibiaaGreatDoorTie.lean); close each card by the builder's one call (the guide's Derived/Test/ToyasCard.lean, 'card_holds'). Laid BY PROGRAM, IN A SANDBOX (cutbox-door.mjs). By AI agents, Wed Nov 11 2026. No macro, syntax, notation, axiom, sorry.
-/
import Derived.Test.YtfnpmncplaibiaaGreatDoorRows
import GoSem.ClaimSeven
namespace Go.Proofs.YtfnpmncplaibiaaGreatDoor
namespace Rows

/-- THE TIED CARD OF 'laws.FnExactSolveWays'. -/
def fnExactSolveWaysCard : Claim7 := { stood := { row := fnExactSolveWaysRow, standIns := [], harness := (true, "b9197c4f9129de33516828d0a6118503ddd7b23484e6cf3f3a8aa309cd67be95"), looks := true }, kinds := [], alts := [], laidByText := true, laidKinds := [.data, .data, .data, .data, .sentinel, .sentinel, .sentinel, .sentinel, .sentinel, .pinned], laidTests := true, laidLooks := .later }
def FnExactSolveWaysCardSaid : Prop := Claim7.holds Tryz.pinned (.plain (OpenSpec.ofChange fnExactSolveWaysSpec)) fnExactSolveWaysCard

/-- THE TIED CARD OF 'laws.FnSolveWays'. -/
def fnSolveWaysCard : Claim7 := { stood := { row := fnSolveWaysRow, standIns := [], harness := (true, "b9197c4f9129de33516828d0a6118503ddd7b23484e6cf3f3a8aa309cd67be95"), looks := true }, kinds := [], alts := [], laidByText := true, laidKinds := [.data, .data, .data, .data, .sentinel, .sentinel, .sentinel, .sentinel, .sentinel, .pinned], laidTests := true, laidLooks := .later }
def FnSolveWaysCardSaid : Prop := Claim7.holds Tryz.pinned (.plain (OpenSpec.ofChange fnSolveWaysSpec)) fnSolveWaysCard

/-- THE TIED CARD OF 'laws.FnCtxSolve'. -/
def fnCtxSolveCard : Claim7 := { stood := { row := fnCtxSolveRow, standIns := [], harness := (true, "b9197c4f9129de33516828d0a6118503ddd7b23484e6cf3f3a8aa309cd67be95"), looks := true }, kinds := [], alts := [], laidByText := true, laidKinds := [.data, .data, .data, .data, .sentinel, .sentinel, .sentinel, .sentinel, .sentinel, .pinned], laidTests := true, laidLooks := .later }
def FnCtxSolveCardSaid : Prop := Claim7.holds Tryz.pinned (.plain (OpenSpec.ofChange fnCtxSolveSpec)) fnCtxSolveCard

/-- THE TIED CARD OF 'laws.FnExactCtxSolve'. -/
def fnExactCtxSolveCard : Claim7 := { stood := { row := fnExactCtxSolveRow, standIns := [], harness := (true, "b9197c4f9129de33516828d0a6118503ddd7b23484e6cf3f3a8aa309cd67be95"), looks := true }, kinds := [], alts := [], laidByText := true, laidKinds := [.data, .data, .data, .data, .sentinel, .sentinel, .sentinel, .sentinel, .sentinel, .pinned], laidTests := true, laidLooks := .later }
def FnExactCtxSolveCardSaid : Prop := Claim7.holds Tryz.pinned (.plain (OpenSpec.ofChange fnExactCtxSolveSpec)) fnExactCtxSolveCard

/-- THE SECOND FORM's CARD OF 'laws.FnExactSolveWays'. -/
def fnExactSolveWaysUptoCard : Claim7 := { stood := { row := fnExactSolveWaysUptoRow, standIns := [], harness := (true, "b9197c4f9129de33516828d0a6118503ddd7b23484e6cf3f3a8aa309cd67be95"), looks := true }, kinds := [], alts := [], laidByText := true, laidKinds := [.data, .data, .data, .data, .sentinel, .sentinel, .sentinel, .sentinel, .sentinel, .pinned], laidTests := true, laidLooks := .later }
def FnExactSolveWaysUptoCardSaid : Prop := Claim7.holds Tryz.pinned (.plain (OpenSpec.upto fnExactSolveWaysSpec)) fnExactSolveWaysUptoCard

/-- THE SECOND FORM's CARD OF 'laws.FnSolveWays'. -/
def fnSolveWaysUptoCard : Claim7 := { stood := { row := fnSolveWaysUptoRow, standIns := [], harness := (true, "b9197c4f9129de33516828d0a6118503ddd7b23484e6cf3f3a8aa309cd67be95"), looks := true }, kinds := [], alts := [], laidByText := true, laidKinds := [.data, .data, .data, .data, .sentinel, .sentinel, .sentinel, .sentinel, .sentinel, .pinned], laidTests := true, laidLooks := .later }
def FnSolveWaysUptoCardSaid : Prop := Claim7.holds Tryz.pinned (.plain (OpenSpec.upto fnSolveWaysSpec)) fnSolveWaysUptoCard

/-- THE SECOND FORM's CARD OF 'laws.FnCtxSolve'. -/
def fnCtxSolveUptoCard : Claim7 := { stood := { row := fnCtxSolveUptoRow, standIns := [], harness := (true, "b9197c4f9129de33516828d0a6118503ddd7b23484e6cf3f3a8aa309cd67be95"), looks := true }, kinds := [], alts := [], laidByText := true, laidKinds := [.data, .data, .data, .data, .sentinel, .sentinel, .sentinel, .sentinel, .sentinel, .pinned], laidTests := true, laidLooks := .later }
def FnCtxSolveUptoCardSaid : Prop := Claim7.holds Tryz.pinned (.plain (OpenSpec.upto fnCtxSolveSpec)) fnCtxSolveUptoCard

/-- THE SECOND FORM's CARD OF 'laws.FnExactCtxSolve'. -/
def fnExactCtxSolveUptoCard : Claim7 := { stood := { row := fnExactCtxSolveUptoRow, standIns := [], harness := (true, "b9197c4f9129de33516828d0a6118503ddd7b23484e6cf3f3a8aa309cd67be95"), looks := true }, kinds := [], alts := [], laidByText := true, laidKinds := [.data, .data, .data, .data, .sentinel, .sentinel, .sentinel, .sentinel, .sentinel, .pinned], laidTests := true, laidLooks := .later }
def FnExactCtxSolveUptoCardSaid : Prop := Claim7.holds Tryz.pinned (.plain (OpenSpec.upto fnExactCtxSolveSpec)) fnExactCtxSolveUptoCard
end Rows
end Go.Proofs.YtfnpmncplaibiaaGreatDoor
