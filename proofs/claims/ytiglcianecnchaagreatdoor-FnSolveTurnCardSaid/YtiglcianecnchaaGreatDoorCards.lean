/-
  DERIVED. GIVEN WITH THE SEED: THE CARDS: each row of YtiglcianecnchaaGreatDoorRows.lean that lists a variable, with what it lists TIED to the program's text (the seventh form; the later family's looks); each row that meets fmt, with fmt's text TOLD by the authors' own Lean function (tested against real Go, not proved from fmt's source: count such statements apart). THE CARD IS WHAT COUNTS. Prove the row's statement (the work); the ties are given (YtiglcianecnchaaGreatDoorTie.lean); close each card by the builder's one call (the guide's Derived/Test/ToyasCard.lean, 'card_holds'). Laid BY PROGRAM, IN A SANDBOX (cutbox-door.mjs). By AI agents, Wed Nov 11 2026. No macro, syntax, notation, axiom, sorry.
-/
import Derived.Test.YtiglcianecnchaaGreatDoorRows
import GoSem.ClaimSeven
namespace Go.Proofs.YtiglcianecnchaaGreatDoor
namespace Rows

/-- THE TIED CARD OF 'laws.FnSolveBoth'. -/
def fnSolveBothCard : Claim7 := { stood := { row := fnSolveBothRow, standIns := [], harness := (true, "3a07677912632440e5954f2b4561643693716424f79768fa43d279f5b82a9e68"), looks := true }, kinds := [], alts := [], laidByText := true, laidKinds := [.data, .data, .data, .data, .sentinel, .sentinel, .sentinel, .sentinel, .sentinel, .pinned], laidTests := true, laidLooks := .later }
def FnSolveBothCardSaid : Prop := Claim7.holds Tryz.pinned (.plain (OpenSpec.ofChange fnSolveBothSpec)) fnSolveBothCard

/-- THE TIED CARD OF 'laws.FnSolveTurn'. -/
def fnSolveTurnCard : Claim7 := { stood := { row := fnSolveTurnRow, standIns := [], harness := (true, "3a07677912632440e5954f2b4561643693716424f79768fa43d279f5b82a9e68"), looks := true }, kinds := [], alts := [], laidByText := true, laidKinds := [.data, .data, .data, .data, .sentinel, .sentinel, .sentinel, .sentinel, .sentinel, .pinned], laidTests := true, laidLooks := .later }
def FnSolveTurnCardSaid : Prop := Claim7.holds Tryz.pinned (.plain (OpenSpec.ofChange fnSolveTurnSpec)) fnSolveTurnCard

/-- THE TIED CARD OF 'laws.FnSolveMore'. -/
def fnSolveMoreCard : Claim7 := { stood := { row := fnSolveMoreRow, standIns := [], harness := (true, "3a07677912632440e5954f2b4561643693716424f79768fa43d279f5b82a9e68"), looks := true }, kinds := [], alts := [], laidByText := true, laidKinds := [.data, .data, .data, .data, .sentinel, .sentinel, .sentinel, .sentinel, .sentinel, .pinned], laidTests := true, laidLooks := .later }
def FnSolveMoreCardSaid : Prop := Claim7.holds Tryz.pinned (.plain (OpenSpec.ofChange fnSolveMoreSpec)) fnSolveMoreCard

/-- THE TIED CARD OF 'laws.FnSolve'. -/
def fnSolveCard : Claim7 := { stood := { row := fnSolveRow, standIns := [], harness := (true, "3a07677912632440e5954f2b4561643693716424f79768fa43d279f5b82a9e68"), looks := true }, kinds := [], alts := [], laidByText := true, laidKinds := [.data, .data, .data, .data, .sentinel, .sentinel, .sentinel, .sentinel, .sentinel, .pinned], laidTests := true, laidLooks := .later }
def FnSolveCardSaid : Prop := Claim7.holds Tryz.pinned (.plain (OpenSpec.ofChange fnSolveSpec)) fnSolveCard

/-- THE SECOND FORM's CARD OF 'laws.FnSolveBoth'. -/
def fnSolveBothUptoCard : Claim7 := { stood := { row := fnSolveBothUptoRow, standIns := [], harness := (true, "3a07677912632440e5954f2b4561643693716424f79768fa43d279f5b82a9e68"), looks := true }, kinds := [], alts := [], laidByText := true, laidKinds := [.data, .data, .data, .data, .sentinel, .sentinel, .sentinel, .sentinel, .sentinel, .pinned], laidTests := true, laidLooks := .later }
def FnSolveBothUptoCardSaid : Prop := Claim7.holds Tryz.pinned (.plain (OpenSpec.upto fnSolveBothSpec)) fnSolveBothUptoCard

/-- THE SECOND FORM's CARD OF 'laws.FnSolveTurn'. -/
def fnSolveTurnUptoCard : Claim7 := { stood := { row := fnSolveTurnUptoRow, standIns := [], harness := (true, "3a07677912632440e5954f2b4561643693716424f79768fa43d279f5b82a9e68"), looks := true }, kinds := [], alts := [], laidByText := true, laidKinds := [.data, .data, .data, .data, .sentinel, .sentinel, .sentinel, .sentinel, .sentinel, .pinned], laidTests := true, laidLooks := .later }
def FnSolveTurnUptoCardSaid : Prop := Claim7.holds Tryz.pinned (.plain (OpenSpec.upto fnSolveTurnSpec)) fnSolveTurnUptoCard

/-- THE SECOND FORM's CARD OF 'laws.FnSolveMore'. -/
def fnSolveMoreUptoCard : Claim7 := { stood := { row := fnSolveMoreUptoRow, standIns := [], harness := (true, "3a07677912632440e5954f2b4561643693716424f79768fa43d279f5b82a9e68"), looks := true }, kinds := [], alts := [], laidByText := true, laidKinds := [.data, .data, .data, .data, .sentinel, .sentinel, .sentinel, .sentinel, .sentinel, .pinned], laidTests := true, laidLooks := .later }
def FnSolveMoreUptoCardSaid : Prop := Claim7.holds Tryz.pinned (.plain (OpenSpec.upto fnSolveMoreSpec)) fnSolveMoreUptoCard

/-- THE SECOND FORM's CARD OF 'laws.FnSolve'. -/
def fnSolveUptoCard : Claim7 := { stood := { row := fnSolveUptoRow, standIns := [], harness := (true, "3a07677912632440e5954f2b4561643693716424f79768fa43d279f5b82a9e68"), looks := true }, kinds := [], alts := [], laidByText := true, laidKinds := [.data, .data, .data, .data, .sentinel, .sentinel, .sentinel, .sentinel, .sentinel, .pinned], laidTests := true, laidLooks := .later }
def FnSolveUptoCardSaid : Prop := Claim7.holds Tryz.pinned (.plain (OpenSpec.upto fnSolveSpec)) fnSolveUptoCard
end Rows
end Go.Proofs.YtiglcianecnchaaGreatDoor
