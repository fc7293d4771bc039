/-
  DERIVED. GIVEN WITH THE SEED: THE CARDS: each row of YtjkkiaacmedfdaaGreatDoorRows.lean that lists a variable, with what it lists TIED to the program's text (the seventh form; the later family's looks); each row that meets fmt, with fmt's text TOLD by the authors' own Lean function (tested against real Go, not proved from fmt's source: count such statements apart). THE CARD IS WHAT COUNTS. Prove the row's statement (the work); the ties are given (YtjkkiaacmedfdaaGreatDoorTie.lean); close each card by the builder's one call (the guide's Derived/Test/ToyasCard.lean, 'card_holds'). Laid BY PROGRAM, IN A SANDBOX (cutbox-door.mjs). By AI agents, Wed Nov 11 2026. No macro, syntax, notation, axiom, sorry.
-/
import Derived.Test.YtjkkiaacmedfdaaGreatDoorRows
import GoSem.ClaimSeven
namespace Go.Proofs.YtjkkiaacmedfdaaGreatDoor
namespace Rows

/-- THE TIED CARD OF 'laws.FnSolveCase'. -/
def fnSolveCaseCard : Claim7 := { stood := { row := fnSolveCaseRow, standIns := [], harness := (true, "d74a5149c9a4f9b2064a5ff392cea777522f8df7b4c62e9fd8b9f90f99d2258c"), looks := true }, kinds := [], alts := [], laidByText := true, laidKinds := [.data, .data, .data, .data, .sentinel, .sentinel, .sentinel, .sentinel, .sentinel, .pinned], laidTests := true, laidLooks := .later }
def FnSolveCaseCardSaid : Prop := Claim7.holds Tryz.pinned (.plain (OpenSpec.ofChange fnSolveCaseSpec)) fnSolveCaseCard

/-- THE TIED CARD OF 'laws.FnSolveShort'. -/
def fnSolveShortCard : Claim7 := { stood := { row := fnSolveShortRow, standIns := [], harness := (true, "d74a5149c9a4f9b2064a5ff392cea777522f8df7b4c62e9fd8b9f90f99d2258c"), looks := true }, kinds := [], alts := [], laidByText := true, laidKinds := [.data, .data, .data, .data, .sentinel, .sentinel, .sentinel, .sentinel, .sentinel, .pinned], laidTests := true, laidLooks := .later }
def FnSolveShortCardSaid : Prop := Claim7.holds Tryz.pinned (.plain (OpenSpec.ofChange fnSolveShortSpec)) fnSolveShortCard

/-- THE TIED CARD OF 'laws.FnSolveFixed'. -/
def fnSolveFixedCard : Claim7 := { stood := { row := fnSolveFixedRow, standIns := [], harness := (true, "d74a5149c9a4f9b2064a5ff392cea777522f8df7b4c62e9fd8b9f90f99d2258c"), looks := true }, kinds := [], alts := [], laidByText := true, laidKinds := [.data, .data, .data, .data, .sentinel, .sentinel, .sentinel, .sentinel, .sentinel, .pinned], laidTests := true, laidLooks := .later }
def FnSolveFixedCardSaid : Prop := Claim7.holds Tryz.pinned (.plain (OpenSpec.ofChange fnSolveFixedSpec)) fnSolveFixedCard

/-- THE TIED CARD OF 'laws.FnSolveProve'. -/
def fnSolveProveCard : Claim7 := { stood := { row := fnSolveProveRow, standIns := [], harness := (true, "d74a5149c9a4f9b2064a5ff392cea777522f8df7b4c62e9fd8b9f90f99d2258c"), looks := true }, kinds := [], alts := [], laidByText := true, laidKinds := [.data, .data, .data, .data, .sentinel, .sentinel, .sentinel, .sentinel, .sentinel, .pinned], laidTests := true, laidLooks := .later }
def FnSolveProveCardSaid : Prop := Claim7.holds Tryz.pinned (.plain (OpenSpec.ofChange fnSolveProveSpec)) fnSolveProveCard

/-- THE SECOND FORM's CARD OF 'laws.FnSolveCase'. -/
def fnSolveCaseUptoCard : Claim7 := { stood := { row := fnSolveCaseUptoRow, standIns := [], harness := (true, "d74a5149c9a4f9b2064a5ff392cea777522f8df7b4c62e9fd8b9f90f99d2258c"), looks := true }, kinds := [], alts := [], laidByText := true, laidKinds := [.data, .data, .data, .data, .sentinel, .sentinel, .sentinel, .sentinel, .sentinel, .pinned], laidTests := true, laidLooks := .later }
def FnSolveCaseUptoCardSaid : Prop := Claim7.holds Tryz.pinned (.plain (OpenSpec.upto fnSolveCaseSpec)) fnSolveCaseUptoCard

/-- THE SECOND FORM's CARD OF 'laws.FnSolveShort'. -/
def fnSolveShortUptoCard : Claim7 := { stood := { row := fnSolveShortUptoRow, standIns := [], harness := (true, "d74a5149c9a4f9b2064a5ff392cea777522f8df7b4c62e9fd8b9f90f99d2258c"), looks := true }, kinds := [], alts := [], laidByText := true, laidKinds := [.data, .data, .data, .data, .sentinel, .sentinel, .sentinel, .sentinel, .sentinel, .pinned], laidTests := true, laidLooks := .later }
def FnSolveShortUptoCardSaid : Prop := Claim7.holds Tryz.pinned (.plain (OpenSpec.upto fnSolveShortSpec)) fnSolveShortUptoCard

/-- THE SECOND FORM's CARD OF 'laws.FnSolveFixed'. -/
def fnSolveFixedUptoCard : Claim7 := { stood := { row := fnSolveFixedUptoRow, standIns := [], harness := (true, "d74a5149c9a4f9b2064a5ff392cea777522f8df7b4c62e9fd8b9f90f99d2258c"), looks := true }, kinds := [], alts := [], laidByText := true, laidKinds := [.data, .data, .data, .data, .sentinel, .sentinel, .sentinel, .sentinel, .sentinel, .pinned], laidTests := true, laidLooks := .later }
def FnSolveFixedUptoCardSaid : Prop := Claim7.holds Tryz.pinned (.plain (OpenSpec.upto fnSolveFixedSpec)) fnSolveFixedUptoCard

/-- THE SECOND FORM's CARD OF 'laws.FnSolveProve'. -/
def fnSolveProveUptoCard : Claim7 := { stood := { row := fnSolveProveUptoRow, standIns := [], harness := (true, "d74a5149c9a4f9b2064a5ff392cea777522f8df7b4c62e9fd8b9f90f99d2258c"), looks := true }, kinds := [], alts := [], laidByText := true, laidKinds := [.data, .data, .data, .data, .sentinel, .sentinel, .sentinel, .sentinel, .sentinel, .pinned], laidTests := true, laidLooks := .later }
def FnSolveProveUptoCardSaid : Prop := Claim7.holds Tryz.pinned (.plain (OpenSpec.upto fnSolveProveSpec)) fnSolveProveUptoCard
end Rows
end Go.Proofs.YtjkkiaacmedfdaaGreatDoor
