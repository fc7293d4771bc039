/-
  DERIVED. GIVEN WITH THE SEED: THE CARDS: each row of YtolbhkcajhlllaaGreatDoorRows.lean that lists a variable, with what it lists TIED to the program's text (the seventh form; the later family's looks); each row that meets fmt, with fmt's text TOLD by the authors' own Lean function (tested against real Go, not proved from fmt's source: count such statements apart). THE CARD IS WHAT COUNTS. Prove the row's statement (the work); the ties are given (YtolbhkcajhlllaaGreatDoorTie.lean); close each card by the builder's one call (the guide's Derived/Test/ToyasCard.lean, 'card_holds'). Laid BY PROGRAM, IN A SANDBOX (cutbox-door.mjs). By AI agents, Wed Nov 11 2026. No macro, syntax, notation, axiom, sorry.
-/
import Derived.Test.YtolbhkcajhlllaaGreatDoorRows
import GoSem.ClaimSeven
namespace Go.Proofs.YtolbhkcajhlllaaGreatDoor
namespace Rows

/-- THE TIED CARD OF 'laws.FnExactSolve'. -/
def fnExactSolveCard : Claim7 := { stood := { row := fnExactSolveRow, standIns := [], harness := (true, "ab366ed4f16751dfecbaccb2b043c5ec9402b83ca62ddd084e5b403ac33f68e3"), looks := true }, kinds := [], alts := [], laidByText := true, laidKinds := [.data, .data, .data, .data, .sentinel, .sentinel, .sentinel, .sentinel, .sentinel, .pinned], laidTests := true, laidLooks := .later }
def FnExactSolveCardSaid : Prop := Claim7.holds Tryz.pinned (.plain (OpenSpec.ofChange fnExactSolveSpec)) fnExactSolveCard

/-- THE TIED CARD OF 'laws.FnExactSolveProve'. -/
def fnExactSolveProveCard : Claim7 := { stood := { row := fnExactSolveProveRow, standIns := [], harness := (true, "ab366ed4f16751dfecbaccb2b043c5ec9402b83ca62ddd084e5b403ac33f68e3"), looks := true }, kinds := [], alts := [], laidByText := true, laidKinds := [.data, .data, .data, .data, .sentinel, .sentinel, .sentinel, .sentinel, .sentinel, .pinned], laidTests := true, laidLooks := .later }
def FnExactSolveProveCardSaid : Prop := Claim7.holds Tryz.pinned (.plain (OpenSpec.ofChange fnExactSolveProveSpec)) fnExactSolveProveCard

/-- THE TIED CARD OF 'laws.FnSolveFold'. -/
def fnSolveFoldCard : Claim7 := { stood := { row := fnSolveFoldRow, standIns := [], harness := (true, "ab366ed4f16751dfecbaccb2b043c5ec9402b83ca62ddd084e5b403ac33f68e3"), looks := true }, kinds := [], alts := [], laidByText := true, laidKinds := [.data, .data, .data, .data, .sentinel, .sentinel, .sentinel, .sentinel, .sentinel, .pinned], laidTests := true, laidLooks := .later }
def FnSolveFoldCardSaid : Prop := Claim7.holds Tryz.pinned (.plain (OpenSpec.ofChange fnSolveFoldSpec)) fnSolveFoldCard

/-- THE SECOND FORM's CARD OF 'laws.FnExactSolve'. -/
def fnExactSolveUptoCard : Claim7 := { stood := { row := fnExactSolveUptoRow, standIns := [], harness := (true, "ab366ed4f16751dfecbaccb2b043c5ec9402b83ca62ddd084e5b403ac33f68e3"), looks := true }, kinds := [], alts := [], laidByText := true, laidKinds := [.data, .data, .data, .data, .sentinel, .sentinel, .sentinel, .sentinel, .sentinel, .pinned], laidTests := true, laidLooks := .later }
def FnExactSolveUptoCardSaid : Prop := Claim7.holds Tryz.pinned (.plain (OpenSpec.upto fnExactSolveSpec)) fnExactSolveUptoCard

/-- THE SECOND FORM's CARD OF 'laws.FnExactSolveProve'. -/
def fnExactSolveProveUptoCard : Claim7 := { stood := { row := fnExactSolveProveUptoRow, standIns := [], harness := (true, "ab366ed4f16751dfecbaccb2b043c5ec9402b83ca62ddd084e5b403ac33f68e3"), looks := true }, kinds := [], alts := [], laidByText := true, laidKinds := [.data, .data, .data, .data, .sentinel, .sentinel, .sentinel, .sentinel, .sentinel, .pinned], laidTests := true, laidLooks := .later }
def FnExactSolveProveUptoCardSaid : Prop := Claim7.holds Tryz.pinned (.plain (OpenSpec.upto fnExactSolveProveSpec)) fnExactSolveProveUptoCard

/-- THE SECOND FORM's CARD OF 'laws.FnSolveFold'. -/
def fnSolveFoldUptoCard : Claim7 := { stood := { row := fnSolveFoldUptoRow, standIns := [], harness := (true, "ab366ed4f16751dfecbaccb2b043c5ec9402b83ca62ddd084e5b403ac33f68e3"), looks := true }, kinds := [], alts := [], laidByText := true, laidKinds := [.data, .data, .data, .data, .sentinel, .sentinel, .sentinel, .sentinel, .sentinel, .pinned], laidTests := true, laidLooks := .later }
def FnSolveFoldUptoCardSaid : Prop := Claim7.holds Tryz.pinned (.plain (OpenSpec.upto fnSolveFoldSpec)) fnSolveFoldUptoCard
end Rows
end Go.Proofs.YtolbhkcajhlllaaGreatDoor
