/-
  DERIVED. GIVEN WITH THE SEED: THE CARDS: each row of YtfjlkobhagjdaaaGreatDoorRows.lean that lists a variable, with what it lists TIED to the program's text (the seventh form; the later family's looks); each row that meets fmt, with fmt's text TOLD by the authors' own Lean function (tested against real Go, not proved from fmt's source: count such statements apart). THE CARD IS WHAT COUNTS. Prove the row's statement (the work); the ties are given (YtfjlkobhagjdaaaGreatDoorTie.lean); close each card by the builder's one call (the guide's Derived/Test/ToyasCard.lean, 'card_holds'). Laid BY PROGRAM, IN A SANDBOX (cutbox-door.mjs). By AI agents, Wed Nov 11 2026. No macro, syntax, notation, axiom, sorry.
-/
import Derived.Test.YtfjlkobhagjdaaaGreatDoorRows
import GoSem.ClaimSeven
namespace Go.Proofs.YtfjlkobhagjdaaaGreatDoor
namespace Rows

/-- THE TIED CARD OF 'laws.FnExactSolveLeast'. -/
def fnExactSolveLeastCard : Claim7 := { stood := { row := fnExactSolveLeastRow, standIns := [], harness := (true, "7692e317875b05edbb81ca9e7e37ab06743035031e655f84d738258fa8a29e32"), looks := true }, kinds := [], alts := [], laidByText := true, laidKinds := [.data, .data, .data, .data, .sentinel, .sentinel, .sentinel, .sentinel, .sentinel, .pinned], laidTests := true, laidLooks := .later }
def FnExactSolveLeastCardSaid : Prop := Claim7.holds Tryz.pinned (.plain (OpenSpec.ofChange fnExactSolveLeastSpec)) fnExactSolveLeastCard

/-- THE TIED CARD OF 'laws.FnSolveLeast'. -/
def fnSolveLeastCard : Claim7 := { stood := { row := fnSolveLeastRow, standIns := [], harness := (true, "7692e317875b05edbb81ca9e7e37ab06743035031e655f84d738258fa8a29e32"), looks := true }, kinds := [], alts := [], laidByText := true, laidKinds := [.data, .data, .data, .data, .sentinel, .sentinel, .sentinel, .sentinel, .sentinel, .pinned], laidTests := true, laidLooks := .later }
def FnSolveLeastCardSaid : Prop := Claim7.holds Tryz.pinned (.plain (OpenSpec.ofChange fnSolveLeastSpec)) fnSolveLeastCard

/-- THE TIED CARD OF 'laws.FnExactSolveCore'. -/
def fnExactSolveCoreCard : Claim7 := { stood := { row := fnExactSolveCoreRow, standIns := [], harness := (true, "7692e317875b05edbb81ca9e7e37ab06743035031e655f84d738258fa8a29e32"), looks := true }, kinds := [], alts := [], laidByText := true, laidKinds := [.data, .data, .data, .data, .sentinel, .sentinel, .sentinel, .sentinel, .sentinel, .pinned], laidTests := true, laidLooks := .later }
def FnExactSolveCoreCardSaid : Prop := Claim7.holds Tryz.pinned (.plain (OpenSpec.ofChange fnExactSolveCoreSpec)) fnExactSolveCoreCard

/-- THE TIED CARD OF 'laws.FnSolveCore'. -/
def fnSolveCoreCard : Claim7 := { stood := { row := fnSolveCoreRow, standIns := [], harness := (true, "7692e317875b05edbb81ca9e7e37ab06743035031e655f84d738258fa8a29e32"), looks := true }, kinds := [], alts := [], laidByText := true, laidKinds := [.data, .data, .data, .data, .sentinel, .sentinel, .sentinel, .sentinel, .sentinel, .pinned], laidTests := true, laidLooks := .later }
def FnSolveCoreCardSaid : Prop := Claim7.holds Tryz.pinned (.plain (OpenSpec.ofChange fnSolveCoreSpec)) fnSolveCoreCard

/-- THE SECOND FORM's CARD OF 'laws.FnExactSolveLeast'. -/
def fnExactSolveLeastUptoCard : Claim7 := { stood := { row := fnExactSolveLeastUptoRow, standIns := [], harness := (true, "7692e317875b05edbb81ca9e7e37ab06743035031e655f84d738258fa8a29e32"), looks := true }, kinds := [], alts := [], laidByText := true, laidKinds := [.data, .data, .data, .data, .sentinel, .sentinel, .sentinel, .sentinel, .sentinel, .pinned], laidTests := true, laidLooks := .later }
def FnExactSolveLeastUptoCardSaid : Prop := Claim7.holds Tryz.pinned (.plain (OpenSpec.upto fnExactSolveLeastSpec)) fnExactSolveLeastUptoCard

/-- THE SECOND FORM's CARD OF 'laws.FnSolveLeast'. -/
def fnSolveLeastUptoCard : Claim7 := { stood := { row := fnSolveLeastUptoRow, standIns := [], harness := (true, "7692e317875b05edbb81ca9e7e37ab06743035031e655f84d738258fa8a29e32"), looks := true }, kinds := [], alts := [], laidByText := true, laidKinds := [.data, .data, .data, .data, .sentinel, .sentinel, .sentinel, .sentinel, .sentinel, .pinned], laidTests := true, laidLooks := .later }
def FnSolveLeastUptoCardSaid : Prop := Claim7.holds Tryz.pinned (.plain (OpenSpec.upto fnSolveLeastSpec)) fnSolveLeastUptoCard

/-- THE SECOND FORM's CARD OF 'laws.FnExactSolveCore'. -/
def fnExactSolveCoreUptoCard : Claim7 := { stood := { row := fnExactSolveCoreUptoRow, standIns := [], harness := (true, "7692e317875b05edbb81ca9e7e37ab06743035031e655f84d738258fa8a29e32"), looks := true }, kinds := [], alts := [], laidByText := true, laidKinds := [.data, .data, .data, .data, .sentinel, .sentinel, .sentinel, .sentinel, .sentinel, .pinned], laidTests := true, laidLooks := .later }
def FnExactSolveCoreUptoCardSaid : Prop := Claim7.holds Tryz.pinned (.plain (OpenSpec.upto fnExactSolveCoreSpec)) fnExactSolveCoreUptoCard

/-- THE SECOND FORM's CARD OF 'laws.FnSolveCore'. -/
def fnSolveCoreUptoCard : Claim7 := { stood := { row := fnSolveCoreUptoRow, standIns := [], harness := (true, "7692e317875b05edbb81ca9e7e37ab06743035031e655f84d738258fa8a29e32"), looks := true }, kinds := [], alts := [], laidByText := true, laidKinds := [.data, .data, .data, .data, .sentinel, .sentinel, .sentinel, .sentinel, .sentinel, .pinned], laidTests := true, laidLooks := .later }
def FnSolveCoreUptoCardSaid : Prop := Claim7.holds Tryz.pinned (.plain (OpenSpec.upto fnSolveCoreSpec)) fnSolveCoreUptoCard
end Rows
end Go.Proofs.YtfjlkobhagjdaaaGreatDoor
