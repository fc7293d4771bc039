/-
  DERIVED. GIVEN WITH THE SEED: THE CARDS: each row of YtaemeijeaajoeaaGreatDoorRows.lean that lists a variable, with what it lists TIED to the program's text (the seventh form; the later family's looks); each row that meets fmt, with fmt's text TOLD by the authors' own Lean function (tested against real Go, not proved from fmt's source: count such statements apart). THE CARD IS WHAT COUNTS. Prove the row's statement (the work); the ties are given (YtaemeijeaajoeaaGreatDoorTie.lean); close each card by the builder's one call (the guide's Derived/Test/ToyasCard.lean, 'card_holds'). Laid BY PROGRAM, IN A SANDBOX (cutbox-door.mjs). By AI agents, Wed Nov 11 2026. No macro, syntax, notation, axiom, sorry.
-/
import Derived.Test.YtaemeijeaajoeaaGreatDoorRows
import GoSem.ClaimSeven
namespace Go.Proofs.YtaemeijeaajoeaaGreatDoor
namespace Rows

/-- THE TIED CARD OF 'laws.FnExactTermRead'. -/
def fnExactTermReadCard : Claim7 := { stood := { row := fnExactTermReadRow, standIns := [], harness := (true, "e3f8785bcecd5f1f817593af9a103571ed0d9b8e9e4e472c95b65b59e58c5311"), looks := true }, kinds := [], alts := [], laidByText := true, laidKinds := [.data, .data, .data, .data, .sentinel, .sentinel, .pinned], laidTests := true, laidLooks := .later }
def FnExactTermReadCardSaid : Prop := Claim7.holds Tryz.pinned (.plain (OpenSpec.ofChange fnExactTermReadSpec)) fnExactTermReadCard

/-- THE TIED CARD OF 'laws.FnTerm'. -/
def fnTermCard : Claim7 := { stood := { row := fnTermRow, standIns := [], harness := (true, "e3f8785bcecd5f1f817593af9a103571ed0d9b8e9e4e472c95b65b59e58c5311"), looks := true }, kinds := [], alts := [], laidByText := true, laidKinds := [.data, .data, .data, .data, .sentinel, .sentinel, .pinned], laidTests := true, laidLooks := .later }
def FnTermCardSaid : Prop := Claim7.holds Tryz.pinned (.plain (OpenSpec.ofChange fnTermSpec)) fnTermCard

/-- THE SECOND FORM's CARD OF 'laws.FnExactTermRead'. -/
def fnExactTermReadUptoCard : Claim7 := { stood := { row := fnExactTermReadUptoRow, standIns := [], harness := (true, "e3f8785bcecd5f1f817593af9a103571ed0d9b8e9e4e472c95b65b59e58c5311"), looks := true }, kinds := [], alts := [], laidByText := true, laidKinds := [.data, .data, .data, .data, .sentinel, .sentinel, .pinned], laidTests := true, laidLooks := .later }
def FnExactTermReadUptoCardSaid : Prop := Claim7.holds Tryz.pinned (.plain (OpenSpec.upto fnExactTermReadSpec)) fnExactTermReadUptoCard

/-- THE SECOND FORM's CARD OF 'laws.FnTerm'. -/
def fnTermUptoCard : Claim7 := { stood := { row := fnTermUptoRow, standIns := [], harness := (true, "e3f8785bcecd5f1f817593af9a103571ed0d9b8e9e4e472c95b65b59e58c5311"), looks := true }, kinds := [], alts := [], laidByText := true, laidKinds := [.data, .data, .data, .data, .sentinel, .sentinel, .pinned], laidTests := true, laidLooks := .later }
def FnTermUptoCardSaid : Prop := Claim7.holds Tryz.pinned (.plain (OpenSpec.upto fnTermSpec)) fnTermUptoCard
end Rows
end Go.Proofs.YtaemeijeaajoeaaGreatDoor
