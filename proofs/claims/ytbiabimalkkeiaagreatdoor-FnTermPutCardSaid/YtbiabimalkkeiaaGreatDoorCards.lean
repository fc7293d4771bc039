/-
  DERIVED. GIVEN WITH THE SEED: THE CARDS: each row of YtbiabimalkkeiaaGreatDoorRows.lean that lists a variable, with what it lists TIED to the program's text (the seventh form; the later family's looks); each row that meets fmt, with fmt's text TOLD by the authors' own Lean function (tested against real Go, not proved from fmt's source: count such statements apart). THE CARD IS WHAT COUNTS. Prove the row's statement (the work); the ties are given (YtbiabimalkkeiaaGreatDoorTie.lean); close each card by the builder's one call (the guide's Derived/Test/ToyasCard.lean, 'card_holds'). Laid BY PROGRAM, IN A SANDBOX (cutbox-door.mjs). By AI agents, Wed Nov 11 2026. No macro, syntax, notation, axiom, sorry.
-/
import Derived.Test.YtbiabimalkkeiaaGreatDoorRows
import GoSem.ClaimSeven
namespace Go.Proofs.YtbiabimalkkeiaaGreatDoor
namespace Rows

/-- THE TIED CARD OF 'laws.FnExactTermEval'. -/
def fnExactTermEvalCard : Claim7 := { stood := { row := fnExactTermEvalRow, standIns := [], harness := (true, "9fee1827f3db32bf736b749b0360987b80a257804e8fcbe61c58cb4a7db7b269"), looks := true }, kinds := [], alts := [], laidByText := true, laidKinds := [.data, .pinned], laidTests := true, laidLooks := .later }
def FnExactTermEvalCardSaid : Prop := Claim7.holds Tryz.pinned (.plain (OpenSpec.ofChange fnExactTermEvalSpec)) fnExactTermEvalCard

/-- THE TIED CARD OF 'laws.FnTermPut'. -/
def fnTermPutCard : Claim7 := { stood := { row := fnTermPutRow, standIns := [], harness := (true, "9fee1827f3db32bf736b749b0360987b80a257804e8fcbe61c58cb4a7db7b269"), looks := true }, kinds := [], alts := [], laidByText := true, laidKinds := [.data, .pinned], laidTests := true, laidLooks := .later }
def FnTermPutCardSaid : Prop := Claim7.holds Tryz.pinned (.plain (OpenSpec.ofChange fnTermPutSpec)) fnTermPutCard

/-- THE TIED CARD OF 'laws.FnTermSort'. -/
def fnTermSortCard : Claim7 := { stood := { row := fnTermSortRow, standIns := [], harness := (true, "9fee1827f3db32bf736b749b0360987b80a257804e8fcbe61c58cb4a7db7b269"), looks := true }, kinds := [], alts := [], laidByText := true, laidKinds := [.data, .pinned], laidTests := true, laidLooks := .later }
def FnTermSortCardSaid : Prop := Claim7.holds Tryz.pinned (.plain (OpenSpec.ofChange fnTermSortSpec)) fnTermSortCard

/-- THE TIED CARD OF 'laws.FnTermLogic'. -/
def fnTermLogicCard : Claim7 := { stood := { row := fnTermLogicRow, standIns := [], harness := (true, "9fee1827f3db32bf736b749b0360987b80a257804e8fcbe61c58cb4a7db7b269"), looks := true }, kinds := [], alts := [], laidByText := true, laidKinds := [.data, .pinned], laidTests := true, laidLooks := .later }
def FnTermLogicCardSaid : Prop := Claim7.holds Tryz.pinned (.plain (OpenSpec.ofChange fnTermLogicSpec)) fnTermLogicCard

/-- THE TIED CARD OF 'laws.FnTermEval'. -/
def fnTermEvalCard : Claim7 := { stood := { row := fnTermEvalRow, standIns := [], harness := (true, "9fee1827f3db32bf736b749b0360987b80a257804e8fcbe61c58cb4a7db7b269"), looks := true }, kinds := [], alts := [], laidByText := true, laidKinds := [.data, .pinned], laidTests := true, laidLooks := .later }
def FnTermEvalCardSaid : Prop := Claim7.holds Tryz.pinned (.plain (OpenSpec.ofChange fnTermEvalSpec)) fnTermEvalCard

/-- THE TIED CARD OF 'laws.FnTermName'. -/
def fnTermNameCard : Claim7 := { stood := { row := fnTermNameRow, standIns := [], harness := (true, "9fee1827f3db32bf736b749b0360987b80a257804e8fcbe61c58cb4a7db7b269"), looks := true }, kinds := [], alts := [], laidByText := true, laidKinds := [.data, .pinned], laidTests := true, laidLooks := .later }
def FnTermNameCardSaid : Prop := Claim7.holds Tryz.pinned (.plain (OpenSpec.ofChange fnTermNameSpec)) fnTermNameCard

/-- THE TIED CARD OF 'laws.FnExactTermRead'. -/
def fnExactTermReadCard : Claim7 := { stood := { row := fnExactTermReadRow, standIns := [], harness := (true, "9fee1827f3db32bf736b749b0360987b80a257804e8fcbe61c58cb4a7db7b269"), looks := true }, kinds := [], alts := [], laidByText := true, laidKinds := [.data, .data, .data, .data, .sentinel, .sentinel, .pinned], laidTests := true, laidLooks := .later }
def FnExactTermReadCardSaid : Prop := Claim7.holds Tryz.pinned (.plain (OpenSpec.ofChange fnExactTermReadSpec)) fnExactTermReadCard

/-- THE TIED CARD OF 'laws.FnTerm'. -/
def fnTermCard : Claim7 := { stood := { row := fnTermRow, standIns := [], harness := (true, "9fee1827f3db32bf736b749b0360987b80a257804e8fcbe61c58cb4a7db7b269"), looks := true }, kinds := [], alts := [], laidByText := true, laidKinds := [.data, .data, .data, .data, .sentinel, .sentinel, .pinned], laidTests := true, laidLooks := .later }
def FnTermCardSaid : Prop := Claim7.holds Tryz.pinned (.plain (OpenSpec.ofChange fnTermSpec)) fnTermCard

/-- THE SECOND FORM's CARD OF 'laws.FnExactTermEval'. -/
def fnExactTermEvalUptoCard : Claim7 := { stood := { row := fnExactTermEvalUptoRow, standIns := [], harness := (true, "9fee1827f3db32bf736b749b0360987b80a257804e8fcbe61c58cb4a7db7b269"), looks := true }, kinds := [], alts := [], laidByText := true, laidKinds := [.data, .pinned], laidTests := true, laidLooks := .later }
def FnExactTermEvalUptoCardSaid : Prop := Claim7.holds Tryz.pinned (.plain (OpenSpec.upto fnExactTermEvalSpec)) fnExactTermEvalUptoCard

/-- THE SECOND FORM's CARD OF 'laws.FnTermPut'. -/
def fnTermPutUptoCard : Claim7 := { stood := { row := fnTermPutUptoRow, standIns := [], harness := (true, "9fee1827f3db32bf736b749b0360987b80a257804e8fcbe61c58cb4a7db7b269"), looks := true }, kinds := [], alts := [], laidByText := true, laidKinds := [.data, .pinned], laidTests := true, laidLooks := .later }
def FnTermPutUptoCardSaid : Prop := Claim7.holds Tryz.pinned (.plain (OpenSpec.upto fnTermPutSpec)) fnTermPutUptoCard

/-- THE SECOND FORM's CARD OF 'laws.FnTermSort'. -/
def fnTermSortUptoCard : Claim7 := { stood := { row := fnTermSortUptoRow, standIns := [], harness := (true, "9fee1827f3db32bf736b749b0360987b80a257804e8fcbe61c58cb4a7db7b269"), looks := true }, kinds := [], alts := [], laidByText := true, laidKinds := [.data, .pinned], laidTests := true, laidLooks := .later }
def FnTermSortUptoCardSaid : Prop := Claim7.holds Tryz.pinned (.plain (OpenSpec.upto fnTermSortSpec)) fnTermSortUptoCard

/-- THE SECOND FORM's CARD OF 'laws.FnTermLogic'. -/
def fnTermLogicUptoCard : Claim7 := { stood := { row := fnTermLogicUptoRow, standIns := [], harness := (true, "9fee1827f3db32bf736b749b0360987b80a257804e8fcbe61c58cb4a7db7b269"), looks := true }, kinds := [], alts := [], laidByText := true, laidKinds := [.data, .pinned], laidTests := true, laidLooks := .later }
def FnTermLogicUptoCardSaid : Prop := Claim7.holds Tryz.pinned (.plain (OpenSpec.upto fnTermLogicSpec)) fnTermLogicUptoCard

/-- THE SECOND FORM's CARD OF 'laws.FnTermEval'. -/
def fnTermEvalUptoCard : Claim7 := { stood := { row := fnTermEvalUptoRow, standIns := [], harness := (true, "9fee1827f3db32bf736b749b0360987b80a257804e8fcbe61c58cb4a7db7b269"), looks := true }, kinds := [], alts := [], laidByText := true, laidKinds := [.data, .pinned], laidTests := true, laidLooks := .later }
def FnTermEvalUptoCardSaid : Prop := Claim7.holds Tryz.pinned (.plain (OpenSpec.upto fnTermEvalSpec)) fnTermEvalUptoCard

/-- THE SECOND FORM's CARD OF 'laws.FnTermName'. -/
def fnTermNameUptoCard : Claim7 := { stood := { row := fnTermNameUptoRow, standIns := [], harness := (true, "9fee1827f3db32bf736b749b0360987b80a257804e8fcbe61c58cb4a7db7b269"), looks := true }, kinds := [], alts := [], laidByText := true, laidKinds := [.data, .pinned], laidTests := true, laidLooks := .later }
def FnTermNameUptoCardSaid : Prop := Claim7.holds Tryz.pinned (.plain (OpenSpec.upto fnTermNameSpec)) fnTermNameUptoCard

/-- THE SECOND FORM's CARD OF 'laws.FnExactTermRead'. -/
def fnExactTermReadUptoCard : Claim7 := { stood := { row := fnExactTermReadUptoRow, standIns := [], harness := (true, "9fee1827f3db32bf736b749b0360987b80a257804e8fcbe61c58cb4a7db7b269"), looks := true }, kinds := [], alts := [], laidByText := true, laidKinds := [.data, .data, .data, .data, .sentinel, .sentinel, .pinned], laidTests := true, laidLooks := .later }
def FnExactTermReadUptoCardSaid : Prop := Claim7.holds Tryz.pinned (.plain (OpenSpec.upto fnExactTermReadSpec)) fnExactTermReadUptoCard

/-- THE SECOND FORM's CARD OF 'laws.FnTerm'. -/
def fnTermUptoCard : Claim7 := { stood := { row := fnTermUptoRow, standIns := [], harness := (true, "9fee1827f3db32bf736b749b0360987b80a257804e8fcbe61c58cb4a7db7b269"), looks := true }, kinds := [], alts := [], laidByText := true, laidKinds := [.data, .data, .data, .data, .sentinel, .sentinel, .pinned], laidTests := true, laidLooks := .later }
def FnTermUptoCardSaid : Prop := Claim7.holds Tryz.pinned (.plain (OpenSpec.upto fnTermSpec)) fnTermUptoCard
end Rows
end Go.Proofs.YtbiabimalkkeiaaGreatDoor
