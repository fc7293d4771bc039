/-
  DERIVED. GIVEN WITH THE SEED: THE CARDS: each row of YtokflbdfnbppjaaGreatDoorRows.lean that lists a variable, with what it lists TIED to the program's text (the seventh form; the later family's looks); each row that meets fmt, with fmt's text TOLD by the authors' own Lean function (tested against real Go, not proved from fmt's source: count such statements apart). THE CARD IS WHAT COUNTS. Prove the row's statement (the work); the ties are given (YtokflbdfnbppjaaGreatDoorTie.lean); close each card by the builder's one call (the guide's Derived/Test/ToyasCard.lean, 'card_holds'). Laid BY PROGRAM, IN A SANDBOX (cutbox-door.mjs). By AI agents, Wed Nov 11 2026. No macro, syntax, notation, axiom, sorry.
-/
import Derived.Test.YtokflbdfnbppjaaGreatDoorRows
import GoSem.ClaimSeven
namespace Go.Proofs.YtokflbdfnbppjaaGreatDoor
namespace Rows

/-- THE TIED CARD OF 'laws.FnCtxAsserted'. -/
def fnCtxAssertedCard : Claim7 := { stood := { row := fnCtxAssertedRow, standIns := [], harness := (true, "fd78877ab8556d8e13b298d8216880a3e38bbc660c94100ea61c4d16ad4f6fd7"), looks := true }, kinds := [], alts := [], laidByText := true, laidKinds := [.data, .data, .data, .data, .sentinel, .sentinel, .sentinel, .sentinel, .sentinel, .pinned], laidTests := true, laidLooks := .later }
def FnCtxAssertedCardSaid : Prop := Claim7.holds Tryz.pinned (.plain (OpenSpec.ofChange fnCtxAssertedSpec)) fnCtxAssertedCard

/-- THE TIED CARD OF 'laws.FnCtxBack'. -/
def fnCtxBackCard : Claim7 := { stood := { row := fnCtxBackRow, standIns := [], harness := (true, "fd78877ab8556d8e13b298d8216880a3e38bbc660c94100ea61c4d16ad4f6fd7"), looks := true }, kinds := [], alts := [], laidByText := true, laidKinds := [.data, .data, .data, .data, .sentinel, .sentinel, .sentinel, .sentinel, .sentinel, .pinned], laidTests := true, laidLooks := .later }
def FnCtxBackCardSaid : Prop := Claim7.holds Tryz.pinned (.plain (OpenSpec.ofChange fnCtxBackSpec)) fnCtxBackCard

/-- THE SECOND FORM's CARD OF 'laws.FnCtxAsserted'. -/
def fnCtxAssertedUptoCard : Claim7 := { stood := { row := fnCtxAssertedUptoRow, standIns := [], harness := (true, "fd78877ab8556d8e13b298d8216880a3e38bbc660c94100ea61c4d16ad4f6fd7"), looks := true }, kinds := [], alts := [], laidByText := true, laidKinds := [.data, .data, .data, .data, .sentinel, .sentinel, .sentinel, .sentinel, .sentinel, .pinned], laidTests := true, laidLooks := .later }
def FnCtxAssertedUptoCardSaid : Prop := Claim7.holds Tryz.pinned (.plain (OpenSpec.upto fnCtxAssertedSpec)) fnCtxAssertedUptoCard

/-- THE SECOND FORM's CARD OF 'laws.FnCtxBack'. -/
def fnCtxBackUptoCard : Claim7 := { stood := { row := fnCtxBackUptoRow, standIns := [], harness := (true, "fd78877ab8556d8e13b298d8216880a3e38bbc660c94100ea61c4d16ad4f6fd7"), looks := true }, kinds := [], alts := [], laidByText := true, laidKinds := [.data, .data, .data, .data, .sentinel, .sentinel, .sentinel, .sentinel, .sentinel, .pinned], laidTests := true, laidLooks := .later }
def FnCtxBackUptoCardSaid : Prop := Claim7.holds Tryz.pinned (.plain (OpenSpec.upto fnCtxBackSpec)) fnCtxBackUptoCard
end Rows
end Go.Proofs.YtokflbdfnbppjaaGreatDoor
