/-
  DERIVED. GIVEN WITH THE SEED: THE CARDS: each row of YtaekfnbnhjgboaaGreatDoorRows.lean that lists a variable, with what it lists TIED to the program's text (the seventh form; the later family's looks); each row that meets fmt, with fmt's text TOLD by the authors' own Lean function (tested against real Go, not proved from fmt's source: count such statements apart). THE CARD IS WHAT COUNTS. Prove the row's statement (the work); the ties are given (YtaekfnbnhjgboaaGreatDoorTie.lean); close each card by the builder's one call (the guide's Derived/Test/ToyasCard.lean, 'card_holds'). Laid BY PROGRAM, IN A SANDBOX (cutbox-door.mjs). By AI agents, Wed Nov 11 2026. No macro, syntax, notation, axiom, sorry.
-/
import Derived.Test.YtaekfnbnhjgboaaGreatDoorRows
import GoSem.ClaimSeven
namespace Go.Proofs.YtaekfnbnhjgboaaGreatDoor
namespace Rows

/-- THE TIED CARD OF 'laws.FnBlastMany'. -/
def fnBlastManyCard : Claim7 := { stood := { row := fnBlastManyRow, standIns := [], harness := (true, "6e03c01a00194499830de59af54584ebb3bc82bd5a1eb2b5f74f6d2f804fd09f"), looks := true }, kinds := [], alts := [], laidByText := true, laidKinds := [.data, .data, .data, .data, .sentinel, .sentinel, .pinned], laidTests := true, laidLooks := .later }
def FnBlastManyCardSaid : Prop := Claim7.holds Tryz.pinned (.plain (OpenSpec.ofChange fnBlastManySpec)) fnBlastManyCard

/-- THE TIED CARD OF 'laws.FnExactBlast'. -/
def fnExactBlastCard : Claim7 := { stood := { row := fnExactBlastRow, standIns := [], harness := (true, "6e03c01a00194499830de59af54584ebb3bc82bd5a1eb2b5f74f6d2f804fd09f"), looks := true }, kinds := [], alts := [], laidByText := true, laidKinds := [.data, .data, .data, .data, .sentinel, .sentinel, .pinned], laidTests := true, laidLooks := .later }
def FnExactBlastCardSaid : Prop := Claim7.holds Tryz.pinned (.plain (OpenSpec.ofChange fnExactBlastSpec)) fnExactBlastCard

/-- THE TIED CARD OF 'laws.FnExactBlastCnf'. -/
def fnExactBlastCnfCard : Claim7 := { stood := { row := fnExactBlastCnfRow, standIns := [], harness := (true, "6e03c01a00194499830de59af54584ebb3bc82bd5a1eb2b5f74f6d2f804fd09f"), looks := true }, kinds := [], alts := [], laidByText := true, laidKinds := [.data, .data, .data, .data, .sentinel, .sentinel, .sentinel, .pinned], laidTests := true, laidLooks := .later }
def FnExactBlastCnfCardSaid : Prop := Claim7.holds Tryz.pinned (.plain (OpenSpec.ofChange fnExactBlastCnfSpec)) fnExactBlastCnfCard

/-- THE TIED CARD OF 'laws.FnBlast'. -/
def fnBlastCard : Claim7 := { stood := { row := fnBlastRow, standIns := [], harness := (true, "6e03c01a00194499830de59af54584ebb3bc82bd5a1eb2b5f74f6d2f804fd09f"), looks := true }, kinds := [], alts := [], laidByText := true, laidKinds := [.data, .data, .data, .data, .sentinel, .sentinel, .pinned], laidTests := true, laidLooks := .later }
def FnBlastCardSaid : Prop := Claim7.holds Tryz.pinned (.plain (OpenSpec.ofChange fnBlastSpec)) fnBlastCard

/-- THE TIED CARD OF 'laws.FnBlastFold'. -/
def fnBlastFoldCard : Claim7 := { stood := { row := fnBlastFoldRow, standIns := [], harness := (true, "6e03c01a00194499830de59af54584ebb3bc82bd5a1eb2b5f74f6d2f804fd09f"), looks := true }, kinds := [], alts := [], laidByText := true, laidKinds := [.data, .data, .data, .data, .sentinel, .sentinel, .pinned], laidTests := true, laidLooks := .later }
def FnBlastFoldCardSaid : Prop := Claim7.holds Tryz.pinned (.plain (OpenSpec.ofChange fnBlastFoldSpec)) fnBlastFoldCard

/-- THE TIED CARD OF 'laws.FnBlastCnf'. -/
def fnBlastCnfCard : Claim7 := { stood := { row := fnBlastCnfRow, standIns := [], harness := (true, "6e03c01a00194499830de59af54584ebb3bc82bd5a1eb2b5f74f6d2f804fd09f"), looks := true }, kinds := [], alts := [], laidByText := true, laidKinds := [.data, .data, .data, .data, .sentinel, .sentinel, .sentinel, .pinned], laidTests := true, laidLooks := .later }
def FnBlastCnfCardSaid : Prop := Claim7.holds Tryz.pinned (.plain (OpenSpec.ofChange fnBlastCnfSpec)) fnBlastCnfCard

/-- THE SECOND FORM's CARD OF 'laws.FnBlastMany'. -/
def fnBlastManyUptoCard : Claim7 := { stood := { row := fnBlastManyUptoRow, standIns := [], harness := (true, "6e03c01a00194499830de59af54584ebb3bc82bd5a1eb2b5f74f6d2f804fd09f"), looks := true }, kinds := [], alts := [], laidByText := true, laidKinds := [.data, .data, .data, .data, .sentinel, .sentinel, .pinned], laidTests := true, laidLooks := .later }
def FnBlastManyUptoCardSaid : Prop := Claim7.holds Tryz.pinned (.plain (OpenSpec.upto fnBlastManySpec)) fnBlastManyUptoCard

/-- THE SECOND FORM's CARD OF 'laws.FnExactBlast'. -/
def fnExactBlastUptoCard : Claim7 := { stood := { row := fnExactBlastUptoRow, standIns := [], harness := (true, "6e03c01a00194499830de59af54584ebb3bc82bd5a1eb2b5f74f6d2f804fd09f"), looks := true }, kinds := [], alts := [], laidByText := true, laidKinds := [.data, .data, .data, .data, .sentinel, .sentinel, .pinned], laidTests := true, laidLooks := .later }
def FnExactBlastUptoCardSaid : Prop := Claim7.holds Tryz.pinned (.plain (OpenSpec.upto fnExactBlastSpec)) fnExactBlastUptoCard

/-- THE SECOND FORM's CARD OF 'laws.FnExactBlastCnf'. -/
def fnExactBlastCnfUptoCard : Claim7 := { stood := { row := fnExactBlastCnfUptoRow, standIns := [], harness := (true, "6e03c01a00194499830de59af54584ebb3bc82bd5a1eb2b5f74f6d2f804fd09f"), looks := true }, kinds := [], alts := [], laidByText := true, laidKinds := [.data, .data, .data, .data, .sentinel, .sentinel, .sentinel, .pinned], laidTests := true, laidLooks := .later }
def FnExactBlastCnfUptoCardSaid : Prop := Claim7.holds Tryz.pinned (.plain (OpenSpec.upto fnExactBlastCnfSpec)) fnExactBlastCnfUptoCard

/-- THE SECOND FORM's CARD OF 'laws.FnBlast'. -/
def fnBlastUptoCard : Claim7 := { stood := { row := fnBlastUptoRow, standIns := [], harness := (true, "6e03c01a00194499830de59af54584ebb3bc82bd5a1eb2b5f74f6d2f804fd09f"), looks := true }, kinds := [], alts := [], laidByText := true, laidKinds := [.data, .data, .data, .data, .sentinel, .sentinel, .pinned], laidTests := true, laidLooks := .later }
def FnBlastUptoCardSaid : Prop := Claim7.holds Tryz.pinned (.plain (OpenSpec.upto fnBlastSpec)) fnBlastUptoCard

/-- THE SECOND FORM's CARD OF 'laws.FnBlastFold'. -/
def fnBlastFoldUptoCard : Claim7 := { stood := { row := fnBlastFoldUptoRow, standIns := [], harness := (true, "6e03c01a00194499830de59af54584ebb3bc82bd5a1eb2b5f74f6d2f804fd09f"), looks := true }, kinds := [], alts := [], laidByText := true, laidKinds := [.data, .data, .data, .data, .sentinel, .sentinel, .pinned], laidTests := true, laidLooks := .later }
def FnBlastFoldUptoCardSaid : Prop := Claim7.holds Tryz.pinned (.plain (OpenSpec.upto fnBlastFoldSpec)) fnBlastFoldUptoCard

/-- THE SECOND FORM's CARD OF 'laws.FnBlastCnf'. -/
def fnBlastCnfUptoCard : Claim7 := { stood := { row := fnBlastCnfUptoRow, standIns := [], harness := (true, "6e03c01a00194499830de59af54584ebb3bc82bd5a1eb2b5f74f6d2f804fd09f"), looks := true }, kinds := [], alts := [], laidByText := true, laidKinds := [.data, .data, .data, .data, .sentinel, .sentinel, .sentinel, .pinned], laidTests := true, laidLooks := .later }
def FnBlastCnfUptoCardSaid : Prop := Claim7.holds Tryz.pinned (.plain (OpenSpec.upto fnBlastCnfSpec)) fnBlastCnfUptoCard
end Rows
end Go.Proofs.YtaekfnbnhjgboaaGreatDoor
