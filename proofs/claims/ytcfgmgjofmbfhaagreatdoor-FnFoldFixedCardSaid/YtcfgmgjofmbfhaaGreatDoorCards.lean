/-
  DERIVED. GIVEN WITH THE SEED: THE CARDS: each row of YtcfgmgjofmbfhaaGreatDoorRows.lean that lists a variable, with what it lists TIED to the program's text (the seventh form; the later family's looks); each row that meets fmt, with fmt's text TOLD by the authors' own Lean function (tested against real Go, not proved from fmt's source: count such statements apart). THE CARD IS WHAT COUNTS. Prove the row's statement (the work); the ties are given (YtcfgmgjofmbfhaaGreatDoorTie.lean); close each card by the builder's one call (the guide's Derived/Test/ToyasCard.lean, 'card_holds'). Laid BY PROGRAM, IN A SANDBOX (cutbox-door.mjs). By AI agents, Wed Nov 11 2026. No macro, syntax, notation, axiom, sorry.
-/
import Derived.Test.YtcfgmgjofmbfhaaGreatDoorRows
import GoSem.ClaimSeven
namespace Go.Proofs.YtcfgmgjofmbfhaaGreatDoor
namespace Rows

/-- THE TIED CARD OF 'laws.FnFoldKids'. -/
def fnFoldKidsCard : Claim7 := { stood := { row := fnFoldKidsRow, standIns := [], harness := (true, "99a74330114d038cbdf1f8febb1d226645975eb29be18db4305ff15a05512ba1"), looks := false }, kinds := [], alts := [], laidByText := true, laidKinds := [.data, .pinned], laidTests := true, laidLooks := .later }
def FnFoldKidsCardSaid : Prop := Claim7.holds Tryz.pinned (.plain (OpenSpec.ofChange fnFoldKidsSpec)) fnFoldKidsCard

/-- THE TIED CARD OF 'laws.FnFoldTwice'. -/
def fnFoldTwiceCard : Claim7 := { stood := { row := fnFoldTwiceRow, standIns := [], harness := (true, "99a74330114d038cbdf1f8febb1d226645975eb29be18db4305ff15a05512ba1"), looks := false }, kinds := [], alts := [], laidByText := true, laidKinds := [.data, .pinned], laidTests := true, laidLooks := .later }
def FnFoldTwiceCardSaid : Prop := Claim7.holds Tryz.pinned (.plain (OpenSpec.ofChange fnFoldTwiceSpec)) fnFoldTwiceCard

/-- THE TIED CARD OF 'laws.FnExactTermOne'. -/
def fnExactTermOneCard : Claim7 := { stood := { row := fnExactTermOneRow, standIns := [], harness := (true, "99a74330114d038cbdf1f8febb1d226645975eb29be18db4305ff15a05512ba1"), looks := false }, kinds := [], alts := [], laidByText := true, laidKinds := [.data, .pinned], laidTests := true, laidLooks := .later }
def FnExactTermOneCardSaid : Prop := Claim7.holds Tryz.pinned (.plain (OpenSpec.ofChange fnExactTermOneSpec)) fnExactTermOneCard

/-- THE TIED CARD OF 'laws.FnExactTermFold'. -/
def fnExactTermFoldCard : Claim7 := { stood := { row := fnExactTermFoldRow, standIns := [], harness := (true, "99a74330114d038cbdf1f8febb1d226645975eb29be18db4305ff15a05512ba1"), looks := false }, kinds := [], alts := [], laidByText := true, laidKinds := [.data, .pinned], laidTests := true, laidLooks := .later }
def FnExactTermFoldCardSaid : Prop := Claim7.holds Tryz.pinned (.plain (OpenSpec.ofChange fnExactTermFoldSpec)) fnExactTermFoldCard

/-- THE TIED CARD OF 'laws.FnEnvMore'. -/
def fnEnvMoreCard : Claim7 := { stood := { row := fnEnvMoreRow, standIns := [], harness := (true, "99a74330114d038cbdf1f8febb1d226645975eb29be18db4305ff15a05512ba1"), looks := false }, kinds := [], alts := [], laidByText := true, laidKinds := [.data, .pinned], laidTests := true, laidLooks := .later }
def FnEnvMoreCardSaid : Prop := Claim7.holds Tryz.pinned (.plain (OpenSpec.ofChange fnEnvMoreSpec)) fnEnvMoreCard

/-- THE TIED CARD OF 'laws.FnFoldOne'. -/
def fnFoldOneCard : Claim7 := { stood := { row := fnFoldOneRow, standIns := [], harness := (true, "99a74330114d038cbdf1f8febb1d226645975eb29be18db4305ff15a05512ba1"), looks := false }, kinds := [], alts := [], laidByText := true, laidKinds := [.data, .pinned], laidTests := true, laidLooks := .later }
def FnFoldOneCardSaid : Prop := Claim7.holds Tryz.pinned (.plain (OpenSpec.ofChange fnFoldOneSpec)) fnFoldOneCard

/-- THE TIED CARD OF 'laws.FnFold'. -/
def fnFoldCard : Claim7 := { stood := { row := fnFoldRow, standIns := [], harness := (true, "99a74330114d038cbdf1f8febb1d226645975eb29be18db4305ff15a05512ba1"), looks := false }, kinds := [], alts := [], laidByText := true, laidKinds := [.data, .pinned], laidTests := true, laidLooks := .later }
def FnFoldCardSaid : Prop := Claim7.holds Tryz.pinned (.plain (OpenSpec.ofChange fnFoldSpec)) fnFoldCard

/-- THE TIED CARD OF 'laws.FnFoldFixed'. -/
def fnFoldFixedCard : Claim7 := { stood := { row := fnFoldFixedRow, standIns := [], harness := (true, "99a74330114d038cbdf1f8febb1d226645975eb29be18db4305ff15a05512ba1"), looks := false }, kinds := [], alts := [], laidByText := true, laidKinds := [.data, .pinned], laidTests := true, laidLooks := .later }
def FnFoldFixedCardSaid : Prop := Claim7.holds Tryz.pinned (.plain (OpenSpec.ofChange fnFoldFixedSpec)) fnFoldFixedCard

/-- THE SECOND FORM's CARD OF 'laws.FnFoldKids'. -/
def fnFoldKidsUptoCard : Claim7 := { stood := { row := fnFoldKidsUptoRow, standIns := [], harness := (true, "99a74330114d038cbdf1f8febb1d226645975eb29be18db4305ff15a05512ba1"), looks := false }, kinds := [], alts := [], laidByText := true, laidKinds := [.data, .pinned], laidTests := true, laidLooks := .later }
def FnFoldKidsUptoCardSaid : Prop := Claim7.holds Tryz.pinned (.plain (OpenSpec.upto fnFoldKidsSpec)) fnFoldKidsUptoCard

/-- THE SECOND FORM's CARD OF 'laws.FnFoldTwice'. -/
def fnFoldTwiceUptoCard : Claim7 := { stood := { row := fnFoldTwiceUptoRow, standIns := [], harness := (true, "99a74330114d038cbdf1f8febb1d226645975eb29be18db4305ff15a05512ba1"), looks := false }, kinds := [], alts := [], laidByText := true, laidKinds := [.data, .pinned], laidTests := true, laidLooks := .later }
def FnFoldTwiceUptoCardSaid : Prop := Claim7.holds Tryz.pinned (.plain (OpenSpec.upto fnFoldTwiceSpec)) fnFoldTwiceUptoCard

/-- THE SECOND FORM's CARD OF 'laws.FnExactTermOne'. -/
def fnExactTermOneUptoCard : Claim7 := { stood := { row := fnExactTermOneUptoRow, standIns := [], harness := (true, "99a74330114d038cbdf1f8febb1d226645975eb29be18db4305ff15a05512ba1"), looks := false }, kinds := [], alts := [], laidByText := true, laidKinds := [.data, .pinned], laidTests := true, laidLooks := .later }
def FnExactTermOneUptoCardSaid : Prop := Claim7.holds Tryz.pinned (.plain (OpenSpec.upto fnExactTermOneSpec)) fnExactTermOneUptoCard

/-- THE SECOND FORM's CARD OF 'laws.FnExactTermFold'. -/
def fnExactTermFoldUptoCard : Claim7 := { stood := { row := fnExactTermFoldUptoRow, standIns := [], harness := (true, "99a74330114d038cbdf1f8febb1d226645975eb29be18db4305ff15a05512ba1"), looks := false }, kinds := [], alts := [], laidByText := true, laidKinds := [.data, .pinned], laidTests := true, laidLooks := .later }
def FnExactTermFoldUptoCardSaid : Prop := Claim7.holds Tryz.pinned (.plain (OpenSpec.upto fnExactTermFoldSpec)) fnExactTermFoldUptoCard

/-- THE SECOND FORM's CARD OF 'laws.FnEnvMore'. -/
def fnEnvMoreUptoCard : Claim7 := { stood := { row := fnEnvMoreUptoRow, standIns := [], harness := (true, "99a74330114d038cbdf1f8febb1d226645975eb29be18db4305ff15a05512ba1"), looks := false }, kinds := [], alts := [], laidByText := true, laidKinds := [.data, .pinned], laidTests := true, laidLooks := .later }
def FnEnvMoreUptoCardSaid : Prop := Claim7.holds Tryz.pinned (.plain (OpenSpec.upto fnEnvMoreSpec)) fnEnvMoreUptoCard

/-- THE SECOND FORM's CARD OF 'laws.FnFoldOne'. -/
def fnFoldOneUptoCard : Claim7 := { stood := { row := fnFoldOneUptoRow, standIns := [], harness := (true, "99a74330114d038cbdf1f8febb1d226645975eb29be18db4305ff15a05512ba1"), looks := false }, kinds := [], alts := [], laidByText := true, laidKinds := [.data, .pinned], laidTests := true, laidLooks := .later }
def FnFoldOneUptoCardSaid : Prop := Claim7.holds Tryz.pinned (.plain (OpenSpec.upto fnFoldOneSpec)) fnFoldOneUptoCard

/-- THE SECOND FORM's CARD OF 'laws.FnFold'. -/
def fnFoldUptoCard : Claim7 := { stood := { row := fnFoldUptoRow, standIns := [], harness := (true, "99a74330114d038cbdf1f8febb1d226645975eb29be18db4305ff15a05512ba1"), looks := false }, kinds := [], alts := [], laidByText := true, laidKinds := [.data, .pinned], laidTests := true, laidLooks := .later }
def FnFoldUptoCardSaid : Prop := Claim7.holds Tryz.pinned (.plain (OpenSpec.upto fnFoldSpec)) fnFoldUptoCard

/-- THE SECOND FORM's CARD OF 'laws.FnFoldFixed'. -/
def fnFoldFixedUptoCard : Claim7 := { stood := { row := fnFoldFixedUptoRow, standIns := [], harness := (true, "99a74330114d038cbdf1f8febb1d226645975eb29be18db4305ff15a05512ba1"), looks := false }, kinds := [], alts := [], laidByText := true, laidKinds := [.data, .pinned], laidTests := true, laidLooks := .later }
def FnFoldFixedUptoCardSaid : Prop := Claim7.holds Tryz.pinned (.plain (OpenSpec.upto fnFoldFixedSpec)) fnFoldFixedUptoCard
end Rows
end Go.Proofs.YtcfgmgjofmbfhaaGreatDoor
