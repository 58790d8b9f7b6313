/-
  DERIVED. GIVEN WITH THE SEED: THE CARDS: each row of YtckeaibamgkegaaDoorRows.lean that lists a variable, with what it lists TIED to the program's text (the seventh form; the later family's looks); each row that meets fmt, with fmt's text TOLD by the authors' own Lean function (tested against real Go, not proved from fmt's source: count such statements apart). THE CARD IS WHAT COUNTS. Prove the row's statement (the work); the ties are given (YtckeaibamgkegaaDoorTie.lean); close each card by the builder's one call (the guide's Derived/Test/ToyasCard.lean, 'card_holds'). Laid BY PROGRAM, IN A SANDBOX (cutbox-door.mjs). By AI agents, Wed Nov 11 2026. No macro, syntax, notation, axiom, sorry.
-/
import Derived.Test.YtckeaibamgkegaaDoorRows
import GoSem.ClaimSeven
namespace Go.Proofs.YtckeaibamgkegaaDoor
namespace Rows

/-- THE TIED CARD OF 'chattellaw02.RatioTexts'. -/
def ratioTextsCard : Claim7 := { stood := { row := ratioTextsRow, standIns := [], harness := (true, "547f5479c64b23c8ec56a64170af78f10aee7cb5bea4e2074bcdb77573e65e65"), looks := true }, kinds := [], alts := [], laidByText := true, laidKinds := [.data, .data, .data, .sentinel, .sentinel], laidTests := true, laidLooks := .later }
def RatioTextsCardSaid : Prop := Claim7.holds Tryd.pinned (.plain (OpenSpec.ofChange ratioTextsSpec)) ratioTextsCard

/-- THE TIED CARD OF 'chattellaw03.CashPrints'. -/
def cashPrintsCard : Claim7 := { stood := { row := cashPrintsRow, standIns := [], harness := (true, "547f5479c64b23c8ec56a64170af78f10aee7cb5bea4e2074bcdb77573e65e65"), looks := true }, kinds := [], alts := [], laidByText := true, laidKinds := [.data, .data, .data, .data, .sentinel, .sentinel, .widerDeep, .pinned], laidTests := true, laidLooks := .later }
def CashPrintsCardSaid : Prop := Claim7.holds Tryd.pinned (.plain (OpenSpec.ofChange cashPrintsSpec)) cashPrintsCard

/-- THE TIED CARD OF 'chattellaw03.CashParses'. -/
def cashParsesCard : Claim7 := { stood := { row := cashParsesRow, standIns := [], harness := (true, "547f5479c64b23c8ec56a64170af78f10aee7cb5bea4e2074bcdb77573e65e65"), looks := true }, kinds := [], alts := [], laidByText := true, laidKinds := [.data, .data, .data, .data, .sentinel, .sentinel, .widerDeep, .pinned], laidTests := true, laidLooks := .later }
def CashParsesCardSaid : Prop := Claim7.holds Tryd.pinned (.plain (OpenSpec.ofChange cashParsesSpec)) cashParsesCard

/-- THE TIED CARD OF 'chattellaw03.CashBack'. -/
def cashBackCard : Claim7 := { stood := { row := cashBackRow, standIns := [], harness := (true, "547f5479c64b23c8ec56a64170af78f10aee7cb5bea4e2074bcdb77573e65e65"), looks := true }, kinds := [], alts := [], laidByText := true, laidKinds := [.data, .data, .data, .data, .sentinel, .sentinel, .widerDeep, .pinned], laidTests := true, laidLooks := .later }
def CashBackCardSaid : Prop := Claim7.holds Tryd.pinned (.plain (OpenSpec.ofChange cashBackSpec)) cashBackCard

/-- THE TIED CARD OF 'chattellaw03.CashNames'. -/
def cashNamesCard : Claim7 := { stood := { row := cashNamesRow, standIns := [], harness := (true, "547f5479c64b23c8ec56a64170af78f10aee7cb5bea4e2074bcdb77573e65e65"), looks := true }, kinds := [], alts := [], laidByText := true, laidKinds := [.data, .data, .data, .data, .sentinel, .sentinel, .widerDeep, .pinned], laidTests := true, laidLooks := .later }
def CashNamesCardSaid : Prop := Claim7.holds Tryd.pinned (.plain (OpenSpec.ofChange cashNamesSpec)) cashNamesCard

/-- THE TIED CARD OF 'chattellaw03.CashJoins'. -/
def cashJoinsCard : Claim7 := { stood := { row := cashJoinsRow, standIns := [], harness := (true, "547f5479c64b23c8ec56a64170af78f10aee7cb5bea4e2074bcdb77573e65e65"), looks := true }, kinds := [], alts := [], laidByText := true, laidKinds := [.data, .data, .data, .data, .sentinel, .sentinel, .widerDeep, .pinned], laidTests := true, laidLooks := .later }
def CashJoinsCardSaid : Prop := Claim7.holds Tryd.pinned (.plain (OpenSpec.ofChange cashJoinsSpec)) cashJoinsCard

/-- THE SECOND FORM's CARD OF 'chattellaw02.RatioTexts'. -/
def ratioTextsUptoCard : Claim7 := { stood := { row := ratioTextsUptoRow, standIns := [], harness := (true, "547f5479c64b23c8ec56a64170af78f10aee7cb5bea4e2074bcdb77573e65e65"), looks := true }, kinds := [], alts := [], laidByText := true, laidKinds := [.data, .data, .data, .sentinel, .sentinel], laidTests := true, laidLooks := .later }
def RatioTextsUptoCardSaid : Prop := Claim7.holds Tryd.pinned (.plain (OpenSpec.upto ratioTextsSpec)) ratioTextsUptoCard

/-- THE SECOND FORM's CARD OF 'chattellaw03.CashPrints'. -/
def cashPrintsUptoCard : Claim7 := { stood := { row := cashPrintsUptoRow, standIns := [], harness := (true, "547f5479c64b23c8ec56a64170af78f10aee7cb5bea4e2074bcdb77573e65e65"), looks := true }, kinds := [], alts := [], laidByText := true, laidKinds := [.data, .data, .data, .data, .sentinel, .sentinel, .widerDeep, .pinned], laidTests := true, laidLooks := .later }
def CashPrintsUptoCardSaid : Prop := Claim7.holds Tryd.pinned (.plain (OpenSpec.upto cashPrintsSpec)) cashPrintsUptoCard

/-- THE SECOND FORM's CARD OF 'chattellaw03.CashParses'. -/
def cashParsesUptoCard : Claim7 := { stood := { row := cashParsesUptoRow, standIns := [], harness := (true, "547f5479c64b23c8ec56a64170af78f10aee7cb5bea4e2074bcdb77573e65e65"), looks := true }, kinds := [], alts := [], laidByText := true, laidKinds := [.data, .data, .data, .data, .sentinel, .sentinel, .widerDeep, .pinned], laidTests := true, laidLooks := .later }
def CashParsesUptoCardSaid : Prop := Claim7.holds Tryd.pinned (.plain (OpenSpec.upto cashParsesSpec)) cashParsesUptoCard

/-- THE SECOND FORM's CARD OF 'chattellaw03.CashBack'. -/
def cashBackUptoCard : Claim7 := { stood := { row := cashBackUptoRow, standIns := [], harness := (true, "547f5479c64b23c8ec56a64170af78f10aee7cb5bea4e2074bcdb77573e65e65"), looks := true }, kinds := [], alts := [], laidByText := true, laidKinds := [.data, .data, .data, .data, .sentinel, .sentinel, .widerDeep, .pinned], laidTests := true, laidLooks := .later }
def CashBackUptoCardSaid : Prop := Claim7.holds Tryd.pinned (.plain (OpenSpec.upto cashBackSpec)) cashBackUptoCard

/-- THE SECOND FORM's CARD OF 'chattellaw03.CashNames'. -/
def cashNamesUptoCard : Claim7 := { stood := { row := cashNamesUptoRow, standIns := [], harness := (true, "547f5479c64b23c8ec56a64170af78f10aee7cb5bea4e2074bcdb77573e65e65"), looks := true }, kinds := [], alts := [], laidByText := true, laidKinds := [.data, .data, .data, .data, .sentinel, .sentinel, .widerDeep, .pinned], laidTests := true, laidLooks := .later }
def CashNamesUptoCardSaid : Prop := Claim7.holds Tryd.pinned (.plain (OpenSpec.upto cashNamesSpec)) cashNamesUptoCard

/-- THE SECOND FORM's CARD OF 'chattellaw03.CashJoins'. -/
def cashJoinsUptoCard : Claim7 := { stood := { row := cashJoinsUptoRow, standIns := [], harness := (true, "547f5479c64b23c8ec56a64170af78f10aee7cb5bea4e2074bcdb77573e65e65"), looks := true }, kinds := [], alts := [], laidByText := true, laidKinds := [.data, .data, .data, .data, .sentinel, .sentinel, .widerDeep, .pinned], laidTests := true, laidLooks := .later }
def CashJoinsUptoCardSaid : Prop := Claim7.holds Tryd.pinned (.plain (OpenSpec.upto cashJoinsSpec)) cashJoinsUptoCard
end Rows
end Go.Proofs.YtckeaibamgkegaaDoor
