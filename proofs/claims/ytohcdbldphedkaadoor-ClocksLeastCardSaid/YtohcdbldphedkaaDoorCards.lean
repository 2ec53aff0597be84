/-
  DERIVED. GIVEN WITH THE SEED: THE CARDS: each row of YtohcdbldphedkaaDoorRows.lean that lists a variable, with what it lists TIED to the program's text (the seventh form; the later family's looks); each row that meets fmt, with fmt's text TOLD by the authors' own Lean function (tested against real Go, not proved from fmt's source: count such statements apart). THE CARD IS WHAT COUNTS. Prove the row's statement (the work); the ties are given (YtohcdbldphedkaaDoorTie.lean); close each card by the builder's one call (the guide's Derived/Test/ToyasCard.lean, 'card_holds'). Laid BY PROGRAM, IN A SANDBOX (cutbox-door.mjs). By AI agents, Wed Nov 11 2026. No macro, syntax, notation, axiom, sorry.
-/
import Derived.Test.YtohcdbldphedkaaDoorRows
import GoSem.ClaimSeven
namespace Go.Proofs.YtohcdbldphedkaaDoor
namespace Rows

/-- THE TIED CARD OF 'warplaw13.ClocksTicks'. -/
def clocksTicksCard : Claim7 := { stood := { row := clocksTicksRow, standIns := [], harness := (true, "a896b89f581f17575467e163e39d2c6627a40cf54860ac1b5f94e2462a98a50b"), looks := false }, kinds := [], alts := [], laidByText := true, laidKinds := [.data, .data, .data], laidTests := true, laidLooks := .later }
def ClocksTicksCardSaid : Prop := Claim7.holds Tryd.pinned (.plain (OpenSpec.ofChange clocksTicksSpec)) clocksTicksCard

/-- THE TIED CARD OF 'warplaw13.ClocksOrders'. -/
def clocksOrdersCard : Claim7 := { stood := { row := clocksOrdersRow, standIns := [], harness := (true, "a896b89f581f17575467e163e39d2c6627a40cf54860ac1b5f94e2462a98a50b"), looks := false }, kinds := [], alts := [], laidByText := true, laidKinds := [.data, .data, .data], laidTests := true, laidLooks := .later }
def ClocksOrdersCardSaid : Prop := Claim7.holds Tryd.pinned (.plain (OpenSpec.ofChange clocksOrdersSpec)) clocksOrdersCard

/-- THE TIED CARD OF 'warplaw13.ClocksTexts'. -/
def clocksTextsCard : Claim7 := { stood := { row := clocksTextsRow, standIns := [], harness := (true, "a896b89f581f17575467e163e39d2c6627a40cf54860ac1b5f94e2462a98a50b"), looks := false }, kinds := [], alts := [], laidByText := true, laidKinds := [.data, .data, .data], laidTests := true, laidLooks := .later }
def ClocksTextsCardSaid : Prop := Claim7.holds Tryd.pinned (.plain (OpenSpec.ofChange clocksTextsSpec)) clocksTextsCard

/-- THE TIED CARD OF 'warplaw13.ClocksJoins'. -/
def clocksJoinsCard : Claim7 := { stood := { row := clocksJoinsRow, standIns := [], harness := (true, "a896b89f581f17575467e163e39d2c6627a40cf54860ac1b5f94e2462a98a50b"), looks := false }, kinds := [], alts := [], laidByText := true, laidKinds := [.data, .data, .data], laidTests := true, laidLooks := .later }
def ClocksJoinsCardSaid : Prop := Claim7.holds Tryd.pinned (.plain (OpenSpec.ofChange clocksJoinsSpec)) clocksJoinsCard

/-- THE TIED CARD OF 'warplaw13.ClocksPlays'. -/
def clocksPlaysCard : Claim7 := { stood := { row := clocksPlaysRow, standIns := [], harness := (true, "a896b89f581f17575467e163e39d2c6627a40cf54860ac1b5f94e2462a98a50b"), looks := false }, kinds := [], alts := [], laidByText := true, laidKinds := [.data, .data, .data], laidTests := true, laidLooks := .later }
def ClocksPlaysCardSaid : Prop := Claim7.holds Tryd.pinned (.plain (OpenSpec.ofChange clocksPlaysSpec)) clocksPlaysCard

/-- THE TIED CARD OF 'warplaw13.ClocksMoves'. -/
def clocksMovesCard : Claim7 := { stood := { row := clocksMovesRow, standIns := [], harness := (true, "a896b89f581f17575467e163e39d2c6627a40cf54860ac1b5f94e2462a98a50b"), looks := false }, kinds := [], alts := [], laidByText := true, laidKinds := [.data, .data, .data], laidTests := true, laidLooks := .later }
def ClocksMovesCardSaid : Prop := Claim7.holds Tryd.pinned (.plain (OpenSpec.ofChange clocksMovesSpec)) clocksMovesCard

/-- THE TIED CARD OF 'warplaw13.ClocksLeast'. -/
def clocksLeastCard : Claim7 := { stood := { row := clocksLeastRow, standIns := [], harness := (true, "a896b89f581f17575467e163e39d2c6627a40cf54860ac1b5f94e2462a98a50b"), looks := false }, kinds := [], alts := [], laidByText := true, laidKinds := [.data, .data, .data], laidTests := true, laidLooks := .later }
def ClocksLeastCardSaid : Prop := Claim7.holds Tryd.pinned (.plain (OpenSpec.ofChange clocksLeastSpec)) clocksLeastCard

/-- THE TIED CARD OF 'warplaw13.ClocksMakes'. -/
def clocksMakesCard : Claim7 := { stood := { row := clocksMakesRow, standIns := [], harness := (true, "a896b89f581f17575467e163e39d2c6627a40cf54860ac1b5f94e2462a98a50b"), looks := false }, kinds := [], alts := [], laidByText := true, laidKinds := [.data, .data, .data], laidTests := true, laidLooks := .later }
def ClocksMakesCardSaid : Prop := Claim7.holds Tryd.pinned (.plain (OpenSpec.ofChange clocksMakesSpec)) clocksMakesCard

/-- THE TIED CARD OF 'warplaw13.ClocksCopies'. -/
def clocksCopiesCard : Claim7 := { stood := { row := clocksCopiesRow, standIns := [], harness := (true, "a896b89f581f17575467e163e39d2c6627a40cf54860ac1b5f94e2462a98a50b"), looks := false }, kinds := [], alts := [], laidByText := true, laidKinds := [.data, .data, .data], laidTests := true, laidLooks := .later }
def ClocksCopiesCardSaid : Prop := Claim7.holds Tryd.pinned (.plain (OpenSpec.ofChange clocksCopiesSpec)) clocksCopiesCard

/-- THE SECOND FORM's CARD OF 'warplaw13.ClocksTicks'. -/
def clocksTicksUptoCard : Claim7 := { stood := { row := clocksTicksUptoRow, standIns := [], harness := (true, "a896b89f581f17575467e163e39d2c6627a40cf54860ac1b5f94e2462a98a50b"), looks := false }, kinds := [], alts := [], laidByText := true, laidKinds := [.data, .data, .data], laidTests := true, laidLooks := .later }
def ClocksTicksUptoCardSaid : Prop := Claim7.holds Tryd.pinned (.plain (OpenSpec.upto clocksTicksSpec)) clocksTicksUptoCard

/-- THE SECOND FORM's CARD OF 'warplaw13.ClocksOrders'. -/
def clocksOrdersUptoCard : Claim7 := { stood := { row := clocksOrdersUptoRow, standIns := [], harness := (true, "a896b89f581f17575467e163e39d2c6627a40cf54860ac1b5f94e2462a98a50b"), looks := false }, kinds := [], alts := [], laidByText := true, laidKinds := [.data, .data, .data], laidTests := true, laidLooks := .later }
def ClocksOrdersUptoCardSaid : Prop := Claim7.holds Tryd.pinned (.plain (OpenSpec.upto clocksOrdersSpec)) clocksOrdersUptoCard

/-- THE SECOND FORM's CARD OF 'warplaw13.ClocksTexts'. -/
def clocksTextsUptoCard : Claim7 := { stood := { row := clocksTextsUptoRow, standIns := [], harness := (true, "a896b89f581f17575467e163e39d2c6627a40cf54860ac1b5f94e2462a98a50b"), looks := false }, kinds := [], alts := [], laidByText := true, laidKinds := [.data, .data, .data], laidTests := true, laidLooks := .later }
def ClocksTextsUptoCardSaid : Prop := Claim7.holds Tryd.pinned (.plain (OpenSpec.upto clocksTextsSpec)) clocksTextsUptoCard

/-- THE SECOND FORM's CARD OF 'warplaw13.ClocksJoins'. -/
def clocksJoinsUptoCard : Claim7 := { stood := { row := clocksJoinsUptoRow, standIns := [], harness := (true, "a896b89f581f17575467e163e39d2c6627a40cf54860ac1b5f94e2462a98a50b"), looks := false }, kinds := [], alts := [], laidByText := true, laidKinds := [.data, .data, .data], laidTests := true, laidLooks := .later }
def ClocksJoinsUptoCardSaid : Prop := Claim7.holds Tryd.pinned (.plain (OpenSpec.upto clocksJoinsSpec)) clocksJoinsUptoCard

/-- THE SECOND FORM's CARD OF 'warplaw13.ClocksPlays'. -/
def clocksPlaysUptoCard : Claim7 := { stood := { row := clocksPlaysUptoRow, standIns := [], harness := (true, "a896b89f581f17575467e163e39d2c6627a40cf54860ac1b5f94e2462a98a50b"), looks := false }, kinds := [], alts := [], laidByText := true, laidKinds := [.data, .data, .data], laidTests := true, laidLooks := .later }
def ClocksPlaysUptoCardSaid : Prop := Claim7.holds Tryd.pinned (.plain (OpenSpec.upto clocksPlaysSpec)) clocksPlaysUptoCard

/-- THE SECOND FORM's CARD OF 'warplaw13.ClocksMoves'. -/
def clocksMovesUptoCard : Claim7 := { stood := { row := clocksMovesUptoRow, standIns := [], harness := (true, "a896b89f581f17575467e163e39d2c6627a40cf54860ac1b5f94e2462a98a50b"), looks := false }, kinds := [], alts := [], laidByText := true, laidKinds := [.data, .data, .data], laidTests := true, laidLooks := .later }
def ClocksMovesUptoCardSaid : Prop := Claim7.holds Tryd.pinned (.plain (OpenSpec.upto clocksMovesSpec)) clocksMovesUptoCard

/-- THE SECOND FORM's CARD OF 'warplaw13.ClocksLeast'. -/
def clocksLeastUptoCard : Claim7 := { stood := { row := clocksLeastUptoRow, standIns := [], harness := (true, "a896b89f581f17575467e163e39d2c6627a40cf54860ac1b5f94e2462a98a50b"), looks := false }, kinds := [], alts := [], laidByText := true, laidKinds := [.data, .data, .data], laidTests := true, laidLooks := .later }
def ClocksLeastUptoCardSaid : Prop := Claim7.holds Tryd.pinned (.plain (OpenSpec.upto clocksLeastSpec)) clocksLeastUptoCard

/-- THE SECOND FORM's CARD OF 'warplaw13.ClocksMakes'. -/
def clocksMakesUptoCard : Claim7 := { stood := { row := clocksMakesUptoRow, standIns := [], harness := (true, "a896b89f581f17575467e163e39d2c6627a40cf54860ac1b5f94e2462a98a50b"), looks := false }, kinds := [], alts := [], laidByText := true, laidKinds := [.data, .data, .data], laidTests := true, laidLooks := .later }
def ClocksMakesUptoCardSaid : Prop := Claim7.holds Tryd.pinned (.plain (OpenSpec.upto clocksMakesSpec)) clocksMakesUptoCard

/-- THE SECOND FORM's CARD OF 'warplaw13.ClocksCopies'. -/
def clocksCopiesUptoCard : Claim7 := { stood := { row := clocksCopiesUptoRow, standIns := [], harness := (true, "a896b89f581f17575467e163e39d2c6627a40cf54860ac1b5f94e2462a98a50b"), looks := false }, kinds := [], alts := [], laidByText := true, laidKinds := [.data, .data, .data], laidTests := true, laidLooks := .later }
def ClocksCopiesUptoCardSaid : Prop := Claim7.holds Tryd.pinned (.plain (OpenSpec.upto clocksCopiesSpec)) clocksCopiesUptoCard
end Rows
end Go.Proofs.YtohcdbldphedkaaDoor
