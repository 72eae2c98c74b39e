/-
  DERIVED. GIVEN WITH THE SEED: THE CARDS: each row of YtbplfkbknehmbaaDoorRows.lean that lists a variable, with what it lists TIED to the program's text (the seventh form; the later family's looks); each row that meets fmt, with fmt's text TOLD by the authors' own Lean function (tested against real Go, not proved from fmt's source: count such statements apart). THE CARD IS WHAT COUNTS. Prove the row's statement (the work); the ties are given (YtbplfkbknehmbaaDoorTie.lean); close each card by the builder's one call (the guide's Derived/Test/ToyasCard.lean, 'card_holds'). Laid BY PROGRAM, IN A SANDBOX (cutbox-door.mjs). By AI agents, Wed Nov 11 2026. No macro, syntax, notation, axiom, sorry.
-/
import Derived.Test.YtbplfkbknehmbaaDoorRows
import GoSem.ClaimSeven
namespace Go.Proofs.YtbplfkbknehmbaaDoor
namespace Rows

/-- THE TIED CARD OF 'cusplaw01.IeeeSplits'. -/
def ieeeSplitsCard : Claim7 := { stood := { row := ieeeSplitsRow, standIns := [], harness := (true, "1430b5674292bacb30fa7562084de27c4e9e0b67f2c47d7f9934983c270b734c"), looks := false }, kinds := [], alts := [], laidByText := true, laidKinds := [.data], laidTests := true, laidLooks := .later }
def IeeeSplitsCardSaid : Prop := Claim7.holds Tryd.pinned (.plain (OpenSpec.ofChange ieeeSplitsSpec)) ieeeSplitsCard

/-- THE TIED CARD OF 'cusplaw01.IeeeMakes'. -/
def ieeeMakesCard : Claim7 := { stood := { row := ieeeMakesRow, standIns := [], harness := (true, "1430b5674292bacb30fa7562084de27c4e9e0b67f2c47d7f9934983c270b734c"), looks := false }, kinds := [], alts := [], laidByText := true, laidKinds := [.data], laidTests := true, laidLooks := .later }
def IeeeMakesCardSaid : Prop := Claim7.holds Tryd.pinned (.plain (OpenSpec.ofChange ieeeMakesSpec)) ieeeMakesCard

/-- THE TIED CARD OF 'cusplaw01.IeeeOrders'. -/
def ieeeOrdersCard : Claim7 := { stood := { row := ieeeOrdersRow, standIns := [], harness := (true, "1430b5674292bacb30fa7562084de27c4e9e0b67f2c47d7f9934983c270b734c"), looks := false }, kinds := [], alts := [], laidByText := true, laidKinds := [.data], laidTests := true, laidLooks := .later }
def IeeeOrdersCardSaid : Prop := Claim7.holds Tryd.pinned (.plain (OpenSpec.ofChange ieeeOrdersSpec)) ieeeOrdersCard

/-- THE TIED CARD OF 'cusplaw01.IeeeBack'. -/
def ieeeBackCard : Claim7 := { stood := { row := ieeeBackRow, standIns := [], harness := (true, "1430b5674292bacb30fa7562084de27c4e9e0b67f2c47d7f9934983c270b734c"), looks := false }, kinds := [], alts := [], laidByText := true, laidKinds := [.data], laidTests := true, laidLooks := .later }
def IeeeBackCardSaid : Prop := Claim7.holds Tryd.pinned (.plain (OpenSpec.ofChange ieeeBackSpec)) ieeeBackCard

/-- THE TIED CARD OF 'cusplaw01.IeeeSteps'. -/
def ieeeStepsCard : Claim7 := { stood := { row := ieeeStepsRow, standIns := [], harness := (true, "1430b5674292bacb30fa7562084de27c4e9e0b67f2c47d7f9934983c270b734c"), looks := false }, kinds := [], alts := [], laidByText := true, laidKinds := [.data], laidTests := true, laidLooks := .later }
def IeeeStepsCardSaid : Prop := Claim7.holds Tryd.pinned (.plain (OpenSpec.ofChange ieeeStepsSpec)) ieeeStepsCard

/-- THE SECOND FORM's CARD OF 'cusplaw01.IeeeSplits'. -/
def ieeeSplitsUptoCard : Claim7 := { stood := { row := ieeeSplitsUptoRow, standIns := [], harness := (true, "1430b5674292bacb30fa7562084de27c4e9e0b67f2c47d7f9934983c270b734c"), looks := false }, kinds := [], alts := [], laidByText := true, laidKinds := [.data], laidTests := true, laidLooks := .later }
def IeeeSplitsUptoCardSaid : Prop := Claim7.holds Tryd.pinned (.plain (OpenSpec.upto ieeeSplitsSpec)) ieeeSplitsUptoCard

/-- THE SECOND FORM's CARD OF 'cusplaw01.IeeeMakes'. -/
def ieeeMakesUptoCard : Claim7 := { stood := { row := ieeeMakesUptoRow, standIns := [], harness := (true, "1430b5674292bacb30fa7562084de27c4e9e0b67f2c47d7f9934983c270b734c"), looks := false }, kinds := [], alts := [], laidByText := true, laidKinds := [.data], laidTests := true, laidLooks := .later }
def IeeeMakesUptoCardSaid : Prop := Claim7.holds Tryd.pinned (.plain (OpenSpec.upto ieeeMakesSpec)) ieeeMakesUptoCard

/-- THE SECOND FORM's CARD OF 'cusplaw01.IeeeOrders'. -/
def ieeeOrdersUptoCard : Claim7 := { stood := { row := ieeeOrdersUptoRow, standIns := [], harness := (true, "1430b5674292bacb30fa7562084de27c4e9e0b67f2c47d7f9934983c270b734c"), looks := false }, kinds := [], alts := [], laidByText := true, laidKinds := [.data], laidTests := true, laidLooks := .later }
def IeeeOrdersUptoCardSaid : Prop := Claim7.holds Tryd.pinned (.plain (OpenSpec.upto ieeeOrdersSpec)) ieeeOrdersUptoCard

/-- THE SECOND FORM's CARD OF 'cusplaw01.IeeeBack'. -/
def ieeeBackUptoCard : Claim7 := { stood := { row := ieeeBackUptoRow, standIns := [], harness := (true, "1430b5674292bacb30fa7562084de27c4e9e0b67f2c47d7f9934983c270b734c"), looks := false }, kinds := [], alts := [], laidByText := true, laidKinds := [.data], laidTests := true, laidLooks := .later }
def IeeeBackUptoCardSaid : Prop := Claim7.holds Tryd.pinned (.plain (OpenSpec.upto ieeeBackSpec)) ieeeBackUptoCard

/-- THE SECOND FORM's CARD OF 'cusplaw01.IeeeSteps'. -/
def ieeeStepsUptoCard : Claim7 := { stood := { row := ieeeStepsUptoRow, standIns := [], harness := (true, "1430b5674292bacb30fa7562084de27c4e9e0b67f2c47d7f9934983c270b734c"), looks := false }, kinds := [], alts := [], laidByText := true, laidKinds := [.data], laidTests := true, laidLooks := .later }
def IeeeStepsUptoCardSaid : Prop := Claim7.holds Tryd.pinned (.plain (OpenSpec.upto ieeeStepsSpec)) ieeeStepsUptoCard
end Rows
end Go.Proofs.YtbplfkbknehmbaaDoor
