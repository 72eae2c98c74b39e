/-
  DERIVED. GIVEN WITH THE SEED: THE CARDS: each row of YtdpjkddllimcoaaGreatDoorRows.lean that lists a variable, with what it lists TIED to the program's text (the seventh form; the later family's looks); each row that meets fmt, with fmt's text TOLD by the authors' own Lean function (tested against real Go, not proved from fmt's source: count such statements apart). THE CARD IS WHAT COUNTS. Prove the row's statement (the work); the ties are given (YtdpjkddllimcoaaGreatDoorTie.lean); close each card by the builder's one call (the guide's Derived/Test/ToyasCard.lean, 'card_holds'). Laid BY PROGRAM, IN A SANDBOX (cutbox-door.mjs). By AI agents, Wed Nov 11 2026. No macro, syntax, notation, axiom, sorry.
-/
import Derived.Test.YtdpjkddllimcoaaGreatDoorRows
import GoSem.ClaimSeven
namespace Go.Proofs.YtdpjkddllimcoaaGreatDoor
namespace Rows

/-- THE TIED CARD OF 'cusplaw03.RoundWholes'. -/
def roundWholesCard : Claim7 := { stood := { row := roundWholesRow, standIns := [], harness := (true, "95d846f30286d520e477fabbd0fef2940bd58cd9c06b8e86c979e891cd19ac27"), looks := false }, kinds := [], alts := [], laidByText := true, laidKinds := [.data], laidTests := true, laidLooks := .later }
def RoundWholesCardSaid : Prop := Claim7.holds Tryz.pinned (.plain (OpenSpec.ofChange roundWholesSpec)) roundWholesCard

/-- THE TIED CARD OF 'cusplaw03.RoundSums'. -/
def roundSumsCard : Claim7 := { stood := { row := roundSumsRow, standIns := [], harness := (true, "95d846f30286d520e477fabbd0fef2940bd58cd9c06b8e86c979e891cd19ac27"), looks := false }, kinds := [], alts := [], laidByText := true, laidKinds := [.data], laidTests := true, laidLooks := .later }
def RoundSumsCardSaid : Prop := Claim7.holds Tryz.pinned (.plain (OpenSpec.ofChange roundSumsSpec)) roundSumsCard

/-- THE TIED CARD OF 'cusplaw03.RoundProducts'. -/
def roundProductsCard : Claim7 := { stood := { row := roundProductsRow, standIns := [], harness := (true, "95d846f30286d520e477fabbd0fef2940bd58cd9c06b8e86c979e891cd19ac27"), looks := false }, kinds := [], alts := [], laidByText := true, laidKinds := [.data], laidTests := true, laidLooks := .later }
def RoundProductsCardSaid : Prop := Claim7.holds Tryz.pinned (.plain (OpenSpec.ofChange roundProductsSpec)) roundProductsCard

/-- THE TIED CARD OF 'cusplaw03.RoundRoots'. -/
def roundRootsCard : Claim7 := { stood := { row := roundRootsRow, standIns := [], harness := (true, "95d846f30286d520e477fabbd0fef2940bd58cd9c06b8e86c979e891cd19ac27"), looks := false }, kinds := [], alts := [], laidByText := true, laidKinds := [.data], laidTests := true, laidLooks := .later }
def RoundRootsCardSaid : Prop := Claim7.holds Tryz.pinned (.plain (OpenSpec.ofChange roundRootsSpec)) roundRootsCard

/-- THE TIED CARD OF 'cusplaw03.RoundHolds'. -/
def roundHoldsCard : Claim7 := { stood := { row := roundHoldsRow, standIns := [], harness := (true, "95d846f30286d520e477fabbd0fef2940bd58cd9c06b8e86c979e891cd19ac27"), looks := false }, kinds := [], alts := [], laidByText := true, laidKinds := [.data], laidTests := true, laidLooks := .later }
def RoundHoldsCardSaid : Prop := Claim7.holds Tryz.pinned (.plain (OpenSpec.ofChange roundHoldsSpec)) roundHoldsCard

/-- THE TIED CARD OF 'cusplaw03.RoundSquares'. -/
def roundSquaresCard : Claim7 := { stood := { row := roundSquaresRow, standIns := [], harness := (true, "95d846f30286d520e477fabbd0fef2940bd58cd9c06b8e86c979e891cd19ac27"), looks := false }, kinds := [], alts := [], laidByText := true, laidKinds := [.data], laidTests := true, laidLooks := .later }
def RoundSquaresCardSaid : Prop := Claim7.holds Tryz.pinned (.plain (OpenSpec.ofChange roundSquaresSpec)) roundSquaresCard

/-- THE SECOND FORM's CARD OF 'cusplaw03.RoundWholes'. -/
def roundWholesUptoCard : Claim7 := { stood := { row := roundWholesUptoRow, standIns := [], harness := (true, "95d846f30286d520e477fabbd0fef2940bd58cd9c06b8e86c979e891cd19ac27"), looks := false }, kinds := [], alts := [], laidByText := true, laidKinds := [.data], laidTests := true, laidLooks := .later }
def RoundWholesUptoCardSaid : Prop := Claim7.holds Tryz.pinned (.plain (OpenSpec.upto roundWholesSpec)) roundWholesUptoCard

/-- THE SECOND FORM's CARD OF 'cusplaw03.RoundSums'. -/
def roundSumsUptoCard : Claim7 := { stood := { row := roundSumsUptoRow, standIns := [], harness := (true, "95d846f30286d520e477fabbd0fef2940bd58cd9c06b8e86c979e891cd19ac27"), looks := false }, kinds := [], alts := [], laidByText := true, laidKinds := [.data], laidTests := true, laidLooks := .later }
def RoundSumsUptoCardSaid : Prop := Claim7.holds Tryz.pinned (.plain (OpenSpec.upto roundSumsSpec)) roundSumsUptoCard

/-- THE SECOND FORM's CARD OF 'cusplaw03.RoundProducts'. -/
def roundProductsUptoCard : Claim7 := { stood := { row := roundProductsUptoRow, standIns := [], harness := (true, "95d846f30286d520e477fabbd0fef2940bd58cd9c06b8e86c979e891cd19ac27"), looks := false }, kinds := [], alts := [], laidByText := true, laidKinds := [.data], laidTests := true, laidLooks := .later }
def RoundProductsUptoCardSaid : Prop := Claim7.holds Tryz.pinned (.plain (OpenSpec.upto roundProductsSpec)) roundProductsUptoCard

/-- THE SECOND FORM's CARD OF 'cusplaw03.RoundRoots'. -/
def roundRootsUptoCard : Claim7 := { stood := { row := roundRootsUptoRow, standIns := [], harness := (true, "95d846f30286d520e477fabbd0fef2940bd58cd9c06b8e86c979e891cd19ac27"), looks := false }, kinds := [], alts := [], laidByText := true, laidKinds := [.data], laidTests := true, laidLooks := .later }
def RoundRootsUptoCardSaid : Prop := Claim7.holds Tryz.pinned (.plain (OpenSpec.upto roundRootsSpec)) roundRootsUptoCard

/-- THE SECOND FORM's CARD OF 'cusplaw03.RoundHolds'. -/
def roundHoldsUptoCard : Claim7 := { stood := { row := roundHoldsUptoRow, standIns := [], harness := (true, "95d846f30286d520e477fabbd0fef2940bd58cd9c06b8e86c979e891cd19ac27"), looks := false }, kinds := [], alts := [], laidByText := true, laidKinds := [.data], laidTests := true, laidLooks := .later }
def RoundHoldsUptoCardSaid : Prop := Claim7.holds Tryz.pinned (.plain (OpenSpec.upto roundHoldsSpec)) roundHoldsUptoCard

/-- THE SECOND FORM's CARD OF 'cusplaw03.RoundSquares'. -/
def roundSquaresUptoCard : Claim7 := { stood := { row := roundSquaresUptoRow, standIns := [], harness := (true, "95d846f30286d520e477fabbd0fef2940bd58cd9c06b8e86c979e891cd19ac27"), looks := false }, kinds := [], alts := [], laidByText := true, laidKinds := [.data], laidTests := true, laidLooks := .later }
def RoundSquaresUptoCardSaid : Prop := Claim7.holds Tryz.pinned (.plain (OpenSpec.upto roundSquaresSpec)) roundSquaresUptoCard
end Rows
end Go.Proofs.YtdpjkddllimcoaaGreatDoor
