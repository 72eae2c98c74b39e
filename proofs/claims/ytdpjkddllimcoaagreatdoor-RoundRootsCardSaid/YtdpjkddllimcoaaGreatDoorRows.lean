/-
  NARROWER THAN 'FOR EVERY INPUT', by the rows' own cells (each row's printed sentence says how): RoundWholes: laid · RoundSums: laid · RoundProducts: laid · RoundRoots: laid · RoundHolds: laid · RoundSquares: laid.
  DERIVED. THE GIVEN ROWS OF THIS SEAT. 6 by the template 'for every input the law returns true; each argument reads behind the call as it read before'; 0 by the template 'total and deterministic' (their statements: YtdpjkddllimcoaaGreatDoorTotals.lean).
  GIVEN WITH THE SEED: the statements are not yours to turn. If you find one false, say at which input.
  Laid BY PROGRAM, IN A SANDBOX (cutbox-rows.mjs): the forced cells as the released guide's own fill.sh prints them over the translation 9d61f2c005ea9971… (all of the seat's roots in one cut). By AI agents, Wed Nov 11 2026. No macro, syntax, notation, axiom, sorry.
-/
import Derived.Test.YtdpjkddllimcoaaGreatDoorChecked
import GoSem.Claim
import GoSem.ClaimJoined
import GoSem.ClaimMapViews
import Derived.JoinedTies
import Derived.KernelRfl
namespace Go.Proofs.YtdpjkddllimcoaaGreatDoor
/- THE CELL 'sum', in the pinned program and in every row, IS THE sha256 OF THE DUMP (.gsa) THAT YtdpjkddllimcoaaGreatDoorProg.lean LOADS. Nothing in Lean hashes anything: it is a label: what it is worth is what the hold of that sum in a sandbox is worth. -/
noncomputable def Tryz.pinned : Pinned := { name := "ytdpjkddllimcoaagreatdoor", sum := "9d61f2c005ea99710e067c56bdab0f2a819dff30ab9d43a1ec2f236cea1ccff2", checked := Tryz.checked }
namespace Rows
def none {H : Type} : Left H := { results := [], args := [] }

/- WHAT THE LISTED PACKAGE-LEVEL VARIABLES READ AS WHEN THE CALL BEGINS. Each datum BY PROGRAM (the guide's laid-datum.mjs) off the statement by which the dump's own 'gosem.cut.vars' lays the variable. In a bare row this is a premise. The card (YtdpjkddllimcoaaGreatDoorCards.lean) ties it to the program's text. -/
def laid_math_bits_deBruijn32tab {H : Type} : DataW H := .agg [.lit (.int .u8 0), .lit (.int .u8 1), .lit (.int .u8 28), .lit (.int .u8 2), .lit (.int .u8 29), .lit (.int .u8 14), .lit (.int .u8 24), .lit (.int .u8 3), .lit (.int .u8 30), .lit (.int .u8 22), .lit (.int .u8 20), .lit (.int .u8 15), .lit (.int .u8 25), .lit (.int .u8 17), .lit (.int .u8 4), .lit (.int .u8 8), .lit (.int .u8 31), .lit (.int .u8 27), .lit (.int .u8 13), .lit (.int .u8 23), .lit (.int .u8 21), .lit (.int .u8 19), .lit (.int .u8 16), .lit (.int .u8 7), .lit (.int .u8 26), .lit (.int .u8 12), .lit (.int .u8 18), .lit (.int .u8 6), .lit (.int .u8 11), .lit (.int .u8 5), .lit (.int .u8 10), .lit (.int .u8 9)]

/-- 'cusplaw03.RoundWholes': WHATEVER THE INPUT: true; the input reads as it did. -/
def roundWholesSpec : ChangeSpec := { name := "roundWholes", fn := fun _ => fun
  | [d1, d2, d3] => { results := [.lit (.bool true)], args := [d1, d2, d3] }
  | _ => none }
def roundWholesRow : OpenClaim := { program := "ytdpjkddllimcoaagreatdoor", sum := "9d61f2c005ea99710e067c56bdab0f2a819dff30ab9d43a1ec2f236cea1ccff2", func := "cusp/cusplaw03.RoundWholes", spec := "roundWholes", inPlace := ["math.Float64frombits", "math.archFloor", "math.Float64bits", "math.archTrunc", "math.archCeil", "math.RoundToEven"], named := ["math/bits.deBruijn32tab"], apart := false, laid := [("math/bits.deBruijn32tab", laid_math_bits_deBruijn32tab)] }
def RoundWholesSaid : Prop := roundWholesRow.holds Tryz.pinned (OpenSpec.ofChange roundWholesSpec)

/-- ITS FALSE NEIGHBOUR: 'it returns false'. Refute it at one input. -/
def roundWholesWrong : ChangeSpec := { name := "roundWholes", fn := fun _ => fun
  | [d1, d2, d3] => { results := [.lit (.bool false)], args := [d1, d2, d3] }
  | _ => none }
def RoundWholesWrongFalsely : Prop := roundWholesRow.holds Tryz.pinned (OpenSpec.ofChange roundWholesWrong)

/-- 'cusplaw03.RoundSums': WHATEVER THE INPUT: true; the input reads as it did. -/
def roundSumsSpec : ChangeSpec := { name := "roundSums", fn := fun _ => fun
  | [d1, d2, d3] => { results := [.lit (.bool true)], args := [d1, d2, d3] }
  | _ => none }
def roundSumsRow : OpenClaim := { program := "ytdpjkddllimcoaagreatdoor", sum := "9d61f2c005ea99710e067c56bdab0f2a819dff30ab9d43a1ec2f236cea1ccff2", func := "cusp/cusplaw03.RoundSums", spec := "roundSums", inPlace := ["math.Float64frombits", "math.Float64bits", "math.archFloor", "math.archTrunc", "math.archCeil", "math.RoundToEven"], named := ["math/bits.deBruijn32tab"], apart := false, laid := [("math/bits.deBruijn32tab", laid_math_bits_deBruijn32tab)] }
def RoundSumsSaid : Prop := roundSumsRow.holds Tryz.pinned (OpenSpec.ofChange roundSumsSpec)

/-- ITS FALSE NEIGHBOUR: 'it returns false'. Refute it at one input. -/
def roundSumsWrong : ChangeSpec := { name := "roundSums", fn := fun _ => fun
  | [d1, d2, d3] => { results := [.lit (.bool false)], args := [d1, d2, d3] }
  | _ => none }
def RoundSumsWrongFalsely : Prop := roundSumsRow.holds Tryz.pinned (OpenSpec.ofChange roundSumsWrong)

/-- 'cusplaw03.RoundProducts': WHATEVER THE INPUT: true; the input reads as it did. -/
def roundProductsSpec : ChangeSpec := { name := "roundProducts", fn := fun _ => fun
  | [d1, d2, d3] => { results := [.lit (.bool true)], args := [d1, d2, d3] }
  | _ => none }
def roundProductsRow : OpenClaim := { program := "ytdpjkddllimcoaagreatdoor", sum := "9d61f2c005ea99710e067c56bdab0f2a819dff30ab9d43a1ec2f236cea1ccff2", func := "cusp/cusplaw03.RoundProducts", spec := "roundProducts", inPlace := ["math.Float64frombits", "math.Float64bits", "math.archFloor", "math.archTrunc", "math.archCeil", "math.RoundToEven"], named := ["math/bits.deBruijn32tab"], apart := false, laid := [("math/bits.deBruijn32tab", laid_math_bits_deBruijn32tab)] }
def RoundProductsSaid : Prop := roundProductsRow.holds Tryz.pinned (OpenSpec.ofChange roundProductsSpec)

/-- ITS FALSE NEIGHBOUR: 'it returns false'. Refute it at one input. -/
def roundProductsWrong : ChangeSpec := { name := "roundProducts", fn := fun _ => fun
  | [d1, d2, d3] => { results := [.lit (.bool false)], args := [d1, d2, d3] }
  | _ => none }
def RoundProductsWrongFalsely : Prop := roundProductsRow.holds Tryz.pinned (OpenSpec.ofChange roundProductsWrong)

/-- 'cusplaw03.RoundRoots': WHATEVER THE INPUT: true; the input reads as it did. -/
def roundRootsSpec : ChangeSpec := { name := "roundRoots", fn := fun _ => fun
  | [d1, d2, d3] => { results := [.lit (.bool true)], args := [d1, d2, d3] }
  | _ => none }
def roundRootsRow : OpenClaim := { program := "ytdpjkddllimcoaagreatdoor", sum := "9d61f2c005ea99710e067c56bdab0f2a819dff30ab9d43a1ec2f236cea1ccff2", func := "cusp/cusplaw03.RoundRoots", spec := "roundRoots", inPlace := ["math.Float64frombits", "math.Float64bits", "math.archFloor", "math.archTrunc", "math.archCeil", "math.RoundToEven"], named := ["math/bits.deBruijn32tab"], apart := false, laid := [("math/bits.deBruijn32tab", laid_math_bits_deBruijn32tab)] }
def RoundRootsSaid : Prop := roundRootsRow.holds Tryz.pinned (OpenSpec.ofChange roundRootsSpec)

/-- ITS FALSE NEIGHBOUR: 'it returns false'. Refute it at one input. -/
def roundRootsWrong : ChangeSpec := { name := "roundRoots", fn := fun _ => fun
  | [d1, d2, d3] => { results := [.lit (.bool false)], args := [d1, d2, d3] }
  | _ => none }
def RoundRootsWrongFalsely : Prop := roundRootsRow.holds Tryz.pinned (OpenSpec.ofChange roundRootsWrong)

/-- 'cusplaw03.RoundHolds': WHATEVER THE INPUT: true; the input reads as it did. -/
def roundHoldsSpec : ChangeSpec := { name := "roundHolds", fn := fun _ => fun
  | [d1, d2] => { results := [.lit (.bool true)], args := [d1, d2] }
  | _ => none }
def roundHoldsRow : OpenClaim := { program := "ytdpjkddllimcoaagreatdoor", sum := "9d61f2c005ea99710e067c56bdab0f2a819dff30ab9d43a1ec2f236cea1ccff2", func := "cusp/cusplaw03.RoundHolds", spec := "roundHolds", inPlace := ["math.Float64bits", "math.Float64frombits", "math.archFloor", "math.archTrunc", "math.archCeil", "math.RoundToEven"], named := ["math/bits.deBruijn32tab"], apart := false, laid := [("math/bits.deBruijn32tab", laid_math_bits_deBruijn32tab)] }
def RoundHoldsSaid : Prop := roundHoldsRow.holds Tryz.pinned (OpenSpec.ofChange roundHoldsSpec)

/-- ITS FALSE NEIGHBOUR: 'it returns false'. Refute it at one input. -/
def roundHoldsWrong : ChangeSpec := { name := "roundHolds", fn := fun _ => fun
  | [d1, d2] => { results := [.lit (.bool false)], args := [d1, d2] }
  | _ => none }
def RoundHoldsWrongFalsely : Prop := roundHoldsRow.holds Tryz.pinned (OpenSpec.ofChange roundHoldsWrong)

/-- 'cusplaw03.RoundSquares': WHATEVER THE INPUT: true; the input reads as it did. -/
def roundSquaresSpec : ChangeSpec := { name := "roundSquares", fn := fun _ => fun
  | [d1, d2] => { results := [.lit (.bool true)], args := [d1, d2] }
  | _ => none }
def roundSquaresRow : OpenClaim := { program := "ytdpjkddllimcoaagreatdoor", sum := "9d61f2c005ea99710e067c56bdab0f2a819dff30ab9d43a1ec2f236cea1ccff2", func := "cusp/cusplaw03.RoundSquares", spec := "roundSquares", inPlace := ["math.Float64bits", "math.Float64frombits", "math.archFloor", "math.archTrunc", "math.archCeil", "math.RoundToEven"], named := ["math/bits.deBruijn32tab"], apart := false, laid := [("math/bits.deBruijn32tab", laid_math_bits_deBruijn32tab)] }
def RoundSquaresSaid : Prop := roundSquaresRow.holds Tryz.pinned (OpenSpec.ofChange roundSquaresSpec)

/-- ITS FALSE NEIGHBOUR: 'it returns false'. Refute it at one input. -/
def roundSquaresWrong : ChangeSpec := { name := "roundSquares", fn := fun _ => fun
  | [d1, d2] => { results := [.lit (.bool false)], args := [d1, d2] }
  | _ => none }
def RoundSquaresWrongFalsely : Prop := roundSquaresRow.holds Tryz.pinned (OpenSpec.ofChange roundSquaresWrong)

/- THE SECOND FORM. 'bulk': how many values and letters a reading holds, each counted each time it is reached (what is shared counts as often as it is met; a slice's spare places count too). A statement '..UptoSaid' is the law's where the arguments, and the package variables that the reading takes, are together of bulk at most 1048576: NARROWER than '..Said'. Prove '..Said' where nothing that the law and all that it calls make is longer than what came in: it says more and counts as full. Else prove '..UptoSaid'. A law counts once. -/
mutual
def uptoBulk {H : Type} : DataW H → Nat
  | .lit (.string bytes) => bytes.length + 1
  | .lit _ => 1
  | .nil => 1
  | .ptr d => uptoBulk d + 1
  | .slice elems spare => uptoBulkAll elems + uptoBulkAll spare + 1
  | .agg parts => uptoBulkAll parts + 1
  | .iface _ d => uptoBulk d + 1
  | .map entries => uptoBulkEntries entries + 1
  | .held _ => 1
def uptoBulkAll {H : Type} : List (DataW H) → Nat
  | [] => 0
  | d :: r => uptoBulk d + uptoBulkAll r
def uptoBulkEntries {H : Type} : List (Lit × DataW H) → Nat
  | [] => 0
  | x :: r => uptoBulkEntry x + uptoBulkEntries r
def uptoBulkEntry {H : Type} : Lit × DataW H → Nat
  | (.string bytes, d) => bytes.length + uptoBulk d + 1
  | (_, d) => uptoBulk d + 1
 end
def uptoSmall : (H : Type) → List (DataW H) → Bool := fun _ ds => decide (uptoBulkAll ds ≤ 1048576)
def OpenSpec.upto (s : _root_.Go.ChangeSpec) : _root_.Go.OpenSpec := { _root_.Go.OpenSpec.ofChange s with cond := some uptoSmall }

/-- 'cusplaw03.RoundWholes', WHERE WHAT IT READS IS OF BULK AT MOST 1048576: true; the input reads as it did. -/
def roundWholesUptoRow : OpenClaim := { program := "ytdpjkddllimcoaagreatdoor", sum := "9d61f2c005ea99710e067c56bdab0f2a819dff30ab9d43a1ec2f236cea1ccff2", func := "cusp/cusplaw03.RoundWholes", spec := "roundWholes", inPlace := ["math.Float64frombits", "math.archFloor", "math.Float64bits", "math.archTrunc", "math.archCeil", "math.RoundToEven"], named := ["math/bits.deBruijn32tab"], apart := false, laid := [("math/bits.deBruijn32tab", laid_math_bits_deBruijn32tab)], narrowed := true }
def RoundWholesUptoSaid : Prop := roundWholesUptoRow.holds Tryz.pinned (OpenSpec.upto roundWholesSpec)

/-- 'cusplaw03.RoundSums', WHERE WHAT IT READS IS OF BULK AT MOST 1048576: true; the input reads as it did. -/
def roundSumsUptoRow : OpenClaim := { program := "ytdpjkddllimcoaagreatdoor", sum := "9d61f2c005ea99710e067c56bdab0f2a819dff30ab9d43a1ec2f236cea1ccff2", func := "cusp/cusplaw03.RoundSums", spec := "roundSums", inPlace := ["math.Float64frombits", "math.Float64bits", "math.archFloor", "math.archTrunc", "math.archCeil", "math.RoundToEven"], named := ["math/bits.deBruijn32tab"], apart := false, laid := [("math/bits.deBruijn32tab", laid_math_bits_deBruijn32tab)], narrowed := true }
def RoundSumsUptoSaid : Prop := roundSumsUptoRow.holds Tryz.pinned (OpenSpec.upto roundSumsSpec)

/-- 'cusplaw03.RoundProducts', WHERE WHAT IT READS IS OF BULK AT MOST 1048576: true; the input reads as it did. -/
def roundProductsUptoRow : OpenClaim := { program := "ytdpjkddllimcoaagreatdoor", sum := "9d61f2c005ea99710e067c56bdab0f2a819dff30ab9d43a1ec2f236cea1ccff2", func := "cusp/cusplaw03.RoundProducts", spec := "roundProducts", inPlace := ["math.Float64frombits", "math.Float64bits", "math.archFloor", "math.archTrunc", "math.archCeil", "math.RoundToEven"], named := ["math/bits.deBruijn32tab"], apart := false, laid := [("math/bits.deBruijn32tab", laid_math_bits_deBruijn32tab)], narrowed := true }
def RoundProductsUptoSaid : Prop := roundProductsUptoRow.holds Tryz.pinned (OpenSpec.upto roundProductsSpec)

/-- 'cusplaw03.RoundRoots', WHERE WHAT IT READS IS OF BULK AT MOST 1048576: true; the input reads as it did. -/
def roundRootsUptoRow : OpenClaim := { program := "ytdpjkddllimcoaagreatdoor", sum := "9d61f2c005ea99710e067c56bdab0f2a819dff30ab9d43a1ec2f236cea1ccff2", func := "cusp/cusplaw03.RoundRoots", spec := "roundRoots", inPlace := ["math.Float64frombits", "math.Float64bits", "math.archFloor", "math.archTrunc", "math.archCeil", "math.RoundToEven"], named := ["math/bits.deBruijn32tab"], apart := false, laid := [("math/bits.deBruijn32tab", laid_math_bits_deBruijn32tab)], narrowed := true }
def RoundRootsUptoSaid : Prop := roundRootsUptoRow.holds Tryz.pinned (OpenSpec.upto roundRootsSpec)

/-- 'cusplaw03.RoundHolds', WHERE WHAT IT READS IS OF BULK AT MOST 1048576: true; the input reads as it did. -/
def roundHoldsUptoRow : OpenClaim := { program := "ytdpjkddllimcoaagreatdoor", sum := "9d61f2c005ea99710e067c56bdab0f2a819dff30ab9d43a1ec2f236cea1ccff2", func := "cusp/cusplaw03.RoundHolds", spec := "roundHolds", inPlace := ["math.Float64bits", "math.Float64frombits", "math.archFloor", "math.archTrunc", "math.archCeil", "math.RoundToEven"], named := ["math/bits.deBruijn32tab"], apart := false, laid := [("math/bits.deBruijn32tab", laid_math_bits_deBruijn32tab)], narrowed := true }
def RoundHoldsUptoSaid : Prop := roundHoldsUptoRow.holds Tryz.pinned (OpenSpec.upto roundHoldsSpec)

/-- 'cusplaw03.RoundSquares', WHERE WHAT IT READS IS OF BULK AT MOST 1048576: true; the input reads as it did. -/
def roundSquaresUptoRow : OpenClaim := { program := "ytdpjkddllimcoaagreatdoor", sum := "9d61f2c005ea99710e067c56bdab0f2a819dff30ab9d43a1ec2f236cea1ccff2", func := "cusp/cusplaw03.RoundSquares", spec := "roundSquares", inPlace := ["math.Float64bits", "math.Float64frombits", "math.archFloor", "math.archTrunc", "math.archCeil", "math.RoundToEven"], named := ["math/bits.deBruijn32tab"], apart := false, laid := [("math/bits.deBruijn32tab", laid_math_bits_deBruijn32tab)], narrowed := true }
def RoundSquaresUptoSaid : Prop := roundSquaresUptoRow.holds Tryz.pinned (OpenSpec.upto roundSquaresSpec)

end Rows
end Go.Proofs.YtdpjkddllimcoaaGreatDoor
