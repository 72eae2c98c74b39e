/- What every row of this seat shares: its knobs, its own table, and what the laid condition gives the walks. -/
import Derived.Test.YtbplfkbknehmbaaDoorRows
import Derived.Test.YtbplfkbknehmbaaDoorCards
import Derived.Test.YtbplfkbknehmbaaDoorTie
import Derived.Test.YtbplfkbknehmbaaDoorTw
import Derived.ProofKit
import Derived.LaidMore
import Derived.OpenShut
import Derived.Stop.Joined
import Derived.Lib.LaidTab
import Derived.SevenTiedAt
import Derived.Laws.Cover2
namespace Go.Proofs.YtbplfkbknehmbaaDoor
open Go.ChangeShapes Go.WideShapes Go.ChangeAt Go.WideMaps Go.WideElems Go.RowKit Fl

theorem own : ownKnob Tryd.prog.godebug = none := by kernel_rfl
theorem gTab : Tryd.prog.globalNamed "math/bits.deBruijn64tab" = some 1 := by kernel_rfl
theorem tTab : (Tryd.prog.globals[1]?).map (·.type) = some 49 := by kernel_rfl

/-- The door's own heap meets the condition. -/
theorem door_met (os : Os) (args : Array Value) : laidMetH Tryd.prog [("math/bits.deBruijn64tab", Rows.laid_math_bits_deBruijn64tab)] ((World.doorLaid Tryd.prog 2000 os).forCall (fun _ _ => 0) ⟨#[], args, []⟩).memory :=
  laidMetH_of_parts3 (fuel := 80) (laidMet_of_run' 80 (by kernel_rfl) (by kernel_rfl)) (by kernel_rfl) (by kernel_rfl)

theorem laid_eq {H : Type} : (Rows.laid_math_bits_deBruijn64tab : DataW H) = Lib.tabData .u8 (tab64.map fun (n : Nat) => (n : Int)) := by
  unfold Rows.laid_math_bits_deBruijn64tab Lib.tabData tab64
  rfl

/-- what the condition gives the walks: the table's cells. -/
theorem of_laid {W : World} (h : laidMetH Tryd.prog [("math/bits.deBruijn64tab", Rows.laid_math_bits_deBruijn64tab)] W) : Tab64 W := by
  rw [MakeChecks.laidMetH_plain _ _ _ (by kernel_rfl)] at h
  obtain ⟨ps, ⟨g0, t0, cs0, f0, p0, q0, hg0, ht0, hv0, hd0, _⟩, _, _⟩ := h
  obtain rfl := Option.some.inj (gTab.symm.trans hg0)
  obtain rfl := Option.some.inj (tTab.symm.trans ht0)
  rw [laid_eq] at hd0
  have hcs := Lib.cells_of_tab Tryd.underlying49 Tryd.underlying5 (by kernel_rfl) (by kernel_rfl) hd0
  intro i hi
  have := World.var?_cell hg0 hv0 i
  rw [this]
  have e : cs0[i]? = cs0.toList[i]? := (Array.getElem?_toList).symm
  rw [e, hcs]
  simp only [List.getElem?_map]
  have hl : i < tab64.length := hi
  rw [List.getElem?_eq_getElem hl, List.getD_eq_getElem?_getD, List.getElem?_eq_getElem hl]
  rfl

end Go.Proofs.YtbplfkbknehmbaaDoor
