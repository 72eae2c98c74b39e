/- math/bits.TrailingZeros64, by its table. -/
import Derived.Test.YtbplfkbknehmbaaDoorProg
import Derived.Test.YtbplfkbknehmbaaDoorTz
namespace Go.Proofs.YtbplfkbknehmbaaDoor
open Go.RowKit Fl

def Tab64 (w : World) : Prop := ∀ i, i < 64 → w.cell? ⟨1, i, none⟩ = some (.int .u8 ((tab64.getD i 0 : Nat) : Int))

theorem b_tz64 (x o t : Nat) (hx : x = o * 2 ^ t) (ho : o % 2 = 1) (h64 : x < 18446744073709551616) (w : World) (hT : Tab64 w) :
    Calls Tryd.prog 27 #[.int .u64 x] w fun e w' => e = .returned (.int .i64 t) ∧ w = w' := by
  obtain ⟨ht, p, j, hj, ha, h1, h3⟩ := tz64_facts hx ho h64
  have h0 := pos_of_odd hx ho
  have hz : ((x : Int) == 0) = false := by simp; omega
  have h2 : IntKind.u64.wrap (-(x : Int)) = 18446744073709551616 - (x : Int) := by rw [IntKind.wrap_u64]; omega
  have hc := hT j hj
  rw [ha] at hc
  clear hT ha hx ho
  have hr : wrap64 (t : Int) = t := by unfold wrap64; omega
  go_enter Tryd.func27, Tryd.ntmps27
  go_wp2
  go_ret
  exact ⟨rfl, rfl⟩
end Go.Proofs.YtbplfkbknehmbaaDoor
