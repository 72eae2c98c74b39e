/- The walks of package math's small functions and of the reference of layer 1: each comes to a plain function of the bits. -/
import Derived.Test.YtbplfkbknehmbaaDoorProg
import Derived.Test.YtbplfkbknehmbaaDoorFb
import Derived.Laws.Externs
namespace Go.Proofs.YtbplfkbknehmbaaDoor
open Go.RowKit Fl

theorem x_bits (x : Nat) (w : World) : (callFunc 26 #[.float .f64 x]).run Tryd.prog w = .ok (.value (.int .u64 x)) w := by
  rw [run_callFunc_extern Tryd.func26 (by kernel_rfl) rfl (by kernel_rfl) (e := Extern.MathFloatBits.float64bits) (by kernel_rfl)]
  rfl
theorem x_of (x : Int) (w : World) : (callFunc 42 #[.int .u64 x]).run Tryd.prog w = .ok (.value (.float .f64 x.toNat)) w := by
  rw [run_callFunc_extern Tryd.func42 (by kernel_rfl) rfl (by kernel_rfl) (e := Extern.MathFloatBits.float64frombits) (by kernel_rfl)]
  rfl
attribute [local go_sem] x_bits x_of

theorem c_bits (x : Nat) (w : World) : Calls Tryd.prog 41 #[.float .f64 x] w fun e w' => e = .returned (.int .u64 x) ∧ w = w' := by
  go_enter Tryd.func41, Tryd.ntmps41
  go_wp2
  go_ret
  exact ⟨rfl, rfl⟩
theorem c_of (x : Int) (w : World) : Calls Tryd.prog 43 #[.int .u64 x] w fun e w' => e = .returned (.float .f64 x.toNat) ∧ w = w' := by
  go_enter Tryd.func43, Tryd.ntmps43
  go_wp2
  go_ret
  exact ⟨rfl, rfl⟩
theorem c_mag (x : Nat) (hx : x < 18446744073709551616) (w : World) : Calls Tryd.prog 40 #[.float .f64 x] w fun e w' => e = .returned (.int .u64 ((mag x : Nat) : Int)) ∧ w = w' := by
  have h := bits_andNot_S x hx
  go_enter Tryd.func40, Tryd.ntmps40
  go_wp2_with ((go_at_call 41; refine (c_bits _ _).mono ?_; rintro e w' ⟨rfl, rfl⟩))
  go_ret
  exact ⟨rfl, rfl⟩
theorem c_neg (x : Nat) (hx : x < 18446744073709551616) (w : World) : Calls Tryd.prog 29 #[.float .f64 x] w fun e w' => e = .returned (.bool (neg x)) ∧ w = w' := by
  have h : ((x : Int) / 9223372036854775808 == 1) = neg x := by
    unfold neg S; rw [Bool.eq_iff_iff]; simp; omega
  go_enter Tryd.func29, Tryd.ntmps29
  go_wp2_with ((go_at_call 41; refine (c_bits _ _).mono ?_; rintro e w' ⟨rfl, rfl⟩))
  go_ret
  exact ⟨rfl, rfl⟩
theorem c_isNaN (x : Nat) (hx : x < 18446744073709551616) (w : World) : Calls Tryd.prog 19 #[.float .f64 x] w fun e w' => e = .returned (.bool (nan x)) ∧ w = w' := by
  have h : decide (9218868437227405312 < ((mag x : Nat) : Int)) = nan x := by
    unfold nan INF; rw [Bool.eq_iff_iff]; simp; omega
  go_enter Tryd.func19, Tryd.ntmps19
  go_wp2_with ((go_at_call 40; refine (c_mag _ hx _).mono ?_; rintro e w' ⟨rfl, rfl⟩))
  go_ret
  exact ⟨rfl, rfl⟩
theorem c_isInf (x : Nat) (hx : x < 18446744073709551616) (w : World) : Calls Tryd.prog 46 #[.float .f64 x] w fun e w' => e = .returned (.bool (decide (mag x = INF))) ∧ w = w' := by
  have h : (((mag x : Nat) : Int) == 9218868437227405312) = decide (mag x = INF) := by
    unfold INF; rw [Bool.eq_iff_iff]; simp; omega
  go_enter Tryd.func46, Tryd.ntmps46
  go_wp2_with ((go_at_call 40; refine (c_mag _ hx _).mono ?_; rintro e w' ⟨rfl, rfl⟩))
  go_ret
  exact ⟨rfl, rfl⟩
theorem c_finite (x : Nat) (hx : x < 18446744073709551616) (w : World) : Calls Tryd.prog 18 #[.float .f64 x] w fun e w' => e = .returned (.bool (decide (mag x < INF))) ∧ w = w' := by
  have h : decide (((mag x : Nat) : Int) < 9218868437227405312) = decide (mag x < INF) := by
    unfold INF; rw [Bool.eq_iff_iff]; simp; omega
  go_enter Tryd.func18, Tryd.ntmps18
  go_wp2_with ((go_at_call 40; refine (c_mag _ hx _).mono ?_; rintro e w' ⟨rfl, rfl⟩))
  go_ret
  exact ⟨rfl, rfl⟩
theorem c_turned (x : Nat) (hx : x < 18446744073709551616) (w : World) : Calls Tryd.prog 44 #[.float .f64 x] w fun e w' => e = .returned (.float .f64 (turned x)) ∧ w = w' := by
  have h := bits_xor_S x hx
  go_enter Tryd.func44, Tryd.ntmps44
  go_wp2_with (first | (go_at_call 41; refine (c_bits _ _).mono ?_; rintro e w' ⟨rfl, rfl⟩) | (go_at_call 43; refine (c_of _ _).mono ?_; rintro e w' ⟨rfl, rfl⟩))
  go_ret
  exact ⟨by simp, rfl⟩
end Go.Proofs.YtbplfkbknehmbaaDoor
