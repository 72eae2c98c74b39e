/- The walks of package math's small functions. -/
import Derived.Test.YtbplfkbknehmbaaDoorProg
import Derived.Test.YtbplfkbknehmbaaDoorFm
import Derived.Laws.Externs
namespace Go.Proofs.YtbplfkbknehmbaaDoor
open Go.RowKit Fl

theorem m_bits (x : Nat) (w : World) : (callFunc 26 #[.float .f64 x]).run Tryd.prog w = .ok (.value (.int .u64 x)) w := by
  rw [run_callFunc_extern Tryd.func26 (by kernel_rfl) rfl (by kernel_rfl) (e := Extern.MathFloatBits.float64bits) (by kernel_rfl)]
  rfl
theorem m_of (x : Int) (w : World) : (callFunc 42 #[.int .u64 x]).run Tryd.prog w = .ok (.value (.float .f64 x.toNat)) w := by
  rw [run_callFunc_extern Tryd.func42 (by kernel_rfl) rfl (by kernel_rfl) (e := Extern.MathFloatBits.float64frombits) (by kernel_rfl)]
  rfl
attribute [local go_sem] m_bits m_of

theorem m_abs (x : Nat) (hx : x < 18446744073709551616) (w : World) : Calls Tryd.prog 36 #[.float .f64 x] w fun e w' => e = .returned (.float .f64 (mag x)) ∧ w = w' := by
  have h := bits_andNot_S x hx
  go_enter Tryd.func36, Tryd.ntmps36
  go_wp2
  go_ret
  exact ⟨by simp, rfl⟩
theorem m_signbit (x : Nat) (hx : x < 18446744073709551616) (w : World) : Calls Tryd.prog 48 #[.float .f64 x] w fun e w' => e = .returned (.bool (neg x)) ∧ w = w' := by
  have h : decide (wrap64 (x : Int) < 0) = neg x := by
    unfold neg S wrap64; rw [Bool.eq_iff_iff]; simp; omega
  go_enter Tryd.func48, Tryd.ntmps48
  go_wp2
  go_ret
  exact ⟨rfl, rfl⟩
theorem m_inf (s : Int) (w : World) : Calls Tryd.prog 56 #[.int .i64 s] w fun e w' => e = .returned (.float .f64 (if 0 ≤ s then 9218868437227405312 else 18442240474082181120)) ∧ w = w' := by
  go_enter Tryd.func56, Tryd.ntmps56
  go_wp2
  all_goals (go_ret; exact ⟨rfl, rfl⟩)
theorem m_nan (w : World) : Calls Tryd.prog 33 #[] w fun e w' => e = .returned (.float .f64 9221120237041090561) ∧ w = w' := by
  go_enter Tryd.func33, Tryd.ntmps33
  go_wp2
  go_ret
  exact ⟨rfl, rfl⟩
theorem m_isNaN (x : Nat) (hx : x < 18446744073709551616) (w : World) : Calls Tryd.prog 58 #[.float .f64 x] w fun e w' => e = .returned (.bool (nan x)) ∧ w = w' := by
  have h : (!feq x x) = nan x := by rw [feq_self (by simpa using hx)]; simp
  go_enter Tryd.func58, Tryd.ntmps58
  go_wp2
  go_ret
  exact ⟨rfl, rfl⟩
theorem m_isInf0 (x : Nat) (hx : x < 18446744073709551616) (w : World) : Calls Tryd.prog 57 #[.float .f64 x, .int .i64 0] w fun e w' => e = .returned (.bool (decide (mag x = INF))) ∧ w = w' := by
  have h := fgt_max_mag x
  go_enter Tryd.func57, Tryd.ntmps57
  go_wp2_with ((go_at_call 36; refine (m_abs _ hx _).mono ?_; rintro e w' ⟨rfl, rfl⟩))
  go_ret
  exact ⟨rfl, rfl⟩
theorem m_isInf1 (x : Nat) (hx : x < 18446744073709551616) (w : World) : Calls Tryd.prog 57 #[.float .f64 x, .int .i64 1] w fun e w' => e = .returned (.bool (decide (x = INF))) ∧ w = w' := by
  have h := fgt_max x hx
  go_enter Tryd.func57, Tryd.ntmps57
  go_wp2
  go_ret
  exact ⟨rfl, rfl⟩
theorem m_isInfm1 (x : Nat) (hx : x < 18446744073709551616) (w : World) : Calls Tryd.prog 57 #[.float .f64 x, .int .i64 (-1)] w fun e w' => e = .returned (.bool (decide (x = S + INF))) ∧ w = w' := by
  have h1 : (Op.unary .neg (.float .f64 x)).run Tryd.prog w = .ok (.float .f64 (turned x)) w := run_neg_float x hx w
  have h := fgt_max (turned x) (turned_lt hx)
  have h2 : decide (turned x = INF) = decide (x = S + INF) := by
    rw [Bool.eq_iff_iff]; simp only [decide_eq_true_eq]; unfold turned S INF; split <;> omega
  rw [h2] at h
  go_enter Tryd.func57, Tryd.ntmps57
  go_wp2
  go_ret
  exact ⟨rfl, rfl⟩
theorem m_copysign (x y : Nat) (hx : x < 18446744073709551616) (hy : y < 18446744073709551616) (w : World) : Calls Tryd.prog 60 #[.float .f64 x, .float .f64 y] w fun e w' => e = .returned (.float .f64 (word (neg y) (mag x))) ∧ w = w' := by
  have h : bits .or .u64 (bits .andNot .u64 (x : Int) 9223372036854775808) (bits .and .u64 (y : Int) 9223372036854775808) = ((word (neg y) (mag x) : Nat) : Int) := bits_copysign x y hx hy
  go_enter Tryd.func60, Tryd.ntmps60
  go_wp2
  go_ret
  exact ⟨by simp, rfl⟩
theorem m_normalize_small (x r : Nat) (hx : x < 18446744073709551616) (hs : mag x < B) (hr : r < INF) (h : V (mag x) * 2 ^ 52 = V r) (w : World) :
    Calls Tryd.prog 59 #[.float .f64 x] w fun e w' => e = .returned (.tuple #[.float .f64 (word (neg x) r), .int .i64 (-52)]) ∧ w = w' := by
  have h1 := flt_small_true x hs
  have h2 := run_mul_float (P := Tryd.prog) (w := w) 22 (mul_52 x r hx hs hr h)
  clear h
  go_enter Tryd.func59, Tryd.ntmps59
  go_wp2_with ((go_at_call 36; refine (m_abs _ hx _).mono ?_; rintro e w' ⟨rfl, rfl⟩))
  go_ret2
  exact ⟨rfl, rfl⟩
theorem m_normalize_plain (x : Nat) (hx : x < 18446744073709551616) (hs : B ≤ mag x) (w : World) :
    Calls Tryd.prog 59 #[.float .f64 x] w fun e w' => e = .returned (.tuple #[.float .f64 x, .int .i64 0]) ∧ w = w' := by
  have h1 := flt_small_false x hs
  go_enter Tryd.func59, Tryd.ntmps59
  go_wp2_with ((go_at_call 36; refine (m_abs _ hx _).mono ?_; rintro e w' ⟨rfl, rfl⟩))
  go_ret2
  exact ⟨rfl, rfl⟩
end Go.Proofs.YtbplfkbknehmbaaDoor
