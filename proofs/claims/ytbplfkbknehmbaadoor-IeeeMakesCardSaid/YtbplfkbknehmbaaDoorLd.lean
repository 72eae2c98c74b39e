/- math.Ldexp, where its answer is a float or beyond all. -/
import Derived.Test.YtbplfkbknehmbaaDoorMa
import Derived.Lib.Hide
namespace Go.Proofs.YtbplfkbknehmbaaDoor
open Go.RowKit Fl
attribute [local go_sem] m_bits m_of

theorem m_ldexp_zero (f : Nat) (h0 : feq f 0 = true) (k : Int) (w : World) : Calls Tryd.prog 55 #[.float .f64 f, .int .i64 k] w fun e w' => e = .returned (.float .f64 f) ∧ w = w' := by
  go_enter Tryd.func55, Tryd.ntmps55
  go_wp2
  go_ret
  exact ⟨rfl, rfl⟩
theorem m_ldexp_norm (f s y z : Nat) (k sf E : Int) (hN : ∀ w, Calls Tryd.prog 59 #[.float .f64 f] w fun e w' => e = .returned (.tuple #[.float .f64 s, .int .i64 sf]) ∧ w = w')
   (h0 : feq f 0 = false) (h1 : decide (mag f = INF) = false) (h2 : nan f = false) (hf : f < 18446744073709551616) (hs : s < 18446744073709551616)
   (k1 : -10000 ≤ k) (k2 : k ≤ 10000) (s1 : -52 ≤ sf) (s2 : sf ≤ 0) (E1 : 0 ≤ E) (E2 : E ≤ 2046)
   (hE : bits .and .i64 ((s : Int) / 4503599627370496) 2047 = E) (T1 : -1022 ≤ k + sf + (E - 1023)) (T2 : k + sf + (E - 1023) ≤ 1023)
   (hX : bits .or .u64 (bits .andNot .u64 (s : Int) 9218868437227405312) ((k + sf + (E - 1023) + 1023) * 4503599627370496) = ((y : Nat) : Int))
   (hz : FloatKind.f64.format.mul 4607182418800017408 y = some z)
   (w : World) : Calls Tryd.prog 55 #[.float .f64 f, .int .i64 k] w fun e w' => e = .returned (.float .f64 z) ∧ w = w' := by
  have HN := Lib.hid hN
  clear hN
  have hM := run_mul_float (P := Tryd.prog) (w := w) 22 hz
  clear hz
  go_enter Tryd.func55, Tryd.ntmps55
  go_wp2_with (first | (go_at_call 57; refine (m_isInf0 _ hf _).mono ?_; rintro e w' ⟨rfl, rfl⟩) | (go_at_call 58; refine (m_isNaN _ hf _).mono ?_; rintro e w' ⟨rfl, rfl⟩) | (go_at_call 59; refine (HN.out _).mono ?_; rintro e w' ⟨rfl, rfl⟩))
  go_ret
  exact ⟨rfl, rfl⟩
theorem m_ldexp_den (f s y z : Nat) (k sf E : Int) (hN : ∀ w, Calls Tryd.prog 59 #[.float .f64 f] w fun e w' => e = .returned (.tuple #[.float .f64 s, .int .i64 sf]) ∧ w = w')
   (h0 : feq f 0 = false) (h1 : decide (mag f = INF) = false) (h2 : nan f = false) (hf : f < 18446744073709551616) (hs : s < 18446744073709551616)
   (k1 : -10000 ≤ k) (k2 : k ≤ 10000) (s1 : -52 ≤ sf) (s2 : sf ≤ 0) (E1 : 0 ≤ E) (E2 : E ≤ 2046)
   (hE : bits .and .i64 ((s : Int) / 4503599627370496) 2047 = E) (T1 : -1075 ≤ k + sf + (E - 1023)) (T2 : k + sf + (E - 1023) < -1022)
   (hX : bits .or .u64 (bits .andNot .u64 (s : Int) 9218868437227405312) ((k + sf + (E - 1023) + 53 + 1023) * 4503599627370496) = ((y : Nat) : Int))
   (hz : FloatKind.f64.format.mul 4368491638549381120 y = some z)
   (w : World) : Calls Tryd.prog 55 #[.float .f64 f, .int .i64 k] w fun e w' => e = .returned (.float .f64 z) ∧ w = w' := by
  have HN := Lib.hid hN
  clear hN
  have hM := run_mul_float (P := Tryd.prog) (w := w) 22 hz
  clear hz
  have T3 : k + sf + (E - 1023) ≤ 1023 := by omega
  go_enter Tryd.func55, Tryd.ntmps55
  go_wp2_with (first | (go_at_call 57; refine (m_isInf0 _ hf _).mono ?_; rintro e w' ⟨rfl, rfl⟩) | (go_at_call 58; refine (m_isNaN _ hf _).mono ?_; rintro e w' ⟨rfl, rfl⟩) | (go_at_call 59; refine (HN.out _).mono ?_; rintro e w' ⟨rfl, rfl⟩))
  go_ret
  exact ⟨rfl, rfl⟩
theorem m_ldexp_over (f s : Nat) (k sf E : Int) (hN : ∀ w, Calls Tryd.prog 59 #[.float .f64 f] w fun e w' => e = .returned (.tuple #[.float .f64 s, .int .i64 sf]) ∧ w = w')
   (h0 : feq f 0 = false) (h1 : decide (mag f = INF) = false) (h2 : nan f = false) (hf : f < 18446744073709551616) (hs : s < 18446744073709551616)
   (k1 : -10000 ≤ k) (k2 : k ≤ 10000) (s1 : -52 ≤ sf) (s2 : sf ≤ 0) (E1 : 0 ≤ E) (E2 : E ≤ 2046)
   (hE : bits .and .i64 ((s : Int) / 4503599627370496) 2047 = E) (T1 : 1023 < k + sf + (E - 1023)) (b : Bool) (hb : flt s 0 = b)
   (w : World) : Calls Tryd.prog 55 #[.float .f64 f, .int .i64 k] w fun e w' => e = .returned (.float .f64 (word b INF)) ∧ w = w' := by
  have HN := Lib.hid hN
  clear hN
  have T3 : -1075 ≤ k + sf + (E - 1023) := by omega
  go_enter Tryd.func55, Tryd.ntmps55
  cases b
  · go_wp2_with (first | (go_at_call 57; refine (m_isInf0 _ hf _).mono ?_; rintro e w' ⟨rfl, rfl⟩) | (go_at_call 58; refine (m_isNaN _ hf _).mono ?_; rintro e w' ⟨rfl, rfl⟩) | (go_at_call 59; refine (HN.out _).mono ?_; rintro e w' ⟨rfl, rfl⟩) | (go_at_call 56; refine (m_inf 1 _).mono ?_; rintro e w' ⟨rfl, rfl⟩))
    go_ret
    exact ⟨rfl, rfl⟩
  · go_wp2_with (first | (go_at_call 57; refine (m_isInf0 _ hf _).mono ?_; rintro e w' ⟨rfl, rfl⟩) | (go_at_call 58; refine (m_isNaN _ hf _).mono ?_; rintro e w' ⟨rfl, rfl⟩) | (go_at_call 59; refine (HN.out _).mono ?_; rintro e w' ⟨rfl, rfl⟩) | (go_at_call 56; refine (m_inf (-1) _).mono ?_; rintro e w' ⟨rfl, rfl⟩))
    go_ret
    exact ⟨rfl, rfl⟩
end Go.Proofs.YtbplfkbknehmbaaDoor
