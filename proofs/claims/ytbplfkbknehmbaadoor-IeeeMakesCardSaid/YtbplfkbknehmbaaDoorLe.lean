/- math.Ldexp: a float times a power of two, where that is a float, or beyond all floats. -/
import Derived.Test.YtbplfkbknehmbaaDoorLd
import Derived.Laws.BitsLemmas
namespace Fl
open Go

theorem and_field (x : Nat) (hx : x < 18446744073709551616) : bits .and .i64 ((x : Int) / 4503599627370496) 2047 = ((x / 4503599627370496 % 2048 : Nat) : Int) := by
  have h := bits_mask .i64 63 (by decide) (fun n h0 h1 => by rw [IntKind.wrap_i64]; omega) 11 (by decide) ((x : Int) / 4503599627370496) (by omega) (by omega)
  refine Eq.trans h ?_
  omega
theorem andNot_field (x : Nat) (hx : x < 18446744073709551616) : bits .andNot .u64 (x : Int) 9218868437227405312 = ((word (neg x) (x % B) : Nat) : Int) := by
  have h := u64_andNot_nat x 9218868437227405312 hx (by decide)
  refine Eq.trans h ?_
  congr 1
  rw [show 18446744073709551615 - 9218868437227405312 = 9223372036854775808 ||| 4503599627370495 by decide, Nat.and_or_distrib_left,
    show x &&& 9223372036854775808 = x / 9223372036854775808 % 2 * 9223372036854775808 from nat_bit 63 x,
    show x &&& 4503599627370495 = x % 4503599627370496 from Nat.and_two_pow_sub_one_eq_mod x 52,
    nat_join 63 _ _ (by omega) (by omega)]
  unfold word neg S B
  by_cases h : 9223372036854775808 ≤ x
  · simp [h]; omega
  · simp [h]; omega
theorem or_field (s : Bool) (F c : Nat) (hF : F < B) (hc : c < 2048) : bits .or .u64 ((word s F : Nat) : Int) ((c : Int) * 4503599627370496) = ((word s (c * B + F) : Nat) : Int) := by
  have hw : word s F < 18446744073709551616 := word_lt (by unfold B S at *; omega)
  have h := u64_or_nat (word s F) (c * 4503599627370496) hw (by omega)
  have e : ((c * 4503599627370496 : Nat) : Int) = (c : Int) * 4503599627370496 := by omega
  rw [e] at h
  refine Eq.trans h ?_
  congr 1
  unfold word S B at *
  cases s
  · simp
    rw [Nat.or_comm, nat_join 52 _ _ (by omega) (by omega)]
  · simp
    rw [show 9223372036854775808 + F = 9223372036854775808 ||| F from (nat_join 63 9223372036854775808 F (by decide) (by omega)).symm, Nat.or_assoc, Nat.or_comm F,
      nat_join 52 (c * 4503599627370496) F (by omega) (by omega), nat_join 63 9223372036854775808 (c * 4503599627370496 + F) (by decide) (by omega)]

/-- the rung of a small magnitude times 2^52. -/
theorem norm_small {x : Nat} (h0 : 0 < x) (hs : x < B) : ∃ r, B ≤ r ∧ r < INF ∧ V x * 2 ^ 52 = V r := by
  have hB : B = 2 ^ 52 := by decide
  have h1 := Nat.log2_self_le (by omega : x ≠ 0)
  have h2 := @Nat.lt_log2_self x
  generalize x.log2 = L at *
  have hL : L < 52 := by
    rcases Nat.lt_or_ge L 52 with h | h
    · exact h
    · have := Nat.pow_le_pow_right (show 0 < 2 by decide) h
      omega
  have q1 : B ≤ x * 2 ^ (52 - L) := by
    have := Nat.mul_le_mul_right (2 ^ (52 - L)) h1
    rw [← Nat.pow_add, show L + (52 - L) = 52 by omega] at this
    omega
  have q2 : x * 2 ^ (52 - L) < 2 * B := by
    have := Nat.mul_lt_mul_of_pos_right h2 (Nat.two_pow_pos (52 - L))
    rw [← Nat.pow_add, show L + 1 + (52 - L) = 52 + 1 by omega, Nat.pow_succ] at this
    omega
  refine ⟨L * B + x * 2 ^ (52 - L), by omega, ?_, ?_⟩
  · unfold B INF at *; omega
  · rw [V_of (by omega) (.inr q1), V_lt_B hs, Nat.mul_assoc, ← Nat.pow_add, show 52 - L + L = 52 by omega]

/-- a rung's fields. -/
theorem V_fields {r : Nat} (h : B ≤ r) : V r = (B + r % B) * 2 ^ (r / B - 1) := by
  unfold V; rw [if_neg (by omega)]

theorem V_half : V 4368491638549381120 = 2 ^ (EM - 53) := by
  have h : (4368491638549381120 : Nat) = (EM - 105) * B + B := by decide
  have hB : B = 2 ^ 52 := by decide
  rw [h, V_of (by unfold B; omega) (.inr (Nat.le_refl _)), hB, ← Nat.pow_add]
  exact congrArg (2 ^ ·) (by decide)
theorem V_one : V 4607182418800017408 = 2 ^ EM := by
  have h : (4607182418800017408 : Nat) = (EM - 52) * B + B := by decide
  have hB : B = 2 ^ 52 := by decide
  rw [h, V_of (by unfold B; omega) (.inr (Nat.le_refl _)), hB, ← Nat.pow_add]
  exact congrArg (2 ^ ·) (by decide)

theorem one_mul_float {y : Nat} (hy : y < 18446744073709551616) (fy : mag y < INF) : FloatKind.f64.format.mul 4607182418800017408 y = some y := by
  have := mul_exact (x := 4607182418800017408) (y := y) (r := mag y) (by decide) hy (by decide) fy fy
    (by rw [show mag 4607182418800017408 = 4607182418800017408 by decide, V_one, Nat.mul_comm])
  rw [this, show neg 4607182418800017408 = false by decide]
  simp [word_self hy]

end Fl
namespace Go.Proofs.YtbplfkbknehmbaaDoor
open Go.RowKit Fl

theorem feq_zero_false {f : Nat} (hf : f < 18446744073709551616) (h0 : 0 < mag f) : feq f 0 = false := by
  rw [feq_eq (by simpa using hf) (by decide), Bool.eq_false_iff]
  simp only [show key 0 = 0 by decide]
  unfold key mag S at *
  simp; intros; split <;> omega
theorem feq_zero_true {f : Nat} (hf : f < 18446744073709551616) (h0 : mag f = 0) : feq f 0 = true := by
  rw [feq_eq (by simpa using hf) (by decide)]
  simp only [show key 0 = 0 by decide, show nan 0 = false by decide]
  have : nan f = false := by unfold nan; rw [h0]; decide
  rw [this]
  unfold key mag S at *
  simp; split <;> omega
theorem flt_zero {f : Nat} (hf : f < 18446744073709551616) (hn : nan f = false) (h0 : 0 < mag f) : flt f 0 = neg f := by
  rw [flt_eq (by simpa using hf) (by decide), hn]
  simp only [show key 0 = 0 by decide, show nan 0 = false by decide]
  unfold key mag S neg S at *
  simp; split <;> omega

/-- what normalize comes to: the sign, a rung from B on, and how much was taken. -/
theorem normalize_any (f : Nat) (hf : f < 18446744073709551616) (h0 : 0 < mag f) (hi : mag f < INF) :
    ∃ (r1 : Nat) (d : Nat), B ≤ r1 ∧ r1 < INF ∧ V (mag f) * 2 ^ d = V r1 ∧ d ≤ 52 ∧
      ∀ w, Calls Tryd.prog 59 #[.float .f64 f] w fun e w' => e = .returned (.tuple #[.float .f64 (word (neg f) r1), .int .i64 (-(d : Int))]) ∧ w = w' := by
  by_cases hs : mag f < B
  · obtain ⟨r, r1, r2, r3⟩ := norm_small h0 hs
    exact ⟨r, 52, r1, r2, r3, Nat.le_refl _, fun w => m_normalize_small f r hf hs r2 r3 w⟩
  · refine ⟨mag f, 0, by omega, hi, by simp, by omega, fun w => ?_⟩
    rw [word_self hf]
    exact m_normalize_plain f hf (by omega) w

theorem field_word {s : Bool} {r : Nat} (hr : r < INF) : word s r / 4503599627370496 % 2048 = r / B := by
  unfold word INF B S at *; cases s <;> simp <;> omega
theorem low_word {s : Bool} {r : Nat} : word s r % B = r % B := by
  unfold word B S; cases s <;> simp; omega

set_option maxRecDepth 10000 in
/-- math.ldexp of a float that is not 0: where the answer is a float. -/
theorem m_ldexp_exact (f : Nat) (k : Int) (r : Nat) (hf : f < 18446744073709551616) (h0 : 0 < mag f) (hi : mag f < INF) (k1 : -10000 ≤ k) (k2 : k ≤ 10000)
    (hr : r < INF) (hv : V (mag f) * 2 ^ k.toNat = V r * 2 ^ (-k).toNat) (w : World) :
    Calls Tryd.prog 55 #[.float .f64 f, .int .i64 k] w fun e w' => e = .returned (.float .f64 (word (neg f) r)) ∧ w = w' := by
  obtain ⟨r1, d, b1, b2, hV, hd, hN⟩ := normalize_any f hf h0 hi
  have hn : nan f = false := by unfold nan; simp; omega
  have hfe := feq_zero_false hf h0
  have hin : decide (mag f = INF) = false := by simp; omega
  have hw1 : word (neg f) r1 < 18446744073709551616 := word_lt (by unfold INF S at *; omega)
  have hE := and_field (word (neg f) r1) hw1
  rw [field_word b2] at hE
  have hF := andNot_field (word (neg f) r1) hw1
  rw [neg_word (by unfold INF S at *; omega), low_word] at hF
  have hf1 := V_fields b1
  have hq1 : 1 ≤ r1 / B := by unfold B at *; omega
  have hq2 : r1 / B ≤ 2046 := by unfold B INF at *; omega
  have hFl : r1 % B < B := Nat.mod_lt _ (by decide)
  generalize r1 / B = E at *
  generalize r1 % B = F at *
  -- (B + F) 2^(E-1) = V r 2^(d - k)
  have key : (B + F) * 2 ^ (E - 1) * 2 ^ k.toNat = V r * 2 ^ (-k).toNat * 2 ^ d := by rw [← hf1, ← hV, ← hv, Nat.mul_right_comm]
  have hv0 : 0 < V (mag f) := by have := V_mono h0; omega
  have hr0 : 0 < V r := by
    rcases Nat.eq_zero_or_pos (V r) with h | h
    · rw [h] at hv; simp at hv
      have := Nat.mul_pos hv0 (Nat.two_pow_pos k.toNat); omega
    · exact h
  by_cases hcase : 0 ≤ k - d + (E : Int) - 1
  · -- the normal ones
    obtain ⟨n, hn0⟩ : ∃ n : Nat, (n : Int) = k - d + (E : Int) - 1 := ⟨(k - d + (E : Int) - 1).toNat, by omega⟩
    have hVr : V r = (B + F) * 2 ^ n := by
      apply Nat.eq_of_mul_eq_mul_right (Nat.two_pow_pos ((-k).toNat + d))
      rw [Nat.pow_add, ← Nat.mul_assoc, ← key, Nat.mul_assoc, Nat.mul_assoc, ← Nat.pow_add, ← Nat.pow_add, ← Nat.pow_add]
      congr 2
      omega
    have hrn : r = n * B + (B + F) := V_inj (by rw [hVr, V_of (by omega) (.inr (by omega))])
    have hn2 : n ≤ 2045 := by unfold B INF at *; omega
    have hX := or_field (neg f) F (n + 1) hFl (by omega)
    rw [← hF, show (n + 1) * B + F = r by rw [hrn, Nat.add_mul]; omega] at hX
    have hwr : word (neg f) r < 18446744073709551616 := word_lt (by unfold INF S at *; omega)
    refine m_ldexp_norm f (word (neg f) r1) (word (neg f) r) (word (neg f) r) k (-(d : Int)) E hN hfe hin hn hf hw1 k1 k2 (by omega) (by omega) (by omega) (by omega) hE
      (by omega) (by omega) ?_ (one_mul_float hwr (by rw [mag_word (by unfold INF S at *; omega)]; exact hr)) w
    rw [show k + -(d : Int) + ((E : Int) - 1023) + 1023 = ((n + 1 : Nat) : Int) by omega]
    exact hX
  · -- the small ones
    obtain ⟨n, hn0⟩ : ∃ n : Nat, (n : Int) = -(k - d + (E : Int) - 1) := ⟨(-(k - d + (E : Int) - 1)).toNat, by omega⟩
    have hVr : V r * 2 ^ n = B + F := by
      apply Nat.eq_of_mul_eq_mul_right (Nat.two_pow_pos (E - 1 + k.toNat))
      rw [Nat.pow_add 2 (E - 1), ← Nat.mul_assoc (B + F), key, Nat.mul_assoc, Nat.mul_assoc, ← Nat.pow_add, ← Nat.pow_add, ← Nat.pow_add]
      congr 2
      omega
    have hB : B = 2 ^ 52 := by decide
    have hn1 : n ≤ 52 := by
      rcases Nat.lt_or_ge 52 n with h | h
      · have h3 : 2 ^ 53 ≤ 2 ^ n := Nat.pow_le_pow_right (by decide) h
        have h4 : 1 * 2 ^ n ≤ V r * 2 ^ n := Nat.mul_le_mul_right _ hr0
        omega
      · exact h
    have hX := or_field (neg f) F (54 - n) hFl (by omega)
    rw [← hF] at hX
    have hyr : (54 - n) * B + F < INF := by unfold B INF at *; omega
    have hyS : (54 - n) * B + F < S := by unfold INF S at *; omega
    have hwy : word (neg f) ((54 - n) * B + F) < 18446744073709551616 := word_lt hyS
    have hmul := mul_exact (x := 4368491638549381120) (y := word (neg f) ((54 - n) * B + F)) (r := r) (by decide) hwy (by decide) (by rw [mag_word hyS]; exact hyr) hr
      (by
        rw [mag_word hyS, show mag 4368491638549381120 = 4368491638549381120 by decide, V_half]
        have e : (54 - n) * B + F = (53 - n) * B + (B + F) := by rw [show 54 - n = 53 - n + 1 by omega, Nat.add_mul]; omega
        rw [e, V_of (by omega) (.inr (by omega)), ← hVr, Nat.mul_comm, Nat.mul_assoc, Nat.mul_assoc, ← Nat.pow_add, ← Nat.pow_add]
        congr 2
        have := EM_eq
        omega)
    rw [show neg 4368491638549381120 = false by decide, neg_word hyS] at hmul
    refine m_ldexp_den f (word (neg f) r1) _ (word (neg f) r) k (-(d : Int)) E hN hfe hin hn hf hw1 k1 k2 (by omega) (by omega) (by omega) (by omega) hE
      (by omega) (by omega) ?_ (by simpa using hmul) w
    rw [show k + -(d : Int) + ((E : Int) - 1023) + 53 + 1023 = ((54 - n : Nat) : Int) by omega]
    exact hX

set_option maxRecDepth 10000 in
/-- math.ldexp of a float that is not 0: where the answer is beyond all floats. -/
theorem m_ldexp_inf (f : Nat) (k : Int) (hf : f < 18446744073709551616) (h0 : 0 < mag f) (hi : mag f < INF) (k1 : -10000 ≤ k) (k2 : k ≤ 10000)
    (hv : V INF * 2 ^ (-k).toNat ≤ V (mag f) * 2 ^ k.toNat) (w : World) :
    Calls Tryd.prog 55 #[.float .f64 f, .int .i64 k] w fun e w' => e = .returned (.float .f64 (word (neg f) INF)) ∧ w = w' := by
  obtain ⟨r1, d, b1, b2, hV, hd, hN⟩ := normalize_any f hf h0 hi
  have hn : nan f = false := by unfold nan; simp; omega
  have hfe := feq_zero_false hf h0
  have hin : decide (mag f = INF) = false := by simp; omega
  have hw1 : word (neg f) r1 < 18446744073709551616 := word_lt (by unfold INF S at *; omega)
  have hE := and_field (word (neg f) r1) hw1
  rw [field_word b2] at hE
  have hf1 := V_fields b1
  have hq1 : 1 ≤ r1 / B := by unfold B at *; omega
  have hq2 : r1 / B ≤ 2046 := by unfold B INF at *; omega
  have hFl : r1 % B < B := Nat.mod_lt _ (by decide)
  have hlt := flt_zero (f := word (neg f) r1) hw1 (by unfold nan; rw [mag_word (by unfold INF S at *; omega)]; simp; omega) (by rw [mag_word (by unfold INF S at *; omega)]; unfold B at *; omega)
  rw [neg_word (by unfold INF S at *; omega)] at hlt
  generalize r1 / B = E at *
  generalize r1 % B = F at *
  refine m_ldexp_over f (word (neg f) r1) k (-(d : Int)) E hN hfe hin hn hf hw1 k1 k2 (by omega) (by omega) (by omega) (by omega) hE ?_ _ hlt w
  -- V INF 2^(d) 2^-k ≤ (B + F) 2^(E-1) 2^k
  have h1 := Nat.mul_le_mul_right (2 ^ d) hv
  rw [Nat.mul_right_comm (V (mag f)), hV, hf1, V_INF] at h1
  have hB : B = 2 ^ 52 := by decide
  have h2 : (B + F) * 2 ^ (E - 1) * 2 ^ k.toNat < 2 * B * (2 ^ (E - 1) * 2 ^ k.toNat) := by
    rw [Nat.mul_assoc]
    exact Nat.mul_lt_mul_of_pos_right (by omega) (Nat.mul_pos (Nat.two_pow_pos _) (Nat.two_pow_pos _))
  have h3 : B * (2 ^ EB * 2 ^ (-k).toNat * 2 ^ d) < B * (2 * (2 ^ (E - 1) * 2 ^ k.toNat)) := by
    rw [← Nat.mul_assoc B, ← Nat.mul_assoc B, ← Nat.mul_assoc B 2, Nat.mul_comm B 2]
    exact Nat.lt_of_le_of_lt h1 h2
  have h4 := Nat.lt_of_mul_lt_mul_left h3
  rw [← Nat.pow_add, ← Nat.pow_add, ← Nat.pow_add, Nat.mul_comm 2, ← Nat.pow_succ] at h4
  have h5 := (Nat.pow_lt_pow_iff_right (by decide : 1 < 2)).1 h4
  have := EB_eq
  omega

theorem m_Ldexp_exact (f : Nat) (k : Int) (r : Nat) (hf : f < 18446744073709551616) (h0 : 0 < mag f) (hi : mag f < INF) (k1 : -10000 ≤ k) (k2 : k ≤ 10000)
    (hr : r < INF) (hv : V (mag f) * 2 ^ k.toNat = V r * 2 ^ (-k).toNat) (w : World) :
    Calls Tryd.prog 45 #[.float .f64 f, .int .i64 k] w fun e w' => e = .returned (.float .f64 (word (neg f) r)) ∧ w = w' := by
  have H := Lib.hid (m_ldexp_exact f k r hf h0 hi k1 k2 hr hv w)
  clear hv
  go_enter Tryd.func45, Tryd.ntmps45
  go_wp2_with (go_at_call 55; refine H.out.mono ?_; rintro e w' ⟨rfl, rfl⟩)
  go_ret
  exact ⟨rfl, rfl⟩
theorem m_Ldexp_inf (f : Nat) (k : Int) (hf : f < 18446744073709551616) (h0 : 0 < mag f) (hi : mag f < INF) (k1 : -10000 ≤ k) (k2 : k ≤ 10000)
    (hv : V INF * 2 ^ (-k).toNat ≤ V (mag f) * 2 ^ k.toNat) (w : World) :
    Calls Tryd.prog 45 #[.float .f64 f, .int .i64 k] w fun e w' => e = .returned (.float .f64 (word (neg f) INF)) ∧ w = w' := by
  have H := Lib.hid (m_ldexp_inf f k hf h0 hi k1 k2 hv w)
  clear hv
  go_enter Tryd.func45, Tryd.ntmps45
  go_wp2_with (go_at_call 55; refine H.out.mono ?_; rintro e w' ⟨rfl, rfl⟩)
  go_ret
  exact ⟨rfl, rfl⟩
theorem m_Ldexp_zero (f : Nat) (hf : f < 18446744073709551616) (h0 : mag f = 0) (k : Int) (w : World) :
    Calls Tryd.prog 45 #[.float .f64 f, .int .i64 k] w fun e w' => e = .returned (.float .f64 f) ∧ w = w' := by
  have hz := feq_zero_true hf h0
  go_enter Tryd.func45, Tryd.ntmps45
  go_wp2_with ((go_at_call 55; refine (m_ldexp_zero f hz k _).mono ?_; rintro e w' ⟨rfl, rfl⟩))
  go_ret
  exact ⟨rfl, rfl⟩
end Go.Proofs.YtbplfkbknehmbaaDoor
