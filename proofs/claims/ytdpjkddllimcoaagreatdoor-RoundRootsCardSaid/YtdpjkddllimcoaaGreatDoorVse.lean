/- A part of the proof (15 of 18) of this: RoundSums: for every two floats and every mode the program's rounded sum and difference are the document's: the law returns true; condition: the table of package math/bits reads as its text lays it. -/
import Derived.Laws.BitsLemmas
import Derived.Test.YtdpjkddllimcoaaGreatDoorVsd

section
/- math.Ldexp: a float times a power of two, where that is a float, or beyond all floats. -/
namespace Fl
open Go

theorem and_field (x : Nat) (hx : x < 18446744073709551616) : bits .and .i64 ((x : Int) / 4503599627370496) 2047 = ((x / 4503599627370496 % 2048 : Nat) : Int) := by
  have h := bits_mask .i64 63 (by decide) (fun n h0 h1 => by rw [IntKind.wrap_i64]; omega) 11 (by decide) ((x : Int) / 4503599627370496) (by omega) (by omega)
  refine Eq.trans h ?_
  omega
theorem andNot_field (x : Nat) (hx : x < 18446744073709551616) : bits .andNot .u64 (x : Int) 9218868437227405312 = ((word (neg x) (x % B) : Nat) : Int) := by
  have h := u64_andNot_nat x 9218868437227405312 hx (by decide)
  refine Eq.trans h ?_
  congr 1
  rw [show 18446744073709551615 - 9218868437227405312 = 9223372036854775808 ||| 4503599627370495 by decide, Nat.and_or_distrib_left,
    show x &&& 9223372036854775808 = x / 9223372036854775808 % 2 * 9223372036854775808 from nat_bit 63 x,
    show x &&& 4503599627370495 = x % 4503599627370496 from Nat.and_two_pow_sub_one_eq_mod x 52,
    nat_join 63 _ _ (by omega) (by omega)]
  unfold word neg S B
  by_cases h : 9223372036854775808 ≤ x
  · simp [h]; omega
  · simp [h]; omega
theorem or_field (s : Bool) (F c : Nat) (hF : F < B) (hc : c < 2048) : bits .or .u64 ((word s F : Nat) : Int) ((c : Int) * 4503599627370496) = ((word s (c * B + F) : Nat) : Int) := by
  have hw : word s F < 18446744073709551616 := word_lt (by unfold B S at *; omega)
  have h := u64_or_nat (word s F) (c * 4503599627370496) hw (by omega)
  have e : ((c * 4503599627370496 : Nat) : Int) = (c : Int) * 4503599627370496 := by omega
  rw [e] at h
  refine Eq.trans h ?_
  congr 1
  unfold word S B at *
  cases s
  · simp
    rw [Nat.or_comm, nat_join 52 _ _ (by omega) (by omega)]
  · simp
    rw [show 9223372036854775808 + F = 9223372036854775808 ||| F from (nat_join 63 9223372036854775808 F (by decide) (by omega)).symm, Nat.or_assoc, Nat.or_comm F,
      nat_join 52 (c * 4503599627370496) F (by omega) (by omega), nat_join 63 9223372036854775808 (c * 4503599627370496 + F) (by decide) (by omega)]

/-- the rung of a small magnitude times 2^52. -/
theorem norm_small {x : Nat} (h0 : 0 < x) (hs : x < B) : ∃ r, B ≤ r ∧ r < INF ∧ V x * 2 ^ 52 = V r := by
  have hB : B = 2 ^ 52 := by decide
  have h1 := Nat.log2_self_le (by omega : x ≠ 0)
  have h2 := @Nat.lt_log2_self x
  generalize x.log2 = L at *
  have hL : L < 52 := by
    rcases Nat.lt_or_ge L 52 with h | h
    · exact h
    · have := Nat.pow_le_pow_right (show 0 < 2 by decide) h
      omega
  have q1 : B ≤ x * 2 ^ (52 - L) := by
    have := Nat.mul_le_mul_right (2 ^ (52 - L)) h1
    rw [← Nat.pow_add, show L + (52 - L) = 52 by omega] at this
    omega
  have q2 : x * 2 ^ (52 - L) < 2 * B := by
    have := Nat.mul_lt_mul_of_pos_right h2 (Nat.two_pow_pos (52 - L))
    rw [← Nat.pow_add, show L + 1 + (52 - L) = 52 + 1 by omega, Nat.pow_succ] at this
    omega
  refine ⟨L * B + x * 2 ^ (52 - L), by omega, ?_, ?_⟩
  · unfold B INF at *; omega
  · rw [V_of (by omega) (.inr q1), V_lt_B hs, Nat.mul_assoc, ← Nat.pow_add, show 52 - L + L = 52 by omega]

/-- a rung's fields. -/
theorem V_fields {r : Nat} (h : B ≤ r) : V r = (B + r % B) * 2 ^ (r / B - 1) := by
  unfold V; rw [if_neg (by omega)]

theorem V_half : V 4368491638549381120 = 2 ^ (EM - 53) := by
  have h : (4368491638549381120 : Nat) = (EM - 105) * B + B := by decide
  have hB : B = 2 ^ 52 := by decide
  rw [h, V_of (by unfold B; omega) (.inr (Nat.le_refl _)), hB, ← Nat.pow_add]
  exact congrArg (2 ^ ·) (by decide)
theorem V_one : V 4607182418800017408 = 2 ^ EM := by
  have h : (4607182418800017408 : Nat) = (EM - 52) * B + B := by decide
  have hB : B = 2 ^ 52 := by decide
  rw [h, V_of (by unfold B; omega) (.inr (Nat.le_refl _)), hB, ← Nat.pow_add]
  exact congrArg (2 ^ ·) (by decide)

theorem one_mul_float {y : Nat} (hy : y < 18446744073709551616) (fy : mag y < INF) : FloatKind.f64.format.mul 4607182418800017408 y = some y := by
  have := mul_exact (x := 4607182418800017408) (y := y) (r := mag y) (by decide) hy (by decide) fy fy
    (by rw [show mag 4607182418800017408 = 4607182418800017408 by decide, V_one, Nat.mul_comm])
  rw [this, show neg 4607182418800017408 = false by decide]
  simp [word_self hy]

end Fl
namespace Go.Proofs.YtdpjkddllimcoaaGreatDoor
open Go.RowKit Fl

theorem feq_zero_false {f : Nat} (hf : f < 18446744073709551616) (h0 : 0 < mag f) : feq f 0 = false := by
  rw [feq_eq (by simpa using hf) (by decide), Bool.eq_false_iff]
  simp only [show key 0 = 0 by decide]
  unfold key mag S at *
  simp; intros; split <;> omega
theorem feq_zero_true {f : Nat} (hf : f < 18446744073709551616) (h0 : mag f = 0) : feq f 0 = true := by
  rw [feq_eq (by simpa using hf) (by decide)]
  simp only [show key 0 = 0 by decide, show nan 0 = false by decide]
  have : nan f = false := by unfold nan; rw [h0]; decide
  rw [this]
  unfold key mag S at *
  simp; split <;> omega
theorem flt_zero {f : Nat} (hf : f < 18446744073709551616) (hn : nan f = false) (h0 : 0 < mag f) : flt f 0 = neg f := by
  rw [flt_eq (by simpa using hf) (by decide), hn]
  simp only [show key 0 = 0 by decide, show nan 0 = false by decide]
  unfold key mag S neg S at *
  simp; split <;> omega

/-- what normalize comes to: the sign, a rung from B on, and how much was taken. -/
theorem normalize_any (f : Nat) (hf : f < 18446744073709551616) (h0 : 0 < mag f) (hi : mag f < INF) :
    ∃ (r1 : Nat) (d : Nat), B ≤ r1 ∧ r1 < INF ∧ V (mag f) * 2 ^ d = V r1 ∧ d ≤ 52 ∧
      ∀ w, Calls Tryz.prog 180 #[.float .f64 f] w fun en wn => en = .returned (.tuple #[.float .f64 (word (neg f) r1), .int .i64 (-(d : Int))]) ∧ w = wn := by
  by_cases hs : mag f < B
  · obtain ⟨r, r1, r2, r3⟩ := norm_small h0 hs
    exact ⟨r, 52, r1, r2, r3, Nat.le_refl _, fun w => m_normalize_small f r hf hs r2 r3 w⟩
  · refine ⟨mag f, 0, by omega, hi, by simp, by omega, fun w => ?_⟩
    rw [word_self hf]
    exact m_normalize_plain f hf (by omega) w

theorem field_word {s : Bool} {r : Nat} (hr : r < INF) : word s r / 4503599627370496 % 2048 = r / B := by
  unfold word INF B S at *; cases s <;> simp <;> omega
theorem low_word {s : Bool} {r : Nat} : word s r % B = r % B := by
  unfold word B S; cases s <;> simp; omega

set_option maxRecDepth 10000 in
/-- math.ldexp of a float that is not 0: where the answer is a float. -/
theorem m_ldexp_exact (f : Nat) (k : Int) (r : Nat) (hf : f < 18446744073709551616) (h0 : 0 < mag f) (hi : mag f < INF) (k1 : -10000 ≤ k) (k2 : k ≤ 10000)
    (hr : r < INF) (hv : V (mag f) * 2 ^ k.toNat = V r * 2 ^ (-k).toNat) (w : World) :
    Calls Tryz.prog 179 #[.float .f64 f, .int .i64 k] w fun en wn => en = .returned (.float .f64 (word (neg f) r)) ∧ w = wn := by
  obtain ⟨r1, d, b1, b2, hV, hd, hN⟩ := normalize_any f hf h0 hi
  have hn : nan f = false := by unfold nan; simp; omega
  have hfe := feq_zero_false hf h0
  have hin : decide (mag f = INF) = false := by simp; omega
  have hw1 : word (neg f) r1 < 18446744073709551616 := word_lt (by unfold INF S at *; omega)
  have hE := and_field (word (neg f) r1) hw1
  rw [field_word b2] at hE
  have hF := andNot_field (word (neg f) r1) hw1
  rw [neg_word (by unfold INF S at *; omega), low_word] at hF
  have hf1 := V_fields b1
  have hq1 : 1 ≤ r1 / B := by unfold B at *; omega
  have hq2 : r1 / B ≤ 2046 := by unfold B INF at *; omega
  have hFl : r1 % B < B := Nat.mod_lt _ (by decide)
  generalize r1 / B = E at *
  generalize r1 % B = F at *
  -- (B + F) 2^(E-1) = V r 2^(d - k)
  have key : (B + F) * 2 ^ (E - 1) * 2 ^ k.toNat = V r * 2 ^ (-k).toNat * 2 ^ d := by rw [← hf1, ← hV, ← hv, Nat.mul_right_comm]
  have hv0 : 0 < V (mag f) := by have := V_mono h0; omega
  have hr0 : 0 < V r := by
    rcases Nat.eq_zero_or_pos (V r) with h | h
    · rw [h] at hv; simp at hv
      have := Nat.mul_pos hv0 (Nat.two_pow_pos k.toNat); omega
    · exact h
  by_cases hcase : 0 ≤ k - d + (E : Int) - 1
  · -- the normal ones
    obtain ⟨n, hn0⟩ : ∃ n : Nat, (n : Int) = k - d + (E : Int) - 1 := ⟨(k - d + (E : Int) - 1).toNat, by omega⟩
    have hVr : V r = (B + F) * 2 ^ n := by
      apply Nat.eq_of_mul_eq_mul_right (Nat.two_pow_pos ((-k).toNat + d))
      rw [Nat.pow_add, ← Nat.mul_assoc, ← key, Nat.mul_assoc, Nat.mul_assoc, ← Nat.pow_add, ← Nat.pow_add, ← Nat.pow_add]
      congr 2
      omega
    have hrn : r = n * B + (B + F) := V_inj (by rw [hVr, V_of (by omega) (.inr (by omega))])
    have hn2 : n ≤ 2045 := by unfold B INF at *; omega
    have hX := or_field (neg f) F (n + 1) hFl (by omega)
    rw [← hF, show (n + 1) * B + F = r by rw [hrn, Nat.add_mul]; omega] at hX
    have hwr : word (neg f) r < 18446744073709551616 := word_lt (by unfold INF S at *; omega)
    refine m_ldexp_norm f (word (neg f) r1) (word (neg f) r) (word (neg f) r) k (-(d : Int)) E hN hfe hin hn hf hw1 k1 k2 (by omega) (by omega) (by omega) (by omega) hE
      (by omega) (by omega) ?_ (one_mul_float hwr (by rw [mag_word (by unfold INF S at *; omega)]; exact hr)) w
    rw [show k + -(d : Int) + ((E : Int) - 1023) + 1023 = ((n + 1 : Nat) : Int) by omega]
    exact hX
  · -- the small ones
    obtain ⟨n, hn0⟩ : ∃ n : Nat, (n : Int) = -(k - d + (E : Int) - 1) := ⟨(-(k - d + (E : Int) - 1)).toNat, by omega⟩
    have hVr : V r * 2 ^ n = B + F := by
      apply Nat.eq_of_mul_eq_mul_right (Nat.two_pow_pos (E - 1 + k.toNat))
      rw [Nat.pow_add 2 (E - 1), ← Nat.mul_assoc (B + F), key, Nat.mul_assoc, Nat.mul_assoc, ← Nat.pow_add, ← Nat.pow_add, ← Nat.pow_add]
      congr 2
      omega
    have hB : B = 2 ^ 52 := by decide
    have hn1 : n ≤ 52 := by
      rcases Nat.lt_or_ge 52 n with h | h
      · have h3 : 2 ^ 53 ≤ 2 ^ n := Nat.pow_le_pow_right (by decide) h
        have h4 : 1 * 2 ^ n ≤ V r * 2 ^ n := Nat.mul_le_mul_right _ hr0
        omega
      · exact h
    have hX := or_field (neg f) F (54 - n) hFl (by omega)
    rw [← hF] at hX
    have hyr : (54 - n) * B + F < INF := by unfold B INF at *; omega
    have hyS : (54 - n) * B + F < S := by unfold INF S at *; omega
    have hwy : word (neg f) ((54 - n) * B + F) < 18446744073709551616 := word_lt hyS
    have hmul := mul_exact (x := 4368491638549381120) (y := word (neg f) ((54 - n) * B + F)) (r := r) (by decide) hwy (by decide) (by rw [mag_word hyS]; exact hyr) hr
      (by
        rw [mag_word hyS, show mag 4368491638549381120 = 4368491638549381120 by decide, V_half]
        have e : (54 - n) * B + F = (53 - n) * B + (B + F) := by rw [show 54 - n = 53 - n + 1 by omega, Nat.add_mul]; omega
        rw [e, V_of (by omega) (.inr (by omega)), ← hVr, Nat.mul_comm, Nat.mul_assoc, Nat.mul_assoc, ← Nat.pow_add, ← Nat.pow_add]
        congr 2
        have := EM_eq
        omega)
    rw [show neg 4368491638549381120 = false by decide, neg_word hyS] at hmul
    refine m_ldexp_den f (word (neg f) r1) _ (word (neg f) r) k (-(d : Int)) E hN hfe hin hn hf hw1 k1 k2 (by omega) (by omega) (by omega) (by omega) hE
      (by omega) (by omega) ?_ (by simpa using hmul) w
    rw [show k + -(d : Int) + ((E : Int) - 1023) + 53 + 1023 = ((54 - n : Nat) : Int) by omega]
    exact hX

set_option maxRecDepth 10000 in
/-- math.ldexp of a float that is not 0: where the answer is beyond all floats. -/
theorem m_ldexp_inf (f : Nat) (k : Int) (hf : f < 18446744073709551616) (h0 : 0 < mag f) (hi : mag f < INF) (k1 : -10000 ≤ k) (k2 : k ≤ 10000)
    (hv : V INF * 2 ^ (-k).toNat ≤ V (mag f) * 2 ^ k.toNat) (w : World) :
    Calls Tryz.prog 179 #[.float .f64 f, .int .i64 k] w fun en wn => en = .returned (.float .f64 (word (neg f) INF)) ∧ w = wn := by
  obtain ⟨r1, d, b1, b2, hV, hd, hN⟩ := normalize_any f hf h0 hi
  have hn : nan f = false := by unfold nan; simp; omega
  have hfe := feq_zero_false hf h0
  have hin : decide (mag f = INF) = false := by simp; omega
  have hw1 : word (neg f) r1 < 18446744073709551616 := word_lt (by unfold INF S at *; omega)
  have hE := and_field (word (neg f) r1) hw1
  rw [field_word b2] at hE
  have hf1 := V_fields b1
  have hq1 : 1 ≤ r1 / B := by unfold B at *; omega
  have hq2 : r1 / B ≤ 2046 := by unfold B INF at *; omega
  have hFl : r1 % B < B := Nat.mod_lt _ (by decide)
  have hlt := flt_zero (f := word (neg f) r1) hw1 (by unfold nan; rw [mag_word (by unfold INF S at *; omega)]; simp; omega) (by rw [mag_word (by unfold INF S at *; omega)]; unfold B at *; omega)
  rw [neg_word (by unfold INF S at *; omega)] at hlt
  generalize r1 / B = E at *
  generalize r1 % B = F at *
  refine m_ldexp_over f (word (neg f) r1) k (-(d : Int)) E hN hfe hin hn hf hw1 k1 k2 (by omega) (by omega) (by omega) (by omega) hE ?_ _ hlt w
  -- V INF 2^(d) 2^-k ≤ (B + F) 2^(E-1) 2^k
  have h1 := Nat.mul_le_mul_right (2 ^ d) hv
  rw [Nat.mul_right_comm (V (mag f)), hV, hf1, V_INF] at h1
  have hB : B = 2 ^ 52 := by decide
  have h2 : (B + F) * 2 ^ (E - 1) * 2 ^ k.toNat < 2 * B * (2 ^ (E - 1) * 2 ^ k.toNat) := by
    rw [Nat.mul_assoc]
    exact Nat.mul_lt_mul_of_pos_right (by omega) (Nat.mul_pos (Nat.two_pow_pos _) (Nat.two_pow_pos _))
  have h3 : B * (2 ^ EB * 2 ^ (-k).toNat * 2 ^ d) < B * (2 * (2 ^ (E - 1) * 2 ^ k.toNat)) := by
    rw [← Nat.mul_assoc B, ← Nat.mul_assoc B, ← Nat.mul_assoc B 2, Nat.mul_comm B 2]
    exact Nat.lt_of_le_of_lt h1 h2
  have h4 := Nat.lt_of_mul_lt_mul_left h3
  rw [← Nat.pow_add, ← Nat.pow_add, ← Nat.pow_add, Nat.mul_comm 2, ← Nat.pow_succ] at h4
  have h5 := (Nat.pow_lt_pow_iff_right (by decide : 1 < 2)).1 h4
  have := EB_eq
  omega

theorem m_Ldexp_exact (f : Nat) (k : Int) (r : Nat) (hf : f < 18446744073709551616) (h0 : 0 < mag f) (hi : mag f < INF) (k1 : -10000 ≤ k) (k2 : k ≤ 10000)
    (hr : r < INF) (hv : V (mag f) * 2 ^ k.toNat = V r * 2 ^ (-k).toNat) (w : World) :
    Calls Tryz.prog 172 #[.float .f64 f, .int .i64 k] w fun en wn => en = .returned (.float .f64 (word (neg f) r)) ∧ w = wn := by
  have H := Lib.hid (m_ldexp_exact f k r hf h0 hi k1 k2 hr hv w)
  clear hv
  go_enter Tryz.func172, Tryz.ntmps172
  go_wp2_with (go_at_call 179; refine H.out.mono ?_; rintro e w' ⟨rfl, rfl⟩)
  go_ret
  exact ⟨rfl, rfl⟩
theorem m_Ldexp_inf (f : Nat) (k : Int) (hf : f < 18446744073709551616) (h0 : 0 < mag f) (hi : mag f < INF) (k1 : -10000 ≤ k) (k2 : k ≤ 10000)
    (hv : V INF * 2 ^ (-k).toNat ≤ V (mag f) * 2 ^ k.toNat) (w : World) :
    Calls Tryz.prog 172 #[.float .f64 f, .int .i64 k] w fun en wn => en = .returned (.float .f64 (word (neg f) INF)) ∧ w = wn := by
  have H := Lib.hid (m_ldexp_inf f k hf h0 hi k1 k2 hv w)
  clear hv
  go_enter Tryz.func172, Tryz.ntmps172
  go_wp2_with (go_at_call 179; refine H.out.mono ?_; rintro e w' ⟨rfl, rfl⟩)
  go_ret
  exact ⟨rfl, rfl⟩
theorem m_Ldexp_zero (f : Nat) (hf : f < 18446744073709551616) (h0 : mag f = 0) (k : Int) (w : World) :
    Calls Tryz.prog 172 #[.float .f64 f, .int .i64 k] w fun en wn => en = .returned (.float .f64 f) ∧ w = wn := by
  have hz := feq_zero_true hf h0
  go_enter Tryz.func172, Tryz.ntmps172
  go_wp2_with ((go_at_call 179; refine (m_ldexp_zero f hz k _).mono ?_; rintro e w' ⟨rfl, rfl⟩))
  go_ret
  exact ⟨rfl, rfl⟩
end Go.Proofs.YtdpjkddllimcoaaGreatDoor
end

section
/- The reference's exact numbers: that of a float. -/
namespace Fl
open Go Go.RowKit
theorem val_sg {x : Nat} : val x = sg (neg x) (V (mag x)) := by
  unfold val sg neg
  by_cases h : S ≤ x
  · rw [if_pos h, if_pos (by simpa using h)]
  · rw [if_neg h, if_neg (by simpa using h)]
end Fl
namespace Go.Proofs.YtdpjkddllimcoaaGreatDoor
open Go.RowKit Fl
attribute [local go_sem] m_bits m_of
set_option maxRecDepth 20000 in
theorem k_Float (x : Nat) (hx : x < 18446744073709551616) (w : World) :
    Calls Tryz.prog 30 #[.float .f64 x] w fun e w' => ∃ v, e = .returned v ∧ Ext w w' ∧ Ry w' v (val x) (-1074) := by
  have HX : Hid (∀ o1, Ext w (w.alloc o1)) := fun o1 => (Ext.refl w).alloc o1
  obtain ⟨M, HM⟩ : ∃ M : Nat, Hid (M = x % 4503599627370496) := ⟨_, rfl⟩
  obtain ⟨E, HE⟩ : ∃ E : Nat, Hid (E = x / 4503599627370496 % 2048) := ⟨_, rfl⟩
  have hM : M < 4503599627370496 := by rw [HM.out]; exact Nat.mod_lt _ (by decide)
  have hE : E < 2048 := by rw [HE.out]; exact Nat.mod_lt _ (by decide)
  have b0 := bits_and_52 x hx
  rw [← HM.out] at b0
  have b2 := bits_and_2047 (x / 4503599627370496) (by omega)
  rw [← HE.out, show ((x / 4503599627370496 : Nat) : Int) = (x : Int) / 4503599627370496 by simp] at b2
  have b3 := bits_or_52 M hM
  have hmg : mag x = E * 4503599627370496 + M := by rw [HM.out, HE.out]; unfold mag S; omega
  have hsg : ((x : Int) / 9223372036854775808 == 1) = neg x := by unfold neg S; rw [Bool.eq_iff_iff]; simp; omega
  have HV := Lib.hid (@val_sg x)
  have HBx := Lib.hid (Bx.new w 35 false (.slice none 0 0) 0)
  generalize neg x = ns at *
  obtain ⟨k, m, HK⟩ : ∃ k m : Nat, Hid ((E = 0 ∧ m = M ∧ k = 0 ∨ 0 < E ∧ m = M + 4503599627370496 ∧ k = E - 1) ∧ V (mag x) = m * 2 ^ k ∧ m < 18446744073709551616) := by
    by_cases h0 : E = 0
    · refine ⟨0, M, .inl ⟨h0, rfl, rfl⟩, ?_, by omega⟩
      rw [hmg, h0, V_lt_B (by unfold B; omega)]; simp
    · refine ⟨E - 1, M + 4503599627370496, .inr ⟨by omega, rfl, rfl⟩, ?_, by omega⟩
      rw [V_fields (by rw [hmg]; unfold B; omega), hmg]
      unfold B
      rw [show (E * 4503599627370496 + M) % 4503599627370496 = M by omega, show (E * 4503599627370496 + M) / 4503599627370496 = E by omega, Nat.add_comm]
  have HN : Hid (∀ t q, q = -1074 + (k : Int) → Calls Tryz.prog 77 #[.bool ns, .slice (some ⟨w.heap.size + 1, 0, none⟩) 2 2, .int .i64 q] ((w.alloc (.cells #[.bool false, .slice none 0 0, .int .i64 0] 35)).alloc (.cells #[.int .u32 ((m : Int) % 4294967296), .int .u32 ((m : Int) / 4294967296)] t)) fun en w'' => ∃ v', en = .returned v' ∧ Ext w w'' ∧ Bx w'' 35 w.heap.size false (.slice none 0 0) 0 ∧ Ry w'' v' (val x) (-1074)) := by
    intro t q hq
    subst hq
    have hz : (w.alloc (.cells #[.bool false, .slice none 0 0, .int .i64 0] 35)).heap.size = w.heap.size + 1 := by simp
    have hx' := HX.out (.cells #[.bool false, .slice none 0 0, .int .i64 0] 35)
    have hb' := HBx.out
    rw [← hz]
    generalize w.alloc (.cells #[.bool false, .slice none 0 0, .int .i64 0] 35) = w' at *
    have hs : Sl (w'.alloc (.cells #[.int .u32 ((m : Int) % 4294967296), .int .u32 ((m : Int) / 4294967296)] t)) (.slice (some ⟨w'.heap.size, 0, none⟩) 2 2) [m % 4294967296, m / 4294967296] := by
      refine .inr ⟨w'.heap.size, 0, 2, rfl, by simp, by decide, fun i hi => ?_⟩
      have : i = 0 ∨ i = 1 := by simp at hi; omega
      rcases this with rfl | rfl <;> simp
    have hk : k < 2048 := by rcases HK.out.1 with h | h <;> omega
    obtain ⟨n1, n2⟩ := num_two HK.out.2.2
    refine (k_norm ns _ _ (-1074 + (k : Int)) _ hs n1 (by simp) (by omega) (by omega)).mono ?_
    rintro en wn ⟨v', rfl, h1, h2⟩
    refine ⟨v', rfl, (hx'.alloc _).trans h1, (hb'.ext ((Ext.refl w').alloc _)).ext h1, ?_⟩
    rw [n2] at h2
    rw [HV.out, HK.out.2.1, sg_mul]
    exact h2.back (by omega)
  have hEk := HK.out.1
  have hmk := HK.out.2.2
  clear hmg HK HM HE
  rcases hEk with ⟨rfl, rfl, rfl⟩ | ⟨h1, rfl, rfl⟩
  · go_enter Tryz.func30, Tryz.ntmps30
    go_wp2_with (fail)
    refine (HN.out _ _ rfl).mono ?_
    rintro en w1 ⟨v, rfl, h1, h2, h3⟩
    obtain ⟨n', p, l, c, o, E', rfl, -⟩ := h3.open
    have H := Lib.hid (And.intro h1 (And.intro h2 h3))
    have a0 := H.out.2.1.c0
    have a1 := H.out.2.1.c1
    have a2 := H.out.2.1.c2
    have a3 := H.out.2.1.frozen 0
    have a4 := H.out.2.1.frozen 1
    have a5 := H.out.2.1.frozen 2
    clear h1 h2 h3
    go_wp2_with (fail)
    exact bodyPost_ret (v := .agg #[.bool n', .slice p l c, .int .i64 E']) (by simp [results, Tryz.results30, go_sem, a0, a1, a2]) rfl ⟨_, rfl, H.out.1.set3 (Nat.le_refl _) _ _ _, H.out.2.2.setBx H.out.2.1 IsSl.nil _ _ _⟩
  · have t0 : ((E : Int) == 0) = false := by simp; omega
    generalize hm : M + 4503599627370496 = m at *
    clear hm
    go_enter Tryz.func30, Tryz.ntmps30
    go_wp2_with (fail)
    refine (HN.out _ _ (by omega)).mono ?_
    rintro en w1 ⟨v, rfl, h1, h2, h3⟩
    obtain ⟨n', p, l, c, o, E', rfl, -⟩ := h3.open
    have H := Lib.hid (And.intro h1 (And.intro h2 h3))
    have a0 := H.out.2.1.c0
    have a1 := H.out.2.1.c1
    have a2 := H.out.2.1.c2
    have a3 := H.out.2.1.frozen 0
    have a4 := H.out.2.1.frozen 1
    have a5 := H.out.2.1.frozen 2
    clear h1 h2 h3
    go_wp2_with (fail)
    exact bodyPost_ret (v := .agg #[.bool n', .slice p l c, .int .i64 E']) (by simp [results, Tryz.results30, go_sem, a0, a1, a2]) rfl ⟨_, rfl, H.out.1.set3 (Nat.le_refl _) _ _ _, H.out.2.2.setBx H.out.2.1 IsSl.nil _ _ _⟩
end Go.Proofs.YtdpjkddllimcoaaGreatDoor
end

section
/- The reference's exact numbers: their order. -/
namespace Fl
open Go Go.RowKit
theorem Bx.new3 (w : World) (o1 o2 : Obj) (t : TypeId) (neg : Bool) (s : Value) (E : Int) : Bx (((w.alloc o1).alloc o2).alloc (.cells #[.bool neg, s, .int .i64 E] t)) t (w.heap.size + 2) neg s E := by
  have h := Bx.new ((w.alloc o1).alloc o2) t neg s E
  rwa [show ((w.alloc o1).alloc o2).heap.size = w.heap.size + 2 by simp] at h
/-- what a comparison of sizes answers. -/
def Mg (c : Int) (x y : Nat) : Prop := (c < 0 ↔ x < y) ∧ (0 < c ↔ y < x) ∧ -4611686018427387904 ≤ c ∧ c ≤ 4611686018427387904
theorem Mg.cmpI {x y a b : Nat} (h1 : x < y ↔ a < b) (h2 : y < x ↔ b < a) : Mg (Fl.cmpI x y) a b := by
  unfold Mg Fl.cmpI
  rcases Nat.lt_trichotomy x y with h | h | h
  · rw [if_pos h]; refine ⟨⟨fun _ => h1.1 h, fun _ => by decide⟩, ⟨fun c => by omega, fun c => ?_⟩, by omega, by omega⟩
    have := h2.2 c; omega
  · rw [if_neg (by omega), if_pos h]; refine ⟨⟨fun c => by omega, fun c => ?_⟩, ⟨fun c => by omega, fun c => ?_⟩, by omega, by omega⟩
    · have := h1.2 c; omega
    · have := h2.2 c; omega
  · rw [if_neg (by omega), if_neg (by omega)]; refine ⟨⟨fun c => by omega, fun c => ?_⟩, ⟨fun _ => h2.1 h, fun _ => by decide⟩, by omega, by omega⟩
    have := h1.2 c; omega
theorem bl_lt_iff {a b : Nat} (h : bl a < bl b) : a < b := by
  have h1 := bl_lt a
  have h2 : b ≠ 0 := by intro e; subst e; rw [bl_zero] at h; omega
  have h3 := bl_le h2
  have := Nat.pow_le_pow_right (show 0 < 2 by decide) (show bl a ≤ bl b - 1 by omega)
  omega
/-- two numbers brought to one exponent. -/
theorem level_lt {o1 E1 x o2 E2 y f e : Int} (r1 : Rep o1 E1 x f) (r2 : Rep o2 E2 y f) (h1 : x ≠ 0) (h2 : y ≠ 0) (e1 : e ≤ E1) (e2 : e ≤ E2) (e3 : f ≤ e) :
    (o1.natAbs * 2 ^ (E1 - e).toNat) * 2 ^ (e - f).toNat = x.natAbs ∧ (o2.natAbs * 2 ^ (E2 - e).toNat) * 2 ^ (e - f).toNat = y.natAbs := by
  obtain ⟨k1, q1, q2⟩ := r1.exp (r1.odd_ne h1)
  obtain ⟨k2, q3, q4⟩ := r2.exp (r2.odd_ne h2)
  rw [q1, q3, natAbs_mul_pow, natAbs_mul_pow, Nat.mul_assoc, Nat.mul_assoc, ← Nat.pow_add, ← Nat.pow_add]
  constructor <;> (congr 2; omega)
end Fl
namespace Go.Proofs.YtdpjkddllimcoaaGreatDoor
open Go.RowKit Fl
set_option maxRecDepth 20000 in
set_option maxHeartbeats 1000000 in
theorem k_magnitude (a b : Value) (x y f : Int) (L : Nat) (w : World) (h1 : Ry w a x f) (h2 : Ry w b y f) (hx : x.natAbs < 2 ^ L) (hy : y.natAbs < 2 ^ L) (hL : L ≤ 1000000) (hf : -1152921504606846976 ≤ f ∧ f ≤ 1152921504606846976) :
    Calls Tryz.prog 86 #[a, b] w fun en w' => ∃ c : Int, en = .returned (.int .i64 c) ∧ Ext w w' ∧ Mg c x.natAbs y.natAbs := by
  have HT1 : Hid (∀ w', Ext w w' → Calls Tryz.prog 124 #[a] w' fun en w'' => en = .returned (.int .i64 (topI x f)) ∧ Ext w' w'') := fun w' hx' => k_High a x f L w' (h1.ext hx') hx (by omega) (by omega)
  have HT2 : Hid (∀ w', Ext w w' → Calls Tryz.prog 124 #[b] w' fun en w'' => en = .returned (.int .i64 (topI y f)) ∧ Ext w' w'') := fun w' hx' => k_High b y f L w' (h2.ext hx') hy (by omega) (by omega)
  obtain ⟨n1, p1, l1, c1, o1, E1, rfl, hn1, hl1, hN1, hr1, hp1⟩ := h1.open
  obtain ⟨n2, p2, l2, c2, o2, E2, rfl, hn2, hl2, hN2, hr2, hp2⟩ := h2.open
  have b1 : l1 ≤ 1000000 ∧ l2 ≤ 1000000 := by
    have key : ∀ {z : Int} {o E e : Int} {p : Option Addr} {l c : Nat}, Rep o E z e → z.natAbs < 2 ^ L → (l = 0 ↔ z = 0) → Nt w (.slice p l c) o.natAbs → l ≤ 1000000 := by
      intro z o E e p l c hr hz hl hN
      by_cases h0 : z = 0
      · rw [hl.2 h0]; omega
      · obtain ⟨-, -, r3, -⟩ := hr.range h0 hz
        obtain ⟨zs, s1, s2, s3, s4⟩ := hN
        have hlz : zs.length ≤ 31251 := len_le s3 (by rw [s4]; exact fit_of (k := L) (l := 31251) r3 (by omega))
        obtain ⟨p', c', e1, -⟩ := s1.form
        injection e1 with e1 e2 e3
        omega
    exact ⟨key hr1 hx hl1 hN1, key hr2 hy hl2 hN2⟩
  by_cases hx0 : x = 0
  · obtain rfl : l1 = 0 := hl1.2 hx0
    subst hx0
    have HM : Hid (Mg (-(l2 : Int)) (0 : Int).natAbs y.natAbs) := by
      refine ⟨⟨fun c => ?_, fun c => ?_⟩, ⟨fun c => by omega, fun c => by omega⟩, by omega, by omega⟩
      · have : y ≠ 0 := fun e => by rw [hl2.2 e] at c; omega
        omega
      · have : l2 ≠ 0 := fun e => by rw [hl2.1 e] at c; omega
        omega
    have HX : Hid (∀ o1 o2, Ext w ((w.alloc o1).alloc o2)) := fun o1 o2 => ((Ext.refl w).alloc o1).alloc o2
    clear h1 h2 hn1 hn2 hN1 hN2 hr1 hr2 hp1 hp2 HT1 HT2 hx hy
    go_enter Tryz.func86, Tryz.ntmps86
    go_wp2_with (fail)
    go_ret
    exact ⟨_, rfl, HX.out _ _, HM.out⟩
  by_cases hy0 : y = 0
  · obtain rfl : l2 = 0 := hl2.2 hy0
    subst hy0
    have hl10 : l1 ≠ 0 := fun h => hx0 (hl1.1 h)
    have t1 := len_ne0 (Nat.pos_of_ne_zero hl10)
    have HM : Hid (Mg (l1 : Int) x.natAbs (0 : Int).natAbs) := ⟨⟨fun c => by omega, fun c => by omega⟩, ⟨fun c => by omega, fun c => by omega⟩, by omega, by omega⟩
    have HX : Hid (∀ o1 o2, Ext w ((w.alloc o1).alloc o2)) := fun o1 o2 => ((Ext.refl w).alloc o1).alloc o2
    clear h1 h2 hn1 hn2 hN1 hN2 hr1 hr2 hp1 hp2 HT1 HT2 hx hy
    go_enter Tryz.func86, Tryz.ntmps86
    go_wp2_with (fail)
    go_ret
    exact ⟨_, rfl, HX.out _ _, HM.out⟩
  have t1 := len_ne0 (Nat.pos_of_ne_zero (fun h => hx0 (hl1.1 h)))
  have t2 := len_ne0 (Nat.pos_of_ne_zero (fun h => hy0 (hl2.1 h)))
  have htx : topI x f = bl x.natAbs + f := by unfold topI; rw [if_neg hx0]
  have hty : topI y f = bl y.natAbs + f := by unfold topI; rw [if_neg hy0]
  have hbx := bl_le_of hx
  have hby := bl_le_of hy
  obtain ⟨w1, hw1⟩ : ∃ w1, (w.alloc (.cells #[.bool n1, .slice p1 l1 c1, .int .i64 E1] 35)).alloc (.cells #[.bool n2, .slice p2 l2 c2, .int .i64 E2] 35) = w1 := ⟨_, rfl⟩
  have H1 : Hid (Bx w1 35 w.heap.size n1 (.slice p1 l1 c1) E1 ∧ Bx w1 35 (w.heap.size + 1) n2 (.slice p2 l2 c2) E2 ∧ Ext w w1) := by
    rw [← hw1]
    exact ⟨Bx.new1 _ _ _ _ _ _, Bx.new2 _ _ _ _ _ _, ((Ext.refl w).alloc _).alloc _⟩
  by_cases ht : topI x f = topI y f
  · obtain ⟨r1, r2, r3, -⟩ := hr1.range hx0 hx
    obtain ⟨r4, r5, r6, -⟩ := hr2.range hy0 hy
    have htb : (topI y f != topI y f) = false := by simp
    obtain ⟨e, he⟩ : ∃ e, min E1 E2 = e := ⟨_, rfl⟩
    have he1 : e ≤ E1 := by omega
    have he2 : e ≤ E2 := by omega
    have hef : f ≤ e := by omega
    obtain ⟨d1, hd1⟩ : ∃ d1 : Nat, E1 - e = d1 := ⟨(E1 - e).toNat, by omega⟩
    obtain ⟨d2, hd2⟩ : ∃ d2 : Nat, E2 - e = d2 := ⟨(E2 - e).toNat, by omega⟩
    have hd1b : d1 < 1000000 := by omega
    have gw1 : IntKind.i64.wrap (d1 : Int) = (d1 : Int) := IntWalk.i64_in _ (by omega)
    have gw2 : IntKind.i64.wrap (d2 : Int) = (d2 : Int) := IntWalk.i64_in _ (by omega)
    have hd2b : d2 < 1000000 := by omega
    obtain ⟨q1, q2⟩ := level_lt hr1 hr2 hx0 hy0 he1 he2 hef
    rw [hd1, Int.toNat_natCast] at q1
    rw [hd2, Int.toNat_natCast] at q2
    have HM : Hid (Mg (cmpI (o1.natAbs * 2 ^ d1) (o2.natAbs * 2 ^ d2)) x.natAbs y.natAbs) := by
      have hp := Nat.two_pow_pos (e - f).toNat
      refine Mg.cmpI ?_ ?_
      · rw [← q1, ← q2]; exact (Nat.mul_lt_mul_right hp).symm
      · rw [← q1, ← q2]; exact (Nat.mul_lt_mul_right hp).symm
    have HU1 : Hid (∀ w', Ext w w' → Calls Tryz.prog 79 #[.slice p1 l1 c1, .int .i64 (d1 : Int)] w' fun en w'' => ∃ v', en = .returned v' ∧ Ext w' w'' ∧ Nt w'' v' (o1.natAbs * 2 ^ d1)) := fun w' hx' => k_up _ _ d1 w' (hN1.ext hx') (fit_of (k := L) (l := 1048575) r3 (by omega)) (by omega)
    have HU2 : Hid (∀ w', Ext w w' → Calls Tryz.prog 79 #[.slice p2 l2 c2, .int .i64 (d2 : Int)] w' fun en w'' => ∃ v', en = .returned v' ∧ Ext w' w'' ∧ Nt w'' v' (o2.natAbs * 2 ^ d2)) := fun w' hx' => k_up _ _ d2 w' (hN2.ext hx') (fit_of (k := L) (l := 1048575) r6 (by omega)) (by omega)
    have HO : Hid (∀ w' u1 u2, Nt w' u1 (o1.natAbs * 2 ^ d1) → Nt w' u2 (o2.natAbs * 2 ^ d2) → Calls Tryz.prog 81 #[u1, u2] w' fun en w'' => en = .returned (.int .i64 (cmpI (o1.natAbs * 2 ^ d1) (o2.natAbs * 2 ^ d2))) ∧ Drw w' w'') := by
      intro w' u1 u2 g1 g2
      refine k_order u1 u2 _ _ w' g1 g2 ?_ ?_
      · exact fit_of (k := L + d1) (l := 1048576) (by rw [Nat.pow_add]; exact Nat.mul_lt_mul_of_pos_right r3 (Nat.two_pow_pos _)) (by omega)
      · exact fit_of (k := L + d2) (l := 1048576) (by rw [Nat.pow_add]; exact Nat.mul_lt_mul_of_pos_right r6 (Nat.two_pow_pos _)) (by omega)
    rw [ht] at HT1
    clear h1 h2 hn1 hn2 hl1 hl2 hN1 hN2 hr1 hr2 hp1 hp2 hx hy r3 r6 q1 q2 hx0 hy0 htx hty hbx hby ht
    generalize topI y f = ty at *
    generalize cmpI (o1.natAbs * 2 ^ d1) (o2.natAbs * 2 ^ d2) = C at *
    generalize o1.natAbs * 2 ^ d1 = N1 at *
    generalize o2.natAbs * 2 ^ d2 = N2 at *
    have a0 := H1.out.1.c0
    have a1 := H1.out.1.c1
    have a2 := H1.out.1.c2
    have a3 := H1.out.2.1.c0
    have a4 := H1.out.2.1.c1
    have a5 := H1.out.2.1.c2
    go_enter Tryz.func86, Tryz.ntmps86
    go_wp2_with (fail)
    go_region_held3 (fun w' => w'.cell? ⟨w.heap.size, 0, none⟩ = some (.bool n1) ∧ w'.cell? ⟨w.heap.size, 1, none⟩ = some (.slice p1 l1 c1) ∧ w'.cell? ⟨w.heap.size, 2, none⟩ = some (.int .i64 E1) ∧ w'.cell? ⟨w.heap.size + 1, 0, none⟩ = some (.bool n2) ∧ w'.cell? ⟨w.heap.size + 1, 1, none⟩ = some (.slice p2 l2 c2) ∧ w'.cell? ⟨w.heap.size + 1, 2, none⟩ = some (.int .i64 E2))
      (first | go_keep | (exact ⟨H3.out.1.c0, H3.out.1.c1, H3.out.1.c2, H3.out.2.1.c0, H3.out.2.1.c1, H3.out.2.1.c2⟩) | (exact ⟨H2.out.1.c0, H2.out.1.c1, H2.out.1.c2, H2.out.2.1.c0, H2.out.2.1.c1, H2.out.2.1.c2⟩) | (exact ⟨H1.out.1.c0, H1.out.1.c1, H1.out.1.c2, H1.out.2.1.c0, H1.out.2.1.c1, H1.out.2.1.c2⟩) | fail)
      (first | (go_at_call_of 124 (Value.agg #[.bool n1, .slice p1 l1 c1, .int .i64 E1]); refine (HT1.out _ (by first | exact H1.out.2.2 | exact H1.out.2.2.drew | exact H1.out.2.2.drewN _ | fail)).mono ?_; rintro en w2 ⟨rfl, hx⟩; have hx1 : Ext w1 w2 := (by first | exact hx | exact (Ext.of_drew hx) | exact (Ext.of_drewN hx) | fail); have H2 : Hid (Bx w2 35 w.heap.size n1 (.slice p1 l1 c1) E1 ∧ Bx w2 35 (w.heap.size + 1) n2 (.slice p2 l2 c2) E2 ∧ Ext w w2) := ⟨H1.out.1.ext hx1, H1.out.2.1.ext hx1, H1.out.2.2.trans hx1⟩; clear hx hx1) | (go_at_call_of 124 (Value.agg #[.bool n2, .slice p2 l2 c2, .int .i64 E2]); refine (HT2.out _ (by first | exact H2.out.2.2 | exact H2.out.2.2.drew | exact H2.out.2.2.drewN _ | fail)).mono ?_; rintro en w3 ⟨rfl, hx⟩; have hx1 : Ext w2 w3 := (by first | exact hx | exact (Ext.of_drew hx) | exact (Ext.of_drewN hx) | fail); have H3 : Hid (Bx w3 35 w.heap.size n1 (.slice p1 l1 c1) E1 ∧ Bx w3 35 (w.heap.size + 1) n2 (.slice p2 l2 c2) E2 ∧ Ext w w3) := ⟨H2.out.1.ext hx1, H2.out.2.1.ext hx1, H2.out.2.2.trans hx1⟩; clear hx hx1))
    clear a0 a1 a2 a3 a4 a5
    have a0 := H3.out.1.c0
    have a1 := H3.out.1.c1
    have a2 := H3.out.1.c2
    have a3 := H3.out.2.1.c0
    have a4 := H3.out.2.1.c1
    have a5 := H3.out.2.1.c2
    go_wp2_with (fail)
    go_region_held3 (fun w' => w'.cell? ⟨w.heap.size, 0, none⟩ = some (.bool n1) ∧ w'.cell? ⟨w.heap.size, 1, none⟩ = some (.slice p1 l1 c1) ∧ w'.cell? ⟨w.heap.size, 2, none⟩ = some (.int .i64 E1) ∧ w'.cell? ⟨w.heap.size + 1, 0, none⟩ = some (.bool n2) ∧ w'.cell? ⟨w.heap.size + 1, 1, none⟩ = some (.slice p2 l2 c2) ∧ w'.cell? ⟨w.heap.size + 1, 2, none⟩ = some (.int .i64 E2))
      (first | go_keep | (exact ⟨H6.out.1.c0, H6.out.1.c1, H6.out.1.c2, H6.out.2.1.c0, H6.out.2.1.c1, H6.out.2.1.c2⟩) | (exact ⟨H5.out.1.c0, H5.out.1.c1, H5.out.1.c2, H5.out.2.1.c0, H5.out.2.1.c1, H5.out.2.1.c2⟩) | (exact ⟨H4.out.1.c0, H4.out.1.c1, H4.out.1.c2, H4.out.2.1.c0, H4.out.2.1.c1, H4.out.2.1.c2⟩) | (exact ⟨H3.out.1.c0, H3.out.1.c1, H3.out.1.c2, H3.out.2.1.c0, H3.out.2.1.c1, H3.out.2.1.c2⟩) | fail)
      (first | (go_at_call_of 79 (Value.slice p1 l1 c1); refine (HU1.out _ (by first | exact H3.out.2.2 | exact H3.out.2.2.drew | exact H3.out.2.2.drewN _ | fail)).mono ?_; rintro en w4 ⟨v1, rfl, hx, hd⟩; have HU := Lib.hid hd; clear hd; have hx1 : Ext w3 w4 := (by first | exact hx | exact (Ext.of_drew hx) | exact (Ext.of_drewN hx) | fail); have H4 : Hid (Bx w4 35 w.heap.size n1 (.slice p1 l1 c1) E1 ∧ Bx w4 35 (w.heap.size + 1) n2 (.slice p2 l2 c2) E2 ∧ Ext w w4) := ⟨H3.out.1.ext hx1, H3.out.2.1.ext hx1, H3.out.2.2.trans hx1⟩; clear hx hx1) | (go_at_call_of 79 (Value.slice p2 l2 c2); refine (HU2.out _ (by first | exact H4.out.2.2 | exact H4.out.2.2.drew | exact H4.out.2.2.drewN _ | fail)).mono ?_; rintro en w5 ⟨v2, rfl, hx, hd⟩; have HW : Hid (Nt w5 v1 N1 ∧ Nt w5 v2 N2) := ⟨HU.out.ext hx, hd⟩; clear hd; have hx1 : Ext w4 w5 := (by first | exact hx | exact (Ext.of_drew hx) | exact (Ext.of_drewN hx) | fail); have H5 : Hid (Bx w5 35 w.heap.size n1 (.slice p1 l1 c1) E1 ∧ Bx w5 35 (w.heap.size + 1) n2 (.slice p2 l2 c2) E2 ∧ Ext w w5) := ⟨H4.out.1.ext hx1, H4.out.2.1.ext hx1, H4.out.2.2.trans hx1⟩; clear hx hx1) | (go_at_call 81; refine (HO.out _ v1 v2 (by first | exact HW.out.1 | exact HW.out.1.ext ((Ext.refl _).drewN _) | fail) (by first | exact HW.out.2 | exact HW.out.2.ext ((Ext.refl _).drewN _) | fail)).mono ?_; rintro en w6 ⟨rfl, hd⟩; have hx := hd.ext; clear hd; have hx1 : Ext w5 w6 := (by first | exact hx | exact (Ext.of_drew hx) | exact (Ext.of_drewN hx) | fail); have H6 : Hid (Bx w6 35 w.heap.size n1 (.slice p1 l1 c1) E1 ∧ Bx w6 35 (w.heap.size + 1) n2 (.slice p2 l2 c2) E2 ∧ Ext w w6) := ⟨H5.out.1.ext hx1, H5.out.2.1.ext hx1, H5.out.2.2.trans hx1⟩; clear hx hx1))
    go_wp2_with (fail)
    go_ret
    exact ⟨_, rfl, H6.out.2.2, HM.out⟩
  · have htb : (topI x f != topI y f) = true := by simp [ht]
    have gw : IntKind.i64.wrap (topI x f - topI y f) = topI x f - topI y f := IntWalk.i64_in _ (by omega)
    have HM : Hid (Mg (topI x f - topI y f) x.natAbs y.natAbs) := by
      refine ⟨⟨fun c => bl_lt_iff (by omega), fun c => ?_⟩, ⟨fun c => bl_lt_iff (by omega), fun c => ?_⟩, by omega, by omega⟩
      · rcases Int.lt_or_le (topI x f) (topI y f) with h | h
        · omega
        · exact absurd (bl_lt_iff (a := y.natAbs) (b := x.natAbs) (by omega)) (by omega)
      · rcases Int.lt_or_le (topI y f) (topI x f) with h | h
        · omega
        · exact absurd (bl_lt_iff (a := x.natAbs) (b := y.natAbs) (by omega)) (by omega)
    clear h1 h2 hn1 hn2 hl1 hl2 hN1 hN2 hr1 hr2 hp1 hp2 hx hy hx0 hy0 htx hty hbx hby ht
    generalize topI x f = tx at *
    generalize topI y f = ty at *
    have a0 := H1.out.1.c0
    have a1 := H1.out.1.c1
    have a2 := H1.out.1.c2
    have a3 := H1.out.2.1.c0
    have a4 := H1.out.2.1.c1
    have a5 := H1.out.2.1.c2
    go_enter Tryz.func86, Tryz.ntmps86
    go_wp2_with (fail)
    go_region_held3 (fun w' => w'.cell? ⟨w.heap.size, 0, none⟩ = some (.bool n1) ∧ w'.cell? ⟨w.heap.size, 1, none⟩ = some (.slice p1 l1 c1) ∧ w'.cell? ⟨w.heap.size, 2, none⟩ = some (.int .i64 E1) ∧ w'.cell? ⟨w.heap.size + 1, 0, none⟩ = some (.bool n2) ∧ w'.cell? ⟨w.heap.size + 1, 1, none⟩ = some (.slice p2 l2 c2) ∧ w'.cell? ⟨w.heap.size + 1, 2, none⟩ = some (.int .i64 E2))
      (first | go_keep | (exact ⟨H3.out.1.c0, H3.out.1.c1, H3.out.1.c2, H3.out.2.1.c0, H3.out.2.1.c1, H3.out.2.1.c2⟩) | (exact ⟨H2.out.1.c0, H2.out.1.c1, H2.out.1.c2, H2.out.2.1.c0, H2.out.2.1.c1, H2.out.2.1.c2⟩) | (exact ⟨H1.out.1.c0, H1.out.1.c1, H1.out.1.c2, H1.out.2.1.c0, H1.out.2.1.c1, H1.out.2.1.c2⟩) | fail)
      (first | (go_at_call_of 124 (Value.agg #[.bool n1, .slice p1 l1 c1, .int .i64 E1]); refine (HT1.out _ (by first | exact H1.out.2.2 | exact H1.out.2.2.drew | exact H1.out.2.2.drewN _ | fail)).mono ?_; rintro en w2 ⟨rfl, hx⟩; have hx1 : Ext w1 w2 := (by first | exact hx | exact (Ext.of_drew hx) | exact (Ext.of_drewN hx) | fail); have H2 : Hid (Bx w2 35 w.heap.size n1 (.slice p1 l1 c1) E1 ∧ Bx w2 35 (w.heap.size + 1) n2 (.slice p2 l2 c2) E2 ∧ Ext w w2) := ⟨H1.out.1.ext hx1, H1.out.2.1.ext hx1, H1.out.2.2.trans hx1⟩; clear hx hx1) | (go_at_call_of 124 (Value.agg #[.bool n2, .slice p2 l2 c2, .int .i64 E2]); refine (HT2.out _ (by first | exact H2.out.2.2 | exact H2.out.2.2.drew | exact H2.out.2.2.drewN _ | fail)).mono ?_; rintro en w3 ⟨rfl, hx⟩; have hx1 : Ext w2 w3 := (by first | exact hx | exact (Ext.of_drew hx) | exact (Ext.of_drewN hx) | fail); have H3 : Hid (Bx w3 35 w.heap.size n1 (.slice p1 l1 c1) E1 ∧ Bx w3 35 (w.heap.size + 1) n2 (.slice p2 l2 c2) E2 ∧ Ext w w3) := ⟨H2.out.1.ext hx1, H2.out.2.1.ext hx1, H2.out.2.2.trans hx1⟩; clear hx hx1))
    clear a0 a1 a2 a3 a4 a5
    have a0 := H3.out.1.c0
    have a1 := H3.out.1.c1
    have a2 := H3.out.1.c2
    have a3 := H3.out.2.1.c0
    have a4 := H3.out.2.1.c1
    have a5 := H3.out.2.1.c2
    go_wp2_with (fail)
    go_region_held3 (fun w' => w'.cell? ⟨w.heap.size, 0, none⟩ = some (.bool n1) ∧ w'.cell? ⟨w.heap.size, 1, none⟩ = some (.slice p1 l1 c1) ∧ w'.cell? ⟨w.heap.size, 2, none⟩ = some (.int .i64 E1) ∧ w'.cell? ⟨w.heap.size + 1, 0, none⟩ = some (.bool n2) ∧ w'.cell? ⟨w.heap.size + 1, 1, none⟩ = some (.slice p2 l2 c2) ∧ w'.cell? ⟨w.heap.size + 1, 2, none⟩ = some (.int .i64 E2))
      (first | go_keep | (exact ⟨H5.out.1.c0, H5.out.1.c1, H5.out.1.c2, H5.out.2.1.c0, H5.out.2.1.c1, H5.out.2.1.c2⟩) | (exact ⟨H4.out.1.c0, H4.out.1.c1, H4.out.1.c2, H4.out.2.1.c0, H4.out.2.1.c1, H4.out.2.1.c2⟩) | (exact ⟨H3.out.1.c0, H3.out.1.c1, H3.out.1.c2, H3.out.2.1.c0, H3.out.2.1.c1, H3.out.2.1.c2⟩) | fail)
      (first | (go_at_call_of 124 (Value.agg #[.bool n1, .slice p1 l1 c1, .int .i64 E1]); refine (HT1.out _ (by first | exact H3.out.2.2 | exact H3.out.2.2.drew | exact H3.out.2.2.drewN _ | fail)).mono ?_; rintro en w4 ⟨rfl, hx⟩; have hx1 : Ext w3 w4 := (by first | exact hx | exact (Ext.of_drew hx) | exact (Ext.of_drewN hx) | fail); have H4 : Hid (Bx w4 35 w.heap.size n1 (.slice p1 l1 c1) E1 ∧ Bx w4 35 (w.heap.size + 1) n2 (.slice p2 l2 c2) E2 ∧ Ext w w4) := ⟨H3.out.1.ext hx1, H3.out.2.1.ext hx1, H3.out.2.2.trans hx1⟩; clear hx hx1) | (go_at_call_of 124 (Value.agg #[.bool n2, .slice p2 l2 c2, .int .i64 E2]); refine (HT2.out _ (by first | exact H4.out.2.2 | exact H4.out.2.2.drew | exact H4.out.2.2.drewN _ | fail)).mono ?_; rintro en w5 ⟨rfl, hx⟩; have hx1 : Ext w4 w5 := (by first | exact hx | exact (Ext.of_drew hx) | exact (Ext.of_drewN hx) | fail); have H5 : Hid (Bx w5 35 w.heap.size n1 (.slice p1 l1 c1) E1 ∧ Bx w5 35 (w.heap.size + 1) n2 (.slice p2 l2 c2) E2 ∧ Ext w w5) := ⟨H4.out.1.ext hx1, H4.out.2.1.ext hx1, H4.out.2.2.trans hx1⟩; clear hx hx1))
    go_wp2_with (fail)
    go_ret
    exact ⟨_, rfl, H5.out.2.2, HM.out⟩
end Go.Proofs.YtdpjkddllimcoaaGreatDoor
end

section
/- The reference's exact numbers: Order. -/
namespace Fl
open Go Go.RowKit
theorem cmpZ_lt {x y : Int} (h : x < y) : cmpZ x y = -1 := by unfold cmpZ; rw [if_pos h]
theorem cmpZ_gt {x y : Int} (h : y < x) : cmpZ x y = 1 := by unfold cmpZ; rw [if_neg (by omega), if_neg (by omega)]
theorem cmpZ_eq {x y : Int} (h : x = y) : cmpZ x y = 0 := by unfold cmpZ; rw [if_neg (by omega), if_pos h]
theorem sgnI_cases (x : Int) : x < 0 ∧ sgnI x = -1 ∨ x = 0 ∧ sgnI x = 0 ∨ 0 < x ∧ sgnI x = 1 := by
  unfold sgnI
  rcases Int.lt_trichotomy x 0 with h | h | h
  · exact .inl ⟨h, if_pos h⟩
  · exact .inr (.inl ⟨h, by rw [if_neg (by omega), if_pos h]⟩)
  · exact .inr (.inr ⟨h, by rw [if_neg (by omega), if_neg (by omega)]⟩)
end Fl
namespace Go.Proofs.YtdpjkddllimcoaaGreatDoor
open Go.RowKit Fl
set_option maxRecDepth 20000 in
set_option maxHeartbeats 1000000 in
theorem k_Order (a b : Value) (x y f : Int) (L : Nat) (w : World) (h1 : Ry w a x f) (h2 : Ry w b y f) (hx : x.natAbs < 2 ^ L) (hy : y.natAbs < 2 ^ L) (hL : L ≤ 1000000) (hf : -1152921504606846976 ≤ f ∧ f ≤ 1152921504606846976) :
    Calls Tryz.prog 36 #[a, b] w fun en wn => en = .returned (.int .i64 (cmpZ x y)) ∧ Ext w wn := by
  have HS1 : Hid (∀ w', Ext w w' → Calls Tryz.prog 74 #[a] w' fun en w'' => en = .returned (.int .i64 (sgnI x)) ∧ Ext w' w'') := fun w' hx' => k_Sgn a x f w' (h1.ext hx')
  have HS2 : Hid (∀ w', Ext w w' → Calls Tryz.prog 74 #[b] w' fun en w'' => en = .returned (.int .i64 (sgnI y)) ∧ Ext w' w'') := fun w' hx' => k_Sgn b y f w' (h2.ext hx')
  have HM : Hid (∀ w', Ext w w' → Calls Tryz.prog 86 #[a, b] w' fun en w'' => ∃ c : Int, en = .returned (.int .i64 c) ∧ Ext w' w'' ∧ Mg c x.natAbs y.natAbs) := fun w' hx' => k_magnitude a b x y f L w' (h1.ext hx') (h2.ext hx') hx hy hL hf
  obtain ⟨n1, p1, l1, c1, o1, E1, rfl, hn1, hl1, hN1, hr1, hp1⟩ := h1.open
  obtain ⟨n2, p2, l2, c2, o2, E2, rfl, hn2, hl2, hN2, hr2, hp2⟩ := h2.open
  obtain ⟨w1, hw1⟩ : ∃ w1, (w.alloc (.cells #[.bool n1, .slice p1 l1 c1, .int .i64 E1] 35)).alloc (.cells #[.bool n2, .slice p2 l2 c2, .int .i64 E2] 35) = w1 := ⟨_, rfl⟩
  have H1 : Hid (Bx w1 35 w.heap.size n1 (.slice p1 l1 c1) E1 ∧ Bx w1 35 (w.heap.size + 1) n2 (.slice p2 l2 c2) E2 ∧ Ext w w1) := by
    rw [← hw1]
    exact ⟨Bx.new1 _ _ _ _ _ _, Bx.new2 _ _ _ _ _ _, ((Ext.refl w).alloc _).alloc _⟩
  have C1 := sgnI_cases x
  have C2 := sgnI_cases y
  have HR : Hid ((sgnI x < sgnI y → cmpZ x y = -1) ∧ (sgnI y < sgnI x → cmpZ x y = 1) ∧ (sgnI x = sgnI y → ∀ c, Mg c x.natAbs y.natAbs → (sgnI y < 0 → (0 < c → cmpZ x y = -1) ∧ (c < 0 → cmpZ x y = 1) ∧ (c = 0 → cmpZ x y = 0)) ∧ (0 ≤ sgnI y → (c < 0 → cmpZ x y = -1) ∧ (0 < c → cmpZ x y = 1) ∧ (c = 0 → cmpZ x y = 0)))) := by
    refine ⟨fun h => cmpZ_lt (by omega), fun h => cmpZ_gt (by omega), fun h c ⟨m1, m2, _, _⟩ => ⟨fun hs => ⟨fun h0 => ?_, fun h0 => ?_, fun h0 => ?_⟩, fun hs => ⟨fun h0 => ?_, fun h0 => ?_, fun h0 => ?_⟩⟩⟩
    · exact cmpZ_lt (by have := m2.1 h0; omega)
    · exact cmpZ_gt (by have := m1.1 h0; omega)
    · refine cmpZ_eq ?_
      have n1 : ¬ x.natAbs < y.natAbs := fun q => by have := m1.2 q; omega
      have n2 : ¬ y.natAbs < x.natAbs := fun q => by have := m2.2 q; omega
      omega
    · exact cmpZ_lt (by have := m1.1 h0; omega)
    · exact cmpZ_gt (by have := m2.1 h0; omega)
    · refine cmpZ_eq ?_
      have n1 : ¬ x.natAbs < y.natAbs := fun q => by have := m1.2 q; omega
      have n2 : ¬ y.natAbs < x.natAbs := fun q => by have := m2.2 q; omega
      omega
  have cx : -1 ≤ sgnI x ∧ sgnI x ≤ 1 := by omega
  have cy : -1 ≤ sgnI y ∧ sgnI y ≤ 1 := by omega
  clear h1 h2 hn1 hn2 hl1 hl2 hN1 hN2 hr1 hr2 hp1 hp2 hx hy C1 C2
  generalize sgnI x = sx at *
  generalize sgnI y = sy at *
  generalize cmpZ x y = R at *
  have a0 := H1.out.1.c0
  have a1 := H1.out.1.c1
  have a2 := H1.out.1.c2
  have a3 := H1.out.2.1.c0
  have a4 := H1.out.2.1.c1
  have a5 := H1.out.2.1.c2
  rcases Int.lt_trichotomy sx sy with h | h | h
  · have t1 : (sx != sy) = true := by simp; omega
    have t2 : decide (sx < sy) = true := by simp; omega
    obtain rfl : R = -1 := HR.out.1 h
    clear HR
    go_enter Tryz.func36, Tryz.ntmps36
    go_wp2_with (fail)
    go_region_held3 (fun w' => w'.cell? ⟨w.heap.size, 0, none⟩ = some (.bool n1) ∧ w'.cell? ⟨w.heap.size, 1, none⟩ = some (.slice p1 l1 c1) ∧ w'.cell? ⟨w.heap.size, 2, none⟩ = some (.int .i64 E1) ∧ w'.cell? ⟨w.heap.size + 1, 0, none⟩ = some (.bool n2) ∧ w'.cell? ⟨w.heap.size + 1, 1, none⟩ = some (.slice p2 l2 c2) ∧ w'.cell? ⟨w.heap.size + 1, 2, none⟩ = some (.int .i64 E2))
      (first | go_keep | (exact ⟨H3.out.1.c0, H3.out.1.c1, H3.out.1.c2, H3.out.2.1.c0, H3.out.2.1.c1, H3.out.2.1.c2⟩) | (exact ⟨H2.out.1.c0, H2.out.1.c1, H2.out.1.c2, H2.out.2.1.c0, H2.out.2.1.c1, H2.out.2.1.c2⟩) | (exact ⟨H1.out.1.c0, H1.out.1.c1, H1.out.1.c2, H1.out.2.1.c0, H1.out.2.1.c1, H1.out.2.1.c2⟩) | fail)
      (first | (go_at_call_of 74 (Value.agg #[.bool n1, .slice p1 l1 c1, .int .i64 E1]); refine (HS1.out _ (by first | exact H1.out.2.2 | exact H1.out.2.2.drew | exact H1.out.2.2.drewN _ | fail)).mono ?_; rintro en w2 ⟨rfl, hx⟩; have hx1 : Ext w1 w2 := (by first | exact hx | exact (Ext.of_drew hx) | exact (Ext.of_drewN hx) | fail); have H2 : Hid (Bx w2 35 w.heap.size n1 (.slice p1 l1 c1) E1 ∧ Bx w2 35 (w.heap.size + 1) n2 (.slice p2 l2 c2) E2 ∧ Ext w w2) := ⟨H1.out.1.ext hx1, H1.out.2.1.ext hx1, H1.out.2.2.trans hx1⟩; clear hx hx1) | (go_at_call_of 74 (Value.agg #[.bool n2, .slice p2 l2 c2, .int .i64 E2]); refine (HS2.out _ (by first | exact H2.out.2.2 | exact H2.out.2.2.drew | exact H2.out.2.2.drewN _ | fail)).mono ?_; rintro en w3 ⟨rfl, hx⟩; have hx1 : Ext w2 w3 := (by first | exact hx | exact (Ext.of_drew hx) | exact (Ext.of_drewN hx) | fail); have H3 : Hid (Bx w3 35 w.heap.size n1 (.slice p1 l1 c1) E1 ∧ Bx w3 35 (w.heap.size + 1) n2 (.slice p2 l2 c2) E2 ∧ Ext w w3) := ⟨H2.out.1.ext hx1, H2.out.2.1.ext hx1, H2.out.2.2.trans hx1⟩; clear hx hx1))
    clear a0 a1 a2 a3 a4 a5
    have a0 := H3.out.1.c0
    have a1 := H3.out.1.c1
    have a2 := H3.out.1.c2
    have a3 := H3.out.2.1.c0
    have a4 := H3.out.2.1.c1
    have a5 := H3.out.2.1.c2
    go_wp2_with (fail)
    go_ret
    exact ⟨rfl, H3.out.2.2⟩
  · subst h
    have t1 : (sx != sx) = false := by simp
    go_enter Tryz.func36, Tryz.ntmps36
    go_wp2_with (fail)
    go_region_held3 (fun w' => w'.cell? ⟨w.heap.size, 0, none⟩ = some (.bool n1) ∧ w'.cell? ⟨w.heap.size, 1, none⟩ = some (.slice p1 l1 c1) ∧ w'.cell? ⟨w.heap.size, 2, none⟩ = some (.int .i64 E1) ∧ w'.cell? ⟨w.heap.size + 1, 0, none⟩ = some (.bool n2) ∧ w'.cell? ⟨w.heap.size + 1, 1, none⟩ = some (.slice p2 l2 c2) ∧ w'.cell? ⟨w.heap.size + 1, 2, none⟩ = some (.int .i64 E2))
      (first | go_keep | (exact ⟨H3.out.1.c0, H3.out.1.c1, H3.out.1.c2, H3.out.2.1.c0, H3.out.2.1.c1, H3.out.2.1.c2⟩) | (exact ⟨H2.out.1.c0, H2.out.1.c1, H2.out.1.c2, H2.out.2.1.c0, H2.out.2.1.c1, H2.out.2.1.c2⟩) | (exact ⟨H1.out.1.c0, H1.out.1.c1, H1.out.1.c2, H1.out.2.1.c0, H1.out.2.1.c1, H1.out.2.1.c2⟩) | fail)
      (first | (go_at_call_of 74 (Value.agg #[.bool n1, .slice p1 l1 c1, .int .i64 E1]); refine (HS1.out _ (by first | exact H1.out.2.2 | exact H1.out.2.2.drew | exact H1.out.2.2.drewN _ | fail)).mono ?_; rintro en w2 ⟨rfl, hx⟩; have hx1 : Ext w1 w2 := (by first | exact hx | exact (Ext.of_drew hx) | exact (Ext.of_drewN hx) | fail); have H2 : Hid (Bx w2 35 w.heap.size n1 (.slice p1 l1 c1) E1 ∧ Bx w2 35 (w.heap.size + 1) n2 (.slice p2 l2 c2) E2 ∧ Ext w w2) := ⟨H1.out.1.ext hx1, H1.out.2.1.ext hx1, H1.out.2.2.trans hx1⟩; clear hx hx1) | (go_at_call_of 74 (Value.agg #[.bool n2, .slice p2 l2 c2, .int .i64 E2]); refine (HS2.out _ (by first | exact H2.out.2.2 | exact H2.out.2.2.drew | exact H2.out.2.2.drewN _ | fail)).mono ?_; rintro en w3 ⟨rfl, hx⟩; have hx1 : Ext w2 w3 := (by first | exact hx | exact (Ext.of_drew hx) | exact (Ext.of_drewN hx) | fail); have H3 : Hid (Bx w3 35 w.heap.size n1 (.slice p1 l1 c1) E1 ∧ Bx w3 35 (w.heap.size + 1) n2 (.slice p2 l2 c2) E2 ∧ Ext w w3) := ⟨H2.out.1.ext hx1, H2.out.2.1.ext hx1, H2.out.2.2.trans hx1⟩; clear hx hx1))
    clear a0 a1 a2 a3 a4 a5
    have a0 := H3.out.1.c0
    have a1 := H3.out.1.c1
    have a2 := H3.out.1.c2
    have a3 := H3.out.2.1.c0
    have a4 := H3.out.2.1.c1
    have a5 := H3.out.2.1.c2
    go_wp2_with (fail)
    refine (HM.out _ H3.out.2.2).mono ?_
    rintro en w4 ⟨c, rfl, hx, hm⟩
    have HX4 := Lib.hid (H3.out.2.2.trans hx)
    have HRc := HR.out.2.2 (by trivial) c hm
    have hcb := hm.2.2
    clear HR hm hx
    by_cases hs : sx < 0
    · have t2 : decide (sx < 0) = true := by simp; omega
      have HRc := HRc.1 hs
      rcases Int.lt_trichotomy c 0 with h0 | h0 | h0
      · obtain rfl : R = 1 := HRc.2.1 h0
        have t3 : decide (-c < 0) = false := by simp; omega
        have t4 : decide (0 < -c) = true := by simp; omega
        clear HRc
        go_wp2_with (fail)
        go_ret
        exact ⟨rfl, HX4.out⟩
      · subst h0
        obtain rfl : R = 0 := HRc.2.2 rfl
        clear HRc
        go_wp2_with (fail)
        go_ret
        exact ⟨rfl, HX4.out⟩
      · obtain rfl : R = -1 := HRc.1 h0
        have t3 : decide (-c < 0) = true := by simp; omega
        clear HRc
        go_wp2_with (fail)
        go_ret
        exact ⟨rfl, HX4.out⟩
    · have t2 : decide (sx < 0) = false := by simp; omega
      have HRc := HRc.2 (by omega)
      rcases Int.lt_trichotomy c 0 with h0 | h0 | h0
      · obtain rfl : R = -1 := HRc.1 h0
        have t3 : decide (c < 0) = true := by simp; omega
        clear HRc
        go_wp2_with (fail)
        go_ret
        exact ⟨rfl, HX4.out⟩
      · subst h0
        obtain rfl : R = 0 := HRc.2.2 rfl
        clear HRc
        go_wp2_with (fail)
        go_ret
        exact ⟨rfl, HX4.out⟩
      · obtain rfl : R = 1 := HRc.2.1 h0
        have t3 : decide (c < 0) = false := by simp; omega
        have t4 : decide (0 < c) = true := by simp; omega
        clear HRc
        go_wp2_with (fail)
        go_ret
        exact ⟨rfl, HX4.out⟩
  · have t1 : (sx != sy) = true := by simp; omega
    have t2 : decide (sx < sy) = false := by simp; omega
    obtain rfl : R = 1 := HR.out.2.1 h
    clear HR
    go_enter Tryz.func36, Tryz.ntmps36
    go_wp2_with (fail)
    go_region_held3 (fun w' => w'.cell? ⟨w.heap.size, 0, none⟩ = some (.bool n1) ∧ w'.cell? ⟨w.heap.size, 1, none⟩ = some (.slice p1 l1 c1) ∧ w'.cell? ⟨w.heap.size, 2, none⟩ = some (.int .i64 E1) ∧ w'.cell? ⟨w.heap.size + 1, 0, none⟩ = some (.bool n2) ∧ w'.cell? ⟨w.heap.size + 1, 1, none⟩ = some (.slice p2 l2 c2) ∧ w'.cell? ⟨w.heap.size + 1, 2, none⟩ = some (.int .i64 E2))
      (first | go_keep | (exact ⟨H3.out.1.c0, H3.out.1.c1, H3.out.1.c2, H3.out.2.1.c0, H3.out.2.1.c1, H3.out.2.1.c2⟩) | (exact ⟨H2.out.1.c0, H2.out.1.c1, H2.out.1.c2, H2.out.2.1.c0, H2.out.2.1.c1, H2.out.2.1.c2⟩) | (exact ⟨H1.out.1.c0, H1.out.1.c1, H1.out.1.c2, H1.out.2.1.c0, H1.out.2.1.c1, H1.out.2.1.c2⟩) | fail)
      (first | (go_at_call_of 74 (Value.agg #[.bool n1, .slice p1 l1 c1, .int .i64 E1]); refine (HS1.out _ (by first | exact H1.out.2.2 | exact H1.out.2.2.drew | exact H1.out.2.2.drewN _ | fail)).mono ?_; rintro en w2 ⟨rfl, hx⟩; have hx1 : Ext w1 w2 := (by first | exact hx | exact (Ext.of_drew hx) | exact (Ext.of_drewN hx) | fail); have H2 : Hid (Bx w2 35 w.heap.size n1 (.slice p1 l1 c1) E1 ∧ Bx w2 35 (w.heap.size + 1) n2 (.slice p2 l2 c2) E2 ∧ Ext w w2) := ⟨H1.out.1.ext hx1, H1.out.2.1.ext hx1, H1.out.2.2.trans hx1⟩; clear hx hx1) | (go_at_call_of 74 (Value.agg #[.bool n2, .slice p2 l2 c2, .int .i64 E2]); refine (HS2.out _ (by first | exact H2.out.2.2 | exact H2.out.2.2.drew | exact H2.out.2.2.drewN _ | fail)).mono ?_; rintro en w3 ⟨rfl, hx⟩; have hx1 : Ext w2 w3 := (by first | exact hx | exact (Ext.of_drew hx) | exact (Ext.of_drewN hx) | fail); have H3 : Hid (Bx w3 35 w.heap.size n1 (.slice p1 l1 c1) E1 ∧ Bx w3 35 (w.heap.size + 1) n2 (.slice p2 l2 c2) E2 ∧ Ext w w3) := ⟨H2.out.1.ext hx1, H2.out.2.1.ext hx1, H2.out.2.2.trans hx1⟩; clear hx hx1))
    clear a0 a1 a2 a3 a4 a5
    have a0 := H3.out.1.c0
    have a1 := H3.out.1.c1
    have a2 := H3.out.1.c2
    have a3 := H3.out.2.1.c0
    have a4 := H3.out.2.1.c1
    have a5 := H3.out.2.1.c2
    go_wp2_with (fail)
    go_ret
    exact ⟨rfl, H3.out.2.2⟩
end Go.Proofs.YtdpjkddllimcoaaGreatDoor
end

section
/- The reference's exact numbers: sums. -/
namespace Fl
open Go Go.RowKit
theorem Nt.fitted {w : World} {v : Value} {n L : Nat} (h : Nt w v n) (hn : n < 2 ^ L) (hL : L ≤ 1000100) : ∃ zs, Sl w v zs ∧ Wd zs ∧ num zs = n ∧ zs.length ≤ 1048575 := by
  obtain ⟨zs, s1, s2, s3, s4⟩ := h
  exact ⟨zs, s1, s2, s4, len_le s3 (by rw [s4]; exact fit_of (k := L) (l := 1048575) hn (by omega))⟩
theorem Ry.cast {w : World} {v : Value} {z z' e : Int} (h : Ry w v z e) (hz : z = z') : Ry w v z' e := hz ▸ h
theorem sg_rep {z : Int} {n : Bool} {N d : Nat} (hn : n = decide (z < 0)) (hN : N * 2 ^ d = z.natAbs) : sg n N * 2 ^ d = z := by
  rw [← sg_mul, hN]
  unfold sg
  subst hn
  by_cases h : z < 0
  · simp [h]; omega
  · simp [h]; omega
theorem sg_add1 {n1 n2 : Bool} {N1 N2 : Nat} (h : n1 = n2) : sg n1 (N1 + N2) = sg n1 N1 + sg n2 N2 := by
  subst h; unfold sg; cases n1 <;> simp <;> omega
theorem sg_add2 {n1 n2 : Bool} {N1 N2 : Nat} (h : n1 ≠ n2) (hl : N1 < N2) : sg n2 (N2 - N1) = sg n1 N1 + sg n2 N2 := by
  unfold sg; cases n1 <;> cases n2 <;> simp at h ⊢ <;> omega
theorem sg_add3 {n1 n2 : Bool} {N1 N2 : Nat} (h : n1 ≠ n2) (hl : N2 ≤ N1) : sg n1 (N1 - N2) = sg n1 N1 + sg n2 N2 := by
  unfold sg; cases n1 <;> cases n2 <;> simp at h ⊢ <;> omega
end Fl
namespace Go.Proofs.YtdpjkddllimcoaaGreatDoor
open Go.RowKit Fl
set_option maxRecDepth 20000 in
set_option maxHeartbeats 2000000 in
theorem k_Plus (a b : Value) (x y f : Int) (L : Nat) (w : World) (h1 : Ry w a x f) (h2 : Ry w b y f) (hx : x.natAbs < 2 ^ L) (hy : y.natAbs < 2 ^ L) (hL : L ≤ 1000000) (hf : -1152921504606846976 ≤ f ∧ f ≤ 1152921504606846976) :
    Calls Tryz.prog 32 #[a, b] w fun en w' => ∃ v, en = .returned v ∧ Ext w w' ∧ Ry w' v (x + y) f := by
  have HTa : Hid (∀ w', Ext w w' → Calls Tryz.prog 78 #[a] w' fun en w'' => ∃ v, en = .returned v ∧ Ext w' w'' ∧ Ry w'' v x f) := fun w' hx' => k_twin a x f L w' (h1.ext hx') hx (by omega)
  have HTb : Hid (∀ w', Ext w w' → Calls Tryz.prog 78 #[b] w' fun en w'' => ∃ v, en = .returned v ∧ Ext w' w'' ∧ Ry w'' v y f) := fun w' hx' => k_twin b y f L w' (h2.ext hx') hy (by omega)
  obtain ⟨n1, p1, l1, c1, o1, E1, rfl, hn1, hl1, hN1, hr1, hp1⟩ := h1.open
  obtain ⟨n2, p2, l2, c2, o2, E2, rfl, hn2, hl2, hN2, hr2, hp2⟩ := h2.open
  obtain ⟨w1, hw1⟩ : ∃ w1, ((w.alloc (.cells #[.bool n1, .slice p1 l1 c1, .int .i64 E1] 35)).alloc (.cells #[.bool n2, .slice p2 l2 c2, .int .i64 E2] 35)).alloc (.cells #[.bool false, .slice none 0 0, .int .i64 0] 35) = w1 := ⟨_, rfl⟩
  have H1 : Hid (Bx w1 35 w.heap.size n1 (.slice p1 l1 c1) E1 ∧ Bx w1 35 (w.heap.size + 1) n2 (.slice p2 l2 c2) E2 ∧ Ext w w1 ∧ Bx w1 35 (w.heap.size + 2) false (.slice none 0 0) 0) := by
    rw [← hw1]
    exact ⟨(Bx.new1 _ _ _ _ _ _).ext ((Ext.refl _).alloc _), (Bx.new2 _ _ _ _ _ _).ext ((Ext.refl _).alloc _), (((Ext.refl w).alloc _).alloc _).alloc _, Bx.new3 _ _ _ _ _ _ _⟩
  have hne1 : ¬ w.heap.size + 1 + 1 = w.heap.size := by omega
  have hne2 : ¬ w.heap.size + 2 = w.heap.size := by omega
  have a0 := H1.out.1.c0
  have a1 := H1.out.1.c1
  have a2 := H1.out.1.c2
  have a3 := H1.out.2.1.c0
  have a4 := H1.out.2.1.c1
  have a5 := H1.out.2.1.c2
  have r0 := H1.out.2.2.2.c0
  have r1 := H1.out.2.2.2.c1
  have r2 := H1.out.2.2.2.c2
  have r3 := H1.out.2.2.2.frozen 0
  have r4 := H1.out.2.2.2.frozen 1
  have r5 := H1.out.2.2.2.frozen 2
  by_cases hx0 : x = 0
  · have t1 : ((l1 : Int) == 0) = true := by rw [hl1.2 hx0]; rfl
    subst hx0
    rw [Int.zero_add]
    clear h1 h2 hn1 hn2 hN1 hN2 hr1 hr2 hp1 hp2 hx hy HTa
    go_enter Tryz.func32, Tryz.ntmps32
    go_wp2_with (fail)
    clear a0 a1 a2 a3 a4 a5 r0 r1 r2 r3 r4 r5
    refine (HTb.out _ H1.out.2.2.1).mono ?_
    rintro en w2 ⟨v, rfl, hx, hd⟩
    have HD := Lib.hid hd
    obtain ⟨nn, pp, ll, cc, oo, EE, rfl, -⟩ := hd.open
    have hx1 : Ext w1 w2 := (by first | exact hx | exact (Ext.of_drew hx) | exact (Ext.of_drewN hx) | fail)
    have H2 : Hid (Bx w2 35 w.heap.size n1 (.slice p1 l1 c1) E1 ∧ Bx w2 35 (w.heap.size + 1) n2 (.slice p2 l2 c2) E2 ∧ Ext w w2 ∧ Bx w2 35 (w.heap.size + 2) false (.slice none 0 0) 0) := ⟨H1.out.1.ext hx1, H1.out.2.1.ext hx1, H1.out.2.2.1.trans hx1, H1.out.2.2.2.ext hx1⟩
    clear hx hx1
    clear hd
    have r0 := H2.out.2.2.2.c0
    have r1 := H2.out.2.2.2.c1
    have r2 := H2.out.2.2.2.c2
    have r3 := H2.out.2.2.2.frozen 0
    have r4 := H2.out.2.2.2.frozen 1
    have r5 := H2.out.2.2.2.frozen 2
    go_wp2_with (fail)
    refine bodyPost_ret (v := .agg #[.bool nn, .slice pp ll cc, .int .i64 EE]) (by simp [results, Tryz.results32, go_sem, r0, r1, r2]) rfl ⟨_, rfl, ?_, ?_⟩
    · exact H2.out.2.2.1.set3 (by omega) _ _ _
    · exact HD.out.setBx H2.out.2.2.2 IsSl.nil _ _ _
  have t1 := len_ne0 (Nat.pos_of_ne_zero (fun h => hx0 (hl1.1 h)))
  by_cases hy0 : y = 0
  · have t2 : ((l2 : Int) == 0) = true := by rw [hl2.2 hy0]; rfl
    subst hy0
    rw [Int.add_zero]
    clear h1 h2 hn1 hn2 hN1 hN2 hr1 hr2 hp1 hp2 hx hy HTb
    go_enter Tryz.func32, Tryz.ntmps32
    go_wp2_with (fail)
    clear a0 a1 a2 a3 a4 a5 r0 r1 r2 r3 r4 r5
    refine (HTa.out _ H1.out.2.2.1).mono ?_
    rintro en w2 ⟨v, rfl, hx, hd⟩
    have HD := Lib.hid hd
    obtain ⟨nn, pp, ll, cc, oo, EE, rfl, -⟩ := hd.open
    have hx1 : Ext w1 w2 := (by first | exact hx | exact (Ext.of_drew hx) | exact (Ext.of_drewN hx) | fail)
    have H2 : Hid (Bx w2 35 w.heap.size n1 (.slice p1 l1 c1) E1 ∧ Bx w2 35 (w.heap.size + 1) n2 (.slice p2 l2 c2) E2 ∧ Ext w w2 ∧ Bx w2 35 (w.heap.size + 2) false (.slice none 0 0) 0) := ⟨H1.out.1.ext hx1, H1.out.2.1.ext hx1, H1.out.2.2.1.trans hx1, H1.out.2.2.2.ext hx1⟩
    clear hx hx1
    clear hd
    have r0 := H2.out.2.2.2.c0
    have r1 := H2.out.2.2.2.c1
    have r2 := H2.out.2.2.2.c2
    have r3 := H2.out.2.2.2.frozen 0
    have r4 := H2.out.2.2.2.frozen 1
    have r5 := H2.out.2.2.2.frozen 2
    go_wp2_with (fail)
    refine bodyPost_ret (v := .agg #[.bool nn, .slice pp ll cc, .int .i64 EE]) (by simp [results, Tryz.results32, go_sem, r0, r1, r2]) rfl ⟨_, rfl, ?_, ?_⟩
    · exact H2.out.2.2.1.set3 (by omega) _ _ _
    · exact HD.out.setBx H2.out.2.2.2 IsSl.nil _ _ _
  have t2 := len_ne0 (Nat.pos_of_ne_zero (fun h => hy0 (hl2.1 h)))
  obtain ⟨b1, b2, b3, -⟩ := hr1.range hx0 hx
  obtain ⟨b4, b5, b6, -⟩ := hr2.range hy0 hy
  obtain ⟨e, he⟩ : ∃ e, min E1 E2 = e := ⟨_, rfl⟩
  have he1 : e ≤ E1 := by omega
  have he2 : e ≤ E2 := by omega
  have hef : f ≤ e := by omega
  have heb : e < f + L := by omega
  obtain ⟨d1, hd1⟩ : ∃ d1 : Nat, E1 - e = d1 := ⟨(E1 - e).toNat, by omega⟩
  obtain ⟨d2, hd2⟩ : ∃ d2 : Nat, E2 - e = d2 := ⟨(E2 - e).toNat, by omega⟩
  obtain ⟨D, hD⟩ : ∃ D : Nat, (e - f).toNat = D := ⟨_, rfl⟩
  have hD' : e = f + (D : Int) := by omega
  obtain ⟨q1, q2⟩ := level_lt hr1 hr2 hx0 hy0 he1 he2 hef
  rw [hd1, Int.toNat_natCast, hD] at q1
  rw [hd2, Int.toNat_natCast, hD] at q2
  have HU1 : Hid (∀ w', Ext w w' → Calls Tryz.prog 79 #[.slice p1 l1 c1, .int .i64 (d1 : Int)] w' fun en w'' => ∃ v', en = .returned v' ∧ Ext w' w'' ∧ Nt w'' v' (o1.natAbs * 2 ^ d1)) := fun w' hx' => k_up _ _ d1 w' (hN1.ext hx') (fit_of (k := L) (l := 1048575) b3 (by omega)) (by omega)
  have HU2 : Hid (∀ w', Ext w w' → Calls Tryz.prog 79 #[.slice p2 l2 c2, .int .i64 (d2 : Int)] w' fun en w'' => ∃ v', en = .returned v' ∧ Ext w' w'' ∧ Nt w'' v' (o2.natAbs * 2 ^ d2)) := fun w' hx' => k_up _ _ d2 w' (hN2.ext hx') (fit_of (k := L) (l := 1048575) b6 (by omega)) (by omega)
  generalize o1.natAbs * 2 ^ d1 = N1 at *
  generalize o2.natAbs * 2 ^ d2 = N2 at *
  have s1 := sg_rep hn1 q1
  have s2 := sg_rep hn2 q2
  have hN1b : N1 < 2 ^ L := Nat.lt_of_le_of_lt (by rw [← q1]; exact Nat.le_mul_of_pos_right _ (Nat.two_pow_pos _)) hx
  have hN2b : N2 < 2 ^ L := Nat.lt_of_le_of_lt (by rw [← q2]; exact Nat.le_mul_of_pos_right _ (Nat.two_pow_pos _)) hy
  have hSb : N1 + N2 < 2 ^ (L + 1) := by rw [Nat.pow_succ]; omega
  have hebb : -4611686018427387904 ≤ e ∧ e ≤ 4611686018427387904 := by omega
  have HNm : Hid (∀ w' n v N z, Nt w' v N → N ≤ N1 + N2 → sg n N * 2 ^ D = z → Calls Tryz.prog 77 #[.bool n, v, .int .i64 e] w' fun en w'' => ∃ v', en = .returned v' ∧ Ext w' w'' ∧ Ry w'' v' z f) := by
    intro w' n v N z g1 g2 g3
    obtain ⟨zs, k1, k2, k3, k4⟩ := g1.fitted (L := L + 1) (by omega) (by omega)
    refine (k_norm n v zs e w' k1 k2 k4 hebb.1 hebb.2).mono ?_
    rintro en wn ⟨v', rfl, k5, k6⟩
    rw [k3] at k6
    exact ⟨v', rfl, k5, (k6.back (k := D) hD').cast g3⟩
  have HSm : Hid (∀ w' v u, Nt w' v N1 → Nt w' u N2 → Calls Tryz.prog 80 #[v, u] w' fun en w'' => ∃ v', en = .returned v' ∧ Ext w' w'' ∧ Nt w'' v' (N1 + N2)) := fun w' v u g1 g2 => k_sum v u N1 N2 w' g1 g2 (fit_of (k := L) (l := 1048575) hN1b (by omega)) (fit_of (k := L) (l := 1048575) hN2b (by omega))
  have HOr : Hid (∀ w' v u, Nt w' v N1 → Nt w' u N2 → Calls Tryz.prog 81 #[v, u] w' fun en w'' => en = .returned (.int .i64 (cmpI N1 N2)) ∧ Drw w' w'') := fun w' v u g1 g2 => k_order v u N1 N2 w' g1 g2 (fit_of (k := L) (l := 1048576) hN1b (by omega)) (fit_of (k := L) (l := 1048576) hN2b (by omega))
  have HL1 : Hid (N2 ≤ N1 → ∀ w' v u, Nt w' v N1 → Nt w' u N2 → Calls Tryz.prog 82 #[v, u] w' fun en w'' => ∃ v', en = .returned v' ∧ Ext w' w'' ∧ Nt w'' v' (N1 - N2)) := fun hle w' v u g1 g2 => k_less v u N1 N2 w' g1 g2 (fit_of (k := L) (l := 1048575) hN1b (by omega)) hle
  have HL2 : Hid (N1 ≤ N2 → ∀ w' v u, Nt w' v N2 → Nt w' u N1 → Calls Tryz.prog 82 #[v, u] w' fun en w'' => ∃ v', en = .returned v' ∧ Ext w' w'' ∧ Nt w'' v' (N2 - N1)) := fun hle w' v u g1 g2 => k_less v u N2 N1 w' g1 g2 (fit_of (k := L) (l := 1048575) hN2b (by omega)) hle
  have gw1 : IntKind.i64.wrap (d1 : Int) = (d1 : Int) := IntWalk.i64_in _ (by omega)
  have gw2 : IntKind.i64.wrap (d2 : Int) = (d2 : Int) := IntWalk.i64_in _ (by omega)
  have HZ : Hid ((n1 = n2 → sg n1 (N1 + N2) * 2 ^ D = x + y) ∧ (n1 ≠ n2 → N1 < N2 → sg n2 (N2 - N1) * 2 ^ D = x + y) ∧ (n1 ≠ n2 → N2 ≤ N1 → sg n1 (N1 - N2) * 2 ^ D = x + y)) := by
    rw [← s1, ← s2, ← Int.add_mul]
    refine ⟨fun h => ?_, fun h h3 => ?_, fun h h3 => ?_⟩
    · rw [sg_add1 h]
    · rw [sg_add2 h h3]
    · rw [sg_add3 h h3]
  clear h1 h2 hn1 hn2 hl1 hl2 hN1 hN2 hr1 hr2 hp1 hp2 hx hy b3 b6 q1 q2 hx0 hy0 s1 s2 hN1b hN2b hSb HTa HTb hD hD'
  by_cases hnn : n1 = n2
  · have HZ1 := Lib.hid (HZ.out.1 hnn)
    have t3 : (n1 == n2) = true := by simp [hnn]
    clear hnn
    go_enter Tryz.func32, Tryz.ntmps32
    go_wp2_with (fail)
    refine (HU1.out _ H1.out.2.2.1).mono ?_
    rintro en w2 ⟨v1, rfl, hx, hd⟩
    have HU := Lib.hid hd
    clear hd a0 a1 a2 a3 a4 a5 r0 r1 r2 r3 r4 r5
    have hx1 : Ext w1 w2 := (by first | exact hx | exact (Ext.of_drew hx) | exact (Ext.of_drewN hx) | fail)
    have H2 : Hid (Bx w2 35 w.heap.size n1 (.slice p1 l1 c1) E1 ∧ Bx w2 35 (w.heap.size + 1) n2 (.slice p2 l2 c2) E2 ∧ Ext w w2 ∧ Bx w2 35 (w.heap.size + 2) false (.slice none 0 0) 0) := ⟨H1.out.1.ext hx1, H1.out.2.1.ext hx1, H1.out.2.2.1.trans hx1, H1.out.2.2.2.ext hx1⟩
    clear hx hx1
    have a0 := H2.out.1.c0
    have a1 := H2.out.1.c1
    have a2 := H2.out.1.c2
    have a3 := H2.out.2.1.c0
    have a4 := H2.out.2.1.c1
    have a5 := H2.out.2.1.c2
    have r0 := H2.out.2.2.2.c0
    have r1 := H2.out.2.2.2.c1
    have r2 := H2.out.2.2.2.c2
    have r3 := H2.out.2.2.2.frozen 0
    have r4 := H2.out.2.2.2.frozen 1
    have r5 := H2.out.2.2.2.frozen 2
    go_wp2_with (fail)
    refine (HU2.out _ H2.out.2.2.1).mono ?_
    rintro en w3 ⟨v2, rfl, hx, hd⟩
    have HW : Hid (Nt w3 v1 N1 ∧ Nt w3 v2 N2) := ⟨HU.out.ext hx, hd⟩
    clear hd a0 a1 a2 a3 a4 a5 r0 r1 r2 r3 r4 r5
    have hx1 : Ext w2 w3 := (by first | exact hx | exact (Ext.of_drew hx) | exact (Ext.of_drewN hx) | fail)
    have H3 : Hid (Bx w3 35 w.heap.size n1 (.slice p1 l1 c1) E1 ∧ Bx w3 35 (w.heap.size + 1) n2 (.slice p2 l2 c2) E2 ∧ Ext w w3 ∧ Bx w3 35 (w.heap.size + 2) false (.slice none 0 0) 0) := ⟨H2.out.1.ext hx1, H2.out.2.1.ext hx1, H2.out.2.2.1.trans hx1, H2.out.2.2.2.ext hx1⟩
    clear hx hx1
    have a0 := H3.out.1.c0
    have a1 := H3.out.1.c1
    have a2 := H3.out.1.c2
    have a3 := H3.out.2.1.c0
    have a4 := H3.out.2.1.c1
    have a5 := H3.out.2.1.c2
    have r0 := H3.out.2.2.2.c0
    have r1 := H3.out.2.2.2.c1
    have r2 := H3.out.2.2.2.c2
    have r3 := H3.out.2.2.2.frozen 0
    have r4 := H3.out.2.2.2.frozen 1
    have r5 := H3.out.2.2.2.frozen 2
    go_wp2_with (fail)
    go_region_held3 (fun w' => w'.cell? ⟨w.heap.size, 0, none⟩ = some (.bool n1) ∧ w'.cell? ⟨w.heap.size, 1, none⟩ = some (.slice p1 l1 c1) ∧ w'.cell? ⟨w.heap.size, 2, none⟩ = some (.int .i64 E1) ∧ w'.cell? ⟨w.heap.size + 1, 0, none⟩ = some (.bool n2) ∧ w'.cell? ⟨w.heap.size + 1, 1, none⟩ = some (.slice p2 l2 c2) ∧ w'.cell? ⟨w.heap.size + 1, 2, none⟩ = some (.int .i64 E2))
      (first | go_keep | (exact ⟨H5.out.1.c0, H5.out.1.c1, H5.out.1.c2, H5.out.2.1.c0, H5.out.2.1.c1, H5.out.2.1.c2⟩) | (exact ⟨H4.out.1.c0, H4.out.1.c1, H4.out.1.c2, H4.out.2.1.c0, H4.out.2.1.c1, H4.out.2.1.c2⟩) | (exact ⟨H3.out.1.c0, H3.out.1.c1, H3.out.1.c2, H3.out.2.1.c0, H3.out.2.1.c1, H3.out.2.1.c2⟩) | (exact ⟨(H5.out.1.set3 (by omega) _ _ _).c0, (H5.out.1.set3 (by omega) _ _ _).c1, (H5.out.1.set3 (by omega) _ _ _).c2, (H5.out.2.1.set3 (by omega) _ _ _).c0, (H5.out.2.1.set3 (by omega) _ _ _).c1, (H5.out.2.1.set3 (by omega) _ _ _).c2⟩) | (exact ⟨(H4.out.1.set3 (by omega) _ _ _).c0, (H4.out.1.set3 (by omega) _ _ _).c1, (H4.out.1.set3 (by omega) _ _ _).c2, (H4.out.2.1.set3 (by omega) _ _ _).c0, (H4.out.2.1.set3 (by omega) _ _ _).c1, (H4.out.2.1.set3 (by omega) _ _ _).c2⟩) | (exact ⟨(H3.out.1.set3 (by omega) _ _ _).c0, (H3.out.1.set3 (by omega) _ _ _).c1, (H3.out.1.set3 (by omega) _ _ _).c2, (H3.out.2.1.set3 (by omega) _ _ _).c0, (H3.out.2.1.set3 (by omega) _ _ _).c1, (H3.out.2.1.set3 (by omega) _ _ _).c2⟩) | fail)
      (first | (go_at_call 80; refine (HSm.out _ v1 v2 (by first | exact HW.out.1 | exact HW.out.1.ext ((Ext.refl _).drewN _) | exact HW.out.1.ext (Ext.refl _).drew | fail) (by first | exact HW.out.2 | exact HW.out.2.ext ((Ext.refl _).drewN _) | exact HW.out.2.ext (Ext.refl _).drew | fail)).mono ?_; rintro en w4 ⟨v3, rfl, hx, hd⟩; have HV := Lib.hid hd; clear hd r0 r1 r2 r3 r4 r5; have hx1 : Ext w3 w4 := (by first | exact hx | exact (Ext.of_drew hx) | exact (Ext.of_drewN hx) | fail); have H4 : Hid (Bx w4 35 w.heap.size n1 (.slice p1 l1 c1) E1 ∧ Bx w4 35 (w.heap.size + 1) n2 (.slice p2 l2 c2) E2 ∧ Ext w w4 ∧ Bx w4 35 (w.heap.size + 2) false (.slice none 0 0) 0) := ⟨H3.out.1.ext hx1, H3.out.2.1.ext hx1, H3.out.2.2.1.trans hx1, H3.out.2.2.2.ext hx1⟩; clear hx hx1; have r0 := H4.out.2.2.2.c0; have r1 := H4.out.2.2.2.c1; have r2 := H4.out.2.2.2.c2; have r3 := H4.out.2.2.2.frozen 0; have r4 := H4.out.2.2.2.frozen 1; have r5 := H4.out.2.2.2.frozen 2) | (go_at_call 77; refine (HNm.out _ n1 _ _ _ (by first | exact HV.out | exact HV.out.ext ((Ext.refl _).drewN _) | exact HV.out.ext (Ext.refl _).drew | fail) (by omega) HZ1.out).mono ?_; rintro en w5 ⟨v, rfl, hx, hd⟩; have HD := Lib.hid hd; obtain ⟨nn, pp, ll, cc, oo, EE, rfl, -⟩ := hd.open; clear hd r0 r1 r2 r3 r4 r5; have hx1 : Ext w4 w5 := (by first | exact hx | exact (Ext.of_drew hx) | exact (Ext.of_drewN hx) | fail); have H5 : Hid (Bx w5 35 w.heap.size n1 (.slice p1 l1 c1) E1 ∧ Bx w5 35 (w.heap.size + 1) n2 (.slice p2 l2 c2) E2 ∧ Ext w w5 ∧ Bx w5 35 (w.heap.size + 2) false (.slice none 0 0) 0) := ⟨H4.out.1.ext hx1, H4.out.2.1.ext hx1, H4.out.2.2.1.trans hx1, H4.out.2.2.2.ext hx1⟩; clear hx hx1; have r0 := H5.out.2.2.2.c0; have r1 := H5.out.2.2.2.c1; have r2 := H5.out.2.2.2.c2; have r3 := H5.out.2.2.2.frozen 0; have r4 := H5.out.2.2.2.frozen 1; have r5 := H5.out.2.2.2.frozen 2))
    all_goals
      go_wp2_with (fail)
      refine bodyPost_ret (v := .agg #[.bool nn, .slice pp ll cc, .int .i64 EE]) (by simp [results, Tryz.results32, go_sem, r0, r1, r2]) rfl ⟨_, rfl, ?_, ?_⟩
      · exact H5.out.2.2.1.set3 (by omega) _ _ _
      · exact HD.out.setBx H5.out.2.2.2 IsSl.nil _ _ _
  · have t3 : (n1 == n2) = false := by simp [hnn]
    by_cases hlt : N1 < N2
    · have HZ1 := Lib.hid (HZ.out.2.1 hnn hlt)
      have HC : Hid (cmpI N1 N2 = -1) := cmpI_lt hlt
      have HL := Lib.hid (HL2.out (Nat.le_of_lt hlt))
      go_enter Tryz.func32, Tryz.ntmps32
      go_wp2_with (fail)
      refine (HU1.out _ H1.out.2.2.1).mono ?_
      rintro en w2 ⟨v1, rfl, hx, hd⟩
      have HU := Lib.hid hd
      clear hd a0 a1 a2 a3 a4 a5 r0 r1 r2 r3 r4 r5
      have hx1 : Ext w1 w2 := (by first | exact hx | exact (Ext.of_drew hx) | exact (Ext.of_drewN hx) | fail)
      have H2 : Hid (Bx w2 35 w.heap.size n1 (.slice p1 l1 c1) E1 ∧ Bx w2 35 (w.heap.size + 1) n2 (.slice p2 l2 c2) E2 ∧ Ext w w2 ∧ Bx w2 35 (w.heap.size + 2) false (.slice none 0 0) 0) := ⟨H1.out.1.ext hx1, H1.out.2.1.ext hx1, H1.out.2.2.1.trans hx1, H1.out.2.2.2.ext hx1⟩
      clear hx hx1
      have a0 := H2.out.1.c0
      have a1 := H2.out.1.c1
      have a2 := H2.out.1.c2
      have a3 := H2.out.2.1.c0
      have a4 := H2.out.2.1.c1
      have a5 := H2.out.2.1.c2
      have r0 := H2.out.2.2.2.c0
      have r1 := H2.out.2.2.2.c1
      have r2 := H2.out.2.2.2.c2
      have r3 := H2.out.2.2.2.frozen 0
      have r4 := H2.out.2.2.2.frozen 1
      have r5 := H2.out.2.2.2.frozen 2
      go_wp2_with (fail)
      refine (HU2.out _ H2.out.2.2.1).mono ?_
      rintro en w3 ⟨v2, rfl, hx, hd⟩
      have HW : Hid (Nt w3 v1 N1 ∧ Nt w3 v2 N2) := ⟨HU.out.ext hx, hd⟩
      clear hd a0 a1 a2 a3 a4 a5 r0 r1 r2 r3 r4 r5
      have hx1 : Ext w2 w3 := (by first | exact hx | exact (Ext.of_drew hx) | exact (Ext.of_drewN hx) | fail)
      have H3 : Hid (Bx w3 35 w.heap.size n1 (.slice p1 l1 c1) E1 ∧ Bx w3 35 (w.heap.size + 1) n2 (.slice p2 l2 c2) E2 ∧ Ext w w3 ∧ Bx w3 35 (w.heap.size + 2) false (.slice none 0 0) 0) := ⟨H2.out.1.ext hx1, H2.out.2.1.ext hx1, H2.out.2.2.1.trans hx1, H2.out.2.2.2.ext hx1⟩
      clear hx hx1
      have a0 := H3.out.1.c0
      have a1 := H3.out.1.c1
      have a2 := H3.out.1.c2
      have a3 := H3.out.2.1.c0
      have a4 := H3.out.2.1.c1
      have a5 := H3.out.2.1.c2
      have r0 := H3.out.2.2.2.c0
      have r1 := H3.out.2.2.2.c1
      have r2 := H3.out.2.2.2.c2
      have r3 := H3.out.2.2.2.frozen 0
      have r4 := H3.out.2.2.2.frozen 1
      have r5 := H3.out.2.2.2.frozen 2
      go_wp2_with (fail)
      refine (HOr.out _ v1 v2 HW.out.1 HW.out.2).mono ?_
      rintro en w4 ⟨he4, hd⟩
      rw [HC.out] at he4
      subst he4
      have hx := hd.ext
      have HW2 : Hid (Nt w4 v1 N1 ∧ Nt w4 v2 N2) := ⟨HW.out.1.ext hx, HW.out.2.ext hx⟩
      clear hd a0 a1 a2 a3 a4 a5 r0 r1 r2 r3 r4 r5
      have hx1 : Ext w3 w4 := (by first | exact hx | exact (Ext.of_drew hx) | exact (Ext.of_drewN hx) | fail)
      have H4 : Hid (Bx w4 35 w.heap.size n1 (.slice p1 l1 c1) E1 ∧ Bx w4 35 (w.heap.size + 1) n2 (.slice p2 l2 c2) E2 ∧ Ext w w4 ∧ Bx w4 35 (w.heap.size + 2) false (.slice none 0 0) 0) := ⟨H3.out.1.ext hx1, H3.out.2.1.ext hx1, H3.out.2.2.1.trans hx1, H3.out.2.2.2.ext hx1⟩
      clear hx hx1
      have a0 := H4.out.1.c0
      have a1 := H4.out.1.c1
      have a2 := H4.out.1.c2
      have a3 := H4.out.2.1.c0
      have a4 := H4.out.2.1.c1
      have a5 := H4.out.2.1.c2
      have r0 := H4.out.2.2.2.c0
      have r1 := H4.out.2.2.2.c1
      have r2 := H4.out.2.2.2.c2
      have r3 := H4.out.2.2.2.frozen 0
      have r4 := H4.out.2.2.2.frozen 1
      have r5 := H4.out.2.2.2.frozen 2
      go_wp2_with (fail)
      go_region_held3 (fun w' => w'.cell? ⟨w.heap.size, 0, none⟩ = some (.bool n1) ∧ w'.cell? ⟨w.heap.size, 1, none⟩ = some (.slice p1 l1 c1) ∧ w'.cell? ⟨w.heap.size, 2, none⟩ = some (.int .i64 E1) ∧ w'.cell? ⟨w.heap.size + 1, 0, none⟩ = some (.bool n2) ∧ w'.cell? ⟨w.heap.size + 1, 1, none⟩ = some (.slice p2 l2 c2) ∧ w'.cell? ⟨w.heap.size + 1, 2, none⟩ = some (.int .i64 E2))
        (first | go_keep | (exact ⟨H6.out.1.c0, H6.out.1.c1, H6.out.1.c2, H6.out.2.1.c0, H6.out.2.1.c1, H6.out.2.1.c2⟩) | (exact ⟨H5.out.1.c0, H5.out.1.c1, H5.out.1.c2, H5.out.2.1.c0, H5.out.2.1.c1, H5.out.2.1.c2⟩) | (exact ⟨H4.out.1.c0, H4.out.1.c1, H4.out.1.c2, H4.out.2.1.c0, H4.out.2.1.c1, H4.out.2.1.c2⟩) | (exact ⟨(H6.out.1.set3 (by omega) _ _ _).c0, (H6.out.1.set3 (by omega) _ _ _).c1, (H6.out.1.set3 (by omega) _ _ _).c2, (H6.out.2.1.set3 (by omega) _ _ _).c0, (H6.out.2.1.set3 (by omega) _ _ _).c1, (H6.out.2.1.set3 (by omega) _ _ _).c2⟩) | (exact ⟨(H5.out.1.set3 (by omega) _ _ _).c0, (H5.out.1.set3 (by omega) _ _ _).c1, (H5.out.1.set3 (by omega) _ _ _).c2, (H5.out.2.1.set3 (by omega) _ _ _).c0, (H5.out.2.1.set3 (by omega) _ _ _).c1, (H5.out.2.1.set3 (by omega) _ _ _).c2⟩) | (exact ⟨(H4.out.1.set3 (by omega) _ _ _).c0, (H4.out.1.set3 (by omega) _ _ _).c1, (H4.out.1.set3 (by omega) _ _ _).c2, (H4.out.2.1.set3 (by omega) _ _ _).c0, (H4.out.2.1.set3 (by omega) _ _ _).c1, (H4.out.2.1.set3 (by omega) _ _ _).c2⟩) | fail)
        (first | (go_at_call 82; refine (HL.out _ v2 v1 (by first | exact HW2.out.2 | exact HW2.out.2.ext ((Ext.refl _).drewN _) | exact HW2.out.2.ext (Ext.refl _).drew | fail) (by first | exact HW2.out.1 | exact HW2.out.1.ext ((Ext.refl _).drewN _) | exact HW2.out.1.ext (Ext.refl _).drew | fail)).mono ?_; rintro en w5 ⟨v3, rfl, hx, hd⟩; have HV := Lib.hid hd; clear hd r0 r1 r2 r3 r4 r5; have hx1 : Ext w4 w5 := (by first | exact hx | exact (Ext.of_drew hx) | exact (Ext.of_drewN hx) | fail); have H5 : Hid (Bx w5 35 w.heap.size n1 (.slice p1 l1 c1) E1 ∧ Bx w5 35 (w.heap.size + 1) n2 (.slice p2 l2 c2) E2 ∧ Ext w w5 ∧ Bx w5 35 (w.heap.size + 2) false (.slice none 0 0) 0) := ⟨H4.out.1.ext hx1, H4.out.2.1.ext hx1, H4.out.2.2.1.trans hx1, H4.out.2.2.2.ext hx1⟩; clear hx hx1; have r0 := H5.out.2.2.2.c0; have r1 := H5.out.2.2.2.c1; have r2 := H5.out.2.2.2.c2; have r3 := H5.out.2.2.2.frozen 0; have r4 := H5.out.2.2.2.frozen 1; have r5 := H5.out.2.2.2.frozen 2) | (go_at_call 77; refine (HNm.out _ n2 _ _ _ (by first | exact HV.out | exact HV.out.ext ((Ext.refl _).drewN _) | exact HV.out.ext (Ext.refl _).drew | fail) (by omega) HZ1.out).mono ?_; rintro en w6 ⟨v, rfl, hx, hd⟩; have HD := Lib.hid hd; obtain ⟨nn, pp, ll, cc, oo, EE, rfl, -⟩ := hd.open; clear hd r0 r1 r2 r3 r4 r5; have hx1 : Ext w5 w6 := (by first | exact hx | exact (Ext.of_drew hx) | exact (Ext.of_drewN hx) | fail); have H6 : Hid (Bx w6 35 w.heap.size n1 (.slice p1 l1 c1) E1 ∧ Bx w6 35 (w.heap.size + 1) n2 (.slice p2 l2 c2) E2 ∧ Ext w w6 ∧ Bx w6 35 (w.heap.size + 2) false (.slice none 0 0) 0) := ⟨H5.out.1.ext hx1, H5.out.2.1.ext hx1, H5.out.2.2.1.trans hx1, H5.out.2.2.2.ext hx1⟩; clear hx hx1; have r0 := H6.out.2.2.2.c0; have r1 := H6.out.2.2.2.c1; have r2 := H6.out.2.2.2.c2; have r3 := H6.out.2.2.2.frozen 0; have r4 := H6.out.2.2.2.frozen 1; have r5 := H6.out.2.2.2.frozen 2))
      all_goals
        go_wp2_with (fail)
        refine bodyPost_ret (v := .agg #[.bool nn, .slice pp ll cc, .int .i64 EE]) (by simp [results, Tryz.results32, go_sem, r0, r1, r2]) rfl ⟨_, rfl, ?_, ?_⟩
        · exact H6.out.2.2.1.set3 (by omega) _ _ _
        · exact HD.out.setBx H6.out.2.2.2 IsSl.nil _ _ _
    · have HZ1 := Lib.hid (HZ.out.2.2 hnn (by omega))
      obtain ⟨C, HC⟩ : ∃ C, Hid (C = cmpI N1 N2) := ⟨_, rfl⟩
      have hCn : decide (C < 0) = false := by
        rw [HC.out]
        unfold cmpI
        rw [if_neg hlt]
        split <;> rfl
      have HL := Lib.hid (HL1.out (by omega))
      go_enter Tryz.func32, Tryz.ntmps32
      go_wp2_with (fail)
      refine (HU1.out _ H1.out.2.2.1).mono ?_
      rintro en w2 ⟨v1, rfl, hx, hd⟩
      have HU := Lib.hid hd
      clear hd a0 a1 a2 a3 a4 a5 r0 r1 r2 r3 r4 r5
      have hx1 : Ext w1 w2 := (by first | exact hx | exact (Ext.of_drew hx) | exact (Ext.of_drewN hx) | fail)
      have H2 : Hid (Bx w2 35 w.heap.size n1 (.slice p1 l1 c1) E1 ∧ Bx w2 35 (w.heap.size + 1) n2 (.slice p2 l2 c2) E2 ∧ Ext w w2 ∧ Bx w2 35 (w.heap.size + 2) false (.slice none 0 0) 0) := ⟨H1.out.1.ext hx1, H1.out.2.1.ext hx1, H1.out.2.2.1.trans hx1, H1.out.2.2.2.ext hx1⟩
      clear hx hx1
      have a0 := H2.out.1.c0
      have a1 := H2.out.1.c1
      have a2 := H2.out.1.c2
      have a3 := H2.out.2.1.c0
      have a4 := H2.out.2.1.c1
      have a5 := H2.out.2.1.c2
      have r0 := H2.out.2.2.2.c0
      have r1 := H2.out.2.2.2.c1
      have r2 := H2.out.2.2.2.c2
      have r3 := H2.out.2.2.2.frozen 0
      have r4 := H2.out.2.2.2.frozen 1
      have r5 := H2.out.2.2.2.frozen 2
      go_wp2_with (fail)
      refine (HU2.out _ H2.out.2.2.1).mono ?_
      rintro en w3 ⟨v2, rfl, hx, hd⟩
      have HW : Hid (Nt w3 v1 N1 ∧ Nt w3 v2 N2) := ⟨HU.out.ext hx, hd⟩
      clear hd a0 a1 a2 a3 a4 a5 r0 r1 r2 r3 r4 r5
      have hx1 : Ext w2 w3 := (by first | exact hx | exact (Ext.of_drew hx) | exact (Ext.of_drewN hx) | fail)
      have H3 : Hid (Bx w3 35 w.heap.size n1 (.slice p1 l1 c1) E1 ∧ Bx w3 35 (w.heap.size + 1) n2 (.slice p2 l2 c2) E2 ∧ Ext w w3 ∧ Bx w3 35 (w.heap.size + 2) false (.slice none 0 0) 0) := ⟨H2.out.1.ext hx1, H2.out.2.1.ext hx1, H2.out.2.2.1.trans hx1, H2.out.2.2.2.ext hx1⟩
      clear hx hx1
      have a0 := H3.out.1.c0
      have a1 := H3.out.1.c1
      have a2 := H3.out.1.c2
      have a3 := H3.out.2.1.c0
      have a4 := H3.out.2.1.c1
      have a5 := H3.out.2.1.c2
      have r0 := H3.out.2.2.2.c0
      have r1 := H3.out.2.2.2.c1
      have r2 := H3.out.2.2.2.c2
      have r3 := H3.out.2.2.2.frozen 0
      have r4 := H3.out.2.2.2.frozen 1
      have r5 := H3.out.2.2.2.frozen 2
      go_wp2_with (fail)
      refine (HOr.out _ v1 v2 HW.out.1 HW.out.2).mono ?_
      rintro en w4 ⟨he4, hd⟩
      rw [← HC.out] at he4
      subst he4
      have hx := hd.ext
      have HW2 : Hid (Nt w4 v1 N1 ∧ Nt w4 v2 N2) := ⟨HW.out.1.ext hx, HW.out.2.ext hx⟩
      clear hd a0 a1 a2 a3 a4 a5 r0 r1 r2 r3 r4 r5
      have hx1 : Ext w3 w4 := (by first | exact hx | exact (Ext.of_drew hx) | exact (Ext.of_drewN hx) | fail)
      have H4 : Hid (Bx w4 35 w.heap.size n1 (.slice p1 l1 c1) E1 ∧ Bx w4 35 (w.heap.size + 1) n2 (.slice p2 l2 c2) E2 ∧ Ext w w4 ∧ Bx w4 35 (w.heap.size + 2) false (.slice none 0 0) 0) := ⟨H3.out.1.ext hx1, H3.out.2.1.ext hx1, H3.out.2.2.1.trans hx1, H3.out.2.2.2.ext hx1⟩
      clear hx hx1
      have a0 := H4.out.1.c0
      have a1 := H4.out.1.c1
      have a2 := H4.out.1.c2
      have a3 := H4.out.2.1.c0
      have a4 := H4.out.2.1.c1
      have a5 := H4.out.2.1.c2
      have r0 := H4.out.2.2.2.c0
      have r1 := H4.out.2.2.2.c1
      have r2 := H4.out.2.2.2.c2
      have r3 := H4.out.2.2.2.frozen 0
      have r4 := H4.out.2.2.2.frozen 1
      have r5 := H4.out.2.2.2.frozen 2
      go_wp2_with (fail)
      go_region_held3 (fun w' => w'.cell? ⟨w.heap.size, 0, none⟩ = some (.bool n1) ∧ w'.cell? ⟨w.heap.size, 1, none⟩ = some (.slice p1 l1 c1) ∧ w'.cell? ⟨w.heap.size, 2, none⟩ = some (.int .i64 E1) ∧ w'.cell? ⟨w.heap.size + 1, 0, none⟩ = some (.bool n2) ∧ w'.cell? ⟨w.heap.size + 1, 1, none⟩ = some (.slice p2 l2 c2) ∧ w'.cell? ⟨w.heap.size + 1, 2, none⟩ = some (.int .i64 E2))
        (first | go_keep | (exact ⟨H6.out.1.c0, H6.out.1.c1, H6.out.1.c2, H6.out.2.1.c0, H6.out.2.1.c1, H6.out.2.1.c2⟩) | (exact ⟨H5.out.1.c0, H5.out.1.c1, H5.out.1.c2, H5.out.2.1.c0, H5.out.2.1.c1, H5.out.2.1.c2⟩) | (exact ⟨H4.out.1.c0, H4.out.1.c1, H4.out.1.c2, H4.out.2.1.c0, H4.out.2.1.c1, H4.out.2.1.c2⟩) | (exact ⟨(H6.out.1.set3 (by omega) _ _ _).c0, (H6.out.1.set3 (by omega) _ _ _).c1, (H6.out.1.set3 (by omega) _ _ _).c2, (H6.out.2.1.set3 (by omega) _ _ _).c0, (H6.out.2.1.set3 (by omega) _ _ _).c1, (H6.out.2.1.set3 (by omega) _ _ _).c2⟩) | (exact ⟨(H5.out.1.set3 (by omega) _ _ _).c0, (H5.out.1.set3 (by omega) _ _ _).c1, (H5.out.1.set3 (by omega) _ _ _).c2, (H5.out.2.1.set3 (by omega) _ _ _).c0, (H5.out.2.1.set3 (by omega) _ _ _).c1, (H5.out.2.1.set3 (by omega) _ _ _).c2⟩) | (exact ⟨(H4.out.1.set3 (by omega) _ _ _).c0, (H4.out.1.set3 (by omega) _ _ _).c1, (H4.out.1.set3 (by omega) _ _ _).c2, (H4.out.2.1.set3 (by omega) _ _ _).c0, (H4.out.2.1.set3 (by omega) _ _ _).c1, (H4.out.2.1.set3 (by omega) _ _ _).c2⟩) | fail)
        (first | (go_at_call 82; refine (HL.out _ v1 v2 (by first | exact HW2.out.1 | exact HW2.out.1.ext ((Ext.refl _).drewN _) | exact HW2.out.1.ext (Ext.refl _).drew | fail) (by first | exact HW2.out.2 | exact HW2.out.2.ext ((Ext.refl _).drewN _) | exact HW2.out.2.ext (Ext.refl _).drew | fail)).mono ?_; rintro en w5 ⟨v3, rfl, hx, hd⟩; have HV := Lib.hid hd; clear hd r0 r1 r2 r3 r4 r5; have hx1 : Ext w4 w5 := (by first | exact hx | exact (Ext.of_drew hx) | exact (Ext.of_drewN hx) | fail); have H5 : Hid (Bx w5 35 w.heap.size n1 (.slice p1 l1 c1) E1 ∧ Bx w5 35 (w.heap.size + 1) n2 (.slice p2 l2 c2) E2 ∧ Ext w w5 ∧ Bx w5 35 (w.heap.size + 2) false (.slice none 0 0) 0) := ⟨H4.out.1.ext hx1, H4.out.2.1.ext hx1, H4.out.2.2.1.trans hx1, H4.out.2.2.2.ext hx1⟩; clear hx hx1; have r0 := H5.out.2.2.2.c0; have r1 := H5.out.2.2.2.c1; have r2 := H5.out.2.2.2.c2; have r3 := H5.out.2.2.2.frozen 0; have r4 := H5.out.2.2.2.frozen 1; have r5 := H5.out.2.2.2.frozen 2) | (go_at_call 77; refine (HNm.out _ n1 _ _ _ (by first | exact HV.out | exact HV.out.ext ((Ext.refl _).drewN _) | exact HV.out.ext (Ext.refl _).drew | fail) (by omega) HZ1.out).mono ?_; rintro en w6 ⟨v, rfl, hx, hd⟩; have HD := Lib.hid hd; obtain ⟨nn, pp, ll, cc, oo, EE, rfl, -⟩ := hd.open; clear hd r0 r1 r2 r3 r4 r5; have hx1 : Ext w5 w6 := (by first | exact hx | exact (Ext.of_drew hx) | exact (Ext.of_drewN hx) | fail); have H6 : Hid (Bx w6 35 w.heap.size n1 (.slice p1 l1 c1) E1 ∧ Bx w6 35 (w.heap.size + 1) n2 (.slice p2 l2 c2) E2 ∧ Ext w w6 ∧ Bx w6 35 (w.heap.size + 2) false (.slice none 0 0) 0) := ⟨H5.out.1.ext hx1, H5.out.2.1.ext hx1, H5.out.2.2.1.trans hx1, H5.out.2.2.2.ext hx1⟩; clear hx hx1; have r0 := H6.out.2.2.2.c0; have r1 := H6.out.2.2.2.c1; have r2 := H6.out.2.2.2.c2; have r3 := H6.out.2.2.2.frozen 0; have r4 := H6.out.2.2.2.frozen 1; have r5 := H6.out.2.2.2.frozen 2))
      all_goals
        go_wp2_with (fail)
        refine bodyPost_ret (v := .agg #[.bool nn, .slice pp ll cc, .int .i64 EE]) (by simp [results, Tryz.results32, go_sem, r0, r1, r2]) rfl ⟨_, rfl, ?_, ?_⟩
        · exact H6.out.2.2.1.set3 (by omega) _ _ _
        · exact HD.out.setBx H6.out.2.2.2 IsSl.nil _ _ _
end Go.Proofs.YtdpjkddllimcoaaGreatDoor
end

section
/- The reference's exact numbers: differences, products. -/
namespace Fl
open Go Go.RowKit
theorem Ry.mul_back {w : World} {v : Value} {o1 o2 x y E1 E2 f g : Int} (r1 : Rep o1 E1 x f) (r2 : Rep o2 E2 y g) (h : Ry w v (o1 * o2) (E1 + E2)) : Ry w v (x * y) (f + g) := by
  by_cases h1 : o1 = 0
  · subst h1
    rw [r1.sgn.2.1.2 rfl, Int.zero_mul]
    rw [Int.zero_mul] at h
    exact h.zero_any
  · by_cases h2 : o2 = 0
    · subst h2
      rw [r2.sgn.2.1.2 rfl, Int.mul_zero]
      rw [Int.mul_zero] at h
      exact h.zero_any
    · obtain ⟨k, rfl, rfl⟩ := r1.exp h1
      obtain ⟨j, rfl, rfl⟩ := r2.exp h2
      rw [show o1 * 2 ^ k * (o2 * 2 ^ j) = o1 * o2 * 2 ^ (k + j) by rw [Int.pow_add]; ac_rfl]
      exact h.back (by omega)
theorem sg_mul_sg {n1 n2 : Bool} {x y o1 o2 E1 E2 f g : Int} (r1 : Rep o1 E1 x f) (r2 : Rep o2 E2 y g) (h1 : n1 = decide (x < 0)) (h2 : n2 = decide (y < 0)) : sg (n1 != n2) (o1.natAbs * o2.natAbs) = o1 * o2 := by
  have s1 : n1 = decide (o1 < 0) := by rw [h1]; simp [r1.sgn.1]
  have s2 : n2 = decide (o2 < 0) := by rw [h2]; simp [r2.sgn.1]
  rw [s1, s2, ← Int.natAbs_mul]
  unfold sg
  rcases Int.lt_trichotomy o1 0 with a | a | a <;> rcases Int.lt_trichotomy o2 0 with b | b | b
  · have := Int.mul_pos_of_neg_of_neg a b
    simp [a, b]; omega
  · subst b; simp
  · have := Int.mul_neg_of_neg_of_pos a b
    simp [a, show ¬ o2 < 0 by omega]; omega
  · subst a; simp
  · subst a; simp
  · subst a; simp
  · have := Int.mul_neg_of_pos_of_neg a b
    simp [b, show ¬ o1 < 0 by omega]; omega
  · subst b; simp
  · have := Int.mul_pos a b
    simp [show ¬ o1 < 0 by omega, show ¬ o2 < 0 by omega]; omega
theorem Rep.reach {o E z e : Int} (h : Rep o E z e) {L : Nat} (hz : z.natAbs < 2 ^ L) (he : -1152921504606846976 ≤ e ∧ e ≤ 1152921504606846976) (hL : L ≤ 1000000) : -1152921504606846976 ≤ E ∧ E ≤ 1152921504607846976 ∧ o.natAbs < 2 ^ L := by
  by_cases h0 : z = 0
  · rcases h with ⟨-, h2, h3⟩ | ⟨h2, k, h3, -⟩
    · subst h2 h3; exact ⟨by omega, by omega, Nat.two_pow_pos _⟩
    · have : o = 0 := by
        rcases Int.mul_eq_zero.1 (h3.symm.trans h0) with h | h
        · exact h
        · have := Int.pow_pos (m := k) (show (0 : Int) < 2 by decide); omega
      subst this; simp at h2
  · obtain ⟨h1, h2, h3, -⟩ := h.range h0 hz
    exact ⟨by omega, by omega, h3⟩
end Fl
namespace Go.Proofs.YtdpjkddllimcoaaGreatDoor
open Go.RowKit Fl
set_option maxRecDepth 20000 in
set_option maxHeartbeats 1000000 in
theorem k_Less (a b : Value) (x y f : Int) (L : Nat) (w : World) (h1 : Ry w a x f) (h2 : Ry w b y f) (hx : x.natAbs < 2 ^ L) (hy : y.natAbs < 2 ^ L) (hL : L ≤ 1000000) (hf : -1152921504606846976 ≤ f ∧ f ≤ 1152921504606846976) :
    Calls Tryz.prog 63 #[a, b] w fun en w' => ∃ v, en = .returned v ∧ Ext w w' ∧ Ry w' v (x - y) f := by
  have HM : Hid (∀ w', Ext w w' → Calls Tryz.prog 115 #[b] w' fun en w'' => ∃ v, en = .returned v ∧ Ext w' w'' ∧ Ry w'' v (-y) f) := fun w' hx' => k_Minus b y f w' (h2.ext hx')
  have HP : Hid (∀ w' u, Ext w w' → Ry w' u (-y) f → Calls Tryz.prog 32 #[a, u] w' fun en w'' => ∃ v, en = .returned v ∧ Ext w' w'' ∧ Ry w'' v (x - y) f) := by
    intro w' u hx' hu
    have := k_Plus a u x (-y) f L w' (h1.ext hx') hu hx (by rw [Int.natAbs_neg]; exact hy) hL hf
    rwa [← Int.sub_eq_add_neg] at this
  obtain ⟨n1, p1, l1, c1, o1, E1, rfl, hn1, hl1, hN1, hr1, hp1⟩ := h1.open
  obtain ⟨n2, p2, l2, c2, o2, E2, rfl, hn2, hl2, hN2, hr2, hp2⟩ := h2.open
  obtain ⟨w1, hw1⟩ : ∃ w1, ((w.alloc (.cells #[.bool n1, .slice p1 l1 c1, .int .i64 E1] 35)).alloc (.cells #[.bool n2, .slice p2 l2 c2, .int .i64 E2] 35)).alloc (.cells #[.bool false, .slice none 0 0, .int .i64 0] 35) = w1 := ⟨_, rfl⟩
  have H1 : Hid (Bx w1 35 w.heap.size n1 (.slice p1 l1 c1) E1 ∧ Bx w1 35 (w.heap.size + 1) n2 (.slice p2 l2 c2) E2 ∧ Ext w w1 ∧ Bx w1 35 (w.heap.size + 2) false (.slice none 0 0) 0) := by
    rw [← hw1]
    exact ⟨(Bx.new1 _ _ _ _ _ _).ext ((Ext.refl _).alloc _), (Bx.new2 _ _ _ _ _ _).ext ((Ext.refl _).alloc _), (((Ext.refl w).alloc _).alloc _).alloc _, Bx.new3 _ _ _ _ _ _ _⟩
  have hne1 : ¬ w.heap.size + 1 + 1 = w.heap.size := by omega
  have hne2 : ¬ w.heap.size + 2 = w.heap.size := by omega
  have a0 := H1.out.1.c0
  have a1 := H1.out.1.c1
  have a2 := H1.out.1.c2
  have a3 := H1.out.2.1.c0
  have a4 := H1.out.2.1.c1
  have a5 := H1.out.2.1.c2
  have r0 := H1.out.2.2.2.c0
  have r1 := H1.out.2.2.2.c1
  have r2 := H1.out.2.2.2.c2
  have r3 := H1.out.2.2.2.frozen 0
  have r4 := H1.out.2.2.2.frozen 1
  have r5 := H1.out.2.2.2.frozen 2
  clear h1 h2 hn1 hn2 hl1 hl2 hN1 hN2 hr1 hr2 hp1 hp2 hx hy
  go_enter Tryz.func63, Tryz.ntmps63
  go_wp2_with (fail)
  go_region_held3 (fun w' => w'.cell? ⟨w.heap.size, 0, none⟩ = some (.bool n1) ∧ w'.cell? ⟨w.heap.size, 1, none⟩ = some (.slice p1 l1 c1) ∧ w'.cell? ⟨w.heap.size, 2, none⟩ = some (.int .i64 E1) ∧ w'.cell? ⟨w.heap.size + 1, 0, none⟩ = some (.bool n2) ∧ w'.cell? ⟨w.heap.size + 1, 1, none⟩ = some (.slice p2 l2 c2) ∧ w'.cell? ⟨w.heap.size + 1, 2, none⟩ = some (.int .i64 E2))
    (first | go_keep | (exact ⟨H3.out.1.c0, H3.out.1.c1, H3.out.1.c2, H3.out.2.1.c0, H3.out.2.1.c1, H3.out.2.1.c2⟩) | (exact ⟨H2.out.1.c0, H2.out.1.c1, H2.out.1.c2, H2.out.2.1.c0, H2.out.2.1.c1, H2.out.2.1.c2⟩) | (exact ⟨H1.out.1.c0, H1.out.1.c1, H1.out.1.c2, H1.out.2.1.c0, H1.out.2.1.c1, H1.out.2.1.c2⟩) | (exact ⟨(H3.out.1.set3 (by omega) _ _ _).c0, (H3.out.1.set3 (by omega) _ _ _).c1, (H3.out.1.set3 (by omega) _ _ _).c2, (H3.out.2.1.set3 (by omega) _ _ _).c0, (H3.out.2.1.set3 (by omega) _ _ _).c1, (H3.out.2.1.set3 (by omega) _ _ _).c2⟩) | (exact ⟨(H2.out.1.set3 (by omega) _ _ _).c0, (H2.out.1.set3 (by omega) _ _ _).c1, (H2.out.1.set3 (by omega) _ _ _).c2, (H2.out.2.1.set3 (by omega) _ _ _).c0, (H2.out.2.1.set3 (by omega) _ _ _).c1, (H2.out.2.1.set3 (by omega) _ _ _).c2⟩) | (exact ⟨(H1.out.1.set3 (by omega) _ _ _).c0, (H1.out.1.set3 (by omega) _ _ _).c1, (H1.out.1.set3 (by omega) _ _ _).c2, (H1.out.2.1.set3 (by omega) _ _ _).c0, (H1.out.2.1.set3 (by omega) _ _ _).c1, (H1.out.2.1.set3 (by omega) _ _ _).c2⟩) | fail)
    (first | (go_at_call 115; refine (HM.out _ (by first | exact H1.out.2.2.1 | exact H1.out.2.2.1.drew | exact H1.out.2.2.1.drewN _ | fail)).mono ?_; rintro en w2 ⟨v2, rfl, hx, hd⟩; have HV := Lib.hid hd; clear hd r0 r1 r2 r3 r4 r5; have hx1 : Ext w1 w2 := (by first | exact hx | exact (Ext.of_drew hx) | exact (Ext.of_drewN hx) | fail); have H2 : Hid (Bx w2 35 w.heap.size n1 (.slice p1 l1 c1) E1 ∧ Bx w2 35 (w.heap.size + 1) n2 (.slice p2 l2 c2) E2 ∧ Ext w w2 ∧ Bx w2 35 (w.heap.size + 2) false (.slice none 0 0) 0) := ⟨H1.out.1.ext hx1, H1.out.2.1.ext hx1, H1.out.2.2.1.trans hx1, H1.out.2.2.2.ext hx1⟩; clear hx hx1; have r0 := H2.out.2.2.2.c0; have r1 := H2.out.2.2.2.c1; have r2 := H2.out.2.2.2.c2; have r3 := H2.out.2.2.2.frozen 0; have r4 := H2.out.2.2.2.frozen 1; have r5 := H2.out.2.2.2.frozen 2) | (go_at_call 32; refine (HP.out _ v2 (by first | exact H2.out.2.2.1 | exact H2.out.2.2.1.drew | exact H2.out.2.2.1.drewN _ | fail) (by first | exact HV.out | exact HV.out.ext ((Ext.refl _).drewN _) | exact HV.out.ext (Ext.refl _).drew | fail)).mono ?_; rintro en w3 ⟨v, rfl, hx, hd⟩; have HD := Lib.hid hd; obtain ⟨nn, pp, ll, cc, oo, EE, rfl, -⟩ := hd.open; clear hd; have hx1 : Ext w2 w3 := (by first | exact hx | exact (Ext.of_drew hx) | exact (Ext.of_drewN hx) | fail); have H3 : Hid (Bx w3 35 w.heap.size n1 (.slice p1 l1 c1) E1 ∧ Bx w3 35 (w.heap.size + 1) n2 (.slice p2 l2 c2) E2 ∧ Ext w w3 ∧ Bx w3 35 (w.heap.size + 2) false (.slice none 0 0) 0) := ⟨H2.out.1.ext hx1, H2.out.2.1.ext hx1, H2.out.2.2.1.trans hx1, H2.out.2.2.2.ext hx1⟩; clear hx hx1; have r0 := H3.out.2.2.2.c0; have r1 := H3.out.2.2.2.c1; have r2 := H3.out.2.2.2.c2; have r3 := H3.out.2.2.2.frozen 0; have r4 := H3.out.2.2.2.frozen 1; have r5 := H3.out.2.2.2.frozen 2))
  all_goals
    go_wp2_with (fail)
    refine bodyPost_ret (v := .agg #[.bool nn, .slice pp ll cc, .int .i64 EE]) (by simp [results, Tryz.results63, go_sem, r0, r1, r2]) rfl ⟨_, rfl, ?_, ?_⟩
    · exact H3.out.2.2.1.set3 (by omega) _ _ _
    · exact HD.out.setBx H3.out.2.2.2 IsSl.nil _ _ _
set_option maxRecDepth 20000 in
set_option maxHeartbeats 1000000 in
theorem k_Times (a b : Value) (x y f g : Int) (L : Nat) (w : World) (h1 : Ry w a x f) (h2 : Ry w b y g) (hx : x.natAbs < 2 ^ L) (hy : y.natAbs < 2 ^ L) (hL : L ≤ 500000) (hf : -1152921504606846976 ≤ f ∧ f ≤ 1152921504606846976) (hg : -1152921504606846976 ≤ g ∧ g ≤ 1152921504606846976) :
    Calls Tryz.prog 33 #[a, b] w fun en w' => ∃ v, en = .returned v ∧ Ext w w' ∧ Ry w' v (x * y) (f + g) := by
  obtain ⟨n1, p1, l1, c1, o1, E1, rfl, hn1, hl1, hN1, hr1, hp1⟩ := h1.open
  obtain ⟨n2, p2, l2, c2, o2, E2, rfl, hn2, hl2, hN2, hr2, hp2⟩ := h2.open
  obtain ⟨w1, hw1⟩ : ∃ w1, ((w.alloc (.cells #[.bool n1, .slice p1 l1 c1, .int .i64 E1] 35)).alloc (.cells #[.bool n2, .slice p2 l2 c2, .int .i64 E2] 35)).alloc (.cells #[.bool false, .slice none 0 0, .int .i64 0] 35) = w1 := ⟨_, rfl⟩
  have H1 : Hid (Bx w1 35 w.heap.size n1 (.slice p1 l1 c1) E1 ∧ Bx w1 35 (w.heap.size + 1) n2 (.slice p2 l2 c2) E2 ∧ Ext w w1 ∧ Bx w1 35 (w.heap.size + 2) false (.slice none 0 0) 0) := by
    rw [← hw1]
    exact ⟨(Bx.new1 _ _ _ _ _ _).ext ((Ext.refl _).alloc _), (Bx.new2 _ _ _ _ _ _).ext ((Ext.refl _).alloc _), (((Ext.refl w).alloc _).alloc _).alloc _, Bx.new3 _ _ _ _ _ _ _⟩
  have hne1 : ¬ w.heap.size + 1 + 1 = w.heap.size := by omega
  have hne2 : ¬ w.heap.size + 2 = w.heap.size := by omega
  have a0 := H1.out.1.c0
  have a1 := H1.out.1.c1
  have a2 := H1.out.1.c2
  have a3 := H1.out.2.1.c0
  have a4 := H1.out.2.1.c1
  have a5 := H1.out.2.1.c2
  have r0 := H1.out.2.2.2.c0
  have r1 := H1.out.2.2.2.c1
  have r2 := H1.out.2.2.2.c2
  have r3 := H1.out.2.2.2.frozen 0
  have r4 := H1.out.2.2.2.frozen 1
  have r5 := H1.out.2.2.2.frozen 2
  obtain ⟨b1, b2, b3⟩ := hr1.reach hx hf (by omega)
  obtain ⟨b4, b5, b6⟩ := hr2.reach hy hg (by omega)
  have gw : IntKind.i64.wrap (E1 + E2) = E1 + E2 := IntWalk.i64_in _ (by omega)
  have HPr : Hid (∀ w', Ext w w' → Calls Tryz.prog 83 #[.slice p1 l1 c1, .slice p2 l2 c2] w' fun en w'' => ∃ v', en = .returned v' ∧ Ext w' w'' ∧ Nt w'' v' (o1.natAbs * o2.natAbs)) := fun w' hx' => k_product _ _ _ _ w' (hN1.ext hx') (hN2.ext hx') (fit_of (k := L) (l := 1048575) b3 (by omega)) (fit_of (k := L) (l := 1048575) b6 (by omega))
  have HNm : Hid (∀ w' v, Nt w' v (o1.natAbs * o2.natAbs) → Calls Tryz.prog 77 #[.bool (!(n1 == n2)), v, .int .i64 (E1 + E2)] w' fun en w'' => ∃ v', en = .returned v' ∧ Ext w' w'' ∧ Ry w'' v' (x * y) (f + g)) := by
    intro w' v q1
    obtain ⟨zs, k1, k2, k3, k4⟩ := q1.fitted (L := L + L) (by rw [Nat.pow_add]; exact Nat.mul_lt_mul_of_lt_of_le b3 (Nat.le_of_lt b6) (Nat.lt_of_le_of_lt (Nat.zero_le _) b6)) (by omega)
    refine (k_norm (!(n1 == n2)) v zs (E1 + E2) w' k1 k2 k4 (by omega) (by omega)).mono ?_
    rintro en wn ⟨v', rfl, k5, k6⟩
    rw [k3, show sg (!(n1 == n2)) (o1.natAbs * o2.natAbs) = o1 * o2 from sg_mul_sg hr1 hr2 hn1 hn2] at k6
    exact ⟨v', rfl, k5, k6.mul_back hr1 hr2⟩
  generalize hnn : (!(n1 == n2)) = n12 at *
  clear h1 h2 hn1 hn2 hl1 hl2 hN1 hN2 hr1 hr2 hp1 hp2 hx hy b3 b6
  generalize o1.natAbs * o2.natAbs = N at *
  go_enter Tryz.func33, Tryz.ntmps33
  go_wp2_with (fail)
  go_region_held3 (fun w' => w'.cell? ⟨w.heap.size, 0, none⟩ = some (.bool n1) ∧ w'.cell? ⟨w.heap.size, 1, none⟩ = some (.slice p1 l1 c1) ∧ w'.cell? ⟨w.heap.size, 2, none⟩ = some (.int .i64 E1) ∧ w'.cell? ⟨w.heap.size + 1, 0, none⟩ = some (.bool n2) ∧ w'.cell? ⟨w.heap.size + 1, 1, none⟩ = some (.slice p2 l2 c2) ∧ w'.cell? ⟨w.heap.size + 1, 2, none⟩ = some (.int .i64 E2))
    (first | go_keep | (exact ⟨H3.out.1.c0, H3.out.1.c1, H3.out.1.c2, H3.out.2.1.c0, H3.out.2.1.c1, H3.out.2.1.c2⟩) | (exact ⟨H2.out.1.c0, H2.out.1.c1, H2.out.1.c2, H2.out.2.1.c0, H2.out.2.1.c1, H2.out.2.1.c2⟩) | (exact ⟨H1.out.1.c0, H1.out.1.c1, H1.out.1.c2, H1.out.2.1.c0, H1.out.2.1.c1, H1.out.2.1.c2⟩) | (exact ⟨(H3.out.1.set3 (by omega) _ _ _).c0, (H3.out.1.set3 (by omega) _ _ _).c1, (H3.out.1.set3 (by omega) _ _ _).c2, (H3.out.2.1.set3 (by omega) _ _ _).c0, (H3.out.2.1.set3 (by omega) _ _ _).c1, (H3.out.2.1.set3 (by omega) _ _ _).c2⟩) | (exact ⟨(H2.out.1.set3 (by omega) _ _ _).c0, (H2.out.1.set3 (by omega) _ _ _).c1, (H2.out.1.set3 (by omega) _ _ _).c2, (H2.out.2.1.set3 (by omega) _ _ _).c0, (H2.out.2.1.set3 (by omega) _ _ _).c1, (H2.out.2.1.set3 (by omega) _ _ _).c2⟩) | (exact ⟨(H1.out.1.set3 (by omega) _ _ _).c0, (H1.out.1.set3 (by omega) _ _ _).c1, (H1.out.1.set3 (by omega) _ _ _).c2, (H1.out.2.1.set3 (by omega) _ _ _).c0, (H1.out.2.1.set3 (by omega) _ _ _).c1, (H1.out.2.1.set3 (by omega) _ _ _).c2⟩) | fail)
    (first | (go_at_call 83; refine (HPr.out _ (by first | exact H1.out.2.2.1 | exact H1.out.2.2.1.drew | exact H1.out.2.2.1.drewN _ | fail)).mono ?_; rintro en w2 ⟨v2, rfl, hx, hd⟩; have HV := Lib.hid hd; clear hd r0 r1 r2 r3 r4 r5; have hx1 : Ext w1 w2 := (by first | exact hx | exact (Ext.of_drew hx) | exact (Ext.of_drewN hx) | fail); have H2 : Hid (Bx w2 35 w.heap.size n1 (.slice p1 l1 c1) E1 ∧ Bx w2 35 (w.heap.size + 1) n2 (.slice p2 l2 c2) E2 ∧ Ext w w2 ∧ Bx w2 35 (w.heap.size + 2) false (.slice none 0 0) 0) := ⟨H1.out.1.ext hx1, H1.out.2.1.ext hx1, H1.out.2.2.1.trans hx1, H1.out.2.2.2.ext hx1⟩; clear hx hx1; have r0 := H2.out.2.2.2.c0; have r1 := H2.out.2.2.2.c1; have r2 := H2.out.2.2.2.c2; have r3 := H2.out.2.2.2.frozen 0; have r4 := H2.out.2.2.2.frozen 1; have r5 := H2.out.2.2.2.frozen 2) | (go_at_call 77; refine (HNm.out _ v2 (by first | exact HV.out | exact HV.out.ext ((Ext.refl _).drewN _) | exact HV.out.ext (Ext.refl _).drew | fail)).mono ?_; rintro en w3 ⟨v, rfl, hx, hd⟩; have HD := Lib.hid hd; obtain ⟨nn, pp, ll, cc, oo, EE, rfl, -⟩ := hd.open; clear hd; have hx1 : Ext w2 w3 := (by first | exact hx | exact (Ext.of_drew hx) | exact (Ext.of_drewN hx) | fail); have H3 : Hid (Bx w3 35 w.heap.size n1 (.slice p1 l1 c1) E1 ∧ Bx w3 35 (w.heap.size + 1) n2 (.slice p2 l2 c2) E2 ∧ Ext w w3 ∧ Bx w3 35 (w.heap.size + 2) false (.slice none 0 0) 0) := ⟨H2.out.1.ext hx1, H2.out.2.1.ext hx1, H2.out.2.2.1.trans hx1, H2.out.2.2.2.ext hx1⟩; clear hx hx1; have r0 := H3.out.2.2.2.c0; have r1 := H3.out.2.2.2.c1; have r2 := H3.out.2.2.2.c2; have r3 := H3.out.2.2.2.frozen 0; have r4 := H3.out.2.2.2.frozen 1; have r5 := H3.out.2.2.2.frozen 2))
  all_goals
    go_wp2_with (fail)
    refine bodyPost_ret (v := .agg #[.bool nn, .slice pp ll cc, .int .i64 EE]) (by simp [results, Tryz.results33, go_sem, r0, r1, r2]) rfl ⟨_, rfl, ?_, ?_⟩
    · exact H3.out.2.2.1.set3 (by omega) _ _ _
    · exact HD.out.setBx H3.out.2.2.2 IsSl.nil _ _ _
end Go.Proofs.YtdpjkddllimcoaaGreatDoor
end

section
/- Rounding a number of which the first digits are known, and whether something is left: plain facts. -/
namespace Fl
open Ieee
/-- the number lies at N times 2 to the e; where something is left (rest): between that and the next. -/
def Cr (c : Nat → Ordering) (N : Nat) (e : Int) (rest : Bool) : Prop :=
  Anti c ∧ if rest then ∀ t, (cD N e t ≠ .lt → c t = .gt) ∧ (cD (N + 1) e t ≠ .gt → c t = .lt) else c = cD N e
def ordI : Ordering → Int
  | .lt => -1
  | .eq => 0
  | .gt => 1
theorem cmp_ne_lt {a b : Nat} : compare a b ≠ .lt ↔ b ≤ a := by rw [Ne, Nat.compare_eq_lt]; omega
theorem cmp_ne_gt {a b : Nat} : compare a b ≠ .gt ↔ a ≤ b := by rw [Ne, Nat.compare_eq_gt]; omega
theorem cmp_ne_eq {a b : Nat} : compare a b ≠ .eq ↔ a ≠ b := by rw [Ne, Nat.compare_eq_eq]
theorem Cr.cut {c : Nat → Ordering} {N : Nat} {e : Int} {rest : Bool} {l D : Nat} (h : Cr c N e rest) (he : e = (l : Int) - 1074 - (D : Int)) (hD : 1 ≤ D) :
    c (N / 2 ^ D * 2 ^ (l + 1)) ≠ .lt ∧ c ((N / 2 ^ D + 1) * 2 ^ (l + 1)) = .lt ∧ ((rest || decide (N % 2 ^ D ≠ 0)) = true ↔ c (N / 2 ^ D * 2 ^ (l + 1)) ≠ .eq) ∧
    ordI (c ((2 * (N / 2 ^ D) + 1) * 2 ^ l)) = (if N % 2 ^ D < 2 ^ (D - 1) then -1 else if N % 2 ^ D = 2 ^ (D - 1) ∧ rest = false then 0 else 1) := by
  have hp : 0 < 2 ^ D := Nat.two_pow_pos _
  have hdm := Nat.div_add_mod N (2 ^ D)
  have hml := Nat.mod_lt N hp
  have hhalf : 2 ^ D = 2 * 2 ^ (D - 1) := by rw [← Nat.pow_succ']; congr 1; omega
  rw [Nat.mul_comm] at hdm
  generalize N / 2 ^ D = q at *
  generalize N % 2 ^ D = low at *
  have a1 : ∀ M s, cD M e (s * 2 ^ (l + 1)) = compare M (s * 2 ^ D) := fun M s => cD_at he
  have a2 : ∀ M s, cD M e (s * 2 ^ l) = compare (2 * M) (s * 2 ^ D) := fun M s => cD_half he
  have e1 : (q + 1) * 2 ^ D = q * 2 ^ D + 2 ^ D := by rw [Nat.add_mul, Nat.one_mul]
  have e2 : (2 * q + 1) * 2 ^ D = 2 * (q * 2 ^ D) + 2 ^ D := by rw [Nat.add_mul, Nat.one_mul, Nat.mul_assoc]
  cases rest
  · obtain ⟨-, h⟩ := h
    simp only [Bool.false_eq_true, if_false] at h
    subst h
    rw [a1, a1, a2]
    refine ⟨cmp_ne_lt.2 (by omega), Nat.compare_eq_lt.2 (by omega), ?_, ?_⟩
    · rw [cmp_ne_eq]; simp; omega
    · by_cases h1 : low < 2 ^ (D - 1)
      · rw [if_pos h1, Nat.compare_eq_lt.2 (by omega)]; rfl
      · rw [if_neg h1]
        by_cases h2 : low = 2 ^ (D - 1)
        · rw [if_pos ⟨h2, rfl⟩, Nat.compare_eq_eq.2 (by omega)]; rfl
        · rw [if_neg (fun h => h2 h.1), Nat.compare_eq_gt.2 (by omega)]; rfl
  · obtain ⟨-, h⟩ := h
    simp only [if_true] at h
    have g1 : c (q * 2 ^ (l + 1)) = .gt := (h _).1 (by rw [a1]; exact cmp_ne_lt.2 (by omega))
    have g2 : c ((q + 1) * 2 ^ (l + 1)) = .lt := (h _).2 (by rw [a1]; exact cmp_ne_gt.2 (by omega))
    refine ⟨by rw [g1]; decide, g2, ?_, ?_⟩
    · rw [g1]; simp
    · by_cases h1 : low < 2 ^ (D - 1)
      · rw [if_pos h1, (h _).2 (by rw [a2]; exact cmp_ne_gt.2 (by omega))]; rfl
      · rw [if_neg h1, if_neg (fun h => by simp at h), (h _).1 (by rw [a2]; exact cmp_ne_lt.2 (by omega))]; rfl
/-- the rung, from the digits that are kept. -/
def upBy (d q : Nat) (r : Bool) (h : Int) : Nat := if d = 0 then q else if d = 2 then (if r then q + 1 else q) else if 0 < h ∨ (h = 0 ∧ q % 2 = 1) then q + 1 else q
theorem rnd_up {c : Nat → Ordering} (hc : Anti c) {d l q : Nat} {r : Bool} {h : Int} (hq : q < 2 * B) (h2 : l = 0 ∨ B ≤ q) (lo : c (q * 2 ^ (l + 1)) ≠ .lt)
    (hi : c ((q + 1) * 2 ^ (l + 1)) = .lt) (hr : l * B + q < INF) (hrr : r = true ↔ c (q * 2 ^ (l + 1)) ≠ .eq) (hh : ordI (c ((2 * q + 1) * 2 ^ l)) = h) :
    rnd c d = l * B + upBy d q r h := by
  rw [rnd_lq hc hq h2 lo hi hr]
  congr 1
  unfold upBy
  by_cases d0 : d = 0
  · rw [if_pos d0, if_pos d0]
  · rw [if_neg d0, if_neg d0]
    by_cases d2 : d = 2
    · rw [if_pos d2, if_pos d2]
      by_cases he : c (q * 2 ^ (l + 1)) = .eq
      · have : r = false := by
          cases r
          · rfl
          · exact absurd he (hrr.1 rfl)
        rw [if_pos he, this]; rfl
      · rw [if_neg he, hrr.2 he]; rfl
    · rw [if_neg d2, if_neg d2]
      subst hh
      cases c ((2 * q + 1) * 2 ^ l)
      · rw [if_neg (by simp [ordI])]
      · rcases Nat.mod_two_eq_zero_or_one q with h | h
        · rw [if_neg (by simp [ordI, h])]; simp [h]
        · rw [if_pos (by simp [ordI, h])]; simp [h]
      · rw [if_pos (by simp [ordI])]
theorem upBy_le (d q : Nat) (r : Bool) (h : Int) : q ≤ upBy d q r h ∧ upBy d q r h ≤ q + 1 := by
  unfold upBy
  split
  · omega
  · split
    · split <;> omega
    · split <;> omega
/-- nothing is cut. -/
theorem Cr.exact {c : Nat → Ordering} {N : Nat} {e : Int} {l k : Nat} (h : Cr c N e false) (he : e = (l : Int) - 1074 + (k : Int)) :
    c (N * 2 ^ k * 2 ^ (l + 1)) = .eq ∧ c ((N * 2 ^ k + 1) * 2 ^ (l + 1)) = .lt ∧ c ((2 * (N * 2 ^ k) + 1) * 2 ^ l) = .lt := by
  obtain ⟨-, h⟩ := h
  simp only [Bool.false_eq_true, if_false] at h
  subst h
  rw [← cD_shift N e k]
  have he' : e - (k : Int) = (l : Int) - 1074 - ((0 : Nat) : Int) := by omega
  rw [cD_at he', cD_at he', cD_half he']
  refine ⟨?_, ?_, ?_⟩
  · rw [Nat.compare_eq_eq]; simp
  · rw [Nat.compare_eq_lt]; simp
  · rw [Nat.compare_eq_lt]; simp
theorem cD_gt_of {N : Nat} {e : Int} {t s : Nat} (h : cD N e t ≠ .lt) (hs : s < t) : cD N e s = .gt := cD_strict N e s t hs h
theorem Cr.gt {c : Nat → Ordering} {N : Nat} {e : Int} {rest : Bool} (h : Cr c N e rest) {t s : Nat} (ht : cD N e t ≠ .lt) (hs : s < t) : c s = .gt := by
  have g := cD_gt_of ht hs
  cases rest
  · obtain ⟨-, h⟩ := h
    simp only [Bool.false_eq_true, if_false] at h
    rw [h]; exact g
  · obtain ⟨-, h⟩ := h
    simp only [if_true] at h
    exact (h s).1 (by rw [g]; decide)
/-- beyond the greatest float. -/
theorem Cr.over {c : Nat → Ordering} {N : Nat} {e : Int} {rest : Bool} (h : Cr c N e rest) {d : Nat} (hN : 2 ^ (1024 - e).toNat ≤ N * 2 ^ (e - 1024).toNat) : rnd c d = if d = 0 then INF - 1 else INF := by
  have hge : cD N e (2 * V INF) ≠ .lt := by
    intro hlt
    have hEB := EB_eq
    rw [V_INF, ← Nat.mul_assoc, show 2 * B = 2 ^ 53 by decide, ← Nat.pow_add] at hlt
    unfold cD at hlt
    rw [cQ_lt] at hlt
    rcases Int.le_total 1024 e with h1 | h1
    · rw [show (-(e + 1075)).toNat = 0 by omega, Nat.pow_zero, Nat.mul_one] at hlt
      rw [show (1024 - e).toNat = 0 by omega] at hN
      have : 2 ^ (53 + EB) * 1 ≤ 2 ^ (53 + EB) * (N * 2 ^ (e - 1024).toNat) := Nat.mul_le_mul_left _ (by simpa using hN)
      rw [Nat.mul_one, Nat.mul_comm, Nat.mul_assoc, ← Nat.pow_add, show (e - 1024).toNat + (53 + EB) = (e + 1075).toNat by omega] at this
      omega
    · rw [show (e - 1024).toNat = 0 by omega, Nat.pow_zero, Nat.mul_one] at hN
      rcases Int.le_total 0 (e + 1075) with h2 | h2
      · rw [show (-(e + 1075)).toNat = 0 by omega, Nat.pow_zero, Nat.mul_one] at hlt
        have : 2 ^ (1024 - e).toNat * 2 ^ (e + 1075).toNat ≤ N * 2 ^ (e + 1075).toNat := Nat.mul_le_mul_right _ hN
        rw [← Nat.pow_add, show (1024 - e).toNat + (e + 1075).toNat = 53 + EB by omega] at this
        omega
      · rw [show (e + 1075).toNat = 0 by omega, Nat.pow_zero, Nat.mul_one, ← Nat.pow_add, show 53 + EB + (-(e + 1075)).toNat = (1024 - e).toNat by omega] at hlt
        omega
  have hI : INF - 1 + 1 = INF := by decide
  have lt1 : V (INF - 1) < V INF := by rw [← hI]; exact V_succ _
  have f : Floor c (INF - 1) := ⟨by decide, by rw [h.gt hge (by omega)]; decide, fun h => absurd h (by decide)⟩
  rw [rnd_eq h.1 f]
  unfold pick
  by_cases d0 : d = 0
  · rw [if_pos d0, if_pos d0]
  · rw [if_neg d0, if_neg d0, h.gt hge (show 2 * V (INF - 1) < 2 * V INF by omega), h.gt hge (show V (INF - 1) + V (INF - 1 + 1) < 2 * V INF by rw [hI]; omega)]
    split <;> rfl
/-- below the half of the least float. -/
theorem Cr.under {c : Nat → Ordering} {N : Nat} {e : Int} {rest : Bool} (h : Cr c N e rest) {d : Nat} (h0 : 0 < N) {b : Nat} (hb : N < 2 ^ b) (hbe : (b : Int) + e < -1075) : rnd c d = if d = 2 then 1 else 0 := by
  have ez : (e + 1075).toNat = 0 := by omega
  have c0 : c 0 = .gt := by
    have : cD N e 0 = .gt := by
      unfold cD
      rw [cQ_gt, ez]; simp; omega
    cases rest
    · obtain ⟨-, h⟩ := h
      simp only [Bool.false_eq_true, if_false] at h
      rw [h]; exact this
    · obtain ⟨-, h⟩ := h
      simp only [if_true] at h
      exact (h 0).1 (by rw [this]; decide)
  have hlt : N + 1 < 2 ^ (-(e + 1075)).toNat := by
    have := Nat.pow_lt_pow_right (show 1 < 2 by decide) (show b < (-(e + 1075)).toNat by omega)
    omega
  have c1 : c 1 = .lt := by
    cases rest
    · obtain ⟨-, h⟩ := h
      simp only [Bool.false_eq_true, if_false] at h
      rw [h]
      unfold cD
      rw [cQ_lt, ez]; simp; omega
    · obtain ⟨-, h⟩ := h
      simp only [if_true] at h
      refine (h 1).2 ?_
      unfold cD
      rw [Ne, cQ_gt, ez]; simp; omega
  have v0 : V 0 = 0 := by decide
  have v1 : V 1 = 1 := by decide
  have f : Floor c 0 := ⟨by decide, by rw [v0, c0]; decide, fun _ => h.1 1 _ (by rw [v1]; decide) c1⟩
  rw [rnd_eq h.1 f]
  unfold pick
  by_cases d0 : d = 0
  · rw [if_pos d0, if_neg (by omega)]
  · rw [if_neg d0]
    by_cases d2 : d = 2
    · rw [if_pos d2, if_pos d2, v0, c0]; rfl
    · rw [if_neg d2, if_neg d2, v0, v1, show 0 + 1 = 1 from rfl, c1]
end Fl
end

section
/- Ldexp at whole numbers of 53 bits. -/
namespace Fl
open Go
theorem nearest_nat {Q : Nat} (h : Q ≤ 9007199254740992) : FloatKind.f64.nearest (Q : Int) < INF ∧ V (FloatKind.f64.nearest (Q : Int)) = Q * 2 ^ EM ∧ (0 < Q → 0 < FloatKind.f64.nearest (Q : Int)) ∧ (Q = 0 → FloatKind.f64.nearest (Q : Int) = 0) := by
  have e : FloatKind.f64.nearest (Q : Int) = word false (rnd (cD Q 0) 1) := by
    unfold FloatKind.nearest FloatKind.encode
    rw [show FloatKind.f64.format = Ieee.double from rfl]
    simp only [Ieee.Format.write]
    rw [nearest_eq]
    have : decide ((Q : Int) < 0) = false := by simp
    rw [this, Int.natAbs_natCast]
  rw [e]
  simp only [word, Bool.false_eq_true, if_false]
  have hB : B = 2 ^ 52 := by decide
  have hE := EM_eq
  rcases Nat.eq_zero_or_pos Q with h0 | h0
  · subst h0
    rw [rnd_zero]
    exact ⟨by decide, by rw [V_zero]; simp, by omega, by simp⟩
  by_cases hQ : Q = 9007199254740992
  · -- 2^53
    have hs := cD_shift B 1 1
    have hQB : B * 2 ^ 1 = Q := by unfold B; omega
    rw [show (1 : Int) - (1 : Nat) = 0 from rfl, hQB] at hs
    rw [hs, rnd_exact (l := EM + 1) (q := B) (by omega) (by unfold B; omega) (.inr (Nat.le_refl _)) (by unfold B INF; omega)]
    refine ⟨by unfold B INF; omega, ?_, fun _ => by unfold B; omega, fun h => by omega⟩
    rw [V_of (by unfold B; omega) (.inr (Nat.le_refl _)), Nat.pow_succ, ← hQB]
    rw [Nat.pow_one, Nat.mul_assoc, Nat.mul_comm 2]
  · have h1 := Nat.log2_self_le (by omega : Q ≠ 0)
    have h2 := @Nat.lt_log2_self Q
    generalize Q.log2 = K at *
    have hK : K ≤ 52 := by
      rcases Nat.lt_or_ge 52 K with h | h
      · have := Nat.pow_le_pow_right (show 0 < 2 by decide) h
        omega
      · exact h
    have q1 : B ≤ Q * 2 ^ (52 - K) := by
      have := Nat.mul_le_mul_right (2 ^ (52 - K)) h1
      rw [← Nat.pow_add, show K + (52 - K) = 52 by omega] at this
      omega
    have q2 : Q * 2 ^ (52 - K) < 2 * B := by
      have := Nat.mul_lt_mul_of_pos_right h2 (Nat.two_pow_pos (52 - K))
      rw [← Nat.pow_add, show K + 1 + (52 - K) = 52 + 1 by omega, Nat.pow_succ] at this
      omega
    have hs := cD_shift Q 0 (52 - K)
    rw [← hs, rnd_exact (l := EM - (52 - K)) (by omega) q2 (.inr q1) (by unfold B INF at *; omega)]
    refine ⟨by unfold B INF at *; omega, ?_, fun _ => by unfold B at *; omega, fun h => by omega⟩
    rw [V_of (by omega) (.inr q1), Nat.mul_assoc, ← Nat.pow_add, show 52 - K + (EM - (52 - K)) = EM by omega]
/-- a rung, but no more than infinity's. -/
def capR (l Q : Nat) : Nat := if l * B + Q < INF then l * B + Q else INF
end Fl
namespace Go.Proofs.YtdpjkddllimcoaaGreatDoor
open Go.RowKit Fl
attribute [local go_sem] m_bits m_of
theorem m_Ldexp_of (Q l : Nat) (k : Int) (h : Q ≤ 9007199254740992) (hk : k = (l : Int) - 1074) (hl : l ≤ 2045) (hn : l = 0 ∨ B ≤ Q) (w : World) :
    Calls Tryz.prog 172 #[.float .f64 (FloatKind.f64.nearest (Q : Int)), .int .i64 k] w fun en wn => en = .returned (.float .f64 (capR l Q)) ∧ w = wn := by
  unfold capR
  obtain ⟨f1, f2, f3, f4⟩ := nearest_nat h
  have hE := EM_eq
  rcases Nat.eq_zero_or_pos Q with h0 | h0
  · have hl0 : l = 0 := by
      rcases hn with hn | hn
      · exact hn
      · unfold B at hn; omega
    subst h0 hl0
    rw [f4 rfl]
    simpa [show (0 : Nat) < INF by decide] using m_Ldexp_zero 0 (by decide) (by decide) k w
  · generalize FloatKind.f64.nearest (Q : Int) = f at *
    have hfS : f < S := by unfold INF S at *; omega
    have hf64 : f < 18446744073709551616 := by unfold S at *; omega
    have hfm : mag f = f := Nat.mod_eq_of_lt hfS
    have hfn : neg f = false := neg_false (by omega)
    by_cases hr : l * B + Q < INF
    · rw [if_pos hr]
      have := m_Ldexp_exact f k (l * B + Q) hf64 (by rw [hfm]; exact f3 h0) (by rw [hfm]; exact f1) (by omega) (by omega) hr (by
        rw [hfm, f2, V_of (by unfold B; omega) hn, Nat.mul_assoc, Nat.mul_assoc, ← Nat.pow_add, ← Nat.pow_add]
        congr 2; omega) w
      rw [hfn] at this
      exact this
    · rw [if_neg hr]
      have hB : B = 2 ^ 52 := by decide
      have := m_Ldexp_inf f k hf64 (by rw [hfm]; exact f3 h0) (by rw [hfm]; exact f1) (by omega) (by omega) (by
        rw [hfm, f2, V_INF]
        have hEB := EB_eq
        have hl5 : l = 2045 := by unfold B INF at *; omega
        have hQ : Q = 2 * B := by unfold B INF at *; omega
        rw [hQ, Nat.mul_comm 2 B, Nat.mul_assoc, Nat.mul_assoc, Nat.mul_assoc]
        refine Nat.mul_le_mul_left _ ?_
        rw [← Nat.pow_add, ← Nat.pow_add, ← Nat.pow_succ']
        exact Nat.pow_le_pow_right (by decide) (by omega)) w
      rw [hfn] at this
      exact this
end Go.Proofs.YtdpjkddllimcoaaGreatDoor
end

section
/- Exact numbers: differences, products. -/
namespace Fl
open Go Go.RowKit
theorem Ext.of_drew {a b : World} (h : Ext a.drew b) : Ext a b := h
theorem Dy.mul_back {w : World} {v : Value} {o1 o2 x y E1 E2 f g : Int} (r1 : Rep o1 E1 x f) (r2 : Rep o2 E2 y g) (h : Dy w v (o1 * o2) (E1 + E2)) : Dy w v (x * y) (f + g) := by
  by_cases h1 : o1 = 0
  · subst h1
    rw [r1.sgn.2.1.2 rfl, Int.zero_mul]
    rw [Int.zero_mul] at h
    exact h.zero_any
  · by_cases h2 : o2 = 0
    · subst h2
      rw [r2.sgn.2.1.2 rfl, Int.mul_zero]
      rw [Int.mul_zero] at h
      exact h.zero_any
    · obtain ⟨k, rfl, rfl⟩ := r1.exp h1
      obtain ⟨j, rfl, rfl⟩ := r2.exp h2
      rw [show o1 * 2 ^ k * (o2 * 2 ^ j) = o1 * o2 * 2 ^ (k + j) by rw [Int.pow_add]; ac_rfl]
      exact h.back (by omega)
theorem natAbs_mul_lt {x y : Int} {L M : Nat} (hx : x.natAbs < 2 ^ L) (hy : y.natAbs < 2 ^ M) : (x * y).natAbs < 2 ^ (L + M) := by
  rw [Int.natAbs_mul, Nat.pow_add]
  exact Nat.mul_lt_mul_of_lt_of_le hx (Nat.le_of_lt hy) (Nat.lt_of_le_of_lt (Nat.zero_le _) hy)
end Fl
namespace Go.Proofs.YtdpjkddllimcoaaGreatDoor
open Go.RowKit Fl
set_option maxRecDepth 20000 in
theorem d_Sub (a b : Value) (x y f : Int) (L : Nat) (w : World) (h1 : Dy w a x f) (h2 : Dy w b y f) (hx : x.natAbs < 2 ^ L) (hy : y.natAbs < 2 ^ L) (hL : L + 1 ≤ 65536) (hf : -65536 ≤ f) (hf2 : f + L + 1 ≤ 65536) (hT : Tab32 w) :
    Calls Tryz.prog 55 #[a, b] w fun en w' => ∃ v, en = .returned (.tuple #[v, .int .i64 0]) ∧ Ext w w' ∧ Dy w' v (x - y) f := by
  have D1 := Lib.hid h1
  have D2 := Lib.hid h2
  have HT := Lib.hid hT
  obtain ⟨n1, p1, l1, c1, o1, E1, rfl, -, -, d1, r1, k1⟩ := h1.open
  obtain ⟨n2, p2, l2, c2, o2, E2, rfl, -, -, d2, r2, k2⟩ := h2.open
  have HB := Lib.hid (boxes3 w 47 n1 (.slice p1 l1 c1) E1 n2 (.slice p2 l2 c2) E2 (.cells #[.bool n1, .slice p1 l1 c1, .int .i64 E1, .bool n2, .slice p2 l2 c2, .int .i64 E2] 47))
  have HV := Lib.hid (d_valid2 o1 E1 o2 E2 n1 n2 (.slice p1 l1 c1) (.slice p2 l2 c2) (w.heap.size + 3) _ HB.out.2.2.2.2 (d1.ext HB.out.1) (d2.ext HB.out.1) k1 k2)
  have HA : Hid (∀ w1 v1, Ext w w1 → Dy w1 v1 (-y) f → Calls _ _ _ w1 _) := fun w1 v1 hx' hv => d_Add _ v1 x (-y) f L w1 (h1.ext hx') hv hx (by rw [Int.natAbs_neg]; exact hy) hL hf hf2 (hT.ext hx')
  clear h1 h2 hx hy d1 d2 r1 r2 k1 k2 hT
  go_enter Tryz.func55, Tryz.ntmps55
  go_wp2_with (fail)
  refine HV.out.mono ?_
  rintro en w1 ⟨rfl, hx⟩
  have H1 := Lib.hid (And.intro (HB.out.1.trans hx) (And.intro (HB.out.2.1.ext hx) (And.intro (HB.out.2.2.1.ext hx) (HB.out.2.2.2.1.ext hx))))
  have a0 := H1.out.2.1.c0
  have a1 := H1.out.2.1.c1
  have a2 := H1.out.2.1.c2
  have a3 := H1.out.2.2.1.c0
  have a4 := H1.out.2.2.1.c1
  have a5 := H1.out.2.2.1.c2
  clear hx
  have hne1 : ¬ w.heap.size + 1 + 1 = w.heap.size := by omega
  have hne2 : ¬ w.heap.size + 2 = w.heap.size := by omega
  go_wp2_with (fail)
  go_region_held3 (fun w' => w'.cell? ⟨w.heap.size, 0, none⟩ = some (.bool n1) ∧ w'.cell? ⟨w.heap.size, 1, none⟩ = some (.slice p1 l1 c1) ∧ w'.cell? ⟨w.heap.size, 2, none⟩ = some (.int .i64 E1) ∧ w'.cell? ⟨w.heap.size + 1, 0, none⟩ = some (.bool n2) ∧ w'.cell? ⟨w.heap.size + 1, 1, none⟩ = some (.slice p2 l2 c2) ∧ w'.cell? ⟨w.heap.size + 1, 2, none⟩ = some (.int .i64 E2))
    (first | go_keep | (exact ⟨H2.out.1.c0, H2.out.1.c1, H2.out.1.c2, H2.out.2.1.c0, H2.out.2.1.c1, H2.out.2.1.c2⟩) | (exact ⟨(H2.out.1.set3 (by omega) _ _ _).c0, (H2.out.1.set3 (by omega) _ _ _).c1, (H2.out.1.set3 (by omega) _ _ _).c2, (H2.out.2.1.set3 (by omega) _ _ _).c0, (H2.out.2.1.set3 (by omega) _ _ _).c1, (H2.out.2.1.set3 (by omega) _ _ _).c2⟩) | fail)
    (first | (go_at_call 110; refine (d_Neg _ y f _ (D2.out.ext H1.out.1.drew)).mono ?_; rintro en w2 ⟨v1, rfl, hx, hd⟩; have H2 : Hid (Bx w2 47 w.heap.size n1 (.slice p1 l1 c1) E1 ∧ Bx w2 47 (w.heap.size + 1) n2 (.slice p2 l2 c2) E2 ∧ Ext w w2 ∧ Bx w2 47 (w.heap.size + 2) false (.slice none 0 0) 0) := ⟨H1.out.2.1.ext hx, H1.out.2.2.1.ext hx, H1.out.1.trans hx, H1.out.2.2.2.ext hx⟩; have HD2 := Lib.hid hd; clear hx hd) | (go_at_call 64; refine (HA.out _ _ H2.out.2.2.1 HD2.out).mono ?_; rintro en w3 ⟨v, rfl, hx, hd⟩; have H3 : Hid (Bx w3 47 w.heap.size n1 (.slice p1 l1 c1) E1 ∧ Bx w3 47 (w.heap.size + 1) n2 (.slice p2 l2 c2) E2 ∧ Ext w w3 ∧ Bx w3 47 (w.heap.size + 2) false (.slice none 0 0) 0) := ⟨H2.out.1.ext hx, H2.out.2.1.ext hx, H2.out.2.2.1.trans hx, H2.out.2.2.2.ext hx⟩; have H2 := H3; have HD3 := Lib.hid hd; obtain ⟨neg0, s0, E0, rfl⟩ := hd.form; obtain ⟨p0, l0, c0, rfl⟩ := hd.sl; have r0 := H2.out.2.2.2.c0; have r1 := H2.out.2.2.2.c1; have r2 := H2.out.2.2.2.c2; have r3 := H2.out.2.2.2.frozen 0; have r4 := H2.out.2.2.2.frozen 1; have r5 := H2.out.2.2.2.frozen 2; clear hx hd H3))
  all_goals
    go_wp2_with (fail)
    refine bodyPost_ret (v := .tuple #[.agg #[.bool neg0, .slice p0 l0 c0, .int .i64 E0], .int .i64 0]) (by simp [results, Tryz.results55, go_sem, r0, r1, r2]) rfl ⟨_, rfl, ?_, ?_⟩
    · exact H2.out.2.2.1.set3 (by omega) _ _ _
    · rw [Int.sub_eq_add_neg]
      exact HD3.out.setBx H2.out.2.2.2 IsSl.nil _ _ _
end Go.Proofs.YtdpjkddllimcoaaGreatDoor
end

section
/- Exact numbers: products. -/
namespace Fl
open Go Go.RowKit
theorem Ext.ext_chg {a b c : World} {g : Nat} (h : Ext a b) (k : Chg g b c) (hg : a.heap.size ≤ g) : Ext a c := Chg.ext h k hg
end Fl
namespace Go.Proofs.YtdpjkddllimcoaaGreatDoor
open Go.RowKit Fl
set_option maxRecDepth 20000 in
set_option maxHeartbeats 1000000 in
theorem d_Mul (a b : Value) (x y f g : Int) (L M : Nat) (w : World) (h1 : Dy w a x f) (h2 : Dy w b y g) (hx : x.natAbs < 2 ^ L) (hy : y.natAbs < 2 ^ M) (hL : L + M ≤ 65536) (hf : -65536 ≤ f + g) (hf2 : f + g + L + M ≤ 65536) (hT : Tab32 w) :
    Calls Tryz.prog 54 #[a, b] w fun en w' => ∃ v, en = .returned (.tuple #[v, .int .i64 0]) ∧ Ext w w' ∧ Dy w' v (x * y) (f + g) := by
  have HT := Lib.hid hT
  obtain ⟨n1, p1, l1, c1, o1, E1, rfl, -, -, d1, r1, k1⟩ := h1.open
  obtain ⟨n2, p2, l2, c2, o2, E2, rfl, -, -, d2, r2, k2⟩ := h2.open
  have HB := Lib.hid (boxes3 w 47 n1 (.slice p1 l1 c1) E1 n2 (.slice p2 l2 c2) E2 (.cells #[.bool n1, .slice p1 l1 c1, .int .i64 E1, .bool n2, .slice p2 l2 c2, .int .i64 E2] 47))
  have HV := Lib.hid (d_valid2 o1 E1 o2 E2 n1 n2 (.slice p1 l1 c1) (.slice p2 l2 c2) (w.heap.size + 3) _ HB.out.2.2.2.2 (d1.ext HB.out.1) (d2.ext HB.out.1) k1 k2)
  have HD := Lib.hid (And.intro d1 d2)
  have HF := Lib.hid (And.intro k1.fit k2.fit)
  obtain ⟨e1, e2, e3⟩ := Ok_range k1
  obtain ⟨e4, e5, e6⟩ := Ok_range k2
  have HN : Hid (∀ gn w1, Ext w w1 → Bi w1 95 gn (o1 * o2) → Calls Tryz.prog 108 #[.pointer (some ⟨gn, 0, none⟩), .int .i64 (E1 + E2)] w1 fun en w' => ∃ v, en = .returned (.tuple #[v, .int .i64 0]) ∧ Ext w1 w' ∧ Dy w' v (x * y) (f + g)) := by
    intro gn w1 hx1 hb
    by_cases h0 : o1 * o2 = 0
    · rw [h0] at hb
      refine (d_num_zero gn (E1 + E2) w1 hb).mono ?_
      rintro en w' ⟨v, q1, q2, q3⟩
      refine ⟨v, q1, q2, Dy.mul_back r1 r2 ?_⟩
      rw [h0]; exact q3
    · have z1 : o1 ≠ 0 := by rintro rfl; simp at h0
      have z2 : o2 ≠ 0 := by rintro rfl; simp at h0
      obtain ⟨j, q1, q2⟩ := r1.exp z1
      obtain ⟨i, q3, q4⟩ := r2.exp z2
      have hb1 := bits_mul_pow (X := o1) (k := j) (M := L) (by rw [← q1]; exact hx) z1
      have hb2 := bits_mul_pow (X := o2) (k := i) (M := M) (by rw [← q3]; exact hy) z2
      have hlt : (o1 * o2).natAbs < 2 ^ (bl o1.natAbs + bl o2.natAbs) := natAbs_mul_lt (bl_lt _) (bl_lt _)
      refine (d_num gn (bl o1.natAbs + bl o2.natAbs) (o1 * o2) (E1 + E2) w1 hb h0 hlt (by omega) (by omega) (by omega) (hT.ext hx1)).mono ?_
      rintro en w' ⟨v, q5, q6, q7⟩
      exact ⟨v, q5, q6, Dy.mul_back r1 r2 q7⟩
  have hw1 : IntKind.i64.wrap (E1 + E2) = E1 + E2 := IntWalk.i64_in _ (by omega)
  clear h1 h2 hx hy d1 d2 r1 r2 k1 k2 hT e3 e6 hL hf hf2
  go_enter Tryz.func54, Tryz.ntmps54
  go_wp2_with (fail)
  refine HV.out.mono ?_
  rintro en w1 ⟨rfl, hx⟩
  have H1 : Hid (Bx w1 47 w.heap.size n1 (.slice p1 l1 c1) E1 ∧ Bx w1 47 (w.heap.size + 1) n2 (.slice p2 l2 c2) E2 ∧ Ext w w1 ∧ Bx w1 47 (w.heap.size + 2) false (.slice none 0 0) 0) := ⟨HB.out.2.1.ext hx, HB.out.2.2.1.ext hx, HB.out.1.trans hx, HB.out.2.2.2.1.ext hx⟩
  have a0 := H1.out.1.c0
  have a1 := H1.out.1.c1
  have a2 := H1.out.1.c2
  have a3 := H1.out.2.1.c0
  have a4 := H1.out.2.1.c1
  have a5 := H1.out.2.1.c2
  have hne1 : ¬ w.heap.size + 1 + 1 = w.heap.size := by omega
  have hne2 : ¬ w.heap.size + 2 = w.heap.size := by omega
  have hlw : w.heap.size + 2 < w1.heap.size := H1.out.2.2.2.lt
  clear hx HV HB
  go_wp2_with (fail)
  go_region_held3 (fun w' => w'.cell? ⟨w.heap.size, 0, none⟩ = some (.bool n1) ∧ w'.cell? ⟨w.heap.size, 1, none⟩ = some (.slice p1 l1 c1) ∧ w'.cell? ⟨w.heap.size, 2, none⟩ = some (.int .i64 E1) ∧ w'.cell? ⟨w.heap.size + 1, 0, none⟩ = some (.bool n2) ∧ w'.cell? ⟨w.heap.size + 1, 1, none⟩ = some (.slice p2 l2 c2) ∧ w'.cell? ⟨w.heap.size + 1, 2, none⟩ = some (.int .i64 E2))
    (first | go_keep | (exact ⟨H2.out.1.c0, H2.out.1.c1, H2.out.1.c2, H2.out.2.1.c0, H2.out.2.1.c1, H2.out.2.1.c2⟩) | fail)
    (first | (go_at_call_of 103 (Value.agg #[.bool n1, .slice p1 l1 c1, .int .i64 E1]); refine (d_value o1 E1 _ _ (HD.out.1.ext (by first | exact H1.out.2.2.1.drew | exact (H1.out.2.2.1.alloc _).drew | fail)) HF.out.1).mono ?_; rintro en w2 ⟨gx, rfl, hx, hg, hb⟩; have HEa := Lib.hid hx; have hx1 : Ext w1 w2 := (by first | exact (Ext.of_drew hx) | exact ((Ext.refl w1).alloc _).trans (Ext.of_drew hx) | fail); (try simp at hg); have hgx2 := hb.lt; have H2 : Hid (Bx w2 47 w.heap.size n1 (.slice p1 l1 c1) E1 ∧ Bx w2 47 (w.heap.size + 1) n2 (.slice p2 l2 c2) E2 ∧ Ext w w2 ∧ Bx w2 47 (w.heap.size + 2) false (.slice none 0 0) 0) := ⟨H1.out.1.ext hx1, H1.out.2.1.ext hx1, H1.out.2.2.1.trans hx1, H1.out.2.2.2.ext hx1⟩; have HG1 := Lib.hid hb; clear hx hb hx1) | (go_at_call_of 103 (Value.agg #[.bool n2, .slice p2 l2 c2, .int .i64 E2]); refine (d_value o2 E2 _ _ (HD.out.2.ext (by first | exact H2.out.2.2.1 | exact H2.out.2.2.1.alloc _ | fail)) HF.out.2).mono ?_; rintro en w3 ⟨gy, rfl, hx, hgy, hb⟩; have HEb := Lib.hid hx; have hx1 : Ext w2 w3 := (by first | exact hx | exact ((Ext.refl w2).alloc _).trans hx | fail); (try simp at hgy); have hgy2 := hb.lt; have H3 : Hid (Bx w3 47 w.heap.size n1 (.slice p1 l1 c1) E1 ∧ Bx w3 47 (w.heap.size + 1) n2 (.slice p2 l2 c2) E2 ∧ Ext w w3 ∧ Bx w3 47 (w.heap.size + 2) false (.slice none 0 0) 0) := ⟨H2.out.1.ext hx1, H2.out.2.1.ext hx1, H2.out.2.2.1.trans hx1, H2.out.2.2.2.ext hx1⟩; have H2 := H3; have HG2 := Lib.hid (And.intro (HG1.out.ext hx1) hb); clear hx hb hx1 H3) | (go_at_call 109; refine (i_mul _ gx gy o1 o2 _ (by first | exact Hv.new w3 _ | exact (Hv.new w2 _).ext HEb.out | exact ((Hv.new w1 _).ext (Ext.of_drew HEa.out)).ext HEb.out | fail) (by first | exact HG2.out.1 | exact HG2.out.1.ext ((Ext.refl w3).alloc _) | fail) (by first | exact HG2.out.2 | exact HG2.out.2.ext ((Ext.refl w3).alloc _) | fail) HF.out.1 HF.out.2 (by omega) (by omega)).mono ?_; rintro en w4 ⟨rfl, hc, hb⟩; have hc1 : Chg _ w3 w4 := (by first | exact hc | exact (Chg.of_ext ((Ext.refl w3).alloc _)).trans hc | fail); have H4 : Hid (Bx w4 47 w.heap.size n1 (.slice p1 l1 c1) E1 ∧ Bx w4 47 (w.heap.size + 1) n2 (.slice p2 l2 c2) E2 ∧ Ext w w4 ∧ Bx w4 47 (w.heap.size + 2) false (.slice none 0 0) 0) := ⟨H2.out.1.chg hc1 (by omega), H2.out.2.1.chg hc1 (by omega), H2.out.2.2.1.ext_chg hc1 (by omega), H2.out.2.2.2.chg hc1 (by omega)⟩; have H2 := H4; have HG3 := Lib.hid hb; clear hc hb hc1 H4) | (go_at_call 108; refine (HN.out _ _ H2.out.2.2.1 HG3.out).mono ?_; rintro en w5 ⟨v, rfl, hx, hd⟩; have H5 : Hid (Bx w5 47 w.heap.size n1 (.slice p1 l1 c1) E1 ∧ Bx w5 47 (w.heap.size + 1) n2 (.slice p2 l2 c2) E2 ∧ Ext w w5 ∧ Bx w5 47 (w.heap.size + 2) false (.slice none 0 0) 0) := ⟨H2.out.1.ext hx, H2.out.2.1.ext hx, H2.out.2.2.1.trans hx, H2.out.2.2.2.ext hx⟩; have H2 := H5; have HD5 := Lib.hid hd; obtain ⟨neg0, s0, E0, rfl⟩ := hd.form; obtain ⟨p0, l0, c0, rfl⟩ := hd.sl; have r0 := H2.out.2.2.2.c0; have r1 := H2.out.2.2.2.c1; have r2 := H2.out.2.2.2.c2; have r3 := H2.out.2.2.2.frozen 0; have r4 := H2.out.2.2.2.frozen 1; have r5 := H2.out.2.2.2.frozen 2; clear hx hd H5))
  all_goals
    go_wp2_with (fail)
    refine bodyPost_ret (v := .tuple #[.agg #[.bool neg0, .slice p0 l0 c0, .int .i64 E0], .int .i64 0]) (by simp [results, Tryz.results54, go_sem, r0, r1, r2]) rfl ⟨_, rfl, ?_, ?_⟩
    · exact H2.out.2.2.1.set3 (by omega) _ _ _
    · exact HD5.out.setBx H2.out.2.2.2 IsSl.nil _ _ _
end Go.Proofs.YtdpjkddllimcoaaGreatDoor
end

section
/- Exact numbers rounded: a magnitude's float. -/
namespace Fl
open Go Go.RowKit
/-- the direction that the program's two marks say. -/
def dirOf (up near : Bool) : Nat := if up then 2 else if near then 1 else 0
end Fl
namespace Go.Proofs.YtdpjkddllimcoaaGreatDoor
open Go.RowKit Fl
theorem g_mag_over (gn N : Nat) (e top : Int) (rest up near : Bool) (c : Nat → Ordering) (w : World) (hc : Cr c N e rest) (h0 : 0 < N) (htop : top = bl N + e) (ht : 1024 < top) (hun : ¬ (up = true ∧ near = true)) :
    Calls Tryz.prog 151 #[.pointer (some ⟨gn, 0, none⟩), .int .i64 e, .int .i64 top, .bool rest, .bool up, .bool near] w fun en wn => en = .returned (.float .f64 (rnd c (dirOf up near))) ∧ w = wn := by
  have HR : Hid (rnd c (dirOf up near) = if dirOf up near = 0 then INF - 1 else INF) := by
    refine hc.over ?_
    have h1 := bl_le (Nat.ne_of_gt h0)
    rcases Int.le_total 1024 e with h2 | h2
    · rw [show (1024 - e).toNat = 0 by omega]
      exact Nat.mul_pos h0 (Nat.two_pow_pos _)
    · rw [show (e - 1024).toNat = 0 by omega, Nat.pow_zero, Nat.mul_one]
      exact Nat.le_trans (Nat.pow_le_pow_right (by decide) (by omega)) h1
  have t1 : decide (1024 < top) = true := by simp; omega
  clear hc h0 htop
  cases up
  · cases near
    · go_enter Tryz.func151, Tryz.ntmps151
      go_wp2_with (fail)
      go_ret
      exact ⟨by rw [HR.out]; rfl, rfl⟩
    · go_enter Tryz.func151, Tryz.ntmps151
      go_wp2_with (go_at_call 73; refine (m_inf _ _).mono ?_; rintro e w' ⟨rfl, rfl⟩)
      go_ret
      exact ⟨by rw [HR.out]; rfl, rfl⟩
  · cases near
    · go_enter Tryz.func151, Tryz.ntmps151
      go_wp2_with (go_at_call 73; refine (m_inf _ _).mono ?_; rintro e w' ⟨rfl, rfl⟩)
      go_ret
      exact ⟨by rw [HR.out]; rfl, rfl⟩
    · exact absurd ⟨rfl, rfl⟩ hun
theorem g_mag_under (gn N : Nat) (e top : Int) (rest up near : Bool) (c : Nat → Ordering) (w : World) (hc : Cr c N e rest) (h0 : 0 < N) (htop : top = bl N + e) (ht : top < -1075) :
    Calls Tryz.prog 151 #[.pointer (some ⟨gn, 0, none⟩), .int .i64 e, .int .i64 top, .bool rest, .bool up, .bool near] w fun en wn => en = .returned (.float .f64 (rnd c (dirOf up near))) ∧ w = wn := by
  have HR : Hid (rnd c (dirOf up near) = if dirOf up near = 2 then 1 else 0) := hc.under h0 (bl_lt N) (by omega)
  have t1 : decide (1024 < top) = false := by simp; omega
  have t2 : decide (top < -1075) = true := by simp; omega
  clear hc h0 htop
  cases up
  · go_enter Tryz.func151, Tryz.ntmps151
    go_wp2_with (fail)
    go_ret
    exact ⟨by rw [HR.out]; cases near <;> rfl, rfl⟩
  · go_enter Tryz.func151, Tryz.ntmps151
    go_wp2_with (fail)
    go_ret
    exact ⟨by rw [HR.out]; cases near <;> rfl, rfl⟩
end Go.Proofs.YtdpjkddllimcoaaGreatDoor
end

section
/- Exact numbers rounded: a magnitude's float, the main way. -/
namespace Fl
open Go Go.RowKit
theorem magQ {N l : Nat} {e top : Int} (h0 : 0 < N) (htop : top = bl N + e) (hl : (l : Int) - 1074 = max (top - 53) (-1074)) {D : Nat} (he : e = (l : Int) - 1074 - (D : Int)) : N / 2 ^ D < 2 * B ∧ (l = 0 ∨ B ≤ N / 2 ^ D) := by
  have h1 := bl_le (Nat.ne_of_gt h0)
  have h2 := bl_lt N
  have hp := bl_pos (Nat.ne_of_gt h0)
  have hB : B = 2 ^ 52 := by decide
  have hB2 : 2 * B = 2 ^ 53 := by decide
  constructor
  · rw [Nat.div_lt_iff_lt_mul (Nat.two_pow_pos _), hB2, ← Nat.pow_add]
    exact Nat.lt_of_lt_of_le h2 (Nat.pow_le_pow_right (by decide) (by omega))
  · by_cases hz : l = 0
    · exact .inl hz
    · right
      rw [Nat.le_div_iff_mul_le (Nat.two_pow_pos _), hB, ← Nat.pow_add]
      exact Nat.le_trans (Nat.pow_le_pow_right (by decide) (by omega)) h1
theorem magQ' {N l k : Nat} {e top : Int} (h0 : 0 < N) (htop : top = bl N + e) (hl : (l : Int) - 1074 = max (top - 53) (-1074)) (he : e = (l : Int) - 1074 + (k : Int)) : N * 2 ^ k < 2 * B ∧ (l = 0 ∨ B ≤ N * 2 ^ k) := by
  have h1 := bl_le (Nat.ne_of_gt h0)
  have h2 := bl_lt N
  have hp := bl_pos (Nat.ne_of_gt h0)
  have hB : B = 2 ^ 52 := by decide
  have hB2 : 2 * B = 2 ^ 53 := by decide
  constructor
  · refine Nat.lt_of_lt_of_le (Nat.mul_lt_mul_of_pos_right h2 (Nat.two_pow_pos _)) ?_
    rw [hB2, ← Nat.pow_add]
    exact Nat.pow_le_pow_right (by decide) (by omega)
  · by_cases hz : l = 0
    · exact .inl hz
    · right
      refine Nat.le_trans ?_ (Nat.mul_le_mul_right _ h1)
      rw [hB, ← Nat.pow_add]
      exact Nat.pow_le_pow_right (by decide) (by omega)
theorem rungs_lt {l q : Nat} (hl : l ≤ 2045) (hq : q < 2 * B) : l * B + q < INF := by unfold B INF at *; omega
theorem cmpZ_cases (a b : Nat) : cmpZ (a : Int) (b : Int) = if a < b then -1 else if a = b then 0 else 1 := by
  unfold cmpZ
  by_cases h1 : a < b
  · rw [if_pos h1, if_pos (by omega)]
  · rw [if_neg h1, if_neg (by omega)]
    by_cases h2 : a = b
    · rw [if_pos h2, if_pos (by omega)]
    · rw [if_neg h2, if_neg (by omega)]
end Fl
namespace Go.Proofs.YtdpjkddllimcoaaGreatDoor
open Go.RowKit Fl
set_option maxRecDepth 20000 in
set_option maxHeartbeats 1000000 in
theorem g_mag_mid (gn N l : Nat) (e top : Int) (rest up near : Bool) (c : Nat → Ordering) (w : World) (hn : Bi w 95 gn (N : Int)) (hc : Cr c N e rest) (h0 : 0 < N) (htop : top = bl N + e) (ht1 : top ≤ 1024) (ht2 : -1075 ≤ top) (hun : ¬ (up = true ∧ near = true)) (hrest : rest = true → 55 ≤ bl N) (hb : N < 2 ^ 100000) (he : -70000 ≤ e) (hl : (l : Int) - 1074 = max (top - 53) (-1074)) :
    Calls Tryz.prog 151 #[.pointer (some ⟨gn, 0, none⟩), .int .i64 e, .int .i64 top, .bool rest, .bool up, .bool near] w fun en w' => en = .returned (.float .f64 (rnd c (dirOf up near))) ∧ Ext w w' := by
  have t1 : decide (1024 < top) = false := by simp; omega
  have t2 : decide (top < -1075) = false := by simp; omega
  have hmax : max (top - 53) (-1074) = (l : Int) - 1074 := hl.symm
  have HC := Lib.hid hc
  have HN := Lib.hid hn
  have HFit : Hid (N < 2 ^ 100000) := hb
  have hgn : gn < w.heap.size := hn.lt
  have hl5 : l ≤ 2045 := by omega
  have HX : Hid (∀ o, Ext w (w.alloc o)) := fun o => (Ext.refl w).alloc o
  have HHv := Lib.hid (Hv.new w 95)
  obtain ⟨K, hK⟩ : ∃ K : Int, (l : Int) - 1074 - e = K := ⟨_, rfl⟩
  have hbl := bl_pos (Nat.ne_of_gt h0)
  have HT := Lib.hid (And.intro h0 (And.intro htop hl))
  have HRest : Hid (rest = true → 2 ≤ K) := by intro hr; have := hrest hr; omega
  have hKb : -2200 ≤ K ∧ K ≤ 71100 := by omega
  have HTop := Lib.hid (And.intro ht1 ht2)
  obtain ⟨q, hq2, HQ⟩ : ∃ q : Nat, q < 9007199254740992 ∧ Hid ((l = 0 ∨ B ≤ q) ∧ ((K ≤ 0 ∧ q = N * 2 ^ (-K).toNat) ∨ (1 ≤ K ∧ q = N / 2 ^ K.toNat))) := by
    have hB2 : 2 * B = 9007199254740992 := by decide
    by_cases hk : K ≤ 0
    · obtain ⟨a, b⟩ := magQ' h0 htop hl (show e = (l : Int) - 1074 + ((-K).toNat : Int) by omega)
      exact ⟨_, by rw [← hB2]; exact a, b, .inl ⟨hk, rfl⟩⟩
    · obtain ⟨a, b⟩ := magQ h0 htop hl (show e = (l : Int) - 1074 - (K.toNat : Int) by omega)
      exact ⟨_, by rw [← hB2]; exact a, b, .inr ⟨by omega, rfl⟩⟩
  have he2 : e ≤ 4000 := by omega
  clear hc hn hb hrest htop hl h0
  go_enter Tryz.func151, Tryz.ntmps151
  go_upto_block 0 with (fail)
  go_cut [3, 16] (fun v3 v16 wc => ∃ (r : Bool) (h : Int), v3 = .bool r ∧ v16 = .int .i64 h ∧ Hid (Ext w wc ∧ Bi wc 95 w.heap.size (q : Int) ∧ rnd c (dirOf up near) = l * B + upBy (dirOf up near) q r h))
  case first =>
    rcases HQ.out.2 with ⟨hk, hq⟩ | ⟨hk, hq⟩
    · have hr0 : rest = false := by
        cases rest
        · rfl
        · have := HRest.out rfl; omega
      subst hr0
      obtain ⟨k, hk2⟩ : ∃ k : Nat, K = -(k : Int) := ⟨(-K).toNat, by omega⟩
      subst hk2
      rw [show (- -(k : Int)).toNat = k by omega] at hq
      have HS : Hid (rnd c (dirOf up near) = l * B + upBy (dirOf up near) q false (-1)) := by
        obtain ⟨a1, a2, a3⟩ := HC.out.exact (show e = (l : Int) - 1074 + (k : Int) by omega)
        rw [← hq] at a1 a2 a3
        have hB2 : 2 * B = 9007199254740992 := by decide
        exact rnd_up HC.out.1 (by omega) HQ.out.1 (by rw [a1]; decide) a2 (rungs_lt hl5 (by omega)) (by rw [a1]; simp) (by rw [a3]; rfl)
      have Hq := Lib.hid hq
      clear hq
      go_wp2_with (fail)
      refine (i_lsh w.heap.size gn k (N : Int) _ HHv.out (HN.out.ext (HX.out _)) (by rw [Int.natAbs_natCast]; exact fit_of (k := 100000) (l := 1048575) HFit.out (by decide)) (by omega)).mono ?_
      rintro en w1 ⟨rfl, hc, hb⟩
      have H1 : Hid (Ext w w1 ∧ Bi w1 95 w.heap.size (q : Int)) := by
        refine ⟨Chg.ext (HX.out _) hc (Nat.le_refl _), ?_⟩
        rw [Hq.out, Int.natCast_mul, Int.natCast_pow]
        exact hb
      clear hc hb
      go_wp2_with (fail)
      go_meet
      case rel => exact ⟨false, -1, rfl, rfl, H1.out.1, H1.out.2, HS.out⟩
    · obtain ⟨D, hD⟩ : ∃ D : Nat, K = (D : Int) := ⟨K.toNat, by omega⟩
      subst hD
      rw [Int.toNat_natCast] at hq
      obtain ⟨a1, a2, a3, a4⟩ := HC.out.cut (show e = (l : Int) - 1074 - (D : Int) by omega) (by omega)
      rw [← hq] at a1 a2 a3 a4
      have HS : Hid (∀ r h, (r = true ↔ c (q * 2 ^ (l + 1)) ≠ .eq) → ordI (c ((2 * q + 1) * 2 ^ l)) = h → rnd c (dirOf up near) = l * B + upBy (dirOf up near) q r h) := by
        intro r h k1 k2
        have hB2 : 2 * B = 9007199254740992 := by decide
        exact rnd_up HC.out.1 (by omega) HQ.out.1 a1 a2 (rungs_lt hl5 (by omega)) k1 k2
      have HA := Lib.hid (And.intro a3 a4)
      have Hq := Lib.hid hq
      obtain ⟨low, HLow⟩ : ∃ low : Nat, Hid (low = N % 2 ^ D) := ⟨_, rfl⟩
      rw [← HLow.out] at HA
      clear a1 a2 a3 a4 hq
      have hD1 : 1 ≤ D := by omega
      have t3 : decide ((D : Int) ≤ 0) = false := by simp; omega
      have t4 : decide (D = 0) = false := by simp; omega
      obtain ⟨D1, hD2⟩ : ∃ D1 : Nat, (D : Int) - 1 = (D1 : Int) := ⟨D - 1, by omega⟩
      have HD1 : Hid (D = D1 + 1) := by show D = _; omega
      have HNf : Hid (N < 4294967296 ^ 1048575) := fit_of (k := 100000) (l := 1048575) HFit.out (by decide)
      go_wp2_with (fail)
      refine (i_rsh w.heap.size gn D N _ HHv.out (HN.out.ext (HX.out _)) HNf.out (by omega)).mono ?_
      rintro en w1 ⟨rfl, hc, hb⟩
      have H1 : Hid (Ext w w1 ∧ Bi w1 95 w.heap.size (q : Int) ∧ Bi w1 95 gn (N : Int)) := by
        refine ⟨Chg.ext (HX.out _) hc (Nat.le_refl _), ?_, (HN.out.ext (HX.out _)).chg HHv.out hc (by omega)⟩
        rw [Hq.out]
        exact hb
      have hgw : w.heap.size < w1.heap.size := H1.out.2.1.lt
      clear hc hb
      have HX1 : Hid (∀ o1 o2, Ext w1 ((w1.alloc o1).alloc o2)) := fun o1 o2 => ((Ext.refl w1).alloc o1).alloc o2
      have HV1 : Hid (Hv ((w1.alloc (.cells #[.bool false, .slice none 0 0] 95)).alloc (.cells #[.bool false, .slice none 0 0] 95)) 95 w1.heap.size ∧ Hv ((w1.alloc (.cells #[.bool false, .slice none 0 0] 95)).alloc (.cells #[.bool false, .slice none 0 0] 95)) 95 (w1.heap.size + 1)) := by
        have h := Hv.new (w1.alloc (.cells #[.bool false, .slice none 0 0] 95)) 95
        rw [show (w1.alloc (.cells #[.bool false, .slice none 0 0] 95)).heap.size = w1.heap.size + 1 by simp] at h
        exact ⟨(Hv.new w1 95).ext ((Ext.refl _).alloc _), h⟩
      have HqN : Hid (q ≤ N) := by show q ≤ N; rw [Hq.out]; exact Nat.div_le_self _ _
      have Hqf : Hid (q < 4294967296 ^ 1048575) := Nat.lt_of_le_of_lt HqN.out HNf.out
      have HqD : Hid ((q : Int) * 2 ^ D = ((q * 2 ^ D : Nat) : Int) ∧ q * 2 ^ D ≤ N ∧ (N : Int) - (q : Int) * 2 ^ D = (low : Int)) := by
        have h1 : q * 2 ^ D ≤ N := by rw [Hq.out]; exact Nat.div_mul_le_self _ _
        have h2 := Nat.div_add_mod N (2 ^ D)
        rw [← Hq.out, ← HLow.out, Nat.mul_comm] at h2
        have h3 : (q : Int) * 2 ^ D = ((q * 2 ^ D : Nat) : Int) := by rw [Int.natCast_mul, Int.natCast_pow]; rfl
        refine ⟨h3, h1, ?_⟩
        rw [h3]; omega
      go_wp2_with (fail)
      refine (i_lsh (w1.heap.size + 1) w.heap.size D (q : Int) _ HV1.out.2 (H1.out.2.1.ext (HX1.out _ _)) (by rw [Int.natAbs_natCast]; exact Hqf.out) (by omega)).mono ?_
      rintro en w2 ⟨rfl, hc, hb⟩
      have H2 : Hid (Ext w w2 ∧ Bi w2 95 w.heap.size (q : Int) ∧ Bi w2 95 gn (N : Int) ∧ Hv w2 95 w1.heap.size ∧ Bi w2 95 (w1.heap.size + 1) ((q : Int) * 2 ^ D)) := by
        have hv := HV1.out.2
        exact ⟨Chg.ext (H1.out.1.trans (HX1.out _ _)) hc (by omega), (H1.out.2.1.ext (HX1.out _ _)).chg hv hc (by omega), (H1.out.2.2.ext (HX1.out _ _)).chg hv hc (by omega), HV1.out.1.chg hc (by omega), hb⟩
      clear hc hb
      go_wp2_with (fail)
      refine (i_sub w1.heap.size gn (w1.heap.size + 1) (N : Int) ((q : Int) * 2 ^ D) _ H2.out.2.2.2.1 H2.out.2.2.1 H2.out.2.2.2.2 (by rw [Int.natAbs_natCast]; exact HNf.out) (by rw [HqD.out.1, Int.natAbs_natCast]; exact Nat.lt_of_le_of_lt HqD.out.2.1 HNf.out)).mono ?_
      rintro en w3 ⟨rfl, hc, hb⟩
      rw [HqD.out.2.2] at hb
      have H3 : Hid (Ext w w3 ∧ Bi w3 95 w.heap.size (q : Int) ∧ Bi w3 95 w1.heap.size (low : Int)) :=
        ⟨Chg.ext H2.out.1 hc (by omega), H2.out.2.1.chg H2.out.2.2.2.1 hc (by omega), hb⟩
      have hg3 : w1.heap.size < w3.heap.size := H3.out.2.2.lt
      have HX3 : Hid (∀ o1, Ext w3 (w3.alloc o1)) := fun o1 => (Ext.refl w3).alloc o1
      have HV3 := Lib.hid (Hv.new w3 95)
      clear hc hb
      go_wp2_with (fail)
      refine (i_new 1 _ (by decide) (by decide)).mono ?_
      rintro en w4 ⟨g1, rfl, hx, hg, hb⟩
      have H4 : Hid (Ext w w4 ∧ Bi w4 95 w.heap.size (q : Int) ∧ Bi w4 95 w1.heap.size (low : Int) ∧ Hv w4 95 w3.heap.size ∧ Bi w4 95 g1 1) :=
        ⟨(H3.out.1.trans (HX3.out _)).trans hx, (H3.out.2.1.ext (HX3.out _)).ext hx, (H3.out.2.2.ext (HX3.out _)).ext hx, HV3.out.ext hx, hb⟩
      clear hx hb hg
      go_wp2_with (fail)
      refine (i_lsh w3.heap.size g1 D1 1 _ H4.out.2.2.2.1 H4.out.2.2.2.2 (fit_word (l := 1048575) (by decide) (by decide)) (by omega)).mono ?_
      rintro en w5 ⟨rfl, hc, hb⟩
      have H5 : Hid (Ext w w5 ∧ Bi w5 95 w.heap.size (q : Int) ∧ Bi w5 95 w1.heap.size (low : Int) ∧ Bi w5 95 w3.heap.size ((2 ^ D1 : Nat) : Int)) := by
        refine ⟨Chg.ext H4.out.1 hc (by omega), H4.out.2.1.chg H4.out.2.2.2.1 hc (by omega), H4.out.2.2.1.chg H4.out.2.2.2.1 hc (by omega), ?_⟩
        rw [Int.one_mul] at hb
        rw [Int.natCast_pow]
        exact hb
      clear hc hb
      have Hlf : Hid (low < 4294967296 ^ 1048575) := Nat.lt_of_le_of_lt (by rw [HLow.out]; exact Nat.mod_le _ _) HNf.out
      obtain ⟨h0, Hh0⟩ : ∃ h : Int, Hid (h = cmpZ (low : Int) ((2 ^ D1 : Nat) : Int)) := ⟨_, rfl⟩
      go_wp2_with (fail)
      refine (i_cmp w1.heap.size w3.heap.size (low : Int) ((2 ^ D1 : Nat) : Int) _ H5.out.2.2.1 H5.out.2.2.2 (by rw [Int.natAbs_natCast]; exact Hlf.out) (by rw [Int.natAbs_natCast]; exact fit_of (k := D1 + 1) (l := 1048575) (Nat.pow_lt_pow_right (by decide) (by omega)) (by omega))).mono ?_
      rintro en w6 ⟨hen, hd⟩
      rw [← Hh0.out] at hen
      subst hen
      have H6 : Hid (Ext w w6 ∧ Bi w6 95 w.heap.size (q : Int) ∧ Bi w6 95 w1.heap.size (low : Int)) := ⟨H5.out.1.trans hd.ext, H5.out.2.1.ext hd.ext, H5.out.2.2.1.ext hd.ext⟩
      have hcz : h0 = if low < 2 ^ D1 then -1 else if low = 2 ^ D1 then 0 else 1 := by rw [Hh0.out]; exact cmpZ_cases _ _
      have HCz := Lib.hid hcz
      clear hd hcz
      clear HFit HNf Hqf Hlf HqN HqD
      have HP : Hid ((2 : Nat) ^ (D - 1) = 2 ^ D1) := by show _ = _; rw [show D - 1 = D1 by have := HD1.out; omega]
      have HO : Hid (ordI (c ((2 * q + 1) * 2 ^ l)) = if h0 = 0 ∧ rest = true then 1 else h0) := by
        show _ = _
        rw [HA.out.2, HP.out, HCz.out]
        by_cases q1 : low < 2 ^ D1
        · rw [if_pos q1, if_pos q1, if_neg (by intro h; exact absurd h.1 (by decide))]
        · rw [if_neg q1, if_neg q1]
          by_cases q2 : low = 2 ^ D1
          · rw [if_pos q2]
            cases rest
            · rw [if_pos ⟨q2, rfl⟩, if_neg (by intro h; exact absurd h.2 (by decide))]
            · rw [if_neg (by intro h; exact absurd h.2 (by decide)), if_pos ⟨rfl, rfl⟩]
          · rw [if_neg q2, if_neg (fun h => q2 h.1), if_neg (by intro h; exact absurd h.1 (by decide))]
      obtain ⟨sl, HSl⟩ : ∃ s : Int, Hid (s = sgnI (low : Int)) := ⟨_, rfl⟩
      have HRr : Hid (rest = false → ((sl != 0) = true ↔ c (q * 2 ^ (l + 1)) ≠ .eq)) := by
        intro hr
        rw [← HA.out.1, hr, HSl.out, Bool.false_or]
        unfold sgnI
        rw [if_neg (by omega)]
        by_cases hl0 : low = 0
        · subst hl0; simp
        · rw [if_neg (by omega)]; simp [hl0]
      have HRt : Hid (rest = true → (true = true ↔ c (q * 2 ^ (l + 1)) ≠ .eq)) := by
        intro hr
        rw [← HA.out.1, hr, Bool.true_or]
      clear HA
      cases rest
      · have HRf := Lib.hid (HRr.out rfl)
        clear HRr HRt
        by_cases hz : h0 = 0
        · subst hz
          go_wp2_with (fail)
          refine (i_sign w1.heap.size (low : Int) _ H6.out.2.2).mono ?_
          rintro en w7 ⟨hen, rfl⟩
          rw [← HSl.out] at hen
          subst hen
          go_wp2_with (fail)
          go_meet
          case rel => exact ⟨_, 0, rfl, rfl, H6.out.1, H6.out.2.1, HS.out _ _ HRf.out HO.out⟩
        · have t5 : (h0 == 0) = false := by rw [beq_eq_false_iff_ne]; exact hz
          have HO2 : Hid (ordI (c ((2 * q + 1) * 2 ^ l)) = h0) := by have := HO.out; rwa [if_neg (fun h => hz h.1)] at this
          clear hz
          go_wp2_with (fail)
          refine (i_sign w1.heap.size (low : Int) _ H6.out.2.2).mono ?_
          rintro en w7 ⟨hen, rfl⟩
          rw [← HSl.out] at hen
          subst hen
          go_wp2_with (fail)
          go_meet
          case rel => exact ⟨_, h0, rfl, rfl, H6.out.1, H6.out.2.1, HS.out _ _ HRf.out HO2.out⟩
      · have HRf := Lib.hid (HRt.out rfl)
        clear HRr HRt
        by_cases hz : h0 = 0
        · subst hz
          go_wp2_with (fail)
          go_meet
          case rel => exact ⟨_, 1, rfl, rfl, H6.out.1, H6.out.2.1, HS.out _ _ ⟨fun _ => HRf.out.1 trivial, fun _ => rfl⟩ HO.out⟩
        · have t5 : (h0 == 0) = false := by rw [beq_eq_false_iff_ne]; exact hz
          have HO2 : Hid (ordI (c ((2 * q + 1) * 2 ^ l)) = h0) := by have := HO.out; rwa [if_neg (fun h => hz h.1)] at this
          clear hz
          go_wp2_with (fail)
          go_meet
          case rel => exact ⟨_, h0, rfl, rfl, H6.out.1, H6.out.2.1, HS.out _ _ ⟨fun _ => HRf.out.1 trivial, fun _ => rfl⟩ HO2.out⟩
  case rest =>
    obtain ⟨r, h, rfl, rfl, HJ⟩ := hcut
    clear HFit
    obtain ⟨Q, HQ0⟩ : ∃ Q : Nat, Hid (Q = upBy (dirOf up near) q r h) := ⟨_, rfl⟩
    go_upto_region 21 with (fail)
    go_cut [95] (fun v95 wd => ∃ b : Bool, v95 = .bool b ∧ Hid (Q = if b then q + 1 else q) ∧ wc = wd)
    case first =>
      cases up
      · cases near
        · go_wp2_with (fail)
          go_meet
          case rel => exact ⟨false, rfl, (by show Q = _; rw [HQ0.out]; rfl), rfl⟩
        · rcases Int.lt_trichotomy h 0 with hh | hh | hh
          · have t5 : decide (0 < h) = false := by simp; omega
            have t6 : (h == 0) = false := by rw [beq_eq_false_iff_ne]; omega
            have HH := Lib.hid hh
            clear hh
            go_wp2_with (fail)
            go_meet
            case rel => exact ⟨false, rfl, (by show Q = _; rw [HQ0.out]; have := HH.out; unfold upBy dirOf; simp; omega), rfl⟩
          · subst hh
            rcases Nat.mod_two_eq_zero_or_one q with hp | hp
            · have HH := Lib.hid hp
              clear hp
              go_wp2_with (fail)
              refine (i_bit0 w.heap.size (q : Int) _ HJ.out.2.1).mono ?_
              rintro en w2 ⟨hen, rfl⟩
              rw [Int.natAbs_natCast, HH.out] at hen
              subst hen
              go_wp2_with (fail)
              go_meet
              case rel => exact ⟨false, rfl, (by show Q = _; rw [HQ0.out]; have := HH.out; unfold upBy dirOf; simp; omega), rfl⟩
            · have HH := Lib.hid hp
              clear hp
              go_wp2_with (fail)
              refine (i_bit0 w.heap.size (q : Int) _ HJ.out.2.1).mono ?_
              rintro en w2 ⟨hen, rfl⟩
              rw [Int.natAbs_natCast, HH.out] at hen
              subst hen
              go_wp2_with (fail)
              go_meet
              case rel => exact ⟨true, rfl, (by show Q = _; rw [HQ0.out]; have := HH.out; unfold upBy dirOf; simp; omega), rfl⟩
          · have t5 : decide (0 < h) = true := by simp; omega
            have HH := Lib.hid hh
            clear hh
            go_wp2_with (fail)
            go_meet
            case rel => exact ⟨true, rfl, (by show Q = _; rw [HQ0.out]; have := HH.out; unfold upBy dirOf; simp; omega), rfl⟩
      · have hnf : near = false := by cases near; rfl; exact absurd ⟨rfl, rfl⟩ hun
        subst hnf
        cases r
        · go_wp2_with (fail)
          go_meet
          case rel => exact ⟨false, rfl, (by show Q = _; rw [HQ0.out]; rfl), rfl⟩
        · go_wp2_with (fail)
          go_meet
          case rel => exact ⟨true, rfl, (by show Q = _; rw [HQ0.out]; rfl), rfl⟩
    case rest =>
      obtain ⟨b, rfl, HQb, rfl⟩ := hcut
      go_upto_if 95 with (fail)
      go_cut [] (fun wd => Hid (Ext w wd ∧ Bi wd 95 w.heap.size (Q : Int)))
      case first =>
        cases b
        · go_wp2_with (fail)
          go_meet
          case rel => exact (show Hid _ from ⟨HJ.out.1, by rw [HQb.out, if_neg (by simp)]; exact HJ.out.2.1⟩)
        · have HQ1 : Hid (Q = q + 1) := HQb.out
          go_wp2_with (fail)
          refine (i_new 1 _ (by decide) (by decide)).mono ?_
          rintro en w2 ⟨g1, rfl, hx, hg, hb⟩
          have H2 : Hid (Ext w w2 ∧ Bi w2 95 w.heap.size (q : Int) ∧ Bi w2 95 g1 1) := ⟨HJ.out.1.trans hx, HJ.out.2.1.ext hx, hb⟩
          clear hx hg hb
          go_wp2_with (fail)
          refine (i_add w.heap.size w.heap.size g1 (q : Int) 1 _ H2.out.2.1.hv H2.out.2.1 H2.out.2.2 (by rw [Int.natAbs_natCast]; exact fit_of (k := 53) (l := 1048575) (by rw [show (2 : Nat) ^ 53 = 9007199254740992 by decide]; exact hq2) (by decide)) (fit_word (l := 1048575) (by decide) (by decide))).mono ?_
          rintro en w3 ⟨rfl, hc, hb⟩
          have H3 : Hid (Ext w w3 ∧ Bi w3 95 w.heap.size (Q : Int)) := ⟨Chg.ext H2.out.1 hc (Nat.le_refl _), by rw [HQ1.out, show ((q + 1 : Nat) : Int) = (q : Int) + 1 by omega]; exact hb⟩
          clear hc hb
          go_wp2_with (fail)
          go_meet
          case rel => exact H3
      case rest =>
        have HZ := Lib.hid hcut.out
        have HRn : Hid (rnd c (dirOf up near) = l * B + Q) := by rw [HQ0.out]; exact HJ.out.2.2
        have HQl : Hid (q ≤ Q ∧ Q ≤ q + 1) := by rw [HQ0.out]; exact upBy_le _ _ _ _
        have HlB : Hid (l = 0 ∨ B ≤ Q) := by
          have := HQl.out.1
          rcases HQ.out.1 with h | h
          · exact .inl h
          · exact .inr (by omega)
        have hB2 : B = 4503599627370496 := rfl
        have hQb : Q ≤ 9007199254740992 := by have := HQl.out.2; omega
        have HQf : Hid (Q < 4294967296 ^ 1048575) := fit_of (k := 54) (l := 1048575) (by rw [show (2 : Nat) ^ 54 = 18014398509481984 by decide]; omega) (by decide)
        by_cases hQ : Q = 9007199254740992
        · subst hQ
          have hbl : bl 9007199254740992 = 54 := bl_unique (by decide) (by decide) (by decide)
          have hbl2 : bl 4503599627370496 = 53 := bl_unique (by decide) (by decide) (by decide)
          have HBL := Lib.hid (And.intro hbl hbl2)
          clear hbl hbl2 hcut
          go_wp2_with (fail)
          refine (i_bitLen w.heap.size ((9007199254740992 : Nat) : Int) _ HZ.out.2 (by rw [Int.natAbs_natCast]; exact HQf.out)).mono ?_
          rintro en w2 ⟨hen, rfl⟩
          rw [Int.natAbs_natCast, HBL.out.1] at hen
          subst hen
          clear HQf
          go_wp2_with (fail)
          refine (i_rsh w.heap.size w.heap.size 1 9007199254740992 _ HZ.out.2.hv HZ.out.2 (fit_of (k := 54) (l := 1048575) (by decide) (by decide)) (by decide)).mono ?_
          rintro en w3 ⟨rfl, hc, hb⟩
          obtain ⟨M, HM⟩ : ∃ M : Nat, Hid (M = 4503599627370496) := ⟨_, rfl⟩
          rw [show 9007199254740992 / 2 ^ 1 = 4503599627370496 by decide, ← HM.out] at hb
          have hMb : M < 18446744073709551616 := by have := HM.out; omega
          have HY : Hid (Ext w w3 ∧ Bi w3 95 w.heap.size (M : Int)) := ⟨Chg.ext HZ.out.1 hc (Nat.le_refl _), hb⟩
          clear hc hb
          go_wp2_with (fail)
          refine (i_bitLen w.heap.size (M : Int) _ HY.out.2 (by rw [Int.natAbs_natCast, HM.out]; exact fit_of (k := 54) (l := 1048575) (by decide) (by decide))).mono ?_
          rintro en w4 ⟨hen, rfl⟩
          rw [Int.natAbs_natCast, HM.out, HBL.out.2] at hen
          subst hen
          by_cases hl6 : l = 2045
          · subst hl6
            go_wp2_with (go_at_call 73; refine (m_inf _ _).mono ?_; rintro e w' ⟨rfl, rfl⟩)
            go_ret
            exact ⟨by rw [HRn.out]; rfl, HY.out.1⟩
          · have t5 : decide (1024 < 53 + ((l : Int) - 1074 + 1)) = false := by simp; omega
            have HL6 := Lib.hid hl6
            clear hl6
            go_wp2_with (fail)
            refine (i_uint64 w.heap.size M _ HY.out.2 hMb).mono ?_
            rintro en w5 ⟨rfl, rfl⟩
            go_wp2_with (fail)
            refine (m_Ldexp_of M (l + 1) _ (by have := HM.out; omega) (by omega) (by have := HL6.out; omega) (.inr (by have := HM.out; omega)) _).mono ?_
            rintro en w6 ⟨rfl, rfl⟩
            go_wp2_with (fail)
            go_ret
            refine ⟨?_, HY.out.1⟩
            rw [HRn.out, show capR (l + 1) M = l * B + 9007199254740992 by unfold capR INF B; have := HM.out; have := HL6.out; rw [if_pos (by omega)]; omega]; rfl
        · have hQ3 : Q < 9007199254740992 := by omega
          obtain ⟨b1, HB1⟩ : ∃ b : Nat, Hid (b = bl Q) := ⟨_, rfl⟩
          have hb1 : b1 ≤ 53 := by rw [HB1.out]; exact bl_le_of (by rw [show (2 : Nat) ^ 53 = 9007199254740992 by decide]; exact hQ3)
          have HBC := Lib.hid (i_bitLen w.heap.size (Q : Int) _ HZ.out.2 (by rw [Int.natAbs_natCast]; exact HQf.out))
          clear hcut hQ HQf
          go_wp2_with (fail)
          refine HBC.out.mono ?_
          rintro en w2 ⟨hen, rfl⟩
          rw [Int.natAbs_natCast, ← HB1.out] at hen
          subst hen
          have t5 : decide (53 < b1) = false := by simp; omega
          have t6 : decide (1024 < (b1 : Int) + ((l : Int) - 1074)) = false := by simp; omega
          go_wp2_with (fail)
          refine HBC.out.mono ?_
          rintro en w3 ⟨hen, rfl⟩
          rw [Int.natAbs_natCast, ← HB1.out] at hen
          subst hen
          go_wp2_with (fail)
          refine (i_uint64 w.heap.size Q _ HZ.out.2 (by omega)).mono ?_
          rintro en w5 ⟨rfl, rfl⟩
          go_wp2_with (fail)
          refine (m_Ldexp_of Q l _ hQb rfl hl5 HlB.out _).mono ?_
          rintro en w6 ⟨rfl, rfl⟩
          go_wp2_with (fail)
          go_ret
          refine ⟨?_, HZ.out.1⟩
          rw [HRn.out, show capR l Q = l * B + Q by unfold capR INF B; rw [if_pos (by omega)]]; rfl
end Go.Proofs.YtdpjkddllimcoaaGreatDoor
end

section
/- Exact numbers rounded. -/
namespace Go.Proofs.YtdpjkddllimcoaaGreatDoor
open Go.RowKit Fl
theorem g_mag (gn N : Nat) (e top : Int) (rest up near : Bool) (c : Nat → Ordering) (w : World) (hn : Bi w 95 gn (N : Int)) (hc : Cr c N e rest) (h0 : 0 < N) (htop : top = bl N + e) (hun : ¬ (up = true ∧ near = true)) (hrest : rest = true → 55 ≤ bl N) (hb : N < 2 ^ 100000) (he : -70000 ≤ e) :
    Calls Tryz.prog 151 #[.pointer (some ⟨gn, 0, none⟩), .int .i64 e, .int .i64 top, .bool rest, .bool up, .bool near] w fun en w' => en = .returned (.float .f64 (rnd c (dirOf up near))) ∧ Ext w w' := by
  by_cases h1 : 1024 < top
  · refine (g_mag_over gn N e top rest up near c w hc h0 htop h1 hun).mono ?_
    rintro en w' ⟨h, rfl⟩
    exact ⟨h, Ext.refl _⟩
  · by_cases h2 : top < -1075
    · refine (g_mag_under gn N e top rest up near c w hc h0 htop h2).mono ?_
      rintro en w' ⟨h, rfl⟩
      exact ⟨h, Ext.refl _⟩
    · exact g_mag_mid gn N (max (top - 53) (-1074) + 1074).toNat e top rest up near c w hn hc h0 htop (by omega) (by omega) hun hrest hb he (by omega)
theorem rnd_lt64 (c : Nat → Ordering) (d : Nat) : rnd c d < 9223372036854775808 := by have := @rnd_le c d; unfold INF at this; omega
theorem g_float (gn N : Nat) (e mode : Int) (neg rest : Bool) (c : Nat → Ordering) (w : World) (hm : mode = 1 ∨ mode = 2 ∨ mode = 3) (hn : Bi w 95 gn (N : Int)) (hc : Cr c N e rest) (h0 : 0 < N) (hrest : rest = true → 55 ≤ bl N) (hb : N < 2 ^ 100000) (he : -70000 ≤ e) (he2 : e ≤ 70000) :
    Calls Tryz.prog 123 #[.bool neg, .pointer (some ⟨gn, 0, none⟩), .int .i64 e, .bool rest, .int .i64 mode] w fun en w' => en = .returned (.float .f64 (word neg (rnd c (aim neg mode)))) ∧ Ext w w' := by
  obtain ⟨top, Htop⟩ : ∃ top : Int, Hid (top = bl N + e) := ⟨_, rfl⟩
  have HF : Hid (N < 4294967296 ^ 1048575) := fit_of (k := 100000) (l := 1048575) hb (by decide)
  have HBL := Lib.hid (i_bitLen gn (N : Int) w hn (by rw [Int.natAbs_natCast]; exact HF.out))
  have hbl := bl_le_of hb
  obtain ⟨b, HB⟩ : ∃ b : Nat, Hid (b = bl N) := ⟨_, rfl⟩
  rw [← HB.out] at hbl
  rw [Int.natAbs_natCast, ← HB.out] at HBL
  have HG : Hid (∀ up near, ¬ (up = true ∧ near = true) → Calls Tryz.prog 151 #[.pointer (some ⟨gn, 0, none⟩), .int .i64 e, .int .i64 ((b : Int) + e), .bool rest, .bool up, .bool near] w fun en w' => en = .returned (.float .f64 (rnd c (dirOf up near))) ∧ Ext w w') := fun up near h => g_mag gn N e ((b : Int) + e) rest up near c w hn hc h0 (by rw [HB.out]) h hrest hb he
  clear hn hc h0 hrest hb HF
  have key : ∀ up near d, dirOf up near = d → ¬ (up = true ∧ near = true) → Hid (Calls Tryz.prog 151 #[.pointer (some ⟨gn, 0, none⟩), .int .i64 e, .int .i64 ((b : Int) + e), .bool rest, .bool up, .bool near] w fun en w' => en = .returned (.float .f64 (rnd c d)) ∧ Ext w w') := fun up near d h1 h2 => by
    subst h1; exact HG.out up near h2
  have hr := fun d => rnd_lt64 c d
  have HRr := Lib.hid hr
  clear hr
  have hcp : ∀ R, R < 9223372036854775808 → Value.float .f64 (word (Fl.neg 13830554455654793216) (mag R)) = Value.float .f64 (word true R) := by
    intro R h
    have : mag R = R := Nat.mod_eq_of_lt h
    rw [this]
    rfl
  rcases hm with rfl | rfl | rfl <;> cases neg
  · have K := key false false 0 rfl (by simp)
    clear key HG
    have hrr := HRr.out 0
    rw [show aim false 1 = 0 from rfl]
    generalize rnd c 0 = R at *
    go_enter Tryz.func123, Tryz.ntmps123
    go_wp2_with (fail)
    refine HBL.out.mono ?_
    rintro en w1 ⟨rfl, rfl⟩
    go_wp2_with (fail)
    refine K.out.mono ?_
    rintro en w2 ⟨rfl, hx⟩
    have HX := Lib.hid hx
    clear hx
    go_wp2_with (fail)
    go_ret
    exact ⟨rfl, HX.out⟩
  · have K := key true false 2 rfl (by simp)
    clear key HG
    have hrr := HRr.out 2
    rw [show aim true 1 = 2 from rfl]
    generalize rnd c 2 = R at *
    go_enter Tryz.func123, Tryz.ntmps123
    go_wp2_with (fail)
    refine HBL.out.mono ?_
    rintro en w1 ⟨rfl, rfl⟩
    go_wp2_with (fail)
    refine K.out.mono ?_
    rintro en w2 ⟨rfl, hx⟩
    have HX := Lib.hid hx
    clear hx
    go_wp2_with (fail)
    refine (m_copysign R 13830554455654793216 (by omega) (by decide) _).mono ?_
    rintro en w3 ⟨rfl, rfl⟩
    go_wp2_with (fail)
    go_ret
    exact ⟨rfl, HX.out⟩
  · have K := key false true 1 rfl (by simp)
    clear key HG
    have hrr := HRr.out 1
    rw [show aim false 2 = 1 from rfl]
    generalize rnd c 1 = R at *
    go_enter Tryz.func123, Tryz.ntmps123
    go_wp2_with (fail)
    refine HBL.out.mono ?_
    rintro en w1 ⟨rfl, rfl⟩
    go_wp2_with (fail)
    refine K.out.mono ?_
    rintro en w2 ⟨rfl, hx⟩
    have HX := Lib.hid hx
    clear hx
    go_wp2_with (fail)
    go_ret
    exact ⟨rfl, HX.out⟩
  · have K := key false true 1 rfl (by simp)
    clear key HG
    have hrr := HRr.out 1
    rw [show aim true 2 = 1 from rfl]
    generalize rnd c 1 = R at *
    go_enter Tryz.func123, Tryz.ntmps123
    go_wp2_with (fail)
    refine HBL.out.mono ?_
    rintro en w1 ⟨rfl, rfl⟩
    go_wp2_with (fail)
    refine K.out.mono ?_
    rintro en w2 ⟨rfl, hx⟩
    have HX := Lib.hid hx
    clear hx
    go_wp2_with (fail)
    refine (m_copysign R 13830554455654793216 (by omega) (by decide) _).mono ?_
    rintro en w3 ⟨rfl, rfl⟩
    go_wp2_with (fail)
    go_ret
    exact ⟨rfl, HX.out⟩
  · have K := key true false 2 rfl (by simp)
    clear key HG
    have hrr := HRr.out 2
    rw [show aim false 3 = 2 from rfl]
    generalize rnd c 2 = R at *
    go_enter Tryz.func123, Tryz.ntmps123
    go_wp2_with (fail)
    refine HBL.out.mono ?_
    rintro en w1 ⟨rfl, rfl⟩
    go_wp2_with (fail)
    refine K.out.mono ?_
    rintro en w2 ⟨rfl, hx⟩
    have HX := Lib.hid hx
    clear hx
    go_wp2_with (fail)
    go_ret
    exact ⟨rfl, HX.out⟩
  · have K := key false false 0 rfl (by simp)
    clear key HG
    have hrr := HRr.out 0
    rw [show aim true 3 = 0 from rfl]
    generalize rnd c 0 = R at *
    go_enter Tryz.func123, Tryz.ntmps123
    go_wp2_with (fail)
    refine HBL.out.mono ?_
    rintro en w1 ⟨rfl, rfl⟩
    go_wp2_with (fail)
    refine K.out.mono ?_
    rintro en w2 ⟨rfl, hx⟩
    have HX := Lib.hid hx
    clear hx
    go_wp2_with (fail)
    refine (m_copysign R 13830554455654793216 (by omega) (by decide) _).mono ?_
    rintro en w3 ⟨rfl, rfl⟩
    go_wp2_with (fail)
    go_ret
    exact ⟨rfl, HX.out⟩
end Go.Proofs.YtdpjkddllimcoaaGreatDoor
end

section
/- Exact numbers rounded: Round. -/
namespace Fl
open Go Go.RowKit
theorem Rep.cD {o E z e : Int} (h : Rep o E z e) (h0 : o ≠ 0) : cD o.natAbs E = cD z.natAbs e := by
  obtain ⟨k, rfl, rfl⟩ := h.exp h0
  have := cD_shift o.natAbs (e + k) k
  rw [show e + (k : Int) - k = e by omega] at this
  rw [← this, Int.natAbs_mul, Int.natAbs_pow]
  rfl
theorem Cr.whole (N : Nat) (e : Int) : Cr (cD N e) N e false := ⟨cD_anti N e, rfl⟩
end Fl
namespace Go.Proofs.YtdpjkddllimcoaaGreatDoor
open Go.RowKit Fl
theorem d_known (mode : Int) (w : World) (hm : mode = 1 ∨ mode = 2 ∨ mode = 3) : Calls Tryz.prog 119 #[.int .i64 mode] w fun en wn => en = .returned (.bool true) ∧ w = wn := by
  rcases hm with rfl | rfl | rfl
  all_goals (go_enter Tryz.func119, Tryz.ntmps119; go_wp2_with (fail); go_ret; exact ⟨rfl, rfl⟩)
theorem d_Round (v : Value) (z e mode : Int) (w : World) (h : Dy w v z e) (hm : mode = 1 ∨ mode = 2 ∨ mode = 3) (hz : z ≠ 0) :
    Calls Tryz.prog 114 #[v, .int .i64 mode] w fun en w' => en = .returned (.tuple #[.float .f64 (word (decide (z < 0)) (rnd (cD z.natAbs e) (aim (decide (z < 0)) mode))), .int .i64 0]) ∧ Ext w w' := by
  obtain ⟨o, E, hd, hr, hok⟩ := h
  have HX : Hid (∀ o1, Ext w (w.alloc o1)) := fun o1 => (Ext.refl w).alloc o1
  have ho0 : o ≠ 0 := fun h => hz (hr.sgn.2.1.2 h)
  have hE : -65536 ≤ E ∧ E ≤ 65536 := by
    rcases hok with ⟨h, -⟩ | ⟨-, -, h⟩
    · exact absurd h ho0
    · exact h
  obtain ⟨neg, hneg⟩ : ∃ neg, Hid (neg = decide (o < 0)) := ⟨_, rfl⟩
  have HZ : Hid (decide (z < 0) = neg) := by show _ = _; rw [hneg.out, decide_eq_decide]; exact hr.sgn.1
  have HR : Hid (∀ gn w1, Bi w1 95 gn (o.natAbs : Int) → Calls Tryz.prog 123 #[.bool neg, .pointer (some ⟨gn, 0, none⟩), .int .i64 E, .bool false, .int .i64 mode] w1 fun en w' => en = .returned (.float .f64 (word neg (rnd (cD z.natAbs e) (aim neg mode)))) ∧ Ext w1 w') := by
    intro gn w1 hb
    rw [← hr.cD ho0]
    refine g_float gn o.natAbs E mode neg false _ w1 hm hb (Cr.whole _ _) (by omega) (by simp) ?_ (by omega) (by omega)
    rcases hok with ⟨h, -⟩ | ⟨-, h, -⟩
    · exact absurd h ho0
    · exact two_pow_lt_of (M := 100000) h (by decide)
  have hfit := Lib.hid hok.fit
  have HMo := Lib.hid hm
  obtain ⟨b, off, cap, zs, rfl, k1, k2, k3, k4, k5, k6⟩ := hd.words hok ho0
  have HD := Lib.hid hd
  have HV := Lib.hid (d_Valid o E _ (w.alloc (.cells #[.bool (decide (o < 0)), .slice (some ⟨b, off, none⟩) zs.length cap, .int .i64 E] 47)) (hd.ext (HX.out _)) hok)
  have HBx := Lib.hid (Bx.new w 47 (decide (o < 0)) (.slice (some ⟨b, off, none⟩) zs.length cap) E)
  rw [← hneg.out] at HV HBx HD ⊢
  rw [HZ.out]
  clear hd hr hok k1 k2 k3 k4 hz ho0 hm
  generalize zs.length = l at *
  have t0 : ((l : Int) == 0) = false := by simp; omega
  generalize rnd (cD z.natAbs e) (aim neg mode) = R at *
  go_enter Tryz.func114, Tryz.ntmps114
  go_wp2_with (fail)
  refine HV.out.mono ?_
  rintro e w1 ⟨rfl, hx⟩
  have H1 := Lib.hid (And.intro ((HX.out _).trans hx) (HBx.out.ext hx))
  have c0 := H1.out.2.c0
  have c1 := H1.out.2.c1
  have c2 := H1.out.2.c2
  have C := Lib.hid (And.intro c0 (And.intro c1 c2))
  clear hx
  go_wp2_with (fail)
  refine (d_known mode _ HMo.out).mono ?_
  rintro en w2 ⟨rfl, rfl⟩
  go_wp2_with (fail)
  refine (d_value o E _ _ (HD.out.ext H1.out.1) hfit.out).mono ?_
  rintro en w2 ⟨g, rfl, hx, hg, hb⟩
  have hgs := H1.out.2.lt
  have HE := Lib.hid (And.intro hx (And.intro hg (And.intro hb (show g ≠ w.heap.size by omega))))
  have c0 := HE.out.1.cell_some C.out.1
  have c1 := HE.out.1.cell_some C.out.2.1
  have c2 := HE.out.1.cell_some C.out.2.2
  have C2 := Lib.hid (And.intro c0 (And.intro c1 c2))
  clear hx hg hb hgs
  go_wp2_with (fail)
  go_region_held3 (fun w' => w'.cell? ⟨w.heap.size, 0, none⟩ = some (.bool neg) ∧ w'.cell? ⟨w.heap.size, 2, none⟩ = some (.int .i64 E)) (first | go_keep | (have HXX := HF.out; exact ⟨HXX.1.cell_some C3.out.1, HXX.1.cell_some C3.out.2⟩) | (have HXX := C3.out; exact ⟨HXX.1, HXX.2⟩)) (first | (go_at_call 120; refine (i_abs g g o _ (HE.out.2.2.1.hv.ext (Ext.drewN (Ext.refl _) _)) (HE.out.2.2.1.ext (Ext.drewN (Ext.refl _) _))).mono ?_; rintro en w3 ⟨rfl, hx, hb⟩; have C3 : Hid (w3.cell? ⟨w.heap.size, 0, none⟩ = some (.bool neg) ∧ w3.cell? ⟨w.heap.size, 2, none⟩ = some (.int .i64 E)) := And.intro (hx.cell C2.out.1 (Ne.symm HE.out.2.2.2)) (hx.cell C2.out.2.2 (Ne.symm HE.out.2.2.2)); have HA := Lib.hid (And.intro (Chg.ext (HE.out.1.drewN _) hx HE.out.2.1) hb); clear hx hb) | (go_at_call 123; refine (HR.out g _ (by first | exact HA.out.2 | exact HA.out.2.ext (Ext.drewN (Ext.refl _) _))).mono ?_; rintro en w4 ⟨rfl, hx⟩; have HF := Lib.hid (And.intro hx True.intro); clear hx))
  all_goals (go_wp2_with (fail); go_ret2; exact ⟨rfl, H1.out.1.trans (HA.out.1.trans (by first | exact HF.out.1 | exact (Ext.drewN (Ext.refl _) _).trans HF.out.1 | exact HF.out.1.drewN _))⟩)
end Go.Proofs.YtdpjkddllimcoaaGreatDoor
end

section
/- The reference's rounding: plain facts; the making of a float. -/
namespace Fl
open Go Go.RowKit
theorem half_mod (N D : Nat) (hD : 1 ≤ D) : N % 2 ^ D = N % 2 ^ (D - 1) + 2 ^ (D - 1) * (N / 2 ^ (D - 1) % 2) ∧ 2 ^ D = 2 * 2 ^ (D - 1) ∧ N % 2 ^ (D - 1) < 2 ^ (D - 1) := by
  have e : 2 ^ D = 2 ^ (D - 1) * 2 := by rw [← Nat.pow_succ]; congr 1; omega
  refine ⟨?_, by omega, Nat.mod_lt _ (Nat.two_pow_pos _)⟩
  rw [e, Nat.mod_mul]
theorem away_near (N D : Nat) (hD : 1 ≤ D) : away 1 (N / 2 ^ D) (N % 2 ^ D) (2 ^ D) = if N / 2 ^ (D - 1) % 2 = 1 ∧ (N % 2 ^ (D - 1) ≠ 0 ∨ N / 2 ^ D % 2 = 1) then N / 2 ^ D + 1 else N / 2 ^ D := by
  obtain ⟨h1, h2, h3⟩ := half_mod N D hD
  unfold away
  rw [if_neg (by decide), if_neg (by decide), h1, h2]
  generalize N % 2 ^ (D - 1) = r at *
  generalize 2 ^ (D - 1) = u at *
  generalize N / (2 * u) = q
  rcases Nat.mod_two_eq_zero_or_one (N / u) with h | h
  · rw [h, Nat.mul_zero, Nat.add_zero, if_pos (by omega), if_neg (by omega)]
  · rw [h, Nat.mul_one, if_neg (by omega)]
    by_cases h0 : r = 0
    · subst h0
      rw [if_neg (by omega)]
      rcases Nat.mod_two_eq_zero_or_one q with g | g
      · rw [g, if_neg (by omega)]
        simp
      · rw [g, if_pos ⟨rfl, .inr rfl⟩]
    · rw [if_pos (by omega), if_pos ⟨rfl, .inl h0⟩]
theorem odd_cut {N D : Nat} (hN : N % 2 = 1) (hD : 1 ≤ D) : N % 2 ^ D ≠ 0 := by
  intro h
  have : 2 ∣ 2 ^ D := ⟨2 ^ (D - 1), by rw [← Nat.pow_succ']; congr 1; omega⟩
  have h2 := Nat.dvd_trans this (Nat.dvd_of_mod_eq_zero h)
  omega
theorem to_over {N d : Nat} {E : Int} (h0 : 0 < N) (ht : 1024 < (bl N : Int) + E) : rnd (cD N E) d = if d = 0 then INF - 1 else INF := by
  refine rnd_big ?_
  have h1 := bl_le (Nat.ne_of_gt h0)
  rcases Int.le_total 1024 E with h2 | h2
  · rw [show (1024 - E).toNat = 0 by omega]
    exact Nat.mul_pos h0 (Nat.two_pow_pos _)
  · rw [show (E - 1024).toNat = 0 by omega, Nat.pow_zero, Nat.mul_one]
    exact Nat.le_trans (Nat.pow_le_pow_right (by decide) (by omega)) h1
theorem to_under {N d : Nat} {E : Int} (h0 : 0 < N) (ht : (bl N : Int) + E < -1075) : rnd (cD N E) d = if d = 2 then 1 else 0 := (Cr.whole N E).under h0 (bl_lt N) ht
theorem two_B : 2 * B = 2 ^ 53 := by decide
/-- so many digits as a float has. -/
theorem to_exact {N d k : Nat} {E e0 : Int} (h0 : 0 < N) (ht : (bl N : Int) + E ≤ 1024) (he : e0 = max ((bl N : Int) + E - 53) (-1074)) (hk : E - e0 = (k : Int)) :
    N * 2 ^ k < 2 * B ∧ (e0 = -1074 ∨ B ≤ N * 2 ^ k) ∧ rnd (cD N E) d = (e0 + 1074).toNat * B + N * 2 ^ k := by
  have hb := bl_mul_pow k (Nat.ne_of_gt h0)
  have hne : N * 2 ^ k ≠ 0 := Nat.ne_of_gt (Nat.mul_pos h0 (Nat.two_pow_pos _))
  have h1 : N * 2 ^ k < 2 * B := by
    rw [two_B]
    exact Nat.lt_of_lt_of_le (bl_lt _) (Nat.pow_le_pow_right (by decide) (by omega))
  have h2 : e0 = -1074 ∨ B ≤ N * 2 ^ k := by
    rcases Int.lt_or_le ((bl N : Int) + E - 53) (-1074) with h | h
    · left; omega
    · right
      refine Nat.le_trans ?_ (bl_le hne)
      rw [hb, show bl N + k - 1 = 52 by omega]
      decide
  refine ⟨h1, h2, ?_⟩
  have h3 := cD_shift N E k
  rw [show E - (k : Int) = e0 by omega] at h3
  rw [← h3]
  refine rnd_exact (by omega) h1 (by rcases h2 with h | h; · left; omega
                                     · right; exact h) ?_
  have h4 : (e0 + 1074).toNat ≤ 2045 := by omega
  have := Nat.mul_le_mul_right B h4
  unfold B INF at *
  omega
theorem to_cut {N d D : Nat} {E e0 : Int} (h0 : 0 < N) (ht : (bl N : Int) + E ≤ 1024) (he : e0 = max ((bl N : Int) + E - 53) (-1074)) (hD : e0 - E = (D : Int)) :
    N / 2 ^ D < 2 * B ∧ (e0 = -1074 ∨ B ≤ N / 2 ^ D) ∧ rnd (cD N E) d = (e0 + 1074).toNat * B + away d (N / 2 ^ D) (N % 2 ^ D) (2 ^ D) := by
  have hp := bl_pos (Nat.ne_of_gt h0)
  have h1 : N / 2 ^ D < 2 * B := by
    rw [two_B]
    refine Nat.div_lt_of_lt_mul ?_
    rw [← Nat.pow_add]
    exact Nat.lt_of_lt_of_le (bl_lt _) (Nat.pow_le_pow_right (by decide) (by omega))
  have h2 : e0 = -1074 ∨ B ≤ N / 2 ^ D := by
    rcases Int.lt_or_le ((bl N : Int) + E - 53) (-1074) with h | h
    · left; omega
    · right
      rw [Nat.le_div_iff_mul_le (Nat.two_pow_pos _)]
      refine Nat.le_trans ?_ (bl_le (Nat.ne_of_gt h0))
      rw [show B = 2 ^ 52 by decide, ← Nat.pow_add]
      exact Nat.pow_le_pow_right (by decide) (by omega)
  refine ⟨h1, h2, ?_⟩
  refine rnd_cut (by omega) h1 (by rcases h2 with h | h; · left; omega
                                   · right; exact h) ?_
  have h4 : (e0 + 1074).toNat ≤ 2045 := by omega
  have := Nat.mul_le_mul_right B h4
  unfold B INF at *
  omega
theorem away_le (d q rem u : Nat) : q ≤ away d q rem u ∧ away d q rem u ≤ q + 1 := by
  unfold away
  split
  · omega
  · split
    · split <;> omega
    · split
      · omega
      · split <;> omega
end Fl
namespace Go.Proofs.YtdpjkddllimcoaaGreatDoor
open Go.RowKit Fl
theorem k_sign (n : Bool) (w : World) : Calls Tryz.prog 132 #[.bool n] w fun en wn => en = .returned (.int .i64 (if n then 1 else 0)) ∧ w = wn := by
  cases n <;> (go_enter Tryz.func132, Tryz.ntmps132; go_wp2_with (fail); go_ret; exact ⟨rfl, rfl⟩)
attribute [local go_sem] m_of
theorem build_bits {m l : Nat} (h1 : 4503599627370496 ≤ m) (h2 : m < 9007199254740992) (hl : l ≤ 2046) : ∃ M T : Nat, bits .and .u64 (m : Int) 4503599627370495 = (M : Int) ∧ bits .or .u64 ((l : Int) * 4503599627370496) (M : Int) = (T : Int) ∧ T + 4503599627370496 = l * 4503599627370496 + m ∧ T < 9223372036854775808 := by
  refine ⟨m % 4503599627370496, l * 4503599627370496 + m % 4503599627370496, bits_and_52 m (by omega), ?_, by omega, by omega⟩
  have h := u64_or_nat (l * 4503599627370496) (m % 4503599627370496) (by omega) (by omega)
  rw [show ((l * 4503599627370496 : Nat) : Int) = (l : Int) * 4503599627370496 by omega] at h
  rw [h, Nat.mul_comm, show (4503599627370496 : Nat) = 2 ^ 52 by decide, ← Nat.two_pow_add_eq_or_of_lt (Nat.mod_lt _ (by decide))]
theorem sign_bits {T : Nat} (hT : T < 9223372036854775808) : ∃ U : Nat, bits .or .u64 (T : Int) 9223372036854775808 = (U : Int) ∧ U = S + T := by
  refine ⟨S + T, ?_, rfl⟩
  have h := u64_or_nat T 9223372036854775808 (by omega) (by decide)
  rw [Nat.or_comm, show (9223372036854775808 : Nat) = 2 ^ 63 * 1 by decide, ← Nat.two_pow_add_eq_or_of_lt (by omega)] at h
  rw [show ((2 ^ 63 * 1 : Nat) : Int) = 9223372036854775808 by decide] at h
  exact h
attribute [local go_sem] m_of
theorem k_build_norm (n : Bool) (m : Nat) (e : Int) (w : World) (hm : m < 9007199254740992) (he : -1074 ≤ e ∧ e ≤ 971) (hb : 4503599627370496 ≤ m) (T : Nat) (hT : T = (e + 1074).toNat * 4503599627370496 + m) :
    Calls Tryz.prog 133 #[.bool n, .int .u64 m, .int .i64 e] w fun en wn => en = .returned (.float .f64 (word n T)) ∧ w = wn := by
  obtain ⟨l, hl⟩ : ∃ l : Nat, e + 1075 = (l : Int) := ⟨(e + 1075).toNat, by omega⟩
  have hl2 : l ≤ 2046 := by omega
  have t1 : decide ((4503599627370496 : Int) ≤ (m : Int)) = true := by rw [decide_eq_true_eq]; omega
  obtain ⟨M, T', g1, g2, g3, g4⟩ := build_bits hb hm hl2
  obtain ⟨U, g5, g6⟩ := sign_bits g4
  obtain rfl : T' = T := by omega
  have H1 : Hid (word true T' = U ∧ word false T' = T') := ⟨g6.symm, rfl⟩
  have hlb : (l : Int) * 4503599627370496 < 18446744073709551616 := by omega
  clear hb he hT g3 g6 hm g4
  cases n
  · rw [H1.out.2]
    go_enter Tryz.func133, Tryz.ntmps133
    go_wp2_with (fail)
    go_ret
    exact ⟨rfl, rfl⟩
  · rw [H1.out.1]
    go_enter Tryz.func133, Tryz.ntmps133
    go_wp2_with (fail)
    go_ret
    exact ⟨rfl, rfl⟩
theorem k_build_small (n : Bool) (m : Nat) (e : Int) (w : World) (hb : m < 4503599627370496) :
    Calls Tryz.prog 133 #[.bool n, .int .u64 m, .int .i64 e] w fun en wn => en = .returned (.float .f64 (word n m)) ∧ w = wn := by
  have t1 : decide ((4503599627370496 : Int) ≤ (m : Int)) = false := by rw [decide_eq_false_iff_not]; omega
  obtain ⟨U, g5, g6⟩ := sign_bits (T := m) (by omega)
  have H1 : Hid (word true m = U ∧ word false m = m) := ⟨g6.symm, rfl⟩
  clear g6 hb
  cases n
  · rw [H1.out.2]
    go_enter Tryz.func133, Tryz.ntmps133
    go_wp2_with (fail)
    go_ret
    exact ⟨rfl, rfl⟩
  · rw [H1.out.1]
    go_enter Tryz.func133, Tryz.ntmps133
    go_wp2_with (fail)
    go_ret
    exact ⟨rfl, rfl⟩
theorem k_build (n : Bool) (m : Nat) (e : Int) (w : World) (hm : m < 2 * B) (he : -1074 ≤ e ∧ e ≤ 971) (hn : e = -1074 ∨ B ≤ m) :
    Calls Tryz.prog 133 #[.bool n, .int .u64 m, .int .i64 e] w fun en wn => en = .returned (.float .f64 (word n ((e + 1074).toNat * B + m))) ∧ w = wn := by
  unfold B at *
  by_cases hb : 4503599627370496 ≤ m
  · exact k_build_norm n m e w (by omega) he hb _ rfl
  · obtain rfl : e = -1074 := by omega
    have := k_build_small n m (-1074) w (by omega)
    simpa using this
end Go.Proofs.YtdpjkddllimcoaaGreatDoor
end

section
/- The reference's rounding. -/
namespace Fl
theorem aim_of (n : Bool) {m : Int} (hm : m = 1 ∨ m = 2 ∨ m = 3) : (m = 2 ∧ aim n m = 1) ∨ (m = 1 ∧ n = true ∧ aim n m = 2) ∨ (m = 1 ∧ n = false ∧ aim n m = 0) ∨ (m = 3 ∧ n = true ∧ aim n m = 0) ∨ (m = 3 ∧ n = false ∧ aim n m = 2) := by
  rcases hm with rfl | rfl | rfl <;> cases n <;> simp [aim]
end Fl
namespace Go.Proofs.YtdpjkddllimcoaaGreatDoor
open Go.RowKit Fl
set_option maxRecDepth 20000 in
set_option maxHeartbeats 4000000 in
theorem k_To_over (a : Value) (z e m : Int) (L : Nat) (w : World) (h : Ry w a z e) (hz : z ≠ 0) (hL : z.natAbs < 2 ^ L) (hLb : L ≤ 1000000) (he : -1152921504606846976 ≤ e ∧ e ≤ 1152921504606846976) (hm : m = 1 ∨ m = 2 ∨ m = 3) (hc : 1024 < topI z e) :
    Calls Tryz.prog 96 #[a, .int .i64 m] w fun en wn => en = .returned (.float .f64 (word (decide (z < 0)) (rnd (cD z.natAbs e) (aim (decide (z < 0)) m)))) ∧ Ext w wn := by
  obtain ⟨n, p, l, c, o, E, rfl, hn, hl, hN, hr, hp⟩ := h.open
  have t0 := len_ne0 (Nat.pos_of_ne_zero (fun h0 => hz (hl.1 h0)))
  obtain ⟨r1, r2, r3, r4⟩ := hr.range hz hL
  have hT : topI z e = bl o.natAbs + E := by unfold topI; rw [if_neg hz, hr.top hz]
  have HTp : Hid (∀ w', Ext w w' → Calls Tryz.prog 124 #[.agg #[.bool n, .slice p l c, .int .i64 E]] w' fun en w'' => en = .returned (.int .i64 (topI z e)) ∧ Ext w' w'') := fun w' hx' => k_High _ z e L w' (h.ext hx') hL (by omega) (by omega)
  have HX : Hid (∀ o1, Ext w (w.alloc o1)) := fun o1 => (Ext.refl w).alloc o1
  have HBx : Hid (Bx (w.alloc (.cells #[.bool n, .slice p l c, .int .i64 E] 35)) 35 w.heap.size n (.slice p l c) E) := Bx.new _ _ _ _ _
  rw [← hr.cD (hr.odd_ne hz), ← hn]
  rw [hT] at HTp
  have hbN := bl_le_of r3
  have h0N : 0 < o.natAbs := by omega
  have hov := fun d => to_over (d := d) (E := E) h0N (by omega)
  rw [hT] at hc
  generalize o.natAbs = N at *
  have t1 : decide (1024 < (bl N : Int) + E) = true := by simp; omega
  have hbb : (bl N : Int) + E ≤ 2305843009213693952 := by omega
  clear h hz hL he hn hl hN hr hp r3 r4 hT h0N
  generalize (bl N : Int) + E = top at *
  rcases aim_of n hm with ⟨rfl, hd⟩ | ⟨rfl, rfl, hd⟩ | ⟨rfl, rfl, hd⟩ | ⟨rfl, rfl, hd⟩ | ⟨rfl, rfl, hd⟩
  · rw [hd, hov 1]
    clear hov hd hm
    cases n
    · go_enter Tryz.func96, Tryz.ntmps96
      go_wp2_with (fail)
      refine (HTp.out _ (HX.out _)).mono ?_
      rintro en w2 ⟨rfl, hx⟩
      have H2 : Hid (Bx w2 35 w.heap.size false (.slice p l c) E ∧ Ext w w2) := ⟨HBx.out.ext hx, (HX.out _).trans hx⟩
      have a0 := H2.out.1.c0
      have a1 := H2.out.1.c1
      have a2 := H2.out.1.c2
      clear hx
      go_wp2_with (fail)
      refine (k_sign false _).mono ?_
      rintro en wn ⟨rfl, rfl⟩
      go_wp2_with (fail)
      refine (m_inf _ _).mono ?_
      rintro en wn ⟨rfl, rfl⟩
      go_wp2_with (fail)
      go_ret
      exact ⟨rfl, H2.out.2⟩
    · go_enter Tryz.func96, Tryz.ntmps96
      go_wp2_with (fail)
      refine (HTp.out _ (HX.out _)).mono ?_
      rintro en w2 ⟨rfl, hx⟩
      have H2 : Hid (Bx w2 35 w.heap.size true (.slice p l c) E ∧ Ext w w2) := ⟨HBx.out.ext hx, (HX.out _).trans hx⟩
      have a0 := H2.out.1.c0
      have a1 := H2.out.1.c1
      have a2 := H2.out.1.c2
      clear hx
      go_wp2_with (fail)
      refine (k_sign true _).mono ?_
      rintro en wn ⟨rfl, rfl⟩
      go_wp2_with (fail)
      refine (m_inf _ _).mono ?_
      rintro en wn ⟨rfl, rfl⟩
      go_wp2_with (fail)
      go_ret
      exact ⟨rfl, H2.out.2⟩
  · rw [hd, hov 2]
    clear hov hd hm
    go_enter Tryz.func96, Tryz.ntmps96
    go_wp2_with (fail)
    refine (HTp.out _ (HX.out _)).mono ?_
    rintro en w2 ⟨rfl, hx⟩
    have H2 : Hid (Bx w2 35 w.heap.size true (.slice p l c) E ∧ Ext w w2) := ⟨HBx.out.ext hx, (HX.out _).trans hx⟩
    have a0 := H2.out.1.c0
    have a1 := H2.out.1.c1
    have a2 := H2.out.1.c2
    clear hx
    go_wp2_with (fail)
    refine (k_sign true _).mono ?_
    rintro en wn ⟨rfl, rfl⟩
    go_wp2_with (fail)
    refine (m_inf _ _).mono ?_
    rintro en wn ⟨rfl, rfl⟩
    go_wp2_with (fail)
    go_ret
    exact ⟨rfl, H2.out.2⟩
  · rw [hd, hov 0]
    clear hov hd hm
    go_enter Tryz.func96, Tryz.ntmps96
    go_wp2_with (fail)
    refine (HTp.out _ (HX.out _)).mono ?_
    rintro en w2 ⟨rfl, hx⟩
    have H2 : Hid (Bx w2 35 w.heap.size false (.slice p l c) E ∧ Ext w w2) := ⟨HBx.out.ext hx, (HX.out _).trans hx⟩
    have a0 := H2.out.1.c0
    have a1 := H2.out.1.c1
    have a2 := H2.out.1.c2
    clear hx
    go_wp2_with (fail)
    refine (k_build false 9007199254740991 971 _ (by decide) (by decide) (.inr (by decide))).mono ?_
    rintro en wn ⟨rfl, rfl⟩
    go_wp2_with (fail)
    go_ret
    exact ⟨rfl, H2.out.2⟩
  · rw [hd, hov 0]
    clear hov hd hm
    go_enter Tryz.func96, Tryz.ntmps96
    go_wp2_with (fail)
    refine (HTp.out _ (HX.out _)).mono ?_
    rintro en w2 ⟨rfl, hx⟩
    have H2 : Hid (Bx w2 35 w.heap.size true (.slice p l c) E ∧ Ext w w2) := ⟨HBx.out.ext hx, (HX.out _).trans hx⟩
    have a0 := H2.out.1.c0
    have a1 := H2.out.1.c1
    have a2 := H2.out.1.c2
    clear hx
    go_wp2_with (fail)
    refine (k_build true 9007199254740991 971 _ (by decide) (by decide) (.inr (by decide))).mono ?_
    rintro en wn ⟨rfl, rfl⟩
    go_wp2_with (fail)
    go_ret
    exact ⟨rfl, H2.out.2⟩
  · rw [hd, hov 2]
    clear hov hd hm
    go_enter Tryz.func96, Tryz.ntmps96
    go_wp2_with (fail)
    refine (HTp.out _ (HX.out _)).mono ?_
    rintro en w2 ⟨rfl, hx⟩
    have H2 : Hid (Bx w2 35 w.heap.size false (.slice p l c) E ∧ Ext w w2) := ⟨HBx.out.ext hx, (HX.out _).trans hx⟩
    have a0 := H2.out.1.c0
    have a1 := H2.out.1.c1
    have a2 := H2.out.1.c2
    clear hx
    go_wp2_with (fail)
    refine (k_sign false _).mono ?_
    rintro en wn ⟨rfl, rfl⟩
    go_wp2_with (fail)
    refine (m_inf _ _).mono ?_
    rintro en wn ⟨rfl, rfl⟩
    go_wp2_with (fail)
    go_ret
    exact ⟨rfl, H2.out.2⟩
end Go.Proofs.YtdpjkddllimcoaaGreatDoor
end

section
/- The reference's rounding: what is small, and what is exact. -/
namespace Go.Proofs.YtdpjkddllimcoaaGreatDoor
open Go.RowKit Fl
set_option maxRecDepth 20000 in
set_option maxHeartbeats 4000000 in
theorem k_To_under (a : Value) (z e m : Int) (L : Nat) (w : World) (h : Ry w a z e) (hz : z ≠ 0) (hL : z.natAbs < 2 ^ L) (hLb : L ≤ 1000000) (he : -1152921504606846976 ≤ e ∧ e ≤ 1152921504606846976) (hm : m = 1 ∨ m = 2 ∨ m = 3) (hc : topI z e < -1075) :
    Calls Tryz.prog 96 #[a, .int .i64 m] w fun en wn => en = .returned (.float .f64 (word (decide (z < 0)) (rnd (cD z.natAbs e) (aim (decide (z < 0)) m)))) ∧ Ext w wn := by
  obtain ⟨n, p, l, c, o, E, rfl, hn, hl, hN, hr, hp⟩ := h.open
  have t0 := len_ne0 (Nat.pos_of_ne_zero (fun h0 => hz (hl.1 h0)))
  obtain ⟨r1, r2, r3, r4⟩ := hr.range hz hL
  have hT : topI z e = bl o.natAbs + E := by unfold topI; rw [if_neg hz, hr.top hz]
  have HTp : Hid (∀ w', Ext w w' → Calls Tryz.prog 124 #[.agg #[.bool n, .slice p l c, .int .i64 E]] w' fun en w'' => en = .returned (.int .i64 (topI z e)) ∧ Ext w' w'') := fun w' hx' => k_High _ z e L w' (h.ext hx') hL (by omega) (by omega)
  have HX : Hid (∀ o1, Ext w (w.alloc o1)) := fun o1 => (Ext.refl w).alloc o1
  have HBx : Hid (Bx (w.alloc (.cells #[.bool n, .slice p l c, .int .i64 E] 35)) 35 w.heap.size n (.slice p l c) E) := Bx.new _ _ _ _ _
  rw [← hr.cD (hr.odd_ne hz), ← hn]
  rw [hT] at HTp
  have hbN := bl_le_of r3
  have h0N : 0 < o.natAbs := by omega
  have hov := fun d => to_under (d := d) (E := E) h0N (by omega)
  rw [hT] at hc
  have hp1 := bl_pos (Nat.ne_of_gt h0N)
  generalize o.natAbs = N at *
  have t1 : decide (1024 < (bl N : Int) + E) = false := by simp; omega
  have t2 : max ((bl N : Int) + E - 53) (-1074) = -1074 := by omega
  have t3 : decide (-1074 ≤ E) = false := by simp; omega
  have t4 : decide ((bl N : Int) + E < -1075) = true := by simp; omega
  have hbb : -2305843009213693952 ≤ (bl N : Int) + E := by omega
  have hbc : (bl N : Int) + E ≤ 0 := by omega
  clear h hz hL he hn hl hN hr hp r3 r4 hT h0N hp1 hc
  generalize (bl N : Int) + E = top at *
  rcases aim_of n hm with ⟨rfl, hd⟩ | ⟨rfl, rfl, hd⟩ | ⟨rfl, rfl, hd⟩ | ⟨rfl, rfl, hd⟩ | ⟨rfl, rfl, hd⟩
  · rw [hd, hov 1]
    clear hov hd hm
    cases n
    · skip
      go_enter Tryz.func96, Tryz.ntmps96
      go_wp2_with (fail)
      refine (HTp.out _ (HX.out _)).mono ?_
      rintro en w2 ⟨rfl, hx⟩
      have H2 : Hid (Bx w2 35 w.heap.size false (.slice p l c) E ∧ Ext w w2) := ⟨HBx.out.ext hx, (HX.out _).trans hx⟩
      have a0 := H2.out.1.c0
      have a1 := H2.out.1.c1
      have a2 := H2.out.1.c2
      clear hx
      go_wp2_with (fail)
      refine (k_build false 0 (-1074) _ (by decide) (by decide) (.inl rfl)).mono ?_
      rintro en wn ⟨rfl, rfl⟩
      go_wp2_with (fail)
      go_ret
      exact ⟨rfl, H2.out.2⟩
    · skip
      go_enter Tryz.func96, Tryz.ntmps96
      go_wp2_with (fail)
      refine (HTp.out _ (HX.out _)).mono ?_
      rintro en w2 ⟨rfl, hx⟩
      have H2 : Hid (Bx w2 35 w.heap.size true (.slice p l c) E ∧ Ext w w2) := ⟨HBx.out.ext hx, (HX.out _).trans hx⟩
      have a0 := H2.out.1.c0
      have a1 := H2.out.1.c1
      have a2 := H2.out.1.c2
      clear hx
      go_wp2_with (fail)
      refine (k_build true 0 (-1074) _ (by decide) (by decide) (.inl rfl)).mono ?_
      rintro en wn ⟨rfl, rfl⟩
      go_wp2_with (fail)
      go_ret
      exact ⟨rfl, H2.out.2⟩
  · rw [hd, hov 2]
    clear hov hd hm
    go_enter Tryz.func96, Tryz.ntmps96
    go_wp2_with (fail)
    refine (HTp.out _ (HX.out _)).mono ?_
    rintro en w2 ⟨rfl, hx⟩
    have H2 : Hid (Bx w2 35 w.heap.size true (.slice p l c) E ∧ Ext w w2) := ⟨HBx.out.ext hx, (HX.out _).trans hx⟩
    have a0 := H2.out.1.c0
    have a1 := H2.out.1.c1
    have a2 := H2.out.1.c2
    clear hx
    go_wp2_with (fail)
    refine (k_build true 1 (-1074) _ (by decide) (by decide) (.inl rfl)).mono ?_
    rintro en wn ⟨rfl, rfl⟩
    go_wp2_with (fail)
    go_ret
    exact ⟨rfl, H2.out.2⟩
  · rw [hd, hov 0]
    clear hov hd hm
    go_enter Tryz.func96, Tryz.ntmps96
    go_wp2_with (fail)
    refine (HTp.out _ (HX.out _)).mono ?_
    rintro en w2 ⟨rfl, hx⟩
    have H2 : Hid (Bx w2 35 w.heap.size false (.slice p l c) E ∧ Ext w w2) := ⟨HBx.out.ext hx, (HX.out _).trans hx⟩
    have a0 := H2.out.1.c0
    have a1 := H2.out.1.c1
    have a2 := H2.out.1.c2
    clear hx
    go_wp2_with (fail)
    refine (k_build false 0 (-1074) _ (by decide) (by decide) (.inl rfl)).mono ?_
    rintro en wn ⟨rfl, rfl⟩
    go_wp2_with (fail)
    go_ret
    exact ⟨rfl, H2.out.2⟩
  · rw [hd, hov 0]
    clear hov hd hm
    go_enter Tryz.func96, Tryz.ntmps96
    go_wp2_with (fail)
    refine (HTp.out _ (HX.out _)).mono ?_
    rintro en w2 ⟨rfl, hx⟩
    have H2 : Hid (Bx w2 35 w.heap.size true (.slice p l c) E ∧ Ext w w2) := ⟨HBx.out.ext hx, (HX.out _).trans hx⟩
    have a0 := H2.out.1.c0
    have a1 := H2.out.1.c1
    have a2 := H2.out.1.c2
    clear hx
    go_wp2_with (fail)
    refine (k_build true 0 (-1074) _ (by decide) (by decide) (.inl rfl)).mono ?_
    rintro en wn ⟨rfl, rfl⟩
    go_wp2_with (fail)
    go_ret
    exact ⟨rfl, H2.out.2⟩
  · rw [hd, hov 2]
    clear hov hd hm
    go_enter Tryz.func96, Tryz.ntmps96
    go_wp2_with (fail)
    refine (HTp.out _ (HX.out _)).mono ?_
    rintro en w2 ⟨rfl, hx⟩
    have H2 : Hid (Bx w2 35 w.heap.size false (.slice p l c) E ∧ Ext w w2) := ⟨HBx.out.ext hx, (HX.out _).trans hx⟩
    have a0 := H2.out.1.c0
    have a1 := H2.out.1.c1
    have a2 := H2.out.1.c2
    clear hx
    go_wp2_with (fail)
    refine (k_build false 1 (-1074) _ (by decide) (by decide) (.inl rfl)).mono ?_
    rintro en wn ⟨rfl, rfl⟩
    go_wp2_with (fail)
    go_ret
    exact ⟨rfl, H2.out.2⟩
set_option maxRecDepth 20000 in
set_option maxHeartbeats 4000000 in
theorem k_To_exact (a : Value) (z e m : Int) (L : Nat) (w : World) (h : Ry w a z e) (hz : z ≠ 0) (hL : z.natAbs < 2 ^ L) (hLb : L ≤ 1000000) (he : -1152921504606846976 ≤ e ∧ e ≤ 1152921504606846976) (hm : m = 1 ∨ m = 2 ∨ m = 3) (hc : topI z e ≤ 1024) (hx : ∀ E o, Rep o E z e → max (topI z e - 53) (-1074) ≤ E) :
    Calls Tryz.prog 96 #[a, .int .i64 m] w fun en wn => en = .returned (.float .f64 (word (decide (z < 0)) (rnd (cD z.natAbs e) (aim (decide (z < 0)) m)))) ∧ Ext w wn := by
  obtain ⟨n, p, l, c, o, E, rfl, hn, hl, hN, hr, hp⟩ := h.open
  have t0 := len_ne0 (Nat.pos_of_ne_zero (fun h0 => hz (hl.1 h0)))
  obtain ⟨r1, r2, r3, r4⟩ := hr.range hz hL
  have hT : topI z e = bl o.natAbs + E := by unfold topI; rw [if_neg hz, hr.top hz]
  have HTp : Hid (∀ w', Ext w w' → Calls Tryz.prog 124 #[.agg #[.bool n, .slice p l c, .int .i64 E]] w' fun en w'' => en = .returned (.int .i64 (topI z e)) ∧ Ext w' w'') := fun w' hx' => k_High _ z e L w' (h.ext hx') hL (by omega) (by omega)
  have HX : Hid (∀ o1, Ext w (w.alloc o1)) := fun o1 => (Ext.refl w).alloc o1
  have HBx : Hid (Bx (w.alloc (.cells #[.bool n, .slice p l c, .int .i64 E] 35)) 35 w.heap.size n (.slice p l c) E) := Bx.new _ _ _ _ _
  rw [← hr.cD (hr.odd_ne hz), ← hn]
  rw [hT] at HTp
  have hbN := bl_le_of r3
  have h0N : 0 < o.natAbs := by omega
  have hx := hx E o hr
  rw [hT] at hc hx
  have hp1 := bl_pos (Nat.ne_of_gt h0N)
  obtain ⟨e0, he0⟩ : ∃ e0, max ((bl o.natAbs : Int) + E - 53) (-1074) = e0 := ⟨_, rfl⟩
  rw [he0] at hx
  obtain ⟨k, hk⟩ : ∃ k : Nat, E - e0 = (k : Int) := ⟨(E - e0).toNat, by omega⟩
  have hkb : k ≤ 4000 := by omega
  have hov := to_exact (N := o.natAbs) (d := aim n m) h0N (by omega) he0.symm hk
  have hU : Hid (∀ w', Ext w w' → Calls Tryz.prog 79 #[.slice p l c, .int .i64 (k : Int)] w' fun en w'' => ∃ v', en = .returned v' ∧ Ext w' w'' ∧ Nt w'' v' (o.natAbs * 2 ^ k)) := fun w' hx' => k_up _ _ k w' (hN.ext hx') (fit_of (k := L) (l := 1048575) r3 (by omega)) (by omega)
  generalize o.natAbs = N at *
  have t1 : decide (1024 < (bl N : Int) + E) = false := by simp; omega
  have t3 : decide (e0 ≤ E) = true := by simp; omega
  have hbb : -2305843009213693952 ≤ (bl N : Int) + E := by omega
  have hbc : (bl N : Int) + E ≤ 1024 := by omega
  have hB : Hid (∀ w', Calls Tryz.prog 133 #[.bool n, .int .u64 ((N * 2 ^ k : Nat) : Int), .int .i64 e0] w' fun en wn => en = .returned (.float .f64 (word n (rnd (cD N E) (aim n m)))) ∧ w' = wn) := by
    intro w'
    rw [hov.2.2]
    exact k_build n (N * 2 ^ k) e0 w' hov.1 (by omega) hov.2.1
  have hS : Hid (∀ w' v, Nt w' v (N * 2 ^ k) → Calls Tryz.prog 134 #[v] w' fun en wn => en = .returned (.int .u64 ((N * 2 ^ k : Nat) : Int)) ∧ w' = wn) := fun w' v hv => k_small v (N * 2 ^ k) w' hv (by have := hov.1; unfold B at this; omega)
  generalize word n (rnd (cD N E) (aim n m)) = R at *
  generalize N * 2 ^ k = M at *
  clear h hz hL he hn hl hN hr hp r3 r4 hT h0N hp1 hov hc hx
  generalize (bl N : Int) + E = top at *
  clear hbN
  rcases hm with rfl | rfl | rfl <;> cases n
  · skip
    go_enter Tryz.func96, Tryz.ntmps96
    go_wp2_with (fail)
    refine (HTp.out _ (HX.out _)).mono ?_
    rintro en w2 ⟨rfl, hx⟩
    have H2 : Hid (Bx w2 35 w.heap.size false (.slice p l c) E ∧ Ext w w2) := ⟨HBx.out.ext hx, (HX.out _).trans hx⟩
    have a0 := H2.out.1.c0
    have a1 := H2.out.1.c1
    have a2 := H2.out.1.c2
    clear hx
    go_wp2_with (fail)
    refine (hU.out _ H2.out.2).mono ?_
    rintro en w3 ⟨v1, rfl, hx, hd⟩
    have H3 : Hid (Bx w3 35 w.heap.size false (.slice p l c) E ∧ Ext w w3) := ⟨H2.out.1.ext hx, H2.out.2.trans hx⟩
    have HV := Lib.hid hd
    clear a0 a1 a2 hx hd
    have a0 := H3.out.1.c0
    have a1 := H3.out.1.c1
    have a2 := H3.out.1.c2
    go_wp2_with (fail)
    go_quiet (first | (go_at_call 134; first | exact quiet_d (drw_of (hS.out _ _ (HV.out.ext (Ext.drewN (Ext.refl _) _)))) | exact quiet_da (drw_of (hS.out _ _ (HV.out.ext (Ext.drewN (Ext.refl _) _)))) | fail) | (go_at_call 133; first | exact quiet_d (drw_of (hB.out _)) | exact quiet_da (drw_of (hB.out _)) | fail))
    go_wp2_with (fail)
    go_ret
    exact ⟨rfl, H3.out.2.drewN _⟩
  · skip
    go_enter Tryz.func96, Tryz.ntmps96
    go_wp2_with (fail)
    refine (HTp.out _ (HX.out _)).mono ?_
    rintro en w2 ⟨rfl, hx⟩
    have H2 : Hid (Bx w2 35 w.heap.size true (.slice p l c) E ∧ Ext w w2) := ⟨HBx.out.ext hx, (HX.out _).trans hx⟩
    have a0 := H2.out.1.c0
    have a1 := H2.out.1.c1
    have a2 := H2.out.1.c2
    clear hx
    go_wp2_with (fail)
    refine (hU.out _ H2.out.2).mono ?_
    rintro en w3 ⟨v1, rfl, hx, hd⟩
    have H3 : Hid (Bx w3 35 w.heap.size true (.slice p l c) E ∧ Ext w w3) := ⟨H2.out.1.ext hx, H2.out.2.trans hx⟩
    have HV := Lib.hid hd
    clear a0 a1 a2 hx hd
    have a0 := H3.out.1.c0
    have a1 := H3.out.1.c1
    have a2 := H3.out.1.c2
    go_wp2_with (fail)
    go_quiet (first | (go_at_call 134; first | exact quiet_d (drw_of (hS.out _ _ (HV.out.ext (Ext.drewN (Ext.refl _) _)))) | exact quiet_da (drw_of (hS.out _ _ (HV.out.ext (Ext.drewN (Ext.refl _) _)))) | fail) | (go_at_call 133; first | exact quiet_d (drw_of (hB.out _)) | exact quiet_da (drw_of (hB.out _)) | fail))
    go_wp2_with (fail)
    go_ret
    exact ⟨rfl, H3.out.2.drewN _⟩
  · skip
    go_enter Tryz.func96, Tryz.ntmps96
    go_wp2_with (fail)
    refine (HTp.out _ (HX.out _)).mono ?_
    rintro en w2 ⟨rfl, hx⟩
    have H2 : Hid (Bx w2 35 w.heap.size false (.slice p l c) E ∧ Ext w w2) := ⟨HBx.out.ext hx, (HX.out _).trans hx⟩
    have a0 := H2.out.1.c0
    have a1 := H2.out.1.c1
    have a2 := H2.out.1.c2
    clear hx
    go_wp2_with (fail)
    refine (hU.out _ H2.out.2).mono ?_
    rintro en w3 ⟨v1, rfl, hx, hd⟩
    have H3 : Hid (Bx w3 35 w.heap.size false (.slice p l c) E ∧ Ext w w3) := ⟨H2.out.1.ext hx, H2.out.2.trans hx⟩
    have HV := Lib.hid hd
    clear a0 a1 a2 hx hd
    have a0 := H3.out.1.c0
    have a1 := H3.out.1.c1
    have a2 := H3.out.1.c2
    go_wp2_with (fail)
    go_quiet (first | (go_at_call 134; first | exact quiet_d (drw_of (hS.out _ _ (HV.out.ext (Ext.drewN (Ext.refl _) _)))) | exact quiet_da (drw_of (hS.out _ _ (HV.out.ext (Ext.drewN (Ext.refl _) _)))) | fail) | (go_at_call 133; first | exact quiet_d (drw_of (hB.out _)) | exact quiet_da (drw_of (hB.out _)) | fail))
    go_wp2_with (fail)
    go_ret
    exact ⟨rfl, H3.out.2.drewN _⟩
  · skip
    go_enter Tryz.func96, Tryz.ntmps96
    go_wp2_with (fail)
    refine (HTp.out _ (HX.out _)).mono ?_
    rintro en w2 ⟨rfl, hx⟩
    have H2 : Hid (Bx w2 35 w.heap.size true (.slice p l c) E ∧ Ext w w2) := ⟨HBx.out.ext hx, (HX.out _).trans hx⟩
    have a0 := H2.out.1.c0
    have a1 := H2.out.1.c1
    have a2 := H2.out.1.c2
    clear hx
    go_wp2_with (fail)
    refine (hU.out _ H2.out.2).mono ?_
    rintro en w3 ⟨v1, rfl, hx, hd⟩
    have H3 : Hid (Bx w3 35 w.heap.size true (.slice p l c) E ∧ Ext w w3) := ⟨H2.out.1.ext hx, H2.out.2.trans hx⟩
    have HV := Lib.hid hd
    clear a0 a1 a2 hx hd
    have a0 := H3.out.1.c0
    have a1 := H3.out.1.c1
    have a2 := H3.out.1.c2
    go_wp2_with (fail)
    go_quiet (first | (go_at_call 134; first | exact quiet_d (drw_of (hS.out _ _ (HV.out.ext (Ext.drewN (Ext.refl _) _)))) | exact quiet_da (drw_of (hS.out _ _ (HV.out.ext (Ext.drewN (Ext.refl _) _)))) | fail) | (go_at_call 133; first | exact quiet_d (drw_of (hB.out _)) | exact quiet_da (drw_of (hB.out _)) | fail))
    go_wp2_with (fail)
    go_ret
    exact ⟨rfl, H3.out.2.drewN _⟩
  · skip
    go_enter Tryz.func96, Tryz.ntmps96
    go_wp2_with (fail)
    refine (HTp.out _ (HX.out _)).mono ?_
    rintro en w2 ⟨rfl, hx⟩
    have H2 : Hid (Bx w2 35 w.heap.size false (.slice p l c) E ∧ Ext w w2) := ⟨HBx.out.ext hx, (HX.out _).trans hx⟩
    have a0 := H2.out.1.c0
    have a1 := H2.out.1.c1
    have a2 := H2.out.1.c2
    clear hx
    go_wp2_with (fail)
    refine (hU.out _ H2.out.2).mono ?_
    rintro en w3 ⟨v1, rfl, hx, hd⟩
    have H3 : Hid (Bx w3 35 w.heap.size false (.slice p l c) E ∧ Ext w w3) := ⟨H2.out.1.ext hx, H2.out.2.trans hx⟩
    have HV := Lib.hid hd
    clear a0 a1 a2 hx hd
    have a0 := H3.out.1.c0
    have a1 := H3.out.1.c1
    have a2 := H3.out.1.c2
    go_wp2_with (fail)
    go_quiet (first | (go_at_call 134; first | exact quiet_d (drw_of (hS.out _ _ (HV.out.ext (Ext.drewN (Ext.refl _) _)))) | exact quiet_da (drw_of (hS.out _ _ (HV.out.ext (Ext.drewN (Ext.refl _) _)))) | fail) | (go_at_call 133; first | exact quiet_d (drw_of (hB.out _)) | exact quiet_da (drw_of (hB.out _)) | fail))
    go_wp2_with (fail)
    go_ret
    exact ⟨rfl, H3.out.2.drewN _⟩
  · skip
    go_enter Tryz.func96, Tryz.ntmps96
    go_wp2_with (fail)
    refine (HTp.out _ (HX.out _)).mono ?_
    rintro en w2 ⟨rfl, hx⟩
    have H2 : Hid (Bx w2 35 w.heap.size true (.slice p l c) E ∧ Ext w w2) := ⟨HBx.out.ext hx, (HX.out _).trans hx⟩
    have a0 := H2.out.1.c0
    have a1 := H2.out.1.c1
    have a2 := H2.out.1.c2
    clear hx
    go_wp2_with (fail)
    refine (hU.out _ H2.out.2).mono ?_
    rintro en w3 ⟨v1, rfl, hx, hd⟩
    have H3 : Hid (Bx w3 35 w.heap.size true (.slice p l c) E ∧ Ext w w3) := ⟨H2.out.1.ext hx, H2.out.2.trans hx⟩
    have HV := Lib.hid hd
    clear a0 a1 a2 hx hd
    have a0 := H3.out.1.c0
    have a1 := H3.out.1.c1
    have a2 := H3.out.1.c2
    go_wp2_with (fail)
    go_quiet (first | (go_at_call 134; first | exact quiet_d (drw_of (hS.out _ _ (HV.out.ext (Ext.drewN (Ext.refl _) _)))) | exact quiet_da (drw_of (hS.out _ _ (HV.out.ext (Ext.drewN (Ext.refl _) _)))) | fail) | (go_at_call 133; first | exact quiet_d (drw_of (hB.out _)) | exact quiet_da (drw_of (hB.out _)) | fail))
    go_wp2_with (fail)
    go_ret
    exact ⟨rfl, H3.out.2.drewN _⟩
end Go.Proofs.YtdpjkddllimcoaaGreatDoor
end
