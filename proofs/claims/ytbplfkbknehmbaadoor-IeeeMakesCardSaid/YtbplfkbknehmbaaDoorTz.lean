/- Trailing noughts: plain facts. -/
import Derived.Test.YtbplfkbknehmbaaDoorFb
namespace Fl
open Go

theorem testBit_eq (x i : Nat) : x.testBit i = decide (x / 2 ^ i % 2 = 1) := Nat.testBit_eq_decide_div_mod_eq

theorem and_neg {x o t W : Nat} (hx : x = o * 2 ^ t) (ho : o % 2 = 1) (hW : x < 2 ^ W) : x &&& (2 ^ W - x) = 2 ^ t := by
  have hp := Nat.two_pow_pos t
  have ho1 : 1 ≤ o := by omega
  have hx1 : 1 ≤ x := by
    have := Nat.mul_le_mul_right (2 ^ t) ho1; omega
  apply Nat.eq_of_testBit_eq
  intro i
  have e : 2 ^ W - x = 2 ^ W - ((x - 1) + 1) := by omega
  rw [Nat.testBit_and, e, Nat.testBit_two_pow_sub_succ (by omega), Nat.testBit_two_pow]
  rcases Nat.lt_trichotomy i t with h | h | h
  · have : x.testBit i = false := by
      rw [testBit_eq, hx, show t = i + (t - i - 1 + 1) by omega, Nat.pow_add, Nat.mul_comm (2 ^ i), ← Nat.mul_assoc, Nat.mul_div_cancel _ (Nat.two_pow_pos i), Nat.pow_succ, ← Nat.mul_assoc]
      simp
    rw [this]; simp; omega
  · subst h
    have h1 : x.testBit i = true := by
      rw [testBit_eq, hx, Nat.mul_div_cancel _ hp]; simpa using ho
    have h2 : (x - 1).testBit i = false := by
      have : (x - 1) / 2 ^ i = o - 1 := by
        rw [hx, show o * 2 ^ i - 1 = (2 ^ i - 1) + (o - 1) * 2 ^ i by rw [Nat.sub_mul]; have := Nat.mul_le_mul_right (2 ^ i) ho1; omega,
          Nat.add_mul_div_right _ _ hp, Nat.div_eq_of_lt (by omega)]
        omega
      rw [testBit_eq, this]; simp; omega
    have h3 : i < W := by
      rcases Nat.lt_or_ge i W with h | h
      · exact h
      · have := Nat.pow_le_pow_right (show 0 < 2 by decide) h
        have := Nat.mul_le_mul_right (2 ^ i) ho1
        omega
    rw [h1, h2]; simp [h3]
  · have h1 : (x - 1) / 2 ^ i = x / 2 ^ i := by
      have hm : 0 < x % 2 ^ i := by
        rcases Nat.eq_zero_or_pos (x % 2 ^ i) with h0 | h0
        · have hd := Nat.dvd_of_mod_eq_zero h0
          rw [hx, show i = t + (i - t - 1 + 1) by omega, Nat.pow_add, Nat.mul_comm o] at hd
          have := Nat.dvd_of_mul_dvd_mul_left hp hd
          rw [Nat.pow_succ] at this
          have := Nat.dvd_trans (Nat.dvd_mul_left 2 _) this
          omega
        · exact h0
      have hd := Nat.div_add_mod x (2 ^ i)
      have hl := Nat.mod_lt x (Nat.two_pow_pos i)
      rw [Nat.mul_comm] at hd
      rw [Nat.div_eq_iff (Nat.two_pow_pos i)]
      omega
    have h2 : (x - 1).testBit i = x.testBit i := by rw [testBit_eq, testBit_eq, h1]
    rw [h2]
    cases x.testBit i <;> simp <;> omega

/-- of two ways to take the powers of two out there is one. -/
theorem odd_unique {o p s t : Nat} (h : o * 2 ^ s = p * 2 ^ t) (ho : o % 2 = 1) (hp : p % 2 = 1) : o = p ∧ s = t := by
  have key : ∀ {o p s t : Nat}, o * 2 ^ s = p * 2 ^ t → o % 2 = 1 → p % 2 = 1 → s ≤ t → o = p ∧ s = t := by
    intro o p s t h ho hp hst
    obtain ⟨d, rfl⟩ : ∃ d, t = s + d := ⟨t - s, by omega⟩
    rw [Nat.pow_add, Nat.mul_comm (2 ^ s), ← Nat.mul_assoc] at h
    have := Nat.eq_of_mul_eq_mul_right (Nat.two_pow_pos s) h
    cases d with
    | zero => simpa using this
    | succ d => rw [Nat.pow_succ, ← Nat.mul_assoc] at this; omega
  rcases Nat.le_total s t with hst | hst
  · exact key h ho hp hst
  · have := key h.symm hp ho hst
    exact ⟨this.1.symm, this.2.symm⟩

theorem exists_odd : ∀ m : Nat, 0 < m → ∃ o t, m = o * 2 ^ t ∧ o % 2 = 1 := by
  intro m
  induction m using Nat.strongRecOn with
  | _ m ih =>
    intro h
    rcases Nat.mod_two_eq_zero_or_one m with h2 | h2
    · obtain ⟨o, t, h3, h4⟩ := ih (m / 2) (by omega) (by omega)
      exact ⟨o, t + 1, by rw [Nat.pow_succ, ← Nat.mul_assoc, ← h3]; omega, h4⟩
    · exact ⟨m, 0, by simp, h2⟩

def tab64 : List Nat := [0, 1, 56, 2, 57, 49, 28, 3, 61, 58, 42, 50, 38, 29, 17, 4, 62, 47, 59, 36, 45, 43, 51, 22, 53, 39, 33, 30, 24, 18, 12, 5, 63, 55, 48, 27, 60, 41, 37, 16, 46, 35, 44, 21, 52, 32, 23, 11, 54, 26, 40, 15, 34, 20, 31, 10, 25, 14, 19, 9, 13, 8, 7, 6]
def tab32 : List Nat := [0, 1, 28, 2, 29, 14, 24, 3, 30, 22, 20, 15, 25, 17, 4, 8, 31, 27, 13, 23, 21, 19, 16, 7, 26, 12, 18, 6, 11, 5, 10, 9]
theorem tab64_at : ∀ t, t < 64 → tab64.getD (2 ^ t * 285870213051353865 % 18446744073709551616 / 288230376151711744) 0 = t := by decide +kernel
theorem tab32_at : ∀ t, t < 32 → tab32.getD (2 ^ t * 125613361 % 4294967296 / 134217728) 0 = t := by decide +kernel

theorem and_neg64 {x o t : Nat} (hx : x = o * 2 ^ t) (ho : o % 2 = 1) (h64 : x < 18446744073709551616) :
    bits .and .u64 (x : Int) (18446744073709551616 - (x : Int)) = ((2 ^ t : Nat) : Int) := by
  have h0 : 0 < x := by
    have := Nat.mul_pos (show 0 < o by omega) (Nat.two_pow_pos t); omega
  have h := u64_and_nat x (18446744073709551616 - x) h64 (by omega)
  rw [show x &&& (18446744073709551616 - x) = 2 ^ t from and_neg (W := 64) hx ho (by simpa using h64), show ((18446744073709551616 - x : Nat) : Int) = 18446744073709551616 - (x : Int) by omega] at h
  exact h
theorem and_neg32 {x o t : Nat} (hx : x = o * 2 ^ t) (ho : o % 2 = 1) (h32 : x < 4294967296) :
    bits .and .u32 (x : Int) (4294967296 - (x : Int)) = ((2 ^ t : Nat) : Int) := by
  have h0 : 0 < x := by
    have := Nat.mul_pos (show 0 < o by omega) (Nat.two_pow_pos t); omega
  have h := u32_and_nat x (4294967296 - x) h32 (by omega)
  rw [show x &&& (4294967296 - x) = 2 ^ t from and_neg (W := 32) hx ho (by simpa using h32), show ((4294967296 - x : Nat) : Int) = 4294967296 - (x : Int) by omega] at h
  exact h
theorem tz64_facts {x o t : Nat} (hx : x = o * 2 ^ t) (ho : o % 2 = 1) (h64 : x < 18446744073709551616) :
    t < 64 ∧ ∃ (p : Int) (j : Nat), j < 64 ∧ tab64.getD j 0 = t ∧ bits .and .u64 (x : Int) (18446744073709551616 - (x : Int)) = p ∧
      IntKind.u64.wrap (p * 285870213051353865) / 288230376151711744 = (j : Int) := by
  have ht : t < 64 := by
    rcases Nat.lt_or_ge t 64 with h | h
    · exact h
    · have := Nat.pow_le_pow_right (show 0 < 2 by decide) h
      have := Nat.mul_le_mul_right (2 ^ t) (show 1 ≤ o by omega)
      omega
  refine ⟨ht, ((2 ^ t : Nat) : Int), 2 ^ t * 285870213051353865 % 18446744073709551616 / 288230376151711744, by omega, tab64_at t ht, and_neg64 hx ho h64, ?_⟩
  rw [IntKind.wrap_u64]
  rfl
theorem tz32_facts {x o t : Nat} (hx : x = o * 2 ^ t) (ho : o % 2 = 1) (h32 : x < 4294967296) :
    t < 32 ∧ ∃ (p : Int) (j : Nat), j < 32 ∧ tab32.getD j 0 = t ∧ bits .and .u32 (x : Int) (4294967296 - (x : Int)) = p ∧
      IntKind.u32.wrap (p * 125613361) / 134217728 = (j : Int) := by
  have ht : t < 32 := by
    rcases Nat.lt_or_ge t 32 with h | h
    · exact h
    · have := Nat.pow_le_pow_right (show 0 < 2 by decide) h
      have := Nat.mul_le_mul_right (2 ^ t) (show 1 ≤ o by omega)
      omega
  refine ⟨ht, ((2 ^ t : Nat) : Int), 2 ^ t * 125613361 % 4294967296 / 134217728, by omega, tab32_at t ht, and_neg32 hx ho h32, ?_⟩
  rw [IntKind.wrap_u32']
  rfl
theorem pos_of_odd {x o t : Nat} (hx : x = o * 2 ^ t) (ho : o % 2 = 1) : 0 < x := by
  have := Nat.mul_pos (show 0 < o by omega) (Nat.two_pow_pos t); omega

end Fl
