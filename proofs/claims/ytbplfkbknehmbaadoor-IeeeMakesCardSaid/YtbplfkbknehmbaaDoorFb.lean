/- The comparisons of floats and the operations on their bits, as the walks of this seat write them. -/
import Derived.Test.YtbplfkbknehmbaaDoorFl
import Derived.WalkKit
import Derived.WalkLawsBesides
import Derived.Laws.BitsAllLaws
import Derived.Laws.Bits64
namespace Fl
open Go Ieee

def feq (x y : Nat) : Bool := FloatKind.f64.format.order x y == some .eq
def flt (x y : Nat) : Bool := FloatKind.f64.format.order x y == some .lt
def fgt (x y : Nat) : Bool := FloatKind.f64.format.order x y == some .gt

@[go_sem] theorem fold_eq (x y : Nat) : (FloatKind.f64.format.order x y == some .eq) = feq x y := rfl
@[go_sem] theorem fold_ne (x y : Nat) : (FloatKind.f64.format.order x y != some .eq) = !feq x y := rfl
@[go_sem] theorem fold_lt (x y : Nat) : (FloatKind.f64.format.order x y == some .lt) = flt x y := rfl
@[go_sem] theorem fold_gt (x y : Nat) : (FloatKind.f64.format.order x y == some .gt) = fgt x y := rfl

theorem feq_eq {x y : Nat} (hx : x < 2 ^ 64) (hy : y < 2 ^ 64) : feq x y = (!nan x && !nan y && decide (key x = key y)) := by
  unfold feq
  rw [show FloatKind.f64.format = double from rfl, order_eq hx hy]
  cases nan x <;> cases nan y <;> simp
  rw [Bool.eq_iff_iff]; simp
theorem flt_eq {x y : Nat} (hx : x < 2 ^ 64) (hy : y < 2 ^ 64) : flt x y = (!nan x && !nan y && decide (key x < key y)) := by
  unfold flt
  rw [show FloatKind.f64.format = double from rfl, order_eq hx hy]
  cases nan x <;> cases nan y <;> simp
  rw [Bool.eq_iff_iff]; simp [Int.compare_eq_lt]
theorem fgt_eq {x y : Nat} (hx : x < 2 ^ 64) (hy : y < 2 ^ 64) : fgt x y = (!nan x && !nan y && decide (key y < key x)) := by
  unfold fgt
  rw [show FloatKind.f64.format = double from rfl, order_eq hx hy]
  cases nan x <;> cases nan y <;> simp
  rw [Bool.eq_iff_iff]; simp [Int.compare_eq_gt]
theorem feq_self {x : Nat} (hx : x < 2 ^ 64) : feq x x = !nan x := by rw [feq_eq hx hx]; simp

theorem ret_int {k : IntKind} {a b : Int} (h : a = b) : Ending.returned (.int k a) = .returned (.int k b) := by rw [h]
theorem ret_float {k : FloatKind} {a b : Nat} (h : a = b) : Ending.returned (.float k a) = .returned (.float k b) := by rw [h]
theorem ret2_int {k : IntKind} {a b : Int} {v : Value} (h : a = b) : Ending.returned (.tuple #[.int k a, v]) = .returned (.tuple #[.int k b, v]) := by rw [h]
theorem ret2_ints {k j : IntKind} {a b c d : Int} (h : a = b) (h2 : c = d) : Ending.returned (.tuple #[.int k a, .int j c]) = .returned (.tuple #[.int k b, .int j d]) := by rw [h, h2]
theorem ret4_ints {k j : IntKind} {a b c d : Int} {u v : Value} (h : a = b) (h2 : c = d) : Ending.returned (.tuple #[.int k a, .int j c, u, v]) = .returned (.tuple #[.int k b, .int j d, u, v]) := by rw [h, h2]
theorem pow_cast (L : Nat) : ((2 ^ L : Nat) : Int) = (2 : Int) ^ L := by simp
theorem pow_toNat (L : Nat) : ((2 : Int) ^ L).toNat = 2 ^ L := by rw [← pow_cast, Int.toNat_natCast]
theorem pow_wrap {L : Nat} (h : L < 64) : IntKind.u64.wrap ((2 : Int) ^ L) = (2 : Int) ^ L := by
  have h1 : 2 ^ L < 2 ^ 64 := Nat.pow_lt_pow_right (by decide) h
  rw [← pow_cast, IntKind.wrap_u64]
  generalize 2 ^ L = p at *
  omega
/-! bits -/
theorem wrap_u64_small {n : Int} (h0 : 0 ≤ n) (h1 : n < 18446744073709551616) : IntKind.u64.wrap n = n := by
  rw [IntKind.wrap_u64]; omega
theorem bits_andNot_S (x : Nat) (hx : x < 18446744073709551616) : bits .andNot .u64 (x : Int) 9223372036854775808 = ((mag x : Nat) : Int) := by
  have h := u64_andNot_nat x 9223372036854775808 hx (by decide)
  have e : x &&& (18446744073709551615 - 9223372036854775808) = x % 9223372036854775808 := Nat.and_two_pow_sub_one_eq_mod x 63
  rw [e] at h
  exact h
theorem bits_and_S (x : Nat) (hx : x < 18446744073709551616) : bits .and .u64 (x : Int) 9223372036854775808 = if S ≤ x then 9223372036854775808 else 0 := by
  have h := u64_and_nat x 9223372036854775808 hx (by decide)
  have e : x &&& 9223372036854775808 = x / 9223372036854775808 % 2 * 9223372036854775808 := nat_bit 63 x
  rw [e] at h
  refine h.trans ?_
  unfold S
  split <;> omega
theorem bits_and_S_ne (x : Nat) (hx : x < 18446744073709551616) : (bits .and .u64 (x : Int) 9223372036854775808 != 0) = neg x := by
  rw [bits_and_S x hx]; unfold neg; split <;> simp_all
theorem bits_and_52 (x : Nat) (hx : x < 18446744073709551616) : bits .and .u64 (x : Int) 4503599627370495 = ((x % 4503599627370496 : Nat) : Int) := by
  have h := u64_and_nat x 4503599627370495 hx (by decide)
  rw [show x &&& 4503599627370495 = x % 4503599627370496 from Nat.and_two_pow_sub_one_eq_mod x 52] at h
  exact h
theorem bits_and_2047 (x : Nat) (hx : x < 18446744073709551616) : bits .and .u64 (x : Int) 2047 = ((x % 2048 : Nat) : Int) := by
  have h := u64_and_nat x 2047 hx (by decide)
  rw [show x &&& 2047 = x % 2048 from Nat.and_two_pow_sub_one_eq_mod x 11] at h
  exact h
theorem bits_or_52 (x : Nat) (hx : x < 4503599627370496) : bits .or .u64 (x : Int) 4503599627370496 = ((x + 4503599627370496 : Nat) : Int) := by
  have h := u64_or_nat x 4503599627370496 (by omega) (by decide)
  rw [show x ||| 4503599627370496 = x + 4503599627370496 from by rw [Nat.or_comm, nat_join 52 4503599627370496 x (by decide) hx, Nat.add_comm]] at h
  exact h

def turned (x : Nat) : Nat := if S ≤ x then x - S else x + S
theorem turned_lt {x : Nat} (hx : x < 18446744073709551616) : turned x < 18446744073709551616 := by unfold turned S; split <;> omega
theorem xor_S (x : Nat) (hx : x < 18446744073709551616) : x ^^^ 9223372036854775808 = turned x := by
  unfold turned S
  have e : ∀ y : Nat, y < 9223372036854775808 → y ^^^ 9223372036854775808 = y + 9223372036854775808 := by
    intro y hy
    have := Nat.two_pow_add_eq_or_of_lt (i := 63) (b := y) (by simpa using hy) 1
    rw [Nat.add_comm, show (9223372036854775808 : Nat) = 2 ^ 63 * 1 from rfl, this, Nat.mul_one]
    apply Nat.eq_of_testBit_eq
    intro j
    simp only [Nat.testBit_xor, Nat.testBit_or, Nat.testBit_two_pow]
    by_cases h : 63 = j
    · subst h; rw [Nat.testBit_lt_two_pow (by simpa using hy)]; simp
    · simp [h]
  by_cases h : 9223372036854775808 ≤ x
  · rw [if_pos h]
    have h2 := e (x - 9223372036854775808) (by omega)
    rw [show x - 9223372036854775808 + 9223372036854775808 = x by omega] at h2
    rw [← h2, Nat.xor_assoc, Nat.xor_self, Nat.xor_zero]
    rw [h2]
  · rw [if_neg h]; exact e x (by omega)
theorem bits_xor_S (x : Nat) (hx : x < 18446744073709551616) : bits .xor .u64 (x : Int) 9223372036854775808 = ((turned x : Nat) : Int) := by
  have h := u64_xor_nat x 9223372036854775808 hx (by decide)
  rw [xor_S x hx] at h
  exact h

end Fl
