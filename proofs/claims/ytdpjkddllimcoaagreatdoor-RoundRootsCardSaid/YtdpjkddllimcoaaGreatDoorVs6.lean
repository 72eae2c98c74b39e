/- A part of the proof (7 of 18) of this: RoundSums: for every two floats and every mode the program's rounded sum and difference are the document's: the law returns true; condition: the table of package math/bits reads as its text lays it. -/
import Derived.WalkKit
import Derived.WalkLawsBesides
import Derived.Laws.BitsAllLaws
import Derived.Laws.Bits64
import Derived.Test.YtdpjkddllimcoaaGreatDoorVs5

section
/- The comparisons of floats and the operations on their bits, as the walks of this seat write them. -/
namespace Fl
open Go Ieee

def feq (x y : Nat) : Bool := FloatKind.f64.format.order x y == some .eq
def flt (x y : Nat) : Bool := FloatKind.f64.format.order x y == some .lt
def fgt (x y : Nat) : Bool := FloatKind.f64.format.order x y == some .gt

@[go_sem] theorem fold_eq (x y : Nat) : (FloatKind.f64.format.order x y == some .eq) = feq x y := rfl
@[go_sem] theorem fold_ne (x y : Nat) : (FloatKind.f64.format.order x y != some .eq) = !feq x y := rfl
@[go_sem] theorem fold_lt (x y : Nat) : (FloatKind.f64.format.order x y == some .lt) = flt x y := rfl
@[go_sem] theorem fold_gt (x y : Nat) : (FloatKind.f64.format.order x y == some .gt) = fgt x y := rfl

theorem feq_eq {x y : Nat} (hx : x < 2 ^ 64) (hy : y < 2 ^ 64) : feq x y = (!nan x && !nan y && decide (key x = key y)) := by
  unfold feq
  rw [show FloatKind.f64.format = double from rfl, order_eq hx hy]
  cases nan x <;> cases nan y <;> simp
  rw [Bool.eq_iff_iff]; simp
theorem flt_eq {x y : Nat} (hx : x < 2 ^ 64) (hy : y < 2 ^ 64) : flt x y = (!nan x && !nan y && decide (key x < key y)) := by
  unfold flt
  rw [show FloatKind.f64.format = double from rfl, order_eq hx hy]
  cases nan x <;> cases nan y <;> simp
  rw [Bool.eq_iff_iff]; simp [Int.compare_eq_lt]
theorem fgt_eq {x y : Nat} (hx : x < 2 ^ 64) (hy : y < 2 ^ 64) : fgt x y = (!nan x && !nan y && decide (key y < key x)) := by
  unfold fgt
  rw [show FloatKind.f64.format = double from rfl, order_eq hx hy]
  cases nan x <;> cases nan y <;> simp
  rw [Bool.eq_iff_iff]; simp [Int.compare_eq_gt]
theorem feq_self {x : Nat} (hx : x < 2 ^ 64) : feq x x = !nan x := by rw [feq_eq hx hx]; simp

theorem ret_int {k : IntKind} {a b : Int} (h : a = b) : Ending.returned (.int k a) = .returned (.int k b) := by rw [h]
theorem ret_float {k : FloatKind} {a b : Nat} (h : a = b) : Ending.returned (.float k a) = .returned (.float k b) := by rw [h]
theorem ret2_int {k : IntKind} {a b : Int} {v : Value} (h : a = b) : Ending.returned (.tuple #[.int k a, v]) = .returned (.tuple #[.int k b, v]) := by rw [h]
theorem ret2_ints {k j : IntKind} {a b c d : Int} (h : a = b) (h2 : c = d) : Ending.returned (.tuple #[.int k a, .int j c]) = .returned (.tuple #[.int k b, .int j d]) := by rw [h, h2]
theorem ret4_ints {k j : IntKind} {a b c d : Int} {u v : Value} (h : a = b) (h2 : c = d) : Ending.returned (.tuple #[.int k a, .int j c, u, v]) = .returned (.tuple #[.int k b, .int j d, u, v]) := by rw [h, h2]
theorem pow_cast (L : Nat) : ((2 ^ L : Nat) : Int) = (2 : Int) ^ L := by simp
theorem pow_toNat (L : Nat) : ((2 : Int) ^ L).toNat = 2 ^ L := by rw [← pow_cast, Int.toNat_natCast]
theorem pow_wrap {L : Nat} (h : L < 64) : IntKind.u64.wrap ((2 : Int) ^ L) = (2 : Int) ^ L := by
  have h1 : 2 ^ L < 2 ^ 64 := Nat.pow_lt_pow_right (by decide) h
  rw [← pow_cast, IntKind.wrap_u64]
  generalize 2 ^ L = p at *
  omega
/-! bits -/
theorem wrap_u64_small {n : Int} (h0 : 0 ≤ n) (h1 : n < 18446744073709551616) : IntKind.u64.wrap n = n := by
  rw [IntKind.wrap_u64]; omega
theorem bits_andNot_S (x : Nat) (hx : x < 18446744073709551616) : bits .andNot .u64 (x : Int) 9223372036854775808 = ((mag x : Nat) : Int) := by
  have h := u64_andNot_nat x 9223372036854775808 hx (by decide)
  have e : x &&& (18446744073709551615 - 9223372036854775808) = x % 9223372036854775808 := Nat.and_two_pow_sub_one_eq_mod x 63
  rw [e] at h
  exact h
theorem bits_and_S (x : Nat) (hx : x < 18446744073709551616) : bits .and .u64 (x : Int) 9223372036854775808 = if S ≤ x then 9223372036854775808 else 0 := by
  have h := u64_and_nat x 9223372036854775808 hx (by decide)
  have e : x &&& 9223372036854775808 = x / 9223372036854775808 % 2 * 9223372036854775808 := nat_bit 63 x
  rw [e] at h
  refine h.trans ?_
  unfold S
  split <;> omega
theorem bits_and_S_ne (x : Nat) (hx : x < 18446744073709551616) : (bits .and .u64 (x : Int) 9223372036854775808 != 0) = neg x := by
  rw [bits_and_S x hx]; unfold neg; split <;> simp_all
theorem bits_and_52 (x : Nat) (hx : x < 18446744073709551616) : bits .and .u64 (x : Int) 4503599627370495 = ((x % 4503599627370496 : Nat) : Int) := by
  have h := u64_and_nat x 4503599627370495 hx (by decide)
  rw [show x &&& 4503599627370495 = x % 4503599627370496 from Nat.and_two_pow_sub_one_eq_mod x 52] at h
  exact h
theorem bits_and_2047 (x : Nat) (hx : x < 18446744073709551616) : bits .and .u64 (x : Int) 2047 = ((x % 2048 : Nat) : Int) := by
  have h := u64_and_nat x 2047 hx (by decide)
  rw [show x &&& 2047 = x % 2048 from Nat.and_two_pow_sub_one_eq_mod x 11] at h
  exact h
theorem bits_or_52 (x : Nat) (hx : x < 4503599627370496) : bits .or .u64 (x : Int) 4503599627370496 = ((x + 4503599627370496 : Nat) : Int) := by
  have h := u64_or_nat x 4503599627370496 (by omega) (by decide)
  rw [show x ||| 4503599627370496 = x + 4503599627370496 from by rw [Nat.or_comm, nat_join 52 4503599627370496 x (by decide) hx, Nat.add_comm]] at h
  exact h

def turned (x : Nat) : Nat := if S ≤ x then x - S else x + S
theorem turned_lt {x : Nat} (hx : x < 18446744073709551616) : turned x < 18446744073709551616 := by unfold turned S; split <;> omega
theorem xor_S (x : Nat) (hx : x < 18446744073709551616) : x ^^^ 9223372036854775808 = turned x := by
  unfold turned S
  have e : ∀ y : Nat, y < 9223372036854775808 → y ^^^ 9223372036854775808 = y + 9223372036854775808 := by
    intro y hy
    have := Nat.two_pow_add_eq_or_of_lt (i := 63) (b := y) (by simpa using hy) 1
    rw [Nat.add_comm, show (9223372036854775808 : Nat) = 2 ^ 63 * 1 from rfl, this, Nat.mul_one]
    apply Nat.eq_of_testBit_eq
    intro j
    simp only [Nat.testBit_xor, Nat.testBit_or, Nat.testBit_two_pow]
    by_cases h : 63 = j
    · subst h; rw [Nat.testBit_lt_two_pow (by simpa using hy)]; simp
    · simp [h]
  by_cases h : 9223372036854775808 ≤ x
  · rw [if_pos h]
    have h2 := e (x - 9223372036854775808) (by omega)
    rw [show x - 9223372036854775808 + 9223372036854775808 = x by omega] at h2
    rw [← h2, Nat.xor_assoc, Nat.xor_self, Nat.xor_zero]
    rw [h2]
  · rw [if_neg h]; exact e x (by omega)
theorem bits_xor_S (x : Nat) (hx : x < 18446744073709551616) : bits .xor .u64 (x : Int) 9223372036854775808 = ((turned x : Nat) : Int) := by
  have h := u64_xor_nat x 9223372036854775808 hx (by decide)
  rw [xor_S x hx] at h
  exact h

end Fl
end

section
/- Trailing noughts: plain facts. -/
namespace Fl
open Go

theorem testBit_eq (x i : Nat) : x.testBit i = decide (x / 2 ^ i % 2 = 1) := Nat.testBit_eq_decide_div_mod_eq

theorem and_neg {x o t W : Nat} (hx : x = o * 2 ^ t) (ho : o % 2 = 1) (hW : x < 2 ^ W) : x &&& (2 ^ W - x) = 2 ^ t := by
  have hp := Nat.two_pow_pos t
  have ho1 : 1 ≤ o := by omega
  have hx1 : 1 ≤ x := by
    have := Nat.mul_le_mul_right (2 ^ t) ho1; omega
  apply Nat.eq_of_testBit_eq
  intro i
  have e : 2 ^ W - x = 2 ^ W - ((x - 1) + 1) := by omega
  rw [Nat.testBit_and, e, Nat.testBit_two_pow_sub_succ (by omega), Nat.testBit_two_pow]
  rcases Nat.lt_trichotomy i t with h | h | h
  · have : x.testBit i = false := by
      rw [testBit_eq, hx, show t = i + (t - i - 1 + 1) by omega, Nat.pow_add, Nat.mul_comm (2 ^ i), ← Nat.mul_assoc, Nat.mul_div_cancel _ (Nat.two_pow_pos i), Nat.pow_succ, ← Nat.mul_assoc]
      simp
    rw [this]; simp; omega
  · subst h
    have h1 : x.testBit i = true := by
      rw [testBit_eq, hx, Nat.mul_div_cancel _ hp]; simpa using ho
    have h2 : (x - 1).testBit i = false := by
      have : (x - 1) / 2 ^ i = o - 1 := by
        rw [hx, show o * 2 ^ i - 1 = (2 ^ i - 1) + (o - 1) * 2 ^ i by rw [Nat.sub_mul]; have := Nat.mul_le_mul_right (2 ^ i) ho1; omega,
          Nat.add_mul_div_right _ _ hp, Nat.div_eq_of_lt (by omega)]
        omega
      rw [testBit_eq, this]; simp; omega
    have h3 : i < W := by
      rcases Nat.lt_or_ge i W with h | h
      · exact h
      · have := Nat.pow_le_pow_right (show 0 < 2 by decide) h
        have := Nat.mul_le_mul_right (2 ^ i) ho1
        omega
    rw [h1, h2]; simp [h3]
  · have h1 : (x - 1) / 2 ^ i = x / 2 ^ i := by
      have hm : 0 < x % 2 ^ i := by
        rcases Nat.eq_zero_or_pos (x % 2 ^ i) with h0 | h0
        · have hd := Nat.dvd_of_mod_eq_zero h0
          rw [hx, show i = t + (i - t - 1 + 1) by omega, Nat.pow_add, Nat.mul_comm o] at hd
          have := Nat.dvd_of_mul_dvd_mul_left hp hd
          rw [Nat.pow_succ] at this
          have := Nat.dvd_trans (Nat.dvd_mul_left 2 _) this
          omega
        · exact h0
      have hd := Nat.div_add_mod x (2 ^ i)
      have hl := Nat.mod_lt x (Nat.two_pow_pos i)
      rw [Nat.mul_comm] at hd
      rw [Nat.div_eq_iff (Nat.two_pow_pos i)]
      omega
    have h2 : (x - 1).testBit i = x.testBit i := by rw [testBit_eq, testBit_eq, h1]
    rw [h2]
    cases x.testBit i <;> simp <;> omega

/-- of two ways to take the powers of two out there is one. -/
theorem odd_unique {o p s t : Nat} (h : o * 2 ^ s = p * 2 ^ t) (ho : o % 2 = 1) (hp : p % 2 = 1) : o = p ∧ s = t := by
  have key : ∀ {o p s t : Nat}, o * 2 ^ s = p * 2 ^ t → o % 2 = 1 → p % 2 = 1 → s ≤ t → o = p ∧ s = t := by
    intro o p s t h ho hp hst
    obtain ⟨d, rfl⟩ : ∃ d, t = s + d := ⟨t - s, by omega⟩
    rw [Nat.pow_add, Nat.mul_comm (2 ^ s), ← Nat.mul_assoc] at h
    have := Nat.eq_of_mul_eq_mul_right (Nat.two_pow_pos s) h
    cases d with
    | zero => simpa using this
    | succ d => rw [Nat.pow_succ, ← Nat.mul_assoc] at this; omega
  rcases Nat.le_total s t with hst | hst
  · exact key h ho hp hst
  · have := key h.symm hp ho hst
    exact ⟨this.1.symm, this.2.symm⟩

theorem exists_odd : ∀ m : Nat, 0 < m → ∃ o t, m = o * 2 ^ t ∧ o % 2 = 1 := by
  intro m
  induction m using Nat.strongRecOn with
  | _ m ih =>
    intro h
    rcases Nat.mod_two_eq_zero_or_one m with h2 | h2
    · obtain ⟨o, t, h3, h4⟩ := ih (m / 2) (by omega) (by omega)
      exact ⟨o, t + 1, by rw [Nat.pow_succ, ← Nat.mul_assoc, ← h3]; omega, h4⟩
    · exact ⟨m, 0, by simp, h2⟩

def tab64 : List Nat := [0, 1, 56, 2, 57, 49, 28, 3, 61, 58, 42, 50, 38, 29, 17, 4, 62, 47, 59, 36, 45, 43, 51, 22, 53, 39, 33, 30, 24, 18, 12, 5, 63, 55, 48, 27, 60, 41, 37, 16, 46, 35, 44, 21, 52, 32, 23, 11, 54, 26, 40, 15, 34, 20, 31, 10, 25, 14, 19, 9, 13, 8, 7, 6]
def tab32 : List Nat := [0, 1, 28, 2, 29, 14, 24, 3, 30, 22, 20, 15, 25, 17, 4, 8, 31, 27, 13, 23, 21, 19, 16, 7, 26, 12, 18, 6, 11, 5, 10, 9]
theorem tab64_at : ∀ t, t < 64 → tab64.getD (2 ^ t * 285870213051353865 % 18446744073709551616 / 288230376151711744) 0 = t := by decide +kernel
theorem tab32_at : ∀ t, t < 32 → tab32.getD (2 ^ t * 125613361 % 4294967296 / 134217728) 0 = t := by decide +kernel

theorem and_neg64 {x o t : Nat} (hx : x = o * 2 ^ t) (ho : o % 2 = 1) (h64 : x < 18446744073709551616) :
    bits .and .u64 (x : Int) (18446744073709551616 - (x : Int)) = ((2 ^ t : Nat) : Int) := by
  have h0 : 0 < x := by
    have := Nat.mul_pos (show 0 < o by omega) (Nat.two_pow_pos t); omega
  have h := u64_and_nat x (18446744073709551616 - x) h64 (by omega)
  rw [show x &&& (18446744073709551616 - x) = 2 ^ t from and_neg (W := 64) hx ho (by simpa using h64), show ((18446744073709551616 - x : Nat) : Int) = 18446744073709551616 - (x : Int) by omega] at h
  exact h
theorem and_neg32 {x o t : Nat} (hx : x = o * 2 ^ t) (ho : o % 2 = 1) (h32 : x < 4294967296) :
    bits .and .u32 (x : Int) (4294967296 - (x : Int)) = ((2 ^ t : Nat) : Int) := by
  have h0 : 0 < x := by
    have := Nat.mul_pos (show 0 < o by omega) (Nat.two_pow_pos t); omega
  have h := u32_and_nat x (4294967296 - x) h32 (by omega)
  rw [show x &&& (4294967296 - x) = 2 ^ t from and_neg (W := 32) hx ho (by simpa using h32), show ((4294967296 - x : Nat) : Int) = 4294967296 - (x : Int) by omega] at h
  exact h
theorem tz64_facts {x o t : Nat} (hx : x = o * 2 ^ t) (ho : o % 2 = 1) (h64 : x < 18446744073709551616) :
    t < 64 ∧ ∃ (p : Int) (j : Nat), j < 64 ∧ tab64.getD j 0 = t ∧ bits .and .u64 (x : Int) (18446744073709551616 - (x : Int)) = p ∧
      IntKind.u64.wrap (p * 285870213051353865) / 288230376151711744 = (j : Int) := by
  have ht : t < 64 := by
    rcases Nat.lt_or_ge t 64 with h | h
    · exact h
    · have := Nat.pow_le_pow_right (show 0 < 2 by decide) h
      have := Nat.mul_le_mul_right (2 ^ t) (show 1 ≤ o by omega)
      omega
  refine ⟨ht, ((2 ^ t : Nat) : Int), 2 ^ t * 285870213051353865 % 18446744073709551616 / 288230376151711744, by omega, tab64_at t ht, and_neg64 hx ho h64, ?_⟩
  rw [IntKind.wrap_u64]
  rfl
theorem tz32_facts {x o t : Nat} (hx : x = o * 2 ^ t) (ho : o % 2 = 1) (h32 : x < 4294967296) :
    t < 32 ∧ ∃ (p : Int) (j : Nat), j < 32 ∧ tab32.getD j 0 = t ∧ bits .and .u32 (x : Int) (4294967296 - (x : Int)) = p ∧
      IntKind.u32.wrap (p * 125613361) / 134217728 = (j : Int) := by
  have ht : t < 32 := by
    rcases Nat.lt_or_ge t 32 with h | h
    · exact h
    · have := Nat.pow_le_pow_right (show 0 < 2 by decide) h
      have := Nat.mul_le_mul_right (2 ^ t) (show 1 ≤ o by omega)
      omega
  refine ⟨ht, ((2 ^ t : Nat) : Int), 2 ^ t * 125613361 % 4294967296 / 134217728, by omega, tab32_at t ht, and_neg32 hx ho h32, ?_⟩
  rw [IntKind.wrap_u32']
  rfl
theorem pos_of_odd {x o t : Nat} (hx : x = o * 2 ^ t) (ho : o % 2 = 1) : 0 < x := by
  have := Nat.mul_pos (show 0 < o by omega) (Nat.two_pow_pos t); omega

end Fl
end

section
/- Whole numbers as words: the noughts at the end. -/
namespace Fl
open Go
theorem zeros_at {n k T x R o t : Nat} (hn : n = 4294967296 ^ k * T) (hT : T = x + 4294967296 * R) (hx : x = o * 2 ^ t) (ho : o % 2 = 1) (ht : t < 32) : ∃ O, n = O * 2 ^ (32 * k + t) ∧ O % 2 = 1 := by
  refine ⟨o + 2 * (2 ^ (31 - t) * R), ?_, by omega⟩
  have e : (4294967296 : Nat) = 2 * 2 ^ (31 - t) * 2 ^ t := by
    rw [show 2 * 2 ^ (31 - t) * 2 ^ t = 2 ^ (1 + (31 - t) + t) by rw [Nat.pow_add, Nat.pow_add]]
    rw [show 1 + (31 - t) + t = 32 by omega]
  have e2 : 4294967296 ^ k = 2 ^ (32 * k) := by rw [Nat.pow_mul]
  rw [hn, hT, hx, e2, Nat.pow_add]
  have e3 : o * 2 ^ t + 4294967296 * R = (o + 2 * (2 ^ (31 - t) * R)) * 2 ^ t := by
    conv => lhs; rw [e]
    rw [Nat.add_mul]
    congr 1
    ac_rfl
  rw [e3]
  ac_rfl
theorem num_low_zero {zs : List Nat} {k : Nat} (hk : k ≤ zs.length) (h : num (zs.take k) = 0) : num zs = 4294967296 ^ k * num (zs.drop k) := by
  have := num_take_drop zs k
  rw [List.length_take, Nat.min_eq_left hk, h] at this
  omega
end Fl
namespace Go.Proofs.YtdpjkddllimcoaaGreatDoor
open Go.RowKit Fl
def Tab32 (w : World) : Prop := ∀ i, i < 32 → w.cell? ⟨1, i, none⟩ = some (.int .u8 ((tab32.getD i 0 : Nat) : Int))
theorem Tab32.ext {w w' : World} (h : Tab32 w) (hx : Ext w w') : Tab32 w' := fun i hi => hx.cell_some (h i hi)

theorem b_tz32 (x o t : Nat) (hx : x = o * 2 ^ t) (ho : o % 2 = 1) (h32 : x < 4294967296) (w : World) (hT : Tab32 w) :
    Calls Tryz.prog 177 #[.int .u32 x] w fun en wn => en = .returned (.int .i64 t) ∧ w = wn := by
  obtain ⟨ht, p, j, hj, ha, h1, h3⟩ := tz32_facts hx ho h32
  have h0 := pos_of_odd hx ho
  have hz : ((x : Int) == 0) = false := by simp; omega
  have h2 : IntKind.u32.wrap (-(x : Int)) = 4294967296 - (x : Int) := by rw [IntKind.wrap_u32']; omega
  rw [IntKind.wrap_u32'] at h3
  have hc := hT j hj
  rw [ha] at hc
  clear hT ha hx ho
  have hr : wrap64 (t : Int) = t := by unfold wrap64; omega
  go_enter Tryz.func177, Tryz.ntmps177
  go_wp2
  go_ret
  exact ⟨rfl, rfl⟩

theorem n_zeros (v : Value) (a o t : Nat) (w : World) (hv : Nt w v a) (ha : a < 4294967296 ^ 1048575) (hat : a = o * 2 ^ t) (ho : o % 2 = 1) (hT : Tab32 w) :
    Calls Tryz.prog 162 #[v] w fun en wn => en = .returned (.int .u64 ((t : Nat) : Int)) ∧ w = wn := by
  obtain ⟨zs, hs, hw, ht, rfl⟩ := hv
  have lz := len_le ht ha
  have h0 := pos_of_odd hat ho
  obtain ⟨p, cap, rfl, -, -, h3⟩ := hs.form
  have hl : 0 < zs.length := by
    rcases Nat.eq_zero_or_pos zs.length with h | h
    · have := List.eq_nil_of_length_eq_zero h; subst this; simp [num] at h0
    · exact h
  obtain ⟨b, off, rfl, h4⟩ := h3 hl
  have HC := Lib.hid h4
  have HW := Lib.hid hw
  have HA := Lib.hid (And.intro h0 (And.intro hat ho))
  have HTb := Lib.hid hT
  clear ha hat ho h0 ht hs h3 h4 hw hT
  go_enter Tryz.func162, Tryz.ntmps162
  go_wp2_with (fail)
  go_loop [7] (fun v7 => ∃ k : Nat, k ≤ zs.length ∧ v7 = .int .i64 k ∧ Hid (num (zs.take k) = 0)) (fun v7 => zs.length - (intOf v7).toNat)
  case atStart => exact ⟨0, Nat.zero_le _, rfl, rfl⟩
  case round =>
    obtain ⟨k, hk, rfl, hz⟩ := hrel
    by_cases hlt : k < zs.length
    · have hc := HC.out k hlt
      have hx := HW.out.getD k
      have HN := Lib.hid (num_drop zs k)
      have HS := Lib.hid (num_take_succ' zs k)
      generalize zs.getD k 0 = x at *
      by_cases hx0 : x = 0
      · subst hx0
        go_wp2_with (fail)
        go_round
        case rel => exact ⟨k + 1, hlt, by go_num, by show _ = _; rw [HS.out, hz.out, Nat.mul_zero]⟩
        case measure =>
          show zs.length - (((k + 1 : Nat) : Int)).toNat < zs.length - ((k : Int)).toNat
          omega
      · have hxn : ((x : Int) != 0) = true := by simp; omega
        obtain ⟨o', t', hx', ho'⟩ := exists_odd x (by omega)
        have HTz := Lib.hid (b_tz32 x o' t' hx' ho' hx w HTb.out)
        have ht32 : t' < 32 := (tz32_facts hx' ho' hx).1
        have HE : Hid (t = 32 * k + t') := by
          obtain ⟨O, hO, hodd⟩ := zeros_at (num_low_zero hk hz.out) HN.out hx' ho' ht32
          exact (odd_unique (HA.out.2.1.symm.trans hO) HA.out.2.2 hodd).2
        clear hx0 hx' ho'
        go_wp2_with (go_at_call 177; refine (HTz.out).mono ?_; rintro e w' ⟨rfl, rfl⟩)
        go_ret
        exact ⟨by rw [HE.out]; simp, rfl⟩
    · exfalso
      have hke : k = zs.length := by omega
      subst hke
      have := hz.out
      rw [List.take_length] at this
      have := HA.out.1
      omega
end Go.Proofs.YtdpjkddllimcoaaGreatDoor
end

section
/- Rows of words that are written to. -/
namespace Fl
open Go Go.RowKit
/-- block g holds the words os (there may be room behind them), and is not frozen. -/
def Row (w : World) (e : TypeId) (g : Nat) (os : List Nat) : Prop := ∃ rest : List Value, w.heap[g]? = some (.cells (os.map W32 ++ rest).toArray e (0, 0))
theorem Row.cell {w : World} {e : TypeId} {g : Nat} {os : List Nat} (h : Row w e g os) {i : Nat} (hi : i < os.length) : w.cell? ⟨g, i, none⟩ = some (.int .u32 ((os.getD i 0 : Nat) : Int)) := by
  obtain ⟨rest, h⟩ := h
  have e1 : w.cell? ⟨g, i, none⟩ = (os.map W32 ++ rest).toArray[i]? := by simp only [World.cell?, h]; rfl
  rw [e1, List.getElem?_toArray, List.getElem?_append_left (by rw [List.length_map]; exact hi), List.getElem?_map, List.getElem?_eq_getElem hi, List.getD_eq_getElem?_getD, List.getElem?_eq_getElem hi]
  rfl
theorem Row.frozen {w : World} {e : TypeId} {g : Nat} {os : List Nat} (h : Row w e g os) (i : Nat) : w.frozen? ⟨g, i, none⟩ = false := by
  obtain ⟨rest, h⟩ := h
  simp only [World.frozen?, h]
  simp
theorem Row.set {w : World} {e : TypeId} {g : Nat} {os : List Nat} (h : Row w e g os) (i : Nat) (q : Int) (d : Nat) (hq : q = (d : Int)) (hi : i < os.length) : Row (w.setCell ⟨g, i, none⟩ (.int .u32 q)) e g (os.set i d) := by
  subst hq
  obtain ⟨rest, h⟩ := h
  refine ⟨rest, ?_⟩
  simp only [World.setCell, Array.getElem?_modify]
  rw [if_pos trivial, h]
  simp only [Option.map_some]
  congr 2
  show (List.map W32 os ++ rest).toArray.setIfInBounds i (W32 d) = _
  rw [List.setIfInBounds_toArray, List.set_append_left _ _ (by rw [List.length_map]; exact hi), List.map_set]
theorem Row.lt {w : World} {e : TypeId} {g : Nat} {os : List Nat} (h : Row w e g os) : g < w.heap.size := by
  obtain ⟨rest, h⟩ := h
  rcases Nat.lt_or_ge g w.heap.size with h1 | h1
  · exact h1
  · rw [Array.getElem?_eq_none h1] at h; simp at h
theorem Row.other {w : World} {e : TypeId} {g : Nat} {os : List Nat} (h : Row w e g os) {p : Addr} (hp : g ≠ p.block) (u : Value) : Row (w.setCell p u) e g os := by
  obtain ⟨rest, h⟩ := h
  exact ⟨rest, by rw [Below.heap_setCell _ _ _ _ hp, h]⟩
theorem Row.ext {w w' : World} {e : TypeId} {g : Nat} {os : List Nat} (h : Row w e g os) (hx : Ext w w') : Row w' e g os := by
  have hl := h.lt
  obtain ⟨rest, h⟩ := h
  exact ⟨rest, by rw [hx.block hl, h]⟩
theorem Row.slCap {w : World} {e : TypeId} {g cap : Nat} {os : List Nat} (h : Row w e g os) (hl : os.length ≤ cap) (hc : cap ≤ maxLen) : Sl w (.slice (some ⟨g, 0, none⟩) os.length cap) os :=
  .inr ⟨g, 0, cap, rfl, hl, hc, fun i hi => by rw [Nat.zero_add]; exact h.cell hi⟩
theorem Row.sl {w : World} {e : TypeId} {g : Nat} {os : List Nat} (h : Row w e g os) (hl : os.length ≤ 16777216) : Sl w (.slice (some ⟨g, 0, none⟩) os.length os.length) os :=
  h.slCap (Nat.le_refl _) (by unfold maxLen; omega)
/-- its first words. -/
theorem Row.slTake {w : World} {e : TypeId} {g : Nat} {os : List Nat} (h : Row w e g os) (hl : os.length ≤ 16777216) {n : Nat} (hn : n = os.length) : Sl w (.slice (some ⟨g, 0, none⟩) n n) os := by subst hn; exact h.sl hl
/-- what a row of the call's own is. -/
theorem Row.of_own {w : World} {base e n : Nat} {v : Value} {zs : List Nat} (h : w.ownsRow base e 1 v n (zs.map W32)) (hn : 0 < n) : ∃ g cap, v = .slice (some ⟨g, 0, none⟩) n cap ∧ base ≤ g ∧ n ≤ cap ∧ cap ≤ maxLen ∧ zs.length = n ∧ Row w e g zs := by
  obtain ⟨hl, h⟩ := h
  rw [List.length_map, Nat.mul_one] at hl
  rcases h with ⟨h1, h2⟩ | ⟨g, cap, cur, h1, h2, h3, h4, h5, h6, h7⟩
  · omega
  · refine ⟨g, cap, h1, h2, h4, h5, hl, cur.toList.drop n, ?_⟩
    rw [h3, Nat.mul_one] at *
    rw [← h7, List.take_append_drop]
section
variable {P : Program} {ops : Array Oper} {rest : List Oper} {o : Oper} {a : Act} {Q : Exit → Act → World → Prop}
/-- a make of n words. -/
theorem wpList_makeRow (w : World) (hg : o.guard = none) (l c : Operand) (t : TypeId) (hop : o.op = Op.makeSlice t l c) (e : TypeId) (i : TypeInfo) (h1 : P.underlying t = some (.slice e))
    (HI : Hid (P.info? e = some i ∧ i.zero = some (.int .u32 0) ∧ i.size = 1 ∧ i.bytes = 4)) (kl kc : IntKind) (L C : Int) (n : Nat) (hl : a.eval l = .int kl L) (hc : a.eval c = .int kc C) (hL : L = (n : Int)) (hC : C = (n : Int)) (hm : n ≤ 4194304)
    (hK : ∀ w', Row w' e w.heap.size (List.replicate n 0) → Ext w w' → wpList P ops Q rest (a.put o.dst (.slice (some ⟨w.heap.size, 0, none⟩) n n)) w') :
    wpList P ops Q (o :: rest) a w := by
  obtain ⟨h2, h3, h4, h5⟩ := HI
  refine wpList_plain hg fun K hK' => ?_
  have hrun := run_make (P := P) w t e i _ h1 h2 h3 kl kc (n : Int) (n : Int) (by omega) (by omega) (by rw [h5]; omega) (by omega)
  simp only [Int.toNat_natCast] at hrun
  subst hL
  subst hC
  unfold Oper.wp
  simp [execOp, hop, hl, hc, hrun, Result.andThen]
  refine hK' _ _ (hK _ ?_ ((Ext.refl w).alloc _))
  refine ⟨[], ?_⟩
  rw [heap_new, h4, show (Value.int IntKind.u32 0).cells = #[.int .u32 0] from rfl, List.append_nil]
  congr 2
  apply Array.ext'
  rw [toList_madeCells_one, List.toList_toArray, List.map_replicate, Nat.mul_one]
  rfl
end
theorem num_set {os : List Nat} {j m d : Nat} (hj : j < m) (hm : m ≤ os.length) : num ((os.set j d).take m) + 4294967296 ^ j * os.getD j 0 = num (os.take m) + 4294967296 ^ j * d := by
  have h1 := num_at (zs := os.take m) (k := j) (by rw [List.length_take]; omega)
  have h2 := num_at (zs := (os.set j d).take m) (k := j) (by rw [List.length_take, List.length_set]; omega)
  have e1 : ((os.set j d).take m).take j = (os.take m).take j := by
    rw [List.take_take, List.take_take, Nat.min_eq_left (by omega), List.take_set, List.set_eq_of_length_le (by rw [List.length_take]; omega)]
  have e2 : ((os.set j d).take m).drop (j + 1) = (os.take m).drop (j + 1) := by
    rw [List.take_set, List.drop_set_of_lt (by omega)]
  have e3 : ((os.set j d).take m).getD j 0 = d := by
    rw [List.take_set, List.getD_eq_getElem?_getD, List.getElem?_set_self (by rw [List.length_take]; omega)]; rfl
  have e4 : (os.take m).getD j 0 = os.getD j 0 := by
    rw [List.getD_eq_getElem?_getD, List.getD_eq_getElem?_getD, List.getElem?_take, if_pos hj]
  rw [e1, e2, e3] at h2
  rw [e4] at h1
  rw [h2, h1, Nat.mul_add, Nat.mul_add]
  omega
end Fl
end

section
/- Whole numbers as words: mul. -/
namespace Fl
open Go
theorem mul_bound {x y : Nat} (hx : x < 4294967296) (hy : y < 4294967296) : x * y ≤ 18446744065119617025 :=
  Nat.le_trans (Nat.mul_le_mul (show x ≤ 4294967295 by omega) (show y ≤ 4294967295 by omega)) (by decide)
/-- one round of a product's inner loop. -/
theorem mul_step {os : List Nat} {i k m C x y o A Y : Nat} (hk : i + k < m) (hm : m ≤ os.length) (ho : os.getD (i + k) 0 = o) (h : num (os.take m) + 4294967296 ^ (i + k) * C = A + 4294967296 ^ i * (x * Y)) :
    num ((os.set (i + k) ((C + (x * y + o)) % 4294967296)).take m) + 4294967296 ^ (i + (k + 1)) * ((C + (x * y + o)) / 4294967296) = A + 4294967296 ^ i * (x * (Y + 4294967296 ^ k * y)) := by
  have h1 := num_set (d := (C + (x * y + o)) % 4294967296) hk hm
  rw [ho] at h1
  have e1 : 4294967296 ^ (i + (k + 1)) * ((C + (x * y + o)) / 4294967296) = 4294967296 ^ (i + k) * (4294967296 * ((C + (x * y + o)) / 4294967296)) := by
    rw [← Nat.add_assoc i k 1, Nat.pow_succ, Nat.mul_assoc]
  have e2 : 4294967296 ^ (i + k) * ((C + (x * y + o)) % 4294967296) + 4294967296 ^ (i + k) * (4294967296 * ((C + (x * y + o)) / 4294967296)) = 4294967296 ^ (i + k) * C + (4294967296 ^ (i + k) * (x * y) + 4294967296 ^ (i + k) * o) := by
    rw [← Nat.mul_add, Nat.mod_add_div, Nat.mul_add, Nat.mul_add]
  have e3 : 4294967296 ^ i * (x * (Y + 4294967296 ^ k * y)) = 4294967296 ^ i * (x * Y) + 4294967296 ^ (i + k) * (x * y) := by
    rw [Nat.mul_add, Nat.mul_add, Nat.pow_add]
    congr 1
    ac_rfl
  rw [e1, e3]
  omega
/-- the end of a product's round. -/
theorem mul_close {os : List Nat} {i l C x Z Y : Nat} (hm : i + l < os.length) (h : num (os.take (i + l)) + 4294967296 ^ (i + l) * C = Z * Y + 4294967296 ^ i * (x * Y)) :
    num ((os.set (i + l) C).take (i + 1 + l)) = (Z + 4294967296 ^ i * x) * Y := by
  rw [show i + 1 + l = i + l + 1 by omega, num_take_succ (by rw [List.length_set]; exact hm)]
  rw [List.getD_eq_getElem?_getD, List.getElem?_set_self hm, List.take_set, List.set_eq_of_length_le (by rw [List.length_take]; omega)]
  show num (List.take (i + l) os) + 4294967296 ^ (i + l) * C = _
  rw [h, Nat.add_mul, Nat.mul_assoc]
theorem Wd.set {os : List Nat} (h : Wd os) (i : Nat) {d : Nat} (hd : d < 4294967296) : Wd (os.set i d) := fun z hz => by
  rcases List.mem_or_eq_of_mem_set hz with h1 | h1
  · exact h z h1
  · omega
end Fl
namespace Go.Proofs.YtdpjkddllimcoaaGreatDoor
open Go.RowKit Fl

set_option maxHeartbeats 1000000 in
theorem n_mul (v u : Value) (a b : Nat) (w : World) (hv : Nt w v a) (hu : Nt w u b) (ha : a < 4294967296 ^ 1048575) (hb : b < 4294967296 ^ 1048575) :
    Calls Tryz.prog 146 #[v, u] w fun e w' => ∃ v', e = .returned v' ∧ Ext w w' ∧ Nt w' v' (a * b) := by
  obtain ⟨zs, hs, hw, ht, rfl⟩ := hv
  obtain ⟨ys, hs', hw', ht', rfl⟩ := hu
  have lz := len_le ht ha
  have ly := len_le ht' hb
  obtain ⟨i0, HI⟩ : ∃ i0, Hid (Tryz.prog.info? 70 = some i0 ∧ i0.zero = some (.int .u32 0) ∧ i0.size = 1 ∧ i0.bytes = 4) := info_parts info32
  obtain ⟨p, cap, rfl, -, -, h3⟩ := hs.form
  obtain ⟨p', cap', rfl, -, -, h3'⟩ := hs'.form
  have HN0 := Lib.hid (Nt.nil w)
  have HW := Lib.hid hw
  have HW' := Lib.hid hw'
  clear ha hb hs hs' hw hw' ht ht'
  by_cases h0 : zs = []
  · subst h0
    clear h3 h3'
    go_enter Tryz.func146, Tryz.ntmps146
    go_wp2_with (fail)
    go_ret
    exact ⟨_, rfl, Ext.refl w, by rw [num, Nat.zero_mul]; exact HN0.out⟩
  · have hl := List.length_pos_iff.2 h0
    have e1 : ((zs.length : Int) == 0) = false := by simp; omega
    by_cases h0' : ys = []
    · subst h0'
      clear h3 h3' h0
      go_enter Tryz.func146, Tryz.ntmps146
      go_wp2_with (fail)
      go_ret
      exact ⟨_, rfl, Ext.refl w, by rw [num_nil, Nat.mul_zero]; exact HN0.out⟩
    · have hl' := List.length_pos_iff.2 h0'
      have e2 : ((ys.length : Int) == 0) = false := by simp; omega
      obtain ⟨b1, off1, rfl, hc1⟩ := h3 hl
      obtain ⟨b2, off2, rfl, hc2⟩ := h3' hl'
      have HC1 := Lib.hid hc1
      have HC2 := Lib.hid hc2
      clear h3 h3' h0 h0' hc1 hc2
      go_enter Tryz.func146, Tryz.ntmps146
      go_wp2_with (at_make; refine wpList_makeRow _ rfl _ _ _ rfl 70 i0 Tryz.underlying93 HI _ _ _ _ (zs.length + ys.length) rfl rfl (by omega) (by omega) (by omega) ?_)
      intro wm hown hX
      have HM := Lib.hid (And.intro hown hX)
      clear hown hX
      go_wp2_with (fail)
      go_loopw [27] (fun v27 wr => ∃ (i : Nat), i ≤ zs.length ∧ v27 = .int .i64 i ∧
        Hid (Ext w wr ∧ ∃ os : List Nat, os.length = zs.length + ys.length ∧ Wd os ∧ Row wr 70 w.heap.size os ∧ num (os.take (i + ys.length)) = num (zs.take i) * num ys)) (fun v27 _ => zs.length - (intOf v27).toNat)
      case atStart => exact ⟨0, Nat.zero_le _, rfl, HM.out.2, _, by simp, fun z hz => by simp at hz; omega, HM.out.1, by rw [List.take_replicate, num_replicate0]; simp [num]⟩
      case round =>
        obtain ⟨i, hi, rfl, HR⟩ := hrel
        by_cases hlt : i < zs.length
        · have hc : wr.cell? ⟨b1, off1 + i, none⟩ = _ := HR.out.1.cell_some (HC1.out i hlt)
          have hx := HW.out.getD i
          have HS := Lib.hid (num_take_succ' zs i)
          generalize zs.getD i 0 = x at *
          go_wp2_with (fail)
          go_loopw [8, 34] (fun v8 v34 w2 => ∃ (k C : Nat), k ≤ ys.length ∧ C < 4294967296 ∧ v34 = .int .i64 k ∧ v8 = .int .u64 C ∧
            Hid (Ext w w2 ∧ ∃ os : List Nat, os.length = zs.length + ys.length ∧ Wd os ∧ Row w2 70 w.heap.size os ∧ num (os.take (i + ys.length)) + 4294967296 ^ (i + k) * C = num (zs.take i) * num ys + 4294967296 ^ i * (x * num (ys.take k)))) (fun _ v34 _ => ys.length - (intOf v34).toNat)
          case atStart =>
            obtain ⟨os, h1, h2, h3, h4⟩ := HR.out.2
            exact ⟨0, 0, Nat.zero_le _, by decide, rfl, rfl, HR.out.1, os, h1, h2, h3, by rw [h4]; simp [num]⟩
          case round =>
            obtain ⟨k, C, hk, hC, rfl, rfl, HQ⟩ := hrel
            obtain ⟨os, h1, h2, h3, h4⟩ := HQ.out.2
            by_cases hlk : k < ys.length
            · have hcy : wr.cell? ⟨b2, off2 + k, none⟩ = _ := HQ.out.1.cell_some (HC2.out k hlk)
              have hy := HW'.out.getD k
              have HS2 := Lib.hid (num_take_succ' ys k)
              generalize ys.getD k 0 = y at *
              have hco := h3.cell (i := i + k) (by omega)
              have hfz := h3.frozen (i + k)
              have ho := h2.getD (i + k)
              generalize hO : os.getD (i + k) 0 = o at *
              obtain ⟨P, hP⟩ : ∃ P, P = x * y := ⟨_, rfl⟩
              have hPb : P ≤ 18446744065119617025 := by rw [hP]; exact mul_bound hx hy
              have hPi : (x : Int) * (y : Int) = (P : Int) := by rw [hP]; simp
              have HR2 := Lib.hid (h3.set (i + k) (((C : Int) + ((P : Int) + (o : Int))) % 4294967296) ((C + (P + o)) % 4294967296) (by omega) (by omega))
              have HX2 : Hid (∀ q, Ext w (wr.setCell ⟨w.heap.size, i + k, none⟩ q)) := fun q => HQ.out.1.setNew (Nat.le_refl _) q
              have HT := Lib.hid (mul_step (x := x) (y := y) (show i + k < i + ys.length by omega) (by omega) hO h4)
              have Hos := Lib.hid (And.intro h1 h2)
              have HP := Lib.hid hP
              clear h1 h2 h3 h4 hO hP
              go_wp2_with (fail)
              go_roundw
              case rel =>
                refine ⟨k + 1, (C + (P + o)) / 4294967296, hlk, by omega, by go_num, by go_num, HX2.out _, os.set (i + k) ((C + (P + o)) % 4294967296), by rw [List.length_set]; exact Hos.out.1, Hos.out.2.set _ (Nat.mod_lt _ (by decide)), HR2.out, ?_⟩
                have := HT.out
                rw [HS2.out, HP.out]
                exact this
              case measure =>
                show ys.length - (((k + 1 : Nat) : Int)).toNat < ys.length - ((k : Int)).toNat
                omega
            · have hke : k = ys.length := by omega
              subst hke
              rw [List.take_length] at h4
              have hco := h3.cell (i := i + ys.length) (by omega)
              have hfz := h3.frozen (i + ys.length)
              generalize os.getD (i + ys.length) 0 = o at *
              have HR2 := Lib.hid (h3.set (i + ys.length) (C : Int) C rfl (by omega))
              have HX2 : Hid (∀ q, Ext w (wr.setCell ⟨w.heap.size, i + ys.length, none⟩ q)) := fun q => HQ.out.1.setNew (Nat.le_refl _) q
              have HT := Lib.hid (mul_close (by omega) h4)
              have Hos := Lib.hid (And.intro h1 h2)
              clear h1 h2 h3 h4 hk hlk
              go_wp2_with (fail)
              go_roundw
              case rel =>
                refine ⟨i + 1, hlt, by go_num, HX2.out _, os.set (i + ys.length) C, by rw [List.length_set]; exact Hos.out.1, Hos.out.2.set _ hC, HR2.out, ?_⟩
                rw [HT.out, HS.out]
              case measure =>
                show zs.length - (((i + 1 : Nat) : Int)).toNat < zs.length - ((i : Int)).toNat
                omega
        · have hke : i = zs.length := by omega
          subst hke
          clear hi hlt
          obtain ⟨os, h1, h2, h3, h4⟩ := HR.out.2
          rw [List.take_length, List.take_of_length_le (by omega)] at h4
          have HS := Lib.hid (h3.slTake (by omega) h1.symm)
          have Hos := Lib.hid (And.intro h1 (And.intro h2 h4))
          clear h1 h2 h3 h4
          go_wp2_with (go_at_call 159; refine (n_trim _ os _ HS.out Hos.out.2.1 (by rw [Hos.out.1]; omega)).mono ?_; rintro e w' ⟨v', rfl, rfl, hn⟩)
          go_ret
          refine ⟨_, rfl, HR.out.1, ?_⟩
          rw [← Hos.out.2.2]
          exact hn
end Go.Proofs.YtdpjkddllimcoaaGreatDoor
end

section
/- Whole numbers as words: divided by a word. -/
namespace Fl
open Go
theorem or_high (R x : Nat) (hR : R < 4294967296) (hx : x < 4294967296) : bits .or .u64 ((R : Int) * 4294967296) (x : Int) = ((R * 4294967296 + x : Nat) : Int) := by
  have h := u64_or_nat (R * 4294967296) x (by omega) (by omega)
  have e : R * 4294967296 ||| x = R * 4294967296 + x := by
    rw [Nat.mul_comm, ← show 2 ^ 32 * R + x = 2 ^ 32 * R ||| x from Nat.two_pow_add_eq_or_of_lt (by simpa using hx) R]
  rw [e] at h
  rw [show ((R * 4294967296 : Nat) : Int) = (R : Int) * 4294967296 by omega] at h
  exact h
theorem short_step {D d x : Nat} (hd : 0 < d) : (x + 4294967296 * D) / d = (D % d * 4294967296 + x) / d + 4294967296 * (D / d) ∧ (x + 4294967296 * D) % d = (D % d * 4294967296 + x) % d := by
  have h := Nat.mod_add_div D d
  have e : x + 4294967296 * D = (D % d * 4294967296 + x) + d * (4294967296 * (D / d)) := by
    conv => lhs; rw [← h]
    rw [Nat.mul_add, show d * (4294967296 * (D / d)) = 4294967296 * (d * (D / d)) by ac_rfl]
    omega
  rw [e]
  exact ⟨by rw [Nat.add_mul_div_left _ _ hd], by rw [Nat.add_mul_mod_self_left]⟩
theorem num_drop_set {os : List Nat} {j q : Nat} (hj : j < os.length) : num ((os.set j q).drop j) = q + 4294967296 * num (os.drop (j + 1)) := by
  rw [num_drop, List.getD_eq_getElem?_getD, List.getElem?_set_self hj, List.drop_set_of_lt (by omega)]; rfl
end Fl
namespace Go.Proofs.YtdpjkddllimcoaaGreatDoor
open Go.RowKit Fl

theorem n_short (v : Value) (a d : Nat) (w : World) (hv : Nt w v a) (ha : a < 4294967296 ^ 1048575) (hd : 0 < d) (hd2 : d < 4294967296) :
    Calls Tryz.prog 168 #[v, .int .u32 d] w fun e w' => ∃ v', e = .returned (.tuple #[v', .int .u32 ((a % d : Nat) : Int)]) ∧ Ext w w' ∧ Nt w' v' (a / d) := by
  obtain ⟨zs, hs, hw, ht, rfl⟩ := hv
  have lz := len_le ht ha
  obtain ⟨i0, HI⟩ : ∃ i0, Hid (Tryz.prog.info? 70 = some i0 ∧ i0.zero = some (.int .u32 0) ∧ i0.size = 1 ∧ i0.bytes = 4) := info_parts info32
  obtain ⟨p, cap, rfl, -, -, h3⟩ := hs.form
  have HC := Lib.hid h3
  have HW := Lib.hid hw
  clear ha hs hw ht h3
  go_enter Tryz.func168, Tryz.ntmps168
  go_wp2_with (at_make; refine wpList_makeRow _ rfl _ _ _ rfl 70 i0 Tryz.underlying93 HI _ _ _ _ zs.length rfl rfl (by omega) (by omega) (by omega) ?_)
  intro wm hown hX
  have HM := Lib.hid (And.intro hown hX)
  clear hown hX
  go_wp2_with (fail)
  go_loopw [7, 8] (fun v7 v8 wr => ∃ (k R : Nat), k ≤ zs.length ∧ R < d ∧ v7 = .int .u64 R ∧ v8 = .int .i64 ((k : Int) - 1) ∧
    Hid (Ext w wr ∧ ∃ os : List Nat, os.length = zs.length ∧ Wd os ∧ Row wr 70 w.heap.size os ∧ num (os.drop k) = num (zs.drop k) / d ∧ R = num (zs.drop k) % d)) (fun _ v8 _ => (intOf v8 + 1).toNat)
  case atStart => exact ⟨zs.length, 0, Nat.le_refl _, hd, rfl, rfl, HM.out.2, _, by simp, fun z hz => by simp at hz; omega, HM.out.1, by simp [num], by simp [num]⟩
  case round =>
    obtain ⟨k, R, hk, hR, rfl, rfl, HR⟩ := hrel
    obtain ⟨os, h1, h2, h3, h4, h5⟩ := HR.out.2
    cases k with
    | zero =>
      rw [List.drop_zero, List.drop_zero] at h4
      rw [List.drop_zero] at h5
      have HS := Lib.hid (h3.slTake (by omega) h1.symm)
      have Hos := Lib.hid (And.intro h1 (And.intro h2 (And.intro h4 h5)))
      clear h1 h2 h3 h4 h5
      have hRm : (R : Int) % 4294967296 = (R : Int) := by omega
      go_wp2_with (go_at_call 159; refine (n_trim _ os _ HS.out Hos.out.2.1 (by rw [Hos.out.1]; omega)).mono ?_; rintro e w' ⟨v', rfl, rfl, hn⟩)
      exact bodyPost_ret (v := .tuple #[v', .int .u32 (R : Int)]) (by simp [results, Tryz.results168, go_sem]) rfl ⟨v', by rw [← Hos.out.2.2.2], HR.out.1, by rw [← Hos.out.2.2.1]; exact hn⟩
    | succ j =>
      obtain ⟨b, off, rfl, hc⟩ := HC.out (by omega)
      have hcx : wr.cell? ⟨b, off + j, none⟩ = _ := HR.out.1.cell_some (hc j (by omega))
      have hx := HW.out.getD j
      have HD := Lib.hid (num_drop zs j)
      generalize zs.getD j 0 = x at *
      have hco := h3.cell (i := j) (by omega)
      have hfz := h3.frozen j
      generalize os.getD j 0 = o at *
      have g1 := or_high R x (by omega) hx
      obtain ⟨T, hT⟩ : ∃ T, T = R * 4294967296 + x := ⟨_, rfl⟩
      rw [← hT] at g1
      have hTb : T < 18446744073709551616 := by omega
      obtain ⟨q, hq⟩ : ∃ q, q = T / d := ⟨_, rfl⟩
      have hqd : (T : Int) / (d : Int) = (q : Int) := by rw [hq]; simp
      obtain ⟨r, hr⟩ : ∃ r, r = T % d := ⟨_, rfl⟩
      have hrd : (T : Int) % (d : Int) = (r : Int) := by rw [hr]; simp
      have hqt : (T : Int).tdiv (d : Int) = (q : Int) := by rw [hq]; exact (Int.ofNat_tdiv T d).symm
      have hrt : (T : Int).tmod (d : Int) = (r : Int) := by rw [hr]; exact (Int.ofNat_tmod T d).symm
      have hqb : q < 4294967296 := by
        rw [hq]
        refine Nat.div_lt_of_lt_mul ?_
        rw [hT]
        have := Nat.mul_le_mul_right 4294967296 (show R + 1 ≤ d by omega)
        omega
      have hrb : r < d := by rw [hr]; exact Nat.mod_lt _ hd
      have hd0 : ((d : Int) == 0) = false := by simp; omega
      have HR2 := Lib.hid (h3.set j (q : Int) q rfl (by omega))
      have HX2 : Hid (∀ q, Ext w (wr.setCell ⟨w.heap.size, j, none⟩ q)) := fun q => HR.out.1.setNew (Nat.le_refl _) q
      have HT : Hid (num ((os.set j q).drop j) = num (zs.drop j) / d ∧ r = num (zs.drop j) % d) := by
        have hs := short_step (D := num (zs.drop (j + 1))) (x := x) hd
        rw [← h5, ← hT, ← hq, ← hr, ← HD.out] at hs
        rw [← h4] at hs
        exact ⟨by rw [num_drop_set (by omega), hs.1], hs.2.symm⟩
      have Hos := Lib.hid (And.intro h1 h2)
      clear h1 h2 h3 h4 h5 hc hT hq hr
      go_wp2_with (fail)
      go_roundw
      case rel => exact ⟨j, r, by omega, hrb, rfl, by go_num, HX2.out _, os.set j q, by rw [List.length_set]; exact Hos.out.1, Hos.out.2.set _ hqb, HR2.out, HT.out.1, HT.out.2⟩
      case measure =>
        show ((j : Int) - 1 + 1).toNat < (((j + 1 : Nat) : Int) - 1 + 1).toNat
        omega
end Go.Proofs.YtdpjkddllimcoaaGreatDoor
end

section
/- A world in which one block alone has turned; new blocks and draws may have come. -/
namespace Fl
open Go Go.RowKit
def Chg (g : Nat) (w w' : World) : Prop :=
  w'.os = w.os ∧ w'.tape = w.tape ∧ w'.output = w.output ∧ w.heap.size ≤ w'.heap.size ∧ ∀ k, k < w.heap.size → k ≠ g → w'.heap[k]? = w.heap[k]?
theorem Chg.of_ext {g : Nat} {w w' : World} (h : Ext w w') : Chg g w w' := ⟨h.1, h.2.1, h.2.2.1, h.2.2.2.1, fun k hk _ => h.2.2.2.2 k hk⟩
theorem Chg.refl (g : Nat) (w : World) : Chg g w w := Chg.of_ext (Ext.refl w)
theorem Chg.trans {g : Nat} {a b c : World} (h : Chg g a b) (k : Chg g b c) : Chg g a c :=
  ⟨k.1.trans h.1, k.2.1.trans h.2.1, k.2.2.1.trans h.2.2.1, Nat.le_trans h.2.2.2.1 k.2.2.2.1, fun i hi hg => (k.2.2.2.2 i (Nat.lt_of_lt_of_le hi h.2.2.2.1) hg).trans (h.2.2.2.2 i hi hg)⟩
theorem Chg.size {g : Nat} {a b : World} (h : Chg g a b) : a.heap.size ≤ b.heap.size := h.2.2.2.1
theorem Chg.block {g : Nat} {a b : World} (h : Chg g a b) {k : Nat} (hk : k < a.heap.size) (hg : k ≠ g) : b.heap[k]? = a.heap[k]? := h.2.2.2.2 k hk hg
theorem Chg.drew {g : Nat} {a b : World} (h : Chg g a b) : Chg g a b.drew := h
theorem Chg.drewN {g : Nat} {a b : World} (h : Chg g a b) (n : Nat) : Chg g a (b.drewN n) := h
theorem setCell_size (w : World) (p : Addr) (u : Value) : (w.setCell p u).heap.size = w.heap.size := by simp [World.setCell]
theorem Chg.set {g : Nat} {a b : World} (h : Chg g a b) {p : Addr} (hp : p.block = g) (u : Value) : Chg g a (b.setCell p u) :=
  ⟨h.1, h.2.1, h.2.2.1, by rw [setCell_size]; exact h.size, fun k hk hg => by rw [Below.heap_setCell _ _ _ _ (by omega)]; exact h.block hk hg⟩
theorem Chg.alloc {g : Nat} {a b : World} (h : Chg g a b) (o : Obj) : Chg g a (b.alloc o) := h.trans (Chg.of_ext ((Ext.refl b).alloc o))
theorem Chg.ext {g : Nat} {a b c : World} (h : Ext a b) (k : Chg g b c) (hg : a.heap.size ≤ g) : Ext a c :=
  ⟨k.1.trans h.1, k.2.1.trans h.2.1, k.2.2.1.trans h.2.2.1, Nat.le_trans h.2.2.2.1 k.2.2.2.1, fun i hi => (k.2.2.2.2 i (Nat.lt_of_lt_of_le hi h.2.2.2.1) (by omega)).trans (h.2.2.2.2 i hi)⟩
/-- a block of this call's own is no part of what has turned. -/
theorem Chg.new {g : Nat} {a b : World} (h : Chg g a b) (hg : a.heap.size ≤ g) : Ext a b := h.ext (Ext.refl a) hg
theorem Chg.cell {g : Nat} {a b : World} (h : Chg g a b) {p : Addr} {v : Value} (hp : a.cell? p = some v) (hg : p.block ≠ g) : b.cell? p = some v := by
  have hl := lt_of_cell hp
  rw [← hp]
  simp only [World.cell?, h.block hl hg]
theorem Chg.row {g : Nat} {a b : World} {e : TypeId} {k : Nat} {os : List Nat} (h : Chg g a b) (hr : Row a e k os) (hg : k ≠ g) : Row b e k os := by
  have hl := hr.lt
  obtain ⟨rest, hr⟩ := hr
  exact ⟨rest, by rw [h.block hl hg, hr]⟩
/-- a window of words of which one is written. -/
theorem win_set {L : List Nat} {j i d : Nat} (h : j + i < L.length) : num (((L.set (j + i) d).drop j).take (i + 1)) = num ((L.drop j).take i) + 4294967296 ^ i * d := by
  rw [num_take_succ', List.drop_set, if_neg (by omega), show j + i - j = i by omega, List.take_set, List.set_eq_of_length_le (by rw [List.length_take]; omega)]
  rw [List.getD_eq_getElem?_getD, List.getElem?_set_self (by rw [List.length_drop]; omega)]
  rfl
theorem win_take {L K : List Nat} {j i d : Nat} (h : L.take j = K.take j) : (L.set (j + i) d).take j = K.take j := by
  rw [List.take_set, List.set_eq_of_length_le (by rw [List.length_take]; omega), h]
theorem win_drop {L K : List Nat} {j i d : Nat} (h : L.drop (j + i) = K.drop (j + i)) : (L.set (j + i) d).drop (j + (i + 1)) = K.drop (j + (i + 1)) := by
  rw [List.drop_set_of_lt (by omega)]
  have := congrArg (List.drop 1) h
  simpa [List.drop_drop, Nat.add_assoc] using this
theorem win_get {L K : List Nat} {j i : Nat} (h : L.drop (j + i) = K.drop (j + i)) : L.getD (j + i) 0 = K.getD (j + i) 0 := by
  have e := congrArg (fun l => List.getD l 0 0) h
  simp only [List.getD_eq_getElem?_getD, List.getElem?_drop, Nat.add_zero] at *
  exact e
theorem win_succ {K : List Nat} (j i : Nat) : num ((K.drop j).take (i + 1)) = num ((K.drop j).take i) + 4294967296 ^ i * K.getD (j + i) 0 := by
  rw [num_take_succ', List.getD_eq_getElem?_getD, List.getD_eq_getElem?_getD, List.getElem?_drop]
theorem Wd.set' {os : List Nat} (h : Wd os) (i : Nat) {d : Nat} (hd : d < 4294967296) : Wd (os.set i d) := fun z hz => by
  rcases List.mem_or_eq_of_mem_set hz with h1 | h1
  · exact h z h1
  · omega
theorem back_step {S D V i C d v : Nat} (h : S + 4294967296 ^ i * C = D + V) :
    (S + 4294967296 ^ i * ((C + d + v) % 4294967296)) + 4294967296 ^ (i + 1) * ((C + d + v) / 4294967296) = (D + 4294967296 ^ i * d) + (V + 4294967296 ^ i * v) := by
  have h1 := Nat.mod_add_div (C + d + v) 4294967296
  have h3 : 4294967296 ^ i * ((C + d + v) % 4294967296 + 4294967296 * ((C + d + v) / 4294967296)) = 4294967296 ^ i * (C + d + v) := by rw [h1]
  rw [Nat.mul_add, Nat.mul_add, Nat.mul_add] at h3
  have h4 : 4294967296 ^ (i + 1) * ((C + d + v) / 4294967296) = 4294967296 ^ i * (4294967296 * ((C + d + v) / 4294967296)) := by rw [Nat.pow_succ, Nat.mul_assoc]
  rw [h4]
  omega
end Fl
end

section
/- Whole numbers as words: one step of a long division: plain facts. -/
namespace Fl
open Go
theorem guess_high {G V3 U3 V U M : Nat} (hV : V3 * M ≤ V) (hU : U < (U3 + 1) * M) (h : U3 < G * V3) : U < G * V := by
  have h1 := Nat.mul_le_mul_right M (show U3 + 1 ≤ G * V3 from h)
  have h2 := Nat.mul_le_mul_left G hV
  rw [← Nat.mul_assoc] at h2
  omega
theorem guess_low {G V3 U3 V U M : Nat} (hV : V < (V3 + 1) * M) (hU : U3 * M ≤ U) (hG : G ≤ V3 + 1) (h : G * V3 ≤ U3) : (G - 1) * V ≤ U := by
  rcases Nat.eq_zero_or_pos G with h0 | h0
  · subst h0; simp
  · obtain ⟨g, rfl⟩ : ∃ g, G = g + 1 := ⟨G - 1, by omega⟩
    rw [Nat.add_sub_cancel]
    have h1 : g * V ≤ g * ((V3 + 1) * M) := Nat.mul_le_mul_left g (by omega)
    have h2 : g * ((V3 + 1) * M) = (g * V3 + g) * M := by rw [← Nat.mul_assoc, Nat.mul_add, Nat.mul_one]
    have h3 : (g * V3 + g) * M ≤ U3 * M := by
      refine Nat.mul_le_mul_right M ?_
      rw [Nat.add_mul] at h
      omega
    omega
theorem guess_ok {G y1 y2 T x3 R P1 P2 : Nat} (hP1 : P1 = G * y1) (hP2 : P2 = G * y2) (hR : R = T - P1) (hPT : P1 ≤ T) (h : P2 ≤ R * 4294967296 + x3) : G * (y1 * 4294967296 + y2) ≤ T * 4294967296 + x3 := by
  rw [Nat.mul_add, ← Nat.mul_assoc, ← hP1, ← hP2]; omega
theorem guess_no {G y1 y2 T x3 R P1 P2 : Nat} (hP1 : P1 = G * y1) (hP2 : P2 = G * y2) (hR : R = T - P1) (hPT : P1 ≤ T) (h : R * 4294967296 + x3 < P2) : T * 4294967296 + x3 < G * (y1 * 4294967296 + y2) := by
  rw [Nat.mul_add, ← Nat.mul_assoc, ← hP1, ← hP2]
  have e : T = P1 + R := by rw [hR]; exact (Nat.add_sub_cancel' hPT).symm
  rw [e, Nat.add_mul, Nat.add_assoc]
  exact Nat.add_lt_add_left h _
theorem getD_drop (L : List Nat) (j i : Nat) : (L.drop j).getD i 0 = L.getD (j + i) 0 := by
  rw [List.getD_eq_getElem?_getD, List.getD_eq_getElem?_getD, List.getElem?_drop]
theorem top3 {L : List Nat} {m x1 x2 x3 : Nat} (hw : Wd L) (h3 : L.getD m 0 = x3) (h2 : L.getD (m + 1) 0 = x2) (h1 : L.getD (m + 2) 0 = x1) (hm : m ≤ L.length) :
    ((x1 * 4294967296 + x2) * 4294967296 + x3) * 4294967296 ^ m ≤ num (L.take (m + 3)) ∧ num (L.take (m + 3)) < ((x1 * 4294967296 + x2) * 4294967296 + x3 + 1) * 4294967296 ^ m := by
  have e1 := num_take_succ' L m
  have e2 := num_take_succ' L (m + 1)
  have e3 := num_take_succ' L (m + 2)
  rw [h3] at e1
  rw [h2, Nat.pow_succ] at e2
  rw [h1, Nat.pow_succ, Nat.pow_succ] at e3
  have h := num_lt (hw.take m)
  rw [List.length_take, Nat.min_eq_left hm] at h
  rw [show m + 3 = m + 2 + 1 from rfl, e3, show m + 2 = m + 1 + 1 from rfl, e2, e1]
  generalize 4294967296 ^ m = M at *
  have a1 : M * 4294967296 * 4294967296 * x1 + M * 4294967296 * x2 + M * x3 = ((x1 * 4294967296 + x2) * 4294967296 + x3) * M := by
    rw [Nat.add_mul, Nat.add_mul, Nat.add_mul]
    rw [show M * 4294967296 * 4294967296 * x1 = x1 * 4294967296 * 4294967296 * M by ac_rfl, show M * 4294967296 * x2 = x2 * 4294967296 * M by ac_rfl, Nat.mul_comm M x3]
  rw [Nat.add_mul _ 1, Nat.one_mul]
  omega
theorem top2 {L : List Nat} {m y1 y2 : Nat} (hw : Wd L) (h2 : L.getD m 0 = y2) (h1 : L.getD (m + 1) 0 = y1) (hm : L.length = m + 2) :
    (y1 * 4294967296 + y2) * 4294967296 ^ m ≤ num L ∧ num L < (y1 * 4294967296 + y2 + 1) * 4294967296 ^ m := by
  have e1 := num_take_succ' L m
  have e2 := num_take_succ' L (m + 1)
  rw [show m + 1 + 1 = L.length from hm.symm, List.take_length] at e2
  rw [h2] at e1
  rw [h1, Nat.pow_succ] at e2
  have h := num_lt (hw.take m)
  rw [List.length_take, Nat.min_eq_left (by omega)] at h
  rw [e2, e1]
  generalize 4294967296 ^ m = M at *
  have a1 : M * 4294967296 * y1 + M * y2 = (y1 * 4294967296 + y2) * M := by
    rw [Nat.add_mul, show M * 4294967296 * y1 = y1 * 4294967296 * M by ac_rfl, Nat.mul_comm M y2]
  rw [Nat.add_mul _ 1, Nat.one_mul]
  omega
theorem guess_first {T y1 y2 x3 Q0 G0 U V M : Nat} (hy : 0 < y1) (hx3 : x3 < 4294967296) (hQ : Q0 = T / y1) (hG : G0 = min Q0 4294967295) (hU : U < (T * 4294967296 + x3 + 1) * M) (hV : (y1 * 4294967296 + y2) * M ≤ V) (hUV : U < 4294967296 * V) : G0 < 4294967296 ∧ G0 * y1 ≤ T ∧ U < (G0 + 1) * V := by
  have h1 : Q0 * y1 ≤ T := by rw [hQ]; exact Nat.div_mul_le_self T y1
  refine ⟨by omega, Nat.le_trans (Nat.mul_le_mul_right y1 (by omega)) h1, ?_⟩
  rcases Nat.lt_or_ge 4294967295 Q0 with h | h
  · rw [show G0 + 1 = 4294967296 by omega]; exact hUV
  · rw [show G0 = Q0 by omega]
    have h2 : T < (Q0 + 1) * y1 := by rw [hQ, Nat.mul_comm]; exact Nat.lt_mul_div_succ T hy
    have h3 := Nat.mul_le_mul_left (Q0 + 1) hV
    have h4 : (T * 4294967296 + x3 + 1) * M ≤ ((Q0 + 1) * y1 * 4294967296) * M := Nat.mul_le_mul_right M (by omega)
    have h5 : ((Q0 + 1) * y1 * 4294967296) * M ≤ (Q0 + 1) * ((y1 * 4294967296 + y2) * M) := by
      rw [← Nat.mul_assoc (Q0 + 1)]
      refine Nat.mul_le_mul_right M ?_
      rw [Nat.mul_add, ← Nat.mul_assoc]; omega
    omega
/-- one round of a product that is taken off. -/
theorem off_step {D V U i C Bo G v x d p Bo' : Nat} (h : D + G * V = U + 4294967296 ^ i * (C + Bo)) (hp : p = C + G * v) (hd : x + 4294967296 * Bo' = d + (p % 4294967296 + Bo)) :
    (D + 4294967296 ^ i * d) + G * (V + 4294967296 ^ i * v) = (U + 4294967296 ^ i * x) + 4294967296 ^ (i + 1) * (p / 4294967296 + Bo') := by
  have h1 := Nat.mod_add_div p 4294967296
  have h2 : d + G * v + (C + Bo) = x + 4294967296 * (p / 4294967296 + Bo') := by omega
  have h3 : 4294967296 ^ i * (d + G * v + (C + Bo)) = 4294967296 ^ i * (x + 4294967296 * (p / 4294967296 + Bo')) := by rw [h2]
  rw [Nat.mul_add, Nat.mul_add, Nat.mul_add _ x] at h3
  have h4 : 4294967296 ^ (i + 1) * (p / 4294967296 + Bo') = 4294967296 ^ i * (4294967296 * (p / 4294967296 + Bo')) := by rw [Nat.pow_succ, Nat.mul_assoc]
  rw [h4, Nat.mul_add G, show G * (4294967296 ^ i * v) = 4294967296 ^ i * (G * v) by ac_rfl]
  omega
/-- a guess that is not too low, and at most one too high. -/
def Guess (G U V : Nat) : Prop := U < (G + 1) * V ∧ (G - 1) * V ≤ U
theorem fin0 {D G V U : Nat} (h : D + G * V = U) (hg : Guess G U V) : U / V = G ∧ U % V = D := by
  have h1 := hg.1
  rw [Nat.add_mul, Nat.one_mul] at h1
  have hD : D < V := by omega
  constructor
  · rw [← h, Nat.add_mul_div_right _ _ (by omega), Nat.div_eq_of_lt hD, Nat.zero_add]
  · rw [← h, Nat.add_mul_mod_self_right, Nat.mod_eq_of_lt hD]
theorem fin1 {D G V U W S b : Nat} (h : D + G * V = U + W) (hg : Guess G U V) (hD : D < W) (hV : V ≤ W) (hS : S < W) (hs : S + W * b = D + V) : 1 ≤ G ∧ U / V = G - 1 ∧ U % V = S := by
  rcases Nat.eq_zero_or_pos G with h0 | h0
  · subst h0; omega
  · obtain ⟨n, rfl⟩ : ∃ n, G = n + 1 := ⟨G - 1, by omega⟩
    have h1 := hg.1
    have h2 := hg.2
    rw [Nat.add_sub_cancel] at h2
    rw [Nat.add_mul, Nat.one_mul, Nat.add_mul, Nat.one_mul] at h1
    rw [Nat.add_mul, Nat.one_mul] at h
    have hb : b = 1 := by
      match b with
      | 0 => omega
      | 1 => rfl
      | k + 2 => rw [Nat.mul_add] at hs; omega
    subst hb
    rw [Nat.mul_one] at hs
    have e : U = S + n * V := by omega
    refine ⟨h0, ?_, ?_⟩
    · rw [e, Nat.add_mul_div_right _ _ (by omega), Nat.div_eq_of_lt (by omega), Nat.zero_add]; rfl
    · rw [e, Nat.add_mul_mod_self_right, Nat.mod_eq_of_lt (by omega)]
/-- what a step leaves. -/
def StepLeft (w : World) (t : TypeId) (g N j m : Nat) (os : List Nat) (U V : Nat) (e : Ending) (w' : World) : Prop :=
  e = .returned (.int .u32 ((U / V : Nat) : Int)) ∧ Chg g w w' ∧ ∃ os' : List Nat, os'.length = N ∧ Wd os' ∧ Row w' t g os' ∧ os'.take j = os.take j ∧ os'.drop (j + (m + 3)) = os.drop (j + (m + 3)) ∧ num ((os'.drop j).take (m + 3)) = U % V
end Fl
namespace Go.Proofs.YtdpjkddllimcoaaGreatDoor
open Go.RowKit Fl
set_option maxRecDepth 20000 in
set_option maxHeartbeats 2000000 in
theorem n_step (g j m N l : Nat) (os : List Nat) (cap2 : Nat) (u2 : Option Addr) (cap3 : Nat) (vs : List Nat) (w : World) (hr : Row w 70 g os) (hN : os.length = N) (hj : j + (m + 2) < N) (hl2 : m + 2 < l) (hlb : l ≤ 4194304) (hv : Sl w (.slice u2 vs.length cap3) vs) (hk : vs.length = m + 2) (ho : Wd os) (hvw : Wd vs) (hy : 0 < vs.getD (m + 1) 0) (hUV : num ((os.drop j).take (m + 3)) < 4294967296 * num vs) (hne : ∀ a, u2 = some a → a.block ≠ g) :
    Calls Tryz.prog 170 #[.slice (some ⟨g, j, none⟩) l cap2, .slice u2 vs.length cap3] w (StepLeft w 70 g N j m os (num ((os.drop j).take (m + 3))) (num vs)) := by
  obtain ⟨p', cap', hpe, -, -, h3'⟩ := hv.form
  injection hpe with e1 e2 e3
  subst e1 e3
  clear e2
  have HK := Lib.hid hk
  rw [hk] at h3' ⊢
  have t1 : decide (l ≤ m + 2) = false := by simp; omega
  obtain ⟨b2, off2, rfl, hc2⟩ := h3' (by omega)
  have HNe := Lib.hid (hne _ rfl)
  have hmb : m ≤ 4194304 := by omega
  have f1 := hr.cell (i := j + (m + 2)) (by omega)
  have f2 := hr.cell (i := j + (m + 1)) (by omega)
  have d1 := ho.getD (j + (m + 2))
  have d2 := ho.getD (j + (m + 1))
  have f3 := hc2 (m + 1) (by omega)
  have d3 := hvw.getD (m + 1)
  have f4 := hc2 m (by omega)
  have d4 := hvw.getD m
  have f5 := hr.cell (i := j + m) (by omega)
  have d5 := ho.getD (j + m)
  generalize hx1 : os.getD (j + (m + 2)) 0 = x1 at *
  generalize hx2 : os.getD (j + (m + 1)) 0 = x2 at *
  generalize hx3 : os.getD (j + m) 0 = x3 at *
  generalize hy1 : vs.getD (m + 1) 0 = y1 at *
  generalize hy2 : vs.getD m 0 = y2 at *
  have g1 := or_high x1 x2 d1 d2
  obtain ⟨T, hT⟩ : ∃ T, T = x1 * 4294967296 + x2 := ⟨_, rfl⟩
  rw [← hT] at g1
  have HRow := Lib.hid hr
  have HC2 := Lib.hid hc2
  have Hx1 := Lib.hid hx1
  have Hx2 := Lib.hid hx2
  have Hx3 := Lib.hid hx3
  have Hy1 := Lib.hid hy1
  have Hy2 := Lib.hid hy2
  have HT := Lib.hid hT
  obtain ⟨Q0, hQ0⟩ : ∃ Q0, Q0 = T / y1 := ⟨_, rfl⟩
  have hqd : (T : Int) / (y1 : Int) = (Q0 : Int) := by rw [hQ0]; simp
  have hqt : (T : Int).tdiv (y1 : Int) = (Q0 : Int) := by rw [hQ0]; exact (Int.ofNat_tdiv T y1).symm
  have hy10 : ((y1 : Int) == 0) = false := by simp; omega
  have HQ0 := Lib.hid hQ0
  clear hQ0
  have hQb : Q0 < 18446744073709551616 := by
    have := Nat.div_le_self T y1
    have := HT.out
    have := HQ0.out
    omega
  obtain ⟨U, HU⟩ : ∃ U, Hid (U = num ((os.drop j).take (m + 3))) := ⟨_, rfl⟩
  obtain ⟨V, HV⟩ : ∃ V, Hid (V = num vs) := ⟨_, rfl⟩
  have HU3 : Hid ((T * 4294967296 + x3) * 4294967296 ^ m ≤ U ∧ U < (T * 4294967296 + x3 + 1) * 4294967296 ^ m) := by
    rw [HU.out, HT.out]
    exact top3 (ho.drop j) (by rw [getD_drop, Hx3.out]) (by rw [getD_drop]; exact Hx2.out) (by rw [getD_drop]; exact Hx1.out) (by rw [List.length_drop]; omega)
  have HV3 : Hid ((y1 * 4294967296 + y2) * 4294967296 ^ m ≤ V ∧ V < (y1 * 4294967296 + y2 + 1) * 4294967296 ^ m) := by
    rw [HV.out]
    exact top2 hvw Hy2.out Hy1.out HK.out
  have HUV : Hid (U < 4294967296 * V) := by rw [HU.out, HV.out]; exact hUV
  obtain ⟨G0, hG0⟩ : ∃ G0, G0 = min Q0 4294967295 := ⟨_, rfl⟩
  have hmin : (if (4294967295 : Int) < (Q0 : Int) then (4294967295 : Int) else (Q0 : Int)) = (G0 : Int) := by
    rw [hG0]
    split <;> omega
  have HG0 : Hid (G0 < 4294967296 ∧ G0 * y1 ≤ T ∧ U < (G0 + 1) * V) := guess_first hy d5 HQ0.out hG0 HU3.out.2 HV3.out.1 HUV.out
  clear hUV
  have Hmin := Lib.hid hmin
  clear hmin hG0
  clear hr hv h3' hne hx1 hx2 hx3 hy1 hy2 hT hc2
  go_enter Tryz.func170, Tryz.ntmps170
  go_upto_region 4 with (fail)
  go_quiet (fail)
  go_upto_region 5 with (fail)
  obtain ⟨w1, hw1⟩ : ∃ w1, w1 = w.drewN nq := ⟨_, rfl⟩
  rw [← hw1]
  have HW1 : Hid (Ext w w1) := by rw [hw1]; exact (Ext.refl w).drewN _
  have f1 : w1.cell? ⟨g, j + (m + 2), none⟩ = some (.int .u32 (x1 : Int)) := by rw [hw1]; exact f1
  have f2 : w1.cell? ⟨g, j + (m + 1), none⟩ = some (.int .u32 (x2 : Int)) := by rw [hw1]; exact f2
  have f3 : w1.cell? ⟨b2, off2 + (m + 1), none⟩ = some (.int .u32 (y1 : Int)) := by rw [hw1]; exact f3
  have f4 : w1.cell? ⟨b2, off2 + m, none⟩ = some (.int .u32 (y2 : Int)) := by rw [hw1]; exact f4
  have f5 : w1.cell? ⟨g, j + m, none⟩ = some (.int .u32 (x3 : Int)) := by rw [hw1]; exact f5
  clear hw1
  go_upto_block 0 with (fail)
  rw [Hmin.out]
  clear hqd hqt hQb hy10 g1 t1 hk Hmin
  go_cut [7] (fun v7 wc => ∃ G : Nat, v7 = .int .u64 G ∧ G < 4294967296 ∧ Hid (Guess G U V) ∧ Drw w1 wc)
  case first =>
    as_aux_lemma =>
      go_wp2_with (fail)
      go_loopw [7] (fun v7 wr => ∃ G : Nat, v7 = .int .u64 G ∧ G < 4294967296 ∧ Hid (G * y1 ≤ T ∧ U < (G + 1) * V) ∧ Drw w1 wr) (fun v7 _ => (intOf v7).toNat)
      case atStart => exact ⟨G0, rfl, HG0.out.1, ⟨HG0.out.2.1, HG0.out.2.2⟩, Drw.refl w1⟩
      case round =>
        as_aux_lemma =>
          obtain ⟨G, rfl, hG, HG, hwr⟩ := hrel
          cases G with
          | zero =>
            have Hw := Lib.hid hwr
            clear hwr
            go_wp2_with (fail)
            go_meet
            case rel => exact ⟨0, rfl, by omega, ⟨HG.out.2, by simp⟩, Hw.out⟩
          | succ G =>
            have f3 : wr.cell? ⟨b2, off2 + (m + 1), none⟩ = some (.int .u32 (y1 : Int)) := by rw [hwr.cell]; exact f3
            have f4 : wr.cell? ⟨b2, off2 + m, none⟩ = some (.int .u32 (y2 : Int)) := by rw [hwr.cell]; exact f4
            have f5 : wr.cell? ⟨g, j + m, none⟩ = some (.int .u32 (x3 : Int)) := by rw [hwr.cell]; exact f5
            have Hw := Lib.hid hwr
            clear hwr
            obtain ⟨P1, hP1⟩ : ∃ P, P = (G + 1) * y1 := ⟨_, rfl⟩
            obtain ⟨P2, hP2⟩ : ∃ P, P = (G + 1) * y2 := ⟨_, rfl⟩
            have hP1i : ((G : Int) + 1) * (y1 : Int) = (P1 : Int) := by rw [hP1]; simp
            have hP2i : ((G : Int) + 1) * (y2 : Int) = (P2 : Int) := by rw [hP2]; simp
            have hP1b : P1 ≤ 18446744065119617025 := by rw [hP1]; exact mul_bound hG d3
            have hP2b : P2 ≤ 18446744065119617025 := by rw [hP2]; exact mul_bound hG d4
            have hPT : P1 ≤ T := by rw [hP1]; exact HG.out.1
            have hTb : T < 18446744073709551616 := by have := HT.out; omega
            obtain ⟨R, hR⟩ : ∃ R, R = T - P1 := ⟨_, rfl⟩
            have hRi : (T : Int) - (P1 : Int) = (R : Int) := by omega
            have HR := Lib.hid (And.intro hR (And.intro hP1 (And.intro hP2 hPT)))
            have hRb : R < 18446744073709551616 := by omega
            clear hR hP1 hP2 hPT
            by_cases hR1 : 4294967296 ≤ R
            · have t2 : ((R : Int) / 4294967296 != 0) = true := by simp; omega
              go_wp2_with (fail)
              go_quiet (fail)
              go_wp2_with (fail)
              go_meet
              case rel => exact ⟨G + 1, rfl, hG, ⟨HG.out.2, guess_low HV3.out.2 HU3.out.1 (by omega) (guess_ok HR.out.2.1 HR.out.2.2.1 HR.out.1 HR.out.2.2.2 (by omega))⟩, Hw.out.drewN _⟩
            · have t2 : ((R : Int) / 4294967296 != 0) = false := by simp; omega
              have g2 := or_high R x3 (by omega) d5
              obtain ⟨S3, hS3⟩ : ∃ S, S = R * 4294967296 + x3 := ⟨_, rfl⟩
              rw [← hS3] at g2
              have HS3 := Lib.hid hS3
              clear hS3
              by_cases hc : P2 ≤ S3
              · have t3 : decide (P2 ≤ S3) = true := by simp; omega
                go_wp2_with (fail)
                go_quiet (fail)
                go_wp2_with (fail)
                go_meet
                case rel => exact ⟨G + 1, rfl, hG, ⟨HG.out.2, guess_low HV3.out.2 HU3.out.1 (by omega) (guess_ok HR.out.2.1 HR.out.2.2.1 HR.out.1 HR.out.2.2.2 (by have := HS3.out; omega))⟩, Hw.out.drewN _⟩
              · have t3 : decide (P2 ≤ S3) = false := by simp; omega
                go_wp2_with (fail)
                go_quiet (fail)
                go_wp2_with (fail)
                go_roundw
                case rel => exact ⟨G, by go_num, by omega, ⟨Nat.le_trans (Nat.mul_le_mul_right y1 (Nat.le_succ G)) HG.out.1, guess_high HV3.out.1 HU3.out.2 (guess_no HR.out.2.1 HR.out.2.2.1 HR.out.1 HR.out.2.2.2 (by have := HS3.out; omega))⟩, Hw.out.drewN _⟩
                case measure =>
                  show ((G : Int)).toNat < (((G + 1 : Nat) : Int)).toNat
                  omega
  case rest =>
    obtain ⟨G, rfl, hG, HGu, hwc⟩ := hcut
    have HWC : Hid (Ext w wc ∧ Row wc 70 g os) := by
      have h1 : Ext w wc := HW1.out.trans hwc.ext
      exact ⟨h1, HRow.out.ext h1⟩
    clear hwc f1 f2 f3 f4 f5
    go_wp2_with (fail)
    go_loopw [9, 10, 83] (fun v9 v10 v83 wr => ∃ (i Bo C : Nat), i ≤ m + 3 ∧ Bo ≤ 1 ∧ C < 4294967296 ∧ v9 = .int .u64 Bo ∧ v10 = .int .u64 C ∧ v83 = .int .i64 i ∧
      Hid (Chg g w wr ∧ ∃ os' : List Nat, os'.length = N ∧ Wd os' ∧ Row wr 70 g os' ∧ os'.take j = os.take j ∧ os'.drop (j + i) = os.drop (j + i) ∧
        num ((os'.drop j).take i) + G * num (vs.take i) = num ((os.drop j).take i) + 4294967296 ^ i * (C + Bo) ∧ (i = m + 3 → C = 0))) (fun _ _ v83 _ => m + 3 - (intOf v83).toNat)
    case atStart => exact ⟨0, 0, 0, Nat.zero_le _, by omega, by omega, rfl, rfl, rfl, Chg.of_ext HWC.out.1, os, hN, ho, HWC.out.2, rfl, rfl, by simp [num], fun h => rfl⟩
    case round =>
      as_aux_lemma =>
        obtain ⟨i, Bo, C, hi, hBo, hC, rfl, rfl, rfl, HQ⟩ := hrel
        by_cases hlt : i < m + 3
        · obtain ⟨os', h1, h2, h3, h4, h5, h6, h7⟩ := HQ.out.2
          have hcx := h3.cell (i := j + i) (by omega)
          have hfz := h3.frozen (j + i)
          have hx := h2.getD (j + i)
          have HXe := Lib.hid (win_get h5)
          generalize os'.getD (j + i) 0 = x at *
          have HR2 : Hid (∀ (q : Int) (d : Nat), q = (d : Int) → Row (wr.setCell ⟨g, j + i, none⟩ (.int .u32 q)) 70 g (os'.set (j + i) d)) := fun q d hq => h3.set _ q d hq (by omega)
          have HCh : Hid (∀ q, Chg g w (wr.setCell ⟨g, j + i, none⟩ q)) := fun q => HQ.out.1.set rfl q
          have Hos := Lib.hid (And.intro h1 (And.intro h2 (And.intro h4 (And.intro h5 h6))))
          clear h1 h2 h3 h4 h5 h6 h7
          obtain ⟨v, hv, hcv, HVv⟩ : ∃ v : Nat, v < 4294967296 ∧ (i < m + 2 → wr.cell? ⟨b2, off2 + i, none⟩ = some (.int .u32 (v : Int)) ∧ True) ∧ Hid (vs.getD i 0 = v ∧ (¬ i < m + 2 → v = 0)) := by
            refine ⟨vs.getD i 0, hvw.getD i, fun h => ⟨HQ.out.1.cell (HC2.out i (by omega)) HNe.out, trivial⟩, rfl, fun h => ?_⟩
            rw [List.getD_eq_getElem?_getD, List.getElem?_eq_none (by have := HK.out; omega)]; rfl
          obtain ⟨P, hP⟩ : ∃ P, P = G * v := ⟨_, rfl⟩
          have hPb : P ≤ 18446744065119617025 := by rw [hP]; exact mul_bound hG hv
          have hPi : (G : Int) * (v : Int) = (P : Int) := by rw [hP]; simp
          have HP := Lib.hid hP
          clear hP
          have HS := Lib.hid (num_take_succ' vs i)
          have HO := Lib.hid (win_succ (K := os) j i)
          have HCl := Lib.hid hcv
          clear hcv
          by_cases hlv : i < m + 2
          · have hcv := (HCl.out hlv).1
            by_cases hb : x < (C + P) % 4294967296 + Bo
            · as_aux_lemma =>
                have HD : Hid (x + 4294967296 * 1 = (x + 4294967296 - ((C + P) % 4294967296 + Bo)) + ((C + P) % 4294967296 + Bo)) := by show _ = _; omega
                have hdb : x + 4294967296 - ((C + P) % 4294967296 + Bo) < 4294967296 := by omega
                go_wp2_with (fail)
                go_roundw
                case rel =>
                  refine ⟨i + 1, 1, (C + P) / 4294967296, by omega, by omega, by omega, rfl, by go_num, by go_num, HCh.out _, os'.set (j + i) (x + 4294967296 - ((C + P) % 4294967296 + Bo)), by rw [List.length_set]; exact Hos.out.1, Hos.out.2.1.set _ hdb, HR2.out _ _ (by rw [IntKind.wrap_u64]; omega), win_take Hos.out.2.2.1, win_drop Hos.out.2.2.2.1, ?_, by omega⟩
                  rw [win_set (by rw [Hos.out.1]; omega), HS.out, HVv.out.1, HO.out, ← HXe.out]
                  exact off_step (p := (C + P)) Hos.out.2.2.2.2 (by rw [← HP.out]) (by have := HD.out; omega)
                case measure =>
                  show m + 3 - (((i + 1 : Nat) : Int)).toNat < m + 3 - ((i : Int)).toNat
                  omega
            · as_aux_lemma =>
                have HD : Hid (x + 4294967296 * 0 = (x - ((C + P) % 4294967296 + Bo)) + ((C + P) % 4294967296 + Bo)) := by show _ = _; omega
                have hdb : x - ((C + P) % 4294967296 + Bo) < 4294967296 := by omega
                go_wp2_with (fail)
                go_roundw
                case rel =>
                  refine ⟨i + 1, 0, (C + P) / 4294967296, by omega, by omega, by omega, rfl, by go_num, by go_num, HCh.out _, os'.set (j + i) (x - ((C + P) % 4294967296 + Bo)), by rw [List.length_set]; exact Hos.out.1, Hos.out.2.1.set _ hdb, HR2.out _ _ (by omega), win_take Hos.out.2.2.1, win_drop Hos.out.2.2.2.1, ?_, by omega⟩
                  rw [win_set (by rw [Hos.out.1]; omega), HS.out, HVv.out.1, HO.out, ← HXe.out]
                  exact off_step (p := (C + P)) Hos.out.2.2.2.2 (by rw [← HP.out]) (by have := HD.out; omega)
                case measure =>
                  show m + 3 - (((i + 1 : Nat) : Int)).toNat < m + 3 - ((i : Int)).toNat
                  omega
          · by_cases hb : x < C % 4294967296 + Bo
            · as_aux_lemma =>
                have hP0 : P = 0 := by rw [HP.out, (HVv.out.2 hlv), Nat.mul_zero]
                have HD : Hid (x + 4294967296 * 1 = (x + 4294967296 - (C % 4294967296 + Bo)) + ((C + P) % 4294967296 + Bo)) := by show _ = _; omega
                have hdb : x + 4294967296 - (C % 4294967296 + Bo) < 4294967296 := by omega
                go_wp2_with (fail)
                go_roundw
                case rel =>
                  refine ⟨i + 1, 1, C / 4294967296, by omega, by omega, by omega, rfl, by go_num, by go_num, HCh.out _, os'.set (j + i) (x + 4294967296 - (C % 4294967296 + Bo)), by rw [List.length_set]; exact Hos.out.1, Hos.out.2.1.set _ hdb, HR2.out _ _ (by rw [IntKind.wrap_u64]; omega), win_take Hos.out.2.2.1, win_drop Hos.out.2.2.2.1, ?_, by omega⟩
                  rw [win_set (by rw [Hos.out.1]; omega), HS.out, HVv.out.1, HO.out, ← HXe.out]
                  exact off_step (p := C) Hos.out.2.2.2.2 (by rw [← HP.out]; omega) (by have := HD.out; omega)
                case measure =>
                  show m + 3 - (((i + 1 : Nat) : Int)).toNat < m + 3 - ((i : Int)).toNat
                  omega
            · as_aux_lemma =>
                have hP0 : P = 0 := by rw [HP.out, (HVv.out.2 hlv), Nat.mul_zero]
                have HD : Hid (x + 4294967296 * 0 = (x - (C % 4294967296 + Bo)) + ((C + P) % 4294967296 + Bo)) := by show _ = _; omega
                have hdb : x - (C % 4294967296 + Bo) < 4294967296 := by omega
                go_wp2_with (fail)
                go_roundw
                case rel =>
                  refine ⟨i + 1, 0, C / 4294967296, by omega, by omega, by omega, rfl, by go_num, by go_num, HCh.out _, os'.set (j + i) (x - (C % 4294967296 + Bo)), by rw [List.length_set]; exact Hos.out.1, Hos.out.2.1.set _ hdb, HR2.out _ _ (by omega), win_take Hos.out.2.2.1, win_drop Hos.out.2.2.2.1, ?_, by omega⟩
                  rw [win_set (by rw [Hos.out.1]; omega), HS.out, HVv.out.1, HO.out, ← HXe.out]
                  exact off_step (p := C) Hos.out.2.2.2.2 (by rw [← HP.out]; omega) (by have := HD.out; omega)
                case measure =>
                  show m + 3 - (((i + 1 : Nat) : Int)).toNat < m + 3 - ((i : Int)).toNat
                  omega
        · have hie : i = m + 3 := by omega
          subst hie
          obtain ⟨os1, k1, k2, k3, k4, k5, k6, k7⟩ := HQ.out.2
          have hC0 : C = 0 := k7 rfl
          subst hC0
          have HV' : Hid (num (vs.take (m + 3)) = V) := by rw [HV.out, List.take_of_length_le (by have := HK.out; omega)]; rfl
          rw [HV'.out, ← HU.out] at k6
          have hB2 : Bo = 0 ∨ Bo = 1 := by omega
          clear hlt hi hC k7
          rcases hB2 with rfl | rfl
          · as_aux_lemma =>
              have k6' : num ((os1.drop j).take (m + 3)) + G * V = U := by rw [k6, Nat.add_zero, Nat.mul_zero, Nat.add_zero]
              have HF : Hid (U / V = G ∧ U % V = num ((os1.drop j).take (m + 3))) := fin0 k6' HGu.out
              clear k6'
              have HE : Hid (Chg g w wr ∧ ∃ os' : List Nat, os'.length = N ∧ Wd os' ∧ Row wr 70 g os' ∧ os'.take j = os.take j ∧ os'.drop (j + (m + 3)) = os.drop (j + (m + 3)) ∧ num ((os'.drop j).take (m + 3)) = U % V) := ⟨HQ.out.1, os1, k1, k2, k3, k4, k5, HF.out.2.symm⟩
              clear k1 k2 k3 k4 k5 k6
              go_wp2_with (fail)
              go_ret
              simp only []
              refine ⟨?_, ?_⟩
              · rw [← HU.out, ← HV.out, HF.out.1]; rfl
              · rw [← HU.out, ← HV.out]; exact HE.out
          · have HK1 := Lib.hid (And.intro k1 (And.intro k2 (And.intro k3 (And.intro k4 (And.intro k5 k6)))))
            clear k1 k2 k3 k4 k5 k6
            go_wp2_with (fail)
            go_loopw [14, 131] (fun v14 v131 wr => ∃ (i C : Nat), i ≤ m + 3 ∧ C ≤ 1 ∧ v131 = .int .i64 i ∧ v14 = .int .u64 C ∧
              Hid (Chg g w wr ∧ ∃ os' : List Nat, os'.length = N ∧ Wd os' ∧ Row wr 70 g os' ∧ os'.take j = os1.take j ∧ os'.drop (j + i) = os1.drop (j + i) ∧
                num ((os'.drop j).take i) + 4294967296 ^ i * C = num ((os1.drop j).take i) + num (vs.take i))) (fun _ v131 _ => m + 3 - (intOf v131).toNat)
            case atStart => exact ⟨0, 0, Nat.zero_le _, by omega, rfl, rfl, HQ.out.1, os1, HK1.out.1, HK1.out.2.1, HK1.out.2.2.1, rfl, rfl, by simp [num]⟩
            case round =>
              as_aux_lemma =>
                obtain ⟨i, C, hi, hC, rfl, rfl, HQ3⟩ := hrel
                by_cases hlt : i < m + 3
                · obtain ⟨os3, h1, h2, h3, h4, h5, h6⟩ := HQ3.out.2
                  have hcx := h3.cell (i := j + i) (by omega)
                  have hfz := h3.frozen (j + i)
                  have hd := h2.getD (j + i)
                  have HXe := Lib.hid (win_get h5)
                  generalize os3.getD (j + i) 0 = d at *
                  have HR2 : Hid (∀ (q : Int) (d : Nat), q = (d : Int) → Row (wr.setCell ⟨g, j + i, none⟩ (.int .u32 q)) 70 g (os3.set (j + i) d)) := fun q d hq => h3.set _ q d hq (by omega)
                  have HCh : Hid (∀ q, Chg g w (wr.setCell ⟨g, j + i, none⟩ q)) := fun q => HQ3.out.1.set rfl q
                  have Hos := Lib.hid (And.intro h1 (And.intro h2 (And.intro h4 (And.intro h5 h6))))
                  clear h1 h2 h3 h4 h5 h6
                  obtain ⟨v, hv, hcv, HVv⟩ : ∃ v : Nat, v < 4294967296 ∧ (i < m + 2 → wr.cell? ⟨b2, off2 + i, none⟩ = some (.int .u32 (v : Int)) ∧ True) ∧ Hid (vs.getD i 0 = v ∧ (¬ i < m + 2 → v = 0)) := by
                    refine ⟨vs.getD i 0, hvw.getD i, fun h => ⟨HQ3.out.1.cell (HC2.out i (by omega)) HNe.out, trivial⟩, rfl, fun h => ?_⟩
                    rw [List.getD_eq_getElem?_getD, List.getElem?_eq_none (by have := HK.out; omega)]; rfl
                  have HS := Lib.hid (num_take_succ' vs i)
                  have HO := Lib.hid (win_succ (K := os1) j i)
                  have HCl := Lib.hid hcv
                  clear hcv
                  by_cases hlv : i < m + 2
                  · have hcv := (HCl.out hlv).1
                    go_wp2_with (fail)
                    go_roundw
                    case rel =>
                      refine ⟨i + 1, (C + d + v) / 4294967296, by omega, by omega, by go_num, by go_num, HCh.out _, os3.set (j + i) ((C + d + v) % 4294967296), by rw [List.length_set]; exact Hos.out.1, Hos.out.2.1.set _ (Nat.mod_lt _ (by decide)), HR2.out _ _ (by omega), win_take Hos.out.2.2.1, win_drop Hos.out.2.2.2.1, ?_⟩
                      rw [win_set (by rw [Hos.out.1]; omega), HS.out, HVv.out.1, HO.out, ← HXe.out]
                      exact back_step Hos.out.2.2.2.2
                    case measure =>
                      show m + 3 - (((i + 1 : Nat) : Int)).toNat < m + 3 - ((i : Int)).toNat
                      omega
                  · obtain rfl : v = 0 := HVv.out.2 hlv
                    go_wp2_with (fail)
                    go_roundw
                    case rel =>
                      refine ⟨i + 1, (C + d + 0) / 4294967296, by omega, by omega, by go_num, by go_num, HCh.out _, os3.set (j + i) ((C + d + 0) % 4294967296), by rw [List.length_set]; exact Hos.out.1, Hos.out.2.1.set _ (Nat.mod_lt _ (by decide)), HR2.out _ _ (by omega), win_take Hos.out.2.2.1, win_drop Hos.out.2.2.2.1, ?_⟩
                      rw [win_set (by rw [Hos.out.1]; omega), HS.out, HVv.out.1, HO.out, ← HXe.out]
                      exact back_step Hos.out.2.2.2.2
                    case measure =>
                      show m + 3 - (((i + 1 : Nat) : Int)).toNat < m + 3 - ((i : Int)).toNat
                      omega
                · have hie : i = m + 3 := by omega
                  subst hie
                  obtain ⟨os3, h1, h2, h3, h4, h5, h6⟩ := HQ3.out.2
                  rw [HV'.out] at h6
                  have HF : Hid (1 ≤ G ∧ U / V = G - 1 ∧ U % V = num ((os3.drop j).take (m + 3))) := by
                    have b1 := num_lt ((HK1.out.2.1.drop j).take (m + 3))
                    have b2 := num_lt ((h2.drop j).take (m + 3))
                    have b3 := num_lt hvw
                    have c1 : ((os1.drop j).take (m + 3)).length = m + 3 := by rw [List.length_take, List.length_drop, HK1.out.1]; omega
                    have c2 : ((os3.drop j).take (m + 3)).length = m + 3 := by rw [List.length_take, List.length_drop, h1]; omega
                    rw [c1] at b1
                    rw [c2] at b2
                    rw [HK.out, ← HV.out] at b3
                    have b4 := Nat.pow_le_pow_right (show 0 < 4294967296 by decide) (show m + 2 ≤ m + 3 by omega)
                    have k6 : num ((os1.drop j).take (m + 3)) + G * V = U + 4294967296 ^ (m + 3) := by rw [HK1.out.2.2.2.2.2, Nat.zero_add, Nat.mul_one]
                    exact fin1 k6 HGu.out b1 (by omega) b2 h6
                  have HE : Hid (Chg g w wr ∧ ∃ os' : List Nat, os'.length = N ∧ Wd os' ∧ Row wr 70 g os' ∧ os'.take j = os.take j ∧ os'.drop (j + (m + 3)) = os.drop (j + (m + 3)) ∧ num ((os'.drop j).take (m + 3)) = U % V) :=
                    ⟨HQ3.out.1, os3, h1, h2, h3, h4.trans HK1.out.2.2.2.1, h5.trans HK1.out.2.2.2.2.1, HF.out.2.2.symm⟩
                  obtain ⟨n, rfl⟩ : ∃ n, G = n + 1 := ⟨G - 1, by have := HF.out.1; omega⟩
                  have HF2 : Hid (U / V = n) := HF.out.2.1
                  clear h1 h2 h3 h4 h5 h6 HF hlt hi
                  go_wp2_with (fail)
                  go_ret
                  simp only []
                  refine ⟨?_, ?_⟩
                  · rw [← HU.out, ← HV.out, HF2.out]; rfl
                  · rw [← HU.out, ← HV.out]; exact HE.out
end Go.Proofs.YtdpjkddllimcoaaGreatDoor
end
