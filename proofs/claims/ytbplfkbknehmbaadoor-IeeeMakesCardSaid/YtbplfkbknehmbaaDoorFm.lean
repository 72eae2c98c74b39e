/- The model's products and sums of finite floats, rounded once to the nearest. -/
import Derived.Test.YtbplfkbknehmbaaDoorRe
import Derived.Test.YtbplfkbknehmbaaDoorFb
namespace Fl
open Ieee Go

/-- a name, so that no one reckons the power. -/
def EM : Nat := 1074
theorem EM_eq : EM = 1074 := rfl

theorem mul_eq {x y : Nat} (hx : x < 18446744073709551616) (hy : y < 18446744073709551616) (fx : mag x < INF) (fy : mag y < INF) :
    FloatKind.f64.format.mul x y = some (word (neg x ^^ neg y) (rnd (cD (V (mag x) * V (mag y)) (-2148)) 1)) := by
  obtain ⟨m, k, h1, h2⟩ := read_num (x := x) (by simpa using hx) fx
  obtain ⟨n, l, h3, h4⟩ := read_num (x := y) (by simpa using hy) fy
  show double.mul x y = _
  unfold Format.mul
  rw [h1, h3]
  simp only [Datum.product, Option.map_some, Format.write]
  rw [nearest_eq]
  refine congrArg some (congrArg (word _) (congrArg (fun c => rnd c 1) ?_))
  rw [← h2, ← h4]
  have := cD_shift (m * n) (-1074 + (k : Int) + (-1074 + (l : Int))) (k + l)
  rw [← this]
  congr 1
  · rw [Nat.pow_add]
    simp only [Nat.mul_assoc, Nat.mul_left_comm]
  · omega

theorem add_eq {x y : Nat} (hx : x < 18446744073709551616) (hy : y < 18446744073709551616) (fx : mag x < INF) (fy : mag y < INF) :
    FloatKind.f64.format.add x y = some (word (if val x + val y = 0 then neg x && neg y else decide (val x + val y < 0)) (rnd (cD (val x + val y).natAbs (-1074)) 1)) := by
  obtain ⟨m, k, h1, h2⟩ := read_num (x := x) (by simpa using hx) fx
  obtain ⟨n, l, h3, h4⟩ := read_num (x := y) (by simpa using hy) fy
  show double.add x y = _
  unfold Format.add
  rw [h1, h3]
  simp only [Datum.sum, Option.map_some, Format.write]
  rw [nearest_eq]
  have e1 := signed_val (b := min (-1074 + (k : Int)) (-1074 + (l : Int))) h2 (by omega) (by omega)
  have e2 := signed_val (b := min (-1074 + (k : Int)) (-1074 + (l : Int))) h4 (by omega) (by omega)
  generalize signed (neg x) m _ = a at *
  generalize signed (neg y) n _ = b at *
  generalize hb : min (-1074 + (k : Int)) (-1074 + (l : Int)) = base at *
  have e3 : (a + b) * ((2 ^ (base + 1074).toNat : Nat) : Int) = val x + val y := by rw [Int.add_mul, e1, e2]
  have hp : (0 : Int) < ((2 ^ (base + 1074).toNat : Nat) : Int) := by
    have := Nat.two_pow_pos (base + 1074).toNat
    omega
  rw [← e3]
  congr 2
  · by_cases h0 : a + b = 0
    · rw [if_pos h0, if_pos (by rw [h0, Int.zero_mul])]
    · rw [if_neg h0, if_neg (by
        intro h
        rcases Int.mul_eq_zero.1 h with h | h
        · exact h0 h
        · omega)]
      rw [Bool.eq_iff_iff]; simp only [decide_eq_true_eq]
      exact ⟨fun h => Int.mul_neg_of_neg_of_pos h hp, fun h => by
        rcases Int.lt_or_le (a + b) 0 with h' | h'
        · exact h'
        · have := Int.mul_nonneg h' (Int.le_of_lt hp); omega⟩
  · congr 1
    rw [Int.natAbs_mul, Int.natAbs_natCast]
    have := cD_shift (a + b).natAbs base (base + 1074).toNat
    rw [← this]
    congr 1
    omega

theorem neg_word {s : Bool} {r : Nat} (hr : r < S) : neg (word s r) = s := by
  unfold neg word; cases s <;> simp; omega
theorem mag_word {s : Bool} {r : Nat} (hr : r < S) : mag (word s r) = r := by
  unfold mag word S at *; cases s <;> simp <;> omega
theorem word_lt {s : Bool} {r : Nat} (hr : r < S) : word s r < 18446744073709551616 := by
  unfold word S at *; cases s <;> simp <;> omega
theorem word_self {x : Nat} (hx : x < 18446744073709551616) : word (neg x) (mag x) = x := by
  unfold word mag neg S at *
  by_cases h : 9223372036854775808 ≤ x
  · simp [h]; omega
  · simp [h]; omega

/-- the product of a float with a power of two, where it is a float. -/
theorem mul_exact {x y r : Nat} (hx : x < 18446744073709551616) (hy : y < 18446744073709551616) (fx : mag x < INF) (fy : mag y < INF) (hr : r < INF)
    (h : V (mag x) * V (mag y) = V r * 2 ^ EM) : FloatKind.f64.format.mul x y = some (word (neg x ^^ neg y) r) := by
  rw [mul_eq hx hy fx fy, h]
  have := cD_shift (V r) (-1074) EM
  rw [show (-1074 : Int) - (EM : Nat) = -2148 from rfl] at this
  rw [this]
  have h2 := cD_shift (rq r) ((rl r : Int) - 1074) (rl r)
  rw [← V_lq, show (rl r : Int) - 1074 - (rl r : Nat) = -1074 by omega] at h2
  rw [h2, rnd_exact (l := rl r) rfl (rq_lt r) (rq_norm r) (by rw [rung_lq]; exact hr), rung_lq]

/-! the walks' words -/
theorem run_mul_float {P : Program} {w : World} (t : TypeId) {x y r : Nat} (h : FloatKind.f64.format.mul x y = some r) :
    (binOp .mul t (.float .f64 x) (.float .f64 y)).run P w = .ok (.float .f64 r) w := by
  simp [binOp, Op.floatArith, h]
theorem run_add_float {P : Program} {w : World} (t : TypeId) {x y r : Nat} (h : FloatKind.f64.format.add x y = some r) :
    (binOp .add t (.float .f64 x) (.float .f64 y)).run P w = .ok (.float .f64 r) w := by
  simp [binOp, Op.floatArith, h]
theorem negFloat_eq (x : Nat) (hx : x < 18446744073709551616) : Op.negFloat .f64 x = turned x := xor_S x hx
theorem run_neg_float {P : Program} (x : Nat) (hx : x < 18446744073709551616) (w : World) :
    (Op.unary .neg (.float .f64 x)).run P w = .ok (.float .f64 (turned x)) w := by
  rw [← negFloat_eq x hx]; rfl
theorem mag_lt64 (x : Nat) : mag x < 18446744073709551616 := by have := mag_lt x; unfold S at *; omega
theorem mag_mag (x : Nat) : mag (mag x) = mag x := by unfold mag S; omega
theorem key_mag (x : Nat) : key (mag x) = mag x := by
  have := mag_lt x
  unfold key; rw [if_neg (by omega)]
theorem fgt_max (x : Nat) (hx : x < 18446744073709551616) : fgt x 9218868437227405311 = decide (x = INF) := by
  rw [fgt_eq (by simpa using hx) (by decide), Bool.eq_iff_iff]
  have e : nan 9218868437227405311 = false := by decide
  have e2 : key 9218868437227405311 = 9218868437227405311 := by decide
  rw [e, e2]
  unfold nan key mag S INF
  simp
  split <;> omega
theorem fgt_max_mag (x : Nat) : fgt (mag x) 9218868437227405311 = decide (mag x = INF) := fgt_max _ (mag_lt64 x)
theorem flt_small_true (x : Nat) (h : mag x < B) : flt (mag x) 4503599627370496 = true := by
  rw [flt_eq (by simpa using mag_lt64 x) (by decide)]
  have e : nan 4503599627370496 = false := by decide
  have e2 : key 4503599627370496 = 4503599627370496 := by decide
  rw [e, e2, key_mag]
  unfold nan; rw [mag_mag]
  unfold INF B at *
  simp; omega
theorem flt_small_false (x : Nat) (h : B ≤ mag x) : flt (mag x) 4503599627370496 = false := by
  rw [flt_eq (by simpa using mag_lt64 x) (by decide), Bool.eq_false_iff]
  have e : nan 4503599627370496 = false := by decide
  have e2 : key 4503599627370496 = 4503599627370496 := by decide
  rw [e, e2, key_mag]
  unfold B at *
  simp; omega
theorem bits_copysign (x y : Nat) (hx : x < 18446744073709551616) (hy : y < 18446744073709551616) :
    bits .or .u64 (bits .andNot .u64 (x : Int) 9223372036854775808) (bits .and .u64 (y : Int) 9223372036854775808) = ((word (neg y) (mag x) : Nat) : Int) := by
  have hm := mag_lt x
  rw [bits_andNot_S x hx, bits_and_S y hy]
  unfold word neg
  by_cases h : S ≤ y
  · simp only [h, if_true, decide_true]
    have := u64_or_nat (mag x) S (by unfold S at *; omega) (by decide)
    rw [Nat.or_comm, nat_join 63 S (mag x) (by decide) hm] at this
    exact this
  · simp only [h, if_false, decide_false]
    have := u64_or_nat (mag x) 0 (by unfold S at *; omega) (by decide)
    simpa using this
theorem V_52 : V 4841369599423283200 = 2 ^ 52 * 2 ^ EM := by
  have h : (4841369599423283200 : Nat) = EM * B + B := by decide
  have hB : B = 2 ^ 52 := by decide
  rw [h, V_of (by unfold B; omega) (.inr (Nat.le_refl _))]
  exact congrArg (· * 2 ^ EM) hB
theorem mul_52 (x r : Nat) (hx : x < 18446744073709551616) (hs : mag x < B) (hr : r < INF) (h : V (mag x) * 2 ^ 52 = V r) :
    FloatKind.f64.format.mul x 4841369599423283200 = some (word (neg x) r) := by
  have := mul_exact (x := x) (y := 4841369599423283200) (r := r) hx (by decide) (by unfold B INF at *; omega) (by decide) hr
    (by rw [show mag 4841369599423283200 = 4841369599423283200 by decide, V_52, ← Nat.mul_assoc, h])
  rw [this, show neg 4841369599423283200 = false by decide]
  simp

end Fl
