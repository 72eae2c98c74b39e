/- A part of the proof (6 of 18) of this: RoundSums: for every two floats and every mode the program's rounded sum and difference are the document's: the law returns true; condition: the table of package math/bits reads as its text lays it. -/
import GoSem.Core.Float
import Derived.Test.YtdpjkddllimcoaaGreatDoorVs4

section
/- Plain facts on 64-bit floats as bits: what a word stands for, in units of 2^-1074, and how two words compare. -/
namespace Fl
open Ieee

/-- the weight of the sign. -/
def S : Nat := 9223372036854775808
/-- the magnitude of an infinity. -/
def INF : Nat := 9218868437227405312
def B : Nat := 4503599627370496

def mag (x : Nat) : Nat := x % S
def neg (x : Nat) : Bool := decide (S ≤ x)
def nan (x : Nat) : Bool := decide (INF < mag x)
def key (x : Nat) : Int := if S ≤ x then -((x - S : Nat) : Int) else x

/-- the value of a rung in units of 2^-1074. -/
def V (r : Nat) : Nat := if r < B then r else (B + r % B) * 2 ^ (r / B - 1)

theorem V_lt_B {r : Nat} (h : r < B) : V r = r := by simp [V, h]

theorem V_succ (r : Nat) : V r < V (r + 1) := by
  unfold V
  by_cases h : r < B
  · by_cases h1 : r + 1 < B
    · simp [h, h1]
    · have e : r + 1 = B := by omega
      have hB : 0 < B := by decide
      simp only [h, if_true, e, Nat.lt_irrefl, if_false, Nat.mod_self, Nat.div_self (show 0 < B by decide)]
      simp; omega
  · have h1 : ¬ r + 1 < B := by omega
    simp only [h, h1, if_false]
    by_cases hm : r % B + 1 < B
    · have e1 : (r + 1) % B = r % B + 1 := by unfold B at *; omega
      have e2 : (r + 1) / B = r / B := by unfold B at *; omega
      rw [e1, e2]
      exact Nat.mul_lt_mul_of_pos_right (by omega) (Nat.two_pow_pos _)
    · have e1 : (r + 1) % B = 0 := by unfold B at *; omega
      have e2 : (r + 1) / B = r / B + 1 := by unfold B at *; omega
      rw [e1, e2]
      have hq : 1 ≤ r / B := by unfold B at *; omega
      obtain ⟨q, hq'⟩ : ∃ q, r / B = q + 1 := ⟨r / B - 1, by omega⟩
      rw [hq']
      simp only [Nat.add_sub_cancel, Nat.add_zero]
      rw [Nat.pow_succ, Nat.mul_comm (2 ^ q) 2, ← Nat.mul_assoc]
      exact Nat.mul_lt_mul_of_pos_right (by unfold B at *; omega) (Nat.two_pow_pos _)

theorem V_mono {a b : Nat} (h : a < b) : V a < V b := by
  induction b with
  | zero => omega
  | succ n ih =>
    by_cases e : a = n
    · subst e; exact V_succ a
    · exact Nat.lt_trans (ih (by omega)) (V_succ n)

theorem V_le {a b : Nat} (h : a ≤ b) : V a ≤ V b := by
  rcases Nat.lt_or_eq_of_le h with h | h
  · exact Nat.le_of_lt (V_mono h)
  · subst h; exact Nat.le_refl _

theorem V_inj {a b : Nat} (h : V a = V b) : a = b := by
  rcases Nat.lt_trichotomy a b with h1 | h1 | h1
  · have := V_mono h1; omega
  · exact h1
  · have := V_mono h1; omega

theorem V_lt_iff {a b : Nat} : V a < V b ↔ a < b := by
  constructor
  · intro h
    rcases Nat.lt_or_ge a b with h1 | h1
    · exact h1
    · have := V_le h1; omega
  · exact V_mono

theorem V_zero : V 0 = 0 := by decide

/-- a finite word's value, with its sign, in units of 2^-1074. -/
def val (x : Nat) : Int := if S ≤ x then -(V (mag x) : Int) else V (mag x)

theorem signWeight_eq : double.signWeight = S := by decide
theorem binade_eq : double.binade = B := by decide
theorem infRung_eq : double.infRung = INF := by decide
theorem leastPlace_eq : double.leastPlace = -1074 := by decide

theorem mag_lt (x : Nat) : mag x < S := Nat.mod_lt _ (by decide)

theorem read_neg (x : Nat) (hx : x < 2 ^ 64) : (x / S % 2 == 1) = neg x := by
  unfold neg
  rw [Bool.eq_iff_iff]
  simp only [beq_iff_eq, decide_eq_true_eq]
  unfold S
  omega

/-- what a finite word reads as. -/
theorem read_num {x : Nat} (hx : x < 2 ^ 64) (h : mag x < INF) :
    ∃ m k : Nat, double.read x = .number (neg x) m (-1074 + (k : Int)) ∧ m * 2 ^ k = V (mag x) := by
  unfold Format.read
  simp only [signWeight_eq, binade_eq, infRung_eq, leastPlace_eq, read_neg x hx]
  change ∃ m k : Nat, (if mag x < B then _ else _) = _ ∧ _
  by_cases h1 : mag x < B
  · refine ⟨mag x, 0, ?_, by simp [V, h1]⟩
    rw [if_pos h1]
    rfl
  · refine ⟨B + mag x % B, mag x / B - 1, ?_, by simp [V, h1]⟩
    rw [if_neg h1]
    have h2 : x % S < INF := h
    rw [if_pos h2]
    rfl

theorem read_inf {x : Nat} (hx : x < 2 ^ 64) (h : mag x = INF) : double.read x = .infinity (neg x) := by
  have h' : x % S = INF := h
  unfold Format.read
  simp only [signWeight_eq, binade_eq, infRung_eq, leastPlace_eq, read_neg x hx, h']
  rfl

theorem read_nan {x : Nat} (hx : x < 2 ^ 64) (h : INF < mag x) : double.read x = .nan (neg x) (mag x - INF) := by
  have h' : INF < x % S := h
  have hB : B = 4503599627370496 := rfl
  have hI : INF = 9218868437227405312 := rfl
  unfold Format.read
  simp only [signWeight_eq, binade_eq, infRung_eq, leastPlace_eq, read_neg x hx]
  rw [if_neg (by omega), if_neg (by omega), if_neg (by omega)]
  rfl

theorem signed_eq (s : Bool) (m k : Nat) : signed s m k = if s then -((m * 2 ^ k : Nat) : Int) else ((m * 2 ^ k : Nat) : Int) := by
  unfold signed
  rw [Nat.shiftLeft_eq]

theorem key_neg_S {x : Nat} (h : S ≤ x) (hx : x < 2 ^ 64) : key x = -(mag x : Int) := by
  unfold key mag
  rw [if_pos h]
  unfold S at *
  omega

theorem key_pos_S {x : Nat} (h : ¬ S ≤ x) : key x = (mag x : Int) := by
  unfold key mag
  rw [if_neg h]
  unfold S at *
  omega

theorem compare_mul_pos {a b : Int} {c : Nat} (hc : 0 < c) : compare (a * c) (b * c) = compare a b := by
  have hc' : (0 : Int) < c := by omega
  rcases Int.lt_trichotomy a b with h | h | h
  · rw [Int.compare_eq_lt.2 h, Int.compare_eq_lt.2 (Int.mul_lt_mul_of_pos_right h hc')]
  · subst h; simp
  · rw [Int.compare_eq_gt.2 h, Int.compare_eq_gt.2 (Int.mul_lt_mul_of_pos_right h hc')]

/-- the sign and the magnitude tell the order of two whole numbers -/
theorem compare_val_key {x y : Nat} (hx : x < 2 ^ 64) (hy : y < 2 ^ 64) : compare (val x) (val y) = compare (key x) (key y) := by
  have cmp : ∀ {a b c d : Int}, (a < b ↔ c < d) → (b < a ↔ d < c) → compare a b = compare c d := by
    intro a b c d h1 h2
    rcases Int.lt_trichotomy a b with h | h | h
    · rw [Int.compare_eq_lt.2 h, Int.compare_eq_lt.2 (h1.1 h)]
    · have n1 : ¬ c < d := fun k => by have := h1.2 k; omega
      have n2 : ¬ d < c := fun k => by have := h2.2 k; omega
      rw [Int.compare_eq_eq.2 h, Int.compare_eq_eq.2 (by omega)]
    · rw [Int.compare_eq_gt.2 h, Int.compare_eq_gt.2 (h2.1 h)]
  have vz : ∀ a : Nat, V a = 0 ↔ a = 0 := fun a => ⟨fun h => V_inj (by rw [h, V_zero]), fun h => by rw [h, V_zero]⟩
  have v1 := @V_lt_iff (mag x) (mag y)
  have v2 := @V_lt_iff (mag y) (mag x)
  have z1 := vz (mag x)
  have z2 := vz (mag y)
  unfold val
  by_cases h1 : S ≤ x <;> by_cases h2 : S ≤ y
  · rw [key_neg_S h1 hx, key_neg_S h2 hy, if_pos h1, if_pos h2]
    exact cmp (by omega) (by omega)
  · rw [key_neg_S h1 hx, key_pos_S h2, if_pos h1, if_neg h2]
    exact cmp (by omega) (by omega)
  · rw [key_pos_S h1, key_neg_S h2 hy, if_neg h1, if_pos h2]
    exact cmp (by omega) (by omega)
  · rw [key_pos_S h1, key_pos_S h2, if_neg h1, if_neg h2]
    exact cmp (by omega) (by omega)

theorem neg_true {x : Nat} (h : S ≤ x) : neg x = true := by simp [neg, h]
theorem neg_false {x : Nat} (h : ¬ S ≤ x) : neg x = false := by simp [neg]; omega

theorem signed_val {x : Nat} {m k : Nat} {b : Int} (hm : m * 2 ^ k = V (mag x)) (hb : b ≤ -1074 + (k : Int)) (hb2 : -1074 ≤ b) :
    signed (neg x) m (-1074 + (k : Int) - b).toNat * ((2 ^ (b + 1074).toNat : Nat) : Int) = val x := by
  rw [signed_eq]
  have e : ((m * 2 ^ (-1074 + (k : Int) - b).toNat : Nat) : Int) * ((2 ^ (b + 1074).toNat : Nat) : Int) = (V (mag x) : Int) := by
    rw [← Int.natCast_mul, Nat.mul_assoc, ← Nat.pow_add, ← hm]
    rw [show (-1074 + (k : Int) - b).toNat + (b + 1074).toNat = k by omega]
  unfold val
  by_cases h : S ≤ x
  · rw [neg_true h, if_pos rfl, if_pos h, Int.neg_mul, e]
  · rw [neg_false h, if_neg (by simp), if_neg h, e]

theorem order_eq {x y : Nat} (hx : x < 2 ^ 64) (hy : y < 2 ^ 64) :
    double.order x y = if nan x || nan y then none else some (compare (key x) (key y)) := by
  have hI : INF = 9218868437227405312 := rfl
  have hS : S = 9223372036854775808 := rfl
  unfold Format.order
  by_cases nx : INF < mag x
  · rw [read_nan hx nx]
    have : nan x = true := by simp [nan, nx]
    simp [this, Datum.order]
  by_cases ny : INF < mag y
  · rw [read_nan hy ny]
    have : nan y = true := by simp [nan, ny]
    cases double.read x <;> simp [this, Datum.order]
  have e1 : nan x = false := by simp [nan]; omega
  have e2 : nan y = false := by simp [nan]; omega
  rw [e1, e2]
  simp only [Bool.or_self, Bool.false_eq_true, if_false]
  have mx := mag_lt x
  have my := mag_lt y
  by_cases ix : mag x = INF
  · rw [read_inf hx ix]
    by_cases iy : mag y = INF
    · rw [read_inf hy iy]
      simp only [Datum.order]
      by_cases h1 : S ≤ x <;> by_cases h2 : S ≤ y
      · rw [neg_true h1, neg_true h2, key_neg_S h1 hx, key_neg_S h2 hy, ix, iy]; simp
      · rw [neg_true h1, neg_false h2, key_neg_S h1 hx, key_pos_S h2, ix, iy]; decide
      · rw [neg_false h1, neg_true h2, key_pos_S h1, key_neg_S h2 hy, ix, iy]; decide
      · rw [neg_false h1, neg_false h2, key_pos_S h1, key_pos_S h2, ix, iy]; simp
    · obtain ⟨m, k, hr, hm⟩ := read_num hy (by omega)
      rw [hr]
      simp only [Datum.order]
      congr 1
      by_cases h1 : S ≤ x <;> by_cases h2 : S ≤ y
      · rw [neg_true h1, key_neg_S h1 hx, key_neg_S h2 hy, ix, if_pos rfl, Int.compare_eq_lt.2 (by omega)]
      · rw [neg_true h1, key_neg_S h1 hx, key_pos_S h2, ix, if_pos rfl, Int.compare_eq_lt.2 (by omega)]
      · rw [neg_false h1, key_pos_S h1, key_neg_S h2 hy, ix, if_neg (by simp), Int.compare_eq_gt.2 (by omega)]
      · rw [neg_false h1, key_pos_S h1, key_pos_S h2, ix, if_neg (by simp), Int.compare_eq_gt.2 (by omega)]
  · obtain ⟨m, k, hr, hm⟩ := read_num hx (by omega)
    rw [hr]
    by_cases iy : mag y = INF
    · rw [read_inf hy iy]
      simp only [Datum.order]
      congr 1
      by_cases h1 : S ≤ x <;> by_cases h2 : S ≤ y
      · rw [neg_true h2, key_neg_S h1 hx, key_neg_S h2 hy, iy, if_pos rfl, Int.compare_eq_gt.2 (by omega)]
      · rw [neg_false h2, key_neg_S h1 hx, key_pos_S h2, iy, if_neg (by simp), Int.compare_eq_lt.2 (by omega)]
      · rw [neg_true h2, key_pos_S h1, key_neg_S h2 hy, iy, if_pos rfl, Int.compare_eq_gt.2 (by omega)]
      · rw [neg_false h2, key_pos_S h1, key_pos_S h2, iy, if_neg (by simp), Int.compare_eq_lt.2 (by omega)]
    · obtain ⟨n, l, hr2, hn⟩ := read_num hy (by omega)
      rw [hr2]
      simp only [Datum.order]
      congr 1
      rw [← compare_val_key hx hy, ← signed_val (b := min (-1074 + (k : Int)) (-1074 + (l : Int))) hm (by omega) (by omega),
        ← signed_val (b := min (-1074 + (k : Int)) (-1074 + (l : Int))) hn (by omega) (by omega), compare_mul_pos (Nat.two_pow_pos _)]

end Fl
end
