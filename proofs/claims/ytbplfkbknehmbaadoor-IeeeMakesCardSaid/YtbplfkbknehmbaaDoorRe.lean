/- Rounding a whole number times a power of two: by the digits that are cut; and the model's own rounding to the nearest. -/
import Derived.Test.YtbplfkbknehmbaaDoorRd
namespace Fl
open Ieee

theorem compare_scale {a b k : Nat} (hk : 0 < k) : compare (a * k) (b * k) = compare a b := by
  rcases Nat.lt_trichotomy a b with h | h | h
  · rw [Nat.compare_eq_lt.2 h, Nat.compare_eq_lt.2 (Nat.mul_lt_mul_of_pos_right h hk)]
  · rw [h]; simp
  · rw [Nat.compare_eq_gt.2 h, Nat.compare_eq_gt.2 (Nat.mul_lt_mul_of_pos_right h hk)]

theorem cD_at {m l D s : Nat} {e : Int} (he : e = l - 1074 - D) : cD m e (s * 2 ^ (l + 1)) = compare m (s * 2 ^ D) := by
  unfold cD cQ
  rcases Nat.le_total D (l + 1) with h | h
  · rw [show (-(e + 1075)).toNat = 0 by omega, Nat.pow_zero, Nat.mul_one, show (e + 1075).toNat = l + 1 - D by omega]
    rw [show s * 2 ^ (l + 1) = s * 2 ^ D * 2 ^ (l + 1 - D) by rw [Nat.mul_assoc, ← Nat.pow_add, show D + (l + 1 - D) = l + 1 by omega]]
    exact compare_scale (Nat.two_pow_pos _)
  · rw [show (e + 1075).toNat = 0 by omega, Nat.pow_zero, Nat.mul_one, show (-(e + 1075)).toNat = D - (l + 1) by omega]
    rw [Nat.mul_assoc, ← Nat.pow_add, show l + 1 + (D - (l + 1)) = D by omega]

theorem cD_half {m l D s : Nat} {e : Int} (he : e = l - 1074 - D) : cD m e (s * 2 ^ l) = compare (2 * m) (s * 2 ^ D) := by
  unfold cD cQ
  rcases Nat.le_total D l with h | h
  · rw [show (-(e + 1075)).toNat = 0 by omega, Nat.pow_zero, Nat.mul_one, show (e + 1075).toNat = l - D + 1 by omega]
    rw [show s * 2 ^ l = s * 2 ^ D * 2 ^ (l - D) by rw [Nat.mul_assoc, ← Nat.pow_add, show D + (l - D) = l by omega],
      show m * 2 ^ (l - D + 1) = 2 * m * 2 ^ (l - D) by rw [Nat.pow_succ, Nat.mul_comm (2 ^ (l - D)) 2, ← Nat.mul_assoc, Nat.mul_comm m 2]]
    exact compare_scale (Nat.two_pow_pos _)
  · by_cases h1 : D = l
    · subst h1
      rw [show (-(e + 1075)).toNat = 0 by omega, show (e + 1075).toNat = 1 by omega, Nat.pow_zero, Nat.mul_one, Nat.pow_one, Nat.mul_comm]
    · rw [show (e + 1075).toNat = 0 by omega, Nat.pow_zero, Nat.mul_one, show (-(e + 1075)).toNat = D - l - 1 by omega]
      rw [Nat.mul_assoc, ← Nat.pow_add, show s * 2 ^ D = 2 * (s * 2 ^ (l + (D - l - 1))) by
        rw [show D = l + (D - l - 1) + 1 by omega, Nat.pow_succ, ← Nat.mul_assoc, Nat.mul_comm _ 2, show l + (l + (D - l - 1) + 1 - l - 1) = l + (D - l - 1) by omega]]
      rw [Nat.mul_comm 2 m, Nat.mul_comm 2 (s * _)]
      exact (compare_scale (k := 2) (by decide)).symm

/-- what the digits that are cut say: q is kept, rem is cut behind D digits. -/
def away (d q rem u : Nat) : Nat :=
  if d = 0 then q else if d = 2 then (if rem = 0 then q else q + 1) else if 2 * rem < u then q else if u < 2 * rem then q + 1 else q + q % 2

theorem rnd_cut {m l D d : Nat} {e : Int} (he : e = l - 1074 - D) (hq : m / 2 ^ D < 2 * B) (hn : l = 0 ∨ B ≤ m / 2 ^ D) (hf : l * B + m / 2 ^ D < INF) :
    rnd (cD m e) d = l * B + away d (m / 2 ^ D) (m % 2 ^ D) (2 ^ D) := by
  have hp : 0 < 2 ^ D := Nat.two_pow_pos _
  have hdm := Nat.div_add_mod m (2 ^ D)
  have hml := Nat.mod_lt m hp
  rw [Nat.mul_comm] at hdm
  generalize m / 2 ^ D = q at *
  generalize m % 2 ^ D = rem at *
  rw [rnd_lq (cD_anti _ _) hq hn (by rw [cD_at he]; intro h; rw [Nat.compare_eq_lt] at h; omega)
    (by rw [cD_at he, Nat.compare_eq_lt, Nat.add_mul]; omega) hf, cD_at he, cD_half he]
  congr 1
  unfold away
  by_cases d0 : d = 0
  · rw [if_pos d0, if_pos d0]
  · rw [if_neg d0, if_neg d0]
    by_cases d2 : d = 2
    · rw [if_pos d2, if_pos d2]
      by_cases hr : rem = 0
      · rw [if_pos hr, if_pos (by rw [Nat.compare_eq_eq]; omega)]
      · rw [if_neg hr, if_neg (by rw [Nat.compare_eq_eq]; omega)]
    · rw [if_neg d2, if_neg d2]
      have e1 : (2 * q + 1) * 2 ^ D = 2 * (q * 2 ^ D) + 2 ^ D := by rw [Nat.add_mul, Nat.one_mul, Nat.mul_assoc]
      rw [e1]
      by_cases h1 : 2 * rem < 2 ^ D
      · rw [if_pos h1, Nat.compare_eq_lt.2 (by omega)]
      · rw [if_neg h1]
        by_cases h2 : 2 ^ D < 2 * rem
        · rw [if_pos h2, Nat.compare_eq_gt.2 (by omega)]
        · rw [if_neg h2, Nat.compare_eq_eq.2 (by omega)]

/-- nothing is cut. -/
theorem rnd_exact {q l d : Nat} {e : Int} (he : e = l - 1074) (hq : q < 2 * B) (hn : l = 0 ∨ B ≤ q) (hf : l * B + q < INF) : rnd (cD q e) d = l * B + q := by
  have h := rnd_cut (m := q) (l := l) (D := 0) (d := d) (e := e) (by omega) (by simpa using hq) (by simpa using hn) (by simpa using hf)
  rw [h]
  unfold away
  simp [Nat.mod_one]

/-- beyond the greatest float. -/
theorem rnd_big {m d : Nat} {e : Int} (h : 2 ^ (1024 - e).toNat ≤ m * 2 ^ (e - 1024).toNat) : rnd (cD m e) d = if d = 0 then INF - 1 else INF := by
  refine rnd_over (cD_anti _ _) (cD_strict _ _) ?_
  intro hlt
  have hEB := EB_eq
  rw [V_INF, ← Nat.mul_assoc, show 2 * B = 2 ^ 53 by decide, ← Nat.pow_add] at hlt
  unfold cD at hlt
  rw [cQ_lt] at hlt
  rcases Int.le_total 1024 e with h1 | h1
  · rw [show (-(e + 1075)).toNat = 0 by omega, Nat.pow_zero, Nat.mul_one] at hlt
    rw [show (1024 - e).toNat = 0 by omega] at h
    have : 2 ^ (53 + EB) * 1 ≤ 2 ^ (53 + EB) * (m * 2 ^ (e - 1024).toNat) := Nat.mul_le_mul_left _ (by simpa using h)
    rw [Nat.mul_one, Nat.mul_comm, Nat.mul_assoc, ← Nat.pow_add, show (e - 1024).toNat + (53 + EB) = (e + 1075).toNat by omega] at this
    omega
  · rw [show (e - 1024).toNat = 0 by omega, Nat.pow_zero, Nat.mul_one] at h
    rcases Int.le_total 0 (e + 1075) with h2 | h2
    · rw [show (-(e + 1075)).toNat = 0 by omega, Nat.pow_zero, Nat.mul_one] at hlt
      have : 2 ^ (1024 - e).toNat * 2 ^ (e + 1075).toNat ≤ m * 2 ^ (e + 1075).toNat := Nat.mul_le_mul_right _ h
      rw [← Nat.pow_add, show (1024 - e).toNat + (e + 1075).toNat = 53 + EB by omega] at this
      omega
    · rw [show (e + 1075).toNat = 0 by omega, Nat.pow_zero, Nat.mul_one, ← Nat.pow_add, show 53 + EB + (-(e + 1075)).toNat = (1024 - e).toNat by omega] at hlt
      omega

theorem rnd_zero {e : Int} {d : Nat} : rnd (cD 0 e) d = 0 := by
  have h := rnd_cut (m := 0) (l := 0) (D := 0) (d := d) (e := -1074) (by omega) (by decide) (.inl rfl) (by decide)
  have : cD 0 e = cD 0 (-1074) := by
    funext t
    unfold cD cQ
    simp only [Nat.zero_mul]
    by_cases ht : t = 0
    · subst ht; simp
    · rw [Nat.compare_eq_lt.2 (Nat.mul_pos (by omega) (Nat.two_pow_pos _)), Nat.compare_eq_lt.2 (Nat.mul_pos (by omega) (Nat.two_pow_pos _))]
  rw [this, h]
  unfold away
  split
  · rfl
  · split <;> rfl

theorem word_eq (s : Bool) (r : Nat) : double.word s r = word s r := by unfold Format.word word; rw [signWeight_eq]

/-- the model's own rounding is rounding to the nearest. -/
theorem nearest_eq (s : Bool) (m : Nat) (e : Int) : double.nearest s m e = word s (rnd (cD m e) 1) := by
  unfold Format.nearest
  by_cases hm : m = 0
  · rw [if_pos hm, hm, rnd_zero, word_eq]
  · rw [if_neg hm, word_eq]
    simp only [leastPlace_eq, binade_eq, infRung_eq]
    congr 1
    have h1 := Nat.log2_self_le hm
    have h2 := @Nat.lt_log2_self m
    generalize hL : m.log2 = L at *
    rw [show (double.fractionBits : Int) = 52 from rfl]
    generalize hlast : max (e + (L : Int) - 52) (-1074) = last
    have hl0 : -1074 ≤ last := by omega
    obtain ⟨l, rfl⟩ : ∃ l : Nat, last = (l : Int) - 1074 := ⟨(last + 1074).toNat, by omega⟩
    rw [show ((l : Int) - 1074 - -1074).toNat = l by omega]
    by_cases hle : (l : Int) - 1074 ≤ e
    · -- nothing is cut
      rw [show ((l : Int) - 1074 - e).toNat = 0 by omega]
      obtain ⟨k, hk⟩ : ∃ k : Nat, e = (l : Int) - 1074 + k := ⟨(e - (l - 1074)).toNat, by omega⟩
      rw [show (e - ((l : Int) - 1074)).toNat = k by omega, Nat.shiftLeft_eq]
      have hs := cD_shift m e k
      have hkept : Toward.even.cut s (m * 2 ^ k) 0 = m * 2 ^ k := by
        unfold Toward.cut
        simp [Nat.mod_one]
      rw [hkept, ← hs]
      have q2 : m * 2 ^ k < 2 * B := by
        have : m * 2 ^ k < 2 ^ (L + 1) * 2 ^ k := Nat.mul_lt_mul_of_pos_right h2 (Nat.two_pow_pos _)
        rw [← Nat.pow_add] at this
        have h3 : 2 ^ (L + 1 + k) ≤ 2 ^ 53 := Nat.pow_le_pow_right (by decide) (by omega)
        have : (2 : Nat) ^ 53 = 2 * B := by decide
        omega
      have q1 : l = 0 ∨ B ≤ m * 2 ^ k := by
        by_cases hl : l = 0
        · exact .inl hl
        · right
          have : 2 ^ L * 2 ^ k ≤ m * 2 ^ k := Nat.mul_le_mul_right _ h1
          rw [← Nat.pow_add] at this
          have h3 : 2 ^ 52 ≤ 2 ^ (L + k) := Nat.pow_le_pow_right (by decide) (by omega)
          have : (2 : Nat) ^ 52 = B := by decide
          omega
      by_cases hf : l * B + m * 2 ^ k < INF
      · rw [rnd_exact (l := l) (by omega) q2 q1 hf, Nat.min_eq_left (by omega)]
      · rw [rnd_big ?_, if_neg (by decide), Nat.min_eq_right (by omega)]
        have hl : 2046 ≤ l := by unfold B INF at *; omega
        have q1' : B ≤ m * 2 ^ k := by
          rcases q1 with h | h
          · omega
          · exact h
        rw [show ((2 : Nat) ^ (1024 - (e - k)).toNat) ≤ m * 2 ^ k * 2 ^ (e - k - 1024).toNat ↔ _ from Iff.rfl]
        rcases Int.le_total 1024 (e - k) with g | g
        · rw [show (1024 - (e - (k : Int))).toNat = 0 by omega]
          exact Nat.one_le_iff_ne_zero.2 (Nat.mul_ne_zero (by unfold B at *; omega) (Nat.ne_of_gt (Nat.two_pow_pos _)))
        · rw [show (e - (k : Int) - 1024).toNat = 0 by omega, Nat.pow_zero, Nat.mul_one]
          have : 2 ^ (1024 - (e - (k : Int))).toNat ≤ 2 ^ 52 := Nat.pow_le_pow_right (by decide) (by omega)
          have : (2 : Nat) ^ 52 = B := by decide
          omega
    · -- digits are cut
      rw [show (e - ((l : Int) - 1074)).toNat = 0 by omega, Nat.shiftLeft_zero]
      obtain ⟨D, hD⟩ : ∃ D : Nat, e = (l : Int) - 1074 - D := ⟨((l : Int) - 1074 - e).toNat, by omega⟩
      rw [show ((l : Int) - 1074 - e).toNat = D by omega]
      have q2 : m / 2 ^ D < 2 * B := by
        rw [Nat.div_lt_iff_lt_mul (Nat.two_pow_pos _)]
        have h3 : 2 ^ (L + 1) ≤ 2 ^ (53 + D) := Nat.pow_le_pow_right (by decide) (by omega)
        rw [Nat.pow_add 2 53 D] at h3
        have : (2 : Nat) ^ 53 = 2 * B := by decide
        rw [this] at h3
        omega
      have q1 : l = 0 ∨ B ≤ m / 2 ^ D := by
        by_cases hl : l = 0
        · exact .inl hl
        · right
          rw [Nat.le_div_iff_mul_le (Nat.two_pow_pos _)]
          have h3 : 2 ^ (52 + D) ≤ 2 ^ L := Nat.pow_le_pow_right (by decide) (by omega)
          rw [Nat.pow_add 2 52 D] at h3
          have : (2 : Nat) ^ 52 = B := by decide
          rw [this] at h3
          omega
      have hkept : Toward.even.cut s m D = away 1 (m / 2 ^ D) (m % 2 ^ D) (2 ^ D) := by
        unfold Toward.cut away
        rw [hL, if_neg (by decide), if_neg (by decide)]
        simp only [Nat.shiftLeft_eq, Nat.one_mul]
        by_cases hd : D ≤ L + 2
        · rw [Nat.min_eq_left hd]
          generalize m / 2 ^ D = q
          generalize m % 2 ^ D = rem
          generalize 2 ^ D = u
          by_cases c1 : 2 * rem < u
          · have a1 : ¬ u < 2 * rem := by omega
            have a2 : (u == 2 * rem) = false := by simp; omega
            rw [if_pos c1]; simp [a1, a2]
          · rw [if_neg c1]
            by_cases c2 : u < 2 * rem
            · rw [if_pos c2]; simp [c2]
            · have a2 : u = 2 * rem := by omega
              rw [if_neg c2]; simp [a2]
              rcases Nat.mod_two_eq_zero_or_one q with hq | hq <;> simp [hq]
        · rw [Nat.min_eq_right (by omega)]
          have hlt : m < 2 ^ (L + 2) := Nat.lt_of_lt_of_le h2 (Nat.pow_le_pow_right (by decide) (by omega))
          have hlt2 : 2 * m < 2 ^ (L + 2) := by
            have := Nat.mul_lt_mul_of_pos_left h2 (show 0 < 2 by decide)
            rw [show 2 ^ (L + 2) = 2 * 2 ^ (L + 1) by rw [show L + 2 = L + 1 + 1 from rfl, Nat.pow_succ, Nat.mul_comm]]
            exact this
          have hlt3 : 2 ^ (L + 2) ≤ 2 ^ D := Nat.pow_le_pow_right (by decide) (by omega)
          rw [Nat.div_eq_of_lt hlt, Nat.mod_eq_of_lt hlt, Nat.div_eq_of_lt (by omega), Nat.mod_eq_of_lt (show m < 2 ^ D by omega), if_pos (by omega)]
          have a1 : ¬ 2 ^ (L + 2) < 2 * m := by omega
          simp [a1]
      rw [hkept]
      by_cases hf : l * B + m / 2 ^ D < INF
      · rw [rnd_cut hD q2 q1 hf, Nat.min_eq_left]
        have : away 1 (m / 2 ^ D) (m % 2 ^ D) (2 ^ D) ≤ m / 2 ^ D + 1 := by
          unfold away
          rw [if_neg (by decide), if_neg (by decide)]
          split
          · omega
          · split <;> omega
        omega
      · have hl : 2046 ≤ l := by unfold B INF at *; omega
        have q1' : B ≤ m / 2 ^ D := by
          rcases q1 with h | h
          · omega
          · exact h
        have : m / 2 ^ D ≤ away 1 (m / 2 ^ D) (m % 2 ^ D) (2 ^ D) := by
          unfold away
          rw [if_neg (by decide), if_neg (by decide)]
          split
          · omega
          · split <;> omega
        rw [rnd_big ?_, if_neg (by decide), Nat.min_eq_right (by omega)]
        rw [Nat.le_div_iff_mul_le (Nat.two_pow_pos _)] at q1'
        have hB : B = 2 ^ 52 := by decide
        rw [hB, ← Nat.pow_add] at q1'
        rcases Int.le_total 1024 e with g | g
        · rw [show (1024 - e).toNat = 0 by omega]
          exact Nat.one_le_iff_ne_zero.2 (Nat.mul_ne_zero hm (Nat.ne_of_gt (Nat.two_pow_pos _)))
        · rw [show (e - 1024).toNat = 0 by omega, Nat.pow_zero, Nat.mul_one]
          exact Nat.le_trans (Nat.pow_le_pow_right (by decide) (by omega)) q1'

end Fl
