/- Rounding, as the document says it: the greatest float that is not above, the least one that is not below, the nearest one; a magnitude is told by how twice it, in units of 2^-1074, compares with whole numbers. -/
import Derived.Test.YtbplfkbknehmbaaDoorFl
namespace Fl

def rl (r : Nat) : Nat := r / B - 1
def rq (r : Nat) : Nat := if r < B then r else B + r % B

theorem V_lq (r : Nat) : V r = rq r * 2 ^ rl r := by
  unfold V rq rl
  by_cases h : r < B
  · rw [if_pos h, if_pos h]
    have : r / B - 1 = 0 := by unfold B at *; omega
    rw [this]; simp
  · rw [if_neg h, if_neg h]

theorem rung_lq (r : Nat) : rl r * B + rq r = r := by
  unfold rl rq
  by_cases h : r < B
  · rw [if_pos h]; unfold B at *; omega
  · rw [if_neg h]; unfold B at *; omega

theorem rq_lt (r : Nat) : rq r < 2 * B := by
  unfold rq
  by_cases h : r < B
  · rw [if_pos h]; unfold B at *; omega
  · rw [if_neg h]; unfold B at *; omega

theorem rq_norm (r : Nat) : rl r = 0 ∨ B ≤ rq r := by
  unfold rl rq
  by_cases h : r < B
  · left; unfold B at *; omega
  · right; rw [if_neg h]; omega

theorem V_of {l q : Nat} (h : q ≤ 2 * B) (h2 : l = 0 ∨ B ≤ q) : V (l * B + q) = q * 2 ^ l := by
  unfold V
  by_cases h1 : l * B + q < B
  · rw [if_pos h1]
    have hl : l = 0 := by
      rcases h2 with h2 | h2
      · exact h2
      · omega
    subst hl; simp
  · rw [if_neg h1]
    by_cases e : q = 2 * B
    · subst e
      have a : (l * B + 2 * B) / B = l + 2 := by
        rw [← Nat.add_mul]; exact Nat.mul_div_cancel _ (by decide)
      have b : (l * B + 2 * B) % B = 0 := by
        rw [← Nat.add_mul]; exact Nat.mul_mod_left _ _
      rw [a, b, show l + 2 - 1 = l + 1 from rfl, Nat.pow_succ]
      have : (B + 0) * (2 ^ l * 2) = 2 * B * 2 ^ l := by
        rw [Nat.add_zero, Nat.mul_comm (2 ^ l) 2, ← Nat.mul_assoc, Nat.mul_comm B 2]
      exact this
    · by_cases g : B ≤ q
      · have a : (l * B + q) / B = l + 1 := by
          rw [Nat.add_comm, Nat.add_mul_div_right _ _ (by decide)]
          have : q / B = 1 := by unfold B at *; omega
          omega
        have b : (l * B + q) % B = q - B := by
          rw [Nat.add_comm, Nat.add_mul_mod_self_right]
          unfold B at *; omega
        rw [a, b, show l + 1 - 1 = l from rfl, show B + (q - B) = q by omega]
      · have hl : l = 0 := by
          rcases h2 with h2 | h2
          · exact h2
          · exact absurd h2 g
        subst hl; omega

theorem V_next {l q : Nat} (h : q < 2 * B) (h2 : l = 0 ∨ B ≤ q) : V (l * B + q + 1) = (q + 1) * 2 ^ l := by
  rw [Nat.add_assoc]
  exact V_of (by omega) (by rcases h2 with h2 | h2; · exact .inl h2
                            · exact .inr (by omega))

/-- compares less and less where the number that it is held against grows. -/
def Anti (c : Nat → Ordering) : Prop := ∀ s t, s ≤ t → c s = .lt → c t = .lt

structure Floor (c : Nat → Ordering) (r : Nat) : Prop where
  fin : r < INF
  lo : c (2 * V r) ≠ .lt
  hi : r + 1 < INF → c (2 * V (r + 1)) = .lt

theorem Floor.unique {c : Nat → Ordering} (hc : Anti c) {r s : Nat} (h : Floor c r) (k : Floor c s) : r = s := by
  rcases Nat.lt_trichotomy r s with e | e | e
  · have := h.hi (by have := k.fin; omega)
    exact absurd (hc _ _ (Nat.mul_le_mul_left 2 (V_le (show r + 1 ≤ s by omega))) this) k.lo
  · exact e
  · have := k.hi (by have := h.fin; omega)
    exact absurd (hc _ _ (Nat.mul_le_mul_left 2 (V_le (show s + 1 ≤ r by omega))) this) h.lo

/-- from the floor to the answer; d: 0 towards nought, 1 to the nearest, 2 away from nought. -/
def pick (c : Nat → Ordering) (d r : Nat) : Nat :=
  if d = 0 then r else if d = 2 then (if c (2 * V r) = .eq then r else r + 1)
  else match c (V r + V (r + 1)) with
    | .lt => r
    | .gt => r + 1
    | .eq => r + r % 2

open Classical in
/-- the rung to which a magnitude is rounded. -/
noncomputable def rnd (c : Nat → Ordering) (d : Nat) : Nat := if h : ∃ r, Floor c r then pick c d h.choose else 0

theorem rnd_eq {c : Nat → Ordering} (hc : Anti c) {d r : Nat} (h : Floor c r) : rnd c d = pick c d r := by
  unfold rnd
  have he : ∃ r, Floor c r := ⟨r, h⟩
  rw [dif_pos he, Floor.unique hc he.choose_spec h]

theorem rnd_le {c : Nat → Ordering} {d : Nat} : rnd c d ≤ INF := by
  unfold rnd
  split
  · rename_i h
    have := h.choose_spec.fin
    unfold pick
    split
    · omega
    · split
      · split <;> omega
      · split <;> omega
  · decide

theorem floor_of {c : Nat → Ordering} {l q : Nat} (h : q < 2 * B) (h2 : l = 0 ∨ B ≤ q) (lo : c (q * 2 ^ (l + 1)) ≠ .lt)
    (hi : c ((q + 1) * 2 ^ (l + 1)) = .lt) (hr : l * B + q < INF) : Floor c (l * B + q) := by
  refine ⟨hr, ?_, fun _ => ?_⟩
  · rw [V_of (by omega) h2, show 2 * (q * 2 ^ l) = q * 2 ^ (l + 1) by rw [Nat.pow_succ, Nat.mul_comm (2 ^ l) 2, Nat.mul_left_comm]]
    exact lo
  · rw [V_next h h2, show 2 * ((q + 1) * 2 ^ l) = (q + 1) * 2 ^ (l + 1) by rw [Nat.pow_succ, Nat.mul_comm (2 ^ l) 2, Nat.mul_left_comm]]
    exact hi

/-- the answer, told by the digits kept and how what is cut compares. -/
theorem rnd_lq {c : Nat → Ordering} (hc : Anti c) {d l q : Nat} (h : q < 2 * B) (h2 : l = 0 ∨ B ≤ q) (lo : c (q * 2 ^ (l + 1)) ≠ .lt)
    (hi : c ((q + 1) * 2 ^ (l + 1)) = .lt) (hr : l * B + q < INF) :
    rnd c d = l * B + (if d = 0 then q else if d = 2 then (if c (q * 2 ^ (l + 1)) = .eq then q else q + 1)
      else match c ((2 * q + 1) * 2 ^ l) with | .lt => q | .gt => q + 1 | .eq => q + q % 2) := by
  rw [rnd_eq hc (floor_of h h2 lo hi hr)]
  unfold pick
  have e1 : 2 * V (l * B + q) = q * 2 ^ (l + 1) := by
    rw [V_of (by omega) h2, show 2 * (q * 2 ^ l) = q * 2 ^ (l + 1) by rw [Nat.pow_succ, Nat.mul_comm (2 ^ l) 2, Nat.mul_left_comm]]
  have e2 : V (l * B + q) + V (l * B + q + 1) = (2 * q + 1) * 2 ^ l := by
    rw [V_of (by omega) h2, V_next h h2, ← Nat.add_mul]; congr 1; omega
  have e3 : (l * B + q) % 2 = q % 2 := by
    have : l * B = 2 * (l * 2251799813685248) := by unfold B; omega
    omega
  rw [e1, e2, e3]
  by_cases d0 : d = 0
  · rw [if_pos d0, if_pos d0]
  · rw [if_neg d0, if_neg d0]
    by_cases d2 : d = 2
    · rw [if_pos d2, if_pos d2]; split <;> omega
    · rw [if_neg d2, if_neg d2]
      cases c ((2 * q + 1) * 2 ^ l) <;> simp <;> omega

def EB : Nat := 2046
theorem EB_eq : EB = 2046 := rfl
theorem V_INF : V INF = B * 2 ^ EB := by
  unfold V
  rw [if_neg (by decide), show INF % B = 0 from by decide, show INF / B - 1 = EB from by decide, Nat.add_zero]

/-- beyond the greatest float. -/
theorem rnd_over {c : Nat → Ordering} (hc : Anti c) (hgt : ∀ s t, s < t → c t ≠ .lt → c s = .gt) {d : Nat} (h : c (2 * V INF) ≠ .lt) :
    rnd c d = if d = 0 then INF - 1 else INF := by
  have hI : INF - 1 + 1 = INF := by decide
  have lt1 : V (INF - 1) < V INF := by rw [← hI]; exact V_succ _
  have f : Floor c (INF - 1) := by
    refine ⟨by decide, ?_, fun h => absurd h (by decide)⟩
    intro e
    exact h (hc _ _ (by omega) e)
  rw [rnd_eq hc f]
  unfold pick
  by_cases d0 : d = 0
  · rw [if_pos d0, if_pos d0]
  · rw [if_neg d0, if_neg d0]
    have g1 : c (2 * V (INF - 1)) = .gt := hgt _ _ (by omega) h
    have g2 : c (V (INF - 1) + V (INF - 1 + 1)) = .gt := hgt _ _ (by rw [hI]; omega) h
    rw [g1, g2]
    split
    · rfl
    · rfl

/-- the direction of a magnitude: mode 1 down, 2 to the nearest, 3 up. -/
def aim (neg : Bool) (mode : Int) : Nat := if mode = 2 then 1 else if neg then (if mode = 1 then 2 else 0) else (if mode = 1 then 0 else 2)

def word (neg : Bool) (r : Nat) : Nat := if neg then S + r else r

/-- twice a quotient n / d against t. -/
def cQ (n d t : Nat) : Ordering := compare n (t * d)
theorem cQ_lt {n d t : Nat} : cQ n d t = .lt ↔ n < t * d := by unfold cQ; exact Nat.compare_eq_lt
theorem cQ_gt {n d t : Nat} : cQ n d t = .gt ↔ t * d < n := by unfold cQ; exact Nat.compare_eq_gt
theorem cQ_eq {n d t : Nat} : cQ n d t = .eq ↔ n = t * d := by unfold cQ; exact Nat.compare_eq_eq
theorem cQ_anti (n d : Nat) : Anti (cQ n d) := by
  intro s t h e
  rw [cQ_lt] at *
  exact Nat.lt_of_lt_of_le e (Nat.mul_le_mul_right d h)
theorem cQ_strict {n d : Nat} (hd : 0 < d) : ∀ s t, s < t → cQ n d t ≠ .lt → cQ n d s = .gt := by
  intro s t h e
  rw [Ne, cQ_lt] at e
  rw [cQ_gt]
  exact Nat.lt_of_lt_of_le (Nat.mul_lt_mul_of_pos_right h hd) (by omega)
theorem cQ_scale {n d k : Nat} (hk : 0 < k) : cQ (n * k) (d * k) = cQ n d := by
  funext t
  unfold cQ
  rw [← Nat.mul_assoc]
  rcases Nat.lt_trichotomy n (t * d) with h | h | h
  · rw [Nat.compare_eq_lt.2 h, Nat.compare_eq_lt.2 (Nat.mul_lt_mul_of_pos_right h hk)]
  · rw [h]; simp
  · rw [Nat.compare_eq_gt.2 h, Nat.compare_eq_gt.2 (Nat.mul_lt_mul_of_pos_right h hk)]

/-- twice the root of a quotient against t. -/
def cS (n d t : Nat) : Ordering := compare n (t * t * d)
theorem cS_lt {n d t : Nat} : cS n d t = .lt ↔ n < t * t * d := by unfold cS; exact Nat.compare_eq_lt
theorem cS_gt {n d t : Nat} : cS n d t = .gt ↔ t * t * d < n := by unfold cS; exact Nat.compare_eq_gt
theorem cS_eq {n d t : Nat} : cS n d t = .eq ↔ n = t * t * d := by unfold cS; exact Nat.compare_eq_eq
theorem cS_anti (n d : Nat) : Anti (cS n d) := by
  intro s t h e
  rw [cS_lt] at *
  exact Nat.lt_of_lt_of_le e (Nat.mul_le_mul_right d (Nat.mul_le_mul h h))
theorem cS_strict {n d : Nat} (hd : 0 < d) : ∀ s t, s < t → cS n d t ≠ .lt → cS n d s = .gt := by
  intro s t h e
  rw [Ne, cS_lt] at e
  rw [cS_gt]
  exact Nat.lt_of_lt_of_le (Nat.mul_lt_mul_of_pos_right (Nat.mul_self_lt_mul_self h) hd) (by omega)

/-- a whole number times a power of two, as a comparison. -/
def cD (m : Nat) (e : Int) : Nat → Ordering := cQ (m * 2 ^ (e + 1075).toNat) (2 ^ (-(e + 1075)).toNat)
theorem cD_anti (m : Nat) (e : Int) : Anti (cD m e) := cQ_anti _ _
theorem cD_strict (m : Nat) (e : Int) : ∀ s t, s < t → cD m e t ≠ .lt → cD m e s = .gt := cQ_strict (Nat.two_pow_pos _)
theorem cD_shift (m : Nat) (e : Int) (k : Nat) : cD (m * 2 ^ k) (e - k) = cD m e := by
  unfold cD
  rcases Int.le_total 0 (e - k + 1075) with h | h
  · rw [show (-(e - k + 1075)).toNat = 0 by omega, show (-(e + 1075)).toNat = 0 by omega, Nat.mul_assoc, ← Nat.pow_add, show k + (e - k + 1075).toNat = (e + 1075).toNat by omega]
  · rcases Int.le_total 0 (e + 1075) with h2 | h2
    · have := cQ_scale (n := m * 2 ^ (e + 1075).toNat) (d := 2 ^ (-(e + 1075)).toNat) (k := 2 ^ (-(e - k + 1075)).toNat) (Nat.two_pow_pos _)
      rw [← this, Nat.mul_assoc, Nat.mul_assoc, ← Nat.pow_add, ← Nat.pow_add, ← Nat.pow_add]
      rw [show k + (e - k + 1075).toNat = (e + 1075).toNat + (-(e - k + 1075)).toNat by omega, show (-(e - k + 1075)).toNat = (-(e + 1075)).toNat + (-(e - k + 1075)).toNat by omega]
      rw [show (-(e + 1075)).toNat + ((-(e + 1075)).toNat + (-(e - k + 1075)).toNat) = (-(e + 1075)).toNat + (-(e - k + 1075)).toNat by omega]
    · have := cQ_scale (n := m * 2 ^ (e + 1075).toNat) (d := 2 ^ (-(e + 1075)).toNat) (k := 2 ^ k) (Nat.two_pow_pos _)
      rw [← this, ← Nat.pow_add]
      rw [show (e - k + 1075).toNat = 0 by omega, show (e + 1075).toNat = 0 by omega, show (-(e - k + 1075)).toNat = (-(e + 1075)).toNat + k by omega]
      simp

end Fl
