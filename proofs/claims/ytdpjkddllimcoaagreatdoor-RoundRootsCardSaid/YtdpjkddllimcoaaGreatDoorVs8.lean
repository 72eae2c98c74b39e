/- A part of the proof (9 of 18) of this: RoundSums: for every two floats and every mode the program's rounded sum and difference are the document's: the law returns true; condition: the table of package math/bits reads as its text lays it. -/
import Derived.Lib.BitFns
import Derived.Test.YtdpjkddllimcoaaGreatDoorVs7

section
/- How many binary digits a word has: plain facts. -/
namespace Fl
open Go

theorem bitLen_spec (x : Nat) (hx : x < 18446744073709551616) : (x = 0 → Lib.bitLen x = 0) ∧ (0 < x → 2 ^ (Lib.bitLen x - 1) ≤ x ∧ x < 2 ^ Lib.bitLen x ∧ 1 ≤ Lib.bitLen x) := by
  induction x using Nat.strongRecOn with
  | _ x ih =>
    refine ⟨fun h => by subst h; decide, fun h => ?_⟩
    have hh := Lib.bitLen_half x (by omega) (by simpa using hx)
    obtain ⟨z, p⟩ := ih (x / 2) (by omega) (by omega)
    by_cases h1 : x / 2 = 0
    · have : x = 1 := by omega
      subst this
      decide
    · obtain ⟨a, b, c⟩ := p (by omega)
      rw [hh]
      generalize Lib.bitLen (x / 2) = n at *
      have e1 : 2 ^ (1 + n - 1) = 2 * 2 ^ (n - 1) := by rw [show 1 + n - 1 = n - 1 + 1 by omega, Nat.pow_succ, Nat.mul_comm]
      have e2 : 2 ^ (1 + n) = 2 * 2 ^ n := by rw [Nat.add_comm, Nat.pow_succ, Nat.mul_comm]
      rw [e1, e2]
      omega
theorem bitLen_le (x : Nat) (hx : x < 18446744073709551616) : Lib.bitLen x ≤ 64 := by
  obtain ⟨z, p⟩ := bitLen_spec x hx
  rcases Nat.eq_zero_or_pos x with h | h
  · rw [z h]; omega
  · obtain ⟨a, b, c⟩ := p h
    rcases Nat.lt_or_ge 64 (Lib.bitLen x) with h2 | h2
    · have := Nat.pow_le_pow_right (show 0 < 2 by decide) (show 64 ≤ Lib.bitLen x - 1 by omega)
      have : (2 : Nat) ^ 64 = 18446744073709551616 := by decide
      omega
    · exact h2
end Fl
end
