/- The walk of ieee.Make: a number times a power of two, rounded. -/
import Derived.Test.YtbplfkbknehmbaaDoorI4
import Derived.Test.YtbplfkbknehmbaaDoorBl
import Derived.Test.YtbplfkbknehmbaaDoorShelf
namespace Fl
/-- far below the least float all magnitudes are rounded alike. -/
theorem rnd_tiny {m d : Nat} {e : Int} (h0 : 0 < m) (h : m < 18446744073709551616) (he : e ≤ -1200) : rnd (cD m e) d = if d = 2 then 1 else 0 := by
  obtain ⟨D, hD⟩ : ∃ D : Nat, e = ((0 : Nat) : Int) - 1074 - D := ⟨(-1074 - e).toNat, by omega⟩
  have hD2 : 126 ≤ D := by omega
  have hp : 2 ^ 126 ≤ 2 ^ D := Nat.pow_le_pow_right (by decide) hD2
  have h1 : m < 2 ^ D := by omega
  have h2 := rnd_cut (m := m) (l := 0) (D := D) (d := d) hD (by rw [Nat.div_eq_of_lt h1]; decide) (.inl rfl) (by rw [Nat.div_eq_of_lt h1]; decide)
  rw [h2, Nat.div_eq_of_lt h1, Nat.mod_eq_of_lt h1]
  unfold away
  by_cases d0 : d = 0
  · subst d0; rfl
  · rw [if_neg d0]
    by_cases d2 : d = 2
    · rw [if_pos d2, if_pos d2, if_neg (by omega)]; rfl
    · rw [if_neg d2, if_neg d2, if_pos (by omega)]; rfl
theorem rnd_huge {m d : Nat} {e : Int} (h0 : 0 < m) (he : 1024 ≤ e) : rnd (cD m e) d = if d = 0 then INF - 1 else INF := by
  refine rnd_big ?_
  rw [show (1024 - e).toNat = 0 by omega]
  exact Nat.mul_pos h0 (Nat.two_pow_pos _)
/-- so the power of two may be held within bounds. -/
theorem rnd_clamp {m d : Nat} {e : Int} (h0 : 0 < m) (h : m < 18446744073709551616) : rnd (cD m (max (min e 3000) (-3000))) d = rnd (cD m e) d := by
  by_cases h1 : 3000 < e
  · rw [show max (min e 3000) (-3000) = 3000 by omega, rnd_huge h0 (by omega), rnd_huge h0 (by omega)]
  · by_cases h2 : e < -3000
    · rw [show max (min e 3000) (-3000) = -3000 by omega, rnd_tiny h0 h (by omega), rnd_tiny h0 h (by omega)]
    · rw [show max (min e 3000) (-3000) = e by omega]
theorem away_le (d q rem u : Nat) : q ≤ away d q rem u ∧ away d q rem u ≤ q + 1 := by
  unfold away
  split
  · omega
  · split
    · split <;> omega
    · split
      · omega
      · split <;> omega
/-- a word with its highest bit set. -/
theorem made_eq {m sh l d : Nat} {e : Int} (hm1 : 9223372036854775808 ≤ m) (h1 : m < 18446744073709551616) (he2 : e ≤ 960)
    (hsh : max (e + 63 - 52) (-1074) - e = sh) (hl : max (e + 63 - 52) (-1074) = (l : Int) - 1074) :
    rnd (cD m e) d = capR l (away d (m / 2 ^ sh) (m % 2 ^ sh) (2 ^ sh)) := by
  have hp11 : 2 ^ 11 ≤ 2 ^ sh := Nat.pow_le_pow_right (by decide) (by omega)
  have hq : m / 2 ^ sh < 2 * B := by
    rw [Nat.div_lt_iff_lt_mul (Nat.two_pow_pos _)]
    unfold B; omega
  have hn : l = 0 ∨ B ≤ m / 2 ^ sh := by
    by_cases h0 : l = 0
    · exact .inl h0
    · right
      rw [Nat.le_div_iff_mul_le (Nat.two_pow_pos _), show sh = 11 by omega]
      unfold B; omega
  have hlt : l * B + m / 2 ^ sh < INF := by
    have : l ≤ 2045 := by omega
    unfold B INF at *; omega
  rw [rnd_cut (l := l) (D := sh) (by omega) hq hn hlt]
  have := away_le d (m / 2 ^ sh) (m % 2 ^ sh) (2 ^ sh)
  unfold capR
  split
  · rfl
  · omega
theorem made_over {m d : Nat} {e : Int} (hm1 : 9223372036854775808 ≤ m) (he2 : 960 < e) : rnd (cD m e) d = if d = 0 then INF - 1 else INF := by
  refine rnd_big ?_
  rcases Int.le_total 1024 e with h | h
  · rw [show (1024 - e).toNat = 0 by omega]
    exact Nat.mul_pos (by omega) (Nat.two_pow_pos _)
  · rw [show (e - 1024).toNat = 0 by omega, Nat.pow_zero, Nat.mul_one]
    have : 2 ^ (1024 - e).toNat ≤ 2 ^ 63 := Nat.pow_le_pow_right (by decide) (by omega)
    omega
/-- a word's highest bit brought to its place. -/
theorem norm64 {m : Nat} (h0 : 0 < m) (h : m < 18446744073709551616) : ∃ n : Nat, n ≤ 63 ∧ (64 : Int) - (Go.Lib.bitLen m : Int) = n ∧ 9223372036854775808 ≤ m * 2 ^ n ∧ m * 2 ^ n < 18446744073709551616 := by
  obtain ⟨z, p⟩ := bitLen_spec m h
  have hl := bitLen_le m h
  obtain ⟨a, b, c⟩ := p h0
  generalize Go.Lib.bitLen m = k at *
  refine ⟨64 - k, by omega, by omega, ?_, ?_⟩
  · have := Nat.mul_le_mul_right (2 ^ (64 - k)) a
    rw [← Nat.pow_add, show k - 1 + (64 - k) = 63 by omega] at this
    exact this
  · have := Nat.mul_lt_mul_of_pos_right b (Nat.two_pow_pos (64 - k))
    rw [← Nat.pow_add, show k + (64 - k) = 64 by omega] at this
    exact this
end Fl
namespace Go.Proofs.YtbplfkbknehmbaaDoor
open Go.RowKit Fl
attribute [local go_sem] m_bits m_of

set_option maxRecDepth 100000 in
/-- ieee.made: whatever the power of two. -/
theorem i_made (s : Bool) (m : Nat) (e mode : Int) (hm : mode = 1 ∨ mode = 2 ∨ mode = 3) (hm1 : 9223372036854775808 ≤ m) (h1 : m < 18446744073709551616) (he1 : -4000 ≤ e) (he2 : e ≤ 4000) (w : World) :
    Calls Tryd.prog 35 #[.bool s, .int .u64 m, .int .i64 e, .int .i64 mode] w fun en wn => en = .returned (.float .f64 (rnd (cD m e) (aim s mode))) ∧ Drw w wn := by
  by_cases ht : e ≤ 960
  · obtain ⟨l, hl⟩ : ∃ l : Nat, max (e + 63 - 52) (-1074) = (l : Int) - 1074 := ⟨(max (e + 63 - 52) (-1074) + 1074).toNat, by omega⟩
    obtain ⟨sh, hsh⟩ : ∃ sh : Nat, max (e + 63 - 52) (-1074) - e = sh := ⟨(max (e + 63 - 52) (-1074) - e).toNat, by omega⟩
    rw [made_eq hm1 h1 ht hsh hl]
    exact i_made_fin s m e mode sh l hm hm1 h1 he1 ht hsh hl w
  · rw [made_over hm1 (by omega)]
    have HBy := Lib.hid (i_beyond s mode hm)
    have hr : Hid (mag (word s (if aim s mode = 0 then INF - 1 else INF)) = if aim s mode = 0 then INF - 1 else INF) := by
      refine mag_word ?_
      split <;> decide
    have hwl : word s (if aim s mode = 0 then INF - 1 else INF) < 18446744073709551616 := word_lt (by split <;> decide)
    generalize (if aim s mode = 0 then INF - 1 else INF) = R at *
    have h2 : 960 < e := by omega
    have h3 : (1023 : Int) < e + 63 := by omega
    go_enter Tryd.func35, Tryd.ntmps35
    go_wp2_with (first | (go_at_call 50; refine (HBy.out _).mono ?_; rintro e w' ⟨rfl, rfl⟩) | (go_at_call 36; refine (m_abs _ hwl _).mono ?_; rintro e w' ⟨rfl, rfl⟩))
    go_ret
    exact ⟨ret_float hr.out, Drw.refl w⟩
set_option maxRecDepth 100000 in
set_option maxHeartbeats 1000000 in
theorem i_make (s : Bool) (m : Nat) (e mode : Int) (hm : mode = 1 ∨ mode = 2 ∨ mode = 3) (h1 : m < 18446744073709551616) (w : World) :
    Calls Tryd.prog 12 #[.bool s, .int .u64 m, .int .i64 e, .int .i64 mode] w
      fun en wn => en = .returned (.float .f64 (word s (rnd (cD m e) (aim s mode)))) ∧ Drw w wn := by
  have HE := Drw.refl w
  rcases Nat.eq_zero_or_pos m with h0 | h0
  · subst h0
    rw [rnd_zero]
    have hu := run_neg_float (P := Tryd.prog) 0 (by decide) w
    have hm0 : mag 0 = 0 := by decide
    have ht0 : turned 0 = S := by decide
    rcases hm with rfl | rfl | rfl <;> cases s
    all_goals
      go_enter Tryd.func12, Tryd.ntmps12
      go_wp2_with (first | (go_at_call 36; refine (m_abs 0 (by decide) _).mono ?_; rintro e w' ⟨rfl, rfl⟩))
      go_ret
      exact ⟨rfl, HE⟩
  · obtain ⟨n, n1, n2, n3, n4⟩ := norm64 h0 h1
    have hb1 : (0 : Int) ≤ m := by omega
    have hb2 : (m : Int) ≤ 18446744073709551615 := by omega
    have hmz : decide ((0 : Int) < m) = true := by simp; omega
    have HB := Lib.hid (fun w => Tryd.bits_LeadingZeros64 (m : Int) w hb1 hb2)
    rw [Int.toNat_natCast, n2] at HB
    clear n2
    have hrc := rnd_clamp (m := m) (d := aim s mode) (e := e) h0 h1
    obtain ⟨ec, hec⟩ : ∃ ec : Int, max (min e 3000) (-3000) = ec := ⟨_, rfl⟩
    have c1 : -3000 ≤ ec := by omega
    have c2 : ec ≤ 3000 := by omega
    rw [hec, ← cD_shift m ec n] at hrc
    have HM := Lib.hid (fun w => i_made s (m * 2 ^ n) (ec - n) mode hm n3 n4 (by omega) (by omega) w)
    rw [hrc] at HM
    have hsh : IntKind.u64.wrap ((m : Int) * 2 ^ n) = ((m * 2 ^ n : Nat) : Int) := by
      rw [← pow_cast, ← Int.natCast_mul, IntKind.wrap_u64]; omega
    have hRl : rnd (cD m e) (aim s mode) < 18446744073709551616 := by have := @rnd_le (cD m e) (aim s mode); unfold INF at this; omega
    have hRm : mag (rnd (cD m e) (aim s mode)) = rnd (cD m e) (aim s mode) := Nat.mod_eq_of_lt (by have := @rnd_le (cD m e) (aim s mode); unfold INF at this; unfold S; omega)
    have hRt : turned (rnd (cD m e) (aim s mode)) = S + rnd (cD m e) (aim s mode) := by
      have := @rnd_le (cD m e) (aim s mode)
      unfold turned; rw [if_neg (by unfold INF at this; unfold S; omega), Nat.add_comm]
    clear hrc
    generalize rnd (cD m e) (aim s mode) = R at *
    have HAb := Lib.hid (fun w => m_abs R hRl w)
    rw [hRm] at HAb
    have HRt := Lib.hid hRt
    have HU := fun w => run_neg_float (P := Tryd.prog) R hRl w
    clear hRm hRt
    rcases hm with rfl | rfl | rfl <;> cases s
    all_goals
      go_enter Tryd.func12, Tryd.ntmps12
      go_wp2_with (first | (go_at_call 34; refine (HB.out _).mono ?_; rintro e w' ⟨rfl, hw⟩; obtain rfl := hw))
      all_goals
        go_wp2_with (first | (go_at_call 35; refine (HM.out _).mono ?_; rintro e w1 ⟨rfl, hb⟩) | (go_at_call 36; refine (HAb.out _).mono ?_; rintro e w' ⟨rfl, rfl⟩))
        go_ret
        exact ⟨ret_float (by first | rfl | exact HRt.out), hb⟩
theorem i_make_no (s : Bool) (m : Nat) (e mode : Int) (h1 : ¬ mode = 1) (h2 : ¬ mode = 2) (h3 : ¬ mode = 3) (w : World) :
    Calls Tryd.prog 12 #[.bool s, .int .u64 m, .int .i64 e, .int .i64 mode] w fun en wn => en = .returned (.float .f64 9221120237041090561) ∧ w = wn := by
  have g1 : (mode != 1) = true := by simpa using h1
  have g2 : (mode != 2) = true := by simpa using h2
  have g3 : (mode != 3) = true := by simpa using h3
  clear h1 h2 h3
  go_enter Tryd.func12, Tryd.ntmps12
  go_wp2_with (first | (go_at_call 33; refine (m_nan _).mono ?_; rintro e w' ⟨rfl, rfl⟩))
  go_ret
  exact ⟨rfl, rfl⟩
end Go.Proofs.YtbplfkbknehmbaaDoor
