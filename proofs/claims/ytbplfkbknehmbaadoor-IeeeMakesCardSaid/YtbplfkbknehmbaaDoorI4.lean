/- The walk of ieee.made: a word of 64 bits times a power of two, rounded. -/
import Derived.Test.YtbplfkbknehmbaaDoorI3
import Derived.Test.YtbplfkbknehmbaaDoorWo
import Derived.Deep.DeepCutAuto
import Derived.Deep.CutBlock
import Derived.Deep.Cut
import Derived.Deep.QuietTactic
import Derived.BigQuiet
namespace Fl
open Go
def lostOf (rem u : Nat) : Int := if rem = 0 then 0 else if 2 * rem < u then 1 else if 2 * rem = u then 2 else 3
theorem bits_low (m sh : Nat) (h : m < 18446744073709551616) (hs : sh < 64) : bits .and .u64 (m : Int) ((2 : Int) ^ sh - 1) = ((m % 2 ^ sh : Nat) : Int) := by
  have h1 : 2 ^ sh < 2 ^ 64 := Nat.pow_lt_pow_right (by decide) hs
  have h2 := Nat.two_pow_pos sh
  have := u64_and_nat m (2 ^ sh - 1) h (by omega)
  rw [Nat.and_two_pow_sub_one_eq_mod] at this
  rw [show (2 : Int) ^ sh - 1 = ((2 ^ sh - 1 : Nat) : Int) by rw [← Fl.pow_cast]; omega]
  exact this
theorem lost_zero {m sh : Nat} (h : ((m : Int) % 2 ^ sh == 0) = true) : lostOf (m % 2 ^ sh) (2 ^ sh) = 0 := by
  rw [← Fl.pow_cast] at h
  generalize 2 ^ sh = u at *
  simp at h
  unfold lostOf; rw [if_pos (by omega)]
theorem lost_two {m sh : Nat} (hs : 1 ≤ sh) (h0 : ((m : Int) % 2 ^ sh == 0) = false) (h : ((m : Int) % 2 ^ sh == 2 ^ (sh - 1)) = true) : lostOf (m % 2 ^ sh) (2 ^ sh) = 2 := by
  have e : 2 ^ sh = 2 * 2 ^ (sh - 1) := by rw [show sh = sh - 1 + 1 by omega, Nat.pow_succ, Nat.mul_comm, show sh - 1 + 1 - 1 = sh - 1 by omega]
  simp only [← Fl.pow_cast] at *
  generalize 2 ^ sh = v at *
  generalize 2 ^ (sh - 1) = u at *
  simp at h h0
  unfold lostOf; rw [if_neg (by omega), if_neg (by omega), if_pos (by omega)]
theorem lost_three {m sh : Nat} (hs : 1 ≤ sh) (_h0 : ((m : Int) % 2 ^ sh == 0) = false) (h : (2 : Int) ^ (sh - 1) < (m : Int) % 2 ^ sh) : lostOf (m % 2 ^ sh) (2 ^ sh) = 3 := by
  have e : 2 ^ sh = 2 * 2 ^ (sh - 1) := by rw [show sh = sh - 1 + 1 by omega, Nat.pow_succ, Nat.mul_comm, show sh - 1 + 1 - 1 = sh - 1 by omega]
  simp only [← Fl.pow_cast] at *
  generalize 2 ^ sh = v at *
  generalize 2 ^ (sh - 1) = u at *
  unfold lostOf; rw [if_neg (by omega), if_neg (by omega), if_neg (by omega)]
theorem lost_one {m sh : Nat} (hs : 1 ≤ sh) (h0 : ((m : Int) % 2 ^ sh == 0) = false) (h1 : ((m : Int) % 2 ^ sh == 2 ^ (sh - 1)) = false) (h : (m : Int) % 2 ^ sh ≤ (2 : Int) ^ (sh - 1)) : lostOf (m % 2 ^ sh) (2 ^ sh) = 1 := by
  have e : 2 ^ sh = 2 * 2 ^ (sh - 1) := by rw [show sh = sh - 1 + 1 by omega, Nat.pow_succ, Nat.mul_comm, show sh - 1 + 1 - 1 = sh - 1 by omega]
  simp only [← Fl.pow_cast] at *
  generalize 2 ^ sh = v at *
  generalize 2 ^ (sh - 1) = u at *
  simp at h0 h1
  unfold lostOf; rw [if_neg (by omega), if_pos (by omega)]
theorem low_bounds {sh : Nat} (hs : sh < 64) : 0 ≤ (2 : Int) ^ sh - 1 ∧ (2 : Int) ^ sh - 1 ≤ 9223372036854775807 := by
  have h1 : 2 ^ sh ≤ 2 ^ 63 := Nat.pow_le_pow_right (by decide) (by omega)
  have h2 := Nat.two_pow_pos sh
  rw [← Fl.pow_cast]
  generalize 2 ^ sh = u at *
  omega
theorem lost_far {m sh : Nat} (hm : 0 < m) (h : m < 18446744073709551616) (hs : 64 < sh) : m / 2 ^ sh = 0 ∧ lostOf (m % 2 ^ sh) (2 ^ sh) = 1 := by
  have h1 : 2 ^ 65 ≤ 2 ^ sh := Nat.pow_le_pow_right (by decide) hs
  generalize 2 ^ sh = u at *
  rw [Nat.div_eq_of_lt (by omega), Nat.mod_eq_of_lt (by omega)]
  unfold lostOf; rw [if_neg (by omega), if_pos (by omega)]
  exact ⟨rfl, rfl⟩
theorem lost_64 {m : Nat} (hm : 9223372036854775808 ≤ m) (h : m < 18446744073709551616) : m / 2 ^ 64 = 0 ∧ lostOf (m % 2 ^ 64) (2 ^ 64) = if 9223372036854775808 < m then 3 else 2 := by
  rw [Nat.div_eq_of_lt (by omega), Nat.mod_eq_of_lt (by omega)]
  unfold lostOf; rw [if_neg (by omega), if_neg (by omega)]
  refine ⟨rfl, ?_⟩
  by_cases e : 9223372036854775808 < m
  · rw [if_neg (by omega), if_pos e]
  · rw [if_pos (by omega), if_neg e]
/-- a word of at most 2^53 as a float. -/
theorem nearest_nat {Q : Nat} (h : Q ≤ 9007199254740992) : FloatKind.f64.nearest (Q : Int) < INF ∧ V (FloatKind.f64.nearest (Q : Int)) = Q * 2 ^ EM ∧ (0 < Q → 0 < FloatKind.f64.nearest (Q : Int)) ∧ (Q = 0 → FloatKind.f64.nearest (Q : Int) = 0) := by
  have e : FloatKind.f64.nearest (Q : Int) = word false (rnd (cD Q 0) 1) := by
    unfold FloatKind.nearest FloatKind.encode
    rw [show FloatKind.f64.format = Ieee.double from rfl]
    simp only [Ieee.Format.write]
    rw [nearest_eq]
    have : decide ((Q : Int) < 0) = false := by simp
    rw [this, Int.natAbs_natCast]
  rw [e]
  simp only [word, Bool.false_eq_true, if_false]
  have hB : B = 2 ^ 52 := by decide
  have hE := EM_eq
  rcases Nat.eq_zero_or_pos Q with h0 | h0
  · subst h0
    rw [rnd_zero]
    exact ⟨by decide, by rw [V_zero]; simp, by omega, by simp⟩
  by_cases hQ : Q = 9007199254740992
  · -- 2^53
    have hs := cD_shift B 1 1
    have hQB : B * 2 ^ 1 = Q := by unfold B; omega
    rw [show (1 : Int) - (1 : Nat) = 0 from rfl, hQB] at hs
    rw [hs, rnd_exact (l := EM + 1) (q := B) (by omega) (by unfold B; omega) (.inr (Nat.le_refl _)) (by unfold B INF; omega)]
    refine ⟨by unfold B INF; omega, ?_, fun _ => by unfold B; omega, fun h => by omega⟩
    rw [V_of (by unfold B; omega) (.inr (Nat.le_refl _)), Nat.pow_succ, ← hQB]
    rw [Nat.pow_one, Nat.mul_assoc, Nat.mul_comm 2]
  · have h1 := Nat.log2_self_le (by omega : Q ≠ 0)
    have h2 := @Nat.lt_log2_self Q
    generalize Q.log2 = K at *
    have hK : K ≤ 52 := by
      rcases Nat.lt_or_ge 52 K with h | h
      · have := Nat.pow_le_pow_right (show 0 < 2 by decide) h
        omega
      · exact h
    have q1 : B ≤ Q * 2 ^ (52 - K) := by
      have := Nat.mul_le_mul_right (2 ^ (52 - K)) h1
      rw [← Nat.pow_add, show K + (52 - K) = 52 by omega] at this
      omega
    have q2 : Q * 2 ^ (52 - K) < 2 * B := by
      have := Nat.mul_lt_mul_of_pos_right h2 (Nat.two_pow_pos (52 - K))
      rw [← Nat.pow_add, show K + 1 + (52 - K) = 52 + 1 by omega, Nat.pow_succ] at this
      omega
    have hs := cD_shift Q 0 (52 - K)
    rw [← hs, rnd_exact (l := EM - (52 - K)) (by omega) q2 (.inr q1) (by unfold B INF at *; omega)]
    refine ⟨by unfold B INF at *; omega, ?_, fun _ => by unfold B at *; omega, fun h => by omega⟩
    rw [V_of (by omega) (.inr q1), Nat.mul_assoc, ← Nat.pow_add, show 52 - K + (EM - (52 - K)) = EM by omega]
/-- a rung, but no more than infinity's. -/
def capR (l Q : Nat) : Nat := if l * B + Q < INF then l * B + Q else INF
/-- what is kept, told by what is lost. -/
theorem away_lost (d q rem u : Nat) (hu : 0 < u) : away d q rem u = if d = 0 then q else if d = 2 then (if lostOf rem u = 0 then q else q + 1) else if lostOf rem u = 3 then q + 1 else if lostOf rem u = 2 then q + q % 2 else q := by
  unfold away lostOf
  by_cases h0 : d = 0
  · rw [if_pos h0, if_pos h0]
  · rw [if_neg h0, if_neg h0]
    by_cases h2 : d = 2
    · rw [if_pos h2, if_pos h2]
      by_cases r : rem = 0
      · rw [if_pos r, if_pos r]; rfl
      · rw [if_neg r, if_neg r]
        by_cases c1 : 2 * rem < u
        · rw [if_pos c1]; rfl
        · rw [if_neg c1]
          by_cases c2 : 2 * rem = u
          · rw [if_pos c2]; rfl
          · rw [if_neg c2]; rfl
    · rw [if_neg h2, if_neg h2]
      by_cases r : rem = 0
      · rw [if_pos r]
        rw [if_pos (by omega)]; simp
      · rw [if_neg r]
        by_cases c1 : 2 * rem < u
        · rw [if_pos c1, if_pos c1]; simp
        · rw [if_neg c1, if_neg c1]
          by_cases c2 : 2 * rem = u
          · rw [if_pos c2, if_neg (by omega)]; simp
          · rw [if_neg c2, if_pos (by omega)]; simp
end Fl
namespace Go.Proofs.YtbplfkbknehmbaaDoor
open Go.RowKit Fl
attribute [local go_sem] m_bits m_of

theorem i_beyond (s : Bool) (mode : Int) (hm : mode = 1 ∨ mode = 2 ∨ mode = 3) (w : World) :
    Calls Tryd.prog 50 #[.bool s, .int .i64 mode] w fun en wn => en = .returned (.float .f64 (word s (if aim s mode = 0 then INF - 1 else INF))) ∧ w = wn := by
  rcases hm with rfl | rfl | rfl <;> cases s
  all_goals
    go_enter Tryd.func50, Tryd.ntmps50
    go_wp2_with (first | (go_at_call 56; refine (m_inf _ _).mono ?_; rintro e w' ⟨rfl, rfl⟩))
    go_ret
    exact ⟨rfl, rfl⟩
theorem m_Ldexp_of (Q l : Nat) (k : Int) (h : Q ≤ 9007199254740992) (hk : k = (l : Int) - 1074) (hl : l ≤ 2045) (hn : l = 0 ∨ B ≤ Q) (w : World) :
    Calls Tryd.prog 45 #[.float .f64 (FloatKind.f64.nearest (Q : Int)), .int .i64 k] w fun en wn => en = .returned (.float .f64 (capR l Q)) ∧ w = wn := by
  unfold capR
  obtain ⟨f1, f2, f3, f4⟩ := nearest_nat h
  have hE := EM_eq
  rcases Nat.eq_zero_or_pos Q with h0 | h0
  · have hl0 : l = 0 := by
      rcases hn with hn | hn
      · exact hn
      · unfold B at hn; omega
    subst h0 hl0
    rw [f4 rfl]
    simpa [show (0 : Nat) < INF by decide] using m_Ldexp_zero 0 (by decide) (by decide) k w
  · generalize FloatKind.f64.nearest (Q : Int) = f at *
    have hfS : f < S := by unfold INF S at *; omega
    have hf64 : f < 18446744073709551616 := by unfold S at *; omega
    have hfm : mag f = f := Nat.mod_eq_of_lt hfS
    have hfn : neg f = false := neg_false (by omega)
    by_cases hr : l * B + Q < INF
    · rw [if_pos hr]
      have := m_Ldexp_exact f k (l * B + Q) hf64 (by rw [hfm]; exact f3 h0) (by rw [hfm]; exact f1) (by omega) (by omega) hr (by
        rw [hfm, f2, V_of (by unfold B; omega) hn, Nat.mul_assoc, Nat.mul_assoc, ← Nat.pow_add, ← Nat.pow_add]
        congr 2; omega) w
      rw [hfn] at this
      exact this
    · rw [if_neg hr]
      have hB : B = 2 ^ 52 := by decide
      have := m_Ldexp_inf f k hf64 (by rw [hfm]; exact f3 h0) (by rw [hfm]; exact f1) (by omega) (by omega) (by
        rw [hfm, f2, V_INF]
        have hEB := EB_eq
        have hl5 : l = 2045 := by unfold B INF at *; omega
        have hQ : Q = 2 * B := by unfold B INF at *; omega
        rw [hQ, Nat.mul_comm 2 B, Nat.mul_assoc, Nat.mul_assoc, Nat.mul_assoc]
        refine Nat.mul_le_mul_left _ ?_
        rw [← Nat.pow_add, ← Nat.pow_add, ← Nat.pow_succ']
        exact Nat.pow_le_pow_right (by decide) (by omega)) w
      rw [hfn] at this
      exact this
set_option maxRecDepth 100000 in
set_option maxHeartbeats 2000000 in
theorem i_made_fin (s : Bool) (m : Nat) (e mode : Int) (sh l : Nat) (hm : mode = 1 ∨ mode = 2 ∨ mode = 3) (hm1 : 9223372036854775808 ≤ m) (h1 : m < 18446744073709551616) (he1 : -4000 ≤ e) (he2 : e ≤ 960)
   (hsh : Hid (max (e + 63 - 52) (-1074) - e = sh)) (hl : Hid (max (e + 63 - 52) (-1074) = (l : Int) - 1074)) (w : World) :
    Calls Tryd.prog 35 #[.bool s, .int .u64 m, .int .i64 e, .int .i64 mode] w
      fun en wn => en = .returned (.float .f64 (capR l (away (aim s mode) (m / 2 ^ sh) (m % 2 ^ sh) (2 ^ sh)))) ∧ Drw w wn := by
  have hl2 := hl.out
  have hps : (l : Int) - 1074 - e = (sh : Int) := by have := hsh.out; omega
  have hmx : (if e + 63 - 52 < -1074 then -1074 else e + 63 - 52) = (l : Int) - 1074 := by omega
  have hs11 : 11 ≤ sh := by omega
  have hs2 : sh ≤ 3000 := by omega
  have hl3 : l ≤ 2045 := by omega
  clear hl2
  have hlo := bits_low m sh h1
  have hsz := @pow_wrap sh
  have hsz1 := @pow_wrap (sh - 1)
  have hq53 : m / 2 ^ sh < 9007199254740992 := by
    rw [Nat.div_lt_iff_lt_mul (Nat.two_pow_pos _)]
    have : 2 ^ 11 ≤ 2 ^ sh := Nat.pow_le_pow_right (by decide) hs11
    omega
  have haw := away_lost (aim s mode) (m / 2 ^ sh) (m % 2 ^ sh) (2 ^ sh) (Nat.two_pow_pos _)
  have HA := Lib.hid haw
  have HQB := Lib.hid hq53
  clear haw hq53
  obtain ⟨R, hR⟩ : ∃ R, away (aim s mode) (m / 2 ^ sh) (m % 2 ^ sh) (2 ^ sh) = R := ⟨_, rfl⟩
  rw [hR] at HA
  rw [hR]
  clear hR
  have HLQ : Hid (l = 0 ∨ B ≤ m / 2 ^ sh) := by
    by_cases hl0 : l = 0
    · exact .inl hl0
    · right
      rw [Nat.le_div_iff_mul_le (Nat.two_pow_pos _)]
      have : sh = 11 := by omega
      rw [this]; unfold B; omega
  go_enter Tryd.func35, Tryd.ntmps35
  go_upto_block 0 with (fail)
  go_cut [11, 12, 13] (fun q lost half wc => ∃ (Q : Nat) (L : Int) (H : Int), q = .int .u64 Q ∧ lost = .int .i64 L ∧ half = .int .u64 H ∧ Drw w wc ∧ Hid (Q = m / 2 ^ sh ∧ L = lostOf (m % 2 ^ sh) (2 ^ sh)))
  case first =>
    by_cases g64 : 64 < sh
    · have t1 : decide ((64 : Int) < (sh : Int)) = true := by simp; omega
      clear hlo hsz hsz1
      go_wp2
      go_meet
      case rel =>
        have h := lost_far (show 0 < m by omega) h1 g64
        exact ⟨0, 1, 0, rfl, rfl, rfl, Drw.refl w, ⟨h.1.symm, h.2.symm⟩⟩
    by_cases g65 : sh = 64
    · subst g65
      clear hlo hsz hsz1
      have HL := Lib.hid (lost_64 hm1 h1)
      by_cases hg : (9223372036854775808 : Int) < m
      · go_wp2
        go_meet
        case rel =>
          have h := HL.out
          rw [if_pos (by omega)] at h
          exact ⟨0, 3, 0, rfl, rfl, rfl, Drw.refl w, ⟨h.1.symm, h.2.symm⟩⟩
      · have hg2 : (m : Int) ≤ 9223372036854775808 := by omega
        clear hg
        go_wp2
        go_meet
        case rel =>
          have h := HL.out
          rw [if_neg (by omega)] at h
          exact ⟨0, 2, 0, rfl, rfl, rfl, Drw.refl w, ⟨h.1.symm, h.2.symm⟩⟩
    · have t1 : decide ((64 : Int) < (sh : Int)) = false := by simp; omega
      have t2 : ((sh : Int) == 64) = false := by simp; omega
      have hlo := hlo (by omega)
      have hsz := hsz (by omega)
      have hsz1 := hsz1 (by omega)
      have hsp : 0 ≤ (sh : Int) - 1 := by omega
      have hst : ((sh : Int) - 1).toNat = sh - 1 := by omega
      obtain ⟨b1, b2⟩ := low_bounds (show sh < 64 by omega)
      have hsr : Hid (1 ≤ sh) := by exact Nat.le_trans (by decide) hs11
      go_wp2
      go_quiet (fail)
      go_wp2
      all_goals go_meet
      all_goals
        first
        | exact ⟨m / 2 ^ sh, 0, _, by simp, rfl, rfl, (Drw.refl w).drewN _, ⟨rfl, (lost_zero (by assumption)).symm⟩⟩
        | exact ⟨m / 2 ^ sh, 2, _, by simp, rfl, rfl, (Drw.refl w).drewN _, ⟨rfl, (lost_two hsr.out (by assumption) (by assumption)).symm⟩⟩
        | exact ⟨m / 2 ^ sh, 3, _, by simp, rfl, rfl, (Drw.refl w).drewN _, ⟨rfl, (lost_three hsr.out (by assumption) (by assumption)).symm⟩⟩
        | exact ⟨m / 2 ^ sh, 1, _, by simp, rfl, rfl, (Drw.refl w).drewN _, ⟨rfl, (lost_one hsr.out (by assumption) (by assumption) (by assumption)).symm⟩⟩
  case rest =>
    clear hlo hsz hsz1
    obtain ⟨Q, L, H, rfl, rfl, rfl, HE, HQ⟩ := hcut
    obtain ⟨hQ, hL⟩ := HQ
    have hQB : (Q : Int) < 9007199254740992 := by have := HQB.out; omega
    have hR : Hid (R = if aim s mode = 0 then Q else if aim s mode = 2 then (if L = 0 then Q else Q + 1) else if L = 3 then Q + 1 else if L = 2 then Q + Q % 2 else Q) := by rw [hQ, hL]; exact HA.out
    have hLc : L = 0 ∨ L = 1 ∨ L = 2 ∨ L = 3 := by
      rw [hL]; unfold lostOf
      split
      · exact .inl rfl
      · split
        · exact .inr (.inl rfl)
        · split
          · exact .inr (.inr (.inl rfl))
          · exact .inr (.inr (.inr rfl))
    have hLQ : Hid (l = 0 ∨ B ≤ Q) := by rw [hQ]; exact HLQ.out
    have HA1 := Lib.hid (fun w => m_Ldexp_of Q l _ (by omega) rfl hl3 hLQ.out w)
    have HA2 := Lib.hid (fun w => m_Ldexp_of (Q + 1) l _ (by omega) rfl hl3 (hLQ.out.imp id (fun h => Nat.le_succ_of_le h)) w)
    rw [show ((Q + 1 : Nat) : Int) = (Q : Int) + 1 from rfl] at HA2
    have hfo : ∀ z, floatOfInt .f64 z = FloatKind.f64.nearest z := fun _ => rfl
    clear HA HQB HLQ hQ hL
    rcases Nat.mod_two_eq_zero_or_one Q with hp | hp
    all_goals
      have hpar : bits .and .u64 (Q : Int) 1 = ((Q % 2 : Nat) : Int) := by
        have := u64_and_nat Q 1 (by omega) (by decide)
        rw [nat_mask1] at this
        exact this
      rw [hp] at hpar
      have HP := Lib.hid hp
      clear hp
      rcases hLc with rfl | rfl | rfl | rfl <;> rcases hm with rfl | rfl | rfl <;> cases s
    all_goals
      go_wp2_with (go_at_call 45; (first | (with_reducible refine (HA1.out _).mono ?_) | (with_reducible refine (HA2.out _).mono ?_)); rintro e w' ⟨rfl, rfl⟩)
      go_ret
      exact ⟨by have h1 := hR.out; have h2 := HP.out; simp [aim] at h1; first | (simp [h1]; done) | simp [h1, h2], HE⟩
end Go.Proofs.YtbplfkbknehmbaaDoor
