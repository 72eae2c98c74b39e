/- The walks of layer 1 and of its reference: parts and units. -/
import Derived.Test.YtbplfkbknehmbaaDoorI2
import Derived.Test.YtbplfkbknehmbaaDoorTw
import Derived.LoopTactic
import Derived.Outline
namespace Go.Proofs.YtbplfkbknehmbaaDoor
open Go.RowKit Fl
attribute [local go_sem] m_bits m_of

theorem c_parts (x : Nat) (hx : x < 18446744073709551616) (w : World) :
    Calls Tryd.prog 28 #[.float .f64 x] w fun e w' => e = .returned (.tuple #[.int .u64 ((rq (mag x) : Nat) : Int), .int .i64 (((rl (mag x) : Nat) : Int) - 1074)]) ∧ w = w' := by
  obtain ⟨b1, b2⟩ := magZ x
  have hm := mag_lt64 x
  have g1 := bits_and_52 (mag x) hm
  by_cases h : mag x < B
  · have e1 : rq (mag x) = mag x := by unfold rq; rw [if_pos h]
    have e2 : rl (mag x) = 0 := by unfold rl B at *; omega
    have e3 : ((mag x : Nat) : Int) / 4503599627370496 = 0 := by unfold B at h; omega
    have e4 : mag x % 4503599627370496 = mag x := by unfold B at h; omega
    rw [e1, e2]
    rw [e4] at g1
    clear e1 e2 e4 h
    go_enter Tryd.func28, Tryd.ntmps28
    go_wp2_with (first | (go_at_call 40; refine (c_mag x hx _).mono ?_; rintro e w' ⟨rfl, rfl⟩))
    go_ret2
    exact ⟨rfl, rfl⟩
  · have e1 : rq (mag x) = mag x % 4503599627370496 + 4503599627370496 := by unfold rq; rw [if_neg h]; unfold B; omega
    have g2 : bits .or .u64 (((mag x : Nat) : Int) % 4503599627370496) 4503599627370496 = ((mag x : Nat) : Int) % 4503599627370496 + 4503599627370496 := by
      have := bits_or_52 (mag x % 4503599627370496) (by omega)
      simpa using this
    have e3 : (((mag x : Nat) : Int) / 4503599627370496 == 0) = false := by unfold B at h; simp; omega
    have e5 : ((rl (mag x) : Nat) : Int) = ((mag x : Nat) : Int) / 4503599627370496 - 1 := by unfold rl B at *; omega
    rw [e1, e5]
    clear e1 e5 h
    go_enter Tryd.func28, Tryd.ntmps28
    go_wp2_with (first | (go_at_call 40; refine (c_mag x hx _).mono ?_; rintro e w' ⟨rfl, rfl⟩))
    go_ret2
    exact ⟨ret2_ints (by omega) (by omega), rfl⟩
theorem mul2_half {o j : Nat} : o * 2 ^ (j + 1) / 2 = o * 2 ^ j := by rw [Nat.pow_succ, ← Nat.mul_assoc, Nat.mul_div_cancel _ (by decide)]
theorem mul2_even {o j : Nat} : o * 2 ^ (j + 1) % 2 = 0 := by rw [Nat.pow_succ, ← Nat.mul_assoc, Nat.mul_mod_left]
theorem rq_lt54 (r : Nat) : rq r < 9007199254740992 := rq_lt r
theorem rl_lt {r : Nat} (h : r < 9223372036854775808) : rl r ≤ 2047 := by unfold rl B; omega
theorem lt64_of_odd {o t q : Nat} (he : q = o * 2 ^ t) (ho : o % 2 = 1) (hq : q < 9007199254740992) : t < 53 := by
  rcases Nat.lt_or_ge t 53 with h | h
  · exact h
  · have := Nat.pow_le_pow_right (show 0 < 2 by decide) h
    have := Nat.mul_le_mul_right (2 ^ t) (show 1 ≤ o by omega)
    omega
theorem c_split_fin (x o t : Nat) (hx : x < 18446744073709551616) (hf : mag x < INF) (ho : o % 2 = 1) (he : rq (mag x) = o * 2 ^ t) (w : World) :
    Calls Tryd.prog 9 #[.float .f64 x] w fun e w' => e = .returned (.tuple #[.int .u64 ((o : Nat) : Int), .int .i64 (((rl (mag x) : Nat) : Int) - 1074 + t), .bool (neg x), .bool true]) ∧ w = w' := by
  have hd : decide (mag x < INF) = true := by simp [hf]
  have hq0 : (((rq (mag x) : Nat) : Int) == 0) = false := by have := pos_of_odd he ho; simp; omega
  have ht := lt64_of_odd he ho (rq_lt54 _)
  have hrl := rl_lt (mag_lt x)
  have hqb := rq_lt54 (mag x)
  clear hf
  have HE := Lib.hid he
  clear he
  have HP := Lib.hid (c_parts x hx)
  generalize rl (mag x) = L at *
  generalize rq (mag x) = q at *
  have HO := Lib.hid ho
  clear ho
  go_enter Tryd.func9, Tryd.ntmps9
  go_wp2_with (first | (go_at_call 18; refine (c_finite x hx _).mono ?_; rintro e w' ⟨rfl, rfl⟩) | (go_at_call 28; refine (HP.out _).mono ?_; rintro e w' ⟨rfl, rfl⟩))
  go_loop [6, 7] (fun m e => ∃ j M : Nat, j ≤ t ∧ M < 9007199254740992 ∧ Hid (M = o * 2 ^ j) ∧ m = .int .u64 M ∧ e = .int .i64 ((L : Int) - 1074 + ((t : Int) - j))) (fun m _ => (intOf m).toNat)
  case atStart => exact ⟨t, q, by omega, hqb, HE, rfl, by simp⟩
  case round =>
    obtain ⟨j, M, hj, hMb, HM, rfl, rfl⟩ := hrel
    cases j with
    | zero =>
      have hM : M = o := by have := HM.out; simpa using this
      have h1 : ((M : Int) % 2 == 0) = false := by have := HO.out; simp; omega
      go_wp2_with (first | (go_at_call 29; refine (c_neg x hx _).mono ?_; rintro e w' ⟨rfl, rfl⟩))
      exact bodyPost_ret (v := .tuple #[.int .u64 ((o : Nat) : Int), .int .i64 ((L : Int) - 1074 + t), .bool (neg x), .bool true]) (by simp [results, Tryd.results9, go_sem]) rfl ⟨rfl, rfl⟩
    | succ j =>
      have hM2 : M % 2 = 0 := by rw [HM.out]; exact mul2_even
      have h1 : ((M : Int) % 2 == 0) = true := by simp; omega
      have h2 : Hid (M / 2 = o * 2 ^ j) := by rw [HM.out]; exact mul2_half
      have h3 : Hid (0 < M) := by have := pos_of_odd HM.out HO.out; exact this
      clear hM2
      go_wp2
      go_round
      case rel => exact ⟨j, M / 2, by omega, by omega, h2, by simp, by simp; omega⟩
      case measure => have := h3.out; simp [intOf]; omega
theorem c_split_zero (x : Nat) (hx : x < 18446744073709551616) (hf : mag x = 0) (w : World) :
    Calls Tryd.prog 9 #[.float .f64 x] w fun e w' => e = .returned (.tuple #[.int .u64 0, .int .i64 0, .bool (neg x), .bool true]) ∧ w = w' := by
  have hd : decide (mag x < INF) = true := by simp [hf]; decide
  have hp := c_parts x hx
  rw [hf, show rq 0 = 0 by decide, show rl 0 = 0 by decide] at hp
  have HP := Lib.hid hp
  clear hp hf
  go_enter Tryd.func9, Tryd.ntmps9
  go_wp2_with (first | (go_at_call 18; refine (c_finite x hx _).mono ?_; rintro e w' ⟨rfl, rfl⟩) | (go_at_call 28; refine (HP.out _).mono ?_; rintro e w' ⟨rfl, rfl⟩) | (go_at_call 29; refine (c_neg x hx _).mono ?_; rintro e w' ⟨rfl, rfl⟩))
  exact bodyPost_ret (v := .tuple #[.int .u64 0, .int .i64 0, .bool (neg x), .bool true]) (by simp [results, Tryd.results9, go_sem]) rfl ⟨rfl, rfl⟩
theorem c_split_no (x : Nat) (hx : x < 18446744073709551616) (hf : INF ≤ mag x) (w : World) :
    Calls Tryd.prog 9 #[.float .f64 x] w fun e w' => e = .returned (.tuple #[.int .u64 0, .int .i64 0, .bool false, .bool false]) ∧ w = w' := by
  have hd : decide (mag x < INF) = false := by simp; omega
  clear hf
  go_enter Tryd.func9, Tryd.ntmps9
  go_wp2_with (first | (go_at_call 18; refine (c_finite x hx _).mono ?_; rintro e w' ⟨rfl, rfl⟩))
  exact bodyPost_ret (v := .tuple #[.int .u64 0, .int .i64 0, .bool false, .bool false]) (by simp [results, Tryd.results9, go_sem]) rfl ⟨rfl, rfl⟩

theorem i_split_no (x : Nat) (hx : x < 18446744073709551616) (hf : INF ≤ mag x) (w : World) :
    Calls Tryd.prog 8 #[.float .f64 x] w fun e w' => e = .returned (.tuple #[.int .u64 0, .int .i64 0, .bool false, .bool false]) ∧ w = w' := by
  have g : bits .and .u64 ((x : Int) / 4503599627370496) 2047 = 2047 := by
    have := bits_and_2047 (x / 4503599627370496) (by omega)
    rw [show x / 4503599627370496 % 2048 = 2047 by unfold mag INF S at hf; omega] at this
    simpa using this
  clear hf
  go_enter Tryd.func8, Tryd.ntmps8
  go_wp2
  exact bodyPost_ret (v := .tuple #[.int .u64 0, .int .i64 0, .bool false, .bool false]) (by simp [results, Tryd.results8, go_sem]) rfl ⟨rfl, rfl⟩
theorem i_split_zero (x : Nat) (hx : x < 18446744073709551616) (hf : mag x = 0) (w : World) :
    Calls Tryd.prog 8 #[.float .f64 x] w fun e w' => e = .returned (.tuple #[.int .u64 0, .int .i64 0, .bool (neg x), .bool true]) ∧ w = w' := by
  have g : bits .and .u64 ((x : Int) / 4503599627370496) 2047 = 0 := by
    have := bits_and_2047 (x / 4503599627370496) (by omega)
    rw [show x / 4503599627370496 % 2048 = 0 by unfold mag S at hf; omega] at this
    simpa using this
  have g2 : bits .and .u64 (x : Int) 4503599627370495 = 0 := by
    have := bits_and_52 x hx
    rw [show x % 4503599627370496 = 0 by unfold mag S at hf; omega] at this
    simpa using this
  have g3 := bits_and_S_ne x hx
  clear hf
  go_enter Tryd.func8, Tryd.ntmps8
  go_wp2
  exact bodyPost_ret (v := .tuple #[.int .u64 0, .int .i64 0, .bool (neg x), .bool true]) (by simp [results, Tryd.results8, go_sem]) rfl ⟨rfl, rfl⟩
theorem i_split_fin (x o t : Nat) (hx : x < 18446744073709551616) (hf : mag x < INF) (ho : o % 2 = 1) (he : rq (mag x) = o * 2 ^ t) (w : World) (hT : Tab64 w) :
    Calls Tryd.prog 8 #[.float .f64 x] w fun e w' => e = .returned (.tuple #[.int .u64 ((o : Nat) : Int), .int .i64 (((rl (mag x) : Nat) : Int) - 1074 + t), .bool (neg x), .bool true]) ∧ w = w' := by
  have g3 := bits_and_S_ne x hx
  have ht := lt64_of_odd he ho (rq_lt54 _)
  have hs : (o * 2 ^ t : Nat) / 2 ^ t = o := Nat.mul_div_cancel _ (Nat.two_pow_pos t)
  have g1 := bits_and_2047 (x / 4503599627370496) (by omega)
  have g2 : bits .and .u64 (x : Int) 4503599627370495 = (x : Int) % 4503599627370496 := by have := bits_and_52 x hx; simpa using this
  have hxm : x / 4503599627370496 % 2048 = mag x / 4503599627370496 := by unfold mag S; omega
  have hxm2 : x % 4503599627370496 = mag x % 4503599627370496 := by unfold mag S; omega
  rw [hxm] at g1
  have g1' : bits .and .u64 ((x : Int) / 4503599627370496) 2047 = ((mag x / 4503599627370496 : Nat) : Int) := by simpa using g1
  clear g1
  have hpos := pos_of_odd he ho
  have hrl := rl_lt (mag_lt x)
  have hq := rq_lt54 (mag x)
  have HT := Lib.hid (b_tz64 (rq (mag x)) o t he ho (by omega) w hT)
  clear hT
  have HS : Hid (rq (mag x) / 2 ^ t = o) := by rw [he]; exact hs
  by_cases hn : mag x < B
  · have e1 : rq (mag x) = mag x := by unfold rq; rw [if_pos hn]
    have e2 : rl (mag x) = 0 := by unfold rl B at *; omega
    have h0 : mag x / 4503599627370496 = 0 := by unfold B at hn; omega
    rw [h0] at g1'
    have hm : (x : Int) % 4503599627370496 = ((rq (mag x) : Nat) : Int) := by unfold B at hn; omega
    rw [hm] at g2
    have hz : (((rq (mag x) : Nat) : Int) == 0) = false := by simp; omega
    rw [e2]
    clear e1 e2 hm h0 hn he ho hs hxm hxm2
    generalize rq (mag x) = q at *
    go_enter Tryd.func8, Tryd.ntmps8
    go_wp2_with (go_at_call 27; refine HT.out.mono ?_; rintro e w' ⟨rfl, rfl⟩)
    exact bodyPost_ret (v := .tuple #[.int .u64 ((q : Int) / 2 ^ t), .int .i64 (-1074 + (t : Int)), .bool (neg x), .bool true]) (by simp [results, Tryd.results8, go_sem]) rfl
      ⟨ret4_ints (by have := HS.out; rw [← this]; simp) (by omega), rfl⟩
  · have hm : (x : Int) % 4503599627370496 = ((mag x % 4503599627370496 : Nat) : Int) := by omega
    rw [hm] at g2
    have g4 : bits .or .u64 ((mag x : Int) % 4503599627370496) 4503599627370496 = ((rq (mag x) : Nat) : Int) := by
      have := bits_or_52 (mag x % 4503599627370496) (by omega)
      rw [show mag x % 4503599627370496 + 4503599627370496 = rq (mag x) by unfold rq; rw [if_neg hn]; unfold B; omega] at this
      simpa using this
    have e5 : ((mag x / 4503599627370496 : Nat) : Int) = ((rl (mag x) : Nat) : Int) + 1 := by unfold rl B at *; omega
    have e6 : rl (mag x) ≤ 2045 := by unfold rl INF B at *; omega
    rw [e5] at g1'
    clear e5 hm hn he ho hs hxm hxm2
    generalize rq (mag x) = q at *
    generalize rl (mag x) = L at *
    go_enter Tryd.func8, Tryd.ntmps8
    go_wp2_with (go_at_call 27; refine HT.out.mono ?_; rintro e w' ⟨rfl, rfl⟩)
    exact bodyPost_ret (v := .tuple #[.int .u64 ((q : Int) / 2 ^ t), .int .i64 ((L : Int) + 1 - 1075 + (t : Int)), .bool (neg x), .bool true]) (by simp [results, Tryd.results8, go_sem]) rfl
      ⟨ret4_ints (by have := HS.out; rw [← this]; simp) (by omega), rfl⟩
/-- the parts: o odd, t noughts behind it. -/
def splitF (x o t : Nat) : Prop := (mag x = 0 ∧ o = 0 ∧ t = 0) ∨ (0 < mag x ∧ o % 2 = 1 ∧ rq (mag x) = o * 2 ^ t)
def unitR (x : Nat) : Nat := if 52 ≤ rl (mag x) then (rl (mag x) - 51) * B else 2 ^ rl (mag x)
theorem unit_V (x : Nat) : V (unitR x) = 2 ^ rl (mag x) := by
  have hB : B = 2 ^ 52 := by decide
  unfold unitR
  by_cases h : 52 ≤ rl (mag x)
  · rw [if_pos h]
    have e : (rl (mag x) - 51) * B = (rl (mag x) - 52) * B + B := by rw [show rl (mag x) - 51 = rl (mag x) - 52 + 1 by omega, Nat.add_mul, Nat.one_mul]
    rw [e, V_of (by omega) (.inr (Nat.le_refl _)), hB, ← Nat.pow_add]
    congr 1; omega
  · rw [if_neg h]
    exact V_lt_B (by rw [hB]; exact Nat.pow_lt_pow_right (by decide) (by omega))
theorem unit_lt (x : Nat) (h : mag x < INF) : unitR x < INF := by
  have hl : rl (mag x) ≤ 2045 := by unfold rl INF B at *; omega
  unfold unitR
  split
  · unfold B INF; omega
  · have := Nat.pow_lt_pow_right (show 1 < 2 by decide) (show rl (mag x) < 52 by omega)
    unfold INF; omega
set_option maxRecDepth 10000 in
theorem i_unit_fin (x : Nat) (hx : x < 18446744073709551616) (hf : mag x < INF) (w : World) : Calls Tryd.prog 24 #[.float .f64 x] w fun e w' => e = .returned (.float .f64 (unitR x)) ∧ w = w' := by
  have g : bits .and .u64 ((x : Int) / 4503599627370496) 2047 = ((mag x / 4503599627370496 : Nat) : Int) := by
    have := bits_and_2047 (x / 4503599627370496) (by omega)
    rw [show x / 4503599627370496 % 2048 = mag x / 4503599627370496 by unfold mag S; omega] at this
    simpa using this
  have g2 : (flt (mag x) 9218868437227405311 || feq (mag x) 9218868437227405311) = true := by
    rw [flt_eq (by simpa using mag_lt64 x) (by decide), feq_eq (by simpa using mag_lt64 x) (by decide), key_mag]
    have : nan (mag x) = false := by unfold nan; rw [mag_mag]; simp; omega
    rw [this]
    simp [show nan 9218868437227405311 = false by decide, show key 9218868437227405311 = 9218868437227405311 by decide]
    unfold INF at hf; omega
  have he : ((mag x / 4503599627370496 : Nat) : Int) ≤ 2046 := by unfold INF at hf; omega
  have hL : Hid (max ((mag x / 4503599627370496 : Nat) : Int) 1 = (rl (mag x) : Int) + 1) := by unfold Hid rl B; omega
  have hrl : rl (mag x) ≤ 2046 := by unfold rl INF B at *; omega
  have HV := Lib.hid (fun (k : Int) w (hk : k = (rl (mag x) : Int) + 1 - 1075) => m_Ldexp_exact 4607182418800017408 k (unitR x) (by decide) (by decide) (by decide) (by omega) (by omega) (unit_lt x hf) (by
    rw [show mag 4607182418800017408 = 4607182418800017408 by decide, V_one, unit_V, ← Nat.pow_add, ← Nat.pow_add]
    congr 1
    have := EM_eq
    omega) w)
  clear hf
  go_enter Tryd.func24, Tryd.ntmps24
  go_wp2_with (first | (go_at_call 36; refine (m_abs x hx _).mono ?_; rintro e w' ⟨rfl, rfl⟩))
  all_goals
    go_wp2_with (go_at_call 45; refine (HV.out _ _ (by have := hL.out; omega)).mono ?_; rintro e w' ⟨rfl, rfl⟩)
    go_ret
    exact ⟨by rw [show neg 4607182418800017408 = false by decide]; rfl, rfl⟩
theorem i_unit_no (x : Nat) (hx : x < 18446744073709551616) (hf : INF ≤ mag x) (w : World) : Calls Tryd.prog 24 #[.float .f64 x] w fun e w' => e = .returned (.float .f64 (mag x)) ∧ w = w' := by
  have n1 : flt (mag x) 9218868437227405311 = false := by
    rw [flt_eq (by simpa using mag_lt64 x) (by decide), key_mag, show nan 9218868437227405311 = false by decide, show key 9218868437227405311 = 9218868437227405311 by decide, Bool.eq_false_iff]
    unfold INF at hf; simp; omega
  have n2 : feq (mag x) 9218868437227405311 = false := by
    rw [feq_eq (by simpa using mag_lt64 x) (by decide), key_mag, show nan 9218868437227405311 = false by decide, show key 9218868437227405311 = 9218868437227405311 by decide, Bool.eq_false_iff]
    unfold INF at hf; simp; omega
  clear hf
  go_enter Tryd.func24, Tryd.ntmps24
  go_wp2_with (first | (go_at_call 36; refine (m_abs x hx _).mono ?_; rintro e w' ⟨rfl, rfl⟩))
  go_ret
  exact ⟨rfl, rfl⟩
theorem c_unit_fin (x : Nat) (hx : x < 18446744073709551616) (hf : mag x < INF) (w : World) : Calls Tryd.prog 25 #[.float .f64 x] w fun e w' => e = .returned (.float .f64 (unitR x)) ∧ w = w' := by
  have hn : nan x = false := by unfold nan; simp; omega
  have hi : decide (mag x = INF) = false := by simp; omega
  have hrl : rl (mag x) ≤ 2045 := by unfold rl INF B at *; omega
  unfold unitR
  have HP := Lib.hid (c_parts x hx)
  clear hf
  by_cases h : 52 ≤ rl (mag x)
  · rw [if_pos h]
    generalize rl (mag x) = L at *
    have h2 : -1022 ≤ (L : Int) - 1074 := by omega
    go_enter Tryd.func25, Tryd.ntmps25
    go_wp2_with (first | (go_at_call 19; refine (c_isNaN x hx _).mono ?_; rintro e w' ⟨rfl, rfl⟩) | (go_at_call 46; refine (c_isInf x hx _).mono ?_; rintro e w' ⟨rfl, rfl⟩) | (go_at_call 28; refine (HP.out _).mono ?_; rintro e w' ⟨rfl, rfl⟩) | (go_at_call 43; refine (c_of _ _).mono ?_; rintro e w' ⟨rfl, rfl⟩))
    go_ret
    exact ⟨ret_float (by unfold B; omega), rfl⟩
  · rw [if_neg h]
    generalize rl (mag x) = L at *
    have h2 : (L : Int) - 1074 < -1022 := by omega
    have h3 : L < 52 := by omega
    have h5 := pow_wrap (show L < 64 by omega)
    have h6 := pow_toNat L
    have e1 : (L : Int) - 1074 + 1074 = (L : Int) := by omega
    go_enter Tryd.func25, Tryd.ntmps25
    go_wp2_with (first | (go_at_call 19; refine (c_isNaN x hx _).mono ?_; rintro e w' ⟨rfl, rfl⟩) | (go_at_call 46; refine (c_isInf x hx _).mono ?_; rintro e w' ⟨rfl, rfl⟩) | (go_at_call 28; refine (HP.out _).mono ?_; rintro e w' ⟨rfl, rfl⟩) | (go_at_call 43; refine (c_of _ _).mono ?_; rintro e w' ⟨rfl, rfl⟩))
    go_ret
    exact ⟨rfl, rfl⟩
theorem c_unit_nan (x : Nat) (hx : x < 18446744073709551616) (hn : nan x = true) (w : World) : Calls Tryd.prog 25 #[.float .f64 x] w fun e w' => e = .returned (.float .f64 x) ∧ w = w' := by
  go_enter Tryd.func25, Tryd.ntmps25
  go_wp2_with (first | (go_at_call 19; refine (c_isNaN x hx _).mono ?_; rintro e w' ⟨rfl, rfl⟩))
  go_ret
  exact ⟨rfl, rfl⟩
theorem c_endless (s : Bool) (w : World) : Calls Tryd.prog 47 #[.bool s] w fun e w' => e = .returned (.float .f64 (word s INF)) ∧ w = w' := by
  cases s
  · go_enter Tryd.func47, Tryd.ntmps47
    go_wp2_with (first | (go_at_call 43; refine (c_of _ _).mono ?_; rintro e w' ⟨rfl, rfl⟩))
    go_ret
    exact ⟨rfl, rfl⟩
  · go_enter Tryd.func47, Tryd.ntmps47
    go_wp2_with (first | (go_at_call 43; refine (c_of _ _).mono ?_; rintro e w' ⟨rfl, rfl⟩))
    go_ret
    exact ⟨rfl, rfl⟩
theorem c_nought (s : Bool) (w : World) : Calls Tryd.prog 31 #[.bool s] w fun e w' => e = .returned (.float .f64 (word s 0)) ∧ w = w' := by
  cases s
  · go_enter Tryd.func31, Tryd.ntmps31
    go_wp2_with (first | (go_at_call 43; refine (c_of _ _).mono ?_; rintro e w' ⟨rfl, rfl⟩))
    go_ret
    exact ⟨rfl, rfl⟩
  · go_enter Tryd.func31, Tryd.ntmps31
    go_wp2_with (first | (go_at_call 43; refine (c_of _ _).mono ?_; rintro e w' ⟨rfl, rfl⟩))
    go_ret
    exact ⟨rfl, rfl⟩
theorem c_unit_inf (x : Nat) (hx : x < 18446744073709551616) (hi : mag x = INF) (w : World) : Calls Tryd.prog 25 #[.float .f64 x] w fun e w' => e = .returned (.float .f64 INF) ∧ w = w' := by
  have hn : nan x = false := by unfold nan; simp; omega
  have h2 : decide (mag x = INF) = true := by simp [hi]
  clear hi
  go_enter Tryd.func25, Tryd.ntmps25
  go_wp2_with (first | (go_at_call 19; refine (c_isNaN x hx _).mono ?_; rintro e w' ⟨rfl, rfl⟩) | (go_at_call 46; refine (c_isInf x hx _).mono ?_; rintro e w' ⟨rfl, rfl⟩) | (go_at_call 47; refine (c_endless false _).mono ?_; rintro e w' ⟨rfl, rfl⟩))
  go_ret
  exact ⟨rfl, rfl⟩
theorem c_signed (s : Bool) (r : Nat) (hr : r < S) (w : World) : Calls Tryd.prog 52 #[.bool s, .float .f64 r] w fun e w' => e = .returned (.float .f64 (word s r)) ∧ w = w' := by
  have h64 : r < 18446744073709551616 := by unfold S at hr; omega
  cases s
  · go_enter Tryd.func52, Tryd.ntmps52
    go_wp2
    go_ret
    exact ⟨rfl, rfl⟩
  · have ht : turned r = S + r := by unfold turned; rw [if_neg (by omega), Nat.add_comm]
    go_enter Tryd.func52, Tryd.ntmps52
    go_wp2_with (first | (go_at_call 44; refine (c_turned r h64 _).mono ?_; rintro e w' ⟨rfl, rfl⟩))
    go_ret
    exact ⟨by simp [word], rfl⟩
theorem c_not (w : World) : Calls Tryd.prog 37 #[] w fun e w' => e = .returned (.float .f64 9221120237041090560) ∧ w = w' := by
  go_enter Tryd.func37, Tryd.ntmps37
  go_wp2_with (first | (go_at_call 43; refine (c_of _ _).mono ?_; rintro e w' ⟨rfl, rfl⟩))
  go_ret
  exact ⟨rfl, rfl⟩
end Go.Proofs.YtbplfkbknehmbaaDoor
