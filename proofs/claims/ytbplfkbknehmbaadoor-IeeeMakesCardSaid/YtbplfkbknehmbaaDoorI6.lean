/- The walk of the reference's Pack and Make. -/
import Derived.Test.YtbplfkbknehmbaaDoorI5
namespace Fl
open Go
def PackMid (M sh : Nat) (rest : Bool) (Lo Ha : Int) : Prop :=
  (sh < 64 ∧ rest = false ∧ Lo = ((M % 2 ^ sh : Nat) : Int) ∧ Ha = ((2 ^ (sh - 1) : Nat) : Int)) ∨ (sh = 64 ∧ rest = false ∧ Lo = M ∧ Ha = 9223372036854775808) ∨ (64 < sh ∧ rest = true ∧ Lo = 0 ∧ Ha = 0)
/-- what is lost, by the tests. -/
theorem packMid_lost {M sh : Nat} {rest : Bool} {Lo Ha : Int} (h1 : 9223372036854775808 ≤ M) (h2 : M < 18446744073709551616) (hs : 11 ≤ sh) (h : PackMid M sh rest Lo Ha) :
    (lostOf (M % 2 ^ sh) (2 ^ sh) = 0 ∧ sh < 64 ∧ rest = false ∧ Lo = 0 ∧ Lo < Ha) ∨
    (lostOf (M % 2 ^ sh) (2 ^ sh) = 1 ∧ ((sh < 64 ∧ rest = false ∧ 0 < Lo ∧ Lo < Ha) ∨ (64 < sh ∧ rest = true ∧ Lo = 0 ∧ Ha = 0))) ∨
    (lostOf (M % 2 ^ sh) (2 ^ sh) = 2 ∧ sh ≤ 64 ∧ rest = false ∧ 0 < Lo ∧ Lo = Ha) ∨
    (lostOf (M % 2 ^ sh) (2 ^ sh) = 3 ∧ sh ≤ 64 ∧ rest = false ∧ 0 < Lo ∧ Ha < Lo) := by
  rcases h with ⟨a, b, c, d⟩ | ⟨a, b, c, d⟩ | ⟨a, b, c, d⟩
  · have e : 2 ^ sh = 2 * 2 ^ (sh - 1) := by rw [show sh = sh - 1 + 1 by omega, Nat.pow_succ, Nat.mul_comm, show sh - 1 + 1 - 1 = sh - 1 by omega]
    have hp := Nat.two_pow_pos (sh - 1)
    generalize 2 ^ (sh - 1) = u at *
    generalize 2 ^ sh = v at *
    generalize M % v = r at *
    unfold lostOf
    by_cases c0 : r = 0
    · left; rw [if_pos c0]; exact ⟨rfl, a, b, by omega, by omega⟩
    · rw [if_neg c0]
      by_cases c1 : 2 * r < v
      · right; left; rw [if_pos c1]; exact ⟨rfl, .inl ⟨a, b, by omega, by omega⟩⟩
      · rw [if_neg c1]
        by_cases c2 : 2 * r = v
        · right; right; left; rw [if_pos c2]; exact ⟨rfl, by omega, b, by omega, by omega⟩
        · right; right; right; rw [if_neg c2]; exact ⟨rfl, by omega, b, by omega, by omega⟩
  · subst a
    have := (lost_64 h1 h2).2
    rw [this]
    by_cases c2 : 9223372036854775808 < M
    · right; right; right; rw [if_pos c2]; exact ⟨rfl, by omega, b, by omega, by omega⟩
    · right; right; left; rw [if_neg c2]; exact ⟨rfl, by omega, b, by omega, by omega⟩
  · have := (lost_far (by omega) h2 a).2
    rw [this]
    right; left; exact ⟨rfl, .inr ⟨a, b, c, d⟩⟩
theorem or_field2 (c F : Nat) (hF : F < B) (hc : c < 2048) : bits .or .u64 ((c : Int) * 4503599627370496) (F : Int) = ((c * B + F : Nat) : Int) := by
  have h := u64_or_nat (c * 4503599627370496) F (by omega) (by unfold B at hF; omega)
  rw [nat_join 52 (c * 4503599627370496) F (by omega) (by unfold B at hF; omega), show ((c * 4503599627370496 : Nat) : Int) = (c : Int) * 4503599627370496 by omega] at h
  exact h
end Fl
namespace Go.Proofs.YtbplfkbknehmbaaDoor
open Go.RowKit Fl
attribute [local go_sem] m_bits m_of

theorem c_mode (s : Bool) (mode : Int) (hm : mode = 1 ∨ mode = 2 ∨ mode = 3) (w : World) :
    Calls Tryd.prog 51 #[.bool s, .int .i64 mode] w fun en wn => en = .returned (.int .i64 ((aim s mode : Int) + 1)) ∧ w = wn := by
  rcases hm with rfl | rfl | rfl <;> cases s
  all_goals
    go_enter Tryd.func51, Tryd.ntmps51
    go_wp2
    go_ret
    exact ⟨rfl, rfl⟩
theorem c_over (s : Bool) (d : Nat) (hd : d ≤ 2) (w : World) :
    Calls Tryd.prog 53 #[.bool s, .int .i64 ((d : Int) + 1)] w fun en wn => en = .returned (.float .f64 (word s (if d = 0 then INF - 1 else INF))) ∧ w = wn := by
  have hS := c_signed s (INF - 1) (by decide) w
  rw [show INF - 1 = 9218868437227405311 by decide] at hS
  have HS := Lib.hid hS
  clear hS
  match d, hd with
  | 0, _ =>
    go_enter Tryd.func53, Tryd.ntmps53
    go_wp2_with (first | (go_at_call 43; refine (c_of _ _).mono ?_; rintro e w' ⟨rfl, rfl⟩) | (go_at_call 52; refine HS.out.mono ?_; rintro e w' ⟨rfl, rfl⟩))
    go_ret
    exact ⟨rfl, rfl⟩
  | 1, _ =>
    go_enter Tryd.func53, Tryd.ntmps53
    go_wp2_with (first | (go_at_call 47; refine (c_endless _ _).mono ?_; rintro e w' ⟨rfl, rfl⟩))
    go_ret
    exact ⟨rfl, rfl⟩
  | 2, _ =>
    go_enter Tryd.func53, Tryd.ntmps53
    go_wp2_with (first | (go_at_call 47; refine (c_endless _ _).mono ?_; rintro e w' ⟨rfl, rfl⟩))
    go_ret
    exact ⟨rfl, rfl⟩
theorem aim_le (s : Bool) (mode : Int) : aim s mode ≤ 2 := by
  unfold aim
  by_cases h : mode = 2
  · rw [if_pos h]; omega
  · rw [if_neg h]
    cases s
    · simp; split <;> omega
    · simp; split <;> omega
theorem c_pack_zero (s : Bool) (e mode : Int) (hm : mode = 1 ∨ mode = 2 ∨ mode = 3) (w : World) :
    Calls Tryd.prog 38 #[.bool s, .int .u64 0, .int .i64 e, .bool false, .int .i64 mode] w fun en wn => en = .returned (.float .f64 (word s 0)) ∧ w = wn := by
  have HM := Lib.hid (c_mode s mode hm)
  clear hm
  go_enter Tryd.func38, Tryd.ntmps38
  go_wp2_with (first | (go_at_call 51; refine (HM.out _).mono ?_; rintro e w' ⟨rfl, rfl⟩) | (go_at_call 31; refine (c_nought _ _).mono ?_; rintro e w' ⟨rfl, rfl⟩))
  go_ret
  exact ⟨rfl, rfl⟩
set_option maxRecDepth 100000 in
theorem c_pack_far (s : Bool) (m : Nat) (e mode : Int) (hm : mode = 1 ∨ mode = 2 ∨ mode = 3) (h0 : 0 < m) (h1 : m < 18446744073709551616) (he : e < -20000 ∨ 20000 < e) (w : World) :
    Calls Tryd.prog 38 #[.bool s, .int .u64 m, .int .i64 e, .bool false, .int .i64 mode] w fun en wn => en = .returned (.float .f64 (word s (rnd (cD m e) (aim s mode)))) ∧ w = wn := by
  have HM := Lib.hid (c_mode s mode hm)
  have hd := aim_le s mode
  have hmz : ((m : Int) == 0) = false := by simp; omega
  rcases he with he | he
  · rw [rnd_tiny h0 h1 (by omega)]
    have hd3 : aim s mode = 0 ∨ aim s mode = 1 ∨ aim s mode = 2 := by omega
    clear hm hd
    generalize aim s mode = d at *
    have HS0 := Lib.hid (c_signed s 0 (by decide))
    have HS1 := Lib.hid (c_signed s 1 (by decide))
    have hep : ¬ (0 < e) := by omega
    have he2 : e ≤ 20000 := by omega
    rcases hd3 with rfl | rfl | rfl
    · go_enter Tryd.func38, Tryd.ntmps38
      go_wp2_with (first | (go_at_call 51; refine (HM.out _).mono ?_; rintro e w' ⟨rfl, rfl⟩) | (go_at_call 43; refine (c_of _ _).mono ?_; rintro e w' ⟨rfl, rfl⟩) | (go_at_call 52; refine (HS0.out _).mono ?_; rintro e w' ⟨rfl, rfl⟩))
      go_ret
      exact ⟨rfl, rfl⟩
    · go_enter Tryd.func38, Tryd.ntmps38
      go_wp2_with (first | (go_at_call 51; refine (HM.out _).mono ?_; rintro e w' ⟨rfl, rfl⟩) | (go_at_call 43; refine (c_of _ _).mono ?_; rintro e w' ⟨rfl, rfl⟩) | (go_at_call 52; refine (HS0.out _).mono ?_; rintro e w' ⟨rfl, rfl⟩))
      go_ret
      exact ⟨rfl, rfl⟩
    · go_enter Tryd.func38, Tryd.ntmps38
      go_wp2_with (first | (go_at_call 51; refine (HM.out _).mono ?_; rintro e w' ⟨rfl, rfl⟩) | (go_at_call 43; refine (c_of _ _).mono ?_; rintro e w' ⟨rfl, rfl⟩) | (go_at_call 52; refine (HS1.out _).mono ?_; rintro e w' ⟨rfl, rfl⟩))
      go_ret
      exact ⟨rfl, rfl⟩
  · rw [rnd_huge h0 (by omega)]
    have HO := Lib.hid (c_over s _ hd)
    generalize (if aim s mode = 0 then INF - 1 else INF) = R at *
    clear hm hd
    generalize aim s mode = d at *
    have he0 : (0 : Int) < e := by omega
    have he2 : -20000 ≤ e := by omega
    go_enter Tryd.func38, Tryd.ntmps38
    go_wp2_with (first | (go_at_call 51; refine (HM.out _).mono ?_; rintro e w' ⟨rfl, rfl⟩) | (go_at_call 53; refine (HO.out _).mono ?_; rintro e w' ⟨rfl, rfl⟩))
    go_ret
    exact ⟨rfl, rfl⟩
set_option maxRecDepth 100000 in
set_option maxHeartbeats 2000000 in
theorem c_pack_fin (s : Bool) (m : Nat) (e mode : Int) (n sh l : Nat) (hm : mode = 1 ∨ mode = 2 ∨ mode = 3) (h0 : 0 < m) (h1 : m < 18446744073709551616) (he1 : -20000 ≤ e) (he2 : e ≤ 20000)
   (hn63 : n ≤ 63) (hm1 : 9223372036854775808 ≤ m * 2 ^ n) (hm2 : m * 2 ^ n < 18446744073709551616)
   (hsh : Hid (max (e - n + 63 - 52) (-1074) - (e - n) = sh)) (hl : Hid (max (e - n + 63 - 52) (-1074) = (l : Int) - 1074)) (w : World) :
    Calls Tryd.prog 38 #[.bool s, .int .u64 m, .int .i64 e, .bool false, .int .i64 mode] w
      fun en wn => en = .returned (.float .f64 (word s (rnd (cD m e) (aim s mode)))) ∧ w = wn := by
  have HM := Lib.hid (c_mode s mode hm)
  have hd := aim_le s mode
  have hmz : ((m : Int) == 0) = false := by simp; omega
  clear hm
  obtain ⟨R, hR⟩ : ∃ R, rnd (cD m e) (aim s mode) = R := ⟨_, rfl⟩
  rw [hR]
  have HR := Lib.hid hR
  clear hR
  obtain ⟨d, hdd⟩ : ∃ d, aim s mode = d := ⟨_, rfl⟩
  rw [hdd] at HM hd HR
  clear hdd
  have HM2 := Lib.hid hm2
  have HM1 := Lib.hid hm1
  clear hm2 hm1
  go_enter Tryd.func38, Tryd.ntmps38
  go_wp2_with (first | (go_at_call 51; refine (HM.out _).mono ?_; rintro e w' ⟨rfl, rfl⟩))
  go_loop [1, 2] (fun v1 v2 => ∃ j M : Nat, j ≤ n ∧ 0 < M ∧ M < 18446744073709551616 ∧ Hid (M = m * 2 ^ j) ∧ v1 = .int .u64 M ∧ v2 = .int .i64 (e - j)) (fun v1 _ => 18446744073709551616 - (intOf v1).toNat)
  case atStart => exact ⟨0, m, by omega, h0, h1, by simp [Hid], rfl, by simp⟩
  case round =>
    obtain ⟨j, M, hj, hM0, hM1, HMj, rfl, rfl⟩ := hrel
    by_cases hjn : j = n
    · subst hjn
      clear hj
      have hMz : decide ((M : Int) < 9223372036854775808) = false := by have := HM1.out; have := HMj.out; simp; omega
      have hps : (l : Int) - 1074 - (e - j) = (sh : Int) := by have := hsh.out; have := hl.out; omega
      have hs11 : 11 ≤ sh := by have := hsh.out; omega
      have hs3 : sh ≤ 30000 := by have := hsh.out; omega
      have hl3 : l ≤ 30000 := by have := hl.out; omega
      have HM1' : Hid (9223372036854775808 ≤ M) := by have := HM1.out; have := HMj.out; show _ ≤ M; omega
      have hMs : Hid (rnd (cD m e) d = if e - j ≤ 960 then capR l (away d (M / 2 ^ sh) (M % 2 ^ sh) (2 ^ sh)) else if d = 0 then INF - 1 else INF) := by
        have h1 := cD_shift m e j
        rw [← HMj.out] at h1
        show _ = _
        rw [← h1]
        by_cases h960 : e - j ≤ 960
        · rw [if_pos h960]; exact made_eq HM1'.out hM1 h960 hsh.out hl.out
        · rw [if_neg h960]; exact made_over HM1'.out (by omega)
      have hR : Hid (R = if e - j ≤ 960 then capR l (away d (M / 2 ^ sh) (M % 2 ^ sh) (2 ^ sh)) else if d = 0 then INF - 1 else INF) := HR.out.symm.trans hMs.out
      have hCC : Hid ((e - j + 11 < -1074 ∧ -1074 - (e - j) = (sh : Int)) ∨ (-1074 ≤ e - j + 11 ∧ sh = 11)) := by
        have := hsh.out
        show _ ∨ _
        omega
      have HLB : Hid (l = 0 ∨ sh = 11) := by have := hsh.out; have := hl.out; show _ ∨ _; omega
      clear hs11
      have e1 : -30000 ≤ e - (j : Int) := by omega
      have e2 : e - (j : Int) ≤ 30000 := by omega
      generalize hE : e - (j : Int) = E at *
      clear hE HMj HM1 HM2 HR
      have hQ0 := Lib.hid (show M / 2 ^ sh < 9007199254740992 by
        rw [Nat.div_lt_iff_lt_mul (Nat.two_pow_pos _)]
        have : 2 ^ 11 ≤ 2 ^ sh := Nat.pow_le_pow_right (by decide) (by have := hCC.out; omega)
        omega)
      have hlo := bits_low M sh hM1
      have hsz := @pow_wrap sh
      have hsz1 := @pow_wrap (sh - 1)
      go_upto_if 57 with (fail)
      clear hMz
      go_cut [11] (fun v11 wc => v11 = .int .i64 (sh : Int) ∧ w = wc)
      case first =>
        as_aux_lemma =>
          clear hlo hsz hsz1
          rcases hCC.out with ⟨g1, g2⟩ | ⟨g1, g2⟩
          · go_wp2
            go_meet
            case rel => exact ⟨rfl, rfl⟩
          · go_wp2
            go_meet
            case rel => exact ⟨by rw [g2]; rfl, rfl⟩
      case rest =>
        as_aux_lemma =>
          obtain ⟨rfl, rfl⟩ := hcut
          go_upto_block 2 with (fail)
          go_cut [3, 12, 13, 14] (fun v3 v12 v13 v14 wc => ∃ (rest : Bool) (Lo Ha : Int), v3 = .bool rest ∧ v12 = .int .u64 ((M / 2 ^ sh : Nat) : Int) ∧ v13 = .int .u64 Lo ∧ v14 = .int .u64 Ha ∧ w = wc ∧ Hid (PackMid M sh rest Lo Ha))
          case first =>
            as_aux_lemma =>
              by_cases g64 : sh < 64
              · have t1 : decide ((sh : Int) < 64) = true := by simp; omega
                have hlo := hlo g64
                have hsz := hsz g64
                have hsz1 := hsz1 (by omega)
                have hsr : Hid (1 ≤ sh) := by have := hCC.out; show 1 ≤ sh; omega
                have hst : ((sh : Int) - 1).toNat = sh - 1 := by omega
                have hsp : 0 ≤ (sh : Int) - 1 := by have := hsr.out; omega
                obtain ⟨b1, b2⟩ := low_bounds g64
                go_wp2
                go_meet
                case rel => exact ⟨false, _, _, rfl, by simp, rfl, rfl, rfl, .inl ⟨g64, rfl, by simp, by simp⟩⟩
              by_cases g65 : sh = 64
              · subst g65
                clear hlo hsz hsz1
                have hd0 := Lib.hid (lost_64 HM1'.out hM1)
                go_wp2
                go_meet
                case rel => exact ⟨false, _, _, rfl, by rw [hd0.out.1]; rfl, rfl, rfl, rfl, .inr (.inl ⟨rfl, rfl, rfl, rfl⟩)⟩
              · have t1 : decide ((sh : Int) < 64) = false := by simp; omega
                have t2 : ((sh : Int) == 64) = false := by simp; omega
                have hd0 := Lib.hid (lost_far hM0 hM1 (show 64 < sh by omega))
                clear hlo hsz hsz1
                go_wp2
                go_meet
                case rel => exact ⟨true, _, _, rfl, by rw [hd0.out.1]; rfl, rfl, rfl, rfl, .inr (.inr ⟨by omega, rfl, rfl, rfl⟩)⟩
          case rest =>
            as_aux_lemma =>
              clear hlo hsz hsz1
              obtain ⟨rest, Lo, Ha, rfl, rfl, rfl, rfl, rfl, HPM⟩ := hcut
              have HL := Lib.hid (packMid_lost HM1'.out hM1 (by have := hCC.out; omega) HPM)
              have HA := Lib.hid (away_lost d (M / 2 ^ sh) (M % 2 ^ sh) (2 ^ sh) (Nat.two_pow_pos _))
              have HA2 := Lib.hid (away_le d (M / 2 ^ sh) (M % 2 ^ sh) (2 ^ sh))
              have HQ1 : Hid (l = 0 ∨ B ≤ M / 2 ^ sh) := by
                rcases HLB.out with h | h
                · exact .inl h
                · right
                  rw [h, Nat.le_div_iff_mul_le (by decide)]
                  have := HM1'.out
                  unfold B; omega
              generalize away d (M / 2 ^ sh) (M % 2 ^ sh) (2 ^ sh) = A at *
              generalize M / 2 ^ sh = Q at *
              generalize lostOf (M % 2 ^ sh) (2 ^ sh) = L at *
              have hQ1 : (Q : Int) < 9007199254740992 := by have := hQ0.out; omega
              clear HPM hMs HM HLB hCC hsh
              have hd3 : d = 0 ∨ d = 1 ∨ d = 2 := by omega
              clear hd
              go_upto_region 28 with (fail)
              go_cut [15] (fun v15 wc => ∃ b : Bool, v15 = .bool b ∧ Hid (b = decide (d = 2 ∧ L ≠ 0)) ∧ w = wc)
              case first =>
                as_aux_lemma =>
                  rcases hd3 with rfl | rfl | rfl
                  · go_wp2
                    go_meet
                    case rel => exact ⟨false, rfl, by simp [Hid], rfl⟩
                  · go_wp2
                    go_meet
                    case rel => exact ⟨false, rfl, by simp [Hid], rfl⟩
                  · rcases HL.out with ⟨k1, k2, rfl, rfl, k5⟩ | ⟨k1, ⟨k2, rfl, k3, k5⟩ | ⟨k2, rfl, rfl, rfl⟩⟩ | ⟨k1, k2, rfl, k3, rfl⟩ | ⟨k1, k2, rfl, k3, k5⟩
                    all_goals
                      have K1 := Lib.hid k1
                      clear k1
                      go_wp2
                      go_meet
                      case rel => exact ⟨_, rfl, by rw [K1.out]; simp [Hid], rfl⟩
              case rest =>
                as_aux_lemma =>
                  obtain ⟨b, rfl, Hb, rfl⟩ := hcut
                  go_upto_region 29 with (fail)
                  go_cut [95] (fun v95 wc => ∃ b2 : Bool, v95 = .bool b2 ∧ Hid (b2 = decide (d = 1 ∧ sh ≤ 64)) ∧ w = wc)
                  case first =>
                    as_aux_lemma =>
                      rcases hd3 with rfl | rfl | rfl
                      · go_wp2
                        go_meet
                        case rel => exact ⟨false, rfl, by simp [Hid], rfl⟩
                      · by_cases hs : (sh : Int) ≤ 64
                        · go_wp2
                          go_meet
                          case rel => exact ⟨true, rfl, by simp [Hid]; omega, rfl⟩
                        · go_wp2
                          go_meet
                          case rel => exact ⟨false, rfl, by simp [Hid]; omega, rfl⟩
                      · go_wp2
                        go_meet
                        case rel => exact ⟨false, rfl, by simp [Hid], rfl⟩
                  case rest =>
                    as_aux_lemma =>
                      obtain ⟨b2, rfl, Hb2, rfl⟩ := hcut
                      go_upto_if 95 with (fail)
                      go_cut [15] (fun v15 wc => ∃ b3 : Bool, v15 = .bool b3 ∧ Hid (b3 = decide (A = Q + 1)) ∧ w = wc)
                      case first =>
                        as_aux_lemma =>
                          cases b2
                          · go_wp2
                            go_meet
                            case rel =>
                              refine ⟨b, rfl, ?_, rfl⟩
                              have h1 := Hb.out
                              have h2 := Hb2.out
                              have h3 := HA.out
                              have h4 := HL.out
                              show _ = _
                              rw [h1, Bool.eq_iff_iff]
                              simp only [decide_eq_true_eq]
                              simp only [false_eq_decide_iff] at h2
                              rcases hd3 with rfl | rfl | rfl
                              · simp at h3; omega
                              · have : ¬ sh ≤ 64 := fun h => h2 ⟨rfl, h⟩
                                have hL1 : L = 1 := by omega
                                rw [hL1] at h3; simp at h3; omega
                              · by_cases h0 : L = 0
                                · rw [h0] at h3; simp at h3; omega
                                · simp [h0] at h3; omega
                          · have h2 := Hb2.out
                            simp only [true_eq_decide_iff] at h2
                            obtain ⟨rfl, hs⟩ := h2
                            rcases HL.out with ⟨k1, k2, rfl, rfl, k5⟩ | ⟨k1, ⟨k2, rfl, k3, k5⟩ | ⟨k2, rfl, rfl, rfl⟩⟩ | ⟨k1, k2, rfl, k3, rfl⟩ | ⟨k1, k2, rfl, k3, k5⟩
                            · have K1 := Lib.hid k1
                              have w1 : decide (Ha < 0) = false := by simp; omega
                              have w2 : ((0 : Int) == Ha) = false := by simp; omega
                              clear k1  k5
                              go_wp2
                              go_meet
                              case rel => exact ⟨false, rfl, by have h3 := HA.out; rw [K1.out] at h3; simp at h3; simp [Hid]; omega, rfl⟩
                            · have K1 := Lib.hid k1
                              have w1 : decide (Ha < Lo) = false := by simp; omega
                              have w2 : ((Lo : Int) == Ha) = false := by simp; omega
                              clear k1 k3 k5
                              go_wp2
                              go_meet
                              case rel => exact ⟨false, rfl, by have h3 := HA.out; rw [K1.out] at h3; simp at h3; simp [Hid]; omega, rfl⟩
                            · omega
                            · have K1 := Lib.hid k1
                              clear k1
                              by_cases hp : (Q : Int) % 2 = 1
                              · have hp2 : ((Q : Int) % 2 == 1) = true := by simp; omega
                                have HP := Lib.hid hp
                                clear hp
                                go_wp2
                                go_meet
                                case rel => exact ⟨true, rfl, by have h3 := HA.out; have h5 := HP.out; rw [K1.out] at h3; simp at h3; simp [Hid]; omega, rfl⟩
                              · have hp2 : ((Q : Int) % 2 == 1) = false := by simp; omega
                                have HP := Lib.hid hp
                                clear hp
                                go_wp2
                                go_meet
                                case rel => exact ⟨false, rfl, by have h3 := HA.out; have h5 := HP.out; rw [K1.out] at h3; simp at h3; simp [Hid]; omega, rfl⟩
                            · have K1 := Lib.hid k1
                              clear k1
                              go_wp2
                              go_meet
                              case rel => exact ⟨true, rfl, by have h3 := HA.out; rw [K1.out] at h3; simp at h3; simp [Hid]; omega, rfl⟩
                      case rest =>
                        as_aux_lemma =>
                          obtain ⟨b3, rfl, Hb3, rfl⟩ := hcut
                          go_upto_if 112 with (fail)
                          go_cut [12] (fun v12 wc => v12 = .int .u64 (A : Int) ∧ w = wc)
                          case first =>
                            as_aux_lemma =>
                              cases b3
                              · go_wp2
                                go_meet
                                case rel => exact ⟨congrArg (Value.int .u64) (by have h1 := Hb3.out; have h2 := HA2.out; simp only [false_eq_decide_iff] at h1; omega), rfl⟩
                              · go_wp2
                                go_meet
                                case rel => exact ⟨congrArg (Value.int .u64) (by have h1 := Hb3.out; simp only [true_eq_decide_iff] at h1; omega), rfl⟩
                          case rest =>
                            as_aux_lemma =>
                              obtain ⟨rfl, rfl⟩ := hcut
                              have hES : E + (sh : Int) = (l : Int) - 1074 := by omega
                              have HO := Lib.hid (c_over s d (by omega))
                              have hA : Hid (Q ≤ A ∧ A ≤ Q + 1 ∧ (d = 0 → A = Q)) := ⟨HA2.out.1, HA2.out.2, fun h => by have h3 := HA.out; rw [h] at h3; simpa using h3⟩
                              have hRl : Hid (R ≤ INF) := by
                                have := hR.out
                                show R ≤ INF
                                rw [this]
                                split
                                · unfold capR; split <;> omega
                                · split <;> omega
                              have HSg := Lib.hid (fun w => c_signed s R (by have := hRl.out; unfold INF at this; unfold S; omega) w)
                              have hAb : (A : Int) ≤ 9007199254740992 := by have := hA.out; omega
                              clear hps HL Hb Hb2 Hb3 HA HA2 hd3
                              by_cases hl46 : 2046 ≤ l
                              · -- beyond
                                have hRv : Hid ((if d = 0 then INF - 1 else INF) = R) := by
                                  have h1 := hR.out
                                  rw [if_neg (by have := hl.out; omega)] at h1
                                  exact h1.symm
                                rw [hRv.out] at HO
                                have hAB : Hid (4503599627370496 ≤ A) := by have := hA.out; have := HQ1.out; unfold B at this; show _ ≤ _; omega
                                have hg1 : (971 : Int) < (l : Int) - 1074 := by omega
                                have hg2 : (971 : Int) < (l : Int) - 1074 + 1 := by omega
                                by_cases hA53 : A = 9007199254740992
                                · subst hA53
                                  go_wp2_with (first | (go_at_call 53; refine (HO.out _).mono ?_; rintro e w' ⟨rfl, rfl⟩))
                                  go_ret
                                  exact ⟨rfl, rfl⟩
                                · have t1 : ((A : Int) == 9007199254740992) = false := by simp; omega
                                  have t2 : decide ((A : Int) < 4503599627370496) = false := by have := hAB.out; simp; omega
                                  clear hA53
                                  go_wp2_with (first | (go_at_call 53; refine (HO.out _).mono ?_; rintro e w' ⟨rfl, rfl⟩))
                                  go_ret
                                  exact ⟨rfl, rfl⟩
                              · have hRv : Hid (R = capR l A) := by
                                  have h1 := hR.out
                                  rw [if_pos (by have := hl.out; omega)] at h1
                                  exact h1
                                have hl45 : l ≤ 2045 := by omega
                                clear hl46
                                by_cases hA53 : A = 9007199254740992
                                · subst hA53
                                  by_cases h45 : l = 2045
                                  · subst h45
                                    have hRv2 : Hid ((if d = 0 then INF - 1 else INF) = R) := by
                                      have h1 := hRv.out
                                      have h2 := hA.out
                                      have h3 := hQ0.out
                                      rw [if_neg (by omega), h1]
                                      unfold capR; rw [if_neg (by unfold B INF; omega)]; rfl
                                    rw [hRv2.out] at HO
                                    go_wp2_with (first | (go_at_call 53; refine (HO.out _).mono ?_; rintro e w' ⟨rfl, rfl⟩))
                                    go_ret
                                    exact ⟨rfl, rfl⟩
                                  · have hg : (l : Int) - 1074 + 1 ≤ 971 := by omega
                                    have hg3 : (l : Int) ≤ 2044 := by omega
                                    have hOr : bits .or .u64 (((l : Int) - 1074 + 1 + 1075) * 4503599627370496) 0 = (R : Int) := by
                                      have h1 := hRv.out
                                      unfold capR at h1
                                      rw [if_pos (by unfold B INF; omega)] at h1
                                      have h2 := or_field2 (l + 2) 0 (by decide) (by omega)
                                      rw [show (l : Int) - 1074 + 1 + 1075 = ((l + 2 : Nat) : Int) by omega]
                                      refine h2.trans ?_
                                      rw [h1]; unfold B; omega
                                    have hAn : bits .and .u64 4503599627370496 4503599627370495 = 0 := by decide +kernel
                                    have hOf := Lib.hid (fun w => c_of (R : Int) w)
                                    have p1 : -1074 ≤ (l : Int) - 1074 := by omega
                                    have p2 : (l : Int) - 1074 + 1 ≤ 971 := by omega
                                    clear hg
                                    generalize (l : Int) - 1074 = P at *
                                    have q1 : decide ((971 : Int) < P + 1) = false := by simp; omega
                                    have HP2 := Lib.hid p2
                                    clear p2 hg3
                                    go_upto_region 41 with (fail)
                                    have p2 := HP2.out
                                    go_wp2_with (first | (go_at_call 43; refine (hOf.out _).mono ?_; rintro e w' ⟨rfl, rfl⟩) | (go_at_call 52; refine (HSg.out _).mono ?_; rintro e w' ⟨rfl, rfl⟩))
                                    go_ret
                                    exact ⟨rfl, rfl⟩
                                · have t1 : ((A : Int) == 9007199254740992) = false := by simp; omega
                                  have hA2 : (A : Int) < 9007199254740992 := by omega
                                  clear hA53
                                  by_cases hA52 : A < 4503599627370496
                                  · have t2 : decide ((A : Int) < 4503599627370496) = true := by simp; omega
                                    have hRA : Hid (R = A) := by
                                      have h1 := hRv.out
                                      have h2 := HQ1.out
                                      have h3 := hA.out
                                      have hl0 : l = 0 := by unfold B at h2; omega
                                      subst hl0
                                      unfold capR at h1
                                      rw [if_pos (by unfold B INF; omega)] at h1
                                      show R = A; omega
                                    rw [hRA.out] at HSg
                                    clear hA52
                                    go_wp2_with (first | (go_at_call 43; refine (c_of _ _).mono ?_; rintro e w' ⟨rfl, rfl⟩) | (go_at_call 52; refine (HSg.out _).mono ?_; rintro e w' ⟨rfl, rfl⟩))
                                    go_ret
                                    exact ⟨by rw [hRA.out]; rfl, rfl⟩
                                  · have t2 : decide ((A : Int) < 4503599627370496) = false := by simp; omega
                                    have hg : (l : Int) - 1074 ≤ 971 := by omega
                                    have hAn : bits .and .u64 (A : Int) 4503599627370495 = ((A - 4503599627370496 : Nat) : Int) := by
                                      have := bits_and_52 A (by omega)
                                      rw [show A % 4503599627370496 = A - 4503599627370496 by omega] at this
                                      exact this
                                    have hOr : bits .or .u64 (((l : Int) - 1074 + 1075) * 4503599627370496) ((A - 4503599627370496 : Nat) : Int) = (R : Int) := by
                                      have h1 := hRv.out
                                      unfold capR at h1
                                      rw [if_pos (by unfold B INF; omega)] at h1
                                      have h2 := or_field2 (l + 1) (A - 4503599627370496) (by unfold B; omega) (by omega)
                                      rw [show (l : Int) - 1074 + 1075 = ((l + 1 : Nat) : Int) by omega]
                                      refine h2.trans ?_
                                      rw [h1]; unfold B; omega
                                    have hOf := Lib.hid (fun w => c_of (R : Int) w)
                                    generalize ((A - 4503599627370496 : Nat) : Int) = F at *
                                    clear hA52
                                    have p1 : -1074 ≤ (l : Int) - 1074 := by omega
                                    have p2 : (l : Int) - 1074 ≤ 971 := by omega
                                    clear hg
                                    generalize (l : Int) - 1074 = P at *
                                    have q1 : decide ((971 : Int) < P) = false := by simp; omega
                                    have HP2 := Lib.hid p2
                                    clear p2
                                    go_upto_region 41 with (fail)
                                    have p2 := HP2.out
                                    go_wp2_with (first | (go_at_call 43; refine (hOf.out _).mono ?_; rintro e w' ⟨rfl, rfl⟩) | (go_at_call 52; refine (HSg.out _).mono ?_; rintro e w' ⟨rfl, rfl⟩))
                                    go_ret
                                    exact ⟨rfl, rfl⟩
    · have hMlt : M * 2 < 18446744073709551616 ∧ M < 9223372036854775808 := by
        have h := HM2.out
        have h2 : M * 2 ≤ m * 2 ^ n := by
          rw [HMj.out, Nat.mul_assoc, ← Nat.pow_succ]
          exact Nat.mul_le_mul_left _ (Nat.pow_le_pow_right (by decide) (by omega))
        omega
      obtain ⟨hM2, hM3⟩ := hMlt
      have hMz : decide ((M : Int) < 9223372036854775808) = true := by simp; omega
      have hw : IntKind.u64.wrap ((M : Int) * 2) = (M : Int) * 2 := by rw [IntKind.wrap_u64]; omega
      go_wp2
      go_round
      case rel => exact ⟨j + 1, M * 2, by omega, by omega, by omega, by show M * 2 = m * 2 ^ (j + 1); rw [HMj.out, Nat.mul_assoc, ← Nat.pow_succ], by simp, by simp; omega⟩
      case measure => simp [intOf]; omega
end Go.Proofs.YtbplfkbknehmbaaDoor
