/- What must come whatever the input is; the laws on parts, orders and neighbours of floats. -/
import Derived.Test.YtbplfkbknehmbaaDoorI5
namespace Go.Proofs.YtbplfkbknehmbaaDoor
open Go.RowKit Fl
attribute [local go_sem] m_bits m_of

theorem i_class_nought (w : World) : Calls Tryd.prog 30 #[.float .f64 9223372036854775808] w fun en wn => en = .returned (.tuple #[.int .i64 3, .bool true]) ∧ w = wn := by
  have h1 : feq 9223372036854775808 9223372036854775808 = true := by decide +kernel
  have h2 : fgt 0 9218868437227405311 = false := by decide +kernel
  have h3 : feq 0 0 = true := by decide +kernel
  have HA := Lib.hid (fun w => m_abs 9223372036854775808 (by decide) w)
  rw [show mag 9223372036854775808 = 0 by decide] at HA
  have HS := Lib.hid (fun w => m_signbit 9223372036854775808 (by decide) w)
  rw [show neg 9223372036854775808 = true by decide] at HS
  go_enter Tryd.func30, Tryd.ntmps30
  go_wp2_with (first | (go_at_call 36; refine (HA.out _).mono ?_; rintro e w' ⟨rfl, rfl⟩) | (go_at_call 48; refine (HS.out _).mono ?_; rintro e w' ⟨rfl, rfl⟩))
  go_ret2
  exact ⟨rfl, rfl⟩
theorem make6 : word false (rnd (cD 3 1) (aim false 1)) = 4618441417868443648 := by
  have h := cD_shift 3 1 51
  rw [show (1 : Int) - (51 : Nat) = -50 from rfl] at h
  rw [← h, rnd_exact (l := 1024) (by decide) (by decide) (.inr (by decide)) (by decide)]
  decide
theorem l_sure (w : World) (hT : Tab64 w) : Calls Tryd.prog 10 #[] w fun en wn => en = .returned (.bool true) ∧ Drw w wn := by
  have HD := Drw.refl w
  have HN := Lib.hid (fun w => c_nought true w)
  rw [show word true 0 = 9223372036854775808 by decide] at HN
  have HS := Lib.hid (fun w hT => i_split_fin 4618441417868443648 3 51 (by decide) (by decide) (by decide) (by decide) w hT)
  rw [show (((rl (mag 4618441417868443648) : Nat) : Int) - 1074 + (51 : Nat)) = 1 by decide, show neg 4618441417868443648 = false by decide] at HS
  have HX := Lib.hid (fun w => i_next 4607182418800017408 (by decide) w)
  rw [show nextF 4607182418800017408 = 4607182418800017409 by decide] at HX
  have HO := Lib.hid (fun w => i_order 4607182418800017408 (by decide) w)
  rw [show ordF 4607182418800017408 = 4607182418800017408 by decide] at HO
  have HM := Lib.hid (fun w => i_make false 3 1 1 (.inl rfl) (by decide) w)
  rw [make6] at HM
  have g1 : fgt 4607182418800017409 4607182418800017408 = true := by decide +kernel
  have g2 : feq 4618441417868443648 4618441417868443648 = true := by decide +kernel
  have HT := Lib.hid hT
  clear hT
  go_enter Tryd.func10, Tryd.ntmps10
  go_wp2_with (first | (go_at_call 31; refine (HN.out _).mono ?_; rintro e w' ⟨rfl, rfl⟩) | (go_at_call 30; refine (i_class_nought _).mono ?_; rintro e w' ⟨rfl, rfl⟩) | (go_at_call 8; refine (HS.out _ HT.out).mono ?_; rintro e w' ⟨rfl, rfl⟩) | (go_at_call 20; refine (HX.out _).mono ?_; rintro e w' ⟨rfl, rfl⟩) | (go_at_call 16; refine (HO.out _).mono ?_; rintro e w' ⟨rfl, rfl⟩) | (go_at_call 12; refine (HM.out _).mono ?_; rintro e w' ⟨rfl, hb⟩))
  go_ret
  exact ⟨rfl, hb⟩
theorem Tab64.drw {w w' : World} (hT : Tab64 w) (h : Drw w w') : Tab64 w' := fun i hi => by rw [h.cell]; exact hT i hi
theorem l_same (a b : Nat) (ha : a < 18446744073709551616) (hb : b < 18446744073709551616) (w : World) : Calls Tryd.prog 11 #[.float .f64 a, .float .f64 b] w fun en wn => en = .returned (.bool (sameF a b)) ∧ w = wn := by
  go_enter Tryd.func11, Tryd.ntmps11
  go_wp2_with (first | (go_at_call 32; refine (c_same a b ha hb _).mono ?_; rintro e w' ⟨rfl, rfl⟩))
  go_ret
  exact ⟨rfl, rfl⟩
theorem sameF_self (a : Nat) : sameF a a = true := by unfold sameF; simp
theorem w_splits (x : Nat) (hx : x < 18446744073709551616) (w : World) (hT : Tab64 w) : Calls Tryd.prog 3 #[.float .f64 x] w fun en wn => en = .returned (.bool true) ∧ Drw w wn := by
  have HSu := Lib.hid (l_sure w hT)
  by_cases hi : INF ≤ mag x
  · have H1 := Lib.hid (i_split_no x hx hi)
    have H2 := Lib.hid (c_split_no x hx hi)
    clear hi hT
    go_enter Tryd.func3, Tryd.ntmps3
    go_wp2_with (first | (go_at_call 8; refine (H1.out _).mono ?_; rintro e w' ⟨rfl, rfl⟩) | (go_at_call 9; refine (H2.out _).mono ?_; rintro e w' ⟨rfl, rfl⟩) | (go_at_call 10; refine HSu.out.mono ?_; rintro e w' ⟨rfl, hb⟩))
    go_ret
    exact ⟨rfl, hb⟩
  · by_cases h0 : mag x = 0
    · have H1 := Lib.hid (i_split_zero x hx h0)
      have H2 := Lib.hid (c_split_zero x hx h0)
      clear hi h0 hT
      go_enter Tryd.func3, Tryd.ntmps3
      go_wp2_with (first | (go_at_call 8; refine (H1.out _).mono ?_; rintro e w' ⟨rfl, rfl⟩) | (go_at_call 9; refine (H2.out _).mono ?_; rintro e w' ⟨rfl, rfl⟩) | (go_at_call 10; refine HSu.out.mono ?_; rintro e w' ⟨rfl, hb⟩))
      go_ret
      exact ⟨rfl, hb⟩
    · have hq : 0 < rq (mag x) := by
        have h1 := rung_lq (mag x)
        have h2 := rq_norm (mag x)
        rcases Nat.eq_zero_or_pos (rq (mag x)) with h | h
        · rw [h] at h1 h2
          rcases h2 with h2 | h2
          · rw [h2] at h1; omega
          · unfold B at h2; omega
        · exact h
      obtain ⟨o, t, he, ho⟩ := exists_odd _ hq
      have H1 := Lib.hid (i_split_fin x o t hx (by omega) ho he w hT)
      have H2 := Lib.hid (c_split_fin x o t hx (by omega) ho he w)
      clear hi h0 hT hq he ho
      go_enter Tryd.func3, Tryd.ntmps3
      go_wp2_with (first | (go_at_call 8; refine H1.out.mono ?_; rintro e w' ⟨rfl, rfl⟩) | (go_at_call 9; refine H2.out.mono ?_; rintro e w' ⟨rfl, rfl⟩) | (go_at_call 10; refine HSu.out.mono ?_; rintro e w' ⟨rfl, hb⟩))
      go_ret
      exact ⟨rfl, hb⟩
theorem w_orders (a b : Nat) (ha : a < 18446744073709551616) (hb : b < 18446744073709551616) (w : World) (hT : Tab64 w) : Calls Tryd.prog 5 #[.float .f64 a, .float .f64 b] w fun en wn => en = .returned (.bool true) ∧ Drw w wn := by
  have HSu := Lib.hid (l_sure w hT)
  have H1 := Lib.hid (i_apart a b ha hb)
  have H2 := Lib.hid (c_apart a b ha hb)
  have H3 := Lib.hid (i_order a ha)
  have H4 := Lib.hid (c_order a ha)
  generalize apartF a b = p at *
  generalize ordF a = o at *
  obtain ⟨p, q⟩ := p
  clear hT
  go_enter Tryd.func5, Tryd.ntmps5
  go_wp2_with (first | (go_at_call 14; refine (H1.out _).mono ?_; rintro e w' ⟨rfl, rfl⟩) | (go_at_call 15; refine (H2.out _).mono ?_; rintro e w' ⟨rfl, rfl⟩) | (go_at_call 16; refine (H3.out _).mono ?_; rintro e w' ⟨rfl, rfl⟩) | (go_at_call 17; refine (H4.out _).mono ?_; rintro e w' ⟨rfl, rfl⟩) | (go_at_call 10; refine HSu.out.mono ?_; rintro e w' ⟨rfl, hb⟩))
  go_ret
  exact ⟨rfl, hb⟩
theorem turned_turned {x : Nat} (hx : x < 18446744073709551616) : turned (turned x) = x := by unfold turned S; split <;> split <;> omega
theorem mag_turned {x : Nat} (hx : x < 18446744073709551616) : mag (turned x) = mag x := by unfold mag turned S; split <;> omega
theorem w_steps (x : Nat) (hx : x < 18446744073709551616) (w : World) (hT : Tab64 w) : Calls Tryd.prog 7 #[.float .f64 x] w fun en wn => en = .returned (.bool true) ∧ Drw w wn := by
  have HSu := Lib.hid (l_sure w hT)
  clear hT
  have H1 := Lib.hid (i_next x hx)
  have H2 := Lib.hid (c_next x hx)
  have H3 := Lib.hid (i_prev x hx)
  have H4 := Lib.hid (c_prev x hx)
  have hpv : (if nan x then x else turned (nextF (turned x))) = turned (nextF (turned x)) := by
    cases hn : nan x
    · rfl
    · have h1 : nan (turned x) = true := by unfold nan at *; rw [mag_turned hx]; exact hn
      have h2 : nextF (turned x) = turned x := by unfold nextF; rw [h1]; rfl
      rw [h2, turned_turned hx]; rfl
  rw [hpv] at H4
  have hln := nextF_lt hx
  have hlp := turned_lt (nextF_lt (turned_lt hx))
  generalize nextF x = a at *
  generalize turned (nextF (turned x)) = b at *
  have HU : ∃ u v : Nat, u < 18446744073709551616 ∧ v < 18446744073709551616 ∧ Hid (sameF u v = true) ∧ Hid (∀ w, Calls Tryd.prog 24 #[.float .f64 x] w fun en wn => en = .returned (.float .f64 u) ∧ w = wn) ∧ Hid (∀ w, Calls Tryd.prog 25 #[.float .f64 x] w fun en wn => en = .returned (.float .f64 v) ∧ w = wn) := by
    by_cases hf : mag x < INF
    · have := unit_lt x hf
      exact ⟨unitR x, unitR x, by unfold INF at this; omega, by unfold INF at this; omega, sameF_self _, i_unit_fin x hx hf, c_unit_fin x hx hf⟩
    · by_cases hi : mag x = INF
      · refine ⟨INF, INF, by decide, by decide, sameF_self _, ?_, c_unit_inf x hx hi⟩
        have := i_unit_no x hx (by omega)
        rw [hi] at this
        exact this
      · have hn : nan x = true := by unfold nan; simp; omega
        refine ⟨mag x, x, mag_lt64 x, hx, ?_, i_unit_no x hx (by omega), c_unit_nan x hx hn⟩
        show sameF _ _ = true
        unfold sameF
        rw [hn, show nan (mag x) = true by unfold nan at *; rw [mag_mag]; exact hn]
        simp
  obtain ⟨u, v, hu, hv, HS, H5, H6⟩ := HU
  have HA := Lib.hid (fun w => l_same a a hln hln w)
  have HB := Lib.hid (fun w => l_same b b hlp hlp w)
  have HC := Lib.hid (fun w => l_same u v hu hv w)
  rw [sameF_self] at HA HB
  rw [HS.out] at HC
  clear hpv
  go_enter Tryd.func7, Tryd.ntmps7
  go_wp2_with (first | (go_at_call 20; refine (H1.out _).mono ?_; rintro e w' ⟨rfl, rfl⟩) | (go_at_call 22; refine (H2.out _).mono ?_; rintro e w' ⟨rfl, rfl⟩) | (go_at_call 21; refine (H3.out _).mono ?_; rintro e w' ⟨rfl, rfl⟩) | (go_at_call 23; refine (H4.out _).mono ?_; rintro e w' ⟨rfl, rfl⟩) | (go_at_call 24; refine (H5.out _).mono ?_; rintro e w' ⟨rfl, rfl⟩) | (go_at_call 25; refine (H6.out _).mono ?_; rintro e w' ⟨rfl, rfl⟩) | (go_at_call 11; (first | (with_reducible refine (HA.out _).mono ?_) | (with_reducible refine (HB.out _).mono ?_) | (with_reducible refine (HC.out _).mono ?_)); rintro e w' ⟨rfl, rfl⟩) | (go_at_call 10; refine HSu.out.mono ?_; rintro e w' ⟨rfl, hb⟩))
  go_ret
  exact ⟨rfl, hb⟩
end Go.Proofs.YtbplfkbknehmbaaDoor
