/- The walks of layer 1 and of its reference: order, neighbours, how far apart, classes. -/
import Derived.Test.YtbplfkbknehmbaaDoorIe1
import Derived.Test.YtbplfkbknehmbaaDoorMa
import Derived.Lib.Hide
namespace Fl
def ordF (x : Nat) : Int := if nan x then 9223372036854775807 else if neg x then -1 - (mag x : Int) else (mag x : Int)
def nextF (x : Nat) : Nat := if nan x || decide (x = INF) then x else if mag x = 0 then 1 else if neg x then x - 1 else x + 1
theorem nextF_lt {x : Nat} (hx : x < 18446744073709551616) : nextF x < 18446744073709551616 := by
  unfold nextF nan neg mag S INF
  split
  · exact hx
  · split
    · decide
    · rename_i h1 h2
      simp at h1
      split
      · omega
      · rename_i h3
        simp at h3; omega
def apartF (x y : Nat) : Nat × Bool := if nan x || nan y || decide (key y < key x) then (0, false) else ((key y - key x).toNat, true)
def sameF (a b : Nat) : Bool := decide (a = b) || (nan a && nan b)
def classF (x : Nat) : Int × Bool := if nan x then (1, false) else if mag x = INF then (2, neg x) else if mag x = 0 then (3, neg x) else if mag x < B then (4, neg x) else (5, neg x)
end Fl
namespace Go.Proofs.YtbplfkbknehmbaaDoor
open Go.RowKit Fl
attribute [local go_sem] m_bits m_of

theorem c_same (a b : Nat) (ha : a < 18446744073709551616) (hb : b < 18446744073709551616) (w : World) : Calls Tryd.prog 32 #[.float .f64 a, .float .f64 b] w fun e w' => e = .returned (.bool (sameF a b)) ∧ w = w' := by
  have h : ((a : Int) == (b : Int)) = decide (a = b) := by rw [Bool.eq_iff_iff]; simp; omega
  unfold sameF
  by_cases e : a = b
  · have h' : ((a : Int) == (b : Int)) = true := by rw [h]; simp [e]
    have e' : decide (a = b) = true := by simp [e]
    rw [e']
    clear h e e'
    go_enter Tryd.func32, Tryd.ntmps32
    go_wp2_with ((go_at_call 41; refine (c_bits _ _).mono ?_; rintro e w' ⟨rfl, rfl⟩))
    go_ret
    exact ⟨by simp, rfl⟩
  · have h' : ((a : Int) == (b : Int)) = false := by rw [h]; simp [e]
    have e' : decide (a = b) = false := by simp [e]
    rw [e']
    clear h e e'
    cases hn : nan a
    · go_enter Tryd.func32, Tryd.ntmps32
      go_wp2_with (first | (go_at_call 41; refine (c_bits _ _).mono ?_; rintro e w' ⟨rfl, rfl⟩) | (go_at_call 19; refine (c_isNaN a ha _).mono ?_; rintro e w' ⟨rfl, rfl⟩))
      go_ret
      exact ⟨by simp, rfl⟩
    · cases hm : nan b
      all_goals
        go_enter Tryd.func32, Tryd.ntmps32
        go_wp2_with (first | (go_at_call 41; refine (c_bits _ _).mono ?_; rintro e w' ⟨rfl, rfl⟩) | (go_at_call 19; refine (c_isNaN _ (by assumption) _).mono ?_; rintro e w' ⟨rfl, rfl⟩))
        go_ret
        exact ⟨by simp, rfl⟩
theorem mag_pos {x : Nat} (h : neg x = false) : x = mag x := by unfold neg mag S at *; simp at h; omega
theorem magZ (x : Nat) : 0 ≤ ((mag x : Nat) : Int) ∧ ((mag x : Nat) : Int) ≤ 9223372036854775807 := by have := mag_lt x; unfold S at *; omega
theorem c_order (x : Nat) (hx : x < 18446744073709551616) (w : World) : Calls Tryd.prog 17 #[.float .f64 x] w fun e w' => e = .returned (.int .i64 (ordF x)) ∧ w = w' := by
  unfold ordF
  obtain ⟨b1, b2⟩ := magZ x
  cases hn : nan x
  · cases hs : neg x
    · have h1 := mag_pos hs
      have h2 : (x : Int) ≤ 9223372036854775807 := by omega
      have H := Lib.hid (show (x : Int) = mag x by omega)
      clear h1
      go_enter Tryd.func17, Tryd.ntmps17
      go_wp2_with (first | (go_at_call 19; refine (c_isNaN x hx _).mono ?_; rintro e w' ⟨rfl, rfl⟩) | (go_at_call 29; refine (c_neg x hx _).mono ?_; rintro e w' ⟨rfl, rfl⟩) | (go_at_call 40; refine (c_mag x hx _).mono ?_; rintro e w' ⟨rfl, rfl⟩) | (go_at_call 41; refine (c_bits _ _).mono ?_; rintro e w' ⟨rfl, rfl⟩))
      go_ret
      exact ⟨by simp; exact H.out, rfl⟩
    · go_enter Tryd.func17, Tryd.ntmps17
      go_wp2_with (first | (go_at_call 19; refine (c_isNaN x hx _).mono ?_; rintro e w' ⟨rfl, rfl⟩) | (go_at_call 29; refine (c_neg x hx _).mono ?_; rintro e w' ⟨rfl, rfl⟩) | (go_at_call 40; refine (c_mag x hx _).mono ?_; rintro e w' ⟨rfl, rfl⟩) | (go_at_call 41; refine (c_bits _ _).mono ?_; rintro e w' ⟨rfl, rfl⟩))
      go_ret
      exact ⟨rfl, rfl⟩
  · go_enter Tryd.func17, Tryd.ntmps17
    go_wp2_with (first | (go_at_call 19; refine (c_isNaN x hx _).mono ?_; rintro e w' ⟨rfl, rfl⟩) | (go_at_call 29; refine (c_neg x hx _).mono ?_; rintro e w' ⟨rfl, rfl⟩) | (go_at_call 40; refine (c_mag x hx _).mono ?_; rintro e w' ⟨rfl, rfl⟩) | (go_at_call 41; refine (c_bits _ _).mono ?_; rintro e w' ⟨rfl, rfl⟩))
    go_ret
    exact ⟨rfl, rfl⟩
theorem i_order (x : Nat) (hx : x < 18446744073709551616) (w : World) : Calls Tryd.prog 16 #[.float .f64 x] w fun e w' => e = .returned (.int .i64 (ordF x)) ∧ w = w' := by
  unfold ordF
  obtain ⟨b1, b2⟩ := magZ x
  have hf : feq x x = !nan x := feq_self (by simpa using hx)
  have g1 := bits_and_S_ne x hx
  have g2 := bits_andNot_S x hx
  cases hn : nan x
  · rw [hn] at hf
    cases hs : neg x
    · rw [hs] at g1
      have h1 := mag_pos hs
      have h2 : (x : Int) ≤ 9223372036854775807 := by omega
      have H := Lib.hid (show (x : Int) = mag x by omega)
      clear h1
      go_enter Tryd.func16, Tryd.ntmps16
      go_wp2
      go_ret
      exact ⟨by simp; exact H.out, rfl⟩
    · rw [hs] at g1
      go_enter Tryd.func16, Tryd.ntmps16
      go_wp2
      go_ret
      exact ⟨rfl, rfl⟩
  · rw [hn] at hf
    go_enter Tryd.func16, Tryd.ntmps16
    go_wp2
    go_ret
    exact ⟨rfl, rfl⟩
theorem i_rank (x : Nat) (hx : x < 18446744073709551616) (w : World) : Calls Tryd.prog 39 #[.float .f64 x] w fun e w' => e = .returned (.int .i64 (key x)) ∧ w = w' := by
  obtain ⟨b1, b2⟩ := magZ x
  have g2 := bits_andNot_S x hx
  cases hs : neg x
  · have hk : key x = mag x := key_pos_S (by unfold neg at hs; simpa using hs)
    rw [hk]
    go_enter Tryd.func39, Tryd.ntmps39
    go_wp2_with (first | (go_at_call 48; refine (m_signbit x hx _).mono ?_; rintro e w' ⟨rfl, rfl⟩))
    go_ret
    exact ⟨rfl, rfl⟩
  · have hk : key x = -(mag x : Int) := key_neg_S (by unfold neg at hs; simpa using hs) (by simpa using hx)
    rw [hk]
    go_enter Tryd.func39, Tryd.ntmps39
    go_wp2_with (first | (go_at_call 48; refine (m_signbit x hx _).mono ?_; rintro e w' ⟨rfl, rfl⟩))
    go_ret
    exact ⟨by simp, rfl⟩
theorem i_next (x : Nat) (hx : x < 18446744073709551616) (w : World) : Calls Tryd.prog 20 #[.float .f64 x] w fun e w' => e = .returned (.float .f64 (nextF x)) ∧ w = w' := by
  have hf : feq x x = !nan x := feq_self (by simpa using hx)
  have hg := fgt_max x hx
  obtain ⟨b1, b2⟩ := magZ x
  unfold nextF
  by_cases hn : nan x = true
  · rw [hn] at hf
    rw [hn]
    go_enter Tryd.func20, Tryd.ntmps20
    go_wp2
    go_ret
    exact ⟨rfl, rfl⟩
  have hn : nan x = false := by simpa using hn
  rw [hn] at hf
  by_cases hi : x = INF
  · have hi : decide (x = INF) = true := by simp [hi]
    rw [hi] at hg
    rw [hn, hi]
    go_enter Tryd.func20, Tryd.ntmps20
    go_wp2
    go_ret
    exact ⟨rfl, rfl⟩
  have hi : decide (x = INF) = false := by simp [hi]
  rw [hi] at hg
  rw [hn, hi]
  have hl : flt x 0 = (neg x && !decide (mag x = 0)) := by
    rw [flt_eq (by simpa using hx) (by decide), hn, Bool.eq_iff_iff]
    simp only [show key 0 = 0 by decide, show nan 0 = false by decide]
    unfold key mag neg S at *
    simp; split <;> omega
  have hmx : ((mag x : Nat) : Int) ≤ 9218868437227405312 := by unfold nan INF at hn; simp at hn; omega
  by_cases h0 : mag x = 0
  · rw [if_pos h0]
    rw [h0] at hl
    have hk : key x = 0 := by unfold key mag S at *; split <;> omega
    simp only [decide_true, Bool.not_true, Bool.and_false] at hl
    have H := Lib.hid hk
    clear hk h0 hi hn
    go_enter Tryd.func20, Tryd.ntmps20
    go_wp2_with (go_at_call 39; refine (i_rank x hx _).mono ?_; rw [H.out]; rintro e w' ⟨rfl, rfl⟩)
    go_ret
    exact ⟨by simp, rfl⟩
  · rw [if_neg h0]
    cases hs : neg x
    · have hk : key x = mag x := key_pos_S (by unfold neg at hs; simpa using hs)
      rw [hs] at hl
      have hx1 := mag_pos hs
      have H := Lib.hid hk
      have H0 := Lib.hid hx1
      clear hk h0 hi hn hs hx1
      simp only [Bool.false_and] at hl
      go_enter Tryd.func20, Tryd.ntmps20
      go_wp2_with (go_at_call 39; refine (i_rank x hx _).mono ?_; rw [H.out]; rintro e w' ⟨rfl, rfl⟩)
      go_ret
      exact ⟨by have := H0.out; simp; omega, rfl⟩
    · have hk : key x = -(mag x : Int) := key_neg_S (by unfold neg at hs; simpa using hs) (by simpa using hx)
      rw [hs] at hl
      have hm0 : decide (mag x = 0) = false := by simp [h0]
      rw [hm0] at hl
      have hm1 : 1 ≤ ((mag x : Nat) : Int) := by omega
      have hu := run_neg_float (P := Tryd.prog) (mag x - 1) (by have := mag_lt64 x; omega) w
      have ht : turned (mag x - 1) = x - 1 := by unfold turned mag neg S at *; simp at hs; split <;> omega
      have hc : ((((mag x : Nat) : Int) - 1).toNat) = mag x - 1 := by omega
      have H := Lib.hid hk
      clear hk h0 hi hn hs hm0
      simp only [Bool.true_and, Bool.not_false] at hl
      go_enter Tryd.func20, Tryd.ntmps20
      go_wp2_with (go_at_call 39; refine (i_rank x hx _).mono ?_; rw [H.out]; rintro e w' ⟨rfl, rfl⟩)
      go_ret
      exact ⟨by simp, rfl⟩
theorem c_next (x : Nat) (hx : x < 18446744073709551616) (w : World) : Calls Tryd.prog 22 #[.float .f64 x] w fun e w' => e = .returned (.float .f64 (nextF x)) ∧ w = w' := by
  obtain ⟨b1, b2⟩ := magZ x
  unfold nextF
  by_cases hn : nan x = true
  · rw [hn]
    go_enter Tryd.func22, Tryd.ntmps22
    go_wp2_with (first | (go_at_call 19; refine (c_isNaN x hx _).mono ?_; rintro e w' ⟨rfl, rfl⟩) | (go_at_call 41; refine (c_bits _ _).mono ?_; rintro e w' ⟨rfl, rfl⟩))
    go_ret
    exact ⟨rfl, rfl⟩
  have hn : nan x = false := by simpa using hn
  have hxi : ((x : Int) == 9218868437227405312) = decide (x = INF) := by unfold INF; rw [Bool.eq_iff_iff]; simp; omega
  rw [hn]
  by_cases hi : x = INF
  · have hi2 : decide (x = INF) = true := by simp [hi]
    rw [hi2] at hxi
    rw [hi2]
    clear hi hi2
    go_enter Tryd.func22, Tryd.ntmps22
    go_wp2_with (first | (go_at_call 19; refine (c_isNaN x hx _).mono ?_; rintro e w' ⟨rfl, rfl⟩) | (go_at_call 41; refine (c_bits _ _).mono ?_; rintro e w' ⟨rfl, rfl⟩))
    go_ret
    exact ⟨rfl, rfl⟩
  have hi : decide (x = INF) = false := by simp [hi]
  rw [hi] at hxi
  rw [hi]
  by_cases h0 : mag x = 0
  · have hz : (((mag x : Nat) : Int) == 0) = true := by simp [h0]
    rw [if_pos h0]
    clear h0 hi
    go_enter Tryd.func22, Tryd.ntmps22
    go_wp2_with (first | (go_at_call 19; refine (c_isNaN x hx _).mono ?_; rintro e w' ⟨rfl, rfl⟩) | (go_at_call 41; refine (c_bits _ _).mono ?_; rintro e w' ⟨rfl, rfl⟩) | (go_at_call 40; refine (c_mag x hx _).mono ?_; rintro e w' ⟨rfl, rfl⟩) | (go_at_call 43; refine (c_of _ _).mono ?_; rintro e w' ⟨rfl, rfl⟩))
    go_ret
    exact ⟨by simp, rfl⟩
  · rw [if_neg h0]
    have hz : (((mag x : Nat) : Int) == 0) = false := by simp [h0]
    cases hs : neg x
    · have h1 : x + 1 < 18446744073709551616 := by unfold neg S at hs; simp at hs; omega
      have h2 : IntKind.u64.wrap ((x : Int) + 1) = (x : Int) + 1 := by rw [IntKind.wrap_u64]; omega
      have h3 : ((x : Int) + 1).toNat = x + 1 := by omega
      clear h0 hi hn
      go_enter Tryd.func22, Tryd.ntmps22
      go_wp2_with (first | (go_at_call 19; refine (c_isNaN x hx _).mono ?_; rintro e w' ⟨rfl, rfl⟩) | (go_at_call 41; refine (c_bits _ _).mono ?_; rintro e w' ⟨rfl, rfl⟩) | (go_at_call 40; refine (c_mag x hx _).mono ?_; rintro e w' ⟨rfl, rfl⟩) | (go_at_call 29; refine (c_neg x hx _).mono ?_; rintro e w' ⟨rfl, rfl⟩) | (go_at_call 43; refine (c_of _ _).mono ?_; rintro e w' ⟨rfl, rfl⟩))
      go_ret
      exact ⟨by simp, rfl⟩
    · have h1 : 1 ≤ x := by unfold neg S at hs; simp at hs; omega
      have h2 : IntKind.u64.wrap ((x : Int) - 1) = (x : Int) - 1 := by rw [IntKind.wrap_u64]; omega
      have h3 : ((x : Int) - 1).toNat = x - 1 := by omega
      clear h0 hi hn
      go_enter Tryd.func22, Tryd.ntmps22
      go_wp2_with (first | (go_at_call 19; refine (c_isNaN x hx _).mono ?_; rintro e w' ⟨rfl, rfl⟩) | (go_at_call 41; refine (c_bits _ _).mono ?_; rintro e w' ⟨rfl, rfl⟩) | (go_at_call 40; refine (c_mag x hx _).mono ?_; rintro e w' ⟨rfl, rfl⟩) | (go_at_call 29; refine (c_neg x hx _).mono ?_; rintro e w' ⟨rfl, rfl⟩) | (go_at_call 43; refine (c_of _ _).mono ?_; rintro e w' ⟨rfl, rfl⟩))
      go_ret
      exact ⟨by simp, rfl⟩
theorem i_prev (x : Nat) (hx : x < 18446744073709551616) (w : World) : Calls Tryd.prog 21 #[.float .f64 x] w fun e w' => e = .returned (.float .f64 (turned (nextF (turned x)))) ∧ w = w' := by
  have h1 := run_neg_float (P := Tryd.prog) x hx w
  have h2 := run_neg_float (P := Tryd.prog) (nextF (turned x)) (nextF_lt (turned_lt hx)) w
  go_enter Tryd.func21, Tryd.ntmps21
  go_wp2_with (first | (go_at_call 20; refine (i_next _ (turned_lt hx) _).mono ?_; rintro e w' ⟨rfl, rfl⟩))
  go_ret
  exact ⟨rfl, rfl⟩
theorem c_prev (x : Nat) (hx : x < 18446744073709551616) (w : World) : Calls Tryd.prog 23 #[.float .f64 x] w fun e w' => e = .returned (.float .f64 (if nan x then x else turned (nextF (turned x)))) ∧ w = w' := by
  cases hn : nan x
  · go_enter Tryd.func23, Tryd.ntmps23
    go_wp2_with (first | (go_at_call 19; refine (c_isNaN x hx _).mono ?_; rintro e w' ⟨rfl, rfl⟩) | (go_at_call 44; (first | (with_reducible refine (c_turned x hx _).mono ?_) | (with_reducible refine (c_turned _ (nextF_lt (turned_lt hx)) _).mono ?_)); rintro e w' ⟨rfl, rfl⟩) | (go_at_call 22; refine (c_next _ (turned_lt hx) _).mono ?_; rintro e w' ⟨rfl, rfl⟩))
    go_ret
    exact ⟨rfl, rfl⟩
  · go_enter Tryd.func23, Tryd.ntmps23
    go_wp2_with (first | (go_at_call 19; refine (c_isNaN x hx _).mono ?_; rintro e w' ⟨rfl, rfl⟩))
    go_ret
    exact ⟨rfl, rfl⟩
end Go.Proofs.YtbplfkbknehmbaaDoor
