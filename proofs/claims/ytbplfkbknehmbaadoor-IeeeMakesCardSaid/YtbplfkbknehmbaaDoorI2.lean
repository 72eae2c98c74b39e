/- The walks of layer 1 and of its reference: how far apart, classes, units, parts. -/
import Derived.Test.YtbplfkbknehmbaaDoorI1
import Derived.Test.YtbplfkbknehmbaaDoorLe
namespace Fl
theorem key_bound {x : Nat} (hx : x < 18446744073709551616) (hn : nan x = false) : -9218868437227405312 ≤ key x ∧ key x ≤ 9218868437227405312 := by
  unfold key nan mag S INF at *
  simp at hn
  split <;> omega
end Fl
namespace Go.Proofs.YtbplfkbknehmbaaDoor
open Go.RowKit Fl
attribute [local go_sem] m_bits m_of

theorem i_apart (a b : Nat) (ha : a < 18446744073709551616) (hb : b < 18446744073709551616) (w : World) :
    Calls Tryd.prog 14 #[.float .f64 a, .float .f64 b] w fun e w' => e = .returned (.tuple #[.int .u64 (apartF a b).1, .bool (apartF a b).2]) ∧ w = w' := by
  have h1 : flt a b = _ := flt_eq (by simpa using ha) (by simpa using hb)
  have h2 : feq a b = _ := feq_eq (by simpa using ha) (by simpa using hb)
  by_cases hc : (nan a || nan b || decide (key b < key a)) = true
  · have e : apartF a b = (0, false) := by unfold apartF; rw [if_pos hc]
    have e1 : flt a b = false := by
      rw [h1]; simp at hc; cases hna : nan a <;> cases hnb : nan b <;> simp_all; omega
    have e2 : feq a b = false := by
      rw [h2]; simp at hc; cases hna : nan a <;> cases hnb : nan b <;> simp_all; omega
    rw [e]
    clear h1 h2 hc e
    go_enter Tryd.func14, Tryd.ntmps14
    go_wp2
    go_ret2
    exact ⟨rfl, rfl⟩
  · have e : apartF a b = ((key b - key a).toNat, true) := by unfold apartF; rw [if_neg hc]
    simp at hc
    obtain ⟨⟨na, nb⟩, hk⟩ := hc
    obtain ⟨a1, a2⟩ := key_bound ha na
    obtain ⟨b1, b2⟩ := key_bound hb nb
    have hw : IntKind.u64.wrap (wrap64 (key b - key a)) = (((key b - key a).toNat : Nat) : Int) := by
      rw [IntKind.wrap_u64]; unfold wrap64; omega
    rw [e]
    have ho : flt a b = true ∨ (flt a b = false ∧ feq a b = true) := by
      rw [h1, h2, na, nb]; simp; omega
    clear h1 h2 na nb e
    rcases ho with ho | ⟨ho, ho2⟩
    · go_enter Tryd.func14, Tryd.ntmps14
      go_wp2_with (go_at_call 39; refine (i_rank _ (by assumption) _).mono ?_; rintro e w' ⟨rfl, rfl⟩)
      go_ret2
      exact ⟨by simp, rfl⟩
    · go_enter Tryd.func14, Tryd.ntmps14
      go_wp2_with (go_at_call 39; refine (i_rank _ (by assumption) _).mono ?_; rintro e w' ⟨rfl, rfl⟩)
      go_ret2
      exact ⟨by simp, rfl⟩
set_option maxHeartbeats 400000 in
theorem c_apart (a b : Nat) (ha : a < 18446744073709551616) (hb : b < 18446744073709551616) (w : World) :
    Calls Tryd.prog 15 #[.float .f64 a, .float .f64 b] w fun e w' => e = .returned (.tuple #[.int .u64 (apartF a b).1, .bool (apartF a b).2]) ∧ w = w' := by
  obtain ⟨ma1, ma2⟩ := magZ a
  obtain ⟨mb1, mb2⟩ := magZ b
  by_cases na : nan a = true
  · have e : apartF a b = (0, false) := by unfold apartF; rw [na]; rfl
    rw [e]
    go_enter Tryd.func15, Tryd.ntmps15
    go_wp2_with (first | (go_at_call 19; refine (c_isNaN _ (by assumption) _).mono ?_; rintro e w' ⟨rfl, rfl⟩))
    go_ret2
    exact ⟨rfl, rfl⟩
  have na : nan a = false := by simpa using na
  by_cases nb : nan b = true
  · have e : apartF a b = (0, false) := by unfold apartF; rw [nb, na]; rfl
    rw [e]
    go_enter Tryd.func15, Tryd.ntmps15
    go_wp2_with (first | (go_at_call 19; refine (c_isNaN _ (by assumption) _).mono ?_; rintro e w' ⟨rfl, rfl⟩))
    go_ret2
    exact ⟨rfl, rfl⟩
  have nb : nan b = false := by simpa using nb
  obtain ⟨a1, a2⟩ := key_bound ha na
  obtain ⟨b1, b2⟩ := key_bound hb nb
  have ka : (neg a = false ∧ key a = mag a) ∨ (neg a = true ∧ key a = -(mag a : Int)) := by
    unfold neg
    by_cases h : S ≤ a
    · right; exact ⟨by simp [h], key_neg_S h (by simpa using ha)⟩
    · left; exact ⟨by simp; omega, key_pos_S h⟩
  have kb : (neg b = false ∧ key b = mag b) ∨ (neg b = true ∧ key b = -(mag b : Int)) := by
    unfold neg
    by_cases h : S ≤ b
    · right; exact ⟨by simp [h], key_neg_S h (by simpa using hb)⟩
    · left; exact ⟨by simp; omega, key_pos_S h⟩
  by_cases hk : key b < key a
  · have e : apartF a b = (0, false) := by unfold apartF; rw [nb, na]; simp [hk]
    rw [e]
    rcases ka with ⟨sa, ea⟩ | ⟨sa, ea⟩ <;> rcases kb with ⟨sb, eb⟩ | ⟨sb, eb⟩
    all_goals
      rw [ea, eb] at hk
      clear ea eb e
      go_enter Tryd.func15, Tryd.ntmps15
      go_wp2_with (first | (go_at_call 19; refine (c_isNaN _ (by assumption) _).mono ?_; rintro e w' ⟨rfl, rfl⟩) | (go_at_call 40; refine (c_mag _ (by assumption) _).mono ?_; rintro e w' ⟨rfl, rfl⟩) | (go_at_call 29; refine (c_neg _ (by assumption) _).mono ?_; rintro e w' ⟨rfl, rfl⟩))
      go_ret2
      exact ⟨rfl, rfl⟩
  · have e : apartF a b = ((key b - key a).toNat, true) := by unfold apartF; rw [nb, na]; simp [hk]
    rw [e]
    rcases ka with ⟨sa, ea⟩ | ⟨sa, ea⟩ <;> rcases kb with ⟨sb, eb⟩ | ⟨sb, eb⟩
    all_goals
      rw [ea, eb] at hk
      have hw : IntKind.u64.wrap (IntKind.u64.wrap (key b) - IntKind.u64.wrap (key a)) = (((key b - key a).toNat : Nat) : Int) := by
        rw [IntKind.wrap_u64, IntKind.wrap_u64, IntKind.wrap_u64]; omega
      rw [ea, eb] at hw
      rw [ea, eb]
      have HW := Lib.hid hw
      clear hw
      rw [ea] at a1 a2
      rw [eb] at b1 b2
      clear ea eb e
      go_enter Tryd.func15, Tryd.ntmps15
      go_wp2_with (first | (go_at_call 19; refine (c_isNaN _ (by assumption) _).mono ?_; rintro e w' ⟨rfl, rfl⟩) | (go_at_call 40; refine (c_mag _ (by assumption) _).mono ?_; rintro e w' ⟨rfl, rfl⟩) | (go_at_call 29; refine (c_neg _ (by assumption) _).mono ?_; rintro e w' ⟨rfl, rfl⟩))
      go_ret2
      exact ⟨ret2_int (by have hw := HW.out; simp only [IntKind.wrap_u64] at *; omega), rfl⟩
end Go.Proofs.YtbplfkbknehmbaaDoor
