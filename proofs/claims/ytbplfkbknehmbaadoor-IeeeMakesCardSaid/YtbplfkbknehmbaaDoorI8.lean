/- The reference's Make; the law on it. -/
import Derived.Test.YtbplfkbknehmbaaDoorI6
import Derived.Test.YtbplfkbknehmbaaDoorI7
namespace Go.Proofs.YtbplfkbknehmbaaDoor
open Go.RowKit Fl
attribute [local go_sem] m_bits m_of

theorem c_pack (s : Bool) (m : Nat) (e mode : Int) (hm : mode = 1 ∨ mode = 2 ∨ mode = 3) (h1 : m < 18446744073709551616) (w : World) :
    Calls Tryd.prog 38 #[.bool s, .int .u64 m, .int .i64 e, .bool false, .int .i64 mode] w fun en wn => en = .returned (.float .f64 (word s (rnd (cD m e) (aim s mode)))) ∧ w = wn := by
  rcases Nat.eq_zero_or_pos m with h0 | h0
  · subst h0
    rw [rnd_zero]
    exact c_pack_zero s e mode hm w
  · by_cases he : e < -20000 ∨ 20000 < e
    · exact c_pack_far s m e mode hm h0 h1 he w
    · obtain ⟨n, n1, n2, n3, n4⟩ := norm64 h0 h1
      obtain ⟨l, hl⟩ : ∃ l : Nat, max (e - n + 63 - 52) (-1074) = (l : Int) - 1074 := ⟨(max (e - n + 63 - 52) (-1074) + 1074).toNat, by omega⟩
      obtain ⟨sh, hsh⟩ : ∃ sh : Nat, max (e - n + 63 - 52) (-1074) - (e - n) = sh := ⟨(max (e - n + 63 - 52) (-1074) - (e - n)).toNat, by omega⟩
      exact c_pack_fin s m e mode n sh l hm h0 h1 (by omega) (by omega) n1 n3 n4 hsh hl w
theorem c_make (s : Bool) (m : Nat) (e mode : Int) (hm : mode = 1 ∨ mode = 2 ∨ mode = 3) (h1 : m < 18446744073709551616) (w : World) :
    Calls Tryd.prog 13 #[.bool s, .int .u64 m, .int .i64 e, .int .i64 mode] w fun en wn => en = .returned (.float .f64 (word s (rnd (cD m e) (aim s mode)))) ∧ w = wn := by
  have HP := Lib.hid (c_pack s m e mode hm h1)
  generalize word s (rnd (cD m e) (aim s mode)) = R at *
  have a1 : decide (mode < 1) = false := by simp; omega
  have a2 : decide ((3 : Int) < mode) = false := by simp; omega
  clear hm
  go_enter Tryd.func13, Tryd.ntmps13
  go_wp2_with (first | (go_at_call 38; refine (HP.out _).mono ?_; rintro e w' ⟨rfl, rfl⟩))
  go_ret
  exact ⟨rfl, rfl⟩
theorem c_make_no (s : Bool) (m : Nat) (e mode : Int) (h : mode < 1 ∨ 3 < mode) (w : World) :
    Calls Tryd.prog 13 #[.bool s, .int .u64 m, .int .i64 e, .int .i64 mode] w fun en wn => en = .returned (.float .f64 9221120237041090560) ∧ w = wn := by
  rcases h with h | h
  · have a1 : decide (mode < 1) = true := by simp; omega
    clear h
    go_enter Tryd.func13, Tryd.ntmps13
    go_wp2_with (first | (go_at_call 37; refine (c_not _).mono ?_; rintro e w' ⟨rfl, rfl⟩))
    go_ret
    exact ⟨rfl, rfl⟩
  · have a1 : decide (mode < 1) = false := by simp; omega
    have a2 : decide ((3 : Int) < mode) = true := by simp; omega
    clear h
    go_enter Tryd.func13, Tryd.ntmps13
    go_wp2_with (first | (go_at_call 37; refine (c_not _).mono ?_; rintro e w' ⟨rfl, rfl⟩))
    go_ret
    exact ⟨rfl, rfl⟩
end Go.Proofs.YtbplfkbknehmbaaDoor
