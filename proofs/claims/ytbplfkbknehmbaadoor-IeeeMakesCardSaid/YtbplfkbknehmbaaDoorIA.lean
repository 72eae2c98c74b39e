/- The law of what parts make: its walk. -/
import Derived.Test.YtbplfkbknehmbaaDoorI8
import Derived.Deep.QuietTactic
import Derived.BigQuiet
namespace Go.Proofs.YtbplfkbknehmbaaDoor
open Go.RowKit Fl

theorem w_makes_ok (s : Bool) (m : Nat) (e mode : Int) (hm : mode = 1 ∨ mode = 2 ∨ mode = 3) (h1 : m < 18446744073709551616) (w : World) (hT : Tab64 w) :
    Calls Tryd.prog 4 #[.agg #[.bool s, .int .u64 m, .int .i64 e, .int .i64 mode]] w (fun en wn => en = .returned (.bool true) ∧ Ext w wn) := by
  have HA := Lib.hid (fun w => i_make s m e mode hm h1 w)
  have HC := Lib.hid (fun w => drw_of (c_make s m e mode hm h1 w))
  have hl : word s (rnd (cD m e) (aim s mode)) < 18446744073709551616 := word_lt (by have := rnd_le (c := cD m e) (d := aim s mode); unfold INF at this; unfold S; omega)
  generalize word s (rnd (cD m e) (aim s mode)) = R at *
  have HS := Lib.hid (fun w => drw_of (l_same R R hl hl w))
  rw [sameF_self] at HS
  clear hm
  go_enter Tryd.func4, Tryd.ntmps4
  go_wp2_with (fail)
  have HX : Hid (∀ o, Ext w (w.alloc o)) := fun o => (Ext.refl w).alloc o
  have HSu : Hid (∀ o n, Calls Tryd.prog 10 #[] ((w.alloc o).drewN n) (fun en wn => en = .returned (.bool true) ∧ Drw ((w.alloc o).drewN n) wn)) := fun o n => l_sure _ (fun i hi => ((HX.out o).drewN n).cell_some (hT i hi))
  clear hT
  go_quiet (first | (go_at_call 12; exact quiet_d (HA.out _)) | (go_at_call 13; exact quiet_d (HC.out _)) | (go_at_call 11; exact quiet_d (HS.out _)) | (go_at_call 10; exact quiet_d (HSu.out _ _)))
  go_wp2_with (fail)
  go_ret
  exact ⟨rfl, (HX.out _).drewN _⟩
theorem w_makes_no (s : Bool) (m : Nat) (e mode : Int) (hm : mode < 1 ∨ 3 < mode) (w : World) (hT : Tab64 w) :
    Calls Tryd.prog 4 #[.agg #[.bool s, .int .u64 m, .int .i64 e, .int .i64 mode]] w (fun en wn => en = .returned (.bool true) ∧ Ext w wn) := by
  have HA := Lib.hid (fun w => drw_of (i_make_no s m e mode (by omega) (by omega) (by omega) w))
  have HC := Lib.hid (fun w => drw_of (c_make_no s m e mode hm w))
  have HS := Lib.hid (fun w => drw_of (l_same 9221120237041090561 9221120237041090560 (by decide) (by decide) w))
  rw [show sameF 9221120237041090561 9221120237041090560 = true by decide] at HS
  clear hm
  go_enter Tryd.func4, Tryd.ntmps4
  go_wp2_with (fail)
  have HX : Hid (∀ o, Ext w (w.alloc o)) := fun o => (Ext.refl w).alloc o
  have HSu : Hid (∀ o n, Calls Tryd.prog 10 #[] ((w.alloc o).drewN n) (fun en wn => en = .returned (.bool true) ∧ Drw ((w.alloc o).drewN n) wn)) := fun o n => l_sure _ (fun i hi => ((HX.out o).drewN n).cell_some (hT i hi))
  clear hT
  go_quiet (first | (go_at_call 12; exact quiet_d (HA.out _)) | (go_at_call 13; exact quiet_d (HC.out _)) | (go_at_call 11; exact quiet_d (HS.out _)) | (go_at_call 10; exact quiet_d (HSu.out _ _)))
  go_wp2_with (fail)
  go_ret
  exact ⟨rfl, (HX.out _).drewN _⟩
theorem w_makes (s : Bool) (m : Nat) (e mode : Int) (h1 : m < 18446744073709551616) (w : World) (hT : Tab64 w) :
    Calls Tryd.prog 4 #[.agg #[.bool s, .int .u64 m, .int .i64 e, .int .i64 mode]] w (fun en wn => en = .returned (.bool true) ∧ Ext w wn) := by
  by_cases hm : mode = 1 ∨ mode = 2 ∨ mode = 3
  · exact w_makes_ok s m e mode hm h1 w hT
  · exact w_makes_no s m e mode (by omega) w hT
end Go.Proofs.YtbplfkbknehmbaaDoor
