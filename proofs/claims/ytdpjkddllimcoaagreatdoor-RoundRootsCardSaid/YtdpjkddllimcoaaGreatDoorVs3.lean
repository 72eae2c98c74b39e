/- A part of the proof (4 of 18) of this: RoundSums: for every two floats and every mode the program's rounded sum and difference are the document's: the law returns true; condition: the table of package math/bits reads as its text lays it. -/
import Derived.Test.YtdpjkddllimcoaaGreatDoorProg
import Derived.WalkKit
import Derived.LoopTactic
import Derived.Deep.QuietTactic
import Derived.BigQuiet
import Derived.Outline
import Derived.Test.YtdpjkddllimcoaaGreatDoorVs2

section
/- Whole numbers as words: cmp. -/
namespace Fl
open Go
/-- how two numbers compare. -/
def cmpI (a b : Nat) : Int := if a < b then -1 else if a = b then 0 else 1
theorem num_at {zs : List Nat} {k : Nat} (hk : k < zs.length) : num zs = num (zs.take k) + 4294967296 ^ k * (zs.getD k 0 + 4294967296 * num (zs.drop (k + 1))) := by
  have h := num_take_drop zs k
  rw [List.length_take, Nat.min_eq_left (Nat.le_of_lt hk), List.drop_eq_getElem_cons hk] at h
  rw [h, num, List.getD_eq_getElem?_getD, List.getElem?_eq_getElem hk]
  rfl
theorem num_lt_at {zs ys : List Nat} {k : Nat} (hz : Wd zs) (hk : k < zs.length) (hk' : k < ys.length) (hd : zs.drop (k + 1) = ys.drop (k + 1)) (h : zs.getD k 0 < ys.getD k 0) : num zs < num ys := by
  rw [num_at hk, num_at hk', hd]
  have h1 := num_lt (hz.take k)
  rw [List.length_take, Nat.min_eq_left (Nat.le_of_lt hk)] at h1
  have h2 := Nat.mul_le_mul_left (4294967296 ^ k) (show zs.getD k 0 + 4294967296 * num (ys.drop (k + 1)) + 1 ≤ ys.getD k 0 + 4294967296 * num (ys.drop (k + 1)) by omega)
  rw [Nat.mul_add, Nat.mul_one] at h2
  omega
theorem num_lt_len {zs ys : List Nat} (hz : Wd zs) (ty : Tm ys) (h : zs.length < ys.length) : num zs < num ys := by
  have h1 := num_lt hz
  have h2 := num_ge ty (by intro e; subst e; simp at h)
  have h3 := Nat.pow_le_pow_right (show 0 < 4294967296 by decide) (show zs.length ≤ ys.length - 1 by omega)
  omega
theorem drop_eq {zs ys : List Nat} {j : Nat} (h1 : j < zs.length) (h2 : j < ys.length) (hd : zs.drop (j + 1) = ys.drop (j + 1)) (h : zs.getD j 0 = ys.getD j 0) : zs.drop j = ys.drop j := by
  rw [List.getD_eq_getElem?_getD, List.getD_eq_getElem?_getD, List.getElem?_eq_getElem h1, List.getElem?_eq_getElem h2] at h
  rw [List.drop_eq_getElem_cons h1, List.drop_eq_getElem_cons h2, hd]
  congr 1
theorem cmpI_lt {a b : Nat} (h : a < b) : cmpI a b = -1 := by unfold cmpI; simp [h]
theorem cmpI_gt {a b : Nat} (h : b < a) : cmpI a b = 1 := by unfold cmpI; rw [if_neg (by omega), if_neg (by omega)]
theorem cmpI_eq {a b : Nat} (h : a = b) : cmpI a b = 0 := by unfold cmpI; rw [if_neg (by omega), if_pos h]
end Fl
namespace Go.Proofs.YtdpjkddllimcoaaGreatDoor
open Go.RowKit Fl

theorem n_cmp (v u : Value) (a b : Nat) (w : World) (hv : Nt w v a) (hu : Nt w u b) (ha : a < 4294967296 ^ 1048576) (hb : b < 4294967296 ^ 1048576) :
    Calls Tryz.prog 147 #[v, u] w fun en wn => en = .returned (.int .i64 (cmpI a b)) ∧ Drw w wn := by
  obtain ⟨zs, hs, hw, ht, rfl⟩ := hv
  obtain ⟨ys, hs', hw', ht', rfl⟩ := hu
  have lz := len_le ht ha
  have ly := len_le ht' hb
  obtain ⟨p, cap, rfl, _, _, h3⟩ := hs.form
  obtain ⟨p', cap', rfl, _, _, h3'⟩ := hs'.form
  clear ha hb hs hs'
  rcases Nat.lt_trichotomy zs.length ys.length with hl | hl | hl
  · have e1 : ((zs.length : Int) != (ys.length : Int)) = true := by simp; omega
    have e2 : decide (zs.length < ys.length) = true := by simp; omega
    have HR := Lib.hid (cmpI_lt (num_lt_len hw ht' hl))
    clear hl hw hw' ht ht' h3 h3'
    go_enter Tryz.func147, Tryz.ntmps147
    go_wp2_with (fail)
    go_ret
    exact ⟨congrArg (fun q => Ending.returned (Value.int .i64 q)) HR.out.symm, Drw.refl _⟩
  · have e1 : ((zs.length : Int) != (ys.length : Int)) = false := by simp; omega
    have HC := Lib.hid h3
    have HC' := Lib.hid h3'
    have HL := Lib.hid hl
    have HW := Lib.hid hw
    have HW' := Lib.hid hw'
    clear h3 h3' hl hw hw' ht ht'
    go_enter Tryz.func147, Tryz.ntmps147
    go_wp2_with (fail)
    go_loopw [5] (fun v wr => ∃ k : Nat, k ≤ zs.length ∧ v = .int .i64 ((k : Int) - 1) ∧ Hid (zs.drop k = ys.drop k) ∧ Drw w wr) (fun v _ => (intOf v + 1).toNat)
    case atStart => exact ⟨zs.length, Nat.le_refl _, rfl, by show _ = _; rw [List.drop_length, HL.out, List.drop_length], Drw.refl w⟩
    case round =>
      obtain ⟨k, hk, rfl, hd, hwr⟩ := hrel
      cases k with
      | zero =>
        have HR : Hid (cmpI (num zs) (num ys) = 0) := cmpI_eq (by have := hd.out; simp at this; rw [this])
        have Hw := Lib.hid hwr
        clear hwr hd
        go_wp2_with (fail)
        go_ret
        exact ⟨congrArg (fun q => Ending.returned (Value.int .i64 q)) HR.out.symm, Hw.out⟩
      | succ j =>
        have hc := HC.out (by omega)
        have hc' := HC'.out (by have := HL.out; omega)
        obtain ⟨b, off, rfl, hc⟩ := hc
        obtain ⟨b', off', rfl, hc'⟩ := hc'
        have g := (hwr.cell ⟨b, off + j, none⟩).trans (hc j (by omega))
        have g' := (hwr.cell ⟨b', off' + j, none⟩).trans (hc' j (by have := HL.out; omega))
        have HD : Hid (zs.getD j 0 = ys.getD j 0 → zs.drop j = ys.drop j) := fun h => drop_eq (by omega) (by have := HL.out; omega) hd.out h
        have H1 : Hid (zs.getD j 0 < ys.getD j 0 → cmpI (num zs) (num ys) = -1) := fun h => cmpI_lt (num_lt_at HW.out (by omega) (by have := HL.out; omega) hd.out h)
        have H2 : Hid (ys.getD j 0 < zs.getD j 0 → cmpI (num zs) (num ys) = 1) := fun h => cmpI_gt (num_lt_at HW'.out (by have := HL.out; omega) (by omega) hd.out.symm h)
        have hj' : j < ys.length := by have := HL.out; omega
        generalize zs.getD j 0 = x at *
        generalize ys.getD j 0 = y at *
        have Hw := Lib.hid hwr
        clear hwr hd hc hc' HC HC'
        rcases Nat.lt_trichotomy x y with h | h | h
        · have t1 : ((x : Int) != (y : Int)) = true := by simp; omega
          have t2 : decide (x < y) = true := by simp; omega
          have HR := Lib.hid (H1.out h)
          clear h HD H1 H2
          go_wp2_with (fail)
          go_quiet (fail)
          go_wp2_with (fail)
          go_quiet (fail)
          go_wp2_with (fail)
          go_ret
          exact ⟨congrArg (fun q => Ending.returned (Value.int .i64 q)) HR.out.symm, (Hw.out.drewN _).drewN _⟩
        · subst h
          have t1 : ((x : Int) != (x : Int)) = false := by simp
          have HR := Lib.hid (HD.out rfl)
          clear HD H1 H2
          go_wp2_with (fail)
          go_quiet (fail)
          go_wp2_with (fail)
          go_roundw
          case rel => exact ⟨j, by omega, by go_num, HR, Hw.out.drewN _⟩
          case measure =>
            show ((j : Int) - 1 + 1).toNat < (((j + 1 : Nat) : Int) - 1 + 1).toNat
            omega
        · have t1 : ((x : Int) != (y : Int)) = true := by simp; omega
          have t2 : decide (x < y) = false := by simp; omega
          have HR := Lib.hid (H2.out h)
          clear h HD H1 H2
          go_wp2_with (fail)
          go_quiet (fail)
          go_wp2_with (fail)
          go_quiet (fail)
          go_wp2_with (fail)
          go_ret
          exact ⟨congrArg (fun q => Ending.returned (Value.int .i64 q)) HR.out.symm, (Hw.out.drewN _).drewN _⟩
  · have e1 : ((zs.length : Int) != (ys.length : Int)) = true := by simp; omega
    have e2 : decide (zs.length < ys.length) = false := by simp; omega
    have HR := Lib.hid (cmpI_gt (num_lt_len hw' ht hl))
    clear hl hw hw' ht ht' h3 h3'
    go_enter Tryz.func147, Tryz.ntmps147
    go_wp2_with (fail)
    go_ret
    exact ⟨congrArg (fun q => Ending.returned (Value.int .i64 q)) HR.out.symm, Drw.refl _⟩
end Go.Proofs.YtdpjkddllimcoaaGreatDoor
end
