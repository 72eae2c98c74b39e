/- A part of the proof (3 of 18) of this: RoundSums: for every two floats and every mode the program's rounded sum and difference are the document's: the law returns true; condition: the table of package math/bits reads as its text lays it. -/
import Derived.Test.YtdpjkddllimcoaaGreatDoorProg
import Derived.WalkKit
import Derived.LoopTactic
import Derived.BigQuiet
import Derived.Outline
import Derived.Test.YtdpjkddllimcoaaGreatDoorVs1

section
/- Whole numbers as words: trim. -/
namespace Go.Proofs.YtdpjkddllimcoaaGreatDoor
open Go.RowKit Fl

theorem n_trim (v : Value) (zs : List Nat) (w : World) (hs : Sl w v zs) (hw : Wd zs) (hb : zs.length ≤ 16777216) :
    Calls Tryz.prog 159 #[v] w fun e w' => ∃ v', e = .returned v' ∧ w = w' ∧ Nt w v' (num zs) := by
  obtain ⟨p, cap, rfl, h1, h2, h3⟩ := hs.form
  have HC := Lib.hid h3
  have HE : Hid (∀ m, m ≤ zs.length → Hid (num (zs.take m) = num zs) → Tm (zs.take m) → Nt w (.slice p m cap) (num zs)) := fun m hm hn ht => ⟨zs.take m, hs.take m hm, hw.take m, ht, hn⟩
  have HL := Lib.hid h1
  clear h3 hw h1 h2 hs
  go_enter Tryz.func159, Tryz.ntmps159
  go_wp2_with (fail)
  go_loop [0] (fun v => ∃ m, m ≤ zs.length ∧ v = .slice p m cap ∧ Hid (num (zs.take m) = num zs)) (fun v => lenOf v)
  case atStart => exact ⟨zs.length, Nat.le_refl _, rfl, by rw [List.take_length]; exact rfl⟩
  case round =>
    obtain ⟨m, hm, rfl, hn⟩ := hrel
    cases m with
    | zero =>
      go_wp2_with (fail)
      go_ret
      exact ⟨_, rfl, rfl, HE.out 0 hm hn Tm.nil⟩
    | succ k =>
      obtain ⟨b, off, rfl, hc'⟩ := HC.out (by omega)
      have hc := hc' k (by omega)
      have hkc : k ≤ cap := by have := HL.out; omega
      clear hc' HC
      generalize hz : zs.getD k 0 = z at hc
      have Hz := Lib.hid hz
      clear hz
      by_cases h0 : z = 0
      · subst h0
        go_wp2_with (fail)
        refine ⟨⟨k, by omega, rfl, ?_⟩, Nat.lt_succ_self k⟩
        have := num_take_succ (zs := zs) (k := k) (by omega)
        rw [Hz.out, hn.out] at this
        show _ = _
        omega
      · have hz0 : ((z : Int) == 0) = false := by simp; omega
        have HT : Hid (Tm (zs.take (k + 1))) := Tm_take_succ (by omega) (by rw [Hz.out]; exact h0)
        clear h0
        go_wp2_with (fail)
        go_ret
        exact ⟨_, rfl, rfl, HE.out (k + 1) hm hn HT.out⟩
end Go.Proofs.YtdpjkddllimcoaaGreatDoor
end

section
/- Whole numbers as words: small. -/
namespace Go.Proofs.YtdpjkddllimcoaaGreatDoor
open Go.RowKit Fl
theorem n_small (x : Nat) (h : x < 18446744073709551616) (w : World) :
    Calls Tryz.prog 157 #[.int .u64 x] w fun e w' => ∃ v', e = .returned v' ∧ Ext w w' ∧ Nt w' v' x := by
  have HS : Hid (∀ t, Sl (w.alloc (.cells #[.int .u32 ((x : Int) % 4294967296), .int .u32 ((x : Int) / 4294967296)] t)) (.slice (some ⟨w.heap.size, 0, none⟩) 2 2) [x % 4294967296, x / 4294967296]) := by
    intro t
    refine .inr ⟨w.heap.size, 0, 2, rfl, by simp, by decide, fun i hi => ?_⟩
    have : i = 0 ∨ i = 1 := by simp at hi; omega
    rcases this with rfl | rfl <;> simp
  have HX : Hid (∀ o, Ext w (w.alloc o)) := fun o => (Ext.refl w).alloc o
  have HW : Hid (Wd [x % 4294967296, x / 4294967296]) := by
    intro z hz
    simp at hz
    omega
  have HN : Hid (num [x % 4294967296, x / 4294967296] = x) := by
    show _ = _
    simp only [num]
    omega
  go_enter Tryz.func157, Tryz.ntmps157
  go_wp2_with (go_at_call 159; refine (n_trim _ _ _ (HS.out _) HW.out (by simp)).mono ?_; rintro e w' ⟨v', rfl, rfl, hn⟩)
  go_ret
  exact ⟨_, rfl, HX.out _, by rw [HN.out] at hn; exact hn⟩
end Go.Proofs.YtdpjkddllimcoaaGreatDoor
end
