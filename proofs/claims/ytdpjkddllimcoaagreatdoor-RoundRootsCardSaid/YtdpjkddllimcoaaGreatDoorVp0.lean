/- A part of the proof (1 of 4) of this: RoundProducts: for every two floats and every mode the program's rounded product and quotient are the document's: the law returns true; condition: the table of package math/bits reads as its text lays it. -/
import Derived.Test.YtdpjkddllimcoaaGreatDoorVh1

section
/- The reference's whole numbers as words: divided by a word. -/
namespace Go.Proofs.YtdpjkddllimcoaaGreatDoor
open Go.RowKit Fl

theorem k_single (v : Value) (a d : Nat) (w : World) (hv : Nt w v a) (ha : a < 4294967296 ^ 1048575) (hd : 0 < d) (hd2 : d < 4294967296) :
    Calls Tryz.prog 156 #[v, .int .u32 d] w fun e w' => ∃ v', e = .returned (.tuple #[v', .int .u32 ((a % d : Nat) : Int)]) ∧ Ext w w' ∧ Nt w' v' (a / d) := by
  obtain ⟨zs, hs, hw, ht, rfl⟩ := hv
  have lz := len_le ht ha
  obtain ⟨i0, HI⟩ : ∃ i0, Hid (Tryz.prog.info? 70 = some i0 ∧ i0.zero = some (.int .u32 0) ∧ i0.size = 1 ∧ i0.bytes = 4) := info_parts info32
  obtain ⟨p, cap, rfl, -, -, h3⟩ := hs.form
  have HC := Lib.hid h3
  have HW := Lib.hid hw
  clear ha hs hw ht h3
  go_enter Tryz.func156, Tryz.ntmps156
  go_wp2_with (at_make; refine wpList_makeRow _ rfl _ _ _ rfl 70 i0 Tryz.underlying33 HI _ _ _ _ zs.length rfl rfl (by omega) (by omega) (by omega) ?_)
  intro wm hown hX
  have HM := Lib.hid (And.intro hown hX)
  clear hown hX
  go_wp2_with (fail)
  go_loopw [7, 8] (fun v7 v8 wr => ∃ (k R : Nat), k ≤ zs.length ∧ R < d ∧ v7 = .int .u64 R ∧ v8 = .int .i64 ((k : Int) - 1) ∧
    Hid (Ext w wr ∧ ∃ os : List Nat, os.length = zs.length ∧ Wd os ∧ Row wr 70 w.heap.size os ∧ num (os.drop k) = num (zs.drop k) / d ∧ R = num (zs.drop k) % d)) (fun _ v8 _ => (intOf v8 + 1).toNat)
  case atStart => exact ⟨zs.length, 0, Nat.le_refl _, hd, rfl, rfl, HM.out.2, _, by simp, fun z hz => by simp at hz; omega, HM.out.1, by simp [num], by simp [num]⟩
  case round =>
    obtain ⟨k, R, hk, hR, rfl, rfl, HR⟩ := hrel
    obtain ⟨os, h1, h2, h3, h4, h5⟩ := HR.out.2
    cases k with
    | zero =>
      rw [List.drop_zero, List.drop_zero] at h4
      rw [List.drop_zero] at h5
      have HS := Lib.hid (h3.slTake (by omega) h1.symm)
      have Hos := Lib.hid (And.intro h1 (And.intro h2 (And.intro h4 h5)))
      clear h1 h2 h3 h4 h5
      have hRm : (R : Int) % 4294967296 = (R : Int) := by omega
      go_wp2_with (go_at_call 128; refine (k_trim _ os _ HS.out Hos.out.2.1 (by rw [Hos.out.1]; omega)).mono ?_; rintro e w' ⟨v', rfl, rfl, hn⟩)
      go_ret2
      exact ⟨_, by rw [← Hos.out.2.2.2]; rfl, HR.out.1, by rw [← Hos.out.2.2.1]; exact hn⟩
    | succ j =>
      obtain ⟨b, off, rfl, hc⟩ := HC.out (by omega)
      have hcx : wr.cell? ⟨b, off + j, none⟩ = _ := HR.out.1.cell_some (hc j (by omega))
      have hx := HW.out.getD j
      have HD := Lib.hid (num_drop zs j)
      generalize zs.getD j 0 = x at *
      have hco := h3.cell (i := j) (by omega)
      have hfz := h3.frozen j
      generalize os.getD j 0 = o at *
      have g1 := or_high R x (by omega) hx
      obtain ⟨T, hT⟩ : ∃ T, T = R * 4294967296 + x := ⟨_, rfl⟩
      rw [← hT] at g1
      have hTb : T < 18446744073709551616 := by omega
      obtain ⟨q, hq⟩ : ∃ q, q = T / d := ⟨_, rfl⟩
      have hqd : (T : Int) / (d : Int) = (q : Int) := by rw [hq]; simp
      obtain ⟨r, hr⟩ : ∃ r, r = T % d := ⟨_, rfl⟩
      have hrd : (T : Int) % (d : Int) = (r : Int) := by rw [hr]; simp
      have hqt : (T : Int).tdiv (d : Int) = (q : Int) := by rw [hq]; exact (Int.ofNat_tdiv T d).symm
      have hrt : (T : Int).tmod (d : Int) = (r : Int) := by rw [hr]; exact (Int.ofNat_tmod T d).symm
      have hqb : q < 4294967296 := by
        rw [hq]
        refine Nat.div_lt_of_lt_mul ?_
        rw [hT]
        have := Nat.mul_le_mul_right 4294967296 (show R + 1 ≤ d by omega)
        omega
      have hrb : r < d := by rw [hr]; exact Nat.mod_lt _ hd
      have hd0 : ((d : Int) == 0) = false := by simp; omega
      have HR2 := Lib.hid (h3.set j (q : Int) q rfl (by omega))
      have HX2 : Hid (∀ q, Ext w (wr.setCell ⟨w.heap.size, j, none⟩ q)) := fun q => HR.out.1.setNew (Nat.le_refl _) q
      have HT : Hid (num ((os.set j q).drop j) = num (zs.drop j) / d ∧ r = num (zs.drop j) % d) := by
        have hs := short_step (D := num (zs.drop (j + 1))) (x := x) hd
        rw [← h5, ← hT, ← hq, ← hr, ← HD.out] at hs
        rw [← h4] at hs
        exact ⟨by rw [num_drop_set (by omega), hs.1], hs.2.symm⟩
      have Hos := Lib.hid (And.intro h1 h2)
      clear h1 h2 h3 h4 h5 hc hT hq hr
      go_wp2_with (fail)
      go_roundw
      case rel => exact ⟨j, r, by omega, hrb, rfl, by go_num, HX2.out _, os.set j q, by rw [List.length_set]; exact Hos.out.1, Hos.out.2.set _ hqb, HR2.out, HT.out.1, HT.out.2⟩
      case measure =>
        show ((j : Int) - 1 + 1).toNat < (((j + 1 : Nat) : Int) - 1 + 1).toNat
        omega
end Go.Proofs.YtdpjkddllimcoaaGreatDoor
end

section
/- The reference's whole numbers as words: divide, its small cases. -/
namespace Go.Proofs.YtdpjkddllimcoaaGreatDoor
open Go.RowKit Fl
theorem k_order_lt (v u : Value) (a b : Nat) (w : World) (hv : Nt w v a) (hu : Nt w u b) (ha : a < 4294967296 ^ 1048576) (hb : b < 4294967296 ^ 1048576) (h : a < b) :
    Calls Tryz.prog 81 #[v, u] w fun en wn => en = .returned (.int .i64 (-1)) ∧ Drw w wn := by
  have := k_order v u a b w hv hu ha hb
  rwa [cmpI_lt h] at this
theorem k_order_ge (v u : Value) (a b : Nat) (w : World) (hv : Nt w v a) (hu : Nt w u b) (ha : a < 4294967296 ^ 1048576) (hb : b < 4294967296 ^ 1048576) (h : ¬ a < b) :
    Calls Tryz.prog 81 #[v, u] w fun en wn => ∃ c : Int, 0 ≤ c ∧ c ≤ 1 ∧ en = .returned (.int .i64 c) ∧ Drw w wn := by
  refine (k_order v u a b w hv hu ha hb).mono fun e w' ⟨h1, h2⟩ => ⟨cmpI a b, ?_, ?_, h1, h2⟩
  · unfold cmpI; split; · omega
    · split <;> omega
  · unfold cmpI; split; · omega
    · split <;> omega
set_option maxRecDepth 20000 in
theorem k_divide_lt (v u : Value) (a b : Nat) (w : World) (hv : Nt w v a) (hu : Nt w u b) (ha0 : 0 < a) (ha : a < 4294967296 ^ 1048575) (hb : b < 4294967296 ^ 1048576) (h : a < b) :
    Calls Tryz.prog 131 #[v, u] w fun e w' => ∃ q r, e = .returned (.tuple #[q, r]) ∧ Ext w w' ∧ Nt w' q (a / b) ∧ Nt w' r (a % b) := by
  obtain ⟨i0, HI⟩ : ∃ i0, Hid (Tryz.prog.info? 70 = some i0 ∧ i0.zero = some (.int .u32 0) ∧ i0.size = 1 ∧ i0.bytes = 4) := info_parts info32
  have HC := Lib.hid (k_order_lt v u a b w hv hu (fit_up (k := 1048575) (l := 1048576) ha (by decide)) hb h)
  have HZ : Hid (a / b = 0 ∧ a % b = a) := ⟨Nat.div_eq_of_lt h, Nat.mod_eq_of_lt h⟩
  obtain ⟨zs, s1, s2, s3, s4⟩ := hv
  have hlz : zs.length ≤ 1048575 := len_le s3 (by rw [s4]; exact ha)
  have hz0 : zs ≠ [] := fun h => by rw [← s4, h] at ha0; simp [num] at ha0
  obtain ⟨p, cap, rfl, -⟩ := s1.form
  obtain ⟨b1, off1, rfl, -⟩ := s1.at (List.length_pos_iff.2 hz0)
  have HS := Lib.hid (And.intro s1 (And.intro s2 s4))
  clear s1 s2 s3 s4 hz0 hu ha0 ha hb h
  go_enter Tryz.func131, Tryz.ntmps131
  go_wp2_with (fail)
  refine HC.out.mono ?_
  rintro e w1 ⟨rfl, hd⟩
  have HD := Lib.hid hd.ext
  clear hd
  go_wp2_with (at_make; refine wpList_make32 _ rfl _ _ _ rfl 70 i0 Tryz.underlying33 HI _ _ _ _ 0 0 rfl rfl (by omega) (by omega) (by omega) (by omega) ?_)
  intro w3 hown hx3
  have H3 : Hid (Ow w3 w1.heap.size 70 (.slice (some ⟨w1.heap.size, 0, none⟩) 0 0) 0 [] ∧ Ext w1 w3 ∧ Sl w3 (.slice (some ⟨b1, off1, none⟩) zs.length cap) zs) := ⟨hown, hx3, (HS.out.1.ext HD.out).ext hx3⟩
  clear hown hx3
  go_wp2_with (at_builtin; refine wpList_all32 rfl (.tmp 32) (.tmp 33) _ rfl 70 i0 Tryz.underlying33 HI _ b1 off1 cap zs rfl rfl H3.out.1 H3.out.2.1 (by omega) H3.out.2.2 ?_)
  intro p4 c4 w4 hs4 hx4
  have H4 := Lib.hid (And.intro hs4 (HD.out.trans hx4))
  clear hs4 hx4
  go_wp2_with (go_at_call 128; refine (k_trim _ zs _ H4.out.1 HS.out.2.1 (by omega)).mono ?_; rintro e w' ⟨v', rfl, rfl, hn⟩)
  go_ret2
  exact ⟨_, _, rfl, H4.out.2, by rw [HZ.out.1]; exact Nt.nil _, by rw [HZ.out.2, ← HS.out.2.2]; exact hn⟩
set_option maxRecDepth 20000 in
theorem k_divide_one (v : Value) (a b : Nat) (w : World) (p : Option Addr) (cap : Nat) (hv : Nt w v a) (hs : Sl w (.slice p 1 cap) [b]) (hb0 : 0 < b) (hb : b < 4294967296) (ha : a < 4294967296 ^ 1048575) (h : ¬ a < b) :
    Calls Tryz.prog 131 #[v, .slice p 1 cap] w fun e w' => ∃ q r, e = .returned (.tuple #[q, r]) ∧ Ext w w' ∧ Nt w' q (a / b) ∧ Nt w' r (a % b) := by
  have HNb : Hid (Nt w (.slice p 1 cap) b) := ⟨[b], hs, fun z hz => by simp at hz; omega, by unfold Tm; simp; omega, by simp [num]⟩
  have HC := Lib.hid (k_order_ge v (.slice p 1 cap) a b w hv HNb.out (fit_up (k := 1048575) (l := 1048576) ha (by decide)) (fit_word (l := 1048576) hb (by decide)) h)
  have HV := Lib.hid hv
  have HA := Lib.hid ha
  obtain ⟨b1, o1, rfl, hc⟩ : ∃ b1 o1, p = some ⟨b1, o1, none⟩ ∧ w.cell? ⟨b1, o1, none⟩ = some (.int .u32 (b : Int)) := by
    rcases hs with ⟨h1, h2⟩ | ⟨b1, o1, c1, h1, h2, h3, h4⟩
    · simp at h2
    · injection h1 with e1 e2 e3
      subst e1
      exact ⟨b1, o1, rfl, h4 0 (by simp)⟩
  have HC1 := Lib.hid hc
  clear hv ha h hs hc
  go_enter Tryz.func131, Tryz.ntmps131
  go_wp2_with (fail)
  refine HC.out.mono ?_
  rintro e w1 ⟨c, hc0, hc1, rfl, hd⟩
  have HD := Lib.hid hd.ext
  have hc := hd.ext.cell_some HC1.out
  clear hd
  have t1 : decide (c < 0) = false := by simp; omega
  clear hc0 hc1
  go_wp2_with (fail)
  refine (k_single _ a b _ (HV.out.ext HD.out) HA.out hb0 hb).mono ?_
  rintro e w2 ⟨v1, rfl, hx, hn⟩
  have HD2 := Lib.hid (And.intro (HD.out.trans hx) hn)
  have hr : a % b < 4294967296 := Nat.lt_trans (Nat.mod_lt _ hb0) hb
  obtain ⟨r, HR⟩ : ∃ r, Hid (r = a % b) := ⟨_, rfl⟩
  rw [← HR.out] at hr ⊢
  have HT : Hid (∃ t, Ext w2 (w2.alloc (.cells #[.int .u32 (r : Int)] t)) ∧ ∀ t, Sl (w2.alloc (.cells #[.int .u32 (r : Int)] t)) (.slice (some ⟨w2.heap.size, 0, none⟩) 1 1) [r]) := by
    refine ⟨0, (Ext.refl _).alloc _, fun t => .inr ⟨w2.heap.size, 0, 1, rfl, Nat.le_refl _, by unfold maxLen; omega, fun i hi => ?_⟩⟩
    have : i = 0 := by simp at hi; omega
    subst this
    exact cell_new _ _ _ 0
  clear hx hn hc t1
  go_wp2_with (go_at_call 128; refine (k_trim _ [r] _ (HT.out.choose_spec.2 _) (fun z hz => by simp at hz; omega) (by simp)).mono ?_; rintro e w' ⟨v', rfl, rfl, hn⟩)
  go_ret2
  refine ⟨_, _, rfl, HD2.out.1.alloc _, HD2.out.2.ext ((Ext.refl _).alloc _), ?_⟩
  rw [← HR.out]
  simpa [num] using hn
end Go.Proofs.YtdpjkddllimcoaaGreatDoor
end
