/- A part of the proof (5 of 18) of this: RoundSums: for every two floats and every mode the program's rounded sum and difference are the document's: the law returns true; condition: the table of package math/bits reads as its text lays it. -/
import Derived.Deep.CutBlock
import Derived.Deep.Cut
import Derived.Deep.DeepCutAuto
import Derived.Test.YtdpjkddllimcoaaGreatDoorVs3

section
/- Whole numbers as words: add. -/
namespace Go.Proofs.YtdpjkddllimcoaaGreatDoor
open Go.RowKit Fl
theorem info32 : (Tryz.prog.info? 70).map (fun i => (i.zero, i.size, i.bytes)) = some (some (.int .u32 0), 1, 4) := by kernel_rfl

theorem n_add (v u : Value) (a b : Nat) (w : World) (hv : Nt w v a) (hu : Nt w u b) (ha : a < 4294967296 ^ 1048575) (hb : b < 4294967296 ^ 1048575) :
    Calls Tryz.prog 164 #[v, u] w fun e w' => ∃ v', e = .returned v' ∧ Ext w w' ∧ Nt w' v' (a + b) := by
  obtain ⟨zs, hs, hw, ht, rfl⟩ := hv
  obtain ⟨ys, hs', hw', ht', rfl⟩ := hu
  have lz := len_le ht ha
  have ly := len_le ht' hb
  obtain ⟨i0, HI⟩ : ∃ i0, Hid (Tryz.prog.info? 70 = some i0 ∧ i0.zero = some (.int .u32 0) ∧ i0.size = 1 ∧ i0.bytes = 4) := info_parts info32
  have HZ := Lib.hid (And.intro hs (And.intro hw ht))
  have HY := Lib.hid (And.intro hs' (And.intro hw' ht'))
  obtain ⟨p, cap, rfl, -⟩ := hs.form
  obtain ⟨p', cap', rfl, -⟩ := hs'.form
  clear ha hb hs hs' hw hw' ht ht'
  go_enter Tryz.func164, Tryz.ntmps164
  go_upto_if 13 with (fail)
  go_cut [0, 1] (fun v0 v1 wc => ∃ (p p' : Option Addr) (cap cap' : Nat) (xs us : List Nat), v0 = .slice p xs.length cap ∧ v1 = .slice p' us.length cap' ∧ us.length ≤ xs.length ∧ xs.length ≤ 1048575 ∧ w = wc ∧ Hid (num xs + num us = num zs + num ys ∧ Sl w (.slice p xs.length cap) xs ∧ Sl w (.slice p' us.length cap') us ∧ Wd xs ∧ Wd us ∧ Tm xs))
  case first =>
    by_cases hl : zs.length < ys.length
    · go_wp2_with (fail)
      go_meet
      case rel => exact ⟨_, _, _, _, ys, zs, rfl, rfl, Nat.le_of_lt hl, ly, rfl, Nat.add_comm _ _, HY.out.1, HZ.out.1, HY.out.2.1, HZ.out.2.1, HY.out.2.2⟩
    · go_wp2_with (fail)
      go_meet
      case rel => exact ⟨_, _, _, _, zs, ys, rfl, rfl, Nat.le_of_not_lt hl, lz, rfl, rfl, HZ.out.1, HY.out.1, HZ.out.2.1, HY.out.2.1, HZ.out.2.2⟩
  case rest =>
    obtain ⟨p, p', cap, cap', xs, us, rfl, rfl, hlu, lx, rfl, HD⟩ := hcut
    clear HZ HY lz ly
    have Hlu := Lib.hid hlu
    clear hlu
    go_wp2_with (refine wpList_make_own _ rfl _ _ _ rfl w.heap.size 70 i0 _ 1 Tryz.underlying93 HI.out.1 HI.out.2.1 HI.out.2.2.1 _ _ _ (xs.length + 1) rfl rfl (by omega) (by rw [HI.out.2.2.2]; omega) (by unfold maxLen; omega) (Nat.le_refl _) ?_)
    intro wm hown hgrow
    have HM := Lib.hid (And.intro hown ((Ext.refl w).grown hgrow (fun k hk => by cases hk)))
    clear hown hgrow
    have HC := Lib.hid (HD.out.2.1.form)
    go_wp2_with (fail)
    go_loopw [5, 6, 22] (fun v5 v6 v22 wr => ∃ (k C : Nat), k ≤ xs.length ∧ C ≤ 1 ∧ v22 = .int .i64 k ∧ v6 = .int .u64 C ∧ v5 = .slice (some ⟨w.heap.size, 0, none⟩) k (xs.length + 1) ∧
      Hid (Ext w wr ∧ ∃ os : List Nat, os.length = k ∧ Wd os ∧ wr.ownsRow w.heap.size 70 1 (.slice (some ⟨w.heap.size, 0, none⟩) k (xs.length + 1)) k (os.map W32) ∧ num os + 4294967296 ^ k * C = num (xs.take k) + num (us.take k))) (fun _ _ v22 _ => xs.length - (intOf v22).toNat)
    case atStart => exact ⟨0, 0, Nat.zero_le _, by omega, rfl, rfl, rfl, HM.out.2, [], rfl, Wd.nil, HM.out.1, by simp [num]⟩
    case round =>
      obtain ⟨k, C, hk, hC, rfl, rfl, rfl, HR⟩ := hrel
      by_cases hlt : k < xs.length
      · obtain ⟨b, off, rfl, hc⟩ : ∃ b off, p = some ⟨b, off, none⟩ ∧ wr.cell? ⟨b, off + k, none⟩ = some (.int .u32 ((xs.getD k 0 : Nat) : Int)) := by
          obtain ⟨p0, cap0, e, _, _, h3⟩ := HC.out
          injection e with e1 e2 e3
          subst e1
          obtain ⟨b, off, rfl, h4⟩ := h3 (by omega)
          exact ⟨b, off, rfl, HR.out.1.cell_some (h4 k hlt)⟩
        have hx := HD.out.2.2.2.1.getD k
        have hy := HD.out.2.2.2.2.1.getD k
        obtain ⟨os, h1, h2, h3, h4⟩ := HR.out.2
        have HO := Lib.hid h3
        have Hos := Lib.hid (And.intro h1 (And.intro h2 h4))
        clear h1 h2 h3 h4
        generalize hX : xs.getD k 0 = x at *
        generalize hY : us.getD k 0 = y at *
        have Hx := Lib.hid hX
        have Hy := Lib.hid hY
        clear hX hY
        by_cases hlu : k < us.length
        · obtain ⟨b', off', rfl, hc'⟩ : ∃ b off, p' = some ⟨b, off, none⟩ ∧ wr.cell? ⟨b, off + k, none⟩ = some (.int .u32 ((y : Nat) : Int)) := by
            obtain ⟨p0, cap0, e, _, _, h3⟩ := HD.out.2.2.1.form
            injection e with e1 e2 e3
            subst e1
            obtain ⟨b, off, rfl, h4⟩ := h3 (by omega)
            exact ⟨b, off, rfl, HR.out.1.cell_some (by rw [← Hy.out]; exact h4 k hlu)⟩
          have e3 : decide (k < us.length) = true := by simp; omega
          go_wp2_with (at_builtin; refine wpList_append_fits _ rfl (.tmp 42) (.tmp 45) _ rfl w.heap.size 70 i0 1 Tryz.underlying93 HI.out.1 HI.out.2.2.1 w.heap.size k (xs.length + 1) (os.map W32) rfl (HO.out.alloc _) ⟨wr.heap.size, 0, none⟩ 1 1 [.int .u32 (((C : Int) + x + y) % 4294967296)] rfl rfl (lay1 _ _ _) (one1 _ _) (by omega) ?_)
          intro w1 hown' hgrow
          have HO' := Lib.hid (And.intro hown' (((HR.out.1).alloc _).grown hgrow (fun q hq => by injection hq with hq; omega)))
          clear hown' hgrow
          go_wp2_with (fail)
          go_roundw
          case rel =>
            refine ⟨k + 1, (C + x + y) / 4294967296, hlt, by omega, by go_num, by go_num, by go_num, HO'.out.2, os ++ [(C + x + y) % 4294967296], by simp [Hos.out.1], Hos.out.2.1.snoc (by omega), ?_, ?_⟩
            · have := HO'.out.1
              rw [map_snoc os ((C + x + y) % 4294967296) _ (by omega)] at this
              exact this
            · have := sum_round (C := C) (y := x + y) Hos.out.1 Hos.out.2.2
              rw [num_take_succ', num_take_succ', Hx.out, Hy.out]
              rw [← Nat.add_assoc C] at this
              rw [this, Nat.mul_add]
              omega
          case measure =>
            show xs.length - (((k + 1 : Nat) : Int)).toNat < xs.length - ((k : Int)).toNat
            omega
        · have hy0 : y = 0 := by
            rw [← Hy.out, List.getD_eq_getElem?_getD, List.getElem?_eq_none (by omega)]; rfl
          subst hy0
          have e3 : decide (k < us.length) = false := by simp; omega
          clear hy
          go_wp2_with (at_builtin; refine wpList_append_fits _ rfl (.tmp 42) (.tmp 45) _ rfl w.heap.size 70 i0 1 Tryz.underlying93 HI.out.1 HI.out.2.2.1 w.heap.size k (xs.length + 1) (os.map W32) rfl (HO.out.alloc _) ⟨wr.heap.size, 0, none⟩ 1 1 [.int .u32 (((C : Int) + x) % 4294967296)] rfl rfl (lay1 _ _ _) (one1 _ _) (by omega) ?_)
          intro w1 hown' hgrow
          have HO' := Lib.hid (And.intro hown' (((HR.out.1).alloc _).grown hgrow (fun q hq => by injection hq with hq; omega)))
          clear hown' hgrow
          go_wp2_with (fail)
          go_roundw
          case rel =>
            refine ⟨k + 1, (C + x + 0) / 4294967296, hlt, by omega, by go_num, by go_num, by go_num, HO'.out.2, os ++ [(C + x + 0) % 4294967296], by simp [Hos.out.1], Hos.out.2.1.snoc (by omega), ?_, ?_⟩
            · have := HO'.out.1
              rw [map_snoc os ((C + x + 0) % 4294967296) _ (by omega)] at this
              exact this
            · have := sum_round (C := C) (y := x + 0) Hos.out.1 Hos.out.2.2
              rw [num_take_succ', num_take_succ', Hx.out, Hy.out]
              rw [← Nat.add_assoc C] at this
              rw [this, Nat.mul_add]
              omega
          case measure =>
            show xs.length - (((k + 1 : Nat) : Int)).toNat < xs.length - ((k : Int)).toNat
            omega
      · have hke : k = xs.length := by omega
        subst hke
        clear hk hlt
        obtain ⟨os, h1, h2, h3, h4⟩ := HR.out.2
        rw [List.take_length, List.take_of_length_le Hlu.out, HD.out.1] at h4
        have HO := Lib.hid h3
        have HX := Lib.hid HR.out.1
        have hge : Hid (xs ≠ [] → 4294967296 ^ (xs.length - 1) ≤ num zs + num ys) := fun he => by
          have := num_ge HD.out.2.2.2.2.2 he
          have := HD.out.1
          omega
        have hC2 : C = 0 ∨ C = 1 := by omega
        rcases hC2 with rfl | rfl
        · have HT : Hid (Nt wr (.slice (some ⟨w.heap.size, 0, none⟩) xs.length (xs.length + 1)) (num zs + num ys)) := by
            have h5 : num os = num zs + num ys := by rw [← h4]; simp
            refine ⟨os, Sl.of_own h3, h2, Tm_of_ge h2 (fun he => ?_), h5⟩
            rw [h1, h5]
            exact hge.out (by intro e; subst e; exact he (List.eq_nil_of_length_eq_zero h1))
          clear h1 h2 h3 h4 hC hge HR
          go_wp2_with (fail)
          go_ret
          exact ⟨_, rfl, HX.out, HT.out⟩
        · have HH := Lib.hid (And.intro h1 (And.intro h2 h4))
          clear h1 h2 h3 h4 hC hge HR
          go_wp2_with (at_builtin; refine wpList_append_fits _ rfl (.tmp 52) (.tmp 55) _ rfl w.heap.size 70 i0 1 Tryz.underlying93 HI.out.1 HI.out.2.2.1 w.heap.size xs.length (xs.length + 1) (os.map W32) rfl (HO.out.alloc _) ⟨wr.heap.size, 0, none⟩ 1 1 [.int .u32 1] rfl rfl (lay1 _ _ _) (one1 _ _) (by omega) ?_)
          intro w1 hown' hgrow
          have HO' := Lib.hid (And.intro hown' (((HX.out).alloc _).grown hgrow (fun q hq => by injection hq with hq; omega)))
          clear hown' hgrow
          go_wp2_with (fail)
          go_ret
          refine ⟨_, rfl, HO'.out.2, os ++ [1], ?_, HH.out.2.1.snoc (by decide), Tm_snoc (by decide), ?_⟩
          · have := HO'.out.1
            rw [map_snoc os 1 1 rfl] at this
            exact Sl.of_own this
          · rw [num_snoc, HH.out.1]
            exact HH.out.2.2
end Go.Proofs.YtdpjkddllimcoaaGreatDoor
end

section
/- Whole numbers as words: sub. -/
namespace Fl
open Go
/-- one round of a difference: the word that is laid, what is borrowed. -/
theorem diff_round {os : List Nat} {k C C' X Y x y d : Nat} (hl : os.length = k) (h : X + 4294967296 ^ k * C = num os + Y) (hd : x + 4294967296 * C' = d + (y + C)) :
    X + 4294967296 ^ k * x + 4294967296 ^ (k + 1) * C' = num (os ++ [d]) + (Y + 4294967296 ^ k * y) := by
  have h1 : 4294967296 ^ k * (x + 4294967296 * C') = 4294967296 ^ k * (d + (y + C)) := by rw [hd]
  rw [num_snoc, hl, Nat.pow_succ, Nat.mul_assoc]
  rw [Nat.mul_add, Nat.mul_add, Nat.mul_add] at h1
  omega
end Fl
namespace Go.Proofs.YtdpjkddllimcoaaGreatDoor
open Go.RowKit Fl

theorem n_sub (v u : Value) (a b : Nat) (w : World) (hv : Nt w v a) (hu : Nt w u b) (ha : a < 4294967296 ^ 1048575) (hba : b ≤ a) :
    Calls Tryz.prog 166 #[v, u] w fun e w' => ∃ v', e = .returned v' ∧ Ext w w' ∧ Nt w' v' (a - b) := by
  obtain ⟨zs, hs, hw, ht, rfl⟩ := hv
  obtain ⟨ys, hs', hw', ht', rfl⟩ := hu
  have lz := len_le ht ha
  have ly := len_le ht' (Nat.lt_of_le_of_lt hba (num_lt hw))
  obtain ⟨i0, HI⟩ : ∃ i0, Hid (Tryz.prog.info? 70 = some i0 ∧ i0.zero = some (.int .u32 0) ∧ i0.size = 1 ∧ i0.bytes = 4) := info_parts info32
  have HZ := Lib.hid (And.intro hs (And.intro hw ht))
  have HY := Lib.hid (And.intro hs' (And.intro hw' ht'))
  have HC := Lib.hid hs.form
  have HB := Lib.hid hba
  have HLy := Lib.hid ly
  obtain ⟨p, cap, rfl, -⟩ := hs.form
  obtain ⟨p', cap', rfl, -⟩ := hs'.form
  clear ha hba hs hs' hw hw' ht ht' ly
  go_enter Tryz.func166, Tryz.ntmps166
  go_wp2_with (refine wpList_make_own _ rfl _ _ _ rfl w.heap.size 70 i0 _ 1 Tryz.underlying93 HI.out.1 HI.out.2.1 HI.out.2.2.1 _ _ _ zs.length rfl rfl rfl (by rw [HI.out.2.2.2]; omega) (by unfold maxLen; omega) (Nat.le_refl _) ?_)
  intro wm hown hgrow
  have HM := Lib.hid (And.intro hown ((Ext.refl w).grown hgrow (fun k hk => by cases hk)))
  clear hown hgrow
  go_wp2_with (fail)
  go_loopw [5, 6, 15] (fun v5 v6 v15 wr => ∃ (k C : Nat), k ≤ zs.length ∧ C ≤ 1 ∧ v15 = .int .i64 k ∧ v6 = .int .u64 C ∧ v5 = .slice (some ⟨w.heap.size, 0, none⟩) k zs.length ∧
    Hid (Ext w wr ∧ ∃ os : List Nat, os.length = k ∧ Wd os ∧ wr.ownsRow w.heap.size 70 1 (.slice (some ⟨w.heap.size, 0, none⟩) k zs.length) k (os.map W32) ∧ num (zs.take k) + 4294967296 ^ k * C = num os + num (ys.take k))) (fun _ _ v15 _ => zs.length - (intOf v15).toNat)
  case atStart => exact ⟨0, 0, Nat.zero_le _, by omega, rfl, rfl, rfl, HM.out.2, [], rfl, Wd.nil, HM.out.1, by simp [num]⟩
  case round =>
    obtain ⟨k, C, hk, hC, rfl, rfl, rfl, HR⟩ := hrel
    by_cases hlt : k < zs.length
    · obtain ⟨b, off, rfl, hc⟩ : ∃ b off, p = some ⟨b, off, none⟩ ∧ wr.cell? ⟨b, off + k, none⟩ = some (.int .u32 ((zs.getD k 0 : Nat) : Int)) := by
        obtain ⟨p0, cap0, e, _, _, h3⟩ := HC.out
        injection e with e1 e2 e3
        subst e1
        obtain ⟨b, off, rfl, h4⟩ := h3 (by omega)
        exact ⟨b, off, rfl, HR.out.1.cell_some (h4 k hlt)⟩
      have hx := HZ.out.2.1.getD k
      have hy := HY.out.2.1.getD k
      obtain ⟨os, h1, h2, h3, h4⟩ := HR.out.2
      have HO := Lib.hid h3
      have Hos := Lib.hid (And.intro h1 (And.intro h2 h4))
      clear h1 h2 h3 h4
      generalize hX : zs.getD k 0 = x at *
      generalize hY : ys.getD k 0 = y at *
      have Hx := Lib.hid hX
      have Hy := Lib.hid hY
      clear hX hY
      by_cases hlu : k < ys.length
      · obtain ⟨b', off', rfl, hc'⟩ : ∃ b off, p' = some ⟨b, off, none⟩ ∧ wr.cell? ⟨b, off + k, none⟩ = some (.int .u32 ((y : Nat) : Int)) := by
          obtain ⟨p0, cap0, e, _, _, h3⟩ := HY.out.1.form
          injection e with e1 e2 e3
          subst e1
          obtain ⟨b, off, rfl, h4⟩ := h3 (by omega)
          exact ⟨b, off, rfl, HR.out.1.cell_some (by rw [← Hy.out]; exact h4 k hlu)⟩
        have e3 : decide (k < ys.length) = true := by simp; omega
        by_cases hxt : x < C + y
        · have e4 : decide (((x : Nat) : Int) < (C : Int) + y) = true := by simp; omega
          go_wp2_with (at_builtin; refine wpList_append_fits _ rfl (.tmp 36) (.tmp 42) _ rfl w.heap.size 70 i0 1 Tryz.underlying93 HI.out.1 HI.out.2.2.1 w.heap.size k zs.length (os.map W32) rfl (HO.out.alloc _) ⟨wr.heap.size, 0, none⟩ 1 1 [.int .u32 (((x : Int) - ((C : Int) + y)) % 18446744073709551616 % 4294967296)] rfl rfl (lay1 _ _ _) (one1 _ _) (by omega) ?_)
          intro w1 hown' hgrow
          have HO' := Lib.hid (And.intro hown' (((HR.out.1).alloc _).grown hgrow (fun q hq => by injection hq with hq; omega)))
          clear hown' hgrow
          go_wp2_with (fail)
          go_roundw
          case rel =>
            refine ⟨k + 1, 1, hlt, by omega, by go_num, by go_num, by go_num, HO'.out.2, os ++ [x + 4294967296 - (C + y)], by simp [Hos.out.1], Hos.out.2.1.snoc (by omega), ?_, ?_⟩
            · have := HO'.out.1
              rw [map_snoc os (x + 4294967296 - (C + y)) _ (by omega)] at this
              exact this
            · rw [num_take_succ', num_take_succ', Hx.out, Hy.out]
              exact diff_round Hos.out.1 Hos.out.2.2 (by omega)
          case measure =>
            show zs.length - (((k + 1 : Nat) : Int)).toNat < zs.length - ((k : Int)).toNat
            omega
        · have e4 : decide (((x : Nat) : Int) < (C : Int) + y) = false := by simp; omega
          go_wp2_with (at_builtin; refine wpList_append_fits _ rfl (.tmp 36) (.tmp 42) _ rfl w.heap.size 70 i0 1 Tryz.underlying93 HI.out.1 HI.out.2.2.1 w.heap.size k zs.length (os.map W32) rfl (HO.out.alloc _) ⟨wr.heap.size, 0, none⟩ 1 1 [.int .u32 ((x : Int) - ((C : Int) + y))] rfl rfl (lay1 _ _ _) (one1 _ _) (by omega) ?_)
          intro w1 hown' hgrow
          have HO' := Lib.hid (And.intro hown' (((HR.out.1).alloc _).grown hgrow (fun q hq => by injection hq with hq; omega)))
          clear hown' hgrow
          go_wp2_with (fail)
          go_roundw
          case rel =>
            refine ⟨k + 1, 0, hlt, by omega, by go_num, by go_num, by go_num, HO'.out.2, os ++ [x - (C + y)], by simp [Hos.out.1], Hos.out.2.1.snoc (by omega), ?_, ?_⟩
            · have := HO'.out.1
              rw [map_snoc os (x - (C + y)) _ (by omega)] at this
              exact this
            · rw [num_take_succ', num_take_succ', Hx.out, Hy.out]
              exact diff_round Hos.out.1 Hos.out.2.2 (by omega)
          case measure =>
            show zs.length - (((k + 1 : Nat) : Int)).toNat < zs.length - ((k : Int)).toNat
            omega
      · have hy0 : y = 0 := by
          rw [← Hy.out, List.getD_eq_getElem?_getD, List.getElem?_eq_none (by omega)]; rfl
        subst hy0
        have e3 : decide (k < ys.length) = false := by simp; omega
        clear hy
        by_cases hxt : x < C
        · have e4 : decide (((x : Nat) : Int) < (C : Int)) = true := by simp; omega
          go_wp2_with (at_builtin; refine wpList_append_fits _ rfl (.tmp 36) (.tmp 42) _ rfl w.heap.size 70 i0 1 Tryz.underlying93 HI.out.1 HI.out.2.2.1 w.heap.size k zs.length (os.map W32) rfl (HO.out.alloc _) ⟨wr.heap.size, 0, none⟩ 1 1 [.int .u32 (((x : Int) - ((C : Int))) % 18446744073709551616 % 4294967296)] rfl rfl (lay1 _ _ _) (one1 _ _) (by omega) ?_)
          intro w1 hown' hgrow
          have HO' := Lib.hid (And.intro hown' (((HR.out.1).alloc _).grown hgrow (fun q hq => by injection hq with hq; omega)))
          clear hown' hgrow
          go_wp2_with (fail)
          go_roundw
          case rel =>
            refine ⟨k + 1, 1, hlt, by omega, by go_num, by go_num, by go_num, HO'.out.2, os ++ [x + 4294967296 - (C)], by simp [Hos.out.1], Hos.out.2.1.snoc (by omega), ?_, ?_⟩
            · have := HO'.out.1
              rw [map_snoc os (x + 4294967296 - (C)) _ (by omega)] at this
              exact this
            · rw [num_take_succ', num_take_succ', Hx.out, Hy.out]
              exact diff_round Hos.out.1 Hos.out.2.2 (by omega)
          case measure =>
            show zs.length - (((k + 1 : Nat) : Int)).toNat < zs.length - ((k : Int)).toNat
            omega
        · have e4 : decide (((x : Nat) : Int) < (C : Int)) = false := by simp; omega
          go_wp2_with (at_builtin; refine wpList_append_fits _ rfl (.tmp 36) (.tmp 42) _ rfl w.heap.size 70 i0 1 Tryz.underlying93 HI.out.1 HI.out.2.2.1 w.heap.size k zs.length (os.map W32) rfl (HO.out.alloc _) ⟨wr.heap.size, 0, none⟩ 1 1 [.int .u32 ((x : Int) - ((C : Int)))] rfl rfl (lay1 _ _ _) (one1 _ _) (by omega) ?_)
          intro w1 hown' hgrow
          have HO' := Lib.hid (And.intro hown' (((HR.out.1).alloc _).grown hgrow (fun q hq => by injection hq with hq; omega)))
          clear hown' hgrow
          go_wp2_with (fail)
          go_roundw
          case rel =>
            refine ⟨k + 1, 0, hlt, by omega, by go_num, by go_num, by go_num, HO'.out.2, os ++ [x - (C)], by simp [Hos.out.1], Hos.out.2.1.snoc (by omega), ?_, ?_⟩
            · have := HO'.out.1
              rw [map_snoc os (x - (C)) _ (by omega)] at this
              exact this
            · rw [num_take_succ', num_take_succ', Hx.out, Hy.out]
              exact diff_round Hos.out.1 Hos.out.2.2 (by omega)
          case measure =>
            show zs.length - (((k + 1 : Nat) : Int)).toNat < zs.length - ((k : Int)).toNat
            omega
    · have hke : k = zs.length := by omega
      subst hke
      clear hk hlt
      obtain ⟨os, h1, h2, h3, h4⟩ := HR.out.2
      rw [List.take_length, List.take_of_length_le HLy.out] at h4
      have HX := Lib.hid HR.out.1
      have HN : Hid (num os = num zs - num ys) := by
        have := num_lt h2
        rw [h1] at this
        have := HB.out
        rcases (show C = 0 ∨ C = 1 by omega) with rfl | rfl
        · show _ = _; omega
        · show _ = _; omega
      have HT := Lib.hid (And.intro (Sl.of_own h3) h2)
      have hol : os.length ≤ 16777216 := by omega
      clear h1 h2 h3 h4 hC HR
      go_wp2_with (go_at_call 159; refine (n_trim _ _ _ HT.out.1 HT.out.2 hol).mono ?_; rintro e w' ⟨v', rfl, rfl, hn⟩)
      go_ret
      exact ⟨_, rfl, HX.out, by rw [HN.out] at hn; exact hn⟩
end Go.Proofs.YtdpjkddllimcoaaGreatDoor
end

section
/- Whole numbers as words: shl. -/
namespace Fl
open Go
/-- what is above and what is below a bit do not meet. -/
theorem or_low (P C s : Nat) (hP : P < 4294967296) (hd : P % 2 ^ s = 0) (hC : C < 2 ^ s) (hC' : C < 2147483648) : bits .or .u32 (P : Int) (C : Int) = ((P + C : Nat) : Int) ∧ P + C < 4294967296 := by
  have h := u32_or_nat P C hP (by omega)
  have e : P ||| C = P + C := by
    have e1 : P = 2 ^ s * (P / 2 ^ s) := by have := Nat.div_add_mod P (2 ^ s); omega
    rw [e1, ← Nat.two_pow_add_eq_or_of_lt hC]
  have h2 : P ||| C < 2 ^ 32 := Nat.or_lt_two_pow (by simpa using hP) (by omega)
  rw [e] at h h2
  exact ⟨h, by simpa using h2⟩
theorem num_replicate0 (q : Nat) : num (List.replicate q 0) = 0 := by
  induction q with
  | zero => rfl
  | succ q ih => rw [List.replicate_succ, num, ih]
theorem shl_mod {x s : Nat} (hs : s < 32) : (x * 2 ^ s % 4294967296) % 2 ^ s = 0 := by
  have e : (4294967296 : Nat) = 2 ^ s * 2 ^ (32 - s) := by rw [← Nat.pow_add, show s + (32 - s) = 32 by omega]
  rw [e, Nat.mul_comm x, Nat.mul_mod_mul_left, Nat.mul_mod_right]
/-- one round of a shift up. -/
theorem shl_round {os : List Nat} {q j k s C x T : Nat} (hl : os.length = q + j) (hk : k = 32 * q + s) (h : num os + 4294967296 ^ (q + j) * C = T * 2 ^ k) :
    num (os ++ [x * 2 ^ s % 4294967296 + C]) + 4294967296 ^ (q + (j + 1)) * (x * 2 ^ s / 4294967296) = (T + 4294967296 ^ j * x) * 2 ^ k := by
  have e : 2 ^ k = 4294967296 ^ q * 2 ^ s := by
    rw [hk, Nat.pow_add, Nat.pow_mul]
  rw [num_snoc, hl, ← Nat.add_assoc q j 1, Nat.pow_succ, Nat.mul_assoc, Nat.add_mul, ← h, Nat.add_assoc, Nat.add_assoc, ← Nat.mul_add]
  congr 1
  have e2 : 4294967296 ^ j * x * 2 ^ k = 4294967296 ^ (q + j) * (x * 2 ^ s) := by
    rw [e, Nat.pow_add]; ac_rfl
  rw [e2, ← Nat.mul_add]
  congr 1
  have := Nat.mod_add_div (x * 2 ^ s) 4294967296
  omega
end Fl
namespace Go.Proofs.YtdpjkddllimcoaaGreatDoor
open Go.RowKit Fl

theorem n_shl (v : Value) (a k : Nat) (w : World) (hv : Nt w v a) (ha : a < 4294967296 ^ 1048575) (hk : k < 33554432) :
    Calls Tryz.prog 141 #[v, .int .u64 k] w fun e w' => ∃ v', e = .returned v' ∧ Ext w w' ∧ Nt w' v' (a * 2 ^ k) := by
  obtain ⟨zs, hs, hw, ht, rfl⟩ := hv
  have lz := len_le ht ha
  obtain ⟨i0, HI⟩ : ∃ i0, Hid (Tryz.prog.info? 70 = some i0 ∧ i0.zero = some (.int .u32 0) ∧ i0.size = 1 ∧ i0.bytes = 4) := info_parts info32
  have HZ := Lib.hid (And.intro hs (And.intro hw ht))
  have HC := Lib.hid hs.form
  obtain ⟨p, cap, rfl, -⟩ := hs.form
  clear ha hs hw
  by_cases h0 : zs = []
  · subst h0
    have HN := Lib.hid (Nt.nil w)
    clear ht
    go_enter Tryz.func141, Tryz.ntmps141
    go_wp2_with (fail)
    go_ret
    exact ⟨_, rfl, Ext.refl w, by simpa [num] using HN.out⟩
  · have hl : 0 < zs.length := List.length_pos_iff.2 h0
    have e1 : ((zs.length : Int) == 0) = false := by simp; omega
    clear ht h0
    obtain ⟨q, hq⟩ : ∃ q, q = k / 32 := ⟨_, rfl⟩
    obtain ⟨s, hs⟩ : ∃ s, s = k % 32 := ⟨_, rfl⟩
    have hqi : (k : Int) / 32 = (q : Int) := by omega
    have hsi : (k : Int) % 32 = (s : Int) := by omega
    have hs32 : s < 32 := by omega
    have hq32 : q ≤ 1048576 := by omega
    have HK : Hid (k = 32 * q + s) := by show _ = _; omega
    clear hq hs hk
    go_enter Tryz.func141, Tryz.ntmps141
    go_wp2_with (at_make; refine wpList_make32 _ rfl _ _ _ rfl 70 i0 Tryz.underlying93 HI _ _ _ _ q (zs.length + q + 1) rfl rfl (by omega) (by omega) (by omega) (by omega) ?_)
    intro wm hown hX
    have HM := Lib.hid (And.intro hown hX)
    clear hown hX
    go_wp2_with (fail)
    simp only [hsi]
    go_loopw [5, 7, 28] (fun v5 v7 v28 wr => ∃ (j C : Nat), j ≤ zs.length ∧ C < 2147483648 ∧ v28 = .int .i64 j ∧ v7 = .int .u32 C ∧ v5 = .slice (some ⟨w.heap.size, 0, none⟩) (q + j) (zs.length + q + 1) ∧
      Hid (Ext w wr ∧ C < 2 ^ s ∧ ∃ os : List Nat, os.length = q + j ∧ Wd os ∧ wr.ownsRow w.heap.size 70 1 (.slice (some ⟨w.heap.size, 0, none⟩) (q + j) (zs.length + q + 1)) (q + j) (os.map W32) ∧ num os + 4294967296 ^ (q + j) * C = num (zs.take j) * 2 ^ k)) (fun _ _ v28 _ => zs.length - (intOf v28).toNat)
    case atStart => exact ⟨0, 0, Nat.zero_le _, by decide, rfl, rfl, rfl, HM.out.2, Nat.two_pow_pos s, List.replicate q 0, by simp, fun z hz => by simp at hz; omega, by rw [List.map_replicate]; exact HM.out.1, by rw [num_replicate0]; simp [num]⟩
    case round =>
      obtain ⟨j, C, hj, hC, rfl, rfl, rfl, HR⟩ := hrel
      by_cases hlt : j < zs.length
      · obtain ⟨b, off, rfl, hc⟩ : ∃ b off, p = some ⟨b, off, none⟩ ∧ wr.cell? ⟨b, off + j, none⟩ = some (.int .u32 ((zs.getD j 0 : Nat) : Int)) := by
          obtain ⟨p0, cap0, e, _, _, h3⟩ := HC.out
          injection e with e1 e2 e3
          subst e1
          obtain ⟨b, off, rfl, h4⟩ := h3 (by omega)
          exact ⟨b, off, rfl, HR.out.1.cell_some (h4 j hlt)⟩
        have hx := HZ.out.2.1.getD j
        obtain ⟨os, h1, h2, h3, h4⟩ := HR.out.2.2
        have HO := Lib.hid h3
        have Hos := Lib.hid (And.intro h1 (And.intro h2 h4))
        clear h1 h2 h3 h4
        generalize hX : zs.getD j 0 = x at *
        have Hx := Lib.hid hX
        clear hX
        obtain ⟨P, hP⟩ : ∃ P, P = x * 2 ^ s := ⟨_, rfl⟩
        have hPi : (x : Int) * 2 ^ s = (P : Int) := by rw [hP]; simp
        have hPb : P < 9223372036854775808 := by
          have h1 : 2 ^ s ≤ 2 ^ 31 := Nat.pow_le_pow_right (by decide) (by omega)
          have h2 : x * 2 ^ s ≤ 4294967295 * 2 ^ 31 := Nat.mul_le_mul (by omega) h1
          have h3 : (2 : Nat) ^ 31 = 2147483648 := by decide
          omega
        obtain ⟨g1, g2⟩ := or_low (P % 4294967296) C s (Nat.mod_lt _ (by decide)) (by rw [hP]; exact shl_mod hs32) HR.out.2.1 hC
        rw [show ((P % 4294967296 : Nat) : Int) = (P : Int) % 4294967296 by omega] at g1
        obtain ⟨d, hd⟩ : ∃ d, d = P % 4294967296 + C := ⟨_, rfl⟩
        rw [← hd] at g1 g2
        have HP := Lib.hid hP
        have Hg := Lib.hid g2
        have Hd := Lib.hid hd
        clear hP g2 hd
        go_wp2_with (at_builtin; refine wpList_push32 rfl (.tmp 32) (.tmp 38) _ rfl w.heap.size 70 i0 Tryz.underlying93 HI w.heap.size (q + j) (zs.length + q + 1) os _ d _ rfl rfl HO.out HR.out.1 (Nat.le_refl _) (by omega) rfl ?_)
        intro w1 hown' hX'
        have HO' := Lib.hid (And.intro hown' hX')
        clear hown' hX'
        go_wp2_with (fail)
        go_roundw
        case rel =>
          refine ⟨j + 1, P / 4294967296, hlt, by omega, by go_num, by go_num, by go_num, HO'.out.2, ?_, os ++ [d], by simp [Hos.out.1]; omega, Hos.out.2.1.snoc Hg.out, by have := HO'.out.1; rw [← Nat.add_assoc, List.map_append]; exact this, ?_⟩
          · rw [HP.out]
            exact Nat.div_lt_of_lt_mul ((Nat.mul_lt_mul_right (Nat.two_pow_pos s)).2 hx)
          · rw [num_take_succ', Hx.out, Hd.out, HP.out]
            exact shl_round Hos.out.1 HK.out Hos.out.2.2
        case measure =>
          show zs.length - (((j + 1 : Nat) : Int)).toNat < zs.length - ((j : Int)).toNat
          omega
      · have hke : j = zs.length := by omega
        subst hke
        clear hj hlt
        obtain ⟨os, h1, h2, h3, h4⟩ := HR.out.2.2
        rw [List.take_length] at h4
        have HO := Lib.hid h3
        have Hos := Lib.hid (And.intro h1 (And.intro h2 h4))
        clear h1 h2 h3 h4
        go_wp2_with (first | (at_builtin; refine wpList_push32 rfl (.tmp 47) (.tmp 49) _ rfl w.heap.size 70 i0 Tryz.underlying93 HI w.heap.size (q + zs.length) (zs.length + q + 1) os _ C _ rfl rfl HO.out HR.out.1 (Nat.le_refl _) (by omega) rfl ?_; intro w1 hown' hX'; have HO' : Hid (Sl w1 (.slice (some ⟨w.heap.size, 0, none⟩) (q + zs.length + 1) (zs.length + q + 1)) (os ++ [C]) ∧ Ext w w1) := And.intro (Sl.of_own hown') hX'; clear hown' hX') | (go_at_call 159; refine (n_trim _ (os ++ [C]) _ HO'.out.1 (Hos.out.2.1.snoc (by omega)) (by simp [Hos.out.1]; omega)).mono ?_; rintro e w' ⟨v', rfl, rfl, hn⟩))
        go_ret
        refine ⟨_, rfl, HO'.out.2, ?_⟩
        rw [num_snoc, Hos.out.1, Hos.out.2.2] at hn
        exact hn
end Go.Proofs.YtdpjkddllimcoaaGreatDoor
end

section
/- Whole numbers as words: shr. -/
namespace Fl
open Go
/-- a low and a high word, as one. -/
theorem or_words (x y : Nat) (hx : x < 4294967296) (hy : y < 4294967296) : bits .or .u64 (x : Int) ((y : Int) * 4294967296) = ((x + y * 4294967296 : Nat) : Int) := by
  have h := u64_or_nat x (y * 4294967296) (by omega) (by omega)
  have e : x ||| y * 4294967296 = x + y * 4294967296 := by
    rw [Nat.or_comm, Nat.mul_comm, ← show 2 ^ 32 * y + x = 2 ^ 32 * y ||| x from Nat.two_pow_add_eq_or_of_lt (by simpa using hx) y]; omega
  rw [e] at h
  rw [show ((y * 4294967296 : Nat) : Int) = (y : Int) * 4294967296 by omega] at h
  exact h
/-- one round of a shift down. -/
theorem shr_step (x y R s : Nat) (hx : x < 4294967296) (hs : s < 32) : (x + 4294967296 * (y + 4294967296 * R)) / 2 ^ s = (x + y * 4294967296) / 2 ^ s % 4294967296 + 4294967296 * ((y + 4294967296 * R) / 2 ^ s) := by
  have e : (4294967296 : Nat) = 2 ^ s * 2 ^ (32 - s) := by rw [← Nat.pow_add, show s + (32 - s) = 32 by omega]
  have h1 : (x + 4294967296 * (y + 4294967296 * R)) / 2 ^ s = (x + y * 4294967296) / 2 ^ s + 4294967296 * (2 ^ (32 - s) * R) := by
    have e3 : x + 4294967296 * (y + 4294967296 * R) = (x + y * 4294967296) + 2 ^ s * (4294967296 * (2 ^ (32 - s) * R)) := by
      have e4 : 2 ^ s * (4294967296 * (2 ^ (32 - s) * R)) = 4294967296 * (4294967296 * R) := by
        rw [show 2 ^ s * (4294967296 * (2 ^ (32 - s) * R)) = 4294967296 * ((2 ^ s * 2 ^ (32 - s)) * R) by ac_rfl, ← e]
      rw [e4, Nat.mul_add]; omega
    rw [e3, Nat.add_mul_div_left _ _ (Nat.two_pow_pos s)]
  have h2 : (x + 4294967296 * (y + 4294967296 * R)) / 2 ^ s / 4294967296 = (y + 4294967296 * R) / 2 ^ s := by
    rw [Nat.div_div_eq_div_mul, Nat.mul_comm (2 ^ s), ← Nat.div_div_eq_div_mul]
    congr 1
    omega
  have h3 := Nat.mod_add_div ((x + 4294967296 * (y + 4294967296 * R)) / 2 ^ s) 4294967296
  rw [h2, h1, Nat.add_mul_mod_self_left] at h3
  rw [h1, h3]
theorem num_drop (zs : List Nat) (k : Nat) : num (zs.drop k) = zs.getD k 0 + 4294967296 * num (zs.drop (k + 1)) := by
  rcases Nat.lt_or_ge k zs.length with h | h
  · rw [List.drop_eq_getElem_cons h, num, List.getD_eq_getElem?_getD, List.getElem?_eq_getElem h]; rfl
  · rw [List.drop_eq_nil_of_le h, List.drop_eq_nil_of_le (by omega), List.getD_eq_getElem?_getD, List.getElem?_eq_none h]; rfl
/-- whole words down. -/
theorem num_drop_div {zs : List Nat} (hw : Wd zs) {q : Nat} (hq : q ≤ zs.length) : num zs / 4294967296 ^ q = num (zs.drop q) := by
  have h := num_take_drop zs q
  rw [List.length_take, Nat.min_eq_left hq] at h
  have h2 := num_lt (hw.take q)
  rw [List.length_take, Nat.min_eq_left hq] at h2
  rw [h, Nat.add_mul_div_left _ _ (pow_pos32 q), Nat.div_eq_of_lt h2, Nat.zero_add]
theorem shr_round {os zs : List Nat} {q j s T x y : Nat} (hw : Wd zs) (hl : os.length = j) (hs : s < 32) (hx : zs.getD (q + j) 0 = x) (hy : zs.getD (q + j + 1) 0 = y) (h : num os + 4294967296 ^ j * (num (zs.drop (q + j)) / 2 ^ s) = T) :
    num (os ++ [(x + y * 4294967296) / 2 ^ s % 4294967296]) + 4294967296 ^ (j + 1) * (num (zs.drop (q + (j + 1))) / 2 ^ s) = T := by
  have h0 := hw.getD (q + j)
  rw [num_snoc, hl, Nat.pow_succ, Nat.mul_assoc, Nat.add_assoc, ← Nat.mul_add, ← h]
  congr 2
  rw [num_drop zs (q + j), hx]
  rw [hx] at h0
  have h3 := num_drop zs (q + j + 1)
  rw [hy] at h3
  rw [Nat.add_assoc q j 1] at h3
  rw [Nat.add_assoc q j 1, h3, shr_step x y _ s h0 hs]
end Fl
namespace Go.Proofs.YtdpjkddllimcoaaGreatDoor
open Go.RowKit Fl

theorem n_shr (v : Value) (a k : Nat) (w : World) (hv : Nt w v a) (ha : a < 4294967296 ^ 1048575) (hk : k < 9223372036854775808) :
    Calls Tryz.prog 163 #[v, .int .u64 k] w fun e w' => ∃ v', e = .returned v' ∧ Ext w w' ∧ Nt w' v' (a / 2 ^ k) := by
  obtain ⟨zs, hs, hw, ht, rfl⟩ := hv
  have lz := len_le ht ha
  obtain ⟨i0, HI⟩ : ∃ i0, Hid (Tryz.prog.info? 70 = some i0 ∧ i0.zero = some (.int .u32 0) ∧ i0.size = 1 ∧ i0.bytes = 4) := info_parts info32
  have HZ := Lib.hid (And.intro hs (And.intro hw ht))
  have HC := Lib.hid hs.form
  obtain ⟨p, cap, rfl, hcap, -⟩ := hs.form
  clear ha hs
  obtain ⟨q, hq⟩ : ∃ q, q = k / 32 := ⟨_, rfl⟩
  obtain ⟨s, hs⟩ : ∃ s, s = k % 32 := ⟨_, rfl⟩
  have hqi : (k : Int) / 32 = (q : Int) := by omega
  have hsi : (k : Int) % 32 = (s : Int) := by omega
  have hs32 : s < 32 := by omega
  have hk2 : k = 32 * q + s := by omega
  have hq2 : q < 9223372036854775808 := by omega
  have hT : num zs / 2 ^ k = num zs / 4294967296 ^ q / 2 ^ s := by
    rw [hk2, Nat.pow_add, Nat.pow_mul, Nat.div_div_eq_div_mul]
  clear hq hs hk
  by_cases h0 : zs.length ≤ q
  · have HN : Hid (num zs / 2 ^ k = 0) := by
      show _ = _
      rw [hT, Nat.div_eq_of_lt (Nat.lt_of_lt_of_le (num_lt hw) (Nat.pow_le_pow_right (by decide) h0)), Nat.zero_div]
    have HZ0 := Lib.hid (Nt.nil w)
    have e1 : decide (zs.length ≤ q) = true := by simp; omega
    clear hT hw ht hk2 hs32 hsi
    go_enter Tryz.func163, Tryz.ntmps163
    go_wp2_with (fail)
    go_ret
    exact ⟨_, rfl, Ext.refl w, by rw [HN.out]; exact HZ0.out⟩
  · have e1 : decide (zs.length ≤ q) = false := by simp; omega
    rw [num_drop_div hw (by omega)] at hT
    have HT := Lib.hid hT
    have HK := Lib.hid hk2
    have hql : q < zs.length := by omega
    clear hT hw ht hk2 h0
    obtain ⟨b, off, rfl, hcell⟩ : ∃ b off, p = some ⟨b, off, none⟩ ∧ ∀ i, i < zs.length → w.cell? ⟨b, off + i, none⟩ = some (.int .u32 ((zs.getD i 0 : Nat) : Int)) := by
      obtain ⟨p0, cap0, e, _, _, h3⟩ := HC.out
      injection e with e1 e2 e3
      subst e1
      exact h3 (by omega)
    have HCell := Lib.hid hcell
    have hcq : ¬ cap = q := by omega
    clear HC hcell
    go_enter Tryz.func163, Tryz.ntmps163
    go_upto_region 4 with (fail)
    obtain ⟨l, hl⟩ : ∃ l, l = zs.length - q := ⟨_, rfl⟩
    rw [← hl]
    generalize cap - q = cap2
    have hlb : l ≤ 1048575 := by omega
    have HL : Hid (zs.length = q + l) := by show _ = _; omega
    clear hl hql hcap hq2 hcq e1 lz
    go_wp2_with (at_make; refine wpList_make32 _ rfl _ _ _ rfl 70 i0 Tryz.underlying93 HI _ _ _ _ 0 l rfl rfl (by omega) (by omega) (by omega) (by omega) ?_)
    intro wm hown hX
    have HM := Lib.hid (And.intro hown hX)
    clear hown hX
    go_wp2_with (fail)
    simp only [hsi]
    go_loopw [5, 27] (fun v5 v27 wr => ∃ (j : Nat), j ≤ l ∧ v27 = .int .i64 j ∧ v5 = .slice (some ⟨w.heap.size, 0, none⟩) j l ∧
      Hid (Ext w wr ∧ ∃ os : List Nat, os.length = j ∧ Wd os ∧ wr.ownsRow w.heap.size 70 1 (.slice (some ⟨w.heap.size, 0, none⟩) j l) j (os.map W32) ∧ num os + 4294967296 ^ j * (num (zs.drop (q + j)) / 2 ^ s) = num (zs.drop q) / 2 ^ s)) (fun _ v27 _ => l - (intOf v27).toNat)
    case atStart => exact ⟨0, Nat.zero_le _, rfl, rfl, HM.out.2, [], rfl, Wd.nil, HM.out.1, by simp [num]⟩
    case round =>
      obtain ⟨j, hj, rfl, rfl, HR⟩ := hrel
      by_cases hlt : j < l
      · have hc : wr.cell? ⟨b, off + q + j, none⟩ = some (.int .u32 ((zs.getD (q + j) 0 : Nat) : Int)) := by
          rw [Nat.add_assoc]
          exact HR.out.1.cell_some (HCell.out (q + j) (by have := HL.out; omega))
        have hx := HZ.out.2.1.getD (q + j)
        have hy := HZ.out.2.1.getD (q + j + 1)
        obtain ⟨os, h1, h2, h3, h4⟩ := HR.out.2
        have HO := Lib.hid h3
        have Hos := Lib.hid (And.intro h1 (And.intro h2 h4))
        clear h1 h2 h3 h4
        by_cases hl1 : j + 1 < l
        · have hc' : wr.cell? ⟨b, off + q + (j + 1), none⟩ = some (.int .u32 ((zs.getD (q + j + 1) 0 : Nat) : Int)) := by
            rw [Nat.add_assoc off]
            exact HR.out.1.cell_some (HCell.out (q + (j + 1)) (by have := HL.out; omega))
          generalize hX : zs.getD (q + j) 0 = x at *
          generalize hY : zs.getD (q + j + 1) 0 = y at *
          have Hx := Lib.hid hX
          have Hy := Lib.hid hY
          clear hX hY
          have g1 := or_words x y hx hy
          obtain ⟨P, hP⟩ : ∃ P, P = x + y * 4294967296 := ⟨_, rfl⟩
          rw [← hP] at g1
          have hPb : P < 18446744073709551616 := by omega
          obtain ⟨d, hd⟩ : ∃ d, d = P / 2 ^ s % 4294967296 := ⟨_, rfl⟩
          have g2 : (P : Int) / 2 ^ s % 4294967296 = (d : Int) := by rw [hd]; simp
          have Hd : Hid (d = (x + y * 4294967296) / 2 ^ s % 4294967296) := by show _ = _; rw [hd, hP]
          clear hP hd
          go_wp2_with (at_builtin; go_loud (refine wpList_push32 rfl (.tmp 48) (.tmp 53) _ rfl w.heap.size 70 i0 Tryz.underlying93 HI w.heap.size j l os _ d _ rfl rfl HO.out HR.out.1 (Nat.le_refl _) (by omega) rfl ?_))
          intro w1 hown' hX'
          have HO' := Lib.hid (And.intro hown' hX')
          clear hown' hX'
          go_wp2_with (fail)
          go_roundw
          case rel =>
            refine ⟨j + 1, hlt, by go_num, by go_num, HO'.out.2, os ++ [d], by simp [Hos.out.1], Hos.out.2.1.snoc (by rw [Hd.out]; exact Nat.mod_lt _ (by decide)), by have := HO'.out.1; rw [List.map_append]; exact this, ?_⟩
            have := shr_round (y := y) HZ.out.2.1 Hos.out.1 hs32 Hx.out Hy.out Hos.out.2.2
            rw [← Hd.out] at this
            exact this
          case measure =>
            show l - (((j + 1 : Nat) : Int)).toNat < l - ((j : Int)).toNat
            omega
        · generalize hX : zs.getD (q + j) 0 = x at *
          have Hx := Lib.hid hX
          have Hy : Hid (zs.getD (q + j + 1) 0 = 0) := by
            show _ = _
            rw [List.getD_eq_getElem?_getD, List.getElem?_eq_none (by have := HL.out; omega)]; rfl
          clear hX hy
          obtain ⟨d, hd⟩ : ∃ d, d = x / 2 ^ s % 4294967296 := ⟨_, rfl⟩
          have g2 : (x : Int) / 2 ^ s % 4294967296 = (d : Int) := by rw [hd]; simp
          have Hd : Hid (d = (x + 0 * 4294967296) / 2 ^ s % 4294967296) := by show _ = _; rw [hd]; simp
          clear hd
          go_wp2_with (at_builtin; go_loud (refine wpList_push32 rfl (.tmp 48) (.tmp 53) _ rfl w.heap.size 70 i0 Tryz.underlying93 HI w.heap.size j l os _ d _ rfl rfl HO.out HR.out.1 (Nat.le_refl _) (by omega) rfl ?_))
          intro w1 hown' hX'
          have HO' := Lib.hid (And.intro hown' hX')
          clear hown' hX'
          go_wp2_with (fail)
          go_roundw
          case rel =>
            refine ⟨j + 1, hlt, by go_num, by go_num, HO'.out.2, os ++ [d], by simp [Hos.out.1], Hos.out.2.1.snoc (by rw [Hd.out]; exact Nat.mod_lt _ (by decide)), by have := HO'.out.1; rw [List.map_append]; exact this, ?_⟩
            have := shr_round (y := 0) HZ.out.2.1 Hos.out.1 hs32 Hx.out Hy.out Hos.out.2.2
            rw [← Hd.out] at this
            exact this
          case measure =>
            show l - (((j + 1 : Nat) : Int)).toNat < l - ((j : Int)).toNat
            omega
      · have hke : j = l := by omega
        subst hke
        clear hj hlt
        obtain ⟨os, h1, h2, h3, h4⟩ := HR.out.2
        rw [show num (zs.drop (q + j)) = 0 by rw [List.drop_eq_nil_of_le (by have := HL.out; omega)]; rfl, Nat.zero_div, Nat.mul_zero, Nat.add_zero] at h4
        have HO := Lib.hid (Sl.of_own h3)
        have Hos := Lib.hid (And.intro h1 (And.intro h2 h4))
        clear h1 h2 h3 h4
        go_wp2_with (go_at_call 159; refine (n_trim _ os _ HO.out Hos.out.2.1 (by rw [Hos.out.1]; omega)).mono ?_; rintro e w' ⟨v', rfl, rfl, hn⟩)
        go_ret
        refine ⟨_, rfl, HR.out.1, ?_⟩
        rw [HT.out, ← Hos.out.2.2]
        exact hn
end Go.Proofs.YtdpjkddllimcoaaGreatDoor
end
