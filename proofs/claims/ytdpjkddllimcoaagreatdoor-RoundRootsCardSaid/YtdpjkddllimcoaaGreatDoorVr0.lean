/- A part of the proof (1 of 2) of this: RoundRoots: for every two floats and every mode the program's rounded root and the root of two squares' sum are the document's: the law returns true; condition: the table of package math/bits reads as its text lays it. -/
import Derived.Test.YtdpjkddllimcoaaGreatDoorVp2

section
/- The reference's square root of whole numbers. -/
namespace Go.Proofs.YtdpjkddllimcoaaGreatDoor
open Go.RowKit Fl
theorem k_rooted_zero (v : Value) (w : World) (hv : Nt w v 0) : Calls Tryz.prog 154 #[v] w fun en wn => en = .returned (.tuple #[.slice none 0 0, .bool true]) ∧ w = wn := by
  obtain ⟨p, l, cap, rfl, hl⟩ := hv.len
  obtain rfl : l = 0 := hl.2 rfl
  clear hv hl
  go_enter Tryz.func154, Tryz.ntmps154
  go_wp2_with (fail)
  go_ret2
  exact ⟨rfl, rfl⟩
set_option maxRecDepth 20000 in
theorem k_rooted (v : Value) (a : Nat) (w : World) (hv : Nt w v a) (h0 : a ≠ 0) (ha : a < 4294967296 ^ 1048570) :
    Calls Tryz.prog 154 #[v] w fun e w' => ∃ v' r, e = .returned (.tuple #[v', .bool (decide (r * r = a))]) ∧ Ext w w' ∧ Nt w' v' r ∧ Root r a := by
  obtain ⟨p, l, cap, rfl, hl⟩ := hv.len
  have HV := Lib.hid hv
  have HA := Lib.hid ha
  have HB : Hid (bl a ≤ 33554240) := by
    have := bl_fit ha
    clear ha
    show bl a ≤ _
    omega
  have hap : Hid (0 < a) := Nat.pos_of_ne_zero h0
  have t0 := len_ne0 (Nat.pos_of_ne_zero (fun e => h0 (hl.1 e)))
  obtain ⟨B, HBB⟩ : ∃ B : Nat, Hid (B = bl a) := ⟨bl a, rfl⟩
  have hBb : B ≤ 33554240 := by rw [HBB.out]; exact HB.out
  have HSz : Hid (∀ w', Ext w w' → Calls Tryz.prog 152 #[.slice p l cap] w' fun en wn => en = .returned (.int .i64 ((B : Nat) : Int)) ∧ w' = wn) := fun w' hx => by
    have := k_size (.slice p l cap) a w' (HV.out.ext hx) (fit_up (k := 1048570) (l := 1048575) HA.out (by decide))
    rwa [← HBB.out] at this
  have HOne : Hid (∀ t, Nt (w.alloc (.cells #[.int .u32 1] t)) (.slice (some ⟨w.heap.size, 0, none⟩) 1 1) 1) := by
    intro t
    refine ⟨[1], .inr ⟨w.heap.size, 0, 1, rfl, by decide, by decide, fun i hi => ?_⟩, fun z hz => by simp at hz; omega, by unfold Tm; simp, rfl⟩
    have : i = 0 := by simp at hi; omega
    subst this
    exact cell_new _ _ _ 0
  have HX : Hid (∀ o, Ext w (w.alloc o)) := fun o => (Ext.refl w).alloc o
  clear hv ha hl h0
  go_enter Tryz.func154, Tryz.ntmps154
  go_wp2_with (fail)
  refine (HSz.out _ (HX.out _)).mono ?_
  rintro e w1' ⟨rfl, rfl⟩
  go_wp2_with (fail)
  refine (k_up _ 1 ((B + 1) / 2) _ (HOne.out _) (fit_word (l := 1048575) (by decide) (by decide)) (by omega)).mono ?_
  rintro e w2 ⟨v2, rfl, hx, hn⟩
  rw [Nat.one_mul] at hn
  have HD2 := Lib.hid (And.intro ((HX.out _).trans hx) hn)
  have HF : Hid (a < 2 ^ ((B + 1) / 2) * 2 ^ ((B + 1) / 2)) := by rw [HBB.out]; exact newton_first a
  have HFb : Hid (2 ^ ((B + 1) / 2) < 4294967296 ^ 1048570) := fit_of (k := (B + 1) / 2 + 1) (l := 1048570) (Nat.pow_lt_pow_right (by decide) (by omega)) (by omega)
  clear hx hn
  go_wp2_with (fail)
  go_loopw [4] (fun v4 wr => ∃ x : Nat, Hid (Ext w wr ∧ Nt wr v4 x ∧ 0 < x ∧ x < 4294967296 ^ 1048570 ∧ a < (x + 1) * (x + 1))) (fun v4 wr => numOf wr v4)
  case atStart =>
    refine ⟨2 ^ ((B + 1) / 2), HD2.out.1, HD2.out.2, Nat.two_pow_pos _, HFb.out, ?_⟩
    have := HF.out
    have := Nat.mul_le_mul (Nat.le_succ (2 ^ ((B + 1) / 2))) (Nat.le_succ (2 ^ ((B + 1) / 2)))
    simp only [Nat.succ_eq_add_one] at *
    omega
  case round =>
    obtain ⟨x, HQ⟩ := hrel
    obtain ⟨y, HY⟩ : ∃ y : Nat, Hid (y = (x + a / x) / 2) := ⟨(x + a / x) / 2, rfl⟩
    have HXb := Lib.hid HQ.out.2.2.2.1
    have HQb : Hid (a / x < 4294967296 ^ 1048570) := fit_lt (k := 1048570) (Nat.div_le_self a x) HA.out
    have HSb : Hid (x + a / x < 4294967296 ^ 1048571) := fit_sum (k := 1048570) (l := 1048571) HXb.out HQb.out (by decide)
    have HDn : Hid (∀ w' s, Nt w' s (x + a / x) → Calls Tryz.prog 92 #[s, .int .i64 1] w' fun e w'' => ∃ v' bb, e = .returned (.tuple #[v', .bool bb]) ∧ Ext w' w'' ∧ Nt w'' v' y) := by
      intro w' s hs
      have h := k_down s (x + a / x) 1 w' hs (fit_up (k := 1048571) (l := 1048575) HSb.out (by decide)) (by decide)
      rw [Nat.pow_one, ← HY.out] at h
      exact h.mono fun e w'' ⟨v', h1, h2, h3⟩ => ⟨v', _, h1, h2, h3⟩
    have HYb : Hid (y < 4294967296 ^ 1048571) := fit_lt (k := 1048571) (by rw [HY.out]; exact Nat.div_le_self _ 2) HSb.out
    go_wp2_with (fail)
    refine (k_divide _ u4 a x _ (HV.out.ext HQ.out.1) HQ.out.2.1 hap.out HQ.out.2.2.1 (fit_up (k := 1048570) (l := 1048574) HA.out (by decide)) (fit_up (k := 1048570) (l := 1048574) HXb.out (by decide))).mono ?_
    rintro e w3 ⟨q, r0, rfl, hx, hq, -⟩
    have HD3 := Lib.hid (And.intro hx hq)
    clear hx hq
    go_wp2_with (fail)
    refine (k_sum u4 q x (a / x) _ (HQ.out.2.1.ext HD3.out.1) HD3.out.2 (fit_up (k := 1048570) (l := 1048575) HXb.out (by decide)) (fit_up (k := 1048570) (l := 1048575) HQb.out (by decide))).mono ?_
    rintro e w4 ⟨s, rfl, hx, hs⟩
    have HD4 := Lib.hid (And.intro (HD3.out.1.trans hx) hs)
    clear hx hs
    go_wp2_with (fail)
    refine (HDn.out _ s HD4.out.2).mono ?_
    rintro e w5 ⟨vy, bb, rfl, hx, hs⟩
    have HD5 := Lib.hid (And.intro (HD4.out.1.trans hx) hs)
    clear hx hs
    go_wp2_with (fail)
    by_cases hy : y < x
    · refine (k_order_lt vy u4 y x _ HD5.out.2 (HQ.out.2.1.ext HD5.out.1) (fit_up (k := 1048571) (l := 1048576) HYb.out (by decide)) (fit_up (k := 1048570) (l := 1048576) HXb.out (by decide)) hy).mono ?_
      rintro e w6 ⟨rfl, hd⟩
      have HD6 := Lib.hid hd.ext
      clear hd
      go_wp2_with (fail)
      go_roundw
      case rel =>
        refine ⟨y, (HQ.out.1.trans HD5.out.1).trans HD6.out, HD5.out.2.ext HD6.out, ?_, fit_lt (k := 1048570) (Nat.le_of_lt hy) HXb.out, ?_⟩
        · rw [HY.out]; exact newton_pos hap.out HQ.out.2.2.1
        · rw [HY.out]; exact newton HQ.out.2.2.1
      case measure =>
        show numOf w6 vy < numOf wr u4
        rw [numOf_eq (HD5.out.2.ext HD6.out), numOf_eq HQ.out.2.1]
        exact hy
    · refine (k_order_ge vy u4 y x _ HD5.out.2 (HQ.out.2.1.ext HD5.out.1) (fit_up (k := 1048571) (l := 1048576) HYb.out (by decide)) (fit_up (k := 1048570) (l := 1048576) HXb.out (by decide)) hy).mono ?_
      rintro e w6 ⟨c, hc0, hc1, rfl, hd⟩
      have HD6 : Hid (Ext w w6 ∧ Nt w6 u4 x) := ⟨(HQ.out.1.trans HD5.out.1).trans hd.ext, (HQ.out.2.1.ext HD5.out.1).ext hd.ext⟩
      have t1 : decide (0 ≤ c) = true := by simp; omega
      have HRt : Hid (Root x a) := newton_end HQ.out.2.2.2.2 (by rw [← HY.out]; exact hy)
      have HPb : Hid (x * x < 4294967296 ^ 1048570) := fit_lt (k := 1048570) HRt.out.1 HA.out
      clear hd hc0 hc1 hy
      go_wp2_with (fail)
      refine (k_product u4 u4 x x _ HD6.out.2 HD6.out.2 (fit_up (k := 1048570) (l := 1048575) HXb.out (by decide)) (fit_up (k := 1048570) (l := 1048575) HXb.out (by decide))).mono ?_
      rintro e w7 ⟨vp, rfl, hx, hp⟩
      have HD7 : Hid (Ext w w7 ∧ Nt w7 u4 x ∧ Nt w7 vp (x * x)) := ⟨HD6.out.1.trans hx, HD6.out.2.ext hx, hp⟩
      clear hx hp
      go_wp2_with (fail)
      refine (k_order vp _ (x * x) a _ HD7.out.2.2 (HV.out.ext HD7.out.1) (fit_up (k := 1048570) (l := 1048576) HPb.out (by decide)) (fit_up (k := 1048570) (l := 1048576) HA.out (by decide))).mono ?_
      rintro e w8 ⟨rfl, hd⟩
      have HD8 : Hid (Ext w w8 ∧ Nt w8 u4 x) := ⟨HD7.out.1.trans hd.ext, HD7.out.2.1.ext hd.ext⟩
      have HC : Hid ((cmpI (x * x) a == 0) = decide (x * x = a)) := by
        show _ = _
        rw [Bool.eq_iff_iff, beq_iff_eq, decide_eq_true_eq]
        unfold cmpI
        split
        · omega
        · split <;> omega
      clear hd
      generalize cmpI (x * x) a = cm at *
      go_wp2_with (fail)
      go_ret2
      refine ⟨u4, x, ?_, HD8.out.1, HD8.out.2, HRt.out⟩
      show Ending.returned (.tuple #[u4, .bool (cm == 0)]) = _
      rw [HC.out]
end Go.Proofs.YtdpjkddllimcoaaGreatDoor
end

section
/- Roots, cut, and their rounding: plain facts. -/
namespace Fl
open Ieee
/-- the root's comparison, of fewer digits. -/
theorem cT_cut (x : Nat) (e e' : Int) (k t : Nat) (h2 : 2 * e' = e + k) : cT x e t = compare (x * (2 ^ (e' + 1075).toNat * 2 ^ (e' + 1075).toNat)) (t * 2 ^ (-(e' + 1075)).toNat * (t * 2 ^ (-(e' + 1075)).toNat) * 2 ^ k) := by
  have h := pow_cross (e + 2150) k
  have e1 : 2 ^ (e' + 1075).toNat * 2 ^ (e' + 1075).toNat = 2 ^ (e + 2150 + k).toNat := by rw [← Nat.pow_add]; congr 1; omega
  have e2 : 2 ^ (-(e' + 1075)).toNat * 2 ^ (-(e' + 1075)).toNat = 2 ^ (-(e + 2150 + k)).toNat := by rw [← Nat.pow_add]; congr 1; omega
  rw [Nat.mul_mul_mul_comm t _ t _, e1, e2]
  unfold cT cS
  refine cmp_cross (k := 2 ^ k * 2 ^ (-(e + 2150 + k)).toNat) (l := 2 ^ (-(e + 2150)).toNat) (Nat.mul_pos (Nat.two_pow_pos _) (Nat.two_pow_pos _)) (Nat.two_pow_pos _) ?_ ?_
  · rw [Nat.mul_assoc x (2 ^ (e + 2150 + k).toNat), h]; ac_rfl
  · ac_rfl
theorem Cr.root_cut (x k r : Nat) (e e' : Int) (h2 : 2 * e' = e + k) (hr1 : r * r * 2 ^ k ≤ x) (hr2 : x < (r + 1) * (r + 1) * 2 ^ k) : Cr (cT x e) r e' (!(decide (r * r * 2 ^ k = x))) := by
  refine ⟨cT_anti x e, ?_⟩
  have ha := fun t => cT_cut x e e' k t h2
  have hA : 0 < 2 ^ (e' + 1075).toNat := Nat.two_pow_pos _
  have hK : 0 < 2 ^ k := Nat.two_pow_pos _
  by_cases h0 : r * r * 2 ^ k = x
  · rw [if_neg (by simp [h0])]
    funext t
    rw [ha, ← h0]
    show _ = compare (r * 2 ^ (e' + 1075).toNat) (t * 2 ^ (-(e' + 1075)).toNat)
    clear ha
    generalize 2 ^ (e' + 1075).toNat = A at *
    generalize t * 2 ^ (-(e' + 1075)).toNat = T at *
    rw [← cmp_sq (r * A) T, show r * r * 2 ^ k * (A * A) = r * A * (r * A) * 2 ^ k by ac_rfl]
    exact cmp_mul hK
  · rw [if_pos (by simp [h0])]
    intro t
    rw [ha]
    show (compare (r * 2 ^ (e' + 1075).toNat) (t * 2 ^ (-(e' + 1075)).toNat) ≠ _ → _) ∧ (compare ((r + 1) * 2 ^ (e' + 1075).toNat) (t * 2 ^ (-(e' + 1075)).toNat) ≠ _ → _)
    generalize 2 ^ (e' + 1075).toNat = A at *
    generalize t * 2 ^ (-(e' + 1075)).toNat = T at *
    have hAA : 0 < A * A := Nat.mul_pos hA hA
    have hlt : r * r * 2 ^ k < x := by omega
    refine ⟨fun h => ?_, fun h => ?_⟩
    · rw [cmp_ne_lt] at h
      rw [Nat.compare_eq_gt]
      calc T * T * 2 ^ k ≤ r * A * (r * A) * 2 ^ k := Nat.mul_le_mul_right _ (Nat.mul_le_mul h h)
        _ = r * r * 2 ^ k * (A * A) := by ac_rfl
        _ < x * (A * A) := Nat.mul_lt_mul_of_pos_right hlt hAA
    · rw [cmp_ne_gt] at h
      rw [Nat.compare_eq_lt]
      calc x * (A * A) < (r + 1) * (r + 1) * 2 ^ k * (A * A) := Nat.mul_lt_mul_of_pos_right hr2 hAA
        _ = (r + 1) * A * ((r + 1) * A) * 2 ^ k := by ac_rfl
        _ ≤ T * T * 2 ^ k := Nat.mul_le_mul_right _ (Nat.mul_le_mul h h)
/-- r is the root of X times 2 to the f in units of 2 to the -place, cut; B: it is the root. -/
def RootIs (X : Nat) (f place : Int) (r : Nat) (B : Bool) : Prop :=
  Cr (cT X f) r (-place) (!B) ∧ (∀ j : Nat, 2 * (j : Int) + 1 ≤ (bl X : Int) + f + 2 * place → 2 ^ j ≤ r)
theorem root_ge {r Y j : Nat} (h : Y < (r + 1) * (r + 1)) (hY : 2 ^ (2 * j) ≤ Y) : 2 ^ j ≤ r := by
  rcases Nat.lt_or_ge r (2 ^ j) with h1 | h1
  · have := Nat.mul_le_mul (show r + 1 ≤ 2 ^ j from h1) (show r + 1 ≤ 2 ^ j from h1)
    rw [← Nat.pow_add, show j + j = 2 * j by omega] at this
    omega
  · exact h1
theorem rootIs_up {X k r : Nat} {f place : Int} (hX : 0 < X) (hk : f + 2 * place = (k : Int)) (h : Root r (X * 2 ^ k)) : RootIs X f place r (decide (r * r = X * 2 ^ k)) := by
  have hb := bl_le (Nat.ne_of_gt hX)
  have hp := bl_pos (Nat.ne_of_gt hX)
  refine ⟨?_, fun j hj => root_ge h.2 ?_⟩
  · have := Cr.root X k r f (-place) (by omega) h.1 h.2
    simpa using this
  · refine Nat.le_trans (Nat.pow_le_pow_right (by decide) (show 2 * j ≤ bl X - 1 + k by omega)) ?_
    rw [Nat.pow_add]
    exact Nat.mul_le_mul_right _ hb
theorem rootIs_down {X k r : Nat} {f place : Int} (hX : 0 < X) (hk : f + 2 * place = -(k : Int)) (h : Root r (X / 2 ^ k)) : RootIs X f place r (decide (r * r = X / 2 ^ k) && decide (X % 2 ^ k = 0)) := by
  have hb := bl_le (Nat.ne_of_gt hX)
  have hp := bl_pos (Nat.ne_of_gt hX)
  have hK : 0 < 2 ^ k := Nat.two_pow_pos _
  have hdm := Nat.div_add_mod X (2 ^ k)
  have hml := Nat.mod_lt X hK
  have e0 : (decide (r * r = X / 2 ^ k) && decide (X % 2 ^ k = 0)) = decide (r * r * 2 ^ k = X) := by
    rw [Bool.eq_iff_iff, Bool.and_eq_true, decide_eq_true_eq, decide_eq_true_eq, decide_eq_true_eq]
    constructor
    · rintro ⟨h1, h2⟩
      rw [h1, Nat.mul_comm]; omega
    · intro h1
      constructor
      · rw [← h1, Nat.mul_div_cancel _ hK]
      · rw [← h1, Nat.mul_mod_left]
  rw [e0]
  refine ⟨Cr.root_cut X k r f (-place) (by omega) ?_ ?_, fun j hj => root_ge h.2 ?_⟩
  · have := Nat.mul_le_mul_right (2 ^ k) h.1
    rw [Nat.mul_comm (X / 2 ^ k)] at this
    omega
  · have := Nat.mul_le_mul_right (2 ^ k) (show X / 2 ^ k + 1 ≤ (r + 1) * (r + 1) from h.2)
    rw [Nat.add_mul, Nat.one_mul, Nat.mul_comm (X / 2 ^ k)] at this
    omega
  · rw [Nat.le_div_iff_mul_le hK, ← Nat.pow_add]
    exact Nat.le_trans (Nat.pow_le_pow_right (by decide) (by omega)) hb
theorem rootIs_scale {X k r : Nat} {f E place : Int} {B : Bool} (hX : 0 < X) (hE : E = f + k) (h : RootIs X E place r B) : RootIs (X * 2 ^ k) f place r B := by
  obtain ⟨h1, h2⟩ := h
  refine ⟨?_, fun j hj => h2 j ?_⟩
  · have := cT_shift X E k
    rw [show E - (k : Int) = f by omega] at this
    rw [this]
    exact h1
  · rw [bl_mul_pow k (Nat.ne_of_gt hX)] at hj
    omega
end Fl
end

section
/- The reference's exact numbers: roots, cut. -/
namespace Go.Proofs.YtdpjkddllimcoaaGreatDoor
open Go.RowKit Fl
set_option maxRecDepth 20000 in
set_option maxHeartbeats 2000000 in
theorem k_RootOf (a : Value) (x f place : Int) (L : Nat) (w : World) (h : Ry w a x f) (hx0 : 0 < x) (hx : x.natAbs < 2 ^ L) (hL : L ≤ 10000) (hf : -10000 ≤ f ∧ f ≤ 10000) (hp : -10000 ≤ place ∧ place ≤ 10000) (ht : 1 ≤ (bl x.natAbs : Int) + f + 2 * place) :
    Calls Tryz.prog 127 #[a, .int .i64 place] w fun en w' => ∃ v r B, en = .returned (.tuple #[v, .bool B]) ∧ Ext w w' ∧ Ry w' v ((r : Nat) : Int) (-place) ∧ RootIs x.natAbs f place r B ∧ r < 2 ^ (L + 40000) := by
  obtain ⟨n, p, l, c, o, E, rfl, hn, hl, hN, hr, hpp⟩ := h.open
  have z1 : o ≠ 0 := fun h => by have := hr.sgn.2.1.2 h; omega
  have t0 := len_ne0 (Nat.pos_of_ne_zero (fun h0 => by have := hl.1 h0; omega))
  obtain ⟨k1, e1, e2⟩ := hr.exp z1
  obtain ⟨b1, b2, b3, -⟩ := hr.range (by omega) hx
  have e3 : x.natAbs = o.natAbs * 2 ^ k1 := by rw [e1, natAbs_mul_pow]
  have hO : 0 < o.natAbs := by omega
  have hbO : bl x.natAbs = bl o.natAbs + k1 := by rw [e3, bl_mul_pow k1 (by omega)]
  have hbOp := bl_pos (Nat.ne_of_gt hO)
  obtain ⟨N, hN'⟩ : ∃ N, E + 2 * place = N := ⟨_, rfl⟩
  have hNb : -40000 ≤ N ∧ N ≤ 40000 := by omega
  have hXb : o.natAbs * 2 ^ N.toNat < 2 ^ (L + 40000) := by
    refine Nat.lt_of_lt_of_le (Nat.mul_lt_mul_of_pos_right b3 (Nat.two_pow_pos _)) ?_
    rw [← Nat.pow_add]
    exact Nat.pow_le_pow_right (by decide) (by omega)
  have hYb : o.natAbs / 2 ^ (-N).toNat < 2 ^ (L + 40000) := Nat.lt_of_le_of_lt (Nat.div_le_self _ _) (Nat.lt_of_lt_of_le b3 (Nat.pow_le_pow_right (by decide) (by omega)))
  have hrr : ∀ {r Y : Nat}, Root r Y → Y < 2 ^ (L + 40000) → r < 2 ^ (L + 40000) := fun h1 h2 => Nat.lt_of_le_of_lt (Nat.le_trans (Nat.le_mul_self _) h1.1) h2
  have HU : Hid (0 ≤ N → ∀ w', Ext w w' → Calls Tryz.prog 79 #[.slice p l c, .int .i64 N] w' fun en w'' => ∃ v', en = .returned v' ∧ Ext w' w'' ∧ Nt w'' v' (o.natAbs * 2 ^ N.toNat)) := by
    intro h0 w' hx'
    obtain ⟨k, rfl⟩ : ∃ k : Nat, N = (k : Int) := ⟨N.toNat, by omega⟩
    exact k_up _ _ k w' (hN.ext hx') (fit_of (k := L) (l := 1048575) b3 (by omega)) (by omega)
  have HR1 : Hid (0 ≤ N → ∀ w' u, Nt w' u (o.natAbs * 2 ^ N.toNat) → Calls Tryz.prog 154 #[u] w' fun en w'' => ∃ v' r B, en = .returned (.tuple #[v', .bool B]) ∧ Ext w' w'' ∧ Nt w'' v' r ∧ RootIs x.natAbs f place r B ∧ r < 2 ^ (L + 40000)) := by
    intro h0 w' u hu
    refine (k_rooted u _ w' hu (Nat.ne_of_gt (Nat.mul_pos hO (Nat.two_pow_pos _))) (fit_of (k := L + 40000) (l := 1048570) hXb (by omega))).mono ?_
    rintro en w'' ⟨v', r, g1, g2, g3, g4⟩
    refine ⟨v', r, _, g1, g2, g3, ?_, hrr g4 hXb⟩
    rw [e3]
    exact rootIs_scale hO e2 (rootIs_up hO (by omega) g4)
  obtain ⟨W, hW⟩ : ∃ W, W = decide (o.natAbs % 2 ^ (-N).toNat = 0) := ⟨_, rfl⟩
  have HDn : Hid (N < 0 → ∀ w', Ext w w' → Calls Tryz.prog 92 #[.slice p l c, .int .i64 (-N)] w' fun en w'' => ∃ v', en = .returned (.tuple #[v', .bool W]) ∧ Ext w' w'' ∧ Nt w'' v' (o.natAbs / 2 ^ (-N).toNat)) := by
    intro h0 w' hx'
    obtain ⟨k, hk⟩ : ∃ k : Nat, -N = (k : Int) := ⟨(-N).toNat, by omega⟩
    rw [hW, hk]
    exact k_down _ _ k w' (hN.ext hx') (fit_of (k := L) (l := 1048575) b3 (by omega)) (by omega)
  have HR2 : Hid (N < 0 → ∀ w' u, Nt w' u (o.natAbs / 2 ^ (-N).toNat) → Calls Tryz.prog 154 #[u] w' fun en w'' => ∃ v' r B, en = .returned (.tuple #[v', .bool B]) ∧ Ext w' w'' ∧ Nt w'' v' r ∧ RootIs x.natAbs f place r (B && W) ∧ r < 2 ^ (L + 40000)) := by
    intro h0 w' u hu
    have hne : o.natAbs / 2 ^ (-N).toNat ≠ 0 := by
      have : 1 ≤ o.natAbs / 2 ^ (-N).toNat := by
        rw [Nat.le_div_iff_mul_le (Nat.two_pow_pos _), Nat.one_mul]
        exact Nat.le_trans (Nat.pow_le_pow_right (by decide) (by omega)) (bl_le (Nat.ne_of_gt hO))
      omega
    refine (k_rooted u _ w' hu hne (fit_of (k := L + 40000) (l := 1048570) hYb (by omega))).mono ?_
    rintro en w'' ⟨v', r, g1, g2, g3, g4⟩
    refine ⟨v', r, _, g1, g2, g3, ?_, hrr g4 hYb⟩
    rw [e3, hW]
    exact rootIs_scale hO e2 (rootIs_down hO (by omega) g4)
  have HNm : Hid (∀ w' v r, r < 2 ^ (L + 40000) → Nt w' v r → Calls Tryz.prog 77 #[.bool false, v, .int .i64 (-place)] w' fun en w'' => ∃ v', en = .returned v' ∧ Ext w' w'' ∧ Ry w'' v' ((r : Nat) : Int) (-place)) := by
    intro w' v r hb q1
    obtain ⟨zs, k1, k2, k3, k4⟩ := q1.fitted (L := L + 40000) hb (by omega)
    refine (k_norm false v zs (-place) w' k1 k2 k4 (by omega) (by omega)).mono ?_
    rintro en wn ⟨v', rfl, k5, k6⟩
    rw [k3] at k6
    exact ⟨v', rfl, k5, k6⟩
  obtain ⟨w1, hw1⟩ : ∃ w1, (w.alloc (.cells #[.bool n, .slice p l c, .int .i64 E] 35)).alloc (.cells #[.bool false, .slice none 0 0, .int .i64 0] 35) = w1 := ⟨_, rfl⟩
  have H1 : Hid (Bx w1 35 w.heap.size n (.slice p l c) E ∧ Bx w1 35 (w.heap.size + 1) false (.slice none 0 0) 0 ∧ Ext w w1) := by
    rw [← hw1]
    exact ⟨Bx.new1 _ _ _ _ _ _, Bx.new2 _ _ _ _ _ _, ((Ext.refl w).alloc _).alloc _⟩
  have a0 := H1.out.1.c0
  have a1 := H1.out.1.c1
  have a2 := H1.out.1.c2
  have r0 := H1.out.2.1.c0
  have r1 := H1.out.2.1.c1
  have r2 := H1.out.2.1.c2
  have r3 := H1.out.2.1.frozen 0
  have r4 := H1.out.2.1.frozen 1
  have r5 := H1.out.2.1.frozen 2
  clear h hn hl hN hr hpp hx hXb hYb hrr e1 e2 e3 b3 hbO hbOp hO hW ht
  by_cases h0 : 0 ≤ N
  · have t1 : decide (0 ≤ N) = true := by simp; omega
    have HU := Lib.hid (HU.out h0)
    have HR1 := Lib.hid (HR1.out h0)
    clear HDn HR2 h0
    go_enter Tryz.func127, Tryz.ntmps127
    go_wp2_with (fail)
    refine (HU.out _ H1.out.2.2).mono ?_
    rintro en w2 ⟨v2, rfl, hx, hv⟩
    have HV2 := Lib.hid hv
    clear hv
    have H2 : Hid (Bx w2 35 w.heap.size n (.slice p l c) E ∧ Bx w2 35 (w.heap.size + 1) false (.slice none 0 0) 0 ∧ Ext w w2) := ⟨H1.out.1.ext hx, H1.out.2.1.ext hx, H1.out.2.2.trans hx⟩
    clear hx
    clear a0 a1 a2 r0 r1 r2 r3 r4 r5
    have a0 := H2.out.1.c0
    have a1 := H2.out.1.c1
    have a2 := H2.out.1.c2
    have r0 := H2.out.2.1.c0
    have r1 := H2.out.2.1.c1
    have r2 := H2.out.2.1.c2
    have r3 := H2.out.2.1.frozen 0
    have r4 := H2.out.2.1.frozen 1
    have r5 := H2.out.2.1.frozen 2
    go_wp2_with (fail)
    refine (HR1.out _ v2 HV2.out).mono ?_
    rintro en w3 ⟨v3, r, B, rfl, hx, hv⟩
    have HV3 := Lib.hid hv
    clear hv
    have H3 : Hid (Bx w3 35 w.heap.size n (.slice p l c) E ∧ Bx w3 35 (w.heap.size + 1) false (.slice none 0 0) 0 ∧ Ext w w3) := ⟨H2.out.1.ext hx, H2.out.2.1.ext hx, H2.out.2.2.trans hx⟩
    clear hx
    clear a0 a1 a2 r0 r1 r2 r3 r4 r5
    have a0 := H3.out.1.c0
    have a1 := H3.out.1.c1
    have a2 := H3.out.1.c2
    have r0 := H3.out.2.1.c0
    have r1 := H3.out.2.1.c1
    have r2 := H3.out.2.1.c2
    have r3 := H3.out.2.1.frozen 0
    have r4 := H3.out.2.1.frozen 1
    have r5 := H3.out.2.1.frozen 2
    go_wp2_with (fail)
    refine (HNm.out _ v3 r HV3.out.2.2 HV3.out.1).mono ?_
    rintro en w4 ⟨v4, rfl, hx, hd⟩
    have HD := Lib.hid hd
    obtain ⟨nn, pp, ll, cc, oo, EE, rfl, -⟩ := hd.open
    clear hd
    have H4 : Hid (Bx w4 35 w.heap.size n (.slice p l c) E ∧ Bx w4 35 (w.heap.size + 1) false (.slice none 0 0) 0 ∧ Ext w w4) := ⟨H3.out.1.ext hx, H3.out.2.1.ext hx, H3.out.2.2.trans hx⟩
    clear hx
    clear a0 a1 a2 r0 r1 r2 r3 r4 r5
    have a0 := H4.out.1.c0
    have a1 := H4.out.1.c1
    have a2 := H4.out.1.c2
    have r0 := H4.out.2.1.c0
    have r1 := H4.out.2.1.c1
    have r2 := H4.out.2.1.c2
    have r3 := H4.out.2.1.frozen 0
    have r4 := H4.out.2.1.frozen 1
    have r5 := H4.out.2.1.frozen 2
    go_wp2_with (fail)
    refine bodyPost_ret (v := .tuple #[.agg #[.bool nn, .slice pp ll cc, .int .i64 EE], .bool B]) (by simp [results, Tryz.results127, go_sem, r0, r1, r2]) rfl ⟨.agg #[.bool nn, .slice pp ll cc, .int .i64 EE], r, B, rfl, ?_, ?_, HV3.out.2⟩
    · exact H4.out.2.2.set3 (by omega) _ _ _
    · exact HD.out.setBx H4.out.2.1 IsSl.nil _ _ _
  · have t1 : decide (0 ≤ N) = false := by simp; omega
    have HDn := Lib.hid (HDn.out (by omega))
    have HR2 := Lib.hid (HR2.out (by omega))
    clear HU HR1
    go_enter Tryz.func127, Tryz.ntmps127
    go_wp2_with (fail)
    refine (HDn.out _ H1.out.2.2).mono ?_
    rintro en w2 ⟨v2, rfl, hx, hv⟩
    have HV2 := Lib.hid hv
    clear hv
    have H2 : Hid (Bx w2 35 w.heap.size n (.slice p l c) E ∧ Bx w2 35 (w.heap.size + 1) false (.slice none 0 0) 0 ∧ Ext w w2) := ⟨H1.out.1.ext hx, H1.out.2.1.ext hx, H1.out.2.2.trans hx⟩
    clear hx
    clear a0 a1 a2 r0 r1 r2 r3 r4 r5
    have a0 := H2.out.1.c0
    have a1 := H2.out.1.c1
    have a2 := H2.out.1.c2
    have r0 := H2.out.2.1.c0
    have r1 := H2.out.2.1.c1
    have r2 := H2.out.2.1.c2
    have r3 := H2.out.2.1.frozen 0
    have r4 := H2.out.2.1.frozen 1
    have r5 := H2.out.2.1.frozen 2
    go_wp2_with (fail)
    refine (HR2.out _ v2 HV2.out).mono ?_
    rintro en w3 ⟨v3, r, B, rfl, hx, hv⟩
    have HV3 := Lib.hid hv
    clear hv
    have H3 : Hid (Bx w3 35 w.heap.size n (.slice p l c) E ∧ Bx w3 35 (w.heap.size + 1) false (.slice none 0 0) 0 ∧ Ext w w3) := ⟨H2.out.1.ext hx, H2.out.2.1.ext hx, H2.out.2.2.trans hx⟩
    clear hx
    clear a0 a1 a2 r0 r1 r2 r3 r4 r5
    have a0 := H3.out.1.c0
    have a1 := H3.out.1.c1
    have a2 := H3.out.1.c2
    have r0 := H3.out.2.1.c0
    have r1 := H3.out.2.1.c1
    have r2 := H3.out.2.1.c2
    have r3 := H3.out.2.1.frozen 0
    have r4 := H3.out.2.1.frozen 1
    have r5 := H3.out.2.1.frozen 2
    cases B
    · go_wp2_with (fail)
      refine (HNm.out _ v3 r HV3.out.2.2 HV3.out.1).mono ?_
      rintro en w4 ⟨v4, rfl, hx, hd⟩
      have HD := Lib.hid hd
      obtain ⟨nn, pp, ll, cc, oo, EE, rfl, -⟩ := hd.open
      clear hd
      have H4 : Hid (Bx w4 35 w.heap.size n (.slice p l c) E ∧ Bx w4 35 (w.heap.size + 1) false (.slice none 0 0) 0 ∧ Ext w w4) := ⟨H3.out.1.ext hx, H3.out.2.1.ext hx, H3.out.2.2.trans hx⟩
      clear hx
      clear a0 a1 a2 r0 r1 r2 r3 r4 r5
      have a0 := H4.out.1.c0
      have a1 := H4.out.1.c1
      have a2 := H4.out.1.c2
      have r0 := H4.out.2.1.c0
      have r1 := H4.out.2.1.c1
      have r2 := H4.out.2.1.c2
      have r3 := H4.out.2.1.frozen 0
      have r4 := H4.out.2.1.frozen 1
      have r5 := H4.out.2.1.frozen 2
      go_wp2_with (fail)
      refine bodyPost_ret (v := .tuple #[.agg #[.bool nn, .slice pp ll cc, .int .i64 EE], .bool false]) (by simp [results, Tryz.results127, go_sem, r0, r1, r2]) rfl ⟨.agg #[.bool nn, .slice pp ll cc, .int .i64 EE], r, false, rfl, ?_, ?_, HV3.out.2⟩
      · exact H4.out.2.2.set3 (by omega) _ _ _
      · exact HD.out.setBx H4.out.2.1 IsSl.nil _ _ _
    · go_wp2_with (fail)
      refine (HNm.out _ v3 r HV3.out.2.2 HV3.out.1).mono ?_
      rintro en w4 ⟨v4, rfl, hx, hd⟩
      have HD := Lib.hid hd
      obtain ⟨nn, pp, ll, cc, oo, EE, rfl, -⟩ := hd.open
      clear hd
      have H4 : Hid (Bx w4 35 w.heap.size n (.slice p l c) E ∧ Bx w4 35 (w.heap.size + 1) false (.slice none 0 0) 0 ∧ Ext w w4) := ⟨H3.out.1.ext hx, H3.out.2.1.ext hx, H3.out.2.2.trans hx⟩
      clear hx
      clear a0 a1 a2 r0 r1 r2 r3 r4 r5
      have a0 := H4.out.1.c0
      have a1 := H4.out.1.c1
      have a2 := H4.out.1.c2
      have r0 := H4.out.2.1.c0
      have r1 := H4.out.2.1.c1
      have r2 := H4.out.2.1.c2
      have r3 := H4.out.2.1.frozen 0
      have r4 := H4.out.2.1.frozen 1
      have r5 := H4.out.2.1.frozen 2
      go_wp2_with (fail)
      refine bodyPost_ret (v := .tuple #[.agg #[.bool nn, .slice pp ll cc, .int .i64 EE], .bool W]) (by simp [results, Tryz.results127, go_sem, r0, r1, r2]) rfl ⟨.agg #[.bool nn, .slice pp ll cc, .int .i64 EE], r, W, rfl, ?_, ?_, HV3.out.2⟩
      · exact H4.out.2.2.set3 (by omega) _ _ _
      · exact HD.out.setBx H4.out.2.1 IsSl.nil _ _ _
end Go.Proofs.YtdpjkddllimcoaaGreatDoor
end

section
/- The reference's roots, rounded. -/
namespace Go.Proofs.YtdpjkddllimcoaaGreatDoor
open Go.RowKit Fl
set_option maxRecDepth 20000 in
set_option maxHeartbeats 2000000 in
theorem k_SqrtTo (a : Value) (x f m : Int) (L : Nat) (w : World) (h : Ry w a x f) (hx0 : 0 < x) (hx : x.natAbs < 2 ^ L) (hL : L ≤ 6000) (hf : -6000 ≤ f ∧ f ≤ 6000) (htop : -2300 ≤ (bl x.natAbs : Int) + f ∧ (bl x.natAbs : Int) + f ≤ 2200) (hm : m = 1 ∨ m = 2 ∨ m = 3) :
    Calls Tryz.prog 72 #[a, .int .i64 m] w fun en w' => en = .returned (.float .f64 (rnd (cT x.natAbs f) (aim false m))) ∧ Ext w w' := by
  obtain ⟨n, p, l, c, o, E, rfl, hn, hl, -⟩ := h.open
  have t0 := len_ne0 (Nat.pos_of_ne_zero (fun h0 => by have := hl.1 h0; omega))
  obtain ⟨tx, htx⟩ : ∃ tx, tx = topI x f := ⟨_, rfl⟩
  have htx' : tx = (bl x.natAbs : Int) + f := by rw [htx]; unfold topI; rw [if_neg (by omega)]
  have HT : Hid (∀ w', Ext w w' → Calls Tryz.prog 124 #[.agg #[.bool n, .slice p l c, .int .i64 E]] w' fun en w'' => en = .returned (.int .i64 tx) ∧ Ext w' w'') := fun w' hx' => by rw [htx]; exact k_High _ x f L w' (h.ext hx') hx (by omega) (by omega)
  obtain ⟨R, hR⟩ : ∃ R, R = rnd (cT x.natAbs f) (aim false m) := ⟨_, rfl⟩
  rw [← hR]
  obtain ⟨P, hP⟩ : ∃ P : Int, P = if 0 < tx then 120 else 1200 := ⟨_, rfl⟩
  have hPb : (0 < tx ∧ P = 120) ∨ (¬ 0 < tx ∧ P = 1200) := by
    by_cases h0 : 0 < tx
    · left; rw [if_pos h0] at hP; exact ⟨h0, hP⟩
    · right; rw [if_neg h0] at hP; exact ⟨h0, hP⟩
  clear hP
  have HRo : Hid (∀ w', Ext w w' → Calls Tryz.prog 127 #[.agg #[.bool n, .slice p l c, .int .i64 E], .int .i64 P] w' fun en w'' => ∃ v r B, en = .returned (.tuple #[v, .bool B]) ∧ Ext w' w'' ∧ Ry w'' v ((r : Nat) : Int) (-P) ∧ RootIs x.natAbs f P r B ∧ r < 2 ^ (L + 40000)) := fun w' hx' => k_RootOf _ x f P L w' (h.ext hx') hx0 hx (by omega) (by omega) (by omega) (by omega)
  have HBt : Hid (∀ w' u r B, Ry w' u ((r : Nat) : Int) (-P) → RootIs x.natAbs f P r B → r < 2 ^ (L + 40000) → Calls Tryz.prog 125 #[u, .bool B, .int .i64 P, .int .i64 m] w' fun en w'' => en = .returned (.float .f64 R) ∧ Ext w' w'') := by
    intro w' u r B hu hroot hb
    have hr0 : r ≠ 0 := by
      have := hroot.2 0 (by omega)
      rw [Nat.pow_zero] at this
      omega
    have := k_Between u (r : Int) P m B (L + 40000) w' hu (fun _ => by omega) (by rw [Int.natAbs_natCast]; exact hb) (by omega) (by omega) hm
    have e := btw_over (n := false) (m := m) hroot.1 (fun _ => hr0) (fun hB => by
      rcases hPb with ⟨g1, g2⟩ | ⟨g1, g2⟩
      · right
        exact hroot.2 53 (by omega)
      · left; omega)
    rw [show over false r B = (r : Int) by unfold over sg; simp] at e
    rw [e] at this
    rw [hR]
    exact this
  have HX : Hid (∀ o1, Ext w (w.alloc o1)) := fun o1 => (Ext.refl w).alloc o1
  obtain ⟨w1, hw1⟩ : ∃ w1, w.alloc (.cells #[.bool n, .slice p l c, .int .i64 E] 35) = w1 := ⟨_, rfl⟩
  have H1 : Hid (Bx w1 35 w.heap.size n (.slice p l c) E ∧ Ext w w1) := by rw [← hw1]; exact ⟨Bx.new _ _ _ _ _, HX.out _⟩
  have a0 := H1.out.1.c0
  have a1 := H1.out.1.c1
  have a2 := H1.out.1.c2
  have t1 : decide (2200 < tx) = false := by simp; omega
  have t2 : decide (tx < -2400) = false := by simp; omega
  clear h hn hl hx hm hR htx htx' htop
  go_enter Tryz.func72, Tryz.ntmps72
  go_wp2_with (fail)
  refine (HT.out _ H1.out.2).mono ?_
  rintro en w2 ⟨rfl, hx⟩
  have H2 : Hid (Bx w2 35 w.heap.size n (.slice p l c) E ∧ Ext w w2) := ⟨H1.out.1.ext hx, H1.out.2.trans hx⟩
  clear hx a0 a1 a2
  have a0 := H2.out.1.c0
  have a1 := H2.out.1.c1
  have a2 := H2.out.1.c2
  go_wp2_with (fail)
  refine (HT.out _ H2.out.2).mono ?_
  rintro en w3 ⟨rfl, hx⟩
  have H3 : Hid (Bx w3 35 w.heap.size n (.slice p l c) E ∧ Ext w w3) := ⟨H2.out.1.ext hx, H2.out.2.trans hx⟩
  clear hx a0 a1 a2
  have a0 := H3.out.1.c0
  have a1 := H3.out.1.c1
  have a2 := H3.out.1.c2
  rcases hPb with ⟨h0, rfl⟩ | ⟨h0, rfl⟩
  · have t3 : decide (0 < tx) = true := by simp; omega
    clear h0
    go_wp2_with (fail)
    refine (HRo.out _ H3.out.2).mono ?_
    rintro en w4 ⟨v4, r, B, rfl, hx, hd, hroot⟩
    have HV := Lib.hid (And.intro hd hroot)
    obtain ⟨nn, pp, ll, cc, oo, EE, rfl, -⟩ := hd.open
    have H4 := Lib.hid (H3.out.2.trans hx)
    clear hx hd hroot a0 a1 a2
    go_wp2_with (fail)
    refine (HBt.out _ _ r B (HV.out.1.ext ((Ext.refl _).alloc _)) HV.out.2.1 HV.out.2.2).mono ?_
    rintro en wn ⟨rfl, hx⟩
    have HE := Lib.hid ((H4.out.alloc _).trans hx)
    clear hx
    go_wp2_with (fail)
    go_ret
    exact ⟨rfl, HE.out⟩
  · have t3 : decide (0 < tx) = false := by simp; omega
    clear h0
    go_wp2_with (fail)
    refine (HRo.out _ H3.out.2).mono ?_
    rintro en w4 ⟨v4, r, B, rfl, hx, hd, hroot⟩
    have HV := Lib.hid (And.intro hd hroot)
    obtain ⟨nn, pp, ll, cc, oo, EE, rfl, -⟩ := hd.open
    have H4 := Lib.hid (H3.out.2.trans hx)
    clear hx hd hroot a0 a1 a2
    go_wp2_with (fail)
    refine (HBt.out _ _ r B (HV.out.1.ext ((Ext.refl _).alloc _)) HV.out.2.1 HV.out.2.2).mono ?_
    rintro en wn ⟨rfl, hx⟩
    have HE := Lib.hid ((H4.out.alloc _).trans hx)
    clear hx
    go_wp2_with (fail)
    go_ret
    exact ⟨rfl, HE.out⟩
end Go.Proofs.YtdpjkddllimcoaaGreatDoor
end

section
/- Rounded roots of every float: the program's, the reference's. -/
namespace Fl
open Ieee
/-- a root, rounded, of every float. -/
noncomputable def tSqrt (a : Nat) (mode : Int) : Nat :=
  if mode = 1 ∨ mode = 2 ∨ mode = 3 then
    if nan a = true then 9221120237041090560
    else if mag a = 0 then a
    else if neg a = true then 9221120237041090560
    else if mag a = INF then a else rRoot a mode
  else 9221120237041090560
theorem root_lt (a : Nat) (mode : Int) : rRoot a mode < 18446744073709551616 := Nat.lt_trans (rnd_S _ _) (by decide)
theorem tSqrt_lt {a : Nat} {mode : Int} (ha : a < 18446744073709551616) : tSqrt a mode < 18446744073709551616 := by
  unfold tSqrt
  split
  · split
    · decide
    · split
      · exact ha
      · split
        · decide
        · split
          · exact ha
          · exact root_lt a mode
  · decide
theorem val_gt {a : Nat} (hn : neg a = false) (h0 : mag a ≠ 0) : 0 < val a := by
  have h1 := val_ne (a := a) (by omega)
  have h2 : 0 ≤ val a := by
    unfold neg at hn
    unfold val
    rw [if_neg (by simpa using hn)]
    omega
  omega
theorem flt_zero_eq {a : Nat} (ha : a < 18446744073709551616) (h0 : mag a = 0) : flt a 0 = false := by
  rw [flt_eq (by simpa using ha) (by decide)]
  have h1 : key a = 0 := by
    unfold key
    unfold mag at h0
    split <;> (unfold S at *; omega)
  rw [h1]
  simp [key, S]
end Fl
namespace Go.Proofs.YtdpjkddllimcoaaGreatDoor
open Go.RowKit Fl
theorem u_Sqrt (a : Nat) (mode : Int) (ha : a < 18446744073709551616) (w : World) (hT : Tab32 w) :
    Calls Tryz.prog 25 #[.float .f64 a, .int .i64 mode] w fun en w' => ∃ R, en = .returned (.float .f64 R) ∧ Ext w w' ∧ R < 18446744073709551616 ∧ sameF R (tSqrt a mode) = true := by
  unfold tSqrt
  by_cases hm : mode = 1 ∨ mode = 2 ∨ mode = 3
  · rw [if_pos hm]
    by_cases h1 : nan a = true
    · rw [if_pos h1]
      refine (r_Sqrt_nan a mode ha hm (.inl h1) w).mono ?_
      rintro en wn ⟨rfl, rfl⟩
      exact ⟨_, rfl, Ext.refl _, by decide, sameF_nan nan_PN nan_QN⟩
    · rw [if_neg h1]
      rw [Bool.not_eq_true] at h1
      have la := nnan_le h1
      by_cases h2 : mag a = 0
      · rw [if_pos h2]
        refine (r_Sqrt_same a mode ha hm h1 (flt_zero_eq ha h2) (.inl (feq_zero_true ha h2)) w).mono ?_
        rintro en wn ⟨rfl, rfl⟩
        exact ⟨_, rfl, Ext.refl _, ha, sameF_self _⟩
      · rw [if_neg h2]
        have h3 := flt_zero ha h1 (by omega)
        by_cases h4 : neg a = true
        · rw [if_pos h4]
          refine (r_Sqrt_nan a mode ha hm (.inr (by rw [h3, h4])) w).mono ?_
          rintro en wn ⟨rfl, rfl⟩
          exact ⟨_, rfl, Ext.refl _, by decide, sameF_nan nan_PN nan_QN⟩
        · rw [if_neg h4]
          rw [Bool.not_eq_true] at h4
          by_cases h5 : mag a = INF
          · rw [if_pos h5]
            refine (r_Sqrt_same a mode ha hm h1 (by rw [h3, h4]) (.inr ⟨feq_zero_false ha (by omega), h5⟩) w).mono ?_
            rintro en wn ⟨rfl, rfl⟩
            exact ⟨_, rfl, Ext.refl _, ha, sameF_self _⟩
          · rw [if_neg h5]
            have h6 := mag_pos h4
            refine (r_Sqrt_fin a mode ha (by omega) (by omega) hm w hT).mono ?_
            rintro en wn ⟨rfl, hx⟩
            exact ⟨_, rfl, hx, root_lt a mode, sameF_self _⟩
  · rw [if_neg hm]
    refine (r_Sqrt_bad a mode hm w).mono ?_
    rintro en wn ⟨rfl, rfl⟩
    exact ⟨_, rfl, Ext.refl _, by decide, sameF_nan nan_PN nan_QN⟩
set_option maxRecDepth 20000 in
set_option maxHeartbeats 1000000 in
theorem t_Sqrt (a : Nat) (mode : Int) (w : World) (ha : a < 18446744073709551616) :
    Calls Tryz.prog 26 #[.float .f64 a, .int .i64 mode] w fun en wn => en = .returned (.float .f64 (tSqrt a mode)) ∧ Ext w wn := by
  have HV : Hid (∀ w', Calls Tryz.prog 20 #[.int .i64 mode] w' fun en wn => en = .returned (.int .i64 (if mode = 1 ∨ mode = 2 ∨ mode = 3 then 0 else 1)) ∧ w' = wn) := fun w' => t_valid mode w'
  have HNa : Hid (∀ w', Calls Tryz.prog 37 #[.float .f64 a] w' fun en wn => en = .returned (.bool (nan a)) ∧ w' = wn) := fun w' => c_isNaN a ha w'
  have HIa : Hid (∀ w', Calls Tryz.prog 38 #[.float .f64 a] w' fun en wn => en = .returned (.bool (decide (mag a = INF))) ∧ w' = wn) := fun w' => c_isInf a ha w'
  have HGa : Hid (∀ w', Calls Tryz.prog 50 #[.float .f64 a] w' fun en wn => en = .returned (.bool (neg a)) ∧ w' = wn) := fun w' => c_neg a ha w'
  have HZa : Hid (∀ w', Calls Tryz.prog 62 #[.float .f64 a] w' fun en wn => en = .returned (.bool (decide (mag a = 0))) ∧ w' = wn) := fun w' => c_isZero a ha w'
  have HFa : Hid (∀ w', Calls Tryz.prog 30 #[.float .f64 a] w' fun en w'' => ∃ v, en = .returned v ∧ Ext w' w'' ∧ Ry w'' v (val a) (-1074)) := fun w' => k_Float a ha w'
  unfold tSqrt
  by_cases hm : mode = 1 ∨ mode = 2 ∨ mode = 3
  · rw [if_pos hm] at HV
    rw [if_pos hm]
    by_cases h1 : nan a = true
    · rw [if_pos h1]
      rw [h1] at HNa
      clear hm h1 ha HIa HGa HZa HFa
      go_enter Tryz.func26, Tryz.ntmps26
      go_wp2_with (fail)
      refine (HV.out _).mono ?_
      rintro en wn ⟨rfl, rfl⟩
      go_wp2_with (fail)
      refine (HNa.out _).mono ?_
      rintro en wn ⟨rfl, rfl⟩
      go_wp2_with (fail)
      refine (c_not _).mono ?_
      rintro en wn ⟨rfl, rfl⟩
      go_wp2_with (fail)
      go_ret
      exact ⟨rfl, Ext.refl _⟩
    · rw [if_neg h1]
      rw [Bool.not_eq_true] at h1
      rw [h1] at HNa
      have la := nnan_le h1
      by_cases h2 : mag a = 0
      · rw [if_pos h2]
        rw [decide_eq_true h2] at HZa
        clear hm h1 h2 ha la HIa HGa HFa
        go_enter Tryz.func26, Tryz.ntmps26
        go_wp2_with (fail)
        refine (HV.out _).mono ?_
        rintro en wn ⟨rfl, rfl⟩
        go_wp2_with (fail)
        refine (HNa.out _).mono ?_
        rintro en wn ⟨rfl, rfl⟩
        go_wp2_with (fail)
        refine (HZa.out _).mono ?_
        rintro en wn ⟨rfl, rfl⟩
        go_wp2_with (fail)
        go_ret
        exact ⟨rfl, Ext.refl _⟩
      · rw [if_neg h2]
        rw [decide_eq_false h2] at HZa
        by_cases h4 : neg a = true
        · rw [if_pos h4]
          rw [h4] at HGa
          clear hm h1 h2 h4 ha la HIa HFa
          go_enter Tryz.func26, Tryz.ntmps26
          go_wp2_with (fail)
          refine (HV.out _).mono ?_
          rintro en wn ⟨rfl, rfl⟩
          go_wp2_with (fail)
          refine (HNa.out _).mono ?_
          rintro en wn ⟨rfl, rfl⟩
          go_wp2_with (fail)
          refine (HZa.out _).mono ?_
          rintro en wn ⟨rfl, rfl⟩
          go_wp2_with (fail)
          refine (HGa.out _).mono ?_
          rintro en wn ⟨rfl, rfl⟩
          go_wp2_with (fail)
          refine (c_not _).mono ?_
          rintro en wn ⟨rfl, rfl⟩
          go_wp2_with (fail)
          go_ret
          exact ⟨rfl, Ext.refl _⟩
        · rw [if_neg h4]
          rw [Bool.not_eq_true] at h4
          rw [h4] at HGa
          by_cases h5 : mag a = INF
          · rw [if_pos h5]
            rw [decide_eq_true h5] at HIa
            clear hm h1 h2 h4 h5 ha la HFa
            go_enter Tryz.func26, Tryz.ntmps26
            go_wp2_with (fail)
            refine (HV.out _).mono ?_
            rintro en wn ⟨rfl, rfl⟩
            go_wp2_with (fail)
            refine (HNa.out _).mono ?_
            rintro en wn ⟨rfl, rfl⟩
            go_wp2_with (fail)
            refine (HZa.out _).mono ?_
            rintro en wn ⟨rfl, rfl⟩
            go_wp2_with (fail)
            refine (HGa.out _).mono ?_
            rintro en wn ⟨rfl, rfl⟩
            go_wp2_with (fail)
            refine (HIa.out _).mono ?_
            rintro en wn ⟨rfl, rfl⟩
            go_wp2_with (fail)
            go_ret
            exact ⟨rfl, Ext.refl _⟩
          · rw [if_neg h5]
            rw [decide_eq_false h5] at HIa
            have HSq : Hid (∀ w' u, Ry w' u (val a) (-1074) → Calls Tryz.prog 72 #[u, .int .i64 mode] w' fun en w'' => en = .returned (.float .f64 (rRoot a mode)) ∧ Ext w' w'') := by
              intro w' u hu
              have hb := val_bits (a := a) (by omega)
              have hp := val_gt h4 h2
              have h6 := bl_le_of hb
              have h7 := bl_pos (n := (val a).natAbs) (by omega)
              exact k_SqrtTo u (val a) (-1074) mode 2100 w' hu hp hb (by decide) (by decide) (by omega) hm
            clear hm h1 h2 h4 h5 ha la
            generalize rRoot a mode = R at *
            generalize val a = va at *
            go_enter Tryz.func26, Tryz.ntmps26
            go_wp2_with (fail)
            refine (HV.out _).mono ?_
            rintro en wn ⟨rfl, rfl⟩
            go_wp2_with (fail)
            refine (HNa.out _).mono ?_
            rintro en wn ⟨rfl, rfl⟩
            go_wp2_with (fail)
            refine (HZa.out _).mono ?_
            rintro en wn ⟨rfl, rfl⟩
            go_wp2_with (fail)
            refine (HGa.out _).mono ?_
            rintro en wn ⟨rfl, rfl⟩
            go_wp2_with (fail)
            refine (HIa.out _).mono ?_
            rintro en wn ⟨rfl, rfl⟩
            go_wp2_with (fail)
            refine (HFa.out _).mono ?_
            rintro en w1 ⟨v1, rfl, hx, hd⟩
            have H1 := Lib.hid (And.intro hx hd)
            clear hx hd
            go_wp2_with (fail)
            refine (HSq.out _ v1 H1.out.2).mono ?_
            rintro en w2 ⟨rfl, hx⟩
            have H2 := Lib.hid (H1.out.1.trans hx)
            clear hx
            go_wp2_with (fail)
            go_ret
            exact ⟨rfl, H2.out⟩
  · rw [if_neg hm] at HV
    rw [if_neg hm]
    clear hm HNa HIa HGa HZa HFa ha
    go_enter Tryz.func26, Tryz.ntmps26
    go_wp2_with (fail)
    refine (HV.out _).mono ?_
    rintro en wn ⟨rfl, rfl⟩
    go_wp2_with (fail)
    refine (c_not _).mono ?_
    rintro en wn ⟨rfl, rfl⟩
    go_wp2_with (fail)
    go_ret
    exact ⟨rfl, Ext.refl _⟩
end Go.Proofs.YtdpjkddllimcoaaGreatDoor
end

section
/- Rounded roots of two squares' sums: the program's, the reference's. -/
namespace Fl
open Ieee
/-- the root of two squares' sum, rounded, of every two floats. -/
noncomputable def tHyp (a b : Nat) (mode : Int) : Nat :=
  if mode = 1 ∨ mode = 2 ∨ mode = 3 then
    if mag a = INF ∨ mag b = INF then word false INF
    else if nan a = true ∨ nan b = true then 9221120237041090560 else rHyp a b mode
  else 9221120237041090560
theorem hyp_lt (a b : Nat) (mode : Int) : rHyp a b mode < 18446744073709551616 := by
  unfold rHyp
  split
  · decide
  · exact Nat.lt_trans (rnd_S _ _) (by decide)
theorem tHyp_lt (a b : Nat) (mode : Int) : tHyp a b mode < 18446744073709551616 := by
  unfold tHyp
  split
  · split
    · exact word_INF_lt _
    · split
      · decide
      · exact hyp_lt a b mode
  · decide
theorem sq_sum_bits {x y : Int} (hx : x.natAbs < 2 ^ 2100) (hy : y.natAbs < 2 ^ 2100) : (x * x).natAbs < 2 ^ 4200 ∧ (y * y).natAbs < 2 ^ 4200 ∧ (x * x + y * y).natAbs < 2 ^ 4201 ∧ 0 ≤ x * x + y * y := by
  have h1 := sq_bits hx
  have h2 := sq_bits hy
  have h3 := sq_nn x
  have h4 := sq_nn y
  refine ⟨h1, h2, two_pow_lt_of (L := 4200 + 1) (M := 4201) (natAbs_add_lt (L := 4200) h1 h2) (by decide), by omega⟩
end Fl
namespace Go.Proofs.YtdpjkddllimcoaaGreatDoor
open Go.RowKit Fl
theorem u_Hypot (a b : Nat) (mode : Int) (ha : a < 18446744073709551616) (hb : b < 18446744073709551616) (w : World) (hT : Tab32 w) :
    Calls Tryz.prog 27 #[.float .f64 a, .float .f64 b, .int .i64 mode] w fun en w' => ∃ R, en = .returned (.float .f64 R) ∧ Ext w w' ∧ R < 18446744073709551616 ∧ sameF R (tHyp a b mode) = true := by
  unfold tHyp
  by_cases hm : mode = 1 ∨ mode = 2 ∨ mode = 3
  · rw [if_pos hm]
    by_cases hi : mag a = INF ∨ mag b = INF
    · rw [if_pos hi]
      refine (r_Hypot_inf a b mode ha hb hm hi w).mono ?_
      rintro en wn ⟨rfl, rfl⟩
      exact ⟨_, rfl, Ext.refl _, by decide, sameF_self _⟩
    · rw [if_neg hi]
      have i1 : mag a ≠ INF := fun h => hi (.inl h)
      have i2 : mag b ≠ INF := fun h => hi (.inr h)
      by_cases hn : nan a = true ∨ nan b = true
      · rw [if_pos hn]
        refine (r_Hypot_nan a b mode ha hb hm i1 i2 hn w).mono ?_
        rintro en wn ⟨rfl, rfl⟩
        exact ⟨_, rfl, Ext.refl _, by decide, sameF_nan nan_PN nan_QN⟩
      · rw [if_neg hn]
        have h1 : nan a = false := by rw [← Bool.not_eq_true]; exact fun h => hn (.inl h)
        have h2 : nan b = false := by rw [← Bool.not_eq_true]; exact fun h => hn (.inr h)
        have la := nnan_le h1
        have lb := nnan_le h2
        by_cases h0 : val a * val a + val b * val b = 0
        · refine (r_Hypot_zero a b mode ha hb (by omega) (by omega) h0 hm w hT).mono ?_
          rintro en wn ⟨rfl, hx⟩
          exact ⟨_, rfl, hx, hyp_lt a b mode, sameF_self _⟩
        · refine (r_Hypot_fin a b mode ha hb (by omega) (by omega) h0 hm w hT).mono ?_
          rintro en wn ⟨rfl, hx⟩
          exact ⟨_, rfl, hx, hyp_lt a b mode, sameF_self _⟩
  · rw [if_neg hm]
    refine (r_Hypot_bad a b mode hm w).mono ?_
    rintro en wn ⟨rfl, rfl⟩
    exact ⟨_, rfl, Ext.refl _, by decide, sameF_nan nan_PN nan_QN⟩
set_option maxRecDepth 20000 in
set_option maxHeartbeats 2000000 in
theorem t_Hypot (a b : Nat) (mode : Int) (w : World) (ha : a < 18446744073709551616) (hb : b < 18446744073709551616) :
    Calls Tryz.prog 28 #[.float .f64 a, .float .f64 b, .int .i64 mode] w fun en wn => en = .returned (.float .f64 (tHyp a b mode)) ∧ Ext w wn := by
  have HV : Hid (∀ w', Calls Tryz.prog 20 #[.int .i64 mode] w' fun en wn => en = .returned (.int .i64 (if mode = 1 ∨ mode = 2 ∨ mode = 3 then 0 else 1)) ∧ w' = wn) := fun w' => t_valid mode w'
  have HNa : Hid (∀ w', Calls Tryz.prog 37 #[.float .f64 a] w' fun en wn => en = .returned (.bool (nan a)) ∧ w' = wn) := fun w' => c_isNaN a ha w'
  have HNb : Hid (∀ w', Calls Tryz.prog 37 #[.float .f64 b] w' fun en wn => en = .returned (.bool (nan b)) ∧ w' = wn) := fun w' => c_isNaN b hb w'
  have HIa : Hid (∀ w', Calls Tryz.prog 38 #[.float .f64 a] w' fun en wn => en = .returned (.bool (decide (mag a = INF))) ∧ w' = wn) := fun w' => c_isInf a ha w'
  have HIb : Hid (∀ w', Calls Tryz.prog 38 #[.float .f64 b] w' fun en wn => en = .returned (.bool (decide (mag b = INF))) ∧ w' = wn) := fun w' => c_isInf b hb w'
  have HE : Hid (∀ w', Calls Tryz.prog 68 #[.bool false] w' fun en wn => en = .returned (.float .f64 (word false INF)) ∧ w' = wn) := fun w' => c_endless false w'
  have HFa : Hid (∀ w', Calls Tryz.prog 30 #[.float .f64 a] w' fun en w'' => ∃ v, en = .returned v ∧ Ext w' w'' ∧ Ry w'' v (val a) (-1074)) := fun w' => k_Float a ha w'
  have HFb : Hid (∀ w', Calls Tryz.prog 30 #[.float .f64 b] w' fun en w'' => ∃ v, en = .returned v ∧ Ext w' w'' ∧ Ry w'' v (val b) (-1074)) := fun w' => k_Float b hb w'
  unfold tHyp
  by_cases hm : mode = 1 ∨ mode = 2 ∨ mode = 3
  · rw [if_pos hm] at HV
    rw [if_pos hm]
    by_cases hi : mag a = INF ∨ mag b = INF
    · rw [if_pos hi]
      by_cases h1 : mag a = INF
      · rw [decide_eq_true h1] at HIa
        clear hm hi h1 HNa HNb HIb HFa HFb ha hb
        go_enter Tryz.func28, Tryz.ntmps28
        go_wp2_with (fail)
        refine (HV.out _).mono ?_
        rintro en wn ⟨rfl, rfl⟩
        go_wp2_with (fail)
        refine (HIa.out _).mono ?_
        rintro en wn ⟨rfl, rfl⟩
        go_wp2_with (fail)
        refine (HE.out _).mono ?_
        rintro en wn ⟨rfl, rfl⟩
        go_wp2_with (fail)
        go_ret
        exact ⟨rfl, Ext.refl _⟩
      · have h2 : mag b = INF := hi.resolve_left h1
        rw [decide_eq_false h1] at HIa
        rw [decide_eq_true h2] at HIb
        clear hm hi h1 h2 HNa HNb HFa HFb ha hb
        go_enter Tryz.func28, Tryz.ntmps28
        go_wp2_with (fail)
        refine (HV.out _).mono ?_
        rintro en wn ⟨rfl, rfl⟩
        go_wp2_with (fail)
        refine (HIa.out _).mono ?_
        rintro en wn ⟨rfl, rfl⟩
        go_wp2_with (fail)
        refine (HIb.out _).mono ?_
        rintro en wn ⟨rfl, rfl⟩
        go_wp2_with (fail)
        refine (HE.out _).mono ?_
        rintro en wn ⟨rfl, rfl⟩
        go_wp2_with (fail)
        go_ret
        exact ⟨rfl, Ext.refl _⟩
    · rw [if_neg hi]
      have i1 : mag a ≠ INF := fun h => hi (.inl h)
      have i2 : mag b ≠ INF := fun h => hi (.inr h)
      rw [decide_eq_false i1] at HIa
      rw [decide_eq_false i2] at HIb
      by_cases hn : nan a = true ∨ nan b = true
      · rw [if_pos hn]
        by_cases h1 : nan a = true
        · rw [h1] at HNa
          clear hm hi i1 i2 hn h1 HNb HFa HFb ha hb
          go_enter Tryz.func28, Tryz.ntmps28
          go_wp2_with (fail)
          refine (HV.out _).mono ?_
          rintro en wn ⟨rfl, rfl⟩
          go_wp2_with (fail)
          refine (HIa.out _).mono ?_
          rintro en wn ⟨rfl, rfl⟩
          go_wp2_with (fail)
          refine (HIb.out _).mono ?_
          rintro en wn ⟨rfl, rfl⟩
          go_wp2_with (fail)
          refine (HNa.out _).mono ?_
          rintro en wn ⟨rfl, rfl⟩
          go_wp2_with (fail)
          refine (c_not _).mono ?_
          rintro en wn ⟨rfl, rfl⟩
          go_wp2_with (fail)
          go_ret
          exact ⟨rfl, Ext.refl _⟩
        · have h2 : nan b = true := hn.resolve_left h1
          rw [Bool.not_eq_true] at h1
          rw [h1] at HNa
          rw [h2] at HNb
          clear hm hi i1 i2 hn h1 h2 HFa HFb ha hb
          go_enter Tryz.func28, Tryz.ntmps28
          go_wp2_with (fail)
          refine (HV.out _).mono ?_
          rintro en wn ⟨rfl, rfl⟩
          go_wp2_with (fail)
          refine (HIa.out _).mono ?_
          rintro en wn ⟨rfl, rfl⟩
          go_wp2_with (fail)
          refine (HIb.out _).mono ?_
          rintro en wn ⟨rfl, rfl⟩
          go_wp2_with (fail)
          refine (HNa.out _).mono ?_
          rintro en wn ⟨rfl, rfl⟩
          go_wp2_with (fail)
          refine (HNb.out _).mono ?_
          rintro en wn ⟨rfl, rfl⟩
          go_wp2_with (fail)
          refine (c_not _).mono ?_
          rintro en wn ⟨rfl, rfl⟩
          go_wp2_with (fail)
          go_ret
          exact ⟨rfl, Ext.refl _⟩
      · rw [if_neg hn]
        have h1 : nan a = false := by rw [← Bool.not_eq_true]; exact fun h => hn (.inl h)
        have h2 : nan b = false := by rw [← Bool.not_eq_true]; exact fun h => hn (.inr h)
        rw [h1] at HNa
        rw [h2] at HNb
        have la := nnan_le h1
        have lb := nnan_le h2
        have ba := val_bits (a := a) (by omega)
        have bb := val_bits (a := b) (by omega)
        obtain ⟨s1, s2, s3, s4⟩ := sq_sum_bits ba bb
        have HTa : Hid (∀ w' u, Ry w' u (val a) (-1074) → Calls Tryz.prog 33 #[u, u] w' fun en w'' => ∃ v, en = .returned v ∧ Ext w' w'' ∧ Ry w'' v (val a * val a) (-1074 + -1074)) := fun w' u g1 => k_Times u u _ _ (-1074) (-1074) 2100 w' g1 g1 ba ba (by decide) (by decide) (by decide)
        have HTb : Hid (∀ w' u, Ry w' u (val b) (-1074) → Calls Tryz.prog 33 #[u, u] w' fun en w'' => ∃ v, en = .returned v ∧ Ext w' w'' ∧ Ry w'' v (val b * val b) (-1074 + -1074)) := fun w' u g1 => k_Times u u _ _ (-1074) (-1074) 2100 w' g1 g1 bb bb (by decide) (by decide) (by decide)
        have HPl : Hid (∀ w' u v, Ry w' u (val a * val a) (-1074 + -1074) → Ry w' v (val b * val b) (-1074 + -1074) → Calls Tryz.prog 32 #[u, v] w' fun en w'' => ∃ v, en = .returned v ∧ Ext w' w'' ∧ Ry w'' v (val a * val a + val b * val b) (-1074 + -1074)) := fun w' u v g1 g2 => k_Plus u v _ _ (-1074 + -1074) 4200 w' g1 g2 s1 s2 (by decide) (by decide)
        have HSg : Hid (∀ w' u, Ry w' u (val a * val a + val b * val b) (-1074 + -1074) → Calls Tryz.prog 74 #[u] w' fun en w'' => en = .returned (.int .i64 (sgnI (val a * val a + val b * val b))) ∧ Ext w' w'') := fun w' u g1 => k_Sgn u _ _ w' g1
        have HSq : Hid (val a * val a + val b * val b ≠ 0 → ∀ w' u, Ry w' u (val a * val a + val b * val b) (-1074 + -1074) → Calls Tryz.prog 72 #[u, .int .i64 mode] w' fun en w'' => en = .returned (.float .f64 (rHyp a b mode)) ∧ Ext w' w'') := by
          intro h0 w' u hu
          unfold rHyp
          rw [if_neg h0]
          have h6 := bl_le_of s3
          have h7 := bl_pos (n := (val a * val a + val b * val b).natAbs) (by omega)
          exact k_SqrtTo u _ (-1074 + -1074) mode 4201 w' hu (by omega) s3 (by decide) (by decide) (by omega) hm
        have HZ : Hid (val a * val a + val b * val b = 0 → rHyp a b mode = 0) := by
          intro h0
          unfold rHyp
          rw [if_pos h0]
        clear hm hi i1 i2 hn h1 h2 la lb ba bb s1 s2 s3 s4 ha hb HE
        generalize rHyp a b mode = R at *
        generalize val a * val a + val b * val b = sm at *
        generalize val a * val a = sa at *
        generalize val b * val b = sb at *
        generalize val a = va at *
        generalize val b = vb at *
        go_enter Tryz.func28, Tryz.ntmps28
        go_wp2_with (fail)
        refine (HV.out _).mono ?_
        rintro en wn ⟨rfl, rfl⟩
        go_wp2_with (fail)
        refine (HIa.out _).mono ?_
        rintro en wn ⟨rfl, rfl⟩
        go_wp2_with (fail)
        refine (HIb.out _).mono ?_
        rintro en wn ⟨rfl, rfl⟩
        go_wp2_with (fail)
        refine (HNa.out _).mono ?_
        rintro en wn ⟨rfl, rfl⟩
        go_wp2_with (fail)
        refine (HNb.out _).mono ?_
        rintro en wn ⟨rfl, rfl⟩
        go_wp2_with (fail)
        refine (HFa.out _).mono ?_
        rintro en w1 ⟨v1, rfl, hx, hd⟩
        have H1 := Lib.hid (And.intro hx hd)
        clear hx hd
        go_wp2_with (fail)
        refine (HFb.out _).mono ?_
        rintro en w2 ⟨v2, rfl, hx, hd⟩
        have H2 := Lib.hid (And.intro (H1.out.1.trans hx) (And.intro (H1.out.2.ext hx) hd))
        obtain ⟨n2, p2, l2, c2, o2, E2, rfl, -⟩ := hd.open
        have hd1 := H1.out.2
        obtain ⟨n1, p1, l1, c1, o1, E1, rfl, -⟩ := hd1.open
        clear hx hd hd1
        obtain ⟨g, hg⟩ : ∃ g, w2.heap.size = g := ⟨_, rfl⟩
        go_upto_region 8 with (fail)
        have H3 : Hid (Bx ((w2.alloc (.cells #[.bool n1, .slice p1 l1 c1, .int .i64 E1] 35)).alloc (.cells #[.bool n2, .slice p2 l2 c2, .int .i64 E2] 35)) 35 g n1 (.slice p1 l1 c1) E1 ∧ Bx ((w2.alloc (.cells #[.bool n1, .slice p1 l1 c1, .int .i64 E1] 35)).alloc (.cells #[.bool n2, .slice p2 l2 c2, .int .i64 E2] 35)) 35 (g + 1) n2 (.slice p2 l2 c2) E2 ∧ Ext w ((w2.alloc (.cells #[.bool n1, .slice p1 l1 c1, .int .i64 E1] 35)).alloc (.cells #[.bool n2, .slice p2 l2 c2, .int .i64 E2] 35)) ∧ Ry ((w2.alloc (.cells #[.bool n1, .slice p1 l1 c1, .int .i64 E1] 35)).alloc (.cells #[.bool n2, .slice p2 l2 c2, .int .i64 E2] 35)) (.agg #[.bool n1, .slice p1 l1 c1, .int .i64 E1]) va (-1074) ∧ Ry ((w2.alloc (.cells #[.bool n1, .slice p1 l1 c1, .int .i64 E1] 35)).alloc (.cells #[.bool n2, .slice p2 l2 c2, .int .i64 E2] 35)) (.agg #[.bool n2, .slice p2 l2 c2, .int .i64 E2]) vb (-1074)) := by
          rw [← hg]
          exact ⟨Bx.new1 _ _ _ _ _ _, Bx.new2 _ _ _ _ _ _, (H2.out.1.alloc _).alloc _, H2.out.2.1.ext (((Ext.refl _).alloc _).alloc _), H2.out.2.2.ext (((Ext.refl _).alloc _).alloc _)⟩
        clear hg
        generalize (w2.alloc (.cells #[.bool n1, .slice p1 l1 c1, .int .i64 E1] 35)).alloc (.cells #[.bool n2, .slice p2 l2 c2, .int .i64 E2] 35) = w3 at *
        have a0 := H3.out.1.c0
        have a1 := H3.out.1.c1
        have a2 := H3.out.1.c2
        have a3 := H3.out.2.1.c0
        have a4 := H3.out.2.1.c1
        have a5 := H3.out.2.1.c2
        go_cut [9] (fun v9 wc => ∃ (g9 : Nat) (n9 : Bool) (p9 : Option Addr) (l9 c9 : Nat) (E9 : Int), v9 = .pointer (some ⟨g9, 0, none⟩) ∧ Hid (Ext w wc ∧ Ry wc (.agg #[.bool n9, .slice p9 l9 c9, .int .i64 E9]) sm (-1074 + -1074) ∧ wc.cell? ⟨g9, 0, none⟩ = some (.bool n9) ∧ wc.cell? ⟨g9, 1, none⟩ = some (.slice p9 l9 c9) ∧ wc.cell? ⟨g9, 2, none⟩ = some (.int .i64 E9)))
        case first =>
          go_region_held3 (fun w' => w'.cell? ⟨g, 0, none⟩ = some (.bool n1) ∧ w'.cell? ⟨g, 1, none⟩ = some (.slice p1 l1 c1) ∧ w'.cell? ⟨g, 2, none⟩ = some (.int .i64 E1) ∧ w'.cell? ⟨g + 1, 0, none⟩ = some (.bool n2) ∧ w'.cell? ⟨g + 1, 1, none⟩ = some (.slice p2 l2 c2) ∧ w'.cell? ⟨g + 1, 2, none⟩ = some (.int .i64 E2))
            (first | go_keep | (with_reducible exact ⟨(H6.out.1.set3 (by have := HN6.out.2; omega) _ _ _).c0, (H6.out.1.set3 (by have := HN6.out.2; omega) _ _ _).c1, (H6.out.1.set3 (by have := HN6.out.2; omega) _ _ _).c2, (H6.out.2.1.set3 (by have := HN6.out.2; omega) _ _ _).c0, (H6.out.2.1.set3 (by have := HN6.out.2; omega) _ _ _).c1, (H6.out.2.1.set3 (by have := HN6.out.2; omega) _ _ _).c2⟩) | (with_reducible exact ⟨(H6.out.1.ext ((Ext.refl _).alloc _)).c0, (H6.out.1.ext ((Ext.refl _).alloc _)).c1, (H6.out.1.ext ((Ext.refl _).alloc _)).c2, (H6.out.2.1.ext ((Ext.refl _).alloc _)).c0, (H6.out.2.1.ext ((Ext.refl _).alloc _)).c1, (H6.out.2.1.ext ((Ext.refl _).alloc _)).c2⟩) | (with_reducible exact ⟨(H5.out.1.ext ((Ext.refl _).alloc _)).c0, (H5.out.1.ext ((Ext.refl _).alloc _)).c1, (H5.out.1.ext ((Ext.refl _).alloc _)).c2, (H5.out.2.1.ext ((Ext.refl _).alloc _)).c0, (H5.out.2.1.ext ((Ext.refl _).alloc _)).c1, (H5.out.2.1.ext ((Ext.refl _).alloc _)).c2⟩) | (with_reducible exact ⟨(H4.out.1.ext ((Ext.refl _).alloc _)).c0, (H4.out.1.ext ((Ext.refl _).alloc _)).c1, (H4.out.1.ext ((Ext.refl _).alloc _)).c2, (H4.out.2.1.ext ((Ext.refl _).alloc _)).c0, (H4.out.2.1.ext ((Ext.refl _).alloc _)).c1, (H4.out.2.1.ext ((Ext.refl _).alloc _)).c2⟩) | (with_reducible exact ⟨(H3.out.1.ext ((Ext.refl _).alloc _)).c0, (H3.out.1.ext ((Ext.refl _).alloc _)).c1, (H3.out.1.ext ((Ext.refl _).alloc _)).c2, (H3.out.2.1.ext ((Ext.refl _).alloc _)).c0, (H3.out.2.1.ext ((Ext.refl _).alloc _)).c1, (H3.out.2.1.ext ((Ext.refl _).alloc _)).c2⟩) | (with_reducible exact ⟨H6.out.1.c0, H6.out.1.c1, H6.out.1.c2, H6.out.2.1.c0, H6.out.2.1.c1, H6.out.2.1.c2⟩) | (with_reducible exact ⟨H5.out.1.c0, H5.out.1.c1, H5.out.1.c2, H5.out.2.1.c0, H5.out.2.1.c1, H5.out.2.1.c2⟩) | (with_reducible exact ⟨H4.out.1.c0, H4.out.1.c1, H4.out.1.c2, H4.out.2.1.c0, H4.out.2.1.c1, H4.out.2.1.c2⟩) | (with_reducible exact ⟨H3.out.1.c0, H3.out.1.c1, H3.out.1.c2, H3.out.2.1.c0, H3.out.2.1.c1, H3.out.2.1.c2⟩) | fail)
            (first
              | (go_at_call_of 33 (Value.agg #[.bool n1, .slice p1 l1 c1, .int .i64 E1]); refine (HTa.out _ _ (by first | with_reducible exact H3.out.2.2.2.1 | with_reducible exact H3.out.2.2.2.1.ext ((Ext.refl _).drewN _) | with_reducible exact H3.out.2.2.2.1.ext (Ext.refl _).drew | with_reducible exact H3.out.2.2.2.1.ext ((Ext.refl _).alloc _) | with_reducible exact H3.out.2.2.2.1.ext ((Ext.refl _).alloc _).drew | with_reducible exact H3.out.2.2.2.1.ext (((Ext.refl _).alloc _).drewN _) | fail)).mono ?_; rintro en w4 ⟨v4, rfl, hx, hd⟩; have hx1 : Ext w3 w4 := (by first | with_reducible exact hx | with_reducible exact (Ext.of_drew hx) | with_reducible exact (Ext.of_drewN hx) | with_reducible exact ((Ext.refl _).alloc _).trans hx | with_reducible exact ((Ext.refl _).alloc _).trans (Ext.of_drew hx) | with_reducible exact ((Ext.refl _).alloc _).trans (Ext.of_drewN hx) | fail); have H4 : Hid (Bx w4 35 g n1 (.slice p1 l1 c1) E1 ∧ Bx w4 35 (g + 1) n2 (.slice p2 l2 c2) E2 ∧ Ext w w4 ∧ Ry w4 (.agg #[.bool n1, .slice p1 l1 c1, .int .i64 E1]) va (-1074) ∧ Ry w4 (.agg #[.bool n2, .slice p2 l2 c2, .int .i64 E2]) vb (-1074)) := ⟨H3.out.1.ext hx1, H3.out.2.1.ext hx1, H3.out.2.2.1.trans hx1, H3.out.2.2.2.1.ext hx1, H3.out.2.2.2.2.ext hx1⟩; (first | (have hxn : Ext (w3.alloc (.cells #[.bool false, .slice none 0 0, .int .i64 0] 35)) w4 := (by first | with_reducible exact hx | with_reducible exact Ext.of_drew hx | with_reducible exact Ext.of_drewN hx | fail); have HN4 : Hid (Bx w4 35 w3.heap.size false (.slice none 0 0) 0 ∧ g + 1 < w3.heap.size ∧ w.heap.size ≤ w3.heap.size) := ⟨(Bx.new w3 _ _ _ _).ext hxn, H3.out.2.1.lt, H3.out.2.2.1.size⟩; clear hxn) | skip); have HV4 := Lib.hid hd; clear hx hx1 hd)
              | (go_at_call_of 33 (Value.agg #[.bool n2, .slice p2 l2 c2, .int .i64 E2]); refine (HTb.out _ _ (by first | with_reducible exact H4.out.2.2.2.2 | with_reducible exact H4.out.2.2.2.2.ext ((Ext.refl _).drewN _) | with_reducible exact H4.out.2.2.2.2.ext (Ext.refl _).drew | with_reducible exact H4.out.2.2.2.2.ext ((Ext.refl _).alloc _) | with_reducible exact H4.out.2.2.2.2.ext ((Ext.refl _).alloc _).drew | with_reducible exact H4.out.2.2.2.2.ext (((Ext.refl _).alloc _).drewN _) | fail)).mono ?_; rintro en w5 ⟨v5, rfl, hx, hd⟩; have hx1 : Ext w4 w5 := (by first | with_reducible exact hx | with_reducible exact (Ext.of_drew hx) | with_reducible exact (Ext.of_drewN hx) | with_reducible exact ((Ext.refl _).alloc _).trans hx | with_reducible exact ((Ext.refl _).alloc _).trans (Ext.of_drew hx) | with_reducible exact ((Ext.refl _).alloc _).trans (Ext.of_drewN hx) | fail); have H5 : Hid (Bx w5 35 g n1 (.slice p1 l1 c1) E1 ∧ Bx w5 35 (g + 1) n2 (.slice p2 l2 c2) E2 ∧ Ext w w5 ∧ Ry w5 (.agg #[.bool n1, .slice p1 l1 c1, .int .i64 E1]) va (-1074) ∧ Ry w5 (.agg #[.bool n2, .slice p2 l2 c2, .int .i64 E2]) vb (-1074)) := ⟨H4.out.1.ext hx1, H4.out.2.1.ext hx1, H4.out.2.2.1.trans hx1, H4.out.2.2.2.1.ext hx1, H4.out.2.2.2.2.ext hx1⟩; (first | (have hxn : Ext (w4.alloc (.cells #[.bool false, .slice none 0 0, .int .i64 0] 35)) w5 := (by first | with_reducible exact hx | with_reducible exact Ext.of_drew hx | with_reducible exact Ext.of_drewN hx | fail); have HN5 : Hid (Bx w5 35 w4.heap.size false (.slice none 0 0) 0 ∧ g + 1 < w4.heap.size ∧ w.heap.size ≤ w4.heap.size) := ⟨(Bx.new w4 _ _ _ _).ext hxn, H4.out.2.1.lt, H4.out.2.2.1.size⟩; clear hxn) | (have HN5 := Lib.hid (And.intro (HN4.out.1.ext hx1) HN4.out.2)) | skip); have HV5 := Lib.hid (And.intro (HV4.out.ext hx1) hd); clear hx hx1 hd)
              | (go_at_call 32; refine (HPl.out _ v4 v5 (by first | with_reducible exact HV5.out.1 | with_reducible exact HV5.out.1.ext ((Ext.refl _).drewN _) | with_reducible exact HV5.out.1.ext (Ext.refl _).drew | with_reducible exact HV5.out.1.ext ((Ext.refl _).alloc _) | with_reducible exact HV5.out.1.ext ((Ext.refl _).alloc _).drew | with_reducible exact HV5.out.1.ext (((Ext.refl _).alloc _).drewN _) | fail) (by first | with_reducible exact HV5.out.2 | with_reducible exact HV5.out.2.ext ((Ext.refl _).drewN _) | with_reducible exact HV5.out.2.ext (Ext.refl _).drew | with_reducible exact HV5.out.2.ext ((Ext.refl _).alloc _) | with_reducible exact HV5.out.2.ext ((Ext.refl _).alloc _).drew | with_reducible exact HV5.out.2.ext (((Ext.refl _).alloc _).drewN _) | fail)).mono ?_; rintro en w6 ⟨v6, rfl, hx, hd⟩; have hx1 : Ext w5 w6 := (by first | with_reducible exact hx | with_reducible exact (Ext.of_drew hx) | with_reducible exact (Ext.of_drewN hx) | with_reducible exact ((Ext.refl _).alloc _).trans hx | with_reducible exact ((Ext.refl _).alloc _).trans (Ext.of_drew hx) | with_reducible exact ((Ext.refl _).alloc _).trans (Ext.of_drewN hx) | fail); have H6 : Hid (Bx w6 35 g n1 (.slice p1 l1 c1) E1 ∧ Bx w6 35 (g + 1) n2 (.slice p2 l2 c2) E2 ∧ Ext w w6 ∧ Ry w6 (.agg #[.bool n1, .slice p1 l1 c1, .int .i64 E1]) va (-1074) ∧ Ry w6 (.agg #[.bool n2, .slice p2 l2 c2, .int .i64 E2]) vb (-1074)) := ⟨H5.out.1.ext hx1, H5.out.2.1.ext hx1, H5.out.2.2.1.trans hx1, H5.out.2.2.2.1.ext hx1, H5.out.2.2.2.2.ext hx1⟩; (first | (have hxn : Ext (w5.alloc (.cells #[.bool false, .slice none 0 0, .int .i64 0] 35)) w6 := (by first | with_reducible exact hx | with_reducible exact Ext.of_drew hx | with_reducible exact Ext.of_drewN hx | fail); have HN6 : Hid (Bx w6 35 w5.heap.size false (.slice none 0 0) 0 ∧ g + 1 < w5.heap.size ∧ w.heap.size ≤ w5.heap.size) := ⟨(Bx.new w5 _ _ _ _).ext hxn, H5.out.2.1.lt, H5.out.2.2.1.size⟩; clear hxn) | (have HN6 := Lib.hid (And.intro (HN5.out.1.ext hx1) HN5.out.2)) | skip); have HV6 := Lib.hid hd; obtain ⟨n9, p9, l9, c9, o9, E9, rfl, -⟩ := hd.open; clear hx hx1 hd; (first | (have m0 := HN6.out.1.c0; have m1 := HN6.out.1.c1; have m2 := HN6.out.1.c2; have m3 := HN6.out.1.frozen 0; have m4 := HN6.out.1.frozen 1; have m5 := HN6.out.1.frozen 2) | skip))
              | fail)
          all_goals
            go_wp2_with (fail)
            go_meet
            case rel =>
              first
                | exact ⟨_, n9, p9, l9, c9, E9, rfl, H6.out.2.2.1.set3 HN6.out.2.2 _ _ _, HV6.out.setBx HN6.out.1 IsSl.nil _ _ _, by simp [go_sem, m0], by simp [go_sem, m1], by simp [go_sem, m2]⟩
                | exact ⟨_, n9, p9, l9, c9, E9, rfl, H6.out.2.2.1.alloc _, HV6.out.ext ((Ext.refl _).alloc _), (Bx.new _ _ _ _ _).c0, (Bx.new _ _ _ _ _).c1, (Bx.new _ _ _ _ _).c2⟩
        case rest =>
          obtain ⟨g9, n9, p9, l9, c9, E9, rfl, H7⟩ := hcut
          clear a0 a1 a2 a3 a4 a5 H3
          have k0 := H7.out.2.2.1
          have k1 := H7.out.2.2.2.1
          have k2 := H7.out.2.2.2.2
          go_wp2_with (fail)
          refine (HSg.out _ _ H7.out.2.1).mono ?_
          rintro en w8 ⟨rfl, hx⟩
          have H8 : Hid (Ext w w8 ∧ Ry w8 (.agg #[.bool n9, .slice p9 l9 c9, .int .i64 E9]) sm (-1074 + -1074) ∧ w8.cell? ⟨g9, 0, none⟩ = some (.bool n9) ∧ w8.cell? ⟨g9, 1, none⟩ = some (.slice p9 l9 c9) ∧ w8.cell? ⟨g9, 2, none⟩ = some (.int .i64 E9)) := ⟨H7.out.1.trans hx, H7.out.2.1.ext hx, hx.cell_some k0, hx.cell_some k1, hx.cell_some k2⟩
          clear hx k0 k1 k2
          have k0 := H8.out.2.2.1
          have k1 := H8.out.2.2.2.1
          have k2 := H8.out.2.2.2.2
          by_cases h0 : sm = 0
          · obtain rfl : R = 0 := HZ.out h0
            have ts : (sgnI sm == 0) = true := by rw [h0]; rfl
            generalize sgnI sm = sg at *
            clear h0
            go_wp2_with (fail)
            go_ret
            exact ⟨rfl, H8.out.1⟩
          · have ts : (sgnI sm == 0) = false := by
              unfold sgnI
              split
              · rfl
              · first
                  | rfl
                  | (rw [if_neg h0]; rfl)
            have HS2 := Lib.hid (HSq.out h0)
            generalize sgnI sm = sg at *
            clear h0
            go_wp2_with (fail)
            refine (HS2.out _ _ H8.out.2.1).mono ?_
            rintro en w9 ⟨rfl, hx⟩
            have H9 := Lib.hid (H8.out.1.trans hx)
            clear hx
            go_wp2_with (fail)
            go_ret
            exact ⟨rfl, H9.out⟩
  · rw [if_neg hm] at HV
    rw [if_neg hm]
    clear hm HNa HNb HIa HIb HFa HFb ha hb HE
    go_enter Tryz.func28, Tryz.ntmps28
    go_wp2_with (fail)
    refine (HV.out _).mono ?_
    rintro en wn ⟨rfl, rfl⟩
    go_wp2_with (fail)
    refine (c_not _).mono ?_
    rintro en wn ⟨rfl, rfl⟩
    go_wp2_with (fail)
    go_ret
    exact ⟨rfl, Ext.refl _⟩
end Go.Proofs.YtdpjkddllimcoaaGreatDoor
end

section
/- Rounded roots: the law's walk. -/
namespace Go.Proofs.YtdpjkddllimcoaaGreatDoor
open Go.RowKit Fl
set_option maxRecDepth 20000 in
theorem w_RoundRoots (a b : Nat) (mode : Int) (ha : a < 18446744073709551616) (hb : b < 18446744073709551616) (w : World) (hT : Tab32 w) :
    Calls Tryz.prog 6 #[.float .f64 a, .float .f64 b, .int .i64 mode] w fun en wn => en = .returned (.bool true) ∧ Ext w wn := by
  have HA := Lib.hid (u_Sqrt a mode ha w hT)
  have HtA : Hid (∀ w', Calls Tryz.prog 26 #[.float .f64 a, .int .i64 mode] w' fun en w'' => en = .returned (.float .f64 (tSqrt a mode)) ∧ Ext w' w'') := fun w' => t_Sqrt a mode w' ha
  have HS : Hid (∀ w', Ext w w' → Calls Tryz.prog 27 #[.float .f64 a, .float .f64 b, .int .i64 mode] w' fun en w'' => ∃ R, en = .returned (.float .f64 R) ∧ Ext w' w'' ∧ R < 18446744073709551616 ∧ sameF R (tHyp a b mode) = true) := fun w' hx => u_Hypot a b mode ha hb w' (hT.ext hx)
  have HtS : Hid (∀ w', Calls Tryz.prog 28 #[.float .f64 a, .float .f64 b, .int .i64 mode] w' fun en w'' => en = .returned (.float .f64 (tHyp a b mode)) ∧ Ext w' w'') := fun w' => t_Hypot a b mode w' ha hb
  have HSm : Hid (∀ R T w', R < 18446744073709551616 → T < 18446744073709551616 → sameF R T = true → Calls Tryz.prog 9 #[.float .f64 R, .float .f64 T] w' fun en w'' => en = .returned (.bool true) ∧ w' = w'') := fun R T w' h1 h2 h3 => l_same_of w' R T h1 h2 h3
  have HSu : Hid (∀ w', Ext w w' → Calls Tryz.prog 14 #[] w' fun en w'' => en = .returned (.bool true) ∧ Ext w' w'') := fun w' hx => l_sure w' (hT.ext hx)
  have HB1 := Lib.hid (tSqrt_lt (mode := mode) ha)
  have HB2 := Lib.hid (tHyp_lt a b mode)
  generalize tHyp a b mode = T2 at *
  generalize tSqrt a mode = T1 at *
  clear hT ha hb
  go_enter Tryz.func6, Tryz.ntmps6
  go_wp2_with (fail)
  refine (HA.out).mono ?_
  rintro en w1 ⟨R1, rfl, hx, h1, h2⟩
  have X1 := Lib.hid (And.intro hx (And.intro h1 h2))
  clear hx h1 h2
  go_wp2_with (fail)
  refine (HtA.out _).mono ?_
  rintro en w2 ⟨rfl, hx⟩
  have X2 := Lib.hid (X1.out.1.trans hx)
  clear hx
  go_wp2_with (fail)
  refine (HSm.out R1 _ _ X1.out.2.1 HB1.out X1.out.2.2).mono ?_
  rintro en wn ⟨rfl, rfl⟩
  go_wp2_with (fail)
  refine (HS.out _ X2.out).mono ?_
  rintro en w3 ⟨R3, rfl, hx, h1, h2⟩
  have X3 := Lib.hid (And.intro (X2.out.trans hx) (And.intro h1 h2))
  clear hx h1 h2
  go_wp2_with (fail)
  refine (HtS.out _).mono ?_
  rintro en w4 ⟨rfl, hx⟩
  have X4 := Lib.hid (X3.out.1.trans hx)
  clear hx
  go_wp2_with (fail)
  refine (HSm.out R3 _ _ X3.out.2.1 HB2.out X3.out.2.2).mono ?_
  rintro en wn ⟨rfl, rfl⟩
  go_wp2_with (fail)
  refine (HSu.out _ X4.out).mono ?_
  rintro en w5 ⟨rfl, hx⟩
  have X5 := Lib.hid (X4.out.trans hx)
  clear hx
  go_wp2_with (fail)
  go_ret
  exact ⟨rfl, X5.out⟩
end Go.Proofs.YtdpjkddllimcoaaGreatDoor
end
