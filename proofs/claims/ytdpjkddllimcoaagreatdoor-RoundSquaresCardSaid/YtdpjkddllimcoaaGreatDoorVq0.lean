/- A part of the proof (1 of 2) of this: RoundSquares: for every two finite floats above nought the squares of the root's roundings Down and Up lie on both sides of it, and so do the products of the quotient's: the law returns true; condition: the table of package math/bits reads as its text lays it. -/
import Derived.Test.YtdpjkddllimcoaaGreatDoorVh1

section
/- Roots and quotients lie between: plain facts. -/
namespace Fl
theorem cT_two {x t : Nat} : cT x (-1074) (2 * t) = compare (x * 2 ^ 1074) (t * t) := by
  obtain ⟨k, hk⟩ : ∃ k : Nat, k = 1074 := ⟨_, rfl⟩
  unfold cT cS
  rw [show ((-1074 : Int) + 2150).toNat = k + 2 by omega, show (-((-1074 : Int) + 2150)).toNat = 0 by decide, Nat.pow_zero, Nat.mul_one, ← hk]
  have e1 : x * 2 ^ (k + 2) = (x * 2 ^ k) * 4 := by rw [Nat.pow_add, Nat.mul_assoc]
  have e2 : 2 * t * (2 * t) = (t * t) * 4 := by rw [show 2 * t * (2 * t) = (2 * 2) * (t * t) by ac_rfl, Nat.mul_comm]
  rw [e1, e2, cmp_mul (by decide)]
theorem cT_strict (x : Nat) : ∀ s t, s < t → cT x (-1074) t ≠ .lt → cT x (-1074) s = .gt := cS_strict (Nat.two_pow_pos _)
theorem cT_zero_lt (x : Nat) (e : Int) : cT x e 0 ≠ .lt := by unfold cT; rw [Ne, cS_lt]; omega
theorem cR_two {x y t : Nat} : cR x y (-1074 - -1074) (2 * t) = compare (x * 2 ^ 1074) (t * y) := by
  obtain ⟨k, hk⟩ : ∃ k : Nat, k = 1074 := ⟨_, rfl⟩
  unfold cR cQ
  rw [show ((-1074 : Int) - -1074 + 1075).toNat = k + 1 by omega, show (-((-1074 : Int) - -1074 + 1075)).toNat = 0 by decide, Nat.pow_zero, Nat.mul_one, ← hk]
  have e1 : x * 2 ^ (k + 1) = (x * 2 ^ k) * 2 := by rw [Nat.pow_succ, Nat.mul_assoc]
  have e2 : 2 * t * y = (t * y) * 2 := by rw [show 2 * t * y = 2 * (t * y) by ac_rfl, Nat.mul_comm]
  rw [e1, e2, cmp_mul (by decide)]
theorem cR_strict {x y : Nat} (hy : 0 < y) (e : Int) : ∀ s t, s < t → cR x y e t ≠ .lt → cR x y e s = .gt := cQ_strict (Nat.mul_pos hy (Nat.two_pow_pos _))
theorem cR_zero_lt (x y : Nat) (e : Int) : cR x y e 0 ≠ .lt := by unfold cR; rw [Ne, cQ_lt]; omega
theorem V_big {j : Nat} (hj : j ≤ 2097) : 2 ^ j ≤ V (INF - 1) := by
  obtain ⟨k, hk⟩ : ∃ k : Nat, k = 2045 := ⟨_, rfl⟩
  rw [V_fields (by decide), show (INF - 1) / B - 1 = k by rw [hk]; decide]
  have h1 : 2 ^ 52 ≤ B + (INF - 1) % B := by decide
  have h2 := Nat.mul_le_mul_right (2 ^ k) h1
  rw [← Nat.pow_add] at h2
  exact Nat.le_trans (Nat.pow_le_pow_right (by decide) (by omega)) h2
/-- a root's floats, of a finite float above nought. -/
theorem root_between {a : Nat} (h0 : 0 < a) (h : a < INF) :
    rRoot a 1 < INF ∧ rRoot a 3 < INF ∧ (rRoot a 3 = rRoot a 1 ∨ rRoot a 3 = rRoot a 1 + 1) ∧ V (rRoot a 1) * V (rRoot a 1) ≤ V a * 2 ^ 1074 ∧ V a * 2 ^ 1074 ≤ V (rRoot a 3) * V (rRoot a 3) := by
  have hS : a < S := by unfold INF at h; unfold S; omega
  have hv : (val a).natAbs = V a := by rw [val_pos hS, Int.natAbs_natCast]
  have e1 : rRoot a 1 = rnd (cT (V a) (-1074)) 0 := by unfold rRoot; rw [hv]; rfl
  have e3 : rRoot a 3 = rnd (cT (V a) (-1074)) 2 := by unfold rRoot; rw [hv]; rfl
  obtain ⟨g1, g2, -, g4, g5⟩ := bracket (cT_anti (V a) (-1074)) (cT_strict (V a)) (cT_zero_lt _ _)
  rw [cT_two, cmp_ne_lt] at g4
  rw [cT_two, cmp_ne_gt] at g5
  have hb : V a < 2 ^ 2100 := V_bits h
  rw [e1, e3]
  generalize rnd (cT (V a) (-1074)) 0 = r0 at *
  generalize rnd (cT (V a) (-1074)) 2 = r2 at *
  have hlt : r0 < INF - 1 := by
    rcases Nat.lt_or_ge r0 (INF - 1) with h1 | h1
    · exact h1
    · have h2 : INF - 1 ≤ r0 := h1
      obtain ⟨k1, k2, k3, hk⟩ : ∃ k1 k2 k3 : Nat, k1 = 2096 ∧ k2 = 2100 ∧ k3 = 1074 := ⟨_, _, _, rfl, rfl, rfl⟩
      have h3 := Nat.le_trans (V_big (j := k1) (by omega)) (V_le h2)
      have h4 := Nat.le_trans (Nat.mul_le_mul h3 h3) g4
      rw [← hk.2.2] at h4
      rw [← hk.2.1] at hb
      have h5 : V a * 2 ^ k3 < 2 ^ (k2 + k3) := by rw [Nat.pow_add]; exact Nat.mul_lt_mul_of_pos_right hb (Nat.two_pow_pos k3)
      rw [← Nat.pow_add] at h4
      have h6 := Nat.pow_le_pow_right (show 0 < 2 by decide) (show k2 + k3 ≤ k1 + k1 by omega)
      omega
  have h2 : r2 < INF := by omega
  exact ⟨g1, h2, g2, g4, g5 h2⟩
/-- a quotient's floats, of two finite floats above nought. -/
theorem quo_between {a b : Nat} (h0 : 0 < a) (h : a < INF) (k0 : 0 < b) (k : b < INF) :
    rQuo a b 1 < INF ∧ rQuo a b 3 ≤ INF ∧ (rQuo a b 3 = rQuo a b 1 ∨ rQuo a b 3 = rQuo a b 1 + 1) ∧ V (rQuo a b 1) * V b ≤ V a * 2 ^ 1074 ∧ (rQuo a b 3 < INF → V a * 2 ^ 1074 ≤ V (rQuo a b 3) * V b) := by
  have hS : a < S := by unfold INF at h; unfold S; omega
  have kS : b < S := by unfold INF at k; unfold S; omega
  have va := val_pos hS
  have vb := val_pos kS
  have e : ∀ m, rQuo a b m = rnd (cR (V a) (V b) (-1074 - -1074)) (aim false m) := by
    intro m
    unfold rQuo
    rw [va, vb, Int.natAbs_natCast, Int.natAbs_natCast, show decide ((V a : Int) < 0) = false by simp, show decide ((V b : Int) < 0) = false by simp]
    rfl
  have hVb : 0 < V b := by have := V_mono k0; rw [V_zero] at this; exact this
  obtain ⟨g1, g2, -, g4, g5⟩ := bracket (cR_anti (V a) (V b) (-1074 - -1074)) (cR_strict hVb _) (cR_zero_lt _ _ _)
  rw [cR_two, cmp_ne_lt] at g4
  rw [e, e, show aim false 1 = 0 from rfl, show aim false 3 = 2 from rfl]
  refine ⟨g1, rnd_le, g2, g4, fun h => ?_⟩
  have := g5 h
  rwa [cR_two, cmp_ne_gt] at this
end Fl
end

section
/- RoundSquares: the law's walk. -/
namespace Fl
theorem up_mag {r : Nat} (h : r ≤ INF) : mag r = r := Nat.mod_eq_of_lt (by unfold INF at h; unfold S; omega)
theorem up_val {r : Nat} (h : r ≤ INF) : val r = (V r : Int) := val_pos (by unfold INF at h; unfold S; omega)
theorem up_64 {r : Nat} (h : r ≤ INF) : r < 18446744073709551616 := by unfold INF at h; omega
theorem up_nan {r : Nat} (h : r ≤ INF) : nan r = false := by unfold nan; rw [up_mag h]; simp; omega
theorem up_key {r : Nat} (h : r ≤ INF) : key r = (r : Int) := (key_word (n := false) h).trans (by simp)
theorem up_gt {r s : Nat} (h : r ≤ INF) (k : s ≤ INF) : fgt r s = decide (s < r) := by
  rw [fgt_eq (by simpa using up_64 h) (by simpa using up_64 k), up_nan h, up_nan k, up_key h, up_key k]
  simp
theorem up_eq {r s : Nat} (h : r ≤ INF) (k : s ≤ INF) : feq r s = decide (s = r) := by
  rw [feq_eq (by simpa using up_64 h) (by simpa using up_64 k), up_nan h, up_nan k, up_key h, up_key k]
  simp only [Bool.not_false, Bool.true_and, decide_eq_decide]
  omega
theorem gt_zero {a : Nat} (ha : a < 18446744073709551616) (h : fgt a 0 = true) : 0 < a ∧ a ≤ INF := by
  rw [fgt_eq (by simpa using ha) (by decide)] at h
  simp only [Bool.and_eq_true, Bool.not_eq_true', decide_eq_true_eq] at h
  obtain ⟨⟨h1, -⟩, h2⟩ := h
  unfold key at h2
  have h3 : ¬ S ≤ a := by
    intro h4
    rw [if_pos h4, if_neg (by decide)] at h2
    omega
  rw [if_neg h3, if_neg (by decide)] at h2
  unfold nan at h1
  rw [show mag a = a from Nat.mod_eq_of_lt (by omega)] at h1
  simp at h1
  omega
theorem cast_mul_pow (x k : Nat) : ((x * 2 ^ k : Nat) : Int) = (x : Int) * 2 ^ k := by simp
theorem two_ways {r s : Nat} (h : r < INF) (k : s ≤ INF) (e : s = r ∨ s = r + 1) : (s = r ∧ feq r s = true) ∨ (s = r + 1 ∧ feq r s = false ∧ feq (r + 1) s = true) := by
  rw [up_eq (by omega) k, up_eq (by omega) k]
  rcases e with e | e
  · left; exact ⟨e, by simpa using e⟩
  · right; exact ⟨e, by simp; omega, by simpa using e⟩
theorem ord_le {x y : Nat} (h : x ≤ y) : decide (0 < cmpZ (x : Int) (y : Int)) = false := by
  have := cmpZ_le (x := (x : Int)) (y := (y : Int)) (by omega)
  simp; omega
theorem ord_ge {x y : Nat} (h : y ≤ x) : decide (cmpZ (x : Int) (y : Int) < 0) = false := by
  have : 0 ≤ cmpZ (x : Int) (y : Int) := by
    rcases Nat.lt_or_eq_of_le h with h | h
    · rw [cmpZ_gt (by omega)]; omega
    · rw [cmpZ_eq (by omega)]; omega
  simp; omega
theorem ord_at {x y : Nat} (h : y ≤ x) : decide (0 ≤ cmpZ (x : Int) (y : Int)) = true := by
  have := ord_ge h
  simp at this ⊢; omega
end Fl
namespace Go.Proofs.YtdpjkddllimcoaaGreatDoor
open Go.RowKit Fl
set_option maxRecDepth 20000 in
set_option maxHeartbeats 60000000 in
theorem w_RoundSquares (a b : Nat) (ha : a < 18446744073709551616) (hb : b < 18446744073709551616) (w : World) (hT : Tab32 w) :
    Calls Tryz.prog 8 #[.float .f64 a, .float .f64 b] w fun en wn => en = .returned (.bool true) ∧ Ext w wn := by
  have HSu : Hid (∀ w', Ext w w' → Calls Tryz.prog 14 #[] w' fun en w'' => en = .returned (.bool true) ∧ Ext w' w'') := fun w' hx => l_sure w' (hT.ext hx)
  have HFa : Hid (∀ w', Calls Tryz.prog 29 #[.float .f64 a] w' fun en wn => en = .returned (.bool (decide (mag a < INF))) ∧ w' = wn) := fun w' => c_finite a ha w'
  have HFb : Hid (∀ w', Calls Tryz.prog 29 #[.float .f64 b] w' fun en wn => en = .returned (.bool (decide (mag b < INF))) ∧ w' = wn) := fun w' => c_finite b hb w'
  rcases Nat.lt_or_ge (mag a) INF with fa | fa
  rotate_left
  · rw [show decide (mag a < INF) = false by simp; omega] at HFa
    clear hT ha hb fa HFb
    go_enter Tryz.func8, Tryz.ntmps8
    go_wp2_with (fail)
    refine (HFa.out _).mono ?_
    rintro en wn ⟨rfl, rfl⟩
    go_wp2_with (fail)
    refine (HSu.out _ (Ext.refl _)).mono ?_
    rintro en ws ⟨rfl, hx⟩
    have XS := Lib.hid hx
    clear hx
    go_wp2_with (fail)
    go_ret
    exact ⟨rfl, XS.out⟩
  rw [show decide (mag a < INF) = true by simpa using fa] at HFa
  rcases Nat.lt_or_ge (mag b) INF with fb | fb
  rotate_left
  · rw [show decide (mag b < INF) = false by simp; omega] at HFb
    clear hT ha hb fa fb
    go_enter Tryz.func8, Tryz.ntmps8
    go_wp2_with (fail)
    refine (HFa.out _).mono ?_
    rintro en wn ⟨rfl, rfl⟩
    go_wp2_with (fail)
    refine (HFb.out _).mono ?_
    rintro en wn ⟨rfl, rfl⟩
    go_wp2_with (fail)
    refine (HSu.out _ (Ext.refl _)).mono ?_
    rintro en ws ⟨rfl, hx⟩
    have XS := Lib.hid hx
    clear hx
    go_wp2_with (fail)
    go_ret
    exact ⟨rfl, XS.out⟩
  rw [show decide (mag b < INF) = true by simpa using fb] at HFb
  obtain ⟨ga, hga⟩ : ∃ g, fgt a 0 = g := ⟨_, rfl⟩
  cases ga
  · clear hT ha hb fa fb
    go_enter Tryz.func8, Tryz.ntmps8
    go_wp2_with (fail)
    refine (HFa.out _).mono ?_
    rintro en wn ⟨rfl, rfl⟩
    go_wp2_with (fail)
    refine (HFb.out _).mono ?_
    rintro en wn ⟨rfl, rfl⟩
    go_wp2_with (fail)
    refine (HSu.out _ (Ext.refl _)).mono ?_
    rintro en ws ⟨rfl, hx⟩
    have XS := Lib.hid hx
    clear hx
    go_wp2_with (fail)
    go_ret
    exact ⟨rfl, XS.out⟩
  have pa := Lib.hid (gt_zero ha hga)
  obtain ⟨gb, hgb⟩ : ∃ g, fgt b 0 = g := ⟨_, rfl⟩
  cases gb
  · clear hT ha hb fa fb pa
    go_enter Tryz.func8, Tryz.ntmps8
    go_wp2_with (fail)
    refine (HFa.out _).mono ?_
    rintro en wn ⟨rfl, rfl⟩
    go_wp2_with (fail)
    refine (HFb.out _).mono ?_
    rintro en wn ⟨rfl, rfl⟩
    go_wp2_with (fail)
    refine (HSu.out _ (Ext.refl _)).mono ?_
    rintro en ws ⟨rfl, hx⟩
    have XS := Lib.hid hx
    clear hx
    go_wp2_with (fail)
    go_ret
    exact ⟨rfl, XS.out⟩
  have pb := Lib.hid (gt_zero hb hgb)
  have la := pa.out.2
  have lb := pb.out.2
  rw [up_mag la] at fa
  rw [up_mag lb] at fb
  have va := up_val la
  have vb := up_val lb
  obtain ⟨r1, r2, r3, r4, r5⟩ := root_between pa.out.1 fa
  obtain ⟨d1, d2, d3, d4, d5⟩ := quo_between pa.out.1 fa pb.out.1 fb
  have HR1 : Hid (∀ w', Ext w w' → Calls Tryz.prog 25 #[.float .f64 a, .int .i64 1] w' fun en w'' => en = .returned (.float .f64 (rRoot a 1)) ∧ Ext w' w'') := fun w' hx => r_Sqrt_fin a 1 ha fa pa.out.1 (by decide) w' (hT.ext hx)
  have HR3 : Hid (∀ w', Ext w w' → Calls Tryz.prog 25 #[.float .f64 a, .int .i64 3] w' fun en w'' => en = .returned (.float .f64 (rRoot a 3)) ∧ Ext w' w'') := fun w' hx => r_Sqrt_fin a 3 ha fa pa.out.1 (by decide) w' (hT.ext hx)
  have HD1 : Hid (∀ w', Ext w w' → Calls Tryz.prog 23 #[.float .f64 a, .float .f64 b, .int .i64 1] w' fun en w'' => en = .returned (.float .f64 (rQuo a b 1)) ∧ Ext w' w'') := fun w' hx => r_Div_fin a b 1 ha hb (by rw [up_mag la]; exact fa) (by rw [up_mag lb]; exact fb) (by rw [up_mag la]; exact pa.out.1) (by rw [up_mag lb]; exact pb.out.1) (by decide) w' (hT.ext hx)
  have HD3 : Hid (∀ w', Ext w w' → Calls Tryz.prog 23 #[.float .f64 a, .float .f64 b, .int .i64 3] w' fun en w'' => en = .returned (.float .f64 (rQuo a b 3)) ∧ Ext w' w'') := fun w' hx => r_Div_fin a b 3 ha hb (by rw [up_mag la]; exact fa) (by rw [up_mag lb]; exact fb) (by rw [up_mag la]; exact pa.out.1) (by rw [up_mag lb]; exact pb.out.1) (by decide) w' (hT.ext hx)
  generalize rRoot a 1 = lo at *
  generalize rRoot a 3 = hi at *
  generalize rQuo a b 1 = p at *
  generalize rQuo a b 3 = q at *
  have HK : ∀ r, r ≤ INF → ∀ w', Calls Tryz.prog 30 #[.float .f64 r] w' fun en w'' => ∃ v, en = .returned v ∧ Ext w' w'' ∧ Ry w'' v (V r : Int) (-1074) := fun r h w' => by
    have := k_Float r (up_64 h) w'
    rwa [up_val h] at this
  have HKa : Hid (∀ w', Calls Tryz.prog 30 #[.float .f64 a] w' fun en w'' => ∃ v, en = .returned v ∧ Ext w' w'' ∧ Ry w'' v (V a : Int) (-1074)) := HK a la
  have HKb : Hid (∀ w', Calls Tryz.prog 30 #[.float .f64 b] w' fun en w'' => ∃ v, en = .returned v ∧ Ext w' w'' ∧ Ry w'' v (V b : Int) (-1074)) := HK b lb
  have HKl : Hid (∀ w', Calls Tryz.prog 30 #[.float .f64 lo] w' fun en w'' => ∃ v, en = .returned v ∧ Ext w' w'' ∧ Ry w'' v (V lo : Int) (-1074)) := HK lo (by omega)
  have HKh : Hid (∀ w', Calls Tryz.prog 30 #[.float .f64 hi] w' fun en w'' => ∃ v, en = .returned v ∧ Ext w' w'' ∧ Ry w'' v (V hi : Int) (-1074)) := HK hi (by omega)
  have HKp : Hid (∀ w', Calls Tryz.prog 30 #[.float .f64 p] w' fun en w'' => ∃ v, en = .returned v ∧ Ext w' w'' ∧ Ry w'' v (V p : Int) (-1074)) := HK p (by omega)
  have HKq : Hid (∀ w', Calls Tryz.prog 30 #[.float .f64 q] w' fun en w'' => ∃ v, en = .returned v ∧ Ext w' w'' ∧ Ry w'' v (V q : Int) (-1074)) := HK q d2
  have HF : ∀ r, r < INF → ∀ w', Calls Tryz.prog 29 #[.float .f64 r] w' fun en wn => en = .returned (.bool true) ∧ w' = wn := fun r h w' => by
    have := c_finite r (up_64 (Nat.le_of_lt h)) w'
    rwa [up_mag (Nat.le_of_lt h), show decide (r < INF) = true by simpa using h] at this
  have HFl : Hid (∀ w', Calls Tryz.prog 29 #[.float .f64 lo] w' fun en wn => en = .returned (.bool true) ∧ w' = wn) := HF lo r1
  have HFh : Hid (∀ w', Calls Tryz.prog 29 #[.float .f64 hi] w' fun en wn => en = .returned (.bool true) ∧ w' = wn) := HF hi r2
  have HFp : Hid (∀ w', Calls Tryz.prog 29 #[.float .f64 p] w' fun en wn => en = .returned (.bool true) ∧ w' = wn) := HF p d1
  have HNq : Hid (∀ w', Calls Tryz.prog 37 #[.float .f64 q] w' fun en wn => en = .returned (.bool false) ∧ w' = wn) := fun w' => by
    have := c_isNaN q (up_64 d2) w'
    rwa [up_nan d2] at this
  have HNl : Hid (∀ w', Calls Tryz.prog 35 #[.float .f64 lo] w' fun en wn => en = .returned (.float .f64 (lo + 1)) ∧ w' = wn) := fun w' => by
    have := c_next lo (up_64 (by omega)) w'
    rwa [next_up r1] at this
  have HNp : Hid (∀ w', Calls Tryz.prog 35 #[.float .f64 p] w' fun en wn => en = .returned (.float .f64 (p + 1)) ∧ w' = wn) := fun w' => by
    have := c_next p (up_64 (by omega)) w'
    rwa [next_up d1] at this
  have VB : ∀ r, r < INF → (V r : Int).natAbs < 2 ^ 2100 := fun r h => by rw [Int.natAbs_natCast]; exact V_bits h
  have HT : ∀ r s, r < INF → s < INF → ∀ w' u v, Ry w' u (V r : Int) (-1074) → Ry w' v (V s : Int) (-1074) → Calls Tryz.prog 33 #[u, v] w' fun en w'' => ∃ x, en = .returned x ∧ Ext w' w'' ∧ Ry w'' x ((V r * V s : Nat) : Int) (-1074 + -1074) := fun r s h1 h2 w' u v g1 g2 => by
    have := k_Times u v _ _ (-1074) (-1074) 2100 w' g1 g2 (VB r h1) (VB s h2) (by decide) (by decide) (by decide)
    rwa [← Int.natCast_mul] at this
  have HO : ∀ r s, r < INF → s < INF → ∀ w' u v, Ry w' u ((V r * V s : Nat) : Int) (-1074 + -1074) → Ry w' v (V a : Int) (-1074) → Calls Tryz.prog 36 #[u, v] w' fun en w'' => en = .returned (.int .i64 (cmpZ ((V r * V s : Nat) : Int) ((V a * 2 ^ 1074 : Nat) : Int))) ∧ Ext w' w'' := fun r s h1 h2 w' u v g1 g2 => by
    rw [cast_mul_pow (V a) 1074]
    refine k_Order u v _ _ (-1074 + -1074) 4200 w' g1 (g2.back (by decide)) ?_ ?_ (by decide) (by decide)
    · rw [Int.natCast_mul]; exact two_pow_lt_of (L := 2100 + 2100) (M := 4200) (natAbs_mul_lt (VB r h1) (VB s h2)) (by decide)
    · exact scale_lt (L := 2100) (M := 4200) (VB a fa) (by decide)
  have HTl := Lib.hid (HT lo lo r1 r1)
  have HTh := Lib.hid (HT hi hi r2 r2)
  have HTp := Lib.hid (HT p b d1 fb)
  have HTq : Hid (q < INF → ∀ w' u v, Ry w' u (V q : Int) (-1074) → Ry w' v (V b : Int) (-1074) → Calls Tryz.prog 33 #[u, v] w' fun en w'' => ∃ x, en = .returned x ∧ Ext w' w'' ∧ Ry w'' x ((V q * V b : Nat) : Int) (-1074 + -1074)) := fun h => HT q b h fb
  have HOl := Lib.hid (HO lo lo r1 r1)
  have HOh := Lib.hid (HO hi hi r2 r2)
  have HOp := Lib.hid (HO p b d1 fb)
  have HOq : Hid (q < INF → ∀ w' u v, Ry w' u ((V q * V b : Nat) : Int) (-1074 + -1074) → Ry w' v (V a : Int) (-1074) → Calls Tryz.prog 36 #[u, v] w' fun en w'' => en = .returned (.int .i64 (cmpZ ((V q * V b : Nat) : Int) ((V a * 2 ^ 1074 : Nat) : Int))) ∧ Ext w' w'') := fun h => HO q b h fb
  have z1 := ord_le r4
  have z2 := ord_ge r5
  have z3 := ord_le d4
  have z4 : Hid (q < INF → decide (0 ≤ cmpZ ((V q * V b : Nat) : Int) ((V a * 2 ^ 1074 : Nat) : Int)) = true) := fun h => ord_at (d5 h)
  have y1 : fgt lo hi = false := by rw [up_gt (by omega) (by omega)]; simp; omega
  have HC1 : Hid (feq lo hi = true ∨ (feq lo hi = false ∧ feq (lo + 1) hi = true)) := (two_ways r1 (Nat.le_of_lt r2) r3).elim (fun h => .inl h.2) (fun h => .inr h.2)
  have HC2 : Hid (((mag q = INF ∧ feq p q = false ∧ feq (p + 1) q = true) ∨ (q < INF ∧ mag q < INF ∧ feq p q = true)) ∨ (q < INF ∧ mag q < INF ∧ feq p q = false ∧ feq (p + 1) q = true)) := by
    rw [up_mag d2]
    rcases two_ways d1 d2 d3 with ⟨h1, h2⟩ | ⟨h1, h2, h3⟩
    · rw [← h1] at d1; exact .inl (.inr ⟨d1, d1, h2⟩)
    · rcases Nat.lt_or_eq_of_le d2 with h4 | h4
      · exact .inr ⟨h4, h4, h2, h3⟩
      · exact .inl (.inl ⟨h4, h2, h3⟩)
  have HIq : Hid (∀ w', Calls Tryz.prog 38 #[.float .f64 q] w' fun en wn => en = .returned (.bool (decide (mag q = INF))) ∧ w' = wn) := fun w' => c_isInf q (up_64 d2) w'
  clear HK HF HT HO VB hT fa fb va vb pa pb r1 r2 r3 r4 r5 d1 d2 d3 d4 d5 la lb ha hb
  generalize cmpZ ((V lo * V lo : Nat) : Int) ((V a * 2 ^ 1074 : Nat) : Int) = zl at *
  generalize cmpZ ((V hi * V hi : Nat) : Int) ((V a * 2 ^ 1074 : Nat) : Int) = zh at *
  generalize cmpZ ((V p * V b : Nat) : Int) ((V a * 2 ^ 1074 : Nat) : Int) = zp at *
  generalize cmpZ ((V q * V b : Nat) : Int) ((V a * 2 ^ 1074 : Nat) : Int) = zq at *
  go_enter Tryz.func8, Tryz.ntmps8
  go_wp2_with (fail)
  refine (HFa.out _).mono ?_
  rintro en wn ⟨rfl, rfl⟩
  go_wp2_with (fail)
  refine (HFb.out _).mono ?_
  rintro en wn ⟨rfl, rfl⟩
  go_wp2_with (fail)
  refine (HKa.out _).mono ?_
  rintro en w1 ⟨v1, rfl, hx, hd⟩
  obtain ⟨n1, p1, l1, c1, o1, E1, rfl, -⟩ := Ry.open hd
  obtain ⟨w2, hw2⟩ : ∃ w2, w1.alloc (.cells #[.bool n1, .slice p1 l1 c1, .int .i64 E1] 35) = w2 := ⟨_, rfl⟩
  obtain ⟨gx, hgx⟩ : ∃ g, w1.heap.size = g := ⟨_, rfl⟩
  have H2 : Hid (Ext w w2 ∧ Bx w2 35 gx n1 (.slice p1 l1 c1) E1 ∧ Ry w2 (.agg #[.bool n1, .slice p1 l1 c1, .int .i64 E1]) (V a : Int) (-1074)) := by
    rw [← hw2, ← hgx]
    exact ⟨hx.alloc _, Bx.new _ _ _ _ _, hd.ext ((Ext.refl _).alloc _)⟩
  clear hx hd
  go_wp2_with (fail)
  refine (HR1.out _ H2.out.1).mono ?_
  rintro en w3 ⟨rfl, hx⟩
  have X3 := Lib.hid hx
  clear hx
  go_wp2_with (fail)
  refine (HR3.out _ (H2.out.1.trans X3.out)).mono ?_
  rintro en w4 ⟨rfl, hx⟩
  have X4 := Lib.hid (X3.out.trans hx)
  clear hx
  go_upto_region 5 with (fail)
  go_cut [61] (fun v61 wc => v61 = .bool false ∧ w4 = wc)
  case first =>
    rcases HC1.out with q1 | ⟨q1, q2⟩
    · go_wp2_with (fail)
      refine (HFl.out _).mono ?_
      rintro en wn ⟨rfl, rfl⟩
      go_wp2_with (fail)
      refine (HFh.out _).mono ?_
      rintro en wn ⟨rfl, rfl⟩
      go_wp2_with (fail)
      go_meet
      case rel => exact ⟨rfl, rfl⟩
    · go_wp2_with (fail)
      refine (HFl.out _).mono ?_
      rintro en wn ⟨rfl, rfl⟩
      go_wp2_with (fail)
      refine (HFh.out _).mono ?_
      rintro en wn ⟨rfl, rfl⟩
      go_wp2_with (fail)
      refine (HNl.out _).mono ?_
      rintro en wn ⟨rfl, rfl⟩
      go_wp2_with (fail)
      go_meet
      case rel => exact ⟨rfl, rfl⟩
  obtain ⟨rfl, rfl⟩ := hcut
  clear HC1
  go_wp2_with (fail)
  refine (HKl.out _).mono ?_
  rintro en w5 ⟨v2, rfl, hx, hd⟩
  have X5 := Lib.hid (And.intro (X4.out.trans hx) hd)
  clear hx hd
  go_wp2_with (fail)
  refine (HKh.out _).mono ?_
  rintro en w6 ⟨v3, rfl, hx, hd⟩
  have X6 := Lib.hid (And.intro (X5.out.1.trans hx) (And.intro (X5.out.2.ext hx) hd))
  obtain ⟨n2, p2, l2, c2, o2, E2, rfl, -⟩ := Ry.open X6.out.2.1
  obtain ⟨n3, p3, l3, c3, o3, E3, rfl, -⟩ := Ry.open X6.out.2.2
  clear hx hd
  obtain ⟨w7, hw7⟩ : ∃ w7, (w6.alloc (.cells #[.bool n2, .slice p2 l2 c2, .int .i64 E2] 35)).alloc (.cells #[.bool n3, .slice p3 l3 c3, .int .i64 E3] 35) = w7 := ⟨_, rfl⟩
  obtain ⟨gl, hgl⟩ : ∃ g, w6.heap.size = g := ⟨_, rfl⟩
  have H7 : Hid (Bx w7 35 gx n1 (.slice p1 l1 c1) E1 ∧ Bx w7 35 gl n2 (.slice p2 l2 c2) E2 ∧ Bx w7 35 (gl + 1) n3 (.slice p3 l3 c3) E3 ∧ Ext w w7 ∧ Ext w7 w7) := by
    have e67 : Ext w6 w7 := by rw [← hw7]; exact ((Ext.refl _).alloc _).alloc _
    refine ⟨H2.out.2.1.ext (X6.out.1.trans e67), ?_, ?_, (H2.out.1.trans X6.out.1).trans e67, Ext.refl _⟩
    · rw [← hw7, ← hgl]; exact Bx.new1 _ _ _ _ _ _
    · rw [← hw7, ← hgl]; exact Bx.new2 _ _ _ _ _ _
  have Y7 : Hid (Ry w7 (.agg #[.bool n1, .slice p1 l1 c1, .int .i64 E1]) (V a : Int) (-1074) ∧ Ry w7 (.agg #[.bool n2, .slice p2 l2 c2, .int .i64 E2]) (V lo : Int) (-1074) ∧ Ry w7 (.agg #[.bool n3, .slice p3 l3 c3, .int .i64 E3]) (V hi : Int) (-1074)) := by
    have e67 : Ext w6 w7 := by rw [← hw7]; exact ((Ext.refl _).alloc _).alloc _
    exact ⟨H2.out.2.2.ext (X6.out.1.trans e67), X6.out.2.1.ext e67, X6.out.2.2.ext e67⟩
  have HP1 : Hid (∀ w', Ext w7 w' → Calls Tryz.prog 33 #[.agg #[.bool n2, .slice p2 l2 c2, .int .i64 E2], .agg #[.bool n2, .slice p2 l2 c2, .int .i64 E2]] w' fun en w'' => ∃ x, en = .returned x ∧ Ext w' w'' ∧ Ry w'' x ((V lo * V lo : Nat) : Int) (-1074 + -1074)) := fun w' hx => HTl.out w' _ _ (Y7.out.2.1.ext hx) (Y7.out.2.1.ext hx)
  have HP2 : Hid (∀ w', Ext w7 w' → Calls Tryz.prog 33 #[.agg #[.bool n3, .slice p3 l3 c3, .int .i64 E3], .agg #[.bool n3, .slice p3 l3 c3, .int .i64 E3]] w' fun en w'' => ∃ x, en = .returned x ∧ Ext w' w'' ∧ Ry w'' x ((V hi * V hi : Nat) : Int) (-1074 + -1074)) := fun w' hx => HTh.out w' _ _ (Y7.out.2.2.ext hx) (Y7.out.2.2.ext hx)
  have HQ1 : Hid (∀ w' u, Ext w7 w' → Ry w' u ((V lo * V lo : Nat) : Int) (-1074 + -1074) → Calls Tryz.prog 36 #[u, .agg #[.bool n1, .slice p1 l1 c1, .int .i64 E1]] w' fun en w'' => en = .returned (.int .i64 zl) ∧ Ext w' w'') := fun w' u hx g => HOl.out w' u _ g (Y7.out.1.ext hx)
  have HQ2 : Hid (∀ w' u, Ext w7 w' → Ry w' u ((V hi * V hi : Nat) : Int) (-1074 + -1074) → Calls Tryz.prog 36 #[u, .agg #[.bool n1, .slice p1 l1 c1, .int .i64 E1]] w' fun en w'' => en = .returned (.int .i64 zh) ∧ Ext w' w'') := fun w' u hx g => HOh.out w' u _ g (Y7.out.1.ext hx)
  have a0 := H7.out.1.c0
  have a1 := H7.out.1.c1
  have a2 := H7.out.1.c2
  have a3 := H7.out.2.1.c0
  have a4 := H7.out.2.1.c1
  have a5 := H7.out.2.1.c2
  have a6 := H7.out.2.2.1.c0
  have a7 := H7.out.2.2.1.c1
  have a8 := H7.out.2.2.1.c2
  go_wp2_with (fail)
  go_region_held3 (fun w' => w'.cell? ⟨gx, 0, none⟩ = some (.bool n1) ∧ w'.cell? ⟨gx, 1, none⟩ = some (.slice p1 l1 c1) ∧ w'.cell? ⟨gx, 2, none⟩ = some (.int .i64 E1) ∧ w'.cell? ⟨gl, 0, none⟩ = some (.bool n2) ∧ w'.cell? ⟨gl, 1, none⟩ = some (.slice p2 l2 c2) ∧ w'.cell? ⟨gl, 2, none⟩ = some (.int .i64 E2) ∧ w'.cell? ⟨gl + 1, 0, none⟩ = some (.bool n3) ∧ w'.cell? ⟨gl + 1, 1, none⟩ = some (.slice p3 l3 c3) ∧ w'.cell? ⟨gl + 1, 2, none⟩ = some (.int .i64 E3))
    (first | go_keep | (exact ⟨H11.out.1.c0, H11.out.1.c1, H11.out.1.c2, H11.out.2.1.c0, H11.out.2.1.c1, H11.out.2.1.c2, H11.out.2.2.1.c0, H11.out.2.2.1.c1, H11.out.2.2.1.c2⟩) | (exact ⟨H10.out.1.c0, H10.out.1.c1, H10.out.1.c2, H10.out.2.1.c0, H10.out.2.1.c1, H10.out.2.1.c2, H10.out.2.2.1.c0, H10.out.2.2.1.c1, H10.out.2.2.1.c2⟩) | (exact ⟨H9.out.1.c0, H9.out.1.c1, H9.out.1.c2, H9.out.2.1.c0, H9.out.2.1.c1, H9.out.2.1.c2, H9.out.2.2.1.c0, H9.out.2.2.1.c1, H9.out.2.2.1.c2⟩) | (exact ⟨H8.out.1.c0, H8.out.1.c1, H8.out.1.c2, H8.out.2.1.c0, H8.out.2.1.c1, H8.out.2.1.c2, H8.out.2.2.1.c0, H8.out.2.2.1.c1, H8.out.2.2.1.c2⟩) | (exact ⟨H7.out.1.c0, H7.out.1.c1, H7.out.1.c2, H7.out.2.1.c0, H7.out.2.1.c1, H7.out.2.1.c2, H7.out.2.2.1.c0, H7.out.2.2.1.c1, H7.out.2.2.1.c2⟩) | fail)
    (first | (go_at_call_of 33 (Value.agg #[.bool n2, .slice p2 l2 c2, .int .i64 E2]); refine (HP1.out _ (by first | exact H7.out.2.2.2.2 | exact H7.out.2.2.2.2.drew | exact H7.out.2.2.2.2.drewN _ | fail)).mono ?_; rintro en w8 ⟨v8, rfl, hx, hd⟩; have HV8 := Lib.hid hd; clear hd; have hx1 : Ext w7 w8 := (by first | exact hx | exact (Ext.of_drew hx) | exact (Ext.of_drewN hx) | fail); have H8 : Hid (Bx w8 35 gx n1 (.slice p1 l1 c1) E1 ∧ Bx w8 35 gl n2 (.slice p2 l2 c2) E2 ∧ Bx w8 35 (gl + 1) n3 (.slice p3 l3 c3) E3 ∧ Ext w w8 ∧ Ext w7 w8) := ⟨H7.out.1.ext hx1, H7.out.2.1.ext hx1, H7.out.2.2.1.ext hx1, H7.out.2.2.2.1.trans hx1, H7.out.2.2.2.2.trans hx1⟩; clear hx hx1) | (go_at_call_of 36 v8; refine (HQ1.out _ v8 (by first | exact H8.out.2.2.2.2 | exact H8.out.2.2.2.2.drew | exact H8.out.2.2.2.2.drewN _ | fail) (by first | exact HV8.out | exact HV8.out.ext ((Ext.refl _).drewN _) | exact HV8.out.ext (Ext.refl _).drew | fail)).mono ?_; rintro en w9 ⟨rfl, hx⟩; have hx1 : Ext w8 w9 := (by first | exact hx | exact (Ext.of_drew hx) | exact (Ext.of_drewN hx) | fail); have H9 : Hid (Bx w9 35 gx n1 (.slice p1 l1 c1) E1 ∧ Bx w9 35 gl n2 (.slice p2 l2 c2) E2 ∧ Bx w9 35 (gl + 1) n3 (.slice p3 l3 c3) E3 ∧ Ext w w9 ∧ Ext w7 w9) := ⟨H8.out.1.ext hx1, H8.out.2.1.ext hx1, H8.out.2.2.1.ext hx1, H8.out.2.2.2.1.trans hx1, H8.out.2.2.2.2.trans hx1⟩; clear hx hx1) | (go_at_call_of 33 (Value.agg #[.bool n3, .slice p3 l3 c3, .int .i64 E3]); refine (HP2.out _ (by first | exact H9.out.2.2.2.2 | exact H9.out.2.2.2.2.drew | exact H9.out.2.2.2.2.drewN _ | fail)).mono ?_; rintro en w10 ⟨v10, rfl, hx, hd⟩; have HV10 := Lib.hid hd; clear hd; have hx1 : Ext w9 w10 := (by first | exact hx | exact (Ext.of_drew hx) | exact (Ext.of_drewN hx) | fail); have H10 : Hid (Bx w10 35 gx n1 (.slice p1 l1 c1) E1 ∧ Bx w10 35 gl n2 (.slice p2 l2 c2) E2 ∧ Bx w10 35 (gl + 1) n3 (.slice p3 l3 c3) E3 ∧ Ext w w10 ∧ Ext w7 w10) := ⟨H9.out.1.ext hx1, H9.out.2.1.ext hx1, H9.out.2.2.1.ext hx1, H9.out.2.2.2.1.trans hx1, H9.out.2.2.2.2.trans hx1⟩; clear hx hx1) | (go_at_call_of 36 v10; refine (HQ2.out _ v10 (by first | exact H10.out.2.2.2.2 | exact H10.out.2.2.2.2.drew | exact H10.out.2.2.2.2.drewN _ | fail) (by first | exact HV10.out | exact HV10.out.ext ((Ext.refl _).drewN _) | exact HV10.out.ext (Ext.refl _).drew | fail)).mono ?_; rintro en w11 ⟨rfl, hx⟩; have hx1 : Ext w10 w11 := (by first | exact hx | exact (Ext.of_drew hx) | exact (Ext.of_drewN hx) | fail); have H11 : Hid (Bx w11 35 gx n1 (.slice p1 l1 c1) E1 ∧ Bx w11 35 gl n2 (.slice p2 l2 c2) E2 ∧ Bx w11 35 (gl + 1) n3 (.slice p3 l3 c3) E3 ∧ Ext w w11 ∧ Ext w7 w11) := ⟨H10.out.1.ext hx1, H10.out.2.1.ext hx1, H10.out.2.2.1.ext hx1, H10.out.2.2.2.1.trans hx1, H10.out.2.2.2.2.trans hx1⟩; clear hx hx1))
  clear a0 a1 a2 a3 a4 a5 a6 a7 a8
  go_wp2_with (fail)
  refine (HD1.out _ H11.out.2.2.2.1).mono ?_
  rintro en w12 ⟨rfl, hx⟩
  have X12 := Lib.hid hx
  clear hx
  go_wp2_with (fail)
  refine (HD3.out _ (H11.out.2.2.2.1.trans X12.out)).mono ?_
  rintro en w13 ⟨rfl, hx⟩
  have X13 := Lib.hid (X12.out.trans hx)
  clear hx
  go_wp2_with (fail)
  refine (HKb.out _).mono ?_
  rintro en w14 ⟨v4, rfl, hx, hd⟩
  have X14 := Lib.hid (And.intro (X13.out.trans hx) hd)
  obtain ⟨n4, p4, l4, c4, o4, E4, rfl, -⟩ := Ry.open X14.out.2
  clear hx hd
  obtain ⟨w15, hw15⟩ : ∃ w15, w14.alloc (.cells #[.bool n4, .slice p4 l4 c4, .int .i64 E4] 35) = w15 := ⟨_, rfl⟩
  obtain ⟨gy, hgy⟩ : ∃ g, w14.heap.size = g := ⟨_, rfl⟩
  have H15 : Hid (Bx w15 35 gx n1 (.slice p1 l1 c1) E1 ∧ Bx w15 35 gy n4 (.slice p4 l4 c4) E4 ∧ Ext w w15 ∧ Ext w15 w15) := by
    have e : Ext w14 w15 := by rw [← hw15]; exact (Ext.refl _).alloc _
    refine ⟨H11.out.1.ext (X14.out.1.trans e), ?_, (H11.out.2.2.2.1.trans X14.out.1).trans e, Ext.refl _⟩
    rw [← hw15, ← hgy]; exact Bx.new _ _ _ _ _
  have Y15 : Hid (Ry w15 (.agg #[.bool n1, .slice p1 l1 c1, .int .i64 E1]) (V a : Int) (-1074) ∧ Ry w15 (.agg #[.bool n4, .slice p4 l4 c4, .int .i64 E4]) (V b : Int) (-1074)) := by
    have e : Ext w14 w15 := by rw [← hw15]; exact (Ext.refl _).alloc _
    exact ⟨Y7.out.1.ext (H11.out.2.2.2.2.trans (X14.out.1.trans e)), X14.out.2.ext e⟩
  have HP3 : Hid (∀ w' u, Ext w15 w' → Ry w' u (V p : Int) (-1074) → Calls Tryz.prog 33 #[u, .agg #[.bool n4, .slice p4 l4 c4, .int .i64 E4]] w' fun en w'' => ∃ x, en = .returned x ∧ Ext w' w'' ∧ Ry w'' x ((V p * V b : Nat) : Int) (-1074 + -1074)) := fun w' u hx g => HTp.out w' _ _ g (Y15.out.2.ext hx)
  have HP4 : Hid (q < INF → ∀ w' u, Ext w15 w' → Ry w' u (V q : Int) (-1074) → Calls Tryz.prog 33 #[u, .agg #[.bool n4, .slice p4 l4 c4, .int .i64 E4]] w' fun en w'' => ∃ x, en = .returned x ∧ Ext w' w'' ∧ Ry w'' x ((V q * V b : Nat) : Int) (-1074 + -1074)) := fun h w' u hx g => HTq.out h w' _ _ g (Y15.out.2.ext hx)
  have HQ3 : Hid (∀ w' u, Ext w15 w' → Ry w' u ((V p * V b : Nat) : Int) (-1074 + -1074) → Calls Tryz.prog 36 #[u, .agg #[.bool n1, .slice p1 l1 c1, .int .i64 E1]] w' fun en w'' => en = .returned (.int .i64 zp) ∧ Ext w' w'') := fun w' u hx g => HOp.out w' u _ g (Y15.out.1.ext hx)
  have HQ4 : Hid (q < INF → ∀ w' u, Ext w15 w' → Ry w' u ((V q * V b : Nat) : Int) (-1074 + -1074) → Calls Tryz.prog 36 #[u, .agg #[.bool n1, .slice p1 l1 c1, .int .i64 E1]] w' fun en w'' => en = .returned (.int .i64 zq) ∧ Ext w' w'') := fun h w' u hx g => HOq.out h w' u _ g (Y15.out.1.ext hx)
  have a0 := H15.out.1.c0
  have a1 := H15.out.1.c1
  have a2 := H15.out.1.c2
  have a3 := H15.out.2.1.c0
  have a4 := H15.out.2.1.c1
  have a5 := H15.out.2.1.c2
  go_wp2_with (fail)
  go_region_held3 (fun w' => w'.cell? ⟨gx, 0, none⟩ = some (.bool n1) ∧ w'.cell? ⟨gx, 1, none⟩ = some (.slice p1 l1 c1) ∧ w'.cell? ⟨gx, 2, none⟩ = some (.int .i64 E1) ∧ w'.cell? ⟨gy, 0, none⟩ = some (.bool n4) ∧ w'.cell? ⟨gy, 1, none⟩ = some (.slice p4 l4 c4) ∧ w'.cell? ⟨gy, 2, none⟩ = some (.int .i64 E4))
    (first | go_keep | (exact ⟨H18.out.1.c0, H18.out.1.c1, H18.out.1.c2, H18.out.2.1.c0, H18.out.2.1.c1, H18.out.2.1.c2⟩) | (exact ⟨H17.out.1.c0, H17.out.1.c1, H17.out.1.c2, H17.out.2.1.c0, H17.out.2.1.c1, H17.out.2.1.c2⟩) | (exact ⟨H16.out.1.c0, H16.out.1.c1, H16.out.1.c2, H16.out.2.1.c0, H16.out.2.1.c1, H16.out.2.1.c2⟩) | (exact ⟨H15.out.1.c0, H15.out.1.c1, H15.out.1.c2, H15.out.2.1.c0, H15.out.2.1.c1, H15.out.2.1.c2⟩) | fail)
    (first | (go_at_call_of 29 (Value.float .f64 p); refine (HFp.out _).mono ?_; rintro en wq ⟨rfl, rfl⟩) | (go_at_call_of 37 (Value.float .f64 q); refine (HNq.out _).mono ?_; rintro en wq ⟨rfl, rfl⟩) | (go_at_call_of 30 (Value.float .f64 p); refine (HKp.out _).mono ?_; rintro en w16 ⟨v16, rfl, hx, hd⟩; have HV16 := Lib.hid hd; clear hd; have hx1 : Ext w15 w16 := (by first | exact hx | exact (Ext.of_drew hx) | exact (Ext.of_drewN hx) | fail); have H16 : Hid (Bx w16 35 gx n1 (.slice p1 l1 c1) E1 ∧ Bx w16 35 gy n4 (.slice p4 l4 c4) E4 ∧ Ext w w16 ∧ Ext w15 w16) := ⟨H15.out.1.ext hx1, H15.out.2.1.ext hx1, H15.out.2.2.1.trans hx1, H15.out.2.2.2.trans hx1⟩; clear hx hx1) | (go_at_call_of 33 v16; refine (HP3.out _ v16 (by first | exact H16.out.2.2.2 | exact H16.out.2.2.2.drew | exact H16.out.2.2.2.drewN _ | fail) (by first | exact HV16.out | exact HV16.out.ext ((Ext.refl _).drewN _) | exact HV16.out.ext (Ext.refl _).drew | fail)).mono ?_; rintro en w17 ⟨v17, rfl, hx, hd⟩; have HV17 := Lib.hid hd; clear hd; have hx1 : Ext w16 w17 := (by first | exact hx | exact (Ext.of_drew hx) | exact (Ext.of_drewN hx) | fail); have H17 : Hid (Bx w17 35 gx n1 (.slice p1 l1 c1) E1 ∧ Bx w17 35 gy n4 (.slice p4 l4 c4) E4 ∧ Ext w w17 ∧ Ext w15 w17) := ⟨H16.out.1.ext hx1, H16.out.2.1.ext hx1, H16.out.2.2.1.trans hx1, H16.out.2.2.2.trans hx1⟩; clear hx hx1) | (go_at_call_of 36 v17; refine (HQ3.out _ v17 (by first | exact H17.out.2.2.2 | exact H17.out.2.2.2.drew | exact H17.out.2.2.2.drewN _ | fail) (by first | exact HV17.out | exact HV17.out.ext ((Ext.refl _).drewN _) | exact HV17.out.ext (Ext.refl _).drew | fail)).mono ?_; rintro en w18 ⟨rfl, hx⟩; have hx1 : Ext w17 w18 := (by first | exact hx | exact (Ext.of_drew hx) | exact (Ext.of_drewN hx) | fail); have H18 : Hid (Bx w18 35 gx n1 (.slice p1 l1 c1) E1 ∧ Bx w18 35 gy n4 (.slice p4 l4 c4) E4 ∧ Ext w w18 ∧ Ext w15 w18) := ⟨H17.out.1.ext hx1, H17.out.2.1.ext hx1, H17.out.2.2.1.trans hx1, H17.out.2.2.2.trans hx1⟩; clear hx hx1))
  clear a0 a1 a2 a3 a4 a5
  have a0 := H18.out.1.c0
  have a1 := H18.out.1.c1
  have a2 := H18.out.1.c2
  have a3 := H18.out.2.1.c0
  have a4 := H18.out.2.1.c1
  have a5 := H18.out.2.1.c2
  rcases HC2.out with (⟨q1, q2, q3⟩ | ⟨hq, q1, q2⟩) | ⟨hq, q1, q2, q3⟩
  · skip
    rw [show decide (mag q = INF) = true by simpa using q1] at HIq
    clear q1
    go_wp2_with (fail)
    refine wp_region_held_drew (S := (fun w' => w'.cell? ⟨gx, 0, none⟩ = some (.bool n1) ∧ w'.cell? ⟨gx, 1, none⟩ = some (.slice p1 l1 c1) ∧ w'.cell? ⟨gx, 2, none⟩ = some (.int .i64 E1) ∧ w'.cell? ⟨gy, 0, none⟩ = some (.bool n4) ∧ w'.cell? ⟨gy, 1, none⟩ = some (.slice p4 l4 c4) ∧ w'.cell? ⟨gy, 2, none⟩ = some (.int .i64 E4))) (by kernel_rfl) ?_ (fun hHeld => ?_)
    · (first | go_keep | (exact ⟨H22.out.1.c0, H22.out.1.c1, H22.out.1.c2, H22.out.2.1.c0, H22.out.2.1.c1, H22.out.2.1.c2⟩) | (exact ⟨H18.out.1.c0, H18.out.1.c1, H18.out.1.c2, H18.out.2.1.c0, H18.out.2.1.c1, H18.out.2.1.c2⟩) | fail)
    refine wpAnyH_take (i := 0) (oi := ?oist00) (v := ?vst00) ?hist00 (by kernel_rfl) (by kernel_rfl) (by kernel_rfl) ?hQst00 ?hyst00 (by assumption) ?rsst00
    case hist00 => (simp only [List.getElem?_toArray, List.getElem?_cons_zero]; rfl)
    case hQst00 => exact fun _ _ _ h => h
    case hyst00 => (refine Or.inl ⟨by rfl, ?_⟩; intro w hSw; (try dsimp only at hSw); go_simp; (try with_reducible rfl))
    try simp only [Act.put, List.setIfInBounds_toArray, List.set_cons_zero, List.set_cons_succ]
    refine wpAnyH_ready (rs := [1]) (by kernel_rfl) (by simp) ?_
    refine AllReadyH.cons (by simp only [List.getElem?_toArray, List.getElem?_cons_zero, List.getElem?_cons_succ]; rfl) (fun K hK => ?_) AllReadyH.nil
    go_simp
    (go_at_call_of 38 (Value.float .f64 q); refine (HIq.out _).mono ?_; rintro en wq ⟨rfl, rfl⟩)
    go_wp2_with (fail)
    refine hK.out _ _ ?_ (fun hHeld => ?_)
    · (first | go_keep | (exact ⟨H22.out.1.c0, H22.out.1.c1, H22.out.1.c2, H22.out.2.1.c0, H22.out.2.1.c1, H22.out.2.1.c2⟩) | (exact ⟨H18.out.1.c0, H18.out.1.c1, H18.out.1.c2, H18.out.2.1.c0, H18.out.2.1.c1, H18.out.2.1.c2⟩) | fail)
    clear hK K
    try simp only [Act.put, List.setIfInBounds_toArray, List.set_cons_zero, List.set_cons_succ]
    refine wpAnyH_take (i := 2) (oi := ?oist02) (v := ?vst02) ?hist02 (by kernel_rfl) (by kernel_rfl) (by kernel_rfl) ?hQst02 ?hyst02 (by assumption) ?rsst02
    case hist02 => (simp only [List.getElem?_toArray, List.getElem?_cons_zero, List.getElem?_cons_succ]; rfl)
    case hQst02 => exact fun _ _ _ h => h
    case hyst02 => (refine Or.inl ⟨by rfl, ?_⟩; intro w hSw; (try dsimp only at hSw); go_simp; (try with_reducible rfl))
    try simp only [Act.put, List.setIfInBounds_toArray, List.set_cons_zero, List.set_cons_succ]
    refine wpAnyH_take (i := 3) (oi := ?oist03) (v := undef) ?hist03 (by kernel_rfl) (by kernel_rfl) (by kernel_rfl) ?hQst03 ?hyst03 (by assumption) ?rsst03
    case hist03 => (simp only [List.getElem?_toArray, List.getElem?_cons_zero, List.getElem?_cons_succ]; rfl)
    case hQst03 => exact fun _ _ _ h => h
    case hyst03 => exact Or.inr ⟨by rfl, rfl⟩
    try simp only [Act.put, List.setIfInBounds_toArray, List.set_cons_zero, List.set_cons_succ]
    refine wpAnyH_take (i := 4) (oi := ?oist04) (v := undef) ?hist04 (by kernel_rfl) (by kernel_rfl) (by kernel_rfl) ?hQst04 ?hyst04 (by assumption) ?rsst04
    case hist04 => (simp only [List.getElem?_toArray, List.getElem?_cons_zero, List.getElem?_cons_succ]; rfl)
    case hQst04 => exact fun _ _ _ h => h
    case hyst04 => exact Or.inr ⟨by rfl, rfl⟩
    try simp only [Act.put, List.setIfInBounds_toArray, List.set_cons_zero, List.set_cons_succ]
    refine wpAnyH_take (i := 5) (oi := ?oist05) (v := undef) ?hist05 (by kernel_rfl) (by kernel_rfl) (by kernel_rfl) ?hQst05 ?hyst05 (by assumption) ?rsst05
    case hist05 => (simp only [List.getElem?_toArray, List.getElem?_cons_zero, List.getElem?_cons_succ]; rfl)
    case hQst05 => exact fun _ _ _ h => h
    case hyst05 => exact Or.inr ⟨by rfl, rfl⟩
    try simp only [Act.put, List.setIfInBounds_toArray, List.set_cons_zero, List.set_cons_succ]
    refine wpAnyH_take (i := 6) (oi := ?oist06) (v := undef) ?hist06 (by kernel_rfl) (by kernel_rfl) (by kernel_rfl) ?hQst06 ?hyst06 (by assumption) ?rsst06
    case hist06 => (simp only [List.getElem?_toArray, List.getElem?_cons_zero, List.getElem?_cons_succ]; rfl)
    case hQst06 => exact fun _ _ _ h => h
    case hyst06 => exact Or.inr ⟨by rfl, rfl⟩
    try simp only [Act.put, List.setIfInBounds_toArray, List.set_cons_zero, List.set_cons_succ]
    refine wpAnyH_take (i := 7) (oi := ?oist07) (v := undef) ?hist07 (by kernel_rfl) (by kernel_rfl) (by kernel_rfl) ?hQst07 ?hyst07 (by assumption) ?rsst07
    case hist07 => (simp only [List.getElem?_toArray, List.getElem?_cons_zero, List.getElem?_cons_succ]; rfl)
    case hQst07 => exact fun _ _ _ h => h
    case hyst07 => exact Or.inr ⟨by rfl, rfl⟩
    try simp only [Act.put, List.setIfInBounds_toArray, List.set_cons_zero, List.set_cons_succ]
    refine wpAnyH_take (i := 8) (oi := ?oist08) (v := undef) ?hist08 (by kernel_rfl) (by kernel_rfl) (by kernel_rfl) ?hQst08 ?hyst08 (by assumption) ?rsst08
    case hist08 => (simp only [List.getElem?_toArray, List.getElem?_cons_zero, List.getElem?_cons_succ]; rfl)
    case hQst08 => exact fun _ _ _ h => h
    case hyst08 => exact Or.inr ⟨by rfl, rfl⟩
    try simp only [Act.put, List.setIfInBounds_toArray, List.set_cons_zero, List.set_cons_succ]
    refine wpAnyH_take (i := 9) (oi := ?oist09) (v := undef) ?hist09 (by kernel_rfl) (by kernel_rfl) (by kernel_rfl) ?hQst09 ?hyst09 (by assumption) ?rsst09
    case hist09 => (simp only [List.getElem?_toArray, List.getElem?_cons_zero, List.getElem?_cons_succ]; rfl)
    case hQst09 => exact fun _ _ _ h => h
    case hyst09 => exact Or.inr ⟨by rfl, rfl⟩
    try simp only [Act.put, List.setIfInBounds_toArray, List.set_cons_zero, List.set_cons_succ]
    refine wpAnyH_take (i := 10) (oi := ?oist010) (v := ?vst010) ?hist010 (by kernel_rfl) (by kernel_rfl) (by kernel_rfl) ?hQst010 ?hyst010 (by assumption) ?rsst010
    case hist010 => (simp only [List.getElem?_toArray, List.getElem?_cons_zero, List.getElem?_cons_succ]; rfl)
    case hQst010 => exact fun _ _ _ h => h
    case hyst010 => (refine Or.inl ⟨by rfl, ?_⟩; intro w hSw; (try dsimp only at hSw); go_simp; (try with_reducible rfl))
    try simp only [Act.put, List.setIfInBounds_toArray, List.set_cons_zero, List.set_cons_succ]
    refine wpAnyH_take (i := 11) (oi := ?oist011) (v := ?vst011) ?hist011 (by kernel_rfl) (by kernel_rfl) (by kernel_rfl) ?hQst011 ?hyst011 (by assumption) ?rsst011
    case hist011 => (simp only [List.getElem?_toArray, List.getElem?_cons_zero, List.getElem?_cons_succ]; rfl)
    case hQst011 => exact fun _ _ _ h => h
    case hyst011 => (refine Or.inl ⟨by rfl, ?_⟩; intro w hSw; (try dsimp only at hSw); go_simp; (try with_reducible rfl))
    try simp only [Act.put, List.setIfInBounds_toArray, List.set_cons_zero, List.set_cons_succ]
    refine wpAnyH_take (i := 12) (oi := ?oist012) (v := ?vst012) ?hist012 (by kernel_rfl) (by kernel_rfl) (by kernel_rfl) ?hQst012 ?hyst012 (by assumption) ?rsst012
    case hist012 => (simp only [List.getElem?_toArray, List.getElem?_cons_zero, List.getElem?_cons_succ]; rfl)
    case hQst012 => exact fun _ _ _ h => h
    case hyst012 => (refine Or.inl ⟨by rfl, ?_⟩; intro w hSw; (try dsimp only at hSw); go_simp; (try with_reducible rfl))
    try simp only [Act.put, List.setIfInBounds_toArray, List.set_cons_zero, List.set_cons_succ]
    refine wpAnyH_take (i := 13) (oi := ?oist013) (v := ?vst013) ?hist013 (by kernel_rfl) (by kernel_rfl) (by kernel_rfl) ?hQst013 ?hyst013 (by assumption) ?rsst013
    case hist013 => (simp only [List.getElem?_toArray, List.getElem?_cons_zero, List.getElem?_cons_succ]; rfl)
    case hQst013 => exact fun _ _ _ h => h
    case hyst013 => (refine Or.inl ⟨by rfl, ?_⟩; intro w hSw; (try dsimp only at hSw); go_simp; (try with_reducible rfl))
    try simp only [Act.put, List.setIfInBounds_toArray, List.set_cons_zero, List.set_cons_succ]
    refine wpAnyH_take (i := 14) (oi := ?oist014) (v := ?vst014) ?hist014 (by kernel_rfl) (by kernel_rfl) (by kernel_rfl) ?hQst014 ?hyst014 (by assumption) ?rsst014
    case hist014 => (simp only [List.getElem?_toArray, List.getElem?_cons_zero, List.getElem?_cons_succ]; rfl)
    case hQst014 => exact fun _ _ _ h => h
    case hyst014 => (refine Or.inl ⟨by rfl, ?_⟩; intro w hSw; (try dsimp only at hSw); go_simp; (try with_reducible rfl))
    try simp only [Act.put, List.setIfInBounds_toArray, List.set_cons_zero, List.set_cons_succ]
    refine wpAnyH_take (i := 15) (oi := ?oist015) (v := ?vst015) ?hist015 (by kernel_rfl) (by kernel_rfl) (by kernel_rfl) ?hQst015 ?hyst015 (by assumption) ?rsst015
    case hist015 => (simp only [List.getElem?_toArray, List.getElem?_cons_zero, List.getElem?_cons_succ]; rfl)
    case hQst015 => exact fun _ _ _ h => h
    case hyst015 => (refine Or.inl ⟨by rfl, ?_⟩; intro w hSw; (try dsimp only at hSw); go_simp; (try with_reducible rfl))
    try simp only [Act.put, List.setIfInBounds_toArray, List.set_cons_zero, List.set_cons_succ]
    refine wpAnyH_take (i := 16) (oi := ?oist016) (v := ?vst016) ?hist016 (by kernel_rfl) (by kernel_rfl) (by kernel_rfl) ?hQst016 ?hyst016 (by assumption) ?rsst016
    case hist016 => (simp only [List.getElem?_toArray, List.getElem?_cons_zero, List.getElem?_cons_succ]; rfl)
    case hQst016 => exact fun _ _ _ h => h
    case hyst016 => (refine Or.inl ⟨by rfl, ?_⟩; intro w hSw; (try dsimp only at hSw); go_simp; (try with_reducible rfl))
    try simp only [Act.put, List.setIfInBounds_toArray, List.set_cons_zero, List.set_cons_succ]
    refine wpAnyH_take (i := 18) (oi := ?oist018) (v := ?vst018) ?hist018 (by kernel_rfl) (by kernel_rfl) (by kernel_rfl) ?hQst018 ?hyst018 (by assumption) ?rsst018
    case hist018 => (simp only [List.getElem?_toArray, List.getElem?_cons_zero, List.getElem?_cons_succ]; rfl)
    case hQst018 => exact fun _ _ _ h => h
    case hyst018 => (refine Or.inl ⟨by rfl, ?_⟩; intro w hSw; (try dsimp only at hSw); go_simp; (try with_reducible rfl))
    try simp only [Act.put, List.setIfInBounds_toArray, List.set_cons_zero, List.set_cons_succ]
    refine wpAnyH_ready (rs := [17]) (by kernel_rfl) (by simp) ?_
    refine AllReadyH.cons (by simp only [List.getElem?_toArray, List.getElem?_cons_zero, List.getElem?_cons_succ]; rfl) (fun K hK => ?_) AllReadyH.nil
    go_simp
    (go_at_call_of 35 (Value.float .f64 p); refine (HNp.out _).mono ?_; rintro en wq ⟨rfl, rfl⟩)
    go_wp2_with (fail)
    refine hK.out _ _ ?_ (fun hHeld => ?_)
    · (first | go_keep | (exact ⟨H22.out.1.c0, H22.out.1.c1, H22.out.1.c2, H22.out.2.1.c0, H22.out.2.1.c1, H22.out.2.1.c2⟩) | (exact ⟨H18.out.1.c0, H18.out.1.c1, H18.out.1.c2, H18.out.2.1.c0, H18.out.2.1.c1, H18.out.2.1.c2⟩) | fail)
    clear hK K
    try simp only [Act.put, List.setIfInBounds_toArray, List.set_cons_zero, List.set_cons_succ]
    refine wpAnyH_take (i := 19) (oi := ?oist019) (v := ?vst019) ?hist019 (by kernel_rfl) (by kernel_rfl) (by kernel_rfl) ?hQst019 ?hyst019 (by assumption) ?rsst019
    case hist019 => (simp only [List.getElem?_toArray, List.getElem?_cons_zero, List.getElem?_cons_succ]; rfl)
    case hQst019 => exact fun _ _ _ h => h
    case hyst019 => (refine Or.inl ⟨by rfl, ?_⟩; intro w hSw; (try dsimp only at hSw); go_simp; (try with_reducible rfl))
    try simp only [Act.put, List.setIfInBounds_toArray, List.set_cons_zero, List.set_cons_succ]
    refine wpAnyH_take (i := 20) (oi := ?oist020) (v := ?vst020) ?hist020 (by kernel_rfl) (by kernel_rfl) (by kernel_rfl) ?hQst020 ?hyst020 (by assumption) ?rsst020
    case hist020 => (simp only [List.getElem?_toArray, List.getElem?_cons_zero, List.getElem?_cons_succ]; rfl)
    case hQst020 => exact fun _ _ _ h => h
    case hyst020 => (refine Or.inl ⟨by rfl, ?_⟩; intro w hSw; (try dsimp only at hSw); go_simp; (try with_reducible rfl))
    try simp only [Act.put, List.setIfInBounds_toArray, List.set_cons_zero, List.set_cons_succ]
    refine wpAnyH_take (i := 21) (oi := ?oist021) (v := ?vst021) ?hist021 (by kernel_rfl) (by kernel_rfl) (by kernel_rfl) ?hQst021 ?hyst021 (by assumption) ?rsst021
    case hist021 => (simp only [List.getElem?_toArray, List.getElem?_cons_zero, List.getElem?_cons_succ]; rfl)
    case hQst021 => exact fun _ _ _ h => h
    case hyst021 => (refine Or.inl ⟨by rfl, ?_⟩; intro w hSw; (try dsimp only at hSw); go_simp; (try with_reducible rfl))
    try simp only [Act.put, List.setIfInBounds_toArray, List.set_cons_zero, List.set_cons_succ]
    refine wpAnyH_take (i := 22) (oi := ?oist022) (v := ?vst022) ?hist022 (by kernel_rfl) (by kernel_rfl) (by kernel_rfl) ?hQst022 ?hyst022 (by assumption) ?rsst022
    case hist022 => (simp only [List.getElem?_toArray, List.getElem?_cons_zero, List.getElem?_cons_succ]; rfl)
    case hQst022 => exact fun _ _ _ h => h
    case hyst022 => (refine Or.inl ⟨by rfl, ?_⟩; intro w hSw; (try dsimp only at hSw); go_simp; (try with_reducible rfl))
    try simp only [Act.put, List.setIfInBounds_toArray, List.set_cons_zero, List.set_cons_succ]
    refine wpAnyH_ready (rs := [23]) (by kernel_rfl) (by simp) ?_
    refine AllReadyH.cons (by simp only [List.getElem?_toArray, List.getElem?_cons_zero, List.getElem?_cons_succ]; rfl) (fun K hK => ?_) AllReadyH.nil
    go_simp
    (go_at_call 14; refine (HSu.out _ (by first | exact H18.out.2.2.1 | exact H18.out.2.2.1.drew | exact H18.out.2.2.1.drewN _ | fail)).mono ?_; rintro en w22 ⟨rfl, hx⟩; have hx1 : Ext w18 w22 := (by first | exact hx | exact (Ext.of_drew hx) | exact (Ext.of_drewN hx) | fail); have H22 : Hid (Bx w22 35 gx n1 (.slice p1 l1 c1) E1 ∧ Bx w22 35 gy n4 (.slice p4 l4 c4) E4 ∧ Ext w w22 ∧ Ext w15 w22) := ⟨H18.out.1.ext hx1, H18.out.2.1.ext hx1, H18.out.2.2.1.trans hx1, H18.out.2.2.2.trans hx1⟩; clear hx hx1; have g22_0 := H22.out.1.c0; have g22_1 := H22.out.1.c1; have g22_2 := H22.out.1.c2; have g22_3 := H22.out.2.1.c0; have g22_4 := H22.out.2.1.c1; have g22_5 := H22.out.2.1.c2)
    go_wp2_with (fail)
    refine hK.out _ _ ?_ (fun hHeld => ?_)
    · (first | go_keep | (exact ⟨H22.out.1.c0, H22.out.1.c1, H22.out.1.c2, H22.out.2.1.c0, H22.out.2.1.c1, H22.out.2.1.c2⟩) | (exact ⟨H18.out.1.c0, H18.out.1.c1, H18.out.1.c2, H18.out.2.1.c0, H18.out.2.1.c1, H18.out.2.1.c2⟩) | fail)
    clear hK K
    try simp only [Act.put, List.setIfInBounds_toArray, List.set_cons_zero, List.set_cons_succ]
    refine wpAnyH_take (i := 24) (oi := ?oist024) (v := ?vst024) ?hist024 (by kernel_rfl) (by kernel_rfl) (by kernel_rfl) ?hQst024 ?hyst024 (by assumption) ?rsst024
    case hist024 => (simp only [List.getElem?_toArray, List.getElem?_cons_zero, List.getElem?_cons_succ]; rfl)
    case hQst024 => exact fun _ _ _ h => h
    case hyst024 => (refine Or.inl ⟨by rfl, ?_⟩; intro w hSw; (try dsimp only at hSw); go_simp; (try with_reducible rfl))
    try simp only [Act.put, List.setIfInBounds_toArray, List.set_cons_zero, List.set_cons_succ]
    refine wpAnyH_take (i := 25) (oi := ?oist025) (v := ?vst025) ?hist025 (by kernel_rfl) (by kernel_rfl) (by kernel_rfl) ?hQst025 ?hyst025 (by assumption) ?rsst025
    case hist025 => (simp only [List.getElem?_toArray, List.getElem?_cons_zero, List.getElem?_cons_succ]; rfl)
    case hQst025 => exact fun _ _ _ h => h
    case hyst025 => (refine Or.inl ⟨by rfl, ?_⟩; intro w hSw; (try dsimp only at hSw); go_simp; (try with_reducible rfl))
    try simp only [Act.put, List.setIfInBounds_toArray, List.set_cons_zero, List.set_cons_succ]
    refine wpAnyH_done (by kernel_rfl) ?_ _
    go_wp2_with (fail)
    go_ret
    exact ⟨rfl, H22.out.2.2.1⟩
  · skip
    have z5 := z4.out hq
    replace hq := Lib.hid hq
    rw [show decide (mag q = INF) = false by simp; omega] at HIq
    clear q1
    go_wp2_with (fail)
    refine wp_region_held_drew (S := (fun w' => w'.cell? ⟨gx, 0, none⟩ = some (.bool n1) ∧ w'.cell? ⟨gx, 1, none⟩ = some (.slice p1 l1 c1) ∧ w'.cell? ⟨gx, 2, none⟩ = some (.int .i64 E1) ∧ w'.cell? ⟨gy, 0, none⟩ = some (.bool n4) ∧ w'.cell? ⟨gy, 1, none⟩ = some (.slice p4 l4 c4) ∧ w'.cell? ⟨gy, 2, none⟩ = some (.int .i64 E4))) (by kernel_rfl) ?_ (fun hHeld => ?_)
    · (first | go_keep | (exact ⟨H22.out.1.c0, H22.out.1.c1, H22.out.1.c2, H22.out.2.1.c0, H22.out.2.1.c1, H22.out.2.1.c2⟩) | (exact ⟨H21.out.1.c0, H21.out.1.c1, H21.out.1.c2, H21.out.2.1.c0, H21.out.2.1.c1, H21.out.2.1.c2⟩) | (exact ⟨H20.out.1.c0, H20.out.1.c1, H20.out.1.c2, H20.out.2.1.c0, H20.out.2.1.c1, H20.out.2.1.c2⟩) | (exact ⟨H19.out.1.c0, H19.out.1.c1, H19.out.1.c2, H19.out.2.1.c0, H19.out.2.1.c1, H19.out.2.1.c2⟩) | (exact ⟨H18.out.1.c0, H18.out.1.c1, H18.out.1.c2, H18.out.2.1.c0, H18.out.2.1.c1, H18.out.2.1.c2⟩) | fail)
    refine wpAnyH_take (i := 0) (oi := ?oist10) (v := ?vst10) ?hist10 (by kernel_rfl) (by kernel_rfl) (by kernel_rfl) ?hQst10 ?hyst10 (by assumption) ?rsst10
    case hist10 => (simp only [List.getElem?_toArray, List.getElem?_cons_zero]; rfl)
    case hQst10 => exact fun _ _ _ h => h
    case hyst10 => (refine Or.inl ⟨by rfl, ?_⟩; intro w hSw; (try dsimp only at hSw); go_simp; (try with_reducible rfl))
    try simp only [Act.put, List.setIfInBounds_toArray, List.set_cons_zero, List.set_cons_succ]
    refine wpAnyH_ready (rs := [1]) (by kernel_rfl) (by simp) ?_
    refine AllReadyH.cons (by simp only [List.getElem?_toArray, List.getElem?_cons_zero, List.getElem?_cons_succ]; rfl) (fun K hK => ?_) AllReadyH.nil
    go_simp
    (go_at_call_of 38 (Value.float .f64 q); refine (HIq.out _).mono ?_; rintro en wq ⟨rfl, rfl⟩)
    go_wp2_with (fail)
    refine hK.out _ _ ?_ (fun hHeld => ?_)
    · (first | go_keep | (exact ⟨H22.out.1.c0, H22.out.1.c1, H22.out.1.c2, H22.out.2.1.c0, H22.out.2.1.c1, H22.out.2.1.c2⟩) | (exact ⟨H21.out.1.c0, H21.out.1.c1, H21.out.1.c2, H21.out.2.1.c0, H21.out.2.1.c1, H21.out.2.1.c2⟩) | (exact ⟨H20.out.1.c0, H20.out.1.c1, H20.out.1.c2, H20.out.2.1.c0, H20.out.2.1.c1, H20.out.2.1.c2⟩) | (exact ⟨H19.out.1.c0, H19.out.1.c1, H19.out.1.c2, H19.out.2.1.c0, H19.out.2.1.c1, H19.out.2.1.c2⟩) | (exact ⟨H18.out.1.c0, H18.out.1.c1, H18.out.1.c2, H18.out.2.1.c0, H18.out.2.1.c1, H18.out.2.1.c2⟩) | fail)
    clear hK K
    try simp only [Act.put, List.setIfInBounds_toArray, List.set_cons_zero, List.set_cons_succ]
    refine wpAnyH_take (i := 2) (oi := ?oist12) (v := ?vst12) ?hist12 (by kernel_rfl) (by kernel_rfl) (by kernel_rfl) ?hQst12 ?hyst12 (by assumption) ?rsst12
    case hist12 => (simp only [List.getElem?_toArray, List.getElem?_cons_zero, List.getElem?_cons_succ]; rfl)
    case hQst12 => exact fun _ _ _ h => h
    case hyst12 => (refine Or.inl ⟨by rfl, ?_⟩; intro w hSw; (try dsimp only at hSw); go_simp; (try with_reducible rfl))
    try simp only [Act.put, List.setIfInBounds_toArray, List.set_cons_zero, List.set_cons_succ]
    refine wpAnyH_take (i := 3) (oi := ?oist13) (v := ?vst13) ?hist13 (by kernel_rfl) (by kernel_rfl) (by kernel_rfl) ?hQst13 ?hyst13 (by assumption) ?rsst13
    case hist13 => (simp only [List.getElem?_toArray, List.getElem?_cons_zero, List.getElem?_cons_succ]; rfl)
    case hQst13 => exact fun _ _ _ h => h
    case hyst13 => (refine Or.inl ⟨by rfl, ?_⟩; intro w hSw; (try dsimp only at hSw); go_simp; (try with_reducible rfl))
    try simp only [Act.put, List.setIfInBounds_toArray, List.set_cons_zero, List.set_cons_succ]
    refine wpAnyH_take (i := 5) (oi := ?oist15) (v := ?vst15) ?hist15 (by kernel_rfl) (by kernel_rfl) (by kernel_rfl) ?hQst15 ?hyst15 (by assumption) ?rsst15
    case hist15 => (simp only [List.getElem?_toArray, List.getElem?_cons_zero, List.getElem?_cons_succ]; rfl)
    case hQst15 => exact fun _ _ _ h => h
    case hyst15 => (refine Or.inl ⟨by rfl, ?_⟩; intro w hSw; (try dsimp only at hSw); go_simp; (try with_reducible rfl))
    try simp only [Act.put, List.setIfInBounds_toArray, List.set_cons_zero, List.set_cons_succ]
    refine wpAnyH_take (i := 7) (oi := ?oist17) (v := ?vst17) ?hist17 (by kernel_rfl) (by kernel_rfl) (by kernel_rfl) ?hQst17 ?hyst17 (by assumption) ?rsst17
    case hist17 => (simp only [List.getElem?_toArray, List.getElem?_cons_zero, List.getElem?_cons_succ]; rfl)
    case hQst17 => exact fun _ _ _ h => h
    case hyst17 => (refine Or.inl ⟨by rfl, ?_⟩; intro w hSw; (try dsimp only at hSw); go_simp; (try with_reducible rfl))
    try simp only [Act.put, List.setIfInBounds_toArray, List.set_cons_zero, List.set_cons_succ]
    refine wpAnyH_ready (rs := [4]) (by kernel_rfl) (by simp) ?_
    refine AllReadyH.cons (by simp only [List.getElem?_toArray, List.getElem?_cons_zero, List.getElem?_cons_succ]; rfl) (fun K hK => ?_) AllReadyH.nil
    go_simp
    (go_at_call_of 30 (Value.float .f64 q); refine (HKq.out _).mono ?_; rintro en w19 ⟨v19, rfl, hx, hd⟩; have HV19 := Lib.hid hd; clear hd; have hx1 : Ext w18 w19 := (by first | exact hx | exact (Ext.of_drew hx) | exact (Ext.of_drewN hx) | fail); have H19 : Hid (Bx w19 35 gx n1 (.slice p1 l1 c1) E1 ∧ Bx w19 35 gy n4 (.slice p4 l4 c4) E4 ∧ Ext w w19 ∧ Ext w15 w19) := ⟨H18.out.1.ext hx1, H18.out.2.1.ext hx1, H18.out.2.2.1.trans hx1, H18.out.2.2.2.trans hx1⟩; clear hx hx1; have g19_0 := H19.out.1.c0; have g19_1 := H19.out.1.c1; have g19_2 := H19.out.1.c2; have g19_3 := H19.out.2.1.c0; have g19_4 := H19.out.2.1.c1; have g19_5 := H19.out.2.1.c2)
    go_wp2_with (fail)
    refine hK.out _ _ ?_ (fun hHeld => ?_)
    · (first | go_keep | (exact ⟨H22.out.1.c0, H22.out.1.c1, H22.out.1.c2, H22.out.2.1.c0, H22.out.2.1.c1, H22.out.2.1.c2⟩) | (exact ⟨H21.out.1.c0, H21.out.1.c1, H21.out.1.c2, H21.out.2.1.c0, H21.out.2.1.c1, H21.out.2.1.c2⟩) | (exact ⟨H20.out.1.c0, H20.out.1.c1, H20.out.1.c2, H20.out.2.1.c0, H20.out.2.1.c1, H20.out.2.1.c2⟩) | (exact ⟨H19.out.1.c0, H19.out.1.c1, H19.out.1.c2, H19.out.2.1.c0, H19.out.2.1.c1, H19.out.2.1.c2⟩) | (exact ⟨H18.out.1.c0, H18.out.1.c1, H18.out.1.c2, H18.out.2.1.c0, H18.out.2.1.c1, H18.out.2.1.c2⟩) | fail)
    clear hK K
    try simp only [Act.put, List.setIfInBounds_toArray, List.set_cons_zero, List.set_cons_succ]
    refine wpAnyH_ready (rs := [6]) (by kernel_rfl) (by simp) ?_
    refine AllReadyH.cons (by simp only [List.getElem?_toArray, List.getElem?_cons_zero, List.getElem?_cons_succ]; rfl) (fun K hK => ?_) AllReadyH.nil
    go_simp
    (go_at_call_of 33 v19; refine (HP4.out hq.out _ v19 (by first | exact H19.out.2.2.2 | exact H19.out.2.2.2.drew | exact H19.out.2.2.2.drewN _ | fail) (by first | exact HV19.out | exact HV19.out.ext ((Ext.refl _).drewN _) | exact HV19.out.ext (Ext.refl _).drew | fail)).mono ?_; rintro en w20 ⟨v20, rfl, hx, hd⟩; have HV20 := Lib.hid hd; clear hd; have hx1 : Ext w19 w20 := (by first | exact hx | exact (Ext.of_drew hx) | exact (Ext.of_drewN hx) | fail); have H20 : Hid (Bx w20 35 gx n1 (.slice p1 l1 c1) E1 ∧ Bx w20 35 gy n4 (.slice p4 l4 c4) E4 ∧ Ext w w20 ∧ Ext w15 w20) := ⟨H19.out.1.ext hx1, H19.out.2.1.ext hx1, H19.out.2.2.1.trans hx1, H19.out.2.2.2.trans hx1⟩; clear hx hx1; have g20_0 := H20.out.1.c0; have g20_1 := H20.out.1.c1; have g20_2 := H20.out.1.c2; have g20_3 := H20.out.2.1.c0; have g20_4 := H20.out.2.1.c1; have g20_5 := H20.out.2.1.c2)
    go_wp2_with (fail)
    refine hK.out _ _ ?_ (fun hHeld => ?_)
    · (first | go_keep | (exact ⟨H22.out.1.c0, H22.out.1.c1, H22.out.1.c2, H22.out.2.1.c0, H22.out.2.1.c1, H22.out.2.1.c2⟩) | (exact ⟨H21.out.1.c0, H21.out.1.c1, H21.out.1.c2, H21.out.2.1.c0, H21.out.2.1.c1, H21.out.2.1.c2⟩) | (exact ⟨H20.out.1.c0, H20.out.1.c1, H20.out.1.c2, H20.out.2.1.c0, H20.out.2.1.c1, H20.out.2.1.c2⟩) | (exact ⟨H19.out.1.c0, H19.out.1.c1, H19.out.1.c2, H19.out.2.1.c0, H19.out.2.1.c1, H19.out.2.1.c2⟩) | (exact ⟨H18.out.1.c0, H18.out.1.c1, H18.out.1.c2, H18.out.2.1.c0, H18.out.2.1.c1, H18.out.2.1.c2⟩) | fail)
    clear hK K
    try simp only [Act.put, List.setIfInBounds_toArray, List.set_cons_zero, List.set_cons_succ]
    refine wpAnyH_ready (rs := [8]) (by kernel_rfl) (by simp) ?_
    refine AllReadyH.cons (by simp only [List.getElem?_toArray, List.getElem?_cons_zero, List.getElem?_cons_succ]; rfl) (fun K hK => ?_) AllReadyH.nil
    go_simp
    (go_at_call_of 36 v20; refine (HQ4.out hq.out _ v20 (by first | exact H20.out.2.2.2 | exact H20.out.2.2.2.drew | exact H20.out.2.2.2.drewN _ | fail) (by first | exact HV20.out | exact HV20.out.ext ((Ext.refl _).drewN _) | exact HV20.out.ext (Ext.refl _).drew | fail)).mono ?_; rintro en w21 ⟨rfl, hx⟩; have hx1 : Ext w20 w21 := (by first | exact hx | exact (Ext.of_drew hx) | exact (Ext.of_drewN hx) | fail); have H21 : Hid (Bx w21 35 gx n1 (.slice p1 l1 c1) E1 ∧ Bx w21 35 gy n4 (.slice p4 l4 c4) E4 ∧ Ext w w21 ∧ Ext w15 w21) := ⟨H20.out.1.ext hx1, H20.out.2.1.ext hx1, H20.out.2.2.1.trans hx1, H20.out.2.2.2.trans hx1⟩; clear hx hx1; have g21_0 := H21.out.1.c0; have g21_1 := H21.out.1.c1; have g21_2 := H21.out.1.c2; have g21_3 := H21.out.2.1.c0; have g21_4 := H21.out.2.1.c1; have g21_5 := H21.out.2.1.c2)
    go_wp2_with (fail)
    refine hK.out _ _ ?_ (fun hHeld => ?_)
    · (first | go_keep | (exact ⟨H22.out.1.c0, H22.out.1.c1, H22.out.1.c2, H22.out.2.1.c0, H22.out.2.1.c1, H22.out.2.1.c2⟩) | (exact ⟨H21.out.1.c0, H21.out.1.c1, H21.out.1.c2, H21.out.2.1.c0, H21.out.2.1.c1, H21.out.2.1.c2⟩) | (exact ⟨H20.out.1.c0, H20.out.1.c1, H20.out.1.c2, H20.out.2.1.c0, H20.out.2.1.c1, H20.out.2.1.c2⟩) | (exact ⟨H19.out.1.c0, H19.out.1.c1, H19.out.1.c2, H19.out.2.1.c0, H19.out.2.1.c1, H19.out.2.1.c2⟩) | (exact ⟨H18.out.1.c0, H18.out.1.c1, H18.out.1.c2, H18.out.2.1.c0, H18.out.2.1.c1, H18.out.2.1.c2⟩) | fail)
    clear hK K
    try simp only [Act.put, List.setIfInBounds_toArray, List.set_cons_zero, List.set_cons_succ]
    refine wpAnyH_take (i := 9) (oi := ?oist19) (v := ?vst19) ?hist19 (by kernel_rfl) (by kernel_rfl) (by kernel_rfl) ?hQst19 ?hyst19 (by assumption) ?rsst19
    case hist19 => (simp only [List.getElem?_toArray, List.getElem?_cons_zero, List.getElem?_cons_succ]; rfl)
    case hQst19 => exact fun _ _ _ h => h
    case hyst19 => (refine Or.inl ⟨by rfl, ?_⟩; intro w hSw; (try dsimp only at hSw); go_simp; (try with_reducible rfl))
    try simp only [Act.put, List.setIfInBounds_toArray, List.set_cons_zero, List.set_cons_succ]
    refine wpAnyH_take (i := 10) (oi := ?oist110) (v := ?vst110) ?hist110 (by kernel_rfl) (by kernel_rfl) (by kernel_rfl) ?hQst110 ?hyst110 (by assumption) ?rsst110
    case hist110 => (simp only [List.getElem?_toArray, List.getElem?_cons_zero, List.getElem?_cons_succ]; rfl)
    case hQst110 => exact fun _ _ _ h => h
    case hyst110 => (refine Or.inl ⟨by rfl, ?_⟩; intro w hSw; (try dsimp only at hSw); go_simp; (try with_reducible rfl))
    try simp only [Act.put, List.setIfInBounds_toArray, List.set_cons_zero, List.set_cons_succ]
    refine wpAnyH_take (i := 11) (oi := ?oist111) (v := ?vst111) ?hist111 (by kernel_rfl) (by kernel_rfl) (by kernel_rfl) ?hQst111 ?hyst111 (by assumption) ?rsst111
    case hist111 => (simp only [List.getElem?_toArray, List.getElem?_cons_zero, List.getElem?_cons_succ]; rfl)
    case hQst111 => exact fun _ _ _ h => h
    case hyst111 => (refine Or.inl ⟨by rfl, ?_⟩; intro w hSw; (try dsimp only at hSw); go_simp; (try with_reducible rfl))
    try simp only [Act.put, List.setIfInBounds_toArray, List.set_cons_zero, List.set_cons_succ]
    refine wpAnyH_take (i := 12) (oi := ?oist112) (v := ?vst112) ?hist112 (by kernel_rfl) (by kernel_rfl) (by kernel_rfl) ?hQst112 ?hyst112 (by assumption) ?rsst112
    case hist112 => (simp only [List.getElem?_toArray, List.getElem?_cons_zero, List.getElem?_cons_succ]; rfl)
    case hQst112 => exact fun _ _ _ h => h
    case hyst112 => (refine Or.inl ⟨by rfl, ?_⟩; intro w hSw; (try dsimp only at hSw); go_simp; (try with_reducible rfl))
    try simp only [Act.put, List.setIfInBounds_toArray, List.set_cons_zero, List.set_cons_succ]
    refine wpAnyH_take (i := 13) (oi := ?oist113) (v := ?vst113) ?hist113 (by kernel_rfl) (by kernel_rfl) (by kernel_rfl) ?hQst113 ?hyst113 (by assumption) ?rsst113
    case hist113 => (simp only [List.getElem?_toArray, List.getElem?_cons_zero, List.getElem?_cons_succ]; rfl)
    case hQst113 => exact fun _ _ _ h => h
    case hyst113 => (refine Or.inl ⟨by rfl, ?_⟩; intro w hSw; (try dsimp only at hSw); go_simp; (try with_reducible rfl))
    try simp only [Act.put, List.setIfInBounds_toArray, List.set_cons_zero, List.set_cons_succ]
    refine wpAnyH_take (i := 14) (oi := ?oist114) (v := ?vst114) ?hist114 (by kernel_rfl) (by kernel_rfl) (by kernel_rfl) ?hQst114 ?hyst114 (by assumption) ?rsst114
    case hist114 => (simp only [List.getElem?_toArray, List.getElem?_cons_zero, List.getElem?_cons_succ]; rfl)
    case hQst114 => exact fun _ _ _ h => h
    case hyst114 => (refine Or.inl ⟨by rfl, ?_⟩; intro w hSw; (try dsimp only at hSw); go_simp; (try with_reducible rfl))
    try simp only [Act.put, List.setIfInBounds_toArray, List.set_cons_zero, List.set_cons_succ]
    refine wpAnyH_take (i := 15) (oi := ?oist115) (v := ?vst115) ?hist115 (by kernel_rfl) (by kernel_rfl) (by kernel_rfl) ?hQst115 ?hyst115 (by assumption) ?rsst115
    case hist115 => (simp only [List.getElem?_toArray, List.getElem?_cons_zero, List.getElem?_cons_succ]; rfl)
    case hQst115 => exact fun _ _ _ h => h
    case hyst115 => (refine Or.inl ⟨by rfl, ?_⟩; intro w hSw; (try dsimp only at hSw); go_simp; (try with_reducible rfl))
    try simp only [Act.put, List.setIfInBounds_toArray, List.set_cons_zero, List.set_cons_succ]
    refine wpAnyH_take (i := 16) (oi := ?oist116) (v := undef) ?hist116 (by kernel_rfl) (by kernel_rfl) (by kernel_rfl) ?hQst116 ?hyst116 (by assumption) ?rsst116
    case hist116 => (simp only [List.getElem?_toArray, List.getElem?_cons_zero, List.getElem?_cons_succ]; rfl)
    case hQst116 => exact fun _ _ _ h => h
    case hyst116 => exact Or.inr ⟨by rfl, rfl⟩
    try simp only [Act.put, List.setIfInBounds_toArray, List.set_cons_zero, List.set_cons_succ]
    refine wpAnyH_take (i := 17) (oi := ?oist117) (v := undef) ?hist117 (by kernel_rfl) (by kernel_rfl) (by kernel_rfl) ?hQst117 ?hyst117 (by assumption) ?rsst117
    case hist117 => (simp only [List.getElem?_toArray, List.getElem?_cons_zero, List.getElem?_cons_succ]; rfl)
    case hQst117 => exact fun _ _ _ h => h
    case hyst117 => exact Or.inr ⟨by rfl, rfl⟩
    try simp only [Act.put, List.setIfInBounds_toArray, List.set_cons_zero, List.set_cons_succ]
    refine wpAnyH_take (i := 18) (oi := ?oist118) (v := undef) ?hist118 (by kernel_rfl) (by kernel_rfl) (by kernel_rfl) ?hQst118 ?hyst118 (by assumption) ?rsst118
    case hist118 => (simp only [List.getElem?_toArray, List.getElem?_cons_zero, List.getElem?_cons_succ]; rfl)
    case hQst118 => exact fun _ _ _ h => h
    case hyst118 => exact Or.inr ⟨by rfl, rfl⟩
    try simp only [Act.put, List.setIfInBounds_toArray, List.set_cons_zero, List.set_cons_succ]
    refine wpAnyH_take (i := 19) (oi := ?oist119) (v := undef) ?hist119 (by kernel_rfl) (by kernel_rfl) (by kernel_rfl) ?hQst119 ?hyst119 (by assumption) ?rsst119
    case hist119 => (simp only [List.getElem?_toArray, List.getElem?_cons_zero, List.getElem?_cons_succ]; rfl)
    case hQst119 => exact fun _ _ _ h => h
    case hyst119 => exact Or.inr ⟨by rfl, rfl⟩
    try simp only [Act.put, List.setIfInBounds_toArray, List.set_cons_zero, List.set_cons_succ]
    refine wpAnyH_take (i := 20) (oi := ?oist120) (v := ?vst120) ?hist120 (by kernel_rfl) (by kernel_rfl) (by kernel_rfl) ?hQst120 ?hyst120 (by assumption) ?rsst120
    case hist120 => (simp only [List.getElem?_toArray, List.getElem?_cons_zero, List.getElem?_cons_succ]; rfl)
    case hQst120 => exact fun _ _ _ h => h
    case hyst120 => (refine Or.inl ⟨by rfl, ?_⟩; intro w hSw; (try dsimp only at hSw); go_simp; (try with_reducible rfl))
    try simp only [Act.put, List.setIfInBounds_toArray, List.set_cons_zero, List.set_cons_succ]
    refine wpAnyH_take (i := 21) (oi := ?oist121) (v := ?vst121) ?hist121 (by kernel_rfl) (by kernel_rfl) (by kernel_rfl) ?hQst121 ?hyst121 (by assumption) ?rsst121
    case hist121 => (simp only [List.getElem?_toArray, List.getElem?_cons_zero, List.getElem?_cons_succ]; rfl)
    case hQst121 => exact fun _ _ _ h => h
    case hyst121 => (refine Or.inl ⟨by rfl, ?_⟩; intro w hSw; (try dsimp only at hSw); go_simp; (try with_reducible rfl))
    try simp only [Act.put, List.setIfInBounds_toArray, List.set_cons_zero, List.set_cons_succ]
    refine wpAnyH_take (i := 22) (oi := ?oist122) (v := ?vst122) ?hist122 (by kernel_rfl) (by kernel_rfl) (by kernel_rfl) ?hQst122 ?hyst122 (by assumption) ?rsst122
    case hist122 => (simp only [List.getElem?_toArray, List.getElem?_cons_zero, List.getElem?_cons_succ]; rfl)
    case hQst122 => exact fun _ _ _ h => h
    case hyst122 => (refine Or.inl ⟨by rfl, ?_⟩; intro w hSw; (try dsimp only at hSw); go_simp; (try with_reducible rfl))
    try simp only [Act.put, List.setIfInBounds_toArray, List.set_cons_zero, List.set_cons_succ]
    refine wpAnyH_ready (rs := [23]) (by kernel_rfl) (by simp) ?_
    refine AllReadyH.cons (by simp only [List.getElem?_toArray, List.getElem?_cons_zero, List.getElem?_cons_succ]; rfl) (fun K hK => ?_) AllReadyH.nil
    go_simp
    (go_at_call 14; refine (HSu.out _ (by first | exact H21.out.2.2.1 | exact H21.out.2.2.1.drew | exact H21.out.2.2.1.drewN _ | fail)).mono ?_; rintro en w22 ⟨rfl, hx⟩; have hx1 : Ext w21 w22 := (by first | exact hx | exact (Ext.of_drew hx) | exact (Ext.of_drewN hx) | fail); have H22 : Hid (Bx w22 35 gx n1 (.slice p1 l1 c1) E1 ∧ Bx w22 35 gy n4 (.slice p4 l4 c4) E4 ∧ Ext w w22 ∧ Ext w15 w22) := ⟨H21.out.1.ext hx1, H21.out.2.1.ext hx1, H21.out.2.2.1.trans hx1, H21.out.2.2.2.trans hx1⟩; clear hx hx1; have g22_0 := H22.out.1.c0; have g22_1 := H22.out.1.c1; have g22_2 := H22.out.1.c2; have g22_3 := H22.out.2.1.c0; have g22_4 := H22.out.2.1.c1; have g22_5 := H22.out.2.1.c2)
    go_wp2_with (fail)
    refine hK.out _ _ ?_ (fun hHeld => ?_)
    · (first | go_keep | (exact ⟨H22.out.1.c0, H22.out.1.c1, H22.out.1.c2, H22.out.2.1.c0, H22.out.2.1.c1, H22.out.2.1.c2⟩) | (exact ⟨H21.out.1.c0, H21.out.1.c1, H21.out.1.c2, H21.out.2.1.c0, H21.out.2.1.c1, H21.out.2.1.c2⟩) | (exact ⟨H20.out.1.c0, H20.out.1.c1, H20.out.1.c2, H20.out.2.1.c0, H20.out.2.1.c1, H20.out.2.1.c2⟩) | (exact ⟨H19.out.1.c0, H19.out.1.c1, H19.out.1.c2, H19.out.2.1.c0, H19.out.2.1.c1, H19.out.2.1.c2⟩) | (exact ⟨H18.out.1.c0, H18.out.1.c1, H18.out.1.c2, H18.out.2.1.c0, H18.out.2.1.c1, H18.out.2.1.c2⟩) | fail)
    clear hK K
    try simp only [Act.put, List.setIfInBounds_toArray, List.set_cons_zero, List.set_cons_succ]
    refine wpAnyH_take (i := 24) (oi := ?oist124) (v := ?vst124) ?hist124 (by kernel_rfl) (by kernel_rfl) (by kernel_rfl) ?hQst124 ?hyst124 (by assumption) ?rsst124
    case hist124 => (simp only [List.getElem?_toArray, List.getElem?_cons_zero, List.getElem?_cons_succ]; rfl)
    case hQst124 => exact fun _ _ _ h => h
    case hyst124 => (refine Or.inl ⟨by rfl, ?_⟩; intro w hSw; (try dsimp only at hSw); go_simp; (try with_reducible rfl))
    try simp only [Act.put, List.setIfInBounds_toArray, List.set_cons_zero, List.set_cons_succ]
    refine wpAnyH_take (i := 25) (oi := ?oist125) (v := ?vst125) ?hist125 (by kernel_rfl) (by kernel_rfl) (by kernel_rfl) ?hQst125 ?hyst125 (by assumption) ?rsst125
    case hist125 => (simp only [List.getElem?_toArray, List.getElem?_cons_zero, List.getElem?_cons_succ]; rfl)
    case hQst125 => exact fun _ _ _ h => h
    case hyst125 => (refine Or.inl ⟨by rfl, ?_⟩; intro w hSw; (try dsimp only at hSw); go_simp; (try with_reducible rfl))
    try simp only [Act.put, List.setIfInBounds_toArray, List.set_cons_zero, List.set_cons_succ]
    refine wpAnyH_done (by kernel_rfl) ?_ _
    go_wp2_with (fail)
    go_ret
    exact ⟨rfl, H22.out.2.2.1⟩
  · skip
    have z5 := z4.out hq
    replace hq := Lib.hid hq
    rw [show decide (mag q = INF) = false by simp; omega] at HIq
    clear q1
    go_wp2_with (fail)
    go_region_held3 (fun w' => w'.cell? ⟨gx, 0, none⟩ = some (.bool n1) ∧ w'.cell? ⟨gx, 1, none⟩ = some (.slice p1 l1 c1) ∧ w'.cell? ⟨gx, 2, none⟩ = some (.int .i64 E1) ∧ w'.cell? ⟨gy, 0, none⟩ = some (.bool n4) ∧ w'.cell? ⟨gy, 1, none⟩ = some (.slice p4 l4 c4) ∧ w'.cell? ⟨gy, 2, none⟩ = some (.int .i64 E4)) (first | go_keep | (exact ⟨H22.out.1.c0, H22.out.1.c1, H22.out.1.c2, H22.out.2.1.c0, H22.out.2.1.c1, H22.out.2.1.c2⟩) | (exact ⟨H21.out.1.c0, H21.out.1.c1, H21.out.1.c2, H21.out.2.1.c0, H21.out.2.1.c1, H21.out.2.1.c2⟩) | (exact ⟨H20.out.1.c0, H20.out.1.c1, H20.out.1.c2, H20.out.2.1.c0, H20.out.2.1.c1, H20.out.2.1.c2⟩) | (exact ⟨H19.out.1.c0, H19.out.1.c1, H19.out.1.c2, H19.out.2.1.c0, H19.out.2.1.c1, H19.out.2.1.c2⟩) | (exact ⟨H18.out.1.c0, H18.out.1.c1, H18.out.1.c2, H18.out.2.1.c0, H18.out.2.1.c1, H18.out.2.1.c2⟩) | fail) (first | (go_at_call_of 38 (Value.float .f64 q); refine (HIq.out _).mono ?_; rintro en wq ⟨rfl, rfl⟩) | (go_at_call_of 30 (Value.float .f64 q); refine (HKq.out _).mono ?_; rintro en w19 ⟨v19, rfl, hx, hd⟩; have HV19 := Lib.hid hd; clear hd; have hx1 : Ext w18 w19 := (by first | exact hx | exact (Ext.of_drew hx) | exact (Ext.of_drewN hx) | fail); have H19 : Hid (Bx w19 35 gx n1 (.slice p1 l1 c1) E1 ∧ Bx w19 35 gy n4 (.slice p4 l4 c4) E4 ∧ Ext w w19 ∧ Ext w15 w19) := ⟨H18.out.1.ext hx1, H18.out.2.1.ext hx1, H18.out.2.2.1.trans hx1, H18.out.2.2.2.trans hx1⟩; clear hx hx1; have g19_0 := H19.out.1.c0; have g19_1 := H19.out.1.c1; have g19_2 := H19.out.1.c2; have g19_3 := H19.out.2.1.c0; have g19_4 := H19.out.2.1.c1; have g19_5 := H19.out.2.1.c2) | (go_at_call_of 33 v19; refine (HP4.out hq.out _ v19 (by first | exact H19.out.2.2.2 | exact H19.out.2.2.2.drew | exact H19.out.2.2.2.drewN _ | fail) (by first | exact HV19.out | exact HV19.out.ext ((Ext.refl _).drewN _) | exact HV19.out.ext (Ext.refl _).drew | fail)).mono ?_; rintro en w20 ⟨v20, rfl, hx, hd⟩; have HV20 := Lib.hid hd; clear hd; have hx1 : Ext w19 w20 := (by first | exact hx | exact (Ext.of_drew hx) | exact (Ext.of_drewN hx) | fail); have H20 : Hid (Bx w20 35 gx n1 (.slice p1 l1 c1) E1 ∧ Bx w20 35 gy n4 (.slice p4 l4 c4) E4 ∧ Ext w w20 ∧ Ext w15 w20) := ⟨H19.out.1.ext hx1, H19.out.2.1.ext hx1, H19.out.2.2.1.trans hx1, H19.out.2.2.2.trans hx1⟩; clear hx hx1; have g20_0 := H20.out.1.c0; have g20_1 := H20.out.1.c1; have g20_2 := H20.out.1.c2; have g20_3 := H20.out.2.1.c0; have g20_4 := H20.out.2.1.c1; have g20_5 := H20.out.2.1.c2) | (go_at_call_of 36 v20; refine (HQ4.out hq.out _ v20 (by first | exact H20.out.2.2.2 | exact H20.out.2.2.2.drew | exact H20.out.2.2.2.drewN _ | fail) (by first | exact HV20.out | exact HV20.out.ext ((Ext.refl _).drewN _) | exact HV20.out.ext (Ext.refl _).drew | fail)).mono ?_; rintro en w21 ⟨rfl, hx⟩; have hx1 : Ext w20 w21 := (by first | exact hx | exact (Ext.of_drew hx) | exact (Ext.of_drewN hx) | fail); have H21 : Hid (Bx w21 35 gx n1 (.slice p1 l1 c1) E1 ∧ Bx w21 35 gy n4 (.slice p4 l4 c4) E4 ∧ Ext w w21 ∧ Ext w15 w21) := ⟨H20.out.1.ext hx1, H20.out.2.1.ext hx1, H20.out.2.2.1.trans hx1, H20.out.2.2.2.trans hx1⟩; clear hx hx1; have g21_0 := H21.out.1.c0; have g21_1 := H21.out.1.c1; have g21_2 := H21.out.1.c2; have g21_3 := H21.out.2.1.c0; have g21_4 := H21.out.2.1.c1; have g21_5 := H21.out.2.1.c2) | (go_at_call_of 35 (Value.float .f64 p); refine (HNp.out _).mono ?_; rintro en wq ⟨rfl, rfl⟩) | (go_at_call 14; refine (HSu.out _ (by first | exact H21.out.2.2.1 | exact H21.out.2.2.1.drew | exact H21.out.2.2.1.drewN _ | fail)).mono ?_; rintro en w22 ⟨rfl, hx⟩; have hx1 : Ext w21 w22 := (by first | exact hx | exact (Ext.of_drew hx) | exact (Ext.of_drewN hx) | fail); have H22 : Hid (Bx w22 35 gx n1 (.slice p1 l1 c1) E1 ∧ Bx w22 35 gy n4 (.slice p4 l4 c4) E4 ∧ Ext w w22 ∧ Ext w15 w22) := ⟨H21.out.1.ext hx1, H21.out.2.1.ext hx1, H21.out.2.2.1.trans hx1, H21.out.2.2.2.trans hx1⟩; clear hx hx1; have g22_0 := H22.out.1.c0; have g22_1 := H22.out.1.c1; have g22_2 := H22.out.1.c2; have g22_3 := H22.out.2.1.c0; have g22_4 := H22.out.2.1.c1; have g22_5 := H22.out.2.1.c2))
    go_wp2_with (fail)
    go_ret
    exact ⟨rfl, H22.out.2.2.1⟩
end Go.Proofs.YtdpjkddllimcoaaGreatDoor
end
