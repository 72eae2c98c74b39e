/- A part of the proof (1 of 3) of this: RoundHolds: for every two floats the sums and products of finite floats lie between Down and Up, which are the same or neighbours, and what is turned in sign is turned: the law returns true; condition: the table of package math/bits reads as its text lays it. -/
import Derived.Test.YtdpjkddllimcoaaGreatDoorVsg

section
/- Rounded products of every two floats. -/
namespace Fl
/-- a product, rounded, of every two floats. -/
noncomputable def tMul (a b : Nat) (mode : Int) : Nat :=
  if mode = 1 ∨ mode = 2 ∨ mode = 3 then
    if nan a = true ∨ nan b = true then 9221120237041090560
    else if mag a = INF ∨ mag b = INF then (if mag a = 0 ∨ mag b = 0 then 9221120237041090560 else word (neg a != neg b) INF)
    else if mag a = 0 ∨ mag b = 0 then word (neg a != neg b) 0 else rPro a b mode
  else 9221120237041090560
theorem val_zero_iff {a : Nat} : val a = 0 ↔ mag a = 0 := by
  have h := val_natAbs a
  constructor
  · intro h0
    rw [h0] at h
    exact V_inj (by rw [← h]; exact V_zero.symm)
  · intro h0
    rw [h0, V_zero] at h
    omega
theorem val_mul_zero {a b : Nat} : val a * val b = 0 ↔ (mag a = 0 ∨ mag b = 0) := by rw [Int.mul_eq_zero, val_zero_iff, val_zero_iff]
theorem word_INF_lt (n : Bool) : word n INF < 18446744073709551616 := word_lt (by decide)
theorem word_0_lt (n : Bool) : word n 0 < 18446744073709551616 := word_lt (by decide)
theorem rnd_S (c : Nat → Ordering) (d : Nat) : rnd c d < S := by have := @rnd_le c d; unfold INF at this; unfold S; omega
theorem pro_lt (a b : Nat) (mode : Int) : rPro a b mode < 18446744073709551616 := word_lt (rnd_S _ _)
theorem tMul_lt (a b : Nat) (mode : Int) : tMul a b mode < 18446744073709551616 := by
  unfold tMul
  split
  · split
    · decide
    · split
      · split
        · decide
        · exact word_INF_lt _
      · split
        · exact word_0_lt _
        · exact pro_lt a b mode
  · decide
end Fl
namespace Go.Proofs.YtdpjkddllimcoaaGreatDoor
open Go.RowKit Fl
set_option maxRecDepth 20000 in
set_option maxHeartbeats 1000000 in
theorem t_Mul (a b : Nat) (mode : Int) (w : World) (ha : a < 18446744073709551616) (hb : b < 18446744073709551616) :
    Calls Tryz.prog 22 #[.float .f64 a, .float .f64 b, .int .i64 mode] w fun en wn => en = .returned (.float .f64 (tMul a b mode)) ∧ Ext w wn := by
  have HV : Hid (∀ w', Calls Tryz.prog 20 #[.int .i64 mode] w' fun en wn => en = .returned (.int .i64 (if mode = 1 ∨ mode = 2 ∨ mode = 3 then 0 else 1)) ∧ w' = wn) := fun w' => t_valid mode w'
  have HNa : Hid (∀ w', Calls Tryz.prog 37 #[.float .f64 a] w' fun en wn => en = .returned (.bool (nan a)) ∧ w' = wn) := fun w' => c_isNaN a ha w'
  have HNb : Hid (∀ w', Calls Tryz.prog 37 #[.float .f64 b] w' fun en wn => en = .returned (.bool (nan b)) ∧ w' = wn) := fun w' => c_isNaN b hb w'
  have HIa : Hid (∀ w', Calls Tryz.prog 38 #[.float .f64 a] w' fun en wn => en = .returned (.bool (decide (mag a = INF))) ∧ w' = wn) := fun w' => c_isInf a ha w'
  have HIb : Hid (∀ w', Calls Tryz.prog 38 #[.float .f64 b] w' fun en wn => en = .returned (.bool (decide (mag b = INF))) ∧ w' = wn) := fun w' => c_isInf b hb w'
  have HGa : Hid (∀ w', Calls Tryz.prog 50 #[.float .f64 a] w' fun en wn => en = .returned (.bool (neg a)) ∧ w' = wn) := fun w' => c_neg a ha w'
  have HGb : Hid (∀ w', Calls Tryz.prog 50 #[.float .f64 b] w' fun en wn => en = .returned (.bool (neg b)) ∧ w' = wn) := fun w' => c_neg b hb w'
  have HZa : Hid (∀ w', Calls Tryz.prog 62 #[.float .f64 a] w' fun en wn => en = .returned (.bool (decide (mag a = 0))) ∧ w' = wn) := fun w' => c_isZero a ha w'
  have HZb : Hid (∀ w', Calls Tryz.prog 62 #[.float .f64 b] w' fun en wn => en = .returned (.bool (decide (mag b = 0))) ∧ w' = wn) := fun w' => c_isZero b hb w'
  have HE : Hid (∀ w', Calls Tryz.prog 68 #[.bool (neg a != neg b)] w' fun en wn => en = .returned (.float .f64 (word (neg a != neg b) INF)) ∧ w' = wn) := fun w' => c_endless (neg a != neg b) w'
  have HO : Hid (∀ w', Calls Tryz.prog 49 #[.bool (neg a != neg b)] w' fun en wn => en = .returned (.float .f64 (word (neg a != neg b) 0)) ∧ w' = wn) := fun w' => c_nought (neg a != neg b) w'
  have HFa : Hid (∀ w', Calls Tryz.prog 30 #[.float .f64 a] w' fun en w'' => ∃ v, en = .returned v ∧ Ext w' w'' ∧ Ry w'' v (val a) (-1074)) := fun w' => k_Float a ha w'
  have HFb : Hid (∀ w', Calls Tryz.prog 30 #[.float .f64 b] w' fun en w'' => ∃ v, en = .returned v ∧ Ext w' w'' ∧ Ry w'' v (val b) (-1074)) := fun w' => k_Float b hb w'
  unfold tMul
  by_cases hm : mode = 1 ∨ mode = 2 ∨ mode = 3
  · rw [if_pos hm] at HV
    rw [if_pos hm]
    by_cases hn : nan a = true ∨ nan b = true
    · rw [if_pos hn]
      by_cases h1 : nan a = true
      · rw [h1] at HNa
        generalize neg a = na at *
        generalize neg b = nb at *
        clear hm hn h1 HNb HIa HIb HZa HZb HE HO HFa HFb ha hb
        go_enter Tryz.func22, Tryz.ntmps22
        go_wp2_with (fail)
        refine (HGa.out _).mono ?_
        rintro en wn ⟨rfl, rfl⟩
        go_wp2_with (fail)
        refine (HGb.out _).mono ?_
        rintro en wn ⟨rfl, rfl⟩
        go_wp2_with (fail)
        refine (HV.out _).mono ?_
        rintro en wn ⟨rfl, rfl⟩
        go_wp2_with (fail)
        refine (HNa.out _).mono ?_
        rintro en wn ⟨rfl, rfl⟩
        go_wp2_with (fail)
        refine (c_not _).mono ?_
        rintro en wn ⟨rfl, rfl⟩
        go_wp2_with (fail)
        go_ret
        exact ⟨rfl, Ext.refl _⟩
      · have h2 : nan b = true := hn.resolve_left h1
        rw [Bool.not_eq_true] at h1
        rw [h1] at HNa
        rw [h2] at HNb
        generalize neg a = na at *
        generalize neg b = nb at *
        clear hm hn h1 h2 HIa HIb HZa HZb HE HO HFa HFb ha hb
        go_enter Tryz.func22, Tryz.ntmps22
        go_wp2_with (fail)
        refine (HGa.out _).mono ?_
        rintro en wn ⟨rfl, rfl⟩
        go_wp2_with (fail)
        refine (HGb.out _).mono ?_
        rintro en wn ⟨rfl, rfl⟩
        go_wp2_with (fail)
        refine (HV.out _).mono ?_
        rintro en wn ⟨rfl, rfl⟩
        go_wp2_with (fail)
        refine (HNa.out _).mono ?_
        rintro en wn ⟨rfl, rfl⟩
        go_wp2_with (fail)
        refine (HNb.out _).mono ?_
        rintro en wn ⟨rfl, rfl⟩
        go_wp2_with (fail)
        refine (c_not _).mono ?_
        rintro en wn ⟨rfl, rfl⟩
        go_wp2_with (fail)
        go_ret
        exact ⟨rfl, Ext.refl _⟩
    · rw [if_neg hn]
      have h1 : nan a = false := by rw [← Bool.not_eq_true]; exact fun h => hn (.inl h)
      have h2 : nan b = false := by rw [← Bool.not_eq_true]; exact fun h => hn (.inr h)
      rw [h1] at HNa
      rw [h2] at HNb
      have fa1 := nnan_le h1
      have fb1 := nnan_le h2
      by_cases hi : mag a = INF ∨ mag b = INF
      · rw [if_pos hi]
        obtain ⟨iA, hiA⟩ : ∃ iA, decide (mag a = INF) = iA := ⟨_, rfl⟩
        obtain ⟨iB, hiB⟩ : ∃ iB, decide (mag b = INF) = iB := ⟨_, rfl⟩
        obtain ⟨zA, hzA⟩ : ∃ zA, decide (mag a = 0) = zA := ⟨_, rfl⟩
        obtain ⟨zB, hzB⟩ : ∃ zB, decide (mag b = 0) = zB := ⟨_, rfl⟩
        have hi2 : iA = true ∨ (iA = false ∧ iB = true) := by
          rcases hi with h | h
          · left; rw [← hiA]; simp [h]
          · by_cases h' : mag a = INF
            · left; rw [← hiA]; simp [h']
            · right; rw [← hiA, ← hiB]; simp [h, h']
        rw [hiA] at HIa
        rw [hiB] at HIb
        rw [hzA] at HZa
        rw [hzB] at HZb
        have hz2 : (zA = true ∧ (mag a = 0 ∨ mag b = 0)) ∨ (zA = false ∧ zB = true ∧ (mag a = 0 ∨ mag b = 0)) ∨ (zA = false ∧ zB = false ∧ ¬ (mag a = 0 ∨ mag b = 0)) := by
          rw [← hzA, ← hzB]
          by_cases z1 : mag a = 0
          · left; exact ⟨by simp [z1], .inl z1⟩
          · by_cases z2 : mag b = 0
            · right; left; exact ⟨by simp [z1], by simp [z2], .inr z2⟩
            · right; right; exact ⟨by simp [z1], by simp [z2], by simp [z1, z2]⟩
        clear hiA hiB hzA hzB hm hn h1 h2 HFa HFb fa1 fb1 hi ha hb HO
        generalize hnn : (neg a != neg b) = nn at *
        have t0 : (!(neg a == neg b)) = nn := hnn
        clear hnn
        generalize neg a = na at *
        generalize neg b = nb at *
        rcases hi2 with rfl | ⟨rfl, rfl⟩
        · rcases hz2 with ⟨rfl, hz⟩ | ⟨rfl, rfl, hz⟩ | ⟨rfl, rfl, hz⟩
          · rw [if_pos hz]
            clear hz
            go_enter Tryz.func22, Tryz.ntmps22
            go_wp2_with (fail)
            refine (HGa.out _).mono ?_
            rintro en wn ⟨rfl, rfl⟩
            go_wp2_with (fail)
            refine (HGb.out _).mono ?_
            rintro en wn ⟨rfl, rfl⟩
            go_wp2_with (fail)
            refine (HV.out _).mono ?_
            rintro en wn ⟨rfl, rfl⟩
            go_wp2_with (fail)
            refine (HNa.out _).mono ?_
            rintro en wn ⟨rfl, rfl⟩
            go_wp2_with (fail)
            refine (HNb.out _).mono ?_
            rintro en wn ⟨rfl, rfl⟩
            go_wp2_with (fail)
            refine (HIa.out _).mono ?_
            rintro en wn ⟨rfl, rfl⟩
            go_wp2_with (fail)
            refine (HZa.out _).mono ?_
            rintro en wn ⟨rfl, rfl⟩
            go_wp2_with (fail)
            refine (c_not _).mono ?_
            rintro en wn ⟨rfl, rfl⟩
            go_wp2_with (fail)
            go_ret
            exact ⟨rfl, Ext.refl _⟩
          · rw [if_pos hz]
            clear hz
            go_enter Tryz.func22, Tryz.ntmps22
            go_wp2_with (fail)
            refine (HGa.out _).mono ?_
            rintro en wn ⟨rfl, rfl⟩
            go_wp2_with (fail)
            refine (HGb.out _).mono ?_
            rintro en wn ⟨rfl, rfl⟩
            go_wp2_with (fail)
            refine (HV.out _).mono ?_
            rintro en wn ⟨rfl, rfl⟩
            go_wp2_with (fail)
            refine (HNa.out _).mono ?_
            rintro en wn ⟨rfl, rfl⟩
            go_wp2_with (fail)
            refine (HNb.out _).mono ?_
            rintro en wn ⟨rfl, rfl⟩
            go_wp2_with (fail)
            refine (HIa.out _).mono ?_
            rintro en wn ⟨rfl, rfl⟩
            go_wp2_with (fail)
            refine (HZa.out _).mono ?_
            rintro en wn ⟨rfl, rfl⟩
            go_wp2_with (fail)
            refine (HZb.out _).mono ?_
            rintro en wn ⟨rfl, rfl⟩
            go_wp2_with (fail)
            refine (c_not _).mono ?_
            rintro en wn ⟨rfl, rfl⟩
            go_wp2_with (fail)
            go_ret
            exact ⟨rfl, Ext.refl _⟩
          · rw [if_neg hz]
            clear hz
            go_enter Tryz.func22, Tryz.ntmps22
            go_wp2_with (fail)
            refine (HGa.out _).mono ?_
            rintro en wn ⟨rfl, rfl⟩
            go_wp2_with (fail)
            refine (HGb.out _).mono ?_
            rintro en wn ⟨rfl, rfl⟩
            go_wp2_with (fail)
            refine (HV.out _).mono ?_
            rintro en wn ⟨rfl, rfl⟩
            go_wp2_with (fail)
            refine (HNa.out _).mono ?_
            rintro en wn ⟨rfl, rfl⟩
            go_wp2_with (fail)
            refine (HNb.out _).mono ?_
            rintro en wn ⟨rfl, rfl⟩
            go_wp2_with (fail)
            refine (HIa.out _).mono ?_
            rintro en wn ⟨rfl, rfl⟩
            go_wp2_with (fail)
            refine (HZa.out _).mono ?_
            rintro en wn ⟨rfl, rfl⟩
            go_wp2_with (fail)
            refine (HZb.out _).mono ?_
            rintro en wn ⟨rfl, rfl⟩
            go_wp2_with (fail)
            refine (HE.out _).mono ?_
            rintro en wn ⟨rfl, rfl⟩
            go_wp2_with (fail)
            go_ret
            exact ⟨rfl, Ext.refl _⟩
        · rcases hz2 with ⟨rfl, hz⟩ | ⟨rfl, rfl, hz⟩ | ⟨rfl, rfl, hz⟩
          · rw [if_pos hz]
            clear hz
            go_enter Tryz.func22, Tryz.ntmps22
            go_wp2_with (fail)
            refine (HGa.out _).mono ?_
            rintro en wn ⟨rfl, rfl⟩
            go_wp2_with (fail)
            refine (HGb.out _).mono ?_
            rintro en wn ⟨rfl, rfl⟩
            go_wp2_with (fail)
            refine (HV.out _).mono ?_
            rintro en wn ⟨rfl, rfl⟩
            go_wp2_with (fail)
            refine (HNa.out _).mono ?_
            rintro en wn ⟨rfl, rfl⟩
            go_wp2_with (fail)
            refine (HNb.out _).mono ?_
            rintro en wn ⟨rfl, rfl⟩
            go_wp2_with (fail)
            refine (HIa.out _).mono ?_
            rintro en wn ⟨rfl, rfl⟩
            go_wp2_with (fail)
            refine (HIb.out _).mono ?_
            rintro en wn ⟨rfl, rfl⟩
            go_wp2_with (fail)
            refine (HZa.out _).mono ?_
            rintro en wn ⟨rfl, rfl⟩
            go_wp2_with (fail)
            refine (c_not _).mono ?_
            rintro en wn ⟨rfl, rfl⟩
            go_wp2_with (fail)
            go_ret
            exact ⟨rfl, Ext.refl _⟩
          · rw [if_pos hz]
            clear hz
            go_enter Tryz.func22, Tryz.ntmps22
            go_wp2_with (fail)
            refine (HGa.out _).mono ?_
            rintro en wn ⟨rfl, rfl⟩
            go_wp2_with (fail)
            refine (HGb.out _).mono ?_
            rintro en wn ⟨rfl, rfl⟩
            go_wp2_with (fail)
            refine (HV.out _).mono ?_
            rintro en wn ⟨rfl, rfl⟩
            go_wp2_with (fail)
            refine (HNa.out _).mono ?_
            rintro en wn ⟨rfl, rfl⟩
            go_wp2_with (fail)
            refine (HNb.out _).mono ?_
            rintro en wn ⟨rfl, rfl⟩
            go_wp2_with (fail)
            refine (HIa.out _).mono ?_
            rintro en wn ⟨rfl, rfl⟩
            go_wp2_with (fail)
            refine (HIb.out _).mono ?_
            rintro en wn ⟨rfl, rfl⟩
            go_wp2_with (fail)
            refine (HZa.out _).mono ?_
            rintro en wn ⟨rfl, rfl⟩
            go_wp2_with (fail)
            refine (HZb.out _).mono ?_
            rintro en wn ⟨rfl, rfl⟩
            go_wp2_with (fail)
            refine (c_not _).mono ?_
            rintro en wn ⟨rfl, rfl⟩
            go_wp2_with (fail)
            go_ret
            exact ⟨rfl, Ext.refl _⟩
          · rw [if_neg hz]
            clear hz
            go_enter Tryz.func22, Tryz.ntmps22
            go_wp2_with (fail)
            refine (HGa.out _).mono ?_
            rintro en wn ⟨rfl, rfl⟩
            go_wp2_with (fail)
            refine (HGb.out _).mono ?_
            rintro en wn ⟨rfl, rfl⟩
            go_wp2_with (fail)
            refine (HV.out _).mono ?_
            rintro en wn ⟨rfl, rfl⟩
            go_wp2_with (fail)
            refine (HNa.out _).mono ?_
            rintro en wn ⟨rfl, rfl⟩
            go_wp2_with (fail)
            refine (HNb.out _).mono ?_
            rintro en wn ⟨rfl, rfl⟩
            go_wp2_with (fail)
            refine (HIa.out _).mono ?_
            rintro en wn ⟨rfl, rfl⟩
            go_wp2_with (fail)
            refine (HIb.out _).mono ?_
            rintro en wn ⟨rfl, rfl⟩
            go_wp2_with (fail)
            refine (HZa.out _).mono ?_
            rintro en wn ⟨rfl, rfl⟩
            go_wp2_with (fail)
            refine (HZb.out _).mono ?_
            rintro en wn ⟨rfl, rfl⟩
            go_wp2_with (fail)
            refine (HE.out _).mono ?_
            rintro en wn ⟨rfl, rfl⟩
            go_wp2_with (fail)
            go_ret
            exact ⟨rfl, Ext.refl _⟩
      · rw [if_neg hi]
        rw [show decide (mag a = INF) = false by simp; exact fun h => hi (.inl h)] at HIa
        rw [show decide (mag b = INF) = false by simp; exact fun h => hi (.inr h)] at HIb
        have fa : mag a < INF := by have : mag a ≠ INF := fun h => hi (.inl h); omega
        have fb : mag b < INF := by have : mag b ≠ INF := fun h => hi (.inr h); omega
        have HT : Hid (∀ w' u v, Ry w' u (val a) (-1074) → Ry w' v (val b) (-1074) → Calls Tryz.prog 33 #[u, v] w' fun en w'' => ∃ v, en = .returned v ∧ Ext w' w'' ∧ Ry w'' v (val a * val b) (-1074 + -1074)) := fun w' u v g1 g2 => k_Times u v _ _ (-1074) (-1074) 2100 w' g1 g2 (val_bits fa) (val_bits fb) (by decide) (by decide) (by decide)
        have HR : Hid (∀ w' v, Ry w' v (val a * val b) (-1074 + -1074) → Calls Tryz.prog 48 #[v, .int .i64 mode, .float .f64 (word (neg a != neg b) 0)] w' fun en w'' => en = .returned (.float .f64 (if mag a = 0 ∨ mag b = 0 then word (neg a != neg b) 0 else rPro a b mode)) ∧ Ext w' w'') := by
          intro w' v g
          have h := t_R v (val a * val b) (-1074 + -1074) mode (word (neg a != neg b) 0) (2100 + 2100) w' g (natAbs_mul_lt (val_bits fa) (val_bits fb)) (by decide) (by decide) hm
          have e : (if val a * val b = 0 then word (neg a != neg b) 0 else word (decide (val a * val b < 0)) (rnd (cD (val a * val b).natAbs (-1074 + -1074)) (aim (decide (val a * val b < 0)) mode))) = (if mag a = 0 ∨ mag b = 0 then word (neg a != neg b) 0 else rPro a b mode) := by
            by_cases h0 : mag a = 0 ∨ mag b = 0
            · rw [if_pos h0, if_pos (val_mul_zero.2 h0)]
            · rw [if_neg h0, if_neg (fun h => h0 (val_mul_zero.1 h))]; rfl
          rw [e] at h
          exact h
        generalize (if mag a = 0 ∨ mag b = 0 then word (neg a != neg b) 0 else rPro a b mode) = R at *
        generalize word (neg a != neg b) 0 = Z at *
        generalize hnn : (neg a != neg b) = nn at *
        have t0 : (!(neg a == neg b)) = nn := hnn
        clear hnn
        generalize neg a = na at *
        generalize neg b = nb at *
        generalize val a * val b = s at *
        clear hm hn h1 h2 hi ha hb fa fb fa1 fb1 HZa HZb HE
        go_enter Tryz.func22, Tryz.ntmps22
        go_wp2_with (fail)
        refine (HGa.out _).mono ?_
        rintro en wn ⟨rfl, rfl⟩
        go_wp2_with (fail)
        refine (HGb.out _).mono ?_
        rintro en wn ⟨rfl, rfl⟩
        go_wp2_with (fail)
        refine (HV.out _).mono ?_
        rintro en wn ⟨rfl, rfl⟩
        go_wp2_with (fail)
        refine (HNa.out _).mono ?_
        rintro en wn ⟨rfl, rfl⟩
        go_wp2_with (fail)
        refine (HNb.out _).mono ?_
        rintro en wn ⟨rfl, rfl⟩
        go_wp2_with (fail)
        refine (HIa.out _).mono ?_
        rintro en wn ⟨rfl, rfl⟩
        go_wp2_with (fail)
        refine (HIb.out _).mono ?_
        rintro en wn ⟨rfl, rfl⟩
        go_wp2_with (fail)
        refine (HFa.out _).mono ?_
        rintro en w1 ⟨v1, rfl, hx, hd⟩
        have H1 := Lib.hid (And.intro hx hd)
        clear hx hd
        go_wp2_with (fail)
        refine (HFb.out _).mono ?_
        rintro en w2 ⟨v2, rfl, hx, hd⟩
        have H2 := Lib.hid (And.intro (H1.out.1.trans hx) (And.intro (H1.out.2.ext hx) hd))
        clear hx hd
        go_wp2_with (fail)
        refine (HT.out _ v1 v2 H2.out.2.1 H2.out.2.2).mono ?_
        rintro en w3 ⟨v3, rfl, hx, hd⟩
        have H3 := Lib.hid (And.intro (H2.out.1.trans hx) hd)
        clear hx hd
        go_wp2_with (fail)
        refine (HO.out _).mono ?_
        rintro en wn ⟨rfl, rfl⟩
        go_wp2_with (fail)
        refine (HR.out _ v3 H3.out.2).mono ?_
        rintro en w4 ⟨rfl, hx⟩
        have H4 := Lib.hid (H3.out.1.trans hx)
        clear hx
        go_wp2_with (fail)
        go_ret
        exact ⟨rfl, H4.out⟩
  · rw [if_neg hm] at HV
    rw [if_neg hm]
    generalize neg a = na at *
    generalize neg b = nb at *
    clear hm HNa HNb HIa HIb HZa HZb HE HO HFa HFb ha hb
    go_enter Tryz.func22, Tryz.ntmps22
    go_wp2_with (fail)
    refine (HGa.out _).mono ?_
    rintro en wn ⟨rfl, rfl⟩
    go_wp2_with (fail)
    refine (HGb.out _).mono ?_
    rintro en wn ⟨rfl, rfl⟩
    go_wp2_with (fail)
    refine (HV.out _).mono ?_
    rintro en wn ⟨rfl, rfl⟩
    go_wp2_with (fail)
    refine (c_not _).mono ?_
    rintro en wn ⟨rfl, rfl⟩
    go_wp2_with (fail)
    go_ret
    exact ⟨rfl, Ext.refl _⟩
end Go.Proofs.YtdpjkddllimcoaaGreatDoor
end

section
/- Rounded products and quotients of every two floats: the program's. -/
namespace Fl
open Ieee Go
/-- a quotient, rounded, of every two floats. -/
noncomputable def tDiv (a b : Nat) (mode : Int) : Nat :=
  if mode = 1 ∨ mode = 2 ∨ mode = 3 then
    if nan a = true ∨ nan b = true ∨ (mag a = INF ∧ mag b = INF) ∨ (mag a = 0 ∧ mag b = 0) then 9221120237041090560
    else if mag a = INF ∨ mag b = 0 then word (neg a != neg b) INF
    else if mag a = 0 ∨ mag b = INF then word (neg a != neg b) 0 else rQuo a b mode
  else 9221120237041090560
theorem quo_lt (a b : Nat) (mode : Int) : rQuo a b mode < 18446744073709551616 := word_lt (rnd_S _ _)
theorem tDiv_lt (a b : Nat) (mode : Int) : tDiv a b mode < 18446744073709551616 := by
  unfold tDiv
  split
  · split
    · decide
    · split
      · exact word_INF_lt _
      · split
        · exact word_0_lt _
        · exact quo_lt a b mode
  · decide
/-- what a product at the ends is, and in which world it ends. -/
theorem mul_out {P : Program} (t : TypeId) {a b : Nat} {mode : Int} (w : World) (ha : a < 18446744073709551616) (hb : b < 18446744073709551616) (hm : mode = 1 ∨ mode = 2 ∨ mode = 3)
    (h : nan a = true ∨ nan b = true ∨ mag a = INF ∨ mag b = INF ∨ mag a = 0 ∨ mag b = 0) :
    ∃ R W2, (binOp .mul t (.float .f64 a) (.float .f64 b)).run P w = .ok (.float .f64 R) W2 ∧ Ext w W2 ∧ R < 18446744073709551616 ∧ sameF R (tMul a b mode) = true := by
  have hdraw : FloatKind.f64.format.mul a b = none → tMul a b mode = 9221120237041090560 → ∃ R W2, (binOp .mul t (.float .f64 a) (.float .f64 b)).run P w = .ok (.float .f64 R) W2 ∧ Ext w W2 ∧ R < 18446744073709551616 ∧ sameF R (tMul a b mode) = true := fun h1 h2 =>
    ⟨_, _, run_mul_nan t h1, (Ext.refl w).drew, (cutNan_nan w a b).2, by rw [h2]; exact sameF_nan (cutNan_nan w a b).1 nan_QN⟩
  have hval : ∀ r, FloatKind.f64.format.mul a b = some r → tMul a b mode = r → ∃ R W2, (binOp .mul t (.float .f64 a) (.float .f64 b)).run P w = .ok (.float .f64 R) W2 ∧ Ext w W2 ∧ R < 18446744073709551616 ∧ sameF R (tMul a b mode) = true := fun r h1 h2 =>
    ⟨_, _, run_mul_float t h1, Ext.refl w, by rw [← h2]; exact tMul_lt a b mode, by rw [h2]; exact sameF_self r⟩
  by_cases hn : nan a = true ∨ nan b = true
  · exact hdraw (mul_nan ha hb hn) (by unfold tMul; rw [if_pos hm, if_pos hn])
  · have h1 : nan a = false := by rw [← Bool.not_eq_true]; exact fun h => hn (.inl h)
    have h2 : nan b = false := by rw [← Bool.not_eq_true]; exact fun h => hn (.inr h)
    have la := nnan_le h1
    have lb := nnan_le h2
    have hI : INF ≠ 0 := by decide
    by_cases hi : mag a = INF ∨ mag b = INF
    · by_cases hz : mag a = 0 ∨ mag b = 0
      · refine hdraw (mul_inf_zero ha hb ?_) (by unfold tMul; rw [if_pos hm, if_neg hn, if_pos hi, if_pos hz])
        rcases hi with h3 | h3 <;> rcases hz with h4 | h4
        · omega
        · exact .inl ⟨h3, h4⟩
        · exact .inr ⟨h4, h3⟩
        · omega
      · refine hval _ (mul_inf ha hb ?_) (by unfold tMul; rw [if_pos hm, if_neg hn, if_pos hi, if_neg hz])
        rcases hi with h3 | h3
        · exact .inl ⟨h3, fun h4 => hz (.inr h4), lb⟩
        · exact .inr ⟨fun h4 => hz (.inl h4), la, h3⟩
    · have fa : mag a < INF := by have : mag a ≠ INF := fun h => hi (.inl h); omega
      have fb : mag b < INF := by have : mag b ≠ INF := fun h => hi (.inr h); omega
      have hz : mag a = 0 ∨ mag b = 0 := by
        rcases h with h | h | h | h | h
        · rw [h1] at h; cases h
        · rw [h2] at h; cases h
        · exact absurd (.inl h) hi
        · exact absurd (.inr h) hi
        · exact h
      exact hval _ (mul_zero ha hb fa fb hz) (by unfold tMul; rw [if_pos hm, if_neg hn, if_neg hi, if_pos hz])
theorem div_out {P : Program} (t : TypeId) {a b : Nat} {mode : Int} (w : World) (ha : a < 18446744073709551616) (hb : b < 18446744073709551616) (hm : mode = 1 ∨ mode = 2 ∨ mode = 3)
    (h : nan a = true ∨ nan b = true ∨ mag a = INF ∨ mag b = INF ∨ mag a = 0 ∨ mag b = 0) :
    ∃ R W2, (binOp .quo t (.float .f64 a) (.float .f64 b)).run P w = .ok (.float .f64 R) W2 ∧ Ext w W2 ∧ R < 18446744073709551616 ∧ sameF R (tDiv a b mode) = true := by
  have hdraw : FloatKind.f64.format.div a b = none → tDiv a b mode = 9221120237041090560 → ∃ R W2, (binOp .quo t (.float .f64 a) (.float .f64 b)).run P w = .ok (.float .f64 R) W2 ∧ Ext w W2 ∧ R < 18446744073709551616 ∧ sameF R (tDiv a b mode) = true := fun h1 h2 =>
    ⟨_, _, run_div_nan t h1, (Ext.refl w).drew, (cutNan_nan w a b).2, by rw [h2]; exact sameF_nan (cutNan_nan w a b).1 nan_QN⟩
  have hval : ∀ r, FloatKind.f64.format.div a b = some r → tDiv a b mode = r → ∃ R W2, (binOp .quo t (.float .f64 a) (.float .f64 b)).run P w = .ok (.float .f64 R) W2 ∧ Ext w W2 ∧ R < 18446744073709551616 ∧ sameF R (tDiv a b mode) = true := fun r h1 h2 =>
    ⟨_, _, run_div_float t h1, Ext.refl w, by rw [← h2]; exact tDiv_lt a b mode, by rw [h2]; exact sameF_self r⟩
  by_cases hn : nan a = true ∨ nan b = true
  · refine hdraw (div_nan ha hb hn) ?_
    unfold tDiv
    rw [if_pos hm, if_pos (by rcases hn with h | h; · exact .inl h
                              · exact .inr (.inl h))]
  · have h1 : nan a = false := by rw [← Bool.not_eq_true]; exact fun h => hn (.inl h)
    have h2 : nan b = false := by rw [← Bool.not_eq_true]; exact fun h => hn (.inr h)
    have la := nnan_le h1
    have lb := nnan_le h2
    have hI : INF ≠ 0 := by decide
    by_cases hz : (mag a = INF ∧ mag b = INF) ∨ (mag a = 0 ∧ mag b = 0)
    · exact hdraw (div_none ha hb hz) (by unfold tDiv; rw [if_pos hm, if_pos (.inr (.inr hz))])
    · have hn' : ¬ (nan a = true ∨ nan b = true ∨ (mag a = INF ∧ mag b = INF) ∨ (mag a = 0 ∧ mag b = 0)) := by
        rintro (h | h | h)
        · exact hn (.inl h)
        · exact hn (.inr h)
        · exact hz h
      by_cases hi : mag a = INF ∨ mag b = 0
      · refine hval _ (div_inf ha hb ?_) (by unfold tDiv; rw [if_pos hm, if_neg hn', if_pos hi])
        by_cases h3 : mag a = INF
        · exact .inl ⟨h3, by have : mag b ≠ INF := fun h => hz (.inl ⟨h3, h⟩); omega⟩
        · have h4 := hi.resolve_left h3
          exact .inr ⟨fun h => hz (.inr ⟨h, h4⟩), by omega, h4⟩
      · have h3 : mag a = 0 ∨ mag b = INF := by
          rcases h with h | h | h | h | h | h
          · rw [h1] at h; cases h
          · rw [h2] at h; cases h
          · exact absurd (.inl h) hi
          · exact .inr h
          · exact .inl h
          · exact absurd (.inr h) hi
        refine hval _ (div_zero ha hb ?_) (by unfold tDiv; rw [if_pos hm, if_neg hn', if_neg hi, if_pos h3])
        by_cases h4 : mag b = INF
        · exact .inl ⟨by have : mag a ≠ INF := fun h => hi (.inl h); omega, h4⟩
        · exact .inr ⟨h3.resolve_right h4, fun h => hi (.inr h), by omega⟩
end Fl
namespace Go.Proofs.YtdpjkddllimcoaaGreatDoor
open Go.RowKit Fl
theorem u_Mul_end (a b : Nat) (mode : Int) (ha : a < 18446744073709551616) (hb : b < 18446744073709551616) (hm : mode = 1 ∨ mode = 2 ∨ mode = 3)
    (h : nan a = true ∨ nan b = true ∨ mag a = INF ∨ mag b = INF ∨ mag a = 0 ∨ mag b = 0) (w : World) :
    Calls Tryz.prog 21 #[.float .f64 a, .float .f64 b, .int .i64 mode] w fun en w' => ∃ R, en = .returned (.float .f64 R) ∧ Ext w w' ∧ R < 18446744073709551616 ∧ sameF R (tMul a b mode) = true := by
  have HVa := Lib.hid (r_valid mode w hm)
  have HIa := Lib.hid (r_infinite a ha w)
  have HIb := Lib.hid (r_infinite b hb w)
  obtain ⟨R, W2, hN, hX, h1, h2⟩ := mul_out (P := Tryz.prog) 22 w ha hb hm h
  have HR : Hid (Ext w W2 ∧ R < 18446744073709551616 ∧ sameF R (tMul a b mode) = true) := ⟨hX, h1, h2⟩
  clear hX h1 h2
  by_cases na : nan a = true
  · have t1 := nan_feq ha na
    clear h na hm ha hb HIa HIb
    go_enter Tryz.func21, Tryz.ntmps21
    go_wp2_with (fail)
    refine HVa.out.mono ?_
    rintro en wn ⟨rfl, rfl⟩
    go_wp2_with (fail)
    go_ret
    exact ⟨_, rfl, HR.out⟩
  have na' : nan a = false := by rw [← Bool.not_eq_true]; exact na
  have t1 := nnan_feq ha na'
  by_cases nb : nan b = true
  · have t2 := nan_feq hb nb
    clear h na nb na' hm ha hb HIa HIb
    go_enter Tryz.func21, Tryz.ntmps21
    go_wp2_with (fail)
    refine HVa.out.mono ?_
    rintro en wn ⟨rfl, rfl⟩
    go_wp2_with (fail)
    go_ret
    exact ⟨_, rfl, HR.out⟩
  have nb' : nan b = false := by rw [← Bool.not_eq_true]; exact nb
  have t2 := nnan_feq hb nb'
  by_cases ia : mag a = INF
  · rw [show decide (mag a = INF) = true by simp [ia]] at HIa
    clear h na nb na' nb' ia hm ha hb HIb
    go_enter Tryz.func21, Tryz.ntmps21
    go_wp2_with (fail)
    refine HVa.out.mono ?_
    rintro en wn ⟨rfl, rfl⟩
    go_wp2_with (fail)
    refine HIa.out.mono ?_
    rintro en wn ⟨rfl, rfl⟩
    go_wp2_with (fail)
    go_ret
    exact ⟨_, rfl, HR.out⟩
  rw [show decide (mag a = INF) = false by simp [ia]] at HIa
  by_cases ib : mag b = INF
  · rw [show decide (mag b = INF) = true by simp [ib]] at HIb
    clear h na nb na' nb' ia ib hm ha hb
    go_enter Tryz.func21, Tryz.ntmps21
    go_wp2_with (fail)
    refine HVa.out.mono ?_
    rintro en wn ⟨rfl, rfl⟩
    go_wp2_with (fail)
    refine HIa.out.mono ?_
    rintro en wn ⟨rfl, rfl⟩
    go_wp2_with (fail)
    refine HIb.out.mono ?_
    rintro en wn ⟨rfl, rfl⟩
    go_wp2_with (fail)
    go_ret
    exact ⟨_, rfl, HR.out⟩
  rw [show decide (mag b = INF) = false by simp [ib]] at HIb
  by_cases za : mag a = 0
  · have t3 := feq_zero_true ha za
    clear h na nb na' nb' ia ib za hm ha hb
    go_enter Tryz.func21, Tryz.ntmps21
    go_wp2_with (fail)
    refine HVa.out.mono ?_
    rintro en wn ⟨rfl, rfl⟩
    go_wp2_with (fail)
    refine HIa.out.mono ?_
    rintro en wn ⟨rfl, rfl⟩
    go_wp2_with (fail)
    refine HIb.out.mono ?_
    rintro en wn ⟨rfl, rfl⟩
    go_wp2_with (fail)
    go_ret
    exact ⟨_, rfl, HR.out⟩
  have t3 := feq_zero_false ha (by omega)
  have zb : mag b = 0 := by
    rcases h with h | h | h | h | h | h
    · exact absurd h na
    · exact absurd h nb
    · exact absurd h ia
    · exact absurd h ib
    · exact absurd h za
    · exact h
  have t4 := feq_zero_true hb zb
  clear h na nb na' nb' ia ib za zb hm ha hb
  go_enter Tryz.func21, Tryz.ntmps21
  go_wp2_with (fail)
  refine HVa.out.mono ?_
  rintro en wn ⟨rfl, rfl⟩
  go_wp2_with (fail)
  refine HIa.out.mono ?_
  rintro en wn ⟨rfl, rfl⟩
  go_wp2_with (fail)
  refine HIb.out.mono ?_
  rintro en wn ⟨rfl, rfl⟩
  go_wp2_with (fail)
  go_ret
  exact ⟨_, rfl, HR.out⟩
theorem u_Div_end (a b : Nat) (mode : Int) (ha : a < 18446744073709551616) (hb : b < 18446744073709551616) (hm : mode = 1 ∨ mode = 2 ∨ mode = 3)
    (h : nan a = true ∨ nan b = true ∨ mag a = INF ∨ mag b = INF ∨ mag a = 0 ∨ mag b = 0) (w : World) :
    Calls Tryz.prog 23 #[.float .f64 a, .float .f64 b, .int .i64 mode] w fun en w' => ∃ R, en = .returned (.float .f64 R) ∧ Ext w w' ∧ R < 18446744073709551616 ∧ sameF R (tDiv a b mode) = true := by
  have HVa := Lib.hid (r_valid mode w hm)
  have HIa := Lib.hid (r_infinite a ha w)
  have HIb := Lib.hid (r_infinite b hb w)
  obtain ⟨R, W2, hN, hX, h1, h2⟩ := div_out (P := Tryz.prog) 22 w ha hb hm h
  have HR : Hid (Ext w W2 ∧ R < 18446744073709551616 ∧ sameF R (tDiv a b mode) = true) := ⟨hX, h1, h2⟩
  clear hX h1 h2
  by_cases na : nan a = true
  · have t1 := nan_feq ha na
    clear h na hm ha hb HIa HIb
    go_enter Tryz.func23, Tryz.ntmps23
    go_wp2_with (fail)
    refine HVa.out.mono ?_
    rintro en wn ⟨rfl, rfl⟩
    go_wp2_with (fail)
    go_ret
    exact ⟨_, rfl, HR.out⟩
  have na' : nan a = false := by rw [← Bool.not_eq_true]; exact na
  have t1 := nnan_feq ha na'
  by_cases nb : nan b = true
  · have t2 := nan_feq hb nb
    clear h na nb na' hm ha hb HIa HIb
    go_enter Tryz.func23, Tryz.ntmps23
    go_wp2_with (fail)
    refine HVa.out.mono ?_
    rintro en wn ⟨rfl, rfl⟩
    go_wp2_with (fail)
    go_ret
    exact ⟨_, rfl, HR.out⟩
  have nb' : nan b = false := by rw [← Bool.not_eq_true]; exact nb
  have t2 := nnan_feq hb nb'
  by_cases ia : mag a = INF
  · rw [show decide (mag a = INF) = true by simp [ia]] at HIa
    clear h na nb na' nb' ia hm ha hb HIb
    go_enter Tryz.func23, Tryz.ntmps23
    go_wp2_with (fail)
    refine HVa.out.mono ?_
    rintro en wn ⟨rfl, rfl⟩
    go_wp2_with (fail)
    refine HIa.out.mono ?_
    rintro en wn ⟨rfl, rfl⟩
    go_wp2_with (fail)
    go_ret
    exact ⟨_, rfl, HR.out⟩
  rw [show decide (mag a = INF) = false by simp [ia]] at HIa
  by_cases ib : mag b = INF
  · rw [show decide (mag b = INF) = true by simp [ib]] at HIb
    clear h na nb na' nb' ia ib hm ha hb
    go_enter Tryz.func23, Tryz.ntmps23
    go_wp2_with (fail)
    refine HVa.out.mono ?_
    rintro en wn ⟨rfl, rfl⟩
    go_wp2_with (fail)
    refine HIa.out.mono ?_
    rintro en wn ⟨rfl, rfl⟩
    go_wp2_with (fail)
    refine HIb.out.mono ?_
    rintro en wn ⟨rfl, rfl⟩
    go_wp2_with (fail)
    go_ret
    exact ⟨_, rfl, HR.out⟩
  rw [show decide (mag b = INF) = false by simp [ib]] at HIb
  by_cases za : mag a = 0
  · have t3 := feq_zero_true ha za
    clear h na nb na' nb' ia ib za hm ha hb
    go_enter Tryz.func23, Tryz.ntmps23
    go_wp2_with (fail)
    refine HVa.out.mono ?_
    rintro en wn ⟨rfl, rfl⟩
    go_wp2_with (fail)
    refine HIa.out.mono ?_
    rintro en wn ⟨rfl, rfl⟩
    go_wp2_with (fail)
    refine HIb.out.mono ?_
    rintro en wn ⟨rfl, rfl⟩
    go_wp2_with (fail)
    go_ret
    exact ⟨_, rfl, HR.out⟩
  have t3 := feq_zero_false ha (by omega)
  have zb : mag b = 0 := by
    rcases h with h | h | h | h | h | h
    · exact absurd h na
    · exact absurd h nb
    · exact absurd h ia
    · exact absurd h ib
    · exact absurd h za
    · exact h
  have t4 := feq_zero_true hb zb
  clear h na nb na' nb' ia ib za zb hm ha hb
  go_enter Tryz.func23, Tryz.ntmps23
  go_wp2_with (fail)
  refine HVa.out.mono ?_
  rintro en wn ⟨rfl, rfl⟩
  go_wp2_with (fail)
  refine HIa.out.mono ?_
  rintro en wn ⟨rfl, rfl⟩
  go_wp2_with (fail)
  refine HIb.out.mono ?_
  rintro en wn ⟨rfl, rfl⟩
  go_wp2_with (fail)
  go_ret
  exact ⟨_, rfl, HR.out⟩
theorem u_Mul (a b : Nat) (mode : Int) (ha : a < 18446744073709551616) (hb : b < 18446744073709551616) (w : World) (hT : Tab32 w) :
    Calls Tryz.prog 21 #[.float .f64 a, .float .f64 b, .int .i64 mode] w fun en w' => ∃ R, en = .returned (.float .f64 R) ∧ Ext w w' ∧ R < 18446744073709551616 ∧ sameF R (tMul a b mode) = true := by
  by_cases hm : mode = 1 ∨ mode = 2 ∨ mode = 3
  · by_cases h : nan a = true ∨ nan b = true ∨ mag a = INF ∨ mag b = INF ∨ mag a = 0 ∨ mag b = 0
    · exact u_Mul_end a b mode ha hb hm h w
    · have h1 : nan a = false := by rw [← Bool.not_eq_true]; exact fun h' => h (.inl h')
      have h2 : nan b = false := by rw [← Bool.not_eq_true]; exact fun h' => h (.inr (.inl h'))
      have i1 : mag a ≠ INF := fun h' => h (.inr (.inr (.inl h')))
      have i2 : mag b ≠ INF := fun h' => h (.inr (.inr (.inr (.inl h'))))
      have z1 : mag a ≠ 0 := fun h' => h (.inr (.inr (.inr (.inr (.inl h')))))
      have z2 : mag b ≠ 0 := fun h' => h (.inr (.inr (.inr (.inr (.inr h')))))
      have la := nnan_le h1
      have lb := nnan_le h2
      refine (r_Mul_fin a b mode ha hb (by omega) (by omega) (by omega) (by omega) hm w hT).mono ?_
      rintro en wn ⟨rfl, hx⟩
      refine ⟨_, rfl, hx, pro_lt a b mode, ?_⟩
      unfold tMul
      rw [if_pos hm, if_neg (by rw [h1, h2]; simp), if_neg (by omega), if_neg (by omega)]
      exact sameF_self _
  · refine (r_Mul_bad a b mode hm w).mono ?_
    rintro en wn ⟨rfl, rfl⟩
    refine ⟨_, rfl, Ext.refl _, by decide, sameF_nan nan_PN ?_⟩
    unfold tMul
    rw [if_neg hm]
    exact nan_QN
theorem u_Div (a b : Nat) (mode : Int) (ha : a < 18446744073709551616) (hb : b < 18446744073709551616) (w : World) (hT : Tab32 w) :
    Calls Tryz.prog 23 #[.float .f64 a, .float .f64 b, .int .i64 mode] w fun en w' => ∃ R, en = .returned (.float .f64 R) ∧ Ext w w' ∧ R < 18446744073709551616 ∧ sameF R (tDiv a b mode) = true := by
  by_cases hm : mode = 1 ∨ mode = 2 ∨ mode = 3
  · by_cases h : nan a = true ∨ nan b = true ∨ mag a = INF ∨ mag b = INF ∨ mag a = 0 ∨ mag b = 0
    · exact u_Div_end a b mode ha hb hm h w
    · have h1 : nan a = false := by rw [← Bool.not_eq_true]; exact fun h' => h (.inl h')
      have h2 : nan b = false := by rw [← Bool.not_eq_true]; exact fun h' => h (.inr (.inl h'))
      have i1 : mag a ≠ INF := fun h' => h (.inr (.inr (.inl h')))
      have i2 : mag b ≠ INF := fun h' => h (.inr (.inr (.inr (.inl h'))))
      have z1 : mag a ≠ 0 := fun h' => h (.inr (.inr (.inr (.inr (.inl h')))))
      have z2 : mag b ≠ 0 := fun h' => h (.inr (.inr (.inr (.inr (.inr h')))))
      have la := nnan_le h1
      have lb := nnan_le h2
      refine (r_Div_fin a b mode ha hb (by omega) (by omega) (by omega) (by omega) hm w hT).mono ?_
      rintro en wn ⟨rfl, hx⟩
      refine ⟨_, rfl, hx, quo_lt a b mode, ?_⟩
      unfold tDiv
      rw [if_pos hm, if_neg (by rw [h1, h2]; simp [i1, z1]), if_neg (by omega), if_neg (by omega)]
      exact sameF_self _
  · refine (r_Div_bad a b mode hm w).mono ?_
    rintro en wn ⟨rfl, rfl⟩
    refine ⟨_, rfl, Ext.refl _, by decide, sameF_nan nan_PN ?_⟩
    unfold tDiv
    rw [if_neg hm]
    exact nan_QN
end Go.Proofs.YtdpjkddllimcoaaGreatDoor
end

section
/- Where a rounded value lies: plain facts. -/
namespace Fl
theorem floor_ex {c : Nat → Ordering} (n : Nat) : ∀ k, INF - 1 - k = n → k < INF → c (2 * V k) ≠ .lt → ∃ r, Floor c r := by
  induction n with
  | zero =>
    intro k hn hk h
    exact ⟨k, hk, h, fun h2 => by omega⟩
  | succ n ih =>
    intro k hn hk h
    by_cases h2 : c (2 * V (k + 1)) = .lt
    · exact ⟨k, hk, h, fun _ => h2⟩
    · exact ih (k + 1) (by omega) (by omega) h2
/-- the roundings down, near, up. -/
theorem bracket {c : Nat → Ordering} (hc : Anti c) (hs : ∀ s t, s < t → c t ≠ .lt → c s = .gt) (h0 : c 0 ≠ .lt) :
    rnd c 0 < INF ∧ (rnd c 2 = rnd c 0 ∨ rnd c 2 = rnd c 0 + 1) ∧ (rnd c 1 = rnd c 0 ∨ rnd c 1 = rnd c 2) ∧ c (2 * V (rnd c 0)) ≠ .lt ∧ (rnd c 2 < INF → c (2 * V (rnd c 2)) ≠ .gt) := by
  obtain ⟨r, f⟩ := floor_ex (c := c) (INF - 1) 0 (by omega) (by decide) (by rw [V_zero]; exact h0)
  rw [rnd_eq hc f, rnd_eq hc f, rnd_eq hc f]
  have e0 : pick c 0 r = r := by unfold pick; rw [if_pos rfl]
  have e2 : pick c 2 r = if c (2 * V r) = .eq then r else r + 1 := by unfold pick; rw [if_neg (by decide), if_pos rfl]
  have e1 : pick c 1 r = match c (V r + V (r + 1)) with | .lt => r | .gt => r + 1 | .eq => r + r % 2 := by unfold pick; rw [if_neg (by decide), if_neg (by decide)]; rfl
  rw [e0]
  have hV := V_succ r
  by_cases he : c (2 * V r) = .eq
  · have h3 : c (V r + V (r + 1)) = .lt := by
      rcases h4 : c (V r + V (r + 1)) with _ | _ | _
      · rfl
      · have := hs (2 * V r) (V r + V (r + 1)) (by omega) (by rw [h4]; decide); rw [he] at this; cases this
      · have := hs (2 * V r) (V r + V (r + 1)) (by omega) (by rw [h4]; decide); rw [he] at this; cases this
    have e2' : pick c 2 r = r := by rw [e2, if_pos he]
    have e1' : pick c 1 r = r := by rw [e1, h3]
    rw [e2', e1']
    exact ⟨f.fin, .inl rfl, .inl rfl, f.lo, fun _ => by rw [he]; decide⟩
  · have e2' : pick c 2 r = r + 1 := by rw [e2, if_neg he]
    rw [e2']
    refine ⟨f.fin, .inr rfl, ?_, f.lo, fun h => by rw [f.hi h]; decide⟩
    rw [e1]
    rcases c (V r + V (r + 1)) with _ | _ | _
    · exact .inl rfl
    · rcases Nat.mod_two_eq_zero_or_one r with h | h
      · left; show r + r % 2 = r; omega
      · right; show r + r % 2 = r + 1; omega
    · exact .inr rfl
theorem cD_two {m t k : Nat} {e : Int} (he : e = -1074 - (k : Int)) : cD m e (2 * t) = compare m (t * 2 ^ k) := by
  have := cD_at (m := m) (l := 0) (D := k) (s := t) (e := e) (by omega)
  rwa [show t * 2 ^ (0 + 1) = 2 * t by rw [Nat.zero_add, Nat.pow_one, Nat.mul_comm]] at this
theorem cD_zero_lt (m : Nat) (e : Int) : cD m e 0 ≠ .lt := by unfold cD; rw [Ne, cQ_lt]; omega
/-- between: down, near, up of a value, and on both sides of it. -/
def Btw (lo mid hi : Nat) (z : Int) (k : Nat) : Prop :=
  (lo < 18446744073709551616 ∧ mid < 18446744073709551616 ∧ hi < 18446744073709551616) ∧ (nan lo = false ∧ nan mid = false ∧ nan hi = false) ∧ (key lo ≤ key mid ∧ key mid ≤ key hi) ∧
  (key lo = key hi ∨ nextF lo = hi) ∧ (key mid = key lo ∨ key mid = key hi) ∧ (mag lo = INF ∨ (mag lo < INF ∧ val lo * 2 ^ k ≤ z)) ∧ (mag hi = INF ∨ (mag hi < INF ∧ z ≤ val hi * 2 ^ k))
theorem key_word {n : Bool} {r : Nat} (h : r ≤ INF) : key (word n r) = if n then -(r : Int) else (r : Int) := by
  have hS : r < S := by unfold INF at h; unfold S; omega
  cases n
  · show (if S ≤ r then -((r - S : Nat) : Int) else (r : Int)) = (r : Int)
    rw [if_neg (by omega)]
  · show (if S ≤ S + r then -((S + r - S : Nat) : Int) else ((S + r : Nat) : Int)) = -(r : Int)
    rw [if_pos (by omega), Nat.add_sub_cancel_left]
theorem nan_word {n : Bool} {r : Nat} (h : r ≤ INF) : nan (word n r) = false := by
  have hS : r < S := by unfold INF at h; unfold S; omega
  unfold nan
  rw [mag_word hS]
  simp; exact h
theorem word64 {n : Bool} {r : Nat} (h : r ≤ INF) : word n r < 18446744073709551616 := word_lt (by unfold INF at h; unfold S; omega)
theorem val_word {n : Bool} {r : Nat} (h : r < S) : val (word n r) = if n then -(V r : Int) else (V r : Int) := by
  unfold val
  rw [mag_word h]
  cases n
  · show (if S ≤ r then -(V r : Int) else (V r : Int)) = (V r : Int)
    rw [if_neg (by omega)]
  · show (if S ≤ S + r then -(V r : Int) else (V r : Int)) = -(V r : Int)
    rw [if_pos (by omega)]
theorem next_up {r : Nat} (h : r < INF) : nextF r = r + 1 := by
  have hS : r < S := by unfold INF at h; unfold S; omega
  have hm : mag r = r := Nat.mod_eq_of_lt hS
  unfold nextF
  rw [show nan r = false by unfold nan; rw [hm]; simp; omega, show decide (r = INF) = false by simp; omega, hm]
  by_cases h0 : r = 0
  · subst h0; rfl
  · rw [show neg r = false by unfold neg; simp; omega]
    simp [h0]
theorem next_down {r : Nat} (h : r < INF) : nextF (word true (r + 1)) = word true r := by
  have hS : r + 1 < S := by unfold INF at h; unfold S; omega
  unfold nextF
  rw [nan_word (by omega), mag_word hS, show neg (word true (r + 1)) = true from neg_word hS, show decide (word true (r + 1) = INF) = false by unfold word INF S; simp; omega]
  simp
  unfold word
  simp
theorem btw_of {z e : Int} {k : Nat} (he : e = -1074 - (k : Int)) :
    Btw (word (decide (z < 0)) (rnd (cD z.natAbs e) (aim (decide (z < 0)) 1))) (word (decide (z < 0)) (rnd (cD z.natAbs e) (aim (decide (z < 0)) 2))) (word (decide (z < 0)) (rnd (cD z.natAbs e) (aim (decide (z < 0)) 3))) z k := by
  obtain ⟨g1, g2, g3, g4, g5⟩ := bracket (cD_anti z.natAbs e) (cD_strict z.natAbs e) (cD_zero_lt _ _)
  rw [cD_two he, cmp_ne_lt] at g4
  rw [cD_two he, cmp_ne_gt] at g5
  have l2 : rnd (cD z.natAbs e) 2 ≤ INF := rnd_le
  have l1 : rnd (cD z.natAbs e) 1 ≤ INF := rnd_le
  have cast : ∀ t : Nat, ((t * 2 ^ k : Nat) : Int) = (t : Int) * 2 ^ k := fun t => by simp
  have sS : ∀ r, r ≤ INF → r < S := fun r h => by unfold INF at h; unfold S; omega
  by_cases hz : z < 0
  · rw [show decide (z < 0) = true by simpa using hz, show aim true 1 = 2 from rfl, show aim true 2 = 1 from rfl, show aim true 3 = 0 from rfl]
    generalize rnd (cD z.natAbs e) 0 = r0 at *
    generalize rnd (cD z.natAbs e) 1 = r1 at *
    generalize rnd (cD z.natAbs e) 2 = r2 at *
    have l0 : r0 ≤ INF := by omega
    refine ⟨⟨word64 l2, word64 l1, word64 l0⟩, ⟨nan_word l2, nan_word l1, nan_word l0⟩, ?_, ?_, ?_, ?_, ?_⟩
    · rw [key_word l0, key_word l1, key_word l2]
      simp only [if_true]
      omega
    · rw [key_word l0, key_word l2]
      simp only [if_true]
      rcases g2 with h | h
      · left; omega
      · right; rw [h]; exact next_down g1
    · rw [key_word l0, key_word l1, key_word l2]
      simp only [if_true]
      omega
    · rw [mag_word (sS _ l2), val_word (sS _ l2)]
      by_cases hI : r2 = INF
      · exact .inl hI
      · have := g5 (by omega)
        have c := cast (V r2)
        refine .inr ⟨by omega, ?_⟩
        simp only [if_true, Int.neg_mul]
        omega
    · rw [mag_word (sS _ l0), val_word (sS _ l0)]
      have c := cast (V r0)
      refine .inr ⟨g1, ?_⟩
      simp only [if_true, Int.neg_mul]
      omega
  · rw [show decide (z < 0) = false by simpa using hz, show aim false 1 = 0 from rfl, show aim false 2 = 1 from rfl, show aim false 3 = 2 from rfl]
    generalize rnd (cD z.natAbs e) 0 = r0 at *
    generalize rnd (cD z.natAbs e) 1 = r1 at *
    generalize rnd (cD z.natAbs e) 2 = r2 at *
    have l0 : r0 ≤ INF := by omega
    refine ⟨⟨word64 l0, word64 l1, word64 l2⟩, ⟨nan_word l0, nan_word l1, nan_word l2⟩, ?_, ?_, ?_, ?_, ?_⟩
    · rw [key_word l0, key_word l1, key_word l2]
      simp only [Bool.false_eq_true, if_false]
      omega
    · rw [key_word l0, key_word l2]
      simp only [Bool.false_eq_true, if_false]
      rcases g2 with h | h
      · left; omega
      · right; rw [h]; exact next_up g1
    · rw [key_word l0, key_word l1, key_word l2]
      simp only [Bool.false_eq_true, if_false]
      omega
    · rw [mag_word (sS _ l0), val_word (sS _ l0)]
      have c := cast (V r0)
      refine .inr ⟨g1, ?_⟩
      simp only [Bool.false_eq_true, if_false]
      omega
    · rw [mag_word (sS _ l2), val_word (sS _ l2)]
      by_cases hI : r2 = INF
      · exact .inl hI
      · have := g5 (by omega)
        have c := cast (V r2)
        refine .inr ⟨by omega, ?_⟩
        simp only [Bool.false_eq_true, if_false]
        omega
theorem btw_zero (s1 s2 s3 : Bool) (k : Nat) : Btw (word s1 0) (word s2 0) (word s3 0) 0 k := by
  have h : (0 : Nat) ≤ INF := by decide
  have hS : (0 : Nat) < S := by decide
  have kz : ∀ s, key (word s 0) = 0 := fun s => by rw [key_word h]; cases s <;> simp
  have vz : ∀ s, val (word s 0) = 0 := fun s => by rw [val_word hS, V_zero]; cases s <;> simp
  have mz : ∀ s, mag (word s 0) = 0 := fun s => mag_word hS
  refine ⟨⟨word64 h, word64 h, word64 h⟩, ⟨nan_word h, nan_word h, nan_word h⟩, ?_, ?_, ?_, ?_, ?_⟩
  · rw [kz, kz, kz]; omega
  · left; rw [kz, kz]
  · left; rw [kz, kz]
  · right; rw [mz, vz]; exact ⟨by decide, by simp⟩
  · right; rw [mz, vz]; exact ⟨by decide, by simp⟩
end Fl
end
