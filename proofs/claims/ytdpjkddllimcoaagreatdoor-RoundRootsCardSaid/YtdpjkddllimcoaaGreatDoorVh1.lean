/- A part of the proof (2 of 3) of this: RoundHolds: for every two floats the sums and products of finite floats lie between Down and Up, which are the same or neighbours, and what is turned in sign is turned: the law returns true; condition: the table of package math/bits reads as its text lays it. -/
import Derived.Deep.RegionWith
import Derived.Deep.CutBlock
import Derived.Deep.Cut
import Derived.Deep.DeepCutAuto
import Derived.Test.YtdpjkddllimcoaaGreatDoorVh0

section
/- Between two floats: the law's helper. -/
namespace Fl
theorem scale_lt {x : Int} {L k M : Nat} (h : x.natAbs < 2 ^ L) (hk : L + k ≤ M) : (x * 2 ^ k).natAbs < 2 ^ M := by
  rw [natAbs_mul_pow]
  refine two_pow_lt_of (L := L + k) (M := M) ?_ hk
  rw [Nat.pow_add]
  exact Nat.mul_lt_mul_of_pos_right h (Nat.two_pow_pos k)
theorem scale_bits {x : Nat} {k : Nat} (h : mag x < INF) (hk : k ≤ 1074) : (val x * 2 ^ k).natAbs < 2 ^ 4200 := scale_lt (L := 2100) (M := 4200) (val_bits h) (by omega)
theorem cmpZ_le {x y : Int} (h : x ≤ y) : cmpZ x y ≤ 0 := by
  rcases Int.lt_or_eq_of_le h with h | h
  · rw [cmpZ_lt h]; omega
  · rw [cmpZ_eq h]; omega
theorem cmpZ_range (x y : Int) : -1 ≤ cmpZ x y ∧ cmpZ x y ≤ 1 := by
  unfold cmpZ
  split
  · omega
  · split <;> omega
end Fl
namespace Go.Proofs.YtdpjkddllimcoaaGreatDoor
open Go.RowKit Fl
set_option maxRecDepth 20000 in
set_option maxHeartbeats 4000000 in
theorem w_between (lo mid hi : Nat) (v : Value) (z e : Int) (k : Nat) (w : World) (h : Ry w v z e) (he : e = -1074 - (k : Int)) (hk : k ≤ 1074) (hz : z.natAbs < 2 ^ 4200) (hb : Btw lo mid hi z k) :
    Calls Tryz.prog 31 #[.float .f64 lo, .float .f64 mid, .float .f64 hi, v] w fun en wn => en = .returned (.bool true) ∧ Ext w wn := by
  obtain ⟨⟨a1, a2, a3⟩, ⟨b1, b2, b3⟩, ⟨k1, k2⟩, hnext, hor, hlo, hhi⟩ := hb
  obtain ⟨iL, hiL⟩ : ∃ iL, decide (mag lo = INF) = iL := ⟨_, rfl⟩
  obtain ⟨iH, hiH⟩ : ∃ iH, decide (mag hi = INF) = iH := ⟨_, rfl⟩
  have HIl : Hid (∀ w', Calls Tryz.prog 38 #[.float .f64 lo] w' fun en wn => en = .returned (.bool iL) ∧ w' = wn) := fun w' => by rw [← hiL]; exact c_isInf lo a1 w'
  have HIh : Hid (∀ w', Calls Tryz.prog 38 #[.float .f64 hi] w' fun en wn => en = .returned (.bool iH) ∧ w' = wn) := fun w' => by rw [← hiH]; exact c_isInf hi a3 w'
  have HN : Hid (∀ w', Calls Tryz.prog 35 #[.float .f64 lo] w' fun en wn => en = .returned (.float .f64 (nextF lo)) ∧ w' = wn) := fun w' => c_next lo a1 w'
  have HFl : Hid (∀ w', Calls Tryz.prog 30 #[.float .f64 lo] w' fun en w'' => ∃ v, en = .returned v ∧ Ext w' w'' ∧ Ry w'' v (val lo * 2 ^ k) e) := fun w' => (k_Float lo a1 w').mono fun en wn ⟨v, q1, q2, q3⟩ => ⟨v, q1, q2, q3.back (by omega)⟩
  have HFh : Hid (∀ w', Calls Tryz.prog 30 #[.float .f64 hi] w' fun en w'' => ∃ v, en = .returned v ∧ Ext w' w'' ∧ Ry w'' v (val hi * 2 ^ k) e) := fun w' => (k_Float hi a3 w').mono fun en wn ⟨v, q1, q2, q3⟩ => ⟨v, q1, q2, q3.back (by omega)⟩
  obtain ⟨CL, hCL⟩ : ∃ CL, cmpZ (val lo * 2 ^ k) z = CL := ⟨_, rfl⟩
  obtain ⟨CH, hCH⟩ : ∃ CH, cmpZ z (val hi * 2 ^ k) = CH := ⟨_, rfl⟩
  have HOl : Hid (iL = false → (CL = -1 ∨ CL = 0) ∧ ∀ w' u, Ext w w' → Ry w' u (val lo * 2 ^ k) e → Calls Tryz.prog 36 #[u, v] w' fun en w'' => en = .returned (.int .i64 CL) ∧ Ext w' w'') := by
    intro hi'
    rw [hi'] at hiL
    have hn : mag lo ≠ INF := by simpa using hiL
    have hf := hlo.resolve_left hn
    refine ⟨by have := cmpZ_le hf.2; have := cmpZ_range (val lo * 2 ^ k) z; omega, fun w' u q1 q2 => ?_⟩
    rw [← hCL]
    exact k_Order u v _ z e 4200 w' q2 (h.ext q1) (scale_bits hf.1 hk) hz (by decide) (by omega)
  have HOh : Hid (iH = false → (CH = -1 ∨ CH = 0) ∧ ∀ w' u, Ext w w' → Ry w' u (val hi * 2 ^ k) e → Calls Tryz.prog 36 #[v, u] w' fun en w'' => en = .returned (.int .i64 CH) ∧ Ext w' w'') := by
    intro hi'
    rw [hi'] at hiH
    have hn : mag hi ≠ INF := by simpa using hiH
    have hf := hhi.resolve_left hn
    refine ⟨by have := cmpZ_le hf.2; have := cmpZ_range z (val hi * 2 ^ k); omega, fun w' u q1 q2 => ?_⟩
    rw [← hCH]
    exact k_Order v u z _ e 4200 w' (h.ext q1) q2 hz (scale_bits hf.1 hk) (by decide) (by omega)
  have FQ : ∀ {x y : Nat}, x < 18446744073709551616 → y < 18446744073709551616 → nan x = false → nan y = false → feq x y = decide (key x = key y) ∧ flt x y = decide (key x < key y) := fun h1 h2 h3 h4 => by
    rw [feq_eq (by simpa using h1) (by simpa using h2), flt_eq (by simpa using h1) (by simpa using h2), h3, h4]; simp
  obtain ⟨e1, e2⟩ := FQ a1 a2 b1 b2
  obtain ⟨e3, e4⟩ := FQ a2 a3 b2 b3
  obtain ⟨e5, -⟩ := FQ a1 a3 b1 b3
  obtain ⟨e6, -⟩ := FQ a2 a1 b2 b1
  have hN : key lo ≠ key hi → feq (nextF lo) hi = true := by
    intro hne
    rw [hnext.resolve_left hne, feq_self (by simpa using a3), b3]; rfl
  obtain ⟨n1, p1, l1, c1, o1, E1, rfl, -⟩ := h.open
  obtain ⟨w1, hw1⟩ : ∃ w1, w.alloc (.cells #[.bool n1, .slice p1 l1 c1, .int .i64 E1] 35) = w1 := ⟨_, rfl⟩
  have H1 : Hid (Bx w1 35 w.heap.size n1 (.slice p1 l1 c1) E1 ∧ Ext w w1) := by
    rw [← hw1]
    exact ⟨Bx.new _ _ _ _ _, (Ext.refl w).alloc _⟩
  have f0 := H1.out.1.c0
  have f1 := H1.out.1.c1
  have f2 := H1.out.1.c2
  clear h hz hlo hhi hiL hiH hCL hCH FQ
  generalize nextF lo = nx at *
  have hcase : (key lo = key mid ∧ key mid = key hi) ∨ (key lo = key mid ∧ key mid < key hi) ∨ (key lo < key mid ∧ key mid = key hi) := by omega
  clear hor hnext he
  have HC : Hid (((flt lo mid = false ∧ feq lo mid = true ∧ flt mid hi = false ∧ feq mid hi = true ∧ feq lo hi = true ∧ feq mid lo = true) ∨ (flt lo mid = false ∧ feq lo mid = true ∧ flt mid hi = true ∧ feq mid hi = false ∧ feq lo hi = false ∧ feq mid lo = true ∧ feq nx hi = true)) ∨ (flt lo mid = true ∧ feq lo mid = false ∧ flt mid hi = false ∧ feq mid hi = true ∧ feq lo hi = false ∧ feq mid lo = false ∧ feq nx hi = true)) := by
    rcases hcase with ⟨k3, k4⟩ | ⟨k3, k4⟩ | ⟨k3, k4⟩
    · have q1 : flt lo mid = false := by rw [e2]; simp; omega
      have q2 : feq lo mid = true := by rw [e1]; simpa using k3
      have q3 : flt mid hi = false := by rw [e4]; simp; omega
      have q4 : feq mid hi = true := by rw [e3]; simpa using k4
      have q5 : feq lo hi = true := by rw [e5]; simp; omega
      have q6 : feq mid lo = true := by rw [e6]; simp; omega
      exact .inl (.inl ⟨q1, q2, q3, q4, q5, q6⟩)
    · have q1 : flt lo mid = false := by rw [e2]; simp; omega
      have q2 : feq lo mid = true := by rw [e1]; simpa using k3
      have q3 : flt mid hi = true := by rw [e4]; simpa using k4
      have q4 : feq mid hi = false := by rw [e3]; simp; omega
      have q5 : feq lo hi = false := by rw [e5]; simp; omega
      have q6 : feq mid lo = true := by rw [e6]; simp; omega
      have q7 := hN (by omega)
      exact .inl (.inr ⟨q1, q2, q3, q4, q5, q6, q7⟩)
    · have q1 : flt lo mid = true := by rw [e2]; simpa using k3
      have q2 : feq lo mid = false := by rw [e1]; simp; omega
      have q3 : flt mid hi = false := by rw [e4]; simp; omega
      have q4 : feq mid hi = true := by rw [e3]; simpa using k4
      have q5 : feq lo hi = false := by rw [e5]; simp; omega
      have q6 : feq mid lo = false := by rw [e6]; simp; omega
      have q7 := hN (by omega)
      exact .inr ⟨q1, q2, q3, q4, q5, q6, q7⟩
  clear hN e1 e2 e3 e4 e5 e6 k1 k2 hcase a1 a2 a3 b1 b2 b3
  go_enter Tryz.func31, Tryz.ntmps31
  go_upto_region 1 with (fail)
  go_cut [38] (fun v38 wc => v38 = .bool false ∧ w1 = wc)
  case first =>
    rcases HC.out with (⟨q1, q2, q3, q4, q5, q6⟩ | ⟨q1, q2, q3, q4, q5, q6, q7⟩) | ⟨q1, q2, q3, q4, q5, q6, q7⟩
    · go_wp2_with (fail)
      go_meet
      case rel => exact ⟨rfl, rfl⟩
    · go_wp2_with (fail)
      refine (HN.out _).mono ?_
      rintro en wq ⟨rfl, rfl⟩
      go_wp2_with (fail)
      go_meet
      case rel => exact ⟨rfl, rfl⟩
    · go_wp2_with (fail)
      refine (HN.out _).mono ?_
      rintro en wq ⟨rfl, rfl⟩
      go_wp2_with (fail)
      go_meet
      case rel => exact ⟨rfl, rfl⟩
  case rest =>
    obtain ⟨rfl, rfl⟩ := hcut
    clear HC
    cases iL <;> cases iH
    · skip
      have HL := Lib.hid (HOl.out rfl)
      have q8 := HL.out.1
      have HH := Lib.hid (HOh.out rfl)
      have q9 := HH.out.1
      rcases q8 with rfl | rfl
      all_goals rcases q9 with rfl | rfl
      all_goals
       clear HOl HOh
       go_wp2_with (fail)
       go_region_held3 (fun w' => w'.cell? ⟨w.heap.size, 0, none⟩ = some (.bool n1) ∧ w'.cell? ⟨w.heap.size, 1, none⟩ = some (.slice p1 l1 c1) ∧ w'.cell? ⟨w.heap.size, 2, none⟩ = some (.int .i64 E1)) (first | go_keep | (exact ⟨H5.out.1.c0, H5.out.1.c1, H5.out.1.c2⟩) | (exact ⟨H4.out.1.c0, H4.out.1.c1, H4.out.1.c2⟩) | (exact ⟨H3.out.1.c0, H3.out.1.c1, H3.out.1.c2⟩) | (exact ⟨H2.out.1.c0, H2.out.1.c1, H2.out.1.c2⟩) | (exact ⟨H1.out.1.c0, H1.out.1.c1, H1.out.1.c2⟩) | fail) (first | (go_at_call_of 38 (Value.float .f64 lo); refine (HIl.out _).mono ?_; rintro en wq ⟨rfl, rfl⟩) | (go_at_call_of 38 (Value.float .f64 hi); refine (HIh.out _).mono ?_; rintro en wq ⟨rfl, rfl⟩) | (go_at_call_of 30 (Value.float .f64 lo); refine (HFl.out _).mono ?_; rintro en w2 ⟨v2, rfl, hx, hd⟩; have HR2 := Lib.hid hd; clear hd; have hx1 : Ext w1 w2 := (by first | exact hx | exact (Ext.of_drew hx) | exact (Ext.of_drewN hx) | fail); have H2 : Hid (Bx w2 35 w.heap.size n1 (.slice p1 l1 c1) E1 ∧ Ext w w2) := ⟨H1.out.1.ext hx1, H1.out.2.trans hx1⟩; clear hx hx1) | (go_at_call_of 36 v2; refine (HL.out.2 _ v2 (by first | exact H2.out.2 | exact H2.out.2.drew | exact H2.out.2.drewN _ | fail) (by first | exact HR2.out | exact HR2.out.ext ((Ext.refl _).drewN _) | exact HR2.out.ext (Ext.refl _).drew | fail)).mono ?_; rintro en w3 ⟨rfl, hx⟩; have hx1 : Ext w2 w3 := (by first | exact hx | exact (Ext.of_drew hx) | exact (Ext.of_drewN hx) | fail); have H3 : Hid (Bx w3 35 w.heap.size n1 (.slice p1 l1 c1) E1 ∧ Ext w w3) := ⟨H2.out.1.ext hx1, H2.out.2.trans hx1⟩; clear hx hx1) | (go_at_call_of 30 (Value.float .f64 hi); refine (HFh.out _).mono ?_; rintro en w4 ⟨v4, rfl, hx, hd⟩; have HR4 := Lib.hid hd; clear hd; have hx1 : Ext w3 w4 := (by first | exact hx | exact (Ext.of_drew hx) | exact (Ext.of_drewN hx) | fail); have H4 : Hid (Bx w4 35 w.heap.size n1 (.slice p1 l1 c1) E1 ∧ Ext w w4) := ⟨H3.out.1.ext hx1, H3.out.2.trans hx1⟩; clear hx hx1) | (go_at_call_of 36 (Value.agg #[.bool n1, .slice p1 l1 c1, .int .i64 E1]); refine (HH.out.2 _ v4 (by first | exact H4.out.2 | exact H4.out.2.drew | exact H4.out.2.drewN _ | fail) (by first | exact HR4.out | exact HR4.out.ext ((Ext.refl _).drewN _) | exact HR4.out.ext (Ext.refl _).drew | fail)).mono ?_; rintro en w5 ⟨rfl, hx⟩; have hx1 : Ext w4 w5 := (by first | exact hx | exact (Ext.of_drew hx) | exact (Ext.of_drewN hx) | fail); have H5 : Hid (Bx w5 35 w.heap.size n1 (.slice p1 l1 c1) E1 ∧ Ext w w5) := ⟨H4.out.1.ext hx1, H4.out.2.trans hx1⟩; clear hx hx1))
       all_goals
         go_wp2_with (fail)
         go_ret
         exact ⟨rfl, H5.out.2⟩
    · skip
      have HL := Lib.hid (HOl.out rfl)
      have q8 := HL.out.1
      rcases q8 with rfl | rfl
      all_goals
       clear HOl HOh
       go_wp2_with (fail)
       first | (go_region_with (first | (go_at_call_of 38 (Value.float .f64 lo); refine (HIl.out _).mono ?_; rintro en wq ⟨rfl, rfl⟩) | (go_at_call_of 38 (Value.float .f64 hi); refine (HIh.out _).mono ?_; rintro en wq ⟨rfl, rfl⟩) | (go_at_call_of 30 (Value.float .f64 lo); refine (HFl.out _).mono ?_; rintro en w2 ⟨v2, rfl, hx, hd⟩; have HR2 := Lib.hid hd; clear hd; have hx1 : Ext w1 w2 := (by first | exact hx | exact (Ext.of_drew hx) | exact (Ext.of_drewN hx) | fail); have H2 : Hid (Bx w2 35 w.heap.size n1 (.slice p1 l1 c1) E1 ∧ Ext w w2) := ⟨H1.out.1.ext hx1, H1.out.2.trans hx1⟩; clear hx hx1; have g20 := H2.out.1.c0; have g21 := H2.out.1.c1; have g22 := H2.out.1.c2) | (go_at_call_of 36 v2; refine (HL.out.2 _ v2 (by first | exact H2.out.2 | exact H2.out.2.drew | exact H2.out.2.drewN _ | fail) (by first | exact HR2.out | exact HR2.out.ext ((Ext.refl _).drewN _) | exact HR2.out.ext (Ext.refl _).drew | fail)).mono ?_; rintro en w3 ⟨rfl, hx⟩; have hx1 : Ext w2 w3 := (by first | exact hx | exact (Ext.of_drew hx) | exact (Ext.of_drewN hx) | fail); have H3 : Hid (Bx w3 35 w.heap.size n1 (.slice p1 l1 c1) E1 ∧ Ext w w3) := ⟨H2.out.1.ext hx1, H2.out.2.trans hx1⟩; clear hx hx1; have g30 := H3.out.1.c0; have g31 := H3.out.1.c1; have g32 := H3.out.1.c2))) | fail
       all_goals
         go_wp2_with (fail)
         go_ret
         exact ⟨rfl, H3.out.2⟩
    · skip
      have HH := Lib.hid (HOh.out rfl)
      have q9 := HH.out.1
      all_goals rcases q9 with rfl | rfl
      all_goals
       clear HOl HOh
       go_wp2_with (fail)
       first | (go_region_with (first | (go_at_call_of 38 (Value.float .f64 lo); refine (HIl.out _).mono ?_; rintro en wq ⟨rfl, rfl⟩) | (go_at_call_of 38 (Value.float .f64 hi); refine (HIh.out _).mono ?_; rintro en wq ⟨rfl, rfl⟩) | (go_at_call_of 30 (Value.float .f64 hi); refine (HFh.out _).mono ?_; rintro en w2 ⟨v2, rfl, hx, hd⟩; have HR2 := Lib.hid hd; clear hd; have hx1 : Ext w1 w2 := (by first | exact hx | exact (Ext.of_drew hx) | exact (Ext.of_drewN hx) | fail); have H2 : Hid (Bx w2 35 w.heap.size n1 (.slice p1 l1 c1) E1 ∧ Ext w w2) := ⟨H1.out.1.ext hx1, H1.out.2.trans hx1⟩; clear hx hx1; have g20 := H2.out.1.c0; have g21 := H2.out.1.c1; have g22 := H2.out.1.c2) | (go_at_call_of 36 (Value.agg #[.bool n1, .slice p1 l1 c1, .int .i64 E1]); refine (HH.out.2 _ v2 (by first | exact H2.out.2 | exact H2.out.2.drew | exact H2.out.2.drewN _ | fail) (by first | exact HR2.out | exact HR2.out.ext ((Ext.refl _).drewN _) | exact HR2.out.ext (Ext.refl _).drew | fail)).mono ?_; rintro en w3 ⟨rfl, hx⟩; have hx1 : Ext w2 w3 := (by first | exact hx | exact (Ext.of_drew hx) | exact (Ext.of_drewN hx) | fail); have H3 : Hid (Bx w3 35 w.heap.size n1 (.slice p1 l1 c1) E1 ∧ Ext w w3) := ⟨H2.out.1.ext hx1, H2.out.2.trans hx1⟩; clear hx hx1; have g30 := H3.out.1.c0; have g31 := H3.out.1.c1; have g32 := H3.out.1.c2))) | fail
       all_goals
         go_wp2_with (fail)
         go_ret
         exact ⟨rfl, H3.out.2⟩
    · skip
      all_goals
       clear HOl HOh
       go_wp2_with (fail)
       first | (go_region_with (first | (go_at_call_of 38 (Value.float .f64 lo); refine (HIl.out _).mono ?_; rintro en wq ⟨rfl, rfl⟩) | (go_at_call_of 38 (Value.float .f64 hi); refine (HIh.out _).mono ?_; rintro en wq ⟨rfl, rfl⟩))) | fail
       all_goals
         go_wp2_with (fail)
         go_ret
         exact ⟨rfl, H1.out.2⟩
end Go.Proofs.YtdpjkddllimcoaaGreatDoor
end

section
/- RoundHolds: the law's walk. -/
namespace Fl
/-- a product of two finite floats, rounded. -/
noncomputable def pMul (a b : Nat) (m : Int) : Nat := if mag a = 0 ∨ mag b = 0 then word (neg a != neg b) 0 else rPro a b m
theorem eq_of_same {R T : Nat} (h : sameF R T = true) (hT : nan T = false) : R = T := by
  unfold sameF at h
  rw [hT, Bool.and_false, Bool.or_false] at h
  simpa using h
theorem fin_nan {a : Nat} (h : mag a < INF) : nan a = false := by unfold nan; simp; omega
theorem pMul_nan (a b : Nat) (m : Int) : nan (pMul a b m) = false := by
  unfold pMul
  split
  · exact nan_word (by decide)
  · exact nan_word rnd_le
theorem pMul_lt (a b : Nat) (m : Int) : pMul a b m < 18446744073709551616 := by
  unfold pMul
  split
  · exact word_0_lt _
  · exact pro_lt a b m
theorem tMul_fin {a b : Nat} {m : Int} (hm : m = 1 ∨ m = 2 ∨ m = 3) (fa : mag a < INF) (fb : mag b < INF) : tMul a b m = pMul a b m := by
  unfold tMul pMul
  rw [if_pos hm, if_neg (by rw [fin_nan fa, fin_nan fb]; simp), if_neg (by omega)]
theorem neg_turned {b : Nat} (hb : b < 18446744073709551616) : neg (turned b) = !neg b := by
  unfold neg turned S
  split <;> rename_i h
  · simp [h]; omega
  · simp [h]
theorem turned_word' {n : Bool} {r : Nat} (h : r < S) : turned (word n r) = word (!n) r := by
  cases n
  · show (if S ≤ r then r - S else r + S) = S + r
    rw [if_neg (by omega)]; omega
  · show (if S ≤ S + r then S + r - S else S + r + S) = r
    rw [if_pos (by omega)]; omega
theorem val_turned {b : Nat} (hb : b < 18446744073709551616) : val (turned b) = -val b := by
  have h1 := neg_turned hb
  have h2 := mag_turned hb
  have va : ∀ x, val x = if neg x then -(V (mag x) : Int) else V (mag x) := fun x => by unfold val neg; by_cases h : S ≤ x <;> simp [h]
  rw [va, va, h1, h2]
  cases neg b <;> simp
theorem pMul_turn {a b : Nat} (hb : b < 18446744073709551616) : pMul a b 1 = turned (pMul a (turned b) 3) := by
  unfold pMul
  rw [mag_turned hb]
  by_cases h0 : mag a = 0 ∨ mag b = 0
  · rw [if_pos h0, if_pos h0, turned_word' (by decide), neg_turned hb]
    cases neg a <;> cases neg b <;> rfl
  · rw [if_neg h0, if_neg h0]
    unfold rPro
    rw [turned_word' (rnd_S _ _), val_turned hb, Int.mul_neg, Int.natAbs_neg]
    have hz : val a * val b ≠ 0 := fun h => h0 (val_mul_zero.1 h)
    have e : decide (-(val a * val b) < 0) = !decide (val a * val b < 0) := by
      by_cases h : val a * val b < 0
      · simp [h]; omega
      · simp [h]; omega
    rw [e]
    cases decide (val a * val b < 0) <;> rfl
theorem nul_comm (a b : Nat) (m : Int) : nul a b m = nul b a m := by
  unfold nul
  cases feq a 0 <;> cases feq b 0 <;> cases neg a <;> cases neg b <;> rfl
theorem rSum_comm (a b : Nat) (m : Int) : rSum a b m = rSum b a m := by
  unfold rSum
  rw [Int.add_comm (val a) (val b), nul_comm]
theorem btw_sum (a b : Nat) : Btw (rSum a b 1) (rSum a b 2) (rSum a b 3) (val a + val b) 0 := by
  unfold rSum
  by_cases h : val a + val b = 0
  · rw [if_pos h, if_pos h, if_pos h, h]; exact btw_zero _ _ _ 0
  · rw [if_neg h, if_neg h, if_neg h]; exact btw_of (by decide)
theorem btw_mul (a b : Nat) : Btw (pMul a b 1) (pMul a b 2) (pMul a b 3) (val a * val b) 1074 := by
  unfold pMul
  by_cases h : mag a = 0 ∨ mag b = 0
  · rw [if_pos h, if_pos h, if_pos h, val_mul_zero.2 h]; exact btw_zero _ _ _ 1074
  · rw [if_neg h, if_neg h, if_neg h]; unfold rPro; exact btw_of (by decide)
end Fl
namespace Go.Proofs.YtdpjkddllimcoaaGreatDoor
open Go.RowKit Fl
theorem v_Mul (a b : Nat) (m : Int) (hm : m = 1 ∨ m = 2 ∨ m = 3) (ha : a < 18446744073709551616) (hb : b < 18446744073709551616) (fa : mag a < INF) (fb : mag b < INF) (w : World) (hT : Tab32 w) :
    Calls Tryz.prog 21 #[.float .f64 a, .float .f64 b, .int .i64 m] w fun en wn => en = .returned (.float .f64 (pMul a b m)) ∧ Ext w wn := by
  refine (u_Mul a b m ha hb w hT).mono ?_
  rintro en wn ⟨R, rfl, hx, -, hs⟩
  rw [tMul_fin hm fa fb] at hs
  rw [eq_of_same hs (pMul_nan a b m)]
  exact ⟨rfl, hx⟩
set_option maxRecDepth 20000 in
set_option maxHeartbeats 4000000 in
theorem w_RoundHolds (a b : Nat) (ha : a < 18446744073709551616) (hb : b < 18446744073709551616) (w : World) (hT : Tab32 w) :
    Calls Tryz.prog 7 #[.float .f64 a, .float .f64 b] w fun en wn => en = .returned (.bool true) ∧ Ext w wn := by
  have HSu : Hid (∀ w', Ext w w' → Calls Tryz.prog 14 #[] w' fun en w'' => en = .returned (.bool true) ∧ Ext w' w'') := fun w' hx => l_sure w' (hT.ext hx)
  have HFa : Hid (∀ w', Calls Tryz.prog 29 #[.float .f64 a] w' fun en wn => en = .returned (.bool (decide (mag a < INF))) ∧ w' = wn) := fun w' => c_finite a ha w'
  have HFb : Hid (∀ w', Calls Tryz.prog 29 #[.float .f64 b] w' fun en wn => en = .returned (.bool (decide (mag b < INF))) ∧ w' = wn) := fun w' => c_finite b hb w'
  rcases Nat.lt_or_ge (mag a) INF with fa | fa
  rotate_left
  · rw [show decide (mag a < INF) = false by simp; omega] at HFa
    clear hT ha hb fa HFb
    go_enter Tryz.func7, Tryz.ntmps7
    go_wp2_with (fail)
    refine (HFa.out _).mono ?_
    rintro en wn ⟨rfl, rfl⟩
    go_wp2_with (fail)
    refine (HSu.out _ (Ext.refl _)).mono ?_
    rintro en w1 ⟨rfl, hx⟩
    have X1 := Lib.hid hx
    clear hx
    go_wp2_with (fail)
    go_ret
    exact ⟨rfl, X1.out⟩
  rw [show decide (mag a < INF) = true by simpa using fa] at HFa
  rcases Nat.lt_or_ge (mag b) INF with fb | fb
  rotate_left
  · rw [show decide (mag b < INF) = false by simp; omega] at HFb
    clear hT ha hb fa fb
    go_enter Tryz.func7, Tryz.ntmps7
    go_wp2_with (fail)
    refine (HFa.out _).mono ?_
    rintro en wn ⟨rfl, rfl⟩
    go_wp2_with (fail)
    refine (HFb.out _).mono ?_
    rintro en wn ⟨rfl, rfl⟩
    go_wp2_with (fail)
    refine (HSu.out _ (Ext.refl _)).mono ?_
    rintro en w1 ⟨rfl, hx⟩
    have X1 := Lib.hid hx
    clear hx
    go_wp2_with (fail)
    go_ret
    exact ⟨rfl, X1.out⟩
  rw [show decide (mag b < INF) = true by simpa using fb] at HFb
  have HKa : Hid (∀ w', Calls Tryz.prog 30 #[.float .f64 a] w' fun en w'' => ∃ v, en = .returned v ∧ Ext w' w'' ∧ Ry w'' v (val a) (-1074)) := fun w' => k_Float a ha w'
  have HKb : Hid (∀ w', Calls Tryz.prog 30 #[.float .f64 b] w' fun en w'' => ∃ v, en = .returned v ∧ Ext w' w'' ∧ Ry w'' v (val b) (-1074)) := fun w' => k_Float b hb w'
  have HA : Hid (∀ m : Int, m = 1 ∨ m = 2 ∨ m = 3 → ∀ w', Ext w w' → Calls Tryz.prog 15 #[.float .f64 a, .float .f64 b, .int .i64 m] w' fun en w'' => en = .returned (.float .f64 (rSum a b m)) ∧ Ext w' w'') := fun m hm w' hx => r_Add_fin a b m ha hb fa fb hm w' (hT.ext hx)
  have HAc : Hid (∀ w', Ext w w' → Calls Tryz.prog 15 #[.float .f64 b, .float .f64 a, .int .i64 3] w' fun en w'' => en = .returned (.float .f64 (rSum a b 3)) ∧ Ext w' w'') := fun w' hx => by
    have := r_Add_fin b a 3 hb ha fb fa (by decide) w' (hT.ext hx)
    rwa [rSum_comm] at this
  have HM : Hid (∀ m : Int, m = 1 ∨ m = 2 ∨ m = 3 → ∀ w', Ext w w' → Calls Tryz.prog 21 #[.float .f64 a, .float .f64 b, .int .i64 m] w' fun en w'' => en = .returned (.float .f64 (pMul a b m)) ∧ Ext w' w'') := fun m hm w' hx => v_Mul a b m hm ha hb fa fb w' (hT.ext hx)
  have HMt : Hid (∀ w', Ext w w' → Calls Tryz.prog 21 #[.float .f64 a, .float .f64 (turned b), .int .i64 3] w' fun en w'' => en = .returned (.float .f64 (pMul a (turned b) 3)) ∧ Ext w' w'') := fun w' hx => v_Mul a (turned b) 3 (by decide) ha (turned_lt hb) fa (by rw [mag_turned hb]; exact fb) w' (hT.ext hx)
  have HTb : Hid (∀ w', Calls Tryz.prog 34 #[.float .f64 b] w' fun en wn => en = .returned (.float .f64 (turned b)) ∧ w' = wn) := fun w' => c_turned b hb w'
  have HTm : Hid (∀ w', Calls Tryz.prog 34 #[.float .f64 (pMul a (turned b) 3)] w' fun en wn => en = .returned (.float .f64 (pMul a b 1)) ∧ w' = wn) := fun w' => by
    have := c_turned (pMul a (turned b) 3) (pMul_lt _ _ _) w'
    rwa [← pMul_turn hb] at this
  have HS1 : Hid (∀ w', Calls Tryz.prog 9 #[.float .f64 (pMul a b 1), .float .f64 (pMul a b 1)] w' fun en wn => en = .returned (.bool true) ∧ w' = wn) := fun w' => l_same_of w' _ _ (pMul_lt _ _ _) (pMul_lt _ _ _) (sameF_self _)
  have HS2 : Hid (∀ w', Calls Tryz.prog 9 #[.float .f64 (rSum a b 3), .float .f64 (rSum a b 3)] w' fun en wn => en = .returned (.bool true) ∧ w' = wn) := fun w' => l_same_of w' _ _ (sum_lt _ _ _) (sum_lt _ _ _) (sameF_self _)
  have HPl : Hid (∀ w' u v, Ry w' u (val a) (-1074) → Ry w' v (val b) (-1074) → Calls Tryz.prog 32 #[u, v] w' fun en w'' => ∃ v, en = .returned v ∧ Ext w' w'' ∧ Ry w'' v (val a + val b) (-1074)) := fun w' u v g1 g2 => k_Plus u v _ _ (-1074) 2100 w' g1 g2 (val_bits fa) (val_bits fb) (by decide) (by decide)
  have HTi : Hid (∀ w' u v, Ry w' u (val a) (-1074) → Ry w' v (val b) (-1074) → Calls Tryz.prog 33 #[u, v] w' fun en w'' => ∃ v, en = .returned v ∧ Ext w' w'' ∧ Ry w'' v (val a * val b) (-1074 + -1074)) := fun w' u v g1 g2 => k_Times u v _ _ (-1074) (-1074) 2100 w' g1 g2 (val_bits fa) (val_bits fb) (by decide) (by decide) (by decide)
  have HB1 : Hid (∀ w' v, Ry w' v (val a + val b) (-1074) → Calls Tryz.prog 31 #[.float .f64 (rSum a b 1), .float .f64 (rSum a b 2), .float .f64 (rSum a b 3), v] w' fun en w'' => en = .returned (.bool true) ∧ Ext w' w'') := fun w' v g => w_between _ _ _ v (val a + val b) (-1074) 0 w' g (by decide) (by decide) (two_pow_lt_of (L := 2100 + 1) (M := 4200) (natAbs_add_lt (val_bits fa) (val_bits fb)) (by decide)) (btw_sum a b)
  have HB2 : Hid (∀ w' v, Ry w' v (val a * val b) (-1074 + -1074) → Calls Tryz.prog 31 #[.float .f64 (pMul a b 1), .float .f64 (pMul a b 2), .float .f64 (pMul a b 3), v] w' fun en w'' => en = .returned (.bool true) ∧ Ext w' w'') := fun w' v g => w_between _ _ _ v (val a * val b) (-1074 + -1074) 1074 w' g (by decide) (by decide) (two_pow_lt_of (L := 2100 + 2100) (M := 4200) (natAbs_mul_lt (val_bits fa) (val_bits fb)) (by decide)) (btw_mul a b)
  clear hT ha hb fa fb
  generalize pMul a (turned b) 3 = P4 at *
  generalize turned b = tb at *
  go_enter Tryz.func7, Tryz.ntmps7
  go_wp2_with (fail)
  refine (HFa.out _).mono ?_
  rintro en wn ⟨rfl, rfl⟩
  go_wp2_with (fail)
  refine (HFb.out _).mono ?_
  rintro en wn ⟨rfl, rfl⟩
  go_wp2_with (fail)
  refine (HKa.out _).mono ?_
  rintro en w1 ⟨v1, rfl, hx, hd⟩
  have X1 := Lib.hid (And.intro hx hd)
  clear hx hd
  go_wp2_with (fail)
  refine (HKb.out _).mono ?_
  rintro en w2 ⟨v2, rfl, hx, hd⟩
  have X2 := Lib.hid (And.intro (X1.out.1.trans hx) (And.intro (X1.out.2.ext hx) hd))
  obtain ⟨n1, p1, l1, c1, o1, E1, rfl, -⟩ := Ry.open X2.out.2.1
  obtain ⟨n2, p2, l2, c2, o2, E2, rfl, -⟩ := Ry.open X2.out.2.2
  clear hx hd
  obtain ⟨w3, hw3⟩ : ∃ w3, (w2.alloc (.cells #[.bool n1, .slice p1 l1 c1, .int .i64 E1] 35)).alloc (.cells #[.bool n2, .slice p2 l2 c2, .int .i64 E2] 35) = w3 := ⟨_, rfl⟩
  obtain ⟨g, hg⟩ : ∃ g, w2.heap.size = g := ⟨_, rfl⟩
  have H3 : Hid (Bx w3 35 g n1 (.slice p1 l1 c1) E1 ∧ Bx w3 35 (g + 1) n2 (.slice p2 l2 c2) E2 ∧ Ext w w3 ∧ Ext w2 w3) := by
    rw [← hw3, ← hg]
    exact ⟨Bx.new1 _ _ _ _ _ _, Bx.new2 _ _ _ _ _ _, (X2.out.1.alloc _).alloc _, ((Ext.refl _).alloc _).alloc _⟩
  have HP1 : Hid (∀ w', Ext w2 w' → Calls Tryz.prog 32 #[.agg #[.bool n1, .slice p1 l1 c1, .int .i64 E1], .agg #[.bool n2, .slice p2 l2 c2, .int .i64 E2]] w' fun en w'' => ∃ v, en = .returned v ∧ Ext w' w'' ∧ Ry w'' v (val a + val b) (-1074)) := fun w' hx => HPl.out w' _ _ (X2.out.2.1.ext hx) (X2.out.2.2.ext hx)
  have HP2 : Hid (∀ w', Ext w2 w' → Calls Tryz.prog 33 #[.agg #[.bool n1, .slice p1 l1 c1, .int .i64 E1], .agg #[.bool n2, .slice p2 l2 c2, .int .i64 E2]] w' fun en w'' => ∃ v, en = .returned v ∧ Ext w' w'' ∧ Ry w'' v (val a * val b) (-1074 + -1074)) := fun w' hx => HTi.out w' _ _ (X2.out.2.1.ext hx) (X2.out.2.2.ext hx)
  have a0 := H3.out.1.c0
  have a1 := H3.out.1.c1
  have a2 := H3.out.1.c2
  have a3 := H3.out.2.1.c0
  have a4 := H3.out.2.1.c1
  have a5 := H3.out.2.1.c2
  go_wp2_with (fail)
  go_region_held3 (fun w' => w'.cell? ⟨g, 0, none⟩ = some (.bool n1) ∧ w'.cell? ⟨g, 1, none⟩ = some (.slice p1 l1 c1) ∧ w'.cell? ⟨g, 2, none⟩ = some (.int .i64 E1) ∧ w'.cell? ⟨g + 1, 0, none⟩ = some (.bool n2) ∧ w'.cell? ⟨g + 1, 1, none⟩ = some (.slice p2 l2 c2) ∧ w'.cell? ⟨g + 1, 2, none⟩ = some (.int .i64 E2))
    (first | go_keep | (exact ⟨H8.out.1.c0, H8.out.1.c1, H8.out.1.c2, H8.out.2.1.c0, H8.out.2.1.c1, H8.out.2.1.c2⟩) | (exact ⟨H7.out.1.c0, H7.out.1.c1, H7.out.1.c2, H7.out.2.1.c0, H7.out.2.1.c1, H7.out.2.1.c2⟩) | (exact ⟨H6.out.1.c0, H6.out.1.c1, H6.out.1.c2, H6.out.2.1.c0, H6.out.2.1.c1, H6.out.2.1.c2⟩) | (exact ⟨H5.out.1.c0, H5.out.1.c1, H5.out.1.c2, H5.out.2.1.c0, H5.out.2.1.c1, H5.out.2.1.c2⟩) | (exact ⟨H4.out.1.c0, H4.out.1.c1, H4.out.1.c2, H4.out.2.1.c0, H4.out.2.1.c1, H4.out.2.1.c2⟩) | (exact ⟨H3.out.1.c0, H3.out.1.c1, H3.out.1.c2, H3.out.2.1.c0, H3.out.2.1.c1, H3.out.2.1.c2⟩) | fail)
    (first | (go_at_call_of 15 (Value.int .i64 1); refine (HA.out 1 (by decide) _ (by first | exact H3.out.2.2.1 | exact H3.out.2.2.1.drew | exact H3.out.2.2.1.drewN _ | fail)).mono ?_; rintro en w4 ⟨rfl, hx⟩; have hx1 : Ext w3 w4 := (by first | exact hx | exact (Ext.of_drew hx) | exact (Ext.of_drewN hx) | fail); have H4 : Hid (Bx w4 35 g n1 (.slice p1 l1 c1) E1 ∧ Bx w4 35 (g + 1) n2 (.slice p2 l2 c2) E2 ∧ Ext w w4 ∧ Ext w2 w4) := ⟨H3.out.1.ext hx1, H3.out.2.1.ext hx1, H3.out.2.2.1.trans hx1, H3.out.2.2.2.trans hx1⟩; clear hx hx1) | (go_at_call_of 15 (Value.int .i64 2); refine (HA.out 2 (by decide) _ (by first | exact H4.out.2.2.1 | exact H4.out.2.2.1.drew | exact H4.out.2.2.1.drewN _ | fail)).mono ?_; rintro en w5 ⟨rfl, hx⟩; have hx1 : Ext w4 w5 := (by first | exact hx | exact (Ext.of_drew hx) | exact (Ext.of_drewN hx) | fail); have H5 : Hid (Bx w5 35 g n1 (.slice p1 l1 c1) E1 ∧ Bx w5 35 (g + 1) n2 (.slice p2 l2 c2) E2 ∧ Ext w w5 ∧ Ext w2 w5) := ⟨H4.out.1.ext hx1, H4.out.2.1.ext hx1, H4.out.2.2.1.trans hx1, H4.out.2.2.2.trans hx1⟩; clear hx hx1) | (go_at_call_of 15 (Value.int .i64 3); refine (HA.out 3 (by decide) _ (by first | exact H5.out.2.2.1 | exact H5.out.2.2.1.drew | exact H5.out.2.2.1.drewN _ | fail)).mono ?_; rintro en w6 ⟨rfl, hx⟩; have hx1 : Ext w5 w6 := (by first | exact hx | exact (Ext.of_drew hx) | exact (Ext.of_drewN hx) | fail); have H6 : Hid (Bx w6 35 g n1 (.slice p1 l1 c1) E1 ∧ Bx w6 35 (g + 1) n2 (.slice p2 l2 c2) E2 ∧ Ext w w6 ∧ Ext w2 w6) := ⟨H5.out.1.ext hx1, H5.out.2.1.ext hx1, H5.out.2.2.1.trans hx1, H5.out.2.2.2.trans hx1⟩; clear hx hx1) | (go_at_call 32; refine (HP1.out _ (by first | exact H6.out.2.2.2 | exact H6.out.2.2.2.drew | exact H6.out.2.2.2.drewN _ | fail)).mono ?_; rintro en w7 ⟨v7, rfl, hx, hd⟩; have HV7 := Lib.hid hd; clear hd; have hx1 : Ext w6 w7 := (by first | exact hx | exact (Ext.of_drew hx) | exact (Ext.of_drewN hx) | fail); have H7 : Hid (Bx w7 35 g n1 (.slice p1 l1 c1) E1 ∧ Bx w7 35 (g + 1) n2 (.slice p2 l2 c2) E2 ∧ Ext w w7 ∧ Ext w2 w7) := ⟨H6.out.1.ext hx1, H6.out.2.1.ext hx1, H6.out.2.2.1.trans hx1, H6.out.2.2.2.trans hx1⟩; clear hx hx1) | (go_at_call 31; refine (HB1.out _ v7 (by first | exact HV7.out | exact HV7.out.ext ((Ext.refl _).drewN _) | exact HV7.out.ext (Ext.refl _).drew | fail)).mono ?_; rintro en w8 ⟨rfl, hx⟩; have hx1 : Ext w7 w8 := (by first | exact hx | exact (Ext.of_drew hx) | exact (Ext.of_drewN hx) | fail); have H8 : Hid (Bx w8 35 g n1 (.slice p1 l1 c1) E1 ∧ Bx w8 35 (g + 1) n2 (.slice p2 l2 c2) E2 ∧ Ext w w8 ∧ Ext w2 w8) := ⟨H7.out.1.ext hx1, H7.out.2.1.ext hx1, H7.out.2.2.1.trans hx1, H7.out.2.2.2.trans hx1⟩; clear hx hx1))
  clear a0 a1 a2 a3 a4 a5
  have a0 := H8.out.1.c0
  have a1 := H8.out.1.c1
  have a2 := H8.out.1.c2
  have a3 := H8.out.2.1.c0
  have a4 := H8.out.2.1.c1
  have a5 := H8.out.2.1.c2
  go_wp2_with (fail)
  go_region_held3 (fun w' => w'.cell? ⟨g, 0, none⟩ = some (.bool n1) ∧ w'.cell? ⟨g, 1, none⟩ = some (.slice p1 l1 c1) ∧ w'.cell? ⟨g, 2, none⟩ = some (.int .i64 E1) ∧ w'.cell? ⟨g + 1, 0, none⟩ = some (.bool n2) ∧ w'.cell? ⟨g + 1, 1, none⟩ = some (.slice p2 l2 c2) ∧ w'.cell? ⟨g + 1, 2, none⟩ = some (.int .i64 E2))
    (first | go_keep | (exact ⟨H13.out.1.c0, H13.out.1.c1, H13.out.1.c2, H13.out.2.1.c0, H13.out.2.1.c1, H13.out.2.1.c2⟩) | (exact ⟨H12.out.1.c0, H12.out.1.c1, H12.out.1.c2, H12.out.2.1.c0, H12.out.2.1.c1, H12.out.2.1.c2⟩) | (exact ⟨H11.out.1.c0, H11.out.1.c1, H11.out.1.c2, H11.out.2.1.c0, H11.out.2.1.c1, H11.out.2.1.c2⟩) | (exact ⟨H10.out.1.c0, H10.out.1.c1, H10.out.1.c2, H10.out.2.1.c0, H10.out.2.1.c1, H10.out.2.1.c2⟩) | (exact ⟨H9.out.1.c0, H9.out.1.c1, H9.out.1.c2, H9.out.2.1.c0, H9.out.2.1.c1, H9.out.2.1.c2⟩) | (exact ⟨H8.out.1.c0, H8.out.1.c1, H8.out.1.c2, H8.out.2.1.c0, H8.out.2.1.c1, H8.out.2.1.c2⟩) | fail)
    (first | (go_at_call_of 21 (Value.int .i64 1); refine (HM.out 1 (by decide) _ (by first | exact H8.out.2.2.1 | exact H8.out.2.2.1.drew | exact H8.out.2.2.1.drewN _ | fail)).mono ?_; rintro en w9 ⟨rfl, hx⟩; have hx1 : Ext w8 w9 := (by first | exact hx | exact (Ext.of_drew hx) | exact (Ext.of_drewN hx) | fail); have H9 : Hid (Bx w9 35 g n1 (.slice p1 l1 c1) E1 ∧ Bx w9 35 (g + 1) n2 (.slice p2 l2 c2) E2 ∧ Ext w w9 ∧ Ext w2 w9) := ⟨H8.out.1.ext hx1, H8.out.2.1.ext hx1, H8.out.2.2.1.trans hx1, H8.out.2.2.2.trans hx1⟩; clear hx hx1) | (go_at_call_of 21 (Value.int .i64 2); refine (HM.out 2 (by decide) _ (by first | exact H9.out.2.2.1 | exact H9.out.2.2.1.drew | exact H9.out.2.2.1.drewN _ | fail)).mono ?_; rintro en w10 ⟨rfl, hx⟩; have hx1 : Ext w9 w10 := (by first | exact hx | exact (Ext.of_drew hx) | exact (Ext.of_drewN hx) | fail); have H10 : Hid (Bx w10 35 g n1 (.slice p1 l1 c1) E1 ∧ Bx w10 35 (g + 1) n2 (.slice p2 l2 c2) E2 ∧ Ext w w10 ∧ Ext w2 w10) := ⟨H9.out.1.ext hx1, H9.out.2.1.ext hx1, H9.out.2.2.1.trans hx1, H9.out.2.2.2.trans hx1⟩; clear hx hx1) | (go_at_call_of 21 (Value.int .i64 3); refine (HM.out 3 (by decide) _ (by first | exact H10.out.2.2.1 | exact H10.out.2.2.1.drew | exact H10.out.2.2.1.drewN _ | fail)).mono ?_; rintro en w11 ⟨rfl, hx⟩; have hx1 : Ext w10 w11 := (by first | exact hx | exact (Ext.of_drew hx) | exact (Ext.of_drewN hx) | fail); have H11 : Hid (Bx w11 35 g n1 (.slice p1 l1 c1) E1 ∧ Bx w11 35 (g + 1) n2 (.slice p2 l2 c2) E2 ∧ Ext w w11 ∧ Ext w2 w11) := ⟨H10.out.1.ext hx1, H10.out.2.1.ext hx1, H10.out.2.2.1.trans hx1, H10.out.2.2.2.trans hx1⟩; clear hx hx1) | (go_at_call 33; refine (HP2.out _ (by first | exact H11.out.2.2.2 | exact H11.out.2.2.2.drew | exact H11.out.2.2.2.drewN _ | fail)).mono ?_; rintro en w12 ⟨v12, rfl, hx, hd⟩; have HV12 := Lib.hid hd; clear hd; have hx1 : Ext w11 w12 := (by first | exact hx | exact (Ext.of_drew hx) | exact (Ext.of_drewN hx) | fail); have H12 : Hid (Bx w12 35 g n1 (.slice p1 l1 c1) E1 ∧ Bx w12 35 (g + 1) n2 (.slice p2 l2 c2) E2 ∧ Ext w w12 ∧ Ext w2 w12) := ⟨H11.out.1.ext hx1, H11.out.2.1.ext hx1, H11.out.2.2.1.trans hx1, H11.out.2.2.2.trans hx1⟩; clear hx hx1) | (go_at_call 31; refine (HB2.out _ v12 (by first | exact HV12.out | exact HV12.out.ext ((Ext.refl _).drewN _) | exact HV12.out.ext (Ext.refl _).drew | fail)).mono ?_; rintro en w13 ⟨rfl, hx⟩; have hx1 : Ext w12 w13 := (by first | exact hx | exact (Ext.of_drew hx) | exact (Ext.of_drewN hx) | fail); have H13 : Hid (Bx w13 35 g n1 (.slice p1 l1 c1) E1 ∧ Bx w13 35 (g + 1) n2 (.slice p2 l2 c2) E2 ∧ Ext w w13 ∧ Ext w2 w13) := ⟨H12.out.1.ext hx1, H12.out.2.1.ext hx1, H12.out.2.2.1.trans hx1, H12.out.2.2.2.trans hx1⟩; clear hx hx1))
  clear a0 a1 a2 a3 a4 a5
  have a0 := H13.out.1.c0
  have a1 := H13.out.1.c1
  have a2 := H13.out.1.c2
  have a3 := H13.out.2.1.c0
  have a4 := H13.out.2.1.c1
  have a5 := H13.out.2.1.c2
  go_wp2_with (fail)
  refine (HM.out 1 (by decide) _ H13.out.2.2.1).mono ?_
  rintro en w20 ⟨rfl, hx⟩
  have X20 := Lib.hid (H13.out.2.2.1.trans hx)
  clear hx
  go_wp2_with (fail)
  refine (HTb.out _).mono ?_
  rintro en wn ⟨rfl, rfl⟩
  go_wp2_with (fail)
  refine (HMt.out _ X20.out).mono ?_
  rintro en w21 ⟨rfl, hx⟩
  have X21 := Lib.hid (X20.out.trans hx)
  clear hx
  go_wp2_with (fail)
  refine (HTm.out _).mono ?_
  rintro en wn ⟨rfl, rfl⟩
  go_wp2_with (fail)
  refine (HS1.out _).mono ?_
  rintro en wn ⟨rfl, rfl⟩
  go_wp2_with (fail)
  refine (HA.out 3 (by decide) _ X21.out).mono ?_
  rintro en w22 ⟨rfl, hx⟩
  have X22 := Lib.hid (X21.out.trans hx)
  clear hx
  go_wp2_with (fail)
  refine (HAc.out _ X22.out).mono ?_
  rintro en w23 ⟨rfl, hx⟩
  have X23 := Lib.hid (X22.out.trans hx)
  clear hx
  go_wp2_with (fail)
  refine (HS2.out _).mono ?_
  rintro en wn ⟨rfl, rfl⟩
  go_wp2_with (fail)
  refine (HSu.out _ X23.out).mono ?_
  rintro en w24 ⟨rfl, hx⟩
  have X24 := Lib.hid (X23.out.trans hx)
  clear hx
  go_wp2_with (fail)
  go_ret
  exact ⟨rfl, X24.out⟩
end Go.Proofs.YtdpjkddllimcoaaGreatDoor
end
