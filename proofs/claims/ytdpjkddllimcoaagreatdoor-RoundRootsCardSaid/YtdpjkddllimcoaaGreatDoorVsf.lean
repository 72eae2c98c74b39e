/- A part of the proof (16 of 18) of this: RoundSums: for every two floats and every mode the program's rounded sum and difference are the document's: the law returns true; condition: the table of package math/bits reads as its text lays it. -/
import Derived.Test.YtdpjkddllimcoaaGreatDoorVse

section
/- The reference's rounding: what is cut. -/
namespace Fl
open Go Go.RowKit
theorem num_low {zs : List Nat} : num zs % 2 = zs.getD 0 0 % 2 := by
  cases zs with
  | nil => rfl
  | cons z zs => simp only [num, List.getD_cons_zero]; omega
theorem no_up {rm qo : Nat} (h : rm ≠ 0 ∨ qo = 1) (h1 : rm = 0) (h2 : qo = 0) : False := by omega
theorem bits_and_1q (x : Nat) (hx : x < 18446744073709551616) : bits .and .u64 (x : Int) 1 = ((x % 2 : Nat) : Int) := by
  have h := u64_and_nat x 1 hx (by omega)
  rw [Nat.and_one_is_mod] at h
  exact h
end Fl
namespace Go.Proofs.YtdpjkddllimcoaaGreatDoor
open Go.RowKit Fl
set_option maxRecDepth 20000 in
set_option maxHeartbeats 4000000 in
theorem k_To_cut (a : Value) (z e m : Int) (L : Nat) (w : World) (h : Ry w a z e) (hz : z ≠ 0) (hL : z.natAbs < 2 ^ L) (hLb : L ≤ 1000000) (he : -1152921504606846976 ≤ e ∧ e ≤ 1152921504606846976) (hm : m = 1 ∨ m = 2 ∨ m = 3) (hc : topI z e ≤ 1024) (hc2 : -1075 ≤ topI z e) (hx : ∀ E o, Rep o E z e → E < max (topI z e - 53) (-1074)) :
    Calls Tryz.prog 96 #[a, .int .i64 m] w fun en wn => en = .returned (.float .f64 (word (decide (z < 0)) (rnd (cD z.natAbs e) (aim (decide (z < 0)) m)))) ∧ Ext w wn := by
  obtain ⟨n, p, l, c, o, E, rfl, hn, hl, hN, hr, hp⟩ := h.open
  have t0 := len_ne0 (Nat.pos_of_ne_zero (fun h0 => hz (hl.1 h0)))
  obtain ⟨r1, r2, r3, r4⟩ := hr.range hz hL
  have hT : topI z e = bl o.natAbs + E := by unfold topI; rw [if_neg hz, hr.top hz]
  have HTp : Hid (∀ w', Ext w w' → Calls Tryz.prog 124 #[.agg #[.bool n, .slice p l c, .int .i64 E]] w' fun en w'' => en = .returned (.int .i64 (topI z e)) ∧ Ext w' w'') := fun w' hx' => k_High _ z e L w' (h.ext hx') hL (by omega) (by omega)
  have HX : Hid (∀ o1, Ext w (w.alloc o1)) := fun o1 => (Ext.refl w).alloc o1
  have HBx : Hid (Bx (w.alloc (.cells #[.bool n, .slice p l c, .int .i64 E] 35)) 35 w.heap.size n (.slice p l c) E) := Bx.new _ _ _ _ _
  rw [← hr.cD (hr.odd_ne hz), ← hn]
  rw [hT] at HTp
  have hbN := bl_le_of r3
  have h0N : 0 < o.natAbs := by omega
  have hx := hx E o hr
  rw [hT] at hc hc2 hx
  have hp1 := bl_pos (Nat.ne_of_gt h0N)
  obtain ⟨e0, he0⟩ : ∃ e0, max ((bl o.natAbs : Int) + E - 53) (-1074) = e0 := ⟨_, rfl⟩
  rw [he0] at hx
  obtain ⟨D, hD⟩ : ∃ D : Nat, e0 - E = (D : Int) := ⟨(e0 - E).toNat, by omega⟩
  obtain ⟨D1, hD1⟩ : ∃ D1 : Nat, (D : Int) - 1 = (D1 : Int) := ⟨D - 1, by omega⟩
  have hDD : D - 1 = D1 := by omega
  have hD1b : 1 ≤ D := by omega
  have hDb : D ≤ 1010000 := by omega
  have hov := to_cut (N := o.natAbs) (d := aim n m) h0N (by omega) he0.symm hD
  have hodd := odd_cut r4 hD1b
  have hnear := away_near o.natAbs D hD1b
  rw [hDD] at hnear
  have hV1 : Hid (∀ w', Ext w w' → Calls Tryz.prog 92 #[.slice p l c, .int .i64 (D : Int)] w' fun en w'' => ∃ v' b', en = .returned (.tuple #[v', .bool b']) ∧ Ext w' w'' ∧ Nt w'' v' (o.natAbs / 2 ^ D)) := fun w' hx' => (k_down _ _ D w' (hN.ext hx') (fit_of (k := L) (l := 1048575) r3 (by omega)) (by omega)).mono fun en wn ⟨v', q1, q2, q3⟩ => ⟨v', _, q1, q2, q3⟩
  have hV2 : Hid (∀ w', Ext w w' → Calls Tryz.prog 92 #[.slice p l c, .int .i64 (D1 : Int)] w' fun en w'' => ∃ v', en = .returned (.tuple #[v', .bool (decide (o.natAbs % 2 ^ D1 = 0))]) ∧ Ext w' w'' ∧ Nt w'' v' (o.natAbs / 2 ^ D1)) := fun w' hx' => k_down _ _ D1 w' (hN.ext hx') (fit_of (k := L) (l := 1048575) r3 (by omega)) (by omega)
  generalize o.natAbs = N at *
  have t1 : decide (1024 < (bl N : Int) + E) = false := by simp; omega
  have t3 : decide (e0 ≤ E) = false := by simp; omega
  have t4 : decide ((bl N : Int) + E < -1075) = false := by simp; omega
  have hbb : -2305843009213693952 ≤ (bl N : Int) + E := by omega
  have hbc : (bl N : Int) + E ≤ 1024 := by omega
  have he1 : -1074 ≤ e0 := by omega
  have he2 : e0 ≤ 971 := by omega
  have hS : Hid (∀ w' v, Nt w' v (N / 2 ^ D) → Calls Tryz.prog 134 #[v] w' fun en wn => en = .returned (.int .u64 ((N / 2 ^ D : Nat) : Int)) ∧ w' = wn) := fun w' v hv => k_small v (N / 2 ^ D) w' hv (by have := hov.1; unfold B at this; omega)
  have hqb : ((N / 2 ^ D : Nat) : Int) < 9007199254740992 := by have := hov.1; unfold B at this; omega
  have hQo := bits_and_1q (N / 2 ^ D) (by omega)
  obtain ⟨A, hA⟩ : ∃ A, A = away (aim n m) (N / 2 ^ D) (N % 2 ^ D) (2 ^ D) := ⟨_, rfl⟩
  rw [← hA] at hov
  have hB : Hid (∀ (q : Nat) w', A = q → (q : Int) < 9007199254740992 → Calls Tryz.prog 133 #[.bool n, .int .u64 (q : Int), .int .i64 e0] w' fun en wn => en = .returned (.float .f64 (word n (rnd (cD N E) (aim n m)))) ∧ w' = wn) := by
    intro q w' hq hq2
    rw [hov.2.2]
    subst hq
    refine k_build n A e0 w' (by unfold B; omega) (by omega) ?_
    rcases hov.2.1 with h | h
    · exact .inl h
    · exact .inr (Nat.le_trans h (by rw [hA]; exact (away_le _ _ _ _).1))
  have hB2 : Hid (∀ w', (A : Int) = 9007199254740992 → e0 + 1 ≤ 971 → Calls Tryz.prog 133 #[.bool n, .int .u64 4503599627370496, .int .i64 (e0 + 1)] w' fun en wn => en = .returned (.float .f64 (word n (rnd (cD N E) (aim n m)))) ∧ w' = wn) := by
    intro w' hq hq2
    rw [hov.2.2]
    have := k_build n 4503599627370496 (e0 + 1) w' (by decide) (by omega) (.inr (by decide))
    have e3 : (e0 + 1 + 1074).toNat * B + 4503599627370496 = (e0 + 1074).toNat * B + A := by unfold B; omega
    rw [e3] at this
    exact this
  have hI : Hid ((A : Int) = 9007199254740992 → 971 < e0 + 1 → word n (rnd (cD N E) (aim n m)) = word n INF) := by
    intro hq hq2
    rw [hov.2.2]
    congr 1
    unfold B INF
    omega
  generalize word n (rnd (cD N E) (aim n m)) = R at *
  have hdir : Hid ((aim n m = 0 → A = N / 2 ^ D) ∧ (aim n m = 2 → A = N / 2 ^ D + 1) ∧ (aim n m = 1 → A = if N / 2 ^ D1 % 2 = 1 ∧ (N % 2 ^ D1 ≠ 0 ∨ N / 2 ^ D % 2 = 1) then N / 2 ^ D + 1 else N / 2 ^ D)) := by
    refine ⟨fun h => ?_, fun h => ?_, fun h => ?_⟩
    · rw [hA, h]; unfold away; rw [if_pos rfl]
    · rw [hA, h]; unfold away; rw [if_neg (by decide), if_pos rfl, if_neg hodd]
    · rw [hA, h, hnear]
  obtain ⟨xb, hxb⟩ : ∃ xb : Bool, xb = decide (N % 2 ^ D1 = 0) := ⟨_, rfl⟩
  rw [← hxb] at hV2
  have Hxb : Hid ((xb = true → N % 2 ^ D1 = 0) ∧ (xb = false → N % 2 ^ D1 ≠ 0)) := by rw [hxb]; exact ⟨fun h => by simpa using h, fun h => by simpa using h⟩
  clear hov hA hnear hodd hxb hDD h hz hL he hn hl hN hr hp r3 r4 hT h0N hp1 hc hc2 hx
  generalize (bl N : Int) + E = top at *
  generalize N / 2 ^ D = q at *
  generalize N / 2 ^ D1 = H at *
  generalize N % 2 ^ D1 = rm at *
  generalize hqo : q % 2 = qo at *
  have Hqo := Lib.hid hqo
  clear hbN hqo
  obtain ⟨Q1, hQ1⟩ : ∃ Q1 : Nat, (q : Int) + 1 = (Q1 : Int) := ⟨q + 1, by omega⟩
  have HQ1 : Hid (q + 1 = Q1) := by show _ = _; omega
  have hQb : (Q1 : Int) < 9007199254740993 := by omega
  rcases aim_of n hm with ⟨rfl, hd0⟩ | ⟨rfl, rfl, hd0⟩ | ⟨rfl, rfl, hd0⟩ | ⟨rfl, rfl, hd0⟩ | ⟨rfl, rfl, hd0⟩
  · clear hm
    cases n
    · skip
      go_enter Tryz.func96, Tryz.ntmps96
      go_wp2_with (fail)
      refine (HTp.out _ (HX.out _)).mono ?_
      rintro en w2 ⟨rfl, hx⟩
      have H2 : Hid (Bx w2 35 w.heap.size false (.slice p l c) E ∧ Ext w w2) := ⟨HBx.out.ext hx, (HX.out _).trans hx⟩
      have a0 := H2.out.1.c0
      have a1 := H2.out.1.c1
      have a2 := H2.out.1.c2
      clear hx
      go_wp2_with (fail)
      refine (hV1.out _ H2.out.2).mono ?_
      rintro en w3 ⟨v1, B1, rfl, hx, hd⟩
      have H3 : Hid (Bx w3 35 w.heap.size false (.slice p l c) E ∧ Ext w w3) := ⟨H2.out.1.ext hx, H2.out.2.trans hx⟩
      have HV := Lib.hid hd
      clear a0 a1 a2 hx hd
      have a0 := H3.out.1.c0
      have a1 := H3.out.1.c1
      have a2 := H3.out.1.c2
      go_wp2_with (fail)
      refine (hS.out _ v1 HV.out).mono ?_
      rintro en wn ⟨rfl, rfl⟩
      go_wp2_with (fail)
      refine (hV2.out _ H3.out.2).mono ?_
      rintro en w4 ⟨v2, rfl, hx, hd⟩
      have H4 : Hid (Bx w4 35 w.heap.size false (.slice p l c) E ∧ Ext w w4) := ⟨H3.out.1.ext hx, H3.out.2.trans hx⟩
      clear a0 a1 a2 hx
      have a0 := H4.out.1.c0
      have a1 := H4.out.1.c1
      have a2 := H4.out.1.c2
      obtain ⟨zs, s1, s2, s3, s4⟩ := hd
      obtain ⟨p5, c5, rfl, -⟩ := s1.form
      have HZ := Lib.hid (And.intro s2 s4)
      by_cases hzs : zs = []
      · subst hzs
        have HH : Hid (H % 2 ≠ 1) := by show _ ≠ _; rw [← s4]; decide
        clear s1 s2 s3 s4 HZ
        have HA : Hid (A = q) := (show A = q by rw [hdir.out.2.2 hd0, if_neg (fun h => HH.out h.1)])
        have f1 : ((q : Int) == 9007199254740992) = false := by rw [beq_eq_false_iff_ne]; omega
        have f2 : decide (971 < e0) = false := by rw [decide_eq_false_iff_not]; omega
        clear hQ1 hQb
        go_wp2_with (fail)
        refine (hB.out q _ HA.out hqb).mono ?_
        rintro en wn ⟨rfl, rfl⟩
        go_wp2_with (fail)
        go_ret
        exact ⟨rfl, H4.out.2⟩
      · have hz1 := List.length_pos_iff.2 hzs
        obtain ⟨b5, off5, rfl, hc5⟩ := s1.at hz1
        rw [Nat.add_zero] at hc5
        have hx5 := s2.getD 0
        have Hl := num_low (zs := zs)
        rw [s4] at Hl
        generalize zs.getD 0 0 = x5 at *
        have hb5 := bits_and_1' x5 hx5
        rw [← Hl] at hb5
        obtain ⟨h2, hh2⟩ : ∃ h2, H % 2 = h2 := ⟨_, rfl⟩
        rw [hh2] at hb5
        have t5 : decide (0 < zs.length) = true := by simp; omega
        obtain ⟨hb, hhb⟩ : ∃ hb : Bool, ((h2 : Int) == 1) = hb := ⟨_, rfl⟩
        have HH : Hid ((hb = true → H % 2 = 1) ∧ (hb = false → H % 2 ≠ 1)) := by rw [hh2, ← hhb]; exact ⟨fun h => by simp at h; omega, fun h => by simp at h; omega⟩
        clear s1 s2 s3 s4 hx5 Hl HZ hzs hh2
        cases hb
        · skip
          have HA : Hid (A = q) := (show A = q by rw [hdir.out.2.2 hd0, if_neg (fun h => HH.out.2 rfl h.1)])
          have f1 : ((q : Int) == 9007199254740992) = false := by rw [beq_eq_false_iff_ne]; omega
          have f2 : decide (971 < e0) = false := by rw [decide_eq_false_iff_not]; omega
          clear hQ1 hQb
          go_wp2_with (fail)
          refine (hB.out q _ HA.out hqb).mono ?_
          rintro en wn ⟨rfl, rfl⟩
          go_wp2_with (fail)
          go_ret
          exact ⟨rfl, H4.out.2⟩
        · cases xb
          · skip
            have HA : Hid (A = Q1) := (show A = Q1 by rw [hdir.out.2.2 hd0, if_pos ⟨HH.out.1 rfl, .inl (Hxb.out.2 rfl)⟩]; exact HQ1.out)
            by_cases f : (Q1 : Int) = 9007199254740992
            · have f1 : ((Q1 : Int) == 9007199254740992) = true := by rw [beq_iff_eq]; exact f
              have HA2 : Hid ((A : Int) = 9007199254740992) := by show _ = _; rw [HA.out]; exact f
              by_cases g : 971 < e0 + 1
              · have f2 : decide (971 < e0 + 1) = true := by rw [decide_eq_true_eq]; exact g
                obtain rfl : R = word false INF := hI.out HA2.out g
                clear f hB hB2
                go_wp2_with (fail)
                refine (k_sign false _).mono ?_
                rintro en wn ⟨rfl, rfl⟩
                go_wp2_with (fail)
                refine (m_inf _ _).mono ?_
                rintro en wn ⟨rfl, rfl⟩
                go_wp2_with (fail)
                go_ret
                exact ⟨rfl, H4.out.2⟩
              · have f2 : decide (971 < e0 + 1) = false := by rw [decide_eq_false_iff_not]; exact g
                clear f
                go_wp2_with (fail)
                refine (hB2.out _ HA2.out (by omega)).mono ?_
                rintro en wn ⟨rfl, rfl⟩
                go_wp2_with (fail)
                go_ret
                exact ⟨rfl, H4.out.2⟩
            · have f1 : ((Q1 : Int) == 9007199254740992) = false := by rw [beq_eq_false_iff_ne]; exact f
              have f2 : decide (971 < e0) = false := by rw [decide_eq_false_iff_not]; omega
              go_wp2_with (fail)
              refine (hB.out Q1 _ HA.out (by omega)).mono ?_
              rintro en wn ⟨rfl, rfl⟩
              go_wp2_with (fail)
              go_ret
              exact ⟨rfl, H4.out.2⟩

          · rcases (show qo = 0 ∨ qo = 1 by have := Hqo.out; omega) with hq0 | hq0
            · have t6 : (((qo : Nat) : Int) == 1) = false := by rw [hq0]; rfl
              have HA : Hid (A = q) := (show A = q by rw [hdir.out.2.2 hd0, if_neg (fun h => no_up h.2 (Hxb.out.1 rfl) hq0)])
              have f1 : ((q : Int) == 9007199254740992) = false := by rw [beq_eq_false_iff_ne]; omega
              have f2 : decide (971 < e0) = false := by rw [decide_eq_false_iff_not]; omega
              clear hQ1 hQb
              go_wp2_with (fail)
              refine (hB.out q _ HA.out hqb).mono ?_
              rintro en wn ⟨rfl, rfl⟩
              go_wp2_with (fail)
              go_ret
              exact ⟨rfl, H4.out.2⟩

            · have t6 : (((qo : Nat) : Int) == 1) = true := by rw [hq0]; rfl
              have HA : Hid (A = Q1) := (show A = Q1 by rw [hdir.out.2.2 hd0, if_pos ⟨HH.out.1 rfl, .inr hq0⟩]; exact HQ1.out)
              by_cases f : (Q1 : Int) = 9007199254740992
              · have f1 : ((Q1 : Int) == 9007199254740992) = true := by rw [beq_iff_eq]; exact f
                have HA2 : Hid ((A : Int) = 9007199254740992) := by show _ = _; rw [HA.out]; exact f
                by_cases g : 971 < e0 + 1
                · have f2 : decide (971 < e0 + 1) = true := by rw [decide_eq_true_eq]; exact g
                  obtain rfl : R = word false INF := hI.out HA2.out g
                  clear f hB hB2
                  go_wp2_with (fail)
                  refine (k_sign false _).mono ?_
                  rintro en wn ⟨rfl, rfl⟩
                  go_wp2_with (fail)
                  refine (m_inf _ _).mono ?_
                  rintro en wn ⟨rfl, rfl⟩
                  go_wp2_with (fail)
                  go_ret
                  exact ⟨rfl, H4.out.2⟩
                · have f2 : decide (971 < e0 + 1) = false := by rw [decide_eq_false_iff_not]; exact g
                  clear f
                  go_wp2_with (fail)
                  refine (hB2.out _ HA2.out (by omega)).mono ?_
                  rintro en wn ⟨rfl, rfl⟩
                  go_wp2_with (fail)
                  go_ret
                  exact ⟨rfl, H4.out.2⟩
              · have f1 : ((Q1 : Int) == 9007199254740992) = false := by rw [beq_eq_false_iff_ne]; exact f
                have f2 : decide (971 < e0) = false := by rw [decide_eq_false_iff_not]; omega
                go_wp2_with (fail)
                refine (hB.out Q1 _ HA.out (by omega)).mono ?_
                rintro en wn ⟨rfl, rfl⟩
                go_wp2_with (fail)
                go_ret
                exact ⟨rfl, H4.out.2⟩
    · skip
      go_enter Tryz.func96, Tryz.ntmps96
      go_wp2_with (fail)
      refine (HTp.out _ (HX.out _)).mono ?_
      rintro en w2 ⟨rfl, hx⟩
      have H2 : Hid (Bx w2 35 w.heap.size true (.slice p l c) E ∧ Ext w w2) := ⟨HBx.out.ext hx, (HX.out _).trans hx⟩
      have a0 := H2.out.1.c0
      have a1 := H2.out.1.c1
      have a2 := H2.out.1.c2
      clear hx
      go_wp2_with (fail)
      refine (hV1.out _ H2.out.2).mono ?_
      rintro en w3 ⟨v1, B1, rfl, hx, hd⟩
      have H3 : Hid (Bx w3 35 w.heap.size true (.slice p l c) E ∧ Ext w w3) := ⟨H2.out.1.ext hx, H2.out.2.trans hx⟩
      have HV := Lib.hid hd
      clear a0 a1 a2 hx hd
      have a0 := H3.out.1.c0
      have a1 := H3.out.1.c1
      have a2 := H3.out.1.c2
      go_wp2_with (fail)
      refine (hS.out _ v1 HV.out).mono ?_
      rintro en wn ⟨rfl, rfl⟩
      go_wp2_with (fail)
      refine (hV2.out _ H3.out.2).mono ?_
      rintro en w4 ⟨v2, rfl, hx, hd⟩
      have H4 : Hid (Bx w4 35 w.heap.size true (.slice p l c) E ∧ Ext w w4) := ⟨H3.out.1.ext hx, H3.out.2.trans hx⟩
      clear a0 a1 a2 hx
      have a0 := H4.out.1.c0
      have a1 := H4.out.1.c1
      have a2 := H4.out.1.c2
      obtain ⟨zs, s1, s2, s3, s4⟩ := hd
      obtain ⟨p5, c5, rfl, -⟩ := s1.form
      have HZ := Lib.hid (And.intro s2 s4)
      by_cases hzs : zs = []
      · subst hzs
        have HH : Hid (H % 2 ≠ 1) := by show _ ≠ _; rw [← s4]; decide
        clear s1 s2 s3 s4 HZ
        have HA : Hid (A = q) := (show A = q by rw [hdir.out.2.2 hd0, if_neg (fun h => HH.out h.1)])
        have f1 : ((q : Int) == 9007199254740992) = false := by rw [beq_eq_false_iff_ne]; omega
        have f2 : decide (971 < e0) = false := by rw [decide_eq_false_iff_not]; omega
        clear hQ1 hQb
        go_wp2_with (fail)
        refine (hB.out q _ HA.out hqb).mono ?_
        rintro en wn ⟨rfl, rfl⟩
        go_wp2_with (fail)
        go_ret
        exact ⟨rfl, H4.out.2⟩
      · have hz1 := List.length_pos_iff.2 hzs
        obtain ⟨b5, off5, rfl, hc5⟩ := s1.at hz1
        rw [Nat.add_zero] at hc5
        have hx5 := s2.getD 0
        have Hl := num_low (zs := zs)
        rw [s4] at Hl
        generalize zs.getD 0 0 = x5 at *
        have hb5 := bits_and_1' x5 hx5
        rw [← Hl] at hb5
        obtain ⟨h2, hh2⟩ : ∃ h2, H % 2 = h2 := ⟨_, rfl⟩
        rw [hh2] at hb5
        have t5 : decide (0 < zs.length) = true := by simp; omega
        obtain ⟨hb, hhb⟩ : ∃ hb : Bool, ((h2 : Int) == 1) = hb := ⟨_, rfl⟩
        have HH : Hid ((hb = true → H % 2 = 1) ∧ (hb = false → H % 2 ≠ 1)) := by rw [hh2, ← hhb]; exact ⟨fun h => by simp at h; omega, fun h => by simp at h; omega⟩
        clear s1 s2 s3 s4 hx5 Hl HZ hzs hh2
        cases hb
        · skip
          have HA : Hid (A = q) := (show A = q by rw [hdir.out.2.2 hd0, if_neg (fun h => HH.out.2 rfl h.1)])
          have f1 : ((q : Int) == 9007199254740992) = false := by rw [beq_eq_false_iff_ne]; omega
          have f2 : decide (971 < e0) = false := by rw [decide_eq_false_iff_not]; omega
          clear hQ1 hQb
          go_wp2_with (fail)
          refine (hB.out q _ HA.out hqb).mono ?_
          rintro en wn ⟨rfl, rfl⟩
          go_wp2_with (fail)
          go_ret
          exact ⟨rfl, H4.out.2⟩
        · cases xb
          · skip
            have HA : Hid (A = Q1) := (show A = Q1 by rw [hdir.out.2.2 hd0, if_pos ⟨HH.out.1 rfl, .inl (Hxb.out.2 rfl)⟩]; exact HQ1.out)
            by_cases f : (Q1 : Int) = 9007199254740992
            · have f1 : ((Q1 : Int) == 9007199254740992) = true := by rw [beq_iff_eq]; exact f
              have HA2 : Hid ((A : Int) = 9007199254740992) := by show _ = _; rw [HA.out]; exact f
              by_cases g : 971 < e0 + 1
              · have f2 : decide (971 < e0 + 1) = true := by rw [decide_eq_true_eq]; exact g
                obtain rfl : R = word true INF := hI.out HA2.out g
                clear f hB hB2
                go_wp2_with (fail)
                refine (k_sign true _).mono ?_
                rintro en wn ⟨rfl, rfl⟩
                go_wp2_with (fail)
                refine (m_inf _ _).mono ?_
                rintro en wn ⟨rfl, rfl⟩
                go_wp2_with (fail)
                go_ret
                exact ⟨rfl, H4.out.2⟩
              · have f2 : decide (971 < e0 + 1) = false := by rw [decide_eq_false_iff_not]; exact g
                clear f
                go_wp2_with (fail)
                refine (hB2.out _ HA2.out (by omega)).mono ?_
                rintro en wn ⟨rfl, rfl⟩
                go_wp2_with (fail)
                go_ret
                exact ⟨rfl, H4.out.2⟩
            · have f1 : ((Q1 : Int) == 9007199254740992) = false := by rw [beq_eq_false_iff_ne]; exact f
              have f2 : decide (971 < e0) = false := by rw [decide_eq_false_iff_not]; omega
              go_wp2_with (fail)
              refine (hB.out Q1 _ HA.out (by omega)).mono ?_
              rintro en wn ⟨rfl, rfl⟩
              go_wp2_with (fail)
              go_ret
              exact ⟨rfl, H4.out.2⟩

          · rcases (show qo = 0 ∨ qo = 1 by have := Hqo.out; omega) with hq0 | hq0
            · have t6 : (((qo : Nat) : Int) == 1) = false := by rw [hq0]; rfl
              have HA : Hid (A = q) := (show A = q by rw [hdir.out.2.2 hd0, if_neg (fun h => no_up h.2 (Hxb.out.1 rfl) hq0)])
              have f1 : ((q : Int) == 9007199254740992) = false := by rw [beq_eq_false_iff_ne]; omega
              have f2 : decide (971 < e0) = false := by rw [decide_eq_false_iff_not]; omega
              clear hQ1 hQb
              go_wp2_with (fail)
              refine (hB.out q _ HA.out hqb).mono ?_
              rintro en wn ⟨rfl, rfl⟩
              go_wp2_with (fail)
              go_ret
              exact ⟨rfl, H4.out.2⟩

            · have t6 : (((qo : Nat) : Int) == 1) = true := by rw [hq0]; rfl
              have HA : Hid (A = Q1) := (show A = Q1 by rw [hdir.out.2.2 hd0, if_pos ⟨HH.out.1 rfl, .inr hq0⟩]; exact HQ1.out)
              by_cases f : (Q1 : Int) = 9007199254740992
              · have f1 : ((Q1 : Int) == 9007199254740992) = true := by rw [beq_iff_eq]; exact f
                have HA2 : Hid ((A : Int) = 9007199254740992) := by show _ = _; rw [HA.out]; exact f
                by_cases g : 971 < e0 + 1
                · have f2 : decide (971 < e0 + 1) = true := by rw [decide_eq_true_eq]; exact g
                  obtain rfl : R = word true INF := hI.out HA2.out g
                  clear f hB hB2
                  go_wp2_with (fail)
                  refine (k_sign true _).mono ?_
                  rintro en wn ⟨rfl, rfl⟩
                  go_wp2_with (fail)
                  refine (m_inf _ _).mono ?_
                  rintro en wn ⟨rfl, rfl⟩
                  go_wp2_with (fail)
                  go_ret
                  exact ⟨rfl, H4.out.2⟩
                · have f2 : decide (971 < e0 + 1) = false := by rw [decide_eq_false_iff_not]; exact g
                  clear f
                  go_wp2_with (fail)
                  refine (hB2.out _ HA2.out (by omega)).mono ?_
                  rintro en wn ⟨rfl, rfl⟩
                  go_wp2_with (fail)
                  go_ret
                  exact ⟨rfl, H4.out.2⟩
              · have f1 : ((Q1 : Int) == 9007199254740992) = false := by rw [beq_eq_false_iff_ne]; exact f
                have f2 : decide (971 < e0) = false := by rw [decide_eq_false_iff_not]; omega
                go_wp2_with (fail)
                refine (hB.out Q1 _ HA.out (by omega)).mono ?_
                rintro en wn ⟨rfl, rfl⟩
                go_wp2_with (fail)
                go_ret
                exact ⟨rfl, H4.out.2⟩
  · clear hm
    go_enter Tryz.func96, Tryz.ntmps96
    go_wp2_with (fail)
    refine (HTp.out _ (HX.out _)).mono ?_
    rintro en w2 ⟨rfl, hx⟩
    have H2 : Hid (Bx w2 35 w.heap.size true (.slice p l c) E ∧ Ext w w2) := ⟨HBx.out.ext hx, (HX.out _).trans hx⟩
    have a0 := H2.out.1.c0
    have a1 := H2.out.1.c1
    have a2 := H2.out.1.c2
    clear hx
    go_wp2_with (fail)
    refine (hV1.out _ H2.out.2).mono ?_
    rintro en w3 ⟨v1, B1, rfl, hx, hd⟩
    have H3 : Hid (Bx w3 35 w.heap.size true (.slice p l c) E ∧ Ext w w3) := ⟨H2.out.1.ext hx, H2.out.2.trans hx⟩
    have HV := Lib.hid hd
    clear a0 a1 a2 hx hd
    have a0 := H3.out.1.c0
    have a1 := H3.out.1.c1
    have a2 := H3.out.1.c2
    go_wp2_with (fail)
    refine (hS.out _ v1 HV.out).mono ?_
    rintro en wn ⟨rfl, rfl⟩
    go_wp2_with (fail)
    refine (hV2.out _ H3.out.2).mono ?_
    rintro en w4 ⟨v2, rfl, hx, hd⟩
    have H4 : Hid (Bx w4 35 w.heap.size true (.slice p l c) E ∧ Ext w w4) := ⟨H3.out.1.ext hx, H3.out.2.trans hx⟩
    clear a0 a1 a2 hx
    have a0 := H4.out.1.c0
    have a1 := H4.out.1.c1
    have a2 := H4.out.1.c2
    obtain ⟨zs, s1, s2, s3, s4⟩ := hd
    obtain ⟨p5, c5, rfl, -⟩ := s1.form
    have HZ := Lib.hid (And.intro s2 s4)
    by_cases hzs : zs = []
    · subst hzs
      have HH : Hid (H % 2 ≠ 1) := by show _ ≠ _; rw [← s4]; decide
      clear s1 s2 s3 s4 HZ
      have HA : Hid (A = Q1) := (hdir.out.2.1 hd0).trans HQ1.out
      by_cases f : (Q1 : Int) = 9007199254740992
      · have f1 : ((Q1 : Int) == 9007199254740992) = true := by rw [beq_iff_eq]; exact f
        have HA2 : Hid ((A : Int) = 9007199254740992) := by show _ = _; rw [HA.out]; exact f
        by_cases g : 971 < e0 + 1
        · have f2 : decide (971 < e0 + 1) = true := by rw [decide_eq_true_eq]; exact g
          obtain rfl : R = word true INF := hI.out HA2.out g
          clear f hB hB2
          go_wp2_with (fail)
          refine (k_sign true _).mono ?_
          rintro en wn ⟨rfl, rfl⟩
          go_wp2_with (fail)
          refine (m_inf _ _).mono ?_
          rintro en wn ⟨rfl, rfl⟩
          go_wp2_with (fail)
          go_ret
          exact ⟨rfl, H4.out.2⟩
        · have f2 : decide (971 < e0 + 1) = false := by rw [decide_eq_false_iff_not]; exact g
          clear f
          go_wp2_with (fail)
          refine (hB2.out _ HA2.out (by omega)).mono ?_
          rintro en wn ⟨rfl, rfl⟩
          go_wp2_with (fail)
          go_ret
          exact ⟨rfl, H4.out.2⟩
      · have f1 : ((Q1 : Int) == 9007199254740992) = false := by rw [beq_eq_false_iff_ne]; exact f
        have f2 : decide (971 < e0) = false := by rw [decide_eq_false_iff_not]; omega
        go_wp2_with (fail)
        refine (hB.out Q1 _ HA.out (by omega)).mono ?_
        rintro en wn ⟨rfl, rfl⟩
        go_wp2_with (fail)
        go_ret
        exact ⟨rfl, H4.out.2⟩
    · have hz1 := List.length_pos_iff.2 hzs
      obtain ⟨b5, off5, rfl, hc5⟩ := s1.at hz1
      rw [Nat.add_zero] at hc5
      have hx5 := s2.getD 0
      have Hl := num_low (zs := zs)
      rw [s4] at Hl
      generalize zs.getD 0 0 = x5 at *
      have hb5 := bits_and_1' x5 hx5
      rw [← Hl] at hb5
      obtain ⟨h2, hh2⟩ : ∃ h2, H % 2 = h2 := ⟨_, rfl⟩
      rw [hh2] at hb5
      have t5 : decide (0 < zs.length) = true := by simp; omega
      obtain ⟨hb, hhb⟩ : ∃ hb : Bool, ((h2 : Int) == 1) = hb := ⟨_, rfl⟩
      have HH : Hid ((hb = true → H % 2 = 1) ∧ (hb = false → H % 2 ≠ 1)) := by rw [hh2, ← hhb]; exact ⟨fun h => by simp at h; omega, fun h => by simp at h; omega⟩
      clear s1 s2 s3 s4 hx5 Hl HZ hzs hh2
      have HA : Hid (A = Q1) := (hdir.out.2.1 hd0).trans HQ1.out
      by_cases f : (Q1 : Int) = 9007199254740992
      · have f1 : ((Q1 : Int) == 9007199254740992) = true := by rw [beq_iff_eq]; exact f
        have HA2 : Hid ((A : Int) = 9007199254740992) := by show _ = _; rw [HA.out]; exact f
        by_cases g : 971 < e0 + 1
        · have f2 : decide (971 < e0 + 1) = true := by rw [decide_eq_true_eq]; exact g
          obtain rfl : R = word true INF := hI.out HA2.out g
          clear f hB hB2
          go_wp2_with (fail)
          refine (k_sign true _).mono ?_
          rintro en wn ⟨rfl, rfl⟩
          go_wp2_with (fail)
          refine (m_inf _ _).mono ?_
          rintro en wn ⟨rfl, rfl⟩
          go_wp2_with (fail)
          go_ret
          exact ⟨rfl, H4.out.2⟩
        · have f2 : decide (971 < e0 + 1) = false := by rw [decide_eq_false_iff_not]; exact g
          clear f
          go_wp2_with (fail)
          refine (hB2.out _ HA2.out (by omega)).mono ?_
          rintro en wn ⟨rfl, rfl⟩
          go_wp2_with (fail)
          go_ret
          exact ⟨rfl, H4.out.2⟩
      · have f1 : ((Q1 : Int) == 9007199254740992) = false := by rw [beq_eq_false_iff_ne]; exact f
        have f2 : decide (971 < e0) = false := by rw [decide_eq_false_iff_not]; omega
        go_wp2_with (fail)
        refine (hB.out Q1 _ HA.out (by omega)).mono ?_
        rintro en wn ⟨rfl, rfl⟩
        go_wp2_with (fail)
        go_ret
        exact ⟨rfl, H4.out.2⟩
  · clear hm
    go_enter Tryz.func96, Tryz.ntmps96
    go_wp2_with (fail)
    refine (HTp.out _ (HX.out _)).mono ?_
    rintro en w2 ⟨rfl, hx⟩
    have H2 : Hid (Bx w2 35 w.heap.size false (.slice p l c) E ∧ Ext w w2) := ⟨HBx.out.ext hx, (HX.out _).trans hx⟩
    have a0 := H2.out.1.c0
    have a1 := H2.out.1.c1
    have a2 := H2.out.1.c2
    clear hx
    go_wp2_with (fail)
    refine (hV1.out _ H2.out.2).mono ?_
    rintro en w3 ⟨v1, B1, rfl, hx, hd⟩
    have H3 : Hid (Bx w3 35 w.heap.size false (.slice p l c) E ∧ Ext w w3) := ⟨H2.out.1.ext hx, H2.out.2.trans hx⟩
    have HV := Lib.hid hd
    clear a0 a1 a2 hx hd
    have a0 := H3.out.1.c0
    have a1 := H3.out.1.c1
    have a2 := H3.out.1.c2
    go_wp2_with (fail)
    refine (hS.out _ v1 HV.out).mono ?_
    rintro en wn ⟨rfl, rfl⟩
    go_wp2_with (fail)
    refine (hV2.out _ H3.out.2).mono ?_
    rintro en w4 ⟨v2, rfl, hx, hd⟩
    have H4 : Hid (Bx w4 35 w.heap.size false (.slice p l c) E ∧ Ext w w4) := ⟨H3.out.1.ext hx, H3.out.2.trans hx⟩
    clear a0 a1 a2 hx
    have a0 := H4.out.1.c0
    have a1 := H4.out.1.c1
    have a2 := H4.out.1.c2
    obtain ⟨zs, s1, s2, s3, s4⟩ := hd
    obtain ⟨p5, c5, rfl, -⟩ := s1.form
    have HZ := Lib.hid (And.intro s2 s4)
    by_cases hzs : zs = []
    · subst hzs
      have HH : Hid (H % 2 ≠ 1) := by show _ ≠ _; rw [← s4]; decide
      clear s1 s2 s3 s4 HZ
      have HA : Hid (A = q) := hdir.out.1 hd0
      have f1 : ((q : Int) == 9007199254740992) = false := by rw [beq_eq_false_iff_ne]; omega
      have f2 : decide (971 < e0) = false := by rw [decide_eq_false_iff_not]; omega
      clear hQ1 hQb
      go_wp2_with (fail)
      refine (hB.out q _ HA.out hqb).mono ?_
      rintro en wn ⟨rfl, rfl⟩
      go_wp2_with (fail)
      go_ret
      exact ⟨rfl, H4.out.2⟩
    · have hz1 := List.length_pos_iff.2 hzs
      obtain ⟨b5, off5, rfl, hc5⟩ := s1.at hz1
      rw [Nat.add_zero] at hc5
      have hx5 := s2.getD 0
      have Hl := num_low (zs := zs)
      rw [s4] at Hl
      generalize zs.getD 0 0 = x5 at *
      have hb5 := bits_and_1' x5 hx5
      rw [← Hl] at hb5
      obtain ⟨h2, hh2⟩ : ∃ h2, H % 2 = h2 := ⟨_, rfl⟩
      rw [hh2] at hb5
      have t5 : decide (0 < zs.length) = true := by simp; omega
      obtain ⟨hb, hhb⟩ : ∃ hb : Bool, ((h2 : Int) == 1) = hb := ⟨_, rfl⟩
      have HH : Hid ((hb = true → H % 2 = 1) ∧ (hb = false → H % 2 ≠ 1)) := by rw [hh2, ← hhb]; exact ⟨fun h => by simp at h; omega, fun h => by simp at h; omega⟩
      clear s1 s2 s3 s4 hx5 Hl HZ hzs hh2
      have HA : Hid (A = q) := hdir.out.1 hd0
      have f1 : ((q : Int) == 9007199254740992) = false := by rw [beq_eq_false_iff_ne]; omega
      have f2 : decide (971 < e0) = false := by rw [decide_eq_false_iff_not]; omega
      clear hQ1 hQb
      go_wp2_with (fail)
      refine (hB.out q _ HA.out hqb).mono ?_
      rintro en wn ⟨rfl, rfl⟩
      go_wp2_with (fail)
      go_ret
      exact ⟨rfl, H4.out.2⟩
  · clear hm
    go_enter Tryz.func96, Tryz.ntmps96
    go_wp2_with (fail)
    refine (HTp.out _ (HX.out _)).mono ?_
    rintro en w2 ⟨rfl, hx⟩
    have H2 : Hid (Bx w2 35 w.heap.size true (.slice p l c) E ∧ Ext w w2) := ⟨HBx.out.ext hx, (HX.out _).trans hx⟩
    have a0 := H2.out.1.c0
    have a1 := H2.out.1.c1
    have a2 := H2.out.1.c2
    clear hx
    go_wp2_with (fail)
    refine (hV1.out _ H2.out.2).mono ?_
    rintro en w3 ⟨v1, B1, rfl, hx, hd⟩
    have H3 : Hid (Bx w3 35 w.heap.size true (.slice p l c) E ∧ Ext w w3) := ⟨H2.out.1.ext hx, H2.out.2.trans hx⟩
    have HV := Lib.hid hd
    clear a0 a1 a2 hx hd
    have a0 := H3.out.1.c0
    have a1 := H3.out.1.c1
    have a2 := H3.out.1.c2
    go_wp2_with (fail)
    refine (hS.out _ v1 HV.out).mono ?_
    rintro en wn ⟨rfl, rfl⟩
    go_wp2_with (fail)
    refine (hV2.out _ H3.out.2).mono ?_
    rintro en w4 ⟨v2, rfl, hx, hd⟩
    have H4 : Hid (Bx w4 35 w.heap.size true (.slice p l c) E ∧ Ext w w4) := ⟨H3.out.1.ext hx, H3.out.2.trans hx⟩
    clear a0 a1 a2 hx
    have a0 := H4.out.1.c0
    have a1 := H4.out.1.c1
    have a2 := H4.out.1.c2
    obtain ⟨zs, s1, s2, s3, s4⟩ := hd
    obtain ⟨p5, c5, rfl, -⟩ := s1.form
    have HZ := Lib.hid (And.intro s2 s4)
    by_cases hzs : zs = []
    · subst hzs
      have HH : Hid (H % 2 ≠ 1) := by show _ ≠ _; rw [← s4]; decide
      clear s1 s2 s3 s4 HZ
      have HA : Hid (A = q) := hdir.out.1 hd0
      have f1 : ((q : Int) == 9007199254740992) = false := by rw [beq_eq_false_iff_ne]; omega
      have f2 : decide (971 < e0) = false := by rw [decide_eq_false_iff_not]; omega
      clear hQ1 hQb
      go_wp2_with (fail)
      refine (hB.out q _ HA.out hqb).mono ?_
      rintro en wn ⟨rfl, rfl⟩
      go_wp2_with (fail)
      go_ret
      exact ⟨rfl, H4.out.2⟩
    · have hz1 := List.length_pos_iff.2 hzs
      obtain ⟨b5, off5, rfl, hc5⟩ := s1.at hz1
      rw [Nat.add_zero] at hc5
      have hx5 := s2.getD 0
      have Hl := num_low (zs := zs)
      rw [s4] at Hl
      generalize zs.getD 0 0 = x5 at *
      have hb5 := bits_and_1' x5 hx5
      rw [← Hl] at hb5
      obtain ⟨h2, hh2⟩ : ∃ h2, H % 2 = h2 := ⟨_, rfl⟩
      rw [hh2] at hb5
      have t5 : decide (0 < zs.length) = true := by simp; omega
      obtain ⟨hb, hhb⟩ : ∃ hb : Bool, ((h2 : Int) == 1) = hb := ⟨_, rfl⟩
      have HH : Hid ((hb = true → H % 2 = 1) ∧ (hb = false → H % 2 ≠ 1)) := by rw [hh2, ← hhb]; exact ⟨fun h => by simp at h; omega, fun h => by simp at h; omega⟩
      clear s1 s2 s3 s4 hx5 Hl HZ hzs hh2
      have HA : Hid (A = q) := hdir.out.1 hd0
      have f1 : ((q : Int) == 9007199254740992) = false := by rw [beq_eq_false_iff_ne]; omega
      have f2 : decide (971 < e0) = false := by rw [decide_eq_false_iff_not]; omega
      clear hQ1 hQb
      go_wp2_with (fail)
      refine (hB.out q _ HA.out hqb).mono ?_
      rintro en wn ⟨rfl, rfl⟩
      go_wp2_with (fail)
      go_ret
      exact ⟨rfl, H4.out.2⟩
  · clear hm
    go_enter Tryz.func96, Tryz.ntmps96
    go_wp2_with (fail)
    refine (HTp.out _ (HX.out _)).mono ?_
    rintro en w2 ⟨rfl, hx⟩
    have H2 : Hid (Bx w2 35 w.heap.size false (.slice p l c) E ∧ Ext w w2) := ⟨HBx.out.ext hx, (HX.out _).trans hx⟩
    have a0 := H2.out.1.c0
    have a1 := H2.out.1.c1
    have a2 := H2.out.1.c2
    clear hx
    go_wp2_with (fail)
    refine (hV1.out _ H2.out.2).mono ?_
    rintro en w3 ⟨v1, B1, rfl, hx, hd⟩
    have H3 : Hid (Bx w3 35 w.heap.size false (.slice p l c) E ∧ Ext w w3) := ⟨H2.out.1.ext hx, H2.out.2.trans hx⟩
    have HV := Lib.hid hd
    clear a0 a1 a2 hx hd
    have a0 := H3.out.1.c0
    have a1 := H3.out.1.c1
    have a2 := H3.out.1.c2
    go_wp2_with (fail)
    refine (hS.out _ v1 HV.out).mono ?_
    rintro en wn ⟨rfl, rfl⟩
    go_wp2_with (fail)
    refine (hV2.out _ H3.out.2).mono ?_
    rintro en w4 ⟨v2, rfl, hx, hd⟩
    have H4 : Hid (Bx w4 35 w.heap.size false (.slice p l c) E ∧ Ext w w4) := ⟨H3.out.1.ext hx, H3.out.2.trans hx⟩
    clear a0 a1 a2 hx
    have a0 := H4.out.1.c0
    have a1 := H4.out.1.c1
    have a2 := H4.out.1.c2
    obtain ⟨zs, s1, s2, s3, s4⟩ := hd
    obtain ⟨p5, c5, rfl, -⟩ := s1.form
    have HZ := Lib.hid (And.intro s2 s4)
    by_cases hzs : zs = []
    · subst hzs
      have HH : Hid (H % 2 ≠ 1) := by show _ ≠ _; rw [← s4]; decide
      clear s1 s2 s3 s4 HZ
      have HA : Hid (A = Q1) := (hdir.out.2.1 hd0).trans HQ1.out
      by_cases f : (Q1 : Int) = 9007199254740992
      · have f1 : ((Q1 : Int) == 9007199254740992) = true := by rw [beq_iff_eq]; exact f
        have HA2 : Hid ((A : Int) = 9007199254740992) := by show _ = _; rw [HA.out]; exact f
        by_cases g : 971 < e0 + 1
        · have f2 : decide (971 < e0 + 1) = true := by rw [decide_eq_true_eq]; exact g
          obtain rfl : R = word false INF := hI.out HA2.out g
          clear f hB hB2
          go_wp2_with (fail)
          refine (k_sign false _).mono ?_
          rintro en wn ⟨rfl, rfl⟩
          go_wp2_with (fail)
          refine (m_inf _ _).mono ?_
          rintro en wn ⟨rfl, rfl⟩
          go_wp2_with (fail)
          go_ret
          exact ⟨rfl, H4.out.2⟩
        · have f2 : decide (971 < e0 + 1) = false := by rw [decide_eq_false_iff_not]; exact g
          clear f
          go_wp2_with (fail)
          refine (hB2.out _ HA2.out (by omega)).mono ?_
          rintro en wn ⟨rfl, rfl⟩
          go_wp2_with (fail)
          go_ret
          exact ⟨rfl, H4.out.2⟩
      · have f1 : ((Q1 : Int) == 9007199254740992) = false := by rw [beq_eq_false_iff_ne]; exact f
        have f2 : decide (971 < e0) = false := by rw [decide_eq_false_iff_not]; omega
        go_wp2_with (fail)
        refine (hB.out Q1 _ HA.out (by omega)).mono ?_
        rintro en wn ⟨rfl, rfl⟩
        go_wp2_with (fail)
        go_ret
        exact ⟨rfl, H4.out.2⟩
    · have hz1 := List.length_pos_iff.2 hzs
      obtain ⟨b5, off5, rfl, hc5⟩ := s1.at hz1
      rw [Nat.add_zero] at hc5
      have hx5 := s2.getD 0
      have Hl := num_low (zs := zs)
      rw [s4] at Hl
      generalize zs.getD 0 0 = x5 at *
      have hb5 := bits_and_1' x5 hx5
      rw [← Hl] at hb5
      obtain ⟨h2, hh2⟩ : ∃ h2, H % 2 = h2 := ⟨_, rfl⟩
      rw [hh2] at hb5
      have t5 : decide (0 < zs.length) = true := by simp; omega
      obtain ⟨hb, hhb⟩ : ∃ hb : Bool, ((h2 : Int) == 1) = hb := ⟨_, rfl⟩
      have HH : Hid ((hb = true → H % 2 = 1) ∧ (hb = false → H % 2 ≠ 1)) := by rw [hh2, ← hhb]; exact ⟨fun h => by simp at h; omega, fun h => by simp at h; omega⟩
      clear s1 s2 s3 s4 hx5 Hl HZ hzs hh2
      have HA : Hid (A = Q1) := (hdir.out.2.1 hd0).trans HQ1.out
      by_cases f : (Q1 : Int) = 9007199254740992
      · have f1 : ((Q1 : Int) == 9007199254740992) = true := by rw [beq_iff_eq]; exact f
        have HA2 : Hid ((A : Int) = 9007199254740992) := by show _ = _; rw [HA.out]; exact f
        by_cases g : 971 < e0 + 1
        · have f2 : decide (971 < e0 + 1) = true := by rw [decide_eq_true_eq]; exact g
          obtain rfl : R = word false INF := hI.out HA2.out g
          clear f hB hB2
          go_wp2_with (fail)
          refine (k_sign false _).mono ?_
          rintro en wn ⟨rfl, rfl⟩
          go_wp2_with (fail)
          refine (m_inf _ _).mono ?_
          rintro en wn ⟨rfl, rfl⟩
          go_wp2_with (fail)
          go_ret
          exact ⟨rfl, H4.out.2⟩
        · have f2 : decide (971 < e0 + 1) = false := by rw [decide_eq_false_iff_not]; exact g
          clear f
          go_wp2_with (fail)
          refine (hB2.out _ HA2.out (by omega)).mono ?_
          rintro en wn ⟨rfl, rfl⟩
          go_wp2_with (fail)
          go_ret
          exact ⟨rfl, H4.out.2⟩
      · have f1 : ((Q1 : Int) == 9007199254740992) = false := by rw [beq_eq_false_iff_ne]; exact f
        have f2 : decide (971 < e0) = false := by rw [decide_eq_false_iff_not]; omega
        go_wp2_with (fail)
        refine (hB.out Q1 _ HA.out (by omega)).mono ?_
        rintro en wn ⟨rfl, rfl⟩
        go_wp2_with (fail)
        go_ret
        exact ⟨rfl, H4.out.2⟩
end Go.Proofs.YtdpjkddllimcoaaGreatDoor
end

section
/- The reference's rounding, whole. -/
namespace Fl
open Go Go.RowKit
theorem Rep.le_exp {o E o' E' z e : Int} (h : Rep o E z e) (h' : Rep o' E' z e) (hz : z ≠ 0) : E' ≤ E := by
  rcases h with ⟨h1, -, -⟩ | ⟨ho, k, h3, h4⟩
  · exact absurd h1 hz
  · rcases h' with ⟨h1, -, -⟩ | ⟨ho', k', h3', h4'⟩
    · exact absurd h1 hz
    · rcases Nat.lt_or_ge k k' with hk | hk
      · have h5 : o.natAbs * 2 ^ k = o'.natAbs * 2 ^ k' := by rw [← natAbs_mul_pow, ← natAbs_mul_pow, ← h3, ← h3']
        rw [show k' = (k' - k - 1) + 1 + k by omega, Nat.pow_add, ← Nat.mul_assoc] at h5
        have h6 := Nat.eq_of_mul_eq_mul_right (Nat.two_pow_pos k) h5
        rw [Nat.pow_succ, ← Nat.mul_assoc] at h6
        omega
      · omega
theorem Rep.exp_uniq {o E o' E' z e : Int} (h : Rep o E z e) (h' : Rep o' E' z e) (hz : z ≠ 0) : E' = E :=
  Int.le_antisymm (h.le_exp h' hz) (h'.le_exp h hz)
end Fl
namespace Go.Proofs.YtdpjkddllimcoaaGreatDoor
open Go.RowKit Fl
theorem k_To (a : Value) (z e m : Int) (L : Nat) (w : World) (h : Ry w a z e) (hz : z ≠ 0) (hL : z.natAbs < 2 ^ L) (hLb : L ≤ 1000000) (he : -1152921504606846976 ≤ e ∧ e ≤ 1152921504606846976) (hm : m = 1 ∨ m = 2 ∨ m = 3) :
    Calls Tryz.prog 96 #[a, .int .i64 m] w fun en wn => en = .returned (.float .f64 (word (decide (z < 0)) (rnd (cD z.natAbs e) (aim (decide (z < 0)) m)))) ∧ Ext w wn := by
  by_cases h1 : 1024 < topI z e
  · exact k_To_over a z e m L w h hz hL hLb he hm h1
  · obtain ⟨o, E, hd, hr⟩ := h
    by_cases h2 : max (topI z e - 53) (-1074) ≤ E
    · exact k_To_exact a z e m L w ⟨o, E, hd, hr⟩ hz hL hLb he hm (by omega) (fun E' o' hr' => by rw [hr.exp_uniq hr' hz]; exact h2)
    · by_cases h3 : topI z e < -1075
      · exact k_To_under a z e m L w ⟨o, E, hd, hr⟩ hz hL hLb he hm h3
      · exact k_To_cut a z e m L w ⟨o, E, hd, hr⟩ hz hL hLb he hm (by omega) (by omega) (fun E' o' hr' => by rw [hr.exp_uniq hr' hz]; omega)
end Go.Proofs.YtdpjkddllimcoaaGreatDoor
end

section
/- Quotients and roots as comparisons, plain. -/
namespace Fl
/-- a quotient x / y times 2 to the e. -/
def cR (x y : Nat) (e : Int) : Nat → Ordering := cQ (x * 2 ^ (e + 1075).toNat) (y * 2 ^ (-(e + 1075)).toNat)
/-- a root of x times 2 to the e. -/
def cT (x : Nat) (e : Int) : Nat → Ordering := cS (x * 2 ^ (e + 2150).toNat) (2 ^ (-(e + 2150)).toNat)
theorem cmp_mul {a b k : Nat} (hk : 0 < k) : compare (a * k) (b * k) = compare a b := by
  rcases Nat.lt_trichotomy a b with h | h | h
  · rw [Nat.compare_eq_lt.2 h, Nat.compare_eq_lt.2 (Nat.mul_lt_mul_of_pos_right h hk)]
  · subst h; rw [Nat.compare_eq_eq.2 rfl, Nat.compare_eq_eq.2 rfl]
  · rw [Nat.compare_eq_gt.2 h, Nat.compare_eq_gt.2 (Nat.mul_lt_mul_of_pos_right h hk)]
theorem cmp_cross {a b c d k l : Nat} (hk : 0 < k) (hl : 0 < l) (h1 : a * k = c * l) (h2 : b * k = d * l) : compare a b = compare c d := by
  rw [← cmp_mul (a := a) (b := b) hk, ← cmp_mul (a := c) (b := d) hl, h1, h2]
theorem pow_cross (s : Int) (k : Nat) : 2 ^ (s + k).toNat * 2 ^ (-s).toNat = 2 ^ k * 2 ^ s.toNat * 2 ^ (-(s + k)).toNat := by
  rw [← Nat.pow_add, ← Nat.pow_add, ← Nat.pow_add]
  congr 1
  omega
/-- the comparison in the units of x times 2 to the k. -/
theorem cR_at (x y : Nat) (e : Int) (k t : Nat) : cR x y e t = compare (x * 2 ^ k * 2 ^ (e - k + 1075).toNat) (t * 2 ^ (-(e - k + 1075)).toNat * y) := by
  have h := pow_cross (e - k + 1075) k
  rw [show e - (k : Int) + 1075 + k = e + 1075 by omega] at h
  unfold cR cQ
  refine cmp_cross (Nat.two_pow_pos (-(e - k + 1075)).toNat) (Nat.two_pow_pos (-(e + 1075)).toNat) ?_ ?_
  · rw [Nat.mul_assoc, h, Nat.mul_assoc, Nat.mul_assoc, Nat.mul_assoc]
  · rw [Nat.mul_comm y]; simp only [Nat.mul_assoc, Nat.mul_comm, Nat.mul_left_comm]
theorem cR_shift (x y : Nat) (e : Int) (k : Nat) : cR (x * 2 ^ k) y (e - k) = cR x y e := by
  funext t
  rw [cR_at x y e k t, cR_at (x * 2 ^ k) y (e - k) 0 t]
  simp
theorem cR_shift' (x y : Nat) (e : Int) (k : Nat) : cR x (y * 2 ^ k) (e + k) = cR x y e := by
  funext t
  rw [cR_at x (y * 2 ^ k) (e + k) k t, cR_at x y e 0 t]
  rw [show e + (k : Int) - k + 1075 = e + 1075 by omega, show e - ((0 : Nat) : Int) + 1075 = e + 1075 by omega]
  refine cmp_cross Nat.one_pos (Nat.two_pow_pos k) ?_ ?_
  · simp only [Nat.pow_zero, Nat.mul_one]; simp only [Nat.mul_assoc, Nat.mul_comm, Nat.mul_left_comm]
  · simp only [Nat.mul_one]; simp only [Nat.mul_assoc, Nat.mul_comm, Nat.mul_left_comm]
theorem cR_anti (x y : Nat) (e : Int) : Anti (cR x y e) := cQ_anti _ _
theorem Cr.quo (x y k : Nat) (e : Int) (hy : 0 < y) : Cr (cR x y e) (x * 2 ^ k / y) (e - k) (decide (x * 2 ^ k % y ≠ 0)) := by
  refine ⟨cR_anti x y e, ?_⟩
  have hd := Nat.div_add_mod (x * 2 ^ k) y
  have hm := Nat.mod_lt (x * 2 ^ k) hy
  have ha := cR_at x y e k
  generalize x * 2 ^ k = X at *
  generalize X / y = q at *
  generalize X % y = r at *
  have hA : 0 < 2 ^ (e - (k : Int) + 1075).toNat := Nat.two_pow_pos _
  by_cases h0 : r = 0
  · rw [if_neg (by simp [h0])]
    funext t
    rw [ha]
    show _ = compare (q * 2 ^ (e - (k : Int) + 1075).toNat) (t * 2 ^ (-(e - (k : Int) + 1075)).toNat)
    generalize 2 ^ (e - (k : Int) + 1075).toNat = A at *
    generalize 2 ^ (-(e - (k : Int) + 1075)).toNat = D at *
    rw [← hd, h0, Nat.add_zero, Nat.mul_comm y q, Nat.mul_right_comm]
    exact cmp_mul hy
  · rw [if_pos (by simp [h0])]
    intro t
    rw [ha]
    show (compare (q * 2 ^ (e - (k : Int) + 1075).toNat) (t * 2 ^ (-(e - (k : Int) + 1075)).toNat) ≠ _ → _) ∧ (compare ((q + 1) * 2 ^ (e - (k : Int) + 1075).toNat) (t * 2 ^ (-(e - (k : Int) + 1075)).toNat) ≠ _ → _)
    generalize 2 ^ (e - (k : Int) + 1075).toNat = A at *
    generalize t * 2 ^ (-(e - (k : Int) + 1075)).toNat = T at *
    have hq : q * y < X := by rw [Nat.mul_comm]; omega
    have hq1 : X < (q + 1) * y := by rw [Nat.add_mul, Nat.mul_comm q, Nat.one_mul]; omega
    refine ⟨fun h => ?_, fun h => ?_⟩
    · rw [cmp_ne_lt] at h
      rw [Nat.compare_eq_gt]
      calc T * y ≤ q * A * y := Nat.mul_le_mul_right y h
        _ = q * y * A := Nat.mul_right_comm _ _ _
        _ < X * A := Nat.mul_lt_mul_of_pos_right hq hA
    · rw [cmp_ne_gt] at h
      rw [Nat.compare_eq_lt]
      calc X * A < (q + 1) * y * A := Nat.mul_lt_mul_of_pos_right hq1 hA
        _ = (q + 1) * A * y := Nat.mul_right_comm _ _ _
        _ ≤ T * y := Nat.mul_le_mul_right y h
/-- the root's comparison in the units of x times 2 to the k. -/
theorem cT_at (x : Nat) (e e' : Int) (k t : Nat) (h2 : 2 * e' = e - k) : cT x e t = compare (x * 2 ^ k * (2 ^ (e' + 1075).toNat * 2 ^ (e' + 1075).toNat)) (t * 2 ^ (-(e' + 1075)).toNat * (t * 2 ^ (-(e' + 1075)).toNat)) := by
  have h := pow_cross (e - k + 2150) k
  rw [show e - (k : Int) + 2150 + k = e + 2150 by omega] at h
  have e1 : 2 ^ (e' + 1075).toNat * 2 ^ (e' + 1075).toNat = 2 ^ (e - k + 2150).toNat := by rw [← Nat.pow_add]; congr 1; omega
  have e2 : 2 ^ (-(e' + 1075)).toNat * 2 ^ (-(e' + 1075)).toNat = 2 ^ (-(e - k + 2150)).toNat := by rw [← Nat.pow_add]; congr 1; omega
  rw [Nat.mul_mul_mul_comm t _ t _, e1, e2]
  unfold cT cS
  refine cmp_cross (Nat.two_pow_pos (-(e - k + 2150)).toNat) (Nat.two_pow_pos (-(e + 2150)).toNat) ?_ ?_
  · rw [Nat.mul_assoc, h, Nat.mul_assoc, Nat.mul_assoc, Nat.mul_assoc]
  · simp only [Nat.mul_assoc, Nat.mul_comm, Nat.mul_left_comm]
theorem cT_anti (x : Nat) (e : Int) : Anti (cT x e) := cS_anti _ _
theorem cT_shift (x : Nat) (e : Int) (k : Nat) : cT (x * 2 ^ k) (e - k) = cT x e := by
  funext t
  unfold cT cS
  have h := pow_cross (e - k + 2150) k
  rw [show e - (k : Int) + 2150 + k = e + 2150 by omega] at h
  refine cmp_cross (Nat.two_pow_pos (-(e + 2150)).toNat) (Nat.two_pow_pos (-(e - k + 2150)).toNat) ?_ ?_
  · rw [Nat.mul_assoc x (2 ^ (e + 2150).toNat), h]; simp only [Nat.mul_assoc]
  · simp only [Nat.mul_assoc, Nat.mul_comm, Nat.mul_left_comm]
theorem sq_lt {a b : Nat} (h : a < b) : a * a < b * b := Nat.mul_self_lt_mul_self h
theorem sq_le {a b : Nat} (h : a ≤ b) : a * a ≤ b * b := Nat.mul_self_le_mul_self h
theorem cmp_sq (a b : Nat) : compare (a * a) (b * b) = compare a b := by
  rcases Nat.lt_trichotomy a b with h | h | h
  · rw [Nat.compare_eq_lt.2 h, Nat.compare_eq_lt.2 (sq_lt h)]
  · subst h; rw [Nat.compare_eq_eq.2 rfl, Nat.compare_eq_eq.2 rfl]
  · rw [Nat.compare_eq_gt.2 h, Nat.compare_eq_gt.2 (sq_lt h)]
theorem Cr.root (x k r : Nat) (e e' : Int) (h2 : 2 * e' = e - k) (hr1 : r * r ≤ x * 2 ^ k) (hr2 : x * 2 ^ k < (r + 1) * (r + 1)) : Cr (cT x e) r e' (decide (r * r ≠ x * 2 ^ k)) := by
  refine ⟨cT_anti x e, ?_⟩
  have ha := fun t => cT_at x e e' k t h2
  generalize x * 2 ^ k = X at *
  have hA : 0 < 2 ^ (e' + 1075).toNat := Nat.two_pow_pos _
  by_cases h0 : r * r = X
  · rw [if_neg (by simp [h0])]
    funext t
    rw [ha, ← h0, Nat.mul_mul_mul_comm]
    exact cmp_sq _ _
  · rw [if_pos (by simp [h0])]
    intro t
    rw [ha]
    show (compare (r * 2 ^ (e' + 1075).toNat) (t * 2 ^ (-(e' + 1075)).toNat) ≠ _ → _) ∧ (compare ((r + 1) * 2 ^ (e' + 1075).toNat) (t * 2 ^ (-(e' + 1075)).toNat) ≠ _ → _)
    generalize 2 ^ (e' + 1075).toNat = A at *
    generalize t * 2 ^ (-(e' + 1075)).toNat = T at *
    have hAA : 0 < A * A := Nat.mul_pos hA hA
    have hlt : r * r < X := by omega
    refine ⟨fun h => ?_, fun h => ?_⟩
    · rw [cmp_ne_lt] at h
      rw [Nat.compare_eq_gt]
      calc T * T ≤ r * A * (r * A) := sq_le h
        _ = r * r * (A * A) := Nat.mul_mul_mul_comm _ _ _ _
        _ < X * (A * A) := Nat.mul_lt_mul_of_pos_right hlt hAA
    · rw [cmp_ne_gt] at h
      rw [Nat.compare_eq_lt]
      calc X * (A * A) < (r + 1) * (r + 1) * (A * A) := Nat.mul_lt_mul_of_pos_right hr2 hAA
        _ = (r + 1) * A * ((r + 1) * A) := (Nat.mul_mul_mul_comm _ _ _ _).symm
        _ ≤ T * T := sq_le h
end Fl
end

section
/- Quotients rounded: plain parts. -/
namespace Fl
open Go Go.RowKit
theorem boxes2 (w : World) (t : TypeId) (n1 : Bool) (s1 : Value) (E1 : Int) (n2 : Bool) (s2 : Value) (E2 : Int) (o : Obj) :
    Ext w (((w.alloc (.cells #[.bool n1, s1, .int .i64 E1] t)).alloc (.cells #[.bool n2, s2, .int .i64 E2] t)).alloc o) ∧
    Bx (((w.alloc (.cells #[.bool n1, s1, .int .i64 E1] t)).alloc (.cells #[.bool n2, s2, .int .i64 E2] t)).alloc o) t w.heap.size n1 s1 E1 ∧
    Bx (((w.alloc (.cells #[.bool n1, s1, .int .i64 E1] t)).alloc (.cells #[.bool n2, s2, .int .i64 E2] t)).alloc o) t (w.heap.size + 1) n2 s2 E2 ∧
    (((w.alloc (.cells #[.bool n1, s1, .int .i64 E1] t)).alloc (.cells #[.bool n2, s2, .int .i64 E2] t)).alloc o).heap[w.heap.size + 2]? = some o := by
  refine ⟨(((Ext.refl w).alloc _).alloc _).alloc _, ?_, ?_, ?_⟩
  · exact (Bx.new1 w _ t n1 s1 E1).ext ((Ext.refl _).alloc _)
  · exact (Bx.new2 w _ t n2 s2 E2).ext ((Ext.refl _).alloc _)
  · have h := heap_new ((w.alloc (.cells #[.bool n1, s1, .int .i64 E1] t)).alloc (.cells #[.bool n2, s2, .int .i64 E2] t)) o
    rwa [show ((w.alloc (.cells #[.bool n1, s1, .int .i64 E1] t)).alloc (.cells #[.bool n2, s2, .int .i64 E2] t)).heap.size = w.heap.size + 2 by simp] at h
theorem bl_ge {n b : Nat} (h : 2 ^ b ≤ n) : b + 1 ≤ bl n := by
  by_cases hb : b < bl n
  · exact hb
  · have h1 := bl_lt n
    have h2 : 2 ^ bl n ≤ 2 ^ b := Nat.pow_le_pow_right (by decide) (by omega)
    omega
theorem pow_le_of_bl {n b : Nat} (h : b + 1 ≤ bl n) : 2 ^ b ≤ n := by
  by_cases hb : 2 ^ b ≤ n
  · exact hb
  · have := bl_le_of (a := n) (k := b) (by omega)
    omega
/-- the quotient's bits. -/
theorem quo_bits {x y k : Nat} (hy : 0 < y) (hk : bl y + 64 ≤ bl x + k) (hx : 0 < x) : 64 ≤ bl (x * 2 ^ k / y) := by
  refine bl_ge (b := 63) ?_
  rw [Nat.le_div_iff_mul_le hy]
  have h1 : 2 ^ (bl x + k - 1) ≤ x * 2 ^ k := by
    refine pow_le_of_bl ?_
    rw [bl_mul_pow k (by omega)]
    omega
  have h2 : 2 ^ 63 * y ≤ 2 ^ 63 * 2 ^ bl y := Nat.mul_le_mul_left _ (Nat.le_of_lt (bl_lt y))
  rw [← Nat.pow_add] at h2
  exact Nat.le_trans h2 (Nat.le_trans (Nat.pow_le_pow_right (by decide) (by omega)) h1)
theorem bl_zero' : bl 0 = 0 := by
  have := bl_le_of (a := 0) (k := 0) (by decide)
  omega
theorem div_bits {x y k L : Nat} (hx : bl x + k ≤ L) : x * 2 ^ k / y < 2 ^ L := by
  refine Nat.lt_of_le_of_lt (Nat.div_le_self _ _) (Nat.lt_of_lt_of_le ?_ (Nat.pow_le_pow_right (by decide) hx))
  rw [Nat.pow_add]
  exact Nat.mul_lt_mul_of_pos_right (bl_lt x) (Nat.two_pow_pos k)
theorem cR_rep {o1 E1 x ex o2 E2 y ey : Int} (r1 : Rep o1 E1 x ex) (r2 : Rep o2 E2 y ey) (h1 : o1 ≠ 0) (h2 : o2 ≠ 0) : cR o1.natAbs o2.natAbs (E1 - E2) = cR x.natAbs y.natAbs (ex - ey) := by
  obtain ⟨j, rfl, rfl⟩ := r1.exp h1
  obtain ⟨i, rfl, rfl⟩ := r2.exp h2
  rw [natAbs_mul_pow, natAbs_mul_pow]
  have a := cR_shift o1.natAbs (o2.natAbs * 2 ^ i) (ex - ey + j) j
  rw [show ex - ey + (j : Int) - j = ex - ey by omega] at a
  rw [a]
  have b := cR_shift' o1.natAbs o2.natAbs (ex + j - (ey + i)) i
  rw [show ex + (j : Int) - (ey + i) + i = ex - ey + j by omega] at b
  exact b.symm
theorem cT_rep {o E x ex : Int} (r : Rep o E x ex) (h : o ≠ 0) : cT o.natAbs E = cT x.natAbs ex := by
  obtain ⟨j, rfl, rfl⟩ := r.exp h
  rw [natAbs_mul_pow]
  have a := cT_shift o.natAbs (ex + j) j
  rw [show ex + (j : Int) - j = ex by omega] at a
  exact a.symm
theorem tdiv_nat (x y k : Nat) : ((x : Int) * 2 ^ k).tdiv y = ((x * 2 ^ k / y : Nat) : Int) := by
  rw [show ((x : Int) * 2 ^ k) = ((x * 2 ^ k : Nat) : Int) by push_cast; rfl]
  rfl
theorem tmod_nat (x y k : Nat) : ((x : Int) * 2 ^ k).tmod y = ((x * 2 ^ k % y : Nat) : Int) := by
  rw [show ((x : Int) * 2 ^ k) = ((x * 2 ^ k : Nat) : Int) by push_cast; rfl]
  rfl
theorem sgn_rest (r : Nat) : (!(sgnI (r : Int) == 0)) = decide (r ≠ 0) := by
  unfold sgnI
  rw [if_neg (by omega)]
  by_cases h : r = 0
  · subst h; rfl
  · rw [if_neg (by omega)]; simp [h]
end Fl
end

section
/- Roots rounded. -/
namespace Fl
open Go Go.RowKit
theorem root_bits {X r : Nat} (h : Root r X) (hX : 2 ^ 127 ≤ X) : 64 ≤ bl r := by
  refine bl_ge (b := 63) ?_
  by_cases h0 : 2 ^ 63 ≤ r
  · exact h0
  · have h1 : (r + 1) * (r + 1) ≤ 2 ^ 63 * 2 ^ 63 := Nat.mul_le_mul (by omega) (by omega)
    have h2 := h.2
    omega
theorem root_le {X r : Nat} (h : Root r X) : r ≤ X := Nat.le_trans (Nat.le_mul_self r) h.1
theorem cmp_rest (a b : Nat) : (!(cmpZ (a : Int) b == 0)) = decide (a ≠ b) := by
  unfold cmpZ
  by_cases h : a < b
  · rw [if_pos (by omega)]; simp; omega
  · rw [if_neg (by omega)]
    by_cases h2 : a = b
    · subst h2; simp
    · rw [if_neg (by omega)]; simp; omega
end Fl
namespace Go.Proofs.YtdpjkddllimcoaaGreatDoor
open Go.RowKit Fl
theorem d_rooted (gn N : Nat) (e : Int) (w : World) (hn : Bi w 95 gn (N : Int)) (h0 : 0 < N) (hb : bl N ≤ 20000) (he : -20000 ≤ e) (he2 : e ≤ 20000) :
    Calls Tryz.prog 126 #[.pointer (some ⟨gn, 0, none⟩), .int .i64 e, .int .i64 64] w fun en w' => ∃ (g r : Nat) (e' : Int) (rest : Bool), en = .returned (.tuple #[.pointer (some ⟨g, 0, none⟩), .int .i64 e', .bool rest]) ∧ Ext w w' ∧ w.heap.size ≤ g ∧ Bi w' 95 g (r : Int) ∧ Cr (cT N e) r e' rest ∧ 64 ≤ bl r ∧ r < 2 ^ 100000 ∧ -30000 ≤ e' ∧ e' ≤ 30000 := by
  obtain ⟨B, hB⟩ : ∃ B : Nat, Hid (B = bl N) := ⟨_, rfl⟩
  have HF : Hid (N < 4294967296 ^ 1048575) := fit_of (k := bl N) (l := 1048575) (bl_lt N) (by omega)
  have HBL := Lib.hid (i_bitLen gn (N : Int) w hn (by rw [Int.natAbs_natCast]; exact HF.out))
  rw [Int.natAbs_natCast, ← hB.out] at HBL
  obtain ⟨K0, hK0⟩ : ∃ K : Nat, Hid ((K : Int) = max (128 - (B : Int)) 0) := ⟨(max (128 - (B : Int)) 0).toNat, by show _ = _; omega⟩
  have hK0' := hK0.out
  have hBb : B ≤ 20000 := by rw [hB.out]; exact hb
  have hk1 : K0 ≤ 128 := by omega
  have hk2 : 128 ≤ B + K0 := by omega
  have HK : Hid (∀ (K : Nat) (e' : Int) (r : Nat), K0 ≤ K → K ≤ K0 + 1 → 2 * e' = e - K → Root r (N * 2 ^ K) → Cr (cT N e) r e' (decide (r * r ≠ N * 2 ^ K)) ∧ 64 ≤ bl r ∧ r < 2 ^ 100000 ∧ -30000 ≤ e' ∧ e' ≤ 30000) := by
    intro K e' r q1 q2 q3 q4
    refine ⟨Cr.root N K r e e' q3 q4.1 q4.2, root_bits q4 ?_, ?_, by omega, by omega⟩
    · refine pow_le_of_bl ?_
      rw [bl_mul_pow K (by omega), ← hB.out]
      omega
    · have h1 := root_le q4
      have h2 := bl_lt (N * 2 ^ K)
      rw [bl_mul_pow K (by omega), ← hB.out] at h2
      exact two_pow_lt_of (L := B + K) (M := 100000) (Nat.lt_of_le_of_lt h1 h2) (by omega)
  have HL : Hid (∀ gz (K : Nat) w1, K ≤ K0 + 1 → Hv w1 95 gz → Bi w1 95 gn (N : Int) → Calls Tryz.prog 106 #[.pointer (some ⟨gz, 0, none⟩), .pointer (some ⟨gn, 0, none⟩), .int .u64 K] w1 fun e w' => e = .returned (.pointer (some ⟨gz, 0, none⟩)) ∧ Chg gz w1 w' ∧ Bi w' 95 gz ((N * 2 ^ K : Nat) : Int)) := by
    intro gz K w1 q1 q2 q3
    have h := i_lsh gz gn K N w1 q2 q3 (by rw [Int.natAbs_natCast]; exact HF.out) (by omega)
    rwa [show (N : Int) * 2 ^ K = ((N * 2 ^ K : Nat) : Int) by push_cast; rfl] at h
  have HXb : Hid (∀ K, K ≤ K0 + 1 → bl (N * 2 ^ K) ≤ 21000) := by
    intro K q
    rw [bl_mul_pow K (by omega), ← hB.out]
    omega
  have HS : Hid (∀ gz gx K w1, K ≤ K0 + 1 → Hv w1 95 gz → Bi w1 95 gx ((N * 2 ^ K : Nat) : Int) → Calls Tryz.prog 153 #[.pointer (some ⟨gz, 0, none⟩), .pointer (some ⟨gx, 0, none⟩)] w1 fun e w' => ∃ r : Nat, e = .returned (.pointer (some ⟨gz, 0, none⟩)) ∧ Chg gz w1 w' ∧ Bi w' 95 gz (r : Int) ∧ Root r (N * 2 ^ K)) := by
    intro gz gx K w1 q1 q2 q3
    have hb := HXb.out K q1
    have h := i_sqrt gz gx ((N * 2 ^ K : Nat) : Int) w1 q2 q3 (by rw [Int.natAbs_natCast]; exact fit_of (k := bl (N * 2 ^ K)) (l := 1048570) (bl_lt _) (by omega))
    rwa [Int.natAbs_natCast] at h
  have HM : Hid (∀ gz gx r K w1, K ≤ K0 + 1 → Root r (N * 2 ^ K) → Hv w1 95 gz → Bi w1 95 gx (r : Int) → gx ≠ gz → Calls Tryz.prog 109 #[.pointer (some ⟨gz, 0, none⟩), .pointer (some ⟨gx, 0, none⟩), .pointer (some ⟨gx, 0, none⟩)] w1 fun e w' => e = .returned (.pointer (some ⟨gz, 0, none⟩)) ∧ Chg gz w1 w' ∧ Bi w' 95 gz ((r * r : Nat) : Int)) := by
    intro gz gx r K w1 q1 q2 q3 q4 q5
    have hb := HXb.out K q1
    have hr : r < 4294967296 ^ 1048575 := fit_lt (k := 1048575) (root_le q2) (fit_of (k := bl (N * 2 ^ K)) (l := 1048575) (bl_lt _) (by omega))
    have h := i_mul gz gx gx r r w1 q3 q4 q4 (by rw [Int.natAbs_natCast]; exact hr) (by rw [Int.natAbs_natCast]; exact hr) q5 q5
    rwa [show (r : Int) * r = ((r * r : Nat) : Int) by push_cast; rfl] at h
  have HC : Hid (∀ gx gy r K w1, K ≤ K0 + 1 → Root r (N * 2 ^ K) → Bi w1 95 gx ((r * r : Nat) : Int) → Bi w1 95 gy ((N * 2 ^ K : Nat) : Int) → Calls Tryz.prog 113 #[.pointer (some ⟨gx, 0, none⟩), .pointer (some ⟨gy, 0, none⟩)] w1 fun en wn => en = .returned (.int .i64 (cmpZ ((r * r : Nat) : Int) ((N * 2 ^ K : Nat) : Int))) ∧ Drw w1 wn) := by
    intro gx gy r K w1 q1 q2 q3 q4
    have hb := HXb.out K q1
    have hx : N * 2 ^ K < 4294967296 ^ 1048575 := fit_of (k := bl (N * 2 ^ K)) (l := 1048575) (bl_lt _) (by omega)
    exact i_cmp gx gy _ _ w1 q3 q4 (by rw [Int.natAbs_natCast]; exact fit_lt (k := 1048575) q2.1 hx) (by rw [Int.natAbs_natCast]; exact hx)
  have HN := Lib.hid hn
  clear hn hb hB HF hK0' hk2 h0 HXb
  by_cases hp : (e - K0) % 2 = 0
  · have hh := Int.mul_tdiv_add_tmod (e - (K0 : Int)) 2
    have t0 : (e - (K0 : Int)).tmod 2 = 0 := Int.tmod_eq_zero_of_dvd (Int.dvd_of_emod_eq_zero hp)
    have hh2 : 2 * (e - (K0 : Int)).tdiv 2 = e - K0 := by omega
    have t1 : ((e - max (128 - (B : Int)) 0).tmod 2 == 0) = true := by rw [← hK0.out, t0]; rfl
    clear hh t0
    go_enter Tryz.func126, Tryz.ntmps126
    go_wp2_with (fail)
    refine HBL.out.mono ?_
    rintro en wn ⟨rfl, rfl⟩
    go_wp2_with (fail)
    rw [← hK0.out]
    have hmx : K0 ≤ K0 + 1 := by omega
    refine (HL.out w.heap.size K0 _ hmx (Hv.new _ _) (HN.out.ext ((Ext.refl _).alloc _))).mono ?_
    rintro en w1 ⟨rfl, hx, hb⟩
    have hx1 : Ext w w1 := Chg.ext ((Ext.refl _).alloc _) hx (Nat.le_refl _)
    have G1 := Lib.hid (And.intro hx1 hb)
    clear hx hb hx1
    go_wp2_with (fail)
    refine (HS.out w1.heap.size w.heap.size K0 _ hmx (Hv.new _ _) (G1.out.2.ext ((Ext.refl _).alloc _))).mono ?_
    rintro en w2 ⟨r, rfl, hx, hb, hr⟩
    have hx1 : Ext w1 w2 := Chg.ext ((Ext.refl _).alloc _) hx (Nat.le_refl _)
    have hs := G1.out.2.lt
    have hs2 := hb.lt
    have G2 : Hid (Ext w w2 ∧ Bi w2 95 w.heap.size ((N * 2 ^ K0 : Nat) : Int) ∧ Bi w2 95 w1.heap.size (r : Int) ∧ Root r (N * 2 ^ K0)) := ⟨G1.out.1.trans hx1, G1.out.2.ext hx1, hb, hr⟩
    clear hx hb hx1 hr
    go_wp2_with (fail)
    refine (HM.out w2.heap.size w1.heap.size r K0 _ hmx G2.out.2.2.2 (Hv.new _ _) (G2.out.2.2.1.ext ((Ext.refl _).alloc _)) (by omega)).mono ?_
    rintro en w3 ⟨rfl, hx, hb⟩
    have hx1 : Ext w2 w3 := Chg.ext ((Ext.refl _).alloc _) hx (Nat.le_refl _)
    have G3 := Lib.hid (And.intro hx1 hb)
    clear hx hb hx1
    go_wp2_with (fail)
    refine (HC.out w2.heap.size w.heap.size r K0 _ hmx G2.out.2.2.2 G3.out.2 (G2.out.2.1.ext G3.out.1)).mono ?_
    rintro en w4 ⟨rfl, hd⟩
    have HD := Lib.hid hd
    clear hd
    have HCm := Lib.hid (cmp_rest (r * r) (N * 2 ^ K0))
    generalize cmpZ ((r * r : Nat) : Int) ((N * 2 ^ K0 : Nat) : Int) = cz at *
    go_wp2_with (fail)
    go_ret3
    rw [show (cz != 0) = decide (r * r ≠ N * 2 ^ K0) from HCm.out]
    refine ⟨w1.heap.size, r, (e - K0).tdiv 2, _, rfl, (G2.out.1.trans G3.out.1).trans HD.out.ext, ?_, (G2.out.2.2.1.ext G3.out.1).ext HD.out.ext, HK.out K0 _ r (Nat.le_refl _) hmx hh2 G2.out.2.2.2⟩
    omega
  · have hK1 : Hid (((K0 + 1 : Nat) : Int) = max (128 - (B : Int)) 0 + 1) := by show _ = _; rw [← hK0.out]; rfl
    have hh := Int.mul_tdiv_add_tmod (e - ((K0 + 1 : Nat) : Int)) 2
    have t0 : (e - ((K0 + 1 : Nat) : Int)).tmod 2 = 0 := Int.tmod_eq_zero_of_dvd (Int.dvd_of_emod_eq_zero (by omega))
    have hh2 : 2 * (e - ((K0 + 1 : Nat) : Int)).tdiv 2 = e - ((K0 + 1 : Nat) : Int) := by omega
    have t1 : ((e - max (128 - (B : Int)) 0).tmod 2 == 0) = false := by
      rw [← hK0.out]
      simp only [beq_eq_false_iff_ne]
      intro h
      exact hp (Int.emod_eq_zero_of_dvd (Int.dvd_of_tmod_eq_zero h))
    clear hh t0
    go_enter Tryz.func126, Tryz.ntmps126
    go_wp2_with (fail)
    refine HBL.out.mono ?_
    rintro en wn ⟨rfl, rfl⟩
    go_wp2_with (fail)
    rw [← hK1.out]
    have hmx : K0 + 1 ≤ K0 + 1 := by omega
    refine (HL.out w.heap.size (K0 + 1) _ hmx (Hv.new _ _) (HN.out.ext ((Ext.refl _).alloc _))).mono ?_
    rintro en w1 ⟨rfl, hx, hb⟩
    have hx1 : Ext w w1 := Chg.ext ((Ext.refl _).alloc _) hx (Nat.le_refl _)
    have G1 := Lib.hid (And.intro hx1 hb)
    clear hx hb hx1
    go_wp2_with (fail)
    refine (HS.out w1.heap.size w.heap.size (K0 + 1) _ hmx (Hv.new _ _) (G1.out.2.ext ((Ext.refl _).alloc _))).mono ?_
    rintro en w2 ⟨r, rfl, hx, hb, hr⟩
    have hx1 : Ext w1 w2 := Chg.ext ((Ext.refl _).alloc _) hx (Nat.le_refl _)
    have hs := G1.out.2.lt
    have hs2 := hb.lt
    have G2 : Hid (Ext w w2 ∧ Bi w2 95 w.heap.size ((N * 2 ^ (K0 + 1) : Nat) : Int) ∧ Bi w2 95 w1.heap.size (r : Int) ∧ Root r (N * 2 ^ (K0 + 1))) := ⟨G1.out.1.trans hx1, G1.out.2.ext hx1, hb, hr⟩
    clear hx hb hx1 hr
    go_wp2_with (fail)
    refine (HM.out w2.heap.size w1.heap.size r (K0 + 1) _ hmx G2.out.2.2.2 (Hv.new _ _) (G2.out.2.2.1.ext ((Ext.refl _).alloc _)) (by omega)).mono ?_
    rintro en w3 ⟨rfl, hx, hb⟩
    have hx1 : Ext w2 w3 := Chg.ext ((Ext.refl _).alloc _) hx (Nat.le_refl _)
    have G3 := Lib.hid (And.intro hx1 hb)
    clear hx hb hx1
    go_wp2_with (fail)
    refine (HC.out w2.heap.size w.heap.size r (K0 + 1) _ hmx G2.out.2.2.2 G3.out.2 (G2.out.2.1.ext G3.out.1)).mono ?_
    rintro en w4 ⟨rfl, hd⟩
    have HD := Lib.hid hd
    clear hd
    have HCm := Lib.hid (cmp_rest (r * r) (N * 2 ^ (K0 + 1)))
    generalize cmpZ ((r * r : Nat) : Int) ((N * 2 ^ (K0 + 1) : Nat) : Int) = cz at *
    go_wp2_with (fail)
    go_ret3
    rw [show (cz != 0) = decide (r * r ≠ N * 2 ^ (K0 + 1)) from HCm.out]
    refine ⟨w1.heap.size, r, (e - (K0 + 1 : Nat)).tdiv 2, _, rfl, (G2.out.1.trans G3.out.1).trans HD.out.ext, ?_, (G2.out.2.2.1.ext G3.out.1).ext HD.out.ext, HK.out (K0 + 1) _ r (Nat.le_succ _) hmx hh2 G2.out.2.2.2⟩
    omega
end Go.Proofs.YtdpjkddllimcoaaGreatDoor
end

section
/- Roots rounded: Sqrt. -/
namespace Go.Proofs.YtdpjkddllimcoaaGreatDoor
open Go.RowKit Fl
theorem d_Sqrt (a : Value) (x ex mode : Int) (L : Nat) (w : World) (h1 : Dy w a x ex) (hm : mode = 1 ∨ mode = 2 ∨ mode = 3) (hx0 : 0 < x) (hx : x.natAbs < 2 ^ L) (hL : L ≤ 6000) (he1 : -6000 ≤ ex) (he2 : ex ≤ 6000) :
    Calls Tryz.prog 71 #[a, .int .i64 mode] w fun en w' => en = .returned (.tuple #[.float .f64 (rnd (cT x.natAbs ex) (aim false mode)), .int .i64 0]) ∧ Ext w w' := by
  obtain ⟨n1, p1, l1, c1, o1, E1, rfl, hn1, hl1, d1, r1, k1⟩ := h1.open
  have z1 : o1 ≠ 0 := fun h => by have := r1.sgn.2.1.2 h; omega
  have ho : 0 < o1 := by have := r1.sgn.1; omega
  have hn1' : n1 = false := by rw [hn1]; simp; omega
  subst hn1'
  rw [← cT_rep r1 z1]
  have HX : Hid (∀ o1, Ext w (w.alloc o1)) := fun o1 => (Ext.refl w).alloc o1
  have HV := Lib.hid (d_Valid o1 E1 _ (w.alloc (.cells #[.bool false, .slice p1 l1 c1, .int .i64 E1] 47)) (d1.ext (HX.out _)) k1)
  have HBx := Lib.hid (Bx.new w 47 false (.slice p1 l1 c1) E1)
  have HD := Lib.hid d1
  have HF := Lib.hid k1.fit
  obtain ⟨j, q1, q2⟩ := r1.exp z1
  have hb1 := bits_mul_pow (X := o1) (k := j) (M := L) (by rw [← q1]; exact hx) z1
  obtain ⟨X, hX⟩ : ∃ X : Nat, Hid (X = o1.natAbs) := ⟨_, rfl⟩
  have hX0 : 0 < X := by rw [hX.out]; omega
  rw [← hX.out] at hb1
  rw [← hX.out]
  have hoX : o1 = (X : Int) := by rw [hX.out]; omega
  have hE : -6000 ≤ E1 ∧ E1 ≤ 12000 := by omega
  obtain ⟨hE1, hE2⟩ := hE
  have HR : Hid (∀ gn w1, Bi w1 95 gn o1 → Calls Tryz.prog 126 #[.pointer (some ⟨gn, 0, none⟩), .int .i64 E1, .int .i64 64] w1 fun en w' => ∃ (g r : Nat) (e' : Int) (rest : Bool), en = .returned (.tuple #[.pointer (some ⟨g, 0, none⟩), .int .i64 e', .bool rest]) ∧ Ext w1 w' ∧ w1.heap.size ≤ g ∧ Bi w' 95 g (r : Int) ∧ Cr (cT X E1) r e' rest ∧ 64 ≤ bl r ∧ r < 2 ^ 100000 ∧ -30000 ≤ e' ∧ e' ≤ 30000) := by
    intro gn w1 hb
    rw [hoX] at hb
    exact d_rooted gn X E1 w1 hb hX0 (by omega) (by omega) (by omega)
  have HG : Hid (∀ gn r e' rest w1, Bi w1 95 gn ((r : Nat) : Int) → Cr (cT X E1) r e' rest → 64 ≤ bl r → r < 2 ^ 100000 → -30000 ≤ e' → e' ≤ 30000 → Calls Tryz.prog 123 #[.bool false, .pointer (some ⟨gn, 0, none⟩), .int .i64 e', .bool rest, .int .i64 mode] w1 fun en w' => en = .returned (.float .f64 (rnd (cT X E1) (aim false mode))) ∧ Ext w1 w') := by
    intro gn r e' rest w1 hb hc hq hr i1 i2
    refine g_float gn r e' mode false rest _ w1 hm hb hc ?_ (fun _ => by omega) hr (by omega) (by omega)
    by_cases h0 : 0 < r
    · exact h0
    · rw [Nat.eq_zero_of_not_pos h0, bl_zero'] at hq
      omega
  have HMo := Lib.hid hm
  have t1 : ((l1 : Int) == 0) = false := by simp; omega
  clear h1 hx d1 r1 k1 hm hx0 z1 hn1 hl1 q1 q2 hb1 hX hX0 he1 he2 hL ho hoX
  go_enter Tryz.func71, Tryz.ntmps71
  go_wp2_with (fail)
  refine HV.out.mono ?_
  rintro en w1 ⟨rfl, hx⟩
  have H1 := Lib.hid (And.intro ((HX.out _).trans hx) (HBx.out.ext hx))
  have a0 := H1.out.2.c0
  have a1 := H1.out.2.c1
  have a2 := H1.out.2.c2
  clear hx
  go_wp2_with (fail)
  refine (d_known mode _ HMo.out).mono ?_
  rintro en w2 ⟨rfl, rfl⟩
  go_wp2_with (fail)
  go_region_held3 (fun w' => w'.cell? ⟨w.heap.size, 0, none⟩ = some (.bool false) ∧ w'.cell? ⟨w.heap.size, 1, none⟩ = some (.slice p1 l1 c1) ∧ w'.cell? ⟨w.heap.size, 2, none⟩ = some (.int .i64 E1))
    (first | go_keep | (exact ⟨H3.out.1.c0, H3.out.1.c1, H3.out.1.c2⟩) | (exact ⟨H2.out.1.c0, H2.out.1.c1, H2.out.1.c2⟩) | fail)
    (first | (go_at_call 103; refine (d_value o1 E1 _ _ (HD.out.ext (by first | exact H1.out.1.drew | exact H1.out.1.drewN _ | exact H1.out.1 | fail)) HF.out).mono ?_; rintro en w2 ⟨gx, rfl, hx, hg, hb⟩; have hx1 : Ext w1 w2 := (by first | exact (Ext.of_drew hx) | exact hx | fail); have H2 : Hid (Bx w2 47 w.heap.size false (.slice p1 l1 c1) E1 ∧ Ext w1 w2 ∧ Bi w2 95 gx o1) := ⟨H1.out.2.ext hx1, hx1, hb⟩; clear hx hb hx1 hg) | (go_at_call 126; refine (HR.out gx _ (by first | exact H2.out.2.2 | exact H2.out.2.2.ext (Ext.drewN (Ext.refl _) _))).mono ?_; rintro en w3 ⟨g, r, e', rest, rfl, hx, hg, hb, hc, j1, j2, j3, j4⟩; have hx1 : Ext w2 w3 := (by first | exact hx | exact (Ext.of_drew hx) | fail); have H3 : Hid (Bx w3 47 w.heap.size false (.slice p1 l1 c1) E1 ∧ Ext w w3 ∧ Bi w3 95 g (r : Int)) := ⟨H2.out.1.ext hx1, (H1.out.1.trans H2.out.2.1).trans hx1, hb⟩; have HC := Lib.hid (And.intro hc (And.intro j1 (And.intro j2 (And.intro j3 j4)))); clear hx hb hg hx1 hc j1 j2 j3 j4))
  all_goals
    go_wp2_with (fail)
    refine (HG.out g r e' rest _ H3.out.2.2 HC.out.1 HC.out.2.1 HC.out.2.2.1 HC.out.2.2.2.1 HC.out.2.2.2.2).mono ?_
    rintro en w4 ⟨rfl, hx⟩
    have H4 := Lib.hid hx
    clear hx
    go_wp2_with (fail)
    go_ret2
    exact ⟨rfl, H3.out.2.1.trans H4.out⟩
end Go.Proofs.YtdpjkddllimcoaaGreatDoor
end

section
/- Exact numbers compared. -/
namespace Fl
open Go Go.RowKit
theorem top_lt {x y f : Int} (hx : 0 < x) (hy : 0 < y) (h : topI x f < topI y f) : x < y := by
  unfold topI at h
  rw [if_neg (by omega), if_neg (by omega)] at h
  have h1 := bl_lt x.natAbs
  have h2 := pow_le_of_bl (n := y.natAbs) (b := bl x.natAbs) (by omega)
  omega
theorem Lev.cmp {x y f X Y e : Int} (h : Lev x y f X Y e) : cmpZ X Y = cmpZ x y := by
  rcases h with ⟨rfl, rfl, rfl, rfl, -⟩ | ⟨k, rfl, rfl, -⟩
  · rfl
  · have hk : (0 : Int) < 2 ^ k := Int.pow_pos (by decide)
    unfold cmpZ
    rcases Int.lt_trichotomy X Y with h | h | h
    · rw [if_pos h, if_pos (Int.mul_lt_mul_of_pos_right h hk)]
    · subst h; rw [if_neg (Int.lt_irrefl _), if_neg (Int.lt_irrefl _), if_pos rfl, if_pos rfl]
    · have h2 := Int.mul_lt_mul_of_pos_right h hk
      rw [if_neg (by omega), if_neg (by omega), if_neg (by omega), if_neg (by omega)]
end Fl
namespace Go.Proofs.YtdpjkddllimcoaaGreatDoor
open Go.RowKit Fl
set_option maxRecDepth 20000 in
set_option maxHeartbeats 4000000 in
theorem d_Cmp (a b : Value) (x y f : Int) (L : Nat) (w : World) (h1 : Dy w a x f) (h2 : Dy w b y f) (hx0 : 0 ≤ x) (hy0 : 0 < y) (hx : x.natAbs < 2 ^ L) (hy : y.natAbs < 2 ^ L) (hL : L ≤ 6000) (hf : -6000 ≤ f) (hf2 : f ≤ 6000) :
    Calls Tryz.prog 58 #[a, b] w fun en w' => en = .returned (.int .i64 (cmpZ x y)) ∧ Ext w w' := by
  have D1 := Lib.hid h1
  have D2 := Lib.hid h2
  obtain ⟨n1, p1, l1, c1, o1, E1, rfl, hn1, -, d1, r1, k1⟩ := h1.open
  obtain ⟨n2, p2, l2, c2, o2, E2, rfl, hn2, -, d2, r2, k2⟩ := h2.open
  have HB := Lib.hid (boxes2 w 47 n1 (.slice p1 l1 c1) E1 n2 (.slice p2 l2 c2) E2 (.cells #[.bool n1, .slice p1 l1 c1, .int .i64 E1, .bool n2, .slice p2 l2 c2, .int .i64 E2] 47))
  have HV := Lib.hid (d_valid2 o1 E1 o2 E2 n1 n2 (.slice p1 l1 c1) (.slice p2 l2 c2) (w.heap.size + 2) _ HB.out.2.2.2 (d1.ext HB.out.1) (d2.ext HB.out.1) k1 k2)
  have hn1' : n1 = false := by have := r1.sgn.1; rw [hn1]; simp; omega
  subst hn1'
  have HXY := Lib.hid (And.intro hx hy)
  have Hfit : Hid (∀ X Y e, Lev x y f X Y e → X.natAbs < 4294967296 ^ 1048575 ∧ Y.natAbs < 4294967296 ^ 1048575) := by
    intro X Y e hlev
    obtain ⟨q1, q2⟩ := hlev.left
    exact ⟨fit_of (k := L) (l := 1048575) (Nat.lt_of_le_of_lt q1 HXY.out.1) (by omega), fit_of (k := L) (l := 1048575) (Nat.lt_of_le_of_lt q2 HXY.out.2) (by omega)⟩
  have HS2 : Hid (∀ w', Ext w w' → Calls Tryz.prog 59 #[.agg #[.bool n2, .slice p2 l2 c2, .int .i64 E2]] w' fun en w'' => en = .returned (.int .i64 1) ∧ Ext w' w'') := by
    intro w' hx'
    have h := d_Sign _ y f w' (D2.out.ext hx')
    rwa [show sgnI y = 1 by unfold sgnI; rw [if_neg (by omega), if_neg (by omega)]] at h
  clear hx hy d1 d2 r1 r2 k1 k2 h1 h2 hL hn1 hn2
  by_cases hz : x = 0
  · have HR : Hid (cmpZ x y = -1) := by show _ = _; unfold cmpZ; rw [if_pos (by omega)]
    have HS1 : Hid (∀ w', Ext w w' → Calls Tryz.prog 59 #[.agg #[.bool false, .slice p1 l1 c1, .int .i64 E1]] w' fun en w'' => en = .returned (.int .i64 0) ∧ Ext w' w'') := by
      intro w' hx'
      have h := d_Sign _ x f w' (D1.out.ext hx')
      rwa [show sgnI x = 0 by rw [hz]; rfl] at h
    clear hx0 hy0 hz hf hf2
    go_enter Tryz.func58, Tryz.ntmps58
    go_wp2_with (fail)
    refine HV.out.mono ?_
    rintro en w1 ⟨rfl, hx⟩
    have H1 : Hid (Bx w1 47 w.heap.size false (.slice p1 l1 c1) E1 ∧ Bx w1 47 (w.heap.size + 1) n2 (.slice p2 l2 c2) E2 ∧ Ext w w1) := ⟨HB.out.2.1.ext hx, HB.out.2.2.1.ext hx, HB.out.1.trans hx⟩
    clear hx HV HB
    have a0 := H1.out.1.c0
    have a1 := H1.out.1.c1
    have a2 := H1.out.1.c2
    have a3 := H1.out.2.1.c0
    have a4 := H1.out.2.1.c1
    have a5 := H1.out.2.1.c2
    go_wp2_with (fail)
    go_region_held3 (fun w' => w'.cell? ⟨w.heap.size, 0, none⟩ = some (.bool false) ∧ w'.cell? ⟨w.heap.size, 1, none⟩ = some (.slice p1 l1 c1) ∧ w'.cell? ⟨w.heap.size, 2, none⟩ = some (.int .i64 E1) ∧ w'.cell? ⟨w.heap.size + 1, 0, none⟩ = some (.bool n2) ∧ w'.cell? ⟨w.heap.size + 1, 1, none⟩ = some (.slice p2 l2 c2) ∧ w'.cell? ⟨w.heap.size + 1, 2, none⟩ = some (.int .i64 E2))
      (first | go_keep | (exact ⟨H3.out.1.c0, H3.out.1.c1, H3.out.1.c2, H3.out.2.1.c0, H3.out.2.1.c1, H3.out.2.1.c2⟩) | (exact ⟨H2.out.1.c0, H2.out.1.c1, H2.out.1.c2, H2.out.2.1.c0, H2.out.2.1.c1, H2.out.2.1.c2⟩) | fail)
      (first | (go_at_call_of 59 (Value.agg #[.bool false, .slice p1 l1 c1, .int .i64 E1]); refine (HS1.out _ (by first | exact H1.out.2.2 | exact H1.out.2.2.drew | exact H1.out.2.2.drewN _ | fail)).mono ?_; rintro en w2 ⟨rfl, hx⟩; have hx1 : Ext w1 w2 := (by first | exact hx | exact (Ext.of_drew hx) | fail); have H2 : Hid (Bx w2 47 w.heap.size false (.slice p1 l1 c1) E1 ∧ Bx w2 47 (w.heap.size + 1) n2 (.slice p2 l2 c2) E2 ∧ Ext w w2) := ⟨H1.out.1.ext hx1, H1.out.2.1.ext hx1, H1.out.2.2.trans hx1⟩; clear hx hx1) | (go_at_call_of 59 (Value.agg #[.bool n2, .slice p2 l2 c2, .int .i64 E2]); refine (HS2.out _ (by first | exact H2.out.2.2 | exact H2.out.2.2.drew | exact H2.out.2.2.drewN _ | fail)).mono ?_; rintro en w3 ⟨rfl, hx⟩; have hx1 : Ext w2 w3 := (by first | exact hx | exact (Ext.of_drew hx) | fail); have H3 : Hid (Bx w3 47 w.heap.size false (.slice p1 l1 c1) E1 ∧ Bx w3 47 (w.heap.size + 1) n2 (.slice p2 l2 c2) E2 ∧ Ext w w3) := ⟨H2.out.1.ext hx1, H2.out.2.1.ext hx1, H2.out.2.2.trans hx1⟩; clear hx hx1))
    clear a0 a1 a2 a3 a4 a5
    have a0 := H3.out.1.c0
    have a1 := H3.out.1.c1
    have a2 := H3.out.1.c2
    have a3 := H3.out.2.1.c0
    have a4 := H3.out.2.1.c1
    have a5 := H3.out.2.1.c2
    go_wp2_with (fail)
    go_ret
    exact ⟨ret_int HR.out.symm, H3.out.2.2⟩
  · have HS1 : Hid (∀ w', Ext w w' → Calls Tryz.prog 59 #[.agg #[.bool false, .slice p1 l1 c1, .int .i64 E1]] w' fun en w'' => en = .returned (.int .i64 1) ∧ Ext w' w'') := by
      intro w' hx'
      have h := d_Sign _ x f w' (D1.out.ext hx')
      rwa [show sgnI x = 1 by unfold sgnI; rw [if_neg (by omega), if_neg (by omega)]] at h
    have HT1 : Hid (∀ w', Ext w w' → Calls Tryz.prog 101 #[.agg #[.bool false, .slice p1 l1 c1, .int .i64 E1]] w' fun en w'' => en = .returned (.int .i64 (topI x f)) ∧ Ext w' w'') := by
      intro w' hx'
      exact d_Top _ x f w' (D1.out.ext hx')
    have HT2 : Hid (∀ w', Ext w w' → Calls Tryz.prog 101 #[.agg #[.bool n2, .slice p2 l2 c2, .int .i64 E2]] w' fun en w'' => en = .returned (.int .i64 (topI y f)) ∧ Ext w' w'') := by
      intro w' hx'
      exact d_Top _ y f w' (D2.out.ext hx')
    have HLt := fun h => top_lt (f := f) (show 0 < x by omega) hy0 h
    have HGt := fun h => top_lt (f := f) hy0 (show 0 < x by omega) h
    rcases Int.lt_trichotomy (topI x f) (topI y f) with ht | ht | ht
    · have HR : Hid (cmpZ x y = -1) := by show _ = _; unfold cmpZ; rw [if_pos (HLt ht)]
      have t0 : (topI x f == topI y f) = false := by simp; omega
      have t1 : decide (topI x f < topI y f) = true := by simp; omega
      clear HLt HGt hx0 hy0 hz hf hf2 ht
      generalize topI x f = tx at *
      generalize topI y f = ty at *
      go_enter Tryz.func58, Tryz.ntmps58
      go_wp2_with (fail)
      refine HV.out.mono ?_
      rintro en w1 ⟨rfl, hx⟩
      have H1 : Hid (Bx w1 47 w.heap.size false (.slice p1 l1 c1) E1 ∧ Bx w1 47 (w.heap.size + 1) n2 (.slice p2 l2 c2) E2 ∧ Ext w w1) := ⟨HB.out.2.1.ext hx, HB.out.2.2.1.ext hx, HB.out.1.trans hx⟩
      clear hx HV HB
      have a0 := H1.out.1.c0
      have a1 := H1.out.1.c1
      have a2 := H1.out.1.c2
      have a3 := H1.out.2.1.c0
      have a4 := H1.out.2.1.c1
      have a5 := H1.out.2.1.c2
      go_wp2_with (fail)
      go_region_held3 (fun w' => w'.cell? ⟨w.heap.size, 0, none⟩ = some (.bool false) ∧ w'.cell? ⟨w.heap.size, 1, none⟩ = some (.slice p1 l1 c1) ∧ w'.cell? ⟨w.heap.size, 2, none⟩ = some (.int .i64 E1) ∧ w'.cell? ⟨w.heap.size + 1, 0, none⟩ = some (.bool n2) ∧ w'.cell? ⟨w.heap.size + 1, 1, none⟩ = some (.slice p2 l2 c2) ∧ w'.cell? ⟨w.heap.size + 1, 2, none⟩ = some (.int .i64 E2))
        (first | go_keep | (exact ⟨H3.out.1.c0, H3.out.1.c1, H3.out.1.c2, H3.out.2.1.c0, H3.out.2.1.c1, H3.out.2.1.c2⟩) | (exact ⟨H2.out.1.c0, H2.out.1.c1, H2.out.1.c2, H2.out.2.1.c0, H2.out.2.1.c1, H2.out.2.1.c2⟩) | fail)
        (first | (go_at_call_of 59 (Value.agg #[.bool false, .slice p1 l1 c1, .int .i64 E1]); refine (HS1.out _ (by first | exact H1.out.2.2 | exact H1.out.2.2.drew | exact H1.out.2.2.drewN _ | fail)).mono ?_; rintro en w2 ⟨rfl, hx⟩; have hx1 : Ext w1 w2 := (by first | exact hx | exact (Ext.of_drew hx) | fail); have H2 : Hid (Bx w2 47 w.heap.size false (.slice p1 l1 c1) E1 ∧ Bx w2 47 (w.heap.size + 1) n2 (.slice p2 l2 c2) E2 ∧ Ext w w2) := ⟨H1.out.1.ext hx1, H1.out.2.1.ext hx1, H1.out.2.2.trans hx1⟩; clear hx hx1) | (go_at_call_of 59 (Value.agg #[.bool n2, .slice p2 l2 c2, .int .i64 E2]); refine (HS2.out _ (by first | exact H2.out.2.2 | exact H2.out.2.2.drew | exact H2.out.2.2.drewN _ | fail)).mono ?_; rintro en w3 ⟨rfl, hx⟩; have hx1 : Ext w2 w3 := (by first | exact hx | exact (Ext.of_drew hx) | fail); have H3 : Hid (Bx w3 47 w.heap.size false (.slice p1 l1 c1) E1 ∧ Bx w3 47 (w.heap.size + 1) n2 (.slice p2 l2 c2) E2 ∧ Ext w w3) := ⟨H2.out.1.ext hx1, H2.out.2.1.ext hx1, H2.out.2.2.trans hx1⟩; clear hx hx1))
      clear a0 a1 a2 a3 a4 a5
      have a0 := H3.out.1.c0
      have a1 := H3.out.1.c1
      have a2 := H3.out.1.c2
      have a3 := H3.out.2.1.c0
      have a4 := H3.out.2.1.c1
      have a5 := H3.out.2.1.c2
      go_wp2_with (fail)
      go_region_held3 (fun w' => w'.cell? ⟨w.heap.size, 0, none⟩ = some (.bool false) ∧ w'.cell? ⟨w.heap.size, 1, none⟩ = some (.slice p1 l1 c1) ∧ w'.cell? ⟨w.heap.size, 2, none⟩ = some (.int .i64 E1) ∧ w'.cell? ⟨w.heap.size + 1, 0, none⟩ = some (.bool n2) ∧ w'.cell? ⟨w.heap.size + 1, 1, none⟩ = some (.slice p2 l2 c2) ∧ w'.cell? ⟨w.heap.size + 1, 2, none⟩ = some (.int .i64 E2))
        (first | go_keep | (exact ⟨H5.out.1.c0, H5.out.1.c1, H5.out.1.c2, H5.out.2.1.c0, H5.out.2.1.c1, H5.out.2.1.c2⟩) | (exact ⟨H4.out.1.c0, H4.out.1.c1, H4.out.1.c2, H4.out.2.1.c0, H4.out.2.1.c1, H4.out.2.1.c2⟩) | fail)
        (first | (go_at_call_of 101 (Value.agg #[.bool false, .slice p1 l1 c1, .int .i64 E1]); refine (HT1.out _ (by first | exact H3.out.2.2 | exact H3.out.2.2.drew | exact H3.out.2.2.drewN _ | fail)).mono ?_; rintro en w4 ⟨rfl, hx⟩; have hx1 : Ext w3 w4 := (by first | exact hx | exact (Ext.of_drew hx) | fail); have H4 : Hid (Bx w4 47 w.heap.size false (.slice p1 l1 c1) E1 ∧ Bx w4 47 (w.heap.size + 1) n2 (.slice p2 l2 c2) E2 ∧ Ext w w4) := ⟨H3.out.1.ext hx1, H3.out.2.1.ext hx1, H3.out.2.2.trans hx1⟩; clear hx hx1) | (go_at_call_of 101 (Value.agg #[.bool n2, .slice p2 l2 c2, .int .i64 E2]); refine (HT2.out _ (by first | exact H4.out.2.2 | exact H4.out.2.2.drew | exact H4.out.2.2.drewN _ | fail)).mono ?_; rintro en w5 ⟨rfl, hx⟩; have hx1 : Ext w4 w5 := (by first | exact hx | exact (Ext.of_drew hx) | fail); have H5 : Hid (Bx w5 47 w.heap.size false (.slice p1 l1 c1) E1 ∧ Bx w5 47 (w.heap.size + 1) n2 (.slice p2 l2 c2) E2 ∧ Ext w w5) := ⟨H4.out.1.ext hx1, H4.out.2.1.ext hx1, H4.out.2.2.trans hx1⟩; clear hx hx1))
      clear a0 a1 a2 a3 a4 a5
      have a0 := H5.out.1.c0
      have a1 := H5.out.1.c1
      have a2 := H5.out.1.c2
      have a3 := H5.out.2.1.c0
      have a4 := H5.out.2.1.c1
      have a5 := H5.out.2.1.c2
      go_wp2_with (fail)
      go_ret
      exact ⟨ret_int HR.out.symm, H5.out.2.2⟩
    · have HR : Hid (topI x f = topI y f) := ht
      clear HLt HGt hx0 hy0 hz hf hf2 ht
      rw [HR.out] at HT1
      generalize topI y f = ty at *
      go_enter Tryz.func58, Tryz.ntmps58
      go_wp2_with (fail)
      refine HV.out.mono ?_
      rintro en w1 ⟨rfl, hx⟩
      have H1 : Hid (Bx w1 47 w.heap.size false (.slice p1 l1 c1) E1 ∧ Bx w1 47 (w.heap.size + 1) n2 (.slice p2 l2 c2) E2 ∧ Ext w w1) := ⟨HB.out.2.1.ext hx, HB.out.2.2.1.ext hx, HB.out.1.trans hx⟩
      clear hx HV HB
      have a0 := H1.out.1.c0
      have a1 := H1.out.1.c1
      have a2 := H1.out.1.c2
      have a3 := H1.out.2.1.c0
      have a4 := H1.out.2.1.c1
      have a5 := H1.out.2.1.c2
      go_wp2_with (fail)
      go_region_held3 (fun w' => w'.cell? ⟨w.heap.size, 0, none⟩ = some (.bool false) ∧ w'.cell? ⟨w.heap.size, 1, none⟩ = some (.slice p1 l1 c1) ∧ w'.cell? ⟨w.heap.size, 2, none⟩ = some (.int .i64 E1) ∧ w'.cell? ⟨w.heap.size + 1, 0, none⟩ = some (.bool n2) ∧ w'.cell? ⟨w.heap.size + 1, 1, none⟩ = some (.slice p2 l2 c2) ∧ w'.cell? ⟨w.heap.size + 1, 2, none⟩ = some (.int .i64 E2))
        (first | go_keep | (exact ⟨H3.out.1.c0, H3.out.1.c1, H3.out.1.c2, H3.out.2.1.c0, H3.out.2.1.c1, H3.out.2.1.c2⟩) | (exact ⟨H2.out.1.c0, H2.out.1.c1, H2.out.1.c2, H2.out.2.1.c0, H2.out.2.1.c1, H2.out.2.1.c2⟩) | fail)
        (first | (go_at_call_of 59 (Value.agg #[.bool false, .slice p1 l1 c1, .int .i64 E1]); refine (HS1.out _ (by first | exact H1.out.2.2 | exact H1.out.2.2.drew | exact H1.out.2.2.drewN _ | fail)).mono ?_; rintro en w2 ⟨rfl, hx⟩; have hx1 : Ext w1 w2 := (by first | exact hx | exact (Ext.of_drew hx) | fail); have H2 : Hid (Bx w2 47 w.heap.size false (.slice p1 l1 c1) E1 ∧ Bx w2 47 (w.heap.size + 1) n2 (.slice p2 l2 c2) E2 ∧ Ext w w2) := ⟨H1.out.1.ext hx1, H1.out.2.1.ext hx1, H1.out.2.2.trans hx1⟩; clear hx hx1) | (go_at_call_of 59 (Value.agg #[.bool n2, .slice p2 l2 c2, .int .i64 E2]); refine (HS2.out _ (by first | exact H2.out.2.2 | exact H2.out.2.2.drew | exact H2.out.2.2.drewN _ | fail)).mono ?_; rintro en w3 ⟨rfl, hx⟩; have hx1 : Ext w2 w3 := (by first | exact hx | exact (Ext.of_drew hx) | fail); have H3 : Hid (Bx w3 47 w.heap.size false (.slice p1 l1 c1) E1 ∧ Bx w3 47 (w.heap.size + 1) n2 (.slice p2 l2 c2) E2 ∧ Ext w w3) := ⟨H2.out.1.ext hx1, H2.out.2.1.ext hx1, H2.out.2.2.trans hx1⟩; clear hx hx1))
      clear a0 a1 a2 a3 a4 a5
      have a0 := H3.out.1.c0
      have a1 := H3.out.1.c1
      have a2 := H3.out.1.c2
      have a3 := H3.out.2.1.c0
      have a4 := H3.out.2.1.c1
      have a5 := H3.out.2.1.c2
      go_wp2_with (fail)
      go_region_held3 (fun w' => w'.cell? ⟨w.heap.size, 0, none⟩ = some (.bool false) ∧ w'.cell? ⟨w.heap.size, 1, none⟩ = some (.slice p1 l1 c1) ∧ w'.cell? ⟨w.heap.size, 2, none⟩ = some (.int .i64 E1) ∧ w'.cell? ⟨w.heap.size + 1, 0, none⟩ = some (.bool n2) ∧ w'.cell? ⟨w.heap.size + 1, 1, none⟩ = some (.slice p2 l2 c2) ∧ w'.cell? ⟨w.heap.size + 1, 2, none⟩ = some (.int .i64 E2))
        (first | go_keep | (exact ⟨H5.out.1.c0, H5.out.1.c1, H5.out.1.c2, H5.out.2.1.c0, H5.out.2.1.c1, H5.out.2.1.c2⟩) | (exact ⟨H4.out.1.c0, H4.out.1.c1, H4.out.1.c2, H4.out.2.1.c0, H4.out.2.1.c1, H4.out.2.1.c2⟩) | fail)
        (first | (go_at_call_of 101 (Value.agg #[.bool false, .slice p1 l1 c1, .int .i64 E1]); refine (HT1.out _ (by first | exact H3.out.2.2 | exact H3.out.2.2.drew | exact H3.out.2.2.drewN _ | fail)).mono ?_; rintro en w4 ⟨rfl, hx⟩; have hx1 : Ext w3 w4 := (by first | exact hx | exact (Ext.of_drew hx) | fail); have H4 : Hid (Bx w4 47 w.heap.size false (.slice p1 l1 c1) E1 ∧ Bx w4 47 (w.heap.size + 1) n2 (.slice p2 l2 c2) E2 ∧ Ext w w4) := ⟨H3.out.1.ext hx1, H3.out.2.1.ext hx1, H3.out.2.2.trans hx1⟩; clear hx hx1) | (go_at_call_of 101 (Value.agg #[.bool n2, .slice p2 l2 c2, .int .i64 E2]); refine (HT2.out _ (by first | exact H4.out.2.2 | exact H4.out.2.2.drew | exact H4.out.2.2.drewN _ | fail)).mono ?_; rintro en w5 ⟨rfl, hx⟩; have hx1 : Ext w4 w5 := (by first | exact hx | exact (Ext.of_drew hx) | fail); have H5 : Hid (Bx w5 47 w.heap.size false (.slice p1 l1 c1) E1 ∧ Bx w5 47 (w.heap.size + 1) n2 (.slice p2 l2 c2) E2 ∧ Ext w w5) := ⟨H4.out.1.ext hx1, H4.out.2.1.ext hx1, H4.out.2.2.trans hx1⟩; clear hx hx1))
      clear a0 a1 a2 a3 a4 a5
      have a0 := H5.out.1.c0
      have a1 := H5.out.1.c1
      have a2 := H5.out.1.c2
      have a3 := H5.out.2.1.c0
      have a4 := H5.out.2.1.c1
      have a5 := H5.out.2.1.c2
      go_wp2_with (fail)
      refine (d_level _ _ x y f _ (D1.out.ext H5.out.2.2) (D2.out.ext H5.out.2.2)).mono ?_
      rintro en w6 ⟨gx, gy, X, Y, e, rfl, hx, hgx, hgy, hne, hbx, hby, hlev⟩
      have H6 := Lib.hid (And.intro (H5.out.2.2.trans hx) (And.intro hbx (And.intro hby hlev)))
      clear hx hgx hgy hne hbx hby hlev
      go_wp2_with (fail)
      refine (i_cmp gx gy X Y _ H6.out.2.1 H6.out.2.2.1 (Hfit.out X Y e H6.out.2.2.2).1 (Hfit.out X Y e H6.out.2.2.2).2).mono ?_
      rintro en w7 ⟨rfl, hd⟩
      have H7 := Lib.hid hd
      clear hd
      go_wp2_with (fail)
      go_ret
      exact ⟨ret_int H6.out.2.2.2.cmp, H6.out.1.trans H7.out.ext⟩
    · have HR : Hid (cmpZ x y = 1) := by show _ = _; unfold cmpZ; have := HGt ht; rw [if_neg (by omega), if_neg (by omega)]
      have t0 : (topI x f == topI y f) = false := by simp; omega
      have t1 : decide (topI x f < topI y f) = false := by simp; omega
      clear HLt HGt hx0 hy0 hz hf hf2 ht
      generalize topI x f = tx at *
      generalize topI y f = ty at *
      go_enter Tryz.func58, Tryz.ntmps58
      go_wp2_with (fail)
      refine HV.out.mono ?_
      rintro en w1 ⟨rfl, hx⟩
      have H1 : Hid (Bx w1 47 w.heap.size false (.slice p1 l1 c1) E1 ∧ Bx w1 47 (w.heap.size + 1) n2 (.slice p2 l2 c2) E2 ∧ Ext w w1) := ⟨HB.out.2.1.ext hx, HB.out.2.2.1.ext hx, HB.out.1.trans hx⟩
      clear hx HV HB
      have a0 := H1.out.1.c0
      have a1 := H1.out.1.c1
      have a2 := H1.out.1.c2
      have a3 := H1.out.2.1.c0
      have a4 := H1.out.2.1.c1
      have a5 := H1.out.2.1.c2
      go_wp2_with (fail)
      go_region_held3 (fun w' => w'.cell? ⟨w.heap.size, 0, none⟩ = some (.bool false) ∧ w'.cell? ⟨w.heap.size, 1, none⟩ = some (.slice p1 l1 c1) ∧ w'.cell? ⟨w.heap.size, 2, none⟩ = some (.int .i64 E1) ∧ w'.cell? ⟨w.heap.size + 1, 0, none⟩ = some (.bool n2) ∧ w'.cell? ⟨w.heap.size + 1, 1, none⟩ = some (.slice p2 l2 c2) ∧ w'.cell? ⟨w.heap.size + 1, 2, none⟩ = some (.int .i64 E2))
        (first | go_keep | (exact ⟨H3.out.1.c0, H3.out.1.c1, H3.out.1.c2, H3.out.2.1.c0, H3.out.2.1.c1, H3.out.2.1.c2⟩) | (exact ⟨H2.out.1.c0, H2.out.1.c1, H2.out.1.c2, H2.out.2.1.c0, H2.out.2.1.c1, H2.out.2.1.c2⟩) | fail)
        (first | (go_at_call_of 59 (Value.agg #[.bool false, .slice p1 l1 c1, .int .i64 E1]); refine (HS1.out _ (by first | exact H1.out.2.2 | exact H1.out.2.2.drew | exact H1.out.2.2.drewN _ | fail)).mono ?_; rintro en w2 ⟨rfl, hx⟩; have hx1 : Ext w1 w2 := (by first | exact hx | exact (Ext.of_drew hx) | fail); have H2 : Hid (Bx w2 47 w.heap.size false (.slice p1 l1 c1) E1 ∧ Bx w2 47 (w.heap.size + 1) n2 (.slice p2 l2 c2) E2 ∧ Ext w w2) := ⟨H1.out.1.ext hx1, H1.out.2.1.ext hx1, H1.out.2.2.trans hx1⟩; clear hx hx1) | (go_at_call_of 59 (Value.agg #[.bool n2, .slice p2 l2 c2, .int .i64 E2]); refine (HS2.out _ (by first | exact H2.out.2.2 | exact H2.out.2.2.drew | exact H2.out.2.2.drewN _ | fail)).mono ?_; rintro en w3 ⟨rfl, hx⟩; have hx1 : Ext w2 w3 := (by first | exact hx | exact (Ext.of_drew hx) | fail); have H3 : Hid (Bx w3 47 w.heap.size false (.slice p1 l1 c1) E1 ∧ Bx w3 47 (w.heap.size + 1) n2 (.slice p2 l2 c2) E2 ∧ Ext w w3) := ⟨H2.out.1.ext hx1, H2.out.2.1.ext hx1, H2.out.2.2.trans hx1⟩; clear hx hx1))
      clear a0 a1 a2 a3 a4 a5
      have a0 := H3.out.1.c0
      have a1 := H3.out.1.c1
      have a2 := H3.out.1.c2
      have a3 := H3.out.2.1.c0
      have a4 := H3.out.2.1.c1
      have a5 := H3.out.2.1.c2
      go_wp2_with (fail)
      go_region_held3 (fun w' => w'.cell? ⟨w.heap.size, 0, none⟩ = some (.bool false) ∧ w'.cell? ⟨w.heap.size, 1, none⟩ = some (.slice p1 l1 c1) ∧ w'.cell? ⟨w.heap.size, 2, none⟩ = some (.int .i64 E1) ∧ w'.cell? ⟨w.heap.size + 1, 0, none⟩ = some (.bool n2) ∧ w'.cell? ⟨w.heap.size + 1, 1, none⟩ = some (.slice p2 l2 c2) ∧ w'.cell? ⟨w.heap.size + 1, 2, none⟩ = some (.int .i64 E2))
        (first | go_keep | (exact ⟨H5.out.1.c0, H5.out.1.c1, H5.out.1.c2, H5.out.2.1.c0, H5.out.2.1.c1, H5.out.2.1.c2⟩) | (exact ⟨H4.out.1.c0, H4.out.1.c1, H4.out.1.c2, H4.out.2.1.c0, H4.out.2.1.c1, H4.out.2.1.c2⟩) | fail)
        (first | (go_at_call_of 101 (Value.agg #[.bool false, .slice p1 l1 c1, .int .i64 E1]); refine (HT1.out _ (by first | exact H3.out.2.2 | exact H3.out.2.2.drew | exact H3.out.2.2.drewN _ | fail)).mono ?_; rintro en w4 ⟨rfl, hx⟩; have hx1 : Ext w3 w4 := (by first | exact hx | exact (Ext.of_drew hx) | fail); have H4 : Hid (Bx w4 47 w.heap.size false (.slice p1 l1 c1) E1 ∧ Bx w4 47 (w.heap.size + 1) n2 (.slice p2 l2 c2) E2 ∧ Ext w w4) := ⟨H3.out.1.ext hx1, H3.out.2.1.ext hx1, H3.out.2.2.trans hx1⟩; clear hx hx1) | (go_at_call_of 101 (Value.agg #[.bool n2, .slice p2 l2 c2, .int .i64 E2]); refine (HT2.out _ (by first | exact H4.out.2.2 | exact H4.out.2.2.drew | exact H4.out.2.2.drewN _ | fail)).mono ?_; rintro en w5 ⟨rfl, hx⟩; have hx1 : Ext w4 w5 := (by first | exact hx | exact (Ext.of_drew hx) | fail); have H5 : Hid (Bx w5 47 w.heap.size false (.slice p1 l1 c1) E1 ∧ Bx w5 47 (w.heap.size + 1) n2 (.slice p2 l2 c2) E2 ∧ Ext w w5) := ⟨H4.out.1.ext hx1, H4.out.2.1.ext hx1, H4.out.2.2.trans hx1⟩; clear hx hx1))
      clear a0 a1 a2 a3 a4 a5
      have a0 := H5.out.1.c0
      have a1 := H5.out.1.c1
      have a2 := H5.out.1.c2
      have a3 := H5.out.2.1.c0
      have a4 := H5.out.2.1.c1
      have a5 := H5.out.2.1.c2
      go_wp2_with (fail)
      go_ret
      exact ⟨ret_int HR.out.symm, H5.out.2.2⟩
end Go.Proofs.YtdpjkddllimcoaaGreatDoor
end

section
/- Exact numbers: quotients cut to below, parts. -/
namespace Go.Proofs.YtdpjkddllimcoaaGreatDoor
open Go.RowKit Fl
theorem d_placed (w : World) : Calls Tryz.prog 100 #[.int .i64 0] w fun en wn => en = .returned (.bool true) ∧ w = wn := by
  go_enter Tryz.func100, Tryz.ntmps100
  go_wp2_with (fail)
  go_ret
  exact ⟨rfl, rfl⟩
theorem d_floored (gx gy : Nat) (x y : Int) (w : World) (hx : Bi w 95 gx x) (hy : Bi w 95 gy y) (hy0 : y ≠ 0) (hb : x.natAbs < 4294967296 ^ 1048573) (hb' : y.natAbs < 4294967296 ^ 1048573) :
    Calls Tryz.prog 107 #[.pointer (some ⟨gx, 0, none⟩), .pointer (some ⟨gy, 0, none⟩)] w fun en w' => ∃ (gz gr : Nat), en = .returned (.tuple #[.pointer (some ⟨gz, 0, none⟩), .pointer (some ⟨gr, 0, none⟩)]) ∧ Ext w w' ∧ w.heap.size ≤ gz ∧ Bi w' 95 gz (x.fdiv y) ∧ ∃ r : Int, Bi w' 95 gr r := by
  have HXY := Lib.hid (And.intro hx hy)
  by_cases h : y < 0
  · have HS := Lib.hid (i_sign gy y w hy)
    rw [show sgnI y = -1 by unfold sgnI; rw [if_pos h]] at HS
    have HF : Hid (x.fdiv y = (-x) / (-y)) := by show _ = _; rw [← Int.neg_fdiv_neg, Int.fdiv_eq_ediv_of_nonneg _ (by omega)]
    have HD : Hid (∀ gz gm gx' gy' w1, Hv w1 95 gz → Hv w1 95 gm → Bi w1 95 gx' (-x) → Bi w1 95 gy' (-y) → gz ≠ gm → Calls Tryz.prog 142 #[.pointer (some ⟨gz, 0, none⟩), .pointer (some ⟨gx', 0, none⟩), .pointer (some ⟨gy', 0, none⟩), .pointer (some ⟨gm, 0, none⟩)] w1 fun e w' => e = .returned (.tuple #[.pointer (some ⟨gz, 0, none⟩), .pointer (some ⟨gm, 0, none⟩)]) ∧ Ch2 gz gm w1 w' ∧ Bi w' 95 gz ((-x) / (-y)) ∧ Bi w' 95 gm ((-x) % (-y))) := by
      intro gz gm gx' gy' w1 i1 i2 i3 i4 i5
      exact i_divMod gz gx' gy' gm (-x) (-y) w1 i1 i2 i3 i4 i5 (by omega) (by rw [Int.natAbs_neg]; exact hb) (by rw [Int.natAbs_neg]; exact hb')
    rw [HF.out]
    clear hx hy hb hb' hy0 h HF
    go_enter Tryz.func107, Tryz.ntmps107
    go_wp2_with (fail)
    refine HS.out.mono ?_
    rintro en wn ⟨rfl, rfl⟩
    go_wp2_with (fail)
    refine (i_neg w.heap.size gx x _ (Hv.new _ _) (HXY.out.1.ext ((Ext.refl _).alloc _))).mono ?_
    rintro en w1 ⟨rfl, hc, hb⟩
    have hx1 : Ext w w1 := Chg.ext ((Ext.refl _).alloc _) hc (Nat.le_refl _)
    have H1 := Lib.hid (And.intro hx1 hb)
    clear hc hb hx1
    go_wp2_with (fail)
    refine (i_neg w1.heap.size gy y _ (Hv.new _ _) ((HXY.out.2.ext H1.out.1).ext ((Ext.refl _).alloc _))).mono ?_
    rintro en w2 ⟨rfl, hc, hb⟩
    have hx1 : Ext w1 w2 := Chg.ext ((Ext.refl _).alloc _) hc (Nat.le_refl _)
    have H2 := Lib.hid (And.intro (H1.out.1.trans hx1) (And.intro (H1.out.2.ext hx1) hb))
    clear hc hb hx1
    go_wp2_with (fail)
    refine (HD.out w2.heap.size (w2.heap.size + 1) w.heap.size w1.heap.size _ ((Hv.new w2 _).ext ((Ext.refl _).alloc _)) ?_ (H2.out.2.1.ext (((Ext.refl _).alloc _).alloc _)) (H2.out.2.2.ext (((Ext.refl _).alloc _).alloc _)) (by omega)).mono ?_
    · have h := Hv.new (w2.alloc (.cells #[.bool false, .slice none 0 0] 95)) 95
      rwa [show (w2.alloc (.cells #[.bool false, .slice none 0 0] 95)).heap.size = w2.heap.size + 1 by simp] at h
    rintro en w3 ⟨rfl, hc, hb, hb2⟩
    have hx1 : Ext w2 w3 := Ch2.ext (((Ext.refl w2).alloc _).alloc _) hc (Nat.le_refl _) (Nat.le_succ _)
    have H3 := Lib.hid (And.intro (H2.out.1.trans hx1) (And.intro hb hb2))
    have hsz := H2.out.1.size
    clear hc hb hx1 hb2
    go_wp2_with (fail)
    go_ret2
    exact ⟨w2.heap.size, w2.heap.size + 1, rfl, H3.out.1, hsz, H3.out.2.1, _, H3.out.2.2⟩
  · have HS := Lib.hid (i_sign gy y w hy)
    rw [show sgnI y = 1 by unfold sgnI; rw [if_neg h, if_neg hy0]] at HS
    have HF : Hid (x.fdiv y = x / y) := Int.fdiv_eq_ediv_of_nonneg _ (by omega)
    have HD : Hid (∀ gz gm w1, Hv w1 95 gz → Hv w1 95 gm → Bi w1 95 gx x → Bi w1 95 gy y → gz ≠ gm → Calls Tryz.prog 142 #[.pointer (some ⟨gz, 0, none⟩), .pointer (some ⟨gx, 0, none⟩), .pointer (some ⟨gy, 0, none⟩), .pointer (some ⟨gm, 0, none⟩)] w1 fun e w' => e = .returned (.tuple #[.pointer (some ⟨gz, 0, none⟩), .pointer (some ⟨gm, 0, none⟩)]) ∧ Ch2 gz gm w1 w' ∧ Bi w' 95 gz (x / y) ∧ Bi w' 95 gm (x % y)) := by
      intro gz gm w1 i1 i2 i3 i4 i5
      exact i_divMod gz gx gy gm x y w1 i1 i2 i3 i4 i5 (by omega) hb hb'
    rw [HF.out]
    clear hx hy hb hb' hy0 h HF
    go_enter Tryz.func107, Tryz.ntmps107
    go_wp2_with (fail)
    refine HS.out.mono ?_
    rintro en wn ⟨rfl, rfl⟩
    go_wp2_with (fail)
    refine (HD.out w.heap.size (w.heap.size + 1) _ ((Hv.new w _).ext ((Ext.refl _).alloc _)) ?_ (HXY.out.1.ext (((Ext.refl _).alloc _).alloc _)) (HXY.out.2.ext (((Ext.refl _).alloc _).alloc _)) (by omega)).mono ?_
    · have h := Hv.new (w.alloc (.cells #[.bool false, .slice none 0 0] 95)) 95
      rwa [show (w.alloc (.cells #[.bool false, .slice none 0 0] 95)).heap.size = w.heap.size + 1 by simp] at h
    rintro en w3 ⟨rfl, hc, hb, hb2⟩
    have hx1 : Ext w w3 := Ch2.ext (((Ext.refl w).alloc _).alloc _) hc (Nat.le_refl _) (Nat.le_succ _)
    have H3 := Lib.hid (And.intro hx1 (And.intro hb hb2))
    clear hc hb hx1 hb2
    go_wp2_with (fail)
    go_ret2
    exact ⟨w.heap.size, w.heap.size + 1, rfl, H3.out.1, Nat.le_refl _, H3.out.2.1, _, H3.out.2.2⟩
end Go.Proofs.YtdpjkddllimcoaaGreatDoor
end

section
/- Exact numbers: a quotient nearer to nought than the place. -/
namespace Go.Proofs.YtdpjkddllimcoaaGreatDoor
open Go.RowKit Fl
theorem d_small (neg : Bool) (w : World) (hT : Tab32 w) :
    Calls Tryz.prog 104 #[.bool neg, .int .i64 0] w fun en w' => ∃ v, en = .returned (.tuple #[v, .bool false, .int .i64 0]) ∧ Ext w w' ∧ Dy w' v (if neg then -1 else 0) 0 := by
  have HBx := Lib.hid (Bx.new w 47 false (.slice none 0 0) 0)
  have HX : Hid (∀ o, Ext w (w.alloc o)) := fun o => (Ext.refl w).alloc o
  cases neg
  · have r0 := HBx.out.c0
    have r1 := HBx.out.c1
    have r2 := HBx.out.c2
    have r3 := HBx.out.frozen 0
    have r4 := HBx.out.frozen 1
    have r5 := HBx.out.frozen 2
    go_enter Tryz.func104, Tryz.ntmps104
    go_wp2_with (fail)
    refine bodyPost_ret (v := .tuple #[.agg #[.bool false, .slice none 0 0, .int .i64 0], .bool false, .int .i64 0]) (by simp [results, Tryz.results104, go_sem, r0, r1, r2]) rfl ⟨_, rfl, ?_, Dy.zero _ _⟩
    exact HX.out _
  · have HN := Lib.hid (i_new (-1) (w.alloc (.cells #[.bool false, .slice none 0 0, .int .i64 0] 47)) (by decide) (by decide))
    have HNum : Hid (∀ gn w1, Ext w w1 → Bi w1 95 gn (-1) → Calls Tryz.prog 108 #[.pointer (some ⟨gn, 0, none⟩), .int .i64 0] w1 fun en w' => ∃ v, en = .returned (.tuple #[v, .int .i64 0]) ∧ Ext w1 w' ∧ Dy w' v (-1) 0) := by
      intro gn w1 hx1 hb
      exact d_num gn 1 (-1) 0 w1 hb (by decide) (by decide) (by decide) (by decide) (by decide) (hT.ext hx1)
    clear hT
    go_enter Tryz.func104, Tryz.ntmps104
    go_wp2_with (fail)
    refine HN.out.mono ?_
    rintro en w1 ⟨g, rfl, hx, hg, hb⟩
    have H1 := Lib.hid (And.intro ((HX.out _).trans hx) (And.intro (HBx.out.ext hx) hb))
    clear hx hg hb
    go_wp2_with (fail)
    refine (HNum.out g _ H1.out.1 H1.out.2.2).mono ?_
    rintro en w2 ⟨v, rfl, hx, hd⟩
    obtain ⟨neg0, s0, E0, rfl⟩ := hd.form
    obtain ⟨p0, l0, c0, rfl⟩ := hd.sl
    have H2 := Lib.hid (And.intro (H1.out.1.trans hx) (And.intro (H1.out.2.1.ext hx) hd))
    have a0 := H2.out.2.1.c0
    have a1 := H2.out.2.1.c1
    have a2 := H2.out.2.1.c2
    have a3 := H2.out.2.1.frozen 0
    have a4 := H2.out.2.1.frozen 1
    have a5 := H2.out.2.1.frozen 2
    have hlt := H2.out.2.1.lt
    clear hx hd
    go_wp2_with (fail)
    have hne : ¬ w.heap.size = w2.heap.size := by omega
    refine bodyPost_ret (v := .tuple #[.agg #[.bool neg0, .slice p0 l0 c0, .int .i64 E0], .bool false, .int .i64 0]) (by simp [results, Tryz.results104, go_sem, a0, a1, a2, hlt, hne]) rfl ⟨_, rfl, ?_, ?_⟩
    · exact (H2.out.1.set3 (Nat.le_refl _) _ _ _).alloc _
    · exact (H2.out.2.2.setBx H2.out.2.1 IsSl.nil _ _ _).ext ((Ext.refl _).alloc _)
end Go.Proofs.YtdpjkddllimcoaaGreatDoor
end

section
/- Exact numbers: quotients cut to below, plain. -/
namespace Fl
open Go Go.RowKit
theorem fdiv_scale (a b : Int) (k : Nat) : (a * 2 ^ k).fdiv (b * 2 ^ k) = a.fdiv b := by
  rw [Int.mul_comm a, Int.mul_comm b]
  exact Int.mul_fdiv_mul_of_pos _ _ (Int.pow_pos (by decide))
theorem fdiv_up {o1 E1 x o2 E2 y f : Int} (r1 : Rep o1 E1 x f) (r2 : Rep o2 E2 y f) (h1 : o1 ≠ 0) (h2 : o2 ≠ 0) {k : Nat} (hk : E1 - E2 = k) : (o1 * 2 ^ k).fdiv o2 = x.fdiv y := by
  obtain ⟨j, rfl, e1⟩ := r1.exp h1
  obtain ⟨i, rfl, e2⟩ := r2.exp h2
  rw [show j = k + i by omega, Int.pow_add, ← Int.mul_assoc, fdiv_scale]
theorem fdiv_down {o1 E1 x o2 E2 y f : Int} (r1 : Rep o1 E1 x f) (r2 : Rep o2 E2 y f) (h1 : o1 ≠ 0) (h2 : o2 ≠ 0) {k : Nat} (hk : E2 - E1 = k) : o1.fdiv (o2 * 2 ^ k) = x.fdiv y := by
  obtain ⟨j, rfl, e1⟩ := r1.exp h1
  obtain ⟨i, rfl, e2⟩ := r2.exp h2
  rw [show i = k + j by omega, Int.pow_add, ← Int.mul_assoc, fdiv_scale]
theorem fdiv_pos_small {x y : Int} (hy : 0 < y) (h : x.natAbs < y.natAbs) : x.fdiv y = if x < 0 then -1 else 0 := by
  rw [Int.fdiv_eq_ediv_of_nonneg _ (by omega)]
  by_cases hx : x < 0
  · rw [if_pos hx]
    have h1 : (x + 1 * y) / y = x / y + 1 := Int.add_mul_ediv_right _ _ (by omega)
    have h2 : (x + 1 * y) / y = 0 := Int.ediv_eq_zero_of_lt (by omega) (by omega)
    omega
  · rw [if_neg hx]
    exact Int.ediv_eq_zero_of_lt (by omega) (by omega)
theorem fdiv_small {x y : Int} (hx : x ≠ 0) (hy : y ≠ 0) (h : x.natAbs < y.natAbs) : x.fdiv y = if (sgnI x != sgnI y) then -1 else 0 := by
  unfold sgnI
  by_cases h1 : y < 0
  · rw [← Int.neg_fdiv_neg, fdiv_pos_small (by omega) (by omega)]
    by_cases h2 : x < 0
    · rw [if_neg (by omega), if_pos h2, if_pos h1]; rfl
    · rw [if_pos (by omega), if_neg h2, if_neg hx, if_pos h1]; rfl
  · rw [fdiv_pos_small (by omega) h]
    by_cases h2 : x < 0
    · rw [if_pos h2, if_pos h2, if_neg h1, if_neg hy]; rfl
    · rw [if_neg h2, if_neg h2, if_neg hx, if_neg h1, if_neg hy]; rfl
theorem fdiv_le {x y : Int} : (x.fdiv y).natAbs ≤ x.natAbs := by
  by_cases h : y < 0
  · rw [← Int.neg_fdiv_neg, Int.fdiv_eq_ediv_of_nonneg _ (by omega)]
    have := Int.natAbs_ediv_le_natAbs (-x) (-y)
    omega
  · rw [Int.fdiv_eq_ediv_of_nonneg _ (by omega)]
    exact Int.natAbs_ediv_le_natAbs x y
theorem top_lt_abs {x y f : Int} (hx : x ≠ 0) (hy : y ≠ 0) (h : topI x f < topI y f) : x.natAbs < y.natAbs := by
  unfold topI at h
  rw [if_neg hx, if_neg hy] at h
  have h1 := bl_lt x.natAbs
  have h2 := pow_le_of_bl (n := y.natAbs) (b := bl x.natAbs) (by omega)
  omega
theorem Bi.neB {w : World} {t t' : TypeId} {g k : Nat} {z : Int} {neg : Bool} {s : Value} {E : Int} (h : Bi w t g z) (hb : Bx w t' k neg s E) : g ≠ k := by
  rintro rfl
  obtain ⟨s', h1, -⟩ := h
  unfold Bx at hb
  unfold Hd at h1
  rw [h1] at hb
  simp at hb
theorem Bi.chgB {w w' : World} {t t' : TypeId} {g k : Nat} {z : Int} {neg : Bool} {s : Value} {E : Int} (h : Bi w t g z) (hb : Bx w t' k neg s E) (hs : IsSl s) (hx : Chg k w w') : Bi w' t g z := by
  have hne := h.neB hb
  obtain ⟨s', h1, h2⟩ := h
  exact ⟨s', h1.chg hx hne, h2.chgB hb hs hx⟩
theorem Bi.setBx {w : World} {t t' : TypeId} {g k : Nat} {z : Int} {neg : Bool} {s : Value} {E : Int} (h : Bi w t g z) (hb : Bx w t' k neg s E) (hs : IsSl s) (a b c : Value) :
    Bi (((w.setCell ⟨k, 0, none⟩ a).setCell ⟨k, 1, none⟩ b).setCell ⟨k, 2, none⟩ c) t g z :=
  h.chgB hb hs ((((Chg.refl k w).set rfl a).set rfl b).set rfl c)
theorem sgn_rep {o E x f : Int} (r : Rep o E x f) : sgnI o = sgnI x := r.sgn.2.2.symm
end Fl
end

section
/- Exact numbers: quotients cut to below. -/
namespace Go.Proofs.YtdpjkddllimcoaaGreatDoor
open Go.RowKit Fl
set_option maxRecDepth 20000 in
set_option maxHeartbeats 8000000 in
theorem d_Quo (a b : Value) (x y f : Int) (L : Nat) (w : World) (h1 : Dy w a x f) (h2 : Dy w b y f) (hx0 : x ≠ 0) (hy0 : y ≠ 0) (hx : x.natAbs < 2 ^ L) (hy : y.natAbs < 2 ^ L) (hL : L ≤ 6000) (hf : -6000 ≤ f) (hf2 : f ≤ 6000) (hT : Tab32 w) :
    Calls Tryz.prog 53 #[a, b, .int .i64 0] w fun en w' => ∃ v b, en = .returned (.tuple #[v, .bool b, .int .i64 0]) ∧ Ext w w' ∧ Dy w' v (x.fdiv y) 0 := by
  have HT := Lib.hid hT
  have D1 := Lib.hid h1
  have D2 := Lib.hid h2
  obtain ⟨n1, p1, l1, c1, o1, E1, rfl, -, hl1, d1, r1, k1⟩ := h1.open
  obtain ⟨n2, p2, l2, c2, o2, E2, rfl, -, hl2, d2, r2, k2⟩ := h2.open
  have z1 : o1 ≠ 0 := fun h => hx0 (r1.sgn.2.1.2 h)
  have z2 : o2 ≠ 0 := fun h => hy0 (r2.sgn.2.1.2 h)
  have HB := Lib.hid (boxes3 w 47 n1 (.slice p1 l1 c1) E1 n2 (.slice p2 l2 c2) E2 (.cells #[.bool n1, .slice p1 l1 c1, .int .i64 E1, .bool n2, .slice p2 l2 c2, .int .i64 E2] 47))
  have HV := Lib.hid (d_valid2 o1 E1 o2 E2 n1 n2 (.slice p1 l1 c1) (.slice p2 l2 c2) (w.heap.size + 3) _ HB.out.2.2.2.2 (d1.ext HB.out.1) (d2.ext HB.out.1) k1 k2)
  obtain ⟨j, q1, q2⟩ := r1.exp z1
  obtain ⟨i, q3, q4⟩ := r2.exp z2
  have hb1 := bits_mul_pow (X := o1) (k := j) (M := L) (by rw [← q1]; exact hx) z1
  have hb2 := bits_mul_pow (X := o2) (k := i) (M := L) (by rw [← q3]; exact hy) z2
  have HT1 : Hid (∀ w', Ext w w' → Calls Tryz.prog 101 #[.agg #[.bool n1, .slice p1 l1 c1, .int .i64 E1]] w' fun en w'' => en = .returned (.int .i64 (topI x f)) ∧ Ext w' w'') := by
    intro w' hx'
    exact d_Top _ x f w' (D1.out.ext hx')
  have HT2 : Hid (∀ w', Ext w w' → Calls Tryz.prog 101 #[.agg #[.bool n2, .slice p2 l2 c2, .int .i64 E2]] w' fun en w'' => en = .returned (.int .i64 (topI y f)) ∧ Ext w' w'') := by
    intro w' hx'
    exact d_Top _ y f w' (D2.out.ext hx')
  have HV1 : Hid (∀ w', Ext w w' → Calls Tryz.prog 103 #[.agg #[.bool n1, .slice p1 l1 c1, .int .i64 E1]] w' fun e w'' => ∃ g, e = .returned (.pointer (some ⟨g, 0, none⟩)) ∧ Ext w' w'' ∧ w'.heap.size ≤ g ∧ Bi w'' 95 g o1) := by
    intro w' hx'
    exact d_value o1 E1 _ w' (d1.ext hx') k1.fit
  have HV2 : Hid (∀ w', Ext w w' → Calls Tryz.prog 103 #[.agg #[.bool n2, .slice p2 l2 c2, .int .i64 E2]] w' fun e w'' => ∃ g, e = .returned (.pointer (some ⟨g, 0, none⟩)) ∧ Ext w' w'' ∧ w'.heap.size ≤ g ∧ Bi w'' 95 g o2) := by
    intro w' hx'
    exact d_value o2 E2 _ w' (d2.ext hx') k2.fit
  have HNum : Hid (∀ gn w1, Ext w w1 → Bi w1 95 gn (x.fdiv y) → Calls Tryz.prog 108 #[.pointer (some ⟨gn, 0, none⟩), .int .i64 0] w1 fun en w' => ∃ v, en = .returned (.tuple #[v, .int .i64 0]) ∧ Ext w1 w' ∧ Dy w' v (x.fdiv y) 0) := by
    intro gn w1 hx1 hb
    exact d_num_any gn L _ 0 w1 hb (Nat.lt_of_le_of_lt fdiv_le hx) (by omega) (by decide) (by omega) (hT.ext hx1)
  have hr1 := topI_le (e := f) hx hx0
  have hr2 := topI_le (e := f) hy hy0
  have HFit : Hid (∀ (o : Int) (k m : Nat), bl o.natAbs + m ≤ L → k ≤ m → (o * 2 ^ k).natAbs < 4294967296 ^ 1048573) := by
    intro o k m h1 h2
    rw [natAbs_mul_pow]
    refine fit_of (k := bl o.natAbs + k) (l := 1048573) ?_ (by omega)
    rw [Nat.pow_add]
    exact Nat.mul_lt_mul_of_pos_right (bl_lt _) (Nat.two_pow_pos k)
  have HF1 : Hid (o1.natAbs < 4294967296 ^ 1048573) := by have := HFit.out o1 0 0 (by omega) (Nat.le_refl 0); rwa [Int.pow_zero, Int.mul_one] at this
  have HF2 : Hid (o2.natAbs < 4294967296 ^ 1048573) := by have := HFit.out o2 0 0 (by omega) (Nat.le_refl 0); rwa [Int.pow_zero, Int.mul_one] at this
  have t1 : ((l1 : Int) == 0) = false := by simp; omega
  have t2 : ((l2 : Int) == 0) = false := by simp; omega
  have hw1 : IntKind.i64.wrap (topI x f - topI y f) = topI x f - topI y f := IntWalk.i64_in _ (by omega)
  have t3 : decide ((65540 : Int) < topI x f - topI y f) = false := by simp; omega
  have hE1 : -6000 ≤ E1 ∧ E1 ≤ 12000 := by omega
  have hE2 : -6000 ≤ E2 ∧ E2 ≤ 12000 := by omega
  obtain ⟨hE11, hE12⟩ := hE1
  obtain ⟨hE21, hE22⟩ := hE2
  by_cases hs : topI x f - topI y f < -4
  · have HSm : Hid (∀ w1, Ext w w1 → Calls Tryz.prog 104 #[.bool (sgnI o1 != sgnI o2), .int .i64 0] w1 fun en w' => ∃ v, en = .returned (.tuple #[v, .bool false, .int .i64 0]) ∧ Ext w1 w' ∧ Dy w' v (x.fdiv y) 0) := by
      intro w1 hx1
      rw [fdiv_small hx0 hy0 (top_lt_abs (f := f) hx0 hy0 (by omega)), sgn_rep r1, sgn_rep r2]
      exact d_small _ w1 (hT.ext hx1)
    have t4 : decide (topI x f - topI y f < -4) = true := by simp; omega
    clear h1 h2 hx0 hy0 hx hy hL hf hf2 hT hl1 hl2 d1 d2 r1 r2 k1 k2 z1 z2 q1 q2 q3 q4 hb1 hb2 hr1 hr2 HFit HF1 HF2 hs HNum
    generalize topI x f = tx at *
    generalize topI y f = ty at *
    go_enter Tryz.func53, Tryz.ntmps53
    go_wp2_with (fail)
    refine HV.out.mono ?_
    rintro en w1 ⟨rfl, hx⟩
    have H1 : Hid (Bx w1 47 w.heap.size n1 (.slice p1 l1 c1) E1 ∧ Bx w1 47 (w.heap.size + 1) n2 (.slice p2 l2 c2) E2 ∧ Ext w w1 ∧ Bx w1 47 (w.heap.size + 2) false (.slice none 0 0) 0) := ⟨HB.out.2.1.ext hx, HB.out.2.2.1.ext hx, HB.out.1.trans hx, HB.out.2.2.2.1.ext hx⟩
    clear hx HV HB
    have a0 := H1.out.1.c0
    have a1 := H1.out.1.c1
    have a2 := H1.out.1.c2
    have a3 := H1.out.2.1.c0
    have a4 := H1.out.2.1.c1
    have a5 := H1.out.2.1.c2
    go_wp2_with (fail)
    refine (d_placed _).mono ?_
    rintro en wn ⟨rfl, rfl⟩
    go_wp2_with (fail)
    go_region_held3 (fun w' => w'.cell? ⟨w.heap.size, 0, none⟩ = some (.bool n1) ∧ w'.cell? ⟨w.heap.size, 1, none⟩ = some (.slice p1 l1 c1) ∧ w'.cell? ⟨w.heap.size, 2, none⟩ = some (.int .i64 E1) ∧ w'.cell? ⟨w.heap.size + 1, 0, none⟩ = some (.bool n2) ∧ w'.cell? ⟨w.heap.size + 1, 1, none⟩ = some (.slice p2 l2 c2) ∧ w'.cell? ⟨w.heap.size + 1, 2, none⟩ = some (.int .i64 E2))
      (first | go_keep | (exact ⟨H3.out.1.c0, H3.out.1.c1, H3.out.1.c2, H3.out.2.1.c0, H3.out.2.1.c1, H3.out.2.1.c2⟩) | (exact ⟨H2.out.1.c0, H2.out.1.c1, H2.out.1.c2, H2.out.2.1.c0, H2.out.2.1.c1, H2.out.2.1.c2⟩) | fail)
      (first | (go_at_call_of 101 (Value.agg #[.bool n1, .slice p1 l1 c1, .int .i64 E1]); refine (HT1.out _ (by first | exact H1.out.2.2.1 | exact H1.out.2.2.1.drew | exact H1.out.2.2.1.drewN _ | fail)).mono ?_; rintro en w2 ⟨rfl, hx⟩; have hx1 : Ext w1 w2 := (by first | exact hx | exact (Ext.of_drew hx) | fail); have H2 : Hid (Bx w2 47 w.heap.size n1 (.slice p1 l1 c1) E1 ∧ Bx w2 47 (w.heap.size + 1) n2 (.slice p2 l2 c2) E2 ∧ Ext w w2 ∧ Bx w2 47 (w.heap.size + 2) false (.slice none 0 0) 0) := ⟨H1.out.1.ext hx1, H1.out.2.1.ext hx1, H1.out.2.2.1.trans hx1, H1.out.2.2.2.ext hx1⟩; clear hx hx1) | (go_at_call_of 101 (Value.agg #[.bool n2, .slice p2 l2 c2, .int .i64 E2]); refine (HT2.out _ (by first | exact H2.out.2.2.1 | exact H2.out.2.2.1.drew | exact H2.out.2.2.1.drewN _ | fail)).mono ?_; rintro en w3 ⟨rfl, hx⟩; have hx1 : Ext w2 w3 := (by first | exact hx | exact (Ext.of_drew hx) | fail); have H3 : Hid (Bx w3 47 w.heap.size n1 (.slice p1 l1 c1) E1 ∧ Bx w3 47 (w.heap.size + 1) n2 (.slice p2 l2 c2) E2 ∧ Ext w w3 ∧ Bx w3 47 (w.heap.size + 2) false (.slice none 0 0) 0) := ⟨H2.out.1.ext hx1, H2.out.2.1.ext hx1, H2.out.2.2.1.trans hx1, H2.out.2.2.2.ext hx1⟩; clear hx hx1))
    clear a0 a1 a2 a3 a4 a5
    have a0 := H3.out.1.c0
    have a1 := H3.out.1.c1
    have a2 := H3.out.1.c2
    have a3 := H3.out.2.1.c0
    have a4 := H3.out.2.1.c1
    have a5 := H3.out.2.1.c2
    go_wp2_with (fail)
    go_region_held3 (fun w' => w'.cell? ⟨w.heap.size, 0, none⟩ = some (.bool n1) ∧ w'.cell? ⟨w.heap.size, 1, none⟩ = some (.slice p1 l1 c1) ∧ w'.cell? ⟨w.heap.size, 2, none⟩ = some (.int .i64 E1) ∧ w'.cell? ⟨w.heap.size + 1, 0, none⟩ = some (.bool n2) ∧ w'.cell? ⟨w.heap.size + 1, 1, none⟩ = some (.slice p2 l2 c2) ∧ w'.cell? ⟨w.heap.size + 1, 2, none⟩ = some (.int .i64 E2))
      (first | go_keep | (exact ⟨H5.out.1.c0, H5.out.1.c1, H5.out.1.c2, H5.out.2.1.c0, H5.out.2.1.c1, H5.out.2.1.c2⟩) | (exact ⟨H4.out.1.c0, H4.out.1.c1, H4.out.1.c2, H4.out.2.1.c0, H4.out.2.1.c1, H4.out.2.1.c2⟩) | fail)
      (first | (go_at_call_of 103 (Value.agg #[.bool n1, .slice p1 l1 c1, .int .i64 E1]); refine (HV1.out _ (by first | exact H3.out.2.2.1 | exact H3.out.2.2.1.drew | exact H3.out.2.2.1.drewN _ | fail)).mono ?_; rintro en w4 ⟨gx, rfl, hx, hg, hb⟩; have hx1 : Ext w3 w4 := (by first | exact hx | exact (Ext.of_drew hx) | fail); have HVgx : Hid (Bi w4 95 gx o1 ∧ w3.heap.size ≤ gx) := ⟨hb, by first | exact hg | (simp at hg; exact hg)⟩; have HX4 : Hid (Ext w3 w4) := hx1; clear hg hb; have H4 : Hid (Bx w4 47 w.heap.size n1 (.slice p1 l1 c1) E1 ∧ Bx w4 47 (w.heap.size + 1) n2 (.slice p2 l2 c2) E2 ∧ Ext w w4 ∧ Bx w4 47 (w.heap.size + 2) false (.slice none 0 0) 0) := ⟨H3.out.1.ext hx1, H3.out.2.1.ext hx1, H3.out.2.2.1.trans hx1, H3.out.2.2.2.ext hx1⟩; clear hx hx1) | (go_at_call_of 103 (Value.agg #[.bool n2, .slice p2 l2 c2, .int .i64 E2]); refine (HV2.out _ (by first | exact H4.out.2.2.1 | exact H4.out.2.2.1.drew | exact H4.out.2.2.1.drewN _ | fail)).mono ?_; rintro en w5 ⟨gy, rfl, hx, hg, hb⟩; have hx1 : Ext w4 w5 := (by first | exact hx | exact (Ext.of_drew hx) | fail); have HVgy : Hid (Bi w5 95 gy o2 ∧ w4.heap.size ≤ gy) := ⟨hb, by first | exact hg | (simp at hg; exact hg)⟩; have HX5 : Hid (Ext w4 w5) := hx1; clear hg hb; have H5 : Hid (Bx w5 47 w.heap.size n1 (.slice p1 l1 c1) E1 ∧ Bx w5 47 (w.heap.size + 1) n2 (.slice p2 l2 c2) E2 ∧ Ext w w5 ∧ Bx w5 47 (w.heap.size + 2) false (.slice none 0 0) 0) := ⟨H4.out.1.ext hx1, H4.out.2.1.ext hx1, H4.out.2.2.1.trans hx1, H4.out.2.2.2.ext hx1⟩; clear hx hx1))
    clear a0 a1 a2 a3 a4 a5
    have a0 := H5.out.1.c0
    have a1 := H5.out.1.c1
    have a2 := H5.out.1.c2
    have a3 := H5.out.2.1.c0
    have a4 := H5.out.2.1.c1
    have a5 := H5.out.2.1.c2
    have hs1 := H3.out.2.2.2.lt
    have hs2 := HVgx.out.2
    have hs3 := HVgx.out.1.lt
    have hs4 := HVgy.out.2
    have u0 : gx ≠ gy := by omega
    have u1 : w.heap.size ≠ gx := by omega
    have u2 : w.heap.size + 1 ≠ gx := by omega
    have u3 : w.heap.size + 2 ≠ gx := by omega
    have u4 : w.heap.size ≠ gy := by omega
    have u5 : w.heap.size + 1 ≠ gy := by omega
    have u6 : w.heap.size + 2 ≠ gy := by omega
    have u7 : w.heap.size ≤ gx := by omega
    have u8 : w.heap.size ≤ gy := by omega
    have Bgx : Hid (Bi w5 95 gx o1) := HVgx.out.1.ext HX5.out
    have Bgy : Hid (Bi w5 95 gy o2) := HVgy.out.1
    clear hs1 hs2 hs3 hs4 HVgx HVgy
    go_wp2_with (fail)
    refine (i_sign gx o1 _ Bgx.out).mono ?_
    rintro en wn ⟨rfl, rfl⟩
    go_wp2_with (fail)
    refine (i_sign gy o2 _ Bgy.out).mono ?_
    rintro en wn ⟨rfl, rfl⟩
    go_wp2_with (fail)
    refine (HSm.out _ H5.out.2.2.1).mono ?_
    rintro en w6 ⟨v, rfl, hx, hd⟩
    obtain ⟨neg0, s0, E0, rfl⟩ := hd.form
    obtain ⟨p0, l0, c0, rfl⟩ := hd.sl
    have HDd := Lib.hid hd
    have hx1 : Ext w5 w6 := hx
    have H6 : Hid (Bx w6 47 w.heap.size n1 (.slice p1 l1 c1) E1 ∧ Bx w6 47 (w.heap.size + 1) n2 (.slice p2 l2 c2) E2 ∧ Ext w w6 ∧ Bx w6 47 (w.heap.size + 2) false (.slice none 0 0) 0) := ⟨H5.out.1.ext hx1, H5.out.2.1.ext hx1, H5.out.2.2.1.trans hx1, H5.out.2.2.2.ext hx1⟩; clear hx hx1
    clear hd
    have b0 := H6.out.2.2.2.c0
    have b1 := H6.out.2.2.2.c1
    have b2 := H6.out.2.2.2.c2
    have b3 := H6.out.2.2.2.frozen 0
    have b4 := H6.out.2.2.2.frozen 1
    have b5 := H6.out.2.2.2.frozen 2
    go_wp2_with (fail)
    refine bodyPost_ret (v := .tuple #[.agg #[.bool neg0, .slice p0 l0 c0, .int .i64 E0], .bool false, .int .i64 0]) (by simp [results, Tryz.results53, go_sem, b0, b1, b2]) rfl ⟨_, _, rfl, ?_, ?_⟩
    · exact H6.out.2.2.1.set3 (by omega) _ _ _
    · exact HDd.out.setBx H6.out.2.2.2 IsSl.nil _ _ _
  · have t4 : decide (topI x f - topI y f < -4) = false := by simp; omega
    by_cases hk : 0 ≤ E1 - E2
    · obtain ⟨K, hK⟩ : ∃ K : Nat, Hid (E1 - E2 = K) := ⟨(E1 - E2).toNat, by show _ = _; omega⟩
      have hK' := hK.out
      have HL : Hid (∀ gx w1, Bi w1 95 gx o1 → Calls Tryz.prog 106 #[.pointer (some ⟨gx, 0, none⟩), .pointer (some ⟨gx, 0, none⟩), .int .u64 K] w1 fun e w' => e = .returned (.pointer (some ⟨gx, 0, none⟩)) ∧ Chg gx w1 w' ∧ Bi w' 95 gx (o1 * 2 ^ K)) := by
        intro gx w1 hb
        exact i_lsh gx gx K o1 w1 hb.hv hb (fit_up (k := 1048573) (l := 1048575) HF1.out (by decide)) (by omega)
      have HFl : Hid (∀ gx gy w1, Bi w1 95 gx (o1 * 2 ^ K) → Bi w1 95 gy o2 → Calls Tryz.prog 107 #[.pointer (some ⟨gx, 0, none⟩), .pointer (some ⟨gy, 0, none⟩)] w1 fun en w' => ∃ (gz gr : Nat), en = .returned (.tuple #[.pointer (some ⟨gz, 0, none⟩), .pointer (some ⟨gr, 0, none⟩)]) ∧ Ext w1 w' ∧ w1.heap.size ≤ gz ∧ Bi w' 95 gz (x.fdiv y) ∧ ∃ r : Int, Bi w' 95 gr r) := by
        intro gx gy w1 i1 i2
        have h := d_floored gx gy (o1 * 2 ^ K) o2 w1 i1 i2 z2 (HFit.out o1 K j hb1 (by omega)) HF2.out
        rwa [fdiv_up r1 r2 z1 z2 hK.out] at h
      have t5 : decide ((0 : Int) ≤ E1 - E2) = true := by simp; omega
      clear h1 h2 hx0 hy0 hx hy hL hf hf2 hT hl1 hl2 d1 d2 r1 r2 k1 k2 z1 z2 q1 q2 q3 q4 hb1 hb2 hr1 hr2 HFit HF1 HF2 hs hK'
      generalize topI x f = tx at *
      generalize topI y f = ty at *
      go_enter Tryz.func53, Tryz.ntmps53
      go_wp2_with (fail)
      refine HV.out.mono ?_
      rintro en w1 ⟨rfl, hx⟩
      have H1 : Hid (Bx w1 47 w.heap.size n1 (.slice p1 l1 c1) E1 ∧ Bx w1 47 (w.heap.size + 1) n2 (.slice p2 l2 c2) E2 ∧ Ext w w1 ∧ Bx w1 47 (w.heap.size + 2) false (.slice none 0 0) 0) := ⟨HB.out.2.1.ext hx, HB.out.2.2.1.ext hx, HB.out.1.trans hx, HB.out.2.2.2.1.ext hx⟩
      clear hx HV HB
      have a0 := H1.out.1.c0
      have a1 := H1.out.1.c1
      have a2 := H1.out.1.c2
      have a3 := H1.out.2.1.c0
      have a4 := H1.out.2.1.c1
      have a5 := H1.out.2.1.c2
      go_wp2_with (fail)
      refine (d_placed _).mono ?_
      rintro en wn ⟨rfl, rfl⟩
      go_wp2_with (fail)
      go_region_held3 (fun w' => w'.cell? ⟨w.heap.size, 0, none⟩ = some (.bool n1) ∧ w'.cell? ⟨w.heap.size, 1, none⟩ = some (.slice p1 l1 c1) ∧ w'.cell? ⟨w.heap.size, 2, none⟩ = some (.int .i64 E1) ∧ w'.cell? ⟨w.heap.size + 1, 0, none⟩ = some (.bool n2) ∧ w'.cell? ⟨w.heap.size + 1, 1, none⟩ = some (.slice p2 l2 c2) ∧ w'.cell? ⟨w.heap.size + 1, 2, none⟩ = some (.int .i64 E2))
        (first | go_keep | (exact ⟨H3.out.1.c0, H3.out.1.c1, H3.out.1.c2, H3.out.2.1.c0, H3.out.2.1.c1, H3.out.2.1.c2⟩) | (exact ⟨H2.out.1.c0, H2.out.1.c1, H2.out.1.c2, H2.out.2.1.c0, H2.out.2.1.c1, H2.out.2.1.c2⟩) | fail)
        (first | (go_at_call_of 101 (Value.agg #[.bool n1, .slice p1 l1 c1, .int .i64 E1]); refine (HT1.out _ (by first | exact H1.out.2.2.1 | exact H1.out.2.2.1.drew | exact H1.out.2.2.1.drewN _ | fail)).mono ?_; rintro en w2 ⟨rfl, hx⟩; have hx1 : Ext w1 w2 := (by first | exact hx | exact (Ext.of_drew hx) | fail); have H2 : Hid (Bx w2 47 w.heap.size n1 (.slice p1 l1 c1) E1 ∧ Bx w2 47 (w.heap.size + 1) n2 (.slice p2 l2 c2) E2 ∧ Ext w w2 ∧ Bx w2 47 (w.heap.size + 2) false (.slice none 0 0) 0) := ⟨H1.out.1.ext hx1, H1.out.2.1.ext hx1, H1.out.2.2.1.trans hx1, H1.out.2.2.2.ext hx1⟩; clear hx hx1) | (go_at_call_of 101 (Value.agg #[.bool n2, .slice p2 l2 c2, .int .i64 E2]); refine (HT2.out _ (by first | exact H2.out.2.2.1 | exact H2.out.2.2.1.drew | exact H2.out.2.2.1.drewN _ | fail)).mono ?_; rintro en w3 ⟨rfl, hx⟩; have hx1 : Ext w2 w3 := (by first | exact hx | exact (Ext.of_drew hx) | fail); have H3 : Hid (Bx w3 47 w.heap.size n1 (.slice p1 l1 c1) E1 ∧ Bx w3 47 (w.heap.size + 1) n2 (.slice p2 l2 c2) E2 ∧ Ext w w3 ∧ Bx w3 47 (w.heap.size + 2) false (.slice none 0 0) 0) := ⟨H2.out.1.ext hx1, H2.out.2.1.ext hx1, H2.out.2.2.1.trans hx1, H2.out.2.2.2.ext hx1⟩; clear hx hx1))
      clear a0 a1 a2 a3 a4 a5
      have a0 := H3.out.1.c0
      have a1 := H3.out.1.c1
      have a2 := H3.out.1.c2
      have a3 := H3.out.2.1.c0
      have a4 := H3.out.2.1.c1
      have a5 := H3.out.2.1.c2
      go_wp2_with (fail)
      go_region_held3 (fun w' => w'.cell? ⟨w.heap.size, 0, none⟩ = some (.bool n1) ∧ w'.cell? ⟨w.heap.size, 1, none⟩ = some (.slice p1 l1 c1) ∧ w'.cell? ⟨w.heap.size, 2, none⟩ = some (.int .i64 E1) ∧ w'.cell? ⟨w.heap.size + 1, 0, none⟩ = some (.bool n2) ∧ w'.cell? ⟨w.heap.size + 1, 1, none⟩ = some (.slice p2 l2 c2) ∧ w'.cell? ⟨w.heap.size + 1, 2, none⟩ = some (.int .i64 E2))
        (first | go_keep | (exact ⟨H5.out.1.c0, H5.out.1.c1, H5.out.1.c2, H5.out.2.1.c0, H5.out.2.1.c1, H5.out.2.1.c2⟩) | (exact ⟨H4.out.1.c0, H4.out.1.c1, H4.out.1.c2, H4.out.2.1.c0, H4.out.2.1.c1, H4.out.2.1.c2⟩) | fail)
        (first | (go_at_call_of 103 (Value.agg #[.bool n1, .slice p1 l1 c1, .int .i64 E1]); refine (HV1.out _ (by first | exact H3.out.2.2.1 | exact H3.out.2.2.1.drew | exact H3.out.2.2.1.drewN _ | fail)).mono ?_; rintro en w4 ⟨gx, rfl, hx, hg, hb⟩; have hx1 : Ext w3 w4 := (by first | exact hx | exact (Ext.of_drew hx) | fail); have HVgx : Hid (Bi w4 95 gx o1 ∧ w3.heap.size ≤ gx) := ⟨hb, by first | exact hg | (simp at hg; exact hg)⟩; have HX4 : Hid (Ext w3 w4) := hx1; clear hg hb; have H4 : Hid (Bx w4 47 w.heap.size n1 (.slice p1 l1 c1) E1 ∧ Bx w4 47 (w.heap.size + 1) n2 (.slice p2 l2 c2) E2 ∧ Ext w w4 ∧ Bx w4 47 (w.heap.size + 2) false (.slice none 0 0) 0) := ⟨H3.out.1.ext hx1, H3.out.2.1.ext hx1, H3.out.2.2.1.trans hx1, H3.out.2.2.2.ext hx1⟩; clear hx hx1) | (go_at_call_of 103 (Value.agg #[.bool n2, .slice p2 l2 c2, .int .i64 E2]); refine (HV2.out _ (by first | exact H4.out.2.2.1 | exact H4.out.2.2.1.drew | exact H4.out.2.2.1.drewN _ | fail)).mono ?_; rintro en w5 ⟨gy, rfl, hx, hg, hb⟩; have hx1 : Ext w4 w5 := (by first | exact hx | exact (Ext.of_drew hx) | fail); have HVgy : Hid (Bi w5 95 gy o2 ∧ w4.heap.size ≤ gy) := ⟨hb, by first | exact hg | (simp at hg; exact hg)⟩; have HX5 : Hid (Ext w4 w5) := hx1; clear hg hb; have H5 : Hid (Bx w5 47 w.heap.size n1 (.slice p1 l1 c1) E1 ∧ Bx w5 47 (w.heap.size + 1) n2 (.slice p2 l2 c2) E2 ∧ Ext w w5 ∧ Bx w5 47 (w.heap.size + 2) false (.slice none 0 0) 0) := ⟨H4.out.1.ext hx1, H4.out.2.1.ext hx1, H4.out.2.2.1.trans hx1, H4.out.2.2.2.ext hx1⟩; clear hx hx1))
      clear a0 a1 a2 a3 a4 a5
      have a0 := H5.out.1.c0
      have a1 := H5.out.1.c1
      have a2 := H5.out.1.c2
      have a3 := H5.out.2.1.c0
      have a4 := H5.out.2.1.c1
      have a5 := H5.out.2.1.c2
      have hs1 := H3.out.2.2.2.lt
      have hs2 := HVgx.out.2
      have hs3 := HVgx.out.1.lt
      have hs4 := HVgy.out.2
      have u0 : gx ≠ gy := by omega
      have u1 : w.heap.size ≠ gx := by omega
      have u2 : w.heap.size + 1 ≠ gx := by omega
      have u3 : w.heap.size + 2 ≠ gx := by omega
      have u4 : w.heap.size ≠ gy := by omega
      have u5 : w.heap.size + 1 ≠ gy := by omega
      have u6 : w.heap.size + 2 ≠ gy := by omega
      have u7 : w.heap.size ≤ gx := by omega
      have u8 : w.heap.size ≤ gy := by omega
      have Bgx : Hid (Bi w5 95 gx o1) := HVgx.out.1.ext HX5.out
      have Bgy : Hid (Bi w5 95 gy o2) := HVgy.out.1
      clear hs1 hs2 hs3 hs4 HVgx HVgy
      go_wp2_with (fail)
      rw [hK.out]
      refine (HL.out gx _ Bgx.out).mono ?_
      rintro en w6 ⟨rfl, hc, hb⟩
      have H6 : Hid (Bi w6 95 gx (o1 * 2 ^ K) ∧ Bi w6 95 gy o2 ∧ Ext w w6 ∧ Bx w6 47 (w.heap.size + 2) false (.slice none 0 0) 0) := ⟨hb, Bgy.out.chg Bgx.out.hv hc (by omega), Chg.ext H5.out.2.2.1 hc (by omega), H5.out.2.2.2.chg hc (by omega)⟩
      clear hc hb a0 a1 a2 a3 a4 a5
      go_wp2_with (fail)
      refine (HFl.out gx gy _ H6.out.1 H6.out.2.1).mono ?_
      rintro en w7 ⟨gz, gr, rfl, hx, -, hb, r, hr⟩
      have H7 : Hid (Bi w7 95 gz (x.fdiv y) ∧ Bi w7 95 gr r ∧ Ext w w7 ∧ Bx w7 47 (w.heap.size + 2) false (.slice none 0 0) 0) := ⟨hb, hr, H6.out.2.2.1.trans hx, H6.out.2.2.2.ext hx⟩
      clear hx hb hr
      go_wp2_with (fail)
      refine (HNum.out gz _ H7.out.2.2.1 H7.out.1).mono ?_
      rintro en w8 ⟨v, rfl, hx, hd⟩
      obtain ⟨neg0, s0, E0, rfl⟩ := hd.form
      obtain ⟨p0, l0, c0, rfl⟩ := hd.sl
      have H8 : Hid (Dy w8 (.agg #[.bool neg0, .slice p0 l0 c0, .int .i64 E0]) (x.fdiv y) 0 ∧ Bi w8 95 gr r ∧ Ext w w8 ∧ Bx w8 47 (w.heap.size + 2) false (.slice none 0 0) 0) := ⟨hd, H7.out.2.1.ext hx, H7.out.2.2.1.trans hx, H7.out.2.2.2.ext hx⟩
      clear hx hd
      have b0 := H8.out.2.2.2.c0
      have b1 := H8.out.2.2.2.c1
      have b2 := H8.out.2.2.2.c2
      have b3 := H8.out.2.2.2.frozen 0
      have b4 := H8.out.2.2.2.frozen 1
      have b5 := H8.out.2.2.2.frozen 2
      go_wp2_with (fail)
      have H9 : Hid (Bx (w8.alloc (.cells #[.bool neg0, .slice p0 l0 c0, .int .i64 E0] 47)) 47 w8.heap.size neg0 (.slice p0 l0 c0) E0 ∧ Bi (w8.alloc (.cells #[.bool neg0, .slice p0 l0 c0, .int .i64 E0] 47)) 95 gr r ∧ Ext w (w8.alloc (.cells #[.bool neg0, .slice p0 l0 c0, .int .i64 E0] 47)) ∧ Bx (w8.alloc (.cells #[.bool neg0, .slice p0 l0 c0, .int .i64 E0] 47)) 47 (w.heap.size + 2) false (.slice none 0 0) 0 ∧ Dy (w8.alloc (.cells #[.bool neg0, .slice p0 l0 c0, .int .i64 E0] 47)) (.agg #[.bool neg0, .slice p0 l0 c0, .int .i64 E0]) (x.fdiv y) 0) := ⟨Bx.new _ _ _ _ _, H8.out.2.1.ext ((Ext.refl _).alloc _), H8.out.2.2.1.alloc _, H8.out.2.2.2.ext ((Ext.refl _).alloc _), H8.out.1.ext ((Ext.refl _).alloc _)⟩
      have hlt := H8.out.2.2.2.lt
      clear b0 b1 b2 b3 b4 b5 H8
      generalize w8.alloc (.cells #[.bool neg0, .slice p0 l0 c0, .int .i64 E0] 47) = w9 at *
      have hne : ¬ w8.heap.size = w.heap.size + 2 := by omega
      clear hlt
      generalize w8.heap.size = g9 at *
      have a0 := H9.out.1.c0
      have a1 := H9.out.1.c1
      have a2 := H9.out.1.c2
      have b0 := H9.out.2.2.2.1.c0
      have b1 := H9.out.2.2.2.1.c1
      have b2 := H9.out.2.2.2.1.c2
      have b3 := H9.out.2.2.2.1.frozen 0
      have b4 := H9.out.2.2.2.1.frozen 1
      have b5 := H9.out.2.2.2.1.frozen 2
      go_region_with (first | (go_at_call 105; refine (i_sign gr r _ (by first | exact H9.out.2.1 | exact H9.out.2.1.ext (Ext.drewN (Ext.refl _) _) | exact H9.out.2.1.setBx H9.out.2.2.2.1 IsSl.nil _ _ _)).mono ?_; rintro en wn ⟨rfl, rfl⟩))
      all_goals
        go_wp2_with (fail)
        refine bodyPost_ret (v := .tuple #[.agg #[.bool neg0, .slice p0 l0 c0, .int .i64 E0], .bool (sgnI r == 0), .int .i64 0]) (by simp [results, Tryz.results53, go_sem, b0, b1, b2]) rfl ⟨_, _, rfl, ?_, ?_⟩
        · exact H9.out.2.2.1.set3 (by omega) _ _ _
        · exact H9.out.2.2.2.2.setBx H9.out.2.2.2.1 IsSl.nil _ _ _
    · obtain ⟨K, hK⟩ : ∃ K : Nat, Hid (E2 - E1 = K) := ⟨(E2 - E1).toNat, by show _ = _; omega⟩
      have hK' := hK.out
      have HL : Hid (∀ gx w1, Bi w1 95 gx o2 → Calls Tryz.prog 106 #[.pointer (some ⟨gx, 0, none⟩), .pointer (some ⟨gx, 0, none⟩), .int .u64 K] w1 fun e w' => e = .returned (.pointer (some ⟨gx, 0, none⟩)) ∧ Chg gx w1 w' ∧ Bi w' 95 gx (o2 * 2 ^ K)) := by
        intro gx w1 hb
        exact i_lsh gx gx K o2 w1 hb.hv hb (fit_up (k := 1048573) (l := 1048575) HF2.out (by decide)) (by omega)
      have HFl : Hid (∀ gx gy w1, Bi w1 95 gx o1 → Bi w1 95 gy (o2 * 2 ^ K) → Calls Tryz.prog 107 #[.pointer (some ⟨gx, 0, none⟩), .pointer (some ⟨gy, 0, none⟩)] w1 fun en w' => ∃ (gz gr : Nat), en = .returned (.tuple #[.pointer (some ⟨gz, 0, none⟩), .pointer (some ⟨gr, 0, none⟩)]) ∧ Ext w1 w' ∧ w1.heap.size ≤ gz ∧ Bi w' 95 gz (x.fdiv y) ∧ ∃ r : Int, Bi w' 95 gr r) := by
        intro gx gy w1 i1 i2
        have h := d_floored gx gy o1 (o2 * 2 ^ K) w1 i1 i2 (Int.mul_ne_zero z2 (Int.ne_of_gt (Int.pow_pos (by decide)))) HF1.out (HFit.out o2 K i hb2 (by omega))
        rwa [fdiv_down r1 r2 z1 z2 hK.out] at h
      have t5 : decide ((0 : Int) ≤ E1 - E2) = false := by simp; omega
      clear h1 h2 hx0 hy0 hx hy hL hf hf2 hT hl1 hl2 d1 d2 r1 r2 k1 k2 z1 z2 q1 q2 q3 q4 hb1 hb2 hr1 hr2 HFit HF1 HF2 hs hK'
      generalize topI x f = tx at *
      generalize topI y f = ty at *
      go_enter Tryz.func53, Tryz.ntmps53
      go_wp2_with (fail)
      refine HV.out.mono ?_
      rintro en w1 ⟨rfl, hx⟩
      have H1 : Hid (Bx w1 47 w.heap.size n1 (.slice p1 l1 c1) E1 ∧ Bx w1 47 (w.heap.size + 1) n2 (.slice p2 l2 c2) E2 ∧ Ext w w1 ∧ Bx w1 47 (w.heap.size + 2) false (.slice none 0 0) 0) := ⟨HB.out.2.1.ext hx, HB.out.2.2.1.ext hx, HB.out.1.trans hx, HB.out.2.2.2.1.ext hx⟩
      clear hx HV HB
      have a0 := H1.out.1.c0
      have a1 := H1.out.1.c1
      have a2 := H1.out.1.c2
      have a3 := H1.out.2.1.c0
      have a4 := H1.out.2.1.c1
      have a5 := H1.out.2.1.c2
      go_wp2_with (fail)
      refine (d_placed _).mono ?_
      rintro en wn ⟨rfl, rfl⟩
      go_wp2_with (fail)
      go_region_held3 (fun w' => w'.cell? ⟨w.heap.size, 0, none⟩ = some (.bool n1) ∧ w'.cell? ⟨w.heap.size, 1, none⟩ = some (.slice p1 l1 c1) ∧ w'.cell? ⟨w.heap.size, 2, none⟩ = some (.int .i64 E1) ∧ w'.cell? ⟨w.heap.size + 1, 0, none⟩ = some (.bool n2) ∧ w'.cell? ⟨w.heap.size + 1, 1, none⟩ = some (.slice p2 l2 c2) ∧ w'.cell? ⟨w.heap.size + 1, 2, none⟩ = some (.int .i64 E2))
        (first | go_keep | (exact ⟨H3.out.1.c0, H3.out.1.c1, H3.out.1.c2, H3.out.2.1.c0, H3.out.2.1.c1, H3.out.2.1.c2⟩) | (exact ⟨H2.out.1.c0, H2.out.1.c1, H2.out.1.c2, H2.out.2.1.c0, H2.out.2.1.c1, H2.out.2.1.c2⟩) | fail)
        (first | (go_at_call_of 101 (Value.agg #[.bool n1, .slice p1 l1 c1, .int .i64 E1]); refine (HT1.out _ (by first | exact H1.out.2.2.1 | exact H1.out.2.2.1.drew | exact H1.out.2.2.1.drewN _ | fail)).mono ?_; rintro en w2 ⟨rfl, hx⟩; have hx1 : Ext w1 w2 := (by first | exact hx | exact (Ext.of_drew hx) | fail); have H2 : Hid (Bx w2 47 w.heap.size n1 (.slice p1 l1 c1) E1 ∧ Bx w2 47 (w.heap.size + 1) n2 (.slice p2 l2 c2) E2 ∧ Ext w w2 ∧ Bx w2 47 (w.heap.size + 2) false (.slice none 0 0) 0) := ⟨H1.out.1.ext hx1, H1.out.2.1.ext hx1, H1.out.2.2.1.trans hx1, H1.out.2.2.2.ext hx1⟩; clear hx hx1) | (go_at_call_of 101 (Value.agg #[.bool n2, .slice p2 l2 c2, .int .i64 E2]); refine (HT2.out _ (by first | exact H2.out.2.2.1 | exact H2.out.2.2.1.drew | exact H2.out.2.2.1.drewN _ | fail)).mono ?_; rintro en w3 ⟨rfl, hx⟩; have hx1 : Ext w2 w3 := (by first | exact hx | exact (Ext.of_drew hx) | fail); have H3 : Hid (Bx w3 47 w.heap.size n1 (.slice p1 l1 c1) E1 ∧ Bx w3 47 (w.heap.size + 1) n2 (.slice p2 l2 c2) E2 ∧ Ext w w3 ∧ Bx w3 47 (w.heap.size + 2) false (.slice none 0 0) 0) := ⟨H2.out.1.ext hx1, H2.out.2.1.ext hx1, H2.out.2.2.1.trans hx1, H2.out.2.2.2.ext hx1⟩; clear hx hx1))
      clear a0 a1 a2 a3 a4 a5
      have a0 := H3.out.1.c0
      have a1 := H3.out.1.c1
      have a2 := H3.out.1.c2
      have a3 := H3.out.2.1.c0
      have a4 := H3.out.2.1.c1
      have a5 := H3.out.2.1.c2
      go_wp2_with (fail)
      go_region_held3 (fun w' => w'.cell? ⟨w.heap.size, 0, none⟩ = some (.bool n1) ∧ w'.cell? ⟨w.heap.size, 1, none⟩ = some (.slice p1 l1 c1) ∧ w'.cell? ⟨w.heap.size, 2, none⟩ = some (.int .i64 E1) ∧ w'.cell? ⟨w.heap.size + 1, 0, none⟩ = some (.bool n2) ∧ w'.cell? ⟨w.heap.size + 1, 1, none⟩ = some (.slice p2 l2 c2) ∧ w'.cell? ⟨w.heap.size + 1, 2, none⟩ = some (.int .i64 E2))
        (first | go_keep | (exact ⟨H5.out.1.c0, H5.out.1.c1, H5.out.1.c2, H5.out.2.1.c0, H5.out.2.1.c1, H5.out.2.1.c2⟩) | (exact ⟨H4.out.1.c0, H4.out.1.c1, H4.out.1.c2, H4.out.2.1.c0, H4.out.2.1.c1, H4.out.2.1.c2⟩) | fail)
        (first | (go_at_call_of 103 (Value.agg #[.bool n1, .slice p1 l1 c1, .int .i64 E1]); refine (HV1.out _ (by first | exact H3.out.2.2.1 | exact H3.out.2.2.1.drew | exact H3.out.2.2.1.drewN _ | fail)).mono ?_; rintro en w4 ⟨gx, rfl, hx, hg, hb⟩; have hx1 : Ext w3 w4 := (by first | exact hx | exact (Ext.of_drew hx) | fail); have HVgx : Hid (Bi w4 95 gx o1 ∧ w3.heap.size ≤ gx) := ⟨hb, by first | exact hg | (simp at hg; exact hg)⟩; have HX4 : Hid (Ext w3 w4) := hx1; clear hg hb; have H4 : Hid (Bx w4 47 w.heap.size n1 (.slice p1 l1 c1) E1 ∧ Bx w4 47 (w.heap.size + 1) n2 (.slice p2 l2 c2) E2 ∧ Ext w w4 ∧ Bx w4 47 (w.heap.size + 2) false (.slice none 0 0) 0) := ⟨H3.out.1.ext hx1, H3.out.2.1.ext hx1, H3.out.2.2.1.trans hx1, H3.out.2.2.2.ext hx1⟩; clear hx hx1) | (go_at_call_of 103 (Value.agg #[.bool n2, .slice p2 l2 c2, .int .i64 E2]); refine (HV2.out _ (by first | exact H4.out.2.2.1 | exact H4.out.2.2.1.drew | exact H4.out.2.2.1.drewN _ | fail)).mono ?_; rintro en w5 ⟨gy, rfl, hx, hg, hb⟩; have hx1 : Ext w4 w5 := (by first | exact hx | exact (Ext.of_drew hx) | fail); have HVgy : Hid (Bi w5 95 gy o2 ∧ w4.heap.size ≤ gy) := ⟨hb, by first | exact hg | (simp at hg; exact hg)⟩; have HX5 : Hid (Ext w4 w5) := hx1; clear hg hb; have H5 : Hid (Bx w5 47 w.heap.size n1 (.slice p1 l1 c1) E1 ∧ Bx w5 47 (w.heap.size + 1) n2 (.slice p2 l2 c2) E2 ∧ Ext w w5 ∧ Bx w5 47 (w.heap.size + 2) false (.slice none 0 0) 0) := ⟨H4.out.1.ext hx1, H4.out.2.1.ext hx1, H4.out.2.2.1.trans hx1, H4.out.2.2.2.ext hx1⟩; clear hx hx1))
      clear a0 a1 a2 a3 a4 a5
      have a0 := H5.out.1.c0
      have a1 := H5.out.1.c1
      have a2 := H5.out.1.c2
      have a3 := H5.out.2.1.c0
      have a4 := H5.out.2.1.c1
      have a5 := H5.out.2.1.c2
      have hs1 := H3.out.2.2.2.lt
      have hs2 := HVgx.out.2
      have hs3 := HVgx.out.1.lt
      have hs4 := HVgy.out.2
      have u0 : gx ≠ gy := by omega
      have u1 : w.heap.size ≠ gx := by omega
      have u2 : w.heap.size + 1 ≠ gx := by omega
      have u3 : w.heap.size + 2 ≠ gx := by omega
      have u4 : w.heap.size ≠ gy := by omega
      have u5 : w.heap.size + 1 ≠ gy := by omega
      have u6 : w.heap.size + 2 ≠ gy := by omega
      have u7 : w.heap.size ≤ gx := by omega
      have u8 : w.heap.size ≤ gy := by omega
      have Bgx : Hid (Bi w5 95 gx o1) := HVgx.out.1.ext HX5.out
      have Bgy : Hid (Bi w5 95 gy o2) := HVgy.out.1
      clear hs1 hs2 hs3 hs4 HVgx HVgy
      go_wp2_with (fail)
      rw [show -(E1 - E2) = (K : Int) from by have := hK.out; omega]
      refine (HL.out gy _ Bgy.out).mono ?_
      rintro en w6 ⟨rfl, hc, hb⟩
      have H6 : Hid (Bi w6 95 gy (o2 * 2 ^ K) ∧ Bi w6 95 gx o1 ∧ Ext w w6 ∧ Bx w6 47 (w.heap.size + 2) false (.slice none 0 0) 0) := ⟨hb, Bgx.out.chg Bgy.out.hv hc (by omega), Chg.ext H5.out.2.2.1 hc (by omega), H5.out.2.2.2.chg hc (by omega)⟩
      clear hc hb a0 a1 a2 a3 a4 a5
      go_wp2_with (fail)
      refine (HFl.out gx gy _ H6.out.2.1 H6.out.1).mono ?_
      rintro en w7 ⟨gz, gr, rfl, hx, -, hb, r, hr⟩
      have H7 : Hid (Bi w7 95 gz (x.fdiv y) ∧ Bi w7 95 gr r ∧ Ext w w7 ∧ Bx w7 47 (w.heap.size + 2) false (.slice none 0 0) 0) := ⟨hb, hr, H6.out.2.2.1.trans hx, H6.out.2.2.2.ext hx⟩
      clear hx hb hr
      go_wp2_with (fail)
      refine (HNum.out gz _ H7.out.2.2.1 H7.out.1).mono ?_
      rintro en w8 ⟨v, rfl, hx, hd⟩
      obtain ⟨neg0, s0, E0, rfl⟩ := hd.form
      obtain ⟨p0, l0, c0, rfl⟩ := hd.sl
      have H8 : Hid (Dy w8 (.agg #[.bool neg0, .slice p0 l0 c0, .int .i64 E0]) (x.fdiv y) 0 ∧ Bi w8 95 gr r ∧ Ext w w8 ∧ Bx w8 47 (w.heap.size + 2) false (.slice none 0 0) 0) := ⟨hd, H7.out.2.1.ext hx, H7.out.2.2.1.trans hx, H7.out.2.2.2.ext hx⟩
      clear hx hd
      have b0 := H8.out.2.2.2.c0
      have b1 := H8.out.2.2.2.c1
      have b2 := H8.out.2.2.2.c2
      have b3 := H8.out.2.2.2.frozen 0
      have b4 := H8.out.2.2.2.frozen 1
      have b5 := H8.out.2.2.2.frozen 2
      go_wp2_with (fail)
      have H9 : Hid (Bx (w8.alloc (.cells #[.bool neg0, .slice p0 l0 c0, .int .i64 E0] 47)) 47 w8.heap.size neg0 (.slice p0 l0 c0) E0 ∧ Bi (w8.alloc (.cells #[.bool neg0, .slice p0 l0 c0, .int .i64 E0] 47)) 95 gr r ∧ Ext w (w8.alloc (.cells #[.bool neg0, .slice p0 l0 c0, .int .i64 E0] 47)) ∧ Bx (w8.alloc (.cells #[.bool neg0, .slice p0 l0 c0, .int .i64 E0] 47)) 47 (w.heap.size + 2) false (.slice none 0 0) 0 ∧ Dy (w8.alloc (.cells #[.bool neg0, .slice p0 l0 c0, .int .i64 E0] 47)) (.agg #[.bool neg0, .slice p0 l0 c0, .int .i64 E0]) (x.fdiv y) 0) := ⟨Bx.new _ _ _ _ _, H8.out.2.1.ext ((Ext.refl _).alloc _), H8.out.2.2.1.alloc _, H8.out.2.2.2.ext ((Ext.refl _).alloc _), H8.out.1.ext ((Ext.refl _).alloc _)⟩
      have hlt := H8.out.2.2.2.lt
      clear b0 b1 b2 b3 b4 b5 H8
      generalize w8.alloc (.cells #[.bool neg0, .slice p0 l0 c0, .int .i64 E0] 47) = w9 at *
      have hne : ¬ w8.heap.size = w.heap.size + 2 := by omega
      clear hlt
      generalize w8.heap.size = g9 at *
      have a0 := H9.out.1.c0
      have a1 := H9.out.1.c1
      have a2 := H9.out.1.c2
      have b0 := H9.out.2.2.2.1.c0
      have b1 := H9.out.2.2.2.1.c1
      have b2 := H9.out.2.2.2.1.c2
      have b3 := H9.out.2.2.2.1.frozen 0
      have b4 := H9.out.2.2.2.1.frozen 1
      have b5 := H9.out.2.2.2.1.frozen 2
      go_region_with (first | (go_at_call 105; refine (i_sign gr r _ (by first | exact H9.out.2.1 | exact H9.out.2.1.ext (Ext.drewN (Ext.refl _) _) | exact H9.out.2.1.setBx H9.out.2.2.2.1 IsSl.nil _ _ _)).mono ?_; rintro en wn ⟨rfl, rfl⟩))
      all_goals
        go_wp2_with (fail)
        refine bodyPost_ret (v := .tuple #[.agg #[.bool neg0, .slice p0 l0 c0, .int .i64 E0], .bool (sgnI r == 0), .int .i64 0]) (by simp [results, Tryz.results53, go_sem, b0, b1, b2]) rfl ⟨_, _, rfl, ?_, ?_⟩
        · exact H9.out.2.2.1.set3 (by omega) _ _ _
        · exact H9.out.2.2.2.2.setBx H9.out.2.2.2.1 IsSl.nil _ _ _
end Go.Proofs.YtdpjkddllimcoaaGreatDoor
end

section
/- Rounded arithmetic: the small functions. -/
namespace Fl
/-- whether the sum of two noughts, or of two unlike ones, is the nought below. -/
def nul (x y : Nat) (mode : Int) : Bool := (feq x 0 && feq y 0 && neg x && neg y) || (mode == 1 && !(feq x 0 && feq y 0 && !neg x && !neg y))
end Fl
namespace Go.Proofs.YtdpjkddllimcoaaGreatDoor
open Go.RowKit Fl
theorem r_valid (mode : Int) (w : World) (hm : mode = 1 ∨ mode = 2 ∨ mode = 3) : Calls Tryz.prog 19 #[.int .i64 mode] w fun en wn => en = .returned (.int .i64 0) ∧ w = wn := by
  rcases hm with rfl | rfl | rfl
  all_goals (go_enter Tryz.func19, Tryz.ntmps19; go_wp2_with (fail); go_ret; exact ⟨rfl, rfl⟩)
theorem r_valid_not (mode : Int) (w : World) (hm : ¬ (mode = 1 ∨ mode = 2 ∨ mode = 3)) : Calls Tryz.prog 19 #[.int .i64 mode] w fun en wn => en = .returned (.int .i64 1) ∧ w = wn := by
  have t1 : (mode != 1) = true := by simp; omega
  have t2 : (mode != 2) = true := by simp; omega
  have t3 : (mode != 3) = true := by simp; omega
  go_enter Tryz.func19, Tryz.ntmps19
  go_wp2_with (fail)
  go_ret
  exact ⟨rfl, rfl⟩
theorem r_infinite (x : Nat) (hx : x < 18446744073709551616) (w : World) : Calls Tryz.prog 51 #[.float .f64 x] w fun en wn => en = .returned (.bool (decide (mag x = INF))) ∧ w = wn := by
  go_enter Tryz.func51, Tryz.ntmps51
  go_wp2_with (fail)
  refine (m_isInf0 x hx w).mono ?_
  rintro en wn ⟨rfl, rfl⟩
  go_wp2_with (fail)
  go_ret
  exact ⟨rfl, rfl⟩
theorem r_to (v : Value) (z e mode : Int) (w : World) (h : Dy w v z e) (hm : mode = 1 ∨ mode = 2 ∨ mode = 3) (hz : z ≠ 0) :
    Calls Tryz.prog 61 #[v, .int .i64 mode] w fun en w' => en = .returned (.float .f64 (word (decide (z < 0)) (rnd (cD z.natAbs e) (aim (decide (z < 0)) mode)))) ∧ Ext w w' := by
  have HX : Hid (∀ o, Ext w (w.alloc o)) := fun o => (Ext.refl w).alloc o
  have HR : Hid (∀ w', Ext w w' → Calls Tryz.prog 114 #[v, .int .i64 mode] w' fun en w'' => en = .returned (.tuple #[.float .f64 (word (decide (z < 0)) (rnd (cD z.natAbs e) (aim (decide (z < 0)) mode))), .int .i64 0]) ∧ Ext w' w'') :=
    fun w' hx => d_Round v z e mode w' (h.ext hx) hm hz
  obtain ⟨n1, p1, l1, c1, o1, E1, rfl, -, -, -, -, -⟩ := h.open
  generalize word (decide (z < 0)) (rnd (cD z.natAbs e) (aim (decide (z < 0)) mode)) = R at *
  clear h hm hz
  go_enter Tryz.func61, Tryz.ntmps61
  go_wp2_with (fail)
  refine (HR.out _ (HX.out _)).mono ?_
  rintro en w1 ⟨rfl, hx⟩
  have H1 := Lib.hid ((HX.out _).trans hx)
  clear hx
  go_wp2_with (fail)
  go_ret
  exact ⟨rfl, H1.out⟩
theorem r_num (x : Nat) (hx : x < 18446744073709551616) (hf : mag x < INF) (w : World) (hT : Tab32 w) :
    Calls Tryz.prog 52 #[.float .f64 x] w fun en w' => ∃ v, en = .returned v ∧ Ext w w' ∧ Dy w' v (val x) (-1074) := by
  have HX : Hid (∀ o, Ext w (w.alloc o)) := fun o => (Ext.refl w).alloc o
  have HBx := Lib.hid (Bx.new w 47 false (.slice none 0 0) 0)
  have HO : Hid (∀ w', Ext w w' → Calls Tryz.prog 98 #[.float .f64 x] w' fun e w'' => ∃ v, e = .returned (.tuple #[v, .int .i64 0]) ∧ Ext w' w'' ∧ Dy w'' v (val x) (-1074)) := fun w' hx' => d_Of x hx hf w' (hT.ext hx')
  clear hT hx hf
  go_enter Tryz.func52, Tryz.ntmps52
  go_wp2_with (fail)
  refine (HO.out _ (HX.out _)).mono ?_
  rintro en w1 ⟨v, rfl, hx, hd⟩
  obtain ⟨neg0, s0, E0, rfl⟩ := hd.form
  obtain ⟨p0, l0, c0, rfl⟩ := hd.sl
  have H2 := Lib.hid (And.intro ((HX.out _).trans hx) (And.intro (HBx.out.ext hx) hd))
  have a0 := H2.out.2.1.c0
  have a1 := H2.out.2.1.c1
  have a2 := H2.out.2.1.c2
  have a3 := H2.out.2.1.frozen 0
  have a4 := H2.out.2.1.frozen 1
  have a5 := H2.out.2.1.frozen 2
  have hlt := H2.out.2.1.lt
  clear hx hd
  go_wp2_with (fail)
  have hne : ¬ w.heap.size = w1.heap.size := by omega
  refine bodyPost_ret (v := .agg #[.bool neg0, .slice p0 l0 c0, .int .i64 E0]) (by simp [results, Tryz.results52, go_sem, a0, a1, a2, hlt, hne]) rfl ⟨_, rfl, ?_, ?_⟩
  · exact (H2.out.1.set3 (Nat.le_refl _) _ _ _).alloc _
  · exact (H2.out.2.2.setBx H2.out.2.1 IsSl.nil _ _ _).ext ((Ext.refl _).alloc _)
theorem r_nought (x y : Nat) (mode : Int) (hx : x < 18446744073709551616) (hy : y < 18446744073709551616) (w : World) :
    Calls Tryz.prog 65 #[.float .f64 x, .float .f64 y, .int .i64 mode] w fun en wn => en = .returned (.float .f64 (word (nul x y mode) 0)) ∧ w = wn := by
  have HX := Lib.hid (m_signbit x hx w)
  have HY := Lib.hid (m_signbit y hy w)
  have HC := Lib.hid (m_copysign 0 13830554455654793216 (by decide) (by decide) w)
  clear hx hy
  cases ha : feq x 0 <;> cases hb : feq y 0 <;> cases hc : neg x <;> cases hd : neg y <;> cases he : (mode == 1)
  all_goals
    unfold nul
    rw [ha, hb, hc, hd, he]
    rw [hc] at HX
    rw [hd] at HY
    clear hc hd
    go_enter Tryz.func65, Tryz.ntmps65
    go_wp2_with (fail)
    refine HX.out.mono ?_
    rintro en wn ⟨rfl, rfl⟩
    go_wp2_with (fail)
    refine HY.out.mono ?_
    rintro en wn ⟨rfl, rfl⟩
    go_wp2_with (fail)
    first
    | (refine HC.out.mono ?_
       rintro en wn ⟨rfl, rfl⟩
       go_wp2_with (fail)
       go_ret
       exact ⟨rfl, rfl⟩)
    | (go_ret
       exact ⟨rfl, rfl⟩)
end Go.Proofs.YtdpjkddllimcoaaGreatDoor
end

section
/- Rounded arithmetic: sums. -/
namespace Fl
/-- the sum of two finite floats, rounded. -/
noncomputable def rSum (a b : Nat) (mode : Int) : Nat :=
  if val a + val b = 0 then word (nul a b mode) 0
  else word (decide (val a + val b < 0)) (rnd (cD (val a + val b).natAbs (-1074)) (aim (decide (val a + val b < 0)) mode))
theorem V_bits {r : Nat} (h : r < INF) : V r < 2 ^ 2100 := by
  by_cases hB : r < B
  · rw [V_lt_B hB]
    exact two_pow_lt_of (L := 52) (M := 2100) hB (by decide)
  · rw [V_fields (by omega)]
    have h1 : B + r % B < 2 ^ 53 := by
      have : r % B < B := Nat.mod_lt r (by decide)
      unfold B at *
      omega
    have h2 : r / B - 1 ≤ 2045 := by
      have : r / B < 2047 := (Nat.div_lt_iff_lt_mul (by decide)).2 (by unfold INF at h; unfold B; omega)
      omega
    refine two_pow_lt_of (L := 53 + (r / B - 1)) (M := 2100) ?_ (by omega)
    rw [Nat.pow_add]
    exact Nat.mul_lt_mul_of_pos_right h1 (Nat.two_pow_pos _)
theorem val_natAbs (a : Nat) : (val a).natAbs = V (mag a) := by
  unfold val
  split <;> omega
theorem val_bits {a : Nat} (h : mag a < INF) : (val a).natAbs < 2 ^ 2100 := by rw [val_natAbs]; exact V_bits h
theorem fin_feq {a : Nat} (ha : a < 18446744073709551616) (hf : mag a < INF) : feq a a = true := by
  rw [feq_self (by simpa using ha)]
  simp only [nan, Bool.not_eq_true', decide_eq_false_iff_not]
  omega
end Fl
namespace Go.Proofs.YtdpjkddllimcoaaGreatDoor
open Go.RowKit Fl
theorem r_Add_fin (a b : Nat) (mode : Int) (ha : a < 18446744073709551616) (hb : b < 18446744073709551616) (fa : mag a < INF) (fb : mag b < INF) (hm : mode = 1 ∨ mode = 2 ∨ mode = 3) (w : World) (hT : Tab32 w) :
    Calls Tryz.prog 15 #[.float .f64 a, .float .f64 b, .int .i64 mode] w fun en w' => en = .returned (.float .f64 (rSum a b mode)) ∧ Ext w w' := by
  have HVa := Lib.hid (r_valid mode w hm)
  have HIa := Lib.hid (r_infinite a ha w)
  have HIb := Lib.hid (r_infinite b hb w)
  rw [show decide (mag a = INF) = false by simp; omega] at HIa
  rw [show decide (mag b = INF) = false by simp; omega] at HIb
  have t1 := fin_feq ha fa
  have t2 := fin_feq hb fb
  have HNa := Lib.hid (r_num a ha fa w hT)
  have HNb : Hid (∀ w', Ext w w' → Calls Tryz.prog 52 #[.float .f64 b] w' fun en w'' => ∃ v, en = .returned v ∧ Ext w' w'' ∧ Dy w'' v (val b) (-1074)) := fun w' hx => r_num b hb fb w' (hT.ext hx)
  have HT := Lib.hid hT
  have HAdd : Hid (∀ u v w', Ext w w' → Dy w' u (val a) (-1074) → Dy w' v (val b) (-1074) → Calls Tryz.prog 64 #[u, v] w' fun en w'' => ∃ v', en = .returned (.tuple #[v', .int .i64 0]) ∧ Ext w' w'' ∧ Dy w'' v' (val a + val b) (-1074)) := by
    intro u v w' hx h1 h2
    exact d_Add u v (val a) (val b) (-1074) 2100 w' h1 h2 (val_bits fa) (val_bits fb) (by decide) (by decide) (by decide) (hT.ext hx)
  have HNo := Lib.hid (fun w' => r_nought a b mode ha hb w')
  have HTo : Hid (∀ v w', val a + val b ≠ 0 → Dy w' v (val a + val b) (-1074) → Calls Tryz.prog 61 #[v, .int .i64 mode] w' fun en w'' => en = .returned (.float .f64 (rSum a b mode)) ∧ Ext w' w'') := by
    intro v w' h0 h
    have := r_to v _ (-1074) mode w' h hm h0
    unfold rSum
    rwa [if_neg h0]
  have HS : Hid (val a + val b = 0 → rSum a b mode = word (nul a b mode) 0) := by
    intro h
    unfold rSum
    rw [if_pos h]
  clear ha hb fa fb hm hT
  generalize rSum a b mode = R at *
  generalize val a + val b = s at *
  go_enter Tryz.func15, Tryz.ntmps15
  go_wp2_with (fail)
  refine HVa.out.mono ?_
  rintro en wn ⟨rfl, rfl⟩
  go_wp2_with (fail)
  refine HIa.out.mono ?_
  rintro en wn ⟨rfl, rfl⟩
  go_wp2_with (fail)
  refine HIb.out.mono ?_
  rintro en wn ⟨rfl, rfl⟩
  go_wp2_with (fail)
  refine HNa.out.mono ?_
  rintro en w1 ⟨va, rfl, hx, hd⟩
  have H1 := Lib.hid (And.intro hx hd)
  clear hx hd
  go_wp2_with (fail)
  refine (HNb.out _ H1.out.1).mono ?_
  rintro en w2 ⟨vb, rfl, hx, hd⟩
  have H2 := Lib.hid (And.intro (H1.out.1.trans hx) (And.intro (H1.out.2.ext hx) hd))
  clear hx hd
  go_wp2_with (fail)
  refine (HAdd.out va vb _ H2.out.1 H2.out.2.1 H2.out.2.2).mono ?_
  rintro en w3 ⟨v, rfl, hx, hd⟩
  obtain ⟨neg0, s0, E0, rfl⟩ := hd.form
  obtain ⟨p0, l0, c0, rfl⟩ := hd.sl
  have H3 := Lib.hid (And.intro (H2.out.1.trans hx) hd)
  have HSg : Hid (∀ w', Ext w3 w' → Calls Tryz.prog 59 #[.agg #[.bool neg0, .slice p0 l0 c0, .int .i64 E0]] w' fun en w'' => en = .returned (.int .i64 (sgnI s)) ∧ Ext w' w'') := fun w' hx => d_Sign _ s _ w' (H3.out.2.ext hx)
  clear hx hd H1 H2
  by_cases h0 : s = 0
  · rw [show sgnI s = 0 by rw [h0]; rfl] at HSg
    have HR0 : Hid (R = word (nul a b mode) 0) := HS.out h0
    clear h0 HS HTo
    go_wp2_with (fail)
    refine (HSg.out _ ((Ext.refl _).alloc _)).mono ?_
    rintro en w4 ⟨rfl, hx⟩
    have H4 : Hid (Ext w w4) := (H3.out.1.alloc _).trans hx
    clear hx
    go_wp2_with (fail)
    refine (HNo.out _).mono ?_
    rintro en wn ⟨rfl, rfl⟩
    go_wp2_with (fail)
    go_ret
    exact ⟨by rw [HR0.out]; rfl, H4.out⟩
  · have t0 : (sgnI s == 0) = false := by unfold sgnI; split <;> simp_all
    generalize sgnI s = sg at *
    have HBx := Lib.hid (Bx.new w3 47 neg0 (.slice p0 l0 c0) E0)
    go_wp2_with (fail)
    refine (HSg.out _ ((Ext.refl _).alloc _)).mono ?_
    rintro en w4 ⟨rfl, hx⟩
    have H4 : Hid (Ext w w4 ∧ Ext w3 w4 ∧ Bx w4 47 w3.heap.size neg0 (.slice p0 l0 c0) E0) := ⟨(H3.out.1.alloc _).trans hx, ((Ext.refl _).alloc _).trans hx, HBx.out.ext hx⟩
    have a0 := H4.out.2.2.c0
    have a1 := H4.out.2.2.c1
    have a2 := H4.out.2.2.c2
    clear hx
    go_wp2_with (fail)
    refine (HTo.out _ _ h0 (H3.out.2.ext H4.out.2.1)).mono ?_
    rintro en w5 ⟨rfl, hx⟩
    have H5 := Lib.hid (H4.out.1.trans hx)
    clear hx
    go_wp2_with (fail)
    go_ret
    exact ⟨rfl, H5.out⟩
end Go.Proofs.YtdpjkddllimcoaaGreatDoor
end

section
/- Quotients rounded: Ratio. -/
namespace Go.Proofs.YtdpjkddllimcoaaGreatDoor
open Go.RowKit Fl
set_option maxRecDepth 20000 in
set_option maxHeartbeats 8000000 in
theorem d_Ratio (a b : Value) (x y ex ey mode : Int) (L M : Nat) (w : World) (h1 : Dy w a x ex) (h2 : Dy w b y ey) (hm : mode = 1 ∨ mode = 2 ∨ mode = 3) (hx0 : x ≠ 0) (hy0 : y ≠ 0) (hx : x.natAbs < 2 ^ L) (hy : y.natAbs < 2 ^ M) (hL : L ≤ 6000) (hM : M ≤ 6000) (he1 : -6000 ≤ ex) (he2 : ex ≤ 6000) (he3 : -6000 ≤ ey) (he4 : ey ≤ 6000) :
    Calls Tryz.prog 69 #[a, b, .int .i64 mode] w fun en w' => en = .returned (.tuple #[.float .f64 (word (decide (x < 0) != decide (y < 0)) (rnd (cR x.natAbs y.natAbs (ex - ey)) (aim (decide (x < 0) != decide (y < 0)) mode))), .int .i64 0]) ∧ Ext w w' := by
  obtain ⟨n1, p1, l1, c1, o1, E1, rfl, hn1, hl1, d1, r1, k1⟩ := h1.open
  obtain ⟨n2, p2, l2, c2, o2, E2, rfl, hn2, hl2, d2, r2, k2⟩ := h2.open
  have z1 : o1 ≠ 0 := fun h => hx0 (r1.sgn.2.1.2 h)
  have z2 : o2 ≠ 0 := fun h => hy0 (r2.sgn.2.1.2 h)
  have HS1 : decide (x < 0) = n1 := by rw [hn1, decide_eq_decide]; exact r1.sgn.1
  have HS2 : decide (y < 0) = n2 := by rw [hn2, decide_eq_decide]; exact r2.sgn.1
  rw [HS1, HS2, ← cR_rep r1 r2 z1 z2]
  have HB := Lib.hid (boxes2 w 47 n1 (.slice p1 l1 c1) E1 n2 (.slice p2 l2 c2) E2 (.cells #[.bool n1, .slice p1 l1 c1, .int .i64 E1, .bool n2, .slice p2 l2 c2, .int .i64 E2] 47))
  have HV := Lib.hid (d_valid2 o1 E1 o2 E2 n1 n2 (.slice p1 l1 c1) (.slice p2 l2 c2) (w.heap.size + 2) _ HB.out.2.2.2 (d1.ext HB.out.1) (d2.ext HB.out.1) k1 k2)
  have HD := Lib.hid (And.intro d1 d2)
  have HF := Lib.hid (And.intro k1.fit k2.fit)
  obtain ⟨j, q1, q2⟩ := r1.exp z1
  obtain ⟨i, q3, q4⟩ := r2.exp z2
  have hb1 := bits_mul_pow (X := o1) (k := j) (M := L) (by rw [← q1]; exact hx) z1
  have hb2 := bits_mul_pow (X := o2) (k := i) (M := M) (by rw [← q3]; exact hy) z2
  obtain ⟨X, hX⟩ : ∃ X : Nat, Hid (X = o1.natAbs) := ⟨_, rfl⟩
  obtain ⟨Y, hY⟩ : ∃ Y : Nat, Hid (Y = o2.natAbs) := ⟨_, rfl⟩
  have hX0 : 0 < X := by rw [hX.out]; omega
  have hY0 : 0 < Y := by rw [hY.out]; omega
  rw [← hX.out] at hb1
  rw [← hY.out] at hb2
  rw [← hX.out, ← hY.out]
  obtain ⟨B1, hB1⟩ : ∃ B1 : Nat, Hid (B1 = bl X) := ⟨_, rfl⟩
  obtain ⟨B2, hB2⟩ : ∃ B2 : Nat, Hid (B2 = bl Y) := ⟨_, rfl⟩
  rw [← hB1.out] at hb1
  rw [← hB2.out] at hb2
  have hE : -6000 ≤ E1 ∧ E1 ≤ 12000 ∧ -6000 ≤ E2 ∧ E2 ≤ 12000 := by omega
  obtain ⟨hE1, hE2, hE3, hE4⟩ := hE
  have hB1' : B1 ≤ 6000 := by omega
  have hB2' : B2 ≤ 6000 := by omega
  obtain ⟨K, hK⟩ : ∃ K : Nat, Hid ((K : Int) = max (64 - ((B1 : Int) - B2)) 0) := ⟨(max (64 - ((B1 : Int) - B2)) 0).toNat, by show _ = _; omega⟩
  have hK' := hK.out
  have hK2 : K ≤ 6064 := by omega
  have hK3 : B2 + 64 ≤ B1 + K := by omega
  have hlx : bl X + K ≤ 100000 := by rw [← hB1.out]; omega
  have HG : Hid (∀ gn w1, Bi w1 95 gn ((X * 2 ^ K / Y : Nat) : Int) → Calls Tryz.prog 123 #[.bool (n1 != n2), .pointer (some ⟨gn, 0, none⟩), .int .i64 (E1 - E2 - K), .bool (sgnI ((X * 2 ^ K % Y : Nat) : Int) != 0), .int .i64 mode] w1 fun en w' => en = .returned (.float .f64 (word (n1 != n2) (rnd (cR X Y (E1 - E2)) (aim (n1 != n2) mode)))) ∧ Ext w1 w') := by
    intro gn w1 hb
    rw [show (sgnI ((X * 2 ^ K % Y : Nat) : Int) != 0) = decide (X * 2 ^ K % Y ≠ 0) from sgn_rest _]
    have hq := quo_bits (x := X) (y := Y) (k := K) hY0 (by rw [← hB1.out, ← hB2.out]; exact hK3) hX0
    refine g_float gn _ (E1 - E2 - K) mode (n1 != n2) _ _ w1 hm hb (Cr.quo X Y K (E1 - E2) hY0) ?_ (fun _ => by omega) (div_bits (L := 100000) hlx) (by omega) (by omega)
    by_cases h0 : 0 < X * 2 ^ K / Y
    · exact h0
    · rw [Nat.eq_zero_of_not_pos h0, bl_zero'] at hq
      omega
  have HQ : Hid (∀ gz gr gx gy w1, Hv w1 95 gz → Hv w1 95 gr → Bi w1 95 gx ((X : Int) * 2 ^ K) → Bi w1 95 gy (Y : Int) → gz ≠ gr → Calls Tryz.prog 122 #[.pointer (some ⟨gz, 0, none⟩), .pointer (some ⟨gx, 0, none⟩), .pointer (some ⟨gy, 0, none⟩), .pointer (some ⟨gr, 0, none⟩)] w1 fun e w' => e = .returned (.tuple #[.pointer (some ⟨gz, 0, none⟩), .pointer (some ⟨gr, 0, none⟩)]) ∧ Ch2 gz gr w1 w' ∧ Bi w' 95 gz ((X * 2 ^ K / Y : Nat) : Int) ∧ Bi w' 95 gr ((X * 2 ^ K % Y : Nat) : Int)) := by
    intro gz gr gx gy w1 i1 i2 i3 i4 i5
    have := i_quoRem gz gx gy gr ((X : Int) * 2 ^ K) Y w1 i1 i2 i3 i4 i5 (by omega) ?_ ?_
    · rwa [tdiv_nat, tmod_nat] at this
    · rw [natAbs_mul_pow, Int.natAbs_natCast]
      refine fit_of (k := bl X + K) (l := 1048574) ?_ (by omega)
      rw [Nat.pow_add]
      exact Nat.mul_lt_mul_of_pos_right (bl_lt X) (Nat.two_pow_pos K)
    · rw [Int.natAbs_natCast]
      exact fit_of (k := bl Y) (l := 1048574) (bl_lt Y) (by rw [← hB2.out]; omega)
  have HL : Hid (∀ gx w1, Bi w1 95 gx (X : Int) → Calls Tryz.prog 106 #[.pointer (some ⟨gx, 0, none⟩), .pointer (some ⟨gx, 0, none⟩), .int .u64 K] w1 fun e w' => e = .returned (.pointer (some ⟨gx, 0, none⟩)) ∧ Chg gx w1 w' ∧ Bi w' 95 gx ((X : Int) * 2 ^ K)) := by
    intro gx w1 hb
    exact i_lsh gx gx K X w1 hb.hv hb (by rw [Int.natAbs_natCast, hX.out]; exact HF.out.1) (by omega)
  have HA1 : Hid (∀ gx w1, Bi w1 95 gx o1 → Calls Tryz.prog 120 #[.pointer (some ⟨gx, 0, none⟩), .pointer (some ⟨gx, 0, none⟩)] w1 fun e w' => e = .returned (.pointer (some ⟨gx, 0, none⟩)) ∧ Chg gx w1 w' ∧ Bi w' 95 gx (X : Int)) := by
    intro gx w1 hb
    rw [hX.out]
    exact i_abs gx gx o1 w1 hb.hv hb
  have HA2 : Hid (∀ gx w1, Bi w1 95 gx o2 → Calls Tryz.prog 120 #[.pointer (some ⟨gx, 0, none⟩), .pointer (some ⟨gx, 0, none⟩)] w1 fun e w' => e = .returned (.pointer (some ⟨gx, 0, none⟩)) ∧ Chg gx w1 w' ∧ Bi w' 95 gx (Y : Int)) := by
    intro gx w1 hb
    rw [hY.out]
    exact i_abs gx gx o2 w1 hb.hv hb
  have HL1 : Hid (∀ gx w1, Bi w1 95 gx (X : Int) → Calls Tryz.prog 121 #[.pointer (some ⟨gx, 0, none⟩)] w1 fun en wn => en = .returned (.int .i64 (B1 : Int)) ∧ w1 = wn) := by
    intro gx w1 hb
    have := i_bitLen gx (X : Int) w1 hb (by rw [Int.natAbs_natCast, hX.out]; exact HF.out.1)
    rwa [Int.natAbs_natCast, ← hB1.out] at this
  have HL2 : Hid (∀ gx w1, Bi w1 95 gx (Y : Int) → Calls Tryz.prog 121 #[.pointer (some ⟨gx, 0, none⟩)] w1 fun en wn => en = .returned (.int .i64 (B2 : Int)) ∧ w1 = wn) := by
    intro gx w1 hb
    have := i_bitLen gx (Y : Int) w1 hb (by rw [Int.natAbs_natCast, hY.out]; exact HF.out.2)
    rwa [Int.natAbs_natCast, ← hB2.out] at this
  have HMo := Lib.hid hm
  have t1 : ((l1 : Int) == 0) = false := by simp; omega
  have t2 : ((l2 : Int) == 0) = false := by simp; omega
  clear h1 h2 hx hy d1 d2 r1 r2 k1 k2 hm hx0 hy0 z1 z2 hn1 hn2 hl1 hl2 HS1 HS2 q1 q2 q3 q4 hb1 hb2 hX hY hB1 hB2 hX0 hY0 hlx hK3 hK' he1 he2 he3 he4 hL hM
  generalize rnd (cR X Y (E1 - E2)) (aim (n1 != n2) mode) = R at *
  generalize X * 2 ^ K / Y = Q at *
  generalize X * 2 ^ K % Y = Rm at *
  go_enter Tryz.func69, Tryz.ntmps69
  go_wp2_with (fail)
  refine HV.out.mono ?_
  rintro en w1 ⟨rfl, hx⟩
  have H1 : Hid (Bx w1 47 w.heap.size n1 (.slice p1 l1 c1) E1 ∧ Bx w1 47 (w.heap.size + 1) n2 (.slice p2 l2 c2) E2 ∧ Ext w w1) := ⟨HB.out.2.1.ext hx, HB.out.2.2.1.ext hx, HB.out.1.trans hx⟩
  have a0 := H1.out.1.c0
  have a1 := H1.out.1.c1
  have a2 := H1.out.1.c2
  have a3 := H1.out.2.1.c0
  have a4 := H1.out.2.1.c1
  have a5 := H1.out.2.1.c2
  clear hx HV HB
  go_wp2_with (fail)
  refine (d_known mode _ HMo.out).mono ?_
  rintro en w2 ⟨rfl, rfl⟩
  go_wp2_with (fail)
  go_region_held3 (fun w' => w'.cell? ⟨w.heap.size, 0, none⟩ = some (.bool n1) ∧ w'.cell? ⟨w.heap.size, 1, none⟩ = some (.slice p1 l1 c1) ∧ w'.cell? ⟨w.heap.size, 2, none⟩ = some (.int .i64 E1) ∧ w'.cell? ⟨w.heap.size + 1, 0, none⟩ = some (.bool n2) ∧ w'.cell? ⟨w.heap.size + 1, 1, none⟩ = some (.slice p2 l2 c2) ∧ w'.cell? ⟨w.heap.size + 1, 2, none⟩ = some (.int .i64 E2))
    (first | go_keep | (exact ⟨H3.out.1.c0, H3.out.1.c1, H3.out.1.c2, H3.out.2.1.c0, H3.out.2.1.c1, H3.out.2.1.c2⟩) | (exact ⟨H2.out.1.c0, H2.out.1.c1, H2.out.1.c2, H2.out.2.1.c0, H2.out.2.1.c1, H2.out.2.1.c2⟩) | fail)
    (first | (go_at_call_of 103 (Value.agg #[.bool n1, .slice p1 l1 c1, .int .i64 E1]); refine (d_value o1 E1 _ _ (HD.out.1.ext (by first | exact H1.out.2.2.drew | exact H1.out.2.2.drewN _ | fail)) HF.out.1).mono ?_; rintro en w2 ⟨gx, rfl, hx, hg, hb⟩; have hx1 : Ext w1 w2 := (by first | exact (Ext.of_drew hx) | exact hx | fail); (try simp at hg); have H2 : Hid (Bx w2 47 w.heap.size n1 (.slice p1 l1 c1) E1 ∧ Bx w2 47 (w.heap.size + 1) n2 (.slice p2 l2 c2) E2 ∧ Ext w1 w2 ∧ w1.heap.size ≤ gx ∧ Bi w2 95 gx o1) := ⟨H1.out.1.ext hx1, H1.out.2.1.ext hx1, hx1, hg, hb⟩; clear hx hb hx1 hg) | (go_at_call_of 103 (Value.agg #[.bool n2, .slice p2 l2 c2, .int .i64 E2]); refine (d_value o2 E2 _ _ (HD.out.2.ext (by first | exact H1.out.2.2.trans H2.out.2.2.1 | fail)) HF.out.2).mono ?_; rintro en w3 ⟨gy, rfl, hx, hg, hb⟩; have H3 : Hid (Bx w3 47 w.heap.size n1 (.slice p1 l1 c1) E1 ∧ Bx w3 47 (w.heap.size + 1) n2 (.slice p2 l2 c2) E2 ∧ Ext w2 w3 ∧ w2.heap.size ≤ gy ∧ Bi w3 95 gy o2) := ⟨H2.out.1.ext hx, H2.out.2.1.ext hx, hx, hg, hb⟩; clear hx hb hg))
  have hs1 := H1.out.2.1.lt
  have hs2 := H2.out.2.2.2.1
  have hs3 := H2.out.2.2.2.2.lt
  have hs4 := H3.out.2.2.2.1
  have hne : gx ≠ gy := by omega
  have u1 : w.heap.size ≤ gx := by omega
  have u2 : w.heap.size ≤ gy := by omega
  have u3 : w.heap.size ≠ gx := by omega
  have u4 : w.heap.size ≠ gy := by omega
  have u5 : w.heap.size + 1 ≠ gx := by omega
  have u6 : w.heap.size + 1 ≠ gy := by omega
  have HU := Lib.hid (And.intro u1 (And.intro u2 (And.intro u3 (And.intro u4 (And.intro u5 (And.intro u6 hne))))))
  have F3 : Hid (Bx w3 47 w.heap.size n1 (.slice p1 l1 c1) E1 ∧ Bx w3 47 (w.heap.size + 1) n2 (.slice p2 l2 c2) E2 ∧ Ext w w3 ∧ Bi w3 95 gx o1 ∧ Bi w3 95 gy o2) := ⟨H3.out.1, H3.out.2.1, (H1.out.2.2.trans H2.out.2.2.1).trans H3.out.2.2.1, H2.out.2.2.2.2.ext H3.out.2.2.1, H3.out.2.2.2.2⟩
  clear H1 H2 H3 hs1 hs2 hs3 hs4 u1 u2 u3 u4 u5 u6 hne a0 a1 a2 a3 a4 a5
  go_wp2_with (fail)
  refine (HA1.out gx _ F3.out.2.2.2.1).mono ?_
  rintro en w4 ⟨rfl, hx, hb⟩
  have F4 : Hid (Bx w4 47 w.heap.size n1 (.slice p1 l1 c1) E1 ∧ Bx w4 47 (w.heap.size + 1) n2 (.slice p2 l2 c2) E2 ∧ Ext w w4 ∧ Bi w4 95 gx (X : Int) ∧ Bi w4 95 gy o2) := ⟨F3.out.1.chg hx HU.out.2.2.1, F3.out.2.1.chg hx HU.out.2.2.2.2.1, Chg.ext F3.out.2.2.1 hx HU.out.1, hb, F3.out.2.2.2.2.chg F3.out.2.2.2.1.hv hx (Ne.symm HU.out.2.2.2.2.2.2)⟩
  clear hx hb
  go_wp2_with (fail)
  refine (HA2.out gy _ F4.out.2.2.2.2).mono ?_
  rintro en w5 ⟨rfl, hx, hb⟩
  have F5 : Hid (Bx w5 47 w.heap.size n1 (.slice p1 l1 c1) E1 ∧ Bx w5 47 (w.heap.size + 1) n2 (.slice p2 l2 c2) E2 ∧ Ext w w5 ∧ Bi w5 95 gx (X : Int) ∧ Bi w5 95 gy (Y : Int)) := ⟨F4.out.1.chg hx HU.out.2.2.2.1, F4.out.2.1.chg hx HU.out.2.2.2.2.2.1, Chg.ext F4.out.2.2.1 hx HU.out.2.1, F4.out.2.2.2.1.chg F4.out.2.2.2.2.hv hx HU.out.2.2.2.2.2.2, hb⟩
  clear hx hb
  go_wp2_with (fail)
  refine (HL1.out gx _ F5.out.2.2.2.1).mono ?_
  rintro en wn ⟨rfl, rfl⟩
  go_wp2_with (fail)
  refine (HL2.out gy _ F5.out.2.2.2.2).mono ?_
  rintro en wn ⟨rfl, rfl⟩
  go_wp2_with (fail)
  rw [← hK.out]
  refine (HL.out gx _ F5.out.2.2.2.1).mono ?_
  rintro en w6 ⟨rfl, hx, hb⟩
  have F6 : Hid (Bx w6 47 w.heap.size n1 (.slice p1 l1 c1) E1 ∧ Bx w6 47 (w.heap.size + 1) n2 (.slice p2 l2 c2) E2 ∧ Ext w w6 ∧ Bi w6 95 gx ((X : Int) * 2 ^ K) ∧ Bi w6 95 gy (Y : Int)) := ⟨F5.out.1.chg hx HU.out.2.2.1, F5.out.2.1.chg hx HU.out.2.2.2.2.1, Chg.ext F5.out.2.2.1 hx HU.out.1, hb, F5.out.2.2.2.2.chg F5.out.2.2.2.1.hv hx (Ne.symm HU.out.2.2.2.2.2.2)⟩
  clear hx hb
  go_wp2_with (fail)
  refine (HQ.out w6.heap.size (w6.heap.size + 1) gx gy _ ((Hv.new w6 _).ext ((Ext.refl _).alloc _)) ?_ (F6.out.2.2.2.1.ext (((Ext.refl _).alloc _).alloc _)) (F6.out.2.2.2.2.ext (((Ext.refl _).alloc _).alloc _)) (by omega)).mono ?_
  · have h := Hv.new (w6.alloc (.cells #[.bool false, .slice none 0 0] 95)) 95
    rwa [show (w6.alloc (.cells #[.bool false, .slice none 0 0] 95)).heap.size = w6.heap.size + 1 by simp] at h
  rintro en w7 ⟨rfl, hx, hb, hb2⟩
  have he : Ext w6 w7 := Ch2.ext (((Ext.refl w6).alloc _).alloc _) hx (Nat.le_refl _) (Nat.le_succ _)
  have F7 : Hid (Bx w7 47 w.heap.size n1 (.slice p1 l1 c1) E1 ∧ Bx w7 47 (w.heap.size + 1) n2 (.slice p2 l2 c2) E2 ∧ Ext w w7 ∧ Bi w7 95 w6.heap.size (Q : Int) ∧ Bi w7 95 (w6.heap.size + 1) (Rm : Int)) := ⟨F6.out.1.ext he, F6.out.2.1.ext he, F6.out.2.2.1.trans he, hb, hb2⟩
  clear hx hb hb2 he
  have a0 := F7.out.1.c0
  have a1 := F7.out.1.c1
  have a2 := F7.out.1.c2
  have a3 := F7.out.2.1.c0
  have a4 := F7.out.2.1.c1
  have a5 := F7.out.2.1.c2
  go_wp2_with (fail)
  have hw1 : IntKind.i64.wrap (E1 - E2) = E1 - E2 := IntWalk.i64_in _ (by omega)
  have hw2 : IntKind.i64.wrap (E1 - E2 - K) = E1 - E2 - K := IntWalk.i64_in _ (by omega)
  go_region_held3 (fun w' => w'.cell? ⟨w.heap.size, 0, none⟩ = some (.bool n1) ∧ w'.cell? ⟨w.heap.size, 2, none⟩ = some (.int .i64 E1) ∧ w'.cell? ⟨w.heap.size + 1, 0, none⟩ = some (.bool n2) ∧ w'.cell? ⟨w.heap.size + 1, 2, none⟩ = some (.int .i64 E2))
    (first | go_keep | (exact ⟨H8.out.1.c0, H8.out.1.c2, H8.out.2.1.c0, H8.out.2.1.c2⟩) | fail)
    (first | (go_at_call 105; refine (i_sign (w6.heap.size + 1) (Rm : Int) _ (by first | exact F7.out.2.2.2.2 | exact F7.out.2.2.2.2.ext (Ext.drewN (Ext.refl _) _))).mono ?_; rintro en wn ⟨rfl, rfl⟩) | (go_at_call 123; refine (HG.out w6.heap.size _ (by first | exact F7.out.2.2.2.1 | exact F7.out.2.2.2.1.ext (Ext.drewN (Ext.refl _) _))).mono ?_; rintro en w8 ⟨rfl, hx⟩; have H8 : Hid (Bx w8 47 w.heap.size n1 (.slice p1 l1 c1) E1 ∧ Bx w8 47 (w.heap.size + 1) n2 (.slice p2 l2 c2) E2 ∧ Ext w w8) := ⟨F7.out.1.ext (by first | exact hx | exact Ext.of_drew hx), F7.out.2.1.ext (by first | exact hx | exact Ext.of_drew hx), F7.out.2.2.1.trans (by first | exact hx | exact Ext.of_drew hx)⟩; clear hx))
  all_goals (go_wp2_with (fail); go_ret2; exact ⟨rfl, H8.out.2.2⟩)
end Go.Proofs.YtdpjkddllimcoaaGreatDoor
end

section
/- Rounded arithmetic: quotients, roots of squares' sums. -/
namespace Fl
/-- the quotient of two finite floats that are not 0, rounded. -/
noncomputable def rQuo (a b : Nat) (mode : Int) : Nat :=
  word (decide (val a < 0) != decide (val b < 0)) (rnd (cR (val a).natAbs (val b).natAbs (-1074 - -1074)) (aim (decide (val a < 0) != decide (val b < 0)) mode))
theorem val_ne {a : Nat} (h : 0 < mag a) : val a ≠ 0 := by
  have h1 := V_mono h
  rw [V_zero] at h1
  have := val_natAbs a
  omega
theorem val_eq {a : Nat} (h : mag a = 0) : val a = 0 := by
  have := val_natAbs a
  rw [h, V_zero] at this
  omega
/-- a square root of a number of twice the place, rounded. -/
noncomputable def rHyp (a b : Nat) (mode : Int) : Nat :=
  if val a * val a + val b * val b = 0 then 0 else rnd (cT (val a * val a + val b * val b).natAbs (-2148)) (aim false mode)
theorem sq_nn (x : Int) : 0 ≤ x * x := by
  rcases Int.le_total 0 x with h | h
  · exact Int.mul_nonneg h h
  · have := Int.mul_nonneg (show 0 ≤ -x by omega) (show 0 ≤ -x by omega)
    rwa [Int.neg_mul_neg] at this
theorem sq_bits {x : Int} (h : x.natAbs < 2 ^ 2100) : (x * x).natAbs < 2 ^ 4200 := by
  exact two_pow_lt_of (L := 2100 + 2100) (M := 4200) (natAbs_mul_lt h h) (by decide)
end Fl
namespace Go.Proofs.YtdpjkddllimcoaaGreatDoor
open Go.RowKit Fl
theorem r_Div_fin (a b : Nat) (mode : Int) (ha : a < 18446744073709551616) (hb : b < 18446744073709551616) (fa : mag a < INF) (fb : mag b < INF) (na : 0 < mag a) (nb : 0 < mag b) (hm : mode = 1 ∨ mode = 2 ∨ mode = 3) (w : World) (hT : Tab32 w) :
    Calls Tryz.prog 23 #[.float .f64 a, .float .f64 b, .int .i64 mode] w fun en w' => en = .returned (.float .f64 (rQuo a b mode)) ∧ Ext w w' := by
  have HVa := Lib.hid (r_valid mode w hm)
  have HIa := Lib.hid (r_infinite a ha w)
  have HIb := Lib.hid (r_infinite b hb w)
  rw [show decide (mag a = INF) = false by simp; omega] at HIa
  rw [show decide (mag b = INF) = false by simp; omega] at HIb
  have t1 := fin_feq ha fa
  have t2 := fin_feq hb fb
  have t3 := feq_zero_false ha na
  have t4 := feq_zero_false hb nb
  have HNa := Lib.hid (r_num a ha fa w hT)
  have HNb : Hid (∀ w', Ext w w' → Calls Tryz.prog 52 #[.float .f64 b] w' fun en w'' => ∃ v, en = .returned v ∧ Ext w' w'' ∧ Dy w'' v (val b) (-1074)) := fun w' hx => r_num b hb fb w' (hT.ext hx)
  have HQ : Hid (∀ u v w', Ext w w' → Dy w' u (val a) (-1074) → Dy w' v (val b) (-1074) → Calls Tryz.prog 69 #[u, v, .int .i64 mode] w' fun en w'' => en = .returned (.tuple #[.float .f64 (rQuo a b mode), .int .i64 0]) ∧ Ext w' w'') := by
    intro u v w' hx h1 h2
    exact d_Ratio u v (val a) (val b) (-1074) (-1074) mode 2100 2100 w' h1 h2 hm (val_ne na) (val_ne nb) (val_bits fa) (val_bits fb) (by decide) (by decide) (by decide) (by decide) (by decide) (by decide)
  clear ha hb fa fb na nb hm hT
  generalize rQuo a b mode = R at *
  go_enter Tryz.func23, Tryz.ntmps23
  go_wp2_with (fail)
  refine HVa.out.mono ?_
  rintro en wn ⟨rfl, rfl⟩
  go_wp2_with (fail)
  refine HIa.out.mono ?_
  rintro en wn ⟨rfl, rfl⟩
  go_wp2_with (fail)
  refine HIb.out.mono ?_
  rintro en wn ⟨rfl, rfl⟩
  go_wp2_with (fail)
  refine HNa.out.mono ?_
  rintro en w1 ⟨va, rfl, hx, hd⟩
  have H1 := Lib.hid (And.intro hx hd)
  clear hx hd
  go_wp2_with (fail)
  refine (HNb.out _ H1.out.1).mono ?_
  rintro en w2 ⟨vb, rfl, hx, hd⟩
  have H2 := Lib.hid (And.intro (H1.out.1.trans hx) (And.intro (H1.out.2.ext hx) hd))
  clear hx hd
  go_wp2_with (fail)
  refine (HQ.out va vb _ H2.out.1 H2.out.2.1 H2.out.2.2).mono ?_
  rintro en w3 ⟨rfl, hx⟩
  have H3 := Lib.hid (H2.out.1.trans hx)
  clear hx
  go_wp2_with (fail)
  go_ret
  exact ⟨rfl, H3.out⟩
set_option maxHeartbeats 1000000 in
theorem r_Hypot_fin (a b : Nat) (mode : Int) (ha : a < 18446744073709551616) (hb : b < 18446744073709551616) (fa : mag a < INF) (fb : mag b < INF) (h0 : val a * val a + val b * val b ≠ 0) (hm : mode = 1 ∨ mode = 2 ∨ mode = 3) (w : World) (hT : Tab32 w) :
    Calls Tryz.prog 27 #[.float .f64 a, .float .f64 b, .int .i64 mode] w fun en w' => en = .returned (.float .f64 (rHyp a b mode)) ∧ Ext w w' := by
  have HVa := Lib.hid (r_valid mode w hm)
  have HIa := Lib.hid (r_infinite a ha w)
  have HIb := Lib.hid (r_infinite b hb w)
  rw [show decide (mag a = INF) = false by simp; omega] at HIa
  rw [show decide (mag b = INF) = false by simp; omega] at HIb
  have t1 := fin_feq ha fa
  have t2 := fin_feq hb fb
  have HNa : Hid (∀ w', Ext w w' → Calls Tryz.prog 52 #[.float .f64 a] w' fun en w'' => ∃ v, en = .returned v ∧ Ext w' w'' ∧ Dy w'' v (val a) (-1074)) := fun w' hx => r_num a ha fa w' (hT.ext hx)
  have HNb : Hid (∀ w', Ext w w' → Calls Tryz.prog 52 #[.float .f64 b] w' fun en w'' => ∃ v, en = .returned v ∧ Ext w' w'' ∧ Dy w'' v (val b) (-1074)) := fun w' hx => r_num b hb fb w' (hT.ext hx)
  have HMul : Hid (∀ x : Int, x.natAbs < 2 ^ 2100 → ∀ u v w', Ext w w' → Dy w' u x (-1074) → Dy w' v x (-1074) → Calls Tryz.prog 54 #[u, v] w' fun en w'' => ∃ v', en = .returned (.tuple #[v', .int .i64 0]) ∧ Ext w' w'' ∧ Dy w'' v' (x * x) (-2148)) := by
    intro x hx u v w' hx' h1 h2
    exact d_Mul u v x x (-1074) (-1074) 2100 2100 w' h1 h2 hx hx (by decide) (by decide) (by decide) (hT.ext hx')
  have HMa := Lib.hid (HMul.out (val a) (val_bits fa))
  have HMb := Lib.hid (HMul.out (val b) (val_bits fb))
  clear HMul
  have hn1 := sq_nn (val a)
  have hn2 := sq_nn (val b)
  have HAdd : Hid (∀ u v w', Ext w w' → Dy w' u (val a * val a) (-2148) → Dy w' v (val b * val b) (-2148) → Calls Tryz.prog 64 #[u, v] w' fun en w'' => ∃ v', en = .returned (.tuple #[v', .int .i64 0]) ∧ Ext w' w'' ∧ Dy w'' v' (val a * val a + val b * val b) (-2148)) := by
    intro u v w' hx h1 h2
    exact d_Add u v _ _ (-2148) 4200 w' h1 h2 (sq_bits (val_bits fa)) (sq_bits (val_bits fb)) (by decide) (by decide) (by decide) (hT.ext hx)
  have HSq : Hid (∀ u w', Dy w' u (val a * val a + val b * val b) (-2148) → Calls Tryz.prog 71 #[u, .int .i64 mode] w' fun en w'' => en = .returned (.tuple #[.float .f64 (rHyp a b mode), .int .i64 0]) ∧ Ext w' w'') := by
    intro u w' h
    have := d_Sqrt u _ (-2148) mode 4201 w' h hm (by omega) (two_pow_lt_of (L := 4200 + 1) (M := 4201) (natAbs_add_lt (L := 4200) (sq_bits (val_bits fa)) (sq_bits (val_bits fb))) (by decide)) (by decide) (by decide) (by decide)
    unfold rHyp
    rwa [if_neg h0]
  clear ha hb fa fb h0 hm hT hn1 hn2
  generalize rHyp a b mode = R at *
  generalize val a * val a = A at *
  generalize val b * val b = B at *
  go_enter Tryz.func27, Tryz.ntmps27
  go_wp2_with (fail)
  refine HVa.out.mono ?_
  rintro en wn ⟨rfl, rfl⟩
  go_wp2_with (fail)
  refine HIa.out.mono ?_
  rintro en wn ⟨rfl, rfl⟩
  go_wp2_with (fail)
  refine HIb.out.mono ?_
  rintro en wn ⟨rfl, rfl⟩
  go_wp2_with (fail)
  refine (HNa.out _ (Ext.refl _)).mono ?_
  rintro en w1 ⟨va, rfl, hx, hd⟩
  have H1 := Lib.hid (And.intro hx hd)
  clear hx hd
  go_wp2_with (fail)
  refine (HNa.out _ H1.out.1).mono ?_
  rintro en w2 ⟨vb, rfl, hx, hd⟩
  have H2 := Lib.hid (And.intro (H1.out.1.trans hx) (And.intro (H1.out.2.ext hx) hd))
  clear hx hd H1
  go_wp2_with (fail)
  refine (HMa.out va vb _ H2.out.1 H2.out.2.1 H2.out.2.2).mono ?_
  rintro en w3 ⟨v, rfl, hx, hd⟩
  obtain ⟨n1, s1, E1, rfl⟩ := hd.form
  obtain ⟨p1, l1, c1, rfl⟩ := hd.sl
  have H3 := Lib.hid (And.intro (H2.out.1.trans hx) hd)
  clear hx hd H2
  go_wp2_with (fail)
  have HB1 : Hid (Bx (w3.alloc (.cells #[.bool n1, .slice p1 l1 c1, .int .i64 E1] 47)) 47 w3.heap.size n1 (.slice p1 l1 c1) E1) := Bx.new _ _ _ _ _
  refine (HNb.out _ (H3.out.1.alloc _)).mono ?_
  rintro en w4 ⟨va2, rfl, hx, hd⟩
  have H4 : Hid (Ext w w4 ∧ Dy w4 (.agg #[.bool n1, .slice p1 l1 c1, .int .i64 E1]) A (-2148) ∧ Bx w4 47 w3.heap.size n1 (.slice p1 l1 c1) E1 ∧ Dy w4 va2 (val b) (-1074)) := ⟨(H3.out.1.alloc _).trans hx, (H3.out.2.ext ((Ext.refl _).alloc _)).ext hx, HB1.out.ext hx, hd⟩
  clear hx hd
  go_wp2_with (fail)
  refine (HNb.out _ H4.out.1).mono ?_
  rintro en w5 ⟨vb2, rfl, hx, hd⟩
  have H5 : Hid (Ext w w5 ∧ Dy w5 (.agg #[.bool n1, .slice p1 l1 c1, .int .i64 E1]) A (-2148) ∧ Bx w5 47 w3.heap.size n1 (.slice p1 l1 c1) E1 ∧ Dy w5 va2 (val b) (-1074) ∧ Dy w5 vb2 (val b) (-1074)) := ⟨H4.out.1.trans hx, H4.out.2.1.ext hx, H4.out.2.2.1.ext hx, H4.out.2.2.2.ext hx, hd⟩
  clear hx hd H4
  go_wp2_with (fail)
  refine (HMb.out va2 vb2 _ H5.out.1 H5.out.2.2.2.1 H5.out.2.2.2.2).mono ?_
  rintro en w6 ⟨v, rfl, hx, hd⟩
  obtain ⟨n2, s2, E2, rfl⟩ := hd.form
  obtain ⟨p2, l2, c2, rfl⟩ := hd.sl
  have H6 : Hid (Ext w w6 ∧ Dy w6 (.agg #[.bool n1, .slice p1 l1 c1, .int .i64 E1]) A (-2148) ∧ Bx w6 47 w3.heap.size n1 (.slice p1 l1 c1) E1 ∧ Dy w6 (.agg #[.bool n2, .slice p2 l2 c2, .int .i64 E2]) B (-2148)) := ⟨H5.out.1.trans hx, H5.out.2.1.ext hx, H5.out.2.2.1.ext hx, hd⟩
  have a0 := H6.out.2.2.1.c0
  have a1 := H6.out.2.2.1.c1
  have a2 := H6.out.2.2.1.c2
  have hlt := H6.out.2.2.1.lt
  clear hx hd H5
  go_wp2_with (fail)
  refine (HAdd.out _ _ _ (H6.out.1.alloc _) (H6.out.2.1.ext ((Ext.refl _).alloc _)) (H6.out.2.2.2.ext ((Ext.refl _).alloc _))).mono ?_
  rintro en w7 ⟨v, rfl, hx, hd⟩
  obtain ⟨n3, s3, E3, rfl⟩ := hd.form
  obtain ⟨p3, l3, c3, rfl⟩ := hd.sl
  have H7 := Lib.hid (And.intro ((H6.out.1.alloc _).trans hx) hd)
  clear hx hd H6
  go_wp2_with (fail)
  refine (HSq.out _ _ (H7.out.2.ext ((Ext.refl _).alloc _))).mono ?_
  rintro en w8 ⟨rfl, hx⟩
  have H8 := Lib.hid ((H7.out.1.alloc _).trans hx)
  clear hx
  go_wp2_with (fail)
  go_ret
  exact ⟨rfl, H8.out⟩
end Go.Proofs.YtdpjkddllimcoaaGreatDoor
end

section
/- Rounded arithmetic: products, roots. -/
namespace Fl
/-- the product of two finite floats that are not 0, rounded. -/
noncomputable def rPro (a b : Nat) (mode : Int) : Nat :=
  word (decide (val a * val b < 0)) (rnd (cD (val a * val b).natAbs (-2148)) (aim (decide (val a * val b < 0)) mode))
/-- the root of a float above 0, rounded. -/
noncomputable def rRoot (a : Nat) (mode : Int) : Nat := rnd (cT (val a).natAbs (-1074)) (aim false mode)
end Fl
namespace Go.Proofs.YtdpjkddllimcoaaGreatDoor
open Go.RowKit Fl
theorem r_Mul_fin (a b : Nat) (mode : Int) (ha : a < 18446744073709551616) (hb : b < 18446744073709551616) (fa : mag a < INF) (fb : mag b < INF) (na : 0 < mag a) (nb : 0 < mag b) (hm : mode = 1 ∨ mode = 2 ∨ mode = 3) (w : World) (hT : Tab32 w) :
    Calls Tryz.prog 21 #[.float .f64 a, .float .f64 b, .int .i64 mode] w fun en w' => en = .returned (.float .f64 (rPro a b mode)) ∧ Ext w w' := by
  have HVa := Lib.hid (r_valid mode w hm)
  have HIa := Lib.hid (r_infinite a ha w)
  have HIb := Lib.hid (r_infinite b hb w)
  rw [show decide (mag a = INF) = false by simp; omega] at HIa
  rw [show decide (mag b = INF) = false by simp; omega] at HIb
  have t1 := fin_feq ha fa
  have t2 := fin_feq hb fb
  have t3 := feq_zero_false ha na
  have t4 := feq_zero_false hb nb
  have HNa := Lib.hid (r_num a ha fa w hT)
  have HNb : Hid (∀ w', Ext w w' → Calls Tryz.prog 52 #[.float .f64 b] w' fun en w'' => ∃ v, en = .returned v ∧ Ext w' w'' ∧ Dy w'' v (val b) (-1074)) := fun w' hx => r_num b hb fb w' (hT.ext hx)
  have HM : Hid (∀ u v w', Ext w w' → Dy w' u (val a) (-1074) → Dy w' v (val b) (-1074) → Calls Tryz.prog 54 #[u, v] w' fun en w'' => ∃ v', en = .returned (.tuple #[v', .int .i64 0]) ∧ Ext w' w'' ∧ Dy w'' v' (val a * val b) (-2148)) := by
    intro u v w' hx h1 h2
    exact d_Mul u v (val a) (val b) (-1074) (-1074) 2100 2100 w' h1 h2 (val_bits fa) (val_bits fb) (by decide) (by decide) (by decide) (hT.ext hx)
  have HTo : Hid (∀ v w', Dy w' v (val a * val b) (-2148) → Calls Tryz.prog 61 #[v, .int .i64 mode] w' fun en w'' => en = .returned (.float .f64 (rPro a b mode)) ∧ Ext w' w'') :=
    fun v w' h => r_to v _ (-2148) mode w' h hm (Int.mul_ne_zero (val_ne na) (val_ne nb))
  clear ha hb fa fb na nb hm hT
  generalize rPro a b mode = R at *
  go_enter Tryz.func21, Tryz.ntmps21
  go_wp2_with (fail)
  refine HVa.out.mono ?_
  rintro en wn ⟨rfl, rfl⟩
  go_wp2_with (fail)
  refine HIa.out.mono ?_
  rintro en wn ⟨rfl, rfl⟩
  go_wp2_with (fail)
  refine HIb.out.mono ?_
  rintro en wn ⟨rfl, rfl⟩
  go_wp2_with (fail)
  refine HNa.out.mono ?_
  rintro en w1 ⟨va, rfl, hx, hd⟩
  have H1 := Lib.hid (And.intro hx hd)
  clear hx hd
  go_wp2_with (fail)
  refine (HNb.out _ H1.out.1).mono ?_
  rintro en w2 ⟨vb, rfl, hx, hd⟩
  have H2 := Lib.hid (And.intro (H1.out.1.trans hx) (And.intro (H1.out.2.ext hx) hd))
  clear hx hd
  go_wp2_with (fail)
  refine (HM.out va vb _ H2.out.1 H2.out.2.1 H2.out.2.2).mono ?_
  rintro en w3 ⟨v, rfl, hx, hd⟩
  obtain ⟨neg0, s0, E0, rfl⟩ := hd.form
  obtain ⟨p0, l0, c0, rfl⟩ := hd.sl
  have H3 := Lib.hid (And.intro (H2.out.1.trans hx) hd)
  clear hx hd H1 H2
  go_wp2_with (fail)
  refine (HTo.out _ _ (H3.out.2.ext ((Ext.refl _).alloc _))).mono ?_
  rintro en w4 ⟨rfl, hx⟩
  have H4 := Lib.hid ((H3.out.1.alloc _).trans hx)
  clear hx
  go_wp2_with (fail)
  go_ret
  exact ⟨rfl, H4.out⟩
theorem r_Sqrt_fin (a : Nat) (mode : Int) (ha : a < 18446744073709551616) (fa : a < INF) (na : 0 < a) (hm : mode = 1 ∨ mode = 2 ∨ mode = 3) (w : World) (hT : Tab32 w) :
    Calls Tryz.prog 25 #[.float .f64 a, .int .i64 mode] w fun en w' => en = .returned (.float .f64 (rRoot a mode)) ∧ Ext w w' := by
  have hmag : mag a = a := Nat.mod_eq_of_lt (by unfold INF at fa; unfold S; omega)
  have hneg : ¬ S ≤ a := by unfold INF at fa; unfold S; omega
  have HVa := Lib.hid (r_valid mode w hm)
  have HIa := Lib.hid (r_infinite a ha w)
  rw [show decide (mag a = INF) = false by simp; omega] at HIa
  have t1 := fin_feq ha (by rw [hmag]; exact fa)
  have t3 := feq_zero_false ha (by rw [hmag]; exact na)
  have t2 : flt a 0 = false := by
    rw [flt_eq (by simpa using ha) (by decide)]
    unfold key
    rw [if_neg hneg]
    simp
  have HNa := Lib.hid (r_num a ha (by rw [hmag]; exact fa) w hT)
  have HS : Hid (∀ u w', Dy w' u (val a) (-1074) → Calls Tryz.prog 71 #[u, .int .i64 mode] w' fun en w'' => en = .returned (.tuple #[.float .f64 (rRoot a mode), .int .i64 0]) ∧ Ext w' w'') := by
    intro u w' h
    have hp : 0 < val a := by
      have h1 := val_ne (a := a) (by rw [hmag]; exact na)
      have h2 : 0 ≤ val a := by unfold val; rw [if_neg hneg]; omega
      omega
    exact d_Sqrt u (val a) (-1074) mode 2100 w' h hm hp (val_bits (by rw [hmag]; exact fa)) (by decide) (by decide) (by decide)
  clear ha fa na hm hT hmag hneg
  generalize rRoot a mode = R at *
  go_enter Tryz.func25, Tryz.ntmps25
  go_wp2_with (fail)
  refine HVa.out.mono ?_
  rintro en wn ⟨rfl, rfl⟩
  go_wp2_with (fail)
  refine HIa.out.mono ?_
  rintro en wn ⟨rfl, rfl⟩
  go_wp2_with (fail)
  refine HNa.out.mono ?_
  rintro en w1 ⟨va, rfl, hx, hd⟩
  have H1 := Lib.hid (And.intro hx hd)
  clear hx hd
  go_wp2_with (fail)
  refine (HS.out va _ H1.out.2).mono ?_
  rintro en w3 ⟨rfl, hx⟩
  have H3 := Lib.hid (H1.out.1.trans hx)
  clear hx
  go_wp2_with (fail)
  go_ret
  exact ⟨rfl, H3.out⟩
end Go.Proofs.YtdpjkddllimcoaaGreatDoor
end
