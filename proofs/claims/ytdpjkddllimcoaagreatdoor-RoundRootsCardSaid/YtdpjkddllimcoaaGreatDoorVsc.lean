/- A part of the proof (13 of 18) of this: RoundSums: for every two floats and every mode the program's rounded sum and difference are the document's: the law returns true; condition: the table of package math/bits reads as its text lays it. -/
import Derived.Test.YtdpjkddllimcoaaGreatDoorProg
import Derived.Laws.Externs
import Derived.Test.YtdpjkddllimcoaaGreatDoorVsb

section
/- The walks of package math's small functions. -/
namespace Go.Proofs.YtdpjkddllimcoaaGreatDoor
open Go.RowKit Fl

theorem m_bits (x : Nat) (w : World) : (callFunc 76 #[.float .f64 x]).run Tryz.prog w = .ok (.value (.int .u64 x)) w := by
  rw [run_callFunc_extern Tryz.func76 (by kernel_rfl) rfl (by kernel_rfl) (e := Extern.MathFloatBits.float64bits) (by kernel_rfl)]
  rfl
theorem m_of (x : Int) (w : World) : (callFunc 87 #[.int .u64 x]).run Tryz.prog w = .ok (.value (.float .f64 x.toNat)) w := by
  rw [run_callFunc_extern Tryz.func87 (by kernel_rfl) rfl (by kernel_rfl) (e := Extern.MathFloatBits.float64frombits) (by kernel_rfl)]
  rfl
attribute [local go_sem] m_bits m_of

theorem m_abs (x : Nat) (hx : x < 18446744073709551616) (w : World) : Calls Tryz.prog 135 #[.float .f64 x] w fun en wn => en = .returned (.float .f64 (mag x)) ∧ w = wn := by
  have h := bits_andNot_S x hx
  go_enter Tryz.func135, Tryz.ntmps135
  go_wp2
  go_ret
  exact ⟨by simp, rfl⟩
theorem m_signbit (x : Nat) (hx : x < 18446744073709551616) (w : World) : Calls Tryz.prog 118 #[.float .f64 x] w fun en wn => en = .returned (.bool (neg x)) ∧ w = wn := by
  have h : decide (wrap64 (x : Int) < 0) = neg x := by
    unfold neg S wrap64; rw [Bool.eq_iff_iff]; simp; omega
  go_enter Tryz.func118, Tryz.ntmps118
  go_wp2
  go_ret
  exact ⟨rfl, rfl⟩
theorem m_inf (s : Int) (w : World) : Calls Tryz.prog 73 #[.int .i64 s] w fun en wn => en = .returned (.float .f64 (if 0 ≤ s then 9218868437227405312 else 18442240474082181120)) ∧ w = wn := by
  go_enter Tryz.func73, Tryz.ntmps73
  go_wp2
  all_goals (go_ret; exact ⟨rfl, rfl⟩)
theorem m_nan (w : World) : Calls Tryz.prog 40 #[] w fun en wn => en = .returned (.float .f64 9221120237041090561) ∧ w = wn := by
  go_enter Tryz.func40, Tryz.ntmps40
  go_wp2
  go_ret
  exact ⟨rfl, rfl⟩
theorem m_isNaN (x : Nat) (hx : x < 18446744073709551616) (w : World) : Calls Tryz.prog 129 #[.float .f64 x] w fun en wn => en = .returned (.bool (nan x)) ∧ w = wn := by
  have h : (!feq x x) = nan x := by rw [feq_self (by simpa using hx)]; simp
  go_enter Tryz.func129, Tryz.ntmps129
  go_wp2
  go_ret
  exact ⟨rfl, rfl⟩
theorem m_isInf0 (x : Nat) (hx : x < 18446744073709551616) (w : World) : Calls Tryz.prog 97 #[.float .f64 x, .int .i64 0] w fun en wn => en = .returned (.bool (decide (mag x = INF))) ∧ w = wn := by
  have h := fgt_max_mag x
  go_enter Tryz.func97, Tryz.ntmps97
  go_wp2_with ((go_at_call 135; refine (m_abs _ hx _).mono ?_; rintro e w' ⟨rfl, rfl⟩))
  go_ret
  exact ⟨rfl, rfl⟩
theorem m_isInf1 (x : Nat) (hx : x < 18446744073709551616) (w : World) : Calls Tryz.prog 97 #[.float .f64 x, .int .i64 1] w fun en wn => en = .returned (.bool (decide (x = INF))) ∧ w = wn := by
  have h := fgt_max x hx
  go_enter Tryz.func97, Tryz.ntmps97
  go_wp2
  go_ret
  exact ⟨rfl, rfl⟩
theorem m_isInfm1 (x : Nat) (hx : x < 18446744073709551616) (w : World) : Calls Tryz.prog 97 #[.float .f64 x, .int .i64 (-1)] w fun en wn => en = .returned (.bool (decide (x = S + INF))) ∧ w = wn := by
  have h1 : (Op.unary .neg (.float .f64 x)).run Tryz.prog w = .ok (.float .f64 (turned x)) w := run_neg_float x hx w
  have h := fgt_max (turned x) (turned_lt hx)
  have h2 : decide (turned x = INF) = decide (x = S + INF) := by
    rw [Bool.eq_iff_iff]; simp only [decide_eq_true_eq]; unfold turned S INF; split <;> omega
  rw [h2] at h
  go_enter Tryz.func97, Tryz.ntmps97
  go_wp2
  go_ret
  exact ⟨rfl, rfl⟩
theorem m_copysign (x y : Nat) (hx : x < 18446744073709551616) (hy : y < 18446744073709551616) (w : World) : Calls Tryz.prog 60 #[.float .f64 x, .float .f64 y] w fun en wn => en = .returned (.float .f64 (word (neg y) (mag x))) ∧ w = wn := by
  have h : bits .or .u64 (bits .andNot .u64 (x : Int) 9223372036854775808) (bits .and .u64 (y : Int) 9223372036854775808) = ((word (neg y) (mag x) : Nat) : Int) := bits_copysign x y hx hy
  go_enter Tryz.func60, Tryz.ntmps60
  go_wp2
  go_ret
  exact ⟨by simp, rfl⟩
theorem m_normalize_small (x r : Nat) (hx : x < 18446744073709551616) (hs : mag x < B) (hr : r < INF) (h : V (mag x) * 2 ^ 52 = V r) (w : World) :
    Calls Tryz.prog 180 #[.float .f64 x] w fun en wn => en = .returned (.tuple #[.float .f64 (word (neg x) r), .int .i64 (-52)]) ∧ w = wn := by
  have h1 := flt_small_true x hs
  have h2 := run_mul_float (P := Tryz.prog) (w := w) 22 (mul_52 x r hx hs hr h)
  clear h
  go_enter Tryz.func180, Tryz.ntmps180
  go_wp2_with ((go_at_call 135; refine (m_abs _ hx _).mono ?_; rintro e w' ⟨rfl, rfl⟩))
  go_ret2
  exact ⟨rfl, rfl⟩
theorem m_normalize_plain (x : Nat) (hx : x < 18446744073709551616) (hs : B ≤ mag x) (w : World) :
    Calls Tryz.prog 180 #[.float .f64 x] w fun en wn => en = .returned (.tuple #[.float .f64 x, .int .i64 0]) ∧ w = wn := by
  have h1 := flt_small_false x hs
  go_enter Tryz.func180, Tryz.ntmps180
  go_wp2_with ((go_at_call 135; refine (m_abs _ hx _).mono ?_; rintro e w' ⟨rfl, rfl⟩))
  go_ret2
  exact ⟨rfl, rfl⟩
end Go.Proofs.YtdpjkddllimcoaaGreatDoor
end

section
/- Exact numbers: that of a float. -/
namespace Fl
open Go Go.RowKit
theorem val_rq {x : Nat} : val x = (if neg x then -(rq (mag x) : Int) else rq (mag x)) * 2 ^ rl (mag x) := by
  unfold val
  rw [V_lq]
  unfold neg
  by_cases h : S ≤ x
  · rw [if_pos h, if_pos (by simpa using h), Int.neg_mul]; simp
  · rw [if_neg h, if_neg (by simpa using h)]; simp
theorem Dy.form {w : World} {v : Value} {z e : Int} (h : Dy w v z e) : ∃ n s E, v = .agg #[.bool n, s, .int .i64 E] := by
  obtain ⟨o, E, ⟨s, h1, -⟩, -⟩ := h
  exact ⟨_, _, _, h1⟩
theorem Dy.sl {w : World} {n : Bool} {s : Value} {E z e : Int} (h : Dy w (.agg #[.bool n, s, .int .i64 E]) z e) : IsSl s := by
  obtain ⟨o, E', h1, -⟩ := h
  exact h1.inv.2.2.isSl
/-- a number that is laid into a box of the call's own. -/
theorem Dy.chgB {w w' : World} {v : Value} {z e : Int} {t : TypeId} {g : Nat} {neg : Bool} {s : Value} {E : Int} (h : Dy w v z e) (hb : Bx w t g neg s E) (hs : IsSl s) (hx : Chg g w w') : Dy w' v z e := by
  obtain ⟨o, E', ⟨s', e1, hn⟩, h2⟩ := h
  exact ⟨o, E', ⟨s', e1, hn.chgB hb hs hx⟩, h2⟩
theorem Dy.setBx {w : World} {v : Value} {z e : Int} {t : TypeId} {g : Nat} {neg : Bool} {s : Value} {E : Int} (h : Dy w v z e) (hb : Bx w t g neg s E) (hs : IsSl s) (a b c : Value) :
    Dy (((w.setCell ⟨g, 0, none⟩ a).setCell ⟨g, 1, none⟩ b).setCell ⟨g, 2, none⟩ c) v z e :=
  h.chgB hb hs ((((Chg.refl g w).set rfl a).set rfl b).set rfl c)
end Fl
namespace Go.Proofs.YtdpjkddllimcoaaGreatDoor
open Go.RowKit Fl
attribute [local go_sem] m_bits m_of
set_option maxRecDepth 20000 in
theorem d_Of (x : Nat) (hx : x < 18446744073709551616) (hf : mag x < INF) (w : World) (hT : Tab32 w) :
    Calls Tryz.prog 98 #[.float .f64 x] w fun e w' => ∃ v, e = .returned (.tuple #[v, .int .i64 0]) ∧ Ext w w' ∧ Dy w' v (val x) (-1074) := by
  have HT := Lib.hid hT
  have HX : Hid (∀ o1 o2, Ext w ((w.alloc o1).alloc o2)) := fun o1 o2 => ((Ext.refl w).alloc o1).alloc o2
  have HHv : Hid (Hv ((w.alloc (.cells #[.bool false, .slice none 0 0, .int .i64 0] 47)).alloc (.cells #[.bool false, .slice none 0 0] 95)) 95 (w.heap.size + 1)) := by
    have h := Hv.new (w.alloc (.cells #[.bool false, .slice none 0 0, .int .i64 0] 47)) 95
    rw [show (w.alloc (.cells #[.bool false, .slice none 0 0, .int .i64 0] 47)).heap.size = w.heap.size + 1 by simp] at h
    exact h
  have HBx : Hid (Bx ((w.alloc (.cells #[.bool false, .slice none 0 0, .int .i64 0] 47)).alloc (.cells #[.bool false, .slice none 0 0] 95)) 47 w.heap.size false (.slice none 0 0) 0) :=
    (Bx.new _ _ _ _ _).ext ((Ext.refl _).alloc _)
  have hnan : nan x = false := by unfold nan; simp; omega
  have hinf : decide (mag x = INF) = false := by simp; omega
  obtain ⟨M, HM⟩ : ∃ M : Nat, Hid (M = x % 4503599627370496) := ⟨_, rfl⟩
  obtain ⟨E, HE⟩ : ∃ E : Nat, Hid (E = x / 4503599627370496 % 2048) := ⟨_, rfl⟩
  have hM : M < 4503599627370496 := by rw [HM.out]; exact Nat.mod_lt _ (by decide)
  have hE : E < 2048 := by rw [HE.out]; exact Nat.mod_lt _ (by decide)
  have b1 : (x : Int) % 4503599627370496 = (M : Int) := by rw [HM.out]; simp
  have b0 := bits_and_52 x hx
  rw [← HM.out] at b0
  have b2 := bits_and_2047 (x / 4503599627370496) (by omega)
  rw [← HE.out, show ((x / 4503599627370496 : Nat) : Int) = (x : Int) / 4503599627370496 by simp] at b2
  have b3 := bits_or_52 M hM
  have HV := Lib.hid (@val_rq x)
  have hmg : mag x = E * 4503599627370496 + M := by rw [HM.out, HE.out]; unfold mag S; omega
  have hsg : ((x : Int) / 9223372036854775808 == 1) = neg x := by unfold neg S; rw [Bool.eq_iff_iff]; simp; omega
  have h63 : (x : Int) / 9223372036854775808 = (if neg x then 1 else 0) := by unfold neg S; by_cases h : 9223372036854775808 ≤ x <;> simp [h] <;> omega
  generalize hns : neg x = ns at *
  have Hns := Lib.hid hns
  clear hns
  have HMG := Lib.hid hmg
  have HF := Lib.hid hf
  clear hT hf hmg
  by_cases hE0 : E = 0
  · subst hE0
    have HL : Hid ((-1074 : Int) = -1074 - (rl (mag x) : Nat)) := by
      show (-1074 : Int) = _
      rw [HMG.out]
      unfold rl B
      omega
    have HQ : Hid (rq (mag x) = M) := by
      show _ = _
      rw [HMG.out]
      unfold rq B
      rw [if_pos (by omega)]; omega
    rw [HQ.out] at HV
    cases ns
    · go_enter Tryz.func98, Tryz.ntmps98
      go_wp2_with (fail)
      refine (m_isNaN x hx _).mono ?_
      rintro e w1 ⟨he, rfl⟩
      rw [hnan] at he
      subst he
      go_wp2_with (fail)
      refine (m_isInf0 x hx _).mono ?_
      rintro e w1 ⟨he, rfl⟩
      rw [hinf] at he
      subst he
      go_wp2_with (fail)
      refine (i_setUint64 (w.heap.size + 1) M _ HHv.out (by omega)).mono ?_
      rintro e w1 ⟨rfl, hc, hb⟩
      have H1 : Hid (Ext w w1 ∧ Bi w1 95 (w.heap.size + 1) ((M : Nat) : Int) ∧ Bx w1 47 w.heap.size false (.slice none 0 0) 0) := ⟨Chg.ext (HX.out _ _) hc (by omega), hb, HBx.out.chg hc (by omega)⟩
      clear hc hb
      go_wp2_with (fail)
      refine (d_num_any (w.heap.size + 1) 53 ((M : Nat) : Int) (-1074) _ H1.out.2.1 (by rw [show (2 : Nat) ^ 53 = 9007199254740992 by decide]; omega) (by omega) (by omega) (by omega) (HT.out.ext H1.out.1)).mono ?_
      rintro e w3 ⟨v, rfl, hx, hd⟩
      have H3 : Hid (Ext w w3 ∧ Dy w3 v ((M : Nat) : Int) (-1074) ∧ Bx w3 47 w.heap.size false (.slice none 0 0) 0) := ⟨H1.out.1.trans hx, hd, H1.out.2.2.ext hx⟩
      obtain ⟨neg0, s0, E0, rfl⟩ := hd.form
      obtain ⟨p0, l0, c0, rfl⟩ := H3.out.2.1.sl
      have a0 := H3.out.2.2.c0
      have a1 := H3.out.2.2.c1
      have a2 := H3.out.2.2.c2
      have a3 := H3.out.2.2.frozen 0
      have a4 := H3.out.2.2.frozen 1
      have a5 := H3.out.2.2.frozen 2
      clear hx hd
      go_wp2_with (fail)
      refine bodyPost_ret (v := .tuple #[.agg #[.bool neg0, .slice p0 l0 c0, .int .i64 E0], .int .i64 0]) (by simp [results, Tryz.results98, go_sem, a0, a1, a2]) rfl ⟨_, rfl, ?_, ?_⟩
      · exact ((H3.out.1.setNew (Nat.le_refl _) _).setNew (Nat.le_refl _) _).setNew (Nat.le_refl _) _
      · have hr := (H3.out.2.1.setBx H3.out.2.2 IsSl.nil (.bool neg0) (.slice p0 l0 c0) (.int .i64 E0)).scale (rl (mag x))
        rw [HV.out, HL.out]
        exact hr
    · go_enter Tryz.func98, Tryz.ntmps98
      go_wp2_with (fail)
      refine (m_isNaN x hx _).mono ?_
      rintro e w1 ⟨he, rfl⟩
      rw [hnan] at he
      subst he
      go_wp2_with (fail)
      refine (m_isInf0 x hx _).mono ?_
      rintro e w1 ⟨he, rfl⟩
      rw [hinf] at he
      subst he
      go_wp2_with (fail)
      refine (i_setUint64 (w.heap.size + 1) M _ HHv.out (by omega)).mono ?_
      rintro e w1 ⟨rfl, hc, hb⟩
      have H1 : Hid (Ext w w1 ∧ Bi w1 95 (w.heap.size + 1) ((M : Nat) : Int) ∧ Bx w1 47 w.heap.size false (.slice none 0 0) 0) := ⟨Chg.ext (HX.out _ _) hc (by omega), hb, HBx.out.chg hc (by omega)⟩
      clear hc hb
      go_wp2_with (fail)
      refine (i_neg (w.heap.size + 1) (w.heap.size + 1) ((M : Nat) : Int) _ H1.out.2.1.hv H1.out.2.1).mono ?_
      rintro e w2 ⟨rfl, hc, hb⟩
      have H2 : Hid (Ext w w2 ∧ Bi w2 95 (w.heap.size + 1) (-((M : Nat) : Int)) ∧ Bx w2 47 w.heap.size false (.slice none 0 0) 0) := ⟨Chg.ext H1.out.1 hc (by omega), hb, H1.out.2.2.chg hc (by omega)⟩
      clear hc hb
      go_wp2_with (fail)
      refine (d_num_any (w.heap.size + 1) 53 (-((M : Nat) : Int)) (-1074) _ H2.out.2.1 (by rw [show (2 : Nat) ^ 53 = 9007199254740992 by decide]; omega) (by omega) (by omega) (by omega) (HT.out.ext H2.out.1)).mono ?_
      rintro e w3 ⟨v, rfl, hx, hd⟩
      have H3 : Hid (Ext w w3 ∧ Dy w3 v (-((M : Nat) : Int)) (-1074) ∧ Bx w3 47 w.heap.size false (.slice none 0 0) 0) := ⟨H2.out.1.trans hx, hd, H2.out.2.2.ext hx⟩
      obtain ⟨neg0, s0, E0, rfl⟩ := hd.form
      obtain ⟨p0, l0, c0, rfl⟩ := H3.out.2.1.sl
      have a0 := H3.out.2.2.c0
      have a1 := H3.out.2.2.c1
      have a2 := H3.out.2.2.c2
      have a3 := H3.out.2.2.frozen 0
      have a4 := H3.out.2.2.frozen 1
      have a5 := H3.out.2.2.frozen 2
      clear hx hd
      go_wp2_with (fail)
      refine bodyPost_ret (v := .tuple #[.agg #[.bool neg0, .slice p0 l0 c0, .int .i64 E0], .int .i64 0]) (by simp [results, Tryz.results98, go_sem, a0, a1, a2]) rfl ⟨_, rfl, ?_, ?_⟩
      · exact ((H3.out.1.setNew (Nat.le_refl _) _).setNew (Nat.le_refl _) _).setNew (Nat.le_refl _) _
      · have hr := (H3.out.2.1.setBx H3.out.2.2 IsSl.nil (.bool neg0) (.slice p0 l0 c0) (.int .i64 E0)).scale (rl (mag x))
        rw [HV.out, HL.out]
        exact hr
  · obtain ⟨Q, HQQ⟩ : ∃ Q : Nat, Hid (Q = M + 4503599627370496) := ⟨_, rfl⟩
    have hQb : Q < 9007199254740992 := by have := HQQ.out; omega
    rw [← HQQ.out] at b3
    have t0 : ((E : Int) == 0) = false := by simp; omega
    have HL : Hid ((-1074 : Int) = (E : Int) - 1075 - (rl (mag x) : Nat)) := by
      show (-1074 : Int) = _
      rw [HMG.out]
      unfold rl B
      omega
    have HQ : Hid (rq (mag x) = Q) := by
      show _ = _
      rw [HMG.out]
      unfold rq B
      rw [if_neg (by omega)]; have := HQQ.out; omega
    rw [HQ.out] at HV
    cases ns
    · go_enter Tryz.func98, Tryz.ntmps98
      go_wp2_with (fail)
      refine (m_isNaN x hx _).mono ?_
      rintro e w1 ⟨he, rfl⟩
      rw [hnan] at he
      subst he
      go_wp2_with (fail)
      refine (m_isInf0 x hx _).mono ?_
      rintro e w1 ⟨he, rfl⟩
      rw [hinf] at he
      subst he
      go_wp2_with (fail)
      refine (i_setUint64 (w.heap.size + 1) Q _ HHv.out (by omega)).mono ?_
      rintro e w1 ⟨rfl, hc, hb⟩
      have H1 : Hid (Ext w w1 ∧ Bi w1 95 (w.heap.size + 1) ((Q : Nat) : Int) ∧ Bx w1 47 w.heap.size false (.slice none 0 0) 0) := ⟨Chg.ext (HX.out _ _) hc (by omega), hb, HBx.out.chg hc (by omega)⟩
      clear hc hb
      go_wp2_with (fail)
      refine (d_num_any (w.heap.size + 1) 53 ((Q : Nat) : Int) ((E : Int) - 1075) _ H1.out.2.1 (by rw [show (2 : Nat) ^ 53 = 9007199254740992 by decide]; omega) (by omega) (by omega) (by omega) (HT.out.ext H1.out.1)).mono ?_
      rintro e w3 ⟨v, rfl, hx, hd⟩
      have H3 : Hid (Ext w w3 ∧ Dy w3 v ((Q : Nat) : Int) ((E : Int) - 1075) ∧ Bx w3 47 w.heap.size false (.slice none 0 0) 0) := ⟨H1.out.1.trans hx, hd, H1.out.2.2.ext hx⟩
      obtain ⟨neg0, s0, E0, rfl⟩ := hd.form
      obtain ⟨p0, l0, c0, rfl⟩ := H3.out.2.1.sl
      have a0 := H3.out.2.2.c0
      have a1 := H3.out.2.2.c1
      have a2 := H3.out.2.2.c2
      have a3 := H3.out.2.2.frozen 0
      have a4 := H3.out.2.2.frozen 1
      have a5 := H3.out.2.2.frozen 2
      clear hx hd
      go_wp2_with (fail)
      refine bodyPost_ret (v := .tuple #[.agg #[.bool neg0, .slice p0 l0 c0, .int .i64 E0], .int .i64 0]) (by simp [results, Tryz.results98, go_sem, a0, a1, a2]) rfl ⟨_, rfl, ?_, ?_⟩
      · exact ((H3.out.1.setNew (Nat.le_refl _) _).setNew (Nat.le_refl _) _).setNew (Nat.le_refl _) _
      · have hr := (H3.out.2.1.setBx H3.out.2.2 IsSl.nil (.bool neg0) (.slice p0 l0 c0) (.int .i64 E0)).scale (rl (mag x))
        rw [HV.out, HL.out]
        exact hr
    · go_enter Tryz.func98, Tryz.ntmps98
      go_wp2_with (fail)
      refine (m_isNaN x hx _).mono ?_
      rintro e w1 ⟨he, rfl⟩
      rw [hnan] at he
      subst he
      go_wp2_with (fail)
      refine (m_isInf0 x hx _).mono ?_
      rintro e w1 ⟨he, rfl⟩
      rw [hinf] at he
      subst he
      go_wp2_with (fail)
      refine (i_setUint64 (w.heap.size + 1) Q _ HHv.out (by omega)).mono ?_
      rintro e w1 ⟨rfl, hc, hb⟩
      have H1 : Hid (Ext w w1 ∧ Bi w1 95 (w.heap.size + 1) ((Q : Nat) : Int) ∧ Bx w1 47 w.heap.size false (.slice none 0 0) 0) := ⟨Chg.ext (HX.out _ _) hc (by omega), hb, HBx.out.chg hc (by omega)⟩
      clear hc hb
      go_wp2_with (fail)
      refine (i_neg (w.heap.size + 1) (w.heap.size + 1) ((Q : Nat) : Int) _ H1.out.2.1.hv H1.out.2.1).mono ?_
      rintro e w2 ⟨rfl, hc, hb⟩
      have H2 : Hid (Ext w w2 ∧ Bi w2 95 (w.heap.size + 1) (-((Q : Nat) : Int)) ∧ Bx w2 47 w.heap.size false (.slice none 0 0) 0) := ⟨Chg.ext H1.out.1 hc (by omega), hb, H1.out.2.2.chg hc (by omega)⟩
      clear hc hb
      go_wp2_with (fail)
      refine (d_num_any (w.heap.size + 1) 53 (-((Q : Nat) : Int)) ((E : Int) - 1075) _ H2.out.2.1 (by rw [show (2 : Nat) ^ 53 = 9007199254740992 by decide]; omega) (by omega) (by omega) (by omega) (HT.out.ext H2.out.1)).mono ?_
      rintro e w3 ⟨v, rfl, hx, hd⟩
      have H3 : Hid (Ext w w3 ∧ Dy w3 v (-((Q : Nat) : Int)) ((E : Int) - 1075) ∧ Bx w3 47 w.heap.size false (.slice none 0 0) 0) := ⟨H2.out.1.trans hx, hd, H2.out.2.2.ext hx⟩
      obtain ⟨neg0, s0, E0, rfl⟩ := hd.form
      obtain ⟨p0, l0, c0, rfl⟩ := H3.out.2.1.sl
      have a0 := H3.out.2.2.c0
      have a1 := H3.out.2.2.c1
      have a2 := H3.out.2.2.c2
      have a3 := H3.out.2.2.frozen 0
      have a4 := H3.out.2.2.frozen 1
      have a5 := H3.out.2.2.frozen 2
      clear hx hd
      go_wp2_with (fail)
      refine bodyPost_ret (v := .tuple #[.agg #[.bool neg0, .slice p0 l0 c0, .int .i64 E0], .int .i64 0]) (by simp [results, Tryz.results98, go_sem, a0, a1, a2]) rfl ⟨_, rfl, ?_, ?_⟩
      · exact ((H3.out.1.setNew (Nat.le_refl _) _).setNew (Nat.le_refl _) _).setNew (Nat.le_refl _) _
      · have hr := (H3.out.2.1.setBx H3.out.2.2 IsSl.nil (.bool neg0) (.slice p0 l0 c0) (.int .i64 E0)).scale (rl (mag x))
        rw [HV.out, HL.out]
        exact hr
end Go.Proofs.YtdpjkddllimcoaaGreatDoor
end
