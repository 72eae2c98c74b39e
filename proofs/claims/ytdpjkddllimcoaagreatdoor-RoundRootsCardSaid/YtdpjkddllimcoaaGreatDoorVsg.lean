/- A part of the proof (17 of 18) of this: RoundSums: for every two floats and every mode the program's rounded sum and difference are the document's: the law returns true; condition: the table of package math/bits reads as its text lays it. -/
import Derived.Test.YtdpjkddllimcoaaGreatDoorProg
import Derived.Laws.Externs
import Derived.Lib.Hide
import Derived.Test.YtdpjkddllimcoaaGreatDoorVsf

section
/- Rounded arithmetic: rests. -/
namespace Fl
open Go Go.RowKit
theorem Dy.odd {w : World} {n : Bool} {s : Value} {E q : Int} (h : Dy w (.agg #[.bool n, s, .int .i64 E]) q 0) (h0 : q ≠ 0) : (E == 0) = decide (q.natAbs % 2 = 1) := by
  obtain ⟨o, E', hd, hr, hok⟩ := h
  obtain ⟨-, rfl, -⟩ := hd.inv
  have ho : o ≠ 0 := fun e => h0 (hr.sgn.2.1.2 e)
  obtain ⟨k, q1, q2⟩ := hr.exp ho
  have hodd : o.natAbs % 2 = 1 := by
    rcases hok with ⟨e, -⟩ | ⟨e, -⟩
    · exact absurd e ho
    · exact e
  by_cases hk : k = 0
  · subst hk
    rw [Int.pow_zero, Int.mul_one] at q1
    subst q1
    have hE : E = 0 := by omega
    subst hE
    simp [hodd]
  · have e1 : (E == 0) = false := by simp; omega
    have e2 : q.natAbs % 2 = 0 := by
      rw [q1, natAbs_mul_pow, show k = (k - 1) + 1 by omega, Nat.pow_succ, ← Nat.mul_assoc]
      exact Nat.mul_mod_left _ _
    rw [e1, e2]; rfl
/-- what is left of x when y is taken from it, to the nearest. -/
def rest (x y : Int) : Int :=
  let r := x - x.fdiv y * y
  if y.natAbs < 2 * r.natAbs ∨ (2 * r.natAbs = y.natAbs ∧ (x.fdiv y).natAbs % 2 = 1) then r - y else r
noncomputable def rRest (a b : Nat) : Nat :=
  if rest (val a) (val b) = 0 then word (Fl.neg a) 0
  else word (decide (rest (val a) (val b) < 0)) (rnd (cD (rest (val a) (val b)).natAbs (-1074)) (aim (decide (rest (val a) (val b) < 0)) 2))
end Fl
namespace Go.Proofs.YtdpjkddllimcoaaGreatDoor
open Go.RowKit Fl
set_option maxRecDepth 20000 in
set_option maxHeartbeats 4000000 in
theorem r_Rest_fin (a b : Nat) (ha : a < 18446744073709551616) (hb : b < 18446744073709551616) (fa : mag a < INF) (fb : mag b < INF) (na : 0 < mag a) (nb : 0 < mag b) (w : World) (hT : Tab32 w) :
    Calls Tryz.prog 12 #[.float .f64 a, .float .f64 b] w fun en w' => en = .returned (.float .f64 (rRest a b)) ∧ Ext w w' := by
  have HIa := Lib.hid (r_infinite a ha w)
  have HIb := fun w' => r_infinite b hb w'
  rw [show decide (mag a = INF) = false by simp; omega] at HIa
  rw [show decide (mag b = INF) = false by simp; omega] at HIb
  have HIb := Lib.hid HIb
  have t1 := fin_feq ha fa
  have t2 := fin_feq hb fb
  have t3 := feq_zero_false ha na
  have t4 := feq_zero_false hb nb
  have HNa := Lib.hid (r_num a ha fa w hT)
  have HNb : Hid (∀ w', Ext w w' → Calls Tryz.prog 52 #[.float .f64 b] w' fun en w'' => ∃ v, en = .returned v ∧ Ext w' w'' ∧ Dy w'' v (val b) (-1074)) := fun w' hx => r_num b hb fb w' (hT.ext hx)
  have hx0 := val_ne na
  have hy0 := val_ne nb
  have hxb := val_bits fa
  have hyb := val_bits fb
  have HQuo : Hid (∀ u v w', Ext w w' → Dy w' u (val a) (-1074) → Dy w' v (val b) (-1074) → Calls Tryz.prog 53 #[u, v, .int .i64 0] w' fun en w'' => ∃ v' b', en = .returned (.tuple #[v', .bool b', .int .i64 0]) ∧ Ext w' w'' ∧ Dy w'' v' ((val a).fdiv (val b)) 0) := by
    intro u v w' hx h1 h2
    exact d_Quo u v (val a) (val b) (-1074) 2100 w' h1 h2 hx0 hy0 hxb hyb (by decide) (by decide) (by decide) (hT.ext hx)
  have HMul : Hid (∀ u v w', Ext w w' → Dy w' u ((val a).fdiv (val b)) 0 → Dy w' v (val b) (-1074) → Calls Tryz.prog 54 #[u, v] w' fun en w'' => ∃ v', en = .returned (.tuple #[v', .int .i64 0]) ∧ Ext w' w'' ∧ Dy w'' v' ((val a).fdiv (val b) * val b) (-1074)) := by
    intro u v w' hx h1 h2
    exact d_Mul u v _ (val b) 0 (-1074) 2100 2100 w' h1 h2 (Nat.lt_of_le_of_lt fdiv_le hxb) hyb (by decide) (by decide) (by decide) (hT.ext hx)
  have hpb : ((val a).fdiv (val b) * val b).natAbs < 2 ^ 4200 := two_pow_lt_of (L := 2100 + 2100) (M := 4200) (natAbs_mul_lt (Nat.lt_of_le_of_lt fdiv_le hxb) hyb) (by decide)
  have HSub : Hid (∀ u v w', Ext w w' → Dy w' u (val a) (-1074) → Dy w' v ((val a).fdiv (val b) * val b) (-1074) → Calls Tryz.prog 55 #[u, v] w' fun en w'' => ∃ v', en = .returned (.tuple #[v', .int .i64 0]) ∧ Ext w' w'' ∧ Dy w'' v' (val a - (val a).fdiv (val b) * val b) (-1074)) := by
    intro u v w' hx h1 h2
    exact d_Sub u v _ _ (-1074) 4200 w' h1 h2 (two_pow_lt_of (L := 2100) (M := 4200) hxb (by decide)) hpb (by decide) (by decide) (by decide) (hT.ext hx)
  have hrb : (val a - (val a).fdiv (val b) * val b).natAbs < 2 ^ 4201 := by
    have := natAbs_add_lt (L := 4200) (x := val a) (y := -((val a).fdiv (val b) * val b)) (two_pow_lt_of (L := 2100) (M := 4200) hxb (by decide)) (by rw [Int.natAbs_neg]; exact hpb)
    exact two_pow_lt_of (L := 4200 + 1) (M := 4201) this (by decide)
  have HAbsR : Hid (∀ u w', Dy w' u (val a - (val a).fdiv (val b) * val b) (-1074) → Calls Tryz.prog 57 #[u] w' fun en w'' => ∃ v', en = .returned v' ∧ Ext w' w'' ∧ Dy w'' v' ((val a - (val a).fdiv (val b) * val b).natAbs : Int) (-1074)) :=
    fun u w' h => d_Abs u _ _ w' h
  have HShift : Hid (∀ u w', Dy w' u ((val a - (val a).fdiv (val b) * val b).natAbs : Int) (-1074) → Calls Tryz.prog 56 #[u, .int .i64 1] w' fun en w'' => ∃ v', en = .returned (.tuple #[v', .int .i64 0]) ∧ Ext w' w'' ∧ Dy w'' v' (((val a - (val a).fdiv (val b) * val b).natAbs : Int) * 2 ^ 1) (-1074)) := by
    intro u w' h
    have hbl := bl_le_of (k := 4201) hrb
    refine (d_Shift u _ (-1074) 1 w' h (by decide) (by rw [Int.natAbs_natCast]; omega)).mono ?_
    rintro en w'' ⟨v', k1, k2, k3⟩
    exact ⟨v', k1, k2, k3.back (k := 1) (by decide)⟩
  have HCmp : Hid (∀ u v w', Dy w' u (((val a - (val a).fdiv (val b) * val b).natAbs : Int) * 2 ^ 1) (-1074) → Dy w' v ((val b).natAbs : Int) (-1074) → Calls Tryz.prog 58 #[u, v] w' fun en w'' => en = .returned (.int .i64 (cmpZ (((val a - (val a).fdiv (val b) * val b).natAbs : Int) * 2 ^ 1) ((val b).natAbs : Int))) ∧ Ext w' w'') := by
    intro u v w' h1 h2
    refine d_Cmp u v _ _ (-1074) 4202 w' h1 h2 (by omega) (by omega) ?_ ?_ (by decide) (by decide) (by decide)
    · rw [natAbs_mul_pow, Int.natAbs_natCast]
      have h := two_pow_lt_of (L := 4201 + 1) (M := 4202) (natAbs_add_lt (L := 4201) hrb hrb) (by decide)
      exact Nat.lt_of_le_of_lt (Nat.le_of_eq (by clear h hrb hxb hyb; omega)) h
    · rw [Int.natAbs_natCast]
      exact two_pow_lt_of (L := 2100) (M := 4202) hyb (by decide)
  have HAbsY : Hid (∀ u w', Dy w' u (val b) (-1074) → Calls Tryz.prog 57 #[u] w' fun en w'' => ∃ v', en = .returned v' ∧ Ext w' w'' ∧ Dy w'' v' ((val b).natAbs : Int) (-1074)) :=
    fun u w' h => d_Abs u _ _ w' h
  have HD1 : Hid ((val b).natAbs < 2 * (val a - (val a).fdiv (val b) * val b).natAbs ∨ (2 * (val a - (val a).fdiv (val b) * val b).natAbs = (val b).natAbs ∧ ((val a).fdiv (val b)).natAbs % 2 = 1) → rest (val a) (val b) = val a - (val a).fdiv (val b) * val b - val b) := by
    intro h; exact if_pos h
  have HD2 : Hid (¬ ((val b).natAbs < 2 * (val a - (val a).fdiv (val b) * val b).natAbs ∨ (2 * (val a - (val a).fdiv (val b) * val b).natAbs = (val b).natAbs ∧ ((val a).fdiv (val b)).natAbs % 2 = 1)) → rest (val a) (val b) = val a - (val a).fdiv (val b) * val b) := by
    intro h; exact if_neg h
  have HZero : Hid (rest (val a) (val b) = 0 → rRest a b = word (Fl.neg a) 0) := by intro h; unfold rRest; rw [if_pos h]
  have HTo : Hid (∀ u w', rest (val a) (val b) ≠ 0 → Dy w' u (rest (val a) (val b)) (-1074) → Calls Tryz.prog 61 #[u, .int .i64 2] w' fun en w'' => en = .returned (.float .f64 (rRest a b)) ∧ Ext w' w'') := by
    intro u w' h0 h
    have := r_to u _ (-1074) 2 w' h (by decide) h0
    unfold rRest
    rwa [if_neg h0]
  have HSub2 : Hid (∀ u v w', Ext w w' → Dy w' u (val a - (val a).fdiv (val b) * val b) (-1074) → Dy w' v (val b) (-1074) → Calls Tryz.prog 55 #[u, v] w' fun en w'' => ∃ v', en = .returned (.tuple #[v', .int .i64 0]) ∧ Ext w' w'' ∧ Dy w'' v' (val a - (val a).fdiv (val b) * val b - val b) (-1074)) := by
    intro u v w' hx h1 h2
    exact d_Sub u v _ _ (-1074) 4201 w' h1 h2 hrb (two_pow_lt_of (L := 2100) (M := 4201) hyb (by decide)) (by decide) (by decide) (by decide) (hT.ext hx)
  have HSg : Hid (∀ z e u w', Dy w' u z e → Calls Tryz.prog 59 #[u] w' fun en w'' => en = .returned (.int .i64 (sgnI z)) ∧ Ext w' w'') :=
    fun z e u w' h => d_Sign u z e w' h
  have HCp := Lib.hid (fun w' => m_copysign 0 a (by decide) ha w')
  have HT := Lib.hid hT
  clear ha hb fa fb na nb hT hpb hrb hxb hyb
  generalize hq : (val a).fdiv (val b) = q at *
  generalize hp : q * val b = P at *
  generalize hr : val a - P = r at *
  generalize rest (val a) (val b) = RS at *
  generalize rRest a b = R at *
  generalize hcz : cmpZ ((r.natAbs : Int) * 2 ^ 1) ((val b).natAbs : Int) = cz at *
  have HCz := Lib.hid hcz
  clear hcz
  go_enter Tryz.func12, Tryz.ntmps12
  go_wp2_with (fail)
  refine HIa.out.mono ?_
  rintro en wn ⟨rfl, rfl⟩
  go_wp2_with (fail)
  refine (HIb.out _).mono ?_
  rintro en wn ⟨rfl, rfl⟩
  go_wp2_with (fail)
  refine HNa.out.mono ?_
  rintro en w1 ⟨va, rfl, hx, hd⟩
  have H1 := Lib.hid (And.intro hx hd)
  clear hx hd
  go_wp2_with (fail)
  refine (HNb.out _ H1.out.1).mono ?_
  rintro en w2 ⟨vb, rfl, hx, hd⟩
  have hda := H1.out.2.ext hx
  obtain ⟨n1, s1, E1, rfl⟩ := hda.form
  obtain ⟨p1, l1, c1, rfl⟩ := hda.sl
  obtain ⟨n2, s2, E2, rfl⟩ := hd.form
  obtain ⟨p2, l2, c2, rfl⟩ := hd.sl
  have H2 := Lib.hid (And.intro (H1.out.1.trans hx) (And.intro hda hd))
  clear hx hd hda H1
  go_wp2_with (fail)
  have HE : Hid (Ext w ((w2.alloc (.cells #[.bool n1, .slice p1 l1 c1, .int .i64 E1] 47)).alloc (.cells #[.bool n2, .slice p2 l2 c2, .int .i64 E2] 47))) := (H2.out.1.alloc _).alloc _
  have BX1 : Hid (Bx ((w2.alloc (.cells #[.bool n1, .slice p1 l1 c1, .int .i64 E1] 47)).alloc (.cells #[.bool n2, .slice p2 l2 c2, .int .i64 E2] 47)) 47 w2.heap.size n1 (.slice p1 l1 c1) E1 ∧ Dy ((w2.alloc (.cells #[.bool n1, .slice p1 l1 c1, .int .i64 E1] 47)).alloc (.cells #[.bool n2, .slice p2 l2 c2, .int .i64 E2] 47)) (.agg #[.bool n1, .slice p1 l1 c1, .int .i64 E1]) (val a) (-1074)) := ⟨Bx.new1 w2 _ _ n1 _ E1, H2.out.2.1.ext (((Ext.refl _).alloc _).alloc _)⟩
  have BX2 : Hid (Bx ((w2.alloc (.cells #[.bool n1, .slice p1 l1 c1, .int .i64 E1] 47)).alloc (.cells #[.bool n2, .slice p2 l2 c2, .int .i64 E2] 47)) 47 (w2.heap.size + 1) n2 (.slice p2 l2 c2) E2 ∧ Dy ((w2.alloc (.cells #[.bool n1, .slice p1 l1 c1, .int .i64 E1] 47)).alloc (.cells #[.bool n2, .slice p2 l2 c2, .int .i64 E2] 47)) (.agg #[.bool n2, .slice p2 l2 c2, .int .i64 E2]) (val b) (-1074)) := ⟨Bx.new2 w2 _ _ n2 _ E2, H2.out.2.2.ext (((Ext.refl _).alloc _).alloc _)⟩
  clear H2
  generalize (w2.alloc (.cells #[.bool n1, .slice p1 l1 c1, .int .i64 E1] 47)).alloc (.cells #[.bool n2, .slice p2 l2 c2, .int .i64 E2] 47) = w3 at *
  refine (HQuo.out _ _ _ HE.out BX1.out.2 BX2.out.2).mono ?_
  rintro en w4 ⟨v, bq, rfl, hx, hd⟩
  obtain ⟨n3, s3, E3, rfl⟩ := hd.form
  obtain ⟨p3, l3, c3, rfl⟩ := hd.sl
  have DY3 := Lib.hid hd
  replace HE := Lib.hid (HE.out.trans hx)
  replace BX1 := Lib.hid (And.intro (BX1.out.1.ext hx) (BX1.out.2.ext hx))
  replace BX2 := Lib.hid (And.intro (BX2.out.1.ext hx) (BX2.out.2.ext hx))
  clear hx hd
  have k1_0 := BX1.out.1.c0
  have k1_1 := BX1.out.1.c1
  have k1_2 := BX1.out.1.c2
  have k1_3 := BX1.out.1.lt
  have k2_0 := BX2.out.1.c0
  have k2_1 := BX2.out.1.c1
  have k2_2 := BX2.out.1.c2
  have k2_3 := BX2.out.1.lt
  go_wp2_with (fail)
  clear k1_0 k1_1 k1_2 k1_3 k2_0 k2_1 k2_2 k2_3
  have hal : Ext w4 (w4.alloc (.cells #[.bool n3, .slice p3 l3 c3, .int .i64 E3] 47)) := (Ext.refl _).alloc _
  replace HE := Lib.hid (HE.out.trans hal)
  replace BX1 := Lib.hid (And.intro (BX1.out.1.ext hal) (BX1.out.2.ext hal))
  replace BX2 := Lib.hid (And.intro (BX2.out.1.ext hal) (BX2.out.2.ext hal))
  have BX3 : Hid (Bx (w4.alloc (.cells #[.bool n3, .slice p3 l3 c3, .int .i64 E3] 47)) 47 w4.heap.size n3 (.slice p3 l3 c3) E3 ∧ Dy (w4.alloc (.cells #[.bool n3, .slice p3 l3 c3, .int .i64 E3] 47)) (.agg #[.bool n3, .slice p3 l3 c3, .int .i64 E3]) (q) (0)) := ⟨Bx.new _ _ _ _ _, DY3.out.ext hal⟩
  clear hal DY3
  generalize w4.alloc (.cells #[.bool n3, .slice p3 l3 c3, .int .i64 E3] 47) = w5 at *
  refine (HMul.out _ _ _ HE.out BX3.out.2 BX2.out.2).mono ?_
  rintro en w6 ⟨v, rfl, hx, hd⟩
  obtain ⟨n4, s4, E4, rfl⟩ := hd.form
  obtain ⟨p4, l4, c4, rfl⟩ := hd.sl
  have DY4 := Lib.hid hd
  replace HE := Lib.hid (HE.out.trans hx)
  replace BX1 := Lib.hid (And.intro (BX1.out.1.ext hx) (BX1.out.2.ext hx))
  replace BX2 := Lib.hid (And.intro (BX2.out.1.ext hx) (BX2.out.2.ext hx))
  replace BX3 := Lib.hid (And.intro (BX3.out.1.ext hx) (BX3.out.2.ext hx))
  clear hx hd
  have k1_0 := BX1.out.1.c0
  have k1_1 := BX1.out.1.c1
  have k1_2 := BX1.out.1.c2
  have k1_3 := BX1.out.1.lt
  have k2_0 := BX2.out.1.c0
  have k2_1 := BX2.out.1.c1
  have k2_2 := BX2.out.1.c2
  have k2_3 := BX2.out.1.lt
  have k3_0 := BX3.out.1.c0
  have k3_1 := BX3.out.1.c1
  have k3_2 := BX3.out.1.c2
  have k3_3 := BX3.out.1.lt
  go_wp2_with (fail)
  clear k1_0 k1_1 k1_2 k1_3 k2_0 k2_1 k2_2 k2_3 k3_0 k3_1 k3_2 k3_3
  have hal : Ext w6 (w6.alloc (.cells #[.bool n4, .slice p4 l4 c4, .int .i64 E4] 47)) := (Ext.refl _).alloc _
  replace HE := Lib.hid (HE.out.trans hal)
  replace BX1 := Lib.hid (And.intro (BX1.out.1.ext hal) (BX1.out.2.ext hal))
  replace BX2 := Lib.hid (And.intro (BX2.out.1.ext hal) (BX2.out.2.ext hal))
  replace BX3 := Lib.hid (And.intro (BX3.out.1.ext hal) (BX3.out.2.ext hal))
  have BX4 : Hid (Bx (w6.alloc (.cells #[.bool n4, .slice p4 l4 c4, .int .i64 E4] 47)) 47 w6.heap.size n4 (.slice p4 l4 c4) E4 ∧ Dy (w6.alloc (.cells #[.bool n4, .slice p4 l4 c4, .int .i64 E4] 47)) (.agg #[.bool n4, .slice p4 l4 c4, .int .i64 E4]) (P) (-1074)) := ⟨Bx.new _ _ _ _ _, DY4.out.ext hal⟩
  clear hal DY4
  generalize w6.alloc (.cells #[.bool n4, .slice p4 l4 c4, .int .i64 E4] 47) = w7 at *
  refine (HSub.out _ _ _ HE.out BX1.out.2 BX4.out.2).mono ?_
  rintro en w8 ⟨v, rfl, hx, hd⟩
  obtain ⟨n5, s5, E5, rfl⟩ := hd.form
  obtain ⟨p5, l5, c5, rfl⟩ := hd.sl
  have DY5 := Lib.hid hd
  replace HE := Lib.hid (HE.out.trans hx)
  replace BX1 := Lib.hid (And.intro (BX1.out.1.ext hx) (BX1.out.2.ext hx))
  replace BX2 := Lib.hid (And.intro (BX2.out.1.ext hx) (BX2.out.2.ext hx))
  replace BX3 := Lib.hid (And.intro (BX3.out.1.ext hx) (BX3.out.2.ext hx))
  replace BX4 := Lib.hid (And.intro (BX4.out.1.ext hx) (BX4.out.2.ext hx))
  clear hx hd
  have k1_0 := BX1.out.1.c0
  have k1_1 := BX1.out.1.c1
  have k1_2 := BX1.out.1.c2
  have k1_3 := BX1.out.1.lt
  have k2_0 := BX2.out.1.c0
  have k2_1 := BX2.out.1.c1
  have k2_2 := BX2.out.1.c2
  have k2_3 := BX2.out.1.lt
  have k3_0 := BX3.out.1.c0
  have k3_1 := BX3.out.1.c1
  have k3_2 := BX3.out.1.c2
  have k3_3 := BX3.out.1.lt
  have k4_0 := BX4.out.1.c0
  have k4_1 := BX4.out.1.c1
  have k4_2 := BX4.out.1.c2
  have k4_3 := BX4.out.1.lt
  go_wp2_with (fail)
  clear k1_0 k1_1 k1_2 k1_3 k2_0 k2_1 k2_2 k2_3 k3_0 k3_1 k3_2 k3_3 k4_0 k4_1 k4_2 k4_3
  have hsz5 := HE.out.size
  have hal : Ext w8 (w8.alloc (.cells #[.bool n5, .slice p5 l5 c5, .int .i64 E5] 47)) := (Ext.refl _).alloc _
  replace HE := Lib.hid (HE.out.trans hal)
  replace BX1 := Lib.hid (And.intro (BX1.out.1.ext hal) (BX1.out.2.ext hal))
  replace BX2 := Lib.hid (And.intro (BX2.out.1.ext hal) (BX2.out.2.ext hal))
  replace BX3 := Lib.hid (And.intro (BX3.out.1.ext hal) (BX3.out.2.ext hal))
  replace BX4 := Lib.hid (And.intro (BX4.out.1.ext hal) (BX4.out.2.ext hal))
  have BX5 : Hid (Bx (w8.alloc (.cells #[.bool n5, .slice p5 l5 c5, .int .i64 E5] 47)) 47 w8.heap.size n5 (.slice p5 l5 c5) E5 ∧ Dy (w8.alloc (.cells #[.bool n5, .slice p5 l5 c5, .int .i64 E5] 47)) (.agg #[.bool n5, .slice p5 l5 c5, .int .i64 E5]) (r) (-1074)) := ⟨Bx.new _ _ _ _ _, DY5.out.ext hal⟩
  clear hal DY5
  generalize w8.alloc (.cells #[.bool n5, .slice p5 l5 c5, .int .i64 E5] 47) = w9 at *
  refine (HAbsR.out _ _ BX5.out.2).mono ?_
  rintro en w10 ⟨v, rfl, hx, hd⟩
  obtain ⟨n6, s6, E6, rfl⟩ := hd.form
  obtain ⟨p6, l6, c6, rfl⟩ := hd.sl
  have DY6 := Lib.hid hd
  replace HE := Lib.hid (HE.out.trans hx)
  replace BX1 := Lib.hid (And.intro (BX1.out.1.ext hx) (BX1.out.2.ext hx))
  replace BX2 := Lib.hid (And.intro (BX2.out.1.ext hx) (BX2.out.2.ext hx))
  replace BX3 := Lib.hid (And.intro (BX3.out.1.ext hx) (BX3.out.2.ext hx))
  replace BX4 := Lib.hid (And.intro (BX4.out.1.ext hx) (BX4.out.2.ext hx))
  replace BX5 := Lib.hid (And.intro (BX5.out.1.ext hx) (BX5.out.2.ext hx))
  clear hx hd
  have k2_0 := BX2.out.1.c0
  have k2_1 := BX2.out.1.c1
  have k2_2 := BX2.out.1.c2
  have k2_3 := BX2.out.1.lt
  have k3_0 := BX3.out.1.c0
  have k3_1 := BX3.out.1.c1
  have k3_2 := BX3.out.1.c2
  have k3_3 := BX3.out.1.lt
  have k5_0 := BX5.out.1.c0
  have k5_1 := BX5.out.1.c1
  have k5_2 := BX5.out.1.c2
  have k5_3 := BX5.out.1.lt
  go_wp2_with (fail)
  clear k2_0 k2_1 k2_2 k2_3 k3_0 k3_1 k3_2 k3_3 k5_0 k5_1 k5_2 k5_3
  refine (HShift.out _ _ DY6.out).mono ?_
  rintro en w11 ⟨v, rfl, hx, hd⟩
  obtain ⟨n7, s7, E7, rfl⟩ := hd.form
  obtain ⟨p7, l7, c7, rfl⟩ := hd.sl
  have DY7 := Lib.hid hd
  replace HE := Lib.hid (HE.out.trans hx)
  replace BX1 := Lib.hid (And.intro (BX1.out.1.ext hx) (BX1.out.2.ext hx))
  replace BX2 := Lib.hid (And.intro (BX2.out.1.ext hx) (BX2.out.2.ext hx))
  replace BX3 := Lib.hid (And.intro (BX3.out.1.ext hx) (BX3.out.2.ext hx))
  replace BX4 := Lib.hid (And.intro (BX4.out.1.ext hx) (BX4.out.2.ext hx))
  replace BX5 := Lib.hid (And.intro (BX5.out.1.ext hx) (BX5.out.2.ext hx))
  clear hx hd DY6
  have k2_0 := BX2.out.1.c0
  have k2_1 := BX2.out.1.c1
  have k2_2 := BX2.out.1.c2
  have k2_3 := BX2.out.1.lt
  have k3_0 := BX3.out.1.c0
  have k3_1 := BX3.out.1.c1
  have k3_2 := BX3.out.1.c2
  have k3_3 := BX3.out.1.lt
  have k5_0 := BX5.out.1.c0
  have k5_1 := BX5.out.1.c1
  have k5_2 := BX5.out.1.c2
  have k5_3 := BX5.out.1.lt
  go_wp2_with (fail)
  clear k2_0 k2_1 k2_2 k2_3 k3_0 k3_1 k3_2 k3_3 k5_0 k5_1 k5_2 k5_3
  have hal : Ext w11 (w11.alloc (.cells #[.bool n7, .slice p7 l7 c7, .int .i64 E7] 47)) := (Ext.refl _).alloc _
  replace HE := Lib.hid (HE.out.trans hal)
  replace BX1 := Lib.hid (And.intro (BX1.out.1.ext hal) (BX1.out.2.ext hal))
  replace BX2 := Lib.hid (And.intro (BX2.out.1.ext hal) (BX2.out.2.ext hal))
  replace BX3 := Lib.hid (And.intro (BX3.out.1.ext hal) (BX3.out.2.ext hal))
  replace BX4 := Lib.hid (And.intro (BX4.out.1.ext hal) (BX4.out.2.ext hal))
  replace BX5 := Lib.hid (And.intro (BX5.out.1.ext hal) (BX5.out.2.ext hal))
  have BX7 : Hid (Bx (w11.alloc (.cells #[.bool n7, .slice p7 l7 c7, .int .i64 E7] 47)) 47 w11.heap.size n7 (.slice p7 l7 c7) E7 ∧ Dy (w11.alloc (.cells #[.bool n7, .slice p7 l7 c7, .int .i64 E7] 47)) (.agg #[.bool n7, .slice p7 l7 c7, .int .i64 E7]) ((r.natAbs : Int) * 2 ^ 1) (-1074)) := ⟨Bx.new _ _ _ _ _, DY7.out.ext hal⟩
  clear hal DY7
  generalize w11.alloc (.cells #[.bool n7, .slice p7 l7 c7, .int .i64 E7] 47) = w12 at *
  have k2_0 := BX2.out.1.c0
  have k2_1 := BX2.out.1.c1
  have k2_2 := BX2.out.1.c2
  have k2_3 := BX2.out.1.lt
  have k7_0 := BX7.out.1.c0
  have k7_1 := BX7.out.1.c1
  have k7_2 := BX7.out.1.c2
  have k7_3 := BX7.out.1.lt
  go_region_held3 (fun w' => w'.cell? ⟨(w2.heap.size + 1), 0, none⟩ = some (.bool n2) ∧ w'.cell? ⟨(w2.heap.size + 1), 1, none⟩ = some (.slice p2 l2 c2) ∧ w'.cell? ⟨(w2.heap.size + 1), 2, none⟩ = some (.int .i64 E2) ∧ w'.cell? ⟨w11.heap.size, 0, none⟩ = some (.bool n7) ∧ w'.cell? ⟨w11.heap.size, 1, none⟩ = some (.slice p7 l7 c7) ∧ w'.cell? ⟨w11.heap.size, 2, none⟩ = some (.int .i64 E7)) (first | go_keep | (exact ⟨BX2.out.1.c0, BX2.out.1.c1, BX2.out.1.c2, BX7.out.1.c0, BX7.out.1.c1, BX7.out.1.c2⟩) | fail) (first | (go_at_call 57; refine (HAbsY.out _ _ (by first | exact BX2.out.2 | exact BX2.out.2.ext (Ext.drewN (Ext.refl _) _))).mono ?_; rintro en w13 ⟨v8, rfl, hx, hd⟩; have hx1 : Ext w12 w13 := (by first | exact hx | exact (Ext.of_drew hx) | fail); have DY8 := Lib.hid hd; replace HE := Lib.hid (HE.out.trans hx1); replace BX1 := Lib.hid (And.intro (BX1.out.1.ext hx1) (BX1.out.2.ext hx1)); replace BX2 := Lib.hid (And.intro (BX2.out.1.ext hx1) (BX2.out.2.ext hx1)); replace BX3 := Lib.hid (And.intro (BX3.out.1.ext hx1) (BX3.out.2.ext hx1)); replace BX4 := Lib.hid (And.intro (BX4.out.1.ext hx1) (BX4.out.2.ext hx1)); replace BX5 := Lib.hid (And.intro (BX5.out.1.ext hx1) (BX5.out.2.ext hx1)); replace BX7 := Lib.hid (And.intro (BX7.out.1.ext hx1) (BX7.out.2.ext hx1)); clear hx hd hx1) | (go_at_call 58; refine (HCmp.out _ _ _ (by first | exact BX7.out.2 | exact BX7.out.2.ext (Ext.drewN (Ext.refl _) _)) (by first | exact DY8.out | exact DY8.out.ext (Ext.drewN (Ext.refl _) _))).mono ?_; rintro en w14 ⟨rfl, hx⟩; have hx1 : Ext w13 w14 := (by first | exact hx | exact (Ext.of_drew hx) | fail); replace HE := Lib.hid (HE.out.trans hx1); replace BX1 := Lib.hid (And.intro (BX1.out.1.ext hx1) (BX1.out.2.ext hx1)); replace BX2 := Lib.hid (And.intro (BX2.out.1.ext hx1) (BX2.out.2.ext hx1)); replace BX3 := Lib.hid (And.intro (BX3.out.1.ext hx1) (BX3.out.2.ext hx1)); replace BX4 := Lib.hid (And.intro (BX4.out.1.ext hx1) (BX4.out.2.ext hx1)); replace BX5 := Lib.hid (And.intro (BX5.out.1.ext hx1) (BX5.out.2.ext hx1)); replace BX7 := Lib.hid (And.intro (BX7.out.1.ext hx1) (BX7.out.2.ext hx1)); clear hx hx1))
  have HCZ : Hid (cz = if 2 * r.natAbs < (val b).natAbs then -1 else if 2 * r.natAbs = (val b).natAbs then 0 else 1) := by
    show _ = _
    rw [← HCz.out]
    unfold cmpZ
    by_cases g1 : 2 * r.natAbs < (val b).natAbs
    · rw [if_pos (by omega), if_pos g1]
    · rw [if_neg (by omega), if_neg g1]
      by_cases g2 : 2 * r.natAbs = (val b).natAbs
      · rw [if_pos (by omega), if_pos g2]
      · rw [if_neg (by omega), if_neg g2]
  clear HCz
  have HOdd := Lib.hid (fun h => BX3.out.2.odd h)
  by_cases hq0 : q = 0
  · skip
    have tq : (sgnI q != 0) = false := by rw [hq0]; rfl
    have hqo : ¬ q.natAbs % 2 = 1 := by rw [hq0]; decide
    rcases Nat.lt_trichotomy (2 * r.natAbs) (val b).natAbs with g | g | g
    · have hcz : cz = -1 := by rw [HCZ.out, if_pos g]
      have hD : ¬ ((val b).natAbs < 2 * r.natAbs ∨ (2 * r.natAbs = (val b).natAbs ∧ q.natAbs % 2 = 1)) := by omega
      clear g hq0 hqo
      subst hcz
      have hRS : RS = r := HD2.out hD
      have HRS := Lib.hid hRS
      clear hRS hD
      have k3_0 := BX3.out.1.c0
      have k3_1 := BX3.out.1.c1
      have k3_2 := BX3.out.1.c2
      have k3_3 := BX3.out.1.lt
      go_wp2_with (fail)
      clear k3_0 k3_1 k3_2 k3_3
      refine (HSg.out q 0 _ _ BX3.out.2).mono ?_
      rintro en w15 ⟨rfl, hx⟩
      replace HE := Lib.hid (HE.out.trans hx)
      replace BX1 := Lib.hid (And.intro (BX1.out.1.ext hx) (BX1.out.2.ext hx))
      replace BX2 := Lib.hid (And.intro (BX2.out.1.ext hx) (BX2.out.2.ext hx))
      replace BX3 := Lib.hid (And.intro (BX3.out.1.ext hx) (BX3.out.2.ext hx))
      replace BX4 := Lib.hid (And.intro (BX4.out.1.ext hx) (BX4.out.2.ext hx))
      replace BX5 := Lib.hid (And.intro (BX5.out.1.ext hx) (BX5.out.2.ext hx))
      replace BX7 := Lib.hid (And.intro (BX7.out.1.ext hx) (BX7.out.2.ext hx))
      clear hx
      have k2_0 := BX2.out.1.c0
      have k2_1 := BX2.out.1.c1
      have k2_2 := BX2.out.1.c2
      have k2_3 := BX2.out.1.lt
      have k3_0 := BX3.out.1.c0
      have k3_1 := BX3.out.1.c1
      have k3_2 := BX3.out.1.c2
      have k3_3 := BX3.out.1.lt
      have k5_0 := BX5.out.1.c0
      have k5_1 := BX5.out.1.c1
      have k5_2 := BX5.out.1.c2
      have k5_3 := BX5.out.1.lt
      go_wp2_with (fail)
      clear k2_0 k2_1 k2_2 k2_3 k3_0 k3_1 k3_2 k3_3 k5_0 k5_1 k5_2 k5_3
      refine (HSg.out r (-1074) _ _ BX5.out.2).mono ?_
      rintro en w16 ⟨rfl, hx⟩
      replace HE := Lib.hid (HE.out.trans hx)
      replace BX1 := Lib.hid (And.intro (BX1.out.1.ext hx) (BX1.out.2.ext hx))
      replace BX2 := Lib.hid (And.intro (BX2.out.1.ext hx) (BX2.out.2.ext hx))
      replace BX3 := Lib.hid (And.intro (BX3.out.1.ext hx) (BX3.out.2.ext hx))
      replace BX4 := Lib.hid (And.intro (BX4.out.1.ext hx) (BX4.out.2.ext hx))
      replace BX5 := Lib.hid (And.intro (BX5.out.1.ext hx) (BX5.out.2.ext hx))
      replace BX7 := Lib.hid (And.intro (BX7.out.1.ext hx) (BX7.out.2.ext hx))
      clear hx
      have k5_0 := BX5.out.1.c0
      have k5_1 := BX5.out.1.c1
      have k5_2 := BX5.out.1.c2
      have k5_3 := BX5.out.1.lt
      by_cases hz : r = 0
      · rw [show sgnI r = 0 by rw [hz]; rfl]
        have HR0 := Lib.hid (HZero.out (by rw [HRS.out]; exact hz))
        clear hz
        go_wp2_with (fail)
        refine (HCp.out _).mono ?_
        rintro en wn ⟨rfl, rfl⟩
        go_wp2_with (fail)
        go_ret
        exact ⟨by rw [HR0.out]; rfl, HE.out⟩
      · have ts : (sgnI r == 0) = false := by unfold sgnI; split <;> simp_all
        have HT5 := Lib.hid (HTo.out _ _ (by rw [HRS.out]; exact hz) (by rw [HRS.out]; exact BX5.out.2))
        clear hz
        go_wp2_with (fail)
        refine HT5.out.mono ?_
        rintro en w17 ⟨rfl, hx⟩
        have H17 := Lib.hid (HE.out.trans hx)
        clear hx
        go_wp2_with (fail)
        go_ret
        exact ⟨rfl, H17.out⟩
    · have hcz : cz = 0 := by rw [HCZ.out, if_neg (by omega), if_pos g]
      have hD : ¬ ((val b).natAbs < 2 * r.natAbs ∨ (2 * r.natAbs = (val b).natAbs ∧ q.natAbs % 2 = 1)) := by omega
      clear g hq0 hqo
      subst hcz
      have hRS : RS = r := HD2.out hD
      have HRS := Lib.hid hRS
      clear hRS hD
      have k3_0 := BX3.out.1.c0
      have k3_1 := BX3.out.1.c1
      have k3_2 := BX3.out.1.c2
      have k3_3 := BX3.out.1.lt
      go_wp2_with (fail)
      clear k3_0 k3_1 k3_2 k3_3
      refine (HSg.out q 0 _ _ BX3.out.2).mono ?_
      rintro en w15 ⟨rfl, hx⟩
      replace HE := Lib.hid (HE.out.trans hx)
      replace BX1 := Lib.hid (And.intro (BX1.out.1.ext hx) (BX1.out.2.ext hx))
      replace BX2 := Lib.hid (And.intro (BX2.out.1.ext hx) (BX2.out.2.ext hx))
      replace BX3 := Lib.hid (And.intro (BX3.out.1.ext hx) (BX3.out.2.ext hx))
      replace BX4 := Lib.hid (And.intro (BX4.out.1.ext hx) (BX4.out.2.ext hx))
      replace BX5 := Lib.hid (And.intro (BX5.out.1.ext hx) (BX5.out.2.ext hx))
      replace BX7 := Lib.hid (And.intro (BX7.out.1.ext hx) (BX7.out.2.ext hx))
      clear hx
      have k2_0 := BX2.out.1.c0
      have k2_1 := BX2.out.1.c1
      have k2_2 := BX2.out.1.c2
      have k2_3 := BX2.out.1.lt
      have k3_0 := BX3.out.1.c0
      have k3_1 := BX3.out.1.c1
      have k3_2 := BX3.out.1.c2
      have k3_3 := BX3.out.1.lt
      have k5_0 := BX5.out.1.c0
      have k5_1 := BX5.out.1.c1
      have k5_2 := BX5.out.1.c2
      have k5_3 := BX5.out.1.lt
      go_wp2_with (fail)
      clear k2_0 k2_1 k2_2 k2_3 k3_0 k3_1 k3_2 k3_3 k5_0 k5_1 k5_2 k5_3
      refine (HSg.out r (-1074) _ _ BX5.out.2).mono ?_
      rintro en w16 ⟨rfl, hx⟩
      replace HE := Lib.hid (HE.out.trans hx)
      replace BX1 := Lib.hid (And.intro (BX1.out.1.ext hx) (BX1.out.2.ext hx))
      replace BX2 := Lib.hid (And.intro (BX2.out.1.ext hx) (BX2.out.2.ext hx))
      replace BX3 := Lib.hid (And.intro (BX3.out.1.ext hx) (BX3.out.2.ext hx))
      replace BX4 := Lib.hid (And.intro (BX4.out.1.ext hx) (BX4.out.2.ext hx))
      replace BX5 := Lib.hid (And.intro (BX5.out.1.ext hx) (BX5.out.2.ext hx))
      replace BX7 := Lib.hid (And.intro (BX7.out.1.ext hx) (BX7.out.2.ext hx))
      clear hx
      have k5_0 := BX5.out.1.c0
      have k5_1 := BX5.out.1.c1
      have k5_2 := BX5.out.1.c2
      have k5_3 := BX5.out.1.lt
      by_cases hz : r = 0
      · rw [show sgnI r = 0 by rw [hz]; rfl]
        have HR0 := Lib.hid (HZero.out (by rw [HRS.out]; exact hz))
        clear hz
        go_wp2_with (fail)
        refine (HCp.out _).mono ?_
        rintro en wn ⟨rfl, rfl⟩
        go_wp2_with (fail)
        go_ret
        exact ⟨by rw [HR0.out]; rfl, HE.out⟩
      · have ts : (sgnI r == 0) = false := by unfold sgnI; split <;> simp_all
        have HT5 := Lib.hid (HTo.out _ _ (by rw [HRS.out]; exact hz) (by rw [HRS.out]; exact BX5.out.2))
        clear hz
        go_wp2_with (fail)
        refine HT5.out.mono ?_
        rintro en w17 ⟨rfl, hx⟩
        have H17 := Lib.hid (HE.out.trans hx)
        clear hx
        go_wp2_with (fail)
        go_ret
        exact ⟨rfl, H17.out⟩
    · have hcz : cz = 1 := by rw [HCZ.out, if_neg (by omega), if_neg (by omega)]
      have hD : (val b).natAbs < 2 * r.natAbs ∨ (2 * r.natAbs = (val b).natAbs ∧ q.natAbs % 2 = 1) := by omega
      clear g hq0 hqo
      subst hcz
      have hRS : RS = r - val b := HD1.out hD
      have HRS := Lib.hid hRS
      clear hRS hD
      have k3_0 := BX3.out.1.c0
      have k3_1 := BX3.out.1.c1
      have k3_2 := BX3.out.1.c2
      have k3_3 := BX3.out.1.lt
      go_wp2_with (fail)
      clear k3_0 k3_1 k3_2 k3_3
      refine (HSg.out q 0 _ _ BX3.out.2).mono ?_
      rintro en w15 ⟨rfl, hx⟩
      replace HE := Lib.hid (HE.out.trans hx)
      replace BX1 := Lib.hid (And.intro (BX1.out.1.ext hx) (BX1.out.2.ext hx))
      replace BX2 := Lib.hid (And.intro (BX2.out.1.ext hx) (BX2.out.2.ext hx))
      replace BX3 := Lib.hid (And.intro (BX3.out.1.ext hx) (BX3.out.2.ext hx))
      replace BX4 := Lib.hid (And.intro (BX4.out.1.ext hx) (BX4.out.2.ext hx))
      replace BX5 := Lib.hid (And.intro (BX5.out.1.ext hx) (BX5.out.2.ext hx))
      replace BX7 := Lib.hid (And.intro (BX7.out.1.ext hx) (BX7.out.2.ext hx))
      clear hx
      have k2_0 := BX2.out.1.c0
      have k2_1 := BX2.out.1.c1
      have k2_2 := BX2.out.1.c2
      have k2_3 := BX2.out.1.lt
      have k3_0 := BX3.out.1.c0
      have k3_1 := BX3.out.1.c1
      have k3_2 := BX3.out.1.c2
      have k3_3 := BX3.out.1.lt
      have k5_0 := BX5.out.1.c0
      have k5_1 := BX5.out.1.c1
      have k5_2 := BX5.out.1.c2
      have k5_3 := BX5.out.1.lt
      go_wp2_with (fail)
      refine (HSub2.out _ _ _ HE.out BX5.out.2 BX2.out.2).mono ?_
      rintro en w16 ⟨v, rfl, hx, hd⟩
      clear k2_0 k2_1 k2_2 k2_3 k3_0 k3_1 k3_2 k3_3 k5_0 k5_1 k5_2 k5_3
      obtain ⟨n8, s8, E8, rfl⟩ := hd.form
      obtain ⟨p8, l8, c8, rfl⟩ := hd.sl
      have DY8 := Lib.hid hd
      replace HE := Lib.hid (HE.out.trans hx)
      replace BX1 := Lib.hid (And.intro (BX1.out.1.ext hx) (BX1.out.2.ext hx))
      replace BX2 := Lib.hid (And.intro (BX2.out.1.ext hx) (BX2.out.2.ext hx))
      replace BX3 := Lib.hid (And.intro (BX3.out.1.ext hx) (BX3.out.2.ext hx))
      replace BX4 := Lib.hid (And.intro (BX4.out.1.ext hx) (BX4.out.2.ext hx))
      replace BX5 := Lib.hid (And.intro (BX5.out.1.ext hx) (BX5.out.2.ext hx))
      replace BX7 := Lib.hid (And.intro (BX7.out.1.ext hx) (BX7.out.2.ext hx))
      clear hx hd
      have k5_0 := BX5.out.1.c0
      have k5_1 := BX5.out.1.c1
      have k5_2 := BX5.out.1.c2
      have k5_3 := BX5.out.1.lt
      have f5_0 := BX5.out.1.frozen 0
      have f5_1 := BX5.out.1.frozen 1
      have f5_2 := BX5.out.1.frozen 2
      go_wp2_with (fail)
      have HW : Hid (Ext w (((w16.setCell ⟨w8.heap.size, 0, none⟩ (.bool n8)).setCell ⟨w8.heap.size, 1, none⟩ (.slice p8 l8 c8)).setCell ⟨w8.heap.size, 2, none⟩ (.int .i64 E8)) ∧ Dy (((w16.setCell ⟨w8.heap.size, 0, none⟩ (.bool n8)).setCell ⟨w8.heap.size, 1, none⟩ (.slice p8 l8 c8)).setCell ⟨w8.heap.size, 2, none⟩ (.int .i64 E8)) (.agg #[.bool n8, .slice p8 l8 c8, .int .i64 E8]) (r - val b) (-1074) ∧ (((w16.setCell ⟨w8.heap.size, 0, none⟩ (.bool n8)).setCell ⟨w8.heap.size, 1, none⟩ (.slice p8 l8 c8)).setCell ⟨w8.heap.size, 2, none⟩ (.int .i64 E8)).cell? ⟨w8.heap.size, 0, none⟩ = some (.bool n8) ∧ (((w16.setCell ⟨w8.heap.size, 0, none⟩ (.bool n8)).setCell ⟨w8.heap.size, 1, none⟩ (.slice p8 l8 c8)).setCell ⟨w8.heap.size, 2, none⟩ (.int .i64 E8)).cell? ⟨w8.heap.size, 1, none⟩ = some (.slice p8 l8 c8) ∧ (((w16.setCell ⟨w8.heap.size, 0, none⟩ (.bool n8)).setCell ⟨w8.heap.size, 1, none⟩ (.slice p8 l8 c8)).setCell ⟨w8.heap.size, 2, none⟩ (.int .i64 E8)).cell? ⟨w8.heap.size, 2, none⟩ = some (.int .i64 E8)) := ⟨HE.out.set3 hsz5 _ _ _, DY8.out.setBx BX5.out.1 ⟨_, _, _, rfl⟩ _ _ _, by simp [go_sem, k5_0, k5_1, k5_2], by simp [go_sem, k5_0, k5_1, k5_2], by simp [go_sem, k5_0, k5_1, k5_2]⟩
      clear k5_0 k5_1 k5_2 k5_3 f5_0 f5_1 f5_2 HE DY8 BX1 BX2 BX3 BX4 BX5 BX7
      generalize (((w16.setCell ⟨w8.heap.size, 0, none⟩ (.bool n8)).setCell ⟨w8.heap.size, 1, none⟩ (.slice p8 l8 c8)).setCell ⟨w8.heap.size, 2, none⟩ (.int .i64 E8)) = w17 at *
      refine (HSg.out (r - val b) (-1074) _ _ HW.out.2.1).mono ?_
      rintro en w18 ⟨rfl, hx⟩
      have k0 := hx.cell_some HW.out.2.2.1
      have k1 := hx.cell_some HW.out.2.2.2.1
      have k2 := hx.cell_some HW.out.2.2.2.2
      have HX := Lib.hid (And.intro (HW.out.1.trans hx) (HW.out.2.1.ext hx))
      clear hx
      by_cases hz : r - val b = 0
      · rw [show sgnI (r - val b) = 0 by rw [hz]; rfl]
        have HR0 := Lib.hid (HZero.out (by rw [HRS.out]; exact hz))
        clear hz
        go_wp2_with (fail)
        refine (HCp.out _).mono ?_
        rintro en wn ⟨rfl, rfl⟩
        go_wp2_with (fail)
        go_ret
        exact ⟨by rw [HR0.out]; rfl, HX.out.1⟩
      · have ts : (sgnI (r - val b) == 0) = false := by unfold sgnI; split <;> simp_all
        have HT5 := Lib.hid (HTo.out _ _ (by rw [HRS.out]; exact hz) (by rw [HRS.out]; exact HX.out.2))
        clear hz
        go_wp2_with (fail)
        refine HT5.out.mono ?_
        rintro en w19 ⟨rfl, hx⟩
        have H17 := Lib.hid (HX.out.1.trans hx)
        clear hx
        go_wp2_with (fail)
        go_ret
        exact ⟨rfl, H17.out⟩
  · by_cases hqo : q.natAbs % 2 = 1
    · skip
      have tq : (sgnI q != 0) = true := by unfold sgnI; split <;> simp_all
      have te : (E3 == 0) = true := by rw [HOdd.out hq0]; simp [hqo]
      rcases Nat.lt_trichotomy (2 * r.natAbs) (val b).natAbs with g | g | g
      · have hcz : cz = -1 := by rw [HCZ.out, if_pos g]
        have hD : ¬ ((val b).natAbs < 2 * r.natAbs ∨ (2 * r.natAbs = (val b).natAbs ∧ q.natAbs % 2 = 1)) := by omega
        clear g hq0 hqo
        subst hcz
        have hRS : RS = r := HD2.out hD
        have HRS := Lib.hid hRS
        clear hRS hD
        have k3_0 := BX3.out.1.c0
        have k3_1 := BX3.out.1.c1
        have k3_2 := BX3.out.1.c2
        have k3_3 := BX3.out.1.lt
        go_wp2_with (fail)
        clear k3_0 k3_1 k3_2 k3_3
        refine (HSg.out q 0 _ _ BX3.out.2).mono ?_
        rintro en w15 ⟨rfl, hx⟩
        replace HE := Lib.hid (HE.out.trans hx)
        replace BX1 := Lib.hid (And.intro (BX1.out.1.ext hx) (BX1.out.2.ext hx))
        replace BX2 := Lib.hid (And.intro (BX2.out.1.ext hx) (BX2.out.2.ext hx))
        replace BX3 := Lib.hid (And.intro (BX3.out.1.ext hx) (BX3.out.2.ext hx))
        replace BX4 := Lib.hid (And.intro (BX4.out.1.ext hx) (BX4.out.2.ext hx))
        replace BX5 := Lib.hid (And.intro (BX5.out.1.ext hx) (BX5.out.2.ext hx))
        replace BX7 := Lib.hid (And.intro (BX7.out.1.ext hx) (BX7.out.2.ext hx))
        clear hx
        have k2_0 := BX2.out.1.c0
        have k2_1 := BX2.out.1.c1
        have k2_2 := BX2.out.1.c2
        have k2_3 := BX2.out.1.lt
        have k3_0 := BX3.out.1.c0
        have k3_1 := BX3.out.1.c1
        have k3_2 := BX3.out.1.c2
        have k3_3 := BX3.out.1.lt
        have k5_0 := BX5.out.1.c0
        have k5_1 := BX5.out.1.c1
        have k5_2 := BX5.out.1.c2
        have k5_3 := BX5.out.1.lt
        go_wp2_with (fail)
        clear k2_0 k2_1 k2_2 k2_3 k3_0 k3_1 k3_2 k3_3 k5_0 k5_1 k5_2 k5_3
        refine (HSg.out r (-1074) _ _ BX5.out.2).mono ?_
        rintro en w16 ⟨rfl, hx⟩
        replace HE := Lib.hid (HE.out.trans hx)
        replace BX1 := Lib.hid (And.intro (BX1.out.1.ext hx) (BX1.out.2.ext hx))
        replace BX2 := Lib.hid (And.intro (BX2.out.1.ext hx) (BX2.out.2.ext hx))
        replace BX3 := Lib.hid (And.intro (BX3.out.1.ext hx) (BX3.out.2.ext hx))
        replace BX4 := Lib.hid (And.intro (BX4.out.1.ext hx) (BX4.out.2.ext hx))
        replace BX5 := Lib.hid (And.intro (BX5.out.1.ext hx) (BX5.out.2.ext hx))
        replace BX7 := Lib.hid (And.intro (BX7.out.1.ext hx) (BX7.out.2.ext hx))
        clear hx
        have k5_0 := BX5.out.1.c0
        have k5_1 := BX5.out.1.c1
        have k5_2 := BX5.out.1.c2
        have k5_3 := BX5.out.1.lt
        by_cases hz : r = 0
        · rw [show sgnI r = 0 by rw [hz]; rfl]
          have HR0 := Lib.hid (HZero.out (by rw [HRS.out]; exact hz))
          clear hz
          go_wp2_with (fail)
          refine (HCp.out _).mono ?_
          rintro en wn ⟨rfl, rfl⟩
          go_wp2_with (fail)
          go_ret
          exact ⟨by rw [HR0.out]; rfl, HE.out⟩
        · have ts : (sgnI r == 0) = false := by unfold sgnI; split <;> simp_all
          have HT5 := Lib.hid (HTo.out _ _ (by rw [HRS.out]; exact hz) (by rw [HRS.out]; exact BX5.out.2))
          clear hz
          go_wp2_with (fail)
          refine HT5.out.mono ?_
          rintro en w17 ⟨rfl, hx⟩
          have H17 := Lib.hid (HE.out.trans hx)
          clear hx
          go_wp2_with (fail)
          go_ret
          exact ⟨rfl, H17.out⟩
      · have hcz : cz = 0 := by rw [HCZ.out, if_neg (by omega), if_pos g]
        have hD : (val b).natAbs < 2 * r.natAbs ∨ (2 * r.natAbs = (val b).natAbs ∧ q.natAbs % 2 = 1) := by omega
        clear g hq0 hqo
        subst hcz
        have hRS : RS = r - val b := HD1.out hD
        have HRS := Lib.hid hRS
        clear hRS hD
        have k3_0 := BX3.out.1.c0
        have k3_1 := BX3.out.1.c1
        have k3_2 := BX3.out.1.c2
        have k3_3 := BX3.out.1.lt
        go_wp2_with (fail)
        clear k3_0 k3_1 k3_2 k3_3
        refine (HSg.out q 0 _ _ BX3.out.2).mono ?_
        rintro en w15 ⟨rfl, hx⟩
        replace HE := Lib.hid (HE.out.trans hx)
        replace BX1 := Lib.hid (And.intro (BX1.out.1.ext hx) (BX1.out.2.ext hx))
        replace BX2 := Lib.hid (And.intro (BX2.out.1.ext hx) (BX2.out.2.ext hx))
        replace BX3 := Lib.hid (And.intro (BX3.out.1.ext hx) (BX3.out.2.ext hx))
        replace BX4 := Lib.hid (And.intro (BX4.out.1.ext hx) (BX4.out.2.ext hx))
        replace BX5 := Lib.hid (And.intro (BX5.out.1.ext hx) (BX5.out.2.ext hx))
        replace BX7 := Lib.hid (And.intro (BX7.out.1.ext hx) (BX7.out.2.ext hx))
        clear hx
        have k2_0 := BX2.out.1.c0
        have k2_1 := BX2.out.1.c1
        have k2_2 := BX2.out.1.c2
        have k2_3 := BX2.out.1.lt
        have k3_0 := BX3.out.1.c0
        have k3_1 := BX3.out.1.c1
        have k3_2 := BX3.out.1.c2
        have k3_3 := BX3.out.1.lt
        have k5_0 := BX5.out.1.c0
        have k5_1 := BX5.out.1.c1
        have k5_2 := BX5.out.1.c2
        have k5_3 := BX5.out.1.lt
        go_wp2_with (fail)
        refine (HSub2.out _ _ _ HE.out BX5.out.2 BX2.out.2).mono ?_
        rintro en w16 ⟨v, rfl, hx, hd⟩
        clear k2_0 k2_1 k2_2 k2_3 k3_0 k3_1 k3_2 k3_3 k5_0 k5_1 k5_2 k5_3
        obtain ⟨n8, s8, E8, rfl⟩ := hd.form
        obtain ⟨p8, l8, c8, rfl⟩ := hd.sl
        have DY8 := Lib.hid hd
        replace HE := Lib.hid (HE.out.trans hx)
        replace BX1 := Lib.hid (And.intro (BX1.out.1.ext hx) (BX1.out.2.ext hx))
        replace BX2 := Lib.hid (And.intro (BX2.out.1.ext hx) (BX2.out.2.ext hx))
        replace BX3 := Lib.hid (And.intro (BX3.out.1.ext hx) (BX3.out.2.ext hx))
        replace BX4 := Lib.hid (And.intro (BX4.out.1.ext hx) (BX4.out.2.ext hx))
        replace BX5 := Lib.hid (And.intro (BX5.out.1.ext hx) (BX5.out.2.ext hx))
        replace BX7 := Lib.hid (And.intro (BX7.out.1.ext hx) (BX7.out.2.ext hx))
        clear hx hd
        have k5_0 := BX5.out.1.c0
        have k5_1 := BX5.out.1.c1
        have k5_2 := BX5.out.1.c2
        have k5_3 := BX5.out.1.lt
        have f5_0 := BX5.out.1.frozen 0
        have f5_1 := BX5.out.1.frozen 1
        have f5_2 := BX5.out.1.frozen 2
        go_wp2_with (fail)
        have HW : Hid (Ext w (((w16.setCell ⟨w8.heap.size, 0, none⟩ (.bool n8)).setCell ⟨w8.heap.size, 1, none⟩ (.slice p8 l8 c8)).setCell ⟨w8.heap.size, 2, none⟩ (.int .i64 E8)) ∧ Dy (((w16.setCell ⟨w8.heap.size, 0, none⟩ (.bool n8)).setCell ⟨w8.heap.size, 1, none⟩ (.slice p8 l8 c8)).setCell ⟨w8.heap.size, 2, none⟩ (.int .i64 E8)) (.agg #[.bool n8, .slice p8 l8 c8, .int .i64 E8]) (r - val b) (-1074) ∧ (((w16.setCell ⟨w8.heap.size, 0, none⟩ (.bool n8)).setCell ⟨w8.heap.size, 1, none⟩ (.slice p8 l8 c8)).setCell ⟨w8.heap.size, 2, none⟩ (.int .i64 E8)).cell? ⟨w8.heap.size, 0, none⟩ = some (.bool n8) ∧ (((w16.setCell ⟨w8.heap.size, 0, none⟩ (.bool n8)).setCell ⟨w8.heap.size, 1, none⟩ (.slice p8 l8 c8)).setCell ⟨w8.heap.size, 2, none⟩ (.int .i64 E8)).cell? ⟨w8.heap.size, 1, none⟩ = some (.slice p8 l8 c8) ∧ (((w16.setCell ⟨w8.heap.size, 0, none⟩ (.bool n8)).setCell ⟨w8.heap.size, 1, none⟩ (.slice p8 l8 c8)).setCell ⟨w8.heap.size, 2, none⟩ (.int .i64 E8)).cell? ⟨w8.heap.size, 2, none⟩ = some (.int .i64 E8)) := ⟨HE.out.set3 hsz5 _ _ _, DY8.out.setBx BX5.out.1 ⟨_, _, _, rfl⟩ _ _ _, by simp [go_sem, k5_0, k5_1, k5_2], by simp [go_sem, k5_0, k5_1, k5_2], by simp [go_sem, k5_0, k5_1, k5_2]⟩
        clear k5_0 k5_1 k5_2 k5_3 f5_0 f5_1 f5_2 HE DY8 BX1 BX2 BX3 BX4 BX5 BX7
        generalize (((w16.setCell ⟨w8.heap.size, 0, none⟩ (.bool n8)).setCell ⟨w8.heap.size, 1, none⟩ (.slice p8 l8 c8)).setCell ⟨w8.heap.size, 2, none⟩ (.int .i64 E8)) = w17 at *
        refine (HSg.out (r - val b) (-1074) _ _ HW.out.2.1).mono ?_
        rintro en w18 ⟨rfl, hx⟩
        have k0 := hx.cell_some HW.out.2.2.1
        have k1 := hx.cell_some HW.out.2.2.2.1
        have k2 := hx.cell_some HW.out.2.2.2.2
        have HX := Lib.hid (And.intro (HW.out.1.trans hx) (HW.out.2.1.ext hx))
        clear hx
        by_cases hz : r - val b = 0
        · rw [show sgnI (r - val b) = 0 by rw [hz]; rfl]
          have HR0 := Lib.hid (HZero.out (by rw [HRS.out]; exact hz))
          clear hz
          go_wp2_with (fail)
          refine (HCp.out _).mono ?_
          rintro en wn ⟨rfl, rfl⟩
          go_wp2_with (fail)
          go_ret
          exact ⟨by rw [HR0.out]; rfl, HX.out.1⟩
        · have ts : (sgnI (r - val b) == 0) = false := by unfold sgnI; split <;> simp_all
          have HT5 := Lib.hid (HTo.out _ _ (by rw [HRS.out]; exact hz) (by rw [HRS.out]; exact HX.out.2))
          clear hz
          go_wp2_with (fail)
          refine HT5.out.mono ?_
          rintro en w19 ⟨rfl, hx⟩
          have H17 := Lib.hid (HX.out.1.trans hx)
          clear hx
          go_wp2_with (fail)
          go_ret
          exact ⟨rfl, H17.out⟩
      · have hcz : cz = 1 := by rw [HCZ.out, if_neg (by omega), if_neg (by omega)]
        have hD : (val b).natAbs < 2 * r.natAbs ∨ (2 * r.natAbs = (val b).natAbs ∧ q.natAbs % 2 = 1) := by omega
        clear g hq0 hqo
        subst hcz
        have hRS : RS = r - val b := HD1.out hD
        have HRS := Lib.hid hRS
        clear hRS hD
        have k3_0 := BX3.out.1.c0
        have k3_1 := BX3.out.1.c1
        have k3_2 := BX3.out.1.c2
        have k3_3 := BX3.out.1.lt
        go_wp2_with (fail)
        clear k3_0 k3_1 k3_2 k3_3
        refine (HSg.out q 0 _ _ BX3.out.2).mono ?_
        rintro en w15 ⟨rfl, hx⟩
        replace HE := Lib.hid (HE.out.trans hx)
        replace BX1 := Lib.hid (And.intro (BX1.out.1.ext hx) (BX1.out.2.ext hx))
        replace BX2 := Lib.hid (And.intro (BX2.out.1.ext hx) (BX2.out.2.ext hx))
        replace BX3 := Lib.hid (And.intro (BX3.out.1.ext hx) (BX3.out.2.ext hx))
        replace BX4 := Lib.hid (And.intro (BX4.out.1.ext hx) (BX4.out.2.ext hx))
        replace BX5 := Lib.hid (And.intro (BX5.out.1.ext hx) (BX5.out.2.ext hx))
        replace BX7 := Lib.hid (And.intro (BX7.out.1.ext hx) (BX7.out.2.ext hx))
        clear hx
        have k2_0 := BX2.out.1.c0
        have k2_1 := BX2.out.1.c1
        have k2_2 := BX2.out.1.c2
        have k2_3 := BX2.out.1.lt
        have k3_0 := BX3.out.1.c0
        have k3_1 := BX3.out.1.c1
        have k3_2 := BX3.out.1.c2
        have k3_3 := BX3.out.1.lt
        have k5_0 := BX5.out.1.c0
        have k5_1 := BX5.out.1.c1
        have k5_2 := BX5.out.1.c2
        have k5_3 := BX5.out.1.lt
        go_wp2_with (fail)
        refine (HSub2.out _ _ _ HE.out BX5.out.2 BX2.out.2).mono ?_
        rintro en w16 ⟨v, rfl, hx, hd⟩
        clear k2_0 k2_1 k2_2 k2_3 k3_0 k3_1 k3_2 k3_3 k5_0 k5_1 k5_2 k5_3
        obtain ⟨n8, s8, E8, rfl⟩ := hd.form
        obtain ⟨p8, l8, c8, rfl⟩ := hd.sl
        have DY8 := Lib.hid hd
        replace HE := Lib.hid (HE.out.trans hx)
        replace BX1 := Lib.hid (And.intro (BX1.out.1.ext hx) (BX1.out.2.ext hx))
        replace BX2 := Lib.hid (And.intro (BX2.out.1.ext hx) (BX2.out.2.ext hx))
        replace BX3 := Lib.hid (And.intro (BX3.out.1.ext hx) (BX3.out.2.ext hx))
        replace BX4 := Lib.hid (And.intro (BX4.out.1.ext hx) (BX4.out.2.ext hx))
        replace BX5 := Lib.hid (And.intro (BX5.out.1.ext hx) (BX5.out.2.ext hx))
        replace BX7 := Lib.hid (And.intro (BX7.out.1.ext hx) (BX7.out.2.ext hx))
        clear hx hd
        have k5_0 := BX5.out.1.c0
        have k5_1 := BX5.out.1.c1
        have k5_2 := BX5.out.1.c2
        have k5_3 := BX5.out.1.lt
        have f5_0 := BX5.out.1.frozen 0
        have f5_1 := BX5.out.1.frozen 1
        have f5_2 := BX5.out.1.frozen 2
        go_wp2_with (fail)
        have HW : Hid (Ext w (((w16.setCell ⟨w8.heap.size, 0, none⟩ (.bool n8)).setCell ⟨w8.heap.size, 1, none⟩ (.slice p8 l8 c8)).setCell ⟨w8.heap.size, 2, none⟩ (.int .i64 E8)) ∧ Dy (((w16.setCell ⟨w8.heap.size, 0, none⟩ (.bool n8)).setCell ⟨w8.heap.size, 1, none⟩ (.slice p8 l8 c8)).setCell ⟨w8.heap.size, 2, none⟩ (.int .i64 E8)) (.agg #[.bool n8, .slice p8 l8 c8, .int .i64 E8]) (r - val b) (-1074) ∧ (((w16.setCell ⟨w8.heap.size, 0, none⟩ (.bool n8)).setCell ⟨w8.heap.size, 1, none⟩ (.slice p8 l8 c8)).setCell ⟨w8.heap.size, 2, none⟩ (.int .i64 E8)).cell? ⟨w8.heap.size, 0, none⟩ = some (.bool n8) ∧ (((w16.setCell ⟨w8.heap.size, 0, none⟩ (.bool n8)).setCell ⟨w8.heap.size, 1, none⟩ (.slice p8 l8 c8)).setCell ⟨w8.heap.size, 2, none⟩ (.int .i64 E8)).cell? ⟨w8.heap.size, 1, none⟩ = some (.slice p8 l8 c8) ∧ (((w16.setCell ⟨w8.heap.size, 0, none⟩ (.bool n8)).setCell ⟨w8.heap.size, 1, none⟩ (.slice p8 l8 c8)).setCell ⟨w8.heap.size, 2, none⟩ (.int .i64 E8)).cell? ⟨w8.heap.size, 2, none⟩ = some (.int .i64 E8)) := ⟨HE.out.set3 hsz5 _ _ _, DY8.out.setBx BX5.out.1 ⟨_, _, _, rfl⟩ _ _ _, by simp [go_sem, k5_0, k5_1, k5_2], by simp [go_sem, k5_0, k5_1, k5_2], by simp [go_sem, k5_0, k5_1, k5_2]⟩
        clear k5_0 k5_1 k5_2 k5_3 f5_0 f5_1 f5_2 HE DY8 BX1 BX2 BX3 BX4 BX5 BX7
        generalize (((w16.setCell ⟨w8.heap.size, 0, none⟩ (.bool n8)).setCell ⟨w8.heap.size, 1, none⟩ (.slice p8 l8 c8)).setCell ⟨w8.heap.size, 2, none⟩ (.int .i64 E8)) = w17 at *
        refine (HSg.out (r - val b) (-1074) _ _ HW.out.2.1).mono ?_
        rintro en w18 ⟨rfl, hx⟩
        have k0 := hx.cell_some HW.out.2.2.1
        have k1 := hx.cell_some HW.out.2.2.2.1
        have k2 := hx.cell_some HW.out.2.2.2.2
        have HX := Lib.hid (And.intro (HW.out.1.trans hx) (HW.out.2.1.ext hx))
        clear hx
        by_cases hz : r - val b = 0
        · rw [show sgnI (r - val b) = 0 by rw [hz]; rfl]
          have HR0 := Lib.hid (HZero.out (by rw [HRS.out]; exact hz))
          clear hz
          go_wp2_with (fail)
          refine (HCp.out _).mono ?_
          rintro en wn ⟨rfl, rfl⟩
          go_wp2_with (fail)
          go_ret
          exact ⟨by rw [HR0.out]; rfl, HX.out.1⟩
        · have ts : (sgnI (r - val b) == 0) = false := by unfold sgnI; split <;> simp_all
          have HT5 := Lib.hid (HTo.out _ _ (by rw [HRS.out]; exact hz) (by rw [HRS.out]; exact HX.out.2))
          clear hz
          go_wp2_with (fail)
          refine HT5.out.mono ?_
          rintro en w19 ⟨rfl, hx⟩
          have H17 := Lib.hid (HX.out.1.trans hx)
          clear hx
          go_wp2_with (fail)
          go_ret
          exact ⟨rfl, H17.out⟩
    · skip
      have tq : (sgnI q != 0) = true := by unfold sgnI; split <;> simp_all
      have te : (E3 == 0) = false := by rw [HOdd.out hq0]; simp [hqo]
      rcases Nat.lt_trichotomy (2 * r.natAbs) (val b).natAbs with g | g | g
      · have hcz : cz = -1 := by rw [HCZ.out, if_pos g]
        have hD : ¬ ((val b).natAbs < 2 * r.natAbs ∨ (2 * r.natAbs = (val b).natAbs ∧ q.natAbs % 2 = 1)) := by omega
        clear g hq0 hqo
        subst hcz
        have hRS : RS = r := HD2.out hD
        have HRS := Lib.hid hRS
        clear hRS hD
        have k3_0 := BX3.out.1.c0
        have k3_1 := BX3.out.1.c1
        have k3_2 := BX3.out.1.c2
        have k3_3 := BX3.out.1.lt
        go_wp2_with (fail)
        clear k3_0 k3_1 k3_2 k3_3
        refine (HSg.out q 0 _ _ BX3.out.2).mono ?_
        rintro en w15 ⟨rfl, hx⟩
        replace HE := Lib.hid (HE.out.trans hx)
        replace BX1 := Lib.hid (And.intro (BX1.out.1.ext hx) (BX1.out.2.ext hx))
        replace BX2 := Lib.hid (And.intro (BX2.out.1.ext hx) (BX2.out.2.ext hx))
        replace BX3 := Lib.hid (And.intro (BX3.out.1.ext hx) (BX3.out.2.ext hx))
        replace BX4 := Lib.hid (And.intro (BX4.out.1.ext hx) (BX4.out.2.ext hx))
        replace BX5 := Lib.hid (And.intro (BX5.out.1.ext hx) (BX5.out.2.ext hx))
        replace BX7 := Lib.hid (And.intro (BX7.out.1.ext hx) (BX7.out.2.ext hx))
        clear hx
        have k2_0 := BX2.out.1.c0
        have k2_1 := BX2.out.1.c1
        have k2_2 := BX2.out.1.c2
        have k2_3 := BX2.out.1.lt
        have k3_0 := BX3.out.1.c0
        have k3_1 := BX3.out.1.c1
        have k3_2 := BX3.out.1.c2
        have k3_3 := BX3.out.1.lt
        have k5_0 := BX5.out.1.c0
        have k5_1 := BX5.out.1.c1
        have k5_2 := BX5.out.1.c2
        have k5_3 := BX5.out.1.lt
        go_wp2_with (fail)
        clear k2_0 k2_1 k2_2 k2_3 k3_0 k3_1 k3_2 k3_3 k5_0 k5_1 k5_2 k5_3
        refine (HSg.out r (-1074) _ _ BX5.out.2).mono ?_
        rintro en w16 ⟨rfl, hx⟩
        replace HE := Lib.hid (HE.out.trans hx)
        replace BX1 := Lib.hid (And.intro (BX1.out.1.ext hx) (BX1.out.2.ext hx))
        replace BX2 := Lib.hid (And.intro (BX2.out.1.ext hx) (BX2.out.2.ext hx))
        replace BX3 := Lib.hid (And.intro (BX3.out.1.ext hx) (BX3.out.2.ext hx))
        replace BX4 := Lib.hid (And.intro (BX4.out.1.ext hx) (BX4.out.2.ext hx))
        replace BX5 := Lib.hid (And.intro (BX5.out.1.ext hx) (BX5.out.2.ext hx))
        replace BX7 := Lib.hid (And.intro (BX7.out.1.ext hx) (BX7.out.2.ext hx))
        clear hx
        have k5_0 := BX5.out.1.c0
        have k5_1 := BX5.out.1.c1
        have k5_2 := BX5.out.1.c2
        have k5_3 := BX5.out.1.lt
        by_cases hz : r = 0
        · rw [show sgnI r = 0 by rw [hz]; rfl]
          have HR0 := Lib.hid (HZero.out (by rw [HRS.out]; exact hz))
          clear hz
          go_wp2_with (fail)
          refine (HCp.out _).mono ?_
          rintro en wn ⟨rfl, rfl⟩
          go_wp2_with (fail)
          go_ret
          exact ⟨by rw [HR0.out]; rfl, HE.out⟩
        · have ts : (sgnI r == 0) = false := by unfold sgnI; split <;> simp_all
          have HT5 := Lib.hid (HTo.out _ _ (by rw [HRS.out]; exact hz) (by rw [HRS.out]; exact BX5.out.2))
          clear hz
          go_wp2_with (fail)
          refine HT5.out.mono ?_
          rintro en w17 ⟨rfl, hx⟩
          have H17 := Lib.hid (HE.out.trans hx)
          clear hx
          go_wp2_with (fail)
          go_ret
          exact ⟨rfl, H17.out⟩
      · have hcz : cz = 0 := by rw [HCZ.out, if_neg (by omega), if_pos g]
        have hD : ¬ ((val b).natAbs < 2 * r.natAbs ∨ (2 * r.natAbs = (val b).natAbs ∧ q.natAbs % 2 = 1)) := by omega
        clear g hq0 hqo
        subst hcz
        have hRS : RS = r := HD2.out hD
        have HRS := Lib.hid hRS
        clear hRS hD
        have k3_0 := BX3.out.1.c0
        have k3_1 := BX3.out.1.c1
        have k3_2 := BX3.out.1.c2
        have k3_3 := BX3.out.1.lt
        go_wp2_with (fail)
        clear k3_0 k3_1 k3_2 k3_3
        refine (HSg.out q 0 _ _ BX3.out.2).mono ?_
        rintro en w15 ⟨rfl, hx⟩
        replace HE := Lib.hid (HE.out.trans hx)
        replace BX1 := Lib.hid (And.intro (BX1.out.1.ext hx) (BX1.out.2.ext hx))
        replace BX2 := Lib.hid (And.intro (BX2.out.1.ext hx) (BX2.out.2.ext hx))
        replace BX3 := Lib.hid (And.intro (BX3.out.1.ext hx) (BX3.out.2.ext hx))
        replace BX4 := Lib.hid (And.intro (BX4.out.1.ext hx) (BX4.out.2.ext hx))
        replace BX5 := Lib.hid (And.intro (BX5.out.1.ext hx) (BX5.out.2.ext hx))
        replace BX7 := Lib.hid (And.intro (BX7.out.1.ext hx) (BX7.out.2.ext hx))
        clear hx
        have k2_0 := BX2.out.1.c0
        have k2_1 := BX2.out.1.c1
        have k2_2 := BX2.out.1.c2
        have k2_3 := BX2.out.1.lt
        have k3_0 := BX3.out.1.c0
        have k3_1 := BX3.out.1.c1
        have k3_2 := BX3.out.1.c2
        have k3_3 := BX3.out.1.lt
        have k5_0 := BX5.out.1.c0
        have k5_1 := BX5.out.1.c1
        have k5_2 := BX5.out.1.c2
        have k5_3 := BX5.out.1.lt
        go_wp2_with (fail)
        clear k2_0 k2_1 k2_2 k2_3 k3_0 k3_1 k3_2 k3_3 k5_0 k5_1 k5_2 k5_3
        refine (HSg.out r (-1074) _ _ BX5.out.2).mono ?_
        rintro en w16 ⟨rfl, hx⟩
        replace HE := Lib.hid (HE.out.trans hx)
        replace BX1 := Lib.hid (And.intro (BX1.out.1.ext hx) (BX1.out.2.ext hx))
        replace BX2 := Lib.hid (And.intro (BX2.out.1.ext hx) (BX2.out.2.ext hx))
        replace BX3 := Lib.hid (And.intro (BX3.out.1.ext hx) (BX3.out.2.ext hx))
        replace BX4 := Lib.hid (And.intro (BX4.out.1.ext hx) (BX4.out.2.ext hx))
        replace BX5 := Lib.hid (And.intro (BX5.out.1.ext hx) (BX5.out.2.ext hx))
        replace BX7 := Lib.hid (And.intro (BX7.out.1.ext hx) (BX7.out.2.ext hx))
        clear hx
        have k5_0 := BX5.out.1.c0
        have k5_1 := BX5.out.1.c1
        have k5_2 := BX5.out.1.c2
        have k5_3 := BX5.out.1.lt
        by_cases hz : r = 0
        · rw [show sgnI r = 0 by rw [hz]; rfl]
          have HR0 := Lib.hid (HZero.out (by rw [HRS.out]; exact hz))
          clear hz
          go_wp2_with (fail)
          refine (HCp.out _).mono ?_
          rintro en wn ⟨rfl, rfl⟩
          go_wp2_with (fail)
          go_ret
          exact ⟨by rw [HR0.out]; rfl, HE.out⟩
        · have ts : (sgnI r == 0) = false := by unfold sgnI; split <;> simp_all
          have HT5 := Lib.hid (HTo.out _ _ (by rw [HRS.out]; exact hz) (by rw [HRS.out]; exact BX5.out.2))
          clear hz
          go_wp2_with (fail)
          refine HT5.out.mono ?_
          rintro en w17 ⟨rfl, hx⟩
          have H17 := Lib.hid (HE.out.trans hx)
          clear hx
          go_wp2_with (fail)
          go_ret
          exact ⟨rfl, H17.out⟩
      · have hcz : cz = 1 := by rw [HCZ.out, if_neg (by omega), if_neg (by omega)]
        have hD : (val b).natAbs < 2 * r.natAbs ∨ (2 * r.natAbs = (val b).natAbs ∧ q.natAbs % 2 = 1) := by omega
        clear g hq0 hqo
        subst hcz
        have hRS : RS = r - val b := HD1.out hD
        have HRS := Lib.hid hRS
        clear hRS hD
        have k3_0 := BX3.out.1.c0
        have k3_1 := BX3.out.1.c1
        have k3_2 := BX3.out.1.c2
        have k3_3 := BX3.out.1.lt
        go_wp2_with (fail)
        clear k3_0 k3_1 k3_2 k3_3
        refine (HSg.out q 0 _ _ BX3.out.2).mono ?_
        rintro en w15 ⟨rfl, hx⟩
        replace HE := Lib.hid (HE.out.trans hx)
        replace BX1 := Lib.hid (And.intro (BX1.out.1.ext hx) (BX1.out.2.ext hx))
        replace BX2 := Lib.hid (And.intro (BX2.out.1.ext hx) (BX2.out.2.ext hx))
        replace BX3 := Lib.hid (And.intro (BX3.out.1.ext hx) (BX3.out.2.ext hx))
        replace BX4 := Lib.hid (And.intro (BX4.out.1.ext hx) (BX4.out.2.ext hx))
        replace BX5 := Lib.hid (And.intro (BX5.out.1.ext hx) (BX5.out.2.ext hx))
        replace BX7 := Lib.hid (And.intro (BX7.out.1.ext hx) (BX7.out.2.ext hx))
        clear hx
        have k2_0 := BX2.out.1.c0
        have k2_1 := BX2.out.1.c1
        have k2_2 := BX2.out.1.c2
        have k2_3 := BX2.out.1.lt
        have k3_0 := BX3.out.1.c0
        have k3_1 := BX3.out.1.c1
        have k3_2 := BX3.out.1.c2
        have k3_3 := BX3.out.1.lt
        have k5_0 := BX5.out.1.c0
        have k5_1 := BX5.out.1.c1
        have k5_2 := BX5.out.1.c2
        have k5_3 := BX5.out.1.lt
        go_wp2_with (fail)
        refine (HSub2.out _ _ _ HE.out BX5.out.2 BX2.out.2).mono ?_
        rintro en w16 ⟨v, rfl, hx, hd⟩
        clear k2_0 k2_1 k2_2 k2_3 k3_0 k3_1 k3_2 k3_3 k5_0 k5_1 k5_2 k5_3
        obtain ⟨n8, s8, E8, rfl⟩ := hd.form
        obtain ⟨p8, l8, c8, rfl⟩ := hd.sl
        have DY8 := Lib.hid hd
        replace HE := Lib.hid (HE.out.trans hx)
        replace BX1 := Lib.hid (And.intro (BX1.out.1.ext hx) (BX1.out.2.ext hx))
        replace BX2 := Lib.hid (And.intro (BX2.out.1.ext hx) (BX2.out.2.ext hx))
        replace BX3 := Lib.hid (And.intro (BX3.out.1.ext hx) (BX3.out.2.ext hx))
        replace BX4 := Lib.hid (And.intro (BX4.out.1.ext hx) (BX4.out.2.ext hx))
        replace BX5 := Lib.hid (And.intro (BX5.out.1.ext hx) (BX5.out.2.ext hx))
        replace BX7 := Lib.hid (And.intro (BX7.out.1.ext hx) (BX7.out.2.ext hx))
        clear hx hd
        have k5_0 := BX5.out.1.c0
        have k5_1 := BX5.out.1.c1
        have k5_2 := BX5.out.1.c2
        have k5_3 := BX5.out.1.lt
        have f5_0 := BX5.out.1.frozen 0
        have f5_1 := BX5.out.1.frozen 1
        have f5_2 := BX5.out.1.frozen 2
        go_wp2_with (fail)
        have HW : Hid (Ext w (((w16.setCell ⟨w8.heap.size, 0, none⟩ (.bool n8)).setCell ⟨w8.heap.size, 1, none⟩ (.slice p8 l8 c8)).setCell ⟨w8.heap.size, 2, none⟩ (.int .i64 E8)) ∧ Dy (((w16.setCell ⟨w8.heap.size, 0, none⟩ (.bool n8)).setCell ⟨w8.heap.size, 1, none⟩ (.slice p8 l8 c8)).setCell ⟨w8.heap.size, 2, none⟩ (.int .i64 E8)) (.agg #[.bool n8, .slice p8 l8 c8, .int .i64 E8]) (r - val b) (-1074) ∧ (((w16.setCell ⟨w8.heap.size, 0, none⟩ (.bool n8)).setCell ⟨w8.heap.size, 1, none⟩ (.slice p8 l8 c8)).setCell ⟨w8.heap.size, 2, none⟩ (.int .i64 E8)).cell? ⟨w8.heap.size, 0, none⟩ = some (.bool n8) ∧ (((w16.setCell ⟨w8.heap.size, 0, none⟩ (.bool n8)).setCell ⟨w8.heap.size, 1, none⟩ (.slice p8 l8 c8)).setCell ⟨w8.heap.size, 2, none⟩ (.int .i64 E8)).cell? ⟨w8.heap.size, 1, none⟩ = some (.slice p8 l8 c8) ∧ (((w16.setCell ⟨w8.heap.size, 0, none⟩ (.bool n8)).setCell ⟨w8.heap.size, 1, none⟩ (.slice p8 l8 c8)).setCell ⟨w8.heap.size, 2, none⟩ (.int .i64 E8)).cell? ⟨w8.heap.size, 2, none⟩ = some (.int .i64 E8)) := ⟨HE.out.set3 hsz5 _ _ _, DY8.out.setBx BX5.out.1 ⟨_, _, _, rfl⟩ _ _ _, by simp [go_sem, k5_0, k5_1, k5_2], by simp [go_sem, k5_0, k5_1, k5_2], by simp [go_sem, k5_0, k5_1, k5_2]⟩
        clear k5_0 k5_1 k5_2 k5_3 f5_0 f5_1 f5_2 HE DY8 BX1 BX2 BX3 BX4 BX5 BX7
        generalize (((w16.setCell ⟨w8.heap.size, 0, none⟩ (.bool n8)).setCell ⟨w8.heap.size, 1, none⟩ (.slice p8 l8 c8)).setCell ⟨w8.heap.size, 2, none⟩ (.int .i64 E8)) = w17 at *
        refine (HSg.out (r - val b) (-1074) _ _ HW.out.2.1).mono ?_
        rintro en w18 ⟨rfl, hx⟩
        have k0 := hx.cell_some HW.out.2.2.1
        have k1 := hx.cell_some HW.out.2.2.2.1
        have k2 := hx.cell_some HW.out.2.2.2.2
        have HX := Lib.hid (And.intro (HW.out.1.trans hx) (HW.out.2.1.ext hx))
        clear hx
        by_cases hz : r - val b = 0
        · rw [show sgnI (r - val b) = 0 by rw [hz]; rfl]
          have HR0 := Lib.hid (HZero.out (by rw [HRS.out]; exact hz))
          clear hz
          go_wp2_with (fail)
          refine (HCp.out _).mono ?_
          rintro en wn ⟨rfl, rfl⟩
          go_wp2_with (fail)
          go_ret
          exact ⟨by rw [HR0.out]; rfl, HX.out.1⟩
        · have ts : (sgnI (r - val b) == 0) = false := by unfold sgnI; split <;> simp_all
          have HT5 := Lib.hid (HTo.out _ _ (by rw [HRS.out]; exact hz) (by rw [HRS.out]; exact HX.out.2))
          clear hz
          go_wp2_with (fail)
          refine HT5.out.mono ?_
          rintro en w19 ⟨rfl, hx⟩
          have H17 := Lib.hid (HX.out.1.trans hx)
          clear hx
          go_wp2_with (fail)
          go_ret
          exact ⟨rfl, H17.out⟩
end Go.Proofs.YtdpjkddllimcoaaGreatDoor
end

section
/- Rounded arithmetic: what is no number. -/
namespace Fl
theorem nan_feq {a : Nat} (ha : a < 18446744073709551616) (h : nan a = true) : feq a a = false := by
  rw [feq_self (by simpa using ha), h]; rfl
theorem nnan_feq {a : Nat} (ha : a < 18446744073709551616) (h : nan a = false) : feq a a = true := by
  rw [feq_self (by simpa using ha), h]; rfl
end Fl
namespace Go.Proofs.YtdpjkddllimcoaaGreatDoor
open Go.RowKit Fl
theorem r_Add_bad (a b : Nat) (mode : Int) (hm : ¬ (mode = 1 ∨ mode = 2 ∨ mode = 3)) (w : World) :
    Calls Tryz.prog 15 #[.float .f64 a, .float .f64 b, .int .i64 mode] w fun en wn => en = .returned (.float .f64 9221120237041090561) ∧ w = wn := by
  have HVa := Lib.hid (r_valid_not mode w hm)
  clear hm
  go_enter Tryz.func15, Tryz.ntmps15
  go_wp2_with (fail)
  refine HVa.out.mono ?_
  rintro en wn ⟨rfl, rfl⟩
  go_wp2_with (fail)
  refine (m_nan _).mono ?_
  rintro en wn ⟨rfl, rfl⟩
  go_wp2_with (fail)
  go_ret
  exact ⟨rfl, rfl⟩
theorem r_Add_nan (a b : Nat) (mode : Int) (ha : a < 18446744073709551616) (hb : b < 18446744073709551616) (hm : mode = 1 ∨ mode = 2 ∨ mode = 3) (h : nan a = true ∨ nan b = true) (w : World) :
    Calls Tryz.prog 15 #[.float .f64 a, .float .f64 b, .int .i64 mode] w fun en wn => en = .returned (.float .f64 9221120237041090561) ∧ w = wn := by
  have HVa := Lib.hid (r_valid mode w hm)
  clear hm
  cases h1 : nan a
  · have h2 : nan b = true := by simpa [h1] using h
    have t1 := nnan_feq ha h1
    have t2 := nan_feq hb h2
    clear h h1 h2
    go_enter Tryz.func15, Tryz.ntmps15
    go_wp2_with (fail)
    refine HVa.out.mono ?_
    rintro en wn ⟨rfl, rfl⟩
    go_wp2_with (fail)
    refine (m_nan _).mono ?_
    rintro en wn ⟨rfl, rfl⟩
    go_wp2_with (fail)
    go_ret
    exact ⟨rfl, rfl⟩
  · have t1 := nan_feq ha h1
    clear h h1
    go_enter Tryz.func15, Tryz.ntmps15
    go_wp2_with (fail)
    refine HVa.out.mono ?_
    rintro en wn ⟨rfl, rfl⟩
    go_wp2_with (fail)
    refine (m_nan _).mono ?_
    rintro en wn ⟨rfl, rfl⟩
    go_wp2_with (fail)
    go_ret
    exact ⟨rfl, rfl⟩
theorem r_Sqrt_bad (a : Nat) (mode : Int) (hm : ¬ (mode = 1 ∨ mode = 2 ∨ mode = 3)) (w : World) :
    Calls Tryz.prog 25 #[.float .f64 a, .int .i64 mode] w fun en wn => en = .returned (.float .f64 9221120237041090561) ∧ w = wn := by
  have HVa := Lib.hid (r_valid_not mode w hm)
  clear hm
  go_enter Tryz.func25, Tryz.ntmps25
  go_wp2_with (fail)
  refine HVa.out.mono ?_
  rintro en wn ⟨rfl, rfl⟩
  go_wp2_with (fail)
  refine (m_nan _).mono ?_
  rintro en wn ⟨rfl, rfl⟩
  go_wp2_with (fail)
  go_ret
  exact ⟨rfl, rfl⟩
theorem r_Hypot_bad (a b : Nat) (mode : Int) (hm : ¬ (mode = 1 ∨ mode = 2 ∨ mode = 3)) (w : World) :
    Calls Tryz.prog 27 #[.float .f64 a, .float .f64 b, .int .i64 mode] w fun en wn => en = .returned (.float .f64 9221120237041090561) ∧ w = wn := by
  have HVa := Lib.hid (r_valid_not mode w hm)
  clear hm
  go_enter Tryz.func27, Tryz.ntmps27
  go_wp2_with (fail)
  refine HVa.out.mono ?_
  rintro en wn ⟨rfl, rfl⟩
  go_wp2_with (fail)
  refine (m_nan _).mono ?_
  rintro en wn ⟨rfl, rfl⟩
  go_wp2_with (fail)
  go_ret
  exact ⟨rfl, rfl⟩
theorem r_Mul_bad (a b : Nat) (mode : Int) (hm : ¬ (mode = 1 ∨ mode = 2 ∨ mode = 3)) (w : World) :
    Calls Tryz.prog 21 #[.float .f64 a, .float .f64 b, .int .i64 mode] w fun en wn => en = .returned (.float .f64 9221120237041090561) ∧ w = wn := by
  have HVa := Lib.hid (r_valid_not mode w hm)
  clear hm
  go_enter Tryz.func21, Tryz.ntmps21
  go_wp2_with (fail)
  refine HVa.out.mono ?_
  rintro en wn ⟨rfl, rfl⟩
  go_wp2_with (fail)
  refine (m_nan _).mono ?_
  rintro en wn ⟨rfl, rfl⟩
  go_wp2_with (fail)
  go_ret
  exact ⟨rfl, rfl⟩
theorem r_Div_bad (a b : Nat) (mode : Int) (hm : ¬ (mode = 1 ∨ mode = 2 ∨ mode = 3)) (w : World) :
    Calls Tryz.prog 23 #[.float .f64 a, .float .f64 b, .int .i64 mode] w fun en wn => en = .returned (.float .f64 9221120237041090561) ∧ w = wn := by
  have HVa := Lib.hid (r_valid_not mode w hm)
  clear hm
  go_enter Tryz.func23, Tryz.ntmps23
  go_wp2_with (fail)
  refine HVa.out.mono ?_
  rintro en wn ⟨rfl, rfl⟩
  go_wp2_with (fail)
  refine (m_nan _).mono ?_
  rintro en wn ⟨rfl, rfl⟩
  go_wp2_with (fail)
  go_ret
  exact ⟨rfl, rfl⟩
end Go.Proofs.YtdpjkddllimcoaaGreatDoor
end

section
/- Rounded arithmetic: roots at the ends. -/
namespace Go.Proofs.YtdpjkddllimcoaaGreatDoor
open Go.RowKit Fl
theorem r_Sqrt_nan (a : Nat) (mode : Int) (ha : a < 18446744073709551616) (hm : mode = 1 ∨ mode = 2 ∨ mode = 3) (h : nan a = true ∨ flt a 0 = true) (w : World) :
    Calls Tryz.prog 25 #[.float .f64 a, .int .i64 mode] w fun en wn => en = .returned (.float .f64 9221120237041090561) ∧ w = wn := by
  have HVa := Lib.hid (r_valid mode w hm)
  clear hm
  cases h1 : nan a
  · have t1 := nnan_feq ha h1
    have t2 : flt a 0 = true := by simpa [h1] using h
    clear h h1
    go_enter Tryz.func25, Tryz.ntmps25
    go_wp2_with (fail)
    refine HVa.out.mono ?_
    rintro en wn ⟨rfl, rfl⟩
    go_wp2_with (fail)
    refine (m_nan _).mono ?_
    rintro en wn ⟨rfl, rfl⟩
    go_wp2_with (fail)
    go_ret
    exact ⟨rfl, rfl⟩
  · have t1 := nan_feq ha h1
    clear h h1
    go_enter Tryz.func25, Tryz.ntmps25
    go_wp2_with (fail)
    refine HVa.out.mono ?_
    rintro en wn ⟨rfl, rfl⟩
    go_wp2_with (fail)
    refine (m_nan _).mono ?_
    rintro en wn ⟨rfl, rfl⟩
    go_wp2_with (fail)
    go_ret
    exact ⟨rfl, rfl⟩
theorem r_Sqrt_same (a : Nat) (mode : Int) (ha : a < 18446744073709551616) (hm : mode = 1 ∨ mode = 2 ∨ mode = 3) (h1 : nan a = false) (h2 : flt a 0 = false) (h : feq a 0 = true ∨ (feq a 0 = false ∧ mag a = INF)) (w : World) :
    Calls Tryz.prog 25 #[.float .f64 a, .int .i64 mode] w fun en wn => en = .returned (.float .f64 a) ∧ w = wn := by
  have HVa := Lib.hid (r_valid mode w hm)
  have HIa := Lib.hid (r_infinite a ha w)
  have t1 := nnan_feq ha h1
  clear hm h1
  rcases h with h | ⟨h, h3⟩
  · go_enter Tryz.func25, Tryz.ntmps25
    go_wp2_with (fail)
    refine HVa.out.mono ?_
    rintro en wn ⟨rfl, rfl⟩
    go_wp2_with (fail)
    go_ret
    exact ⟨rfl, rfl⟩
  · rw [show decide (mag a = INF) = true by simp [h3]] at HIa
    clear h3
    go_enter Tryz.func25, Tryz.ntmps25
    go_wp2_with (fail)
    refine HVa.out.mono ?_
    rintro en wn ⟨rfl, rfl⟩
    go_wp2_with (fail)
    refine HIa.out.mono ?_
    rintro en wn ⟨rfl, rfl⟩
    go_wp2_with (fail)
    go_ret
    exact ⟨rfl, rfl⟩
theorem r_Hypot_inf (a b : Nat) (mode : Int) (ha : a < 18446744073709551616) (hb : b < 18446744073709551616) (hm : mode = 1 ∨ mode = 2 ∨ mode = 3) (h : mag a = INF ∨ mag b = INF) (w : World) :
    Calls Tryz.prog 27 #[.float .f64 a, .float .f64 b, .int .i64 mode] w fun en wn => en = .returned (.float .f64 9218868437227405312) ∧ w = wn := by
  have HVa := Lib.hid (r_valid mode w hm)
  have HIa := Lib.hid (r_infinite a ha w)
  have HIb := Lib.hid (r_infinite b hb w)
  clear hm
  by_cases h1 : mag a = INF
  · rw [show decide (mag a = INF) = true by simp [h1]] at HIa
    clear h h1
    go_enter Tryz.func27, Tryz.ntmps27
    go_wp2_with (fail)
    refine HVa.out.mono ?_
    rintro en wn ⟨rfl, rfl⟩
    go_wp2_with (fail)
    refine HIa.out.mono ?_
    rintro en wn ⟨rfl, rfl⟩
    go_wp2_with (fail)
    refine (m_inf 1 _).mono ?_
    rintro en wn ⟨rfl, rfl⟩
    go_wp2_with (fail)
    go_ret
    exact ⟨rfl, rfl⟩
  · have h2 : mag b = INF := by simpa [h1] using h
    rw [show decide (mag a = INF) = false by simp [h1]] at HIa
    rw [show decide (mag b = INF) = true by simp [h2]] at HIb
    clear h h1 h2
    go_enter Tryz.func27, Tryz.ntmps27
    go_wp2_with (fail)
    refine HVa.out.mono ?_
    rintro en wn ⟨rfl, rfl⟩
    go_wp2_with (fail)
    refine HIa.out.mono ?_
    rintro en wn ⟨rfl, rfl⟩
    go_wp2_with (fail)
    refine HIb.out.mono ?_
    rintro en wn ⟨rfl, rfl⟩
    go_wp2_with (fail)
    refine (m_inf 1 _).mono ?_
    rintro en wn ⟨rfl, rfl⟩
    go_wp2_with (fail)
    go_ret
    exact ⟨rfl, rfl⟩
theorem r_Hypot_nan (a b : Nat) (mode : Int) (ha : a < 18446744073709551616) (hb : b < 18446744073709551616) (hm : mode = 1 ∨ mode = 2 ∨ mode = 3) (i1 : mag a ≠ INF) (i2 : mag b ≠ INF) (h : nan a = true ∨ nan b = true) (w : World) :
    Calls Tryz.prog 27 #[.float .f64 a, .float .f64 b, .int .i64 mode] w fun en wn => en = .returned (.float .f64 9221120237041090561) ∧ w = wn := by
  have HVa := Lib.hid (r_valid mode w hm)
  have HIa := Lib.hid (r_infinite a ha w)
  have HIb := Lib.hid (r_infinite b hb w)
  rw [show decide (mag a = INF) = false by simp [i1]] at HIa
  rw [show decide (mag b = INF) = false by simp [i2]] at HIb
  clear hm i1 i2
  cases h1 : nan a
  · have t1 := nnan_feq ha h1
    have t2 := nan_feq hb (by simpa [h1] using h)
    clear h h1
    go_enter Tryz.func27, Tryz.ntmps27
    go_wp2_with (fail)
    refine HVa.out.mono ?_
    rintro en wn ⟨rfl, rfl⟩
    go_wp2_with (fail)
    refine HIa.out.mono ?_
    rintro en wn ⟨rfl, rfl⟩
    go_wp2_with (fail)
    refine HIb.out.mono ?_
    rintro en wn ⟨rfl, rfl⟩
    go_wp2_with (fail)
    refine (m_nan _).mono ?_
    rintro en wn ⟨rfl, rfl⟩
    go_wp2_with (fail)
    go_ret
    exact ⟨rfl, rfl⟩
  · have t1 := nan_feq ha h1
    clear h h1
    go_enter Tryz.func27, Tryz.ntmps27
    go_wp2_with (fail)
    refine HVa.out.mono ?_
    rintro en wn ⟨rfl, rfl⟩
    go_wp2_with (fail)
    refine HIa.out.mono ?_
    rintro en wn ⟨rfl, rfl⟩
    go_wp2_with (fail)
    refine HIb.out.mono ?_
    rintro en wn ⟨rfl, rfl⟩
    go_wp2_with (fail)
    refine (m_nan _).mono ?_
    rintro en wn ⟨rfl, rfl⟩
    go_wp2_with (fail)
    go_ret
    exact ⟨rfl, rfl⟩
end Go.Proofs.YtdpjkddllimcoaaGreatDoor
end

section
/- Rounded arithmetic: differences. -/
namespace Go.Proofs.YtdpjkddllimcoaaGreatDoor
open Go.RowKit Fl
theorem r_Sub (a b R : Nat) (mode : Int) (hb : b < 18446744073709551616) (w : World) (h : Calls Tryz.prog 15 #[.float .f64 a, .float .f64 (turned b), .int .i64 mode] w fun en w' => en = .returned (.float .f64 R) ∧ Ext w w') :
    Calls Tryz.prog 17 #[.float .f64 a, .float .f64 b, .int .i64 mode] w fun en w' => en = .returned (.float .f64 R) ∧ Ext w w' := by
  have HA := Lib.hid h
  have hN := run_neg_float (P := Tryz.prog) b hb w
  clear h
  go_enter Tryz.func17, Tryz.ntmps17
  go_wp2_with (fail)
  refine HA.out.mono ?_
  rintro en w1 ⟨rfl, hx⟩
  have HX := Lib.hid hx
  clear hx
  go_wp2_with (fail)
  go_ret
  exact ⟨rfl, HX.out⟩
end Go.Proofs.YtdpjkddllimcoaaGreatDoor
end

section
/- Rounded arithmetic: rests at the ends. -/
namespace Go.Proofs.YtdpjkddllimcoaaGreatDoor
open Go.RowKit Fl
theorem r_Rest_nan (a b : Nat) (ha : a < 18446744073709551616) (hb : b < 18446744073709551616) (h : nan a = true ∨ nan b = true ∨ mag a = INF ∨ feq b 0 = true) (w : World) :
    Calls Tryz.prog 12 #[.float .f64 a, .float .f64 b] w fun en wn => en = .returned (.float .f64 9221120237041090561) ∧ w = wn := by
  have HIa := Lib.hid (r_infinite a ha w)
  cases h1 : nan a
  · have t1 := nnan_feq ha h1
    cases h2 : nan b
    · have t2 := nnan_feq hb h2
      by_cases h3 : mag a = INF
      · rw [show decide (mag a = INF) = true by simp [h3]] at HIa
        clear h h1 h2 h3
        go_enter Tryz.func12, Tryz.ntmps12
        go_wp2_with (fail)
        refine HIa.out.mono ?_
        rintro en wn ⟨rfl, rfl⟩
        go_wp2_with (fail)
        refine (m_nan _).mono ?_
        rintro en wn ⟨rfl, rfl⟩
        go_wp2_with (fail)
        go_ret
        exact ⟨rfl, rfl⟩
      · rw [show decide (mag a = INF) = false by simp [h3]] at HIa
        have t3 : feq b 0 = true := by simpa [h1, h2, h3] using h
        clear h h1 h2 h3
        go_enter Tryz.func12, Tryz.ntmps12
        go_wp2_with (fail)
        refine HIa.out.mono ?_
        rintro en wn ⟨rfl, rfl⟩
        go_wp2_with (fail)
        refine (m_nan _).mono ?_
        rintro en wn ⟨rfl, rfl⟩
        go_wp2_with (fail)
        go_ret
        exact ⟨rfl, rfl⟩
    · have t2 := nan_feq hb h2
      clear h h1 h2
      go_enter Tryz.func12, Tryz.ntmps12
      go_wp2_with (fail)
      refine (m_nan _).mono ?_
      rintro en wn ⟨rfl, rfl⟩
      go_wp2_with (fail)
      go_ret
      exact ⟨rfl, rfl⟩
  · have t1 := nan_feq ha h1
    clear h h1
    go_enter Tryz.func12, Tryz.ntmps12
    go_wp2_with (fail)
    refine (m_nan _).mono ?_
    rintro en wn ⟨rfl, rfl⟩
    go_wp2_with (fail)
    go_ret
    exact ⟨rfl, rfl⟩
theorem r_Rest_same (a b : Nat) (ha : a < 18446744073709551616) (hb : b < 18446744073709551616) (n1 : nan a = false) (n2 : nan b = false) (i1 : mag a ≠ INF) (z2 : feq b 0 = false) (h : mag b = INF ∨ feq a 0 = true) (w : World) :
    Calls Tryz.prog 12 #[.float .f64 a, .float .f64 b] w fun en wn => en = .returned (.float .f64 a) ∧ w = wn := by
  have HIa := Lib.hid (r_infinite a ha w)
  have HIb := Lib.hid (r_infinite b hb w)
  rw [show decide (mag a = INF) = false by simp [i1]] at HIa
  have t1 := nnan_feq ha n1
  have t2 := nnan_feq hb n2
  clear i1 n1 n2
  by_cases h1 : mag b = INF
  · rw [show decide (mag b = INF) = true by simp [h1]] at HIb
    clear h h1
    go_enter Tryz.func12, Tryz.ntmps12
    go_wp2_with (fail)
    refine HIa.out.mono ?_
    rintro en wn ⟨rfl, rfl⟩
    go_wp2_with (fail)
    refine HIb.out.mono ?_
    rintro en wn ⟨rfl, rfl⟩
    go_wp2_with (fail)
    go_ret
    exact ⟨rfl, rfl⟩
  · rw [show decide (mag b = INF) = false by simp [h1]] at HIb
    have t3 : feq a 0 = true := by simpa [h1] using h
    clear h h1
    go_enter Tryz.func12, Tryz.ntmps12
    go_wp2_with (fail)
    refine HIa.out.mono ?_
    rintro en wn ⟨rfl, rfl⟩
    go_wp2_with (fail)
    refine HIb.out.mono ?_
    rintro en wn ⟨rfl, rfl⟩
    go_wp2_with (fail)
    go_ret
    exact ⟨rfl, rfl⟩
end Go.Proofs.YtdpjkddllimcoaaGreatDoor
end

section
/- Rounded arithmetic: the root of nought. -/
namespace Go.Proofs.YtdpjkddllimcoaaGreatDoor
open Go.RowKit Fl
theorem d_Sqrt_zero (a : Value) (ex mode : Int) (w : World) (h : Dy w a 0 ex) (hm : mode = 1 ∨ mode = 2 ∨ mode = 3) :
    Calls Tryz.prog 71 #[a, .int .i64 mode] w fun en w' => en = .returned (.tuple #[.float .f64 0, .int .i64 0]) ∧ Ext w w' := by
  obtain ⟨n1, p1, l1, c1, o1, E1, rfl, hn1, hl1, d1, r1, k1⟩ := h.open
  have ho : o1 = 0 := r1.sgn.2.1.1 rfl
  subst ho
  have hl : l1 = 0 := hl1.2 rfl
  subst hl
  have hn1' : n1 = false := by rw [hn1]; rfl
  subst hn1'
  have HX : Hid (∀ o1, Ext w (w.alloc o1)) := fun o1 => (Ext.refl w).alloc o1
  have HV := Lib.hid (d_Valid 0 E1 _ (w.alloc (.cells #[.bool false, .slice p1 0 c1, .int .i64 E1] 47)) (d1.ext (HX.out _)) k1)
  have HBx := Lib.hid (Bx.new w 47 false (.slice p1 0 c1) E1)
  have HMo := Lib.hid hm
  clear h d1 r1 k1 hm hn1 hl1
  go_enter Tryz.func71, Tryz.ntmps71
  go_wp2_with (fail)
  refine HV.out.mono ?_
  rintro en w1 ⟨rfl, hx⟩
  have H1 := Lib.hid (And.intro ((HX.out _).trans hx) (HBx.out.ext hx))
  have a0 := H1.out.2.c0
  have a1 := H1.out.2.c1
  have a2 := H1.out.2.c2
  clear hx
  go_wp2_with (fail)
  refine (d_known mode _ HMo.out).mono ?_
  rintro en w2 ⟨rfl, rfl⟩
  go_wp2_with (fail)
  go_ret2
  exact ⟨rfl, H1.out.1⟩
set_option maxHeartbeats 1000000 in
theorem r_Hypot_zero (a b : Nat) (mode : Int) (ha : a < 18446744073709551616) (hb : b < 18446744073709551616) (fa : mag a < INF) (fb : mag b < INF) (h0 : val a * val a + val b * val b = 0) (hm : mode = 1 ∨ mode = 2 ∨ mode = 3) (w : World) (hT : Tab32 w) :
    Calls Tryz.prog 27 #[.float .f64 a, .float .f64 b, .int .i64 mode] w fun en w' => en = .returned (.float .f64 (rHyp a b mode)) ∧ Ext w w' := by
  have HVa := Lib.hid (r_valid mode w hm)
  have HIa := Lib.hid (r_infinite a ha w)
  have HIb := Lib.hid (r_infinite b hb w)
  rw [show decide (mag a = INF) = false by simp; omega] at HIa
  rw [show decide (mag b = INF) = false by simp; omega] at HIb
  have t1 := fin_feq ha fa
  have t2 := fin_feq hb fb
  have HNa : Hid (∀ w', Ext w w' → Calls Tryz.prog 52 #[.float .f64 a] w' fun en w'' => ∃ v, en = .returned v ∧ Ext w' w'' ∧ Dy w'' v (val a) (-1074)) := fun w' hx => r_num a ha fa w' (hT.ext hx)
  have HNb : Hid (∀ w', Ext w w' → Calls Tryz.prog 52 #[.float .f64 b] w' fun en w'' => ∃ v, en = .returned v ∧ Ext w' w'' ∧ Dy w'' v (val b) (-1074)) := fun w' hx => r_num b hb fb w' (hT.ext hx)
  have HMul : Hid (∀ x : Int, x.natAbs < 2 ^ 2100 → ∀ u v w', Ext w w' → Dy w' u x (-1074) → Dy w' v x (-1074) → Calls Tryz.prog 54 #[u, v] w' fun en w'' => ∃ v', en = .returned (.tuple #[v', .int .i64 0]) ∧ Ext w' w'' ∧ Dy w'' v' (x * x) (-2148)) := by
    intro x hx u v w' hx' h1 h2
    exact d_Mul u v x x (-1074) (-1074) 2100 2100 w' h1 h2 hx hx (by decide) (by decide) (by decide) (hT.ext hx')
  have HMa := Lib.hid (HMul.out (val a) (val_bits fa))
  have HMb := Lib.hid (HMul.out (val b) (val_bits fb))
  clear HMul
  have hn1 := sq_nn (val a)
  have hn2 := sq_nn (val b)
  have HAdd : Hid (∀ u v w', Ext w w' → Dy w' u (val a * val a) (-2148) → Dy w' v (val b * val b) (-2148) → Calls Tryz.prog 64 #[u, v] w' fun en w'' => ∃ v', en = .returned (.tuple #[v', .int .i64 0]) ∧ Ext w' w'' ∧ Dy w'' v' (val a * val a + val b * val b) (-2148)) := by
    intro u v w' hx h1 h2
    exact d_Add u v _ _ (-2148) 4200 w' h1 h2 (sq_bits (val_bits fa)) (sq_bits (val_bits fb)) (by decide) (by decide) (by decide) (hT.ext hx)
  have HSq : Hid (∀ u w', Dy w' u (val a * val a + val b * val b) (-2148) → Calls Tryz.prog 71 #[u, .int .i64 mode] w' fun en w'' => en = .returned (.tuple #[.float .f64 (rHyp a b mode), .int .i64 0]) ∧ Ext w' w'') := by
    intro u w' h
    rw [h0] at h
    have := d_Sqrt_zero u _ mode w' h hm
    unfold rHyp
    rwa [if_pos h0]
  clear ha hb fa fb h0 hm hT hn1 hn2
  generalize rHyp a b mode = R at *
  generalize val a * val a = A at *
  generalize val b * val b = B at *
  go_enter Tryz.func27, Tryz.ntmps27
  go_wp2_with (fail)
  refine HVa.out.mono ?_
  rintro en wn ⟨rfl, rfl⟩
  go_wp2_with (fail)
  refine HIa.out.mono ?_
  rintro en wn ⟨rfl, rfl⟩
  go_wp2_with (fail)
  refine HIb.out.mono ?_
  rintro en wn ⟨rfl, rfl⟩
  go_wp2_with (fail)
  refine (HNa.out _ (Ext.refl _)).mono ?_
  rintro en w1 ⟨va, rfl, hx, hd⟩
  have H1 := Lib.hid (And.intro hx hd)
  clear hx hd
  go_wp2_with (fail)
  refine (HNa.out _ H1.out.1).mono ?_
  rintro en w2 ⟨vb, rfl, hx, hd⟩
  have H2 := Lib.hid (And.intro (H1.out.1.trans hx) (And.intro (H1.out.2.ext hx) hd))
  clear hx hd H1
  go_wp2_with (fail)
  refine (HMa.out va vb _ H2.out.1 H2.out.2.1 H2.out.2.2).mono ?_
  rintro en w3 ⟨v, rfl, hx, hd⟩
  obtain ⟨n1, s1, E1, rfl⟩ := hd.form
  obtain ⟨p1, l1, c1, rfl⟩ := hd.sl
  have H3 := Lib.hid (And.intro (H2.out.1.trans hx) hd)
  clear hx hd H2
  go_wp2_with (fail)
  have HB1 : Hid (Bx (w3.alloc (.cells #[.bool n1, .slice p1 l1 c1, .int .i64 E1] 47)) 47 w3.heap.size n1 (.slice p1 l1 c1) E1) := Bx.new _ _ _ _ _
  refine (HNb.out _ (H3.out.1.alloc _)).mono ?_
  rintro en w4 ⟨va2, rfl, hx, hd⟩
  have H4 : Hid (Ext w w4 ∧ Dy w4 (.agg #[.bool n1, .slice p1 l1 c1, .int .i64 E1]) A (-2148) ∧ Bx w4 47 w3.heap.size n1 (.slice p1 l1 c1) E1 ∧ Dy w4 va2 (val b) (-1074)) := ⟨(H3.out.1.alloc _).trans hx, (H3.out.2.ext ((Ext.refl _).alloc _)).ext hx, HB1.out.ext hx, hd⟩
  clear hx hd
  go_wp2_with (fail)
  refine (HNb.out _ H4.out.1).mono ?_
  rintro en w5 ⟨vb2, rfl, hx, hd⟩
  have H5 : Hid (Ext w w5 ∧ Dy w5 (.agg #[.bool n1, .slice p1 l1 c1, .int .i64 E1]) A (-2148) ∧ Bx w5 47 w3.heap.size n1 (.slice p1 l1 c1) E1 ∧ Dy w5 va2 (val b) (-1074) ∧ Dy w5 vb2 (val b) (-1074)) := ⟨H4.out.1.trans hx, H4.out.2.1.ext hx, H4.out.2.2.1.ext hx, H4.out.2.2.2.ext hx, hd⟩
  clear hx hd H4
  go_wp2_with (fail)
  refine (HMb.out va2 vb2 _ H5.out.1 H5.out.2.2.2.1 H5.out.2.2.2.2).mono ?_
  rintro en w6 ⟨v, rfl, hx, hd⟩
  obtain ⟨n2, s2, E2, rfl⟩ := hd.form
  obtain ⟨p2, l2, c2, rfl⟩ := hd.sl
  have H6 : Hid (Ext w w6 ∧ Dy w6 (.agg #[.bool n1, .slice p1 l1 c1, .int .i64 E1]) A (-2148) ∧ Bx w6 47 w3.heap.size n1 (.slice p1 l1 c1) E1 ∧ Dy w6 (.agg #[.bool n2, .slice p2 l2 c2, .int .i64 E2]) B (-2148)) := ⟨H5.out.1.trans hx, H5.out.2.1.ext hx, H5.out.2.2.1.ext hx, hd⟩
  have a0 := H6.out.2.2.1.c0
  have a1 := H6.out.2.2.1.c1
  have a2 := H6.out.2.2.1.c2
  have hlt := H6.out.2.2.1.lt
  clear hx hd H5
  go_wp2_with (fail)
  refine (HAdd.out _ _ _ (H6.out.1.alloc _) (H6.out.2.1.ext ((Ext.refl _).alloc _)) (H6.out.2.2.2.ext ((Ext.refl _).alloc _))).mono ?_
  rintro en w7 ⟨v, rfl, hx, hd⟩
  obtain ⟨n3, s3, E3, rfl⟩ := hd.form
  obtain ⟨p3, l3, c3, rfl⟩ := hd.sl
  have H7 := Lib.hid (And.intro ((H6.out.1.alloc _).trans hx) hd)
  clear hx hd H6
  go_wp2_with (fail)
  refine (HSq.out _ _ (H7.out.2.ext ((Ext.refl _).alloc _))).mono ?_
  rintro en w8 ⟨rfl, hx⟩
  have H8 := Lib.hid ((H7.out.1.alloc _).trans hx)
  clear hx
  go_wp2_with (fail)
  go_ret
  exact ⟨rfl, H8.out⟩
end Go.Proofs.YtdpjkddllimcoaaGreatDoor
end

section
/- Rounded arithmetic: whole numbers, the closed call. -/
namespace Go.Proofs.YtdpjkddllimcoaaGreatDoor
open Go.RowKit Fl
theorem m_even_at (x r : Nat) (w : World) (h : (Extern.MathFloor.toIntegral "math.RoundToEven" .even #[.float .f64 x]).run Tryz.prog w = .ok (.float .f64 r) w) :
    (callFunc 43 #[.float .f64 x]).run Tryz.prog w = .ok (.value (.float .f64 r)) w := by
  rw [run_callFunc_extern Tryz.func43 (by kernel_rfl) rfl (by kernel_rfl) (e := Extern.MathFloor.toIntegral "math.RoundToEven" .even) (by kernel_rfl)]
  simp [h]
theorem m_even_sure (w : World) : (callFunc 43 #[.float .f64 4612811918334230528]).run Tryz.prog w = .ok (.value (.float .f64 4611686018427387904)) w := by
  refine m_even_at _ _ w ?_
  have h1 : FloatKind.f64.decode 4612811918334230528 = FloatKind.f64.decode 4612811918334230528 := rfl
  unfold Extern.MathFloor.toIntegral
  rfl
attribute [local go_sem] m_even_sure in
theorem r_Whole_sure (w : World) : Calls Tryz.prog 10 #[.float .f64 4612811918334230528, .int .i64 2] w fun en wn => en = .returned (.float .f64 4611686018427387904) ∧ w = wn := by
  have HVa := Lib.hid (r_valid 2 w (by decide))
  go_enter Tryz.func10, Tryz.ntmps10
  go_wp2_with (fail)
  refine HVa.out.mono ?_
  rintro en wn ⟨rfl, rfl⟩
  go_wp2_with (fail)
  go_ret
  exact ⟨rfl, rfl⟩
end Go.Proofs.YtdpjkddllimcoaaGreatDoor
end

section
/- Rounded arithmetic: exact values. -/
namespace Fl
theorem rnd_V {r d : Nat} (hr : r < INF) : rnd (cD (V r) (-1074)) d = r := by
  have h2 := cD_shift (rq r) ((rl r : Int) - 1074) (rl r)
  rw [← V_lq, show (rl r : Int) - 1074 - (rl r : Nat) = -1074 by omega] at h2
  rw [h2, rnd_exact (l := rl r) rfl (rq_lt r) (rq_norm r) (by rw [rung_lq]; exact hr), rung_lq]
theorem V_at {r : Nat} (k m : Nat) (hB : B ≤ r) (hk : r / B - 1 = k) (hm : B + r % B = m) : V r = m * 2 ^ k := by rw [V_fields hB, hk, hm]
theorem val_pos {a : Nat} (h : a < S) : val a = V a := by
  unfold val
  rw [if_neg (by omega), show mag a = a from Nat.mod_eq_of_lt h]
theorem sum_sure : rSum 4607182418800017408 4611686018427387904 2 = 4613937818241073152 := by
  obtain ⟨k, hk⟩ : ∃ k : Nat, k = 1022 := ⟨_, rfl⟩
  have e1 := V_at (r := 4607182418800017408) k 4503599627370496 (by decide) (by rw [hk]; decide) (by decide)
  have e2 := V_at (r := 4611686018427387904) (k + 1) 4503599627370496 (by decide) (by rw [hk]; decide) (by decide)
  have e3 := V_at (r := 4613937818241073152) (k + 1) 6755399441055744 (by decide) (by rw [hk]; decide) (by decide)
  clear hk
  have p := Nat.pow_succ 2 k
  have hp : 0 < (2 : Nat) ^ k := Nat.two_pow_pos _
  have hs : val 4607182418800017408 + val 4611686018427387904 = ((V 4613937818241073152 : Nat) : Int) := by
    rw [val_pos (by decide), val_pos (by decide), e1, e2, e3, p]
    clear e1 e2 e3 p
    generalize (2 : Nat) ^ k = t at *
    omega
  have h0 : 0 < V 4613937818241073152 := by rw [e3]; exact Nat.mul_pos (by decide) (Nat.two_pow_pos _)
  clear e1 e2 e3 p hp
  unfold rSum
  rw [hs]
  generalize hv : V 4613937818241073152 = v at *
  rw [if_neg (by omega), show decide ((v : Int) < 0) = false by simp, Int.natAbs_natCast, ← hv, rnd_V (by decide)]
  rfl
end Fl
end

section
/- The walks of package math's small functions and of the reference of layer 1: each comes to a plain function of the bits. -/
namespace Go.Proofs.YtdpjkddllimcoaaGreatDoor
open Go.RowKit Fl

theorem x_bits (x : Nat) (w : World) : (callFunc 76 #[.float .f64 x]).run Tryz.prog w = .ok (.value (.int .u64 x)) w := by
  rw [run_callFunc_extern Tryz.func76 (by kernel_rfl) rfl (by kernel_rfl) (e := Extern.MathFloatBits.float64bits) (by kernel_rfl)]
  rfl
theorem x_of (x : Int) (w : World) : (callFunc 87 #[.int .u64 x]).run Tryz.prog w = .ok (.value (.float .f64 x.toNat)) w := by
  rw [run_callFunc_extern Tryz.func87 (by kernel_rfl) rfl (by kernel_rfl) (e := Extern.MathFloatBits.float64frombits) (by kernel_rfl)]
  rfl
attribute [local go_sem] x_bits x_of

theorem c_bits (x : Nat) (w : World) : Calls Tryz.prog 85 #[.float .f64 x] w fun en wn => en = .returned (.int .u64 x) ∧ w = wn := by
  go_enter Tryz.func85, Tryz.ntmps85
  go_wp2
  go_ret
  exact ⟨rfl, rfl⟩
theorem c_of (x : Int) (w : World) : Calls Tryz.prog 84 #[.int .u64 x] w fun en wn => en = .returned (.float .f64 x.toNat) ∧ w = wn := by
  go_enter Tryz.func84, Tryz.ntmps84
  go_wp2
  go_ret
  exact ⟨rfl, rfl⟩
theorem c_mag (x : Nat) (hx : x < 18446744073709551616) (w : World) : Calls Tryz.prog 75 #[.float .f64 x] w fun en wn => en = .returned (.int .u64 ((mag x : Nat) : Int)) ∧ w = wn := by
  have h := bits_andNot_S x hx
  go_enter Tryz.func75, Tryz.ntmps75
  go_wp2_with ((go_at_call 85; refine (c_bits _ _).mono ?_; rintro e w' ⟨rfl, rfl⟩))
  go_ret
  exact ⟨rfl, rfl⟩
theorem c_neg (x : Nat) (hx : x < 18446744073709551616) (w : World) : Calls Tryz.prog 50 #[.float .f64 x] w fun en wn => en = .returned (.bool (neg x)) ∧ w = wn := by
  have h : ((x : Int) / 9223372036854775808 == 1) = neg x := by
    unfold neg S; rw [Bool.eq_iff_iff]; simp; omega
  go_enter Tryz.func50, Tryz.ntmps50
  go_wp2_with ((go_at_call 85; refine (c_bits _ _).mono ?_; rintro e w' ⟨rfl, rfl⟩))
  go_ret
  exact ⟨rfl, rfl⟩
theorem c_isNaN (x : Nat) (hx : x < 18446744073709551616) (w : World) : Calls Tryz.prog 37 #[.float .f64 x] w fun en wn => en = .returned (.bool (nan x)) ∧ w = wn := by
  have h : decide (9218868437227405312 < ((mag x : Nat) : Int)) = nan x := by
    unfold nan INF; rw [Bool.eq_iff_iff]; simp; omega
  go_enter Tryz.func37, Tryz.ntmps37
  go_wp2_with ((go_at_call 75; refine (c_mag _ hx _).mono ?_; rintro e w' ⟨rfl, rfl⟩))
  go_ret
  exact ⟨rfl, rfl⟩
theorem c_isInf (x : Nat) (hx : x < 18446744073709551616) (w : World) : Calls Tryz.prog 38 #[.float .f64 x] w fun en wn => en = .returned (.bool (decide (mag x = INF))) ∧ w = wn := by
  have h : (((mag x : Nat) : Int) == 9218868437227405312) = decide (mag x = INF) := by
    unfold INF; rw [Bool.eq_iff_iff]; simp; omega
  go_enter Tryz.func38, Tryz.ntmps38
  go_wp2_with ((go_at_call 75; refine (c_mag _ hx _).mono ?_; rintro e w' ⟨rfl, rfl⟩))
  go_ret
  exact ⟨rfl, rfl⟩
theorem c_finite (x : Nat) (hx : x < 18446744073709551616) (w : World) : Calls Tryz.prog 29 #[.float .f64 x] w fun en wn => en = .returned (.bool (decide (mag x < INF))) ∧ w = wn := by
  have h : decide (((mag x : Nat) : Int) < 9218868437227405312) = decide (mag x < INF) := by
    unfold INF; rw [Bool.eq_iff_iff]; simp; omega
  go_enter Tryz.func29, Tryz.ntmps29
  go_wp2_with ((go_at_call 75; refine (c_mag _ hx _).mono ?_; rintro e w' ⟨rfl, rfl⟩))
  go_ret
  exact ⟨rfl, rfl⟩
theorem c_turned (x : Nat) (hx : x < 18446744073709551616) (w : World) : Calls Tryz.prog 34 #[.float .f64 x] w fun en wn => en = .returned (.float .f64 (turned x)) ∧ w = wn := by
  have h := bits_xor_S x hx
  go_enter Tryz.func34, Tryz.ntmps34
  go_wp2_with (first | (go_at_call 85; refine (c_bits _ _).mono ?_; rintro e w' ⟨rfl, rfl⟩) | (go_at_call 84; refine (c_of _ _).mono ?_; rintro e w' ⟨rfl, rfl⟩))
  go_ret
  exact ⟨by simp, rfl⟩
end Go.Proofs.YtdpjkddllimcoaaGreatDoor
end

section
/- cuspref01's same and next, for seats without ieee. -/
namespace Fl
def nextF (x : Nat) : Nat := if nan x || decide (x = INF) then x else if mag x = 0 then 1 else if neg x then x - 1 else x + 1
theorem nextF_lt {x : Nat} (hx : x < 18446744073709551616) : nextF x < 18446744073709551616 := by
  unfold nextF nan neg mag S INF
  split
  · exact hx
  · split
    · decide
    · rename_i h1 h2
      simp at h1
      split
      · omega
      · rename_i h3
        simp at h3; omega
def sameF (a b : Nat) : Bool := decide (a = b) || (nan a && nan b)
end Fl
namespace Go.Proofs.YtdpjkddllimcoaaGreatDoor
open Go.RowKit Fl
attribute [local go_sem] m_bits m_of

theorem c_same (a b : Nat) (ha : a < 18446744073709551616) (hb : b < 18446744073709551616) (w : World) : Calls Tryz.prog 39 #[.float .f64 a, .float .f64 b] w fun en wn => en = .returned (.bool (sameF a b)) ∧ w = wn := by
  have h : ((a : Int) == (b : Int)) = decide (a = b) := by rw [Bool.eq_iff_iff]; simp; omega
  unfold sameF
  by_cases e : a = b
  · have h' : ((a : Int) == (b : Int)) = true := by rw [h]; simp [e]
    have e' : decide (a = b) = true := by simp [e]
    rw [e']
    clear h e e'
    go_enter Tryz.func39, Tryz.ntmps39
    go_wp2_with ((go_at_call 85; refine (c_bits _ _).mono ?_; rintro e w' ⟨rfl, rfl⟩))
    go_ret
    exact ⟨by simp, rfl⟩
  · have h' : ((a : Int) == (b : Int)) = false := by rw [h]; simp [e]
    have e' : decide (a = b) = false := by simp [e]
    rw [e']
    clear h e e'
    cases hn : nan a
    · go_enter Tryz.func39, Tryz.ntmps39
      go_wp2_with (first | (go_at_call 85; refine (c_bits _ _).mono ?_; rintro e w' ⟨rfl, rfl⟩) | (go_at_call 37; refine (c_isNaN a ha _).mono ?_; rintro e w' ⟨rfl, rfl⟩))
      go_ret
      exact ⟨by simp, rfl⟩
    · cases hm : nan b
      all_goals
        go_enter Tryz.func39, Tryz.ntmps39
        go_wp2_with (first | (go_at_call 85; refine (c_bits _ _).mono ?_; rintro e w' ⟨rfl, rfl⟩) | (go_at_call 37; refine (c_isNaN _ (by assumption) _).mono ?_; rintro e w' ⟨rfl, rfl⟩))
        go_ret
        exact ⟨by simp, rfl⟩
theorem mag_pos {x : Nat} (h : neg x = false) : x = mag x := by unfold neg mag S at *; simp at h; omega
theorem magZ (x : Nat) : 0 ≤ ((mag x : Nat) : Int) ∧ ((mag x : Nat) : Int) ≤ 9223372036854775807 := by have := mag_lt x; unfold S at *; omega
theorem c_next (x : Nat) (hx : x < 18446744073709551616) (w : World) : Calls Tryz.prog 35 #[.float .f64 x] w fun en wn => en = .returned (.float .f64 (nextF x)) ∧ w = wn := by
  obtain ⟨b1, b2⟩ := magZ x
  unfold nextF
  by_cases hn : nan x = true
  · rw [hn]
    go_enter Tryz.func35, Tryz.ntmps35
    go_wp2_with (first | (go_at_call 37; refine (c_isNaN x hx _).mono ?_; rintro e w' ⟨rfl, rfl⟩) | (go_at_call 85; refine (c_bits _ _).mono ?_; rintro e w' ⟨rfl, rfl⟩))
    go_ret
    exact ⟨rfl, rfl⟩
  have hn : nan x = false := by simpa using hn
  have hxi : ((x : Int) == 9218868437227405312) = decide (x = INF) := by unfold INF; rw [Bool.eq_iff_iff]; simp; omega
  rw [hn]
  by_cases hi : x = INF
  · have hi2 : decide (x = INF) = true := by simp [hi]
    rw [hi2] at hxi
    rw [hi2]
    clear hi hi2
    go_enter Tryz.func35, Tryz.ntmps35
    go_wp2_with (first | (go_at_call 37; refine (c_isNaN x hx _).mono ?_; rintro e w' ⟨rfl, rfl⟩) | (go_at_call 85; refine (c_bits _ _).mono ?_; rintro e w' ⟨rfl, rfl⟩))
    go_ret
    exact ⟨rfl, rfl⟩
  have hi : decide (x = INF) = false := by simp [hi]
  rw [hi] at hxi
  rw [hi]
  by_cases h0 : mag x = 0
  · have hz : (((mag x : Nat) : Int) == 0) = true := by simp [h0]
    rw [if_pos h0]
    clear h0 hi
    go_enter Tryz.func35, Tryz.ntmps35
    go_wp2_with (first | (go_at_call 37; refine (c_isNaN x hx _).mono ?_; rintro e w' ⟨rfl, rfl⟩) | (go_at_call 85; refine (c_bits _ _).mono ?_; rintro e w' ⟨rfl, rfl⟩) | (go_at_call 75; refine (c_mag x hx _).mono ?_; rintro e w' ⟨rfl, rfl⟩) | (go_at_call 84; refine (c_of _ _).mono ?_; rintro e w' ⟨rfl, rfl⟩))
    go_ret
    exact ⟨by simp, rfl⟩
  · rw [if_neg h0]
    have hz : (((mag x : Nat) : Int) == 0) = false := by simp [h0]
    cases hs : neg x
    · have h1 : x + 1 < 18446744073709551616 := by unfold neg S at hs; simp at hs; omega
      have h2 : IntKind.u64.wrap ((x : Int) + 1) = (x : Int) + 1 := by rw [IntKind.wrap_u64]; omega
      have h3 : ((x : Int) + 1).toNat = x + 1 := by omega
      clear h0 hi hn
      go_enter Tryz.func35, Tryz.ntmps35
      go_wp2_with (first | (go_at_call 37; refine (c_isNaN x hx _).mono ?_; rintro e w' ⟨rfl, rfl⟩) | (go_at_call 85; refine (c_bits _ _).mono ?_; rintro e w' ⟨rfl, rfl⟩) | (go_at_call 75; refine (c_mag x hx _).mono ?_; rintro e w' ⟨rfl, rfl⟩) | (go_at_call 50; refine (c_neg x hx _).mono ?_; rintro e w' ⟨rfl, rfl⟩) | (go_at_call 84; refine (c_of _ _).mono ?_; rintro e w' ⟨rfl, rfl⟩))
      go_ret
      exact ⟨by simp, rfl⟩
    · have h1 : 1 ≤ x := by unfold neg S at hs; simp at hs; omega
      have h2 : IntKind.u64.wrap ((x : Int) - 1) = (x : Int) - 1 := by rw [IntKind.wrap_u64]; omega
      have h3 : ((x : Int) - 1).toNat = x - 1 := by omega
      clear h0 hi hn
      go_enter Tryz.func35, Tryz.ntmps35
      go_wp2_with (first | (go_at_call 37; refine (c_isNaN x hx _).mono ?_; rintro e w' ⟨rfl, rfl⟩) | (go_at_call 85; refine (c_bits _ _).mono ?_; rintro e w' ⟨rfl, rfl⟩) | (go_at_call 75; refine (c_mag x hx _).mono ?_; rintro e w' ⟨rfl, rfl⟩) | (go_at_call 50; refine (c_neg x hx _).mono ?_; rintro e w' ⟨rfl, rfl⟩) | (go_at_call 84; refine (c_of _ _).mono ?_; rintro e w' ⟨rfl, rfl⟩))
      go_ret
      exact ⟨by simp, rfl⟩
end Go.Proofs.YtdpjkddllimcoaaGreatDoor
end

section
/- Sums, products and quotients of floats at the ends: what the model says. -/
namespace Fl
open Ieee Go
theorem word_inf (x : Nat) (hx : x < 18446744073709551616) (h : mag x = INF) : word (neg x) INF = x := by rw [← h]; exact word_self hx
theorem nan_gt {x : Nat} (h : nan x = true) : INF < mag x := by unfold nan at h; simpa using h
theorem nnan_le {x : Nat} (h : nan x = false) : mag x ≤ INF := by unfold nan at h; simp at h; omega
theorem add_inf_l {x y : Nat} (hx : x < 18446744073709551616) (hy : y < 18446744073709551616) (ix : mag x = INF) (fy : mag y < INF) : FloatKind.f64.format.add x y = some x := by
  show double.add x y = _
  obtain ⟨n, l, h3, -⟩ := read_num (x := y) (by simpa using hy) fy
  unfold Format.add
  rw [read_inf (by simpa using hx) ix, h3]
  simp only [Datum.sum, Option.map_some, Format.write, word_eq, infRung_eq]
  rw [word_inf x hx ix]
theorem add_inf_r {x y : Nat} (hx : x < 18446744073709551616) (hy : y < 18446744073709551616) (fx : mag x < INF) (iy : mag y = INF) : FloatKind.f64.format.add x y = some y := by
  show double.add x y = _
  obtain ⟨n, l, h3, -⟩ := read_num (x := x) (by simpa using hx) fx
  unfold Format.add
  rw [read_inf (by simpa using hy) iy, h3]
  simp only [Datum.sum, Option.map_some, Format.write, word_eq, infRung_eq]
  rw [word_inf y hy iy]
theorem add_inf_same {x y : Nat} (hx : x < 18446744073709551616) (hy : y < 18446744073709551616) (ix : mag x = INF) (iy : mag y = INF) (h : neg x = neg y) : FloatKind.f64.format.add x y = some x := by
  show double.add x y = _
  unfold Format.add
  rw [read_inf (by simpa using hx) ix, read_inf (by simpa using hy) iy]
  simp only [Datum.sum, Option.map_some, Format.write, word_eq, infRung_eq, if_pos h]
  rw [word_inf x hx ix]
theorem add_inf_opp {x y : Nat} (hx : x < 18446744073709551616) (hy : y < 18446744073709551616) (ix : mag x = INF) (iy : mag y = INF) (h : neg x ≠ neg y) : FloatKind.f64.format.add x y = none := by
  show double.add x y = _
  unfold Format.add
  rw [read_inf (by simpa using hx) ix, read_inf (by simpa using hy) iy]
  simp only [Datum.sum, if_neg h, Option.map_none]
theorem mul_nan {x y : Nat} (hx : x < 18446744073709551616) (hy : y < 18446744073709551616) (h : nan x = true ∨ nan y = true) : FloatKind.f64.format.mul x y = none := by
  show double.mul x y = _
  unfold Format.mul
  rcases h with h | h
  · rw [read_nan (by simpa using hx) (nan_gt h)]
    simp [Datum.product]
  · rw [read_nan (by simpa using hy) (nan_gt h)]
    cases double.read x <;> simp [Datum.product]
theorem read_zero {x : Nat} (hx : x < 18446744073709551616) (h : mag x = 0) : double.read x = .number (neg x) 0 (-1074) := by
  unfold Format.read
  simp only [signWeight_eq, binade_eq, infRung_eq, leastPlace_eq, read_neg x (by simpa using hx)]
  change (if mag x < B then Datum.number (neg x) (mag x) (-1074) else _) = _
  rw [h, if_pos (by decide)]
theorem mul_inf_zero {x y : Nat} (hx : x < 18446744073709551616) (hy : y < 18446744073709551616) (h : (mag x = INF ∧ mag y = 0) ∨ (mag x = 0 ∧ mag y = INF)) : FloatKind.f64.format.mul x y = none := by
  show double.mul x y = _
  unfold Format.mul
  rcases h with ⟨h1, h2⟩ | ⟨h1, h2⟩
  · rw [read_inf (by simpa using hx) h1, read_zero hy h2]
    simp [Datum.product]
  · rw [read_inf (by simpa using hy) h2, read_zero hx h1]
    simp [Datum.product]
theorem xor_ne (a b : Bool) : (a ^^ b) = (a != b) := by cases a <;> cases b <;> rfl
theorem num_ne {y n l : Nat} (h : n * 2 ^ l = V (mag y)) (h0 : mag y ≠ 0) : n ≠ 0 := by
  rintro rfl
  rw [Nat.zero_mul] at h
  exact h0 (V_inj (by rw [← h]; exact V_zero.symm))
theorem mul_inf {x y : Nat} (hx : x < 18446744073709551616) (hy : y < 18446744073709551616) (h : (mag x = INF ∧ mag y ≠ 0 ∧ mag y ≤ INF) ∨ (mag x ≠ 0 ∧ mag x ≤ INF ∧ mag y = INF)) : FloatKind.f64.format.mul x y = some (word (neg x != neg y) INF) := by
  show double.mul x y = _
  unfold Format.mul
  by_cases h1 : mag x = INF
  · rw [read_inf (by simpa using hx) h1]
    by_cases h2 : mag y = INF
    · rw [read_inf (by simpa using hy) h2]
      simp only [Datum.product, Option.map_some, Format.write, word_eq, infRung_eq, xor_ne]
    · obtain ⟨n, l, h3, h4⟩ := read_num (x := y) (by simpa using hy) (by omega)
      have h5 := num_ne h4 (by omega)
      rw [h3]
      simp only [Datum.product, if_neg h5, Option.map_some, Format.write, word_eq, infRung_eq, xor_ne]
  · have h2 : mag y = INF := by omega
    obtain ⟨n, l, h3, h4⟩ := read_num (x := x) (by simpa using hx) (by omega)
    have h5 := num_ne h4 (by omega)
    rw [read_inf (by simpa using hy) h2, h3]
    simp only [Datum.product, if_neg h5, Option.map_some, Format.write, word_eq, infRung_eq, xor_ne]
    cases neg x <;> cases neg y <;> rfl
theorem nearest_zero (s : Bool) (e : Int) : double.nearest s 0 e = word s 0 := by unfold Format.nearest; rw [if_pos rfl, word_eq]
theorem mul_zero {x y : Nat} (hx : x < 18446744073709551616) (hy : y < 18446744073709551616) (fx : mag x < INF) (fy : mag y < INF) (h : mag x = 0 ∨ mag y = 0) : FloatKind.f64.format.mul x y = some (word (neg x != neg y) 0) := by
  show double.mul x y = _
  unfold Format.mul
  obtain ⟨m, k, h1, h2⟩ := read_num (x := x) (by simpa using hx) fx
  obtain ⟨n, l, h3, h4⟩ := read_num (x := y) (by simpa using hy) fy
  have h5 : m * n = 0 := by
    rcases h with h | h
    · rw [h, V_zero] at h2
      rcases Nat.mul_eq_zero.1 h2 with h6 | h6
      · rw [h6, Nat.zero_mul]
      · have := Nat.two_pow_pos k; omega
    · rw [h, V_zero] at h4
      rcases Nat.mul_eq_zero.1 h4 with h6 | h6
      · rw [h6, Nat.mul_zero]
      · have := Nat.two_pow_pos l; omega
  rw [h1, h3]
  simp only [Datum.product, Option.map_some, Format.write, h5, nearest_zero, xor_ne]
theorem div_nan {x y : Nat} (hx : x < 18446744073709551616) (hy : y < 18446744073709551616) (h : nan x = true ∨ nan y = true) : FloatKind.f64.format.div x y = none := by
  show double.div x y = _
  unfold Format.div
  rcases h with h | h
  · rw [read_nan (by simpa using hx) (nan_gt h)]
    simp [Datum.quotient]
  · rw [read_nan (by simpa using hy) (nan_gt h)]
    cases double.read x <;> simp [Datum.quotient]
theorem div_none {x y : Nat} (hx : x < 18446744073709551616) (hy : y < 18446744073709551616) (h : (mag x = INF ∧ mag y = INF) ∨ (mag x = 0 ∧ mag y = 0)) : FloatKind.f64.format.div x y = none := by
  show double.div x y = _
  unfold Format.div
  rcases h with ⟨h1, h2⟩ | ⟨h1, h2⟩
  · rw [read_inf (by simpa using hx) h1, read_inf (by simpa using hy) h2]
    simp [Datum.quotient]
  · rw [read_zero hx h1, read_zero hy h2]
    simp [Datum.quotient]
theorem div_inf {x y : Nat} (hx : x < 18446744073709551616) (hy : y < 18446744073709551616) (h : (mag x = INF ∧ mag y < INF) ∨ (mag x ≠ 0 ∧ mag x < INF ∧ mag y = 0)) : FloatKind.f64.format.div x y = some (word (neg x != neg y) INF) := by
  show double.div x y = _
  unfold Format.div
  rcases h with ⟨h1, h2⟩ | ⟨h1, h2, h3⟩
  · obtain ⟨n, l, h3, h4⟩ := read_num (x := y) (by simpa using hy) h2
    rw [read_inf (by simpa using hx) h1, h3]
    simp only [Datum.quotient, Option.map_some, Format.write, word_eq, infRung_eq, xor_ne]
  · obtain ⟨n, l, h4, h5⟩ := read_num (x := x) (by simpa using hx) h2
    have h6 := num_ne h5 h1
    rw [read_zero hy h3, h4]
    simp only [Datum.quotient, if_true, if_neg h6, Option.map_some, Format.write, word_eq, infRung_eq, xor_ne]
theorem div_zero {x y : Nat} (hx : x < 18446744073709551616) (hy : y < 18446744073709551616) (h : (mag x < INF ∧ mag y = INF) ∨ (mag x = 0 ∧ mag y ≠ 0 ∧ mag y < INF)) : FloatKind.f64.format.div x y = some (word (neg x != neg y) 0) := by
  show double.div x y = _
  unfold Format.div
  rcases h with ⟨h1, h2⟩ | ⟨h1, h2, h3⟩
  · obtain ⟨n, l, h3, h4⟩ := read_num (x := x) (by simpa using hx) h1
    rw [read_inf (by simpa using hy) h2, h3]
    simp only [Datum.quotient, Option.map_some, Format.write, nearest_zero, xor_ne]
  · obtain ⟨n, l, h4, h5⟩ := read_num (x := y) (by simpa using hy) h3
    have h6 := num_ne h5 h2
    rw [read_zero hx h1, h4]
    simp only [Datum.quotient, if_neg h6, Option.map_some, Format.write, xor_ne, Nat.zero_shiftLeft, Nat.zero_div, Nat.zero_mod]
    exact congrArg some (nearest_zero _ _)
/-- which NaN it is that an operation without an answer draws. -/
def cutNan (w : World) (x y : Nat) : Nat := (Question.nanBits .f64 x y).cut (w.tape w.drawn (Question.nanBits .f64 x y))
theorem cutNan_nan (w : World) (x y : Nat) : nan (cutNan w x y) = true ∧ cutNan w x y < 18446744073709551616 := by
  unfold cutNan
  generalize w.tape w.drawn (Question.nanBits .f64 x y) = t
  have e : (Question.nanBits .f64 x y).cut t = (t % 2) * 9223372036854775808 + 9218868437227405312 + 1 + (t / 2) % 4503599627370495 := rfl
  rw [e]
  have h1 : t % 2 = 0 ∨ t % 2 = 1 := by omega
  have h2 : t / 2 % 4503599627370495 < 4503599627370495 := Nat.mod_lt _ (by decide)
  refine ⟨?_, by omega⟩
  unfold nan mag S INF
  simp only [decide_eq_true_eq]
  generalize t / 2 % 4503599627370495 = u at *
  rcases h1 with h1 | h1 <;> rw [h1] <;> omega
theorem run_add_nan {P : Program} {w : World} (t : TypeId) {x y : Nat} (h : FloatKind.f64.format.add x y = none) :
    (binOp .add t (.float .f64 x) (.float .f64 y)).run P w = .ok (.float .f64 (cutNan w x y)) w.drew := by
  simp [binOp, Op.floatArith, h, Question.forced, cutNan]
theorem run_mul_nan {P : Program} {w : World} (t : TypeId) {x y : Nat} (h : FloatKind.f64.format.mul x y = none) :
    (binOp .mul t (.float .f64 x) (.float .f64 y)).run P w = .ok (.float .f64 (cutNan w x y)) w.drew := by
  simp [binOp, Op.floatArith, h, Question.forced, cutNan]
theorem run_div_nan {P : Program} {w : World} (t : TypeId) {x y : Nat} (h : FloatKind.f64.format.div x y = none) :
    (binOp .quo t (.float .f64 x) (.float .f64 y)).run P w = .ok (.float .f64 (cutNan w x y)) w.drew := by
  simp [binOp, Op.floatArith, h, Question.forced, cutNan]
theorem run_div_float {P : Program} {w : World} (t : TypeId) {x y r : Nat} (h : FloatKind.f64.format.div x y = some r) :
    (binOp .quo t (.float .f64 x) (.float .f64 y)).run P w = .ok (.float .f64 r) w := by
  simp [binOp, Op.floatArith, h]
end Fl
end

section
/- The reference's rounded arithmetic: the small functions. -/
namespace Fl
theorem turned_word {r : Nat} (h : r < S) : turned r = word true r := by unfold turned word; rw [if_neg (by omega)]; simp; omega
end Fl
namespace Go.Proofs.YtdpjkddllimcoaaGreatDoor
open Go.RowKit Fl
/-- the nought that a sum which is 0 comes to. -/
theorem nul_sum {a b : Nat} {mode : Int} (ha : a < 18446744073709551616) (hb : b < 18446744073709551616) (h : val a + val b = 0) : nul a b mode = ((neg a && neg b) || (mode == 1 && (neg a || neg b))) := by
  have key : (feq a 0 = true ∧ feq b 0 = true) ∨ (feq a 0 = false ∧ neg a ≠ neg b) := by
    have va : val a = if neg a then -(V (mag a) : Int) else V (mag a) := by unfold val neg; by_cases h : S ≤ a <;> simp [h]
    have vb : val b = if neg b then -(V (mag b) : Int) else V (mag b) := by unfold val neg; by_cases h : S ≤ b <;> simp [h]
    by_cases h0 : mag a = 0
    · have e1 : V (mag a) = 0 := by rw [h0]; exact V_zero
      have e2 : V (mag b) = 0 := by
        rw [va, vb, e1] at h
        generalize neg a = p at h
        generalize neg b = q at h
        cases p <;> cases q <;> simp only [Bool.false_eq_true, if_true, if_false] at h <;> omega
      have h0b : mag b = 0 := V_inj (by rw [e2]; exact V_zero.symm)
      exact .inl ⟨feq_zero_true ha h0, feq_zero_true hb h0b⟩
    · refine .inr ⟨feq_zero_false ha (by omega), fun e => ?_⟩
      have e1 : V (mag a) ≠ 0 := fun e => h0 (V_inj (by rw [e]; exact V_zero.symm))
      rw [va, vb, ← e] at h
      generalize neg a = p at h
      cases p
      · simp only [Bool.false_eq_true, if_false] at h; omega
      · simp only [if_true] at h; omega
  unfold nul
  rcases key with ⟨h1, h2⟩ | ⟨h1, h2⟩
  · rw [h1, h2]; cases neg a <;> cases neg b <;> cases (mode == 1) <;> rfl
  · rw [h1]; revert h2; cases neg a <;> cases neg b <;> cases (mode == 1) <;> simp
theorem c_not (w : World) : Calls Tryz.prog 44 #[] w fun en wn => en = .returned (.float .f64 9221120237041090560) ∧ w = wn := by
  go_enter Tryz.func44, Tryz.ntmps44
  go_wp2_with (fail)
  refine (c_of _ _).mono ?_
  rintro en wn ⟨rfl, rfl⟩
  go_wp2_with (fail)
  go_ret
  exact ⟨rfl, rfl⟩
theorem c_endless (n : Bool) (w : World) : Calls Tryz.prog 68 #[.bool n] w fun en wn => en = .returned (.float .f64 (word n INF)) ∧ w = wn := by
  cases n
  all_goals
    go_enter Tryz.func68, Tryz.ntmps68
    go_wp2_with (fail)
    refine (c_of _ _).mono ?_
    rintro en wn ⟨rfl, rfl⟩
    go_wp2_with (fail)
    go_ret
    exact ⟨rfl, rfl⟩
theorem c_nought (n : Bool) (w : World) : Calls Tryz.prog 49 #[.bool n] w fun en wn => en = .returned (.float .f64 (word n 0)) ∧ w = wn := by
  cases n
  all_goals
    go_enter Tryz.func49, Tryz.ntmps49
    go_wp2_with (fail)
    refine (c_of _ _).mono ?_
    rintro en wn ⟨rfl, rfl⟩
    go_wp2_with (fail)
    go_ret
    exact ⟨rfl, rfl⟩
theorem c_isZero (x : Nat) (hx : x < 18446744073709551616) (w : World) : Calls Tryz.prog 62 #[.float .f64 x] w fun en wn => en = .returned (.bool (decide (mag x = 0))) ∧ w = wn := by
  have HM := Lib.hid (c_mag x hx w)
  have e : Hid ((((mag x : Nat) : Int) == 0) = decide (mag x = 0)) := by show _ = _; rw [Bool.eq_iff_iff]; simp
  clear hx
  generalize mag x = m at *
  go_enter Tryz.func62, Tryz.ntmps62
  go_wp2_with (fail)
  refine HM.out.mono ?_
  rintro en wn ⟨rfl, rfl⟩
  go_wp2_with (fail)
  go_ret
  exact ⟨by rw [← e.out]; rfl, rfl⟩
theorem t_valid (mode : Int) (w : World) : Calls Tryz.prog 20 #[.int .i64 mode] w fun en wn => en = .returned (.int .i64 (if mode = 1 ∨ mode = 2 ∨ mode = 3 then 0 else 1)) ∧ w = wn := by
  by_cases h1 : mode < 1
  · have t1 : decide (mode < 1) = true := by simp; omega
    rw [if_neg (by omega)]
    go_enter Tryz.func20, Tryz.ntmps20
    go_wp2_with (fail)
    go_ret
    exact ⟨rfl, rfl⟩
  · have t1 : decide (mode < 1) = false := by simp; omega
    by_cases h2 : 3 < mode
    · have t2 : decide (3 < mode) = true := by simp; omega
      rw [if_neg (by omega)]
      go_enter Tryz.func20, Tryz.ntmps20
      go_wp2_with (fail)
      go_ret
      exact ⟨rfl, rfl⟩
    · have t2 : decide (3 < mode) = false := by simp; omega
      rw [if_pos (by omega)]
      go_enter Tryz.func20, Tryz.ntmps20
      go_wp2_with (fail)
      go_ret
      exact ⟨rfl, rfl⟩
theorem t_sign (x : Nat) (hx : x < 18446744073709551616) (w : World) : Calls Tryz.prog 67 #[.float .f64 x] w fun en wn => en = .returned (.bool (neg x)) ∧ w = wn := by
  have HM := Lib.hid (c_neg x hx w)
  clear hx
  go_enter Tryz.func67, Tryz.ntmps67
  go_wp2_with (fail)
  refine HM.out.mono ?_
  rintro en wn ⟨rfl, rfl⟩
  go_wp2_with (fail)
  go_ret
  exact ⟨rfl, rfl⟩
theorem t_Sum0 (a b : Bool) (mode : Int) (w : World) : Calls Tryz.prog 66 #[.bool a, .bool b, .int .i64 mode] w fun en wn => en = .returned (.float .f64 (word (Bool.or (a && b) (mode == 1 && Bool.or a b)) 0)) ∧ w = wn := by
  have HN := Lib.hid (fun n => c_nought n w)
  cases hm : (mode == 1) <;> cases a <;> cases b
  all_goals
    go_enter Tryz.func66, Tryz.ntmps66
    go_wp2_with (fail)
    refine (HN.out _).mono ?_
    rintro en wn ⟨rfl, rfl⟩
    go_wp2_with (fail)
    go_ret
    exact ⟨rfl, rfl⟩
/-- what an exact number comes to. -/
theorem t_R (v : Value) (z e m : Int) (zr L : Nat) (w : World) (h : Ry w v z e) (hL : z.natAbs < 2 ^ L) (hLb : L ≤ 1000000) (he : -1152921504606846976 ≤ e ∧ e ≤ 1152921504606846976) (hm : m = 1 ∨ m = 2 ∨ m = 3) :
    Calls Tryz.prog 48 #[v, .int .i64 m, .float .f64 zr] w fun en wn => en = .returned (.float .f64 (if z = 0 then zr else word (decide (z < 0)) (rnd (cD z.natAbs e) (aim (decide (z < 0)) m)))) ∧ Ext w wn := by
  have HX : Hid (∀ o1, Ext w (w.alloc o1)) := fun o1 => (Ext.refl w).alloc o1
  have HS : Hid (∀ w', Ext w w' → Calls Tryz.prog 74 #[v] w' fun en w'' => en = .returned (.int .i64 (sgnI z)) ∧ Ext w' w'') := fun w' hx' => k_Sgn v z e w' (h.ext hx')
  have HT : Hid (z ≠ 0 → ∀ w', Ext w w' → Calls Tryz.prog 96 #[v, .int .i64 m] w' fun en w'' => en = .returned (.float .f64 (word (decide (z < 0)) (rnd (cD z.natAbs e) (aim (decide (z < 0)) m)))) ∧ Ext w' w'') := fun hz w' hx' => k_To v z e m L w' (h.ext hx') hz hL hLb he hm
  obtain ⟨n, p, l, c, o, E, rfl, -⟩ := h.open
  have HBx : Hid (Bx (w.alloc (.cells #[.bool n, .slice p l c, .int .i64 E] 35)) 35 w.heap.size n (.slice p l c) E) := Bx.new _ _ _ _ _
  clear h hL he hm
  by_cases hz : z = 0
  · have hs := sgnI_zero hz
    rw [hs] at HS
    rw [if_pos hz]
    clear HT hz hs
    go_enter Tryz.func48, Tryz.ntmps48
    go_wp2_with (fail)
    refine (HS.out _ (HX.out _)).mono ?_
    rintro en w1 ⟨rfl, hx⟩
    have H1 := Lib.hid ((HX.out _).trans hx)
    clear hx
    go_wp2_with (fail)
    go_ret
    exact ⟨rfl, H1.out⟩
  · have hs := (sgnI_ne hz).1
    rw [if_neg hz]
    have HT := Lib.hid (HT.out hz)
    generalize word (decide (z < 0)) (rnd (cD z.natAbs e) (aim (decide (z < 0)) m)) = R at *
    generalize sgnI z = s at *
    clear hz
    go_enter Tryz.func48, Tryz.ntmps48
    go_wp2_with (fail)
    refine (HS.out _ (HX.out _)).mono ?_
    rintro en w1 ⟨rfl, hx⟩
    have H1 : Hid (Bx w1 35 w.heap.size n (.slice p l c) E ∧ Ext w w1) := ⟨HBx.out.ext hx, (HX.out _).trans hx⟩
    have a0 := H1.out.1.c0
    have a1 := H1.out.1.c1
    have a2 := H1.out.1.c2
    clear hx
    go_wp2_with (fail)
    refine (HT.out _ H1.out.2).mono ?_
    rintro en w2 ⟨rfl, hx⟩
    have H2 := Lib.hid (H1.out.2.trans hx)
    clear hx
    go_wp2_with (fail)
    go_ret
    exact ⟨rfl, H2.out⟩
end Go.Proofs.YtdpjkddllimcoaaGreatDoor
end

section
/- The reference's rounded sums. -/
namespace Fl
/-- a sum, rounded, of every two floats. -/
noncomputable def tAdd (a b : Nat) (mode : Int) : Nat :=
  if mode = 1 ∨ mode = 2 ∨ mode = 3 then
    if nan a = true ∨ nan b = true then 9221120237041090560
    else if mag a = INF then (if mag b = INF ∧ neg a ≠ neg b then 9221120237041090560 else a)
    else if mag b = INF then b else rSum a b mode
  else 9221120237041090560
end Fl
namespace Go.Proofs.YtdpjkddllimcoaaGreatDoor
open Go.RowKit Fl
set_option maxRecDepth 20000 in
theorem t_Add (a b : Nat) (mode : Int) (w : World) (ha : a < 18446744073709551616) (hb : b < 18446744073709551616) :
    Calls Tryz.prog 16 #[.float .f64 a, .float .f64 b, .int .i64 mode] w fun en wn => en = .returned (.float .f64 (tAdd a b mode)) ∧ Ext w wn := by
  have HV : Hid (∀ w', Calls Tryz.prog 20 #[.int .i64 mode] w' fun en wn => en = .returned (.int .i64 (if mode = 1 ∨ mode = 2 ∨ mode = 3 then 0 else 1)) ∧ w' = wn) := fun w' => t_valid mode w'
  have HNa : Hid (∀ w', Calls Tryz.prog 37 #[.float .f64 a] w' fun en wn => en = .returned (.bool (nan a)) ∧ w' = wn) := fun w' => c_isNaN a ha w'
  have HNb : Hid (∀ w', Calls Tryz.prog 37 #[.float .f64 b] w' fun en wn => en = .returned (.bool (nan b)) ∧ w' = wn) := fun w' => c_isNaN b hb w'
  have HIa : Hid (∀ w', Calls Tryz.prog 38 #[.float .f64 a] w' fun en wn => en = .returned (.bool (decide (mag a = INF))) ∧ w' = wn) := fun w' => c_isInf a ha w'
  have HIb : Hid (∀ w', Calls Tryz.prog 38 #[.float .f64 b] w' fun en wn => en = .returned (.bool (decide (mag b = INF))) ∧ w' = wn) := fun w' => c_isInf b hb w'
  have HGa : Hid (∀ w', Calls Tryz.prog 50 #[.float .f64 a] w' fun en wn => en = .returned (.bool (neg a)) ∧ w' = wn) := fun w' => c_neg a ha w'
  have HGb : Hid (∀ w', Calls Tryz.prog 50 #[.float .f64 b] w' fun en wn => en = .returned (.bool (neg b)) ∧ w' = wn) := fun w' => c_neg b hb w'
  unfold tAdd
  by_cases hm : mode = 1 ∨ mode = 2 ∨ mode = 3
  · rw [if_pos hm] at HV
    rw [if_pos hm]
    by_cases hn : nan a = true ∨ nan b = true
    · rw [if_pos hn]
      by_cases h1 : nan a = true
      · rw [h1] at HNa
        clear hm hn h1 HNb HIa HIb HGa HGb ha hb
        go_enter Tryz.func16, Tryz.ntmps16
        go_wp2_with (fail)
        refine (HV.out _).mono ?_
        rintro en wn ⟨rfl, rfl⟩
        go_wp2_with (fail)
        refine (HNa.out _).mono ?_
        rintro en wn ⟨rfl, rfl⟩
        go_wp2_with (fail)
        refine (c_not _).mono ?_
        rintro en wn ⟨rfl, rfl⟩
        go_wp2_with (fail)
        go_ret
        exact ⟨rfl, Ext.refl _⟩
      · have h2 : nan b = true := hn.resolve_left h1
        rw [Bool.not_eq_true] at h1
        rw [h1] at HNa
        rw [h2] at HNb
        clear hm hn h1 h2 HIa HIb HGa HGb ha hb
        go_enter Tryz.func16, Tryz.ntmps16
        go_wp2_with (fail)
        refine (HV.out _).mono ?_
        rintro en wn ⟨rfl, rfl⟩
        go_wp2_with (fail)
        refine (HNa.out _).mono ?_
        rintro en wn ⟨rfl, rfl⟩
        go_wp2_with (fail)
        refine (HNb.out _).mono ?_
        rintro en wn ⟨rfl, rfl⟩
        go_wp2_with (fail)
        refine (c_not _).mono ?_
        rintro en wn ⟨rfl, rfl⟩
        go_wp2_with (fail)
        go_ret
        exact ⟨rfl, Ext.refl _⟩
    · rw [if_neg hn]
      have h1 : nan a = false := by rw [← Bool.not_eq_true]; exact fun h => hn (.inl h)
      have h2 : nan b = false := by rw [← Bool.not_eq_true]; exact fun h => hn (.inr h)
      rw [h1] at HNa
      rw [h2] at HNb
      by_cases ia : mag a = INF
      · rw [if_pos ia]
        rw [show decide (mag a = INF) = true by simp [ia]] at HIa
        by_cases ib : mag b = INF
        · rw [show decide (mag b = INF) = true by simp [ib]] at HIb
          by_cases hs : neg a = neg b
          · rw [if_neg (fun h => h.2 hs)]
            rw [hs] at HGa
            have t0 : (neg b == neg b) = true := by simp
            generalize neg b = nb at *
            clear hm hn h1 h2 ia ib hs ha hb
            go_enter Tryz.func16, Tryz.ntmps16
            go_wp2_with (fail)
            refine (HV.out _).mono ?_
            rintro en wn ⟨rfl, rfl⟩
            go_wp2_with (fail)
            refine (HNa.out _).mono ?_
            rintro en wn ⟨rfl, rfl⟩
            go_wp2_with (fail)
            refine (HNb.out _).mono ?_
            rintro en wn ⟨rfl, rfl⟩
            go_wp2_with (fail)
            refine (HIa.out _).mono ?_
            rintro en wn ⟨rfl, rfl⟩
            go_wp2_with (fail)
            refine (HIb.out _).mono ?_
            rintro en wn ⟨rfl, rfl⟩
            go_wp2_with (fail)
            refine (HGa.out _).mono ?_
            rintro en wn ⟨rfl, rfl⟩
            go_wp2_with (fail)
            refine (HGb.out _).mono ?_
            rintro en wn ⟨rfl, rfl⟩
            go_wp2_with (fail)
            go_ret
            exact ⟨rfl, Ext.refl _⟩
          · rw [if_pos ⟨ib, hs⟩]
            have t0 : (neg a == neg b) = false := by simp [hs]
            generalize neg a = na at *
            generalize neg b = nb at *
            clear hm hn h1 h2 ia ib hs ha hb
            go_enter Tryz.func16, Tryz.ntmps16
            go_wp2_with (fail)
            refine (HV.out _).mono ?_
            rintro en wn ⟨rfl, rfl⟩
            go_wp2_with (fail)
            refine (HNa.out _).mono ?_
            rintro en wn ⟨rfl, rfl⟩
            go_wp2_with (fail)
            refine (HNb.out _).mono ?_
            rintro en wn ⟨rfl, rfl⟩
            go_wp2_with (fail)
            refine (HIa.out _).mono ?_
            rintro en wn ⟨rfl, rfl⟩
            go_wp2_with (fail)
            refine (HIb.out _).mono ?_
            rintro en wn ⟨rfl, rfl⟩
            go_wp2_with (fail)
            refine (HGa.out _).mono ?_
            rintro en wn ⟨rfl, rfl⟩
            go_wp2_with (fail)
            refine (HGb.out _).mono ?_
            rintro en wn ⟨rfl, rfl⟩
            go_wp2_with (fail)
            refine (c_not _).mono ?_
            rintro en wn ⟨rfl, rfl⟩
            go_wp2_with (fail)
            go_ret
            exact ⟨rfl, Ext.refl _⟩
        · rw [if_neg (fun h => ib h.1)]
          rw [show decide (mag b = INF) = false by simp [ib]] at HIb
          clear hm hn h1 h2 ia ib ha hb HGa HGb
          go_enter Tryz.func16, Tryz.ntmps16
          go_wp2_with (fail)
          refine (HV.out _).mono ?_
          rintro en wn ⟨rfl, rfl⟩
          go_wp2_with (fail)
          refine (HNa.out _).mono ?_
          rintro en wn ⟨rfl, rfl⟩
          go_wp2_with (fail)
          refine (HNb.out _).mono ?_
          rintro en wn ⟨rfl, rfl⟩
          go_wp2_with (fail)
          refine (HIa.out _).mono ?_
          rintro en wn ⟨rfl, rfl⟩
          go_wp2_with (fail)
          refine (HIb.out _).mono ?_
          rintro en wn ⟨rfl, rfl⟩
          go_wp2_with (fail)
          refine (HIa.out _).mono ?_
          rintro en wn ⟨rfl, rfl⟩
          go_wp2_with (fail)
          go_ret
          exact ⟨rfl, Ext.refl _⟩
      · rw [if_neg ia]
        rw [show decide (mag a = INF) = false by simp [ia]] at HIa
        by_cases ib : mag b = INF
        · rw [if_pos ib]
          rw [show decide (mag b = INF) = true by simp [ib]] at HIb
          clear hm hn h1 h2 ia ib ha hb HGa HGb
          go_enter Tryz.func16, Tryz.ntmps16
          go_wp2_with (fail)
          refine (HV.out _).mono ?_
          rintro en wn ⟨rfl, rfl⟩
          go_wp2_with (fail)
          refine (HNa.out _).mono ?_
          rintro en wn ⟨rfl, rfl⟩
          go_wp2_with (fail)
          refine (HNb.out _).mono ?_
          rintro en wn ⟨rfl, rfl⟩
          go_wp2_with (fail)
          refine (HIa.out _).mono ?_
          rintro en wn ⟨rfl, rfl⟩
          go_wp2_with (fail)
          refine (HIa.out _).mono ?_
          rintro en wn ⟨rfl, rfl⟩
          go_wp2_with (fail)
          refine (HIb.out _).mono ?_
          rintro en wn ⟨rfl, rfl⟩
          go_wp2_with (fail)
          go_ret
          exact ⟨rfl, Ext.refl _⟩
        · rw [if_neg ib]
          rw [show decide (mag b = INF) = false by simp [ib]] at HIb
          have fa : mag a < INF := by have := nnan_le h1; omega
          have fb : mag b < INF := by have := nnan_le h2; omega
          have HFa : Hid (∀ w', Calls Tryz.prog 30 #[.float .f64 a] w' fun en w'' => ∃ v, en = .returned v ∧ Ext w' w'' ∧ Ry w'' v (val a) (-1074)) := fun w' => k_Float a ha w'
          have HFb : Hid (∀ w', Calls Tryz.prog 30 #[.float .f64 b] w' fun en w'' => ∃ v, en = .returned v ∧ Ext w' w'' ∧ Ry w'' v (val b) (-1074)) := fun w' => k_Float b hb w'
          have HP : Hid (∀ w' u v, Ry w' u (val a) (-1074) → Ry w' v (val b) (-1074) → Calls Tryz.prog 32 #[u, v] w' fun en w'' => ∃ v, en = .returned v ∧ Ext w' w'' ∧ Ry w'' v (val a + val b) (-1074)) := fun w' u v g1 g2 => k_Plus u v _ _ (-1074) 2100 w' g1 g2 (val_bits fa) (val_bits fb) (by decide) (by decide)
          have HSa : Hid (∀ w', Calls Tryz.prog 67 #[.float .f64 a] w' fun en wn => en = .returned (.bool (neg a)) ∧ w' = wn) := fun w' => t_sign a ha w'
          have HSb : Hid (∀ w', Calls Tryz.prog 67 #[.float .f64 b] w' fun en wn => en = .returned (.bool (neg b)) ∧ w' = wn) := fun w' => t_sign b hb w'
          have HS0 : Hid (∀ w', Calls Tryz.prog 66 #[.bool (neg a), .bool (neg b), .int .i64 mode] w' fun en wn => en = .returned (.float .f64 (word (Bool.or (neg a && neg b) (mode == 1 && Bool.or (neg a) (neg b))) 0)) ∧ w' = wn) := fun w' => t_Sum0 (neg a) (neg b) mode w'
          have HR : Hid (∀ w' v, Ry w' v (val a + val b) (-1074) → Calls Tryz.prog 48 #[v, .int .i64 mode, .float .f64 (word (Bool.or (neg a && neg b) (mode == 1 && Bool.or (neg a) (neg b))) 0)] w' fun en w'' => en = .returned (.float .f64 (rSum a b mode)) ∧ Ext w' w'') := by
            intro w' v g
            have h := t_R v (val a + val b) (-1074) mode (word (Bool.or (neg a && neg b) (mode == 1 && Bool.or (neg a) (neg b))) 0) (2100 + 1) w' g (natAbs_add_lt (val_bits fa) (val_bits fb)) (by decide) (by decide) hm
            have e : (if val a + val b = 0 then word (Bool.or (neg a && neg b) (mode == 1 && Bool.or (neg a) (neg b))) 0 else word (decide (val a + val b < 0)) (rnd (cD (val a + val b).natAbs (-1074)) (aim (decide (val a + val b < 0)) mode))) = rSum a b mode := by
              unfold rSum
              by_cases h0 : val a + val b = 0
              · rw [if_pos h0, if_pos h0, nul_sum ha hb h0]
              · rw [if_neg h0, if_neg h0]
            rw [e] at h
            exact h
          generalize word (Bool.or (neg a && neg b) (mode == 1 && Bool.or (neg a) (neg b))) 0 = Z at *
          generalize neg a = na at *
          generalize neg b = nb at *
          generalize rSum a b mode = R at *
          generalize val a + val b = s at *
          clear hm hn h1 h2 ia ib ha hb HGa HGb fa fb
          go_enter Tryz.func16, Tryz.ntmps16
          go_wp2_with (fail)
          refine (HV.out _).mono ?_
          rintro en wn ⟨rfl, rfl⟩
          go_wp2_with (fail)
          refine (HNa.out _).mono ?_
          rintro en wn ⟨rfl, rfl⟩
          go_wp2_with (fail)
          refine (HNb.out _).mono ?_
          rintro en wn ⟨rfl, rfl⟩
          go_wp2_with (fail)
          refine (HIa.out _).mono ?_
          rintro en wn ⟨rfl, rfl⟩
          go_wp2_with (fail)
          refine (HIa.out _).mono ?_
          rintro en wn ⟨rfl, rfl⟩
          go_wp2_with (fail)
          refine (HIb.out _).mono ?_
          rintro en wn ⟨rfl, rfl⟩
          go_wp2_with (fail)
          refine (HFa.out _).mono ?_
          rintro en w1 ⟨v1, rfl, hx, hd⟩
          have H1 := Lib.hid (And.intro hx hd)
          clear hx hd
          go_wp2_with (fail)
          refine (HFb.out _).mono ?_
          rintro en w2 ⟨v2, rfl, hx, hd⟩
          have H2 := Lib.hid (And.intro (H1.out.1.trans hx) (And.intro (H1.out.2.ext hx) hd))
          clear hx hd
          go_wp2_with (fail)
          refine (HP.out _ v1 v2 H2.out.2.1 H2.out.2.2).mono ?_
          rintro en w3 ⟨v3, rfl, hx, hd⟩
          have H3 := Lib.hid (And.intro (H2.out.1.trans hx) hd)
          clear hx hd
          go_wp2_with (fail)
          refine (HSa.out _).mono ?_
          rintro en wn ⟨rfl, rfl⟩
          go_wp2_with (fail)
          refine (HSb.out _).mono ?_
          rintro en wn ⟨rfl, rfl⟩
          go_wp2_with (fail)
          refine (HS0.out _).mono ?_
          rintro en wn ⟨rfl, rfl⟩
          go_wp2_with (fail)
          refine (HR.out _ v3 H3.out.2).mono ?_
          rintro en w4 ⟨rfl, hx⟩
          have H4 := Lib.hid (H3.out.1.trans hx)
          clear hx
          go_wp2_with (fail)
          go_ret
          exact ⟨rfl, H4.out⟩
  · rw [if_neg hm] at HV
    rw [if_neg hm]
    clear hm HNa HNb HIa HIb HGa HGb ha hb
    go_enter Tryz.func16, Tryz.ntmps16
    go_wp2_with (fail)
    refine (HV.out _).mono ?_
    rintro en wn ⟨rfl, rfl⟩
    go_wp2_with (fail)
    refine (c_not _).mono ?_
    rintro en wn ⟨rfl, rfl⟩
    go_wp2_with (fail)
    go_ret
    exact ⟨rfl, Ext.refl _⟩
theorem t_Sub (a b : Nat) (mode : Int) (w : World) (ha : a < 18446744073709551616) (hb : b < 18446744073709551616) :
    Calls Tryz.prog 18 #[.float .f64 a, .float .f64 b, .int .i64 mode] w fun en wn => en = .returned (.float .f64 (if nan b = true then 9221120237041090560 else tAdd a (turned b) mode)) ∧ Ext w wn := by
  have HNb : Hid (∀ w', Calls Tryz.prog 37 #[.float .f64 b] w' fun en wn => en = .returned (.bool (nan b)) ∧ w' = wn) := fun w' => c_isNaN b hb w'
  have HT : Hid (∀ w', Calls Tryz.prog 34 #[.float .f64 b] w' fun en wn => en = .returned (.float .f64 (turned b)) ∧ w' = wn) := fun w' => c_turned b hb w'
  have HA : Hid (∀ w', Calls Tryz.prog 16 #[.float .f64 a, .float .f64 (turned b), .int .i64 mode] w' fun en w'' => en = .returned (.float .f64 (tAdd a (turned b) mode)) ∧ Ext w' w'') := fun w' => t_Add a (turned b) mode w' ha (turned_lt hb)
  clear ha hb
  by_cases h : nan b = true
  · rw [if_pos h]
    rw [h] at HNb
    clear h HT HA
    go_enter Tryz.func18, Tryz.ntmps18
    go_wp2_with (fail)
    refine (HNb.out _).mono ?_
    rintro en wn ⟨rfl, rfl⟩
    go_wp2_with (fail)
    refine (c_not _).mono ?_
    rintro en wn ⟨rfl, rfl⟩
    go_wp2_with (fail)
    go_ret
    exact ⟨rfl, Ext.refl _⟩
  · rw [if_neg h]
    rw [Bool.not_eq_true] at h
    rw [h] at HNb
    generalize tAdd a (turned b) mode = R at *
    clear h
    go_enter Tryz.func18, Tryz.ntmps18
    go_wp2_with (fail)
    refine (HNb.out _).mono ?_
    rintro en wn ⟨rfl, rfl⟩
    go_wp2_with (fail)
    refine (HT.out _).mono ?_
    rintro en wn ⟨rfl, rfl⟩
    go_wp2_with (fail)
    refine (HA.out _).mono ?_
    rintro en w1 ⟨rfl, hx⟩
    have HX := Lib.hid hx
    clear hx
    go_wp2_with (fail)
    go_ret
    exact ⟨rfl, HX.out⟩
end Go.Proofs.YtdpjkddllimcoaaGreatDoor
end

section
/- Rounded sums of every two floats: the program's. -/
namespace Fl
theorem sameF_self (r : Nat) : sameF r r = true := by unfold sameF; simp
theorem sameF_nan {r t : Nat} (h1 : nan r = true) (h2 : nan t = true) : sameF r t = true := by unfold sameF; simp [h1, h2]
theorem nan_QN : nan 9221120237041090560 = true := by decide
theorem nan_PN : nan 9221120237041090561 = true := by decide
theorem sum_lt (a b : Nat) (mode : Int) : rSum a b mode < 18446744073709551616 := by
  unfold rSum
  split
  · exact word_lt (by decide)
  · exact word_lt (by have := @rnd_le (cD (val a + val b).natAbs (-1074)) (aim (decide (val a + val b < 0)) mode); unfold INF at this; unfold S; omega)
theorem mag_turned {b : Nat} (hb : b < 18446744073709551616) : mag (turned b) = mag b := by
  unfold turned mag S
  split <;> omega
theorem nan_turned {b : Nat} (hb : b < 18446744073709551616) : nan (turned b) = nan b := by unfold nan; rw [mag_turned hb]
theorem tAdd_nan_r {a b : Nat} {mode : Int} (h : nan b = true) : tAdd a b mode = 9221120237041090560 := by
  unfold tAdd
  split
  · rw [if_pos (.inr h)]
  · rfl
end Fl
namespace Go.Proofs.YtdpjkddllimcoaaGreatDoor
open Go.RowKit Fl
theorem u_Add_inf (a b : Nat) (mode : Int) (ha : a < 18446744073709551616) (hb : b < 18446744073709551616) (hm : mode = 1 ∨ mode = 2 ∨ mode = 3) (h1 : nan a = false) (h2 : nan b = false) (hi : mag a = INF ∨ mag b = INF) (w : World) :
    Calls Tryz.prog 15 #[.float .f64 a, .float .f64 b, .int .i64 mode] w fun en w' => ∃ R, en = .returned (.float .f64 R) ∧ Ext w w' ∧ R < 18446744073709551616 ∧ sameF R (tAdd a b mode) = true := by
  have HVa := Lib.hid (r_valid mode w hm)
  have HIa := Lib.hid (r_infinite a ha w)
  have HIb := Lib.hid (r_infinite b hb w)
  have t1 := nnan_feq ha h1
  have t2 := nnan_feq hb h2
  have hn : ¬ (nan a = true ∨ nan b = true) := by rw [h1, h2]; simp
  have hT : tAdd a b mode = if mag a = INF then (if mag b = INF ∧ neg a ≠ neg b then 9221120237041090560 else a) else b := by
    unfold tAdd
    rw [if_pos hm, if_neg hn]
    by_cases ia : mag a = INF
    · rw [if_pos ia, if_pos ia]
    · rw [if_neg ia, if_neg ia, if_pos (hi.resolve_left ia)]
  rw [hT]
  have HD : Hid (Ext w w.drew ∧ nan (cutNan w a b) = true ∧ cutNan w a b < 18446744073709551616) := ⟨(Ext.refl w).drew, cutNan_nan w a b⟩
  have HAB := Lib.hid (And.intro ha hb)
  by_cases ia : mag a = INF
  · rw [if_pos ia]
    rw [show decide (mag a = INF) = true by simp [ia]] at HIa
    by_cases ib : mag b = INF ∧ neg a ≠ neg b
    · rw [if_pos ib]
      have hN := run_add_nan (P := Tryz.prog) (w := w) 22 (add_inf_opp ha hb ia ib.1 ib.2)
      clear hm h1 h2 hn hT ia ib hi ha hb HIb
      go_enter Tryz.func15, Tryz.ntmps15
      go_wp2_with (fail)
      refine HVa.out.mono ?_
      rintro en wn ⟨rfl, rfl⟩
      go_wp2_with (fail)
      refine HIa.out.mono ?_
      rintro en wn ⟨rfl, rfl⟩
      go_wp2_with (fail)
      go_ret
      exact ⟨_, rfl, HD.out.1, HD.out.2.2, sameF_nan HD.out.2.1 nan_QN⟩
    · rw [if_neg ib]
      have hadd : Go.FloatKind.f64.format.add a b = some a := by
        by_cases hbi : mag b = INF
        · exact add_inf_same ha hb ia hbi (Classical.byContradiction fun h => ib ⟨hbi, h⟩)
        · exact add_inf_l ha hb ia (by have := nnan_le h2; omega)
      have hN := run_add_float (P := Tryz.prog) (w := w) 22 hadd
      clear hm h1 h2 hn hT ia ib hi ha hb HIb hadd
      go_enter Tryz.func15, Tryz.ntmps15
      go_wp2_with (fail)
      refine HVa.out.mono ?_
      rintro en wn ⟨rfl, rfl⟩
      go_wp2_with (fail)
      refine HIa.out.mono ?_
      rintro en wn ⟨rfl, rfl⟩
      go_wp2_with (fail)
      go_ret
      exact ⟨_, rfl, Ext.refl w, HAB.out.1, sameF_self _⟩
  · rw [if_neg ia]
    have ib := hi.resolve_left ia
    rw [show decide (mag a = INF) = false by simp [ia]] at HIa
    rw [show decide (mag b = INF) = true by simp [ib]] at HIb
    have hN := run_add_float (P := Tryz.prog) (w := w) 22 (add_inf_r ha hb (by have := nnan_le h1; omega) ib)
    clear hm h1 h2 hn hT ia ib hi ha hb
    go_enter Tryz.func15, Tryz.ntmps15
    go_wp2_with (fail)
    refine HVa.out.mono ?_
    rintro en wn ⟨rfl, rfl⟩
    go_wp2_with (fail)
    refine HIa.out.mono ?_
    rintro en wn ⟨rfl, rfl⟩
    go_wp2_with (fail)
    refine HIb.out.mono ?_
    rintro en wn ⟨rfl, rfl⟩
    go_wp2_with (fail)
    go_ret
    exact ⟨_, rfl, Ext.refl w, HAB.out.2, sameF_self _⟩
theorem u_Add (a b : Nat) (mode : Int) (ha : a < 18446744073709551616) (hb : b < 18446744073709551616) (w : World) (hT : Tab32 w) :
    Calls Tryz.prog 15 #[.float .f64 a, .float .f64 b, .int .i64 mode] w fun en w' => ∃ R, en = .returned (.float .f64 R) ∧ Ext w w' ∧ R < 18446744073709551616 ∧ sameF R (tAdd a b mode) = true := by
  by_cases hm : mode = 1 ∨ mode = 2 ∨ mode = 3
  · by_cases hn : nan a = true ∨ nan b = true
    · refine (r_Add_nan a b mode ha hb hm hn w).mono ?_
      rintro en wn ⟨rfl, rfl⟩
      refine ⟨_, rfl, Ext.refl _, by decide, sameF_nan nan_PN ?_⟩
      unfold tAdd
      rw [if_pos hm, if_pos hn]
      exact nan_QN
    · have h1 : nan a = false := by rw [← Bool.not_eq_true]; exact fun h => hn (.inl h)
      have h2 : nan b = false := by rw [← Bool.not_eq_true]; exact fun h => hn (.inr h)
      by_cases hi : mag a = INF ∨ mag b = INF
      · exact u_Add_inf a b mode ha hb hm h1 h2 hi w
      · have fa : mag a < INF := by have := nnan_le h1; have : mag a ≠ INF := fun h => hi (.inl h); omega
        have fb : mag b < INF := by have := nnan_le h2; have : mag b ≠ INF := fun h => hi (.inr h); omega
        refine (r_Add_fin a b mode ha hb fa fb hm w hT).mono ?_
        rintro en wn ⟨rfl, hx⟩
        refine ⟨_, rfl, hx, sum_lt a b mode, ?_⟩
        unfold tAdd
        rw [if_pos hm, if_neg hn, if_neg (by omega), if_neg (by omega)]
        exact sameF_self _
  · refine (r_Add_bad a b mode hm w).mono ?_
    rintro en wn ⟨rfl, rfl⟩
    refine ⟨_, rfl, Ext.refl _, by decide, sameF_nan nan_PN ?_⟩
    unfold tAdd
    rw [if_neg hm]
    exact nan_QN
theorem u_Sub (a b : Nat) (mode : Int) (ha : a < 18446744073709551616) (hb : b < 18446744073709551616) (w : World) (hT : Tab32 w) :
    Calls Tryz.prog 17 #[.float .f64 a, .float .f64 b, .int .i64 mode] w fun en w' => ∃ R, en = .returned (.float .f64 R) ∧ Ext w w' ∧ R < 18446744073709551616 ∧ sameF R (if nan b = true then 9221120237041090560 else tAdd a (turned b) mode) = true := by
  have HA := Lib.hid (u_Add a (turned b) mode ha (turned_lt hb) w hT)
  have e : (if nan b = true then 9221120237041090560 else tAdd a (turned b) mode) = tAdd a (turned b) mode := by
    by_cases h : nan b = true
    · rw [if_pos h, tAdd_nan_r (by rw [nan_turned hb]; exact h)]
    · rw [if_neg h]
  rw [e]
  have hN := run_neg_float (P := Tryz.prog) b hb w
  clear hT e hb ha
  go_enter Tryz.func17, Tryz.ntmps17
  go_wp2_with (fail)
  refine HA.out.mono ?_
  rintro en w1 ⟨R, rfl, hx, h1, h2⟩
  have HX := Lib.hid (And.intro hx (And.intro h1 h2))
  clear hx h1 h2
  go_wp2_with (fail)
  go_ret
  exact ⟨_, rfl, HX.out⟩
end Go.Proofs.YtdpjkddllimcoaaGreatDoor
end

section
/- What comes whatever the input is: the closed call. -/
namespace Fl
/-- the closed values, told by one power of two. -/
theorem vals_sure : ∃ p k : Nat, 0 < p ∧ (k = 1022 ∧ p = 2 ^ k) ∧ val 4607182418800017408 = ((4503599627370496 * p : Nat) : Int) ∧ val 4613937818241073152 = ((3 * (4503599627370496 * p) : Nat) : Int) ∧ val 4616189618054758400 = ((4 * (4503599627370496 * p) : Nat) : Int) ∧ val 4617315517961601024 = ((5 * (4503599627370496 * p) : Nat) : Int) := by
  obtain ⟨k, hk⟩ : ∃ k : Nat, k = 1022 := ⟨_, rfl⟩
  have e1 := V_at (r := 4607182418800017408) k 4503599627370496 (by decide) (by rw [hk]; decide) (by decide)
  have e2 := V_at (r := 4613937818241073152) (k + 1) 6755399441055744 (by decide) (by rw [hk]; decide) (by decide)
  have e3 := V_at (r := 4616189618054758400) (k + 2) 4503599627370496 (by decide) (by rw [hk]; decide) (by decide)
  have e4 := V_at (r := 4617315517961601024) (k + 2) 5629499534213120 (by decide) (by rw [hk]; decide) (by decide)
  have p1 := Nat.pow_succ 2 k
  have p2 := Nat.pow_succ 2 (k + 1)
  refine ⟨2 ^ k, k, Nat.two_pow_pos k, ⟨hk, rfl⟩, ?_, ?_, ?_, ?_⟩
  · rw [val_pos (by decide), e1]
  · rw [val_pos (by decide), e2, p1]; clear e1 e2 e3 e4 p2; generalize 2 ^ k = t at *; omega
  · rw [val_pos (by decide), e3, p2, p1]; clear e1 e2 e3 e4; generalize 2 ^ k = t at *; omega
  · rw [val_pos (by decide), e4, p2, p1]; clear e1 e2 e3 e4; generalize 2 ^ k = t at *; omega
theorem third {u t m : Nat} (hu : 0 < u) (ht : 0 < t) (hm : m = t * 18014398509481984) : cQ (u * m) (3 * u) (6004799503160661 * t) = .gt ∧ cQ (u * m) (3 * u) ((6004799503160661 + 1) * t) = .lt := by
  have hp : 0 < u * t := Nat.mul_pos hu ht
  have e0 : u * m = 18014398509481984 * (u * t) := by rw [hm]; rw [Nat.mul_comm t, Nat.mul_left_comm]
  have e1 : 6004799503160661 * t * (3 * u) = 18014398509481983 * (u * t) := by
    rw [show 6004799503160661 * t * (3 * u) = (6004799503160661 * 3) * (u * t) by ac_rfl]
  have e2 : (6004799503160661 + 1) * t * (3 * u) = 18014398509481986 * (u * t) := by
    rw [show (6004799503160661 + 1) * t * (3 * u) = (6004799503160662 * 3) * (u * t) by ac_rfl]
  rw [cQ_gt, cQ_lt, e0, e1, e2]
  generalize u * t = z at *
  constructor <;> omega
theorem quo_sure : rQuo 4607182418800017408 4613937818241073152 1 = 4599676419421066581 ∧ rQuo 4607182418800017408 4613937818241073152 3 = 4599676419421066582 := by
  obtain ⟨p, -, hp, -, v1, v3, -, -⟩ := vals_sure
  have key : ∀ d, d = 0 ∨ d = 2 → rnd (cR (4503599627370496 * p) (3 * (4503599627370496 * p)) (-1074 - -1074)) d = 1020 * B + (if d = 0 then 6004799503160661 else 6004799503160662) := by
    intro d hd
    generalize hu : 4503599627370496 * p = u at *
    have hu0 : 0 < u := by omega
    have hc : cR u (3 * u) (-1074 - -1074) = cQ (u * 2 ^ 1075) (3 * u) := by
      unfold cR
      rw [show ((-1074 : Int) - -1074 + 1075).toNat = 1075 by decide, show (-((-1074 : Int) - -1074 + 1075)).toNat = 0 by decide, Nat.pow_zero, Nat.mul_one]
    rw [hc]
    obtain ⟨l, hl⟩ : ∃ l : Nat, l = 1020 := ⟨_, rfl⟩
    have hm : (2 : Nat) ^ 1075 = 2 ^ (l + 1) * 18014398509481984 := by
      rw [show (18014398509481984 : Nat) = 2 ^ 54 by decide, ← Nat.pow_add]
      congr 1; omega
    obtain ⟨g1, g2⟩ := third hu0 (Nat.two_pow_pos (l + 1)) hm
    generalize (2 : Nat) ^ 1075 = M at *
    have h := rnd_lq (cQ_anti (u * M) (3 * u)) (d := d) (l := l) (q := 6004799503160661) (by decide) (.inr (by decide)) (by rw [g1]; decide) g2 (by rw [hl]; decide)
    rw [h]
    rcases hd with rfl | rfl
    · rw [if_pos rfl, if_pos rfl, hl]
    · rw [if_neg (by decide), if_pos rfl, if_neg (by rw [g1]; decide), if_neg (by decide), hl]
  have hw : ∀ m, rQuo 4607182418800017408 4613937818241073152 m = rnd (cR (4503599627370496 * p) (3 * (4503599627370496 * p)) (-1074 - -1074)) (aim false m) := by
    intro m
    unfold rQuo
    rw [v1, v3, Int.natAbs_natCast, Int.natAbs_natCast, show decide (((4503599627370496 * p : Nat) : Int) < 0) = false by simp; omega, show decide (((3 * (4503599627370496 * p) : Nat) : Int) < 0) = false by simp; omega]
    rfl
  rw [hw, hw]
  constructor
  · rw [show aim false 1 = 0 from rfl, key 0 (.inl rfl)]; decide
  · rw [show aim false 3 = 2 from rfl, key 2 (.inr rfl)]; decide
theorem hyp_sure : rHyp 4613937818241073152 4616189618054758400 3 = 4617315517961601024 ∧ val 4613937818241073152 * val 4613937818241073152 + val 4616189618054758400 * val 4616189618054758400 ≠ 0 := by
  obtain ⟨p, k, hp, ⟨hk, hpp⟩, -, v3, v4, -⟩ := vals_sure
  have hs : val 4613937818241073152 * val 4613937818241073152 + val 4616189618054758400 * val 4616189618054758400 = ((25 * ((4503599627370496 * p) * (4503599627370496 * p)) : Nat) : Int) := by
    rw [v3, v4]
    generalize 4503599627370496 * p = u
    rw [← Int.natCast_mul, ← Int.natCast_mul, ← Int.natCast_add]
    congr 1
    rw [show 3 * u * (3 * u) = 9 * (u * u) by rw [show 3 * u * (3 * u) = (3 * 3) * (u * u) by ac_rfl], show 4 * u * (4 * u) = 16 * (u * u) by rw [show 4 * u * (4 * u) = (4 * 4) * (u * u) by ac_rfl]]
    omega
  have hn : 0 < 25 * ((4503599627370496 * p) * (4503599627370496 * p)) := by
    have : 0 < 4503599627370496 * p := by omega
    exact Nat.mul_pos (by decide) (Nat.mul_pos this this)
  rw [hs]
  refine ⟨?_, by omega⟩
  unfold rHyp
  rw [hs, if_neg (by omega), Int.natAbs_natCast]
  obtain ⟨l, hl⟩ : ∃ l : Nat, l = 1024 := ⟨_, rfl⟩
  have hu : 4503599627370496 * p = 2 ^ (l + 1) * 562949953421312 := by
    rw [hpp, show (4503599627370496 : Nat) = 2 ^ 52 by decide, show (562949953421312 : Nat) = 2 ^ 49 by decide, ← Nat.pow_add, ← Nat.pow_add]
    congr 1; omega
  have hc : cT (25 * ((4503599627370496 * p) * (4503599627370496 * p))) (-2148) = cS (25 * ((4503599627370496 * p) * (4503599627370496 * p)) * 4) 1 := by
    unfold cT
    rw [show ((-2148 : Int) + 2150).toNat = 2 by decide, show (-((-2148 : Int) + 2150)).toNat = 0 by decide, Nat.pow_zero]
  rw [hc, hu]
  have ht := Nat.two_pow_pos (l + 1)
  generalize ht2 : (2 : Nat) ^ (l + 1) = t at *
  have e1 : 25 * ((t * 562949953421312) * (t * 562949953421312)) * 4 = (5629499534213120 * t) * (5629499534213120 * t) := by
    rw [show (5629499534213120 * t) * (5629499534213120 * t) = (5629499534213120 * 5629499534213120) * (t * t) by ac_rfl, show 25 * ((t * 562949953421312) * (t * 562949953421312)) * 4 = (25 * 562949953421312 * 562949953421312 * 4) * (t * t) by ac_rfl]
  have g1 : cS (25 * ((t * 562949953421312) * (t * 562949953421312)) * 4) 1 (5629499534213120 * t) = .eq := by rw [cS_eq, e1, Nat.mul_one]
  have g2 : cS (25 * ((t * 562949953421312) * (t * 562949953421312)) * 4) 1 ((5629499534213120 + 1) * t) = .lt := by
    rw [cS_lt, e1, Nat.mul_one]
    exact Nat.mul_self_lt_mul_self (Nat.mul_lt_mul_of_pos_right (by decide) ht)
  have h := rnd_lq (cS_anti (25 * ((t * 562949953421312) * (t * 562949953421312)) * 4) 1) (d := 2) (l := l) (q := 5629499534213120) (by decide) (.inr (by decide)) (by rw [ht2, g1]; decide) (by rw [ht2]; exact g2) (by rw [hl]; decide)
  rw [show aim false 3 = 2 from rfl, h, if_neg (by decide), if_pos rfl, ht2, if_pos g1, hl]
  decide
theorem rest_sure : rRest 4617315517961601024 4613937818241073152 = 13830554455654793216 := by
  obtain ⟨p, -, hp, -, v1, v3, -, v5⟩ := vals_sure
  have hu0 : 0 < 4503599627370496 * p := by omega
  have hr : rest (val 4617315517961601024) (val 4613937818241073152) = -(val 4607182418800017408) := by
    rw [v1, v3, v5]
    generalize 4503599627370496 * p = u at *
    have hq : ((5 * u : Nat) : Int).fdiv ((3 * u : Nat) : Int) = 1 := by
      rw [Int.fdiv_eq_ediv_of_nonneg _ (by omega), ← Int.natCast_ediv, Nat.div_eq_of_lt_le (k := 1) (by omega) (by omega)]
      rfl
    unfold rest
    simp only [hq]
    rw [if_pos (.inl (by omega))]
    omega
  have hv : val 4607182418800017408 = (V 4607182418800017408 : Int) := by rw [val_pos (by decide)]
  have hneg : val 4607182418800017408 > 0 := by rw [v1]; omega
  unfold rRest
  rw [hr, if_neg (by omega), show decide (-val 4607182418800017408 < 0) = true by simp; omega, Int.natAbs_neg, hv, Int.natAbs_natCast, rnd_V (by decide)]
  rfl
end Fl
end

section
/- What comes whatever the input is: the closed call's walk. -/
namespace Go.Proofs.YtdpjkddllimcoaaGreatDoor
open Go.RowKit Fl
theorem l_same (a b : Nat) (ha : a < 18446744073709551616) (hb : b < 18446744073709551616) (w : World) : Calls Tryz.prog 9 #[.float .f64 a, .float .f64 b] w fun en wn => en = .returned (.bool (sameF a b)) ∧ w = wn := by
  have HS := Lib.hid (c_same a b ha hb w)
  clear ha hb
  go_enter Tryz.func9, Tryz.ntmps9
  go_wp2_with (fail)
  refine HS.out.mono ?_
  rintro en wn ⟨rfl, rfl⟩
  go_wp2_with (fail)
  go_ret
  exact ⟨rfl, rfl⟩
set_option maxRecDepth 20000 in
theorem l_sure (w : World) (hT : Tab32 w) : Calls Tryz.prog 14 #[] w fun en wn => en = .returned (.bool true) ∧ Ext w wn := by
  have H1 : Hid (∀ w', Ext w w' → Calls Tryz.prog 15 #[.float .f64 4607182418800017408, .float .f64 4611686018427387904, .int .i64 2] w' fun en w'' => en = .returned (.float .f64 4613937818241073152) ∧ Ext w' w'') := fun w' hx => by
    have h := r_Add_fin 4607182418800017408 4611686018427387904 2 (by decide) (by decide) (by decide) (by decide) (by decide) w' (hT.ext hx)
    rwa [sum_sure] at h
  have H2 : Hid (∀ w', Ext w w' → Calls Tryz.prog 23 #[.float .f64 4607182418800017408, .float .f64 4613937818241073152, .int .i64 3] w' fun en w'' => en = .returned (.float .f64 4599676419421066582) ∧ Ext w' w'') := fun w' hx => by
    have h := r_Div_fin 4607182418800017408 4613937818241073152 3 (by decide) (by decide) (by decide) (by decide) (by decide) (by decide) (by decide) w' (hT.ext hx)
    rwa [quo_sure.2] at h
  have H3 : Hid (∀ w', Ext w w' → Calls Tryz.prog 23 #[.float .f64 4607182418800017408, .float .f64 4613937818241073152, .int .i64 1] w' fun en w'' => en = .returned (.float .f64 4599676419421066581) ∧ Ext w' w'') := fun w' hx => by
    have h := r_Div_fin 4607182418800017408 4613937818241073152 1 (by decide) (by decide) (by decide) (by decide) (by decide) (by decide) (by decide) w' (hT.ext hx)
    rwa [quo_sure.1] at h
  have H4 : Hid (∀ w', Ext w w' → Calls Tryz.prog 27 #[.float .f64 4613937818241073152, .float .f64 4616189618054758400, .int .i64 3] w' fun en w'' => en = .returned (.float .f64 4617315517961601024) ∧ Ext w' w'') := fun w' hx => by
    have h := r_Hypot_fin 4613937818241073152 4616189618054758400 3 (by decide) (by decide) (by decide) (by decide) hyp_sure.2 (by decide) w' (hT.ext hx)
    rwa [hyp_sure.1] at h
  have H5 : Hid (∀ w', Calls Tryz.prog 19 #[.int .i64 3] w' fun en w'' => en = .returned (.int .i64 0) ∧ w' = w'') := fun w' => r_valid 3 w' (by decide)
  have H6 : Hid (∀ w', Calls Tryz.prog 19 #[.int .i64 0] w' fun en w'' => en = .returned (.int .i64 1) ∧ w' = w'') := fun w' => r_valid_not 0 w' (by decide)
  have H7 : Hid (∀ w', Calls Tryz.prog 10 #[.float .f64 4612811918334230528, .int .i64 2] w' fun en w'' => en = .returned (.float .f64 4611686018427387904) ∧ w' = w'') := fun w' => r_Whole_sure w'
  have H8 : Hid (∀ w', Ext w w' → Calls Tryz.prog 12 #[.float .f64 4617315517961601024, .float .f64 4613937818241073152] w' fun en w'' => en = .returned (.float .f64 13830554455654793216) ∧ Ext w' w'') := fun w' hx => by
    have h := r_Rest_fin 4617315517961601024 4613937818241073152 (by decide) (by decide) (by decide) (by decide) (by decide) (by decide) w' (hT.ext hx)
    rwa [rest_sure] at h
  have f1 : feq 4613937818241073152 4613937818241073152 = true := by decide
  have f2 : fgt 4599676419421066582 4599676419421066581 = true := by decide
  have f3 : feq 4617315517961601024 4617315517961601024 = true := by decide
  have f4 : feq 4611686018427387904 4611686018427387904 = true := by decide
  have f5 : feq 13830554455654793216 13830554455654793216 = true := by decide
  clear hT
  go_enter Tryz.func14, Tryz.ntmps14
  go_wp2_with (fail)
  refine (H1.out _ (Ext.refl _)).mono ?_
  rintro en w1 ⟨rfl, hx⟩
  have X1 := Lib.hid hx
  clear hx
  go_wp2_with (fail)
  refine (H2.out _ X1.out).mono ?_
  rintro en w2 ⟨rfl, hx⟩
  have X2 := Lib.hid (X1.out.trans hx)
  clear hx
  go_wp2_with (fail)
  refine (H3.out _ X2.out).mono ?_
  rintro en w3 ⟨rfl, hx⟩
  have X3 := Lib.hid (X2.out.trans hx)
  clear hx
  go_wp2_with (fail)
  refine (H4.out _ X3.out).mono ?_
  rintro en w4 ⟨rfl, hx⟩
  have X4 := Lib.hid (X3.out.trans hx)
  clear hx
  go_wp2_with (fail)
  refine (H5.out _).mono ?_
  rintro en wn ⟨rfl, rfl⟩
  go_wp2_with (fail)
  refine (H6.out _).mono ?_
  rintro en wn ⟨rfl, rfl⟩
  go_wp2_with (fail)
  refine (H7.out _).mono ?_
  rintro en wn ⟨rfl, rfl⟩
  go_wp2_with (fail)
  refine (H8.out _ X4.out).mono ?_
  rintro en w5 ⟨rfl, hx⟩
  have X5 := Lib.hid (X4.out.trans hx)
  clear hx
  go_wp2_with (fail)
  go_ret
  exact ⟨rfl, X5.out⟩
end Go.Proofs.YtdpjkddllimcoaaGreatDoor
end

section
/- Rounded sums: the law's walk. -/
namespace Fl
theorem tAdd_lt {a b : Nat} {mode : Int} (ha : a < 18446744073709551616) (hb : b < 18446744073709551616) : tAdd a b mode < 18446744073709551616 := by
  unfold tAdd
  split
  · split
    · decide
    · split
      · split
        · decide
        · exact ha
      · split
        · exact hb
        · exact sum_lt a b mode
  · decide
end Fl
namespace Go.Proofs.YtdpjkddllimcoaaGreatDoor
open Go.RowKit Fl
theorem l_same_of (w : World) (R T : Nat) (hR : R < 18446744073709551616) (hT : T < 18446744073709551616) (h : sameF R T = true) : Calls Tryz.prog 9 #[.float .f64 R, .float .f64 T] w fun en wn => en = .returned (.bool true) ∧ w = wn := by
  have := l_same R T hR hT w
  rwa [h] at this
set_option maxRecDepth 20000 in
theorem w_RoundSums (a b : Nat) (mode : Int) (ha : a < 18446744073709551616) (hb : b < 18446744073709551616) (w : World) (hT : Tab32 w) :
    Calls Tryz.prog 4 #[.float .f64 a, .float .f64 b, .int .i64 mode] w fun en wn => en = .returned (.bool true) ∧ Ext w wn := by
  have HA := Lib.hid (u_Add a b mode ha hb w hT)
  have HtA : Hid (∀ w', Calls Tryz.prog 16 #[.float .f64 a, .float .f64 b, .int .i64 mode] w' fun en w'' => en = .returned (.float .f64 (tAdd a b mode)) ∧ Ext w' w'') := fun w' => t_Add a b mode w' ha hb
  have HS : Hid (∀ w', Ext w w' → Calls Tryz.prog 17 #[.float .f64 a, .float .f64 b, .int .i64 mode] w' fun en w'' => ∃ R, en = .returned (.float .f64 R) ∧ Ext w' w'' ∧ R < 18446744073709551616 ∧ sameF R (if nan b = true then 9221120237041090560 else tAdd a (turned b) mode) = true) := fun w' hx => u_Sub a b mode ha hb w' (hT.ext hx)
  have HtS : Hid (∀ w', Calls Tryz.prog 18 #[.float .f64 a, .float .f64 b, .int .i64 mode] w' fun en w'' => en = .returned (.float .f64 (if nan b = true then 9221120237041090560 else tAdd a (turned b) mode)) ∧ Ext w' w'') := fun w' => t_Sub a b mode w' ha hb
  have HSm : Hid (∀ R T w', R < 18446744073709551616 → T < 18446744073709551616 → sameF R T = true → Calls Tryz.prog 9 #[.float .f64 R, .float .f64 T] w' fun en w'' => en = .returned (.bool true) ∧ w' = w'') := fun R T w' h1 h2 h3 => l_same_of w' R T h1 h2 h3
  have HSu : Hid (∀ w', Ext w w' → Calls Tryz.prog 14 #[] w' fun en w'' => en = .returned (.bool true) ∧ Ext w' w'') := fun w' hx => l_sure w' (hT.ext hx)
  have HV : Hid (∃ V : Int, (V = 0 ∨ V = 1) ∧ (∀ w', Calls Tryz.prog 19 #[.int .i64 mode] w' fun en w'' => en = .returned (.int .i64 V) ∧ w' = w'') ∧ (∀ w', Calls Tryz.prog 20 #[.int .i64 mode] w' fun en w'' => en = .returned (.int .i64 V) ∧ w' = w'')) := by
    by_cases hm : mode = 1 ∨ mode = 2 ∨ mode = 3
    · refine ⟨0, .inl rfl, fun w' => r_valid mode w' hm, fun w' => ?_⟩
      have := t_valid mode w'
      rwa [if_pos hm] at this
    · refine ⟨1, .inr rfl, fun w' => r_valid_not mode w' hm, fun w' => ?_⟩
      have := t_valid mode w'
      rwa [if_neg hm] at this
  have HB1 := Lib.hid (tAdd_lt (mode := mode) ha hb)
  have HB2 : Hid ((if nan b = true then 9221120237041090560 else tAdd a (turned b) mode) < 18446744073709551616) := by
    show _ < _
    split
    · decide
    · exact tAdd_lt ha (turned_lt hb)
  generalize (if nan b = true then 9221120237041090560 else tAdd a (turned b) mode) = T2 at *
  generalize tAdd a b mode = T1 at *
  obtain ⟨V, hV, HV1, HV2⟩ := HV.out
  have HV1 := Lib.hid HV1
  have HV2 := Lib.hid HV2
  have t0 : (V == V) = true := by simp
  clear hT ha hb HV
  go_enter Tryz.func4, Tryz.ntmps4
  go_wp2_with (fail)
  refine (HA.out).mono ?_
  rintro en w1 ⟨R1, rfl, hx, h1, h2⟩
  have X1 := Lib.hid (And.intro hx (And.intro h1 h2))
  clear hx h1 h2
  go_wp2_with (fail)
  refine (HtA.out _).mono ?_
  rintro en w2 ⟨rfl, hx⟩
  have X2 := Lib.hid (X1.out.1.trans hx)
  clear hx
  go_wp2_with (fail)
  refine (HSm.out R1 _ _ X1.out.2.1 HB1.out X1.out.2.2).mono ?_
  rintro en wn ⟨rfl, rfl⟩
  go_wp2_with (fail)
  refine (HS.out _ X2.out).mono ?_
  rintro en w3 ⟨R3, rfl, hx, h1, h2⟩
  have X3 := Lib.hid (And.intro (X2.out.trans hx) (And.intro h1 h2))
  clear hx h1 h2
  go_wp2_with (fail)
  refine (HtS.out _).mono ?_
  rintro en w4 ⟨rfl, hx⟩
  have X4 := Lib.hid (X3.out.1.trans hx)
  clear hx
  go_wp2_with (fail)
  refine (HSm.out R3 _ _ X3.out.2.1 HB2.out X3.out.2.2).mono ?_
  rintro en wn ⟨rfl, rfl⟩
  go_wp2_with (fail)
  refine (HV1.out _).mono ?_
  rintro en wn ⟨rfl, rfl⟩
  go_wp2_with (fail)
  refine (HV2.out _).mono ?_
  rintro en wn ⟨rfl, rfl⟩
  go_wp2_with (fail)
  refine (HSu.out _ X4.out).mono ?_
  rintro en w5 ⟨rfl, hx⟩
  have X5 := Lib.hid (X4.out.trans hx)
  clear hx
  go_wp2_with (fail)
  go_ret
  exact ⟨rfl, X5.out⟩
end Go.Proofs.YtdpjkddllimcoaaGreatDoor
end
