/- A part of the proof (14 of 18) of this: RoundSums: for every two floats and every mode the program's rounded sum and difference are the document's: the law returns true; condition: the table of package math/bits reads as its text lays it. -/
import Derived.Deep.AppendLies
import Derived.Deep.RegionHeld3
import Derived.Lib.Hide
import Derived.Test.YtdpjkddllimcoaaGreatDoorVsc

section
/- Exact numbers: signs, tops. -/
namespace Fl
open Go Go.RowKit
theorem Rep.sgn {o E z e : Int} (h : Rep o E z e) : (z < 0 ↔ o < 0) ∧ (z = 0 ↔ o = 0) ∧ sgnI z = sgnI o := by
  have key : (z < 0 ↔ o < 0) ∧ (z = 0 ↔ o = 0) := by
    rcases h with ⟨h1, h2, -⟩ | ⟨ho, k, rfl, -⟩
    · subst h1 h2; simp
    · have hp : (0 : Int) < 2 ^ k := Int.pow_pos (by decide)
      have h0 : o ≠ 0 := by intro e; subst e; simp at ho
      refine ⟨⟨fun h => ?_, fun h => Int.mul_neg_of_neg_of_pos h hp⟩, ⟨fun h => ?_, fun h => by subst h; simp⟩⟩
      · by_cases h1 : o < 0
        · exact h1
        · have := Int.mul_nonneg (show 0 ≤ o by omega) (Int.le_of_lt hp); omega
      · rcases Int.mul_eq_zero.1 h with h1 | h1
        · exact h1
        · omega
  refine ⟨key.1, key.2, ?_⟩
  unfold sgnI
  by_cases h1 : z < 0
  · rw [if_pos h1, if_pos (key.1.1 h1)]
  · rw [if_neg h1, if_neg (fun h => h1 (key.1.2 h))]
    by_cases h2 : z = 0
    · rw [if_pos h2, if_pos (key.2.1 h2)]
    · rw [if_neg h2, if_neg (fun h => h2 (key.2.2 h))]
theorem bl_mul_pow {o : Nat} (k : Nat) (h : o ≠ 0) : bl (o * 2 ^ k) = bl o + k := by
  have h1 := bl_le h
  have h2 := bl_lt o
  have h3 := bl_pos h
  refine bl_unique (by omega) ?_ ?_
  · rw [show bl o + k - 1 = bl o - 1 + k by omega, Nat.pow_add]
    exact Nat.mul_le_mul_right _ h1
  · rw [Nat.pow_add]
    exact Nat.mul_lt_mul_of_pos_right h2 (Nat.two_pow_pos _)
theorem natAbs_mul_pow (o : Int) (k : Nat) : (o * 2 ^ k).natAbs = o.natAbs * 2 ^ k := by
  rw [Int.natAbs_mul, Int.natAbs_pow]; rfl
theorem Rep.top {o E z e : Int} (h : Rep o E z e) (hz : z ≠ 0) : (bl o.natAbs : Int) + E = bl z.natAbs + e := by
  rcases h with ⟨h1, h2, -⟩ | ⟨ho, k, rfl, rfl⟩
  · exact absurd h1 hz
  · rw [natAbs_mul_pow, bl_mul_pow k (by omega)]; omega
/-- the place above the highest digit. -/
def topI (z e : Int) : Int := if z = 0 then 0 else bl z.natAbs + e
theorem Ok.fit {o E : Int} (h : Ok o E) : o.natAbs < 4294967296 ^ 1048575 := by
  rcases h with ⟨rfl, -⟩ | ⟨-, h, -⟩
  · exact pow_pos32 1048575
  · exact fit_of (k := 65536) (l := 1048575) h (by decide)
theorem Chg.of_grown {w w' : World} {g : Nat} (h : w.grownBy w' (some g)) : Chg g w w' := ⟨h.os, h.tape, h.output, h.size, fun k hk hne => h.block k hk (fun e => by injection e with e; omega)⟩
theorem heap_fst (w : World) (o o2 : Obj) : ((w.alloc o).alloc o2).heap[w.heap.size]? = some o := by
  have h := (Ext.refl (w.alloc o)).alloc o2
  rw [h.block (by simp)]
  exact heap_new w o
theorem heap_snd (w : World) (o o2 : Obj) : ((w.alloc o).alloc o2).heap[w.heap.size + 1]? = some o2 := by
  have h := heap_new (w.alloc o) o2
  rwa [show (w.alloc o).heap.size = w.heap.size + 1 by simp] at h
theorem Bx.new2 (w : World) (o : Obj) (t : TypeId) (neg : Bool) (s : Value) (E : Int) : Bx ((w.alloc o).alloc (.cells #[.bool neg, s, .int .i64 E] t)) t (w.heap.size + 1) neg s E := heap_snd w o _
theorem Bx.new1 (w : World) (o : Obj) (t : TypeId) (neg : Bool) (s : Value) (E : Int) : Bx ((w.alloc (.cells #[.bool neg, s, .int .i64 E] t)).alloc o) t w.heap.size neg s E := heap_fst w _ o
theorem Ext.set3 {a b : World} (h : Ext a b) {g : Nat} (hg : a.heap.size ≤ g) (x y z : Value) : Ext a (((b.setCell ⟨g, 0, none⟩ x).setCell ⟨g, 1, none⟩ y).setCell ⟨g, 2, none⟩ z) :=
  ((h.setNew hg x).setNew hg y).setNew hg z
theorem Bx.set3 {w : World} {t : TypeId} {g k : Nat} {neg : Bool} {s : Value} {E : Int} (h : Bx w t g neg s E) (hk : g ≠ k) (x y z : Value) : Bx (((w.setCell ⟨k, 0, none⟩ x).setCell ⟨k, 1, none⟩ y).setCell ⟨k, 2, none⟩ z) t g neg s E :=
  h.chg ((((Chg.refl k w).set rfl x).set rfl y).set rfl z) hk
theorem len_ne0 {n : Nat} (h : 0 < n) : ((n : Int) == 0) = false := by
  rw [beq_eq_false_iff_ne]
  omega
section
variable {P : Program} {ops : Array Oper} {o : Oper} {a : Act} {K : Act → World → Prop} {Q : Exit → Act → World → Prop} {E : Prop}
/-- 'append([]T{}, x...)' at a step of a region that draws its order. -/
theorem step_fresh32 {w w0 : World} (hgd : o.guard = none) (s x : Operand) (t : TypeId) (ho : o.op = Op.call { callee := Callee.builtin Builtin.append, args := #[s, x], argTypes := #[t, t] })
    (e : TypeId) (i : TypeInfo) (h1 : P.underlying t = some (.slice e)) (HI : Hid (P.info? e = some i ∧ i.zero = some (.int .u32 0) ∧ i.size = 1 ∧ i.bytes = 4))
    (g0 : Nat) (v : Value) (zs : List Nat) (hs : a.eval s = .slice (some ⟨g0, 0, none⟩) 0 0) (hx : a.eval x = v) (hv : Sl w v zs) (hn : 0 < zs.length) (hl : zs.length ≤ 4194304) (hg : w.heap[g0]? = some (.cells #[] e (0, 0))) (hX : Ext w0 w) (hg0 : w0.heap.size ≤ g0)
    (hK : ∀ g cap w', Ext w0 w' → Chg g0 w w' → Sl w' (.slice (some ⟨g, 0, none⟩) zs.length cap) zs → K (a.put o.dst (.slice (some ⟨g, 0, none⟩) zs.length cap)) w') : if Region.wanted o (yielded ops a.tmps) = true then Oper.wp P o a w K Q else E := by
  have hvv := hv
  rcases hv with ⟨-, rfl⟩ | ⟨b, off, cap, rfl, h2, h3, h4⟩
  · simp at hn
  · refine step_append_lies w hgd s x t ho w0.heap.size e i _ 1 4 h1 HI.out.1 HI.out.2.1 HI.out.2.2.1 HI.out.2.2.2 rfl (by decide) _ 0 [] hs ⟨rfl, .inr ⟨g0, 0, #[], rfl, hg0, hg, Nat.le_refl _, Nat.zero_le _, rfl, rfl⟩⟩ ⟨b, off, none⟩ zs.length cap (zs.map W32) hx (by simp) ?_ ?_ hn (by unfold maxLen; omega) (by omega) hX.size _ rfl ?_
    · intro j u hu
      rw [List.getElem?_map] at hu
      rcases Nat.lt_or_ge j zs.length with hj | hj
      · rw [List.getElem?_eq_getElem hj] at hu
        have := h4 j hj
        rw [List.getD_eq_getElem?_getD, List.getElem?_eq_getElem hj] at this
        simp only [Option.map_some, Option.some.injEq] at hu
        rw [← hu, Addr.add_lit]
        exact this
      · rw [List.getElem?_eq_none hj] at hu
        simp at hu
    · intro u hu
      obtain ⟨z, -, rfl⟩ := List.mem_map.1 hu
      rfl
    · intro g cap' w' hown hgrow _ _
      rw [Nat.zero_add, List.nil_append] at hown
      rw [Nat.zero_add]
      exact hK g cap' w' (hX.grown hgrow (fun k hk => by have hk : some g0 = some k := hk; injection hk with hk; omega)) (Chg.of_grown hgrow) (Sl.of_own hown)
end
theorem Dr.words {w : World} {v : Value} {o E : Int} (h : Dr w v o E) (hok : Ok o E) (h0 : o ≠ 0) : ∃ b off cap zs, v = .agg #[.bool (decide (o < 0)), .slice (some ⟨b, off, none⟩) zs.length cap, .int .i64 E] ∧ Sl w (.slice (some ⟨b, off, none⟩) zs.length cap) zs ∧ Wd zs ∧ Tm zs ∧ num zs = o.natAbs ∧ 0 < zs.length ∧ zs.length ≤ 2048 := by
  obtain ⟨s, rfl, zs, k1, k2, k3, k4⟩ := h
  rcases hok with ⟨h, -⟩ | ⟨ho, hb, -⟩
  · exact absurd h h0
  · have hl : 0 < zs.length := List.length_pos_iff.2 (by intro e; subst e; have : o.natAbs = 0 := k4.symm; omega)
    have k1' := k1
    obtain ⟨p, c, rfl, -, -, h4⟩ := k1.form
    obtain ⟨b, off, rfl, -⟩ := h4 hl
    exact ⟨b, off, c, zs, rfl, k1', k2, k3, k4, hl, len_le k3 (fit_of (k := 65536) (l := 2048) (by rw [k4]; exact hb) (by decide))⟩
end Fl
namespace Go.Proofs.YtdpjkddllimcoaaGreatDoor
open Go.RowKit Fl
theorem d_Sign (v : Value) (z e : Int) (w : World) (h : Dy w v z e) :
    Calls Tryz.prog 59 #[v] w fun en w' => en = .returned (.int .i64 (sgnI z)) ∧ Ext w w' := by
  obtain ⟨o, E, hd, hr, hok⟩ := h
  rw [hr.sgn.2.2]
  have HX : Hid (∀ o1, Ext w (w.alloc o1)) := fun o1 => (Ext.refl w).alloc o1
  obtain ⟨s, rfl, hn⟩ := hd
  obtain ⟨p, l, c, rfl, hl⟩ := hn.len
  have HV := Lib.hid (d_Valid o E (.agg #[.bool (decide (o < 0)), .slice p l c, .int .i64 E]) (w.alloc (.cells #[.bool (decide (o < 0)), .slice p l c, .int .i64 E] 47)) (Dr.ext ⟨_, rfl, hn⟩ (HX.out _)) hok)
  have HBx := Lib.hid (Bx.new w 47 (decide (o < 0)) (.slice p l c) E)
  obtain ⟨neg, hneg⟩ : ∃ neg, Hid (neg = decide (o < 0)) := ⟨_, rfl⟩
  rw [← hneg.out] at HV HBx ⊢
  have HS : Hid (sgnI o = if l = 0 then 0 else if neg then -1 else 1) := by
    show _ = _
    rw [hneg.out]
    unfold sgnI
    by_cases h : o < 0
    · rw [if_pos h, if_neg (by omega)]; simp [h]
    · rw [if_neg h]
      by_cases h0 : o = 0
      · rw [if_pos h0, if_pos (by omega)]
      · rw [if_neg h0, if_neg (by omega)]; simp [h]
  clear hn hr hok
  by_cases h0 : l = 0
  · subst h0
    have HR : Hid (sgnI o = 0) := by show _ = _; rw [HS.out]; rfl
    clear hl
    go_enter Tryz.func59, Tryz.ntmps59
    go_wp2_with (fail)
    refine HV.out.mono ?_
    rintro e w1 ⟨rfl, hx⟩
    have H1 := Lib.hid (And.intro ((HX.out _).trans hx) (HBx.out.ext hx))
    have c1 := H1.out.2.c1
    clear hx
    go_wp2_with (fail)
    go_ret
    exact ⟨ret_int HR.out.symm, H1.out.1⟩
  · have t0 : ((l : Int) == 0) = false := by simp; omega
    have HR : Hid (sgnI o = if neg then -1 else 1) := by show _ = _; rw [HS.out, if_neg h0]
    clear hl HS h0
    go_enter Tryz.func59, Tryz.ntmps59
    go_wp2_with (fail)
    refine HV.out.mono ?_
    rintro e w1 ⟨rfl, hx⟩
    have H1 := Lib.hid (And.intro ((HX.out _).trans hx) (HBx.out.ext hx))
    have c1 := H1.out.2.c1
    have c0 := H1.out.2.c0
    clear hx
    cases neg
    · go_wp2_with (fail)
      go_ret
      exact ⟨ret_int HR.out.symm, H1.out.1⟩
    · go_wp2_with (fail)
      go_ret
      exact ⟨ret_int HR.out.symm, H1.out.1⟩
end Go.Proofs.YtdpjkddllimcoaaGreatDoor
end

section
/- Exact numbers: the highest digit's place; the sign turned, or struck. -/
namespace Go.Proofs.YtdpjkddllimcoaaGreatDoor
open Go.RowKit Fl
theorem d_Top (v : Value) (z e : Int) (w : World) (h : Dy w v z e) :
    Calls Tryz.prog 101 #[v] w fun en w' => en = .returned (.int .i64 (topI z e)) ∧ Ext w w' := by
  obtain ⟨o, E, hd, hr, hok⟩ := h
  have HX : Hid (∀ o1, Ext w (w.alloc o1)) := fun o1 => (Ext.refl w).alloc o1
  by_cases hz : z = 0
  · have ho0 : o = 0 := hr.sgn.2.1.1 hz
    subst ho0
    have HR : Hid (topI z e = 0) := by show _ = _; unfold topI; rw [if_pos hz]
    obtain ⟨s, rfl, hn⟩ := hd
    obtain ⟨p, l, c, rfl, hl⟩ := hn.len
    have hl0 : l = 0 := hl.2 rfl
    subst hl0
    have HV := Lib.hid (d_Valid 0 E (.agg #[.bool (decide ((0 : Int) < 0)), .slice p 0 c, .int .i64 E]) (w.alloc (.cells #[.bool (decide ((0 : Int) < 0)), .slice p 0 c, .int .i64 E] 47)) (Dr.ext ⟨_, rfl, hn⟩ (HX.out _)) hok)
    have HBx := Lib.hid (Bx.new w 47 (decide ((0 : Int) < 0)) (.slice p 0 c) E)
    rw [show decide ((0 : Int) < 0) = false by rfl] at *
    clear hn hr hok hl hz
    go_enter Tryz.func101, Tryz.ntmps101
    go_wp2_with (fail)
    refine HV.out.mono ?_
    rintro e w1 ⟨rfl, hx⟩
    have H1 := Lib.hid (And.intro ((HX.out _).trans hx) (HBx.out.ext hx))
    have c1 := H1.out.2.c1
    clear hx
    go_wp2_with (fail)
    go_ret
    exact ⟨ret_int HR.out.symm, H1.out.1⟩
  · have ho0 : o ≠ 0 := fun h => hz (hr.sgn.2.1.2 h)
    have HR : Hid ((bl o.natAbs : Int) + E = topI z e) := by show _ = _; unfold topI; rw [if_neg hz]; exact hr.top hz
    have hE : -65536 ≤ E ∧ E ≤ 65536 := by
      rcases hok with ⟨h, -⟩ | ⟨-, -, h⟩
      · exact absurd h ho0
      · exact h
    have hbl : bl o.natAbs ≤ 65536 := by
      rcases hok with ⟨h, -⟩ | ⟨-, h, -⟩
      · exact absurd h ho0
      · exact bl_le_of h
    have hfit := Lib.hid hok.fit
    obtain ⟨b, off, cap, zs, rfl, k1, k2, k3, k4, k5, k6⟩ := hd.words hok ho0
    have HD := Lib.hid hd
    have HV := Lib.hid (d_Valid o E _ (w.alloc (.cells #[.bool (decide (o < 0)), .slice (some ⟨b, off, none⟩) zs.length cap, .int .i64 E] 47)) (hd.ext (HX.out _)) hok)
    have HBx := Lib.hid (Bx.new w 47 (decide (o < 0)) (.slice (some ⟨b, off, none⟩) zs.length cap) E)
    obtain ⟨neg, hneg⟩ : ∃ neg, Hid (neg = decide (o < 0)) := ⟨_, rfl⟩
    rw [← hneg.out] at HV HBx HD ⊢
    obtain ⟨B, HB⟩ : ∃ B : Nat, Hid (B = bl o.natAbs) := ⟨_, rfl⟩
    rw [← HB.out] at hbl HR
    obtain ⟨hE1, hE2⟩ := hE
    clear hd hr hok k1 k2 k3 k4 hz ho0
    generalize zs.length = l at *
    have t0 : ((l : Int) == 0) = false := by simp; omega
    go_enter Tryz.func101, Tryz.ntmps101
    go_wp2_with (fail)
    refine HV.out.mono ?_
    rintro e w1 ⟨rfl, hx⟩
    have H1 := Lib.hid (And.intro ((HX.out _).trans hx) (HBx.out.ext hx))
    have c0 := H1.out.2.c0
    have c1 := H1.out.2.c1
    have c2 := H1.out.2.c2
    have C := Lib.hid (And.intro c0 (And.intro c1 c2))
    clear hx
    go_wp2_with (fail)
    go_region_held3 (fun w' => w'.cell? ⟨w.heap.size, 0, none⟩ = some (.bool neg) ∧ w'.cell? ⟨w.heap.size, 1, none⟩ = some (.slice (some ⟨b, off, none⟩) l cap) ∧ w'.cell? ⟨w.heap.size, 2, none⟩ = some (.int .i64 E)) (first | go_keep | (have HXX := HE.out; exact ⟨HXX.cell_some C.out.1, HXX.cell_some C.out.2.1, HXX.cell_some C.out.2.2⟩)) (first | (go_at_call 103; refine (d_value o E _ _ ((HD.out.ext H1.out.1).ext (Ext.drewN (Ext.refl _) _)) hfit.out).mono ?_; rintro en w2 ⟨g, rfl, hx, hg, hb⟩; have HE : Hid (Ext w1 w2) := hx; have HG := Lib.hid hb; clear hx hg hb) | (go_at_call 121; refine (i_bitLen g o _ HG.out hfit.out).mono ?_; rintro en w3 ⟨he, rfl⟩; rw [← HB.out] at he; subst he))
    all_goals (go_wp2_with (fail); go_ret; exact ⟨ret_int (by rw [IntWalk.i64_in _ (by omega)]; exact HR.out), H1.out.1.trans HE.out⟩)
theorem Rep_neg {o E z e : Int} (h : Rep o E z e) : Rep (-o) E (-z) e := by
  rcases h with ⟨h1, h2, h3⟩ | ⟨ho, k, rfl, h3⟩
  · subst h1 h2; exact .inl ⟨rfl, rfl, h3⟩
  · exact .inr ⟨by rw [Int.natAbs_neg]; exact ho, k, by rw [Int.neg_mul], h3⟩
theorem Ok_neg {o E : Int} (h : Ok o E) : Ok (-o) E := by
  rcases h with ⟨h1, h2⟩ | h
  · subst h1; exact .inl ⟨rfl, h2⟩
  · exact .inr (by rw [Int.natAbs_neg]; exact h)
theorem Ok_abs {o E : Int} (h : Ok o E) : Ok (o.natAbs : Int) E := by
  by_cases h0 : o < 0
  · rw [show (o.natAbs : Int) = -o by omega]; exact Ok_neg h
  · rw [show (o.natAbs : Int) = o by omega]; exact h
theorem Rep_abs {o E z e : Int} (h : Rep o E z e) : Rep (o.natAbs : Int) E (z.natAbs : Int) e := by
  have hs := h.sgn.1
  by_cases h0 : o < 0
  · rw [show (o.natAbs : Int) = -o by omega, show (z.natAbs : Int) = -z by omega]; exact Rep_neg h
  · rw [show (o.natAbs : Int) = o by omega, show (z.natAbs : Int) = z by omega]; exact h
set_option maxRecDepth 20000 in
theorem d_Neg (v : Value) (z e : Int) (w : World) (h : Dy w v z e) :
    Calls Tryz.prog 110 #[v] w fun en w' => ∃ v', en = .returned v' ∧ Ext w w' ∧ Dy w' v' (-z) e := by
  obtain ⟨i0, HI⟩ : ∃ i0, Hid (Tryz.prog.info? 70 = some i0 ∧ i0.zero = some (.int .u32 0) ∧ i0.size = 1 ∧ i0.bytes = 4) := info_parts info32
  obtain ⟨o, E, hd, hr, hok⟩ := h
  by_cases hz : z = 0
  · have ho0 : o = 0 := hr.sgn.2.1.1 hz
    subst ho0 hz
    obtain ⟨s, rfl, hn⟩ := hd
    obtain ⟨p, l, c, rfl, hl⟩ := hn.len
    have hl0 : l = 0 := hl.2 rfl
    subst hl0
    have HX : Hid (∀ o1 o2, Ext w ((w.alloc o1).alloc o2)) := fun o1 o2 => ((Ext.refl w).alloc o1).alloc o2
    have HV := Lib.hid (d_Valid 0 E (.agg #[.bool (decide ((0 : Int) < 0)), .slice p 0 c, .int .i64 E]) ((w.alloc (.cells #[.bool (decide ((0 : Int) < 0)), .slice p 0 c, .int .i64 E] 47)).alloc (.cells #[.bool false, .slice none 0 0, .int .i64 0] 47)) (Dr.ext ⟨_, rfl, hn⟩ (HX.out _ _)) hok)
    have HBx : Hid (Bx ((w.alloc (.cells #[.bool (decide ((0 : Int) < 0)), .slice p 0 c, .int .i64 E] 47)).alloc (.cells #[.bool false, .slice none 0 0, .int .i64 0] 47)) 47 w.heap.size (decide ((0 : Int) < 0)) (.slice p 0 c) E) := (Bx.new _ _ _ _ _).ext ((Ext.refl _).alloc _)
    have HBr : Hid (Bx ((w.alloc (.cells #[.bool (decide ((0 : Int) < 0)), .slice p 0 c, .int .i64 E] 47)).alloc (.cells #[.bool false, .slice none 0 0, .int .i64 0] 47)) 47 (w.heap.size + 1) false (.slice none 0 0) 0) := by
      have h := Bx.new (w.alloc (.cells #[.bool (decide ((0 : Int) < 0)), .slice p 0 c, .int .i64 E] 47)) 47 false (.slice none 0 0) 0
      rw [show (w.alloc (.cells #[.bool (decide ((0 : Int) < 0)), .slice p 0 c, .int .i64 E] 47)).heap.size = w.heap.size + 1 by simp] at h
      exact h
    rw [show decide ((0 : Int) < 0) = false by rfl] at *
    clear hn hr hok hl
    go_enter Tryz.func110, Tryz.ntmps110
    go_wp2_with (fail)
    refine HV.out.mono ?_
    rintro en w1 ⟨rfl, hx⟩
    have H1 := Lib.hid (And.intro ((HX.out _ _).trans hx) (And.intro (HBx.out.ext hx) (HBr.out.ext hx)))
    have c1 := H1.out.2.1.c1
    have r0 := H1.out.2.2.c0
    have r1 := H1.out.2.2.c1
    have r2 := H1.out.2.2.c2
    have r3 := H1.out.2.2.frozen 0
    have r4 := H1.out.2.2.frozen 1
    have r5 := H1.out.2.2.frozen 2
    clear hx
    go_wp2_with (fail)
    refine bodyPost_ret (v := .agg #[.bool false, .slice none 0 0, .int .i64 0]) (by simp [results, Tryz.results110, go_sem, r0, r1, r2]) rfl ⟨_, rfl, ?_, Dy.zero _ _⟩
    exact ((H1.out.1.setNew (Nat.le_succ _) _).setNew (Nat.le_succ _) _).setNew (Nat.le_succ _) _
  · have ho0 : o ≠ 0 := fun h => hz (hr.sgn.2.1.2 h)
    obtain ⟨b, off, cap, zs, rfl, k1, k2, k3, k4, k5, k6⟩ := hd.words hok ho0
    have HR := Lib.hid (And.intro (Rep_neg hr) (And.intro (Ok_neg hok) ho0))
    have HX : Hid (∀ o1 o2, Ext w ((w.alloc o1).alloc o2)) := fun o1 o2 => ((Ext.refl w).alloc o1).alloc o2
    obtain ⟨neg, hneg⟩ : ∃ neg, Hid (neg = decide (o < 0)) := ⟨_, rfl⟩
    have HV := Lib.hid (d_Valid o E _ ((w.alloc (.cells #[.bool (decide (o < 0)), .slice (some ⟨b, off, none⟩) zs.length cap, .int .i64 E] 47)).alloc (.cells #[.bool false, .slice none 0 0, .int .i64 0] 47)) (hd.ext (HX.out _ _)) hok)
    have HBx : Hid (Bx ((w.alloc (.cells #[.bool (decide (o < 0)), .slice (some ⟨b, off, none⟩) zs.length cap, .int .i64 E] 47)).alloc (.cells #[.bool false, .slice none 0 0, .int .i64 0] 47)) 47 w.heap.size (decide (o < 0)) (.slice (some ⟨b, off, none⟩) zs.length cap) E) := (Bx.new _ _ _ _ _).ext ((Ext.refl _).alloc _)
    have HBr : Hid (Bx ((w.alloc (.cells #[.bool (decide (o < 0)), .slice (some ⟨b, off, none⟩) zs.length cap, .int .i64 E] 47)).alloc (.cells #[.bool false, .slice none 0 0, .int .i64 0] 47)) 47 (w.heap.size + 1) false (.slice none 0 0) 0) := by
      have h := Bx.new (w.alloc (.cells #[.bool (decide (o < 0)), .slice (some ⟨b, off, none⟩) zs.length cap, .int .i64 E] 47)) 47 false (.slice none 0 0) 0
      rw [show (w.alloc (.cells #[.bool (decide (o < 0)), .slice (some ⟨b, off, none⟩) zs.length cap, .int .i64 E] 47)).heap.size = w.heap.size + 1 by simp] at h
      exact h
    rw [← hneg.out] at HV HBx HBr ⊢
    have HK := Lib.hid (And.intro k1 (And.intro k2 (And.intro k3 k4)))
    have t0 := len_ne0 k5
    clear hd hr hok k1 k2 k3 k4 hz ho0
    go_enter Tryz.func110, Tryz.ntmps110
    go_wp2_with (fail)
    refine HV.out.mono ?_
    rintro en w1 ⟨rfl, hx⟩
    have H1 := Lib.hid (And.intro ((HX.out _ _).trans hx) (And.intro (HBx.out.ext hx) (HBr.out.ext hx)))
    have c0 := H1.out.2.1.c0
    have c1 := H1.out.2.1.c1
    have c2 := H1.out.2.1.c2
    have C := Lib.hid (And.intro c0 (And.intro c1 c2))
    clear hx
    go_wp2_with (fail)
    go_region_held3 (fun w' => w'.cell? ⟨w.heap.size, 0, none⟩ = some (.bool neg) ∧ w'.cell? ⟨w.heap.size, 1, none⟩ = some (.slice (some ⟨b, off, none⟩) zs.length cap) ∧ w'.cell? ⟨w.heap.size, 2, none⟩ = some (.int .i64 E)) (first | go_keep | (have HXX := HE.out; exact ⟨HXX.1.cell_some C.out.1, HXX.1.cell_some C.out.2.1, HXX.1.cell_some C.out.2.2⟩)) (first | (refine step_fresh32 (w0 := w1) rfl (.tmp 16) (.tmp 18) 33 rfl 70 i0 Tryz.underlying33 HI w1.heap.size _ zs rfl rfl ((HK.out.1.ext H1.out.1).ext ((Ext.refl w1).alloc _)) k5 (by omega) (heap_new _ _) ((Ext.refl w1).alloc _) (Nat.le_refl _) ?_; intro g cap' w2 hx _ hs; have HE := Lib.hid (And.intro hx hs); have r0 := (H1.out.2.2.ext hx).c0; have r1 := (H1.out.2.2.ext hx).c1; have r2 := (H1.out.2.2.ext hx).c2; have r3 := (H1.out.2.2.ext hx).frozen 0; have r4 := (H1.out.2.2.ext hx).frozen 1; have r5 := (H1.out.2.2.ext hx).frozen 2; clear hx hs))
    go_wp2_with (fail)
    refine bodyPost_ret (v := .agg #[.bool (!neg), .slice (some ⟨g, 0, none⟩) zs.length cap', .int .i64 E]) (by simp [results, Tryz.results110, go_sem, r0, r1, r2]) rfl ⟨_, rfl, ?_, ?_⟩
    · exact (((H1.out.1.trans HE.out.1).setNew (Nat.le_succ _) _).setNew (Nat.le_succ _) _).setNew (Nat.le_succ _) _
    · have hn : Nt w2 (.slice (some ⟨g, 0, none⟩) zs.length cap') o.natAbs := ⟨zs, HE.out.2, HK.out.2.1, HK.out.2.2.1, HK.out.2.2.2⟩
      refine Dy.setBx ⟨-o, E, ⟨_, ?_, by rw [Int.natAbs_neg]; exact hn⟩, HR.out.1, HR.out.2.1⟩ (H1.out.2.2.ext HE.out.1) IsSl.nil _ _ _
      rw [hneg.out]
      have := HR.out.2.2
      congr 3
      by_cases h : o < 0
      · simp [h]; omega
      · simp [h]; omega
set_option maxRecDepth 20000 in
theorem d_Abs (v : Value) (z e : Int) (w : World) (h : Dy w v z e) :
    Calls Tryz.prog 57 #[v] w fun en w' => ∃ v', en = .returned v' ∧ Ext w w' ∧ Dy w' v' (z.natAbs : Int) e := by
  obtain ⟨i0, HI⟩ : ∃ i0, Hid (Tryz.prog.info? 70 = some i0 ∧ i0.zero = some (.int .u32 0) ∧ i0.size = 1 ∧ i0.bytes = 4) := info_parts info32
  obtain ⟨o, E, hd, hr, hok⟩ := h
  by_cases hz : z = 0
  · have ho0 : o = 0 := hr.sgn.2.1.1 hz
    subst ho0 hz
    obtain ⟨s, rfl, hn⟩ := hd
    obtain ⟨p, l, c, rfl, hl⟩ := hn.len
    have hl0 : l = 0 := hl.2 rfl
    subst hl0
    have HX : Hid (∀ o1 o2, Ext w ((w.alloc o1).alloc o2)) := fun o1 o2 => ((Ext.refl w).alloc o1).alloc o2
    have HV := Lib.hid (d_Valid 0 E (.agg #[.bool (decide ((0 : Int) < 0)), .slice p 0 c, .int .i64 E]) ((w.alloc (.cells #[.bool (decide ((0 : Int) < 0)), .slice p 0 c, .int .i64 E] 47)).alloc (.cells #[.bool false, .slice none 0 0, .int .i64 0] 47)) (Dr.ext ⟨_, rfl, hn⟩ (HX.out _ _)) hok)
    have HBx : Hid (Bx ((w.alloc (.cells #[.bool (decide ((0 : Int) < 0)), .slice p 0 c, .int .i64 E] 47)).alloc (.cells #[.bool false, .slice none 0 0, .int .i64 0] 47)) 47 w.heap.size (decide ((0 : Int) < 0)) (.slice p 0 c) E) := (Bx.new _ _ _ _ _).ext ((Ext.refl _).alloc _)
    have HBr : Hid (Bx ((w.alloc (.cells #[.bool (decide ((0 : Int) < 0)), .slice p 0 c, .int .i64 E] 47)).alloc (.cells #[.bool false, .slice none 0 0, .int .i64 0] 47)) 47 (w.heap.size + 1) false (.slice none 0 0) 0) := by
      have h := Bx.new (w.alloc (.cells #[.bool (decide ((0 : Int) < 0)), .slice p 0 c, .int .i64 E] 47)) 47 false (.slice none 0 0) 0
      rw [show (w.alloc (.cells #[.bool (decide ((0 : Int) < 0)), .slice p 0 c, .int .i64 E] 47)).heap.size = w.heap.size + 1 by simp] at h
      exact h
    rw [show decide ((0 : Int) < 0) = false by rfl] at *
    clear hn hr hok hl
    go_enter Tryz.func57, Tryz.ntmps57
    go_wp2_with (fail)
    refine HV.out.mono ?_
    rintro en w1 ⟨rfl, hx⟩
    have H1 := Lib.hid (And.intro ((HX.out _ _).trans hx) (And.intro (HBx.out.ext hx) (HBr.out.ext hx)))
    have c1 := H1.out.2.1.c1
    have r0 := H1.out.2.2.c0
    have r1 := H1.out.2.2.c1
    have r2 := H1.out.2.2.c2
    have r3 := H1.out.2.2.frozen 0
    have r4 := H1.out.2.2.frozen 1
    have r5 := H1.out.2.2.frozen 2
    clear hx
    go_wp2_with (fail)
    refine bodyPost_ret (v := .agg #[.bool false, .slice none 0 0, .int .i64 0]) (by simp [results, Tryz.results57, go_sem, r0, r1, r2]) rfl ⟨_, rfl, ?_, Dy.zero _ _⟩
    exact ((H1.out.1.setNew (Nat.le_succ _) _).setNew (Nat.le_succ _) _).setNew (Nat.le_succ _) _
  · have ho0 : o ≠ 0 := fun h => hz (hr.sgn.2.1.2 h)
    obtain ⟨b, off, cap, zs, rfl, k1, k2, k3, k4, k5, k6⟩ := hd.words hok ho0
    have HR := Lib.hid (And.intro (Rep_abs hr) (And.intro (Ok_abs hok) ho0))
    have HX : Hid (∀ o1 o2, Ext w ((w.alloc o1).alloc o2)) := fun o1 o2 => ((Ext.refl w).alloc o1).alloc o2
    obtain ⟨neg, hneg⟩ : ∃ neg, Hid (neg = decide (o < 0)) := ⟨_, rfl⟩
    have HV := Lib.hid (d_Valid o E _ ((w.alloc (.cells #[.bool (decide (o < 0)), .slice (some ⟨b, off, none⟩) zs.length cap, .int .i64 E] 47)).alloc (.cells #[.bool false, .slice none 0 0, .int .i64 0] 47)) (hd.ext (HX.out _ _)) hok)
    have HBx : Hid (Bx ((w.alloc (.cells #[.bool (decide (o < 0)), .slice (some ⟨b, off, none⟩) zs.length cap, .int .i64 E] 47)).alloc (.cells #[.bool false, .slice none 0 0, .int .i64 0] 47)) 47 w.heap.size (decide (o < 0)) (.slice (some ⟨b, off, none⟩) zs.length cap) E) := (Bx.new _ _ _ _ _).ext ((Ext.refl _).alloc _)
    have HBr : Hid (Bx ((w.alloc (.cells #[.bool (decide (o < 0)), .slice (some ⟨b, off, none⟩) zs.length cap, .int .i64 E] 47)).alloc (.cells #[.bool false, .slice none 0 0, .int .i64 0] 47)) 47 (w.heap.size + 1) false (.slice none 0 0) 0) := by
      have h := Bx.new (w.alloc (.cells #[.bool (decide (o < 0)), .slice (some ⟨b, off, none⟩) zs.length cap, .int .i64 E] 47)) 47 false (.slice none 0 0) 0
      rw [show (w.alloc (.cells #[.bool (decide (o < 0)), .slice (some ⟨b, off, none⟩) zs.length cap, .int .i64 E] 47)).heap.size = w.heap.size + 1 by simp] at h
      exact h
    rw [← hneg.out] at HV HBx HBr ⊢
    have HK := Lib.hid (And.intro k1 (And.intro k2 (And.intro k3 k4)))
    have t0 := len_ne0 k5
    clear hd hr hok k1 k2 k3 k4 hz ho0
    go_enter Tryz.func57, Tryz.ntmps57
    go_wp2_with (fail)
    refine HV.out.mono ?_
    rintro en w1 ⟨rfl, hx⟩
    have H1 := Lib.hid (And.intro ((HX.out _ _).trans hx) (And.intro (HBx.out.ext hx) (HBr.out.ext hx)))
    have c0 := H1.out.2.1.c0
    have c1 := H1.out.2.1.c1
    have c2 := H1.out.2.1.c2
    have C := Lib.hid (And.intro c0 (And.intro c1 c2))
    clear hx
    go_wp2_with (fail)
    go_region_held3 (fun w' => w'.cell? ⟨w.heap.size, 1, none⟩ = some (.slice (some ⟨b, off, none⟩) zs.length cap) ∧ w'.cell? ⟨w.heap.size, 2, none⟩ = some (.int .i64 E)) (first | go_keep | (have HXX := HE.out; exact ⟨HXX.1.cell_some C.out.2.1, HXX.1.cell_some C.out.2.2⟩)) (first | (refine step_fresh32 (w0 := w1) rfl (.tmp 13) (.tmp 15) 33 rfl 70 i0 Tryz.underlying33 HI w1.heap.size _ zs rfl rfl ((HK.out.1.ext H1.out.1).ext ((Ext.refl w1).alloc _)) k5 (by omega) (heap_new _ _) ((Ext.refl w1).alloc _) (Nat.le_refl _) ?_; intro g cap' w2 hx _ hs; have HE := Lib.hid (And.intro hx hs); have r0 := (H1.out.2.2.ext hx).c0; have r1 := (H1.out.2.2.ext hx).c1; have r2 := (H1.out.2.2.ext hx).c2; have r3 := (H1.out.2.2.ext hx).frozen 0; have r4 := (H1.out.2.2.ext hx).frozen 1; have r5 := (H1.out.2.2.ext hx).frozen 2; clear hx hs))
    go_wp2_with (fail)
    refine bodyPost_ret (v := .agg #[.bool false, .slice (some ⟨g, 0, none⟩) zs.length cap', .int .i64 E]) (by simp [results, Tryz.results57, go_sem, r0, r1, r2]) rfl ⟨_, rfl, ?_, ?_⟩
    · exact (((H1.out.1.trans HE.out.1).setNew (Nat.le_succ _) _).setNew (Nat.le_succ _) _).setNew (Nat.le_succ _) _
    · have hn : Nt w2 (.slice (some ⟨g, 0, none⟩) zs.length cap') o.natAbs := ⟨zs, HE.out.2, HK.out.2.1, HK.out.2.2.1, HK.out.2.2.2⟩
      refine Dy.setBx ⟨(o.natAbs : Int), E, ⟨_, ?_, by rw [Int.natAbs_natCast]; exact hn⟩, HR.out.1, HR.out.2.1⟩ (H1.out.2.2.ext HE.out.1) IsSl.nil _ _ _
      congr 3
end Go.Proofs.YtdpjkddllimcoaaGreatDoor
end

section
/- Exact numbers: shifts. -/
namespace Go.Proofs.YtdpjkddllimcoaaGreatDoor
open Go.RowKit Fl
theorem Rep_shift {o E z e : Int} (h : Rep o E z e) (k : Int) (h0 : o ≠ 0) : Rep o (E + k) z (e + k) := by
  rcases h with ⟨-, h2, -⟩ | ⟨ho, t, rfl, h3⟩
  · exact absurd h2 h0
  · exact .inr ⟨ho, t, rfl, by omega⟩
theorem Rep_range {o E z e : Int} (h : Rep o E z e) (h0 : o ≠ 0) : e ≤ E ∧ E < e + bl z.natAbs := by
  rcases h with ⟨-, h2, -⟩ | ⟨ho, t, rfl, h3⟩
  · exact absurd h2 h0
  · have h4 : bl (o * 2 ^ t).natAbs = bl o.natAbs + t := by rw [natAbs_mul_pow]; exact bl_mul_pow t (by omega)
    have h5 := bl_pos (show o.natAbs ≠ 0 by omega)
    omega
theorem Ok_shift {o E z e k : Int} (h : Ok o E) (hr : Rep o E z e) (h0 : o ≠ 0) (hk1 : -65536 ≤ e + k) (hk2 : e + bl z.natAbs + k ≤ 65536) : Ok o (E + k) := by
  obtain ⟨h1, h2⟩ := Rep_range hr h0
  rcases h with ⟨h, -⟩ | ⟨h3, h4, -⟩
  · exact absurd h h0
  · exact .inr ⟨h3, h4, by omega, by omega⟩
set_option maxHeartbeats 1000000 in
set_option maxRecDepth 20000 in
theorem d_Shift (v : Value) (z e : Int) (k : Int) (w : World) (h : Dy w v z e) (hk1 : -65536 ≤ e + k) (hk2 : e + bl z.natAbs + k ≤ 65536) :
    Calls Tryz.prog 56 #[v, .int .i64 k] w fun en w' => ∃ v', en = .returned (.tuple #[v', .int .i64 0]) ∧ Ext w w' ∧ Dy w' v' z (e + k) := by
  obtain ⟨i0, HI⟩ : ∃ i0, Hid (Tryz.prog.info? 70 = some i0 ∧ i0.zero = some (.int .u32 0) ∧ i0.size = 1 ∧ i0.bytes = 4) := info_parts info32
  obtain ⟨o, E, hd, hr, hok⟩ := h
  have hEr : o ≠ 0 → -65536 ≤ E ∧ E ≤ 65536 ∧ -65536 ≤ E + k ∧ E + k ≤ 65536 := by
    intro h0
    rcases Ok_shift hok hr h0 hk1 hk2 with ⟨h, -⟩ | ⟨-, -, h3, h4⟩
    · exact absurd h h0
    · rcases hok with ⟨h, -⟩ | ⟨-, -, h5, h6⟩
      · exact absurd h h0
      · exact ⟨h5, h6, h3, h4⟩
  by_cases hz : z = 0
  · have ho0 : o = 0 := hr.sgn.2.1.1 hz
    subst ho0 hz
    obtain ⟨s, rfl, hn⟩ := hd
    obtain ⟨p, l, c, rfl, hl⟩ := hn.len
    have hl0 : l = 0 := hl.2 rfl
    subst hl0
    have HX : Hid (∀ o1 o2, Ext w ((w.alloc o1).alloc o2)) := fun o1 o2 => ((Ext.refl w).alloc o1).alloc o2
    have HV := Lib.hid (d_Valid 0 E (.agg #[.bool (decide ((0 : Int) < 0)), .slice p 0 c, .int .i64 E]) ((w.alloc (.cells #[.bool (decide ((0 : Int) < 0)), .slice p 0 c, .int .i64 E] 47)).alloc (.cells #[.bool false, .slice none 0 0, .int .i64 0] 47)) (Dr.ext ⟨_, rfl, hn⟩ (HX.out _ _)) hok)
    have HBx : Hid (Bx ((w.alloc (.cells #[.bool (decide ((0 : Int) < 0)), .slice p 0 c, .int .i64 E] 47)).alloc (.cells #[.bool false, .slice none 0 0, .int .i64 0] 47)) 47 w.heap.size (decide ((0 : Int) < 0)) (.slice p 0 c) E) := (Bx.new _ _ _ _ _).ext ((Ext.refl _).alloc _)
    have HBr : Hid (Bx ((w.alloc (.cells #[.bool (decide ((0 : Int) < 0)), .slice p 0 c, .int .i64 E] 47)).alloc (.cells #[.bool false, .slice none 0 0, .int .i64 0] 47)) 47 (w.heap.size + 1) false (.slice none 0 0) 0) := by
      have h := Bx.new (w.alloc (.cells #[.bool (decide ((0 : Int) < 0)), .slice p 0 c, .int .i64 E] 47)) 47 false (.slice none 0 0) 0
      rw [show (w.alloc (.cells #[.bool (decide ((0 : Int) < 0)), .slice p 0 c, .int .i64 E] 47)).heap.size = w.heap.size + 1 by simp] at h
      exact h
    rw [show decide ((0 : Int) < 0) = false by rfl] at *
    clear hn hr hok hl hEr hk1 hk2
    go_enter Tryz.func56, Tryz.ntmps56
    go_wp2_with (fail)
    refine HV.out.mono ?_
    rintro en w1 ⟨rfl, hx⟩
    have H1 := Lib.hid (And.intro ((HX.out _ _).trans hx) (And.intro (HBx.out.ext hx) (HBr.out.ext hx)))
    have c1 := H1.out.2.1.c1
    have r0 := H1.out.2.2.c0
    have r1 := H1.out.2.2.c1
    have r2 := H1.out.2.2.c2
    have r3 := H1.out.2.2.frozen 0
    have r4 := H1.out.2.2.frozen 1
    have r5 := H1.out.2.2.frozen 2
    clear hx
    go_wp2_with (fail)
    refine bodyPost_ret (v := .tuple #[.agg #[.bool false, .slice none 0 0, .int .i64 0], .int .i64 0]) (by simp [results, Tryz.results56, go_sem, r0, r1, r2]) rfl ⟨_, rfl, ?_, Dy.zero _ _⟩
    exact ((H1.out.1.setNew (Nat.le_succ _) _).setNew (Nat.le_succ _) _).setNew (Nat.le_succ _) _
  · have ho0 : o ≠ 0 := fun h => hz (hr.sgn.2.1.2 h)
    obtain ⟨b, off, cap, zs, rfl, k1, k2, k3, k4, k5, k6⟩ := hd.words hok ho0
    have HR := Lib.hid (And.intro (Rep_shift hr k ho0) (And.intro (Ok_shift hok hr ho0 hk1 hk2) ho0))
    have HX : Hid (∀ o1 o2, Ext w ((w.alloc o1).alloc o2)) := fun o1 o2 => ((Ext.refl w).alloc o1).alloc o2
    obtain ⟨neg, hneg⟩ : ∃ neg, Hid (neg = decide (o < 0)) := ⟨_, rfl⟩
    have HV := Lib.hid (d_Valid o E _ ((w.alloc (.cells #[.bool (decide (o < 0)), .slice (some ⟨b, off, none⟩) zs.length cap, .int .i64 E] 47)).alloc (.cells #[.bool false, .slice none 0 0, .int .i64 0] 47)) (hd.ext (HX.out _ _)) hok)
    have HBx : Hid (Bx ((w.alloc (.cells #[.bool (decide (o < 0)), .slice (some ⟨b, off, none⟩) zs.length cap, .int .i64 E] 47)).alloc (.cells #[.bool false, .slice none 0 0, .int .i64 0] 47)) 47 w.heap.size (decide (o < 0)) (.slice (some ⟨b, off, none⟩) zs.length cap) E) := (Bx.new _ _ _ _ _).ext ((Ext.refl _).alloc _)
    have HBr : Hid (Bx ((w.alloc (.cells #[.bool (decide (o < 0)), .slice (some ⟨b, off, none⟩) zs.length cap, .int .i64 E] 47)).alloc (.cells #[.bool false, .slice none 0 0, .int .i64 0] 47)) 47 (w.heap.size + 1) false (.slice none 0 0) 0) := by
      have h := Bx.new (w.alloc (.cells #[.bool (decide (o < 0)), .slice (some ⟨b, off, none⟩) zs.length cap, .int .i64 E] 47)) 47 false (.slice none 0 0) 0
      rw [show (w.alloc (.cells #[.bool (decide (o < 0)), .slice (some ⟨b, off, none⟩) zs.length cap, .int .i64 E] 47)).heap.size = w.heap.size + 1 by simp] at h
      exact h
    rw [← hneg.out] at HV HBx HBr ⊢
    have HK := Lib.hid (And.intro k1 (And.intro k2 (And.intro k3 k4)))
    have t0 := len_ne0 k5
    obtain ⟨e1, e2, e3, e4⟩ := hEr ho0
    have t1 : decide (65536 - E < k) = false := by simp; omega
    have t2 : decide (k < -65536 - E) = false := by simp; omega
    clear hd hr hok k1 k2 k3 k4 hz ho0 hEr hk1 hk2
    go_enter Tryz.func56, Tryz.ntmps56
    go_wp2_with (fail)
    refine HV.out.mono ?_
    rintro en w1 ⟨rfl, hx⟩
    have H1 := Lib.hid (And.intro ((HX.out _ _).trans hx) (And.intro (HBx.out.ext hx) (HBr.out.ext hx)))
    have c0 := H1.out.2.1.c0
    have c1 := H1.out.2.1.c1
    have c2 := H1.out.2.1.c2
    have C := Lib.hid (And.intro c0 (And.intro c1 c2))
    clear hx
    go_wp2_with (fail)
    clear HV HBx HBr HX t0 t1 t2
    have hlw : w.heap.size + 1 < w1.heap.size := H1.out.2.2.lt
    have hw1 : IntKind.i64.wrap (E + k) = E + k := IntWalk.i64_in _ (by omega)
    go_region_held3 (fun w' => w'.cell? ⟨w.heap.size, 0, none⟩ = some (.bool neg) ∧ w'.cell? ⟨w.heap.size, 1, none⟩ = some (.slice (some ⟨b, off, none⟩) zs.length cap) ∧ w'.cell? ⟨w.heap.size, 2, none⟩ = some (.int .i64 E))
      (first | go_keep | (with_reducible exact ⟨HE.out.1.cell_some C.out.1, HE.out.1.cell_some C.out.2.1, HE.out.1.cell_some C.out.2.2⟩) | (with_reducible exact ⟨(HE.out.1.alloc _).cell_some C.out.1, (HE.out.1.alloc _).cell_some C.out.2.1, (HE.out.1.alloc _).cell_some C.out.2.2⟩) | (with_reducible exact ⟨(HE.out.1.set3 (Nat.le_succ _) _ _ _).cell_some C.out.1, (HE.out.1.set3 (Nat.le_succ _) _ _ _).cell_some C.out.2.1, (HE.out.1.set3 (Nat.le_succ _) _ _ _).cell_some C.out.2.2⟩) | (with_reducible exact ⟨(HE.out.1.set3 (Nat.le_refl _) _ _ _).cell_some C.out.1, (HE.out.1.set3 (Nat.le_refl _) _ _ _).cell_some C.out.2.1, (HE.out.1.set3 (Nat.le_refl _) _ _ _).cell_some C.out.2.2⟩) | fail)
      (first | (refine step_fresh32 (w0 := w1) rfl (.tmp 34) (.tmp 36) 33 rfl 70 i0 Tryz.underlying33 HI _ _ zs rfl rfl (by first | (with_reducible exact (HK.out.1.ext H1.out.1).ext ((Ext.refl w1).alloc _)) | (with_reducible exact (HK.out.1.ext H1.out.1).ext (((Ext.refl w1).alloc _).alloc _)) | exact (HK.out.1.ext H1.out.1).ext ((Ext.refl w1).alloc _) | exact (HK.out.1.ext H1.out.1).ext (((Ext.refl w1).alloc _).alloc _) | fail) k5 (by omega) (by first | exact heap_new _ _ | exact heap_fst _ _ _ | exact heap_snd _ _ _ | fail) (by first | exact (Ext.refl w1).alloc _ | exact ((Ext.refl w1).alloc _).alloc _ | fail) (by simp) ?_; intro g cap' w2 hx hc hs; have HE := Lib.hid (And.intro hx hs); have r0 := (H1.out.2.2.ext hx).c0; have r1 := (H1.out.2.2.ext hx).c1; have r2 := (H1.out.2.2.ext hx).c2; have r3 := (H1.out.2.2.ext hx).frozen 0; have r4 := (H1.out.2.2.ext hx).frozen 1; have r5 := (H1.out.2.2.ext hx).frozen 2; (try ((with_reducible have hb := (Bx.new2 w1 _ _ _ _ _).chg hc (by omega)); have b0 := hb.c0; have b1 := hb.c1; have b2 := hb.c2; have b3 := hb.frozen 0; have b4 := hb.frozen 1; have b5 := hb.frozen 2; have HB := Lib.hid hb; clear hb)); (try ((with_reducible have hb := (Bx.new1 w1 _ _ _ _ _).chg hc (by omega)); have b0 := hb.c0; have b1 := hb.c1; have b2 := hb.c2; have b3 := hb.frozen 0; have b4 := hb.frozen 1; have b5 := hb.frozen 2; have HB := Lib.hid hb; clear hb)); have hl2 := Nat.lt_of_lt_of_le hlw hx.size; have r6 : ∀ q, (w2.alloc q).cell? ⟨w.heap.size + 1, 0, none⟩ = some (.bool false) := fun q => ((Ext.refl w2).alloc q).cell_some r0; have r7 : ∀ q, (w2.alloc q).cell? ⟨w.heap.size + 1, 1, none⟩ = some (.slice none 0 0) := fun q => ((Ext.refl w2).alloc q).cell_some r1; have r8 : ∀ q, (w2.alloc q).cell? ⟨w.heap.size + 1, 2, none⟩ = some (.int .i64 0) := fun q => ((Ext.refl w2).alloc q).cell_some r2; have r9 : ∀ q i, (w2.alloc q).frozen? ⟨w.heap.size + 1, i, none⟩ = false := fun q i => (((H1.out.2.2.ext hx).ext ((Ext.refl w2).alloc q)).frozen i); clear hx hc hs))
    all_goals (go_wp2_with (fail))
    · have HD : Hid (Dy w2 (.agg #[.bool neg, .slice (some ⟨g, 0, none⟩) zs.length cap', .int .i64 (E + k)]) z (e + k)) := ⟨o, E + k, ⟨_, by rw [hneg.out], zs, HE.out.2, HK.out.2⟩, HR.out.1, HR.out.2.1⟩
      have HR2 := Lib.hid (H1.out.2.2.ext HE.out.1)
      refine bodyPost_ret (v := .tuple #[.agg #[.bool neg, .slice (some ⟨g, 0, none⟩) zs.length cap', .int .i64 (E + k)], .int .i64 0]) (by simp [results, Tryz.results56, go_sem, r0, r1, r2, hl2]) rfl ⟨_, rfl, ?_, ?_⟩
      · exact ((H1.out.1.trans HE.out.1).set3 (Nat.le_succ _) _ _ _).alloc _
      · exact (HD.out.setBx HR2.out IsSl.nil _ _ _).ext ((Ext.refl _).alloc _)
    · have HD : Hid (Dy w2 (.agg #[.bool neg, .slice (some ⟨g, 0, none⟩) zs.length cap', .int .i64 (E + k)]) z (e + k)) := ⟨o, E + k, ⟨_, by rw [hneg.out], zs, HE.out.2, HK.out.2⟩, HR.out.1, HR.out.2.1⟩
      have HR2 := Lib.hid (H1.out.2.2.ext HE.out.1)
      refine bodyPost_ret (v := .tuple #[.agg #[.bool neg, .slice (some ⟨g, 0, none⟩) zs.length cap', .int .i64 (E + k)], .int .i64 0]) (by simp [results, Tryz.results56, go_sem, r0, r1, r2]) rfl ⟨_, rfl, ?_, ?_⟩
      · exact ((H1.out.1.trans HE.out.1).set3 (Nat.le_succ_of_le H1.out.1.size) _ _ _).set3 (Nat.le_succ _) _ _ _
      · exact (HD.out.setBx HB.out IsSl.nil _ _ _).setBx (HR2.out.set3 (by omega) _ _ _) IsSl.nil _ _ _
    · have HD : Hid (Dy w2 (.agg #[.bool neg, .slice (some ⟨g, 0, none⟩) zs.length cap', .int .i64 (E + k)]) z (e + k)) := ⟨o, E + k, ⟨_, by rw [hneg.out], zs, HE.out.2, HK.out.2⟩, HR.out.1, HR.out.2.1⟩
      have HR2 := Lib.hid (H1.out.2.2.ext HE.out.1)
      refine bodyPost_ret (v := .tuple #[.agg #[.bool neg, .slice (some ⟨g, 0, none⟩) zs.length cap', .int .i64 (E + k)], .int .i64 0]) (by simp [results, Tryz.results56, go_sem, r0, r1, r2]) rfl ⟨_, rfl, ?_, ?_⟩
      · exact ((H1.out.1.trans HE.out.1).set3 H1.out.1.size _ _ _).set3 (Nat.le_succ _) _ _ _
      · exact (HD.out.setBx HB.out IsSl.nil _ _ _).setBx (HR2.out.set3 (by omega) _ _ _) IsSl.nil _ _ _
end Go.Proofs.YtdpjkddllimcoaaGreatDoor
end

section
/- Exact numbers: two as whole numbers times one power of two. -/
namespace Fl
open Go Go.RowKit
/-- what two levelled numbers are: x and y times 2 to the f are X and Y times 2 to the e. -/
def Lev (x y f X Y e : Int) : Prop := (x = 0 ∧ y = 0 ∧ X = 0 ∧ Y = 0 ∧ e = 0) ∨ ∃ k : Nat, x = X * 2 ^ k ∧ y = Y * 2 ^ k ∧ e = f + k
/-- a fact that is true now, and kept. -/
theorem Dy.open {w : World} {v : Value} {z e : Int} (h : Dy w v z e) : ∃ (n : Bool) (p : Option Addr) (l c : Nat) (o E : Int), v = .agg #[.bool n, .slice p l c, .int .i64 E] ∧ n = decide (o < 0) ∧ (l = 0 ↔ o = 0) ∧ Dr w (.agg #[.bool n, .slice p l c, .int .i64 E]) o E ∧ Rep o E z e ∧ Ok o E := by
  obtain ⟨o, E, hd, hr, hok⟩ := h
  have hd' := hd
  obtain ⟨s, rfl, hn⟩ := hd
  obtain ⟨p, l, c, rfl, hl⟩ := hn.len
  exact ⟨_, p, l, c, o, E, rfl, rfl, by rw [hl]; omega, hd', hr, hok⟩
theorem Rep.exp {o E z e : Int} (h : Rep o E z e) (h0 : o ≠ 0) : ∃ k : Nat, z = o * 2 ^ k ∧ E = e + k := by
  rcases h with ⟨-, h2, -⟩ | ⟨-, k, h3, h4⟩
  · exact absurd h2 h0
  · exact ⟨k, h3, h4⟩
theorem Lev.of_rep {o1 E1 o2 E2 x y f e : Int} (r1 : Rep o1 E1 x f) (r2 : Rep o2 E2 y f) (h1 : o1 ≠ 0 → e ≤ E1) (h2 : o2 ≠ 0 → e ≤ E2) (h3 : o1 ≠ 0 ∨ o2 ≠ 0) (h4 : (o1 ≠ 0 ∧ e = E1) ∨ (o2 ≠ 0 ∧ e = E2)) : Lev x y f (o1 * 2 ^ (E1 - e).toNat) (o2 * 2 ^ (E2 - e).toNat) e := by
  right
  have hf : f ≤ e := by
    rcases h4 with ⟨h, rfl⟩ | ⟨h, rfl⟩
    · obtain ⟨k, -, hk⟩ := r1.exp h; omega
    · obtain ⟨k, -, hk⟩ := r2.exp h; omega
  refine ⟨(e - f).toNat, ?_, ?_, by omega⟩
  · by_cases h : o1 = 0
    · subst h; rw [r1.sgn.2.1.2 rfl]; simp
    · obtain ⟨k, rfl, hk⟩ := r1.exp h
      have := h1 h
      rw [Int.mul_assoc, ← Int.pow_add]
      congr 2; omega
  · by_cases h : o2 = 0
    · subst h; rw [r2.sgn.2.1.2 rfl]; simp
    · obtain ⟨k, rfl, hk⟩ := r2.exp h
      have := h2 h
      rw [Int.mul_assoc, ← Int.pow_add]
      congr 2; omega
theorem Bx_ne_Hv {w : World} {t t' : TypeId} {g : Nat} {neg : Bool} {s : Value} {E : Int} (h : Bx w t g neg s E) (k : Hv w t' g) : False := by
  obtain ⟨n, s', -, h2⟩ := k
  have := h2.out 0
  rw [h.c2] at this
  simp at this
theorem sgnI_zero {x : Int} (h : x = 0) : sgnI x = 0 := by subst h; rfl
theorem sgnI_ne {x : Int} (h : x ≠ 0) : (sgnI x == 0) = false ∧ (sgnI x != 0) = true := by
  unfold sgnI
  by_cases h1 : x < 0
  · simp [h1]
  · simp [h1, h]
end Fl
namespace Go.Proofs.YtdpjkddllimcoaaGreatDoor
open Go.RowKit Fl
set_option maxRecDepth 20000 in
set_option maxHeartbeats 1000000 in
theorem d_level_k (o1 o2 m : Int) (k1 k2 : Nat) (n1 n2 : Bool) (p1 p2 : Option Addr) (l1 c1 l2 c2 : Nat) (w : World) (h1 : Dr w (.agg #[.bool n1, .slice p1 l1 c1, .int .i64 (m + (k1 : Nat))]) o1 (m + k1)) (h2 : Dr w (.agg #[.bool n2, .slice p2 l2 c2, .int .i64 (m + (k2 : Nat))]) o2 (m + k2)) (b1 : o1.natAbs < 2 ^ 65536) (b2 : o2.natAbs < 2 ^ 65536) (hk : k1 = 0 ∨ k2 = 0) (hk1 : k1 ≤ 200000) (hk2 : k2 ≤ 200000) (hm1 : -70000 ≤ m) (hm2 : m ≤ 70000) :
    Calls Tryz.prog 112 #[.agg #[.bool n1, .slice p1 l1 c1, .int .i64 (m + (k1 : Nat))], .agg #[.bool n2, .slice p2 l2 c2, .int .i64 (m + (k2 : Nat))]] w fun en w' => ∃ (gx gy : Nat) (X Y e : Int), en = .returned (.tuple #[.pointer (some ⟨gx, 0, none⟩), .pointer (some ⟨gy, 0, none⟩), .int .i64 e]) ∧ Ext w w' ∧ w.heap.size ≤ gx ∧ w.heap.size ≤ gy ∧ gx ≠ gy ∧ Bi w' 95 gx X ∧ Bi w' 95 gy Y ∧
      ((o1 = 0 ∧ o2 = 0 ∧ X = 0 ∧ Y = 0 ∧ e = m + k1) ∨ (o1 = 0 ∧ o2 ≠ 0 ∧ e = m + k2 ∧ X = 0 ∧ Y = o2) ∨ (o1 ≠ 0 ∧ o2 = 0 ∧ e = m + k1 ∧ X = o1 ∧ Y = 0) ∨ (o1 ≠ 0 ∧ o2 ≠ 0 ∧ e = m ∧ X = o1 * 2 ^ k1 ∧ Y = o2 * 2 ^ k2)) := by
  have HX : Hid (∀ a b, Ext w ((w.alloc a).alloc b)) := fun a b => ((Ext.refl w).alloc a).alloc b
  have HB1 := Lib.hid (Bx.new1 w (.cells #[.bool n2, .slice p2 l2 c2, .int .i64 (m + (k2 : Nat))] 47) 47 n1 (.slice p1 l1 c1) (m + k1))
  have HB2 := Lib.hid (Bx.new2 w (.cells #[.bool n1, .slice p1 l1 c1, .int .i64 (m + (k1 : Nat))] 47) 47 n2 (.slice p2 l2 c2) (m + k2))
  have a0 := HB1.out.c0
  have a1 := HB1.out.c1
  have a2 := HB1.out.c2
  have a3 := HB2.out.c0
  have a4 := HB2.out.c1
  have a5 := HB2.out.c2
  have HD := Lib.hid (And.intro h1 h2)
  have HF : Hid (o1.natAbs < 4294967296 ^ 1048575 ∧ o2.natAbs < 4294967296 ^ 1048575) := ⟨fit_of (k := 65536) (l := 1048575) b1 (by decide), fit_of (k := 65536) (l := 1048575) b2 (by decide)⟩
  have hmin : min (k1 : Int) (k2 : Int) = 0 := by omega
  have hd1 : m + (k1 : Int) - m = (k1 : Int) := by omega
  have hd2 : m + (k2 : Int) - m = (k2 : Int) := by omega
  clear h1 h2 b1 b2
  have hfk : ∀ (z : Int) (k : Nat), Hid (k ≤ 200000 ∧ z.natAbs < 2 ^ 65536) → z.natAbs < 4294967296 ^ 1048575 := fun z k h => fit_of (k := 65536) (l := 1048575) h.out.2 (by decide)
  clear hfk
  go_enter Tryz.func112, Tryz.ntmps112
  go_upto_region 1 with (fail)
  go_cut [7, 8, 9] (fun v7 v8 v9 wc => ∃ (gx gy : Nat), v7 = .pointer (some ⟨gx, 0, none⟩) ∧ v8 = .pointer (some ⟨gy, 0, none⟩) ∧ v9 = .int .i64 m ∧ Hid (Bx wc 47 w.heap.size n1 (.slice p1 l1 c1) (m + k1) ∧ Bx wc 47 (w.heap.size + 1) n2 (.slice p2 l2 c2) (m + k2) ∧ Ext w wc ∧ Bi wc 95 gx o1 ∧ w.heap.size ≤ gx ∧ Bi wc 95 gy o2 ∧ w.heap.size ≤ gy ∧ gx ≠ gy))
  case first =>
    go_region_held3 (fun w' => w'.cell? ⟨w.heap.size, 0, none⟩ = some (.bool n1) ∧ w'.cell? ⟨w.heap.size, 1, none⟩ = some (.slice p1 l1 c1) ∧ w'.cell? ⟨w.heap.size, 2, none⟩ = some (.int .i64 (m + (k1 : Nat))) ∧ w'.cell? ⟨w.heap.size + 1, 0, none⟩ = some (.bool n2) ∧ w'.cell? ⟨w.heap.size + 1, 1, none⟩ = some (.slice p2 l2 c2) ∧ w'.cell? ⟨w.heap.size + 1, 2, none⟩ = some (.int .i64 (m + (k2 : Nat)))) (first | go_keep | (exact ⟨H3.out.1.c0, H3.out.1.c1, H3.out.1.c2, H3.out.2.1.c0, H3.out.2.1.c1, H3.out.2.1.c2⟩) | (exact ⟨H2.out.1.c0, H2.out.1.c1, H2.out.1.c2, H2.out.2.1.c0, H2.out.2.1.c1, H2.out.2.1.c2⟩) | fail) (first | (go_at_call_of 103 (Value.agg #[.bool n1, .slice p1 l1 c1, .int .i64 (m + (k1 : Nat))]); refine (d_value o1 _ _ _ (HD.out.1.ext (HX.out _ _).drew) HF.out.1).mono ?_; rintro en w2 ⟨gx, rfl, hx, hg, hb⟩; have H2 : Hid (Bx w2 47 w.heap.size n1 (.slice p1 l1 c1) (m + k1) ∧ Bx w2 47 (w.heap.size + 1) n2 (.slice p2 l2 c2) (m + k2) ∧ Ext w w2 ∧ Bi w2 95 gx o1 ∧ w.heap.size ≤ gx) := ⟨HB1.out.ext hx, HB2.out.ext hx, (HX.out _ _).trans hx, hb, by simp at hg; omega⟩; clear hx hg hb) | (go_at_call_of 103 (Value.agg #[.bool n2, .slice p2 l2 c2, .int .i64 (m + (k2 : Nat))]); refine (d_value o2 _ _ _ (HD.out.2.ext H2.out.2.2.1) HF.out.2).mono ?_; rintro en w3 ⟨gy, rfl, hx, hg, hb⟩; have H3 : Hid (Bx w3 47 w.heap.size n1 (.slice p1 l1 c1) (m + k1) ∧ Bx w3 47 (w.heap.size + 1) n2 (.slice p2 l2 c2) (m + k2) ∧ Ext w w3 ∧ Bi w3 95 gx o1 ∧ w.heap.size ≤ gx ∧ Bi w3 95 gy o2 ∧ w.heap.size ≤ gy ∧ gx ≠ gy) := ⟨H2.out.1.ext hx, H2.out.2.1.ext hx, H2.out.2.2.1.trans hx, H2.out.2.2.2.1.ext hx, H2.out.2.2.2.2, hb, Nat.le_trans H2.out.2.2.1.size hg, by have := H2.out.2.2.2.1.lt; omega⟩; clear hx hg hb))
    all_goals
      go_wp2_with (fail)
      go_meet
      case rel => exact ⟨gx, gy, rfl, rfl, rfl, H3.out⟩
  case rest =>
    obtain ⟨gx, gy, rfl, rfl, rfl, H3⟩ := hcut
    clear a0 a1 a2 a3 a4 a5 hmin HB1 HB2 HX HD
    have a2 := H3.out.1.c2
    have a5 := H3.out.2.1.c2
    obtain ⟨g1, HG1⟩ : ∃ g, Hid (g = sgnI o1) := ⟨_, rfl⟩
    obtain ⟨g2, HG2⟩ : ∃ g, Hid (g = sgnI o2) := ⟨_, rfl⟩
    by_cases z1 : o1 = 0
    · have t1 : g1 = 0 := by rw [HG1.out]; exact sgnI_zero z1
      subst t1
      by_cases z2 : o2 = 0
      · have t3 : g2 = 0 := by rw [HG2.out]; exact sgnI_zero z2
        subst t3
        have Z := Lib.hid (And.intro z1 z2)
        clear z1 z2
        go_wp2_with (fail)
        refine (i_sign gx o1 _ H3.out.2.2.2.1).mono ?_
        rintro en w4 ⟨he, rfl⟩
        rw [← HG1.out] at he
        subst he
        go_wp2_with (fail)
        refine (i_sign gy o2 _ H3.out.2.2.2.2.2.1).mono ?_
        rintro en w4 ⟨he, rfl⟩
        rw [← HG2.out] at he
        subst he
        go_wp2_with (fail)
        refine (i_sign gx o1 _ H3.out.2.2.2.1).mono ?_
        rintro en w4 ⟨he, rfl⟩
        rw [← HG1.out] at he
        subst he
        go_wp2_with (fail)
        refine (i_sign gy o2 _ H3.out.2.2.2.2.2.1).mono ?_
        rintro en w4 ⟨he, rfl⟩
        rw [← HG2.out] at he
        subst he
        go_wp2_with (fail)
        go_ret3
        exact ⟨gx, gy, 0, 0, _, rfl, H3.out.2.2.1, H3.out.2.2.2.2.1, H3.out.2.2.2.2.2.2.1, H3.out.2.2.2.2.2.2.2, by rw [← Z.out.1]; exact H3.out.2.2.2.1, by rw [← Z.out.2]; exact H3.out.2.2.2.2.2.1, .inl ⟨Z.out.1, Z.out.2, rfl, rfl, rfl⟩⟩
      · have t3 : (g2 == 0) = false := by rw [HG2.out]; exact (sgnI_ne z2).1
        have t4 : (g2 != 0) = true := by rw [HG2.out]; exact (sgnI_ne z2).2
        have Z := Lib.hid (And.intro z1 z2)
        have hd3 : m + (k2 : Int) - (m + (k2 : Int)) = ((0 : Nat) : Int) := by omega
        clear z1 z2
        go_wp2_with (fail)
        refine (i_sign gx o1 _ H3.out.2.2.2.1).mono ?_
        rintro en w4 ⟨he, rfl⟩
        rw [← HG1.out] at he
        subst he
        go_wp2_with (fail)
        refine (i_sign gy o2 _ H3.out.2.2.2.2.2.1).mono ?_
        rintro en w4 ⟨he, rfl⟩
        rw [← HG2.out] at he
        subst he
        go_wp2_with (fail)
        refine (i_sign gx o1 _ H3.out.2.2.2.1).mono ?_
        rintro en w4 ⟨he, rfl⟩
        rw [← HG1.out] at he
        subst he
        go_wp2_with (fail)
        refine (i_sign gy o2 _ H3.out.2.2.2.2.2.1).mono ?_
        rintro en w4 ⟨he, rfl⟩
        rw [← HG2.out] at he
        subst he
        go_wp2_with (fail)
        refine (i_lsh gy gy 0 o2 _ H3.out.2.2.2.2.2.1.hv H3.out.2.2.2.2.2.1 HF.out.2 (by omega)).mono ?_
        rintro en w6 ⟨rfl, hc, hb⟩
        have H5 : Hid (Ext w w6 ∧ Bi w6 95 gx o1 ∧ Bi w6 95 gy (o2 * 2 ^ 0)) := ⟨Chg.ext H3.out.2.2.1 hc H3.out.2.2.2.2.2.2.1, H3.out.2.2.2.1.chg H3.out.2.2.2.2.2.1.hv hc H3.out.2.2.2.2.2.2.2, hb⟩
        clear hc hb
        go_wp2_with (fail)
        go_ret3
        exact ⟨gx, gy, 0, o2, _, rfl, H5.out.1, H3.out.2.2.2.2.1, H3.out.2.2.2.2.2.2.1, H3.out.2.2.2.2.2.2.2, by rw [← Z.out.1]; exact H5.out.2.1, by have := H5.out.2.2; rwa [Int.pow_zero, Int.mul_one] at this, .inr (.inl ⟨Z.out.1, Z.out.2, rfl, rfl, rfl⟩)⟩
    · have t1 : (g1 == 0) = false := by rw [HG1.out]; exact (sgnI_ne z1).1
      have t2 : (g1 != 0) = true := by rw [HG1.out]; exact (sgnI_ne z1).2
      by_cases z2 : o2 = 0
      · have t3 : g2 = 0 := by rw [HG2.out]; exact sgnI_zero z2
        subst t3
        have Z := Lib.hid (And.intro z1 z2)
        have hd3 : m + (k1 : Int) - (m + (k1 : Int)) = ((0 : Nat) : Int) := by omega
        clear z1 z2
        go_wp2_with (fail)
        refine (i_sign gx o1 _ H3.out.2.2.2.1).mono ?_
        rintro en w4 ⟨he, rfl⟩
        rw [← HG1.out] at he
        subst he
        go_wp2_with (fail)
        refine (i_sign gy o2 _ H3.out.2.2.2.2.2.1).mono ?_
        rintro en w4 ⟨he, rfl⟩
        rw [← HG2.out] at he
        subst he
        go_wp2_with (fail)
        refine (i_sign gx o1 _ H3.out.2.2.2.1).mono ?_
        rintro en w4 ⟨he, rfl⟩
        rw [← HG1.out] at he
        subst he
        go_wp2_with (fail)
        refine (i_lsh gx gx 0 o1 _ H3.out.2.2.2.1.hv H3.out.2.2.2.1 HF.out.1 (by omega)).mono ?_
        rintro en w5 ⟨rfl, hc, hb⟩
        have H4 : Hid (Ext w w5 ∧ Bi w5 95 gx (o1 * 2 ^ 0) ∧ Bi w5 95 gy o2 ∧ Bx w5 47 (w.heap.size + 1) n2 (.slice p2 l2 c2) (m + k2)) := ⟨Chg.ext H3.out.2.2.1 hc H3.out.2.2.2.2.1, hb, H3.out.2.2.2.2.2.1.chg H3.out.2.2.2.1.hv hc (Ne.symm H3.out.2.2.2.2.2.2.2), H3.out.2.1.chg hc (fun e => Bx_ne_Hv H3.out.2.1 (by rw [e]; exact H3.out.2.2.2.1.hv))⟩
        have a5 := H4.out.2.2.2.c2
        clear hc hb
        go_wp2_with (fail)
        refine (i_sign gy o2 _ H4.out.2.2.1).mono ?_
        rintro en w4 ⟨he, rfl⟩
        rw [← HG2.out] at he
        subst he
        go_wp2_with (fail)
        go_ret3
        exact ⟨gx, gy, o1, 0, _, rfl, H4.out.1, H3.out.2.2.2.2.1, H3.out.2.2.2.2.2.2.1, H3.out.2.2.2.2.2.2.2, by have := H4.out.2.1; rwa [Int.pow_zero, Int.mul_one] at this, by rw [← Z.out.2]; exact H4.out.2.2.1, .inr (.inr (.inl ⟨Z.out.1, Z.out.2, rfl, rfl, rfl⟩))⟩
      · have t3 : (g2 == 0) = false := by rw [HG2.out]; exact (sgnI_ne z2).1
        have t4 : (g2 != 0) = true := by rw [HG2.out]; exact (sgnI_ne z2).2
        have Z := Lib.hid (And.intro z1 z2)
        clear z1 z2
        go_wp2_with (fail)
        refine (i_sign gx o1 _ H3.out.2.2.2.1).mono ?_
        rintro en w4 ⟨he, rfl⟩
        rw [← HG1.out] at he
        subst he
        go_wp2_with (fail)
        refine (i_sign gy o2 _ H3.out.2.2.2.2.2.1).mono ?_
        rintro en w4 ⟨he, rfl⟩
        rw [← HG2.out] at he
        subst he
        go_wp2_with (fail)
        refine (i_sign gx o1 _ H3.out.2.2.2.1).mono ?_
        rintro en w4 ⟨he, rfl⟩
        rw [← HG1.out] at he
        subst he
        go_wp2_with (fail)
        refine (i_lsh gx gx k1 o1 _ H3.out.2.2.2.1.hv H3.out.2.2.2.1 HF.out.1 (by omega)).mono ?_
        rintro en w5 ⟨rfl, hc, hb⟩
        have H4 : Hid (Ext w w5 ∧ Bi w5 95 gx (o1 * 2 ^ k1) ∧ Bi w5 95 gy o2 ∧ Bx w5 47 (w.heap.size + 1) n2 (.slice p2 l2 c2) (m + k2)) := ⟨Chg.ext H3.out.2.2.1 hc H3.out.2.2.2.2.1, hb, H3.out.2.2.2.2.2.1.chg H3.out.2.2.2.1.hv hc (Ne.symm H3.out.2.2.2.2.2.2.2), H3.out.2.1.chg hc (fun e => Bx_ne_Hv H3.out.2.1 (by rw [e]; exact H3.out.2.2.2.1.hv))⟩
        have a5 := H4.out.2.2.2.c2
        clear hc hb
        go_wp2_with (fail)
        refine (i_sign gy o2 _ H4.out.2.2.1).mono ?_
        rintro en w4 ⟨he, rfl⟩
        rw [← HG2.out] at he
        subst he
        go_wp2_with (fail)
        refine (i_lsh gy gy k2 o2 _ H4.out.2.2.1.hv H4.out.2.2.1 HF.out.2 (by omega)).mono ?_
        rintro en w6 ⟨rfl, hc, hb⟩
        have H5 : Hid (Ext w w6 ∧ Bi w6 95 gx (o1 * 2 ^ k1) ∧ Bi w6 95 gy (o2 * 2 ^ k2)) := ⟨Chg.ext H4.out.1 hc H3.out.2.2.2.2.2.2.1, H4.out.2.1.chg H4.out.2.2.1.hv hc H3.out.2.2.2.2.2.2.2, hb⟩
        clear hc hb
        go_wp2_with (fail)
        go_ret3
        exact ⟨gx, gy, _, _, _, rfl, H5.out.1, H3.out.2.2.2.2.1, H3.out.2.2.2.2.2.2.1, H3.out.2.2.2.2.2.2.2, H5.out.2.1, H5.out.2.2, .inr (.inr (.inr ⟨Z.out.1, Z.out.2, rfl, rfl, rfl⟩))⟩
end Go.Proofs.YtdpjkddllimcoaaGreatDoor
end

section
/- Exact numbers: levelled, and whether they are too far apart. -/
namespace Go.Proofs.YtdpjkddllimcoaaGreatDoor
open Go.RowKit Fl
theorem Ok_range {o E : Int} (h : Ok o E) : -65536 ≤ E ∧ E ≤ 65536 ∧ o.natAbs < 2 ^ 65536 := by
  rcases h with ⟨rfl, rfl⟩ | ⟨-, h1, h2, h3⟩
  · exact ⟨by decide, by decide, Nat.two_pow_pos 65536⟩
  · exact ⟨h2, h3, h1⟩
theorem Rep_zero {o E z e : Int} (h : Rep o E z e) (h0 : o = 0) : z = 0 ∧ E = 0 := by
  rcases h with ⟨h1, -, h3⟩ | ⟨ho, -⟩
  · exact ⟨h1, h3⟩
  · subst h0; simp at ho
theorem d_level (a b : Value) (x y f : Int) (w : World) (h1 : Dy w a x f) (h2 : Dy w b y f) :
    Calls Tryz.prog 112 #[a, b] w fun en w' => ∃ (gx gy : Nat) (X Y e : Int), en = .returned (.tuple #[.pointer (some ⟨gx, 0, none⟩), .pointer (some ⟨gy, 0, none⟩), .int .i64 e]) ∧ Ext w w' ∧ w.heap.size ≤ gx ∧ w.heap.size ≤ gy ∧ gx ≠ gy ∧ Bi w' 95 gx X ∧ Bi w' 95 gy Y ∧ Lev x y f X Y e := by
  obtain ⟨n1, p1, l1, c1, o1, E1, rfl, -, -, d1, r1, k1⟩ := h1.open
  obtain ⟨n2, p2, l2, c2, o2, E2, rfl, -, -, d2, r2, k2⟩ := h2.open
  obtain ⟨a1, a2, a3⟩ := Ok_range k1
  obtain ⟨b1, b2, b3⟩ := Ok_range k2
  obtain ⟨m, hm⟩ : ∃ m, m = min E1 E2 := ⟨_, rfl⟩
  obtain ⟨j1, rfl⟩ : ∃ j : Nat, E1 = m + j := ⟨(E1 - m).toNat, by omega⟩
  obtain ⟨j2, rfl⟩ : ∃ j : Nat, E2 = m + j := ⟨(E2 - m).toNat, by omega⟩
  refine (d_level_k o1 o2 m j1 j2 n1 n2 p1 p2 l1 c1 l2 c2 w d1 d2 a3 b3 (by omega) (by omega) (by omega) (by omega) (by omega)).mono ?_
  rintro en w' ⟨gx, gy, X, Y, e, rfl, hx, g1, g2, g3, bx, byy, hc⟩
  refine ⟨gx, gy, X, Y, e, rfl, hx, g1, g2, g3, bx, byy, ?_⟩
  rcases hc with ⟨z1, z2, rfl, rfl, rfl⟩ | ⟨z1, z2, rfl, rfl, rfl⟩ | ⟨z1, z2, rfl, rfl, rfl⟩ | ⟨z1, z2, rfl, rfl, rfl⟩
  · exact .inl ⟨(Rep_zero r1 z1).1, (Rep_zero r2 z2).1, rfl, rfl, (Rep_zero r1 z1).2⟩
  · obtain ⟨k, hk, he⟩ := r2.exp z2
    exact .inr ⟨k, by rw [(Rep_zero r1 z1).1]; simp, hk, he⟩
  · obtain ⟨k, hk, he⟩ := r1.exp z1
    exact .inr ⟨k, hk, by rw [(Rep_zero r2 z2).1]; simp, he⟩
  · have hj4 : (o1 ≠ 0 ∧ e = e + (j1 : Int)) ∨ (o2 ≠ 0 ∧ e = e + (j2 : Int)) := by
      by_cases hj : j1 = 0
      · exact .inl ⟨z1, by omega⟩
      · exact .inr ⟨z2, by omega⟩
    have h := Lev.of_rep (e := e) r1 r2 (fun _ => by omega) (fun _ => by omega) (.inl z1) hj4
    rw [show (e + (j1 : Int) - e).toNat = j1 by omega, show (e + (j2 : Int) - e).toNat = j2 by omega] at h
    exact h
theorem topI_le {z e : Int} {L : Nat} (h : z.natAbs < 2 ^ L) (hz : z ≠ 0) : e < topI z e ∧ topI z e ≤ e + L := by
  unfold topI
  rw [if_neg hz]
  have := bl_le_of h
  have := bl_pos (show z.natAbs ≠ 0 by omega)
  omega
set_option maxRecDepth 20000 in
theorem d_far (a b : Value) (x y f : Int) (L : Nat) (w : World) (h1 : Dy w a x f) (h2 : Dy w b y f) (hx : x.natAbs < 2 ^ L) (hy : y.natAbs < 2 ^ L) (hL : L ≤ 65538) (hf : -70000 ≤ f) (hf2 : f + L ≤ 200000) :
    Calls Tryz.prog 116 #[a, b] w fun en w' => en = .returned (.bool false) ∧ Ext w w' := by
  have D1 := Lib.hid h1
  have D2 := Lib.hid h2
  obtain ⟨n1, p1, l1, c1, o1, E1, rfl, -, hl1, -, r1, k1⟩ := h1.open
  obtain ⟨n2, p2, l2, c2, o2, E2, rfl, -, hl2, -, r2, k2⟩ := h2.open
  have HX : Hid (∀ a b, Ext w ((w.alloc a).alloc b)) := fun a b => ((Ext.refl w).alloc a).alloc b
  by_cases hz1 : l1 = 0
  · subst hz1
    clear h1 h2 hx hy hl1 hl2 r1 r2 k1 k2
    go_enter Tryz.func116, Tryz.ntmps116
    go_wp2_with (fail)
    go_ret
    exact ⟨rfl, HX.out _ _⟩
  · have t1 := len_ne0 (Nat.pos_of_ne_zero hz1)
    by_cases hz2 : l2 = 0
    · subst hz2
      clear h1 h2 hx hy hl1 hl2 r1 r2 k1 k2 hz1
      go_enter Tryz.func116, Tryz.ntmps116
      go_wp2_with (fail)
      go_ret
      exact ⟨rfl, HX.out _ _⟩
    · have t2 := len_ne0 (Nat.pos_of_ne_zero hz2)
      have x0 : x ≠ 0 := fun h => hz1 (hl1.2 (r1.sgn.2.1.1 h))
      have y0 : y ≠ 0 := fun h => hz2 (hl2.2 (r2.sgn.2.1.1 h))
      obtain ⟨e1, e2⟩ := Rep_range r1 (fun h => hz1 (hl1.2 h))
      obtain ⟨e3, e4⟩ := Rep_range r2 (fun h => hz2 (hl2.2 h))
      have q1 := topI_le (e := f) hx x0
      have q2 := topI_le (e := f) hy y0
      have q3 := bl_le_of hx
      have q4 := bl_le_of hy
      obtain ⟨u1, HU1⟩ : ∃ u, Hid (u = topI x f) := ⟨_, rfl⟩
      obtain ⟨u2, HU2⟩ : ∃ u, Hid (u = topI y f) := ⟨_, rfl⟩
      rw [← HU1.out] at q1
      rw [← HU2.out] at q2
      generalize bl x.natAbs = bx at *
      generalize bl y.natAbs = byy at *
      obtain ⟨q5, q6⟩ := q1
      obtain ⟨q7, q8⟩ := q2
      have hw1 : IntKind.i64.wrap (max u1 u2 - min E1 E2) = max u1 u2 - min E1 E2 := IntWalk.i64_in _ (by omega)
      have t3 : decide (65538 < max u1 u2 - min E1 E2) = false := by simp; omega
      have HB1 := Lib.hid (Bx.new1 w (.cells #[.bool n2, .slice p2 l2 c2, .int .i64 E2] 47) 47 n1 (.slice p1 l1 c1) E1)
      have HB2 := Lib.hid (Bx.new2 w (.cells #[.bool n1, .slice p1 l1 c1, .int .i64 E1] 47) 47 n2 (.slice p2 l2 c2) E2)
      have a0 := HB1.out.c0
      have a1 := HB1.out.c1
      have a2 := HB1.out.c2
      have a3 := HB2.out.c0
      have a4 := HB2.out.c1
      have a5 := HB2.out.c2
      clear h1 h2 hx hy hl1 hl2 r1 r2 k1 k2 hz1 hz2 x0 y0
      go_enter Tryz.func116, Tryz.ntmps116
      go_wp2_with (fail)
      go_region_held3 (fun w' => w'.cell? ⟨w.heap.size, 0, none⟩ = some (.bool n1) ∧ w'.cell? ⟨w.heap.size, 1, none⟩ = some (.slice p1 l1 c1) ∧ w'.cell? ⟨w.heap.size, 2, none⟩ = some (.int .i64 E1) ∧ w'.cell? ⟨w.heap.size + 1, 0, none⟩ = some (.bool n2) ∧ w'.cell? ⟨w.heap.size + 1, 1, none⟩ = some (.slice p2 l2 c2) ∧ w'.cell? ⟨w.heap.size + 1, 2, none⟩ = some (.int .i64 E2))
        (first | go_keep | (exact ⟨H2.out.1.c0, H2.out.1.c1, H2.out.1.c2, H2.out.2.1.c0, H2.out.2.1.c1, H2.out.2.1.c2⟩) | fail)
        (first | (go_at_call_of 101 (Value.agg #[.bool n1, .slice p1 l1 c1, .int .i64 E1]); refine (d_Top _ x f _ (D1.out.ext (HX.out _ _).drew)).mono ?_; rintro en w2 ⟨he, hx⟩; rw [← HU1.out] at he; subst he; have H2 : Hid (Bx w2 47 w.heap.size n1 (.slice p1 l1 c1) E1 ∧ Bx w2 47 (w.heap.size + 1) n2 (.slice p2 l2 c2) E2 ∧ Ext w w2) := ⟨HB1.out.ext hx, HB2.out.ext hx, (HX.out _ _).trans hx⟩; clear hx) | (go_at_call_of 101 (Value.agg #[.bool n2, .slice p2 l2 c2, .int .i64 E2]); refine (d_Top _ y f _ (D2.out.ext H2.out.2.2)).mono ?_; rintro en w3 ⟨he, hx⟩; rw [← HU2.out] at he; subst he; have H2' : Hid (Bx w3 47 w.heap.size n1 (.slice p1 l1 c1) E1 ∧ Bx w3 47 (w.heap.size + 1) n2 (.slice p2 l2 c2) E2 ∧ Ext w w3) := ⟨H2.out.1.ext hx, H2.out.2.1.ext hx, H2.out.2.2.trans hx⟩; have H2 := H2'; clear hx H2'))
      all_goals
        go_wp2_with (fail)
        go_ret
        exact ⟨rfl, H2.out.2.2⟩
end Go.Proofs.YtdpjkddllimcoaaGreatDoor
end

section
/- Exact numbers: sums, differences, products. -/
namespace Fl
open Go Go.RowKit
theorem boxes3 (w : World) (t : TypeId) (n1 : Bool) (s1 : Value) (E1 : Int) (n2 : Bool) (s2 : Value) (E2 : Int) (o : Obj) :
    Ext w ((((w.alloc (.cells #[.bool n1, s1, .int .i64 E1] t)).alloc (.cells #[.bool n2, s2, .int .i64 E2] t)).alloc (.cells #[.bool false, .slice none 0 0, .int .i64 0] t)).alloc o) ∧
    Bx ((((w.alloc (.cells #[.bool n1, s1, .int .i64 E1] t)).alloc (.cells #[.bool n2, s2, .int .i64 E2] t)).alloc (.cells #[.bool false, .slice none 0 0, .int .i64 0] t)).alloc o) t w.heap.size n1 s1 E1 ∧
    Bx ((((w.alloc (.cells #[.bool n1, s1, .int .i64 E1] t)).alloc (.cells #[.bool n2, s2, .int .i64 E2] t)).alloc (.cells #[.bool false, .slice none 0 0, .int .i64 0] t)).alloc o) t (w.heap.size + 1) n2 s2 E2 ∧
    Bx ((((w.alloc (.cells #[.bool n1, s1, .int .i64 E1] t)).alloc (.cells #[.bool n2, s2, .int .i64 E2] t)).alloc (.cells #[.bool false, .slice none 0 0, .int .i64 0] t)).alloc o) t (w.heap.size + 2) false (.slice none 0 0) 0 ∧
    ((((w.alloc (.cells #[.bool n1, s1, .int .i64 E1] t)).alloc (.cells #[.bool n2, s2, .int .i64 E2] t)).alloc (.cells #[.bool false, .slice none 0 0, .int .i64 0] t)).alloc o).heap[w.heap.size + 3]? = some o := by
  refine ⟨((((Ext.refl w).alloc _).alloc _).alloc _).alloc _, ?_, ?_, ?_, ?_⟩
  · exact ((Bx.new1 w _ t n1 s1 E1).ext ((Ext.refl _).alloc _)).ext ((Ext.refl _).alloc _)
  · exact ((Bx.new2 w _ t n2 s2 E2).ext ((Ext.refl _).alloc _)).ext ((Ext.refl _).alloc _)
  · have h := Bx.new2 (w.alloc (.cells #[.bool n1, s1, .int .i64 E1] t)) (.cells #[.bool n2, s2, .int .i64 E2] t) t false (.slice none 0 0) 0
    rw [show (w.alloc (.cells #[.bool n1, s1, .int .i64 E1] t)).heap.size + 1 = w.heap.size + 2 by simp] at h
    exact h.ext ((Ext.refl _).alloc _)
  · have h := heap_new (((w.alloc (.cells #[.bool n1, s1, .int .i64 E1] t)).alloc (.cells #[.bool n2, s2, .int .i64 E2] t)).alloc (.cells #[.bool false, .slice none 0 0, .int .i64 0] t)) o
    rwa [show (((w.alloc (.cells #[.bool n1, s1, .int .i64 E1] t)).alloc (.cells #[.bool n2, s2, .int .i64 E2] t)).alloc (.cells #[.bool false, .slice none 0 0, .int .i64 0] t)).heap.size = w.heap.size + 3 by simp] at h
theorem Lev.sum {x y f X Y e : Int} (h : Lev x y f X Y e) : (x + y = 0 ∧ X + Y = 0) ∨ ∃ k : Nat, x + y = (X + Y) * 2 ^ k ∧ e = f + k := by
  rcases h with ⟨rfl, rfl, rfl, rfl, -⟩ | ⟨k, rfl, rfl, h⟩
  · exact .inl ⟨rfl, rfl⟩
  · exact .inr ⟨k, by rw [Int.add_mul], h⟩
theorem natAbs_add_lt {x y : Int} {L : Nat} (hx : x.natAbs < 2 ^ L) (hy : y.natAbs < 2 ^ L) : (x + y).natAbs < 2 ^ (L + 1) := by
  rw [Nat.pow_succ]; omega
theorem le_mul_pow (X : Int) (k : Nat) : X.natAbs ≤ (X * 2 ^ k).natAbs := by
  rw [natAbs_mul_pow]; exact Nat.le_mul_of_pos_right _ (Nat.two_pow_pos _)
theorem Lev.left {x y f X Y e : Int} (h : Lev x y f X Y e) : X.natAbs ≤ x.natAbs ∧ Y.natAbs ≤ y.natAbs := by
  rcases h with ⟨rfl, rfl, rfl, rfl, -⟩ | ⟨k, rfl, rfl, h⟩
  · exact ⟨Nat.le_refl _, Nat.le_refl _⟩
  · exact ⟨le_mul_pow _ _, le_mul_pow _ _⟩
theorem bits_mul_pow {X : Int} {k M : Nat} (h : (X * 2 ^ k).natAbs < 2 ^ M) (h0 : X ≠ 0) : bl X.natAbs + k ≤ M := by
  rw [natAbs_mul_pow] at h
  have := bl_le_of h
  rwa [bl_mul_pow k (by omega)] at this
theorem Dy.back {w : World} {v : Value} {X f e : Int} {k : Nat} (h : Dy w v X e) (he : e = f + k) : Dy w v (X * 2 ^ k) f := by
  have := h.scale k
  rwa [show e - (k : Int) = f by omega] at this
theorem Dy.zero_any {w : World} {v : Value} {e f : Int} (h : Dy w v 0 e) : Dy w v 0 f := by
  obtain ⟨o, E, h1, h2, h3⟩ := h
  refine ⟨o, E, h1, ?_, h3⟩
  have ho := h2.sgn.2.1.1 rfl
  rcases h2 with ⟨-, h4, h5⟩ | ⟨h4, -⟩
  · exact .inl ⟨rfl, h4, h5⟩
  · subst ho; simp at h4
end Fl
namespace Go.Proofs.YtdpjkddllimcoaaGreatDoor
open Go.RowKit Fl
set_option maxRecDepth 20000 in
theorem d_Add (a b : Value) (x y f : Int) (L : Nat) (w : World) (h1 : Dy w a x f) (h2 : Dy w b y f) (hx : x.natAbs < 2 ^ L) (hy : y.natAbs < 2 ^ L) (hL : L + 1 ≤ 65536) (hf : -65536 ≤ f) (hf2 : f + L + 1 ≤ 65536) (hT : Tab32 w) :
    Calls Tryz.prog 64 #[a, b] w fun en w' => ∃ v, en = .returned (.tuple #[v, .int .i64 0]) ∧ Ext w w' ∧ Dy w' v (x + y) f := by
  have D1 := Lib.hid h1
  have D2 := Lib.hid h2
  have HT := Lib.hid hT
  obtain ⟨n1, p1, l1, c1, o1, E1, rfl, -, -, d1, r1, k1⟩ := h1.open
  obtain ⟨n2, p2, l2, c2, o2, E2, rfl, -, -, d2, r2, k2⟩ := h2.open
  have HB := Lib.hid (boxes3 w 47 n1 (.slice p1 l1 c1) E1 n2 (.slice p2 l2 c2) E2 (.cells #[.bool n1, .slice p1 l1 c1, .int .i64 E1, .bool n2, .slice p2 l2 c2, .int .i64 E2] 47))
  have HV := Lib.hid (d_valid2 o1 E1 o2 E2 n1 n2 (.slice p1 l1 c1) (.slice p2 l2 c2) (w.heap.size + 3) _ HB.out.2.2.2.2 (d1.ext HB.out.1) (d2.ext HB.out.1) k1 k2)
  have HFar : Hid (∀ w', Ext w w' → Calls _ _ _ w' _) := fun w' hx' => d_far _ _ x y f L w' (h1.ext hx') (h2.ext hx') hx hy (by omega) (by omega) (by omega)
  have HXY := Lib.hid (And.intro hx hy)
  clear h1 h2 hx hy d1 d2 r1 r2 k1 k2 hT
  go_enter Tryz.func64, Tryz.ntmps64
  go_wp2_with (fail)
  refine HV.out.mono ?_
  rintro en w1 ⟨rfl, hx⟩
  have H1 := Lib.hid (And.intro (HB.out.1.trans hx) (And.intro (HB.out.2.1.ext hx) (And.intro (HB.out.2.2.1.ext hx) (HB.out.2.2.2.1.ext hx))))
  have a0 := H1.out.2.1.c0
  have a1 := H1.out.2.1.c1
  have a2 := H1.out.2.1.c2
  have a3 := H1.out.2.2.1.c0
  have a4 := H1.out.2.2.1.c1
  have a5 := H1.out.2.2.1.c2
  clear hx
  go_wp2_with (fail)
  refine (HFar.out w1 H1.out.1).mono ?_
  rintro en w2 ⟨rfl, hx⟩
  have H2 := Lib.hid (And.intro (H1.out.1.trans hx) (And.intro (H1.out.2.1.ext hx) (And.intro (H1.out.2.2.1.ext hx) (H1.out.2.2.2.ext hx))))
  clear a0 a1 a2 a3 a4 a5 hx
  have a0 := H2.out.2.1.c0
  have a1 := H2.out.2.1.c1
  have a2 := H2.out.2.1.c2
  have a3 := H2.out.2.2.1.c0
  have a4 := H2.out.2.2.1.c1
  have a5 := H2.out.2.2.1.c2
  go_wp2_with (fail)
  refine (d_level _ _ x y f _ (D1.out.ext H2.out.1) (D2.out.ext H2.out.1)).mono ?_
  rintro en w3 ⟨gx, gy, X, Y, e, rfl, hx, hgx, hgy, hne, hbx, hby, hlev⟩
  have H3 := Lib.hid (And.intro (H2.out.1.trans hx) (And.intro (H2.out.2.2.2.ext hx) (And.intro hbx (And.intro hby hlev))))
  have hgw : w.heap.size ≤ gx := Nat.le_trans H2.out.1.size hgx
  have hrx : gx ≠ w.heap.size + 2 := by
    have := (H2.out.2.2.2).lt
    omega
  have Hfit : Hid (X.natAbs < 4294967296 ^ 1048575 ∧ Y.natAbs < 4294967296 ^ 1048575) := by
    obtain ⟨q1, q2⟩ := hlev.left
    exact ⟨fit_of (k := L) (l := 1048575) (Nat.lt_of_le_of_lt q1 HXY.out.1) (by omega), fit_of (k := L) (l := 1048575) (Nat.lt_of_le_of_lt q2 HXY.out.2) (by omega)⟩
  clear a0 a1 a2 a3 a4 a5 hx hgx hgy hbx hby hlev
  go_wp2_with (fail)
  refine (i_add gx gx gy X Y _ H3.out.2.2.1.hv H3.out.2.2.1 H3.out.2.2.2.1 Hfit.out.1 Hfit.out.2).mono ?_
  rintro en w4 ⟨rfl, hc, hb⟩
  have H4 := Lib.hid (And.intro (Chg.ext H3.out.1 hc hgw) (And.intro (H3.out.2.1.chg hc (Ne.symm hrx)) hb))
  clear hc hb Hfit
  go_wp2_with (fail)
  have HN : Hid (Calls Tryz.prog 108 #[.pointer (some ⟨gx, 0, none⟩), .int .i64 e] w4 fun en w' => ∃ v, en = .returned (.tuple #[v, .int .i64 0]) ∧ Ext w4 w' ∧ Dy w' v (x + y) f) := by
    rcases H3.out.2.2.2.2.sum with ⟨s1, s2⟩ | ⟨k, s1, s2⟩
    · have hb := H4.out.2.2
      rw [s2] at hb
      refine (d_num_zero gx e w4 hb).mono ?_
      rintro en w' ⟨v, h1, h2, h3⟩
      exact ⟨v, h1, h2, by rw [s1]; exact h3.zero_any⟩
    · by_cases h0 : X + Y = 0
      · have hb := H4.out.2.2
        rw [h0] at hb
        refine (d_num_zero gx e w4 hb).mono ?_
        rintro en w' ⟨v, h1, h2, h3⟩
        exact ⟨v, h1, h2, by rw [s1, h0, Int.zero_mul]; exact h3.zero_any⟩
      · have hs := natAbs_add_lt HXY.out.1 HXY.out.2
        rw [s1] at hs
        have hbits := bits_mul_pow hs h0
        refine (d_num gx (bl (X + Y).natAbs) (X + Y) e w4 H4.out.2.2 h0 (bl_lt _) (by omega) (by omega) (by omega) (HT.out.ext H4.out.1)).mono ?_
        rintro en w' ⟨v, h1, h2, h3⟩
        exact ⟨v, h1, h2, by rw [s1]; exact h3.back s2⟩
  refine HN.out.mono ?_
  rintro en w5 ⟨v, rfl, hx, hd⟩
  have H5 := Lib.hid (And.intro (H4.out.1.trans hx) (And.intro (H4.out.2.1.ext hx) hd))
  obtain ⟨neg0, s0, E0, rfl⟩ := hd.form
  obtain ⟨p0, l0, c0, rfl⟩ := hd.sl
  have a0 := H5.out.2.1.c0
  have a1 := H5.out.2.1.c1
  have a2 := H5.out.2.1.c2
  have a3 := H5.out.2.1.frozen 0
  have a4 := H5.out.2.1.frozen 1
  have a5 := H5.out.2.1.frozen 2
  clear hx hd
  go_wp2_with (fail)
  refine bodyPost_ret (v := .tuple #[.agg #[.bool neg0, .slice p0 l0 c0, .int .i64 E0], .int .i64 0]) (by simp [results, Tryz.results64, go_sem, a0, a1, a2]) rfl ⟨_, rfl, ?_, ?_⟩
  · exact H5.out.1.set3 (by omega) _ _ _
  · exact H5.out.2.2.setBx H5.out.2.1 IsSl.nil _ _ _
end Go.Proofs.YtdpjkddllimcoaaGreatDoor
end

section
/- The reference's exact numbers: what it is that a struct tells one; its making. -/
namespace Fl
open Go Go.RowKit
/-- a struct that tells z times 2 to the e, its whole number odd. -/
def Ry (w : World) (v : Value) (z e : Int) : Prop := ∃ o E, Dr w v o E ∧ Rep o E z e
theorem Ry.ext {w w' : World} {v : Value} {z e : Int} (h : Ry w v z e) (hx : Ext w w') : Ry w' v z e := by
  obtain ⟨o, E, h1, h2⟩ := h
  exact ⟨o, E, h1.ext hx, h2⟩
theorem Ry.zero (w : World) (e : Int) : Ry w (.agg #[.bool false, .slice none 0 0, .int .i64 0]) 0 e := ⟨0, 0, Dr.zero w, .inl ⟨rfl, rfl, rfl⟩⟩
theorem Rep.zero_any {o E e f : Int} (h : Rep o E 0 e) : Rep o E 0 f := by
  have ho := h.sgn.2.1.1 rfl
  rcases h with ⟨-, h4, h5⟩ | ⟨h4, -⟩
  · exact .inl ⟨rfl, h4, h5⟩
  · subst ho; simp at h4
theorem Ry.zero_any {w : World} {v : Value} {e f : Int} (h : Ry w v 0 e) : Ry w v 0 f := by
  obtain ⟨o, E, h1, h2⟩ := h
  exact ⟨o, E, h1, h2.zero_any⟩
theorem Ry.back {w : World} {v : Value} {X f e : Int} {k : Nat} (h : Ry w v X e) (he : e = f + k) : Ry w v (X * 2 ^ k) f := by
  obtain ⟨o, E, h1, h2⟩ := h
  have := h2.scale k
  rw [show e - (k : Int) = f by omega] at this
  exact ⟨o, E, h1, this⟩
theorem Ry.open {w : World} {v : Value} {z e : Int} (h : Ry w v z e) : ∃ (n : Bool) (p : Option Addr) (l c : Nat) (o E : Int), v = .agg #[.bool n, .slice p l c, .int .i64 E] ∧ n = decide (z < 0) ∧ (l = 0 ↔ z = 0) ∧ Nt w (.slice p l c) o.natAbs ∧ Rep o E z e ∧ (0 < l → ∃ b off, p = some ⟨b, off, none⟩) := by
  obtain ⟨o, E, hd, hr⟩ := h
  obtain ⟨s, rfl, hn⟩ := hd
  obtain ⟨p, l, c, rfl, hl⟩ := hn.len
  refine ⟨_, p, l, c, o, E, rfl, ?_, by rw [hl, hr.sgn.2.1]; omega, hn, hr, ?_⟩
  · have := hr.sgn.1
    simp [this]
  · intro h0
    obtain ⟨zs, k1, -⟩ := hn
    obtain ⟨p', c', e, -, -, h3⟩ := k1.form
    injection e with e1 e2 e3
    subst e1
    obtain ⟨b, off, h4, -⟩ := h3 (by omega)
    exact ⟨b, off, h4⟩
theorem Ry.of_parts {w : World} {n : Bool} {s : Value} {o E z e : Int} (hn : n = decide (z < 0)) (hs : Nt w s o.natAbs) (hr : Rep o E z e) : Ry w (.agg #[.bool n, s, .int .i64 E]) z e := by
  refine ⟨o, E, ⟨s, ?_, hs⟩, hr⟩
  have := hr.sgn.1
  rw [hn]
  simp [this]
theorem Ry.chgB {w w' : World} {v : Value} {z e : Int} {t : TypeId} {g : Nat} {neg : Bool} {s : Value} {E : Int} (h : Ry w v z e) (hb : Bx w t g neg s E) (hs : IsSl s) (hx : Chg g w w') : Ry w' v z e := by
  obtain ⟨o, E', ⟨s', e1, hn⟩, h2⟩ := h
  exact ⟨o, E', ⟨s', e1, hn.chgB hb hs hx⟩, h2⟩
theorem Ry.setBx {w : World} {v : Value} {z e : Int} {t : TypeId} {g : Nat} {neg : Bool} {s : Value} {E : Int} (h : Ry w v z e) (hb : Bx w t g neg s E) (hs : IsSl s) (a b c : Value) :
    Ry (((w.setCell ⟨g, 0, none⟩ a).setCell ⟨g, 1, none⟩ b).setCell ⟨g, 2, none⟩ c) v z e := by
  obtain ⟨o, E', ⟨s', e1, hn⟩, h2⟩ := h
  exact ⟨o, E', ⟨s', e1, hn.chgB hb hs ((((Chg.refl g w).set rfl a).set rfl b).set rfl c)⟩, h2⟩
/-- where a number of few bits begins and ends. -/
theorem Rep.range {o E z e : Int} (h : Rep o E z e) (h0 : z ≠ 0) {L : Nat} (hz : z.natAbs < 2 ^ L) : e ≤ E ∧ E < e + L ∧ o.natAbs < 2 ^ L ∧ o.natAbs % 2 = 1 := by
  rcases h with ⟨h1, -, -⟩ | ⟨ho, k, rfl, rfl⟩
  · exact absurd h1 h0
  · rw [natAbs_mul_pow] at hz
    obtain ⟨h1, h2⟩ := odd_bound (n := o.natAbs * 2 ^ k) rfl ho hz
    exact ⟨by omega, by omega, h1, ho⟩
def sg (n : Bool) (m : Nat) : Int := if n then -(m : Int) else (m : Int)
theorem sg_natAbs (n : Bool) (m : Nat) : (sg n m).natAbs = m := by unfold sg; cases n <;> simp
theorem sg_zero {n : Bool} {m : Nat} : sg n m = 0 ↔ m = 0 := by unfold sg; cases n <;> simp
theorem sg_neg {n : Bool} {m : Nat} (h : m ≠ 0) : n = decide (sg n m < 0) := by unfold sg; cases n <;> simp; omega
theorem sg_mul (n : Bool) (m k : Nat) : sg n (m * 2 ^ k) = sg n m * 2 ^ k := by unfold sg; cases n <;> simp [Int.neg_mul]
theorem num_fit {zs : List Nat} (hw : Wd zs) {k : Nat} (hl : zs.length ≤ k) : num zs < 4294967296 ^ k := Nat.lt_of_lt_of_le (num_lt hw) (Nat.pow_le_pow_right (by decide) hl)
/-- one binary digit of words. -/
theorem word_bit {zs : List Nat} (hw : Wd zs) (n : Nat) : zs.getD (n / 32) 0 / 2 ^ (n % 32) % 2 = num zs / 2 ^ n % 2 := by
  rcases Nat.lt_or_ge (n / 32) zs.length with h | h
  · have e : (2 : Nat) ^ n = 4294967296 ^ (n / 32) * 2 ^ (n % 32) := by
      rw [show (4294967296 : Nat) = 2 ^ 32 by decide, ← Nat.pow_mul, ← Nat.pow_add]
      congr 1; omega
    rw [e, ← Nat.div_div_eq_div_mul, num_drop_div hw (Nat.le_of_lt h), num_drop]
    have hs : n % 32 < 32 := Nat.mod_lt _ (by decide)
    generalize n % 32 = s at *
    have e2 : (4294967296 : Nat) = 2 ^ s * (2 * 2 ^ (31 - s)) := by
      rw [← Nat.pow_succ', ← Nat.pow_add, show s + (31 - s + 1) = 32 by omega]
    rw [e2, Nat.mul_assoc, Nat.add_mul_div_left _ _ (Nat.two_pow_pos s), Nat.mul_assoc, Nat.add_mul_mod_self_left]
  · rw [getD_out h, Nat.zero_div]
    have h2 : num zs < 2 ^ n := by
      refine Nat.lt_of_lt_of_le (num_lt hw) ?_
      rw [show (4294967296 : Nat) = 2 ^ 32 by decide, ← Nat.pow_mul]
      exact Nat.pow_le_pow_right (by decide) (by omega)
    rw [Nat.div_eq_of_lt h2]
theorem odd_bit {o t n : Nat} (h : n ≤ t) (ho : o % 2 = 1) : o * 2 ^ t / 2 ^ n % 2 = if n = t then 1 else 0 := by
  by_cases h1 : n = t
  · subst h1
    rw [if_pos rfl, Nat.mul_div_cancel _ (Nat.two_pow_pos n)]; exact ho
  · rw [if_neg h1, show t = (t - n - 1) + 1 + n by omega, Nat.pow_add, ← Nat.mul_assoc, Nat.mul_div_cancel _ (Nat.two_pow_pos n), Nat.pow_succ, ← Nat.mul_assoc, Nat.mul_mod_left]
theorem bit32 (x s : Nat) (hx : x < 4294967296) : bits .and .u32 ((x : Int) / 2 ^ s) 1 = ((x / 2 ^ s % 2 : Nat) : Int) := by
  have h := bits_and_1' (x / 2 ^ s) (Nat.lt_of_le_of_lt (Nat.div_le_self _ _) hx)
  rw [← h]
  simp
section
variable {P : Program} {ops : Array Oper} {rest : List Oper} {o : Oper} {a : Act} {Q : Exit → Act → World → Prop}
/-- an append of all words of a slice to a row of the call's own that is empty. -/
theorem wpList_all32 {w w0 : World} (hg : o.guard = none) (s x : Operand) (t : TypeId) (hop : o.op = Op.call { callee := Callee.builtin Builtin.append, args := #[s, x], argTypes := #[t, t] })
    (e : TypeId) (i : TypeInfo) (h1 : P.underlying t = some (.slice e)) (HI : Hid (P.info? e = some i ∧ i.zero = some (.int .u32 0) ∧ i.size = 1 ∧ i.bytes = 4))
    (v : Value) (b off c : Nat) (ys : List Nat) (hs : a.eval s = v) (hx : a.eval x = .slice (some ⟨b, off, none⟩) ys.length c)
    (hown : Ow w w0.heap.size e v 0 []) (hX : Ext w0 w) (b1 : ys.length ≤ 16777216) (hsl : Sl w (.slice (some ⟨b, off, none⟩) ys.length c) ys)
    (hK : ∀ p' cap' w', Sl w' (.slice p' ys.length cap') ys → Ext w0 w' → wpList P ops Q rest (a.put o.dst (.slice p' ys.length cap')) w') :
    wpList P ops Q (o :: rest) a w := by
  unfold Ow at hown
  refine wpList_append_own _ hg s x t hop w0.heap.size e i (.int .u32 0) 1 4 h1 HI.out.1 HI.out.2.1 HI.out.2.2.1 HI.out.2.2.2 rfl (by decide) v 0 _ hs hown ⟨b, off, none⟩ ys.length c (ys.map W32) hx (by simp) ?_ (by intro u hu; simp at hu; obtain ⟨z, -, rfl⟩ := hu; rfl) (by unfold maxLen; omega) (by omega) hX.size ?_
  · intro j u hj
    rw [List.getElem?_map] at hj
    have hjl : j < ys.length := by
      rcases Nat.lt_or_ge j ys.length with h | h
      · exact h
      · rw [List.getElem?_eq_none h] at hj; simp at hj
    obtain ⟨b', off', e1, h⟩ := hsl.at hjl
    injection e1 with e1
    injection e1 with e2 e3
    subst e2 e3
    rw [List.getElem?_eq_getElem hjl] at hj
    simp at hj
    subst hj
    rw [List.getD_eq_getElem?_getD, List.getElem?_eq_getElem hjl] at h
    have e5 : (⟨b, off, none⟩ : Addr).add j = ⟨b, off + j, none⟩ := by
      unfold Addr.add
      split
      · next h0 => subst h0; rfl
      · rfl
    rw [e5, h]; rfl
  · intro v' w' h hgr hnil
    have hX' : Ext w0 w' := hX.grown hgr (fun j hj => by
      rcases hown.2 with ⟨h2, -⟩ | ⟨g, c, cur, h2, h3, -⟩
      · rw [h2] at hj; cases hj
      · have hj' : g = j := by simpa [h2, Value.ownBlock] using hj
        omega)
    rw [List.map_nil, List.nil_append, Nat.zero_add] at h
    have hsl' := Sl.of_own h
    rcases h.2 with ⟨h2, h3⟩ | ⟨g, c, cur, h2, h3⟩
    · subst h2
      have h4 := h.1
      rw [h3] at h4
      simp at h4
      subst h4
      exact hK none 0 w' hsl' hX'
    · subst h2
      exact hK _ _ _ hsl' hX'
end
end Fl
namespace Go.Proofs.YtdpjkddllimcoaaGreatDoor
open Go.RowKit Fl
set_option maxHeartbeats 1000000 in
theorem k_norm (neg : Bool) (v : Value) (ys : List Nat) (e : Int) (w : World) (hs : Sl w v ys) (hw : Wd ys) (hl : ys.length ≤ 1048575) (he1 : -4611686018427387904 ≤ e) (he2 : e ≤ 4611686018427387904) :
    Calls Tryz.prog 77 #[.bool neg, v, .int .i64 e] w fun en w' => ∃ v', en = .returned v' ∧ Ext w w' ∧ Ry w' v' (sg neg (num ys)) e := by
  have hlt := num_fit hw (k := 1048575) hl
  obtain ⟨i0, HI⟩ : ∃ i0, Hid (Tryz.prog.info? 70 = some i0 ∧ i0.zero = some (.int .u32 0) ∧ i0.size = 1 ∧ i0.bytes = 4) := info_parts info32
  have HX : Hid (∀ o, Ext w (w.alloc o)) := fun o => (Ext.refl w).alloc o
  have HT := Lib.hid (fun o => k_trim v ys (w.alloc o) (hs.ext (HX.out o)) hw (by omega))
  have HBx := Lib.hid (Bx.new w 35 false (.slice none 0 0) 0)
  have HLt := Lib.hid hlt
  generalize num ys = N at *
  clear hs hw hl hlt
  go_enter Tryz.func77, Tryz.ntmps77
  go_wp2_with (fail)
  refine (HT.out _).mono ?_
  rintro en w1 ⟨v', rfl, rfl, hn⟩
  obtain ⟨zs, s1, s2, s3, s4⟩ := hn
  have hlz : zs.length ≤ 1048575 := len_le s3 (by rw [s4]; exact HLt.out)
  obtain ⟨p, cap, rfl, -⟩ := s1.form
  by_cases h0 : N = 0
  · subst h0
    have hz := (num_zero s3).1 s4
    subst hz
    have HZ := Lib.hid (Ry.zero (w.alloc (.cells #[.bool false, .slice none 0 0, .int .i64 0] 35)) e)
    have a0 := HBx.out.c0
    have a1 := HBx.out.c1
    have a2 := HBx.out.c2
    clear s1 s2 s3 s4
    go_wp2_with (fail)
    exact bodyPost_ret (v := .agg #[.bool false, .slice none 0 0, .int .i64 0]) (by simp [results, Tryz.results77, go_sem]) rfl ⟨_, rfl, HX.out _, by rw [sg_zero.2 rfl]; exact HZ.out⟩
  · obtain ⟨o, t, hot, ho⟩ := odd_part N h0
    have hz0 : zs ≠ [] := fun h => h0 (by rw [← s4, h]; rfl)
    have hz1 := List.length_pos_iff.2 hz0
    have t0 : ((zs.length : Int) == 0) = false := by simp; omega
    obtain ⟨b, off, rfl, -⟩ := s1.at hz1
    have htb : t < 33554400 := by
      have h1 : 2 ^ t ≤ num zs := by rw [s4, hot]; exact Nat.le_mul_of_pos_left _ (by omega)
      have h2 := num_lt s2
      rw [show (4294967296 : Nat) = 2 ^ 32 by decide, ← Nat.pow_mul] at h2
      rcases Nat.lt_or_ge t (32 * zs.length) with h3 | h3
      · omega
      · have := Nat.pow_le_pow_right (show 0 < 2 by decide) h3
        omega
    have HW1 : Hid (Ext w (w.alloc (.cells #[.bool false, .slice none 0 0, .int .i64 0] 35)) ∧ w.heap.size < (w.alloc (.cells #[.bool false, .slice none 0 0, .int .i64 0] 35)).heap.size) := ⟨HX.out _, by simp⟩
    generalize w.alloc (.cells #[.bool false, .slice none 0 0, .int .i64 0] 35) = w1 at *
    have HS := Lib.hid (And.intro s1 (And.intro s2 (And.intro s3 s4)))
    have HO := Lib.hid (And.intro hot (And.intro ho h0))
    have HLz := Lib.hid hlz
    clear hot ho s1 s2 s3 s4 h0 hz0
    go_wp2_with (fail)
    go_loop [7] (fun v7 => ∃ n : Nat, n ≤ t ∧ v7 = .int .i64 n) (fun v7 => t - (intOf v7).toNat)
    case atStart => exact ⟨0, Nat.zero_le _, rfl⟩
    case round =>
      obtain ⟨n, hn, rfl⟩ := hrel
      obtain ⟨q, hq⟩ : ∃ q, q = n / 32 := ⟨_, rfl⟩
      obtain ⟨s, hs⟩ : ∃ s, s = n % 32 := ⟨_, rfl⟩
      have hqi : (n : Int).tdiv 32 = (q : Int) := by rw [Int.tdiv_eq_ediv_of_nonneg (by omega)]; omega
      have hsi : (n : Int).tmod 32 = (s : Int) := by rw [Int.tmod_eq_emod_of_nonneg (by omega)]; omega
      have hs32 : s < 32 := by omega
      have hb := word_bit HS.out.2.1 n
      rw [HS.out.2.2.2, HO.out.1, odd_bit hn HO.out.2.1, ← hq, ← hs] at hb
      have hql : q < zs.length := by
        rcases Nat.lt_or_ge q zs.length with h | h
        · exact h
        · have h1 : 2 ^ t ≤ num zs := by rw [HS.out.2.2.2, HO.out.1]; exact Nat.le_mul_of_pos_left _ (by have := HO.out.2.1; omega)
          have h2 := num_lt HS.out.2.1
          rw [show (4294967296 : Nat) = 2 ^ 32 by decide, ← Nat.pow_mul] at h2
          have h3 := Nat.pow_le_pow_right (show 0 < 2 by decide) (show 32 * zs.length ≤ n by omega)
          have h4 := Nat.pow_le_pow_right (show 0 < 2 by decide) hn
          omega
      obtain ⟨b', off', e1, hc⟩ := HS.out.1.at hql
      injection e1 with e1
      injection e1 with e2 e3
      subst e2 e3
      have hx := HS.out.2.1.getD q
      have hbit := bit32 (zs.getD q 0) s hx
      rw [hb] at hbit
      generalize zs.getD q 0 = x at *
      clear hb hq hs
      by_cases hnt : n = t
      · subst hnt
        rw [if_pos rfl] at hbit
        have HD : Hid (∀ w', Ext w1 w' → Calls Tryz.prog 92 #[.slice (some ⟨b, off, none⟩) zs.length cap, .int .i64 n] w' fun e w'' => ∃ v' B, e = .returned (.tuple #[v', .bool B]) ∧ Ext w' w'' ∧ Nt w'' v' o) := by
          intro w' hx'
          refine (k_down (.slice (some ⟨b, off, none⟩) zs.length cap) N n w' ⟨zs, ?_, HS.out.2.1, HS.out.2.2.1, HS.out.2.2.2⟩ HLt.out (by omega)).mono ?_
          · exact HS.out.1.ext hx'
          · rintro en wn ⟨v', rfl, h1, h2⟩
            rw [HO.out.1, Nat.mul_div_cancel _ (Nat.two_pow_pos _)] at h2
            exact ⟨v', _, rfl, h1, h2⟩
        have hnb : n ≤ 33554400 := by omega
        clear hn hx HLt htb
        go_wp2_with (fail)
        refine (HD.out _ (Ext.refl _)).mono ?_
        rintro en w2 ⟨v2, B, rfl, hx, hn2⟩
        obtain ⟨us, u1, u2, u3, u4⟩ := hn2
        have hu0 : us ≠ [] := by
          intro h
          rw [h] at u4
          have := HO.out.2.1
          rw [← u4] at this
          simp [num] at this
        obtain ⟨p2, c2, rfl, -⟩ := u1.form
        obtain ⟨b2, off2, rfl, -⟩ := u1.at (List.length_pos_iff.2 hu0)
        have hul : us.length ≤ 1048575 := by
          refine Nat.le_trans (len_le u3 (k := zs.length) ?_) HLz.out
          rw [u4]
          refine Nat.lt_of_le_of_lt ?_ (num_lt HS.out.2.1)
          rw [HS.out.2.2.2, HO.out.1]
          exact Nat.le_mul_of_pos_right _ (Nat.two_pow_pos _)
        have H2 : Hid (Ext w w2 ∧ Bx w2 35 w.heap.size false (.slice none 0 0) 0 ∧ Sl w2 (.slice (some ⟨b2, off2, none⟩) us.length c2) us ∧ Wd us ∧ Tm us ∧ num us = o) := ⟨HW1.out.1.trans hx, HBx.out.ext hx, u1, u2, u3, u4⟩
        clear hx u1 u2 u3 u4 hu0 HD HT
        go_wp2_with (at_make; refine wpList_make32 _ rfl _ _ _ rfl 70 i0 Tryz.underlying33 HI _ _ _ _ 0 0 rfl rfl (by omega) (by omega) (by omega) (by omega) ?_)
        intro w3 hown hx3
        have H3 : Hid (Ow w3 w2.heap.size 70 (.slice (some ⟨w2.heap.size, 0, none⟩) 0 0) 0 [] ∧ Ext w2 w3 ∧ Sl w3 (.slice (some ⟨b2, off2, none⟩) us.length c2) us) := ⟨hown, hx3, H2.out.2.2.1.ext hx3⟩
        clear hown hx3
        go_wp2_with (at_builtin; refine wpList_all32 rfl (.tmp 36) (.tmp 37) _ rfl 70 i0 Tryz.underlying33 HI _ b2 off2 c2 us rfl rfl H3.out.1 H3.out.2.1 (by omega) H3.out.2.2 ?_)
        intro p4 c4 w4 hs4 hx4
        have H4 : Hid (Ext w w4 ∧ Bx w4 35 w.heap.size false (.slice none 0 0) 0 ∧ Nt w4 (.slice p4 us.length c4) o) := ⟨H2.out.1.trans hx4, H2.out.2.1.ext hx4, us, hs4, H2.out.2.2.2.1, H2.out.2.2.2.2.1, H2.out.2.2.2.2.2⟩
        have a0 := H4.out.2.1.c0
        have a1 := H4.out.2.1.c1
        have a2 := H4.out.2.1.c2
        have a3 := H4.out.2.1.frozen 0
        have a4 := H4.out.2.1.frozen 1
        have a5 := H4.out.2.1.frozen 2
        have hlt4 := H4.out.2.1.lt
        clear hs4 hx4
        go_wp2_with (fail)
        refine bodyPost_ret (v := .agg #[.bool neg, .slice p4 us.length c4, .int .i64 (e + n)]) (by simp [results, Tryz.results77, go_sem, a0, a1, a2, hlt4]) rfl ⟨_, rfl, H4.out.1.set3 (Nat.le_refl _) _ _ _, ?_⟩
        refine Ry.setBx (Ry.of_parts (o := sg neg o) ?_ ?_ ?_) H4.out.2.1 IsSl.nil _ _ _
        · exact sg_neg HO.out.2.2
        · rw [sg_natAbs]; exact H4.out.2.2
        · refine .inr ⟨by rw [sg_natAbs]; exact HO.out.2.1, n, ?_, rfl⟩
          rw [HO.out.1, sg_mul]
      · rw [if_neg hnt] at hbit
        go_wp2_with (fail)
        refine ⟨⟨n + 1, by omega, by go_num⟩, ?_⟩
        show t - (((n + 1 : Nat) : Int)).toNat < t - ((n : Int)).toNat
        omega
end Go.Proofs.YtdpjkddllimcoaaGreatDoor
end

section
/- The reference's exact numbers: the small functions. -/
namespace Fl
open Go Go.RowKit
theorem num_two {x : Nat} (h : x < 18446744073709551616) : Wd [x % 4294967296, x / 4294967296] ∧ num [x % 4294967296, x / 4294967296] = x := by
  constructor
  · intro z hz
    simp at hz
    omega
  · simp only [num]
    omega
theorem num_digits {zs : List Nat} (hw : Wd zs) (h : num zs < 18446744073709551616) (ht : Tm zs) : (zs = [] ∧ num zs = 0) ∨ (∃ x, zs = [x] ∧ num zs = x ∧ x < 4294967296) ∨ (∃ x y, zs = [x, y] ∧ num zs = x + 4294967296 * y ∧ x < 4294967296 ∧ y < 4294967296) := by
  have hl := len_le ht (k := 2) (by simpa using h)
  match zs, hl with
  | [], _ => exact .inl ⟨rfl, rfl⟩
  | [x], _ => exact .inr (.inl ⟨x, rfl, by simp [num], hw x (by simp)⟩)
  | [x, y], _ => exact .inr (.inr ⟨x, y, rfl, by simp [num], hw x (by simp), hw y (by simp)⟩)
end Fl
namespace Go.Proofs.YtdpjkddllimcoaaGreatDoor
open Go.RowKit Fl
theorem k_small (v : Value) (a : Nat) (w : World) (hv : Nt w v a) (ha : a < 18446744073709551616) : Calls Tryz.prog 134 #[v] w fun en wn => en = .returned (.int .u64 (a : Int)) ∧ w = wn := by
  obtain ⟨zs, hs, hw, ht, rfl⟩ := hv
  rcases num_digits hw ha ht with ⟨rfl, h1⟩ | ⟨x, rfl, h1, h2⟩ | ⟨x, y, rfl, h1, h2, h3⟩
  · obtain ⟨p, cap, rfl, -⟩ := hs.form
    rw [h1]
    clear hs hw ht ha h1
    go_enter Tryz.func134, Tryz.ntmps134
    go_wp2_with (fail)
    go_ret
    exact ⟨rfl, rfl⟩
  · obtain ⟨p, cap, rfl, -⟩ := hs.form
    obtain ⟨b, off, rfl, hc⟩ := hs.at (k := 0) (by simp)
    rw [h1]
    rw [show [x].getD 0 0 = x from rfl, Nat.add_zero] at hc
    have g1 : bits .or .u64 0 (x : Int) = (x : Int) := by
      have := u64_or_nat 0 x (by decide) (by omega)
      simpa using this
    clear hs hw ht ha h1
    go_enter Tryz.func134, Tryz.ntmps134
    go_wp2_with (fail)
    go_ret
    exact ⟨rfl, rfl⟩
  · obtain ⟨p, cap, rfl, -⟩ := hs.form
    obtain ⟨b, off, rfl, hc⟩ := hs.at (k := 0) (by simp)
    obtain ⟨b', off', e, hc'⟩ := hs.at (k := 1) (by simp)
    injection e with e
    injection e with e1 e2
    subst e1 e2
    rw [h1]
    rw [show [x, y].getD 0 0 = x from rfl, Nat.add_zero] at hc
    rw [show [x, y].getD 1 0 = y from rfl] at hc'
    have g1 : bits .or .u64 ((y : Int) * 4294967296) (x : Int) = ((x + 4294967296 * y : Nat) : Int) := by
      have := u64_or_nat (y * 4294967296) x (by omega) (by omega)
      rw [show ((y * 4294967296 : Nat) : Int) = (y : Int) * 4294967296 by omega] at this
      rw [this]
      congr 1
      rw [Nat.mul_comm, ← show 2 ^ 32 * y + x = 2 ^ 32 * y ||| x from Nat.two_pow_add_eq_or_of_lt (by simpa using h2) y]; omega
    have hb : (y : Int) * 4294967296 < 18446744073709551616 := by omega
    clear hs hw ht ha h1
    generalize x + 4294967296 * y = T at *
    go_enter Tryz.func134, Tryz.ntmps134
    go_wp2_with (fail)
    go_ret
    exact ⟨rfl, rfl⟩
theorem k_Sgn (v : Value) (z e : Int) (w : World) (h : Ry w v z e) : Calls Tryz.prog 74 #[v] w fun en wn => en = .returned (.int .i64 (sgnI z)) ∧ Ext w wn := by
  obtain ⟨n, p, l, c, o, E, rfl, hn, hl, -⟩ := h.open
  have HX : Hid (∀ o1, Ext w (w.alloc o1)) := fun o1 => (Ext.refl w).alloc o1
  by_cases hz : z = 0
  · obtain rfl : l = 0 := hl.2 hz
    subst hz
    rw [show sgnI 0 = 0 from rfl]
    clear h hl
    go_enter Tryz.func74, Tryz.ntmps74
    go_wp2_with (fail)
    go_ret
    exact ⟨rfl, HX.out _⟩
  · have t0 := len_ne0 (show 0 < l from Nat.pos_of_ne_zero fun h0 => hz (hl.1 h0))
    cases n
    · rw [show sgnI z = 1 by unfold sgnI; simp at hn; rw [if_neg (by omega), if_neg hz]]
      clear h hl hn
      go_enter Tryz.func74, Tryz.ntmps74
      go_wp2_with (fail)
      go_ret
      exact ⟨rfl, HX.out _⟩
    · rw [show sgnI z = -1 by unfold sgnI; simp at hn; rw [if_pos (by omega)]]
      clear h hl hn
      go_enter Tryz.func74, Tryz.ntmps74
      go_wp2_with (fail)
      go_ret
      exact ⟨rfl, HX.out _⟩
theorem k_Minus (v : Value) (z e : Int) (w : World) (h : Ry w v z e) : Calls Tryz.prog 115 #[v] w fun en w' => ∃ v', en = .returned v' ∧ Ext w w' ∧ Ry w' v' (-z) e := by
  obtain ⟨n, p, l, c, o, E, rfl, hn, hl, hN, hr, -⟩ := h.open
  have HX : Hid (∀ o1 o2, Ext w ((w.alloc o1).alloc o2)) := fun o1 o2 => ((Ext.refl w).alloc o1).alloc o2
  by_cases hz : z = 0
  · obtain rfl : l = 0 := hl.2 hz
    subst hz
    have HZ := Lib.hid (fun w' => Ry.zero w' e)
    clear h hl hN hr
    go_enter Tryz.func115, Tryz.ntmps115
    go_wp2_with (fail)
    exact bodyPost_ret (v := .agg #[.bool false, .slice none 0 0, .int .i64 0]) (by simp [results, Tryz.results115, go_sem]) rfl ⟨_, rfl, HX.out _ _, HZ.out _⟩
  · have t0 := len_ne0 (show 0 < l from Nat.pos_of_ne_zero fun h0 => hz (hl.1 h0))
    have HR : Hid (∀ w', Ext w w' → Ry w' (.agg #[.bool (!n), .slice p l c, .int .i64 E]) (-z) e) := fun w' hx =>
      (Ry.of_parts (o := -o) (by rw [hn]; by_cases h1 : z < 0 <;> simp [h1] <;> omega) (by rw [Int.natAbs_neg]; exact hN) (Rep_neg hr)).ext hx
    clear h hl hN hr hn
    go_enter Tryz.func115, Tryz.ntmps115
    go_wp2_with (fail)
    exact bodyPost_ret (v := .agg #[.bool (!n), .slice p l c, .int .i64 E]) (by simp [results, Tryz.results115, go_sem]) rfl ⟨_, rfl, HX.out _ _, HR.out _ (HX.out _ _)⟩
end Go.Proofs.YtdpjkddllimcoaaGreatDoor
end

section
/- The reference's exact numbers: tops, copies, shifts. -/
namespace Fl
open Go Go.RowKit
theorem Rep.odd_ne {o E z e : Int} (h : Rep o E z e) (h0 : z ≠ 0) : o ≠ 0 := fun e1 => h0 (h.sgn.2.1.2 e1)
theorem Rep.move {o E z e : Int} (h : Rep o E z e) (h0 : z ≠ 0) (k : Int) : Rep o (E + k) z (e + k) := by
  rcases h with ⟨h1, -, -⟩ | ⟨ho, j, h3, h4⟩
  · exact absurd h1 h0
  · exact .inr ⟨ho, j, h3, by omega⟩
end Fl
namespace Go.Proofs.YtdpjkddllimcoaaGreatDoor
open Go.RowKit Fl
theorem k_High (v : Value) (z e : Int) (L : Nat) (w : World) (h : Ry w v z e) (hL : z.natAbs < 2 ^ L) (hLb : L ≤ 1048576) (he : -4611686018427387904 ≤ e ∧ e ≤ 4611686018427387904) :
    Calls Tryz.prog 124 #[v] w fun en wn => en = .returned (.int .i64 (topI z e)) ∧ Ext w wn := by
  obtain ⟨n, p, l, c, o, E, rfl, hn, hl, hN, hr, -⟩ := h.open
  have HX : Hid (∀ o1, Ext w (w.alloc o1)) := fun o1 => (Ext.refl w).alloc o1
  by_cases hz : z = 0
  · obtain rfl : l = 0 := hl.2 hz
    subst hz
    rw [show topI 0 e = 0 from rfl]
    clear h hl hN hr hL
    go_enter Tryz.func124, Tryz.ntmps124
    go_wp2_with (fail)
    go_ret
    exact ⟨rfl, HX.out _⟩
  · have t0 := len_ne0 (show 0 < l from Nat.pos_of_ne_zero fun h0 => hz (hl.1 h0))
    have ht : topI z e = bl o.natAbs + E := by unfold topI; rw [if_neg hz, hr.top hz]
    obtain ⟨r1, r2, r3, -⟩ := hr.range hz hL
    have hb := bl_le_of r3
    rw [ht]
    have HS : Hid (∀ m, Calls Tryz.prog 152 #[.slice p l c] ((w.alloc (.cells #[.bool n, .slice p l c, .int .i64 E] 35)).drewN m) fun e w' => e = .returned (.int .i64 ((bl o.natAbs : Nat) : Int)) ∧ Drw ((w.alloc (.cells #[.bool n, .slice p l c, .int .i64 E] 35)).drewN m) w') :=
      fun m => drw_of (k_size _ _ _ (hN.ext (((HX.out _)).drewN m)) (fit_of (k := L) (l := 1048575) r3 (by omega)))
    generalize bl o.natAbs = B at *
    clear h hl hN hr hL r3 hn ht
    go_enter Tryz.func124, Tryz.ntmps124
    go_wp2_with (fail)
    go_quiet ((go_at_call 152; exact quiet_d (HS.out _)))
    go_wp2_with (fail)
    go_ret
    exact ⟨rfl, (HX.out _).drewN _⟩
theorem k_twin (v : Value) (z e : Int) (L : Nat) (w : World) (h : Ry w v z e) (hL : z.natAbs < 2 ^ L) (hLb : L ≤ 1048576) : Calls Tryz.prog 78 #[v] w fun en w' => ∃ v', en = .returned v' ∧ Ext w w' ∧ Ry w' v' z e := by
  obtain ⟨i0, HI⟩ : ∃ i0, Hid (Tryz.prog.info? 70 = some i0 ∧ i0.zero = some (.int .u32 0) ∧ i0.size = 1 ∧ i0.bytes = 4) := info_parts info32
  obtain ⟨n, p, l, c, o, E, rfl, hn, hl, hN, hr, hp⟩ := h.open
  have HX : Hid (∀ o1 o2, Ext w ((w.alloc o1).alloc o2)) := fun o1 o2 => ((Ext.refl w).alloc o1).alloc o2
  by_cases hz : z = 0
  · obtain rfl : l = 0 := hl.2 hz
    subst hz
    have HZ : Hid (∀ w', Ry w' (.agg #[.bool n, .slice none 0 0, .int .i64 E]) 0 e) := fun w' => by
      rcases hr with ⟨-, h2, h3⟩ | ⟨h2, k, h3, -⟩
      · subst h2 h3
        exact Ry.of_parts (o := 0) hn (Nt.nil w') (.inl ⟨rfl, rfl, rfl⟩)
      · have : o = 0 := by
          rcases Int.mul_eq_zero.1 h3.symm with h | h
          · exact h
          · have := Int.pow_pos (m := k) (show (0 : Int) < 2 by decide); omega
        subst this; simp at h2
    clear h hl hN hr hn hp hL
    cases p
    all_goals
      go_enter Tryz.func78, Tryz.ntmps78
      go_wp2_with (fail)
      exact bodyPost_ret (v := .agg #[.bool n, .slice none 0 0, .int .i64 E]) (by simp [results, Tryz.results78, go_sem]) rfl ⟨_, rfl, HX.out _ _, HZ.out _⟩
  · obtain ⟨zs, s1, s2, s3, s4⟩ := hN
    have hl0 : 0 < l := Nat.pos_of_ne_zero fun h0 => hz (hl.1 h0)
    obtain ⟨b, off, rfl⟩ := hp hl0
    obtain ⟨r1, r2, r3, -⟩ := hr.range hz hL
    have hlz : zs.length ≤ 1048575 := len_le s3 (by rw [s4]; exact fit_of (k := L) (l := 1048575) r3 (by omega))
    obtain ⟨p', c', e1, -⟩ := s1.form
    injection e1 with e1 e2 e3
    clear e1
    subst e2 e3
    have HZ := Lib.hid (And.intro s1 (And.intro s2 (And.intro s3 s4)))
    have HR := Lib.hid (And.intro hr hn)
    clear h hl hr hn hp hL s1 s2 s3 s4 r3
    have HBx : Hid (Bx ((w.alloc (.cells #[.bool n, .slice (some ⟨b, off, none⟩) zs.length c, .int .i64 E] 35)).alloc (.cells #[.bool false, .slice none 0 0, .int .i64 0] 35)) 35 w.heap.size n (.slice (some ⟨b, off, none⟩) zs.length c) E) := Bx.new1 _ _ _ _ _ _
    have HBr : Hid (Bx ((w.alloc (.cells #[.bool n, .slice (some ⟨b, off, none⟩) zs.length c, .int .i64 E] 35)).alloc (.cells #[.bool false, .slice none 0 0, .int .i64 0] 35)) 35 (w.heap.size + 1) false (.slice none 0 0) 0) := Bx.new2 _ _ _ _ _ _
    go_enter Tryz.func78, Tryz.ntmps78
    go_wp2_with (at_builtin; refine wpList_all32 rfl (.tmp 4) (.tmp 6) _ rfl 70 i0 Tryz.underlying33 HI (.slice none 0 0) b off c zs rfl rfl (own_nil _ _) (Ext.refl _) (by omega) (HZ.out.1.ext (HX.out _ _)) ?_)
    intro p4 c4 w4 hs4 hx4
    have H4 : Hid (Ext w w4 ∧ Bx w4 35 w.heap.size n (.slice (some ⟨b, off, none⟩) zs.length c) E ∧ Bx w4 35 (w.heap.size + 1) false (.slice none 0 0) 0 ∧ Sl w4 (.slice p4 zs.length c4) zs) := ⟨(HX.out _ _).trans hx4, HBx.out.ext hx4, HBr.out.ext hx4, hs4⟩
    have a0 := H4.out.2.1.c0
    have a1 := H4.out.2.1.c1
    have a2 := H4.out.2.1.c2
    have a4 := H4.out.2.1.frozen 1
    have r0 := H4.out.2.2.1.c0
    have r1 := H4.out.2.2.1.c1
    have r2 := H4.out.2.2.1.c2
    have r3 := H4.out.2.2.1.frozen 0
    have r4 := H4.out.2.2.1.frozen 1
    have r5 := H4.out.2.2.1.frozen 2
    clear hs4 hx4
    go_wp2_with (fail)
    refine bodyPost_ret (v := .agg #[.bool n, .slice p4 zs.length c4, .int .i64 E]) (by simp [results, Tryz.results78, go_sem, r0, r1, r2]) rfl ⟨_, rfl, (H4.out.1.setNew (Nat.le_refl _) _).set3 (Nat.le_succ _) _ _ _, ?_⟩
    have hR : Ry w4 (.agg #[.bool n, .slice p4 zs.length c4, .int .i64 E]) z e := Ry.of_parts HR.out.2 ⟨zs, H4.out.2.2.2, HZ.out.2.1, HZ.out.2.2.1, HZ.out.2.2.2⟩ HR.out.1
    have hC := (Chg.refl w.heap.size w4).set (p := ⟨w.heap.size, 1, none⟩) rfl (.slice p4 zs.length c4)
    exact (hR.chgB H4.out.2.1 ⟨_, _, _, rfl⟩ hC).setBx (H4.out.2.2.1.chg hC (by omega)) IsSl.nil _ _ _
theorem k_Scaled (v : Value) (z e k : Int) (w : World) (h : Ry w v z e) (L : Nat) (hL : z.natAbs < 2 ^ L) (hLb : L ≤ 1048576) (he : -1152921504606846976 ≤ e ∧ e ≤ 1152921504606846976) (hk : -1152921504606846976 ≤ k ∧ k ≤ 1152921504606846976) :
    Calls Tryz.prog 95 #[v, .int .i64 k] w fun en w' => ∃ v', en = .returned v' ∧ Ext w w' ∧ Ry w' v' z (e + k) := by
  obtain ⟨n, p, l, c, o, E, rfl, hn, hl, hN, hr, -⟩ := h.open
  have HX : Hid (∀ o1 o2, Ext w ((w.alloc o1).alloc o2)) := fun o1 o2 => ((Ext.refl w).alloc o1).alloc o2
  by_cases hz : z = 0
  · obtain rfl : l = 0 := hl.2 hz
    subst hz
    have HZ := Lib.hid (fun w' => Ry.zero w' (e + k))
    clear h hl hN hr hL
    go_enter Tryz.func95, Tryz.ntmps95
    go_wp2_with (fail)
    exact bodyPost_ret (v := .agg #[.bool false, .slice none 0 0, .int .i64 0]) (by simp [results, Tryz.results95, go_sem]) rfl ⟨_, rfl, HX.out _ _, HZ.out _⟩
  · have t0 := len_ne0 (show 0 < l from Nat.pos_of_ne_zero fun h0 => hz (hl.1 h0))
    obtain ⟨r1, r2, -, -⟩ := hr.range hz hL
    have HR : Hid (∀ w', Ext w w' → Ry w' (.agg #[.bool n, .slice p l c, .int .i64 (E + k)]) z (e + k)) := fun w' hx =>
      (Ry.of_parts hn hN (hr.move hz k)).ext hx
    clear h hl hN hr hn hL
    go_enter Tryz.func95, Tryz.ntmps95
    go_wp2_with (fail)
    exact bodyPost_ret (v := .agg #[.bool n, .slice p l c, .int .i64 (E + k)]) (by simp [results, Tryz.results95, go_sem]) rfl ⟨_, rfl, HX.out _ _, HR.out _ (HX.out _ _)⟩
theorem k_one (k : Int) (w : World) (hk : -1152921504606846976 ≤ k ∧ k ≤ 1152921504606846976) :
    Calls Tryz.prog 93 #[.int .i64 k] w fun en w' => ∃ v', en = .returned v' ∧ Ext w w' ∧ Ry w' v' 1 (-k) := by
  have HX : Hid (∀ o1 o2, Ext w ((w.alloc o1).alloc o2)) := fun o1 o2 => ((Ext.refl w).alloc o1).alloc o2
  have HR : Hid (Ry ((w.alloc (.cells #[.bool false, .slice (some ⟨w.heap.size + 1, 0, none⟩) 1 1, .int .i64 (-k)] 35)).alloc (.cells #[.int .u32 1] 70)) (.agg #[.bool false, .slice (some ⟨w.heap.size + 1, 0, none⟩) 1 1, .int .i64 (-k)]) 1 (-k)) := by
    refine Ry.of_parts (o := 1) rfl ⟨[1], .inr ⟨w.heap.size + 1, 0, 1, rfl, by decide, by decide, fun i hi => ?_⟩, fun z hz => by simp at hz; omega, by unfold Tm; simp, rfl⟩ (.inr ⟨rfl, 0, rfl, by omega⟩)
    have : i = 0 := by simp at hi; omega
    subst this
    have h := cell_new (w.alloc (.cells #[.bool false, .slice (some ⟨w.heap.size + 1, 0, none⟩) 1 1, .int .i64 (-k)] 35)) #[.int .u32 1] 70 0
    rw [show (w.alloc (.cells #[.bool false, .slice (some ⟨w.heap.size + 1, 0, none⟩) 1 1, .int .i64 (-k)] 35)).heap.size = w.heap.size + 1 by simp] at h
    exact h
  go_enter Tryz.func93, Tryz.ntmps93
  go_wp2_with (fail)
  exact bodyPost_ret (v := .agg #[.bool false, .slice (some ⟨w.heap.size + 1, 0, none⟩) 1 1, .int .i64 (-k)]) (by simp [results, Tryz.results93, go_sem]) rfl ⟨_, rfl, HX.out _ _, HR.out⟩
end Go.Proofs.YtdpjkddllimcoaaGreatDoor
end

section
/- math.Ldexp, where its answer is a float or beyond all. -/
namespace Go.Proofs.YtdpjkddllimcoaaGreatDoor
open Go.RowKit Fl
attribute [local go_sem] m_bits m_of

theorem m_ldexp_zero (f : Nat) (h0 : feq f 0 = true) (k : Int) (w : World) : Calls Tryz.prog 179 #[.float .f64 f, .int .i64 k] w fun en wn => en = .returned (.float .f64 f) ∧ w = wn := by
  go_enter Tryz.func179, Tryz.ntmps179
  go_wp2
  go_ret
  exact ⟨rfl, rfl⟩
theorem m_ldexp_norm (f s y z : Nat) (k sf E : Int) (hN : ∀ w, Calls Tryz.prog 180 #[.float .f64 f] w fun en wn => en = .returned (.tuple #[.float .f64 s, .int .i64 sf]) ∧ w = wn)
   (h0 : feq f 0 = false) (h1 : decide (mag f = INF) = false) (h2 : nan f = false) (hf : f < 18446744073709551616) (hs : s < 18446744073709551616)
   (k1 : -10000 ≤ k) (k2 : k ≤ 10000) (s1 : -52 ≤ sf) (s2 : sf ≤ 0) (E1 : 0 ≤ E) (E2 : E ≤ 2046)
   (hE : bits .and .i64 ((s : Int) / 4503599627370496) 2047 = E) (T1 : -1022 ≤ k + sf + (E - 1023)) (T2 : k + sf + (E - 1023) ≤ 1023)
   (hX : bits .or .u64 (bits .andNot .u64 (s : Int) 9218868437227405312) ((k + sf + (E - 1023) + 1023) * 4503599627370496) = ((y : Nat) : Int))
   (hz : FloatKind.f64.format.mul 4607182418800017408 y = some z)
   (w : World) : Calls Tryz.prog 179 #[.float .f64 f, .int .i64 k] w fun en wn => en = .returned (.float .f64 z) ∧ w = wn := by
  have HN := Lib.hid hN
  clear hN
  have hM := run_mul_float (P := Tryz.prog) (w := w) 22 hz
  clear hz
  go_enter Tryz.func179, Tryz.ntmps179
  go_wp2_with (first | (go_at_call 97; refine (m_isInf0 _ hf _).mono ?_; rintro e w' ⟨rfl, rfl⟩) | (go_at_call 129; refine (m_isNaN _ hf _).mono ?_; rintro e w' ⟨rfl, rfl⟩) | (go_at_call 180; refine (HN.out _).mono ?_; rintro e w' ⟨rfl, rfl⟩))
  go_ret
  exact ⟨rfl, rfl⟩
theorem m_ldexp_den (f s y z : Nat) (k sf E : Int) (hN : ∀ w, Calls Tryz.prog 180 #[.float .f64 f] w fun en wn => en = .returned (.tuple #[.float .f64 s, .int .i64 sf]) ∧ w = wn)
   (h0 : feq f 0 = false) (h1 : decide (mag f = INF) = false) (h2 : nan f = false) (hf : f < 18446744073709551616) (hs : s < 18446744073709551616)
   (k1 : -10000 ≤ k) (k2 : k ≤ 10000) (s1 : -52 ≤ sf) (s2 : sf ≤ 0) (E1 : 0 ≤ E) (E2 : E ≤ 2046)
   (hE : bits .and .i64 ((s : Int) / 4503599627370496) 2047 = E) (T1 : -1075 ≤ k + sf + (E - 1023)) (T2 : k + sf + (E - 1023) < -1022)
   (hX : bits .or .u64 (bits .andNot .u64 (s : Int) 9218868437227405312) ((k + sf + (E - 1023) + 53 + 1023) * 4503599627370496) = ((y : Nat) : Int))
   (hz : FloatKind.f64.format.mul 4368491638549381120 y = some z)
   (w : World) : Calls Tryz.prog 179 #[.float .f64 f, .int .i64 k] w fun en wn => en = .returned (.float .f64 z) ∧ w = wn := by
  have HN := Lib.hid hN
  clear hN
  have hM := run_mul_float (P := Tryz.prog) (w := w) 22 hz
  clear hz
  have T3 : k + sf + (E - 1023) ≤ 1023 := by omega
  go_enter Tryz.func179, Tryz.ntmps179
  go_wp2_with (first | (go_at_call 97; refine (m_isInf0 _ hf _).mono ?_; rintro e w' ⟨rfl, rfl⟩) | (go_at_call 129; refine (m_isNaN _ hf _).mono ?_; rintro e w' ⟨rfl, rfl⟩) | (go_at_call 180; refine (HN.out _).mono ?_; rintro e w' ⟨rfl, rfl⟩))
  go_ret
  exact ⟨rfl, rfl⟩
theorem m_ldexp_over (f s : Nat) (k sf E : Int) (hN : ∀ w, Calls Tryz.prog 180 #[.float .f64 f] w fun en wn => en = .returned (.tuple #[.float .f64 s, .int .i64 sf]) ∧ w = wn)
   (h0 : feq f 0 = false) (h1 : decide (mag f = INF) = false) (h2 : nan f = false) (hf : f < 18446744073709551616) (hs : s < 18446744073709551616)
   (k1 : -10000 ≤ k) (k2 : k ≤ 10000) (s1 : -52 ≤ sf) (s2 : sf ≤ 0) (E1 : 0 ≤ E) (E2 : E ≤ 2046)
   (hE : bits .and .i64 ((s : Int) / 4503599627370496) 2047 = E) (T1 : 1023 < k + sf + (E - 1023)) (b : Bool) (hb : flt s 0 = b)
   (w : World) : Calls Tryz.prog 179 #[.float .f64 f, .int .i64 k] w fun en wn => en = .returned (.float .f64 (word b INF)) ∧ w = wn := by
  have HN := Lib.hid hN
  clear hN
  have T3 : -1075 ≤ k + sf + (E - 1023) := by omega
  go_enter Tryz.func179, Tryz.ntmps179
  cases b
  · go_wp2_with (first | (go_at_call 97; refine (m_isInf0 _ hf _).mono ?_; rintro e w' ⟨rfl, rfl⟩) | (go_at_call 129; refine (m_isNaN _ hf _).mono ?_; rintro e w' ⟨rfl, rfl⟩) | (go_at_call 180; refine (HN.out _).mono ?_; rintro e w' ⟨rfl, rfl⟩) | (go_at_call 73; refine (m_inf 1 _).mono ?_; rintro e w' ⟨rfl, rfl⟩))
    go_ret
    exact ⟨rfl, rfl⟩
  · go_wp2_with (first | (go_at_call 97; refine (m_isInf0 _ hf _).mono ?_; rintro e w' ⟨rfl, rfl⟩) | (go_at_call 129; refine (m_isNaN _ hf _).mono ?_; rintro e w' ⟨rfl, rfl⟩) | (go_at_call 180; refine (HN.out _).mono ?_; rintro e w' ⟨rfl, rfl⟩) | (go_at_call 73; refine (m_inf (-1) _).mono ?_; rintro e w' ⟨rfl, rfl⟩))
    go_ret
    exact ⟨rfl, rfl⟩
end Go.Proofs.YtdpjkddllimcoaaGreatDoor
end
