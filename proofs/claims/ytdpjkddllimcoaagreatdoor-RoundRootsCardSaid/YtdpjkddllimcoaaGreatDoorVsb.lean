/- A part of the proof (12 of 18) of this: RoundSums: for every two floats and every mode the program's rounded sum and difference are the document's: the law returns true; condition: the table of package math/bits reads as its text lays it. -/
import Derived.Deep.RegionHeld3
import Derived.Laws.Pointers
import Derived.Test.YtdpjkddllimcoaaGreatDoorVsa

section
/- Whole numbers with a sign, behind pointers: what it is that a block holds one. -/
namespace Fl
open Go Go.RowKit
/-- block g is a number's head: its sign, and the slice of its words. -/
def Hd (w : World) (t : TypeId) (g : Nat) (neg : Bool) (s : Value) : Prop := w.heap[g]? = some (.cells #[.bool neg, s] t (0, 0))
def IsSl (s : Value) : Prop := ∃ p l c, s = .slice p l c
def Hv (w : World) (t : TypeId) (g : Nat) : Prop := ∃ neg s, IsSl s ∧ Hd w t g neg s
/-- block g holds the whole number z. -/
def Bi (w : World) (t : TypeId) (g : Nat) (z : Int) : Prop := ∃ s, Hd w t g (decide (z < 0)) s ∧ Nt w s z.natAbs
theorem Nt.isSl {w : World} {s : Value} {n : Nat} (h : Nt w s n) : IsSl s := by
  obtain ⟨zs, h1, -⟩ := h
  obtain ⟨p, c, e, -⟩ := h1.form
  exact ⟨_, _, _, e⟩
theorem Bi.hv {w : World} {t : TypeId} {g : Nat} {z : Int} (h : Bi w t g z) : Hv w t g := by
  obtain ⟨s, h1, h2⟩ := h
  exact ⟨_, s, h2.isSl, h1⟩
theorem Hd.c0 {w : World} {t : TypeId} {g : Nat} {neg : Bool} {s : Value} (h : Hd w t g neg s) : w.cell? ⟨g, 0, none⟩ = some (.bool neg) := by
  simp only [World.cell?, show w.heap[g]? = _ from h]; rfl
theorem Hd.c1 {w : World} {t : TypeId} {g : Nat} {neg : Bool} {s : Value} (h : Hd w t g neg s) : w.cell? ⟨g, 1, none⟩ = some s := by
  simp only [World.cell?, show w.heap[g]? = _ from h]; rfl
theorem Hd.out {w : World} {t : TypeId} {g : Nat} {neg : Bool} {s : Value} (h : Hd w t g neg s) (i : Nat) : w.cell? ⟨g, i + 2, none⟩ = none := by
  simp only [World.cell?, show w.heap[g]? = _ from h]; simp
theorem Hd.frozen {w : World} {t : TypeId} {g : Nat} {neg : Bool} {s : Value} (h : Hd w t g neg s) (i : Nat) : w.frozen? ⟨g, i, none⟩ = false := by
  simp only [World.frozen?, show w.heap[g]? = _ from h]; simp
theorem Hd.lt {w : World} {t : TypeId} {g : Nat} {neg : Bool} {s : Value} (h : Hd w t g neg s) : g < w.heap.size := by
  unfold Hd at h
  rcases Nat.lt_or_ge g w.heap.size with h1 | h1
  · exact h1
  · rw [Array.getElem?_eq_none h1] at h; simp at h
theorem Hd.set0 {w : World} {t : TypeId} {g : Nat} {neg : Bool} {s : Value} (h : Hd w t g neg s) (b : Bool) : Hd (w.setCell ⟨g, 0, none⟩ (.bool b)) t g b s := by
  unfold Hd at *
  simp only [World.setCell, Array.getElem?_modify]
  rw [if_pos trivial, h]
  rfl
theorem Hd.set1 {w : World} {t : TypeId} {g : Nat} {neg : Bool} {s : Value} (h : Hd w t g neg s) (u : Value) : Hd (w.setCell ⟨g, 1, none⟩ u) t g neg u := by
  unfold Hd at *
  simp only [World.setCell, Array.getElem?_modify]
  rw [if_pos trivial, h]
  rfl
theorem Hd.ext {w w' : World} {t : TypeId} {g : Nat} {neg : Bool} {s : Value} (h : Hd w t g neg s) (hx : Ext w w') : Hd w' t g neg s := by
  have hl := h.lt
  unfold Hd at *
  rw [hx.block hl, h]
theorem Hd.chg {w w' : World} {t : TypeId} {g k : Nat} {neg : Bool} {s : Value} (h : Hd w t g neg s) (hx : Chg k w w') (hk : g ≠ k) : Hd w' t g neg s := by
  have hl := h.lt
  unfold Hd at *
  rw [hx.block hl hk, h]
theorem Hv.ext {w w' : World} {t : TypeId} {g : Nat} (h : Hv w t g) (hx : Ext w w') : Hv w' t g := by
  obtain ⟨neg, s, h1, h2⟩ := h
  exact ⟨neg, s, h1, h2.ext hx⟩
theorem Hv.chg {w w' : World} {t : TypeId} {g k : Nat} (h : Hv w t g) (hx : Chg k w w') (hk : g ≠ k) : Hv w' t g := by
  obtain ⟨neg, s, h1, h2⟩ := h
  exact ⟨neg, s, h1, h2.chg hx hk⟩
theorem Hv.lt {w : World} {t : TypeId} {g : Nat} (h : Hv w t g) : g < w.heap.size := by
  obtain ⟨neg, s, h1, h2⟩ := h
  exact h2.lt
theorem Bi.ext {w w' : World} {t : TypeId} {g : Nat} {z : Int} (h : Bi w t g z) (hx : Ext w w') : Bi w' t g z := by
  obtain ⟨s, h1, h2⟩ := h
  exact ⟨s, h1.ext hx, h2.ext hx⟩
/-- words do not lie in a head. -/
theorem Hv.ne {w : World} {t : TypeId} {g : Nat} (h : Hv w t g) {b o : Nat} {k : IntKind} {n : Int} (hc : w.cell? ⟨b, o, none⟩ = some (.int k n)) : b ≠ g := by
  rintro rfl
  obtain ⟨neg, s, ⟨p, l, c, rfl⟩, h2⟩ := h
  match o with
  | 0 => rw [h2.c0] at hc; simp at hc
  | 1 => rw [h2.c1] at hc; simp at hc
  | o + 2 => rw [h2.out] at hc; simp at hc
theorem Sl.chg {w w' : World} {t : TypeId} {g : Nat} {v : Value} {zs : List Nat} (h : Sl w v zs) (hv : Hv w t g) (hx : Chg g w w') : Sl w' v zs := by
  rcases h with h | ⟨b, off, cap, h1, h2, h3, h4⟩
  · exact .inl h
  · exact .inr ⟨b, off, cap, h1, h2, h3, fun i hi => hx.cell (h4 i hi) (hv.ne (h4 i hi))⟩
theorem Nt.chg {w w' : World} {t : TypeId} {g : Nat} {v : Value} {n : Nat} (h : Nt w v n) (hv : Hv w t g) (hx : Chg g w w') : Nt w' v n := by
  obtain ⟨zs, h1, h2⟩ := h
  exact ⟨zs, h1.chg hv hx, h2⟩
theorem Bi.chg {w w' : World} {t : TypeId} {g k : Nat} {z : Int} (h : Bi w t g z) (hv : Hv w t k) (hx : Chg k w w') (hk : g ≠ k) : Bi w' t g z := by
  obtain ⟨s, h1, h2⟩ := h
  exact ⟨s, h1.chg hx hk, h2.chg hv hx⟩
theorem Bi.lt {w : World} {t : TypeId} {g : Nat} {z : Int} (h : Bi w t g z) : g < w.heap.size := h.hv.lt
/-- a head and words, told as a number. -/
theorem Bi.mk {w : World} {t : TypeId} {g n : Nat} {neg : Bool} {s : Value} {z : Int} (h : Hd w t g (neg && decide (0 < n)) s) (hs : Nt w s n) (hz : z = if neg then -(n : Int) else n) : Bi w t g z := by
  subst hz
  refine ⟨s, ?_, ?_⟩
  · have e : decide ((if neg then -(n : Int) else n) < 0) = (neg && decide (0 < n)) := by
      cases neg <;> simp <;> omega
    rw [e]; exact h
  · have e : (if neg then -(n : Int) else n).natAbs = n := by cases neg <;> simp
    rw [e]; exact hs
/-- a head that has just been made. -/
theorem Hv.new (w : World) (t : TypeId) : Hv (w.alloc (.cells #[.bool false, .slice none 0 0] t)) t w.heap.size := ⟨false, _, ⟨none, 0, 0, rfl⟩, heap_new w _⟩
theorem Bi.new (w : World) (t : TypeId) : Bi (w.alloc (.cells #[.bool false, .slice none 0 0] t)) t w.heap.size 0 := ⟨.slice none 0 0, heap_new w _, Nt.nil _⟩
/-- a world in which two blocks alone have turned. -/
def Ch2 (g h : Nat) (w w' : World) : Prop :=
  w'.os = w.os ∧ w'.tape = w.tape ∧ w'.output = w.output ∧ w.heap.size ≤ w'.heap.size ∧ ∀ k, k < w.heap.size → k ≠ g → k ≠ h → w'.heap[k]? = w.heap[k]?
theorem Ch2.of1 {g h : Nat} {a b : World} (k : Chg g a b) : Ch2 g h a b := ⟨k.1, k.2.1, k.2.2.1, k.2.2.2.1, fun i hi hg _ => k.2.2.2.2 i hi hg⟩
theorem Ch2.of2 {g h : Nat} {a b : World} (k : Chg h a b) : Ch2 g h a b := ⟨k.1, k.2.1, k.2.2.1, k.2.2.2.1, fun i hi _ hh => k.2.2.2.2 i hi hh⟩
theorem Ch2.of_ext {g h : Nat} {a b : World} (k : Ext a b) : Ch2 g h a b := Ch2.of1 (Chg.of_ext k)
theorem Ch2.trans {g h : Nat} {a b c : World} (k : Ch2 g h a b) (l : Ch2 g h b c) : Ch2 g h a c :=
  ⟨l.1.trans k.1, l.2.1.trans k.2.1, l.2.2.1.trans k.2.2.1, Nat.le_trans k.2.2.2.1 l.2.2.2.1, fun i hi hg hh => (l.2.2.2.2 i (Nat.lt_of_lt_of_le hi k.2.2.2.1) hg hh).trans (k.2.2.2.2 i hi hg hh)⟩
theorem Ch2.ext {g h : Nat} {a b c : World} (k : Ext a b) (l : Ch2 g h b c) (hg : a.heap.size ≤ g) (hh : a.heap.size ≤ h) : Ext a c :=
  ⟨l.1.trans k.1, l.2.1.trans k.2.1, l.2.2.1.trans k.2.2.1, Nat.le_trans k.2.2.2.1 l.2.2.2.1, fun i hi => (l.2.2.2.2 i (Nat.lt_of_lt_of_le hi k.2.2.2.1) (by omega) (by omega)).trans (k.2.2.2.2 i hi)⟩
theorem Ch2.cell {g h : Nat} {a b : World} (k : Ch2 g h a b) {p : Addr} {v : Value} (hp : a.cell? p = some v) (hg : p.block ≠ g) (hh : p.block ≠ h) : b.cell? p = some v := by
  have hl := lt_of_cell hp
  rw [← hp]
  simp only [World.cell?, k.2.2.2.2 _ hl hg hh]
theorem Hd.ch2 {w w' : World} {t : TypeId} {g k l : Nat} {neg : Bool} {s : Value} (h : Hd w t g neg s) (hx : Ch2 k l w w') (hk : g ≠ k) (hl : g ≠ l) : Hd w' t g neg s := by
  have hl' := h.lt
  unfold Hd at *
  rw [hx.2.2.2.2 _ hl' hk hl, h]
theorem Hv.ch2 {w w' : World} {t : TypeId} {g k l : Nat} (h : Hv w t g) (hx : Ch2 k l w w') (hk : g ≠ k) (hl : g ≠ l) : Hv w' t g := by
  obtain ⟨neg, s, h1, h2⟩ := h
  exact ⟨neg, s, h1, h2.ch2 hx hk hl⟩
theorem Nt.ch2 {w w' : World} {t : TypeId} {g k : Nat} {v : Value} {n : Nat} (h : Nt w v n) (hv : Hv w t g) (hv' : Hv w t k) (hx : Ch2 g k w w') : Nt w' v n := by
  obtain ⟨zs, h1, h2⟩ := h
  refine ⟨zs, ?_, h2⟩
  rcases h1 with h | ⟨b, off, cap, h1, h2, h3, h4⟩
  · exact .inl h
  · exact .inr ⟨b, off, cap, h1, h2, h3, fun i hi => hx.cell (h4 i hi) (hv.ne (h4 i hi)) (hv'.ne (h4 i hi))⟩
theorem Bi.ch2 {w w' : World} {t : TypeId} {g k l : Nat} {z : Int} (h : Bi w t g z) (hv : Hv w t k) (hv' : Hv w t l) (hx : Ch2 k l w w') (hk : g ≠ k) (hl : g ≠ l) : Bi w' t g z := by
  obtain ⟨s, h1, h2⟩ := h
  exact ⟨s, h1.ch2 hx hk hl, h2.ch2 hv hv' hx⟩
def Pt (g : Nat) : Value := .pointer (some ⟨g, 0, none⟩)
end Fl
namespace Go.Proofs.YtdpjkddllimcoaaGreatDoor
open Go.RowKit Fl
theorem i_put (g n : Nat) (neg : Bool) (s : Value) (w : World) (h : Hv w 95 g) (hs : Nt w s n) :
    Calls Tryz.prog 140 #[.pointer (some ⟨g, 0, none⟩), .bool neg, s] w fun e w' => e = .returned (.pointer (some ⟨g, 0, none⟩)) ∧ Chg g w w' ∧ Hd w' 95 g (neg && decide (0 < n)) s ∧ Nt w' s n := by
  have HV := Lib.hid h
  obtain ⟨neg0, s0, -, hd⟩ := h
  obtain ⟨p, l, c, rfl⟩ := hs.isSl
  have hz : Hid (decide (0 < l) = decide (0 < n)) := by
    obtain ⟨zs, h1, h2, h3, h4⟩ := hs
    obtain ⟨p', c', e, -⟩ := h1.form
    injection e with e1 e2 e3
    show _ = _
    have := num_zero h3
    rw [h4] at this
    rw [decide_eq_decide, e2]
    have hl : zs = [] ↔ zs.length = 0 := List.length_eq_zero_iff.symm
    rw [hl] at this
    omega
  have HS := Lib.hid hs
  have c0 := hd.c0
  have c1 := hd.c1
  have f0 := hd.frozen 0
  have f1 := hd.frozen 1
  have HD := Lib.hid hd
  clear hd hs
  have HF : Hid (∀ b : Bool, Chg g w ((w.setCell ⟨g, 0, none⟩ (.bool b)).setCell ⟨g, 1, none⟩ (.slice p l c)) ∧ Hd ((w.setCell ⟨g, 0, none⟩ (.bool b)).setCell ⟨g, 1, none⟩ (.slice p l c)) 95 g b (.slice p l c)) :=
    fun b => ⟨((Chg.refl g w).set rfl _).set rfl _, (HD.out.set0 b).set1 _⟩
  cases neg
  · go_enter Tryz.func140, Tryz.ntmps140
    go_wp2_with (fail)
    go_ret
    exact ⟨rfl, (HF.out _).1, (HF.out _).2, HS.out.chg HV.out (HF.out _).1⟩
  · by_cases hl : 0 < l
    · have t1 : decide (0 < l) = true := by simp; omega
      rw [← hz.out, t1]
      go_enter Tryz.func140, Tryz.ntmps140
      go_wp2_with (fail)
      go_ret
      exact ⟨rfl, (HF.out _).1, (HF.out _).2, HS.out.chg HV.out (HF.out _).1⟩
    · have t1 : decide (0 < l) = false := by simp; omega
      rw [← hz.out, t1]
      go_enter Tryz.func140, Tryz.ntmps140
      go_wp2_with (fail)
      go_ret
      exact ⟨rfl, (HF.out _).1, (HF.out _).2, HS.out.chg HV.out (HF.out _).1⟩
/-- put, told as a number. -/
theorem i_putz (g n : Nat) (neg : Bool) (s : Value) (w : World) (h : Hv w 95 g) (hs : Nt w s n) (z : Int) (hz : z = if neg then -(n : Int) else n) :
    Calls Tryz.prog 140 #[.pointer (some ⟨g, 0, none⟩), .bool neg, s] w fun e w' => e = .returned (.pointer (some ⟨g, 0, none⟩)) ∧ Chg g w w' ∧ Bi w' 95 g z :=
  (i_put g n neg s w h hs).mono fun _ _ ⟨h1, h2, h3, h4⟩ => ⟨h1, h2, Bi.mk h3 h4 hz⟩
end Go.Proofs.YtdpjkddllimcoaaGreatDoor
end

section
/- Whole numbers with a sign: shifts. -/
namespace Go.Proofs.YtdpjkddllimcoaaGreatDoor
open Go.RowKit Fl
theorem i_lsh (gz gx k : Nat) (x : Int) (w : World) (hz : Hv w 95 gz) (hx : Bi w 95 gx x) (hb : x.natAbs < 4294967296 ^ 1048575) (hk : k < 33554432) :
    Calls Tryz.prog 106 #[.pointer (some ⟨gz, 0, none⟩), .pointer (some ⟨gx, 0, none⟩), .int .u64 k] w fun e w' => e = .returned (.pointer (some ⟨gz, 0, none⟩)) ∧ Chg gz w w' ∧ Bi w' 95 gz (x * 2 ^ k) := by
  obtain ⟨s, h1, h2⟩ := hx
  obtain ⟨neg, hneg⟩ : ∃ neg, Hid (neg = decide (x < 0)) := ⟨_, rfl⟩
  rw [← hneg.out] at h1
  have c0 := h1.c0
  have c1 := h1.c1
  have HZ := Lib.hid hz
  have HN := Lib.hid h2
  have HB := Lib.hid hb
  have C := Lib.hid (And.intro c0 c1)
  have HM : Hid (x * 2 ^ k = if neg then -((x.natAbs * 2 ^ k : Nat) : Int) else ((x.natAbs * 2 ^ k : Nat) : Int)) := by
    show _ = _
    rw [hneg.out, Int.natCast_mul, Int.natCast_pow]
    by_cases hx0 : x < 0
    · rw [if_pos (by simp [hx0]), ← Int.neg_mul, show -(x.natAbs : Int) = x by omega]; rfl
    · rw [if_neg (by simp; omega), show (x.natAbs : Int) = x by omega]; rfl
  clear h1 h2 hz hb
  go_enter Tryz.func106, Tryz.ntmps106
  go_wp2_with (fail)
  go_region_with (first | (go_at_call 141; refine (n_shl _ _ k _ (HN.out.ext (Ext.drewN (Ext.refl _) _)) HB.out hk).mono ?_; rintro e w1 ⟨v1, rfl, hx, hn⟩; have HX : Hid (Ext w w1) := hx; have HN1 := Lib.hid hn; have c0' := hx.cell_some C.out.1; clear hx hn) | (go_at_call 140; refine (i_putz gz _ neg _ _ (HZ.out.ext HX.out) HN1.out (x * 2 ^ k) HM.out).mono ?_; rintro e w2 ⟨rfl, hc, hb⟩; have HW := Lib.hid (And.intro ((Chg.of_ext HX.out).trans hc) hb); clear hc hb))
  all_goals (go_wp2_with (fail); go_ret; exact ⟨rfl, HW.out.1, HW.out.2⟩)
end Go.Proofs.YtdpjkddllimcoaaGreatDoor
end

section
/- Whole numbers with a sign: products. -/
namespace Go.Proofs.YtdpjkddllimcoaaGreatDoor
open Go.RowKit Fl
theorem i_mul (gz gx gy : Nat) (x y : Int) (w : World) (hz : Hv w 95 gz) (hx : Bi w 95 gx x) (hy : Bi w 95 gy y) (hb : x.natAbs < 4294967296 ^ 1048575) (hb' : y.natAbs < 4294967296 ^ 1048575) (hxz : gx ≠ gz) (hyz : gy ≠ gz) :
    Calls Tryz.prog 109 #[.pointer (some ⟨gz, 0, none⟩), .pointer (some ⟨gx, 0, none⟩), .pointer (some ⟨gy, 0, none⟩)] w fun e w' => e = .returned (.pointer (some ⟨gz, 0, none⟩)) ∧ Chg gz w w' ∧ Bi w' 95 gz (x * y) := by
  obtain ⟨s, h1, h2⟩ := hx
  obtain ⟨s', h1', h2'⟩ := hy
  obtain ⟨neg, hneg⟩ : ∃ neg, Hid (neg = decide (x < 0)) := ⟨_, rfl⟩
  obtain ⟨neg', hneg'⟩ : ∃ neg, Hid (neg = decide (y < 0)) := ⟨_, rfl⟩
  rw [← hneg.out] at h1
  rw [← hneg'.out] at h1'
  have c0 := h1.c0
  have c1 := h1.c1
  have c0' := h1'.c0
  have c1' := h1'.c1
  have HZ := Lib.hid hz
  have HN := Lib.hid h2
  have HN' := Lib.hid h2'
  have HB := Lib.hid hb
  have HB' := Lib.hid hb'
  have C := Lib.hid (And.intro (And.intro c0 c1) (And.intro c0' c1'))
  have HM : Hid (x * y = if (neg != neg') then -((x.natAbs * y.natAbs : Nat) : Int) else ((x.natAbs * y.natAbs : Nat) : Int)) := by
    show _ = _
    rw [hneg.out, hneg'.out, Int.natCast_mul]
    by_cases h1 : x < 0 <;> by_cases h2 : y < 0 <;> simp only [h1, h2, decide_true, decide_false, bne_self_eq_false, Bool.false_eq_true, if_false, Bool.true_bne, Bool.false_bne, Bool.not_false, if_true]
    · rw [show (x.natAbs : Int) = -x by omega, show (y.natAbs : Int) = -y by omega, Int.neg_mul_neg]
    · rw [show (x.natAbs : Int) = -x by omega, show (y.natAbs : Int) = y by omega, Int.neg_mul, Int.neg_neg]
    · rw [show (x.natAbs : Int) = x by omega, show (y.natAbs : Int) = -y by omega, Int.mul_neg, Int.neg_neg]
    · rw [show (x.natAbs : Int) = x by omega, show (y.natAbs : Int) = y by omega]
  clear h1 h2 hz hb h1' h2' hb'
  go_enter Tryz.func109, Tryz.ntmps109
  go_wp2_with (fail)
  go_region_held3 (fun w' => w'.cell? ⟨gx, 0, none⟩ = some (.bool neg) ∧ w'.cell? ⟨gx, 1, none⟩ = some s ∧ w'.cell? ⟨gy, 0, none⟩ = some (.bool neg') ∧ w'.cell? ⟨gy, 1, none⟩ = some s') (first | go_keep | (have HXX := HX.out; exact ⟨HXX.cell C.out.1.1 hxz, HXX.cell C.out.1.2 hxz, HXX.cell C.out.2.1 hyz, HXX.cell C.out.2.2 hyz⟩)) (first | (go_at_call 146; refine (n_mul _ _ _ _ _ (HN.out.ext (Ext.drewN (Ext.refl _) _)) (HN'.out.ext (Ext.drewN (Ext.refl _) _)) HB.out HB'.out).mono ?_; rintro e w1 ⟨v1, rfl, hx, hn⟩; have HE : Hid (Ext w w1) := hx; have HX : Hid (Chg gz w w1) := Chg.of_ext HE.out; have HN1 := Lib.hid hn; clear hx hn) | (go_at_call 140; refine (i_putz gz _ (neg != neg') _ _ (HZ.out.ext HE.out) HN1.out (x * y) HM.out).mono ?_; rintro e w2 ⟨rfl, hc, hb⟩; have HX1 : Hid (Chg gz w w2) := HX.out.trans hc; have HX := HX1; have HW := Lib.hid hb; clear hc hb))
  all_goals (go_wp2_with (fail); go_ret; exact ⟨rfl, HX.out, HW.out⟩)
end Go.Proofs.YtdpjkddllimcoaaGreatDoor
end

section
/- Whole numbers with a sign: what only reads, and what lets one be a word. -/
namespace Fl
open Go Go.RowKit
theorem Nt.len {w : World} {s : Value} {n : Nat} (h : Nt w s n) : ∃ p l c, s = .slice p l c ∧ (l = 0 ↔ n = 0) := by
  obtain ⟨zs, h1, h2, h3, h4⟩ := h
  obtain ⟨p, c, e, -⟩ := h1.form
  refine ⟨p, zs.length, c, e, ?_⟩
  have := num_zero h3
  rw [h4] at this
  rw [this, List.length_eq_zero_iff]
theorem bne_not {a b : Bool} (h : ¬ a = b) : b = !a := by
  revert h
  cases a <;> cases b <;> simp
def sgnI (x : Int) : Int := if x < 0 then -1 else if x = 0 then 0 else 1
def cmpZ (x y : Int) : Int := if x < y then -1 else if x = y then 0 else 1
end Fl
namespace Go.Proofs.YtdpjkddllimcoaaGreatDoor
open Go.RowKit Fl
theorem i_sign (gx : Nat) (x : Int) (w : World) (hx : Bi w 95 gx x) :
    Calls Tryz.prog 105 #[.pointer (some ⟨gx, 0, none⟩)] w fun en wn => en = .returned (.int .i64 (sgnI x)) ∧ w = wn := by
  obtain ⟨sx, h1x, h2x⟩ := hx
  obtain ⟨negx, hnegx⟩ : ∃ neg, Hid (neg = decide (x < 0)) := ⟨_, rfl⟩
  rw [← hnegx.out] at h1x
  have c0x := h1x.c0
  have c1x := h1x.c1
  have HNx := Lib.hid h2x
  have Cx := Lib.hid (And.intro c0x c1x)
  clear h1x h2x
  obtain ⟨p, l, c, rfl, hl⟩ := HNx.out.len
  have HS : Hid (sgnI x = if l = 0 then 0 else if negx then -1 else 1) := by
    show _ = _
    rw [hnegx.out]
    unfold sgnI
    by_cases h : x < 0
    · rw [if_pos h, if_neg (by omega)]; simp [h]
    · rw [if_neg h]
      by_cases h0 : x = 0
      · rw [if_pos h0, if_pos (by omega)]
      · rw [if_neg h0, if_neg (by omega)]; simp [h]
  by_cases h0 : l = 0
  · subst h0
    have HR : Hid (sgnI x = 0) := by show _ = _; rw [HS.out]; rfl
    clear hl
    go_enter Tryz.func105, Tryz.ntmps105
    go_wp2_with (fail)
    go_ret
    exact ⟨ret_int HR.out.symm, rfl⟩
  · have t0 : ((l : Int) == 0) = false := by simp; omega
    have HR : Hid (sgnI x = if negx then -1 else 1) := by show _ = _; rw [HS.out, if_neg h0]
    clear hl HS h0
    cases negx
    · go_enter Tryz.func105, Tryz.ntmps105
      go_wp2_with (fail)
      go_ret
      exact ⟨ret_int HR.out.symm, rfl⟩
    · go_enter Tryz.func105, Tryz.ntmps105
      go_wp2_with (fail)
      go_ret
      exact ⟨ret_int HR.out.symm, rfl⟩
theorem i_bitLen (gx : Nat) (x : Int) (w : World) (hx : Bi w 95 gx x) (hb : x.natAbs < 4294967296 ^ 1048575) :
    Calls Tryz.prog 121 #[.pointer (some ⟨gx, 0, none⟩)] w fun en wn => en = .returned (.int .i64 ((bl x.natAbs : Nat) : Int)) ∧ w = wn := by
  obtain ⟨sx, h1x, h2x⟩ := hx
  obtain ⟨negx, hnegx⟩ : ∃ neg, Hid (neg = decide (x < 0)) := ⟨_, rfl⟩
  rw [← hnegx.out] at h1x
  have c0x := h1x.c0
  have c1x := h1x.c1
  have HNx := Lib.hid h2x
  have Cx := Lib.hid (And.intro c0x c1x)
  clear h1x h2x
  have HC := Lib.hid (n_bitLen sx x.natAbs w HNx.out hb)
  clear hb
  go_enter Tryz.func121, Tryz.ntmps121
  go_wp2_with (go_at_call 149; refine HC.out.mono ?_; rintro e w' ⟨rfl, rfl⟩)
  go_ret
  exact ⟨rfl, rfl⟩
theorem i_zeros (gx : Nat) (x : Int) (o t : Nat) (w : World) (hx : Bi w 95 gx x) (hb : x.natAbs < 4294967296 ^ 1048575) (hat : x.natAbs = o * 2 ^ t) (ho : o % 2 = 1) (hT : Tab32 w) :
    Calls Tryz.prog 143 #[.pointer (some ⟨gx, 0, none⟩)] w fun en wn => en = .returned (.int .u64 ((t : Nat) : Int)) ∧ w = wn := by
  obtain ⟨sx, h1x, h2x⟩ := hx
  obtain ⟨negx, hnegx⟩ : ∃ neg, Hid (neg = decide (x < 0)) := ⟨_, rfl⟩
  rw [← hnegx.out] at h1x
  have c0x := h1x.c0
  have c1x := h1x.c1
  have HNx := Lib.hid h2x
  have Cx := Lib.hid (And.intro c0x c1x)
  clear h1x h2x
  have HC := Lib.hid (n_zeros sx x.natAbs o t w HNx.out hb hat ho hT)
  clear hb hat ho hT
  go_enter Tryz.func143, Tryz.ntmps143
  go_wp2_with (go_at_call 162; refine HC.out.mono ?_; rintro e w' ⟨rfl, rfl⟩)
  go_ret
  exact ⟨rfl, rfl⟩
theorem i_abs (gz gx : Nat) (x : Int) (w : World) (hz : Hv w 95 gz) (hx : Bi w 95 gx x) :
    Calls Tryz.prog 120 #[.pointer (some ⟨gz, 0, none⟩), .pointer (some ⟨gx, 0, none⟩)] w fun e w' => e = .returned (.pointer (some ⟨gz, 0, none⟩)) ∧ Chg gz w w' ∧ Bi w' 95 gz (x.natAbs : Int) := by
  obtain ⟨sx, h1x, h2x⟩ := hx
  obtain ⟨negx, hnegx⟩ : ∃ neg, Hid (neg = decide (x < 0)) := ⟨_, rfl⟩
  rw [← hnegx.out] at h1x
  have c0x := h1x.c0
  have c1x := h1x.c1
  have HNx := Lib.hid h2x
  have Cx := Lib.hid (And.intro c0x c1x)
  clear h1x h2x
  have HC := Lib.hid (i_putz gz x.natAbs false sx w hz HNx.out (x.natAbs : Int) (by simp))
  clear hz
  go_enter Tryz.func120, Tryz.ntmps120
  go_wp2_with (go_at_call 140; refine HC.out.mono ?_; rintro e w' ⟨rfl, hc, hb⟩; have HW := Lib.hid (And.intro hc hb); clear hc hb)
  go_ret
  exact ⟨rfl, HW.out.1, HW.out.2⟩
theorem i_setUint64 (gz n : Nat) (w : World) (hz : Hv w 95 gz) (hn : n < 18446744073709551616) :
    Calls Tryz.prog 136 #[.pointer (some ⟨gz, 0, none⟩), .int .u64 n] w fun e w' => e = .returned (.pointer (some ⟨gz, 0, none⟩)) ∧ Chg gz w w' ∧ Bi w' 95 gz (n : Int) := by
  have HZ := Lib.hid hz
  clear hz
  go_enter Tryz.func136, Tryz.ntmps136
  go_wp2_with (fail)
  refine (n_small n hn _).mono ?_
  rintro e w1 ⟨v, rfl, hx, hn⟩
  have H1 := Lib.hid (And.intro hx hn)
  clear hx hn
  go_wp2_with (fail)
  refine (i_putz gz n false v _ (HZ.out.ext H1.out.1) H1.out.2 (n : Int) (by simp)).mono ?_
  rintro e w' ⟨rfl, hc, hb⟩
  have HW := Lib.hid (And.intro hc hb)
  clear hc hb
  go_wp2_with (fail)
  go_ret
  exact ⟨rfl, (Chg.of_ext H1.out.1).trans HW.out.1, HW.out.2⟩
theorem i_neg (gz gx : Nat) (x : Int) (w : World) (hz : Hv w 95 gz) (hx : Bi w 95 gx x) :
    Calls Tryz.prog 137 #[.pointer (some ⟨gz, 0, none⟩), .pointer (some ⟨gx, 0, none⟩)] w fun e w' => e = .returned (.pointer (some ⟨gz, 0, none⟩)) ∧ Chg gz w w' ∧ Bi w' 95 gz (-x) := by
  obtain ⟨sx, h1x, h2x⟩ := hx
  obtain ⟨negx, hnegx⟩ : ∃ neg, Hid (neg = decide (x < 0)) := ⟨_, rfl⟩
  rw [← hnegx.out] at h1x
  have c0x := h1x.c0
  have c1x := h1x.c1
  have HNx := Lib.hid h2x
  have Cx := Lib.hid (And.intro c0x c1x)
  clear h1x h2x
  have HM : Hid (-x = if (!negx) then -((x.natAbs : Nat) : Int) else ((x.natAbs : Nat) : Int)) := by
    show _ = _
    rw [hnegx.out]
    by_cases h1 : x < 0
    · simp only [h1, decide_true, Bool.not_true, Bool.false_eq_true, if_false]; omega
    · simp only [h1, decide_false, Bool.not_false, if_true]; omega
  have HZ := Lib.hid hz
  clear hz
  go_enter Tryz.func137, Tryz.ntmps137
  go_wp2_with (fail)
  go_region_with (first | (go_at_call 140; refine (i_putz gz x.natAbs (!negx) sx _ (HZ.out.ext (Ext.drewN (Ext.refl _) _)) (HNx.out.ext (Ext.drewN (Ext.refl _) _)) (-x) HM.out).mono ?_; rintro e w' ⟨rfl, hc, hb⟩; have HC : Hid (Chg gz w w') := hc; have HW := Lib.hid hb; clear hc hb))
  all_goals (go_wp2_with (fail); go_ret; exact ⟨rfl, HC.out, HW.out⟩)
end Go.Proofs.YtdpjkddllimcoaaGreatDoor
end

section
/- Whole numbers with a sign: sums, differences. -/
namespace Go.Proofs.YtdpjkddllimcoaaGreatDoor
open Go.RowKit Fl
set_option maxHeartbeats 1000000 in
theorem i_sum (gz gx n : Nat) (x : Int) (neg : Bool) (s : Value) (w : World) (hz : Hv w 95 gz) (hx : Bi w 95 gx x) (hs : Nt w s n) (hb : x.natAbs < 4294967296 ^ 1048575) (hb' : n < 4294967296 ^ 1048575) :
    Calls Tryz.prog 148 #[.pointer (some ⟨gz, 0, none⟩), .pointer (some ⟨gx, 0, none⟩), .bool neg, s] w fun e w' => e = .returned (.pointer (some ⟨gz, 0, none⟩)) ∧ Chg gz w w' ∧ Bi w' 95 gz (x + if neg then -(n : Int) else n) := by
  obtain ⟨sx, h1x, h2x⟩ := hx
  obtain ⟨negx, hnegx⟩ : ∃ neg, Hid (neg = decide (x < 0)) := ⟨_, rfl⟩
  rw [← hnegx.out] at h1x
  have c0x := h1x.c0
  have c1x := h1x.c1
  have HNx := Lib.hid h2x
  have Cx := Lib.hid (And.intro c0x c1x)
  clear h1x h2x
  obtain ⟨r, HR⟩ : ∃ r : Int, Hid (r = x + if neg then -(n : Int) else n) := ⟨_, rfl⟩
  rw [← HR.out]
  have HZ := Lib.hid hz
  have HS := Lib.hid hs
  have HB := Lib.hid (And.intro hb hb')
  clear hz hs hb hb'
  by_cases he : negx = neg
  · subst he
    have HM : Hid (r = if negx then -((x.natAbs + n : Nat) : Int) else ((x.natAbs + n : Nat) : Int)) := by
      show _ = _
      rw [HR.out, hnegx.out]
      by_cases h1 : x < 0
      · simp only [h1, decide_true, if_true]; omega
      · simp only [h1, decide_false, Bool.false_eq_true, if_false]; omega
    have t1 : (negx == negx) = true := by simp
    go_enter Tryz.func148, Tryz.ntmps148
    go_wp2_with (fail)
    refine (n_add _ _ _ _ _ HNx.out HS.out HB.out.1 HB.out.2).mono ?_
    rintro e w1 ⟨v1, rfl, hx, hn⟩
    have H1 := Lib.hid (And.intro hx hn)
    clear hx hn
    go_wp2_with (fail)
    refine (i_putz gz _ negx v1 _ (HZ.out.ext H1.out.1) H1.out.2 r HM.out).mono ?_
    rintro e w' ⟨rfl, hc, hb⟩
    have HW := Lib.hid (And.intro hc hb)
    clear hc hb
    go_wp2_with (fail)
    go_ret
    exact ⟨rfl, (Chg.of_ext H1.out.1).trans HW.out.1, HW.out.2⟩
  · have t1 : (negx == neg) = false := by simpa using he
    have H0 : Hid (neg = !negx) := bne_not he
    by_cases hc : x.natAbs < n
    · have HM : Hid (r = if neg then -((n - x.natAbs : Nat) : Int) else ((n - x.natAbs : Nat) : Int)) := by
        show _ = _
        rw [HR.out, H0.out, hnegx.out]
        by_cases h1 : x < 0
        · simp only [h1, decide_true, Bool.not_true, Bool.false_eq_true, if_false]; omega
        · simp only [h1, decide_false, Bool.not_false, if_true]; omega
      have HC := Lib.hid (n_cmp_lt sx s _ _ w HNx.out HS.out (fit_up (k := 1048575) (l := 1048576) HB.out.1 (by decide)) (fit_up (k := 1048575) (l := 1048576) HB.out.2 (by decide)) hc)
      have HL := Lib.hid (Nat.le_of_lt hc)
      clear he hc
      go_enter Tryz.func148, Tryz.ntmps148
      go_wp2_with (fail)
      refine HC.out.mono ?_
      rintro e w0 ⟨rfl, hd⟩
      have HD := Lib.hid hd.ext
      have c1 := hd.ext.cell_some Cx.out.2
      clear hd c0x c1x
      go_wp2_with (fail)
      refine (n_sub _ _ _ _ _ (HS.out.ext HD.out) (HNx.out.ext HD.out) HB.out.2 HL.out).mono ?_
      rintro e w1 ⟨v1, rfl, hx, hn⟩
      have H1 := Lib.hid (And.intro (HD.out.trans hx) hn)
      clear hx hn
      go_wp2_with (fail)
      refine (i_putz gz _ neg v1 _ (HZ.out.ext H1.out.1) H1.out.2 r HM.out).mono ?_
      rintro e w' ⟨rfl, hc, hb⟩
      have HW := Lib.hid (And.intro hc hb)
      clear hc hb
      go_wp2_with (fail)
      go_ret
      exact ⟨rfl, (Chg.of_ext H1.out.1).trans HW.out.1, HW.out.2⟩
    · have HM : Hid (r = if negx then -((x.natAbs - n : Nat) : Int) else ((x.natAbs - n : Nat) : Int)) := by
        show _ = _
        rw [HR.out, H0.out, hnegx.out]
        by_cases h1 : x < 0
        · simp only [h1, decide_true, Bool.not_true, Bool.false_eq_true, if_false, if_true]; omega
        · simp only [h1, decide_false, Bool.not_false, if_true, Bool.false_eq_true, if_false]; omega
      have HC := Lib.hid (n_cmp_ge sx s _ _ w HNx.out HS.out (fit_up (k := 1048575) (l := 1048576) HB.out.1 (by decide)) (fit_up (k := 1048575) (l := 1048576) HB.out.2 (by decide)) hc)
      have HL := Lib.hid (Nat.le_of_not_lt hc)
      clear he hc
      go_enter Tryz.func148, Tryz.ntmps148
      go_wp2_with (fail)
      refine HC.out.mono ?_
      rintro e w0 ⟨c, hc0, hc1, rfl, hd⟩
      have HD := Lib.hid hd.ext
      have c1 := hd.ext.cell_some Cx.out.2
      have c0 := hd.ext.cell_some Cx.out.1
      have t2 : decide (0 ≤ c) = true := by simp; omega
      have C0 := Lib.hid c0
      clear hd c0x c1x hc0 hc1
      go_wp2_with (fail)
      go_region_with (first | (go_at_call 166; refine (n_sub _ _ _ _ _ ((HNx.out.ext HD.out).ext (Ext.drewN (Ext.refl _) _)) ((HS.out.ext HD.out).ext (Ext.drewN (Ext.refl _) _)) HB.out.1 HL.out).mono ?_; rintro e w1 ⟨v1, rfl, hx, hn⟩; have H1 : Hid (Ext w w1 ∧ _) := Lib.hid (And.intro (HD.out.trans hx) hn); have c01 := hx.cell_some C0.out; clear hx hn) | (go_at_call 140; refine (i_putz gz _ negx _ _ (HZ.out.ext H1.out.1) H1.out.2 r HM.out).mono ?_; rintro e w2 ⟨rfl, hc, hb⟩; have HW := Lib.hid (And.intro ((Chg.of_ext H1.out.1).trans hc) hb); clear hc hb))
      all_goals (go_wp2_with (fail); go_ret; exact ⟨rfl, HW.out.1, HW.out.2⟩)
theorem i_add (gz gx gy : Nat) (x y : Int) (w : World) (hz : Hv w 95 gz) (hx : Bi w 95 gx x) (hy : Bi w 95 gy y) (hb : x.natAbs < 4294967296 ^ 1048575) (hb' : y.natAbs < 4294967296 ^ 1048575) :
    Calls Tryz.prog 117 #[.pointer (some ⟨gz, 0, none⟩), .pointer (some ⟨gx, 0, none⟩), .pointer (some ⟨gy, 0, none⟩)] w fun e w' => e = .returned (.pointer (some ⟨gz, 0, none⟩)) ∧ Chg gz w w' ∧ Bi w' 95 gz (x + y) := by
  obtain ⟨sy, h1y, h2y⟩ := hy
  obtain ⟨negy, hnegy⟩ : ∃ neg, Hid (neg = decide (y < 0)) := ⟨_, rfl⟩
  rw [← hnegy.out] at h1y
  have c0y := h1y.c0
  have c1y := h1y.c1
  have HNy := Lib.hid h2y
  have Cy := Lib.hid (And.intro c0y c1y)
  clear h1y h2y
  have HM : Hid (x + y = x + if negy then -(y.natAbs : Int) else y.natAbs) := by
    show _ = _
    rw [hnegy.out]
    by_cases h1 : y < 0
    · simp only [h1, decide_true, if_true]; omega
    · simp only [h1, decide_false, Bool.false_eq_true, if_false]; omega
  have HZ := Lib.hid hz
  have HX := Lib.hid hx
  have HB := Lib.hid (And.intro hb hb')
  clear hz hx hb hb'
  go_enter Tryz.func117, Tryz.ntmps117
  go_wp2_with (fail)
  go_region_with (first | (go_at_call 148; refine (i_sum gz gx y.natAbs x negy sy _ (HZ.out.ext (Ext.drewN (Ext.refl _) _)) (HX.out.ext (Ext.drewN (Ext.refl _) _)) (HNy.out.ext (Ext.drewN (Ext.refl _) _)) HB.out.1 HB.out.2).mono ?_; rintro e w2 ⟨rfl, hc, hb⟩; have HC : Hid (Chg gz w w2) := hc; have HW := Lib.hid hb; clear hc hb))
  all_goals (go_wp2_with (fail); go_ret; exact ⟨rfl, HC.out, by rw [HM.out]; exact HW.out⟩)
theorem i_sub (gz gx gy : Nat) (x y : Int) (w : World) (hz : Hv w 95 gz) (hx : Bi w 95 gx x) (hy : Bi w 95 gy y) (hb : x.natAbs < 4294967296 ^ 1048575) (hb' : y.natAbs < 4294967296 ^ 1048575) :
    Calls Tryz.prog 161 #[.pointer (some ⟨gz, 0, none⟩), .pointer (some ⟨gx, 0, none⟩), .pointer (some ⟨gy, 0, none⟩)] w fun e w' => e = .returned (.pointer (some ⟨gz, 0, none⟩)) ∧ Chg gz w w' ∧ Bi w' 95 gz (x - y) := by
  obtain ⟨sy, h1y, h2y⟩ := hy
  obtain ⟨negy, hnegy⟩ : ∃ neg, Hid (neg = decide (y < 0)) := ⟨_, rfl⟩
  rw [← hnegy.out] at h1y
  have c0y := h1y.c0
  have c1y := h1y.c1
  have HNy := Lib.hid h2y
  have Cy := Lib.hid (And.intro c0y c1y)
  clear h1y h2y
  have HM : Hid (x - y = x + if (!negy) then -(y.natAbs : Int) else y.natAbs) := by
    show _ = _
    rw [hnegy.out]
    by_cases h1 : y < 0
    · simp only [h1, decide_true, Bool.not_true, Bool.false_eq_true, if_false]; omega
    · simp only [h1, decide_false, Bool.not_false, if_true]; omega
  have HZ := Lib.hid hz
  have HX := Lib.hid hx
  have HB := Lib.hid (And.intro hb hb')
  clear hz hx hb hb'
  go_enter Tryz.func161, Tryz.ntmps161
  go_wp2_with (fail)
  go_region_with (first | (go_at_call 148; refine (i_sum gz gx y.natAbs x (!negy) sy _ (HZ.out.ext (Ext.drewN (Ext.refl _) _)) (HX.out.ext (Ext.drewN (Ext.refl _) _)) (HNy.out.ext (Ext.drewN (Ext.refl _) _)) HB.out.1 HB.out.2).mono ?_; rintro e w2 ⟨rfl, hc, hb⟩; have HC : Hid (Chg gz w w2) := hc; have HW := Lib.hid hb; clear hc hb))
  all_goals (go_wp2_with (fail); go_ret; exact ⟨rfl, HC.out, by rw [HM.out]; exact HW.out⟩)
end Go.Proofs.YtdpjkddllimcoaaGreatDoor
end

section
/- Whole numbers with a sign: comparison, roots, words. -/
namespace Go.Proofs.YtdpjkddllimcoaaGreatDoor
open Go.RowKit Fl
theorem i_cmp (gx gy : Nat) (x y : Int) (w : World) (hx : Bi w 95 gx x) (hy : Bi w 95 gy y) (hb : x.natAbs < 4294967296 ^ 1048575) (hb' : y.natAbs < 4294967296 ^ 1048575) :
    Calls Tryz.prog 113 #[.pointer (some ⟨gx, 0, none⟩), .pointer (some ⟨gy, 0, none⟩)] w fun en wn => en = .returned (.int .i64 (cmpZ x y)) ∧ Drw w wn := by
  obtain ⟨sx, h1x, h2x⟩ := hx
  obtain ⟨negx, hnegx⟩ : ∃ neg, Hid (neg = decide (x < 0)) := ⟨_, rfl⟩
  rw [← hnegx.out] at h1x
  have c0x := h1x.c0
  have c1x := h1x.c1
  have HNx := Lib.hid h2x
  have Cx := Lib.hid (And.intro c0x c1x)
  clear h1x h2x
  obtain ⟨sy, h1y, h2y⟩ := hy
  obtain ⟨negy, hnegy⟩ : ∃ neg, Hid (neg = decide (y < 0)) := ⟨_, rfl⟩
  rw [← hnegy.out] at h1y
  have c0y := h1y.c0
  have c1y := h1y.c1
  have HNy := Lib.hid h2y
  have Cy := Lib.hid (And.intro c0y c1y)
  clear h1y h2y
  have HB := Lib.hid (And.intro (fit_up (k := 1048575) (l := 1048576) hb (by decide)) (fit_up (k := 1048575) (l := 1048576) hb' (by decide)))
  clear hb hb'
  cases negx
  · cases negy
    · have HR : Hid (cmpI x.natAbs y.natAbs = cmpZ x y) := by
        have h1 := hnegx.out
        have h2 := hnegy.out
        simp at h1 h2
        show _ = _
        unfold cmpI cmpZ
        by_cases h3 : x < y
        · rw [if_pos (by omega), if_pos h3]
        · rw [if_neg (by omega), if_neg h3]
          by_cases h4 : x = y
          · rw [if_pos (by omega), if_pos h4]
          · rw [if_neg (by omega), if_neg h4]
      go_enter Tryz.func113, Tryz.ntmps113
      go_wp2_with (fail)
      go_quiet (fail)
      go_wp2_with (fail)
      go_quiet ((go_at_call 147; exact quiet_da (n_cmp _ _ _ _ _ (HNx.out.ext (Ext.drewN (Ext.refl _) _)) (HNy.out.ext (Ext.drewN (Ext.refl _) _)) HB.out.1 HB.out.2)))
      go_wp2_with (fail)
      go_ret
      exact ⟨ret_int HR.out, ((Drw.refl _).drewN _).drewN _⟩
    · have HR : Hid (1 = cmpZ x y) := by
        have h1 := hnegx.out
        have h2 := hnegy.out
        simp at h1 h2
        show _ = _
        unfold cmpZ
        rw [if_neg (by omega), if_neg (by omega)]
      go_enter Tryz.func113, Tryz.ntmps113
      go_wp2_with (fail)
      go_quiet (fail)
      go_wp2_with (fail)
      go_ret
      exact ⟨ret_int HR.out, (Drw.refl _).drewN _⟩
  · cases negy
    · have HR : Hid (-1 = cmpZ x y) := by
        have h1 := hnegx.out
        have h2 := hnegy.out
        simp at h1 h2
        show _ = _
        unfold cmpZ
        rw [if_pos (by omega)]
      go_enter Tryz.func113, Tryz.ntmps113
      go_wp2_with (fail)
      go_quiet (fail)
      go_wp2_with (fail)
      go_ret
      exact ⟨ret_int HR.out, (Drw.refl _).drewN _⟩
    · have HR : Hid (cmpI y.natAbs x.natAbs = cmpZ x y) := by
        have h1 := hnegx.out
        have h2 := hnegy.out
        simp at h1 h2
        show _ = _
        unfold cmpI cmpZ
        by_cases h3 : x < y
        · rw [if_pos (by omega), if_pos h3]
        · rw [if_neg (by omega), if_neg h3]
          by_cases h4 : x = y
          · rw [if_pos (by omega), if_pos h4]
          · rw [if_neg (by omega), if_neg h4]
      go_enter Tryz.func113, Tryz.ntmps113
      go_wp2_with (fail)
      go_quiet (fail)
      go_wp2_with (fail)
      go_quiet ((go_at_call 147; exact quiet_da (n_cmp _ _ _ _ _ (HNy.out.ext (Ext.drewN (Ext.refl _) _)) (HNx.out.ext (Ext.drewN (Ext.refl _) _)) HB.out.2 HB.out.1)))
      go_wp2_with (fail)
      go_ret
      exact ⟨ret_int HR.out, ((Drw.refl _).drewN _).drewN _⟩
theorem i_sqrt (gz gx : Nat) (x : Int) (w : World) (hz : Hv w 95 gz) (hx : Bi w 95 gx x) (hb : x.natAbs < 4294967296 ^ 1048570) :
    Calls Tryz.prog 153 #[.pointer (some ⟨gz, 0, none⟩), .pointer (some ⟨gx, 0, none⟩)] w fun e w' => ∃ r : Nat, e = .returned (.pointer (some ⟨gz, 0, none⟩)) ∧ Chg gz w w' ∧ Bi w' 95 gz (r : Int) ∧ Root r x.natAbs := by
  obtain ⟨sx, h1x, h2x⟩ := hx
  obtain ⟨negx, hnegx⟩ : ∃ neg, Hid (neg = decide (x < 0)) := ⟨_, rfl⟩
  rw [← hnegx.out] at h1x
  have c0x := h1x.c0
  have c1x := h1x.c1
  have HNx := Lib.hid h2x
  have Cx := Lib.hid (And.intro c0x c1x)
  clear h1x h2x
  have HZ := Lib.hid hz
  have HB := Lib.hid hb
  clear hz hb
  go_enter Tryz.func153, Tryz.ntmps153
  go_wp2_with (fail)
  refine (n_sqrt _ _ _ HNx.out HB.out).mono ?_
  rintro e w1 ⟨v, r, rfl, hx, hn, hr⟩
  have H1 := Lib.hid (And.intro hx (And.intro hn hr))
  clear hx hn hr
  go_wp2_with (fail)
  refine (i_putz gz r false v _ (HZ.out.ext H1.out.1) H1.out.2.1 (r : Int) (by simp)).mono ?_
  rintro e w' ⟨rfl, hc, hb⟩
  have HW := Lib.hid (And.intro hc hb)
  clear hc hb
  go_wp2_with (fail)
  go_ret
  exact ⟨r, rfl, (Chg.of_ext H1.out.1).trans HW.out.1, HW.out.2, H1.out.2.2⟩
theorem i_setInt64 (gz : Nat) (n : Int) (w : World) (hz : Hv w 95 gz) (h1 : -9223372036854775807 ≤ n) (h2 : n ≤ 9223372036854775807) :
    Calls Tryz.prog 160 #[.pointer (some ⟨gz, 0, none⟩), .int .i64 n] w fun e w' => e = .returned (.pointer (some ⟨gz, 0, none⟩)) ∧ Chg gz w w' ∧ Bi w' 95 gz n := by
  have HZ := Lib.hid hz
  clear hz
  by_cases h0 : n < 0
  · obtain ⟨m, rfl⟩ : ∃ m : Nat, n = -(m : Int) := ⟨n.natAbs, by omega⟩
    have t1 : decide (-(m : Int) < 0) = true := by simp; omega
    have hw1 : IntKind.u64.wrap (-IntKind.u64.wrap (-(m : Int))) = (m : Int) := by
      rw [IntKind.wrap_u64, IntKind.wrap_u64]; omega
    go_enter Tryz.func160, Tryz.ntmps160
    go_wp2_with (fail)
    refine (n_small m (by omega) _).mono ?_
    rintro e w1 ⟨v, rfl, hx, hn⟩
    have H1 := Lib.hid (And.intro hx hn)
    clear hx hn
    go_wp2_with (fail)
    refine (i_putz gz m true v _ (HZ.out.ext H1.out.1) H1.out.2 (-(m : Int)) (by simp)).mono ?_
    rintro e w' ⟨rfl, hc, hb⟩
    have HW := Lib.hid (And.intro hc hb)
    clear hc hb
    go_wp2_with (fail)
    go_ret
    exact ⟨rfl, (Chg.of_ext H1.out.1).trans HW.out.1, HW.out.2⟩
  · obtain ⟨m, rfl⟩ : ∃ m : Nat, n = (m : Int) := ⟨n.natAbs, by omega⟩
    clear h0 h1
    go_enter Tryz.func160, Tryz.ntmps160
    go_wp2_with (fail)
    refine (n_small m (by omega) _).mono ?_
    rintro e w1 ⟨v, rfl, hx, hn⟩
    have H1 := Lib.hid (And.intro hx hn)
    clear hx hn
    go_wp2_with (fail)
    refine (i_putz gz m false v _ (HZ.out.ext H1.out.1) H1.out.2 (m : Int) (by simp)).mono ?_
    rintro e w' ⟨rfl, hc, hb⟩
    have HW := Lib.hid (And.intro hc hb)
    clear hc hb
    go_wp2_with (fail)
    go_ret
    exact ⟨rfl, (Chg.of_ext H1.out.1).trans HW.out.1, HW.out.2⟩
theorem i_new (n : Int) (w : World) (h1 : -9223372036854775807 ≤ n) (h2 : n ≤ 9223372036854775807) :
    Calls Tryz.prog 139 #[.int .i64 n] w fun e w' => ∃ g, e = .returned (.pointer (some ⟨g, 0, none⟩)) ∧ Ext w w' ∧ w.heap.size ≤ g ∧ Bi w' 95 g n := by
  have HZ := Lib.hid (Hv.new w 95)
  have HX : Hid (∀ o, Ext w (w.alloc o)) := fun o => (Ext.refl w).alloc o
  go_enter Tryz.func139, Tryz.ntmps139
  go_wp2_with (fail)
  refine (i_setInt64 w.heap.size n _ HZ.out h1 h2).mono ?_
  rintro e w' ⟨rfl, hc, hb⟩
  have HW := Lib.hid (And.intro hc hb)
  clear hc hb h1 h2
  go_wp2_with (fail)
  go_ret
  exact ⟨_, rfl, Chg.ext (HX.out _) HW.out.1 (Nat.le_refl _), Nat.le_refl _, HW.out.2⟩
theorem n_clone33 (v : Value) (zs : List Nat) (w : World) (hs : Sl w v zs) (hl : zs.length ≤ 4194304) :
    Calls Tryz.prog 158 #[v] w fun e w' => ∃ v', e = .returned v' ∧ Ext w w' ∧ w'.ownsRow w.heap.size 70 1 v' zs.length (zs.map W32) := by
  obtain ⟨i0, HI⟩ : ∃ i0, Hid (Tryz.prog.info? 70 = some i0 ∧ i0.zero = some (.int .u32 0) ∧ i0.size = 1 ∧ i0.bytes = 4) := info_parts info32
  have q1 := fun (w : World) (a : Option Addr) (n c n' c' : Nat) => Lib.run_eql_slice_nil (P := Tryz.prog) w 33 _ a n c n' c' Tryz.underlying33
  rcases hs with ⟨rfl, rfl⟩ | ⟨b, off, cap, rfl, h2, h3, h4⟩
  · go_enter Tryz.func158, Tryz.ntmps158
    go_wp2_with (fail)
    go_ret
    exact ⟨_, rfl, Ext.refl w, rfl, .inl ⟨rfl, rfl⟩⟩
  · have HC := Lib.hid h4
    clear h4
    have HX : Hid (∀ o, Ext w (w.alloc o)) := fun o => (Ext.refl w).alloc o
    have HO : Hid ((w.alloc (.cells #[] 70)).ownsRow w.heap.size 70 1 (.slice (some ⟨w.heap.size, 0, none⟩) 0 0) 0 []) := ⟨rfl, .inr ⟨w.heap.size, 0, #[], rfl, Nat.le_refl _, heap_new w _, Nat.le_refl _, Nat.zero_le _, rfl, rfl⟩⟩
    have HN : Hid (∀ j u, (zs.map W32)[j]? = some u → (w.alloc (.cells #[] 70)).cell? ((⟨b, off, none⟩ : Addr).add j) = some u) := by
      intro j u hu
      refine (HX.out _).cell_some ?_
      rw [List.getElem?_map] at hu
      rcases Nat.lt_or_ge j zs.length with hj | hj
      · rw [List.getElem?_eq_getElem hj] at hu
        have := HC.out j hj
        rw [List.getD_eq_getElem?_getD, List.getElem?_eq_getElem hj] at this
        simp only [Option.map_some, Option.some.injEq] at hu
        rw [← hu]
        rw [Addr.add_lit]
        exact this
      · rw [List.getElem?_eq_none hj] at hu
        simp at hu
    have H1 : Hid (∀ u ∈ zs.map W32, u.oneCell' = true) := by
      intro u hu
      obtain ⟨z, -, rfl⟩ := List.mem_map.1 hu
      rfl
    have HS : Hid ((zs.map W32).length = zs.length * 1) := by show _ = _; simp
    go_enter Tryz.func158, Tryz.ntmps158
    go_wp2_with (at_builtin; (refine wpList_append_own _ rfl (.tmp 5) (.tmp 6) 33 rfl w.heap.size 70 i0 _ 1 4 Tryz.underlying33 HI.out.1 HI.out.2.1 HI.out.2.2.1 HI.out.2.2.2 rfl (by decide) _ 0 [] rfl HO.out ⟨b, off, none⟩ zs.length cap (zs.map W32) rfl HS.out HN.out H1.out (by unfold maxLen; omega) (by omega) (by simp) ?_))
    intro v' w1 hown hgrow _
    have HE : Hid (Ext w w1) := (HX.out _).grown hgrow (fun k hk => by have hk : some w.heap.size = some k := hk; injection hk with hk; omega)
    have HW := Lib.hid hown
    clear hown hgrow
    go_wp2_with (fail)
    go_ret
    exact ⟨_, rfl, HE.out, HW.out⟩
theorem i_setWords (gz : Nat) (v : Value) (zs : List Nat) (w : World) (hz : Hv w 95 gz) (hs : Sl w v zs) (hw : Wd zs) (hl : zs.length ≤ 4194304) :
    Calls Tryz.prog 138 #[.pointer (some ⟨gz, 0, none⟩), v] w fun e w' => e = .returned (.pointer (some ⟨gz, 0, none⟩)) ∧ Chg gz w w' ∧ Bi w' 95 gz (num zs : Int) := by
  have HZ := Lib.hid hz
  have HL := Lib.hid (And.intro hw hl)
  have HC := Lib.hid (n_clone33 v zs w hs hl)
  clear hz hs hw hl
  go_enter Tryz.func138, Tryz.ntmps138
  go_wp2_with (fail)
  refine HC.out.mono ?_
  rintro e w1 ⟨v1, rfl, hx, hn⟩
  have H1 := Lib.hid (And.intro hx (Sl.of_own hn))
  clear hx hn
  go_wp2_with (fail)
  refine (n_trim _ zs _ H1.out.2 HL.out.1 (by have := HL.out.2; omega)).mono ?_
  rintro e w2 ⟨v2, rfl, rfl, hn⟩
  have H2 := Lib.hid hn
  clear hn
  go_wp2_with (fail)
  refine (i_putz gz (num zs) false _ _ (HZ.out.ext H1.out.1) H2.out (num zs : Int) (by simp)).mono ?_
  rintro e w' ⟨rfl, hc, hb⟩
  have HW := Lib.hid (And.intro hc hb)
  clear hc hb
  go_wp2_with (fail)
  go_ret
  exact ⟨rfl, (Chg.of_ext H1.out.1).trans HW.out.1, HW.out.2⟩
theorem i_words (gx : Nat) (x : Int) (w : World) (hx : Bi w 95 gx x) (hb : x.natAbs < 4294967296 ^ 1048575) :
    Calls Tryz.prog 145 #[.pointer (some ⟨gx, 0, none⟩)] w fun e w' => ∃ v', e = .returned v' ∧ Ext w w' ∧ Nt w' v' x.natAbs := by
  obtain ⟨sx, h1x, h2x⟩ := hx
  obtain ⟨negx, hnegx⟩ : ∃ neg, Hid (neg = decide (x < 0)) := ⟨_, rfl⟩
  rw [← hnegx.out] at h1x
  have c0x := h1x.c0
  have c1x := h1x.c1
  have HNx := Lib.hid h2x
  have Cx := Lib.hid (And.intro c0x c1x)
  clear h1x h2x
  obtain ⟨zs, k1, k2, k3, k4⟩ := HNx.out
  have HK := Lib.hid (And.intro k2 (And.intro k3 k4))
  have HC := Lib.hid (n_clone sx zs w k1 (by have := len_le k3 (by rw [k4]; exact hb); omega))
  clear k1 k2 k3 k4 hb
  go_enter Tryz.func145, Tryz.ntmps145
  go_wp2_with (fail)
  refine HC.out.mono ?_
  rintro e w1 ⟨v1, rfl, hx, hn⟩
  have H1 := Lib.hid (And.intro hx (Sl.of_own hn))
  clear hx hn
  go_wp2_with (fail)
  go_ret
  exact ⟨_, rfl, H1.out.1, zs, H1.out.2, HK.out⟩
end Go.Proofs.YtdpjkddllimcoaaGreatDoor
end

section
/- Whole numbers with a sign: quotients. -/
namespace Fl
open Go Go.RowKit
theorem tdiv_form (x y : Int) : x.tdiv y = if (decide (x < 0) != decide (y < 0)) then -((x.natAbs / y.natAbs : Nat) : Int) else ((x.natAbs / y.natAbs : Nat) : Int) := by
  rcases Int.eq_nat_or_neg x with ⟨a, rfl | rfl⟩ <;> rcases Int.eq_nat_or_neg y with ⟨b, rfl | rfl⟩
  · rw [show decide ((a : Int) < 0) = false by simp, show decide ((b : Int) < 0) = false by simp]
    simp
  · rw [show decide ((a : Int) < 0) = false by simp, Int.tdiv_neg, Int.natAbs_neg, Int.natAbs_natCast, Int.natAbs_natCast, ← Int.ofNat_tdiv]
    rcases Nat.eq_zero_or_pos b with h | h
    · subst h; simp
    · rw [show decide (-(b : Int) < 0) = true by simp; omega]; rfl
  · rw [show decide ((b : Int) < 0) = false by simp, Int.neg_tdiv, Int.natAbs_neg, Int.natAbs_natCast, Int.natAbs_natCast, ← Int.ofNat_tdiv]
    rcases Nat.eq_zero_or_pos a with h | h
    · subst h; simp
    · rw [show decide (-(a : Int) < 0) = true by simp; omega]; rfl
  · rw [Int.neg_tdiv, Int.tdiv_neg, Int.neg_neg, Int.natAbs_neg, Int.natAbs_neg, Int.natAbs_natCast, Int.natAbs_natCast, ← Int.ofNat_tdiv]
    rcases Nat.eq_zero_or_pos a with h | h
    · subst h; simp
    · rw [show decide (-(a : Int) < 0) = true by simp; omega]
      rcases Nat.eq_zero_or_pos b with h' | h'
      · subst h'; simp
      · rw [show decide (-(b : Int) < 0) = true by simp; omega]; rfl
theorem tmod_form (x y : Int) : x.tmod y = if decide (x < 0) then -((x.natAbs % y.natAbs : Nat) : Int) else ((x.natAbs % y.natAbs : Nat) : Int) := by
  have e : x.tmod y = x.tmod (y.natAbs : Int) := by
    rcases Int.eq_nat_or_neg y with ⟨b, rfl | rfl⟩
    · rw [Int.natAbs_natCast]
    · rw [Int.tmod_neg, Int.natAbs_neg, Int.natAbs_natCast]
  rw [e]
  rcases Int.eq_nat_or_neg x with ⟨a, rfl | rfl⟩
  · rw [show decide ((a : Int) < 0) = false by simp, Int.natAbs_natCast, ← Int.ofNat_tmod]; rfl
  · rw [Int.neg_tmod, Int.natAbs_neg, Int.natAbs_natCast, ← Int.ofNat_tmod]
    rcases Nat.eq_zero_or_pos a with h | h
    · subst h; simp
    · rw [show decide (-(a : Int) < 0) = true by simp; omega]; rfl
end Fl
namespace Go.Proofs.YtdpjkddllimcoaaGreatDoor
open Go.RowKit Fl
set_option maxRecDepth 20000 in
theorem i_quoRem (gz gx gy gr : Nat) (x y : Int) (w : World) (hz : Hv w 95 gz) (hr : Hv w 95 gr) (hx : Bi w 95 gx x) (hy : Bi w 95 gy y) (hzr : gz ≠ gr) (hy0 : y ≠ 0) (hb : x.natAbs < 4294967296 ^ 1048574) (hb' : y.natAbs < 4294967296 ^ 1048574) :
    Calls Tryz.prog 122 #[.pointer (some ⟨gz, 0, none⟩), .pointer (some ⟨gx, 0, none⟩), .pointer (some ⟨gy, 0, none⟩), .pointer (some ⟨gr, 0, none⟩)] w fun e w' => e = .returned (.tuple #[.pointer (some ⟨gz, 0, none⟩), .pointer (some ⟨gr, 0, none⟩)]) ∧ Ch2 gz gr w w' ∧ Bi w' 95 gz (x.tdiv y) ∧ Bi w' 95 gr (x.tmod y) := by
  obtain ⟨sx, h1x, h2x⟩ := hx
  obtain ⟨negx, hnegx⟩ : ∃ neg, Hid (neg = decide (x < 0)) := ⟨_, rfl⟩
  rw [← hnegx.out] at h1x
  have c0x := h1x.c0
  have c1x := h1x.c1
  have HNx := Lib.hid h2x
  have Cx := Lib.hid (And.intro c0x c1x)
  clear h1x h2x
  obtain ⟨sy, h1y, h2y⟩ := hy
  obtain ⟨negy, hnegy⟩ : ∃ neg, Hid (neg = decide (y < 0)) := ⟨_, rfl⟩
  rw [← hnegy.out] at h1y
  have c0y := h1y.c0
  have c1y := h1y.c1
  have HNy := Lib.hid h2y
  have Cy := Lib.hid (And.intro c0y c1y)
  clear h1y h2y
  have HZ := Lib.hid (And.intro hz hr)
  have HB := Lib.hid (And.intro hb hb')
  have HM1 := Lib.hid (tdiv_form x y)
  have HM2 := Lib.hid (tmod_form x y)
  rw [← hnegx.out, ← hnegy.out] at HM1
  rw [← hnegx.out] at HM2
  have HY : Hid (0 < y.natAbs) := by show _ < _; omega
  have HNE := Lib.hid hzr
  clear hz hr hb hb' hy0 hzr
  go_enter Tryz.func122, Tryz.ntmps122
  go_wp2_with (fail)
  go_region_held3 (fun w' => w'.cell? ⟨gx, 1, none⟩ = some sx ∧ w'.cell? ⟨gy, 1, none⟩ = some sy) (first | go_keep | (have HXX := HX.out; exact ⟨HXX.1.cell_some Cx.out.2, HXX.1.cell_some Cy.out.2⟩)) (first | (go_at_call 150; refine (n_div _ _ _ _ _ (HNx.out.ext (Ext.drewN (Ext.refl _) _)) (HNy.out.ext (Ext.drewN (Ext.refl _) _)) HY.out HB.out.1 HB.out.2).mono ?_; rintro e w1 ⟨q, r, rfl, hx, hq, hr⟩; have HE : Hid (Ext w w1) := hx; have HX := Lib.hid (And.intro HE.out (And.intro hq hr)); clear hx hq hr HE))
  clear c0x c1x c0y c1y
  have c0x := HX.out.1.cell_some Cx.out.1
  have c0y := HX.out.1.cell_some Cy.out.1
  go_wp2_with (fail)
  go_quiet (fail)
  go_wp2_with (fail)
  refine (i_putz gr _ negx r _ ((HZ.out.2.ext HX.out.1).ext (Ext.drewN (Ext.refl _) _)) (HX.out.2.2.ext (Ext.drewN (Ext.refl _) _)) (x.tmod y) HM2.out).mono ?_
  rintro e w2 ⟨rfl, hc, hb⟩
  have H2 : Hid (Chg gr w w2 ∧ Bi w2 95 gr (x.tmod y) ∧ Nt w2 q (x.natAbs / y.natAbs)) := by
    have hc1 : Chg gr w1 w2 := hc
    exact ⟨(Chg.of_ext HX.out.1).trans hc1, hb, HX.out.2.1.chg (HZ.out.2.ext HX.out.1) hc1⟩
  clear hc hb c0x c0y
  go_wp2_with (fail)
  refine (i_putz gz _ (negx != negy) q _ (HZ.out.1.chg H2.out.1 HNE.out) H2.out.2.2 (x.tdiv y) HM1.out).mono ?_
  rintro e w3 ⟨rfl, hc, hb⟩
  have H3 := Lib.hid (And.intro hc (And.intro hb (H2.out.2.1.chg (HZ.out.1.chg H2.out.1 HNE.out) hc (Ne.symm HNE.out))))
  clear hc hb
  go_wp2_with (fail)
  go_ret2
  exact ⟨rfl, (Ch2.of2 H2.out.1).trans (Ch2.of1 H3.out.1), H3.out.2.1, H3.out.2.2⟩
end Go.Proofs.YtdpjkddllimcoaaGreatDoor
end

section
/- Whole numbers with a sign: quotients cut downwards, shifts to the right, bits. -/
namespace Fl
open Go Go.RowKit
theorem divmod_pos {x y : Int} (hy : 0 < y) (h : 0 ≤ x.tmod y) : x.tdiv y = x / y ∧ x.tmod y = x % y := by
  have h1 := Int.mul_tdiv_add_tmod x y
  have h2 : x.tmod y < y := by
    rcases Int.le_total 0 x with h0 | h0
    · exact Int.tmod_lt_of_pos x hy
    · exact Int.tmod_lt_of_pos x hy
  have e : x / y = x.tdiv y := by
    have := Int.ediv_emod_unique hy (a := x) (q := x.tdiv y) (r := x.tmod y)
    exact (this.2 ⟨by omega, h, h2⟩).1
  have e2 : x % y = x.tmod y := by
    have := Int.ediv_emod_unique hy (a := x) (q := x.tdiv y) (r := x.tmod y)
    exact (this.2 ⟨by omega, h, h2⟩).2
  exact ⟨e.symm, e2.symm⟩
theorem divmod_neg {x y : Int} (hy : 0 < y) (h : x.tmod y < 0) : x.tdiv y - 1 = x / y ∧ x.tmod y + y = x % y := by
  have h1 := Int.mul_tdiv_add_tmod x y
  have h2 : -y < x.tmod y := by
    have e := tmod_form x y
    have h3 := Nat.mod_lt x.natAbs (show 0 < y.natAbs by omega)
    split at e <;> omega
  have := Int.ediv_emod_unique hy (a := x) (q := x.tdiv y - 1) (r := x.tmod y + y)
  have h3 : y * (x.tdiv y - 1) = y * x.tdiv y - y := by rw [Int.mul_sub, Int.mul_one]
  have := this.2 ⟨by omega, by omega, by omega⟩
  exact ⟨this.1.symm, this.2.symm⟩
end Fl
namespace Go.Proofs.YtdpjkddllimcoaaGreatDoor
open Go.RowKit Fl
set_option maxRecDepth 20000 in
theorem i_divMod (gz gx gy gm : Nat) (x y : Int) (w : World) (hz : Hv w 95 gz) (hm : Hv w 95 gm) (hx : Bi w 95 gx x) (hy : Bi w 95 gy y) (hzm : gz ≠ gm) (hy0 : 0 < y) (hb : x.natAbs < 4294967296 ^ 1048573) (hb' : y.natAbs < 4294967296 ^ 1048573) :
    Calls Tryz.prog 142 #[.pointer (some ⟨gz, 0, none⟩), .pointer (some ⟨gx, 0, none⟩), .pointer (some ⟨gy, 0, none⟩), .pointer (some ⟨gm, 0, none⟩)] w fun e w' => e = .returned (.tuple #[.pointer (some ⟨gz, 0, none⟩), .pointer (some ⟨gm, 0, none⟩)]) ∧ Ch2 gz gm w w' ∧ Bi w' 95 gz (x / y) ∧ Bi w' 95 gm (x % y) := by
  have HX := Lib.hid hx
  obtain ⟨sy, h1y, h2y⟩ := hy
  obtain ⟨negy, hnegy⟩ : ∃ neg, Hid (neg = decide (y < 0)) := ⟨_, rfl⟩
  rw [← hnegy.out] at h1y
  have c0y := h1y.c0
  have c1y := h1y.c1
  have HNy := Lib.hid h2y
  have Cy := Lib.hid (And.intro c0y c1y)
  clear h1y h2y
  have hng : negy = false := by rw [hnegy.out]; simp; omega
  subst hng
  obtain ⟨py, ly, cy, rfl, -⟩ := HNy.out.len
  have HY : Hid (0 < y) := hy0
  have HZ := Lib.hid (And.intro hz hm)
  have HB := Lib.hid (And.intro hb hb')
  have HNE := Lib.hid hzm
  obtain ⟨wd, HWD⟩ : ∃ wd, Hid (wd = w.alloc (.cells #[.bool false, .slice py ly cy] 95)) := ⟨_, rfl⟩
  have HD : Hid (Ext w wd ∧ Bi wd 95 w.heap.size y ∧ wd.heap.size = w.heap.size + 1) := by
    rw [HWD.out]
    have hX := (Ext.refl w).alloc (.cells #[.bool false, .slice py ly cy] 95)
    exact ⟨hX, ⟨_, by rw [← hnegy.out]; exact heap_new w _, HNy.out.ext hX⟩, by simp⟩
  have HQ : Hid _ := Lib.hid (i_quoRem gz gx w.heap.size gm x y wd (hz.ext HD.out.1) (hm.ext HD.out.1) (hx.ext HD.out.1) HD.out.2.1 hzm (by omega) (fit_up (k := 1048573) (l := 1048574) hb (by decide)) (fit_up (k := 1048573) (l := 1048574) hb' (by decide)))
  have hlz : gz ≠ w.heap.size := by have := hz.lt; omega
  have hlm : gm ≠ w.heap.size := by have := hm.lt; omega
  have HB2 : Hid ((x.tdiv y).natAbs < 4294967296 ^ 1048575 ∧ (x.tmod y).natAbs < 4294967296 ^ 1048575 ∧ y.natAbs < 4294967296 ^ 1048575) := by
    have h1 := fit_up (k := 1048573) (l := 1048575) hb (by decide)
    have h2 := fit_up (k := 1048573) (l := 1048575) hb' (by decide)
    refine ⟨fit_lt (k := 1048575) ?_ h1, fit_lt (k := 1048575) ?_ h1, h2⟩
    · rw [Int.natAbs_tdiv]; exact Nat.div_le_self _ _
    · rw [Int.natAbs_tmod]; exact Nat.mod_le _ _
  clear hz hm hx hb hb' hzm hy0
  by_cases hr : x.tmod y < 0
  · have HR := Lib.hid (divmod_neg HY.out hr)
    have HR0 : Hid (decide (x.tmod y < 0) = true) := by show _ = _; simpa using hr
    clear hr
    go_enter Tryz.func142, Tryz.ntmps142
    go_wp2_with (fail)
    rw [← HWD.out]
    refine HQ.out.mono ?_
    rintro e w1 ⟨rfl, hc, hq, hm⟩
    have H1 : Hid (Ch2 gz gm w w1 ∧ Bi w1 95 gz (x.tdiv y) ∧ Bi w1 95 gm (x.tmod y) ∧ Bi w1 95 w.heap.size y) :=
      ⟨(Ch2.of_ext HD.out.1).trans hc, hq, hm, HD.out.2.1.ch2 (HZ.out.1.ext HD.out.1) (HZ.out.2.ext HD.out.1) hc (Ne.symm hlz) (Ne.symm hlm)⟩
    clear hc hq hm c0y c1y
    obtain ⟨sm, hm1, hm2⟩ := H1.out.2.2.1
    rw [HR0.out] at hm1
    have c0m := hm1.c0
    obtain ⟨sd, hd1, hd2⟩ := H1.out.2.2.2
    rw [← hnegy.out] at hd1
    have c0d := hd1.c0
    clear hm1 hm2 hd1 hd2
    go_wp2_with (fail)
    refine (i_new 1 w1 (by decide) (by decide)).mono ?_
    rintro e w2 ⟨g1, rfl, hx, hg, hb⟩
    have H2 : Hid (Ext w1 w2 ∧ g1 ≠ gz ∧ Bi w2 95 g1 1) := ⟨hx, by have := H1.out.2.1.lt; omega, hb⟩
    clear hx hg hb c0m c0d
    go_wp2_with (fail)
    refine (i_sub gz gz g1 (x.tdiv y) 1 _ (H1.out.2.1.hv.ext H2.out.1) (H1.out.2.1.ext H2.out.1) H2.out.2.2 HB2.out.1 (fit_word (l := 1048575) (by decide) (by decide))).mono ?_
    rintro e w3 ⟨rfl, hc, hb⟩
    have H3 : Hid (Chg gz w1 w3 ∧ Bi w3 95 gz (x / y) ∧ Bi w3 95 gm (x.tmod y) ∧ Bi w3 95 w.heap.size y) := by
      have a := H1.out.2.1.hv.ext H2.out.1
      exact ⟨(Chg.of_ext H2.out.1).trans hc, by rw [← HR.out.1]; exact hb, (H1.out.2.2.1.ext H2.out.1).chg a hc (Ne.symm HNE.out), (H1.out.2.2.2.ext H2.out.1).chg a hc (Ne.symm hlz)⟩
    clear hc hb
    go_wp2_with (fail)
    refine (i_add gm gm w.heap.size (x.tmod y) y _ H3.out.2.2.1.hv H3.out.2.2.1 H3.out.2.2.2 HB2.out.2.1 HB2.out.2.2).mono ?_
    rintro e w4 ⟨rfl, hc, hb⟩
    have H4 : Hid (Ch2 gz gm w w4 ∧ Bi w4 95 gz (x / y) ∧ Bi w4 95 gm (x % y)) :=
      ⟨(H1.out.1.trans (Ch2.of1 H3.out.1)).trans (Ch2.of2 hc), H3.out.2.1.chg H3.out.2.2.1.hv hc HNE.out, by rw [← HR.out.2]; exact hb⟩
    clear hc hb
    go_wp2_with (fail)
    go_ret2
    exact ⟨rfl, H4.out⟩
  · have HR := Lib.hid (divmod_pos (x := x) HY.out (by omega))
    have HR0 : Hid (decide (x.tmod y < 0) = false) := by show _ = _; simpa using hr
    clear hr HB2
    go_enter Tryz.func142, Tryz.ntmps142
    go_wp2_with (fail)
    rw [← HWD.out]
    refine HQ.out.mono ?_
    rintro e w1 ⟨rfl, hc, hq, hm⟩
    have H1 : Hid (Ch2 gz gm w w1 ∧ Bi w1 95 gz (x.tdiv y) ∧ Bi w1 95 gm (x.tmod y)) := ⟨(Ch2.of_ext HD.out.1).trans hc, hq, hm⟩
    clear hc hq hm c0y c1y
    obtain ⟨sm, hm1, hm2⟩ := H1.out.2.2
    rw [HR0.out] at hm1
    have c0m := hm1.c0
    clear hm1 hm2
    go_wp2_with (fail)
    go_ret2
    refine ⟨rfl, H1.out.1, ?_, ?_⟩
    · rw [← HR.out.1]; exact H1.out.2.1
    · rw [← HR.out.2]; exact H1.out.2.2
/-- a shift to the right of a number from 0 on. -/
theorem i_rsh (gz gx k x : Nat) (w : World) (hz : Hv w 95 gz) (hx : Bi w 95 gx (x : Int)) (hb : x < 4294967296 ^ 1048575) (hk : k < 9223372036854775808) :
    Calls Tryz.prog 144 #[.pointer (some ⟨gz, 0, none⟩), .pointer (some ⟨gx, 0, none⟩), .int .u64 k] w fun e w' => e = .returned (.pointer (some ⟨gz, 0, none⟩)) ∧ Chg gz w w' ∧ Bi w' 95 gz ((x / 2 ^ k : Nat) : Int) := by
  obtain ⟨s, h1, h2⟩ := hx
  rw [show decide ((x : Int) < 0) = false by simp] at h1
  rw [Int.natAbs_natCast] at h2
  have c0 := h1.c0
  have c1 := h1.c1
  have HC := Lib.hid (And.intro c0 c1)
  have HN := Lib.hid h2
  have HZ := Lib.hid hz
  have HB := Lib.hid hb
  clear h1 h2 hz hb
  go_enter Tryz.func144, Tryz.ntmps144
  go_wp2_with (fail)
  refine (n_shr s x k _ HN.out HB.out hk).mono ?_
  rintro e w1 ⟨v1, rfl, hx, hn⟩
  have H1 := Lib.hid (And.intro hx hn)
  have c0' := hx.cell_some HC.out.1
  clear hx hn c0 c1
  go_wp2_with (fail)
  go_quiet (fail)
  go_wp2_with (fail)
  refine (i_putz gz _ false v1 _ ((HZ.out.ext H1.out.1).ext (Ext.drewN (Ext.refl _) _)) (H1.out.2.ext (Ext.drewN (Ext.refl _) _)) ((x / 2 ^ k : Nat) : Int) (by simp)).mono ?_
  rintro e w2 ⟨rfl, hc, hb⟩
  have HW : Hid (Chg gz w w2 ∧ Bi w2 95 gz ((x / 2 ^ k : Nat) : Int)) := by
    have hc1 : Chg gz w1 w2 := hc
    exact ⟨(Chg.of_ext H1.out.1).trans hc1, hb⟩
  clear hc hb
  go_wp2_with (fail)
  go_ret
  exact ⟨rfl, HW.out⟩
theorem num_mod2 {z : Nat} {zs : List Nat} : num (z :: zs) % 2 = z % 2 := by simp only [num]; omega
theorem bits_and_1 (x : Nat) (hx : x < 4294967296) : bits .and .u64 (x : Int) 1 = ((x % 2 : Nat) : Int) := by
  have h := u64_and_nat x 1 (by omega) (by omega)
  rw [Nat.and_one_is_mod] at h
  exact h
/-- the lowest bit. -/
theorem i_bit0 (gx : Nat) (x : Int) (w : World) (hx : Bi w 95 gx x) :
    Calls Tryz.prog 171 #[.pointer (some ⟨gx, 0, none⟩), .int .i64 0] w fun en wn => en = .returned (.int .u64 ((x.natAbs % 2 : Nat) : Int)) ∧ w = wn := by
  obtain ⟨sx, h1x, h2x⟩ := hx
  obtain ⟨negx, hnegx⟩ : ∃ neg, Hid (neg = decide (x < 0)) := ⟨_, rfl⟩
  rw [← hnegx.out] at h1x
  have c0x := h1x.c0
  have c1x := h1x.c1
  have HNx := Lib.hid h2x
  have Cx := Lib.hid (And.intro c0x c1x)
  clear h1x h2x
  obtain ⟨zs, k1, k2, k3, k4⟩ := HNx.out
  match zs, k1, k2, k3, k4 with
  | [], k1, k2, k3, k4 =>
    obtain ⟨p, c, rfl, -⟩ := k1.form
    have HR : Hid (0 = ((x.natAbs % 2 : Nat) : Int)) := by rw [← k4]; exact rfl
    clear k1 k2 k3 k4
    go_enter Tryz.func171, Tryz.ntmps171
    go_wp2_with (fail)
    go_ret
    exact ⟨ret_int HR.out, rfl⟩
  | z :: zs, k1, k2, k3, k4 =>
    obtain ⟨p, c, rfl, -, -, h⟩ := k1.form
    obtain ⟨b, o, rfl, h4⟩ := h (by simp)
    have hc := h4 0 (by simp)
    rw [Nat.add_zero] at hc
    have hc : w.cell? ⟨b, o, none⟩ = some (.int .u32 (z : Int)) := hc
    have hz := k2 z (by simp)
    have ha := bits_and_1 z hz
    have HR : Hid (((z % 2 : Nat) : Int) = ((x.natAbs % 2 : Nat) : Int)) := by rw [← k4, num_mod2]; exact rfl
    have hl0 : 0 < (z :: zs).length := by simp
    clear k1 k2 k3 k4 h h4
    generalize (z :: zs).length = l at *
    go_enter Tryz.func171, Tryz.ntmps171
    go_wp2_with (fail)
    go_ret
    exact ⟨ret_int HR.out, rfl⟩
end Go.Proofs.YtdpjkddllimcoaaGreatDoor
end

section
/- Whole numbers with a sign: the lowest word. -/
namespace Go.Proofs.YtdpjkddllimcoaaGreatDoor
open Go.RowKit Fl
theorem or_zero (z : Nat) (hz : z < 4294967296) : bits .or .u64 0 (z : Int) = (z : Int) := by
  have h := u64_or_nat 0 z (by omega) (by omega)
  rw [Nat.zero_or] at h
  exact h
theorem i_uint64 (gx x : Nat) (w : World) (hx : Bi w 95 gx (x : Int)) (hb : x < 18446744073709551616) :
    Calls Tryz.prog 173 #[.pointer (some ⟨gx, 0, none⟩)] w fun en wn => en = .returned (.int .u64 (x : Int)) ∧ w = wn := by
  obtain ⟨sx, h1, h2⟩ := hx
  rw [Int.natAbs_natCast] at h2
  have c1 := h1.c1
  obtain ⟨zs, k1, k2, k3, k4⟩ := h2
  clear h1
  have hl : zs.length ≤ 2 := len_le k3 (k := 2) (by rw [k4]; omega)
  obtain ⟨p, c, rfl, -, -, h⟩ := k1.form
  have HC := Lib.hid h
  have HW := Lib.hid k2
  have HK : Hid (num zs = x) := k4
  clear k1 k2 k3 k4 h hb
  go_enter Tryz.func173, Tryz.ntmps173
  go_wp2_with (fail)
  go_loop [3, 11] (fun v3 v11 => ∃ i : Nat, i ≤ zs.length ∧ v11 = .int .i64 i ∧ v3 = .int .u64 (num (zs.take i) : Nat)) (fun _ v11 => zs.length - (intOf v11).toNat)
  case atStart => exact ⟨0, Nat.zero_le _, rfl, by simp [num]⟩
  case round =>
    obtain ⟨i, hi, rfl, rfl⟩ := hrel
    by_cases hlt : i < zs.length
    · obtain ⟨b, o, rfl, h4⟩ := HC.out (by omega)
      have hc := h4 i hlt
      have hz := HW.out.getD i
      have HS := Lib.hid (num_take_succ' zs i)
      generalize zs.getD i 0 = z at *
      clear h4
      have hi2 : i = 0 ∨ i = 1 := by omega
      rcases hi2 with rfl | rfl
      · have ho := or_zero z hz
        rw [Nat.add_zero] at hc
        rw [List.take_zero, show num [] = 0 from rfl] at *
        go_wp2_with (fail)
        go_round
        case rel => exact ⟨1, by omega, by go_num, by rw [HS.out]; go_num⟩
        case measure => simp [intOf]; omega
      · have hn : num (zs.take 1) < 4294967296 := by
          have := num_lt (HW.out.take 1)
          rwa [show (zs.take 1).length = 1 by rw [List.length_take]; omega, Nat.pow_one] at this
        generalize num (zs.take 1) = n at *
        have ho := or_words n z hn hz
        go_wp2_with (fail)
        go_round
        case rel => exact ⟨2, by omega, by go_num, by rw [HS.out, Nat.pow_one, Nat.mul_comm]; go_num⟩
        case measure => simp [intOf]; omega
    · have hie : i = zs.length := by omega
      subst hie
      rw [List.take_length]
      have HR := HK.out
      clear hi hlt hl
      go_wp2_with (fail)
      go_ret
      exact ⟨rfl, rfl⟩
end Go.Proofs.YtdpjkddllimcoaaGreatDoor
end

section
/- Exact numbers: what it is that a struct by value holds one; its whole number. -/
namespace Fl
open Go Go.RowKit
/-- v is a struct of a sign, words, an exponent: o times 2 to the E. -/
def Dr (w : World) (v : Value) (o E : Int) : Prop := ∃ s, v = .agg #[.bool (decide (o < 0)), s, .int .i64 E] ∧ Nt w s o.natAbs
theorem Dr.ext {w w' : World} {v : Value} {o E : Int} (h : Dr w v o E) (hx : Ext w w') : Dr w' v o E := by
  obtain ⟨s, h1, h2⟩ := h
  exact ⟨s, h1, h2.ext hx⟩
theorem Dr.zero (w : World) : Dr w (.agg #[.bool false, .slice none 0 0, .int .i64 0]) 0 0 := ⟨_, rfl, Nt.nil w⟩
/-- what may be: 0, or an odd number of so many bits. -/
def Ok (o E : Int) : Prop := (o = 0 ∧ E = 0) ∨ (o.natAbs % 2 = 1 ∧ o.natAbs < 2 ^ 65536 ∧ -65536 ≤ E ∧ E ≤ 65536)
/-- o times 2 to the E is z times 2 to the e, told so that o is odd. -/
def Rep (o E z e : Int) : Prop := (z = 0 ∧ o = 0 ∧ E = 0) ∨ (o.natAbs % 2 = 1 ∧ ∃ k : Nat, z = o * 2 ^ k ∧ E = e + k)
/-- block g is a box that holds such a struct. -/
def Bx (w : World) (t : TypeId) (g : Nat) (neg : Bool) (s : Value) (E : Int) : Prop := w.heap[g]? = some (.cells #[.bool neg, s, .int .i64 E] t (0, 0))
theorem Bx.c0 {w : World} {t : TypeId} {g : Nat} {neg : Bool} {s : Value} {E : Int} (h : Bx w t g neg s E) : w.cell? ⟨g, 0, none⟩ = some (.bool neg) := by
  simp only [World.cell?, show w.heap[g]? = _ from h]; rfl
theorem Bx.c1 {w : World} {t : TypeId} {g : Nat} {neg : Bool} {s : Value} {E : Int} (h : Bx w t g neg s E) : w.cell? ⟨g, 1, none⟩ = some s := by
  simp only [World.cell?, show w.heap[g]? = _ from h]; rfl
theorem Bx.c2 {w : World} {t : TypeId} {g : Nat} {neg : Bool} {s : Value} {E : Int} (h : Bx w t g neg s E) : w.cell? ⟨g, 2, none⟩ = some (.int .i64 E) := by
  simp only [World.cell?, show w.heap[g]? = _ from h]; rfl
theorem Bx.frozen {w : World} {t : TypeId} {g : Nat} {neg : Bool} {s : Value} {E : Int} (h : Bx w t g neg s E) (i : Nat) : w.frozen? ⟨g, i, none⟩ = false := by
  simp only [World.frozen?, show w.heap[g]? = _ from h]; simp
theorem Bx.lt {w : World} {t : TypeId} {g : Nat} {neg : Bool} {s : Value} {E : Int} (h : Bx w t g neg s E) : g < w.heap.size := lt_of_cell h.c0
theorem Bx.ext {w w' : World} {t : TypeId} {g : Nat} {neg : Bool} {s : Value} {E : Int} (h : Bx w t g neg s E) (hx : Ext w w') : Bx w' t g neg s E := by
  have hl := h.lt
  unfold Bx at *
  rw [hx.block hl, h]
theorem Bx.chg {w w' : World} {t : TypeId} {g k : Nat} {neg : Bool} {s : Value} {E : Int} (h : Bx w t g neg s E) (hx : Chg k w w') (hk : g ≠ k) : Bx w' t g neg s E := by
  have hl := h.lt
  unfold Bx at *
  rw [hx.block hl hk, h]
theorem Bx.new (w : World) (t : TypeId) (neg : Bool) (s : Value) (E : Int) : Bx (w.alloc (.cells #[.bool neg, s, .int .i64 E] t)) t w.heap.size neg s E := heap_new w _
theorem Bx.out {w : World} {t : TypeId} {g : Nat} {neg : Bool} {s : Value} {E : Int} (h : Bx w t g neg s E) (i : Nat) : w.cell? ⟨g, i + 3, none⟩ = none := by
  simp only [World.cell?, show w.heap[g]? = _ from h]; simp
theorem Bx.ne {w : World} {t : TypeId} {g : Nat} {neg : Bool} {s : Value} {E : Int} (h : Bx w t g neg s E) (hs : IsSl s) {b o : Nat} {n : Int} (hc : w.cell? ⟨b, o, none⟩ = some (.int .u32 n)) : b ≠ g := by
  rintro rfl
  obtain ⟨p, l, c, rfl⟩ := hs
  match o with
  | 0 => rw [h.c0] at hc; simp at hc
  | 1 => rw [h.c1] at hc; simp at hc
  | 2 => rw [h.c2] at hc; simp at hc
  | o + 3 => rw [h.out] at hc; simp at hc
theorem Nt.chgB {w w' : World} {t : TypeId} {g : Nat} {neg : Bool} {s v : Value} {E : Int} {n : Nat} (h : Nt w v n) (hb : Bx w t g neg s E) (hs : IsSl s) (hx : Chg g w w') : Nt w' v n := by
  obtain ⟨zs, h1, h2⟩ := h
  refine ⟨zs, ?_, h2⟩
  rcases h1 with h | ⟨b, off, cap, h1, h2, h3, h4⟩
  · exact .inl h
  · exact .inr ⟨b, off, cap, h1, h2, h3, fun i hi => hx.cell (h4 i hi) (hb.ne hs (h4 i hi))⟩
theorem IsSl.nil : IsSl (.slice none 0 0) := ⟨none, 0, 0, rfl⟩
end Fl
namespace Go.Proofs.YtdpjkddllimcoaaGreatDoor
open Go.RowKit Fl
theorem d_value (o E : Int) (v : Value) (w : World) (h : Dr w v o E) (hb : o.natAbs < 4294967296 ^ 1048575) :
    Calls Tryz.prog 103 #[v] w fun e w' => ∃ g, e = .returned (.pointer (some ⟨g, 0, none⟩)) ∧ Ext w w' ∧ w.heap.size ≤ g ∧ Bi w' 95 g o := by
  obtain ⟨s, rfl, hn⟩ := h
  obtain ⟨neg, hneg⟩ : ∃ neg, Hid (neg = decide (o < 0)) := ⟨_, rfl⟩
  rw [← hneg.out]
  obtain ⟨zs, k1, k2, k3, k4⟩ := hn
  have hl : zs.length ≤ 1048575 := len_le k3 (by rw [k4]; exact hb)
  obtain ⟨p, c, rfl, -⟩ := k1.form
  have HK := Lib.hid (And.intro k1 (And.intro k2 k4))
  have HX : Hid (∀ o1 o2, Ext w ((w.alloc o1).alloc o2)) := fun o1 o2 => ((Ext.refl w).alloc o1).alloc o2
  have HS : Hid (∀ o1, (w.alloc o1).heap.size = w.heap.size + 1) := fun o1 => by simp
  clear k1 k2 k3 k4 hb
  have HBx : Hid (Bx ((w.alloc (.cells #[.bool neg, .slice p zs.length c, .int .i64 E] 47)).alloc (.cells #[.bool false, .slice none 0 0] 95)) 47 w.heap.size neg (.slice p zs.length c) E) :=
    (Bx.new _ _ _ _ _).ext ((Ext.refl _).alloc _)
  have HHv : Hid (Hv ((w.alloc (.cells #[.bool neg, .slice p zs.length c, .int .i64 E] 47)).alloc (.cells #[.bool false, .slice none 0 0] 95)) 95 (w.heap.size + 1)) := by
    have h := Hv.new (w.alloc (.cells #[.bool neg, .slice p zs.length c, .int .i64 E] 47)) 95
    rw [HS.out] at h
    exact h
  have HW := Lib.hid (i_setWords (w.heap.size + 1) _ zs _ HHv.out (HK.out.1.ext (HX.out _ _)) HK.out.2.1 (by omega))
  cases neg
  · go_enter Tryz.func103, Tryz.ntmps103
    go_wp2_with (fail)
    refine HW.out.mono ?_
    rintro e w1 ⟨rfl, hc, hb⟩
    have H1 : Hid (Ext w w1 ∧ Bi w1 95 (w.heap.size + 1) o ∧ Bx w1 47 w.heap.size false (.slice p zs.length c) E) := by
      refine ⟨Chg.ext (HX.out _ _) hc (by omega), ?_, HBx.out.chg hc (by omega)⟩
      have h0 := hneg.out
      simp at h0
      rw [HK.out.2.2, show (o.natAbs : Int) = o by omega] at hb
      exact hb
    have c0 := H1.out.2.2.c0
    clear hc hb
    go_wp2_with (fail)
    go_ret
    exact ⟨_, rfl, H1.out.1, by omega, H1.out.2.1⟩
  · go_enter Tryz.func103, Tryz.ntmps103
    go_wp2_with (fail)
    refine HW.out.mono ?_
    rintro e w1 ⟨rfl, hc, hb⟩
    have H1 : Hid (Ext w w1 ∧ Bi w1 95 (w.heap.size + 1) (o.natAbs : Int) ∧ Bx w1 47 w.heap.size true (.slice p zs.length c) E) := by
      refine ⟨Chg.ext (HX.out _ _) hc (by omega), ?_, HBx.out.chg hc (by omega)⟩
      rw [HK.out.2.2] at hb
      exact hb
    have c0 := H1.out.2.2.c0
    clear hc hb
    go_wp2_with (fail)
    refine (i_neg (w.heap.size + 1) (w.heap.size + 1) (o.natAbs : Int) _ H1.out.2.1.hv H1.out.2.1).mono ?_
    rintro e w2 ⟨rfl, hc, hb⟩
    have H2 : Hid (Ext w w2 ∧ Bi w2 95 (w.heap.size + 1) o) := by
      refine ⟨Chg.ext H1.out.1 hc (by omega), ?_⟩
      have h0 := hneg.out
      have h0 : o < 0 := by simpa using h0.symm
      rw [show -(o.natAbs : Int) = o by omega] at hb
      exact hb
    clear hc hb
    go_wp2_with (fail)
    go_ret
    exact ⟨_, rfl, H2.out.1, by omega, H2.out.2⟩
end Go.Proofs.YtdpjkddllimcoaaGreatDoor
end

section
/- Exact numbers: which may be. -/
namespace Fl
open Go Go.RowKit
theorem bits_and_1' (x : Nat) (hx : x < 4294967296) : bits .and .u32 (x : Int) 1 = ((x % 2 : Nat) : Int) := by
  have h := u32_and_nat x 1 (by omega) (by omega)
  rw [Nat.and_one_is_mod] at h
  exact h
end Fl
namespace Go.Proofs.YtdpjkddllimcoaaGreatDoor
open Go.RowKit Fl
theorem d_Valid (o E : Int) (v : Value) (w : World) (h : Dr w v o E) (hok : Ok o E) :
    Calls Tryz.prog 111 #[v] w fun e w' => e = .returned (.bool true) ∧ Ext w w' := by
  obtain ⟨s, rfl, hn⟩ := h
  have HX : Hid (∀ o, Ext w (w.alloc o)) := fun o => (Ext.refl w).alloc o
  rcases hok with ⟨rfl, rfl⟩ | ⟨ho, hb, hE1, hE2⟩
  · obtain ⟨p, l, c, rfl, hl⟩ := hn.len
    have hl0 : l = 0 := hl.2 rfl
    subst hl0
    rw [show decide ((0 : Int) < 0) = false by rfl]
    clear hn hl
    go_enter Tryz.func111, Tryz.ntmps111
    go_wp2_with (fail)
    go_ret
    exact ⟨rfl, HX.out _⟩
  · obtain ⟨neg, hneg⟩ : ∃ neg, Hid (neg = decide (o < 0)) := ⟨_, rfl⟩
    rw [← hneg.out]
    obtain ⟨zs, k1, k2, k3, k4⟩ := hn
    have hlen : zs.length ≤ 2048 := len_le k3 (fit_of (k := 65536) (l := 2048) (by rw [k4]; exact hb) (by decide))
    have h0 : zs ≠ [] := by
      intro e
      subst e
      have : o.natAbs = 0 := k4.symm
      omega
    have hl0 : 0 < zs.length := List.length_pos_iff.2 h0
    have hlast := Tm_last k3 h0
    have hfirst : zs.getD 0 0 % 2 = 1 := by
      match zs, h0, k4 with
      | z :: zs, _, k4 =>
        rw [← k4, num_mod2] at ho
        exact ho
    have hf32 := k2.getD 0
    obtain ⟨p, c, rfl, -, -, hc⟩ := k1.form
    obtain ⟨b, off, rfl, hc4⟩ := hc hl0
    have hca := hc4 (zs.length - 1) (by omega)
    have hcb := hc4 0 hl0
    rw [Nat.add_zero] at hcb
    generalize zs.getD (zs.length - 1) 0 = zl at *
    generalize zs.getD 0 0 = z0 at *
    have t0 : ((zs.length : Int) == 0) = false := by simp; omega
    have t1 : decide (zs.length ≤ 2048) = true := by simp; omega
    have t2 : ((zl : Int) != 0) = true := by simp; omega
    have t3 := bits_and_1' z0 hf32
    rw [hfirst] at t3
    have t4 : decide (-65536 ≤ E) = true := by simp; omega
    have t5 : decide (E ≤ 65536) = true := by simp; omega
    have hl1 : ((zs.length : Int) - 1).toNat = zs.length - 1 := by omega
    have HX2 : Hid (Ext w (w.alloc (.cells #[.bool neg, .slice (some ⟨b, off, none⟩) zs.length c, .int .i64 E] 47))) := HX.out _
    have hca := HX2.out.cell_some hca
    have hcb := HX2.out.cell_some hcb
    clear k1 k2 k3 k4 hc hc4 h0 hlast hfirst hf32 ho hb
    generalize zs.length = l at *
    go_enter Tryz.func111, Tryz.ntmps111
    go_wp2_with (fail)
    go_ret
    exact ⟨rfl, HX.out _⟩
end Go.Proofs.YtdpjkddllimcoaaGreatDoor
end

section
/- Exact numbers: whether two may be. -/
namespace Fl
open Go Go.RowKit
theorem Dr.inv {w : World} {n : Bool} {s : Value} {E E' o : Int} (h : Dr w (.agg #[.bool n, s, .int .i64 E]) o E') : n = decide (o < 0) ∧ E = E' ∧ Nt w s o.natAbs := by
  obtain ⟨s', e, hn⟩ := h
  simp at e
  obtain ⟨rfl, rfl, rfl⟩ := e
  exact ⟨by simp, rfl, hn⟩
/-- block g holds two structs. -/
def Bx2 (w : World) (t : TypeId) (g : Nat) (n1 : Bool) (s1 : Value) (E1 : Int) (n2 : Bool) (s2 : Value) (E2 : Int) : Prop := w.heap[g]? = some (.cells #[.bool n1, s1, .int .i64 E1, .bool n2, s2, .int .i64 E2] t (0, 0))
theorem Bx2.cells {w : World} {t : TypeId} {g : Nat} {n1 n2 : Bool} {s1 s2 : Value} {E1 E2 : Int} (h : Bx2 w t g n1 s1 E1 n2 s2 E2) :
    w.cell? ⟨g, 0, none⟩ = some (.bool n1) ∧ w.cell? ⟨g, 1, none⟩ = some s1 ∧ w.cell? ⟨g, 2, none⟩ = some (.int .i64 E1) ∧ w.cell? ⟨g, 3, none⟩ = some (.bool n2) ∧ w.cell? ⟨g, 4, none⟩ = some s2 ∧ w.cell? ⟨g, 5, none⟩ = some (.int .i64 E2) := by
  simp only [World.cell?, show w.heap[g]? = _ from h]
  exact ⟨rfl, rfl, rfl, rfl, rfl, rfl⟩
theorem Bx2.ext {w w' : World} {t : TypeId} {g : Nat} {n1 n2 : Bool} {s1 s2 : Value} {E1 E2 : Int} (h : Bx2 w t g n1 s1 E1 n2 s2 E2) (hx : Ext w w') : Bx2 w' t g n1 s1 E1 n2 s2 E2 := by
  have hl := lt_of_cell h.cells.1
  unfold Bx2 at *
  rw [hx.block hl, h]
end Fl
namespace Go.Proofs.YtdpjkddllimcoaaGreatDoor
open Go.RowKit Fl
theorem d_valid2 (o1 E1 o2 E2 : Int) (n1 n2 : Bool) (s1 s2 : Value) (g : Nat) (w : World) (hg : Bx2 w 47 g n1 s1 E1 n2 s2 E2) (h1 : Dr w (.agg #[.bool n1, s1, .int .i64 E1]) o1 E1) (h2 : Dr w (.agg #[.bool n2, s2, .int .i64 E2]) o2 E2) (k1 : Ok o1 E1) (k2 : Ok o2 E2) :
    Calls Tryz.prog 99 #[.slice (some ⟨g, 0, none⟩) 2 2] w fun e w' => e = .returned (.bool true) ∧ Ext w w' := by
  have isl1 := h1.inv.2.2.isSl
  have isl2 := h2.inv.2.2.isSl
  obtain ⟨p1, l1, c1, rfl⟩ := isl1
  obtain ⟨p2, l2, c2, rfl⟩ := isl2
  have HG := Lib.hid hg
  have H1 := Lib.hid (And.intro h1 k1)
  have H2 := Lib.hid (And.intro h2 k2)
  clear hg h1 h2 k1 k2
  go_enter Tryz.func99, Tryz.ntmps99
  go_wp2_with (fail)
  go_loopw [7] (fun v7 wr => ∃ i : Nat, i ≤ 2 ∧ v7 = .int .i64 i ∧ Hid (Ext w wr)) (fun v7 _ => 2 - (intOf v7).toNat)
  case atStart => exact ⟨0, by omega, rfl, Ext.refl w⟩
  case round =>
    obtain ⟨i, hi, rfl, HX⟩ := hrel
    have hi3 : i = 0 ∨ i = 1 ∨ i = 2 := by omega
    have HA : Hid (∀ o, Ext w (wr.alloc o)) := fun o => HX.out.alloc o
    rcases hi3 with rfl | rfl | rfl
    · obtain ⟨a0, a1, a2, a3, a4, a5⟩ := (HG.out.ext HX.out).cells
      clear a3 a4 a5
      go_wp2_with (fail)
      refine (d_Valid o1 E1 _ _ (H1.out.1.ext (HA.out _)) H1.out.2).mono ?_
      rintro e w1 ⟨rfl, hx⟩
      have HE := Lib.hid ((HA.out _).trans hx)
      clear hx a0 a1 a2
      go_wp2_with (fail)
      go_roundw
      case rel => exact ⟨1, by omega, by go_num, HE.out⟩
      case measure => simp [intOf]
    · obtain ⟨a0, a1, a2, a3, a4, a5⟩ := (HG.out.ext HX.out).cells
      clear a0 a1 a2
      go_wp2_with (fail)
      refine (d_Valid o2 E2 _ _ (H2.out.1.ext (HA.out _)) H2.out.2).mono ?_
      rintro e w1 ⟨rfl, hx⟩
      have HE := Lib.hid ((HA.out _).trans hx)
      clear hx a3 a4 a5
      go_wp2_with (fail)
      go_roundw
      case rel => exact ⟨2, by omega, by go_num, HE.out⟩
      case measure => simp [intOf]
    · go_wp2_with (fail)
      go_ret
      exact ⟨rfl, HX.out⟩
end Go.Proofs.YtdpjkddllimcoaaGreatDoor
end

section
/- Exact numbers: the number of a whole one. -/
namespace Fl
open Go Go.RowKit
theorem odd_part : ∀ n : Nat, n ≠ 0 → ∃ o t : Nat, n = o * 2 ^ t ∧ o % 2 = 1 := by
  intro n
  induction n using Nat.strongRecOn with
  | _ n ih =>
    intro h
    by_cases h1 : n % 2 = 1
    · exact ⟨n, 0, by simp, h1⟩
    · obtain ⟨o, t, e, ho⟩ := ih (n / 2) (by omega) (by omega)
      refine ⟨o, t + 1, ?_, ho⟩
      rw [Nat.pow_succ, ← Nat.mul_assoc, ← e]
      omega
theorem odd_bound {n o t L : Nat} (h : n = o * 2 ^ t) (ho : o % 2 = 1) (hn : n < 2 ^ L) : o < 2 ^ L ∧ t < L := by
  have h2 : 2 ^ t ≤ n := by rw [h]; exact Nat.le_mul_of_pos_left _ (by omega)
  refine ⟨?_, ?_⟩
  · have : o ≤ n := by rw [h]; exact Nat.le_mul_of_pos_right _ (Nat.two_pow_pos _)
    omega
  · rcases Nat.lt_or_ge t L with h3 | h3
    · exact h3
    · have := Nat.pow_le_pow_right (show 0 < 2 by decide) h3
      omega
theorem two_pow_lt_of {o L M : Nat} (h : o < 2 ^ L) (hl : L ≤ M) : o < 2 ^ M := Nat.lt_of_lt_of_le h (Nat.pow_le_pow_right (by decide) hl)
theorem Rep.scale {o E z e : Int} (h : Rep o E z e) (k : Nat) : Rep o E (z * 2 ^ k) (e - k) := by
  rcases h with ⟨rfl, h2, h3⟩ | ⟨h1, t, rfl, h3⟩
  · exact .inl ⟨by simp, h2, h3⟩
  · exact .inr ⟨h1, t + k, by rw [Int.mul_assoc, ← Int.pow_add], by omega⟩
/-- a struct that tells z times 2 to the e, as it may be. -/
def Dy (w : World) (v : Value) (z e : Int) : Prop := ∃ o E, Dr w v o E ∧ Rep o E z e ∧ Ok o E
theorem Dy.ext {w w' : World} {v : Value} {z e : Int} (h : Dy w v z e) (hx : Ext w w') : Dy w' v z e := by
  obtain ⟨o, E, h1, h2⟩ := h
  exact ⟨o, E, h1.ext hx, h2⟩
theorem Dy.scale {w : World} {v : Value} {z e : Int} (h : Dy w v z e) (k : Nat) : Dy w v (z * 2 ^ k) (e - k) := by
  obtain ⟨o, E, h1, h2, h3⟩ := h
  exact ⟨o, E, h1, h2.scale k, h3⟩
theorem Dy.zero (w : World) (e : Int) : Dy w (.agg #[.bool false, .slice none 0 0, .int .i64 0]) 0 e := ⟨0, 0, Dr.zero w, .inl ⟨rfl, rfl, rfl⟩, .inl ⟨rfl, rfl⟩⟩
theorem Ext.setNewB {a b : World} (h : Ext a b) {g i : Nat} (hp : a.heap.size ≤ g) (u : Value) : Ext a (b.setCell ⟨g, i, none⟩ u) := h.setNew hp u
end Fl
namespace Go.Proofs.YtdpjkddllimcoaaGreatDoor
open Go.RowKit Fl
theorem d_num_zero (gn : Nat) (e : Int) (w : World) (hn : Bi w 95 gn 0) :
    Calls Tryz.prog 108 #[.pointer (some ⟨gn, 0, none⟩), .int .i64 e] w fun en w' => ∃ v, en = .returned (.tuple #[v, .int .i64 0]) ∧ Ext w w' ∧ Dy w' v 0 e := by
  have HX : Hid (∀ o, Ext w (w.alloc o)) := fun o => (Ext.refl w).alloc o
  have HN := Lib.hid hn
  clear hn
  go_enter Tryz.func108, Tryz.ntmps108
  go_wp2_with (fail)
  refine (i_sign gn 0 _ (HN.out.ext (HX.out _))).mono ?_
  rintro en w1 ⟨rfl, rfl⟩
  rw [show sgnI 0 = 0 by decide]
  go_wp2_with (fail)
  exact bodyPost_ret (v := .tuple #[.agg #[.bool false, .slice none 0 0, .int .i64 0], .int .i64 0]) (by simp [results, Tryz.results108, go_sem]) rfl ⟨_, rfl, HX.out _, Dy.zero _ _⟩
set_option maxRecDepth 100000 in
theorem d_num (gn L : Nat) (z e : Int) (w : World) (hn : Bi w 95 gn z) (hz : z ≠ 0) (hb : z.natAbs < 2 ^ L) (hL : L ≤ 65536) (he1 : -65536 ≤ e) (he2 : e + L ≤ 65536) (hT : Tab32 w) :
    Calls Tryz.prog 108 #[.pointer (some ⟨gn, 0, none⟩), .int .i64 e] w fun en w' => ∃ v, en = .returned (.tuple #[v, .int .i64 0]) ∧ Ext w w' ∧ Dy w' v z e := by
  have HX : Hid (∀ o1 o2, Ext w ((w.alloc o1).alloc o2)) := fun o1 o2 => ((Ext.refl w).alloc o1).alloc o2
  have HX1 : Hid (∀ o1, Ext w (w.alloc o1)) := fun o1 => (Ext.refl w).alloc o1
  have HHv : Hid (Hv ((w.alloc (.cells #[.bool false, .slice none 0 0, .int .i64 0] 47)).alloc (.cells #[.bool false, .slice none 0 0] 95)) 95 (w.heap.size + 1)) := by
    have h := Hv.new (w.alloc (.cells #[.bool false, .slice none 0 0, .int .i64 0] 47)) 95
    rw [show (w.alloc (.cells #[.bool false, .slice none 0 0, .int .i64 0] 47)).heap.size = w.heap.size + 1 by simp] at h
    exact h
  have HBx : Hid (Bx ((w.alloc (.cells #[.bool false, .slice none 0 0, .int .i64 0] 47)).alloc (.cells #[.bool false, .slice none 0 0] 95)) 47 w.heap.size false (.slice none 0 0) 0) :=
    (Bx.new _ _ _ _ _).ext ((Ext.refl _).alloc _)
  have hgn : gn < w.heap.size := hn.lt
  have HN := Lib.hid hn
  have HTT := Lib.hid hT
  obtain ⟨o, t, hot, ho⟩ := odd_part z.natAbs (by omega)
  obtain ⟨hob, htb⟩ := odd_bound hot ho hb
  have HO := Lib.hid (And.intro hot (And.intro ho hob))
  have hblo : bl o ≤ L := bl_le_of hob
  have HFit : Hid (z.natAbs < 4294967296 ^ 1048575) := fit_of (k := L) (l := 1048575) hb (by omega)
  have HFo : Hid (o < 4294967296 ^ 1048575) := fit_of (k := L) (l := 1048575) hob (by omega)
  have HZ := Lib.hid hz
  have hs0 : (sgnI z == 0) = false := by
    unfold sgnI
    by_cases h : z < 0
    · simp [h]
    · simp [h, hz]
  obtain ⟨neg, hneg⟩ : ∃ neg, Hid (neg = decide (sgnI z < 0) ∧ neg = decide (z < 0)) := by
    refine ⟨decide (z < 0), ?_, rfl⟩
    unfold sgnI
    by_cases h : z < 0
    · simp [h]
    · simp only [h, if_false]; split <;> rfl
  obtain ⟨sg, HSG⟩ : ∃ sg, Hid (sg = sgnI z) := ⟨_, rfl⟩
  rw [← HSG.out] at hs0
  have hsn : decide (sg < 0) = neg := by rw [HSG.out]; exact hneg.out.1.symm
  obtain ⟨B, HB⟩ : ∃ B, Hid (B = bl o) := ⟨_, rfl⟩
  rw [← HB.out] at hblo
  clear hn hT hot ho hob hz hb
  go_enter Tryz.func108, Tryz.ntmps108
  go_wp2_with (fail)
  refine (i_sign gn z _ (HN.out.ext (HX1.out _))).mono ?_
  rintro en w1 ⟨he, rfl⟩
  rw [← HSG.out] at he
  subst he
  go_wp2_with (fail)
  refine (i_abs (w.heap.size + 1) gn z _ HHv.out (HN.out.ext (HX.out _ _))).mono ?_
  rintro en w2 ⟨rfl, hc, hbi⟩
  have H2 : Hid (Ext w w2 ∧ Bi w2 95 (w.heap.size + 1) (z.natAbs : Int) ∧ Bx w2 47 w.heap.size false (.slice none 0 0) 0) :=
    ⟨Chg.ext (HX.out _ _) hc (by omega), hbi, HBx.out.chg hc (by omega)⟩
  clear hc hbi
  go_wp2_with (fail)
  refine (i_zeros (w.heap.size + 1) (z.natAbs : Int) o t _ H2.out.2.1 (by rw [Int.natAbs_natCast]; exact HFit.out) (by rw [Int.natAbs_natCast]; exact HO.out.1) HO.out.2.1 (HTT.out.ext H2.out.1)).mono ?_
  rintro en w2' ⟨rfl, rfl⟩
  go_wp2_with (fail)
  refine (i_rsh (w.heap.size + 1) (w.heap.size + 1) t z.natAbs _ H2.out.2.1.hv H2.out.2.1 HFit.out (by omega)).mono ?_
  rintro en w3 ⟨rfl, hc, hbi⟩
  have H3 : Hid (Ext w w3 ∧ Bi w3 95 (w.heap.size + 1) (o : Int) ∧ Bx w3 47 w.heap.size false (.slice none 0 0) 0) := by
    refine ⟨Chg.ext H2.out.1 hc (by omega), ?_, H2.out.2.2.chg hc (by omega)⟩
    rw [HO.out.1, Nat.mul_div_cancel _ (Nat.two_pow_pos _)] at hbi
    exact hbi
  clear hc hbi
  go_wp2_with (fail)
  refine (i_bitLen (w.heap.size + 1) (o : Int) _ H3.out.2.1 (by rw [Int.natAbs_natCast]; exact HFo.out)).mono ?_
  rintro en w3' ⟨he, rfl⟩
  rw [Int.natAbs_natCast, ← HB.out] at he
  subst he
  have t1 : decide (65536 < B) = false := by simp; omega
  clear HFit HFo
  have t2 : decide (65536 - (t : Int) < e) = false := by simp; omega
  have t3 : decide (e < -65536 - (t : Int)) = false := by simp; omega
  go_wp2_with (fail)
  refine (i_sign gn z _ (HN.out.ext H3.out.1)).mono ?_
  rintro en w4 ⟨he, rfl⟩
  rw [← HSG.out] at he
  subst he
  go_wp2_with (fail)
  have HXb : Hid (Ext w3 (w3.alloc (.cells #[.bool neg, .slice none 0 0, .int .i64 (e + t)] 47)) ∧ Bx (w3.alloc (.cells #[.bool neg, .slice none 0 0, .int .i64 (e + t)] 47)) 47 w3.heap.size neg (.slice none 0 0) (e + t)) :=
    ⟨(Ext.refl w3).alloc _, Bx.new _ _ _ _ _⟩
  refine (i_words (w.heap.size + 1) (o : Int) _ (H3.out.2.1.ext HXb.out.1) (by rw [Int.natAbs_natCast]; exact fit_of (k := L) (l := 1048575) HO.out.2.2 (by omega))).mono ?_
  rintro en w5 ⟨v1, rfl, hx, hnt⟩
  rw [Int.natAbs_natCast] at hnt
  have H5 : Hid (Ext w w5 ∧ Nt w5 v1 o ∧ Bx w5 47 w.heap.size false (.slice none 0 0) 0 ∧ Bx w5 47 w3.heap.size neg (.slice none 0 0) (e + t)) :=
    ⟨(H3.out.1.trans HXb.out.1).trans hx, hnt, (H3.out.2.2.ext HXb.out.1).ext hx, HXb.out.2.ext hx⟩
  have hne : w.heap.size ≠ w3.heap.size := by have := H3.out.2.2.lt; omega
  have hne' : w3.heap.size ≠ w.heap.size := Ne.symm hne
  have a0 := H5.out.2.2.1.c0
  have a1 := H5.out.2.2.1.c1
  have a2 := H5.out.2.2.1.c2
  have a3 := H5.out.2.2.1.frozen 0
  have a4 := H5.out.2.2.1.frozen 1
  have a5 := H5.out.2.2.1.frozen 2
  have b0 := H5.out.2.2.2.c0
  have b1 := H5.out.2.2.2.c1
  have b2 := H5.out.2.2.2.c2
  have b4 := H5.out.2.2.2.frozen 1
  obtain ⟨p1, l1, c1, rfl⟩ := hnt.isSl
  clear hx hnt t1 t2 t3
  go_wp2_with (fail)
  refine bodyPost_ret (v := .tuple #[.agg #[.bool neg, .slice p1 l1 c1, .int .i64 (e + t)], .int .i64 0]) (by simp [results, Tryz.results108, go_sem, a0, a1, a2]) rfl ⟨_, rfl, ?_, ?_⟩
  · exact (((H5.out.1.setNew H3.out.1.size _).setNew (Nat.le_refl _) _).setNew (Nat.le_refl _) _).setNew (Nat.le_refl _) _
  · have g1 := (Chg.refl w3.heap.size w5).set (p := ⟨w3.heap.size, 1, none⟩) rfl (.slice p1 l1 c1)
    have n1 := H5.out.2.1.chgB H5.out.2.2.2 IsSl.nil g1
    have x1 := H5.out.2.2.1.chg g1 hne
    have g2 := (((Chg.refl w.heap.size (w5.setCell ⟨w3.heap.size, 1, none⟩ (.slice p1 l1 c1))).set (p := ⟨w.heap.size, 0, none⟩) rfl (.bool neg)).set (p := ⟨w.heap.size, 1, none⟩) rfl (.slice p1 l1 c1)).set (p := ⟨w.heap.size, 2, none⟩) rfl (.int .i64 (e + t))
    have n2 := n1.chgB x1 IsSl.nil g2
    have hz0 := HZ.out
    obtain ⟨k1, k2, k3⟩ := HO.out
    have hq := hneg.out.2
    refine ⟨if neg then -(o : Int) else o, e + t, ⟨.slice p1 l1 c1, ?_, ?_⟩, .inr ⟨?_, t, ?_, rfl⟩, .inr ⟨?_, ?_, by omega, by omega⟩⟩
    · congr 2
      cases neg <;> simp <;> omega
    · rw [show (if neg then -(o : Int) else (o : Int)).natAbs = o by cases neg <;> simp]; exact n2
    · rw [show (if neg then -(o : Int) else (o : Int)).natAbs = o by cases neg <;> simp]; exact k2
    · have hzn : z = if neg then -(z.natAbs : Int) else z.natAbs := by
        rw [hq]
        by_cases h : z < 0
        · simp only [h, decide_true, if_true]; omega
        · simp only [h, decide_false, Bool.false_eq_true, if_false]; omega
      rw [hzn, k1]
      cases neg
      · simp
      · simp [Int.neg_mul]
    · rw [show (if neg then -(o : Int) else (o : Int)).natAbs = o by cases neg <;> simp]; exact k2
    · rw [show (if neg then -(o : Int) else (o : Int)).natAbs = o by cases neg <;> simp]
      exact two_pow_lt_of (M := 65536) k3 hL
theorem d_num_any (gn L : Nat) (z e : Int) (w : World) (hn : Bi w 95 gn z) (hb : z.natAbs < 2 ^ L) (hL : L ≤ 65536) (he1 : -65536 ≤ e) (he2 : e + L ≤ 65536) (hT : Tab32 w) :
    Calls Tryz.prog 108 #[.pointer (some ⟨gn, 0, none⟩), .int .i64 e] w fun en w' => ∃ v, en = .returned (.tuple #[v, .int .i64 0]) ∧ Ext w w' ∧ Dy w' v z e := by
  by_cases hz : z = 0
  · subst hz
    exact d_num_zero gn e w hn
  · exact d_num gn L z e w hn hz hb hL he1 he2 hT
end Go.Proofs.YtdpjkddllimcoaaGreatDoor
end

section
/- Rounding, as the document says it: the greatest float that is not above, the least one that is not below, the nearest one; a magnitude is told by how twice it, in units of 2^-1074, compares with whole numbers. -/
namespace Fl

def rl (r : Nat) : Nat := r / B - 1
def rq (r : Nat) : Nat := if r < B then r else B + r % B

theorem V_lq (r : Nat) : V r = rq r * 2 ^ rl r := by
  unfold V rq rl
  by_cases h : r < B
  · rw [if_pos h, if_pos h]
    have : r / B - 1 = 0 := by unfold B at *; omega
    rw [this]; simp
  · rw [if_neg h, if_neg h]

theorem rung_lq (r : Nat) : rl r * B + rq r = r := by
  unfold rl rq
  by_cases h : r < B
  · rw [if_pos h]; unfold B at *; omega
  · rw [if_neg h]; unfold B at *; omega

theorem rq_lt (r : Nat) : rq r < 2 * B := by
  unfold rq
  by_cases h : r < B
  · rw [if_pos h]; unfold B at *; omega
  · rw [if_neg h]; unfold B at *; omega

theorem rq_norm (r : Nat) : rl r = 0 ∨ B ≤ rq r := by
  unfold rl rq
  by_cases h : r < B
  · left; unfold B at *; omega
  · right; rw [if_neg h]; omega

theorem V_of {l q : Nat} (h : q ≤ 2 * B) (h2 : l = 0 ∨ B ≤ q) : V (l * B + q) = q * 2 ^ l := by
  unfold V
  by_cases h1 : l * B + q < B
  · rw [if_pos h1]
    have hl : l = 0 := by
      rcases h2 with h2 | h2
      · exact h2
      · omega
    subst hl; simp
  · rw [if_neg h1]
    by_cases e : q = 2 * B
    · subst e
      have a : (l * B + 2 * B) / B = l + 2 := by
        rw [← Nat.add_mul]; exact Nat.mul_div_cancel _ (by decide)
      have b : (l * B + 2 * B) % B = 0 := by
        rw [← Nat.add_mul]; exact Nat.mul_mod_left _ _
      rw [a, b, show l + 2 - 1 = l + 1 from rfl, Nat.pow_succ]
      have : (B + 0) * (2 ^ l * 2) = 2 * B * 2 ^ l := by
        rw [Nat.add_zero, Nat.mul_comm (2 ^ l) 2, ← Nat.mul_assoc, Nat.mul_comm B 2]
      exact this
    · by_cases g : B ≤ q
      · have a : (l * B + q) / B = l + 1 := by
          rw [Nat.add_comm, Nat.add_mul_div_right _ _ (by decide)]
          have : q / B = 1 := by unfold B at *; omega
          omega
        have b : (l * B + q) % B = q - B := by
          rw [Nat.add_comm, Nat.add_mul_mod_self_right]
          unfold B at *; omega
        rw [a, b, show l + 1 - 1 = l from rfl, show B + (q - B) = q by omega]
      · have hl : l = 0 := by
          rcases h2 with h2 | h2
          · exact h2
          · exact absurd h2 g
        subst hl; omega

theorem V_next {l q : Nat} (h : q < 2 * B) (h2 : l = 0 ∨ B ≤ q) : V (l * B + q + 1) = (q + 1) * 2 ^ l := by
  rw [Nat.add_assoc]
  exact V_of (by omega) (by rcases h2 with h2 | h2; · exact .inl h2
                            · exact .inr (by omega))

/-- compares less and less where the number that it is held against grows. -/
def Anti (c : Nat → Ordering) : Prop := ∀ s t, s ≤ t → c s = .lt → c t = .lt

structure Floor (c : Nat → Ordering) (r : Nat) : Prop where
  fin : r < INF
  lo : c (2 * V r) ≠ .lt
  hi : r + 1 < INF → c (2 * V (r + 1)) = .lt

theorem Floor.unique {c : Nat → Ordering} (hc : Anti c) {r s : Nat} (h : Floor c r) (k : Floor c s) : r = s := by
  rcases Nat.lt_trichotomy r s with e | e | e
  · have := h.hi (by have := k.fin; omega)
    exact absurd (hc _ _ (Nat.mul_le_mul_left 2 (V_le (show r + 1 ≤ s by omega))) this) k.lo
  · exact e
  · have := k.hi (by have := h.fin; omega)
    exact absurd (hc _ _ (Nat.mul_le_mul_left 2 (V_le (show s + 1 ≤ r by omega))) this) h.lo

/-- from the floor to the answer; d: 0 towards nought, 1 to the nearest, 2 away from nought. -/
def pick (c : Nat → Ordering) (d r : Nat) : Nat :=
  if d = 0 then r else if d = 2 then (if c (2 * V r) = .eq then r else r + 1)
  else match c (V r + V (r + 1)) with
    | .lt => r
    | .gt => r + 1
    | .eq => r + r % 2

open Classical in
/-- the rung to which a magnitude is rounded. -/
noncomputable def rnd (c : Nat → Ordering) (d : Nat) : Nat := if h : ∃ r, Floor c r then pick c d h.choose else 0

theorem rnd_eq {c : Nat → Ordering} (hc : Anti c) {d r : Nat} (h : Floor c r) : rnd c d = pick c d r := by
  unfold rnd
  have he : ∃ r, Floor c r := ⟨r, h⟩
  rw [dif_pos he, Floor.unique hc he.choose_spec h]

theorem rnd_le {c : Nat → Ordering} {d : Nat} : rnd c d ≤ INF := by
  unfold rnd
  split
  · rename_i h
    have := h.choose_spec.fin
    unfold pick
    split
    · omega
    · split
      · split <;> omega
      · split <;> omega
  · decide

theorem floor_of {c : Nat → Ordering} {l q : Nat} (h : q < 2 * B) (h2 : l = 0 ∨ B ≤ q) (lo : c (q * 2 ^ (l + 1)) ≠ .lt)
    (hi : c ((q + 1) * 2 ^ (l + 1)) = .lt) (hr : l * B + q < INF) : Floor c (l * B + q) := by
  refine ⟨hr, ?_, fun _ => ?_⟩
  · rw [V_of (by omega) h2, show 2 * (q * 2 ^ l) = q * 2 ^ (l + 1) by rw [Nat.pow_succ, Nat.mul_comm (2 ^ l) 2, Nat.mul_left_comm]]
    exact lo
  · rw [V_next h h2, show 2 * ((q + 1) * 2 ^ l) = (q + 1) * 2 ^ (l + 1) by rw [Nat.pow_succ, Nat.mul_comm (2 ^ l) 2, Nat.mul_left_comm]]
    exact hi

/-- the answer, told by the digits kept and how what is cut compares. -/
theorem rnd_lq {c : Nat → Ordering} (hc : Anti c) {d l q : Nat} (h : q < 2 * B) (h2 : l = 0 ∨ B ≤ q) (lo : c (q * 2 ^ (l + 1)) ≠ .lt)
    (hi : c ((q + 1) * 2 ^ (l + 1)) = .lt) (hr : l * B + q < INF) :
    rnd c d = l * B + (if d = 0 then q else if d = 2 then (if c (q * 2 ^ (l + 1)) = .eq then q else q + 1)
      else match c ((2 * q + 1) * 2 ^ l) with | .lt => q | .gt => q + 1 | .eq => q + q % 2) := by
  rw [rnd_eq hc (floor_of h h2 lo hi hr)]
  unfold pick
  have e1 : 2 * V (l * B + q) = q * 2 ^ (l + 1) := by
    rw [V_of (by omega) h2, show 2 * (q * 2 ^ l) = q * 2 ^ (l + 1) by rw [Nat.pow_succ, Nat.mul_comm (2 ^ l) 2, Nat.mul_left_comm]]
  have e2 : V (l * B + q) + V (l * B + q + 1) = (2 * q + 1) * 2 ^ l := by
    rw [V_of (by omega) h2, V_next h h2, ← Nat.add_mul]; congr 1; omega
  have e3 : (l * B + q) % 2 = q % 2 := by
    have : l * B = 2 * (l * 2251799813685248) := by unfold B; omega
    omega
  rw [e1, e2, e3]
  by_cases d0 : d = 0
  · rw [if_pos d0, if_pos d0]
  · rw [if_neg d0, if_neg d0]
    by_cases d2 : d = 2
    · rw [if_pos d2, if_pos d2]; split <;> omega
    · rw [if_neg d2, if_neg d2]
      cases c ((2 * q + 1) * 2 ^ l) <;> simp <;> omega

def EB : Nat := 2046
theorem EB_eq : EB = 2046 := rfl
theorem V_INF : V INF = B * 2 ^ EB := by
  unfold V
  rw [if_neg (by decide), show INF % B = 0 from by decide, show INF / B - 1 = EB from by decide, Nat.add_zero]

/-- beyond the greatest float. -/
theorem rnd_over {c : Nat → Ordering} (hc : Anti c) (hgt : ∀ s t, s < t → c t ≠ .lt → c s = .gt) {d : Nat} (h : c (2 * V INF) ≠ .lt) :
    rnd c d = if d = 0 then INF - 1 else INF := by
  have hI : INF - 1 + 1 = INF := by decide
  have lt1 : V (INF - 1) < V INF := by rw [← hI]; exact V_succ _
  have f : Floor c (INF - 1) := by
    refine ⟨by decide, ?_, fun h => absurd h (by decide)⟩
    intro e
    exact h (hc _ _ (by omega) e)
  rw [rnd_eq hc f]
  unfold pick
  by_cases d0 : d = 0
  · rw [if_pos d0, if_pos d0]
  · rw [if_neg d0, if_neg d0]
    have g1 : c (2 * V (INF - 1)) = .gt := hgt _ _ (by omega) h
    have g2 : c (V (INF - 1) + V (INF - 1 + 1)) = .gt := hgt _ _ (by rw [hI]; omega) h
    rw [g1, g2]
    split
    · rfl
    · rfl

/-- the direction of a magnitude: mode 1 down, 2 to the nearest, 3 up. -/
def aim (neg : Bool) (mode : Int) : Nat := if mode = 2 then 1 else if neg then (if mode = 1 then 2 else 0) else (if mode = 1 then 0 else 2)

def word (neg : Bool) (r : Nat) : Nat := if neg then S + r else r

/-- twice a quotient n / d against t. -/
def cQ (n d t : Nat) : Ordering := compare n (t * d)
theorem cQ_lt {n d t : Nat} : cQ n d t = .lt ↔ n < t * d := by unfold cQ; exact Nat.compare_eq_lt
theorem cQ_gt {n d t : Nat} : cQ n d t = .gt ↔ t * d < n := by unfold cQ; exact Nat.compare_eq_gt
theorem cQ_eq {n d t : Nat} : cQ n d t = .eq ↔ n = t * d := by unfold cQ; exact Nat.compare_eq_eq
theorem cQ_anti (n d : Nat) : Anti (cQ n d) := by
  intro s t h e
  rw [cQ_lt] at *
  exact Nat.lt_of_lt_of_le e (Nat.mul_le_mul_right d h)
theorem cQ_strict {n d : Nat} (hd : 0 < d) : ∀ s t, s < t → cQ n d t ≠ .lt → cQ n d s = .gt := by
  intro s t h e
  rw [Ne, cQ_lt] at e
  rw [cQ_gt]
  exact Nat.lt_of_lt_of_le (Nat.mul_lt_mul_of_pos_right h hd) (by omega)
theorem cQ_scale {n d k : Nat} (hk : 0 < k) : cQ (n * k) (d * k) = cQ n d := by
  funext t
  unfold cQ
  rw [← Nat.mul_assoc]
  rcases Nat.lt_trichotomy n (t * d) with h | h | h
  · rw [Nat.compare_eq_lt.2 h, Nat.compare_eq_lt.2 (Nat.mul_lt_mul_of_pos_right h hk)]
  · rw [h]; simp
  · rw [Nat.compare_eq_gt.2 h, Nat.compare_eq_gt.2 (Nat.mul_lt_mul_of_pos_right h hk)]

/-- twice the root of a quotient against t. -/
def cS (n d t : Nat) : Ordering := compare n (t * t * d)
theorem cS_lt {n d t : Nat} : cS n d t = .lt ↔ n < t * t * d := by unfold cS; exact Nat.compare_eq_lt
theorem cS_gt {n d t : Nat} : cS n d t = .gt ↔ t * t * d < n := by unfold cS; exact Nat.compare_eq_gt
theorem cS_eq {n d t : Nat} : cS n d t = .eq ↔ n = t * t * d := by unfold cS; exact Nat.compare_eq_eq
theorem cS_anti (n d : Nat) : Anti (cS n d) := by
  intro s t h e
  rw [cS_lt] at *
  exact Nat.lt_of_lt_of_le e (Nat.mul_le_mul_right d (Nat.mul_le_mul h h))
theorem cS_strict {n d : Nat} (hd : 0 < d) : ∀ s t, s < t → cS n d t ≠ .lt → cS n d s = .gt := by
  intro s t h e
  rw [Ne, cS_lt] at e
  rw [cS_gt]
  exact Nat.lt_of_lt_of_le (Nat.mul_lt_mul_of_pos_right (Nat.mul_self_lt_mul_self h) hd) (by omega)

/-- a whole number times a power of two, as a comparison. -/
def cD (m : Nat) (e : Int) : Nat → Ordering := cQ (m * 2 ^ (e + 1075).toNat) (2 ^ (-(e + 1075)).toNat)
theorem cD_anti (m : Nat) (e : Int) : Anti (cD m e) := cQ_anti _ _
theorem cD_strict (m : Nat) (e : Int) : ∀ s t, s < t → cD m e t ≠ .lt → cD m e s = .gt := cQ_strict (Nat.two_pow_pos _)
theorem cD_shift (m : Nat) (e : Int) (k : Nat) : cD (m * 2 ^ k) (e - k) = cD m e := by
  unfold cD
  rcases Int.le_total 0 (e - k + 1075) with h | h
  · rw [show (-(e - k + 1075)).toNat = 0 by omega, show (-(e + 1075)).toNat = 0 by omega, Nat.mul_assoc, ← Nat.pow_add, show k + (e - k + 1075).toNat = (e + 1075).toNat by omega]
  · rcases Int.le_total 0 (e + 1075) with h2 | h2
    · have := cQ_scale (n := m * 2 ^ (e + 1075).toNat) (d := 2 ^ (-(e + 1075)).toNat) (k := 2 ^ (-(e - k + 1075)).toNat) (Nat.two_pow_pos _)
      rw [← this, Nat.mul_assoc, Nat.mul_assoc, ← Nat.pow_add, ← Nat.pow_add, ← Nat.pow_add]
      rw [show k + (e - k + 1075).toNat = (e + 1075).toNat + (-(e - k + 1075)).toNat by omega, show (-(e - k + 1075)).toNat = (-(e + 1075)).toNat + (-(e - k + 1075)).toNat by omega]
      rw [show (-(e + 1075)).toNat + ((-(e + 1075)).toNat + (-(e - k + 1075)).toNat) = (-(e + 1075)).toNat + (-(e - k + 1075)).toNat by omega]
    · have := cQ_scale (n := m * 2 ^ (e + 1075).toNat) (d := 2 ^ (-(e + 1075)).toNat) (k := 2 ^ k) (Nat.two_pow_pos _)
      rw [← this, ← Nat.pow_add]
      rw [show (e - k + 1075).toNat = 0 by omega, show (e + 1075).toNat = 0 by omega, show (-(e - k + 1075)).toNat = (-(e + 1075)).toNat + k by omega]
      simp

end Fl
end

section
/- Rounding a whole number times a power of two: by the digits that are cut; and the model's own rounding to the nearest. -/
namespace Fl
open Ieee

theorem compare_scale {a b k : Nat} (hk : 0 < k) : compare (a * k) (b * k) = compare a b := by
  rcases Nat.lt_trichotomy a b with h | h | h
  · rw [Nat.compare_eq_lt.2 h, Nat.compare_eq_lt.2 (Nat.mul_lt_mul_of_pos_right h hk)]
  · rw [h]; simp
  · rw [Nat.compare_eq_gt.2 h, Nat.compare_eq_gt.2 (Nat.mul_lt_mul_of_pos_right h hk)]

theorem cD_at {m l D s : Nat} {e : Int} (he : e = l - 1074 - D) : cD m e (s * 2 ^ (l + 1)) = compare m (s * 2 ^ D) := by
  unfold cD cQ
  rcases Nat.le_total D (l + 1) with h | h
  · rw [show (-(e + 1075)).toNat = 0 by omega, Nat.pow_zero, Nat.mul_one, show (e + 1075).toNat = l + 1 - D by omega]
    rw [show s * 2 ^ (l + 1) = s * 2 ^ D * 2 ^ (l + 1 - D) by rw [Nat.mul_assoc, ← Nat.pow_add, show D + (l + 1 - D) = l + 1 by omega]]
    exact compare_scale (Nat.two_pow_pos _)
  · rw [show (e + 1075).toNat = 0 by omega, Nat.pow_zero, Nat.mul_one, show (-(e + 1075)).toNat = D - (l + 1) by omega]
    rw [Nat.mul_assoc, ← Nat.pow_add, show l + 1 + (D - (l + 1)) = D by omega]

theorem cD_half {m l D s : Nat} {e : Int} (he : e = l - 1074 - D) : cD m e (s * 2 ^ l) = compare (2 * m) (s * 2 ^ D) := by
  unfold cD cQ
  rcases Nat.le_total D l with h | h
  · rw [show (-(e + 1075)).toNat = 0 by omega, Nat.pow_zero, Nat.mul_one, show (e + 1075).toNat = l - D + 1 by omega]
    rw [show s * 2 ^ l = s * 2 ^ D * 2 ^ (l - D) by rw [Nat.mul_assoc, ← Nat.pow_add, show D + (l - D) = l by omega],
      show m * 2 ^ (l - D + 1) = 2 * m * 2 ^ (l - D) by rw [Nat.pow_succ, Nat.mul_comm (2 ^ (l - D)) 2, ← Nat.mul_assoc, Nat.mul_comm m 2]]
    exact compare_scale (Nat.two_pow_pos _)
  · by_cases h1 : D = l
    · subst h1
      rw [show (-(e + 1075)).toNat = 0 by omega, show (e + 1075).toNat = 1 by omega, Nat.pow_zero, Nat.mul_one, Nat.pow_one, Nat.mul_comm]
    · rw [show (e + 1075).toNat = 0 by omega, Nat.pow_zero, Nat.mul_one, show (-(e + 1075)).toNat = D - l - 1 by omega]
      rw [Nat.mul_assoc, ← Nat.pow_add, show s * 2 ^ D = 2 * (s * 2 ^ (l + (D - l - 1))) by
        rw [show D = l + (D - l - 1) + 1 by omega, Nat.pow_succ, ← Nat.mul_assoc, Nat.mul_comm _ 2, show l + (l + (D - l - 1) + 1 - l - 1) = l + (D - l - 1) by omega]]
      rw [Nat.mul_comm 2 m, Nat.mul_comm 2 (s * _)]
      exact (compare_scale (k := 2) (by decide)).symm

/-- what the digits that are cut say: q is kept, rem is cut behind D digits. -/
def away (d q rem u : Nat) : Nat :=
  if d = 0 then q else if d = 2 then (if rem = 0 then q else q + 1) else if 2 * rem < u then q else if u < 2 * rem then q + 1 else q + q % 2

theorem rnd_cut {m l D d : Nat} {e : Int} (he : e = l - 1074 - D) (hq : m / 2 ^ D < 2 * B) (hn : l = 0 ∨ B ≤ m / 2 ^ D) (hf : l * B + m / 2 ^ D < INF) :
    rnd (cD m e) d = l * B + away d (m / 2 ^ D) (m % 2 ^ D) (2 ^ D) := by
  have hp : 0 < 2 ^ D := Nat.two_pow_pos _
  have hdm := Nat.div_add_mod m (2 ^ D)
  have hml := Nat.mod_lt m hp
  rw [Nat.mul_comm] at hdm
  generalize m / 2 ^ D = q at *
  generalize m % 2 ^ D = rem at *
  rw [rnd_lq (cD_anti _ _) hq hn (by rw [cD_at he]; intro h; rw [Nat.compare_eq_lt] at h; omega)
    (by rw [cD_at he, Nat.compare_eq_lt, Nat.add_mul]; omega) hf, cD_at he, cD_half he]
  congr 1
  unfold away
  by_cases d0 : d = 0
  · rw [if_pos d0, if_pos d0]
  · rw [if_neg d0, if_neg d0]
    by_cases d2 : d = 2
    · rw [if_pos d2, if_pos d2]
      by_cases hr : rem = 0
      · rw [if_pos hr, if_pos (by rw [Nat.compare_eq_eq]; omega)]
      · rw [if_neg hr, if_neg (by rw [Nat.compare_eq_eq]; omega)]
    · rw [if_neg d2, if_neg d2]
      have e1 : (2 * q + 1) * 2 ^ D = 2 * (q * 2 ^ D) + 2 ^ D := by rw [Nat.add_mul, Nat.one_mul, Nat.mul_assoc]
      rw [e1]
      by_cases h1 : 2 * rem < 2 ^ D
      · rw [if_pos h1, Nat.compare_eq_lt.2 (by omega)]
      · rw [if_neg h1]
        by_cases h2 : 2 ^ D < 2 * rem
        · rw [if_pos h2, Nat.compare_eq_gt.2 (by omega)]
        · rw [if_neg h2, Nat.compare_eq_eq.2 (by omega)]

/-- nothing is cut. -/
theorem rnd_exact {q l d : Nat} {e : Int} (he : e = l - 1074) (hq : q < 2 * B) (hn : l = 0 ∨ B ≤ q) (hf : l * B + q < INF) : rnd (cD q e) d = l * B + q := by
  have h := rnd_cut (m := q) (l := l) (D := 0) (d := d) (e := e) (by omega) (by simpa using hq) (by simpa using hn) (by simpa using hf)
  rw [h]
  unfold away
  simp [Nat.mod_one]

/-- beyond the greatest float. -/
theorem rnd_big {m d : Nat} {e : Int} (h : 2 ^ (1024 - e).toNat ≤ m * 2 ^ (e - 1024).toNat) : rnd (cD m e) d = if d = 0 then INF - 1 else INF := by
  refine rnd_over (cD_anti _ _) (cD_strict _ _) ?_
  intro hlt
  have hEB := EB_eq
  rw [V_INF, ← Nat.mul_assoc, show 2 * B = 2 ^ 53 by decide, ← Nat.pow_add] at hlt
  unfold cD at hlt
  rw [cQ_lt] at hlt
  rcases Int.le_total 1024 e with h1 | h1
  · rw [show (-(e + 1075)).toNat = 0 by omega, Nat.pow_zero, Nat.mul_one] at hlt
    rw [show (1024 - e).toNat = 0 by omega] at h
    have : 2 ^ (53 + EB) * 1 ≤ 2 ^ (53 + EB) * (m * 2 ^ (e - 1024).toNat) := Nat.mul_le_mul_left _ (by simpa using h)
    rw [Nat.mul_one, Nat.mul_comm, Nat.mul_assoc, ← Nat.pow_add, show (e - 1024).toNat + (53 + EB) = (e + 1075).toNat by omega] at this
    omega
  · rw [show (e - 1024).toNat = 0 by omega, Nat.pow_zero, Nat.mul_one] at h
    rcases Int.le_total 0 (e + 1075) with h2 | h2
    · rw [show (-(e + 1075)).toNat = 0 by omega, Nat.pow_zero, Nat.mul_one] at hlt
      have : 2 ^ (1024 - e).toNat * 2 ^ (e + 1075).toNat ≤ m * 2 ^ (e + 1075).toNat := Nat.mul_le_mul_right _ h
      rw [← Nat.pow_add, show (1024 - e).toNat + (e + 1075).toNat = 53 + EB by omega] at this
      omega
    · rw [show (e + 1075).toNat = 0 by omega, Nat.pow_zero, Nat.mul_one, ← Nat.pow_add, show 53 + EB + (-(e + 1075)).toNat = (1024 - e).toNat by omega] at hlt
      omega

theorem rnd_zero {e : Int} {d : Nat} : rnd (cD 0 e) d = 0 := by
  have h := rnd_cut (m := 0) (l := 0) (D := 0) (d := d) (e := -1074) (by omega) (by decide) (.inl rfl) (by decide)
  have : cD 0 e = cD 0 (-1074) := by
    funext t
    unfold cD cQ
    simp only [Nat.zero_mul]
    by_cases ht : t = 0
    · subst ht; simp
    · rw [Nat.compare_eq_lt.2 (Nat.mul_pos (by omega) (Nat.two_pow_pos _)), Nat.compare_eq_lt.2 (Nat.mul_pos (by omega) (Nat.two_pow_pos _))]
  rw [this, h]
  unfold away
  split
  · rfl
  · split <;> rfl

theorem word_eq (s : Bool) (r : Nat) : double.word s r = word s r := by unfold Format.word word; rw [signWeight_eq]

/-- the model's own rounding is rounding to the nearest. -/
theorem nearest_eq (s : Bool) (m : Nat) (e : Int) : double.nearest s m e = word s (rnd (cD m e) 1) := by
  unfold Format.nearest
  by_cases hm : m = 0
  · rw [if_pos hm, hm, rnd_zero, word_eq]
  · rw [if_neg hm, word_eq]
    simp only [leastPlace_eq, binade_eq, infRung_eq]
    congr 1
    have h1 := Nat.log2_self_le hm
    have h2 := @Nat.lt_log2_self m
    generalize hL : m.log2 = L at *
    rw [show (double.fractionBits : Int) = 52 from rfl]
    generalize hlast : max (e + (L : Int) - 52) (-1074) = last
    have hl0 : -1074 ≤ last := by omega
    obtain ⟨l, rfl⟩ : ∃ l : Nat, last = (l : Int) - 1074 := ⟨(last + 1074).toNat, by omega⟩
    rw [show ((l : Int) - 1074 - -1074).toNat = l by omega]
    by_cases hle : (l : Int) - 1074 ≤ e
    · -- nothing is cut
      rw [show ((l : Int) - 1074 - e).toNat = 0 by omega]
      obtain ⟨k, hk⟩ : ∃ k : Nat, e = (l : Int) - 1074 + k := ⟨(e - (l - 1074)).toNat, by omega⟩
      rw [show (e - ((l : Int) - 1074)).toNat = k by omega, Nat.shiftLeft_eq]
      have hs := cD_shift m e k
      have hkept : Toward.even.cut s (m * 2 ^ k) 0 = m * 2 ^ k := by
        unfold Toward.cut
        simp [Nat.mod_one]
      rw [hkept, ← hs]
      have q2 : m * 2 ^ k < 2 * B := by
        have : m * 2 ^ k < 2 ^ (L + 1) * 2 ^ k := Nat.mul_lt_mul_of_pos_right h2 (Nat.two_pow_pos _)
        rw [← Nat.pow_add] at this
        have h3 : 2 ^ (L + 1 + k) ≤ 2 ^ 53 := Nat.pow_le_pow_right (by decide) (by omega)
        have : (2 : Nat) ^ 53 = 2 * B := by decide
        omega
      have q1 : l = 0 ∨ B ≤ m * 2 ^ k := by
        by_cases hl : l = 0
        · exact .inl hl
        · right
          have : 2 ^ L * 2 ^ k ≤ m * 2 ^ k := Nat.mul_le_mul_right _ h1
          rw [← Nat.pow_add] at this
          have h3 : 2 ^ 52 ≤ 2 ^ (L + k) := Nat.pow_le_pow_right (by decide) (by omega)
          have : (2 : Nat) ^ 52 = B := by decide
          omega
      by_cases hf : l * B + m * 2 ^ k < INF
      · rw [rnd_exact (l := l) (by omega) q2 q1 hf, Nat.min_eq_left (by omega)]
      · rw [rnd_big ?_, if_neg (by decide), Nat.min_eq_right (by omega)]
        have hl : 2046 ≤ l := by unfold B INF at *; omega
        have q1' : B ≤ m * 2 ^ k := by
          rcases q1 with h | h
          · omega
          · exact h
        rw [show ((2 : Nat) ^ (1024 - (e - k)).toNat) ≤ m * 2 ^ k * 2 ^ (e - k - 1024).toNat ↔ _ from Iff.rfl]
        rcases Int.le_total 1024 (e - k) with g | g
        · rw [show (1024 - (e - (k : Int))).toNat = 0 by omega]
          exact Nat.one_le_iff_ne_zero.2 (Nat.mul_ne_zero (by unfold B at *; omega) (Nat.ne_of_gt (Nat.two_pow_pos _)))
        · rw [show (e - (k : Int) - 1024).toNat = 0 by omega, Nat.pow_zero, Nat.mul_one]
          have : 2 ^ (1024 - (e - (k : Int))).toNat ≤ 2 ^ 52 := Nat.pow_le_pow_right (by decide) (by omega)
          have : (2 : Nat) ^ 52 = B := by decide
          omega
    · -- digits are cut
      rw [show (e - ((l : Int) - 1074)).toNat = 0 by omega, Nat.shiftLeft_zero]
      obtain ⟨D, hD⟩ : ∃ D : Nat, e = (l : Int) - 1074 - D := ⟨((l : Int) - 1074 - e).toNat, by omega⟩
      rw [show ((l : Int) - 1074 - e).toNat = D by omega]
      have q2 : m / 2 ^ D < 2 * B := by
        rw [Nat.div_lt_iff_lt_mul (Nat.two_pow_pos _)]
        have h3 : 2 ^ (L + 1) ≤ 2 ^ (53 + D) := Nat.pow_le_pow_right (by decide) (by omega)
        rw [Nat.pow_add 2 53 D] at h3
        have : (2 : Nat) ^ 53 = 2 * B := by decide
        rw [this] at h3
        omega
      have q1 : l = 0 ∨ B ≤ m / 2 ^ D := by
        by_cases hl : l = 0
        · exact .inl hl
        · right
          rw [Nat.le_div_iff_mul_le (Nat.two_pow_pos _)]
          have h3 : 2 ^ (52 + D) ≤ 2 ^ L := Nat.pow_le_pow_right (by decide) (by omega)
          rw [Nat.pow_add 2 52 D] at h3
          have : (2 : Nat) ^ 52 = B := by decide
          rw [this] at h3
          omega
      have hkept : Toward.even.cut s m D = away 1 (m / 2 ^ D) (m % 2 ^ D) (2 ^ D) := by
        unfold Toward.cut away
        rw [hL, if_neg (by decide), if_neg (by decide)]
        simp only [Nat.shiftLeft_eq, Nat.one_mul]
        by_cases hd : D ≤ L + 2
        · rw [Nat.min_eq_left hd]
          generalize m / 2 ^ D = q
          generalize m % 2 ^ D = rem
          generalize 2 ^ D = u
          by_cases c1 : 2 * rem < u
          · have a1 : ¬ u < 2 * rem := by omega
            have a2 : (u == 2 * rem) = false := by simp; omega
            rw [if_pos c1]; simp [a1, a2]
          · rw [if_neg c1]
            by_cases c2 : u < 2 * rem
            · rw [if_pos c2]; simp [c2]
            · have a2 : u = 2 * rem := by omega
              rw [if_neg c2]; simp [a2]
              rcases Nat.mod_two_eq_zero_or_one q with hq | hq <;> simp [hq]
        · rw [Nat.min_eq_right (by omega)]
          have hlt : m < 2 ^ (L + 2) := Nat.lt_of_lt_of_le h2 (Nat.pow_le_pow_right (by decide) (by omega))
          have hlt2 : 2 * m < 2 ^ (L + 2) := by
            have := Nat.mul_lt_mul_of_pos_left h2 (show 0 < 2 by decide)
            rw [show 2 ^ (L + 2) = 2 * 2 ^ (L + 1) by rw [show L + 2 = L + 1 + 1 from rfl, Nat.pow_succ, Nat.mul_comm]]
            exact this
          have hlt3 : 2 ^ (L + 2) ≤ 2 ^ D := Nat.pow_le_pow_right (by decide) (by omega)
          rw [Nat.div_eq_of_lt hlt, Nat.mod_eq_of_lt hlt, Nat.div_eq_of_lt (by omega), Nat.mod_eq_of_lt (show m < 2 ^ D by omega), if_pos (by omega)]
          have a1 : ¬ 2 ^ (L + 2) < 2 * m := by omega
          simp [a1]
      rw [hkept]
      by_cases hf : l * B + m / 2 ^ D < INF
      · rw [rnd_cut hD q2 q1 hf, Nat.min_eq_left]
        have : away 1 (m / 2 ^ D) (m % 2 ^ D) (2 ^ D) ≤ m / 2 ^ D + 1 := by
          unfold away
          rw [if_neg (by decide), if_neg (by decide)]
          split
          · omega
          · split <;> omega
        omega
      · have hl : 2046 ≤ l := by unfold B INF at *; omega
        have q1' : B ≤ m / 2 ^ D := by
          rcases q1 with h | h
          · omega
          · exact h
        have : m / 2 ^ D ≤ away 1 (m / 2 ^ D) (m % 2 ^ D) (2 ^ D) := by
          unfold away
          rw [if_neg (by decide), if_neg (by decide)]
          split
          · omega
          · split <;> omega
        rw [rnd_big ?_, if_neg (by decide), Nat.min_eq_right (by omega)]
        rw [Nat.le_div_iff_mul_le (Nat.two_pow_pos _)] at q1'
        have hB : B = 2 ^ 52 := by decide
        rw [hB, ← Nat.pow_add] at q1'
        rcases Int.le_total 1024 e with g | g
        · rw [show (1024 - e).toNat = 0 by omega]
          exact Nat.one_le_iff_ne_zero.2 (Nat.mul_ne_zero hm (Nat.ne_of_gt (Nat.two_pow_pos _)))
        · rw [show (e - 1024).toNat = 0 by omega, Nat.pow_zero, Nat.mul_one]
          exact Nat.le_trans (Nat.pow_le_pow_right (by decide) (by omega)) q1'

end Fl
end

section
/- The model's products and sums of finite floats, rounded once to the nearest. -/
namespace Fl
open Ieee Go

/-- a name, so that no one reckons the power. -/
def EM : Nat := 1074
theorem EM_eq : EM = 1074 := rfl

theorem mul_eq {x y : Nat} (hx : x < 18446744073709551616) (hy : y < 18446744073709551616) (fx : mag x < INF) (fy : mag y < INF) :
    FloatKind.f64.format.mul x y = some (word (neg x ^^ neg y) (rnd (cD (V (mag x) * V (mag y)) (-2148)) 1)) := by
  obtain ⟨m, k, h1, h2⟩ := read_num (x := x) (by simpa using hx) fx
  obtain ⟨n, l, h3, h4⟩ := read_num (x := y) (by simpa using hy) fy
  show double.mul x y = _
  unfold Format.mul
  rw [h1, h3]
  simp only [Datum.product, Option.map_some, Format.write]
  rw [nearest_eq]
  refine congrArg some (congrArg (word _) (congrArg (fun c => rnd c 1) ?_))
  rw [← h2, ← h4]
  have := cD_shift (m * n) (-1074 + (k : Int) + (-1074 + (l : Int))) (k + l)
  rw [← this]
  congr 1
  · rw [Nat.pow_add]
    simp only [Nat.mul_assoc, Nat.mul_left_comm]
  · omega

theorem add_eq {x y : Nat} (hx : x < 18446744073709551616) (hy : y < 18446744073709551616) (fx : mag x < INF) (fy : mag y < INF) :
    FloatKind.f64.format.add x y = some (word (if val x + val y = 0 then neg x && neg y else decide (val x + val y < 0)) (rnd (cD (val x + val y).natAbs (-1074)) 1)) := by
  obtain ⟨m, k, h1, h2⟩ := read_num (x := x) (by simpa using hx) fx
  obtain ⟨n, l, h3, h4⟩ := read_num (x := y) (by simpa using hy) fy
  show double.add x y = _
  unfold Format.add
  rw [h1, h3]
  simp only [Datum.sum, Option.map_some, Format.write]
  rw [nearest_eq]
  have e1 := signed_val (b := min (-1074 + (k : Int)) (-1074 + (l : Int))) h2 (by omega) (by omega)
  have e2 := signed_val (b := min (-1074 + (k : Int)) (-1074 + (l : Int))) h4 (by omega) (by omega)
  generalize signed (neg x) m _ = a at *
  generalize signed (neg y) n _ = b at *
  generalize hb : min (-1074 + (k : Int)) (-1074 + (l : Int)) = base at *
  have e3 : (a + b) * ((2 ^ (base + 1074).toNat : Nat) : Int) = val x + val y := by rw [Int.add_mul, e1, e2]
  have hp : (0 : Int) < ((2 ^ (base + 1074).toNat : Nat) : Int) := by
    have := Nat.two_pow_pos (base + 1074).toNat
    omega
  rw [← e3]
  congr 2
  · by_cases h0 : a + b = 0
    · rw [if_pos h0, if_pos (by rw [h0, Int.zero_mul])]
    · rw [if_neg h0, if_neg (by
        intro h
        rcases Int.mul_eq_zero.1 h with h | h
        · exact h0 h
        · omega)]
      rw [Bool.eq_iff_iff]; simp only [decide_eq_true_eq]
      exact ⟨fun h => Int.mul_neg_of_neg_of_pos h hp, fun h => by
        rcases Int.lt_or_le (a + b) 0 with h' | h'
        · exact h'
        · have := Int.mul_nonneg h' (Int.le_of_lt hp); omega⟩
  · congr 1
    rw [Int.natAbs_mul, Int.natAbs_natCast]
    have := cD_shift (a + b).natAbs base (base + 1074).toNat
    rw [← this]
    congr 1
    omega

theorem neg_word {s : Bool} {r : Nat} (hr : r < S) : neg (word s r) = s := by
  unfold neg word; cases s <;> simp; omega
theorem mag_word {s : Bool} {r : Nat} (hr : r < S) : mag (word s r) = r := by
  unfold mag word S at *; cases s <;> simp <;> omega
theorem word_lt {s : Bool} {r : Nat} (hr : r < S) : word s r < 18446744073709551616 := by
  unfold word S at *; cases s <;> simp <;> omega
theorem word_self {x : Nat} (hx : x < 18446744073709551616) : word (neg x) (mag x) = x := by
  unfold word mag neg S at *
  by_cases h : 9223372036854775808 ≤ x
  · simp [h]; omega
  · simp [h]; omega

/-- the product of a float with a power of two, where it is a float. -/
theorem mul_exact {x y r : Nat} (hx : x < 18446744073709551616) (hy : y < 18446744073709551616) (fx : mag x < INF) (fy : mag y < INF) (hr : r < INF)
    (h : V (mag x) * V (mag y) = V r * 2 ^ EM) : FloatKind.f64.format.mul x y = some (word (neg x ^^ neg y) r) := by
  rw [mul_eq hx hy fx fy, h]
  have := cD_shift (V r) (-1074) EM
  rw [show (-1074 : Int) - (EM : Nat) = -2148 from rfl] at this
  rw [this]
  have h2 := cD_shift (rq r) ((rl r : Int) - 1074) (rl r)
  rw [← V_lq, show (rl r : Int) - 1074 - (rl r : Nat) = -1074 by omega] at h2
  rw [h2, rnd_exact (l := rl r) rfl (rq_lt r) (rq_norm r) (by rw [rung_lq]; exact hr), rung_lq]

/-! the walks' words -/
theorem run_mul_float {P : Program} {w : World} (t : TypeId) {x y r : Nat} (h : FloatKind.f64.format.mul x y = some r) :
    (binOp .mul t (.float .f64 x) (.float .f64 y)).run P w = .ok (.float .f64 r) w := by
  simp [binOp, Op.floatArith, h]
theorem run_add_float {P : Program} {w : World} (t : TypeId) {x y r : Nat} (h : FloatKind.f64.format.add x y = some r) :
    (binOp .add t (.float .f64 x) (.float .f64 y)).run P w = .ok (.float .f64 r) w := by
  simp [binOp, Op.floatArith, h]
theorem negFloat_eq (x : Nat) (hx : x < 18446744073709551616) : Op.negFloat .f64 x = turned x := xor_S x hx
theorem run_neg_float {P : Program} (x : Nat) (hx : x < 18446744073709551616) (w : World) :
    (Op.unary .neg (.float .f64 x)).run P w = .ok (.float .f64 (turned x)) w := by
  rw [← negFloat_eq x hx]; rfl
theorem mag_lt64 (x : Nat) : mag x < 18446744073709551616 := by have := mag_lt x; unfold S at *; omega
theorem mag_mag (x : Nat) : mag (mag x) = mag x := by unfold mag S; omega
theorem key_mag (x : Nat) : key (mag x) = mag x := by
  have := mag_lt x
  unfold key; rw [if_neg (by omega)]
theorem fgt_max (x : Nat) (hx : x < 18446744073709551616) : fgt x 9218868437227405311 = decide (x = INF) := by
  rw [fgt_eq (by simpa using hx) (by decide), Bool.eq_iff_iff]
  have e : nan 9218868437227405311 = false := by decide
  have e2 : key 9218868437227405311 = 9218868437227405311 := by decide
  rw [e, e2]
  unfold nan key mag S INF
  simp
  split <;> omega
theorem fgt_max_mag (x : Nat) : fgt (mag x) 9218868437227405311 = decide (mag x = INF) := fgt_max _ (mag_lt64 x)
theorem flt_small_true (x : Nat) (h : mag x < B) : flt (mag x) 4503599627370496 = true := by
  rw [flt_eq (by simpa using mag_lt64 x) (by decide)]
  have e : nan 4503599627370496 = false := by decide
  have e2 : key 4503599627370496 = 4503599627370496 := by decide
  rw [e, e2, key_mag]
  unfold nan; rw [mag_mag]
  unfold INF B at *
  simp; omega
theorem flt_small_false (x : Nat) (h : B ≤ mag x) : flt (mag x) 4503599627370496 = false := by
  rw [flt_eq (by simpa using mag_lt64 x) (by decide), Bool.eq_false_iff]
  have e : nan 4503599627370496 = false := by decide
  have e2 : key 4503599627370496 = 4503599627370496 := by decide
  rw [e, e2, key_mag]
  unfold B at *
  simp; omega
theorem bits_copysign (x y : Nat) (hx : x < 18446744073709551616) (hy : y < 18446744073709551616) :
    bits .or .u64 (bits .andNot .u64 (x : Int) 9223372036854775808) (bits .and .u64 (y : Int) 9223372036854775808) = ((word (neg y) (mag x) : Nat) : Int) := by
  have hm := mag_lt x
  rw [bits_andNot_S x hx, bits_and_S y hy]
  unfold word neg
  by_cases h : S ≤ y
  · simp only [h, if_true, decide_true]
    have := u64_or_nat (mag x) S (by unfold S at *; omega) (by decide)
    rw [Nat.or_comm, nat_join 63 S (mag x) (by decide) hm] at this
    exact this
  · simp only [h, if_false, decide_false]
    have := u64_or_nat (mag x) 0 (by unfold S at *; omega) (by decide)
    simpa using this
theorem V_52 : V 4841369599423283200 = 2 ^ 52 * 2 ^ EM := by
  have h : (4841369599423283200 : Nat) = EM * B + B := by decide
  have hB : B = 2 ^ 52 := by decide
  rw [h, V_of (by unfold B; omega) (.inr (Nat.le_refl _))]
  exact congrArg (· * 2 ^ EM) hB
theorem mul_52 (x r : Nat) (hx : x < 18446744073709551616) (hs : mag x < B) (hr : r < INF) (h : V (mag x) * 2 ^ 52 = V r) :
    FloatKind.f64.format.mul x 4841369599423283200 = some (word (neg x) r) := by
  have := mul_exact (x := x) (y := 4841369599423283200) (r := r) hx (by decide) (by unfold B INF at *; omega) (by decide) hr
    (by rw [show mag 4841369599423283200 = 4841369599423283200 by decide, V_52, ← Nat.mul_assoc, h])
  rw [this, show neg 4841369599423283200 = false by decide]
  simp

end Fl
end
