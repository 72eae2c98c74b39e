/- A part of the proof (11 of 18) of this: RoundSums: for every two floats and every mode the program's rounded sum and difference are the document's: the law returns true; condition: the table of package math/bits reads as its text lays it. -/
import Derived.Laws.AppendOwn
import Derived.Test.YtdpjkddllimcoaaGreatDoorVs9

section
/- The reference's whole numbers as words: trim. -/
namespace Fl
open Go Go.RowKit
/-- a row of words of the call's own. -/
def Ow (w : World) (base : Nat) (e : TypeId) (v : Value) (k : Nat) (os : List Nat) : Prop := w.ownsRow base e 1 v k (os.map W32)
theorem Ow.sl {w : World} {base e n : Nat} {v : Value} {zs : List Nat} (h : Ow w base e v n zs) : Sl w v zs := Sl.of_own h
section
variable {P : Program} {ops : Array Oper} {rest : List Oper} {o : Oper} {a : Act} {Q : Exit → Act → World → Prop}
/-- an append of one word to a row of the call's own, which may grow; w0: the world that the call began in. -/
theorem wpList_grow32 {w w0 : World} (hg : o.guard = none) (s x : Operand) (t : TypeId) (hop : o.op = Op.call { callee := Callee.builtin Builtin.append, args := #[s, x], argTypes := #[t, t] })
    (e : TypeId) (i : TypeInfo) (h1 : P.underlying t = some (.slice e)) (HI : Hid (P.info? e = some i ∧ i.zero = some (.int .u32 0) ∧ i.size = 1 ∧ i.bytes = 4))
    (p : Option Addr) (k cap : Nat) (os : List Nat) (q : Int) (d : Nat) (t' : TypeId) (hs : a.eval s = .slice p k cap) (hx : a.eval x = .slice (some ⟨w.heap.size, 0, none⟩) 1 1)
    (hown : Ow w w0.heap.size e (.slice p k cap) k os) (hX : Ext w0 w) (b1 : k < 16777216) (hq : q = (d : Int))
    (hK : ∀ p' cap' w', Ow w' w0.heap.size e (.slice p' (k + 1) cap') (k + 1) (os ++ [d]) → Ext w0 w' → wpList P ops Q rest (a.put o.dst (.slice p' (k + 1) cap')) w') :
    wpList P ops Q (o :: rest) a (w.alloc (.cells #[.int .u32 q] t')) := by
  unfold Ow at hown hK
  refine wpList_append_own _ hg s x t hop w0.heap.size e i (.int .u32 0) 1 4 h1 HI.out.1 HI.out.2.1 HI.out.2.2.1 HI.out.2.2.2 rfl (by decide) (.slice p k cap) k (os.map W32) hs (hown.alloc _) ⟨w.heap.size, 0, none⟩ 1 1 [.int .u32 q] hx rfl (lay1 _ _ _) (one1 _ _) (by unfold maxLen; omega) (by omega) (Nat.le_trans hX.below.size (by show _ ≤ (w.heap.push _).size; simp)) ?_
  intro v' w' h hgr hnil
  rw [map_snoc os d q hq] at h
  have hX' : Ext w0 w' := (hX.alloc _).grown hgr (fun j hj => by
    rcases hown.2 with ⟨h2, -⟩ | ⟨g, c, cur, h2, h3, -⟩
    · rw [h2] at hj; cases hj
    · have hj' : g = j := by simpa [h2, Value.ownBlock] using hj
      omega)
  rcases h.2 with ⟨h2, h3⟩ | ⟨g, c, cur, h2, h3⟩
  · omega
  · subst h2
    exact hK _ _ _ h hX'
end
theorem own_nil (w : World) (e : TypeId) : Ow w w.heap.size e (.slice none 0 0) 0 [] := ⟨rfl, .inl ⟨rfl, rfl⟩⟩
end Fl
namespace Go.Proofs.YtdpjkddllimcoaaGreatDoor
open Go.RowKit Fl

theorem k_trim (v : Value) (zs : List Nat) (w : World) (hs : Sl w v zs) (hw : Wd zs) (hb : zs.length ≤ 16777216) :
    Calls Tryz.prog 128 #[v] w fun e w' => ∃ v', e = .returned v' ∧ w = w' ∧ Nt w v' (num zs) := by
  obtain ⟨p, cap, rfl, h1, h2, h3⟩ := hs.form
  have HC := Lib.hid h3
  have HE : Hid (∀ m, m ≤ zs.length → Hid (num (zs.take m) = num zs) → Tm (zs.take m) → Nt w (.slice p m cap) (num zs)) := fun m hm hn ht => ⟨zs.take m, hs.take m hm, hw.take m, ht, hn⟩
  have HL := Lib.hid h1
  have hp : p = none → cap = 0 := by
    rintro rfl
    rcases hs with ⟨h, -⟩ | ⟨b, off, c, h, -⟩
    · injection h
    · injection h with h; cases h
  have HP := Lib.hid hp
  clear h3 hw h1 h2 hs hp
  go_enter Tryz.func128, Tryz.ntmps128
  go_wp2_with (fail)
  go_loop [3] (fun v => ∃ m : Nat, m ≤ zs.length ∧ v = .int .i64 m ∧ Hid (num (zs.take m) = num zs)) (fun v => (intOf v).toNat)
  case atStart => exact ⟨zs.length, Nat.le_refl _, rfl, by rw [List.take_length]; exact rfl⟩
  case round =>
    obtain ⟨m, hm, rfl, hn⟩ := hrel
    cases m with
    | zero =>
      cases p with
      | none =>
        obtain rfl : cap = 0 := HP.out rfl
        have hz : zs.length = 0 := by have := HL.out; omega
        go_wp2_with (fail)
        go_ret
        exact ⟨_, rfl, rfl, HE.out 0 hm hn Tm.nil⟩
      | some ad =>
        go_wp2_with (fail)
        go_ret
        exact ⟨_, rfl, rfl, HE.out 0 hm hn Tm.nil⟩
    | succ k =>
      obtain ⟨b, off, rfl, hc'⟩ := HC.out (by omega)
      have hc := hc' k (by omega)
      have hkc : k ≤ cap := by have := HL.out; omega
      clear hc' HC
      generalize hz : zs.getD k 0 = z at hc
      have Hz := Lib.hid hz
      clear hz
      by_cases h0 : z = 0
      · subst h0
        go_wp2_with (fail)
        refine ⟨⟨k, by omega, by go_num, ?_⟩, ?_⟩
        · have := num_take_succ (zs := zs) (k := k) (by omega)
          rw [Hz.out, hn.out] at this
          show _ = _
          omega
        · show ((k : Int)).toNat < (((k + 1 : Nat) : Int)).toNat
          omega
      · have hz0 : ((z : Int) == 0) = false := by simp; omega
        have HT : Hid (Tm (zs.take (k + 1))) := Tm_take_succ (by omega) (by rw [Hz.out]; exact h0)
        have hkc2 : k + 1 ≤ cap := by have := HL.out; omega
        clear h0
        go_wp2_with (fail)
        go_ret
        exact ⟨_, rfl, rfl, HE.out (k + 1) hm hn HT.out⟩
end Go.Proofs.YtdpjkddllimcoaaGreatDoor
end

section
/- The reference's whole numbers as words: order. -/
namespace Go.Proofs.YtdpjkddllimcoaaGreatDoor
open Go.RowKit Fl

theorem k_order (v u : Value) (a b : Nat) (w : World) (hv : Nt w v a) (hu : Nt w u b) (ha : a < 4294967296 ^ 1048576) (hb : b < 4294967296 ^ 1048576) :
    Calls Tryz.prog 81 #[v, u] w fun en wn => en = .returned (.int .i64 (cmpI a b)) ∧ Drw w wn := by
  obtain ⟨zs, hs, hw, ht, rfl⟩ := hv
  obtain ⟨ys, hs', hw', ht', rfl⟩ := hu
  have lz := len_le ht ha
  have ly := len_le ht' hb
  obtain ⟨p, cap, rfl, _, _, h3⟩ := hs.form
  obtain ⟨p', cap', rfl, _, _, h3'⟩ := hs'.form
  clear ha hb hs hs'
  rcases Nat.lt_trichotomy zs.length ys.length with hl | hl | hl
  · have e1 : ((zs.length : Int) != (ys.length : Int)) = true := by simp; omega
    have e2 : decide (zs.length < ys.length) = true := by simp; omega
    have HR := Lib.hid (cmpI_lt (num_lt_len hw ht' hl))
    clear hl hw hw' ht ht' h3 h3'
    go_enter Tryz.func81, Tryz.ntmps81
    go_wp2_with (fail)
    go_ret
    exact ⟨congrArg (fun q => Ending.returned (Value.int .i64 q)) HR.out.symm, Drw.refl _⟩
  · have e1 : ((zs.length : Int) != (ys.length : Int)) = false := by simp; omega
    have HC := Lib.hid h3
    have HC' := Lib.hid h3'
    have HL := Lib.hid hl
    have HW := Lib.hid hw
    have HW' := Lib.hid hw'
    clear h3 h3' hl hw hw' ht ht'
    go_enter Tryz.func81, Tryz.ntmps81
    go_wp2_with (fail)
    go_loopw [5] (fun v wr => ∃ k : Nat, k ≤ zs.length ∧ v = .int .i64 ((k : Int) - 1) ∧ Hid (zs.drop k = ys.drop k) ∧ Drw w wr) (fun v _ => (intOf v + 1).toNat)
    case atStart => exact ⟨zs.length, Nat.le_refl _, rfl, by show _ = _; rw [List.drop_length, HL.out, List.drop_length], Drw.refl w⟩
    case round =>
      obtain ⟨k, hk, rfl, hd, hwr⟩ := hrel
      cases k with
      | zero =>
        have HR : Hid (cmpI (num zs) (num ys) = 0) := cmpI_eq (by have := hd.out; simp at this; rw [this])
        have Hw := Lib.hid hwr
        clear hwr hd
        go_wp2_with (fail)
        go_ret
        exact ⟨congrArg (fun q => Ending.returned (Value.int .i64 q)) HR.out.symm, Hw.out⟩
      | succ j =>
        have hc := HC.out (by omega)
        have hc' := HC'.out (by have := HL.out; omega)
        obtain ⟨b, off, rfl, hc⟩ := hc
        obtain ⟨b', off', rfl, hc'⟩ := hc'
        have g := (hwr.cell ⟨b, off + j, none⟩).trans (hc j (by omega))
        have g' := (hwr.cell ⟨b', off' + j, none⟩).trans (hc' j (by have := HL.out; omega))
        have HD : Hid (zs.getD j 0 = ys.getD j 0 → zs.drop j = ys.drop j) := fun h => drop_eq (by omega) (by have := HL.out; omega) hd.out h
        have H1 : Hid (zs.getD j 0 < ys.getD j 0 → cmpI (num zs) (num ys) = -1) := fun h => cmpI_lt (num_lt_at HW.out (by omega) (by have := HL.out; omega) hd.out h)
        have H2 : Hid (ys.getD j 0 < zs.getD j 0 → cmpI (num zs) (num ys) = 1) := fun h => cmpI_gt (num_lt_at HW'.out (by have := HL.out; omega) (by omega) hd.out.symm h)
        have hj' : j < ys.length := by have := HL.out; omega
        generalize zs.getD j 0 = x at *
        generalize ys.getD j 0 = y at *
        have Hw := Lib.hid hwr
        clear hwr hd hc hc' HC HC'
        rcases Nat.lt_trichotomy x y with h | h | h
        · have t1 : ((x : Int) != (y : Int)) = true := by simp; omega
          have t2 : decide (x < y) = true := by simp; omega
          have HR := Lib.hid (H1.out h)
          clear h HD H1 H2
          go_wp2_with (fail)
          go_quiet (fail)
          go_wp2_with (fail)
          go_quiet (fail)
          go_wp2_with (fail)
          go_ret
          exact ⟨congrArg (fun q => Ending.returned (Value.int .i64 q)) HR.out.symm, (Hw.out.drewN _).drewN _⟩
        · subst h
          have t1 : ((x : Int) != (x : Int)) = false := by simp
          have HR := Lib.hid (HD.out rfl)
          clear HD H1 H2
          go_wp2_with (fail)
          go_quiet (fail)
          go_wp2_with (fail)
          go_roundw
          case rel => exact ⟨j, by omega, by go_num, HR, Hw.out.drewN _⟩
          case measure =>
            show ((j : Int) - 1 + 1).toNat < (((j + 1 : Nat) : Int) - 1 + 1).toNat
            omega
        · have t1 : ((x : Int) != (y : Int)) = true := by simp; omega
          have t2 : decide (x < y) = false := by simp; omega
          have HR := Lib.hid (H2.out h)
          clear h HD H1 H2
          go_wp2_with (fail)
          go_quiet (fail)
          go_wp2_with (fail)
          go_quiet (fail)
          go_wp2_with (fail)
          go_ret
          exact ⟨congrArg (fun q => Ending.returned (Value.int .i64 q)) HR.out.symm, (Hw.out.drewN _).drewN _⟩
  · have e1 : ((zs.length : Int) != (ys.length : Int)) = true := by simp; omega
    have e2 : decide (zs.length < ys.length) = false := by simp; omega
    have HR := Lib.hid (cmpI_gt (num_lt_len hw' ht hl))
    clear hl hw hw' ht ht' h3 h3'
    go_enter Tryz.func81, Tryz.ntmps81
    go_wp2_with (fail)
    go_ret
    exact ⟨congrArg (fun q => Ending.returned (Value.int .i64 q)) HR.out.symm, Drw.refl _⟩
end Go.Proofs.YtdpjkddllimcoaaGreatDoor
end

section
/- The reference's whole numbers as words: size, sum, less. -/
namespace Fl
open Go Go.RowKit
theorem bl_half {t : Nat} (h : t ≠ 0) : bl t = bl (t / 2) + 1 := by
  have h1 := bl_lt (t / 2)
  by_cases h2 : t / 2 = 0
  · rw [h2, bl_zero]
    exact bl_unique (by decide) (by simp; omega) (by simp; omega)
  · have h3 := bl_le h2
    have h4 := bl_pos h2
    refine bl_unique (by omega) ?_ ?_
    · rw [show bl (t / 2) + 1 - 1 = bl (t / 2) - 1 + 1 by omega, Nat.pow_succ]; omega
    · rw [Nat.pow_succ]; omega
theorem bl_word {t : Nat} (h : t < 4294967296) (h0 : t ≠ 0) : Lib.bitLen t = bl t := by
  obtain ⟨_, hs⟩ := bitLen_spec t (by omega)
  obtain ⟨s1, s2, s3⟩ := hs (by omega)
  exact (bl_unique (by omega) s1 s2).symm
end Fl
namespace Go.Proofs.YtdpjkddllimcoaaGreatDoor
open Go.RowKit Fl

theorem k_size (v : Value) (a : Nat) (w : World) (hv : Nt w v a) (ha : a < 4294967296 ^ 1048575) :
    Calls Tryz.prog 152 #[v] w fun en wn => en = .returned (.int .i64 ((bl a : Nat) : Int)) ∧ w = wn := by
  obtain ⟨zs, hs, hw, ht, rfl⟩ := hv
  have lz := len_le ht ha
  obtain ⟨p, cap, rfl, -, -, h3⟩ := hs.form
  by_cases h0 : zs = []
  · subst h0
    clear ht ha hs h3 hw
    go_enter Tryz.func152, Tryz.ntmps152
    go_wp2_with (fail)
    go_ret
    exact ⟨rfl, rfl⟩
  · have hl := List.length_pos_iff.2 h0
    have hB := bl_words hw ht h0
    have hT0 := Tm_last ht h0
    obtain ⟨m, hm⟩ : ∃ m, zs.length = m + 1 := ⟨zs.length - 1, by omega⟩
    obtain ⟨b, off, rfl, h4⟩ := h3 hl
    have hx := hw.getD m
    have hc := h4 m (by omega)
    rw [show zs.length - 1 = m by omega] at hB hT0
    generalize zs.getD m 0 = t at *
    rw [bl_word hx hT0] at hB
    have hB2 : bl t ≤ 32 := bl_le_of (by simpa using hx)
    have HB := Lib.hid hB
    have HB2 := Lib.hid hB2
    rw [hm] at lz ⊢
    generalize bl (num zs) = L at *
    have e1 : (((m + 1 : Nat) : Int) == 0) = false := by simp; omega
    clear hB hB2 hT0 h4 h3 hs hw ht ha h0 hl hm
    go_enter Tryz.func152, Tryz.ntmps152
    go_wp2_with (fail)
    go_loop [3, 4] (fun v3 v4 => ∃ n u : Nat, n ≤ 40000000 ∧ u < 4294967296 ∧ v3 = .int .i64 n ∧ v4 = .int .u32 u ∧ Hid (n + bl u = L)) (fun _ v4 => (intOf v4).toNat)
    case atStart => exact ⟨32 * m, t, by omega, hx, by go_num, rfl, HB.out.symm⟩
    case round =>
      obtain ⟨n, u, hn, hu, rfl, rfl, hL⟩ := hrel
      by_cases h0 : u = 0
      · subst h0
        obtain rfl : n = L := by have := hL.out; rw [bl_zero] at this; omega
        clear hn hu
        go_wp2_with (fail)
        go_ret
        exact ⟨rfl, rfl⟩
      · have e3 : decide (0 < u) = true := by simp; omega
        have hbl := bl_half h0
        have hnn : n + 1 ≤ 40000000 := by
          have := hL.out
          have := HB.out
          have := HB2.out
          have := bl_pos h0
          omega
        have HH := Lib.hid hbl
        clear hbl
        go_wp2_with (fail)
        refine ⟨⟨n + 1, u / 2, hnn, by omega, by go_num, by go_num, ?_⟩, ?_⟩
        · show _ = _
          have := hL.out
          have := HH.out
          omega
        · show (((u : Int) / 2)).toNat < ((u : Int)).toNat
          omega
end Go.Proofs.YtdpjkddllimcoaaGreatDoor
end

section
/- The reference's whole numbers as words: sum, less. -/
namespace Fl
open Go Go.RowKit
theorem getD_out {zs : List Nat} {k : Nat} (h : zs.length ≤ k) : zs.getD k 0 = 0 := by rw [List.getD_eq_getElem?_getD, List.getElem?_eq_none h]; rfl
/-- a word of a slice lies in memory. -/
theorem Sl.at {w : World} {p : Option Addr} {n cap : Nat} {zs : List Nat} (h : Sl w (.slice p n cap) zs) {k : Nat} (hk : k < zs.length) : ∃ b off, p = some ⟨b, off, none⟩ ∧ w.cell? ⟨b, off + k, none⟩ = some (.int .u32 ((zs.getD k 0 : Nat) : Int)) := by
  obtain ⟨p0, cap0, e, _, _, h3⟩ := h.form
  injection e with e1 e2 e3
  subst e1
  obtain ⟨b, off, rfl, h4⟩ := h3 (by omega)
  exact ⟨b, off, rfl, h4 k hk⟩
end Fl
namespace Go.Proofs.YtdpjkddllimcoaaGreatDoor
open Go.RowKit Fl

set_option maxHeartbeats 1000000 in
theorem k_sum (v u : Value) (a b : Nat) (w : World) (hv : Nt w v a) (hu : Nt w u b) (ha : a < 4294967296 ^ 1048575) (hb : b < 4294967296 ^ 1048575) :
    Calls Tryz.prog 80 #[v, u] w fun e w' => ∃ v', e = .returned v' ∧ Ext w w' ∧ Nt w' v' (a + b) := by
  obtain ⟨zs, hs, hw, ht, rfl⟩ := hv
  obtain ⟨ys, hs', hw', ht', rfl⟩ := hu
  have lz := len_le ht ha
  have ly := len_le ht' hb
  obtain ⟨i0, HI⟩ : ∃ i0, Hid (Tryz.prog.info? 70 = some i0 ∧ i0.zero = some (.int .u32 0) ∧ i0.size = 1 ∧ i0.bytes = 4) := info_parts info32
  obtain ⟨p, cap, rfl, -⟩ := hs.form
  obtain ⟨p', cap', rfl, -⟩ := hs'.form
  have HZ := Lib.hid (And.intro hs (And.intro hw ht))
  have HY := Lib.hid (And.intro hs' (And.intro hw' ht'))
  clear ha hb hs hs' hw hw' ht ht'
  go_enter Tryz.func80, Tryz.ntmps80
  go_wp2_with (fail)
  go_loopw [5, 6, 7] (fun v5 v6 v7 wr => ∃ (k C cap5 : Nat) (p5 : Option Addr), (k ≤ zs.length ∨ k ≤ ys.length) ∧ C ≤ 1 ∧ v7 = .int .i64 k ∧ v6 = .int .u64 C ∧ v5 = .slice p5 k cap5 ∧
    Hid (Ext w wr ∧ ∃ os : List Nat, os.length = k ∧ Wd os ∧ Ow wr w.heap.size 70 (.slice p5 k cap5) k os ∧ num os + 4294967296 ^ k * C = num (zs.take k) + num (ys.take k))) (fun _ _ v7 _ => zs.length + ys.length - (intOf v7).toNat)
  case atStart => exact ⟨0, 0, 0, none, .inl (Nat.zero_le _), by omega, rfl, rfl, rfl, Ext.refl w, [], rfl, Wd.nil, own_nil w _, by simp [num]⟩
  case round =>
    obtain ⟨k, C, cap5, p5, hk, hC, rfl, rfl, rfl, HR⟩ := hrel
    have hkb : k < 16777216 := by omega
    obtain ⟨os, h1, h2, h3, h4⟩ := HR.out.2
    have HO := Lib.hid h3
    have Hos := Lib.hid (And.intro h1 (And.intro h2 h4))
    have HX := Lib.hid HR.out.1
    clear h1 h2 h3 h4
    have hx := HZ.out.2.1.getD k
    have hy := HY.out.2.1.getD k
    by_cases hlz : k < zs.length
    · obtain ⟨b1, off1, rfl, hc1⟩ := HZ.out.1.at hlz
      have hc1 := HX.out.cell_some hc1
      have e1 : decide (k < zs.length) = true := by simp; omega
      by_cases hly : k < ys.length
      · obtain ⟨b2, off2, rfl, hc2⟩ := HY.out.1.at hly
        have hc2 := HX.out.cell_some hc2
        have e2 : decide (k < ys.length) = true := by simp; omega
        have Hx := Lib.hid (num_take_succ' zs k)
        have Hy := Lib.hid (num_take_succ' ys k)
        generalize zs.getD k 0 = x at *
        generalize ys.getD k 0 = y at *
        clear HR
        go_wp2_with (at_builtin; refine wpList_grow32 rfl (.tmp 42) (.tmp 45) _ rfl 70 i0 Tryz.underlying33 HI p5 k cap5 os (((C : Int) + x + y) % 4294967296) ((C + x + y) % 4294967296) _ rfl rfl HO.out HX.out hkb (by omega) ?_)
        intro p6 cap6 w1 hown' hX'
        have HO' := Lib.hid (And.intro hown' hX')
        clear hown' hX'
        go_wp2_with (fail)
        go_roundw
        case rel =>
          refine ⟨k + 1, (C + x + y) / 4294967296, cap6, p6, by omega, by omega, by go_num, by go_num, by go_num, HO'.out.2, os ++ [(C + x + y) % 4294967296], by simp [Hos.out.1], Hos.out.2.1.snoc (by omega), HO'.out.1, ?_⟩
          have := sum_round (C := C) (y := x + y) Hos.out.1 Hos.out.2.2
          rw [Hx.out, Hy.out]
          rw [← Nat.add_assoc C] at this
          rw [this, Nat.mul_add]
          omega
        case measure =>
          show zs.length + ys.length - (((k + 1 : Nat) : Int)).toNat < zs.length + ys.length - ((k : Int)).toNat
          omega
      · have e2 : decide (k < ys.length) = false := by simp; omega
        have Hx := Lib.hid (num_take_succ' zs k)
        have Hy : Hid (num (ys.take (k + 1)) = num (ys.take k)) := by
          show _ = _
          rw [num_take_succ' ys k, getD_out (by omega), Nat.mul_zero, Nat.add_zero]
        generalize zs.getD k 0 = x at *
        clear HR hy
        go_wp2_with (at_builtin; refine wpList_grow32 rfl (.tmp 42) (.tmp 45) _ rfl 70 i0 Tryz.underlying33 HI p5 k cap5 os (((C : Int) + x) % 4294967296) ((C + x) % 4294967296) _ rfl rfl HO.out HX.out hkb (by omega) ?_)
        intro p6 cap6 w1 hown' hX'
        have HO' := Lib.hid (And.intro hown' hX')
        clear hown' hX'
        go_wp2_with (fail)
        go_roundw
        case rel =>
          refine ⟨k + 1, (C + x) / 4294967296, cap6, p6, by omega, by omega, by go_num, by go_num, by go_num, HO'.out.2, os ++ [(C + x) % 4294967296], by simp [Hos.out.1], Hos.out.2.1.snoc (by omega), HO'.out.1, ?_⟩
          have := sum_round (C := C) (y := x) Hos.out.1 Hos.out.2.2
          rw [Hx.out, Hy.out]
          omega
        case measure =>
          show zs.length + ys.length - (((k + 1 : Nat) : Int)).toNat < zs.length + ys.length - ((k : Int)).toNat
          omega
    · have e1 : decide (k < zs.length) = false := by simp; omega
      by_cases hly : k < ys.length
      · obtain ⟨b2, off2, rfl, hc2⟩ := HY.out.1.at hly
        have hc2 := HX.out.cell_some hc2
        have e2 : decide (k < ys.length) = true := by simp; omega
        have Hx : Hid (num (zs.take (k + 1)) = num (zs.take k)) := by
          show _ = _
          rw [num_take_succ' zs k, getD_out (by omega), Nat.mul_zero, Nat.add_zero]
        have Hy := Lib.hid (num_take_succ' ys k)
        generalize ys.getD k 0 = y at *
        clear HR hx
        go_wp2_with (at_builtin; refine wpList_grow32 rfl (.tmp 42) (.tmp 45) _ rfl 70 i0 Tryz.underlying33 HI p5 k cap5 os (((C : Int) + y) % 4294967296) ((C + y) % 4294967296) _ rfl rfl HO.out HX.out hkb (by omega) ?_)
        intro p6 cap6 w1 hown' hX'
        have HO' := Lib.hid (And.intro hown' hX')
        clear hown' hX'
        go_wp2_with (fail)
        go_roundw
        case rel =>
          refine ⟨k + 1, (C + y) / 4294967296, cap6, p6, by omega, by omega, by go_num, by go_num, by go_num, HO'.out.2, os ++ [(C + y) % 4294967296], by simp [Hos.out.1], Hos.out.2.1.snoc (by omega), HO'.out.1, ?_⟩
          have := sum_round (C := C) (y := y) Hos.out.1 Hos.out.2.2
          rw [Hx.out, Hy.out]
          omega
        case measure =>
          show zs.length + ys.length - (((k + 1 : Nat) : Int)).toNat < zs.length + ys.length - ((k : Int)).toNat
          omega
      · have e2 : decide (k < ys.length) = false := by simp; omega
        have hS : num os + 4294967296 ^ k * C = num zs + num ys := by
          have := Hos.out.2.2
          rwa [List.take_of_length_le (by omega), List.take_of_length_le (by omega)] at this
        have hge : Hid (0 < k → 4294967296 ^ (k - 1) ≤ num zs + num ys) := fun he => by
          rcases hk with h | h
          · have hke : k = zs.length := by omega
            subst hke
            have := num_ge HZ.out.2.2 (List.length_pos_iff.1 he)
            omega
          · have hke : k = ys.length := by omega
            subst hke
            have := num_ge HY.out.2.2 (List.length_pos_iff.1 he)
            omega
        have HS := Lib.hid hS
        clear hS hx hy HR hk
        have hC2 : C = 0 ∨ C = 1 := by omega
        rcases hC2 with rfl | rfl
        · have HT : Hid (Nt wr (.slice p5 k cap5) (num zs + num ys)) := by
            have h5 : num os = num zs + num ys := by rw [← HS.out]; simp
            refine ⟨os, HO.out.sl, Hos.out.2.1, Tm_of_ge Hos.out.2.1 (fun he => ?_), h5⟩
            rw [Hos.out.1, h5]
            exact hge.out (by rw [← Hos.out.1]; exact List.length_pos_iff.2 he)
          clear hC hge
          go_wp2_with (fail)
          go_ret
          exact ⟨_, rfl, HX.out, HT.out⟩
        · clear hC hge
          go_wp2_with (at_builtin; refine wpList_grow32 rfl (.tmp 51) (.tmp 54) _ rfl 70 i0 Tryz.underlying33 HI p5 k cap5 os 1 1 _ rfl rfl HO.out HX.out hkb rfl ?_)
          intro p6 cap6 w1 hown' hX'
          have HO' := Lib.hid (And.intro hown' hX')
          clear hown' hX'
          go_wp2_with (fail)
          go_ret
          refine ⟨_, rfl, HO'.out.2, os ++ [1], HO'.out.1.sl, Hos.out.2.1.snoc (by decide), Tm_snoc (by decide), ?_⟩
          rw [num_snoc, Hos.out.1]
          exact HS.out
end Go.Proofs.YtdpjkddllimcoaaGreatDoor
end

section
/- The reference's whole numbers as words: less. -/
namespace Fl
open Go
/-- a difference, wrapped. -/
theorem wrap_sub (x y : Nat) (hx : x < 18446744073709551616) (hy : y ≤ 18446744073709551616) : ∃ d : Nat, IntKind.u64.wrap ((x : Int) - (y : Int)) = (d : Int) ∧ (y ≤ x ∧ d = x - y ∨ x < y ∧ d = x + 18446744073709551616 - y) := by
  have e : IntKind.u64.wrap ((x : Int) - (y : Int)) = ((x : Int) - (y : Int)) % 18446744073709551616 := rfl
  rw [e]
  rcases Nat.lt_or_ge x y with h | h
  · exact ⟨x + 18446744073709551616 - y, by omega, .inr ⟨h, rfl⟩⟩
  · exact ⟨x - y, by omega, .inl ⟨h, rfl⟩⟩
end Fl
namespace Go.Proofs.YtdpjkddllimcoaaGreatDoor
open Go.RowKit Fl

set_option maxHeartbeats 1000000 in
theorem k_less (v u : Value) (a b : Nat) (w : World) (hv : Nt w v a) (hu : Nt w u b) (ha : a < 4294967296 ^ 1048575) (hba : b ≤ a) :
    Calls Tryz.prog 82 #[v, u] w fun e w' => ∃ v', e = .returned v' ∧ Ext w w' ∧ Nt w' v' (a - b) := by
  obtain ⟨zs, hs, hw, ht, rfl⟩ := hv
  obtain ⟨ys, hs', hw', ht', rfl⟩ := hu
  have lz := len_le ht ha
  have ly := len_le ht' (Nat.lt_of_le_of_lt hba (num_lt hw))
  obtain ⟨i0, HI⟩ : ∃ i0, Hid (Tryz.prog.info? 70 = some i0 ∧ i0.zero = some (.int .u32 0) ∧ i0.size = 1 ∧ i0.bytes = 4) := info_parts info32
  obtain ⟨p, cap, rfl, -⟩ := hs.form
  obtain ⟨p', cap', rfl, -⟩ := hs'.form
  have HZ := Lib.hid (And.intro hs (And.intro hw ht))
  have HY := Lib.hid (And.intro hs' (And.intro hw' ht'))
  have HB := Lib.hid hba
  clear ha hba hs hs' hw hw' ht ht'
  go_enter Tryz.func82, Tryz.ntmps82
  go_wp2_with (fail)
  go_loopw [5, 6, 7] (fun v5 v6 v7 wr => ∃ (k C cap5 : Nat) (p5 : Option Addr), k ≤ zs.length ∧ C ≤ 1 ∧ v7 = .int .i64 k ∧ v6 = .int .u64 C ∧ v5 = .slice p5 k cap5 ∧
    Hid (Ext w wr ∧ ∃ os : List Nat, os.length = k ∧ Wd os ∧ Ow wr w.heap.size 70 (.slice p5 k cap5) k os ∧ num (zs.take k) + 4294967296 ^ k * C = num os + num (ys.take k))) (fun _ _ v7 _ => zs.length - (intOf v7).toNat)
  case atStart => exact ⟨0, 0, 0, none, Nat.zero_le _, by omega, rfl, rfl, rfl, Ext.refl w, [], rfl, Wd.nil, own_nil w _, by simp [num]⟩
  case round =>
    obtain ⟨k, C, cap5, p5, hk, hC, rfl, rfl, rfl, HR⟩ := hrel
    have hkb : k < 16777216 := by omega
    obtain ⟨os, h1, h2, h3, h4⟩ := HR.out.2
    have HO := Lib.hid h3
    have Hos := Lib.hid (And.intro h1 (And.intro h2 h4))
    have HX := Lib.hid HR.out.1
    clear h1 h2 h3 h4
    have hx := HZ.out.2.1.getD k
    have hy := HY.out.2.1.getD k
    by_cases hlz : k < zs.length
    · obtain ⟨b1, off1, rfl, hc1⟩ := HZ.out.1.at hlz
      have hc1 := HX.out.cell_some hc1
      have e1 : decide (k < zs.length) = true := by simp; omega
      have Hx := Lib.hid (num_take_succ' zs k)
      by_cases hly : k < ys.length
      · obtain ⟨b2, off2, rfl, hc2⟩ := HY.out.1.at hly
        have hc2 := HX.out.cell_some hc2
        have e2 : decide (k < ys.length) = true := by simp; omega
        have Hy := Lib.hid (num_take_succ' ys k)
        generalize zs.getD k 0 = x at *
        generalize ys.getD k 0 = y at *
        clear HR
        obtain ⟨D0, hD0, hb0⟩ := wrap_sub x C (by omega) (by omega)
        obtain ⟨D1, hD1, hb1⟩ := wrap_sub D0 y (by omega) (by omega)
        have HD := Lib.hid (And.intro hb0 hb1)
        have hD1b : D1 < 18446744073709551616 := by omega
        clear hb0 hb1
        go_wp2_with (at_builtin; refine wpList_grow32 rfl (.tmp 33) (.tmp 36) _ rfl 70 i0 Tryz.underlying33 HI p5 k cap5 os _ (D1 % 4294967296) _ rfl rfl HO.out HX.out hkb (by omega) ?_)
        intro p6 cap6 w1 hown' hX'
        have HO' := Lib.hid (And.intro hown' hX')
        clear hown' hX'
        go_wp2_with (fail)
        go_roundw
        case rel =>
          refine ⟨k + 1, D1 / 9223372036854775808, cap6, p6, by omega, by have := HD.out; omega, by go_num, by go_num, by go_num, HO'.out.2, os ++ [D1 % 4294967296], by simp [Hos.out.1], Hos.out.2.1.snoc (by omega), HO'.out.1, ?_⟩
          rw [Hx.out, Hy.out]
          exact diff_round Hos.out.1 Hos.out.2.2 (by have := HD.out; omega)
        case measure =>
          show zs.length - (((k + 1 : Nat) : Int)).toNat < zs.length - ((k : Int)).toNat
          omega
      · have e2 : decide (k < ys.length) = false := by simp; omega
        have Hy : Hid (num (ys.take (k + 1)) = num (ys.take k) + 4294967296 ^ k * 0) := by
          show _ = _
          rw [num_take_succ' ys k, getD_out (by omega)]
        generalize zs.getD k 0 = x at *
        clear HR hy
        obtain ⟨D0, hD0, hb0⟩ := wrap_sub x C (by omega) (by omega)
        have HD := Lib.hid hb0
        have hD0b : D0 < 18446744073709551616 := by omega
        clear hb0
        go_wp2_with (at_builtin; refine wpList_grow32 rfl (.tmp 33) (.tmp 36) _ rfl 70 i0 Tryz.underlying33 HI p5 k cap5 os _ (D0 % 4294967296) _ rfl rfl HO.out HX.out hkb (by omega) ?_)
        intro p6 cap6 w1 hown' hX'
        have HO' := Lib.hid (And.intro hown' hX')
        clear hown' hX'
        go_wp2_with (fail)
        go_roundw
        case rel =>
          refine ⟨k + 1, D0 / 9223372036854775808, cap6, p6, by omega, by have := HD.out; omega, by go_num, by go_num, by go_num, HO'.out.2, os ++ [D0 % 4294967296], by simp [Hos.out.1], Hos.out.2.1.snoc (by omega), HO'.out.1, ?_⟩
          rw [Hx.out, Hy.out]
          exact diff_round Hos.out.1 Hos.out.2.2 (by have := HD.out; omega)
        case measure =>
          show zs.length - (((k + 1 : Nat) : Int)).toNat < zs.length - ((k : Int)).toNat
          omega
    · have hke : k = zs.length := by omega
      subst hke
      have hS := Hos.out.2.2
      have hlt := num_lt Hos.out.2.1
      rw [Hos.out.1] at hlt
      have hya : num (ys.take zs.length) = num ys := by
        rcases Nat.lt_or_ge zs.length ys.length with h | h
        · exact absurd (num_lt_len HZ.out.2.1 HY.out.2.2 h) (by have := HB.out; omega)
        · rw [List.take_of_length_le h]
      rw [List.take_length, hya] at hS
      have hC0 : C = 0 := by
        have := HB.out
        rcases (show C = 0 ∨ C = 1 by omega) with h | h
        · exact h
        · subst h; rw [Nat.mul_one] at hS; omega
      subst hC0
      have hn : num os = num zs - num ys := by rw [Nat.mul_zero] at hS; omega
      have HS := Lib.hid HO.out.sl
      have HN := Lib.hid hn
      clear hS hlt hya hn hx hy hlz hk hC HR
      go_wp2_with (go_at_call 128; refine (k_trim _ os _ HS.out Hos.out.2.1 (by rw [Hos.out.1]; omega)).mono ?_; rintro e w' ⟨v', rfl, rfl, hn⟩)
      go_ret
      exact ⟨_, rfl, HX.out, by rw [← HN.out]; exact hn⟩
end Go.Proofs.YtdpjkddllimcoaaGreatDoor
end

section
/- The reference's whole numbers as words: product. -/
namespace Go.Proofs.YtdpjkddllimcoaaGreatDoor
open Go.RowKit Fl

set_option maxHeartbeats 1000000 in
theorem k_product (v u : Value) (a b : Nat) (w : World) (hv : Nt w v a) (hu : Nt w u b) (ha : a < 4294967296 ^ 1048575) (hb : b < 4294967296 ^ 1048575) :
    Calls Tryz.prog 83 #[v, u] w fun e w' => ∃ v', e = .returned v' ∧ Ext w w' ∧ Nt w' v' (a * b) := by
  obtain ⟨zs, hs, hw, ht, rfl⟩ := hv
  obtain ⟨ys, hs', hw', ht', rfl⟩ := hu
  have lz := len_le ht ha
  have ly := len_le ht' hb
  obtain ⟨i0, HI⟩ : ∃ i0, Hid (Tryz.prog.info? 70 = some i0 ∧ i0.zero = some (.int .u32 0) ∧ i0.size = 1 ∧ i0.bytes = 4) := info_parts info32
  obtain ⟨p, cap, rfl, -, -, h3⟩ := hs.form
  obtain ⟨p', cap', rfl, -, -, h3'⟩ := hs'.form
  have HN0 := Lib.hid (Nt.nil w)
  have HW := Lib.hid hw
  have HW' := Lib.hid hw'
  clear ha hb hs hs' hw hw' ht ht'
  by_cases h0 : zs = []
  · subst h0
    clear h3 h3'
    go_enter Tryz.func83, Tryz.ntmps83
    go_wp2_with (fail)
    go_ret
    exact ⟨_, rfl, Ext.refl w, by rw [num, Nat.zero_mul]; exact HN0.out⟩
  · have hl := List.length_pos_iff.2 h0
    have e1 : ((zs.length : Int) == 0) = false := by simp; omega
    by_cases h0' : ys = []
    · subst h0'
      clear h3 h3' h0
      go_enter Tryz.func83, Tryz.ntmps83
      go_wp2_with (fail)
      go_ret
      exact ⟨_, rfl, Ext.refl w, by rw [num_nil, Nat.mul_zero]; exact HN0.out⟩
    · have hl' := List.length_pos_iff.2 h0'
      have e2 : ((ys.length : Int) == 0) = false := by simp; omega
      obtain ⟨b1, off1, rfl, hc1⟩ := h3 hl
      obtain ⟨b2, off2, rfl, hc2⟩ := h3' hl'
      have HC1 := Lib.hid hc1
      have HC2 := Lib.hid hc2
      clear h3 h3' h0 h0' hc1 hc2
      go_enter Tryz.func83, Tryz.ntmps83
      go_wp2_with (at_make; refine wpList_makeRow _ rfl _ _ _ rfl 70 i0 Tryz.underlying33 HI _ _ _ _ (zs.length + ys.length) rfl rfl (by omega) (by omega) (by omega) ?_)
      intro wm hown hX
      have HM := Lib.hid (And.intro hown hX)
      clear hown hX
      go_wp2_with (fail)
      go_loopw [6] (fun v27 wr => ∃ (i : Nat), i ≤ zs.length ∧ v27 = .int .i64 i ∧
        Hid (Ext w wr ∧ ∃ os : List Nat, os.length = zs.length + ys.length ∧ Wd os ∧ Row wr 70 w.heap.size os ∧ num (os.take (i + ys.length)) = num (zs.take i) * num ys)) (fun v27 _ => zs.length - (intOf v27).toNat)
      case atStart => exact ⟨0, Nat.zero_le _, rfl, HM.out.2, _, by simp, fun z hz => by simp at hz; omega, HM.out.1, by rw [List.take_replicate, num_replicate0]; simp [num]⟩
      case round =>
        obtain ⟨i, hi, rfl, HR⟩ := hrel
        by_cases hlt : i < zs.length
        · have hc : wr.cell? ⟨b1, off1 + i, none⟩ = _ := HR.out.1.cell_some (HC1.out i hlt)
          have hx := HW.out.getD i
          have HS := Lib.hid (num_take_succ' zs i)
          have HCx := Lib.hid (HC1.out i hlt)
          generalize zs.getD i 0 = x at *
          go_wp2_with (fail)
          go_loopw [7, 8] (fun v8 v34 w2 => ∃ (k C : Nat), k ≤ ys.length ∧ C < 4294967296 ∧ v34 = .int .i64 k ∧ v8 = .int .u64 C ∧
            Hid (Ext w w2 ∧ ∃ os : List Nat, os.length = zs.length + ys.length ∧ Wd os ∧ Row w2 70 w.heap.size os ∧ num (os.take (i + ys.length)) + 4294967296 ^ (i + k) * C = num (zs.take i) * num ys + 4294967296 ^ i * (x * num (ys.take k)))) (fun _ v34 _ => ys.length - (intOf v34).toNat)
          case atStart =>
            obtain ⟨os, h1, h2, h3, h4⟩ := HR.out.2
            exact ⟨0, 0, Nat.zero_le _, by decide, rfl, rfl, HR.out.1, os, h1, h2, h3, by rw [h4]; simp [num]⟩
          case round =>
            obtain ⟨k, C, hk, hC, rfl, rfl, HQ⟩ := hrel
            obtain ⟨os, h1, h2, h3, h4⟩ := HQ.out.2
            by_cases hlk : k < ys.length
            · have hcx : wr.cell? ⟨b1, off1 + i, none⟩ = _ := HQ.out.1.cell_some HCx.out
              have hcy : wr.cell? ⟨b2, off2 + k, none⟩ = _ := HQ.out.1.cell_some (HC2.out k hlk)
              have hy := HW'.out.getD k
              have HS2 := Lib.hid (num_take_succ' ys k)
              generalize ys.getD k 0 = y at *
              have hco := h3.cell (i := i + k) (by omega)
              have hfz := h3.frozen (i + k)
              have ho := h2.getD (i + k)
              generalize hO : os.getD (i + k) 0 = o at *
              obtain ⟨P, hP⟩ : ∃ P, P = x * y := ⟨_, rfl⟩
              have hPb : P ≤ 18446744065119617025 := by rw [hP]; exact mul_bound hx hy
              have hPi : (x : Int) * (y : Int) = (P : Int) := by rw [hP]; simp
              have HR2 := Lib.hid (fun n : Nat => ((h3.ext ((Ext.refl wr).drewN n)).set (i + k) (((P : Int) + (o : Int) + (C : Int)) % 4294967296) ((C + (P + o)) % 4294967296) (by omega) (by omega)))
              have HX2 : Hid (∀ (n : Nat) q, Ext w ((wr.drewN n).setCell ⟨w.heap.size, i + k, none⟩ q)) := fun n q => (HQ.out.1.drewN n).setNew (Nat.le_refl _) q
              have HT := Lib.hid (mul_step (x := x) (y := y) (show i + k < i + ys.length by omega) (by omega) hO h4)
              have Hos := Lib.hid (And.intro h1 h2)
              have HP := Lib.hid hP
              clear h1 h2 h3 h4 hO hP
              go_wp2_with (fail)
              go_quiet (fail)
              go_wp2_with (fail)
              go_roundw
              case rel =>
                refine ⟨k + 1, (C + (P + o)) / 4294967296, hlk, by omega, by go_num, by go_num, HX2.out _ _, os.set (i + k) ((C + (P + o)) % 4294967296), by rw [List.length_set]; exact Hos.out.1, Hos.out.2.set _ (Nat.mod_lt _ (by decide)), HR2.out _, ?_⟩
                have := HT.out
                rw [HS2.out, HP.out]
                exact this
              case measure =>
                show ys.length - (((k + 1 : Nat) : Int)).toNat < ys.length - ((k : Int)).toNat
                omega
            · have hke : k = ys.length := by omega
              subst hke
              rw [List.take_length] at h4
              have hco := h3.cell (i := i + ys.length) (by omega)
              have hfz := h3.frozen (i + ys.length)
              generalize os.getD (i + ys.length) 0 = o at *
              have HR2 := Lib.hid (h3.set (i + ys.length) (C : Int) C rfl (by omega))
              have HX2 : Hid (∀ q, Ext w (wr.setCell ⟨w.heap.size, i + ys.length, none⟩ q)) := fun q => HQ.out.1.setNew (Nat.le_refl _) q
              have HT := Lib.hid (mul_close (by omega) h4)
              have Hos := Lib.hid (And.intro h1 h2)
              clear h1 h2 h3 h4 hk hlk
              go_wp2_with (fail)
              go_roundw
              case rel =>
                refine ⟨i + 1, hlt, by go_num, HX2.out _, os.set (i + ys.length) C, by rw [List.length_set]; exact Hos.out.1, Hos.out.2.set _ hC, HR2.out, ?_⟩
                rw [HT.out, HS.out]
              case measure =>
                show zs.length - (((i + 1 : Nat) : Int)).toNat < zs.length - ((i : Int)).toNat
                omega
        · have hke : i = zs.length := by omega
          subst hke
          clear hi hlt
          obtain ⟨os, h1, h2, h3, h4⟩ := HR.out.2
          rw [List.take_length, List.take_of_length_le (by omega)] at h4
          have HS := Lib.hid (h3.slTake (by omega) h1.symm)
          have Hos := Lib.hid (And.intro h1 (And.intro h2 h4))
          clear h1 h2 h3 h4
          go_wp2_with (go_at_call 128; refine (k_trim _ os _ HS.out Hos.out.2.1 (by rw [Hos.out.1]; omega)).mono ?_; rintro e w' ⟨v', rfl, rfl, hn⟩)
          go_ret
          refine ⟨_, rfl, HR.out.1, ?_⟩
          rw [← Hos.out.2.2]
          exact hn
end Go.Proofs.YtdpjkddllimcoaaGreatDoor
end

section
/- The reference's whole numbers as words: up. -/
namespace Fl
open Go
theorem or_low64 (P C s : Nat) (hP : P < 9223372036854775808) (hd : P % 2 ^ s = 0) (hC : C < 2 ^ s) (hC' : C < 2147483648) : bits .or .u64 (P : Int) (C : Int) = ((P + C : Nat) : Int) := by
  have h := u64_or_nat P C (by omega) (by omega)
  have e : P ||| C = P + C := by
    have e1 : P = 2 ^ s * (P / 2 ^ s) := by have := Nat.div_add_mod P (2 ^ s); omega
    rw [e1, ← Nat.two_pow_add_eq_or_of_lt hC]
  rwa [e] at h
theorem shl_or_parts {x s C : Nat} (hs : s < 32) (hC : C < 2 ^ s) : (x * 2 ^ s + C) / 4294967296 = x * 2 ^ s / 4294967296 ∧ (x * 2 ^ s + C) % 4294967296 = x * 2 ^ s % 4294967296 + C := by
  have e : (4294967296 : Nat) = 2 ^ s * 2 ^ (32 - s) := by rw [← Nat.pow_add, show s + (32 - s) = 32 by omega]
  have h1 : (x * 2 ^ s + C) / 4294967296 = x * 2 ^ s / 4294967296 := by
    rw [e, Nat.mul_comm x, ← Nat.div_div_eq_div_mul, ← Nat.div_div_eq_div_mul, Nat.mul_add_div (Nat.two_pow_pos s), Nat.div_eq_of_lt hC, Nat.mul_div_right _ (Nat.two_pow_pos s), Nat.add_zero]
  refine ⟨h1, ?_⟩
  have h2 := Nat.div_add_mod (x * 2 ^ s + C) 4294967296
  have h3 := Nat.div_add_mod (x * 2 ^ s) 4294967296
  rw [h1] at h2
  omega
end Fl
namespace Go.Proofs.YtdpjkddllimcoaaGreatDoor
open Go.RowKit Fl

theorem k_up (v : Value) (a k : Nat) (w : World) (hv : Nt w v a) (ha : a < 4294967296 ^ 1048575) (hk : k < 33554432) :
    Calls Tryz.prog 79 #[v, .int .i64 k] w fun e w' => ∃ v', e = .returned v' ∧ Ext w w' ∧ Nt w' v' (a * 2 ^ k) := by
  obtain ⟨zs, hs, hw, ht, rfl⟩ := hv
  have lz := len_le ht ha
  obtain ⟨i0, HI⟩ : ∃ i0, Hid (Tryz.prog.info? 70 = some i0 ∧ i0.zero = some (.int .u32 0) ∧ i0.size = 1 ∧ i0.bytes = 4) := info_parts info32
  have HZ := Lib.hid (And.intro hs (And.intro hw ht))
  have HC := Lib.hid hs.form
  obtain ⟨p, cap, rfl, -⟩ := hs.form
  clear ha hs hw
  by_cases h0 : zs = []
  · subst h0
    have HN := Lib.hid (Nt.nil w)
    clear ht
    go_enter Tryz.func79, Tryz.ntmps79
    go_wp2_with (fail)
    go_ret
    exact ⟨_, rfl, Ext.refl w, by simpa [num] using HN.out⟩
  · have hl : 0 < zs.length := List.length_pos_iff.2 h0
    have e1 : ((zs.length : Int) == 0) = false := by simp; omega
    clear ht h0
    obtain ⟨q, hq⟩ : ∃ q, q = k / 32 := ⟨_, rfl⟩
    obtain ⟨s, hs⟩ : ∃ s, s = k % 32 := ⟨_, rfl⟩
    have hqi : (k : Int).tdiv 32 = (q : Int) := by rw [Int.tdiv_eq_ediv_of_nonneg (by omega)]; omega
    have hsi : (k : Int).tmod 32 = (s : Int) := by rw [Int.tmod_eq_emod_of_nonneg (by omega)]; omega
    have hs32 : s < 32 := by omega
    have hq32 : q ≤ 1048576 := by omega
    have HK : Hid (k = 32 * q + s) := by show _ = _; omega
    clear hq hs hk
    go_enter Tryz.func79, Tryz.ntmps79
    go_wp2_with (at_make; refine wpList_make32 _ rfl _ _ _ rfl 70 i0 Tryz.underlying33 HI _ _ _ _ q q rfl rfl (by omega) (by omega) (by omega) (by omega) ?_)
    intro wm hown hX
    have HM := Lib.hid (And.intro hown hX)
    clear hown hX
    go_wp2_with (fail)
    go_loopw [5, 7, 8] (fun v5 v7 v28 wr => ∃ (j C cap5 : Nat) (p5 : Option Addr), j ≤ zs.length ∧ C < 2147483648 ∧ v28 = .int .i64 j ∧ v7 = .int .u32 C ∧ v5 = .slice p5 (q + j) cap5 ∧
      Hid (Ext w wr ∧ C < 2 ^ s ∧ ∃ os : List Nat, os.length = q + j ∧ Wd os ∧ Ow wr w.heap.size 70 (.slice p5 (q + j) cap5) (q + j) os ∧ num os + 4294967296 ^ (q + j) * C = num (zs.take j) * 2 ^ k)) (fun _ _ v28 _ => zs.length - (intOf v28).toNat)
    case atStart => exact ⟨0, 0, q, _, Nat.zero_le _, by decide, rfl, rfl, rfl, HM.out.2, Nat.two_pow_pos s, List.replicate q 0, by simp, fun z hz => by simp at hz; omega, by unfold Ow; rw [List.map_replicate]; exact HM.out.1, by rw [num_replicate0]; simp [num]⟩
    case round =>
      obtain ⟨j, C, cap5, p5, hj, hC, rfl, rfl, rfl, HR⟩ := hrel
      have hkb : q + j < 16777216 := by omega
      by_cases hlt : j < zs.length
      · obtain ⟨b, off, rfl, hc⟩ : ∃ b off, p = some ⟨b, off, none⟩ ∧ wr.cell? ⟨b, off + j, none⟩ = some (.int .u32 ((zs.getD j 0 : Nat) : Int)) := by
          obtain ⟨p0, cap0, e, _, _, h3⟩ := HC.out
          injection e with e1 e2 e3
          subst e1
          obtain ⟨b, off, rfl, h4⟩ := h3 (by omega)
          exact ⟨b, off, rfl, HR.out.1.cell_some (h4 j hlt)⟩
        have hx := HZ.out.2.1.getD j
        obtain ⟨os, h1, h2, h3, h4⟩ := HR.out.2.2
        have HO := Lib.hid h3
        have Hos := Lib.hid (And.intro h1 (And.intro h2 h4))
        clear h1 h2 h3 h4
        generalize hX : zs.getD j 0 = x at *
        have Hx := Lib.hid hX
        clear hX
        obtain ⟨P, hP⟩ : ∃ P, P = x * 2 ^ s := ⟨_, rfl⟩
        have hPi : (x : Int) * 2 ^ s = (P : Int) := by rw [hP]; simp
        have hPb : P < 9223372036854775808 := by
          have h1 : 2 ^ s ≤ 2 ^ 31 := Nat.pow_le_pow_right (by decide) (by omega)
          have h2 : x * 2 ^ s ≤ 4294967295 * 2 ^ 31 := Nat.mul_le_mul (by omega) h1
          have h3 : (2 : Nat) ^ 31 = 2147483648 := by decide
          omega
        have g1 := or_low64 P C s hPb (by rw [hP]; exact Nat.mul_mod_left x (2 ^ s)) HR.out.2.1 hC
        obtain ⟨T, hT⟩ : ∃ T, T = P + C := ⟨_, rfl⟩
        rw [← hT] at g1
        have hTb : T < 18446744073709551616 := by omega
        have Hd := Lib.hid hT
        have HTC : Hid (T / 4294967296 = P / 4294967296 ∧ T % 4294967296 = P % 4294967296 + C) := by
          show _ ∧ _
          have := shl_or_parts (x := x) hs32 HR.out.2.1
          rw [hT, hP]
          exact this
        have HP := Lib.hid hP
        clear hP hT
        go_wp2_with (at_builtin; refine wpList_grow32 rfl (.tmp 35) (.tmp 38) _ rfl 70 i0 Tryz.underlying33 HI p5 (q + j) cap5 os _ (T % 4294967296) _ rfl rfl HO.out HR.out.1 hkb (by omega) ?_)
        intro p6 cap6 w1 hown' hX'
        have HO' := Lib.hid (And.intro hown' hX')
        clear hown' hX'
        go_wp2_with (fail)
        go_roundw
        case rel =>
          refine ⟨j + 1, P / 4294967296, cap6, p6, hlt, by omega, by go_num, by have := HTC.out.1; rw [← this]; go_num, by go_num, HO'.out.2, ?_, os ++ [T % 4294967296], by simp [Hos.out.1]; omega, Hos.out.2.1.snoc (Nat.mod_lt _ (by decide)), by rw [← Nat.add_assoc]; exact HO'.out.1, ?_⟩
          · rw [HP.out]
            exact Nat.div_lt_of_lt_mul ((Nat.mul_lt_mul_right (Nat.two_pow_pos s)).2 hx)
          · rw [num_take_succ', Hx.out, HTC.out.2, HP.out]
            exact shl_round Hos.out.1 HK.out Hos.out.2.2
        case measure =>
          show zs.length - (((j + 1 : Nat) : Int)).toNat < zs.length - ((j : Int)).toNat
          omega
      · have hke : j = zs.length := by omega
        subst hke
        clear hj hlt
        obtain ⟨os, h1, h2, h3, h4⟩ := HR.out.2.2
        rw [List.take_length] at h4
        have HO := Lib.hid h3
        have Hos := Lib.hid (And.intro h1 (And.intro h2 h4))
        clear h1 h2 h3 h4
        go_wp2_with (at_builtin; refine wpList_grow32 rfl (.tmp 43) (.tmp 45) _ rfl 70 i0 Tryz.underlying33 HI p5 (q + zs.length) cap5 os _ C _ rfl rfl HO.out HR.out.1 hkb rfl ?_)
        intro p6 cap6 w1 hown' hX'
        have HO' := Lib.hid (And.intro hown'.sl hX')
        clear hown' hX'
        go_wp2_with (go_at_call 128; refine (k_trim _ (os ++ [C]) _ HO'.out.1 (Hos.out.2.1.snoc (by omega)) (by simp [Hos.out.1]; omega)).mono ?_; rintro e w' ⟨v', rfl, rfl, hn⟩)
        go_ret
        refine ⟨_, rfl, HO'.out.2, ?_⟩
        rw [num_snoc, Hos.out.1, Hos.out.2.2] at hn
        exact hn
end Go.Proofs.YtdpjkddllimcoaaGreatDoor
end

section
/- The reference's whole numbers as words: down. -/
namespace Fl
open Go
/-- what is cut is nought: in whole words, and below. -/
theorem cut_zero {zs : List Nat} {q k s : Nat} (hq : q < zs.length) (hs : s < 32) (hk : k = 32 * q + s) (hw : Wd zs) : num zs % 2 ^ k = 0 ↔ num (zs.take q) = 0 ∧ zs.getD q 0 % 2 ^ s = 0 := by
  have h := num_take_drop zs q
  rw [List.length_take, Nat.min_eq_left (by omega)] at h
  have h2 := num_lt (hw.take q)
  rw [List.length_take, Nat.min_eq_left (by omega)] at h2
  have h3 := num_drop zs q
  have e : (2 : Nat) ^ k = 4294967296 ^ q * 2 ^ s := by rw [hk, Nat.pow_add, Nat.pow_mul]
  have e2 : num (zs.drop q) % 2 ^ s = zs.getD q 0 % 2 ^ s := by
    rw [h3, show (4294967296 : Nat) = 2 ^ s * 2 ^ (32 - s) by rw [← Nat.pow_add, show s + (32 - s) = 32 by omega], Nat.mul_assoc, Nat.add_mul_mod_self_left]
  rw [← e2, e, Nat.mod_mul, h, Nat.add_mul_mod_self_left, Nat.mod_eq_of_lt h2, Nat.add_mul_div_left _ _ (pow_pos32 q), Nat.div_eq_of_lt h2, Nat.zero_add]
  constructor
  · intro h5
    have h6 : num (zs.take q) = 0 := by omega
    rw [h6, Nat.zero_add] at h5
    rcases Nat.mul_eq_zero.1 h5 with h7 | h7
    · have := pow_pos32 q; omega
    · exact ⟨h6, h7⟩
  · rintro ⟨h5, h6⟩
    rw [h5, h6, Nat.mul_zero]
theorem num_take_zero {zs : List Nat} {k : Nat} : num (zs.take (k + 1)) = 0 ↔ num (zs.take k) = 0 ∧ zs.getD k 0 = 0 := by
  rw [num_take_succ']
  have := pow_pos32 k
  constructor
  · intro h
    have h1 : 4294967296 ^ k * zs.getD k 0 = 0 := by omega
    rcases Nat.mul_eq_zero.1 h1 with h2 | h2
    · omega
    · exact ⟨by omega, h2⟩
  · rintro ⟨h1, h2⟩
    rw [h1, h2]; rfl
end Fl
namespace Fl
open Go
theorem ez_false {zs : List Nat} {j : Nat} (h : false = decide (num (zs.take j) = 0)) : false = decide (num (zs.take (j + 1)) = 0) := by
  simp at h ⊢
  rw [num_take_zero]
  exact fun c => h c.1
theorem ez_true {zs : List Nat} {j : Nat} (h : true = decide (num (zs.take j) = 0)) (hx : zs.getD j 0 = 0) : true = decide (num (zs.take (j + 1)) = 0) := by
  simp only [Bool.true_eq, decide_eq_true_eq] at h ⊢
  rw [num_take_zero]
  exact ⟨h, hx⟩
theorem ez_not {zs : List Nat} {j : Nat} (hx : zs.getD j 0 ≠ 0) : false = decide (num (zs.take (j + 1)) = 0) := by
  simp only [Bool.false_eq, decide_eq_false_iff_not]
  rw [num_take_zero]
  exact fun c => hx c.2
theorem mask32 (x s : Nat) (hx : x < 4294967296) (hs : s < 32) : ∃ M : Nat, (2 : Int) ^ s = ((M + 1 : Nat) : Int) ∧ M + 1 < 4294967296 ∧ bits .and .u32 (x : Int) (M : Int) = ((x % 2 ^ s : Nat) : Int) := by
  have h1 : 2 ^ s ≤ 2 ^ 31 := Nat.pow_le_pow_right (by decide) (by omega)
  have h2 := Nat.two_pow_pos s
  have h3 : (2 : Nat) ^ 31 = 2147483648 := by decide
  refine ⟨2 ^ s - 1, ?_, by omega, ?_⟩
  · rw [show 2 ^ s - 1 + 1 = 2 ^ s by omega]; simp
  · rw [u32_and_nat x (2 ^ s - 1) hx (by omega), Nat.and_two_pow_sub_one_eq_mod]
end Fl
namespace Go.Proofs.YtdpjkddllimcoaaGreatDoor
open Go.RowKit Fl

set_option maxHeartbeats 1000000 in
theorem k_down (v : Value) (a k : Nat) (w : World) (hv : Nt w v a) (ha : a < 4294967296 ^ 1048575) (hk : k < 9223372036854775808) :
    Calls Tryz.prog 92 #[v, .int .i64 k] w fun e w' => ∃ v', e = .returned (.tuple #[v', .bool (decide (a % 2 ^ k = 0))]) ∧ Ext w w' ∧ Nt w' v' (a / 2 ^ k) := by
  obtain ⟨zs, hs, hw, ht, rfl⟩ := hv
  have lz := len_le ht ha
  obtain ⟨i0, HI⟩ : ∃ i0, Hid (Tryz.prog.info? 70 = some i0 ∧ i0.zero = some (.int .u32 0) ∧ i0.size = 1 ∧ i0.bytes = 4) := info_parts info32
  obtain ⟨p, cap, rfl, -⟩ := hs.form
  have HZ := Lib.hid (And.intro hs (And.intro hw ht))
  clear ha hs hw ht
  obtain ⟨q, hq⟩ : ∃ q, q = k / 32 := ⟨_, rfl⟩
  obtain ⟨s, hs⟩ : ∃ s, s = k % 32 := ⟨_, rfl⟩
  have hqi : (k : Int).tdiv 32 = (q : Int) := by rw [Int.tdiv_eq_ediv_of_nonneg (by omega)]; omega
  have hsi : (k : Int).tmod 32 = (s : Int) := by rw [Int.tmod_eq_emod_of_nonneg (by omega)]; omega
  have hs32 : s < 32 := by omega
  have hq2 : q < 9223372036854775808 := by omega
  have HK : Hid (k = 32 * q + s) := by show _ = _; omega
  clear hq hs hk
  go_enter Tryz.func92, Tryz.ntmps92
  go_wp2_with (fail)
  go_loop [6, 7] (fun v6 v7 => ∃ (j : Nat) (E : Bool), j ≤ zs.length ∧ j ≤ q ∧ v7 = .int .i64 j ∧ v6 = .bool E ∧ Hid (E = decide (num (zs.take j) = 0))) (fun _ v7 => zs.length - (intOf v7).toNat)
  case atStart => exact ⟨0, true, Nat.zero_le _, Nat.zero_le _, rfl, rfl, by simp [Hid, num]⟩
  case round =>
    obtain ⟨j, E, hj, hjq, rfl, rfl, HE⟩ := hrel
    have hjb : j < 9223372036854775808 := by omega
    by_cases hlz : j < zs.length
    · have e1 : decide (j < zs.length) = true := by simp; omega
      by_cases hlq : j < q
      · obtain ⟨b1, off1, rfl, hc1⟩ := HZ.out.1.at hlz
        have e2 : decide (j < q) = true := by simp; omega
        have HF := Lib.hid (@ez_false zs j)
        have HT := Lib.hid (@ez_true zs j)
        have HN := Lib.hid (@ez_not zs j)
        generalize zs.getD j 0 = x at *
        cases E
        · have H0 := Lib.hid (HF.out HE.out)
          clear HE HF HT HN
          go_wp2_with (fail)
          refine ⟨⟨j + 1, false, hlz, hlq, by go_num, rfl, H0.out⟩, ?_⟩
          show zs.length - (((j + 1 : Nat) : Int)).toNat < zs.length - ((j : Int)).toNat
          omega
        · by_cases hx0 : x = 0
          · subst hx0
            have H0 := Lib.hid (HT.out HE.out rfl)
            clear HE HF HT HN
            go_wp2_with (fail)
            refine ⟨⟨j + 1, true, hlz, hlq, by go_num, rfl, H0.out⟩, ?_⟩
            show zs.length - (((j + 1 : Nat) : Int)).toNat < zs.length - ((j : Int)).toNat
            omega
          · have H0 := Lib.hid (HN.out hx0)
            have e3 : ((x : Int) == 0) = false := by simp; omega
            clear HE HF HT HN hx0
            go_wp2_with (fail)
            refine ⟨⟨j + 1, false, hlz, hlq, by go_num, rfl, H0.out⟩, ?_⟩
            show zs.length - (((j + 1 : Nat) : Int)).toNat < zs.length - ((j : Int)).toNat
            omega
      · have hjq' : j = q := by omega
        subst hjq'
        have hql := hlz
        obtain ⟨b1, off1, rfl, hc1⟩ := HZ.out.1.at hlz
        have e2 : decide (j < j) = false := by simp
        have e3 : decide (zs.length ≤ j) = false := by simp; omega
        have hx := HZ.out.2.1.getD j
        have HT : Hid (num zs / 2 ^ k = num (zs.drop j) / 2 ^ s) := by
          show _ = _
          rw [HK.out, Nat.pow_add, Nat.pow_mul, ← Nat.div_div_eq_div_mul, show (2 : Nat) ^ 32 = 4294967296 by decide, num_drop_div HZ.out.2.1 (by omega)]
        obtain ⟨l, hl⟩ : ∃ l, zs.length = j + l := ⟨zs.length - j, by omega⟩
        have hlb : l ≤ 1048575 := by omega
        have HL := Lib.hid hl
        have HCell : Hid (∀ i, j + i < zs.length → w.cell? ⟨b1, off1 + (j + i), none⟩ = some (.int .u32 ((zs.getD (j + i) 0 : Nat) : Int))) := by
          intro i hi
          obtain ⟨b3, off3, e, h⟩ := HZ.out.1.at hi
          injection e with e
          injection e with e4 e5
          subst e4 e5
          exact h
        obtain ⟨M, hM, hMb, hMx⟩ := mask32 (zs.getD j 0) s hx hs32
        obtain ⟨y, hy⟩ : ∃ y, y = zs.getD j 0 % 2 ^ s := ⟨_, rfl⟩
        rw [← hy] at hMx
        have HCZ : Hid (num zs % 2 ^ k = 0 ↔ num (zs.take j) = 0 ∧ y = 0) := by rw [hy]; exact cut_zero hql hs32 HK.out HZ.out.2.1
        generalize hX : zs.getD j 0 = x at *
        obtain ⟨E1, hE1⟩ : ∃ E1 : Bool, ((y : Int) == 0) = E1 := ⟨_, rfl⟩
        obtain ⟨E2, hE2, HE2⟩ : ∃ E2 : Bool, (E = false ∧ E2 = false ∨ E = true ∧ E2 = E1) ∧ Hid (E2 = decide (num zs % 2 ^ k = 0)) := by
          have h := HE.out
          cases E
          · refine ⟨false, .inl ⟨rfl, rfl⟩, ?_⟩
            show _ = _
            simp only [Bool.false_eq, decide_eq_false_iff_not] at h ⊢
            exact fun c => h (HCZ.out.1 c).1
          · refine ⟨E1, .inr ⟨rfl, rfl⟩, ?_⟩
            show _ = _
            simp only [Bool.true_eq, decide_eq_true_eq] at h
            rw [← hE1]
            by_cases hy0 : y = 0
            · have := HCZ.out.2 ⟨h, hy0⟩
              simp [hy0, this]
            · have : ¬ num zs % 2 ^ k = 0 := fun c => hy0 (HCZ.out.1 c).2
              simp [hy0, this]
        have hjs : j ≤ 1048575 := by omega
        clear HE HCZ hy hX hql hj hjq hlq hl lz
        rcases hE2 with ⟨rfl, rfl⟩ | ⟨rfl, rfl⟩
        all_goals
          go_wp2_with (fail)
          clear hM hMb hMx hE1 hc1 hqi hsi
          go_loopw [9, 10] (fun v9 v10 wr => ∃ (i cap5 : Nat) (p5 : Option Addr), i ≤ l ∧ v10 = .int .i64 ((j + i : Nat) : Int) ∧ v9 = .slice p5 i cap5 ∧
            Hid (Ext w wr ∧ ∃ os : List Nat, os.length = i ∧ Wd os ∧ Ow wr w.heap.size 70 (.slice p5 i cap5) i os ∧ num os + 4294967296 ^ i * (num (zs.drop (j + i)) / 2 ^ s) = num (zs.drop j) / 2 ^ s)) (fun _ v10 _ => zs.length - (intOf v10).toNat)
          case atStart => exact ⟨0, 0, none, Nat.zero_le _, rfl, rfl, Ext.refl w, [], rfl, Wd.nil, own_nil w _, by simp [num]⟩
          case round =>
            obtain ⟨i, cap5, p5, hi, rfl, rfl, HR⟩ := hrel
            have hib : j + i ≤ 9223372036854775000 := by omega
            have hkb : i < 16777216 := by omega
            have HO := Lib.hid HR.out.2
            have HXt := Lib.hid HR.out.1
            clear HR
            by_cases hil : i < l
            · have f1 : decide (j + i < zs.length) = true := by have := HL.out; simp; omega
              have hlt0 : j + i < zs.length := by have := HL.out; omega
              have hcx := HXt.out.cell_some (HCell.out i hlt0)
              have hxx := HZ.out.2.1.getD (j + i)
              have hyy := HZ.out.2.1.getD (j + i + 1)
              obtain ⟨os, h1, h2, h3, h4⟩ := HO.out
              have HOw := Lib.hid h3
              have Hos := Lib.hid (And.intro h1 (And.intro h2 h4))
              clear h1 h2 h3 h4 HO
              by_cases hil1 : i + 1 < l
              · have f2 : decide (j + i + 1 < zs.length) = true := by have := HL.out; simp; omega
                have hlt1 : j + i + 1 < zs.length := by have := HL.out; omega
                have hcy := HXt.out.cell_some (HCell.out (i + 1) (by omega))
                rw [← Nat.add_assoc j i 1] at hcy
                have Hxx := Lib.hid (rfl : zs.getD (j + i) 0 = zs.getD (j + i) 0)
                have HT2 : Hid (∀ d, d = (zs.getD (j + i) 0 + zs.getD (j + i + 1) 0 * 4294967296) / 2 ^ s % 4294967296 → num (os ++ [d]) + 4294967296 ^ (i + 1) * (num (zs.drop (j + (i + 1))) / 2 ^ s) = num (zs.drop j) / 2 ^ s) := by
                  intro d hd
                  rw [hd]
                  exact shr_round HZ.out.2.1 Hos.out.1 hs32 rfl rfl Hos.out.2.2
                generalize zs.getD (j + i) 0 = xx at *
                generalize zs.getD (j + i + 1) 0 = yy at *
                have g1 := or_words xx yy hxx hyy
                obtain ⟨P, hP⟩ : ∃ P, P = xx + yy * 4294967296 := ⟨_, rfl⟩
                rw [← hP] at g1
                have hPb : P < 18446744073709551616 := by omega
                obtain ⟨d, hd⟩ : ∃ d, d = P / 2 ^ s % 4294967296 := ⟨_, rfl⟩
                have g2 : (P : Int) / 2 ^ s % 4294967296 = (d : Int) := by rw [hd]; simp
                have Hd : Hid (d < 4294967296 ∧ num (os ++ [d]) + 4294967296 ^ (i + 1) * (num (zs.drop (j + (i + 1))) / 2 ^ s) = num (zs.drop j) / 2 ^ s) := ⟨by rw [hd]; exact Nat.mod_lt _ (by decide), HT2.out d (by rw [hd, hP])⟩
                clear hP hd HT2 Hxx
                go_wp2_with (at_builtin; refine wpList_grow32 rfl (.tmp 81) (.tmp 86) _ rfl 70 i0 Tryz.underlying33 HI p5 i cap5 os _ d _ rfl rfl HOw.out HXt.out hkb rfl ?_)
                intro p6 cap6 w1 hown' hX'
                have HO' := Lib.hid (And.intro hown' hX')
                clear hown' hX'
                go_wp2_with (fail)
                go_roundw
                case rel =>
                  exact ⟨i + 1, cap6, p6, hil, by go_num, by go_num, HO'.out.2, os ++ [d], by simp [Hos.out.1], Hos.out.2.1.snoc Hd.out.1, HO'.out.1, Hd.out.2⟩
                case measure =>
                  show zs.length - (((j + i + 1 : Nat) : Int)).toNat < zs.length - ((j + i : Nat) : Int).toNat
                  omega
              · have f2 : decide (j + i + 1 < zs.length) = false := by have := HL.out; simp; omega
                have f3 : ¬ (j + i + 1 < zs.length) := by have := HL.out; omega
                have HT2 : Hid (∀ d, d = (zs.getD (j + i) 0 + 0 * 4294967296) / 2 ^ s % 4294967296 → num (os ++ [d]) + 4294967296 ^ (i + 1) * (num (zs.drop (j + (i + 1))) / 2 ^ s) = num (zs.drop j) / 2 ^ s) := by
                  intro d hd
                  rw [hd]
                  exact shr_round HZ.out.2.1 Hos.out.1 hs32 rfl (getD_out (by have := HL.out; omega)) Hos.out.2.2
                generalize zs.getD (j + i) 0 = xx at *
                obtain ⟨d, hd⟩ : ∃ d, d = xx / 2 ^ s % 4294967296 := ⟨_, rfl⟩
                have g2 : (xx : Int) / 2 ^ s % 4294967296 = (d : Int) := by rw [hd]; simp
                have Hd : Hid (d < 4294967296 ∧ num (os ++ [d]) + 4294967296 ^ (i + 1) * (num (zs.drop (j + (i + 1))) / 2 ^ s) = num (zs.drop j) / 2 ^ s) := ⟨by rw [hd]; exact Nat.mod_lt _ (by decide), HT2.out d (by rw [hd]; simp)⟩
                clear hd HT2 hyy
                go_wp2_with (at_builtin; refine wpList_grow32 rfl (.tmp 81) (.tmp 86) _ rfl 70 i0 Tryz.underlying33 HI p5 i cap5 os _ d _ rfl rfl HOw.out HXt.out hkb rfl ?_)
                intro p6 cap6 w1 hown' hX'
                have HO' := Lib.hid (And.intro hown' hX')
                clear hown' hX'
                go_wp2_with (fail)
                go_roundw
                case rel =>
                  exact ⟨i + 1, cap6, p6, hil, by go_num, by go_num, HO'.out.2, os ++ [d], by simp [Hos.out.1], Hos.out.2.1.snoc Hd.out.1, HO'.out.1, Hd.out.2⟩
                case measure =>
                  show zs.length - (((j + i + 1 : Nat) : Int)).toNat < zs.length - ((j + i : Nat) : Int).toNat
                  omega
            · have f1 : decide (j + i < zs.length) = false := by have := HL.out; simp; omega
              have f3 : ¬ (j + i < zs.length) := by have := HL.out; omega
              obtain ⟨os, h1, h2, h3, h4⟩ := HO.out
              rw [show num (zs.drop (j + i)) = 0 by rw [List.drop_eq_nil_of_le (by have := HL.out; omega)]; rfl, Nat.zero_div, Nat.mul_zero, Nat.add_zero] at h4
              have HS := Lib.hid h3.sl
              have Hos := Lib.hid (And.intro h1 (And.intro h2 h4))
              clear h1 h2 h3 h4 HO
              go_wp2_with (go_at_call 128; refine (k_trim _ os _ HS.out Hos.out.2.1 (by rw [Hos.out.1]; omega)).mono ?_; rintro e w' ⟨v', rfl, rfl, hn⟩)
              go_ret2
              exact ⟨_, congrArg (fun q => Ending.returned (.tuple #[_, .bool q])) HE2.out, HXt.out, by rw [HT.out, ← Hos.out.2.2]; exact hn⟩
    · have hjl : j = zs.length := by omega
      subst hjl
      have e1 : decide (zs.length < zs.length) = false := by simp
      have e2 : decide (zs.length ≤ q) = true := by simp; omega
      have hkk : num zs < 2 ^ k := by
        refine Nat.lt_of_lt_of_le (num_lt HZ.out.2.1) ?_
        rw [show (4294967296 : Nat) = 2 ^ 32 by decide, ← Nat.pow_mul]
        exact Nat.pow_le_pow_right (by decide) (by have := HK.out; omega)
      have HR : Hid (E = decide (num zs % 2 ^ k = 0) ∧ num zs / 2 ^ k = 0) := by
        refine ⟨?_, Nat.div_eq_of_lt hkk⟩
        rw [HE.out, List.take_length, Nat.mod_eq_of_lt hkk]
      have HN := Lib.hid (Nt.nil w)
      clear hkk HE
      go_wp2_with (fail)
      go_ret2
      exact ⟨_, congrArg (fun q => Ending.returned (.tuple #[_, .bool q])) HR.out.1, Ext.refl w, by rw [HR.out.2]; exact HN.out⟩
end Go.Proofs.YtdpjkddllimcoaaGreatDoor
end
