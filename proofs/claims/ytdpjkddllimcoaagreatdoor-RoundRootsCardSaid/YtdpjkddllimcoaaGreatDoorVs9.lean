/- A part of the proof (10 of 18) of this: RoundSums: for every two floats and every mode the program's rounded sum and difference are the document's: the law returns true; condition: the table of package math/bits reads as its text lays it. -/
import Derived.Shelf.Small.Bits
import Derived.Test.YtdpjkddllimcoaaGreatDoorProg
import Derived.Test.YtdpjkddllimcoaaGreatDoorVs8

section
/-
  DERIVED: THE SHELF's CONTRACTS AT THIS DUMP, IN PLAIN WORDS (tools/lay-plain.mjs out of 'TryzShelf.lean', which tools/lay-shelf.mjs wrote): THE SAME DECLARATIONS UNDER THE SAME NAMES: 'import', 'namespace', 'open', 'def', 'theorem' AND NOTHING ELSE: no command of the shelf's: FOR A HAND-IN. Each laying: the table of numbers ('.._ren') and one theorem, a field a fact of the dump's own or the kernel's comparison; each contract: ONE APPLICATION.
-/
namespace Go.Proofs
open Go.Shelf
def Tryz.lays128_ren : Go.Shelf.Ren := ⟨fun | 128 => 167 | n => n, fun | 51 => 70 | 3 => 3 | 4 => 4 | 46 => 68 | 5 => 5 | 9 => 9 | n => n, fun | n => n⟩
theorem Tryz.lays128 : Go.Proofs.Lays.n128 Tryz.prog Tryz.lays128_ren := {
  mixed := by kernel_rfl
  f128 := Tryz.func167.trans (congrArg some (by kernel_rfl))
  t3 := Tryz.underlying3
  a3 := Tryz.isAgg3
  z3 := Tryz.sizeOf3
  v3 := Tryz.zeroValue3
  t4 := Tryz.underlying4
  a4 := Tryz.isAgg4
  z4 := Tryz.sizeOf4
  v4 := Tryz.zeroValue4
  t5 := Tryz.underlying5
  a5 := Tryz.isAgg5
  z5 := Tryz.sizeOf5
  v5 := Tryz.zeroValue5
  t9 := Tryz.underlying9
  a9 := Tryz.isAgg9
  z9 := Tryz.sizeOf9
  v9 := Tryz.zeroValue9
  t46 := Tryz.underlying68
  a46 := Tryz.isAgg68
  z46 := Tryz.sizeOf68
  v46 := Tryz.zeroValue68
  t51 := Tryz.underlying70
  a51 := Tryz.isAgg70
  z51 := Tryz.sizeOf70
  v51 := Tryz.zeroValue70 }
/-- bits.Len32: "Len32 returns the minimum number of bits required to represent x; the result is 0 for x == 0.": IT RETURNS 'Lib.bitLen x'; the world is as it was. ('h0', 'h1': x is a uint32.) (LAID: no walk: one application.) -/
theorem Tryz.bits_Len32 (x : Int) (w : World) (h0 : 0 ≤ x) (h1 : x ≤ 4294967295) :
    Calls Tryz.prog 167 #[.int .u32 x] w fun e w' => e = .returned (.int .i64 (Lib.bitLen x.toNat)) ∧ w' = w := Any.bits_Len32 Tryz.lays128 x w h0 h1
def Tryz.lays133_ren : Go.Shelf.Ren := ⟨fun | 133 => 169 | 128 => 167 | n => n, fun | 51 => 70 | 3 => 3 | 4 => 4 | 46 => 68 | 5 => 5 | 9 => 9 | n => n, fun | n => n⟩
theorem Tryz.lays133 : Go.Proofs.Lays.n133 Tryz.prog Tryz.lays133_ren := {
  mixed := by kernel_rfl
  f128 := Tryz.func167.trans (congrArg some (by kernel_rfl))
  f133 := Tryz.func169.trans (congrArg some (by kernel_rfl))
  t3 := Tryz.underlying3
  a3 := Tryz.isAgg3
  z3 := Tryz.sizeOf3
  v3 := Tryz.zeroValue3
  t4 := Tryz.underlying4
  a4 := Tryz.isAgg4
  z4 := Tryz.sizeOf4
  v4 := Tryz.zeroValue4
  t5 := Tryz.underlying5
  a5 := Tryz.isAgg5
  z5 := Tryz.sizeOf5
  v5 := Tryz.zeroValue5
  t9 := Tryz.underlying9
  a9 := Tryz.isAgg9
  z9 := Tryz.sizeOf9
  v9 := Tryz.zeroValue9
  t46 := Tryz.underlying68
  a46 := Tryz.isAgg68
  z46 := Tryz.sizeOf68
  v46 := Tryz.zeroValue68
  t51 := Tryz.underlying70
  a51 := Tryz.isAgg70
  z51 := Tryz.sizeOf70
  v51 := Tryz.zeroValue70 }
/-- bits.LeadingZeros32: "LeadingZeros32 returns the number of leading zero bits in x; the result is 32 for x == 0.": IT RETURNS '32 - Lib.bitLen x'; the world is as it was. ITS CALLEE bits.Len32 IS MET BY ITS OWN CONTRACT OFF THE SHELF (lay that first): entered in place it sends the kernel out of memory. (LAID: no walk: one application.) -/
theorem Tryz.bits_LeadingZeros32 (x : Int) (w : World) (h0 : 0 ≤ x) (h1 : x ≤ 4294967295) :
    Calls Tryz.prog 169 #[.int .u32 x] w fun e w' => e = .returned (.int .i64 (32 - (Lib.bitLen x.toNat : Int))) ∧ w' = w := Any.bits_LeadingZeros32 Tryz.lays133 x w h0 h1
end Go.Proofs
end

section
/- Whole numbers as words: bitLen. -/
namespace Fl
open Go
/-- how many binary digits. -/
def bl (n : Nat) : Nat := if n = 0 then 0 else n.log2 + 1
theorem bl_unique {n L : Nat} (h0 : 0 < L) (h1 : 2 ^ (L - 1) ≤ n) (h2 : n < 2 ^ L) : bl n = L := by
  have hn : n ≠ 0 := by have := Nat.two_pow_pos (L - 1); omega
  unfold bl
  rw [if_neg hn]
  have h3 : n.log2 < L := (Nat.log2_lt hn).2 h2
  have h4 : L - 1 ≤ n.log2 := (Nat.le_log2 hn).2 h1
  omega
theorem bl_lt (n : Nat) : n < 2 ^ bl n := by
  unfold bl
  split
  · simp; omega
  · exact Nat.lt_log2_self
theorem bl_le {n : Nat} (h : n ≠ 0) : 2 ^ (bl n - 1) ≤ n := by
  unfold bl
  rw [if_neg h]
  exact Nat.log2_self_le h
theorem bl_zero : bl 0 = 0 := rfl
theorem bl_pos {n : Nat} (h : n ≠ 0) : 0 < bl n := by unfold bl; rw [if_neg h]; omega
theorem Tm_last {zs : List Nat} (ht : Tm zs) (h : zs ≠ []) : zs.getD (zs.length - 1) 0 ≠ 0 := by
  unfold Tm at ht
  rw [List.getLast?_eq_getElem?] at ht
  rw [List.getD_eq_getElem?_getD]
  have hl := List.length_pos_iff.2 h
  rw [List.getElem?_eq_getElem (by omega)] at ht ⊢
  simpa using ht
theorem num_top {zs : List Nat} (h : zs ≠ []) : num zs = num (zs.take (zs.length - 1)) + 4294967296 ^ (zs.length - 1) * zs.getD (zs.length - 1) 0 := by
  have hl := List.length_pos_iff.2 h
  have := num_take_succ (zs := zs) (k := zs.length - 1) (by omega)
  rw [show zs.length - 1 + 1 = zs.length by omega, List.take_length] at this
  exact this
theorem bl_words {zs : List Nat} (hw : Wd zs) (ht : Tm zs) (h : zs ≠ []) : bl (num zs) = 32 * (zs.length - 1) + Lib.bitLen (zs.getD (zs.length - 1) 0) := by
  have h1 := Tm_last ht h
  have h2 := hw.getD (zs.length - 1)
  have h3 := num_top h
  have h4 := num_lt (hw.take (zs.length - 1))
  rw [List.length_take, Nat.min_eq_left (by omega)] at h4
  generalize zs.length - 1 = m at *
  generalize zs.getD m 0 = t at *
  obtain ⟨_, hs⟩ := bitLen_spec t (by omega)
  obtain ⟨s1, s2, s3⟩ := hs (by omega)
  generalize Lib.bitLen t = L at *
  have e : 4294967296 ^ m = 2 ^ (32 * m) := by rw [Nat.pow_mul]
  refine bl_unique (by omega) ?_ ?_
  · rw [show 32 * m + L - 1 = 32 * m + (L - 1) by omega, Nat.pow_add, ← e]
    have := Nat.mul_le_mul_left (4294967296 ^ m) s1
    omega
  · rw [Nat.pow_add, ← e]
    have := Nat.mul_le_mul_left (4294967296 ^ m) (show t + 1 ≤ 2 ^ L by omega)
    rw [Nat.mul_add, Nat.mul_one] at this
    omega
end Fl
namespace Go.Proofs.YtdpjkddllimcoaaGreatDoor
open Go.RowKit Fl

theorem n_bitLen (v : Value) (a : Nat) (w : World) (hv : Nt w v a) (ha : a < 4294967296 ^ 1048575) :
    Calls Tryz.prog 149 #[v] w fun en wn => en = .returned (.int .i64 ((bl a : Nat) : Int)) ∧ w = wn := by
  obtain ⟨zs, hs, hw, ht, rfl⟩ := hv
  have lz := len_le ht ha
  obtain ⟨p, cap, rfl, -, -, h3⟩ := hs.form
  by_cases h0 : zs = []
  · subst h0
    clear ht ha hs h3 hw
    go_enter Tryz.func149, Tryz.ntmps149
    go_wp2_with (fail)
    go_ret
    exact ⟨rfl, rfl⟩
  · have hl := List.length_pos_iff.2 h0
    have HB := Lib.hid (bl_words hw ht h0)
    obtain ⟨m, hm⟩ : ∃ m, zs.length = m + 1 := ⟨zs.length - 1, by omega⟩
    obtain ⟨b, off, rfl, h4⟩ := h3 hl
    have hx := hw.getD m
    have hc := h4 m (by omega)
    rw [hm, Nat.add_sub_cancel] at HB
    generalize zs.getD m 0 = x at *
    have HLn := Lib.hid (fun w => Tryz.bits_Len32 (x : Int) w (by omega) (by omega))
    rw [hm]
    have hm2 : m ≤ 1048574 := by omega
    have Hb2 := Lib.hid (bitLen_le x (by omega))
    clear ht ha hs h3 hw h4 h0 hl hm lz
    have hbl : Lib.bitLen x ≤ 64 := Hb2.out
    go_enter Tryz.func149, Tryz.ntmps149
    go_wp2_with (go_at_call 167; refine (HLn.out _).mono ?_; rintro e w' ⟨rfl, rfl⟩)
    go_ret
    exact ⟨by rw [HB.out]; simp, rfl⟩
end Go.Proofs.YtdpjkddllimcoaaGreatDoor
end

section
/- Whole numbers as words: division. -/
namespace Fl
open Go
theorem win_all {us : List Nat} {m j V : Nat} (hw : Wd us) (hV : V ≤ 4294967296 ^ (m + 2)) (h : num (us.drop (j + 1)) < V) :
    num (us.drop (j + (m + 3))) = 0 ∧ num ((us.drop j).take (m + 3)) = num (us.drop j) ∧ num (us.drop j) < 4294967296 * V := by
  have e1 : num (us.drop (j + (m + 3))) = 0 := by
    have h1 := num_take_drop (us.drop (j + 1)) (m + 2)
    rw [List.drop_drop, show j + 1 + (m + 2) = j + (m + 3) by omega] at h1
    rcases Nat.lt_or_ge (us.drop (j + 1)).length (m + 2) with hl | hl
    · rw [List.length_drop] at hl
      rw [List.drop_of_length_le (by omega)]; rfl
    · rw [List.length_take, Nat.min_eq_left hl] at h1
      rcases Nat.eq_zero_or_pos (num (us.drop (j + (m + 3)))) with h2 | h2
      · exact h2
      · have := Nat.le_mul_of_pos_right (4294967296 ^ (m + 2)) h2
        omega
  refine ⟨e1, ?_, ?_⟩
  · have h1 := num_take_drop (us.drop j) (m + 3)
    rw [List.drop_drop, e1, Nat.mul_zero, Nat.add_zero] at h1
    exact h1.symm
  · have h1 := num_drop us j
    have h2 := hw.getD j
    omega
theorem div_round {us us' qs : List Nat} {m j V T k : Nat} (hk : k = j + 1) (hw : Wd us) (hV0 : 0 < V) (hV : V ≤ 4294967296 ^ (m + 2)) (hj : j < qs.length) (hl : j ≤ us.length)
    (h1 : T = num us + V * (4294967296 ^ k * num (qs.drop k))) (h2 : num (us.drop k) < V)
    (t1 : us'.take j = us.take j) (t2 : us'.drop (j + (m + 3)) = us.drop (j + (m + 3))) (t3 : num ((us'.drop j).take (m + 3)) = num ((us.drop j).take (m + 3)) % V) :
    T = num us' + V * (4294967296 ^ j * num ((qs.set j (num ((us.drop j).take (m + 3)) / V)).drop j)) ∧ num (us'.drop j) < V := by
  subst hk
  obtain ⟨a1, a2, a3⟩ := win_all hw hV h2
  have b1 := num_take_drop (us'.drop j) (m + 3)
  rw [List.drop_drop, t2, a1, Nat.mul_zero, Nat.add_zero, t3, a2] at b1
  refine ⟨?_, by rw [b1]; exact Nat.mod_lt _ hV0⟩
  have c1 := num_take_drop us j
  have c2 := num_take_drop us' j
  rw [t1, b1] at c2
  rw [num_drop_set hj, a2]
  rw [List.length_take, Nat.min_eq_left hl] at c1 c2
  have d := Nat.div_add_mod (num (us.drop j)) V
  generalize num (us.drop j) = U at *
  generalize num (qs.drop (j + 1)) = Q at *
  generalize U / V = q at *
  generalize U % V = r at *
  rw [h1, c1, c2, ← d, Nat.pow_succ]
  rw [Nat.mul_add, Nat.mul_add, Nat.mul_add]
  rw [show 4294967296 ^ j * (V * q) = V * (4294967296 ^ j * q) by ac_rfl, show V * (4294967296 ^ j * 4294967296 * Q) = V * (4294967296 ^ j * (4294967296 * Q)) by rw [Nat.mul_assoc (4294967296 ^ j)]]
  omega
theorem len_eq {zs : List Nat} {k : Nat} (ht : Tm zs) (hw : Wd zs) (lo : 4294967296 ^ k ≤ num zs) (hi : num zs < 4294967296 ^ (k + 1)) : zs.length = k + 1 := by
  have h1 := len_le ht hi
  have h2 := num_lt hw
  rcases Nat.lt_or_ge k zs.length with h | h
  · omega
  · have := Nat.pow_le_pow_right (show 0 < 4294967296 by decide) h
    omega
theorem len_gt {zs : List Nat} {k : Nat} (hw : Wd zs) (lo : 4294967296 ^ k ≤ num zs) : k < zs.length := by
  have h2 := num_lt hw
  rcases Nat.lt_or_ge k zs.length with h | h
  · exact h
  · have := Nat.pow_le_pow_right (show 0 < 4294967296 by decide) h
    omega
theorem pow32 (k : Nat) : 4294967296 ^ k = 2 ^ (32 * k) := by rw [Nat.pow_mul]
/-- a divisor with its highest bit set. -/
theorem up_spec {zs : List Nat} {m u : Nat} (hw : Wd zs) (ht : Tm zs) (hl : zs.length = m + 1) (hu : (u : Int) = 32 - (Lib.bitLen (zs.getD m 0) : Int)) : u < 32 ∧ 4294967296 ^ m ≤ num zs * 2 ^ u ∧ num zs * 2 ^ u < 4294967296 ^ (m + 1) := by
  have h0 : zs ≠ [] := by intro e; subst e; simp at hl
  have h1 := bl_words hw ht h0
  have h2 := Tm_last ht h0
  rw [hl, Nat.add_sub_cancel] at h1 h2
  have h3 := bl_lt (num zs)
  have h4 := num_ge ht h0
  rw [hl, Nat.add_sub_cancel] at h4
  have h5 : 0 < Lib.bitLen (zs.getD m 0) := by
    obtain ⟨z, p⟩ := bitLen_spec (zs.getD m 0) (by have := hw.getD m; omega)
    exact (p (Nat.pos_of_ne_zero h2)).2.2
  refine ⟨by omega, Nat.le_trans h4 (Nat.le_mul_of_pos_right _ (Nat.two_pow_pos _)), ?_⟩
  have h6 : num zs * 2 ^ u < 2 ^ bl (num zs) * 2 ^ u := Nat.mul_lt_mul_of_pos_right h3 (Nat.two_pow_pos _)
  rw [← Nat.pow_add] at h6
  have h7 : 2 ^ (bl (num zs) + u) ≤ 2 ^ (32 * (m + 1)) := Nat.pow_le_pow_right (by decide) (by omega)
  rw [pow32]
  omega
theorem fit_up {n : Nat} {k l : Nat} (h : n < 4294967296 ^ k) (hk : k ≤ l) : n < 4294967296 ^ l := Nat.lt_of_lt_of_le h (Nat.pow_le_pow_right (by decide) hk)
theorem fit_word {n l : Nat} (h : n < 4294967296) (hl : 1 ≤ l) : n < 4294967296 ^ l := fit_up (k := 1) (by rw [Nat.pow_one]; exact h) hl
theorem fit_of {n k l : Nat} (h : n < 2 ^ k) (hk : k ≤ 32 * l) : n < 4294967296 ^ l := by rw [pow32]; exact Nat.lt_of_lt_of_le h (Nat.pow_le_pow_right (by decide) hk)
theorem fit_shift {a k u : Nat} (h : a < 4294967296 ^ k) (hu : u ≤ 32) : a * 2 ^ u < 4294967296 ^ (k + 1) := by
  rw [Nat.pow_succ]
  have h1 := Nat.pow_le_pow_right (show 0 < 2 by decide) hu
  exact Nat.lt_of_lt_of_le (Nat.mul_lt_mul_of_pos_right h (Nat.two_pow_pos _)) (Nat.mul_le_mul_left _ h1)
theorem div_end {T U Q V a b s : Nat} (h : T = U + V * Q) (hU : U < V) (hT : T = a * s) (hV : V = b * s) (hs : 0 < s) : Q = a / b ∧ U = (a % b) * s := by
  have hV0 : 0 < V := by omega
  have h1 : T / V = Q := by rw [h, Nat.add_mul_div_left _ _ hV0, Nat.div_eq_of_lt hU, Nat.zero_add]
  have h2 : T % V = U := by rw [h, Nat.add_mul_mod_self_left, Nat.mod_eq_of_lt hU]
  constructor
  · rw [← h1, hT, hV, Nat.mul_div_mul_right _ _ hs]
  · rw [← h2, hT, hV, Nat.mul_mod_mul_right]
end Fl
namespace Go.Proofs.YtdpjkddllimcoaaGreatDoor
open Go.RowKit Fl
theorem n_cmp_lt (v u : Value) (a b : Nat) (w : World) (hv : Nt w v a) (hu : Nt w u b) (ha : a < 4294967296 ^ 1048576) (hb : b < 4294967296 ^ 1048576) (h : a < b) :
    Calls Tryz.prog 147 #[v, u] w fun en wn => en = .returned (.int .i64 (-1)) ∧ Drw w wn := by
  have := n_cmp v u a b w hv hu ha hb
  rwa [cmpI_lt h] at this
theorem n_cmp_ge (v u : Value) (a b : Nat) (w : World) (hv : Nt w v a) (hu : Nt w u b) (ha : a < 4294967296 ^ 1048576) (hb : b < 4294967296 ^ 1048576) (h : ¬ a < b) :
    Calls Tryz.prog 147 #[v, u] w fun en wn => ∃ c : Int, 0 ≤ c ∧ c ≤ 1 ∧ en = .returned (.int .i64 c) ∧ Drw w wn := by
  refine (n_cmp v u a b w hv hu ha hb).mono fun e w' ⟨h1, h2⟩ => ⟨cmpI a b, ?_, ?_, h1, h2⟩
  · unfold cmpI; split; · omega
    · split <;> omega
  · unfold cmpI; split; · omega
    · split <;> omega

theorem n_div_lt (v u : Value) (a b : Nat) (w : World) (hv : Nt w v a) (hu : Nt w u b) (ha : a < 4294967296 ^ 1048576) (hb : b < 4294967296 ^ 1048576) (h : a < b) :
    Calls Tryz.prog 150 #[v, u] w fun e w' => ∃ q r, e = .returned (.tuple #[q, r]) ∧ Ext w w' ∧ Nt w' q (a / b) ∧ Nt w' r (a % b) := by
  have HC := Lib.hid (n_cmp_lt v u a b w hv hu ha hb h)
  have HV := Lib.hid hv
  have HZ : Hid (a / b = 0 ∧ a % b = a) := ⟨Nat.div_eq_of_lt h, Nat.mod_eq_of_lt h⟩
  clear hv hu ha hb h
  go_enter Tryz.func150, Tryz.ntmps150
  go_wp2_with (go_at_call 147; refine HC.out.mono ?_; rintro e w' ⟨rfl, hd⟩; have HD := Lib.hid hd; clear hd)
  go_ret2
  exact ⟨_, _, rfl, HD.out.ext, by rw [HZ.out.1]; exact Nt.nil _, by rw [HZ.out.2]; exact HV.out.ext HD.out.ext⟩
set_option maxRecDepth 20000 in
theorem n_div_one (v : Value) (a b : Nat) (w : World) (p : Option Addr) (cap : Nat) (hv : Nt w v a) (hs : Sl w (.slice p 1 cap) [b]) (hb0 : 0 < b) (hb : b < 4294967296) (ha : a < 4294967296 ^ 1048575) (h : ¬ a < b) :
    Calls Tryz.prog 150 #[v, .slice p 1 cap] w fun e w' => ∃ q r, e = .returned (.tuple #[q, r]) ∧ Ext w w' ∧ Nt w' q (a / b) ∧ Nt w' r (a % b) := by
  have HNb : Hid (Nt w (.slice p 1 cap) b) := ⟨[b], hs, fun z hz => by simp at hz; omega, by unfold Tm; simp; omega, by simp [num]⟩
  have HC := Lib.hid (n_cmp_ge v (.slice p 1 cap) a b w hv HNb.out (fit_up (k := 1048575) (l := 1048576) ha (by decide)) (fit_word (l := 1048576) hb (by decide)) h)
  have HV := Lib.hid hv
  have HA := Lib.hid ha
  obtain ⟨b1, o1, rfl, hc⟩ : ∃ b1 o1, p = some ⟨b1, o1, none⟩ ∧ w.cell? ⟨b1, o1, none⟩ = some (.int .u32 (b : Int)) := by
    rcases hs with ⟨h1, h2⟩ | ⟨b1, o1, c1, h1, h2, h3, h4⟩
    · simp at h2
    · injection h1 with e1 e2 e3
      subst e1
      exact ⟨b1, o1, rfl, h4 0 (by simp)⟩
  have HC1 := Lib.hid hc
  clear hv ha h hs hc
  go_enter Tryz.func150, Tryz.ntmps150
  go_wp2_with (fail)
  refine HC.out.mono ?_
  rintro e w1 ⟨c, hc0, hc1, rfl, hd⟩
  have HD := Lib.hid hd.ext
  have hc := hd.ext.cell_some HC1.out
  clear hd
  have t1 : decide (c < 0) = false := by simp; omega
  clear hc0 hc1
  go_wp2_with (fail)
  refine (n_short _ a b _ (HV.out.ext HD.out) HA.out hb0 hb).mono ?_
  rintro e w2 ⟨v1, rfl, hx, hn⟩
  have HD2 := Lib.hid (And.intro (HD.out.trans hx) hn)
  have hr : a % b < 4294967296 := Nat.lt_trans (Nat.mod_lt _ hb0) hb
  obtain ⟨r, HR⟩ : ∃ r, Hid (r = a % b) := ⟨_, rfl⟩
  rw [← HR.out] at hr ⊢
  clear hx hn hc t1
  go_wp2_with (fail)
  refine (n_small r (by omega) _).mono ?_
  rintro e w3 ⟨v2, rfl, hx, hn⟩
  have HD3 := Lib.hid (And.intro hx hn)
  clear hx hn
  go_wp2_with (fail)
  go_ret2
  exact ⟨_, _, rfl, HD2.out.1.trans HD3.out.1, HD2.out.2.ext HD3.out.1, by rw [← HR.out]; exact HD3.out.2⟩
end Go.Proofs.YtdpjkddllimcoaaGreatDoor
end

section
/- Whole numbers as words: long division. -/
namespace Go.Proofs.YtdpjkddllimcoaaGreatDoor
open Go.RowKit Fl
theorem b_lz (x u : Nat) (w : World) (hx : x < 4294967296) (hu : (u : Int) = 32 - (Lib.bitLen x : Int)) :
    Calls Tryz.prog 169 #[.int .u32 (x : Int)] w fun e w' => e = .returned (.int .i64 (u : Int)) ∧ w = w' := by
  refine (Tryz.bits_LeadingZeros32 (x : Int) w (by omega) (by omega)).mono fun e w' ⟨h1, h2⟩ => ⟨?_, h2.symm⟩
  rw [h1, hu]; simp
set_option maxRecDepth 20000 in
set_option maxHeartbeats 1000000 in
theorem n_div_big (v : Value) (a : Nat) (w : World) (p : Option Addr) (cap m : Nat) (ys : List Nat) (hv : Nt w v a) (hs : Sl w (.slice p (m + 2) cap) ys) (hw : Wd ys) (ht : Tm ys) (hl : ys.length = m + 2) (ha : a < 4294967296 ^ 1048574) (h : ¬ a < num ys) :
    Calls Tryz.prog 150 #[v, .slice p (m + 2) cap] w fun e w' => ∃ q r, e = .returned (.tuple #[q, r]) ∧ Ext w w' ∧ Nt w' q (a / num ys) ∧ Nt w' r (a % num ys) := by
  obtain ⟨i0, HI⟩ : ∃ i0, Hid (Tryz.prog.info? 70 = some i0 ∧ i0.zero = some (.int .u32 0) ∧ i0.size = 1 ∧ i0.bytes = 4) := info_parts info32
  obtain ⟨b, Hb⟩ : ∃ b, Hid (b = num ys) := ⟨_, rfl⟩
  have HNb : Hid (Nt w (.slice p (m + 2) cap) b) := ⟨ys, hs, hw, ht, Hb.out.symm⟩
  have HBb : Hid (b < 4294967296 ^ 1048574) := by
    show b < _
    rw [Hb.out]
    exact Nat.lt_of_le_of_lt (Nat.le_of_not_lt h) ha
  have HC := Lib.hid (n_cmp_ge v (.slice p (m + 2) cap) a b w hv HNb.out (fit_up (k := 1048574) (l := 1048576) ha (by decide)) (fit_up (k := 1048574) (l := 1048576) HBb.out (by decide)) (by rw [Hb.out]; exact h))
  obtain ⟨u, hu⟩ : ∃ u : Nat, (u : Int) = 32 - (Lib.bitLen (ys.getD (m + 1) 0) : Int) := by
    have h1 := (Fl.bitLen_spec (ys.getD (m + 1) 0) (by have := hw.getD (m + 1); omega)).2
    rcases Nat.eq_zero_or_pos (ys.getD (m + 1) 0) with h0 | h0
    · rw [h0]; exact ⟨32, rfl⟩
    · obtain ⟨h2, h3, h4⟩ := h1 h0
      have h5 := hw.getD (m + 1)
      rcases Nat.lt_or_ge 32 (Lib.bitLen (ys.getD (m + 1) 0)) with h6 | h6
      · have := Nat.pow_le_pow_right (show 0 < 2 by decide) (show 32 ≤ Lib.bitLen (ys.getD (m + 1) 0) - 1 by omega)
        have : (2 : Nat) ^ 32 = 4294967296 := by decide
        omega
      · exact ⟨32 - Lib.bitLen (ys.getD (m + 1) 0), by omega⟩
  have HU := Lib.hid (up_spec hw ht hl hu)
  have hu32 : u < 32 := HU.out.1
  have HLZ := Lib.hid (fun (w : World) => b_lz (ys.getD (m + 1) 0) u w (hw.getD (m + 1)) hu)
  obtain ⟨pv, capv, lz, rfl, hlz⟩ : ∃ pv capv lz, v = .slice pv lz capv ∧ Hid (lz = 0 ∨ 4294967296 ^ (lz - 1) ≤ a) := by
    obtain ⟨zs, z1, z2, z3, z4⟩ := hv
    obtain ⟨pv, capv, e, -⟩ := z1.form
    refine ⟨pv, capv, _, e, ?_⟩
    rcases Classical.em (zs = []) with h0 | h0
    · exact .inl (by rw [h0]; rfl)
    · exact .inr (by rw [← z4]; exact num_ge z3 h0)
  have HV := Lib.hid hv
  have HBA : Hid (b ≤ a) := by show b ≤ a; rw [Hb.out]; exact Nat.le_of_not_lt h
  have HA := Lib.hid ha
  have HL := Lib.hid hl
  have HS := Lib.hid hs
  obtain ⟨b1, o1, rfl, hc⟩ : ∃ b1 o1, p = some ⟨b1, o1, none⟩ ∧ w.cell? ⟨b1, o1 + (m + 1), none⟩ = some (.int .u32 ((ys.getD (m + 1) 0 : Nat) : Int)) := by
    rcases hs with ⟨h1, h2⟩ | ⟨b1, o1, c1, h1, h2, h3, h4⟩
    · subst h2; simp at hl
    · injection h1 with e1 e2 e3
      subst e1
      exact ⟨b1, o1, rfl, h4 (m + 1) (by omega)⟩
  have HC1 := Lib.hid hc
  have t0 : ((m : Int) + 2 == 1) = false := by simp; omega
  have hmb : m ≤ 1048572 := by
    have := len_le ht (k := 1048574) (by rw [← Hb.out]; exact HBb.out)
    omega
  clear hv ha h hs hc hw ht hl hu
  go_enter Tryz.func150, Tryz.ntmps150
  go_wp2_with (fail)
  refine HC.out.mono ?_
  rintro e w1 ⟨c, hc0, hc1, rfl, hd⟩
  have HD1 := Lib.hid hd.ext
  have hc := hd.ext.cell_some HC1.out
  have t1 : decide (c < 0) = false := by simp; omega
  clear hd hc0 hc1
  go_wp2_with (fail)
  refine (HLZ.out _).mono ?_
  rintro e w1' ⟨rfl, rfl⟩
  clear hc
  go_wp2_with (fail)
  refine (n_shl _ b u _ (HNb.out.ext HD1.out) (fit_up (k := 1048574) (l := 1048575) HBb.out (by decide)) (by omega)).mono ?_
  rintro e w2 ⟨v1, rfl, hx, hn⟩
  have HD2 := Lib.hid (HD1.out.trans hx)
  obtain ⟨vs, HVs⟩ : ∃ vs, Hid (Sl w2 v1 vs ∧ Wd vs ∧ Tm vs ∧ num vs = b * 2 ^ u) := hn
  obtain ⟨p1, cap1, rfl⟩ : ∃ p1 cap1, v1 = .slice p1 (m + 2) cap1 := by
    obtain ⟨p1, cap1, e, -⟩ := HVs.out.1.form
    have hl := len_eq HVs.out.2.2.1 HVs.out.2.1 (k := m + 1) (by rw [HVs.out.2.2.2, Hb.out]; exact HU.out.2.1) (by rw [HVs.out.2.2.2, Hb.out]; exact HU.out.2.2)
    rw [hl] at e
    exact ⟨p1, cap1, e⟩
  clear hx t1
  go_wp2_with (fail)
  refine (n_shl _ a u _ (HV.out.ext HD2.out) (fit_up (k := 1048574) (l := 1048575) HA.out (by decide)) (by omega)).mono ?_
  rintro e w3 ⟨v2, rfl, hx, hn⟩
  have HD3 := Lib.hid (And.intro hx (HD2.out.trans hx))
  obtain ⟨Ls, HLs⟩ : ∃ vs, Hid (Sl w3 v2 vs ∧ Wd vs ∧ Tm vs ∧ num vs = a * 2 ^ u) := hn
  clear hx
  have hLb : Ls.length ≤ 1048574 + 1 := by
    have h1 := fit_shift HA.out (show u ≤ 32 by omega)
    rw [← HLs.out.2.2.2] at h1
    exact len_le HLs.out.2.2.1 h1
  have hLm : m + 2 ≤ Ls.length := by
    have h1 : 4294967296 ^ (m + 1) ≤ num Ls := by
      rw [HLs.out.2.2.2]
      refine Nat.le_trans ?_ (Nat.mul_le_mul_right _ (HBA.out))
      rw [Hb.out]
      exact HU.out.2.1
    exact len_gt HLs.out.2.1 h1
  have hLz : lz ≤ Ls.length := by
    rcases hlz.out with h0 | h0
    · omega
    · have : 4294967296 ^ (lz - 1) ≤ num Ls := by
        rw [HLs.out.2.2.2]
        exact Nat.le_trans h0 (Nat.le_mul_of_pos_right _ (Nat.two_pow_pos _))
      have := len_gt HLs.out.2.1 this
      omega
  go_wp2_with (fail)
  refine (n_clone _ Ls _ HLs.out.1 (by omega)).mono ?_
  rintro e w4 ⟨v3, rfl, hx, hown⟩
  have HD4 := Lib.hid (And.intro hx hown)
  obtain ⟨g3, cap3, rfl, hg3, -⟩ := Row.of_own hown (by omega)
  clear hx hown
  go_wp2_with (at_builtin; refine wpList_append_own _ rfl (.tmp 47) (.tmp 48) 93 rfl w3.heap.size 70 i0 _ 1 4 Tryz.underlying93 HI.out.1 HI.out.2.1 HI.out.2.2.1 HI.out.2.2.2 rfl (by decide) _ Ls.length (Ls.map W32) rfl (HD4.out.2.alloc _) ⟨w4.heap.size, 0, none⟩ 1 1 [.int .u32 0] rfl rfl (lay1 _ _ _) (one1 _ _) (by unfold maxLen; omega) (by omega) (Nat.le_trans HD4.out.1.size (by simp)) ?_)
  intro v4 w5 hown hgrow _
  have HD5 : Hid (Ext w3 w5) := (HD4.out.1.alloc _).grown hgrow (fun k hk => by have hk : some g3 = some k := hk; injection hk with hk; omega)
  rw [map_snoc Ls 0 0 rfl] at hown
  obtain ⟨g, cap4, rfl, hg, hgc, hgm, -, hrow⟩ := Row.of_own hown (by omega)
  have HRow := Lib.hid hrow
  clear hown hgrow hrow
  have hlen : ((Ls.length : Int) + 1 == (lz : Int)) = false := by simp; omega
  obtain ⟨lq, hlq⟩ : ∃ lq, lq + (m + 2) = Ls.length + 1 := ⟨Ls.length + 1 - (m + 2), by omega⟩
  go_wp2_with (at_make; refine wpList_makeRow _ rfl _ _ _ rfl 70 i0 Tryz.underlying93 HI _ _ _ _ lq rfl rfl (by omega) (by omega) (by omega) ?_)
  intro w6 hrow hx
  have HD6 := Lib.hid (And.intro hrow hx)
  clear hrow hx
  obtain ⟨V, HVV⟩ : ∃ V, Hid (V = num vs) := ⟨_, rfl⟩
  obtain ⟨T, HT⟩ : ∃ T : Nat, Hid (T = num (Ls ++ [0])) := ⟨num (Ls ++ [0]), rfl⟩
  have HVp : Hid (vs.length = m + 2 ∧ 4294967296 ^ (m + 1) ≤ V ∧ V ≤ 4294967296 ^ (m + 2) ∧ 0 < vs.getD (m + 1) 0) := by
    have h1 : 4294967296 ^ (m + 1) ≤ num vs := by rw [HVs.out.2.2.2, Hb.out]; exact HU.out.2.1
    have h2 : num vs < 4294967296 ^ (m + 1 + 1) := by rw [HVs.out.2.2.2, Hb.out]; exact HU.out.2.2
    have hl := len_eq HVs.out.2.2.1 HVs.out.2.1 h1 h2
    have h3 := Tm_last HVs.out.2.2.1 (by intro e; rw [e] at hl; simp at hl)
    rw [hl, Nat.add_sub_cancel] at h3
    exact ⟨hl, by rw [HVV.out]; exact h1, by rw [HVV.out]; exact Nat.le_of_lt h2, Nat.pos_of_ne_zero h3⟩
  have HX2 : Hid (Ext w2 w6) := (HD3.out.1.trans HD5.out).trans HD6.out.2
  have hgq : g < w5.heap.size := HRow.out.lt
  have HG : Hid (w2.heap.size ≤ g) := Nat.le_trans HD3.out.1.size hg
  have HNe : Hid (∀ a, p1 = some a → a.block ≠ g) := by
    intro ad e
    subst e
    rcases HVs.out.1 with ⟨h1, -⟩ | ⟨b2, o2, c2, h1, -, -, h4⟩
    · simp at h1
    · injection h1 with e1
      injection e1 with e1
      subst e1
      have := lt_of_cell (h4 0 (by have := HVp.out.1; omega))
      have := HG.out
      simp only at *
      omega
  go_wp2_with (fail)
  go_loopw [12] (fun v12 wr => ∃ k : Nat, k ≤ lq ∧ v12 = .int .i64 ((k : Int) - 1) ∧
    Hid (Ext w2 wr ∧ ∃ us qs : List Nat, us.length = lq + (m + 2) ∧ qs.length = lq ∧ Wd us ∧ Wd qs ∧ Row wr 70 g us ∧ Row wr 70 w5.heap.size qs ∧
      T = num us + V * (4294967296 ^ k * num (qs.drop k)) ∧ num (us.drop k) < V)) (fun v12 _ => (intOf v12 + 1).toNat)
  case atStart =>
    refine ⟨lq, Nat.le_refl _, ?_, HX2.out, Ls ++ [0], List.replicate lq 0, by simp; omega, by simp, HLs.out.2.1.snoc (by decide), fun z hz => by simp at hz; omega, HRow.out.ext HD6.out.2, HD6.out.1, ?_, ?_⟩
    · go_num
    · rw [HT.out, List.drop_of_length_le (by simp)]; simp [num]
    · rw [List.drop_append_of_le_length (by omega), num_snoc]
      have h1 := num_lt (HLs.out.2.1.drop lq)
      rw [List.length_drop, show Ls.length - lq = m + 1 by omega] at h1
      have := HVp.out.2.1
      simp only [Nat.mul_zero, Nat.add_zero]
      omega
  case round =>
    obtain ⟨k, hk, rfl, HQ⟩ := hrel
    cases k with
    | zero =>
      obtain ⟨hx, us, qs, l1, l2, d1, d2, r1, r2, inv, top⟩ := HQ.out
      have HR := Lib.hid (And.intro r1 r2)
      have HD := Lib.hid (And.intro d1 d2)
      have HLn := Lib.hid (And.intro l1 l2)
      have HX := Lib.hid hx
      rw [Nat.pow_zero, Nat.one_mul, List.drop_zero] at inv
      rw [List.drop_zero] at top
      have HE : Hid (num qs = a / b ∧ num us = (a % b) * 2 ^ u) := div_end inv top (by rw [HT.out, num_snoc, Nat.mul_zero, Nat.add_zero]; exact HLs.out.2.2.2) (by rw [HVV.out]; exact HVs.out.2.2.2) (Nat.two_pow_pos _)
      clear hx r1 r2 d1 d2 inv top l1 l2
      go_wp2_with (fail)
      refine (n_trim _ qs _ (HR.out.2.slTake (by have := HLn.out.2; omega) HLn.out.2.symm) HD.out.2 (by have := HLn.out.2; omega)).mono ?_
      rintro e w7 ⟨q, rfl, rfl, hq⟩
      have Hq := Lib.hid hq
      clear hq
      go_wp2_with (fail)
      have hus : Sl wr (.slice (some ⟨g, 0, none⟩) (Ls.length + 1) cap4) us := by
        have h1 := HR.out.1.slCap (cap := cap4) (by have := HLn.out.1; omega) hgm
        rwa [show us.length = Ls.length + 1 by have := HLn.out.1; omega] at h1
      refine (n_trim _ us _ hus HD.out.1 (by have := HLn.out.1; omega)).mono ?_
      rintro e w7 ⟨r, rfl, rfl, hr⟩
      have Hr := Lib.hid hr
      clear hr hus
      go_wp2_with (fail)
      refine (n_shr _ _ u _ Hr.out (by rw [HE.out.2]; exact fit_up (k := 1048574 + 1) (l := 1048575) (fit_shift (Nat.lt_of_le_of_lt (Nat.mod_le _ _) HA.out) (by omega)) (by decide)) (by omega)).mono ?_
      rintro e w8 ⟨r', rfl, hx, hr⟩
      have Hr' := Lib.hid (And.intro hx hr)
      clear hx hr
      go_wp2_with (fail)
      go_ret2
      refine ⟨_, _, rfl, (HD2.out.trans HX.out).trans Hr'.out.1, ?_, ?_⟩
      · rw [← Hb.out, ← HE.out.1]; exact Hq.out.ext Hr'.out.1
      · have := Hr'.out.2
        rw [HE.out.2, Nat.mul_div_cancel _ (Nat.two_pow_pos _)] at this
        rw [← Hb.out]; exact this
    | succ j =>
      obtain ⟨hx, us, qs, l1, l2, d1, d2, r1, r2, inv, top⟩ := HQ.out
      have hwin := win_all d1 HVp.out.2.2.1 top
      obtain ⟨U, HUU⟩ : ∃ U : Nat, Hid (U = num ((us.drop j).take (m + 3))) := ⟨num ((us.drop j).take (m + 3)), rfl⟩
      obtain ⟨Q, HQQ⟩ : ∃ Q : Nat, Hid (Q = U / V) := ⟨U / V, rfl⟩
      have HUV : Hid (U < 4294967296 * V) := by rw [HUU.out, hwin.2.1]; exact hwin.2.2
      have hQb : Q < 4294967296 := by rw [HQQ.out]; exact Nat.div_lt_of_lt_mul (by rw [Nat.mul_comm]; exact HUV.out)
      have hst := n_step g j m (lq + (m + 2)) (Ls.length + 1 - j) us (cap4 - j) p1 cap1 vs wr r1 l1 (by omega) (by omega) (by omega) (by rw [HVp.out.1]; exact HVs.out.1.ext hx) HVp.out.1 d1 HVs.out.2.1 HVp.out.2.2.2 (by rw [← HUU.out, ← HVV.out]; exact HUV.out) HNe.out
      rw [HVp.out.1, ← HUU.out, ← HVV.out] at hst
      have HST := Lib.hid hst
      have HK := Lib.hid (And.intro hx (And.intro l1 (And.intro l2 (And.intro d1 (And.intro d2 (And.intro r1 (And.intro r2 (And.intro inv top))))))))
      clear hx l1 l2 d1 d2 r1 r2 inv top hwin hst
      go_wp2_with (fail)
      refine HST.out.mono ?_
      rintro e w7 ⟨he, hch, us', l1', d1', r1', t1', t2', t3'⟩
      rw [← HQQ.out] at he
      subst he
      have hrq : Row w7 70 w5.heap.size qs := hch.row HK.out.2.2.2.2.2.2.1 (by omega)
      have hcq := hrq.cell (i := j) (by rw [HK.out.2.2.1]; omega)
      have hfq := hrq.frozen j
      have HR2 : Hid (∀ q : Int, q = (Q : Int) → Row (w7.setCell ⟨w5.heap.size, j, none⟩ (.int .u32 q)) 70 w5.heap.size (qs.set j Q)) := fun q hq => hrq.set _ q Q hq (by rw [HK.out.2.2.1]; omega)
      have HR1 : Hid (∀ u, Row (w7.setCell ⟨w5.heap.size, j, none⟩ u) 70 g us') := fun u => r1'.other (by show g ≠ w5.heap.size; omega) u
      have HX7 : Hid (∀ u, Ext w2 (w7.setCell ⟨w5.heap.size, j, none⟩ u)) := fun u => (hch.ext HK.out.1 HG.out).setNew (by show w2.heap.size ≤ w5.heap.size; exact (HD3.out.1.trans HD5.out).size) u
      have HK7 := Lib.hid (And.intro l1' (And.intro d1' (And.intro t1' (And.intro t2' t3'))))
      clear hch l1' d1' r1' t1' t2' t3' hrq
      go_wp2_with (fail)
      go_roundw
      case rel =>
        refine ⟨j, by omega, by go_num, HX7.out _, us', qs.set j Q, HK7.out.1, by rw [List.length_set]; exact HK.out.2.2.1, HK7.out.2.1, HK.out.2.2.2.2.1.set _ hQb, HR1.out _, HR2.out _ rfl, ?_⟩
        have := div_round (k := j + 1) rfl HK.out.2.2.2.1 (by have := HVp.out.2.1; have := pow_pos32 (m + 1); omega) HVp.out.2.2.1 (by rw [HK.out.2.2.1]; omega) (by rw [HK.out.2.1]; omega) HK.out.2.2.2.2.2.2.2.1 HK.out.2.2.2.2.2.2.2.2 HK7.out.2.2.1 HK7.out.2.2.2.1 (by rw [← HUU.out]; exact HK7.out.2.2.2.2)
        rw [← HUU.out, ← HQQ.out] at this
        exact this
      case measure =>
        show ((j : Int) - 1 + 1).toNat < (((j + 1 : Nat) : Int) - 1 + 1).toNat
        omega
theorem n_div (v u : Value) (a b : Nat) (w : World) (hv : Nt w v a) (hu : Nt w u b) (hb0 : 0 < b) (ha : a < 4294967296 ^ 1048574) (hb : b < 4294967296 ^ 1048574) :
    Calls Tryz.prog 150 #[v, u] w fun e w' => ∃ q r, e = .returned (.tuple #[q, r]) ∧ Ext w w' ∧ Nt w' q (a / b) ∧ Nt w' r (a % b) := by
  by_cases h : a < b
  · exact n_div_lt v u a b w hv hu (fit_up (k := 1048574) (l := 1048576) ha (by decide)) (fit_up (k := 1048574) (l := 1048576) hb (by decide)) h
  · obtain ⟨ys, hs, hw, ht, rfl⟩ := hu
    obtain ⟨p, cap, rfl, -⟩ := hs.form
    match ys, hs, hw, ht, hb0, hb, h with
    | [], _, _, _, hb0, _, _ => simp [num] at hb0
    | [y], hs, hw, ht, hb0, hb, h =>
      have e : num [y] = y := by simp [num]
      rw [e] at *
      exact n_div_one v a y w p cap hv hs hb0 (hw y (by simp)) (fit_up (k := 1048574) (l := 1048575) ha (by decide)) h
    | y :: z :: zs, hs, hw, ht, hb0, hb, h =>
      exact n_div_big v a w p cap zs.length (y :: z :: zs) hv hs hw ht rfl ha h
end Go.Proofs.YtdpjkddllimcoaaGreatDoor
end

section
/- Whole numbers as words: the square root. -/
namespace Fl
open Go Go.RowKit
theorem Sl.unique {w : World} {v : Value} {zs ys : List Nat} (h : Sl w v zs) (k : Sl w v ys) : zs = ys := by
  obtain ⟨p, c, rfl, -, -, h3⟩ := h.form
  obtain ⟨p', c', e, -, -, k3⟩ := k.form
  injection e with e1 e2 e3
  subst e1
  refine List.ext_getElem e2 fun i h1 h2 => ?_
  obtain ⟨b, o, rfl, h4⟩ := h3 (by omega)
  obtain ⟨b', o', e, k4⟩ := k3 (by omega)
  injection e with e
  injection e with e4 e5 e6
  subst e4 e5
  have a1 := h4 i h1
  rw [k4 i h2] at a1
  rw [List.getD_eq_getElem?_getD, List.getD_eq_getElem?_getD, List.getElem?_eq_getElem h1, List.getElem?_eq_getElem h2] at a1
  simp at a1
  omega
theorem Nt.unique {w : World} {v : Value} {a b : Nat} (h : Nt w v a) (k : Nt w v b) : a = b := by
  obtain ⟨zs, h1, -, -, rfl⟩ := h
  obtain ⟨ys, k1, -, -, rfl⟩ := k
  rw [h1.unique k1]
open Classical in
/-- the number that a slice holds. -/
noncomputable def numOf (w : World) (v : Value) : Nat := if h : ∃ n, Nt w v n then h.choose else 0
theorem numOf_eq {w : World} {v : Value} {n : Nat} (h : Nt w v n) : numOf w v = n := by
  unfold numOf
  have he : ∃ n, Nt w v n := ⟨n, h⟩
  rw [dif_pos he]
  exact he.choose_spec.unique h
/-- r is the root of a, cut. -/
def Root (r a : Nat) : Prop := r * r ≤ a ∧ a < (r + 1) * (r + 1)
theorem Root.unique {r s a : Nat} (h : Root r a) (k : Root s a) : r = s := by
  rcases Nat.lt_trichotomy r s with e | e | e
  · have := Nat.mul_le_mul (show r + 1 ≤ s from e) (show r + 1 ≤ s from e)
    have := h.2; have := k.1; omega
  · exact e
  · have := Nat.mul_le_mul (show s + 1 ≤ r from e) (show s + 1 ≤ r from e)
    have := k.2; have := h.1; omega
theorem sq4 (x y : Nat) : 4 * (x * y) ≤ (x + y) * (x + y) := by
  have h : ∀ x d : Nat, 4 * (x * (x + d)) ≤ (x + (x + d)) * (x + (x + d)) := by
    intro x d
    have e : (x + (x + d)) * (x + (x + d)) = 4 * (x * (x + d)) + d * d := by
      simp only [Nat.add_mul, Nat.mul_add, Nat.mul_comm d x]
      omega
    omega
  rcases Nat.le_total x y with h1 | h1
  · obtain ⟨d, rfl⟩ : ∃ d, y = x + d := ⟨y - x, by omega⟩
    exact h x d
  · obtain ⟨d, rfl⟩ : ∃ d, x = y + d := ⟨x - y, by omega⟩
    rw [Nat.mul_comm (y + d) y, Nat.add_comm (y + d) y]
    exact h y d
theorem newton {a x : Nat} (hx : 0 < x) : a < ((x + a / x) / 2 + 1) * ((x + a / x) / 2 + 1) := by
  have h1 : a < x * (a / x + 1) := Nat.lt_mul_div_succ a hx
  generalize a / x = q at *
  have h2 := sq4 x (q + 1)
  have h3 : x + (q + 1) ≤ 2 * ((x + q) / 2 + 1) := by omega
  have h4 := Nat.mul_le_mul h3 h3
  generalize (x + q) / 2 + 1 = y at *
  have e : 2 * y * (2 * y) = 4 * (y * y) := by rw [Nat.mul_assoc, Nat.mul_left_comm y 2 y, ← Nat.mul_assoc]
  omega
theorem newton_end {a x : Nat} (hu : a < (x + 1) * (x + 1)) (h : ¬ (x + a / x) / 2 < x) : Root x a := by
  refine ⟨?_, hu⟩
  have h1 : x ≤ a / x := by omega
  have h2 := Nat.mul_le_mul_left x h1
  have h3 := Nat.mul_div_le a x
  omega
theorem newton_pos {a x : Nat} (ha : 0 < a) (hx : 0 < x) : 0 < (x + a / x) / 2 := by
  rcases Nat.eq_zero_or_pos ((x + a / x) / 2) with h | h
  · have h1 := newton (a := a) hx
    rw [h] at h1
    simp at h1
    omega
  · exact h
theorem newton_first (a : Nat) : a < 2 ^ ((bl a + 1) / 2) * 2 ^ ((bl a + 1) / 2) := by
  rw [← Nat.pow_add]
  exact Nat.lt_of_lt_of_le (bl_lt a) (Nat.pow_le_pow_right (by decide) (by omega))
theorem bl_le_of {a k : Nat} (h : a < 2 ^ k) : bl a ≤ k := by
  rcases Nat.eq_zero_or_pos a with h0 | h0
  · subst h0; rw [bl_zero]; omega
  · have h1 := bl_le (Nat.ne_of_gt h0)
    rcases Nat.lt_or_ge k (bl a) with h2 | h2
    · have := Nat.pow_le_pow_right (show 0 < 2 by decide) (show k ≤ bl a - 1 by omega)
      omega
    · exact h2
theorem bl_fit {a k : Nat} (h : a < 4294967296 ^ k) : bl a ≤ 32 * k := bl_le_of (by rw [← pow32]; exact h)
theorem fit_add {n m k : Nat} (h : n < 4294967296 ^ k) (hm : m < 4294967296 ^ k) : n + m < 4294967296 ^ (k + 1) := by rw [Nat.pow_succ]; omega
theorem fit_sum {n m k l : Nat} (h : n < 4294967296 ^ k) (hm : m < 4294967296 ^ k) (hl : l = k + 1) : n + m < 4294967296 ^ l := by subst hl; exact fit_add h hm
theorem fit_lt {n m k : Nat} (h : n ≤ m) (hm : m < 4294967296 ^ k) : n < 4294967296 ^ k := by omega
end Fl
namespace Go.Proofs.YtdpjkddllimcoaaGreatDoor
open Go.RowKit Fl
set_option maxRecDepth 20000 in
theorem n_sqrt (v : Value) (a : Nat) (w : World) (hv : Nt w v a) (ha : a < 4294967296 ^ 1048570) :
    Calls Tryz.prog 174 #[v] w fun e w' => ∃ v' r, e = .returned v' ∧ Ext w w' ∧ Nt w' v' r ∧ Root r a := by
  obtain ⟨p, cap, l, rfl, hl⟩ : ∃ p cap l, v = .slice p l cap ∧ Hid (l = 0 ↔ a = 0) := by
    obtain ⟨zs, z1, z2, z3, z4⟩ := hv
    obtain ⟨pv, capv, e, -⟩ := z1.form
    exact ⟨pv, capv, _, e, by rw [← z4]; exact ⟨fun h => by rw [List.eq_nil_of_length_eq_zero h]; rfl, fun h => by rw [(num_zero z3).1 h]; rfl⟩⟩
  have HV := Lib.hid hv
  have HA := Lib.hid ha
  have HB : Hid (bl a ≤ 33554240) := by
    have := bl_fit ha
    clear ha
    show bl a ≤ _
    omega
  by_cases h0 : l = 0
  · subst h0
    have h1 := hl.out.1 rfl
    clear hv ha hl
    go_enter Tryz.func174, Tryz.ntmps174
    go_wp2_with (fail)
    go_ret
    exact ⟨_, 0, rfl, Ext.refl _, Nt.nil _, by subst h1; exact ⟨by decide, by decide⟩⟩
  · have hap : Hid (0 < a) := Nat.pos_of_ne_zero (fun e => h0 (hl.out.2 e))
    have t0 : ((l : Int) == 0) = false := by simp; omega
    obtain ⟨B, HBB⟩ : ∃ B : Nat, Hid (B = bl a) := ⟨bl a, rfl⟩
    have hBb : B ≤ 33554240 := by rw [HBB.out]; exact HB.out
    clear hv ha hl h0
    go_enter Tryz.func174, Tryz.ntmps174
    go_wp2_with (fail)
    refine (n_small 1 (by decide) _).mono ?_
    rintro e w1 ⟨v1, rfl, hx, hn⟩
    have HD1 := Lib.hid (And.intro hx hn)
    clear hx hn
    go_wp2_with (fail)
    refine (n_bitLen _ a _ (HV.out.ext HD1.out.1) (fit_up (k := 1048570) (l := 1048575) HA.out (by decide))).mono ?_
    rintro e w1' ⟨he, rfl⟩
    rw [← HBB.out] at he
    subst he
    go_wp2_with (fail)
    refine (n_shl _ 1 ((B + 1) / 2) _ HD1.out.2 (fit_word (l := 1048575) (by decide) (by decide)) (by omega)).mono ?_
    rintro e w2 ⟨v2, rfl, hx, hn⟩
    rw [Nat.one_mul] at hn
    have HD2 := Lib.hid (And.intro (HD1.out.1.trans hx) hn)
    have HF : Hid (a < 2 ^ ((B + 1) / 2) * 2 ^ ((B + 1) / 2)) := by rw [HBB.out]; exact newton_first a
    have HFb : Hid (2 ^ ((B + 1) / 2) < 4294967296 ^ 1048570) := fit_of (k := (B + 1) / 2 + 1) (l := 1048570) (Nat.pow_lt_pow_right (by decide) (by omega)) (by omega)
    clear hx hn
    go_wp2_with (fail)
    go_loopw [3] (fun v3 wr => ∃ x : Nat, Hid (Ext w wr ∧ Nt wr v3 x ∧ 0 < x ∧ x < 4294967296 ^ 1048570 ∧ a < (x + 1) * (x + 1))) (fun v3 wr => numOf wr v3)
    case atStart =>
      refine ⟨2 ^ ((B + 1) / 2), HD2.out.1, HD2.out.2, Nat.two_pow_pos _, HFb.out, ?_⟩
      have := HF.out
      have := Nat.mul_le_mul (Nat.le_succ (2 ^ ((B + 1) / 2))) (Nat.le_succ (2 ^ ((B + 1) / 2)))
      simp only [Nat.succ_eq_add_one] at *
      omega
    case round =>
      obtain ⟨x, HQ⟩ := hrel
      obtain ⟨y, HY⟩ : ∃ y : Nat, Hid (y = (x + a / x) / 2) := ⟨(x + a / x) / 2, rfl⟩
      have HXb := Lib.hid HQ.out.2.2.2.1
      have HQb : Hid (a / x < 4294967296 ^ 1048570) := fit_lt (k := 1048570) (Nat.div_le_self a x) HA.out
      have HSb : Hid (x + a / x < 4294967296 ^ 1048571) := fit_sum (k := 1048570) (l := 1048571) HXb.out HQb.out (by decide)
      have HYb : Hid (y < 4294967296 ^ 1048571) := fit_lt (k := 1048571) (by rw [HY.out]; exact Nat.div_le_self _ 2) HSb.out
      go_wp2_with (fail)
      refine (n_div _ u3 a x _ (HV.out.ext HQ.out.1) HQ.out.2.1 HQ.out.2.2.1 (fit_up (k := 1048570) (l := 1048574) HA.out (by decide)) (fit_up (k := 1048570) (l := 1048574) HXb.out (by decide))).mono ?_
      rintro e w3 ⟨q, r0, rfl, hx, hq, -⟩
      have HD3 := Lib.hid (And.intro hx hq)
      clear hx hq
      go_wp2_with (fail)
      refine (n_add u3 q x (a / x) _ (HQ.out.2.1.ext HD3.out.1) HD3.out.2 (fit_up (k := 1048570) (l := 1048575) HXb.out (by decide)) (fit_up (k := 1048570) (l := 1048575) HQb.out (by decide))).mono ?_
      rintro e w4 ⟨s, rfl, hx, hs⟩
      have HD4 := Lib.hid (And.intro (HD3.out.1.trans hx) hs)
      clear hx hs
      go_wp2_with (fail)
      refine (n_shr s (x + a / x) 1 _ HD4.out.2 (fit_up (k := 1048571) (l := 1048575) HSb.out (by decide)) (by decide)).mono ?_
      rintro e w5 ⟨vy, rfl, hx, hs⟩
      rw [Nat.pow_one, ← HY.out] at hs
      have HD5 := Lib.hid (And.intro (HD4.out.1.trans hx) hs)
      clear hx hs
      go_wp2_with (fail)
      by_cases hy : y < x
      · refine (n_cmp_lt vy u3 y x _ HD5.out.2 (HQ.out.2.1.ext HD5.out.1) (fit_up (k := 1048571) (l := 1048576) HYb.out (by decide)) (fit_up (k := 1048570) (l := 1048576) HXb.out (by decide)) hy).mono ?_
        rintro e w6 ⟨rfl, hd⟩
        have HD6 := Lib.hid hd.ext
        clear hd
        go_wp2_with (fail)
        go_roundw
        case rel =>
          refine ⟨y, (HQ.out.1.trans HD5.out.1).trans HD6.out, HD5.out.2.ext HD6.out, ?_, fit_lt (k := 1048570) (Nat.le_of_lt hy) HXb.out, ?_⟩
          · rw [HY.out]; exact newton_pos hap.out HQ.out.2.2.1
          · rw [HY.out]; exact newton HQ.out.2.2.1
        case measure =>
          show numOf w6 vy < numOf wr u3
          rw [numOf_eq (HD5.out.2.ext HD6.out), numOf_eq HQ.out.2.1]
          exact hy
      · refine (n_cmp_ge vy u3 y x _ HD5.out.2 (HQ.out.2.1.ext HD5.out.1) (fit_up (k := 1048571) (l := 1048576) HYb.out (by decide)) (fit_up (k := 1048570) (l := 1048576) HXb.out (by decide)) hy).mono ?_
        rintro e w6 ⟨c, hc0, hc1, rfl, hd⟩
        have HD6 := Lib.hid hd.ext
        have t1 : decide (0 ≤ c) = true := by simp; omega
        have HH := Lib.hid hy
        clear hd hc0 hc1 hy
        go_wp2_with (fail)
        go_ret
        refine ⟨_, x, rfl, (HQ.out.1.trans HD5.out.1).trans HD6.out, (HQ.out.2.1.ext HD5.out.1).ext HD6.out, newton_end HQ.out.2.2.2.2 ?_⟩
        rw [← HY.out]; exact HH.out
end Go.Proofs.YtdpjkddllimcoaaGreatDoor
end
