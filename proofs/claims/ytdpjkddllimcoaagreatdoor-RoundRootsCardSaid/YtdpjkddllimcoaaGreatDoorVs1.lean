/- A part of the proof (2 of 18) of this: RoundSums: for every two floats and every mode the program's rounded sum and difference are the document's: the law returns true; condition: the table of package math/bits reads as its text lays it. -/
import Derived.OwnWalk
import Derived.Test.YtdpjkddllimcoaaGreatDoorVs0

section
/- Whole numbers as words, the lowest first: plain facts, and what it is that a slice in memory holds such words. -/
namespace Fl
open Go Go.RowKit

/-- the number that words tell. -/
def num : List Nat → Nat
  | [] => 0
  | z :: zs => z + 4294967296 * num zs
/-- each is a word. -/
def Wd (zs : List Nat) : Prop := ∀ z ∈ zs, z < 4294967296
/-- no nought at the end. -/
def Tm (zs : List Nat) : Prop := zs.getLast? ≠ some 0
theorem num_append (a b : List Nat) : num (a ++ b) = num a + 4294967296 ^ a.length * num b := by
  induction a with
  | nil => simp [num]
  | cons z zs ih => simp only [List.cons_append, num, ih, List.length_cons, Nat.pow_succ]; rw [Nat.mul_add, Nat.add_assoc, ← Nat.mul_assoc, Nat.mul_comm 4294967296 (4294967296 ^ zs.length)]
theorem num_snoc (a : List Nat) (z : Nat) : num (a ++ [z]) = num a + 4294967296 ^ a.length * z := by rw [num_append]; simp [num]
theorem num_lt {zs : List Nat} (h : Wd zs) : num zs < 4294967296 ^ zs.length := by
  induction zs with
  | nil => simp [num]
  | cons z zs ih =>
    have h1 := h z (by simp)
    have h2 := ih (fun y hy => h y (by simp [hy]))
    simp only [num, List.length_cons, Nat.pow_succ]
    omega
theorem Wd.append {a b : List Nat} (ha : Wd a) (hb : Wd b) : Wd (a ++ b) := fun z hz => by
  rcases List.mem_append.1 hz with h | h
  · exact ha z h
  · exact hb z h
theorem Wd.snoc {a : List Nat} {z : Nat} (ha : Wd a) (hz : z < 4294967296) : Wd (a ++ [z]) := ha.append (fun y hy => by simp at hy; omega)
theorem Wd.take {a : List Nat} (ha : Wd a) (n : Nat) : Wd (a.take n) := fun z hz => ha z (List.mem_of_mem_take hz)
theorem Wd.drop {a : List Nat} (ha : Wd a) (n : Nat) : Wd (a.drop n) := fun z hz => ha z (List.mem_of_mem_drop hz)
theorem Wd.getD {a : List Nat} (ha : Wd a) (i : Nat) : a.getD i 0 < 4294967296 := by
  rw [List.getD_eq_getElem?_getD]
  rcases h : a[i]? with _ | z
  · simp
  · simpa using ha z (List.mem_of_getElem? h)
theorem Wd.nil : Wd [] := fun z hz => by simp at hz
theorem num_nil : num [] = 0 := rfl
theorem Tm.nil : Tm [] := by unfold Tm; simp
theorem pow_pos32 (k : Nat) : 0 < 4294967296 ^ k := Nat.pow_pos (by decide)
/-- trimmed words reach their length. -/
theorem num_ge {zs : List Nat} (h : Tm zs) (h0 : zs ≠ []) : 4294967296 ^ (zs.length - 1) ≤ num zs := by
  obtain ⟨a, z, rfl⟩ : ∃ a z, zs = a ++ [z] := ⟨zs.dropLast, zs.getLast h0, (List.dropLast_concat_getLast h0).symm⟩
  unfold Tm at h
  simp at h
  rw [num_snoc]
  simp only [List.length_append, List.length_cons, List.length_nil, Nat.zero_add, Nat.add_sub_cancel]
  have := Nat.le_mul_of_pos_right (4294967296 ^ a.length) (Nat.pos_of_ne_zero h)
  omega
theorem num_zero {zs : List Nat} (h : Tm zs) : num zs = 0 ↔ zs = [] := by
  constructor
  · intro h0
    rcases Classical.em (zs = []) with e | e
    · exact e
    · have := num_ge h e
      have := pow_pos32 (zs.length - 1)
      omega
  · rintro rfl; rfl
theorem len_le {zs : List Nat} {k : Nat} (h : Tm zs) (hk : num zs < 4294967296 ^ k) : zs.length ≤ k := by
  rcases Classical.em (zs = []) with e | e
  · subst e; simp
  · have h1 := num_ge h e
    rcases Nat.lt_or_ge k zs.length with h2 | h2
    · have := Nat.pow_le_pow_right (show 0 < 4294967296 by decide) (show k ≤ zs.length - 1 by omega)
      omega
    · exact h2
theorem num_inj : ∀ {a b : List Nat}, Wd a → Wd b → a.length = b.length → num a = num b → a = b
  | [], [], _, _, _, _ => rfl
  | [], _ :: _, _, _, h, _ => by simp at h
  | _ :: _, [], _, _, h, _ => by simp at h
  | x :: a, y :: b, ha, hb, hl, hn => by
    have h1 := ha x (by simp)
    have h2 := hb y (by simp)
    simp only [num] at hn
    have h3 : x = y := by omega
    have h4 : num a = num b := by omega
    rw [h3, num_inj (fun z hz => ha z (by simp [hz])) (fun z hz => hb z (by simp [hz])) (by simpa using hl) h4]
theorem words_inj {a b : List Nat} (ha : Wd a) (hb : Wd b) (ta : Tm a) (tb : Tm b) (h : num a = num b) : a = b := by
  have h1 := len_le ta (k := b.length) (by rw [h]; exact num_lt hb)
  have h2 := len_le tb (k := a.length) (by rw [← h]; exact num_lt ha)
  exact num_inj ha hb (by omega) h
theorem num_take_drop (a : List Nat) (n : Nat) : num a = num (a.take n) + 4294967296 ^ (a.take n).length * num (a.drop n) := by
  rw [← num_append, List.take_append_drop]

theorem take_snoc {zs : List Nat} {k : Nat} (hk : k < zs.length) : zs.take (k + 1) = zs.take k ++ [zs.getD k 0] := by
  rw [List.take_add_one, List.getD_eq_getElem?_getD, List.getElem?_eq_getElem hk]; rfl
theorem num_take_succ {zs : List Nat} {k : Nat} (hk : k < zs.length) : num (zs.take (k + 1)) = num (zs.take k) + 4294967296 ^ k * zs.getD k 0 := by
  rw [take_snoc hk, num_snoc, List.length_take, Nat.min_eq_left (Nat.le_of_lt hk)]
theorem Tm_take_succ {zs : List Nat} {k : Nat} (hk : k < zs.length) (h : zs.getD k 0 ≠ 0) : Tm (zs.take (k + 1)) := by
  rw [take_snoc hk]; unfold Tm; rw [List.getLast?_append]; simpa using h

/-- v is a slice that holds the words zs. -/
def Sl (w : World) (v : Value) (zs : List Nat) : Prop :=
  (v = .slice none 0 0 ∧ zs = []) ∨ ∃ b off cap, v = .slice (some ⟨b, off, none⟩) zs.length cap ∧ zs.length ≤ cap ∧ cap ≤ maxLen ∧ ∀ i, i < zs.length → w.cell? ⟨b, off + i, none⟩ = some (.int .u32 ((zs.getD i 0 : Nat) : Int))
def lenOf : Value → Nat | .slice _ n _ => n | _ => 0
/-- a slice that holds words, its address a variable. -/
theorem Sl.form {w : World} {v : Value} {zs : List Nat} (h : Sl w v zs) : ∃ p cap, v = .slice p zs.length cap ∧ zs.length ≤ cap ∧ cap ≤ maxLen ∧ (0 < zs.length → ∃ b off, p = some ⟨b, off, none⟩ ∧ ∀ i, i < zs.length → w.cell? ⟨b, off + i, none⟩ = some (.int .u32 ((zs.getD i 0 : Nat) : Int))) := by
  rcases h with ⟨rfl, rfl⟩ | ⟨b, off, cap, h1, h2, h3, h4⟩
  · exact ⟨none, 0, rfl, Nat.le_refl _, Nat.zero_le _, fun h => by simp at h⟩
  · exact ⟨some ⟨b, off, none⟩, cap, h1, h2, h3, fun _ => ⟨b, off, rfl, h4⟩⟩
/-- its first words are a slice, too. -/
theorem Sl.take {w : World} {p : Option Addr} {n cap : Nat} {zs : List Nat} (h : Sl w (.slice p n cap) zs) (m : Nat) (hm : m ≤ zs.length) : Sl w (.slice p m cap) (zs.take m) := by
  have hl : (zs.take m).length = m := by rw [List.length_take]; omega
  rcases h with ⟨h, rfl⟩ | ⟨b, off, cap', h1, h2, h3, h4⟩
  · simp at hm
    subst hm
    injection h with e1 e2 e3
    subst e1 e2 e3
    exact .inl ⟨rfl, rfl⟩
  · injection h1 with e1 e2 e3
    subst e1 e2 e3
    refine .inr ⟨b, off, cap, by rw [hl], by omega, h3, fun i hi => ?_⟩
    rw [hl] at hi
    rw [h4 i (by omega)]
    simp [List.getD_eq_getElem?_getD, hi]
/-- v is a slice that holds the number n, trimmed. -/
def Nt (w : World) (v : Value) (n : Nat) : Prop := ∃ zs, Sl w v zs ∧ Wd zs ∧ Tm zs ∧ num zs = n
theorem Sl.ext {w w' : World} {v : Value} {zs : List Nat} (h : Sl w v zs) (hx : Ext w w') : Sl w' v zs := by
  rcases h with h | ⟨b, off, cap, h1, h2, h3, h4⟩
  · exact .inl h
  · exact .inr ⟨b, off, cap, h1, h2, h3, fun i hi => hx.cell_some (h4 i hi)⟩
theorem Nt.ext {w w' : World} {v : Value} {n : Nat} (h : Nt w v n) (hx : Ext w w') : Nt w' v n := by
  obtain ⟨zs, h1, h2⟩ := h
  exact ⟨zs, h1.ext hx, h2⟩
theorem Nt.nil (w : World) : Nt w (.slice none 0 0) 0 := ⟨[], .inl ⟨rfl, rfl⟩, Wd.nil, Tm.nil, rfl⟩
theorem heap_new (w : World) (o : Obj) : (w.alloc o).heap[w.heap.size]? = some o := by
  show (w.heap.push o)[w.heap.size]? = _
  simp
theorem cell_new (w : World) (cs : Array Value) (t : TypeId) (i : Nat) : (w.alloc (.cells cs t)).cell? ⟨w.heap.size, i, none⟩ = cs[i]? := by
  simp only [World.cell?, heap_new]; rfl
/-- a word as a cell. -/
def W32 (z : Nat) : Value := .int .u32 ((z : Nat) : Int)
theorem W32_one (z : Nat) : (W32 z).oneCell' = true := rfl
theorem Sl.of_own {w : World} {base e n : Nat} {v : Value} {zs : List Nat} (h : w.ownsRow base e 1 v n (zs.map W32)) : Sl w v zs := by
  obtain ⟨hl, h⟩ := h
  rw [List.length_map, Nat.mul_one] at hl
  rcases h with ⟨h1, h2⟩ | ⟨g, cap, cur, h1, h2, h3, h4, h5, h6, h7⟩
  · subst h2
    exact .inl ⟨h1, List.eq_nil_of_length_eq_zero hl⟩
  · refine .inr ⟨g, 0, cap, by rw [h1, hl], by omega, h5, fun i hi => ?_⟩
    rw [Nat.mul_one] at h7
    have e1 : w.cell? ⟨g, 0 + i, none⟩ = cur[i]? := by simp only [World.cell?, Nat.zero_add, h3]; rfl
    rw [e1, ← Array.getElem?_toList]
    have e2 : (cur.toList.take n)[i]? = cur.toList[i]? := by rw [List.getElem?_take, if_pos (by omega)]
    rw [← e2, h7, List.getElem?_map, List.getElem?_eq_getElem hi, List.getD_eq_getElem?_getD, List.getElem?_eq_getElem hi]
    rfl
theorem Ext.grown {a w w' : World} {row : Option Nat} (h : Ext a w) (hg : w.grownBy w' row) (hr : ∀ k, row = some k → a.heap.size ≤ k) : Ext a w' :=
  Ext.of_below (h.below.grown hg h.size hr)
theorem num_take_succ' (zs : List Nat) (k : Nat) : num (zs.take (k + 1)) = num (zs.take k) + 4294967296 ^ k * zs.getD k 0 := by
  rcases Nat.lt_or_ge k zs.length with h | h
  · exact num_take_succ h
  · rw [List.take_of_length_le (by omega), List.take_of_length_le h, List.getD_eq_getElem?_getD, List.getElem?_eq_none h]; simp
/-- one round of a sum: the word that is laid, the carry that is left. -/
theorem sum_round {os : List Nat} {k C S y : Nat} (hl : os.length = k) (h : num os + 4294967296 ^ k * C = S) : num (os ++ [(C + y) % 4294967296]) + 4294967296 ^ (k + 1) * ((C + y) / 4294967296) = S + 4294967296 ^ k * y := by
  rw [num_snoc, hl, Nat.pow_succ, Nat.add_assoc, Nat.mul_assoc, ← Nat.mul_add, Nat.mod_add_div, Nat.mul_add, ← Nat.add_assoc, h]
/-- what a literal of one word lays, cell by cell. -/
theorem lay1 (w : World) (u : Value) (t : TypeId) (j : Nat) (u' : Value) (h : ([u] : List Value)[j]? = some u') : (w.alloc (.cells #[u] t)).cell? ((⟨w.heap.size, 0, none⟩ : Addr).add j) = some u' := by
  match j, h with
  | 0, h =>
    simp at h
    subst h
    exact cell_new w #[u] t 0
theorem one1 (k : IntKind) (n : Int) (u : Value) (h : u ∈ ([.int k n] : List Value)) : u.oneCell' = true := by
  simp at h
  subst h
  rfl
theorem map_snoc (os : List Nat) (n : Nat) (q : Int) (h : q = (n : Int)) : os.map W32 ++ [.int .u32 q] = (os ++ [n]).map W32 := by
  rw [List.map_append, h]; rfl
theorem Tm_of_ge {zs : List Nat} (hw : Wd zs) (h : zs ≠ [] → 4294967296 ^ (zs.length - 1) ≤ num zs) : Tm zs := by
  intro hl
  rcases List.eq_nil_or_concat zs with e | ⟨a, z, rfl⟩
  · subst e; simp at hl
  · have h1 := h (by simp)
    simp at hl
    subst hl
    rw [List.concat_eq_append] at *
    have h2 := num_lt (zs := a) (fun y hy => hw y (by simp [hy]))
    rw [num_snoc] at h1
    simp at h1
    omega
theorem Tm_snoc {zs : List Nat} {z : Nat} (h : z ≠ 0) : Tm (zs ++ [z]) := by unfold Tm; simpa using h
section
variable {P : Program} {ops : Array Oper} {rest : List Oper} {o : Oper} {a : Act} {Q : Exit → Act → World → Prop}
/-- a make of words, with room behind them. -/
theorem wpList_make32 (w : World) (hg : o.guard = none) (l c : Operand) (t : TypeId) (hop : o.op = Op.makeSlice t l c) (e : TypeId) (i : TypeInfo) (h1 : P.underlying t = some (.slice e))
    (HI : Hid (P.info? e = some i ∧ i.zero = some (.int .u32 0) ∧ i.size = 1 ∧ i.bytes = 4)) (kl kc : IntKind) (L C : Int) (n m : Nat) (hl : a.eval l = .int kl L) (hc : a.eval c = .int kc C) (hL : L = (n : Int)) (hC : C = (m : Int)) (hnm : n ≤ m) (hm : m ≤ 4194304)
    (hK : ∀ w', w'.ownsRow w.heap.size e 1 (.slice (some ⟨w.heap.size, 0, none⟩) n m) n ((List.replicate n 0).map W32) → Ext w w' → wpList P ops Q rest (a.put o.dst (.slice (some ⟨w.heap.size, 0, none⟩) n m)) w') :
    wpList P ops Q (o :: rest) a w := by
  obtain ⟨h2, h3, h4, h5⟩ := HI
  refine wpList_plain hg fun K hK' => ?_
  have hrun := run_make (P := P) w t e i _ h1 h2 h3 kl kc (n : Int) (m : Int) (by omega) (by omega) (by rw [h5]; omega) (by omega)
  simp only [Int.toNat_natCast] at hrun
  subst hL
  subst hC
  unfold Oper.wp
  simp [execOp, hop, hl, hc, hrun, Result.andThen]
  refine hK' _ _ (hK _ ⟨by simp, .inr ⟨w.heap.size, m, _, rfl, Nat.le_refl _, heap_new w _, hnm, by unfold maxLen; omega, ?_, ?_⟩⟩ ((Ext.refl w).alloc _))
  · rw [size_madeCells, h4]
  · rw [h4, show (Value.int IntKind.u32 0).cells = #[.int .u32 0] from rfl, toList_madeCells_one, List.take_replicate, List.map_replicate, Nat.mul_one, Nat.mul_one, Nat.min_eq_left hnm]
    rfl
/-- an append of one word, within the capacity, to a row of the call's own; w0: the world that the call began in. -/
theorem wpList_push32 {w w0 : World} (hg : o.guard = none) (s x : Operand) (t : TypeId) (hop : o.op = Op.call { callee := Callee.builtin Builtin.append, args := #[s, x], argTypes := #[t, t] })
    (base : Nat) (e : TypeId) (i : TypeInfo) (h1 : P.underlying t = some (.slice e)) (HI : Hid (P.info? e = some i ∧ i.zero = some (.int .u32 0) ∧ i.size = 1 ∧ i.bytes = 4))
    (g k cap : Nat) (os : List Nat) (q : Int) (d : Nat) (t' : TypeId) (hs : a.eval s = .slice (some ⟨g, 0, none⟩) k cap) (hx : a.eval x = .slice (some ⟨w.heap.size, 0, none⟩) 1 1) (hown : w.ownsRow base e 1 (.slice (some ⟨g, 0, none⟩) k cap) k (os.map W32)) (hX : Ext w0 w) (hgb : w0.heap.size ≤ g) (b1 : k < cap) (hq : q = (d : Int))
    (hK : ∀ w', w'.ownsRow base e 1 (.slice (some ⟨g, 0, none⟩) (k + 1) cap) (k + 1) ((os ++ [d]).map W32) → Ext w0 w' → wpList P ops Q rest (a.put o.dst (.slice (some ⟨g, 0, none⟩) (k + 1) cap)) w') :
    wpList P ops Q (o :: rest) a (w.alloc (.cells #[.int .u32 q] t')) :=
  wpList_append_fits _ hg s x t hop base e i 1 h1 HI.out.1 HI.out.2.2.1 g k cap (os.map W32) hs (hown.alloc _) ⟨w.heap.size, 0, none⟩ 1 1 [.int .u32 q] hx rfl (lay1 _ _ _) (one1 _ _) (by omega)
    (fun w' h hg => hK w' (by rw [map_snoc os d q hq] at h; exact h) ((hX.alloc _).grown hg (fun k hk => by injection hk with hk; omega)))
end
end Fl
end
