/- A part of the proof (2 of 4) of this: RoundProducts: for every two floats and every mode the program's rounded product and quotient are the document's: the law returns true; condition: the table of package math/bits reads as its text lays it. -/
import Derived.Deep.RegionLaw
import Derived.Test.YtdpjkddllimcoaaGreatDoorVp0

section
/- The reference's long division: plain facts; an append of all words to a row of the call's own. -/
namespace Fl
open Go Go.RowKit
theorem guess_start {T y1 y2 x3 D R U V M : Nat} (hy : 0 < y1) (hx3 : x3 < 4294967296) (hD : D = T / y1) (hR : R = T % y1) (hU : U < (T * 4294967296 + x3 + 1) * M) (hV : (y1 * 4294967296 + y2) * M ≤ V) : D * y1 + R = T ∧ U < (D + 1) * V := by
  subst hR
  have h0 := Nat.div_add_mod T y1
  rw [← hD, Nat.mul_comm] at h0
  refine ⟨h0, ?_⟩
  have h2 : T < (D + 1) * y1 := by rw [hD, Nat.mul_comm]; exact Nat.lt_mul_div_succ T hy
  have h3 := Nat.mul_le_mul_left (D + 1) hV
  have h4 : (T * 4294967296 + x3 + 1) * M ≤ ((D + 1) * y1 * 4294967296) * M := Nat.mul_le_mul_right M (by omega)
  have h5 : ((D + 1) * y1 * 4294967296) * M ≤ (D + 1) * ((y1 * 4294967296 + y2) * M) := by
    rw [← Nat.mul_assoc (D + 1)]
    refine Nat.mul_le_mul_right M ?_
    rw [Nat.mul_add, ← Nat.mul_assoc]; omega
  omega
theorem guess_stop {T y1 y2 x3 D R U V M : Nat} (h0 : D * y1 + R = T) (hy : 0 < y1) (hD : D < 4294967296) (hU : (T * 4294967296 + x3) * M ≤ U) (hV : V < (y1 * 4294967296 + y2 + 1) * M) (h : D * y2 ≤ R * 4294967296 + x3) : (D - 1) * V ≤ U :=
  guess_low hV hU (by omega) (guess_ok rfl rfl (by omega) (by omega) h)
theorem guess_down {T y1 y2 x3 D R U V M : Nat} (h0 : (D + 1) * y1 + R = T) (hU : U < (T * 4294967296 + x3 + 1) * M) (hV : (y1 * 4294967296 + y2) * M ≤ V) (h : R * 4294967296 + x3 < (D + 1) * y2) : U < (D + 1) * V :=
  guess_high hV hU (guess_no rfl rfl (by omega) (by omega) h)
theorem guess_over {D U V : Nat} (hU : U < 4294967296 * V) (h : 4294967296 ≤ D + 1) : U < (D + 1) * V := Nat.lt_of_lt_of_le hU (Nat.mul_le_mul_right V h)
theorem guess_next {D y1 R T : Nat} (h : (D + 1) * y1 + R = T) : D * y1 + (R + y1) = T := by rw [Nat.add_mul, Nat.one_mul] at h; omega
theorem guess_top {x1 x2 x3 y1 y2 U V M : Nat} (hy2 : y2 < 4294967296) (hUV : U < 4294967296 * V) (hU : ((x1 * 4294967296 + x2) * 4294967296 + x3) * M ≤ U) (hV : V < (y1 * 4294967296 + y2 + 1) * M) : x1 ≤ y1 := by
  have h1 : 4294967296 * V < 4294967296 * ((y1 * 4294967296 + y2 + 1) * M) := Nat.mul_lt_mul_of_pos_left hV (by decide)
  rw [← Nat.mul_assoc] at h1
  have h2 := Nat.lt_of_mul_lt_mul_right (Nat.lt_of_le_of_lt hU (Nat.lt_trans hUV h1))
  omega
theorem guess_break {x1 x2 T y1 y2 x3 D R : Nat} (hT : T = x1 * 4294967296 + x2) (hx2 : x2 < 4294967296) (hxy : x1 ≤ y1) (h0 : D * y1 + R = T) (hR : 4294967296 ≤ R) (hy2 : y2 < 4294967296) : D < 4294967296 ∧ D * y2 ≤ R * 4294967296 + x3 := by
  have h1 : D * y1 < 4294967296 * y1 := by
    have : x1 * 4294967296 ≤ y1 * 4294967296 := Nat.mul_le_mul_right _ hxy
    omega
  have h2 := Nat.lt_of_mul_lt_mul_right h1
  refine ⟨h2, ?_⟩
  have h3 : D * y2 ≤ 4294967295 * 4294967295 := Nat.mul_le_mul (by omega) (by omega)
  have h4 := Nat.mul_le_mul_right 4294967296 hR
  omega
/-- two differences, wrapped: the word that is laid, the borrow that is left. -/
theorem off_word {x L Bo D0 D1 : Nat} (hx : x < 4294967296) (hL : L < 4294967296) (hBo : Bo ≤ 1) (h0 : L ≤ x ∧ D0 = x - L ∨ x < L ∧ D0 = x + 18446744073709551616 - L) (h1 : Bo ≤ D0 ∧ D1 = D0 - Bo ∨ D0 < Bo ∧ D1 = D0 + 18446744073709551616 - Bo) :
    x + 4294967296 * (D1 / 9223372036854775808) = D1 % 4294967296 + (L + Bo) ∧ D1 / 9223372036854775808 ≤ 1 ∧ D1 < 18446744073709551616 := by omega
theorem up_spec2 {zs : List Nat} {m u : Nat} (hw : Wd zs) (ht : Tm zs) (hl : zs.length = m + 1) (hu : u = 31 - (bl (num zs) - 1) % 32) : u < 32 ∧ 4294967296 ^ m ≤ num zs * 2 ^ u ∧ num zs * 2 ^ u < 4294967296 ^ (m + 1) ∧ 0 < bl (num zs) ∧ bl (num zs) ≤ 32 * (m + 1) := by
  have h0 : zs ≠ [] := by intro e; subst e; simp at hl
  have h4 := num_ge ht h0
  rw [hl, Nat.add_sub_cancel] at h4
  have h5 := num_lt hw
  rw [hl, pow32] at h5
  have h3 := bl_lt (num zs)
  have h6 := bl_le_of h5
  have h7 : 32 * m < bl (num zs) := by
    rcases Nat.lt_or_ge (32 * m) (bl (num zs)) with h | h
    · exact h
    · have := Nat.pow_le_pow_right (show 0 < 2 by decide) h
      rw [pow32] at h4
      omega
  refine ⟨by omega, Nat.le_trans h4 (Nat.le_mul_of_pos_right _ (Nat.two_pow_pos _)), ?_, by omega, h6⟩
  have h8 : num zs * 2 ^ u < 2 ^ bl (num zs) * 2 ^ u := Nat.mul_lt_mul_of_pos_right h3 (Nat.two_pow_pos _)
  rw [← Nat.pow_add, show bl (num zs) + u = 32 * (m + 1) by omega, ← pow32] at h8
  exact h8
theorem Ow.down {w : World} {base base' e k : Nat} {v : Value} {os : List Nat} (h : Ow w base' e v k os) (hb : base ≤ base') : Ow w base e v k os := by
  obtain ⟨hl, h⟩ := h
  rcases h with h | ⟨g, cap, cur, h1, h2, h3⟩
  · exact ⟨hl, .inl h⟩
  · exact ⟨hl, .inr ⟨g, cap, cur, h1, Nat.le_trans hb h2, h3⟩⟩
theorem Ow.ext {w w' : World} {base e k : Nat} {v : Value} {os : List Nat} (h : Ow w base e v k os) (hx : Ext w w') : Ow w' base e v k os := by
  obtain ⟨hl, h⟩ := h
  rcases h with h | ⟨g, cap, cur, h1, h2, h3, h4⟩
  · exact ⟨hl, .inl h⟩
  · have hlt : g < w.heap.size := by
      rcases Nat.lt_or_ge g w.heap.size with h | h
      · exact h
      · rw [Array.getElem?_eq_none h] at h3; simp at h3
    exact ⟨hl, .inr ⟨g, cap, cur, h1, h2, by rw [hx.block hlt]; exact h3, h4⟩⟩
section
variable {P : Program} {ops : Array Oper} {rest : List Oper} {o : Oper} {a : Act} {Q : Exit → Act → World → Prop}
/-- an append of all words of a slice to an empty row of the call's own, as one step of a region that draws: a row of the call's own. -/
theorem step_own32 {K : Act → World → Prop} {E : Prop} {w w0 : World} (hg : o.guard = none) (s x : Operand) (t : TypeId) (hop : o.op = Op.call { callee := Callee.builtin Builtin.append, args := #[s, x], argTypes := #[t, t] })
    (e : TypeId) (i : TypeInfo) (h1 : P.underlying t = some (.slice e)) (HI : Hid (P.info? e = some i ∧ i.zero = some (.int .u32 0) ∧ i.size = 1 ∧ i.bytes = 4))
    (v : Value) (b off c : Nat) (ys : List Nat) (hs : a.eval s = v) (hx : a.eval x = .slice (some ⟨b, off, none⟩) ys.length c)
    (hown : Ow w w0.heap.size e v 0 []) (hX : Ext w0 w) (b1 : ys.length ≤ 16777216) (hsl : Sl w (.slice (some ⟨b, off, none⟩) ys.length c) ys)
    (hK : ∀ p' cap' w', Ow w' w0.heap.size e (.slice p' ys.length cap') ys.length ys → Ext w0 w' → K (a.put o.dst (.slice p' ys.length cap')) w') :
    if Region.wanted o (yielded ops a.tmps) = true then Oper.wp P o a w K Q else E := by
  unfold Ow at hown hK
  have hw : Region.wanted o (yielded ops a.tmps) = true := by simp [Region.wanted, hg]
  rw [if_pos hw]
  have hc : ∀ j u, (ys.map W32)[j]? = some u → w.cell? ((⟨b, off, none⟩ : Addr).add j) = some u := by
    intro j u hj
    rw [List.getElem?_map] at hj
    have hjl : j < ys.length := by
      rcases Nat.lt_or_ge j ys.length with h | h
      · exact h
      · rw [List.getElem?_eq_none h] at hj; simp at hj
    obtain ⟨b', off', e1, h⟩ := hsl.at hjl
    injection e1 with e1
    injection e1 with e2 e3
    subst e2 e3
    rw [List.getElem?_eq_getElem hjl] at hj
    simp at hj
    subst hj
    rw [List.getD_eq_getElem?_getD, List.getElem?_eq_getElem hjl] at h
    have e5 : (⟨b, off, none⟩ : Addr).add j = ⟨b, off + j, none⟩ := by
      unfold Addr.add
      split
      · next h0 => subst h0; rfl
      · rfl
    rw [e5, h]; rfl
  obtain ⟨v', w', hrun, h, hgr, -⟩ := run_append_own (P := P) w w0.heap.size t o.type e i (.int .u32 0) 1 4 h1 HI.out.1 HI.out.2.1 HI.out.2.2.1 HI.out.2.2.2 rfl (by decide) v 0 _ hown ⟨b, off, none⟩ ys.length c (ys.map W32) (by simp) hc (by intro u hu; simp at hu; obtain ⟨z, -, rfl⟩ := hu; rfl) (by unfold maxLen; omega) (by omega) hX.size
  have hX' : Ext w0 w' := hX.grown hgr (fun j hj => by
    rcases hown.2 with ⟨h2, -⟩ | ⟨g, c, cur, h2, h3, -⟩
    · rw [h2] at hj; cases hj
    · have hj' : g = j := by simpa [h2, Value.ownBlock] using hj
      omega)
  rw [List.map_nil, List.nil_append, Nat.zero_add] at h
  unfold Oper.wp
  simp [execOp, hop, resolve, invoke, builtin, hs, hx, hrun, Result.andThen]
  rcases h.2 with ⟨h2, h3⟩ | ⟨g, c, cur, h2, h3⟩
  · have h4 := h.1
    rw [h3] at h4
    simp at h4
    subst h4
    subst h2
    exact hK none 0 w' h hX'
  · subst h2
    exact hK _ _ _ h hX'
/-- a make of no words. -/
theorem run_make0 (w : World) (t e : TypeId) (i : TypeInfo) (h1 : P.underlying t = some (.slice e)) (HI : Hid (P.info? e = some i ∧ i.zero = some (.int .u32 0) ∧ i.size = 1 ∧ i.bytes = 4)) :
    ∃ w', (Instr.makeSlice t (.int .i64 0) (.int .i64 0)).run P w = .ok (.slice (some ⟨w.heap.size, 0, none⟩) 0 0) w' ∧ Ow w' w.heap.size e (.slice (some ⟨w.heap.size, 0, none⟩) 0 0) 0 [] ∧ Ext w w' := by
  obtain ⟨h2, h3, h4, h5⟩ := HI
  have hrun := run_make (P := P) w t e i _ h1 h2 h3 .i64 .i64 0 0 (by omega) (by omega) (by rw [h5]; omega) (by omega)
  refine ⟨_, hrun, ?_, (Ext.refl w).alloc _⟩
  refine ⟨by simp, .inr ⟨w.heap.size, 0, _, rfl, Nat.le_refl _, heap_new w _, Nat.zero_le _, by unfold maxLen; omega, ?_, ?_⟩⟩
  · rw [size_madeCells, h4]; rfl
  · simp
end
end Fl
end
