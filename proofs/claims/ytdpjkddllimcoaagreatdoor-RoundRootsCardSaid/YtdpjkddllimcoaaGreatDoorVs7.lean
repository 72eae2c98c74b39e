/- A part of the proof (8 of 18) of this: RoundSums: for every two floats and every mode the program's rounded sum and difference are the document's: the law returns true; condition: the table of package math/bits reads as its text lays it. -/
import Derived.WalkSpells
import Derived.Test.YtdpjkddllimcoaaGreatDoorVs6

section
/- Whole numbers as words: copies. -/
namespace Go.Proofs.YtdpjkddllimcoaaGreatDoor
open Go.RowKit Fl
theorem n_clone (v : Value) (zs : List Nat) (w : World) (hs : Sl w v zs) (hl : zs.length ≤ 4194304) :
    Calls Tryz.prog 165 #[v] w fun e w' => ∃ v', e = .returned v' ∧ Ext w w' ∧ w'.ownsRow w.heap.size 70 1 v' zs.length (zs.map W32) := by
  obtain ⟨i0, HI⟩ : ∃ i0, Hid (Tryz.prog.info? 70 = some i0 ∧ i0.zero = some (.int .u32 0) ∧ i0.size = 1 ∧ i0.bytes = 4) := info_parts info32
  have q1 := fun (w : World) (a : Option Addr) (n c n' c' : Nat) => Lib.run_eql_slice_nil (P := Tryz.prog) w 93 _ a n c n' c' Tryz.underlying93
  rcases hs with ⟨rfl, rfl⟩ | ⟨b, off, cap, rfl, h2, h3, h4⟩
  · go_enter Tryz.func165, Tryz.ntmps165
    go_wp2_with (fail)
    go_ret
    exact ⟨_, rfl, Ext.refl w, rfl, .inl ⟨rfl, rfl⟩⟩
  · have HC := Lib.hid h4
    clear h4
    have HX : Hid (∀ o, Ext w (w.alloc o)) := fun o => (Ext.refl w).alloc o
    have HO : Hid ((w.alloc (.cells #[] 70)).ownsRow w.heap.size 70 1 (.slice (some ⟨w.heap.size, 0, none⟩) 0 0) 0 []) := ⟨rfl, .inr ⟨w.heap.size, 0, #[], rfl, Nat.le_refl _, heap_new w _, Nat.le_refl _, Nat.zero_le _, rfl, rfl⟩⟩
    have HN : Hid (∀ j u, (zs.map W32)[j]? = some u → (w.alloc (.cells #[] 70)).cell? ((⟨b, off, none⟩ : Addr).add j) = some u) := by
      intro j u hu
      refine (HX.out _).cell_some ?_
      rw [List.getElem?_map] at hu
      rcases Nat.lt_or_ge j zs.length with hj | hj
      · rw [List.getElem?_eq_getElem hj] at hu
        have := HC.out j hj
        rw [List.getD_eq_getElem?_getD, List.getElem?_eq_getElem hj] at this
        simp only [Option.map_some, Option.some.injEq] at hu
        rw [← hu]
        rw [Addr.add_lit]
        exact this
      · rw [List.getElem?_eq_none hj] at hu
        simp at hu
    have H1 : Hid (∀ u ∈ zs.map W32, u.oneCell' = true) := by
      intro u hu
      obtain ⟨z, -, rfl⟩ := List.mem_map.1 hu
      rfl
    have HS : Hid ((zs.map W32).length = zs.length * 1) := by show _ = _; simp
    go_enter Tryz.func165, Tryz.ntmps165
    go_wp2_with (at_builtin; (refine wpList_append_own _ rfl (.tmp 5) (.tmp 6) 93 rfl w.heap.size 70 i0 _ 1 4 Tryz.underlying93 HI.out.1 HI.out.2.1 HI.out.2.2.1 HI.out.2.2.2 rfl (by decide) _ 0 [] rfl HO.out ⟨b, off, none⟩ zs.length cap (zs.map W32) rfl HS.out HN.out H1.out (by unfold maxLen; omega) (by omega) (by simp) ?_))
    intro v' w1 hown hgrow _
    have HE : Hid (Ext w w1) := (HX.out _).grown hgrow (fun k hk => by have hk : some w.heap.size = some k := hk; injection hk with hk; omega)
    have HW := Lib.hid hown
    clear hown hgrow
    go_wp2_with (fail)
    go_ret
    exact ⟨_, rfl, HE.out, HW.out⟩
end Go.Proofs.YtdpjkddllimcoaaGreatDoor
end
