/- A part of the proof (3 of 4) of this: RoundProducts: for every two floats and every mode the program's rounded product and quotient are the document's: the law returns true; condition: the table of package math/bits reads as its text lays it. -/
import Derived.Deep.RegionWith
import Derived.Deep.CutBlock
import Derived.Deep.Cut
import Derived.Deep.DeepCutAuto
import Derived.Deep.CutRange
import Derived.Deep.LoopGhost
import Derived.Deep.QuietTactic
import Derived.Test.YtdpjkddllimcoaaGreatDoorVp1

section
/- The reference's long division. -/
namespace Go.Proofs.YtdpjkddllimcoaaGreatDoor
open Go.RowKit Fl
set_option maxRecDepth 20000 in
set_option maxHeartbeats 4000000 in
theorem k_divide_big (v : Value) (a : Nat) (w : World) (p : Option Addr) (cap m : Nat) (ys : List Nat) (hv : Nt w v a) (hs : Sl w (.slice p (m + 2) cap) ys) (hw : Wd ys) (ht : Tm ys) (hl : ys.length = m + 2) (ha : a < 4294967296 ^ 1048574) (h : ¬ a < num ys) :
    Calls Tryz.prog 131 #[v, .slice p (m + 2) cap] w fun e w' => ∃ q r, e = .returned (.tuple #[q, r]) ∧ Ext w w' ∧ Nt w' q (a / num ys) ∧ Nt w' r (a % num ys) := by
  obtain ⟨i0, HI⟩ : ∃ i0, Hid (Tryz.prog.info? 70 = some i0 ∧ i0.zero = some (.int .u32 0) ∧ i0.size = 1 ∧ i0.bytes = 4) := info_parts info32
  obtain ⟨b, Hb⟩ : ∃ b, Hid (b = num ys) := ⟨_, rfl⟩
  have HNb : Hid (Nt w (.slice p (m + 2) cap) b) := ⟨ys, hs, hw, ht, Hb.out.symm⟩
  have HBb : Hid (b < 4294967296 ^ 1048574) := by
    show b < _
    rw [Hb.out]
    exact Nat.lt_of_le_of_lt (Nat.le_of_not_lt h) ha
  have HC := Lib.hid (k_order_ge v (.slice p (m + 2) cap) a b w hv HNb.out (fit_up (k := 1048574) (l := 1048576) ha (by decide)) (fit_up (k := 1048574) (l := 1048576) HBb.out (by decide)) (by rw [Hb.out]; exact h))
  obtain ⟨u, hu⟩ : ∃ u : Nat, u = 31 - (bl (num ys) - 1) % 32 := ⟨_, rfl⟩
  have HU := Lib.hid (up_spec2 hw ht hl hu)
  have hu32 : u < 32 := HU.out.1
  have HSz : Hid (∀ w', Ext w w' → Calls Tryz.prog 152 #[.slice p (m + 2) cap] w' fun en wn => en = .returned (.int .i64 ((bl (num ys) : Nat) : Int)) ∧ w' = wn) := fun w' hx => by
    have := k_size (.slice p (m + 2) cap) b w' (HNb.out.ext hx) (fit_up (k := 1048574) (l := 1048575) HBb.out (by decide))
    rwa [Hb.out] at this
  obtain ⟨B0, HB0⟩ : ∃ B0, Hid (B0 + 1 = bl (num ys)) := ⟨bl (num ys) - 1, by have := HU.out.2.2.2.1; show _ = _; omega⟩
  have hB0b : B0 < 33554400 := by
    have h1 := HU.out.2.2.2.2
    have h2 := len_le ht (k := 1048574) (by rw [← Hb.out]; exact HBb.out)
    have := HB0.out
    omega
  obtain ⟨r0, hr0⟩ : ∃ r0, r0 = B0 % 32 := ⟨_, rfl⟩
  have hBm : (B0 : Int).tmod 32 = (r0 : Int) := by
    rw [Int.tmod_eq_emod_of_nonneg (by omega)]
    omega
  have hr0b : r0 < 32 := by omega
  have hru : (32 : Int) - (r0 : Int) - 1 = (u : Int) := by
    have := HB0.out
    omega
  rw [← HB0.out] at HSz
  obtain ⟨pv, capv, zs, rfl, HZ⟩ : ∃ (pv : Option Addr) (capv : Nat) (zs : List Nat), v = .slice pv zs.length capv ∧ Hid (zs ≠ [] ∧ 4294967296 ^ (zs.length - 1) ≤ a ∧ a < 4294967296 ^ zs.length ∧ zs.length ≤ 1048574) := by
    obtain ⟨zs, z1, z2, z3, z4⟩ := hv
    obtain ⟨pv, capv, e, -⟩ := z1.form
    have hb0 : 0 < num ys := by
      have := num_ge ht (by intro e; rw [e] at hl; simp at hl)
      have := pow_pos32 (ys.length - 1)
      omega
    have h0 : zs ≠ [] := by
      intro e
      rw [e] at z4
      simp [num] at z4
      omega
    exact ⟨pv, capv, zs, e, h0, by rw [← z4]; exact num_ge z3 h0, by rw [← z4]; exact num_lt z2, len_le z3 (by rw [z4]; exact ha)⟩
  obtain ⟨lz, hlz⟩ : ∃ lz, zs.length = lz := ⟨_, rfl⟩
  rw [hlz] at HZ hv HC ⊢
  have hlzb : lz ≤ 1048574 := HZ.out.2.2.2
  have HV := Lib.hid hv
  have HBA : Hid (b ≤ a) := by show b ≤ a; rw [Hb.out]; exact Nat.le_of_not_lt h
  have HA := Lib.hid ha
  have HL := Lib.hid hl
  have HbLo : Hid (4294967296 ^ (m + 1) ≤ b) := by
    have h1 := num_ge ht (by intro e; rw [e] at hl; simp at hl)
    rw [hl] at h1
    rw [Hb.out]
    exact h1
  have t0 : ((m : Int) + 2 == 1) = false := by simp; omega
  have hmb : m ≤ 1048572 := by
    have := len_le ht (k := 1048574) (by rw [← Hb.out]; exact HBb.out)
    omega
  have HLm : Hid (m + 2 ≤ lz) := by
    have h1 := num_ge ht (by intro e; rw [e] at hl; simp at hl)
    have h2 := HZ.out.2.2.1
    show _ ≤ _
    rcases Nat.lt_or_ge lz (m + 2) with h3 | h3
    · have := Nat.pow_le_pow_right (show 0 < 4294967296 by decide) (show lz ≤ ys.length - 1 by omega)
      omega
    · exact h3
  clear hv ha h hs hw ht hl hu hlz hr0
  go_enter Tryz.func131, Tryz.ntmps131
  go_wp2_with (fail)
  refine HC.out.mono ?_
  rintro e w1 ⟨c, hc0, hc1, rfl, hd⟩
  have HD1 := Lib.hid hd.ext
  have t1 : decide (c < 0) = false := by simp; omega
  clear hd hc0 hc1
  go_wp2_with (fail)
  refine (HSz.out _ HD1.out).mono ?_
  rintro e w1' ⟨rfl, rfl⟩
  go_wp2_with (fail)
  refine (k_up _ b u _ (HNb.out.ext HD1.out) (fit_up (k := 1048574) (l := 1048575) HBb.out (by decide)) (by omega)).mono ?_
  rintro e w2 ⟨v1, rfl, hx, hn⟩
  have HD2 := Lib.hid (HD1.out.trans hx)
  obtain ⟨vs, HVs⟩ : ∃ vs, Hid (Sl w2 v1 vs ∧ Wd vs ∧ Tm vs ∧ num vs = b * 2 ^ u) := hn
  obtain ⟨p1, cap1, rfl⟩ : ∃ p1 cap1, v1 = .slice p1 (m + 2) cap1 := by
    obtain ⟨p1, cap1, e, -⟩ := HVs.out.1.form
    have hl := len_eq HVs.out.2.2.1 HVs.out.2.1 (k := m + 1) (by rw [HVs.out.2.2.2, Hb.out]; exact HU.out.2.1) (by rw [HVs.out.2.2.2, Hb.out]; exact HU.out.2.2.1)
    rw [hl] at e
    exact ⟨p1, cap1, e⟩
  clear hx t1
  have HUpC : Hid (∀ w', Ext w2 w' → Calls Tryz.prog 79 #[.slice pv lz capv, .int .i64 u] w' fun e w'' => ∃ (b2 off2 c2 : Nat) (Ls : List Nat), e = .returned (.slice (some ⟨b2, off2, none⟩) Ls.length c2) ∧ Ext w' w'' ∧ Sl w'' (.slice (some ⟨b2, off2, none⟩) Ls.length c2) Ls ∧ Wd Ls ∧ num Ls = a * 2 ^ u ∧ 0 < Ls.length ∧ Ls.length ≤ lz + 1 ∧ lz ≤ Ls.length) := by
    intro w' hx
    refine (k_up _ a u w' (HV.out.ext (HD2.out.trans hx)) (fit_up (k := 1048574) (l := 1048575) HA.out (by decide)) (by omega)).mono ?_
    rintro e w3 ⟨v2, rfl, hx3, Ls, l1, l2, l3, l4⟩
    have h1 := fit_shift HZ.out.2.2.1 (show u ≤ 32 by omega)
    rw [← l4] at h1
    have h2 := len_le l3 h1
    have h3 : 4294967296 ^ (lz - 1) ≤ num Ls := by
      rw [l4]
      exact Nat.le_trans HZ.out.2.1 (Nat.le_mul_of_pos_right _ (Nat.two_pow_pos _))
    have h4 := len_gt l2 h3
    obtain ⟨p2, c2, rfl, -⟩ := l1.form
    obtain ⟨b2, off2, rfl, -⟩ := l1.at (show 0 < Ls.length by omega)
    exact ⟨b2, off2, c2, Ls, rfl, hx3, l1, l2, l4, by omega, h2, by omega⟩
  obtain ⟨mk, hmk⟩ : ∃ mk : World → World, ∀ w, (Instr.makeSlice 33 (.int .i64 0) (.int .i64 0)).run Tryz.prog w = .ok (.slice (some ⟨w.heap.size, 0, none⟩) 0 0) (mk w) ∧ Ow (mk w) w.heap.size 70 (.slice (some ⟨w.heap.size, 0, none⟩) 0 0) 0 [] ∧ Ext w (mk w) := ⟨_, fun w => (run_make0 w _ _ i0 Tryz.underlying33 HI).choose_spec⟩
  have hmk1 := fun w => (hmk w).1
  clear HA HBb HSz HC hBm hru hr0b hB0b
  have HMk := Lib.hid (fun w => (hmk w).2)
  clear hmk
  go_upto_region 8 with (fail)
  go_cut [10] (fun v10 wc => ∃ (p10 : Option Addr) (cap10 : Nat) (Ls : List Nat), v10 = .slice p10 Ls.length cap10 ∧ Hid (Ow wc w2.heap.size 70 v10 Ls.length Ls ∧ Ext w2 wc ∧ Wd Ls ∧ num Ls = a * 2 ^ u ∧ 0 < Ls.length ∧ Ls.length ≤ lz + 1 ∧ lz ≤ Ls.length))
  case first =>
    -- <<
    go_region_held3 (fun _ => True) (trivial) (first
      | (refine step_own32 (w0 := w2) rfl (.tmp 60) (.tmp 63) _ rfl 70 i0 Tryz.underlying33 HI _ b2 off2 c2 Ls rfl rfl (by first | exact Ow.ext (HMk.out w2.drew).1 HUp.out.1 | exact Ow.ext (HMk.out w2).1 HUp.out.1 | exact Ow.ext (HMk.out w2.drew.drew).1 HUp.out.1 | exact Ow.down (HMk.out (w4.drew)).1 HUp.out.1.size | exact Ow.down (HMk.out (w4)).1 HUp.out.1.size | exact Ow.down (HMk.out (w4.drew.drew)).1 HUp.out.1.size) (by first | exact (HMk.out (w2.drew)).2.trans HUp.out.1 | exact (HMk.out (w2)).2.trans HUp.out.1 | exact (HMk.out (w2.drew.drew)).2.trans HUp.out.1 | exact HUp.out.1.trans (HMk.out (w4.drew)).2 | exact HUp.out.1.trans (HMk.out (w4)).2 | exact HUp.out.1.trans (HMk.out (w4.drew.drew)).2) (by have := HUp.out.2.2.2.2.2.1; omega) (by first | exact HUp.out.2.1 | exact HUp.out.2.1.ext (HMk.out (w4.drew)).2 | exact HUp.out.2.1.ext (HMk.out (w4)).2 | exact HUp.out.2.1.ext (HMk.out (w4.drew.drew)).2) ?_; intro p5 cap5 w5 hown5 hx5; have H5 := Lib.hid (And.intro hown5 (And.intro hx5 HUp.out.2.2)); clear hown5 hx5)
      | (go_at_call 79; refine (HUpC.out _ (by first | exact Ext.refl _ | exact (HMk.out _).2)).mono ?_; rintro e w4 ⟨b2, off2, c2, Ls, rfl, hx4, hs4, hr4⟩; have HUp := Lib.hid (And.intro hx4 (And.intro hs4 hr4)); clear hx4 hs4 hr4))
    all_goals
      go_wp2_with (fail)
      go_meet
      case rel => exact ⟨_, _, Ls, rfl, H5.out⟩
    -- >>
  case rest =>
    obtain ⟨p10, cap10, Ls, rfl, H10⟩ := hcut
    obtain ⟨L0, hL0⟩ : ∃ L0, Ls.length = L0 := ⟨_, rfl⟩
    rw [hL0] at H10 ⊢
    have hL0b : 0 < L0 ∧ L0 ≤ lz + 1 := ⟨H10.out.2.2.2.2.1, H10.out.2.2.2.2.2.1⟩
    have HL0 := Lib.hid hL0
    clear hL0 hmk1 HMk HUpC
    go_wp2_with (fail)
    go_loopw [10] (fun v10 wr => ∃ (k cap5 : Nat) (p5 : Option Addr), k ≤ lz + 1 ∧ 0 < k ∧ v10 = .slice p5 k cap5 ∧ Hid (Ext w2 wr ∧ ∃ os : List Nat, os.length = k ∧ Wd os ∧ Ow wr w2.heap.size 70 (.slice p5 k cap5) k os ∧ num os = a * 2 ^ u)) (fun v10 _ => lz + 1 - lenOf v10)
    case atStart => exact ⟨L0, cap10, p10, hL0b.2, hL0b.1, rfl, H10.out.2.1, Ls, HL0.out, H10.out.2.2.1, H10.out.1, H10.out.2.2.2.1⟩
    case round =>
      obtain ⟨k, cap5, p5, hk, hk0, rfl, HR⟩ := hrel
      by_cases hlt : k ≤ lz
      · skip
        -- <<
        have e1 : decide (k ≤ lz) = true := by simp; omega
        have hkb : k < 16777216 := by omega
        obtain ⟨os, h1, h2, h3, h4⟩ := HR.out.2
        have HO := Lib.hid h3
        have Hos := Lib.hid (And.intro h1 (And.intro h2 h4))
        have HX := Lib.hid HR.out.1
        clear h1 h2 h3 h4 HR
        go_wp2_with (at_builtin; refine wpList_grow32 (w0 := w2) rfl (.tmp 70) (.tmp 71) _ rfl 70 i0 Tryz.underlying33 HI p5 k cap5 os _ 0 _ rfl rfl HO.out HX.out hkb rfl ?_)
        intro p6 cap6 w6 hown' hX'
        have HO' := Lib.hid (And.intro hown' hX')
        clear hown' hX'
        go_wp2_with (fail)
        go_roundw
        case rel => exact ⟨k + 1, cap6, p6, by omega, by omega, rfl, HO'.out.2, os ++ [0], by simp [Hos.out.1], Hos.out.2.1.snoc (by decide), HO'.out.1, by rw [num_snoc, Nat.mul_zero, Nat.add_zero]; exact Hos.out.2.2⟩
        case measure =>
          show lz + 1 - (k + 1) < lz + 1 - k
          omega
        -- >>
      · have e1 : decide (k ≤ lz) = false := by simp; omega
        obtain rfl : k = lz + 1 := by omega
        obtain ⟨os, h1, h2, h3, h4⟩ := HR.out.2
        obtain ⟨g, cap4, hform, hg, hgc, hgm, -, hrow⟩ := Row.of_own h3 (by omega)
        injection hform with e2 e3 e4
        subst e2 e4
        have HRow := Lib.hid (And.intro hrow (And.intro HR.out.1 (And.intro h1 (And.intro h2 h4))))
        have HG := Lib.hid (And.intro hg (And.intro hgc hgm))
        obtain ⟨lq, hlq⟩ : ∃ lq, lq + (m + 2) = lz + 1 := ⟨lz + 1 - (m + 2), by have := HLm.out; omega⟩
        clear h1 h2 h3 h4 hrow hg hgc hgm HR hk hk0 hlt
        go_wp2_with (at_make; refine wpList_makeRow _ rfl _ _ _ rfl 70 i0 Tryz.underlying33 HI _ _ _ _ lq rfl rfl (by omega) (by omega) (by omega) ?_)
        intro w6 hrow hx
        have HD6 := Lib.hid (And.intro hrow hx)
        have HGq := Lib.hid (And.intro HRow.out.1.lt HRow.out.2.1.size)
        clear hrow hx
        obtain ⟨V, HVV⟩ : ∃ V, Hid (V = num vs) := ⟨_, rfl⟩
        have HVp : Hid (vs.length = m + 2 ∧ 4294967296 ^ (m + 1) ≤ V ∧ V ≤ 4294967296 ^ (m + 2) ∧ 0 < vs.getD (m + 1) 0) := by
          have h1 : 4294967296 ^ (m + 1) ≤ num vs := by rw [HVs.out.2.2.2, Hb.out]; exact HU.out.2.1
          have h2 : num vs < 4294967296 ^ (m + 1 + 1) := by rw [HVs.out.2.2.2, Hb.out]; exact HU.out.2.2.1
          have hl := len_eq HVs.out.2.2.1 HVs.out.2.1 h1 h2
          have h3 := Tm_last HVs.out.2.2.1 (by intro e; rw [e] at hl; simp at hl)
          rw [hl, Nat.add_sub_cancel] at h3
          exact ⟨hl, by rw [HVV.out]; exact h1, by rw [HVV.out]; exact Nat.le_of_lt h2, Nat.pos_of_ne_zero h3⟩
        obtain ⟨b2, o2, rfl, HC2⟩ : ∃ b2 o2, p1 = some ⟨b2, o2, none⟩ ∧ Hid ((∀ i, i < m + 2 → w2.cell? ⟨b2, o2 + i, none⟩ = some (.int .u32 ((vs.getD i 0 : Nat) : Int))) ∧ b2 ≠ g) := by
          rcases HVs.out.1 with ⟨h1, h2⟩ | ⟨b2, o2, c2, h1, -, -, h4⟩
          · have := HVp.out.1; rw [h2] at this; simp at this
          · injection h1 with e1
            subst e1
            refine ⟨b2, o2, rfl, fun i hi => h4 i (by have := HVp.out.1; omega), ?_⟩
            have := lt_of_cell (h4 0 (by have := HVp.out.1; omega))
            have := HG.out.1
            simp only at *
            omega
        have HX6 : Hid (Ext w2 w6) := HRow.out.2.1.trans HD6.out.2
        obtain ⟨gq, hgq⟩ : ∃ gq, wr.heap.size = gq := ⟨_, rfl⟩
        rw [hgq] at HD6 HGq ⊢
        have HR6 : Hid (Row w6 70 g os ∧ os.length = lz + 1 ∧ Wd os ∧ num os = a * 2 ^ u) := ⟨HRow.out.1.ext HD6.out.2, HRow.out.2.2⟩
        clear hgq HRow
        go_wp2_with (fail)
        go_loopg [14] lq (fun k v14 wr => k ≤ lq ∧ v14 = .int .i64 ((k : Int) - 1) ∧
          Hid (Ext w2 wr ∧ ∃ us qs : List Nat, us.length = lq + (m + 2) ∧ qs.length = lq ∧ Wd us ∧ Wd qs ∧ Row wr 70 g us ∧ Row wr 70 gq qs ∧
            a * 2 ^ u = num us + V * (4294967296 ^ k * num (qs.drop k)) ∧ num (us.drop k) < V))
        case atStart =>
          -- <<
          refine ⟨Nat.le_refl _, by go_num, HX6.out, os, List.replicate lq 0, by rw [HR6.out.2.1]; omega, by simp, HR6.out.2.2.1, fun z hz => by simp at hz; omega, HR6.out.1, HD6.out.1, ?_, ?_⟩
          · rw [List.drop_of_length_le (by simp)]; simp [num]; exact HR6.out.2.2.2.symm
          · have h1 := num_take_drop os lq
            rw [List.length_take, Nat.min_eq_left (by rw [HR6.out.2.1]; omega), HR6.out.2.2.2] at h1
            have h2 := HZ.out.2.2.1
            have h3 : a < 4294967296 ^ lq * b := by
              have h4 := Nat.mul_le_mul_left (4294967296 ^ lq) HbLo.out
              rw [← Nat.pow_add, show lq + (m + 1) = lz by omega] at h4
              omega
            have h5 : a * 2 ^ u < 4294967296 ^ lq * b * 2 ^ u := Nat.mul_lt_mul_of_pos_right h3 (Nat.two_pow_pos _)
            rw [Nat.mul_assoc, ← HVs.out.2.2.2, ← HVV.out] at h5
            exact Nat.lt_of_mul_lt_mul_left (a := 4294967296 ^ lq) (by omega)
          -- >>
        case round =>
          obtain ⟨hk, rfl, HQ⟩ := hrel
          cases gk with
          | zero =>
            -- <<
            obtain ⟨hx, us, qs, l1, l2, d1, d2, r1, r2, inv, top⟩ := HQ.out
            have HR := Lib.hid (And.intro r1 r2)
            have HD := Lib.hid (And.intro d1 d2)
            have HLn := Lib.hid (And.intro l1 l2)
            have HX := Lib.hid hx
            rw [Nat.pow_zero, Nat.one_mul, List.drop_zero] at inv
            rw [List.drop_zero] at top
            have HE : Hid (num qs = a / b ∧ num us = (a % b) * 2 ^ u) := div_end inv top rfl (by rw [HVV.out]; exact HVs.out.2.2.2) (Nat.two_pow_pos _)
            have HFit : Hid (num us < 4294967296 ^ 1048575) := by
              show num us < _
              rw [HE.out.2]
              exact fit_up (k := lz + 1) (l := 1048575) (fit_shift (Nat.lt_of_le_of_lt (Nat.mod_le _ _) HZ.out.2.2.1) (by omega)) (by omega)
            have HDn : Hid (∀ w' x, Nt w' x (num us) → Calls Tryz.prog 92 #[x, .int .i64 u] w' fun e w'' => ∃ v' B, e = .returned (.tuple #[v', .bool B]) ∧ Ext w' w'' ∧ Nt w'' v' (a % b)) := by
              intro w' x hx
              refine (k_down x (num us) u w' hx HFit.out (by omega)).mono ?_
              rintro e w3 ⟨v', rfl, h1, h2⟩
              rw [HE.out.2, Nat.mul_div_cancel _ (Nat.two_pow_pos _)] at h2
              exact ⟨v', _, rfl, h1, h2⟩
            have hus : Sl wr (.slice (some ⟨g, 0, none⟩) (lz + 1) cap5) us := by
              have h1 := HR.out.1.slCap (cap := cap5) (by have := HLn.out.1; have := HG.out; omega) HG.out.2.2
              rwa [show us.length = lz + 1 by have := HLn.out.1; omega] at h1
            have HUs := Lib.hid hus
            clear hx r1 r2 d1 d2 inv top l1 l2 HFit hus
            go_wp2_with (fail)
            refine (k_trim _ us _ HUs.out HD.out.1 (by have := HLn.out.1; omega)).mono ?_
            rintro e w7 ⟨r, rfl, rfl, hr⟩
            have Hr := Lib.hid hr
            clear hr
            go_wp2_with (fail)
            refine (HDn.out _ _ Hr.out).mono ?_
            rintro e w8 ⟨r', B, rfl, hx, hr⟩
            have Hr' := Lib.hid (And.intro hx hr)
            clear hx hr
            go_wp2_with (fail)
            refine (k_trim _ qs _ ((HR.out.2.slTake (by have := HLn.out.2; omega) HLn.out.2.symm).ext Hr'.out.1) HD.out.2 (by have := HLn.out.2; omega)).mono ?_
            rintro e w7 ⟨q, rfl, rfl, hq⟩
            have Hq := Lib.hid hq
            clear hq
            go_wp2_with (fail)
            go_ret2
            refine ⟨_, _, rfl, (HD2.out.trans HX.out).trans Hr'.out.1, ?_, ?_⟩
            · rw [← Hb.out, ← HE.out.1]; exact Hq.out
            · rw [← Hb.out]; exact Hr'.out.2
            -- >>
          | succ j =>
            rw [show ((j + 1 : Nat) : Int) - 1 = (j : Int) by omega]
            obtain ⟨hx, us, qs, l1, l2, d1, d2, r1, r2, inv, top⟩ := HQ.out
            have hwin := win_all d1 HVp.out.2.2.1 top
            obtain ⟨U, HUU⟩ : ∃ U : Nat, Hid (U = num ((us.drop j).take (m + 3))) := ⟨num ((us.drop j).take (m + 3)), rfl⟩
            have HUV : Hid (U < 4294967296 * V) := by rw [HUU.out, hwin.2.1]; exact hwin.2.2
            have f1 := r1.cell (i := j + (m + 2)) (by omega)
            have f2 := r1.cell (i := j + (m + 1)) (by omega)
            have f5 := r1.cell (i := j + m) (by omega)
            have e1 := d1.getD (j + (m + 2))
            have e2 := d1.getD (j + (m + 1))
            have e5 := d1.getD (j + m)
            have f3 := hx.cell_some (HC2.out.1 (m + 1) (by omega))
            have f4 := hx.cell_some (HC2.out.1 m (by omega))
            have e3 := HVs.out.2.1.getD (m + 1)
            have e4 := HVs.out.2.1.getD m
            have hy : 0 < vs.getD (m + 1) 0 := HVp.out.2.2.2
            generalize hx1 : us.getD (j + (m + 2)) 0 = x1 at *
            generalize hx2 : us.getD (j + (m + 1)) 0 = x2 at *
            generalize hx3 : us.getD (j + m) 0 = x3 at *
            generalize hy1 : vs.getD (m + 1) 0 = y1 at *
            generalize hy2 : vs.getD m 0 = y2 at *
            have g1 := or_high x1 x2 e1 e2
            obtain ⟨T, hT⟩ : ∃ T, T = x1 * 4294967296 + x2 := ⟨_, rfl⟩
            rw [← hT] at g1
            have hTb : T < 18446744073709551616 := by omega
            obtain ⟨Q0, hQ0⟩ : ∃ Q0, Q0 = T / y1 := ⟨_, rfl⟩
            obtain ⟨R0, hR0⟩ : ∃ R0, R0 = T % y1 := ⟨_, rfl⟩
            have hqt : (T : Int).tdiv (y1 : Int) = (Q0 : Int) := by rw [hQ0]; exact (Int.ofNat_tdiv T y1).symm
            have hrt : (T : Int).tmod (y1 : Int) = (R0 : Int) := by rw [hR0]; exact (Int.ofNat_tmod T y1).symm
            have hqd : (T : Int) / (y1 : Int) = (Q0 : Int) := by rw [hQ0]; simp
            have hrd : (T : Int) % (y1 : Int) = (R0 : Int) := by rw [hR0]; simp
            have hy10 : ((y1 : Int) == 0) = false := by simp; omega
            have hR0b : R0 < 4294967296 := by rw [hR0]; exact Nat.lt_trans (Nat.mod_lt _ hy) e3
            have hQ0b : Q0 < 18446744073709551616 := by rw [hQ0]; exact Nat.lt_of_le_of_lt (Nat.div_le_self _ _) hTb
            have HU3 : Hid ((T * 4294967296 + x3) * 4294967296 ^ m ≤ U ∧ U < (T * 4294967296 + x3 + 1) * 4294967296 ^ m) := by
              rw [HUU.out, hT]
              exact top3 (d1.drop j) (by rw [getD_drop, hx3]) (by rw [getD_drop]; exact hx2) (by rw [getD_drop]; exact hx1) (by rw [List.length_drop]; omega)
            have HV3 : Hid ((y1 * 4294967296 + y2) * 4294967296 ^ m ≤ V ∧ V < (y1 * 4294967296 + y2 + 1) * 4294967296 ^ m) := by
              rw [HVV.out]
              exact top2 HVs.out.2.1 hy2 hy1 HVp.out.1
            have HG0 : Hid (Q0 * y1 + R0 = T ∧ U < (Q0 + 1) * V) := guess_start hy e5 hQ0 hR0 HU3.out.2 HV3.out.1
            have Hxy : Hid (x1 ≤ y1) := guess_top e4 HUV.out (by rw [← hT]; exact HU3.out.1) HV3.out.2
            have HK := Lib.hid (And.intro hx (And.intro l1 (And.intro l2 (And.intro d1 (And.intro d2 (And.intro r1 (And.intro r2 (And.intro inv top))))))))
            have HT := Lib.hid (And.intro hT (And.intro hx3 hy))
            clear hx l1 l2 d1 d2 r1 r2 inv top hwin hT hQ0 hR0 hx1 hx2 hx3 hy1 hy2
            go_upto_region 17 with (fail)
            go_quiet (fail)
            go_upto_region 18 with (fail)
            obtain ⟨wd, hwd⟩ : ∃ wd, wd = wr.drewN nq := ⟨_, rfl⟩
            rw [← hwd]
            have HWd : Hid (Ext wr wd) := by rw [hwd]; exact (Ext.refl wr).drewN _
            have f3 : wd.cell? ⟨b2, o2 + (m + 1), none⟩ = some (.int .u32 (y1 : Int)) := by rw [hwd]; exact f3
            have f4 : wd.cell? ⟨b2, o2 + m, none⟩ = some (.int .u32 (y2 : Int)) := by rw [hwd]; exact f4
            have f5 : wd.cell? ⟨g, j + m, none⟩ = some (.int .u32 (x3 : Int)) := by rw [hwd]; exact f5
            clear hwd f1 f2 HQ
            go_upto_block 4 with (fail)
            clear hqt hrt hqd hrd g1
            go_cut [16, 17] from 84 to 265 (fun v16 v17 wc => ∃ D : Nat, v16 = .int .u64 D ∧ D < 4294967296 ∧ Hid (Guess D U V) ∧ Drw wd wc)
            case first =>
              -- <<
              as_aux_lemma =>
                go_wp2_with (fail)
                go_loopg [16, 17] Q0 (fun D v16 v17 wr => ∃ R : Nat, v16 = .int .u64 D ∧ v17 = .int .u64 R ∧ D < 18446744073709551616 ∧ R < 4294967296 ∧ Hid (D * y1 + R = T ∧ U < (D + 1) * V) ∧ Drw wd wr)
                case atStart => exact ⟨R0, rfl, rfl, hQ0b, hR0b, HG0.out, Drw.refl wd⟩
                case round =>
                  as_aux_lemma =>
                    obtain ⟨R, rfl, rfl, hD, hR, HG, hwr⟩ := hrel
                    have f3 : wr.cell? ⟨b2, o2 + (m + 1), none⟩ = some (.int .u32 (y1 : Int)) := by rw [hwr.cell]; exact f3
                    have f4 : wr.cell? ⟨b2, o2 + m, none⟩ = some (.int .u32 (y2 : Int)) := by rw [hwr.cell]; exact f4
                    have f5 : wr.cell? ⟨g, j + m, none⟩ = some (.int .u32 (x3 : Int)) := by rw [hwr.cell]; exact f5
                    have Hw := Lib.hid hwr
                    clear hwr
                    obtain ⟨B, HB⟩ : ∃ B : Bool, Hid (B = decide (4294967296 ≤ gk ∨ R * 4294967296 + x3 < gk * y2)) := ⟨_, rfl⟩
                    go_upto_region 20 with (fail)
                    go_cut [144] from 121 to 156 (fun v144 wx => v144 = .bool B ∧ Drw wd wx)
                    case first =>
                      by_cases hDb : 4294967296 ≤ gk
                      · as_aux_lemma =>
                          have t2 : decide ((4294967296 : Int) ≤ (gk : Int)) = true := by simp; omega
                          obtain rfl : B = true := by rw [HB.out, decide_eq_true_eq]; exact .inl hDb
                          clear hDb
                          go_quiet (fail)
                          go_wp2_with (fail)
                          go_meet
                          case rel => exact ⟨rfl, Hw.out.drewN _⟩
                      · as_aux_lemma =>
                          have wm : IntKind.i64.wrap (m : Int) = (m : Int) := IntWalk.i64_in _ (by omega)
                          have wj : IntKind.i64.wrap (IntKind.i64.wrap ((j : Int) + ((m : Int) + 2)) - 2) = (j : Int) + (m : Int) := by
                            rw [IntWalk.i64_in ((j : Int) + ((m : Int) + 2)) (by omega), IntWalk.i64_in _ (by omega)]
                            omega
                          have wjn : ((j : Int) + (m : Int)).toNat = j + m := by omega
                          have wm2 : (m : Int) < (m : Int) + 2 := by omega
                          have wj2 : (j : Int) + (m : Int) < (lz : Int) + 1 := by omega
                          have wj0 : (0 : Int) ≤ (j : Int) + (m : Int) := by omega
                          have t2 : decide ((4294967296 : Int) ≤ (gk : Int)) = false := by simp; omega
                          obtain ⟨P2, hP2⟩ : ∃ P, P = gk * y2 := ⟨_, rfl⟩
                          have hP2i : (gk : Int) * (y2 : Int) = (P2 : Int) := by rw [hP2]; simp
                          have hP2b : P2 ≤ 18446744065119617025 := by rw [hP2]; exact mul_bound (by omega) e4
                          have t3 : decide ((R : Int) * 4294967296 + (x3 : Int) < (P2 : Int)) = B := by
                            rw [HB.out, ← hP2]
                            refine Bool.eq_iff_iff.2 ?_
                            rw [decide_eq_true_eq, decide_eq_true_eq]
                            constructor
                            · intro h; right; omega
                            · intro h; omega
                          have T5 : Hid (decide (IntKind.u64.wrap (IntKind.u64.wrap ((R : Int) * 4294967296) + IntKind.u64.wrap (x3 : Int)) < IntKind.u64.wrap ((gk : Int) * IntKind.u64.wrap (y2 : Int))) = B) := by
                            show _ = _
                            rw [IntWalk.u64_in (R * 4294967296 : Int) (by omega), IntWalk.u64_in (x3 : Int) (by omega), IntWalk.u64_in (y2 : Int) (by omega), hP2i, IntWalk.u64_in (P2 : Int) (by omega), IntWalk.u64_in ((R * 4294967296 : Int) + x3) (by omega)]
                            exact t3
                          clear hP2 hDb t3
                          go_quiet (fail)
                          go_wp2_with (fail)
                          go_meet
                          case rel => exact ⟨congrArg Value.bool T5.out, Hw.out.drewN _⟩
                    case rest =>
                      as_aux_lemma =>
                        obtain ⟨rfl, hwx⟩ := hcut
                        have f3 : wc.cell? ⟨b2, o2 + (m + 1), none⟩ = some (.int .u32 (y1 : Int)) := by rw [hwx.cell, ← Hw.out.cell]; exact f3
                        have Hwx := Lib.hid hwx
                        clear hwx f4 f5
                        cases B with
                        | false =>
                          have HE : Hid (gk < 4294967296 ∧ Guess gk U V) := by
                            have h0 := HB.out
                            have h1 := of_decide_eq_false h0.symm
                            exact ⟨by omega, HG.out.2, guess_stop HG.out.1 hy (by omega) HU3.out.1 HV3.out.2 (by omega)⟩
                          go_wp2_with (fail)
                          go_meet
                          case rel => exact ⟨gk, by go_num, HE.out.1, HE.out.2, Hwx.out⟩
                        | true =>
                          have h1 := of_decide_eq_true HB.out.symm
                          obtain ⟨D, rfl⟩ : ∃ D, gk = D + 1 := ⟨gk - 1, by
                            rcases Nat.eq_zero_or_pos gk with h0 | h0
                            · subst h0; simp at h1
                            · omega⟩
                          have HN := Lib.hid (guess_next HG.out.1)
                          have HUD : Hid (U < (D + 1) * V) := by
                            rcases h1 with h1 | h1
                            · exact guess_over HUV.out h1
                            · exact guess_down HG.out.1 HU3.out.2 HV3.out.1 h1
                          clear h1
                          by_cases hb : 4294967296 ≤ R + y1
                          · have t4 : decide ((4294967296 : Int) ≤ (R : Int) + (y1 : Int)) = true := by simp; omega
                            have HBr := Lib.hid (guess_break (x3 := x3) HT.out.1 e2 Hxy.out HN.out hb e4)
                            clear hb
                            go_wp2_with (fail)
                            go_meet
                            case rel => exact ⟨D, by go_num, HBr.out.1, ⟨HUD.out, guess_stop HN.out hy HBr.out.1 HU3.out.1 HV3.out.2 HBr.out.2⟩, Hwx.out⟩
                          · have t4 : decide ((4294967296 : Int) ≤ (R : Int) + (y1 : Int)) = false := by simp; omega
                            go_wp2_with (fail)
                            go_roundg D
                            case rel => exact ⟨R + y1, by go_num, by go_num, by omega, by omega, ⟨HN.out, HUD.out⟩, Hwx.out⟩
                            case measure => omega
              -- >>
            case rest =>
              obtain ⟨D, rfl, hD, HGu, hwc⟩ := hcut
              have HWC : Hid (Ext w2 wc ∧ Row wc 70 g us ∧ Row wc 70 gq qs) := by
                have h1 : Ext wr wc := HWd.out.trans hwc.ext
                exact ⟨HK.out.1.trans h1, HK.out.2.2.2.2.2.1.ext h1, HK.out.2.2.2.2.2.2.1.ext h1⟩
              clear hwc f3 f4 f5 hQ0b hR0b hTb e1 e2 e3 e4 e5 hy10 hy
              go_wp2_with (fail)
              go_loopg [18, 19, 20] (m + 2) (fun k v18 v19 v20 wr => ∃ (i Bo C : Nat), i + k = m + 2 ∧ Bo ≤ 1 ∧ C < 4294967296 ∧ v18 = .int .u64 Bo ∧ v19 = .int .u64 C ∧ v20 = .int .i64 i ∧
                Hid (Ext w2 wr ∧ Row wr 70 gq qs ∧ ∃ os' : List Nat, os'.length = lq + (m + 2) ∧ Wd os' ∧ Row wr 70 g os' ∧ os'.take j = us.take j ∧ os'.drop (j + i) = us.drop (j + i) ∧
                  num ((os'.drop j).take i) + D * num (vs.take i) = num ((us.drop j).take i) + 4294967296 ^ i * (C + Bo)))
              case atStart => exact ⟨0, 0, 0, by omega, by omega, by omega, rfl, rfl, rfl, HWC.out.1, HWC.out.2.2, us, HK.out.2.1, HK.out.2.2.2.1, HWC.out.2.1, rfl, rfl, by simp [num]⟩
              case round =>
                as_aux_lemma =>
                  obtain ⟨i, Bo, C, hi, hBo, hC, rfl, rfl, rfl, HQ⟩ := hrel
                  by_cases hlt : i < m + 2
                  · as_aux_lemma =>
                      -- <<
                      obtain ⟨os', h1, h2, h3, h4, h5, h6⟩ := HQ.out.2.2
                      have hcx : wr.cell? ⟨g, i + j, none⟩ = some (.int .u32 ((os'.getD (j + i) 0 : Nat) : Int)) := by rw [Nat.add_comm i j]; exact h3.cell (by omega)
                      have hfz := h3.frozen (i + j)
                      have hx := h2.getD (j + i)
                      have HXe := Lib.hid (win_get h5)
                      generalize os'.getD (j + i) 0 = x at *
                      have HR2 : Hid (∀ (q : Int) (d : Nat), q = (d : Int) → Row (wr.setCell ⟨g, i + j, none⟩ (.int .u32 q)) 70 g (os'.set (j + i) d)) := fun q d hq => by rw [Nat.add_comm i j]; exact h3.set _ q d hq (by omega)
                      have HRq : Hid (∀ u, Row (wr.setCell ⟨g, i + j, none⟩ u) 70 gq qs) := fun u => HQ.out.2.1.other (by show gq ≠ g; have := HGq.out.1; omega) u
                      have HX2 : Hid (∀ u, Ext w2 (wr.setCell ⟨g, i + j, none⟩ u)) := fun u => HQ.out.1.setNew (by show w2.heap.size ≤ g; exact HG.out.1) u
                      have Hos := Lib.hid (And.intro h1 (And.intro h2 (And.intro h4 (And.intro h5 h6))))
                      clear h1 h2 h3 h4 h5 h6
                      have hcv := HQ.out.1.cell_some (HC2.out.1 i hlt)
                      have hv := HVs.out.2.1.getD i
                      have HS := Lib.hid (num_take_succ' vs i)
                      have HO := Lib.hid (win_succ (K := us) j i)
                      generalize vs.getD i 0 = v at *
                      obtain ⟨P, hP⟩ : ∃ P, P = D * v := ⟨_, rfl⟩
                      have hPb : P ≤ 18446744065119617025 := by rw [hP]; exact mul_bound hD hv
                      have hPi : (D : Int) * (v : Int) = (P : Int) := by rw [hP]; simp
                      have HP := Lib.hid hP
                      obtain ⟨L, hL⟩ : ∃ L, L = (P + C) % 4294967296 := ⟨_, rfl⟩
                      have hLi : ((P : Int) + (C : Int)) % 4294967296 = (L : Int) := by omega
                      have HLL := Lib.hid hL
                      obtain ⟨D0, hD0, hb0⟩ := wrap_sub x L (by omega) (by omega)
                      obtain ⟨D1, hD1, hb1⟩ := wrap_sub D0 Bo (by omega) (by omega)
                      have HOw := Lib.hid (off_word hx (show L < 4294967296 by omega) hBo hb0 hb1)
                      have hD1b : D1 < 18446744073709551616 := HOw.out.2.2
                      have hm1 : (i : Int) < (m : Int) + 2 := by omega
                      clear hb0 hb1 hP hL
                      go_wp2_with (fail)
                      go_roundg (gk - 1)
                      case rel =>
                        refine ⟨i + 1, D1 / 9223372036854775808, (P + C) / 4294967296, by omega, HOw.out.2.1, by omega, by go_num, by go_num, by go_num, HX2.out _, HRq.out _, os'.set (j + i) (D1 % 4294967296), by rw [List.length_set]; exact Hos.out.1, Hos.out.2.1.set _ (Nat.mod_lt _ (by decide)), HR2.out _ _ (by omega), win_take Hos.out.2.2.1, win_drop Hos.out.2.2.2.1, ?_⟩
                        rw [win_set (by rw [Hos.out.1]; omega), HS.out, HO.out, ← HXe.out]
                        exact off_step (p := P + C) Hos.out.2.2.2.2 (by rw [HP.out, Nat.add_comm]) (by rw [← HLL.out]; exact HOw.out.1)
                      case measure => omega
                      -- >>
                  · obtain rfl : i = m + 2 := by omega
                    obtain ⟨os1, h1, h2, h3, h4, h5, h6⟩ := HQ.out.2.2
                    have hcx : wr.cell? ⟨g, j + (m + 2), none⟩ = some (.int .u32 ((os1.getD (j + (m + 2)) 0 : Nat) : Int)) := h3.cell (by omega)
                    have hfz := h3.frozen (j + (m + 2))
                    have hx := h2.getD (j + (m + 2))
                    have HXe := Lib.hid (win_get h5)
                    generalize os1.getD (j + (m + 2)) 0 = x at *
                    have HR2 : Hid (∀ (q : Int) (d : Nat), q = (d : Int) → Row (wr.setCell ⟨g, j + (m + 2), none⟩ (.int .u32 q)) 70 g (os1.set (j + (m + 2)) d)) := fun q d hq => h3.set _ q d hq (by omega)
                    have HRq : Hid (∀ u, Row (wr.setCell ⟨g, j + (m + 2), none⟩ u) 70 gq qs) := fun u => HQ.out.2.1.other (by show gq ≠ g; have := HGq.out.1; omega) u
                    have HX2 : Hid (∀ u, Ext w2 (wr.setCell ⟨g, j + (m + 2), none⟩ u)) := fun u => HQ.out.1.setNew (by show w2.heap.size ≤ g; exact HG.out.1) u
                    obtain ⟨D0, hD0, hb0⟩ := wrap_sub x C (by omega) (by omega)
                    obtain ⟨D1, hD1, hb1⟩ := wrap_sub D0 Bo (by omega) (by omega)
                    have HOw := Lib.hid (off_word hx hC hBo hb0 hb1)
                    have hD1b : D1 < 18446744073709551616 := HOw.out.2.2
                    have HVt : Hid (num (vs.take (m + 2)) = V ∧ num (vs.take (m + 3)) = V) := ⟨by rw [HVV.out, List.take_of_length_le (by have := HVp.out.1; omega)], by rw [HVV.out, List.take_of_length_le (by have := HVp.out.1; omega)]⟩
                    have HF : Hid (∃ os2 : List Nat, (∀ q : Int, q = ((D1 % 4294967296 : Nat) : Int) → Row (wr.setCell ⟨g, j + (m + 2), none⟩ (.int .u32 q)) 70 g os2) ∧ os2.length = lq + (m + 2) ∧ Wd os2 ∧ os2.take j = us.take j ∧ os2.drop (j + (m + 3)) = us.drop (j + (m + 3)) ∧
                        num ((os2.drop j).take (m + 3)) + D * V = U + 4294967296 ^ (m + 3) * (D1 / 9223372036854775808)) := by
                      refine ⟨os1.set (j + (m + 2)) (D1 % 4294967296), fun q hq => HR2.out q _ hq, by rw [List.length_set]; exact h1, h2.set _ (Nat.mod_lt _ (by decide)), win_take h4, win_drop h5, ?_⟩
                      have k1 : num (((os1.set (j + (m + 2)) (D1 % 4294967296)).drop j).take (m + 3)) = num ((os1.drop j).take (m + 2)) + 4294967296 ^ (m + 2) * (D1 % 4294967296) := win_set (by omega)
                      have k2 : U = num ((us.drop j).take (m + 2)) + 4294967296 ^ (m + 2) * x := by rw [HUU.out, HXe.out]; exact win_succ j (m + 2)
                      have k3 := off_step (p := C) (v := 0) (x := x) (d := D1 % 4294967296) (Bo' := D1 / 9223372036854775808) h6 (by omega) (by rw [Nat.mod_eq_of_lt hC]; exact HOw.out.1)
                      rw [HVt.out.1, Nat.mul_zero, Nat.add_zero, Nat.div_eq_of_lt hC, Nat.zero_add, ← k1, ← k2] at k3
                      exact k3
                    obtain ⟨B, hB⟩ : ∃ B, B = D1 / 9223372036854775808 := ⟨_, rfl⟩
                    have hBi : (D1 : Int) / 9223372036854775808 = (B : Int) := by omega
                    have hB2 : B ≤ 1 := by rw [hB]; exact HOw.out.2.1
                    rw [← hB] at HF
                    clear h1 h2 h3 h4 h5 h6 hb0 hb1 hB hlt hi
                    go_upto_region 35 with (fail)
                    obtain ⟨os2, HO2⟩ : ∃ os2 : List Nat, Hid ((∀ q : Int, q = ((D1 % 4294967296 : Nat) : Int) → Row (wr.setCell ⟨g, j + (m + 2), none⟩ (.int .u32 q)) 70 g os2) ∧ os2.length = lq + (m + 2) ∧ Wd os2 ∧ os2.take j = us.take j ∧ os2.drop (j + (m + 3)) = us.drop (j + (m + 3)) ∧
                        num ((os2.drop j).take (m + 3)) + D * V = U + 4294967296 ^ (m + 3) * B) := HF.out
                    generalize hwz : World.setCell wr _ _ = wz
                    have HZ2 : Hid (Ext w2 wz ∧ Row wz 70 gq qs ∧ Row wz 70 g os2 ∧ os2.length = lq + (m + 2) ∧ Wd os2 ∧ os2.take j = us.take j ∧ os2.drop (j + (m + 3)) = us.drop (j + (m + 3)) ∧
                        num ((os2.drop j).take (m + 3)) + D * V = U + 4294967296 ^ (m + 3) * B) := by
                      rw [← hwz]
                      exact ⟨HX2.out _, HRq.out _, HO2.out.1 _ (by omega), HO2.out.2⟩
                    clear hwz HO2 HF HX2 HRq HR2 hcx hfz hx HXe HOw hBo hC HQ
                    obtain ⟨Q, HQQ⟩ : ∃ Q : Nat, Hid (Q = U / V) := ⟨U / V, rfl⟩
                    go_upto_if 215 with (fail)
                    go_cut [16] from 84 to 265 (fun v16 wx => v16 = .int .u64 Q ∧ Hid (Ext w2 wx ∧ Row wx 70 gq qs ∧ ∃ os' : List Nat, os'.length = lq + (m + 2) ∧ Wd os' ∧ Row wx 70 g os' ∧ os'.take j = us.take j ∧ os'.drop (j + (m + 3)) = us.drop (j + (m + 3)) ∧ num ((os'.drop j).take (m + 3)) = U % V))
                    case first =>
                      rcases (show B = 0 ∨ B = 1 by omega) with rfl | rfl
                      · as_aux_lemma =>
                          have HF := Lib.hid (fin0 (D := num ((os2.drop j).take (m + 3))) (G := D) (V := V) (U := U) (by have := HZ2.out.2.2.2.2.2.2.2; rw [Nat.mul_zero, Nat.add_zero] at this; exact this) HGu.out)
                          go_wp2_with (fail)
                          go_meet
                          case rel =>
                            obtain rfl : Q = D := by rw [HQQ.out]; exact HF.out.1
                            exact ⟨rfl, HZ2.out.1, HZ2.out.2.1, os2, HZ2.out.2.2.2.1, HZ2.out.2.2.2.2.1, HZ2.out.2.2.1, HZ2.out.2.2.2.2.2.1, HZ2.out.2.2.2.2.2.2.1, HF.out.2.symm⟩
                      · as_aux_lemma =>
                          have HW3 : Hid (∀ L : List Nat, Wd L → L.length = lq + (m + 2) → num ((L.drop j).take (m + 3)) < 4294967296 ^ (m + 3)) := by
                            intro L hL hl
                            have h2 := num_lt ((hL.drop j).take (m + 3))
                            rw [List.length_take, List.length_drop, hl, Nat.min_eq_left (by omega)] at h2
                            exact h2
                          have hD1 : 0 < D := by
                            rcases Nat.eq_zero_or_pos D with h0 | h0
                            · exfalso
                              have h1 := HZ2.out.2.2.2.2.2.2.2
                              have h2 := HW3.out os2 HZ2.out.2.2.2.2.1 HZ2.out.2.2.2.1
                              rw [h0, Nat.zero_mul, Nat.mul_one] at h1
                              omega
                            · exact h0
                          obtain ⟨D', rfl⟩ : ∃ D', D = D' + 1 := ⟨D - 1, by omega⟩
                          clear hD1
                          go_wp2_with (fail)
                          go_loopg [24, 25] (m + 2) (fun k v24 v25 wr => ∃ (i C : Nat), i + k = m + 2 ∧ C ≤ 1 ∧ v24 = .int .u64 C ∧ v25 = .int .i64 i ∧
                            Hid (Ext w2 wr ∧ Row wr 70 gq qs ∧ ∃ os' : List Nat, os'.length = lq + (m + 2) ∧ Wd os' ∧ Row wr 70 g os' ∧ os'.take j = us.take j ∧ os'.drop (j + i) = os2.drop (j + i) ∧
                              num ((os'.drop j).take i) + 4294967296 ^ i * C = num ((os2.drop j).take i) + num (vs.take i)))
                          case atStart => exact ⟨0, 0, by omega, by omega, rfl, rfl, HZ2.out.1, HZ2.out.2.1, os2, HZ2.out.2.2.2.1, HZ2.out.2.2.2.2.1, HZ2.out.2.2.1, HZ2.out.2.2.2.2.2.1, rfl, by simp [num]⟩
                          case round =>
                            as_aux_lemma =>
                              obtain ⟨i, C2, hi, hC2, rfl, rfl, HQ⟩ := hrel
                              by_cases hlt : i < m + 2
                              · as_aux_lemma =>
                                  obtain ⟨os', h1, h2, h3, h4, h5, h6⟩ := HQ.out.2.2
                                  have hcx : wr.cell? ⟨g, i + j, none⟩ = some (.int .u32 ((os'.getD (j + i) 0 : Nat) : Int)) := by rw [Nat.add_comm i j]; exact h3.cell (by omega)
                                  have hfz := h3.frozen (i + j)
                                  have hx := h2.getD (j + i)
                                  have HXe := Lib.hid (win_get h5)
                                  generalize os'.getD (j + i) 0 = d at *
                                  have HR2 : Hid (∀ (n : Nat) (q : Int) (d : Nat), q = (d : Int) → Row ((wr.drewN n).setCell ⟨g, i + j, none⟩ (.int .u32 q)) 70 g (os'.set (j + i) d)) := fun n q d hq => by rw [Nat.add_comm i j]; exact (h3.ext ((Ext.refl wr).drewN n)).set _ q d hq (by omega)
                                  have HRq : Hid (∀ (n : Nat) u, Row ((wr.drewN n).setCell ⟨g, i + j, none⟩ u) 70 gq qs) := fun n u => (HQ.out.2.1.ext ((Ext.refl wr).drewN n)).other (by show gq ≠ g; have := HGq.out.1; omega) u
                                  have HX2 : Hid (∀ (n : Nat) u, Ext w2 ((wr.drewN n).setCell ⟨g, i + j, none⟩ u)) := fun n u => (HQ.out.1.drewN n).setNew (by show w2.heap.size ≤ g; exact HG.out.1) u
                                  have Hos := Lib.hid (And.intro h1 (And.intro h2 (And.intro h4 (And.intro h5 h6))))
                                  clear h1 h2 h3 h4 h5 h6
                                  have hcv := HQ.out.1.cell_some (HC2.out.1 i hlt)
                                  have hv := HVs.out.2.1.getD i
                                  have HS := Lib.hid (num_take_succ' vs i)
                                  have HO := Lib.hid (win_succ (K := os2) j i)
                                  generalize vs.getD i 0 = v at *
                                  have hm1 : (i : Int) < (m : Int) + 2 := by omega
                                  have wij : IntKind.i64.wrap ((i : Int) + (j : Int)) = (i : Int) + (j : Int) := IntWalk.i64_in _ (by omega)
                                  have wijn : ((i : Int) + (j : Int)).toNat = i + j := by omega
                                  have wij2 : (i : Int) + (j : Int) < (lz : Int) + 1 := by omega
                                  have wij0 : (0 : Int) ≤ (i : Int) + (j : Int) := by omega
                                  have wd : IntKind.u64.wrap (d : Int) = (d : Int) := IntWalk.u64_in _ (by omega)
                                  have wv : IntKind.u64.wrap (v : Int) = (v : Int) := IntWalk.u64_in _ (by omega)
                                  have wcd : IntKind.u64.wrap ((C2 : Int) + (d : Int)) = (C2 : Int) + (d : Int) := IntWalk.u64_in _ (by omega)
                                  have wcdv : IntKind.u64.wrap ((C2 : Int) + (d : Int) + (v : Int)) = (C2 : Int) + (d : Int) + (v : Int) := IntWalk.u64_in _ (by omega)
                                  go_wp2_with (fail)
                                  go_quiet (fail)
                                  go_wp2_with (fail)
                                  go_roundg (gk - 1)
                                  case rel =>
                                    refine ⟨i + 1, (C2 + d + v) / 4294967296, by omega, by omega, by go_num, by go_num, HX2.out _ _, HRq.out _ _, os'.set (j + i) ((C2 + d + v) % 4294967296), by rw [List.length_set]; exact Hos.out.1, Hos.out.2.1.set _ (Nat.mod_lt _ (by decide)), HR2.out _ _ _ (by omega), win_take Hos.out.2.2.1, win_drop Hos.out.2.2.2.1, ?_⟩
                                    rw [win_set (by rw [Hos.out.1]; omega), HS.out, HO.out, ← HXe.out]
                                    exact back_step Hos.out.2.2.2.2
                                  case measure => omega
                              · as_aux_lemma =>
                                  obtain rfl : i = m + 2 := by omega
                                  obtain ⟨os', h1, h2, h3, h4, h5, h6⟩ := HQ.out.2.2
                                  have hcx : wr.cell? ⟨g, j + (m + 2), none⟩ = some (.int .u32 ((os'.getD (j + (m + 2)) 0 : Nat) : Int)) := h3.cell (by omega)
                                  have hfz := h3.frozen (j + (m + 2))
                                  have hx := h2.getD (j + (m + 2))
                                  have HXe := Lib.hid (win_get h5)
                                  generalize os'.getD (j + (m + 2)) 0 = d at *
                                  have HR2 : Hid (∀ (q : Int) (d : Nat), q = (d : Int) → Row (wr.setCell ⟨g, j + (m + 2), none⟩ (.int .u32 q)) 70 g (os'.set (j + (m + 2)) d)) := fun q d hq => h3.set _ q d hq (by omega)
                                  have HRq : Hid (∀ u, Row (wr.setCell ⟨g, j + (m + 2), none⟩ u) 70 gq qs) := fun u => HQ.out.2.1.other (by show gq ≠ g; have := HGq.out.1; omega) u
                                  have HX2 : Hid (∀ u, Ext w2 (wr.setCell ⟨g, j + (m + 2), none⟩ u)) := fun u => HQ.out.1.setNew (by show w2.heap.size ≤ g; exact HG.out.1) u
                                  have HE : Hid (Q = D' ∧ ∃ os4 : List Nat, os4 = os'.set (j + (m + 2)) ((C2 + d + 0) % 4294967296) ∧ os4.length = lq + (m + 2) ∧ Wd os4 ∧ os4.take j = us.take j ∧ os4.drop (j + (m + 3)) = us.drop (j + (m + 3)) ∧ num ((os4.drop j).take (m + 3)) = U % V) := by
                                    have k0 := back_step (v := 0) (d := d) h6
                                    have k1 : num (((os'.set (j + (m + 2)) ((C2 + d + 0) % 4294967296)).drop j).take (m + 3)) = num ((os'.drop j).take (m + 2)) + 4294967296 ^ (m + 2) * ((C2 + d + 0) % 4294967296) := win_set (by omega)
                                    have k2 : num ((os2.drop j).take (m + 3)) = num ((os2.drop j).take (m + 2)) + 4294967296 ^ (m + 2) * d := by rw [HXe.out]; exact win_succ j (m + 2)
                                    rw [Nat.mul_zero, Nat.add_zero, HVt.out.1, ← k1, ← k2] at k0
                                    have k3 := HZ2.out.2.2.2.2.2.2.2
                                    rw [Nat.mul_one] at k3
                                    have l4 : (os'.set (j + (m + 2)) ((C2 + d + 0) % 4294967296)).length = lq + (m + 2) := by rw [List.length_set]; exact h1
                                    have d4 : Wd (os'.set (j + (m + 2)) ((C2 + d + 0) % 4294967296)) := h2.set _ (Nat.mod_lt _ (by decide))
                                    have hV3 : V ≤ 4294967296 ^ (m + 3) := Nat.le_trans HVp.out.2.2.1 (Nat.pow_le_pow_right (by decide) (by omega))
                                    obtain ⟨-, k5, k6⟩ := fin1 k3 HGu.out (HW3.out os2 HZ2.out.2.2.2.2.1 HZ2.out.2.2.2.1) hV3 (HW3.out _ d4 l4) k0
                                    exact ⟨by rw [HQQ.out, k5]; rfl, _, rfl, l4, d4, win_take h4, (win_drop h5).trans HZ2.out.2.2.2.2.2.2.1, k6.symm⟩
                                  clear h1 h2 h3 h4 h5 h6 hlt hi
                                  go_wp2_with (fail)
                                  go_meet
                                  case rel =>
                                    obtain ⟨rfl, os4, rfl, l4, d4, e4, e5, e6⟩ := HE.out
                                    exact ⟨by go_num, HX2.out _, HRq.out _, _, l4, d4, HR2.out _ _ (by omega), e4, e5, e6⟩
                    case rest =>
                      obtain ⟨rfl, HE⟩ := hcut
                      obtain ⟨hxz, hrz, os3, l3, d3, r3, t1, t2, t3⟩ := HE.out
                      have hQb : Q < 4294967296 := by rw [HQQ.out]; exact Nat.div_lt_of_lt_mul (by rw [Nat.mul_comm]; exact HUV.out)
                      have hcq := hrz.cell (i := j) (by rw [HK.out.2.2.1]; omega)
                      have hfq := hrz.frozen j
                      have HR2 : Hid (∀ q : Int, q = (Q : Int) → Row (wc.setCell ⟨gq, j, none⟩ (.int .u32 q)) 70 gq (qs.set j Q)) := fun q hq => hrz.set _ q Q hq (by rw [HK.out.2.2.1]; omega)
                      have HR1 : Hid (∀ u, Row (wc.setCell ⟨gq, j, none⟩ u) 70 g os3) := fun u => r3.other (by show g ≠ gq; have := HGq.out.1; omega) u
                      have HX7 : Hid (∀ u, Ext w2 (wc.setCell ⟨gq, j, none⟩ u)) := fun u => hxz.setNew (by show w2.heap.size ≤ gq; exact HGq.out.2) u
                      have HK7 := Lib.hid (And.intro l3 (And.intro d3 (And.intro t1 (And.intro t2 t3))))
                      clear hxz hrz l3 d3 r3 t1 t2 t3
                      go_wp2_with (fail)
                      go_roundg j
                      case rel =>
                        refine ⟨by omega, by go_num, HX7.out _, os3, qs.set j Q, HK7.out.1, by rw [List.length_set]; exact HK.out.2.2.1, HK7.out.2.1, HK.out.2.2.2.2.1.set _ hQb, HR1.out _, HR2.out _ rfl, ?_⟩
                        have := div_round (k := j + 1) rfl HK.out.2.2.2.1 (by have := HVp.out.2.1; have := pow_pos32 (m + 1); omega) HVp.out.2.2.1 (by rw [HK.out.2.2.1]; omega) (by rw [HK.out.2.1]; omega) HK.out.2.2.2.2.2.2.2.1 HK.out.2.2.2.2.2.2.2.2 HK7.out.2.2.1 HK7.out.2.2.2.1 (by rw [← HUU.out]; exact HK7.out.2.2.2.2)
                        rw [← HUU.out, ← HQQ.out] at this
                        exact this
                      case measure => omega
end Go.Proofs.YtdpjkddllimcoaaGreatDoor
end

section
/- The reference's division of whole numbers. -/
namespace Go.Proofs.YtdpjkddllimcoaaGreatDoor
open Go.RowKit Fl
theorem k_divide (v u : Value) (a b : Nat) (w : World) (hv : Nt w v a) (hu : Nt w u b) (ha0 : 0 < a) (hb0 : 0 < b) (ha : a < 4294967296 ^ 1048574) (hb : b < 4294967296 ^ 1048574) :
    Calls Tryz.prog 131 #[v, u] w fun e w' => ∃ q r, e = .returned (.tuple #[q, r]) ∧ Ext w w' ∧ Nt w' q (a / b) ∧ Nt w' r (a % b) := by
  by_cases h : a < b
  · exact k_divide_lt v u a b w hv hu ha0 (fit_up (k := 1048574) (l := 1048575) ha (by decide)) (fit_up (k := 1048574) (l := 1048576) hb (by decide)) h
  · obtain ⟨ys, hs, hw, ht, rfl⟩ := hu
    obtain ⟨p, cap, rfl, -⟩ := hs.form
    match ys, hs, hw, ht, hb0, hb, h with
    | [], _, _, _, hb0, _, _ => simp [num] at hb0
    | [y], hs, hw, ht, hb0, hb, h =>
      have e : num [y] = y := by simp [num]
      rw [e] at *
      exact k_divide_one v a y w p cap hv hs hb0 (hw y (by simp)) (fit_up (k := 1048574) (l := 1048575) ha (by decide)) h
    | y :: z :: zs, hs, hw, ht, hb0, hb, h =>
      exact k_divide_big v a w p cap zs.length (y :: z :: zs) hv hs hw ht rfl ha h
end Go.Proofs.YtdpjkddllimcoaaGreatDoor
end

section
/- The reference's exact numbers: quotients, cut. -/
namespace Fl
open Go Go.RowKit
/-- what is cut downwards: q units of the sign n, B: nothing is cut. -/
def over (n : Bool) (q : Nat) (B : Bool) : Int := if n && !B then sg n q - 1 else sg n q
theorem quo_cross {X Y X' Y' S T : Nat} (hS : 0 < S) (hT : 0 < T) (h1 : X * S = X' * T) (h2 : Y * S = Y' * T) : X / Y = X' / Y' ∧ (X % Y = 0 ↔ X' % Y' = 0) := by
  constructor
  · rw [← Nat.mul_div_mul_right X Y hS, h1, h2, Nat.mul_div_mul_right X' Y' hT]
  · have e1 := Nat.mul_mod_mul_right S X Y
    rw [h1, h2, Nat.mul_mod_mul_right T X' Y'] at e1
    constructor
    · intro h
      rw [h, Nat.zero_mul] at e1
      rcases Nat.mul_eq_zero.1 e1 with h | h
      · exact h
      · omega
    · intro h
      rw [h, Nat.zero_mul] at e1
      rcases Nat.mul_eq_zero.1 e1.symm with h | h
      · exact h
      · omega
theorem over_scale {o1 o2 x y E1 E2 f g place : Int} {k1 k2 : Nat} (hx : x = o1 * 2 ^ k1) (h1 : E1 = f + k1) (hy : y = o2 * 2 ^ k2) (h2 : E2 = g + k2) :
    (x.natAbs * 2 ^ (f - g + place).toNat) / (y.natAbs * 2 ^ (-(f - g + place)).toNat) = (o1.natAbs * 2 ^ (E1 - E2 + place).toNat) / (o2.natAbs * 2 ^ (-(E1 - E2 + place)).toNat) ∧
    ((x.natAbs * 2 ^ (f - g + place).toNat) % (y.natAbs * 2 ^ (-(f - g + place)).toNat) = 0 ↔ (o1.natAbs * 2 ^ (E1 - E2 + place).toNat) % (o2.natAbs * 2 ^ (-(E1 - E2 + place)).toNat) = 0) := by
  subst hx hy
  rw [natAbs_mul_pow, natAbs_mul_pow]
  refine quo_cross (S := 2 ^ (E1 - E2 + place).toNat) (T := 2 ^ (k1 + (f - g + place).toNat)) (Nat.two_pow_pos _) (Nat.two_pow_pos _) ?_ ?_
  · rw [Nat.pow_add]; ac_rfl
  · rw [Nat.mul_assoc, Nat.mul_assoc, Nat.mul_assoc, ← Nat.pow_add, ← Nat.pow_add, ← Nat.pow_add]
    congr 2
    omega
end Fl
namespace Go.Proofs.YtdpjkddllimcoaaGreatDoor
open Go.RowKit Fl
set_option maxRecDepth 20000 in
set_option maxHeartbeats 4000000 in
theorem k_Over (a b : Value) (x y f g place : Int) (L : Nat) (w : World) (h1 : Ry w a x f) (h2 : Ry w b y g) (hx0 : x ≠ 0) (hy0 : y ≠ 0) (hx : x.natAbs < 2 ^ L) (hy : y.natAbs < 2 ^ L) (hL : L ≤ 100000) (hf : -100000 ≤ f ∧ f ≤ 100000) (hg : -100000 ≤ g ∧ g ≤ 100000) (hp : -100000 ≤ place ∧ place ≤ 100000)
    (X Y : Nat) (hX : X = x.natAbs * 2 ^ (f - g + place).toNat) (hY : Y = y.natAbs * 2 ^ (-(f - g + place)).toNat) :
    Calls Tryz.prog 94 #[a, b, .int .i64 place] w fun en w' => ∃ v, en = .returned (.tuple #[v, .bool (decide (X % Y = 0))]) ∧ Ext w w' ∧ Ry w' v (over (decide (x < 0) != decide (y < 0)) (X / Y) (decide (X % Y = 0))) (-place) := by
  obtain ⟨n1, p1, l1, c1, o1, E1, rfl, hn1, hl1, hN1, hr1, hp1⟩ := h1.open
  obtain ⟨n2, p2, l2, c2, o2, E2, rfl, hn2, hl2, hN2, hr2, hp2⟩ := h2.open
  have z1 : o1 ≠ 0 := fun h => hx0 (hr1.sgn.2.1.2 h)
  have z2 : o2 ≠ 0 := fun h => hy0 (hr2.sgn.2.1.2 h)
  have t0 := len_ne0 (Nat.pos_of_ne_zero (fun h0 => hx0 (hl1.1 h0)))
  obtain ⟨k1, e1, e2⟩ := hr1.exp z1
  obtain ⟨k2, e3, e4⟩ := hr2.exp z2
  obtain ⟨b1, b2, b3, -⟩ := hr1.range hx0 hx
  obtain ⟨b4, b5, b6, -⟩ := hr2.range hy0 hy
  obtain ⟨q1, q2⟩ := over_scale (place := place) e1 e2 e3 e4
  rw [← hX, ← hY] at q1 q2
  obtain ⟨N, hN⟩ : ∃ N, E1 - E2 + place = N := ⟨_, rfl⟩
  rw [hN] at q1 q2
  have hNb : -400000 ≤ N ∧ N ≤ 400000 := by omega
  obtain ⟨X', hX'⟩ : ∃ X', X' = o1.natAbs * 2 ^ N.toNat := ⟨_, rfl⟩
  obtain ⟨Y', hY'⟩ : ∃ Y', Y' = o2.natAbs * 2 ^ (-N).toNat := ⟨_, rfl⟩
  rw [← hX', ← hY'] at q1 q2
  have hXp : 0 < X' := by rw [hX']; exact Nat.mul_pos (by omega) (Nat.two_pow_pos _)
  have hYp : 0 < Y' := by rw [hY']; exact Nat.mul_pos (by omega) (Nat.two_pow_pos _)
  obtain ⟨M, hM1, hM2⟩ : ∃ M : Nat, 500000 ≤ M ∧ M ≤ 500000 := ⟨500000, Nat.le_refl _, Nat.le_refl _⟩
  have hXb : X' < 2 ^ M := by
    rw [hX']
    refine Nat.lt_of_lt_of_le (Nat.mul_lt_mul_of_pos_right b3 (Nat.two_pow_pos _)) ?_
    rw [← Nat.pow_add]
    exact Nat.pow_le_pow_right (by decide) (by omega)
  have hYb : Y' < 2 ^ M := by
    rw [hY']
    refine Nat.lt_of_lt_of_le (Nat.mul_lt_mul_of_pos_right b6 (Nat.two_pow_pos _)) ?_
    rw [← Nat.pow_add]
    exact Nat.pow_le_pow_right (by decide) (by omega)
  have HB : Hid (decide (X % Y = 0) = decide (X' % Y' = 0)) := by show _ = _; rw [decide_eq_decide]; exact q2
  rw [HB.out, q1, ← hn1, ← hn2]
  obtain ⟨q, hq⟩ : ∃ q, q = X' / Y' := ⟨_, rfl⟩
  obtain ⟨r, hr⟩ : ∃ r, r = X' % Y' := ⟨_, rfl⟩
  have hqb : q < 2 ^ M := by rw [hq]; exact Nat.lt_of_le_of_lt (Nat.div_le_self _ _) hXb
  rw [← hq, ← hr]
  have HDv : Hid (∀ w' u v, Nt w' u X' → Nt w' v Y' → Calls Tryz.prog 131 #[u, v] w' fun en w'' => ∃ s t, en = .returned (.tuple #[s, t]) ∧ Ext w' w'' ∧ Nt w'' s q ∧ Nt w'' t r) := fun w' u v h1 h2 => by
    rw [hq, hr]
    exact k_divide u v X' Y' w' h1 h2 hXp hYp (fit_of (k := M) (l := 1048574) hXb (by omega)) (fit_of (k := M) (l := 1048574) hYb (by omega))
  have HU1 : Hid (0 ≤ N → ∀ w', Ext w w' → Calls Tryz.prog 79 #[.slice p1 l1 c1, .int .i64 N] w' fun en w'' => ∃ v', en = .returned v' ∧ Ext w' w'' ∧ Nt w'' v' X' ∧ Nt w'' (.slice p2 l2 c2) Y') := by
    intro h0 w' hx'
    obtain ⟨k, rfl⟩ : ∃ k : Nat, N = (k : Int) := ⟨N.toNat, by omega⟩
    refine (k_up _ _ k w' (hN1.ext hx') (fit_of (k := L) (l := 1048575) b3 (by omega)) (by omega)).mono ?_
    rintro en w'' ⟨v', rfl, k1, k2⟩
    refine ⟨v', rfl, k1, by rw [hX']; exact k2, ?_⟩
    rw [hY', show (-(k : Int)).toNat = 0 by omega, Nat.pow_zero, Nat.mul_one]
    exact (hN2.ext hx').ext k1
  have HU2 : Hid (N < 0 → ∀ w', Ext w w' → Calls Tryz.prog 79 #[.slice p2 l2 c2, .int .i64 (-N)] w' fun en w'' => ∃ v', en = .returned v' ∧ Ext w' w'' ∧ Nt w'' v' Y' ∧ Nt w'' (.slice p1 l1 c1) X') := by
    intro h0 w' hx'
    obtain ⟨k, hk⟩ : ∃ k : Nat, -N = (k : Int) := ⟨(-N).toNat, by omega⟩
    rw [hk]
    refine (k_up _ _ k w' (hN2.ext hx') (fit_of (k := L) (l := 1048575) b6 (by omega)) (by omega)).mono ?_
    rintro en w'' ⟨v', rfl, k1, k2⟩
    refine ⟨v', rfl, k1, by rw [hY', hk]; exact k2, ?_⟩
    rw [hX', show N.toNat = 0 by omega, Nat.pow_zero, Nat.mul_one]
    exact (hN1.ext hx').ext k1
  have HNm : Hid (∀ w' v, Nt w' v q → Calls Tryz.prog 77 #[.bool (!(n1 == n2)), v, .int .i64 (-place)] w' fun en w'' => ∃ v', en = .returned v' ∧ Ext w' w'' ∧ Ry w'' v' (sg (!(n1 == n2)) q) (-place)) := by
    intro w' v q1
    obtain ⟨zs, k1, k2, k3, k4⟩ := q1.fitted (L := M) hqb (by omega)
    refine (k_norm (!(n1 == n2)) v zs (-place) w' k1 k2 k4 (by omega) (by omega)).mono ?_
    rintro en wn ⟨v', rfl, k5, k6⟩
    rw [k3] at k6
    exact ⟨v', rfl, k5, k6⟩
  have HOn : Hid (∀ w', Calls Tryz.prog 93 #[.int .i64 place] w' fun en w'' => ∃ v', en = .returned v' ∧ Ext w' w'' ∧ Ry w'' v' 1 (-place)) := fun w' => k_one place w' (by omega)
  have HLs : Hid (∀ w' u v, Ry w' u (sg (!(n1 == n2)) q) (-place) → Ry w' v 1 (-place) → Calls Tryz.prog 63 #[u, v] w' fun en w'' => ∃ v', en = .returned v' ∧ Ext w' w'' ∧ Ry w'' v' (sg (!(n1 == n2)) q - 1) (-place)) := fun w' u v h1 h2 => k_Less u v _ 1 (-place) M w' h1 h2 (by rw [sg_natAbs]; exact hqb) (by exact Nat.one_lt_two_pow (by omega)) (by omega) (by omega)
  have hne : (n1 != n2) = !(n1 == n2) := rfl
  rw [hne]
  obtain ⟨w1, hw1⟩ : ∃ w1, ((w.alloc (.cells #[.bool n1, .slice p1 l1 c1, .int .i64 E1] 35)).alloc (.cells #[.bool n2, .slice p2 l2 c2, .int .i64 E2] 35)).alloc (.cells #[.bool false, .slice none 0 0, .int .i64 0] 35) = w1 := ⟨_, rfl⟩
  have H1 : Hid (Bx w1 35 w.heap.size n1 (.slice p1 l1 c1) E1 ∧ Bx w1 35 (w.heap.size + 1) n2 (.slice p2 l2 c2) E2 ∧ Ext w w1 ∧ Bx w1 35 (w.heap.size + 2) false (.slice none 0 0) 0) := by
    rw [← hw1]
    exact ⟨(Bx.new1 _ _ _ _ _ _).ext ((Ext.refl _).alloc _), (Bx.new2 _ _ _ _ _ _).ext ((Ext.refl _).alloc _), (((Ext.refl w).alloc _).alloc _).alloc _, Bx.new3 _ _ _ _ _ _ _⟩
  have hne1 : ¬ w.heap.size + 1 + 1 = w.heap.size := by omega
  have hne2 : ¬ w.heap.size + 2 = w.heap.size := by omega
  have a0 := H1.out.1.c0
  have a1 := H1.out.1.c1
  have a2 := H1.out.1.c2
  have a3 := H1.out.2.1.c0
  have a4 := H1.out.2.1.c1
  have a5 := H1.out.2.1.c2
  generalize hnn : (!(n1 == n2)) = n12 at *
  clear h1 h2 hn1 hn2 hl1 hl2 hN1 hN2 hr1 hr2 hp1 hp2 hx hy hX hY q1 q2 hX' hY' hXb hYb hqb hq hr e1 e2 e3 e4 b3 b6 HB hne hXp hYp
  go_enter Tryz.func94, Tryz.ntmps94
  go_upto_region 4 with (fail)
  go_quiet (fail)
  go_upto_if 32 with (fail)
  go_cut [9, 10] (fun v9 v10 wc => Hid (Ext w1 wc ∧ Nt wc v9 X' ∧ Nt wc v10 Y'))
  case first =>
    by_cases h0 : 0 ≤ N
    · have t1 : decide (0 ≤ N) = true := by simp; omega
      have HU := Lib.hid (HU1.out h0)
      go_wp2_with (fail)
      refine (HU.out _ (H1.out.2.2.1.drewN _)).mono ?_
      rintro en w3 ⟨v3, rfl, hx, hv, hv2⟩
      have H3 : Hid (Ext w1 w3 ∧ Nt w3 v3 X' ∧ Nt w3 (.slice p2 l2 c2) Y') := ⟨((Ext.refl w1).drewN _).trans hx, hv, hv2⟩
      clear hx hv hv2
      go_wp2_with (fail)
      go_meet
      case rel => exact H3.out
    · have t1 : decide (0 ≤ N) = false := by simp; omega
      have HU := Lib.hid (HU2.out (by omega))
      go_wp2_with (fail)
      refine (HU.out _ (H1.out.2.2.1.drewN _)).mono ?_
      rintro en w3 ⟨v3, rfl, hx, hv, hv2⟩
      have H3 : Hid (Ext w1 w3 ∧ Nt w3 (.slice p1 l1 c1) X' ∧ Nt w3 v3 Y') := ⟨((Ext.refl w1).drewN _).trans hx, hv2, hv⟩
      clear hx hv hv2
      go_wp2_with (fail)
      go_meet
      case rel => exact H3.out
  case rest =>
    have H2 := hcut
    clear hcut
    go_wp2_with (fail)
    refine (HDv.out _ _ _ H2.out.2.1 H2.out.2.2).mono ?_
    rintro en w4 ⟨s, t, rfl, hx, hs, ht⟩
    obtain ⟨pr, lr, cr, rfl, hlr⟩ := ht.len
    have HS := Lib.hid hs
    have hx4 := H2.out.1.trans hx
    have H4 : Hid (Bx w4 35 w.heap.size n1 (.slice p1 l1 c1) E1 ∧ Bx w4 35 (w.heap.size + 1) n2 (.slice p2 l2 c2) E2 ∧ Ext w w4 ∧ Bx w4 35 (w.heap.size + 2) false (.slice none 0 0) 0) := ⟨H1.out.1.ext hx4, H1.out.2.1.ext hx4, H1.out.2.2.1.trans hx4, H1.out.2.2.2.ext hx4⟩
    have a0 := H4.out.1.c0
    have a3 := H4.out.2.1.c0
    clear hx hx4 hs ht a1 a2 a4 a5
    go_wp2_with (fail)
    refine (HNm.out _ _ HS.out).mono ?_
    rintro en w5 ⟨v, rfl, hx, hd⟩
    obtain ⟨nn, pp, ll, cc, oo, EE, rfl, -⟩ := hd.open
    have H5 : Hid (Ext w w5 ∧ Bx w5 35 (w.heap.size + 2) false (.slice none 0 0) 0 ∧ Ry w5 (.agg #[.bool nn, .slice pp ll cc, .int .i64 EE]) (sg n12 q) (-place)) := ⟨H4.out.2.2.1.trans hx, H4.out.2.2.2.ext hx, hd⟩
    have hg5 := H5.out.2.1.lt
    obtain ⟨g5, hg⟩ : ∃ g5, w5.heap.size = g5 := ⟨_, rfl⟩
    have H6 : Hid (Ext w (w5.alloc (.cells #[.bool nn, .slice pp ll cc, .int .i64 EE] 35)) ∧ Bx (w5.alloc (.cells #[.bool nn, .slice pp ll cc, .int .i64 EE] 35)) 35 (w.heap.size + 2) false (.slice none 0 0) 0 ∧ Ry (w5.alloc (.cells #[.bool nn, .slice pp ll cc, .int .i64 EE] 35)) (.agg #[.bool nn, .slice pp ll cc, .int .i64 EE]) (sg n12 q) (-place) ∧ Bx (w5.alloc (.cells #[.bool nn, .slice pp ll cc, .int .i64 EE] 35)) 35 g5 nn (.slice pp ll cc) EE) := by
      rw [← hg]
      exact ⟨H5.out.1.alloc _, H5.out.2.1.ext ((Ext.refl _).alloc _), H5.out.2.2.ext ((Ext.refl _).alloc _), Bx.new _ _ _ _ _⟩
    have hgn : w.heap.size + 2 < g5 := by omega
    clear hx hd a0 a3 hg5
    go_upto_if 58 with (fail)
    clear hg
    generalize w5.alloc (.cells #[.bool nn, .slice pp ll cc, .int .i64 EE] 35) = w6 at *
    clear H5 H4 HS H2 hnn
    have hne1 : ¬ w.heap.size + 1 + 1 = g5 := by omega
    have hne2 : ¬ w.heap.size + 2 = g5 := by omega
    have hne3 : ¬ g5 = w.heap.size + 1 + 1 := by omega
    have hne4 : ¬ g5 = w.heap.size + 2 := by omega
    have k0 := H6.out.2.2.2.c0
    have k1 := H6.out.2.2.2.c1
    have k2 := H6.out.2.2.2.c2
    have r0 := H6.out.2.1.c0
    have r1 := H6.out.2.1.c1
    have r2 := H6.out.2.1.c2
    have r3 := H6.out.2.1.frozen 0
    have r4 := H6.out.2.1.frozen 1
    have r5 := H6.out.2.1.frozen 2
    by_cases h0 : r = 0
    · obtain rfl : lr = 0 := hlr.2 h0
      have HR0 := Lib.hid h0
      clear h0 hlr
      go_wp2_with (fail)
      refine bodyPost_ret (v := .tuple #[.agg #[.bool nn, .slice pp ll cc, .int .i64 EE], .bool true]) (by simp [results, Tryz.results94, go_sem, r0, r1, r2]) rfl ⟨.agg #[.bool nn, .slice pp ll cc, .int .i64 EE], ?_, ?_, ?_⟩
      · rw [decide_eq_true HR0.out]
      · exact H6.out.1.set3 (by omega) _ _ _
      · rw [decide_eq_true HR0.out, show over n12 q true = sg n12 q by unfold over; simp]
        exact H6.out.2.2.1.setBx H6.out.2.1 IsSl.nil _ _ _
    · have HR0 : Hid (decide (r = 0) = false) := decide_eq_false h0
      have t5 : ((lr : Int) == 0) = false := len_ne0 (Nat.pos_of_ne_zero (fun h => h0 (hlr.1 h)))
      clear h0 hlr
      cases n12
      · go_wp2_with (fail)
        refine bodyPost_ret (v := .tuple #[.agg #[.bool nn, .slice pp ll cc, .int .i64 EE], .bool false]) (by simp [results, Tryz.results94, go_sem, r0, r1, r2]) rfl ⟨.agg #[.bool nn, .slice pp ll cc, .int .i64 EE], ?_, ?_, ?_⟩
        · rw [HR0.out]
        · exact H6.out.1.set3 (by omega) _ _ _
        · rw [HR0.out, show over false q false = sg false q from rfl]
          exact H6.out.2.2.1.setBx H6.out.2.1 IsSl.nil _ _ _
      · go_upto_region 14 with (fail)
        clear r0 r1 r2 r3 r4 r5
        go_region_with
          (first
            | (go_at_call 93; refine (HOn.out _).mono ?_; rintro en w7 ⟨v7, rfl, hx, hd⟩; have HV7 := Lib.hid hd; have hx1 : Ext w6 w7 := (by first | exact hx | exact (Ext.of_drew hx) | exact (Ext.of_drewN hx) | fail); have H7 : Hid (Ext w w7 ∧ Bx w7 35 (w.heap.size + 2) false (.slice none 0 0) 0 ∧ Ry w7 (.agg #[.bool nn, .slice pp ll cc, .int .i64 EE]) (sg true q) (-place) ∧ Bx w7 35 g5 nn (.slice pp ll cc) EE) := ⟨H6.out.1.trans hx1, H6.out.2.1.ext hx1, H6.out.2.2.1.ext hx1, H6.out.2.2.2.ext hx1⟩; clear hx hx1 hd k0 k1 k2; have k0 := H7.out.2.2.2.c0; have k1 := H7.out.2.2.2.c1; have k2 := H7.out.2.2.2.c2)
            | (go_at_call 63; refine (HLs.out _ _ v7 (by first | exact H7.out.2.2.1 | exact H7.out.2.2.1.ext ((Ext.refl _).drewN _) | exact H7.out.2.2.1.ext (Ext.refl _).drew | fail) (by first | exact HV7.out | exact HV7.out.ext ((Ext.refl _).drewN _) | exact HV7.out.ext (Ext.refl _).drew | fail)).mono ?_; rintro en w8 ⟨v8, rfl, hx, hd⟩; have HV8 := Lib.hid hd; obtain ⟨n9, p9, l9, c9, o9, E9, rfl, -⟩ := hd.open; have hx1 : Ext w7 w8 := (by first | exact hx | exact (Ext.of_drew hx) | exact (Ext.of_drewN hx) | fail); have H8 : Hid (Ext w w8 ∧ Bx w8 35 (w.heap.size + 2) false (.slice none 0 0) 0 ∧ Ry w8 (.agg #[.bool n9, .slice p9 l9 c9, .int .i64 E9]) (sg true q - 1) (-place) ∧ Bx w8 35 g5 nn (.slice pp ll cc) EE) := ⟨H7.out.1.trans hx1, H7.out.2.1.ext hx1, HV8.out, H7.out.2.2.2.ext hx1⟩; clear hx hx1 hd k0 k1 k2; have k0 := H8.out.2.2.2.c0; have k1 := H8.out.2.2.2.c1; have k2 := H8.out.2.2.2.c2; have k3 := H8.out.2.2.2.frozen 0; have k4 := H8.out.2.2.2.frozen 1; have k5 := H8.out.2.2.2.frozen 2))
        all_goals
          go_upto_region 15 with (fail)
          have H9 : Hid (Ext w (((w8.setCell ⟨g5, 0, none⟩ (.bool n9)).setCell ⟨g5, 1, none⟩ (.slice p9 l9 c9)).setCell ⟨g5, 2, none⟩ (.int .i64 E9)) ∧ Bx (((w8.setCell ⟨g5, 0, none⟩ (.bool n9)).setCell ⟨g5, 1, none⟩ (.slice p9 l9 c9)).setCell ⟨g5, 2, none⟩ (.int .i64 E9)) 35 (w.heap.size + 2) false (.slice none 0 0) 0 ∧ Ry (((w8.setCell ⟨g5, 0, none⟩ (.bool n9)).setCell ⟨g5, 1, none⟩ (.slice p9 l9 c9)).setCell ⟨g5, 2, none⟩ (.int .i64 E9)) (.agg #[.bool n9, .slice p9 l9 c9, .int .i64 E9]) (sg true q - 1) (-place)
              ∧ (((w8.setCell ⟨g5, 0, none⟩ (.bool n9)).setCell ⟨g5, 1, none⟩ (.slice p9 l9 c9)).setCell ⟨g5, 2, none⟩ (.int .i64 E9)).cell? ⟨g5, 0, none⟩ = some (.bool n9) ∧ (((w8.setCell ⟨g5, 0, none⟩ (.bool n9)).setCell ⟨g5, 1, none⟩ (.slice p9 l9 c9)).setCell ⟨g5, 2, none⟩ (.int .i64 E9)).cell? ⟨g5, 1, none⟩ = some (.slice p9 l9 c9) ∧ (((w8.setCell ⟨g5, 0, none⟩ (.bool n9)).setCell ⟨g5, 1, none⟩ (.slice p9 l9 c9)).setCell ⟨g5, 2, none⟩ (.int .i64 E9)).cell? ⟨g5, 2, none⟩ = some (.int .i64 E9)) :=
            ⟨H8.out.1.set3 (by omega) _ _ _, H8.out.2.1.set3 (by omega) _ _ _, H8.out.2.2.1.setBx H8.out.2.2.2 ⟨_, _, _, rfl⟩ _ _ _, by simp [go_sem, k0], by simp [go_sem, k1], by simp [go_sem, k2]⟩
          generalize (((w8.setCell ⟨g5, 0, none⟩ (.bool n9)).setCell ⟨g5, 1, none⟩ (.slice p9 l9 c9)).setCell ⟨g5, 2, none⟩ (.int .i64 E9)) = w9 at *
          clear k0 k1 k2 k3 k4 k5
          have k0 := H9.out.2.2.2.1
          have k1 := H9.out.2.2.2.2.1
          have k2 := H9.out.2.2.2.2.2
          have r0 := H9.out.2.1.c0
          have r1 := H9.out.2.1.c1
          have r2 := H9.out.2.1.c2
          have r3 := H9.out.2.1.frozen 0
          have r4 := H9.out.2.1.frozen 1
          have r5 := H9.out.2.1.frozen 2
          go_wp2_with (fail)
          refine bodyPost_ret (v := .tuple #[.agg #[.bool n9, .slice p9 l9 c9, .int .i64 E9], .bool false]) (by simp [results, Tryz.results94, go_sem, r0, r1, r2]) rfl ⟨.agg #[.bool n9, .slice p9 l9 c9, .int .i64 E9], ?_, ?_, ?_⟩
          · rw [HR0.out]
          · exact H9.out.1.set3 (by omega) _ _ _
          · rw [HR0.out, show over true q false = sg true q - 1 from rfl]
            exact H9.out.2.2.1.setBx H9.out.2.1 IsSl.nil _ _ _
end Go.Proofs.YtdpjkddllimcoaaGreatDoor
end

section
/- Rounding a number between two of the kept places; quotients beyond all floats: plain facts. -/
namespace Fl
open Ieee
theorem twice_div (N D : Nat) : (2 * N + 1) / 2 ^ (D + 1) = N / 2 ^ D ∧ (2 * N + 1) % 2 ^ (D + 1) = 2 * (N % 2 ^ D) + 1 := by
  have e : 2 ^ (D + 1) = 2 * 2 ^ D := Nat.pow_succ'
  rw [e]
  constructor
  · rw [← Nat.div_div_eq_div_mul, show (2 * N + 1) / 2 = N by omega]
  · rw [Nat.mod_mul, show (2 * N + 1) / 2 = N by omega, show (2 * N + 1) % 2 = 1 by omega]
    omega
/-- what lies between N and the next rounds as the half does. -/
theorem rnd_half {c : Nat → Ordering} {N : Nat} {e : Int} {d : Nat} (h : Cr c N e true) (hN : e ≤ -1075 ∨ 2 ^ 53 ≤ N) : rnd (cD (2 * N + 1) (e - 1)) d = rnd c d := by
  by_cases he : e ≤ -1075
  · obtain ⟨-, h⟩ := h
    simp only [if_true] at h
    congr 1
    funext t
    obtain ⟨D, hD⟩ : ∃ D : Nat, e = ((0 : Nat) : Int) - 1074 - (D : Int) := ⟨(-1074 - e).toNat, by omega⟩
    have hD1 : 1 ≤ D := by omega
    have a1 : ∀ M, cD M e t = compare (2 * M) (t * 2 ^ D) := fun M => by
      have := cD_half (m := M) (s := t) hD
      rwa [Nat.pow_zero, Nat.mul_one] at this
    have a2 : cD (2 * N + 1) (e - 1) t = compare (2 * (2 * N + 1)) (t * 2 ^ (D + 1)) := by
      have := cD_half (m := 2 * N + 1) (s := t) (l := 0) (D := D + 1) (e := e - 1) (by omega)
      rwa [Nat.pow_zero, Nat.mul_one] at this
    have e1 : t * 2 ^ D = 2 * (t * 2 ^ (D - 1)) := by
      rw [show (2 : Nat) ^ D = 2 * 2 ^ (D - 1) by rw [← Nat.pow_succ']; congr 1; omega]; ac_rfl
    have e2 : t * 2 ^ (D + 1) = 4 * (t * 2 ^ (D - 1)) := by
      rw [Nat.pow_succ, ← Nat.mul_assoc, e1]; omega
    have h1 := h t
    rw [a1, a1, e1] at h1
    rw [a2, e2]
    generalize t * 2 ^ (D - 1) = T at *
    rcases Nat.lt_or_ge N T with h2 | h2
    · rw [h1.2 (cmp_ne_gt.2 (by omega)), Nat.compare_eq_lt.2 (by omega)]
    · rw [h1.1 (cmp_ne_lt.2 (by omega)), Nat.compare_eq_gt.2 (by omega)]
  · have hN : 2 ^ 53 ≤ N := by
      rcases hN with hN | hN
      · exact absurd hN he
      · exact hN
    have h0 : N ≠ 0 := by omega
    have hb := bl_le h0
    have hb2 := bl_lt N
    have hb3 : 54 ≤ bl N := by
      rcases Nat.lt_or_ge (bl N) 54 with h1 | h1
      · have := Nat.pow_le_pow_right (show 0 < 2 by decide) (show bl N ≤ 53 by omega)
        omega
      · exact h1
    obtain ⟨D, hD⟩ : ∃ D, bl N = D + 53 := ⟨bl N - 53, by omega⟩
    obtain ⟨l, hl⟩ : ∃ l : Nat, e = (l : Int) - 1074 - (D : Int) := ⟨(e + 1074 + D).toNat, by omega⟩
    have hD1 : 1 ≤ D := by omega
    have hq1 : N / 2 ^ D < 2 * B := by
      rw [two_B]
      refine Nat.div_lt_of_lt_mul ?_
      rw [← Nat.pow_add, ← hD]
      exact hb2
    have hq2 : B ≤ N / 2 ^ D := by
      rw [Nat.le_div_iff_mul_le (Nat.two_pow_pos _), show B = 2 ^ 52 by decide, ← Nat.pow_add]
      refine Nat.le_trans (Nat.pow_le_pow_right (by decide) ?_) hb
      omega
    have hc' := Cr.whole (2 * N + 1) (e - 1)
    by_cases hr : l * B + N / 2 ^ D < INF
    · obtain ⟨c1, c2, c3, c4⟩ := h.cut hl hD1
      obtain ⟨d1, d2, d3, d4⟩ := hc'.cut (l := l) (D := D + 1) (by omega) (by omega)
      obtain ⟨t1, t2⟩ := twice_div N D
      rw [t1] at d1 d2 d3 d4
      rw [t2] at d3 d4
      rw [rnd_up h.1 hq1 (.inr hq2) c1 c2 hr c3 c4, rnd_up hc'.1 hq1 (.inr hq2) d1 d2 hr d3 d4]
      congr 2
      · have e1 : 2 ^ (D + 1 - 1) = 2 * 2 ^ (D - 1) := by rw [← Nat.pow_succ']; congr 1; omega
        rw [e1]
        generalize N % 2 ^ D = low
        generalize 2 ^ (D - 1) = u
        by_cases h1 : low < u
        · rw [if_pos (by omega), if_pos h1]
        · rw [if_neg (by omega), if_neg h1, if_neg (by intro h; omega), if_neg (by intro h; exact Bool.noConfusion h.2)]
    · have hI : INF = 2047 * B := by decide
      have hl2 : 2046 ≤ l := by
        rcases Nat.lt_or_ge l 2046 with h1 | h1
        · have := Nat.mul_le_mul_right B (show l ≤ 2045 by omega)
          omega
        · exact h1
      have hb4 : bl (2 * N + 1) = bl N + 1 := by
        have h1 := bl_le (show 2 * N + 1 ≠ 0 by omega)
        have h2 := bl_lt (2 * N + 1)
        rcases Nat.lt_trichotomy (bl (2 * N + 1)) (bl N + 1) with h3 | h3 | h3
        · have := Nat.pow_le_pow_right (show 0 < 2 by decide) (show bl (2 * N + 1) ≤ bl N by omega)
          have e1 : 2 ^ bl N = 2 * 2 ^ (bl N - 1) := by rw [← Nat.pow_succ']; congr 1; omega
          omega
        · exact h3
        · have := Nat.pow_le_pow_right (show 0 < 2 by decide) (show bl N + 1 ≤ bl (2 * N + 1) - 1 by omega)
          rw [Nat.pow_succ] at this
          omega
      rw [to_over (by omega) (by omega)]
      refine (h.over ?_).symm
      rcases Int.le_total 1024 e with h1 | h1
      · rw [show (1024 - e).toNat = 0 by omega]
        exact Nat.mul_pos (by omega) (Nat.two_pow_pos _)
      · rw [show (e - 1024).toNat = 0 by omega, Nat.pow_zero, Nat.mul_one]
        exact Nat.le_trans (Nat.pow_le_pow_right (by decide) (by omega)) hb
/-- a quotient's first place. -/
theorem quo_top {X Y : Nat} (hX : 0 < X) (hY : 0 < Y) (k : Nat) (hk : bl Y ≤ bl X + k) : 2 ^ (bl X + k - bl Y - 1) ≤ X * 2 ^ k / Y ∨ bl X + k = bl Y := by
  have h1 := bl_le (Nat.ne_of_gt hX)
  have h2 := bl_lt Y
  have hx := bl_pos (Nat.ne_of_gt hX)
  rcases Nat.lt_or_ge (bl Y) (bl X + k) with h3 | h3
  · left
    rw [Nat.le_div_iff_mul_le hY]
    refine Nat.le_trans (Nat.mul_le_mul_left _ (Nat.le_of_lt h2)) ?_
    rw [← Nat.pow_add]
    refine Nat.le_trans (Nat.pow_le_pow_right (by decide) (show bl X + k - bl Y - 1 + bl Y ≤ bl X - 1 + k by omega)) ?_
    rw [Nat.pow_add]
    exact Nat.mul_le_mul_right _ h1
  · exact .inr (by omega)
theorem ratio_over {X Y : Nat} {e : Int} {d : Nat} (hX : 0 < X) (hY : 0 < Y) (h : 1100 < (bl X : Int) - (bl Y : Int) + e) : rnd (cR X Y e) d = if d = 0 then INF - 1 else INF := by
  refine (Cr.quo X Y (bl Y) e hY).over ?_
  have h1 := quo_top hX hY (bl Y) (by omega)
  have hx := bl_pos (Nat.ne_of_gt hX)
  rcases h1 with h1 | h1
  · rw [show bl X + bl Y - bl Y - 1 = bl X - 1 by omega] at h1
    rcases Int.le_total 1024 (e - (bl Y : Int)) with h2 | h2
    · rw [show (1024 - (e - (bl Y : Int))).toNat = 0 by omega]
      exact Nat.mul_pos (Nat.lt_of_lt_of_le (Nat.two_pow_pos _) h1) (Nat.two_pow_pos _)
    · rw [show (e - (bl Y : Int) - 1024).toNat = 0 by omega, Nat.pow_zero, Nat.mul_one]
      exact Nat.le_trans (Nat.pow_le_pow_right (by decide) (by omega)) h1
  · omega
theorem ratio_under {X Y : Nat} {e : Int} {d : Nat} (hX : 0 < X) (hY : 0 < Y) (h : (bl X : Int) - (bl Y : Int) + e < -1200) : rnd (cR X Y e) d = if d = 2 then 1 else 0 := by
  have hx := bl_pos (Nat.ne_of_gt hX)
  have hy := bl_pos (Nat.ne_of_gt hY)
  have h1 := quo_top hX hY (bl Y) (by omega)
  refine (Cr.quo X Y (bl Y) e hY).under (b := bl X + 1) ?_ ?_ (by omega)
  · rcases h1 with h1 | h1
    · exact Nat.lt_of_lt_of_le (Nat.two_pow_pos _) h1
    · omega
  · refine Nat.div_lt_of_lt_mul ?_
    have h2 := bl_le (Nat.ne_of_gt hY)
    have h3 := bl_lt X
    have e1 : 2 ^ bl Y = 2 * 2 ^ (bl Y - 1) := by rw [← Nat.pow_succ']; congr 1; omega
    calc X * 2 ^ bl Y < 2 ^ bl X * 2 ^ bl Y := Nat.mul_lt_mul_of_pos_right h3 (Nat.two_pow_pos _)
      _ = 2 ^ (bl Y - 1) * 2 ^ (bl X + 1) := by rw [e1, Nat.pow_succ]; ac_rfl
      _ ≤ Y * 2 ^ (bl X + 1) := Nat.mul_le_mul_right _ h2
end Fl
end

section
/- The reference's rounding between two places; quotients, rounded. -/
namespace Fl
open Go Go.RowKit
/-- what lies at z (B), or between z and the next, rounded. -/
noncomputable def tBtw (z place : Int) (B : Bool) (m : Int) : Nat :=
  if B then word (decide (z < 0)) (rnd (cD z.natAbs (-place)) (aim (decide (z < 0)) m)) else word (decide (2 * z + 1 < 0)) (rnd (cD (2 * z + 1).natAbs (-place - 1)) (aim (decide (2 * z + 1 < 0)) m))
theorem btw_over {c : Nat → Ordering} {n B : Bool} {q : Nat} {place m : Int} (h : Cr c q (-place) (!B)) (hq : B = true → q ≠ 0) (hN : B = false → 1075 ≤ place ∨ 2 ^ 53 ≤ q) : tBtw (over n q B) place B m = word n (rnd c (aim n m)) := by
  cases B
  · unfold tBtw
    rw [if_neg (by decide)]
    have h1 := rnd_half (d := aim n m) h (by rcases hN rfl with h | h; · exact .inl (by omega)
                                             · exact .inr h)
    rw [← h1]
    cases n
    · have e1 : 2 * over false q false + 1 = ((2 * q + 1 : Nat) : Int) := by unfold over sg; simp
      rw [e1, Int.natAbs_natCast, decide_eq_false (by omega)]
    · have e1 : 2 * over true q false + 1 = -((2 * q + 1 : Nat) : Int) := by unfold over sg; simp; omega
      rw [e1, Int.natAbs_neg, Int.natAbs_natCast, decide_eq_true (by omega)]
  · unfold tBtw
    rw [if_pos rfl]
    obtain ⟨-, h⟩ := h
    simp only [Bool.not_true, Bool.false_eq_true, if_false] at h
    subst h
    rw [show over n q true = sg n q by unfold over; simp, sg_natAbs, ← sg_neg (hq rfl)]
end Fl
namespace Go.Proofs.YtdpjkddllimcoaaGreatDoor
open Go.RowKit Fl
set_option maxRecDepth 20000 in
set_option maxHeartbeats 2000000 in
theorem k_Between (v : Value) (z place m : Int) (B : Bool) (L : Nat) (w : World) (h : Ry w v z (-place)) (hz : B = true → z ≠ 0) (hL : z.natAbs < 2 ^ L) (hLb : L ≤ 900000) (hp : -1000000 ≤ place ∧ place ≤ 1000000) (hm : m = 1 ∨ m = 2 ∨ m = 3) :
    Calls Tryz.prog 125 #[v, .bool B, .int .i64 place, .int .i64 m] w fun en w' => en = .returned (.float .f64 (tBtw z place B m)) ∧ Ext w w' := by
  obtain ⟨n, p, l, c, o, E, rfl, -⟩ := h.open
  have HX : Hid (∀ o1, Ext w (w.alloc o1)) := fun o1 => (Ext.refl w).alloc o1
  have HBx := Lib.hid (Bx.new w 35 n (.slice p l c) E)
  have HV := Lib.hid h
  cases B
  · have HOn : Hid (∀ w', Calls Tryz.prog 93 #[.int .i64 (place + 1)] w' fun en w'' => ∃ v', en = .returned v' ∧ Ext w' w'' ∧ Ry w'' v' 1 (-place - 1)) := fun w' => by
      have := k_one (place + 1) w' (by omega)
      rwa [show -(place + 1) = -place - 1 by omega] at this
    have h2 : (z * 2 ^ 1).natAbs < 2 ^ (L + 1) := by rw [natAbs_mul_pow, Nat.pow_succ]; omega
    have h1 : (1 : Int).natAbs < 2 ^ (L + 1) := Nat.one_lt_two_pow (by omega)
    have h3 : (2 * z + 1).natAbs < 2 ^ (L + 2) := by rw [Nat.pow_succ, Nat.pow_succ]; omega
    have HPl : Hid (∀ w' u, Ext w w' → Ry w' u 1 (-place - 1) → Calls Tryz.prog 32 #[.agg #[.bool n, .slice p l c, .int .i64 E], u] w' fun en w'' => ∃ v', en = .returned v' ∧ Ext w' w'' ∧ Ry w'' v' (2 * z + 1) (-place - 1)) := by
      intro w' u hx hu
      have := k_Plus _ u (z * 2 ^ 1) 1 (-place - 1) (L + 1) w' ((h.ext hx).back (k := 1) (by omega)) hu h2 h1 (by omega) (by omega)
      rwa [show z * 2 ^ 1 + 1 = 2 * z + 1 by omega] at this
    have HTo : Hid (∀ w' u, Ry w' u (2 * z + 1) (-place - 1) → Calls Tryz.prog 96 #[u, .int .i64 m] w' fun en w'' => en = .returned (.float .f64 (tBtw z place false m)) ∧ Ext w' w'') := by
      intro w' u hu
      exact k_To u (2 * z + 1) (-place - 1) m (L + 2) w' hu (by omega) h3 (by omega) (by omega) hm
    generalize tBtw z place false m = R at *
    have hpi : IntKind.i64.wrap (place + 1) = place + 1 := IntWalk.i64_in _ (by omega)
    obtain ⟨w1, hw1⟩ : ∃ w1, w.alloc (.cells #[.bool n, .slice p l c, .int .i64 E] 35) = w1 := ⟨_, rfl⟩
    have H1 : Hid (Ext w w1 ∧ Bx w1 35 w.heap.size n (.slice p l c) E) := by rw [← hw1]; exact ⟨HX.out _, HBx.out⟩
    have k0 := H1.out.2.c0
    have k1 := H1.out.2.c1
    have k2 := H1.out.2.c2
    clear h hz hL h1 h2 h3 hm
    go_enter Tryz.func125, Tryz.ntmps125
    go_upto_region 2 with (fail)
    go_region_with
      (first
        | (go_at_call 93; refine (HOn.out _).mono ?_; rintro en w2 ⟨v2, rfl, hx, hd⟩; have HV2 := Lib.hid hd; have hx1 : Ext w1 w2 := (by first | exact hx | exact (Ext.of_drew hx) | exact (Ext.of_drewN hx) | fail); have H2 : Hid (Ext w w2 ∧ Bx w2 35 w.heap.size n (.slice p l c) E) := ⟨H1.out.1.trans hx1, H1.out.2.ext hx1⟩; clear hx hx1 hd k0 k1 k2; have k0 := H2.out.2.c0; have k1 := H2.out.2.c1; have k2 := H2.out.2.c2)
        | (go_at_call 32; refine (HPl.out _ v2 (by first | exact H2.out.1 | exact H2.out.1.drew | exact H2.out.1.drewN _ | fail) (by first | exact HV2.out | exact HV2.out.ext ((Ext.refl _).drewN _) | exact HV2.out.ext (Ext.refl _).drew | fail)).mono ?_; rintro en w3 ⟨v3, rfl, hx, hd⟩; have HV3 := Lib.hid hd; obtain ⟨n9, p9, l9, c9, o9, E9, rfl, -⟩ := hd.open; have hx1 : Ext w2 w3 := (by first | exact hx | exact (Ext.of_drew hx) | exact (Ext.of_drewN hx) | fail); have H3 : Hid (Ext w w3 ∧ Bx w3 35 w.heap.size n (.slice p l c) E) := ⟨H2.out.1.trans hx1, H2.out.2.ext hx1⟩; clear hx hx1 hd k0 k1 k2; have k0 := H3.out.2.c0; have k1 := H3.out.2.c1; have k2 := H3.out.2.c2; have k3 := H3.out.2.frozen 0; have k4 := H3.out.2.frozen 1; have k5 := H3.out.2.frozen 2))
    all_goals
      go_upto_region 3 with (fail)
      have H9 : Hid (Ext w (((w3.setCell ⟨w.heap.size, 0, none⟩ (.bool n9)).setCell ⟨w.heap.size, 1, none⟩ (.slice p9 l9 c9)).setCell ⟨w.heap.size, 2, none⟩ (.int .i64 E9)) ∧ Ry (((w3.setCell ⟨w.heap.size, 0, none⟩ (.bool n9)).setCell ⟨w.heap.size, 1, none⟩ (.slice p9 l9 c9)).setCell ⟨w.heap.size, 2, none⟩ (.int .i64 E9)) (.agg #[.bool n9, .slice p9 l9 c9, .int .i64 E9]) (2 * z + 1) (-place - 1)
          ∧ (((w3.setCell ⟨w.heap.size, 0, none⟩ (.bool n9)).setCell ⟨w.heap.size, 1, none⟩ (.slice p9 l9 c9)).setCell ⟨w.heap.size, 2, none⟩ (.int .i64 E9)).cell? ⟨w.heap.size, 0, none⟩ = some (.bool n9) ∧ (((w3.setCell ⟨w.heap.size, 0, none⟩ (.bool n9)).setCell ⟨w.heap.size, 1, none⟩ (.slice p9 l9 c9)).setCell ⟨w.heap.size, 2, none⟩ (.int .i64 E9)).cell? ⟨w.heap.size, 1, none⟩ = some (.slice p9 l9 c9) ∧ (((w3.setCell ⟨w.heap.size, 0, none⟩ (.bool n9)).setCell ⟨w.heap.size, 1, none⟩ (.slice p9 l9 c9)).setCell ⟨w.heap.size, 2, none⟩ (.int .i64 E9)).cell? ⟨w.heap.size, 2, none⟩ = some (.int .i64 E9)) :=
        ⟨H3.out.1.set3 (Nat.le_refl _) _ _ _, HV3.out.setBx H3.out.2 ⟨_, _, _, rfl⟩ _ _ _, by simp [go_sem, k0], by simp [go_sem, k1], by simp [go_sem, k2]⟩
      generalize (((w3.setCell ⟨w.heap.size, 0, none⟩ (.bool n9)).setCell ⟨w.heap.size, 1, none⟩ (.slice p9 l9 c9)).setCell ⟨w.heap.size, 2, none⟩ (.int .i64 E9)) = w9 at *
      clear k0 k1 k2 k3 k4 k5
      have k0 := H9.out.2.2.1
      have k1 := H9.out.2.2.2.1
      have k2 := H9.out.2.2.2.2
      go_wp2_with (fail)
      refine (HTo.out _ _ H9.out.2.1).mono ?_
      rintro en wn ⟨rfl, hx⟩
      have HE := Lib.hid (H9.out.1.trans hx)
      clear hx
      go_wp2_with (fail)
      go_ret
      exact ⟨rfl, HE.out⟩
  · have HTo : Hid (∀ w', Ext w w' → Calls Tryz.prog 96 #[.agg #[.bool n, .slice p l c, .int .i64 E], .int .i64 m] w' fun en w'' => en = .returned (.float .f64 (tBtw z place true m)) ∧ Ext w' w'') := by
      intro w' hx
      exact k_To _ z (-place) m L w' (h.ext hx) (hz rfl) hL (by omega) (by omega) hm
    generalize tBtw z place true m = R at *
    have k0 := HBx.out.c0
    have k1 := HBx.out.c1
    have k2 := HBx.out.c2
    clear h hz hL hm
    go_enter Tryz.func125, Tryz.ntmps125
    go_wp2_with (fail)
    refine (HTo.out _ (HX.out _)).mono ?_
    rintro en wn ⟨rfl, hx⟩
    have HE := Lib.hid ((HX.out _).trans hx)
    clear hx
    go_wp2_with (fail)
    go_ret
    exact ⟨rfl, HE.out⟩
end Go.Proofs.YtdpjkddllimcoaaGreatDoor
end

section
/- The reference's quotients, rounded. -/
namespace Fl
open Ieee Go Go.RowKit
theorem Cr.over_of {X Y : Nat} (hY : 0 < Y) (e P : Int) : Cr (cR X Y e) ((X * 2 ^ (e + P).toNat) / (Y * 2 ^ (-(e + P)).toNat)) (-P) (!(decide ((X * 2 ^ (e + P).toNat) % (Y * 2 ^ (-(e + P)).toNat) = 0))) := by
  rcases Int.le_total 0 (e + P) with h | h
  · have h1 := Cr.quo X Y (e + P).toNat e hY
    rw [show e - ((e + P).toNat : Int) = -P by omega] at h1
    rw [show (-(e + P)).toNat = 0 by omega, Nat.pow_zero, Nat.mul_one]
    simpa using h1
  · have h1 := Cr.quo X (Y * 2 ^ (-(e + P)).toNat) 0 (e + ((-(e + P)).toNat : Int)) (Nat.mul_pos hY (Nat.two_pow_pos _))
    rw [cR_shift', show e + ((-(e + P)).toNat : Int) - ((0 : Nat) : Int) = -P by omega] at h1
    rw [show (e + P).toNat = 0 by omega]
    simpa using h1
theorem ratio_bits {X Y : Nat} {e P : Int} (hX : 0 < X) (hY : 0 < Y) (h : 54 ≤ (bl X : Int) - (bl Y : Int) + e + P) : 2 ^ 53 ≤ (X * 2 ^ (e + P).toNat) / (Y * 2 ^ (-(e + P)).toNat) := by
  have h1 := bl_mul_pow (-(e + P)).toNat (Nat.ne_of_gt hY)
  rcases quo_top (X := X) (Y := Y * 2 ^ (-(e + P)).toNat) hX (Nat.mul_pos hY (Nat.two_pow_pos _)) (e + P).toNat (by omega) with h2 | h2
  · exact Nat.le_trans (Nat.pow_le_pow_right (by decide) (by omega)) h2
  · omega
theorem over_abs (n : Bool) (q : Nat) (B : Bool) : (over n q B).natAbs ≤ q + 1 := by
  unfold over sg
  cases n <;> cases B <;> simp <;> omega
theorem bl_one : bl 1 = 1 := by
  have h1 := bl_pos (n := 1) (by decide)
  have h2 := bl_le_of (a := 1) (k := 1) (by decide)
  omega
end Fl
namespace Go.Proofs.YtdpjkddllimcoaaGreatDoor
open Go.RowKit Fl
set_option maxRecDepth 20000 in
set_option maxHeartbeats 4000000 in
theorem k_RatioTo (a b : Value) (x y f g m : Int) (L : Nat) (w : World) (h1 : Ry w a x f) (h2 : Ry w b y g) (hx0 : x ≠ 0) (hy0 : y ≠ 0) (hx : x.natAbs < 2 ^ L) (hy : y.natAbs < 2 ^ L) (hL : L ≤ 6000) (hf : -6000 ≤ f ∧ f ≤ 6000) (hg : -6000 ≤ g ∧ g ≤ 6000) (hm : m = 1 ∨ m = 2 ∨ m = 3) :
    Calls Tryz.prog 70 #[a, b, .int .i64 m] w fun en w' => en = .returned (.float .f64 (word (decide (x < 0) != decide (y < 0)) (rnd (cR x.natAbs y.natAbs (f - g)) (aim (decide (x < 0) != decide (y < 0)) m)))) ∧ Ext w w' := by
  obtain ⟨n1, p1, l1, c1, o1, E1, rfl, hn1, hl1, hN1, hr1, hp1⟩ := h1.open
  obtain ⟨n2, p2, l2, c2, o2, E2, rfl, hn2, hl2, hN2, hr2, hp2⟩ := h2.open
  have t0 := len_ne0 (Nat.pos_of_ne_zero (fun h0 => hx0 (hl1.1 h0)))
  have hX0 : 0 < x.natAbs := by omega
  have hY0 : 0 < y.natAbs := by omega
  have hXb := bl_le_of hx
  have hYb := bl_le_of hy
  have hXp := bl_pos (Nat.ne_of_gt hX0)
  have hYp := bl_pos (Nat.ne_of_gt hY0)
  obtain ⟨tx, htx⟩ : ∃ tx, tx = topI x f := ⟨_, rfl⟩
  obtain ⟨ty, hty⟩ : ∃ ty, ty = topI y g := ⟨_, rfl⟩
  have htx' : tx = (bl x.natAbs : Int) + f := by rw [htx]; unfold topI; rw [if_neg hx0]
  have hty' : ty = (bl y.natAbs : Int) + g := by rw [hty]; unfold topI; rw [if_neg hy0]
  have HT1 : Hid (∀ w', Ext w w' → Calls Tryz.prog 124 #[Value.agg #[.bool n1, .slice p1 l1 c1, .int .i64 E1]] w' fun en w'' => en = .returned (.int .i64 tx) ∧ Ext w' w'') := fun w' hx' => by rw [htx]; exact k_High _ x f L w' (h1.ext hx') hx (by omega) (by omega)
  have HT2 : Hid (∀ w', Ext w w' → Calls Tryz.prog 124 #[Value.agg #[.bool n2, .slice p2 l2 c2, .int .i64 E2]] w' fun en w'' => en = .returned (.int .i64 ty) ∧ Ext w' w'') := fun w' hx' => by rw [hty]; exact k_High _ y g L w' (h2.ext hx') hy (by omega) (by omega)
  have htb : -6000 ≤ tx ∧ tx ≤ 12000 ∧ -6000 ≤ ty ∧ ty ≤ 12000 := by omega
  rw [← hn1, ← hn2, show (n1 != n2) = !(n1 == n2) from rfl]
  generalize hnn : (!(n1 == n2)) = n12 at *
  have hnn2 : (decide (x < 0) != decide (y < 0)) = n12 := by rw [← hn1, ← hn2, ← hnn]; rfl
  obtain ⟨R, hR⟩ : ∃ R, R = word n12 (rnd (cR x.natAbs y.natAbs (f - g)) (aim n12 m)) := ⟨_, rfl⟩
  rw [← hR]
  have HTo : Hid (∀ (E : Int) w' u, -100000 ≤ E ∧ E ≤ 100000 → word n12 (rnd (cD 1 E) (aim n12 m)) = R → Ry w' u (sg n12 1) E → Calls Tryz.prog 96 #[u, .int .i64 m] w' fun en w'' => en = .returned (.float .f64 R) ∧ Ext w' w'') := by
    intro E w' u hE hR hu
    have h0 : sg n12 1 ≠ 0 := by rw [Ne, sg_zero]; decide
    have := k_To u (sg n12 1) E m 2 w' hu h0 (by rw [sg_natAbs]; decide) (by decide) (by omega) hm
    rwa [sg_natAbs, ← sg_neg (n := n12) (m := 1) (by decide), hR] at this
  have HA : Hid (∀ (w' : World) (E : Int), Ry (w'.alloc (.cells #[.int .u32 1] 70)) (.agg #[.bool n12, .slice (some ⟨w'.heap.size, 0, none⟩) 1 1, .int .i64 E]) (sg n12 1) E) := by
    intro w' E
    refine Ry.of_parts (o := sg n12 1) (sg_neg (by decide)) ⟨[1], .inr ⟨w'.heap.size, 0, 1, rfl, by decide, by decide, fun i hi => ?_⟩, fun z hz => by simp at hz; omega, by unfold Tm; simp, by rw [sg_natAbs]; rfl⟩ (.inr ⟨by rw [sg_natAbs], 0, by rw [Int.pow_zero, Int.mul_one], by omega⟩)
    have : i = 0 := by simp at hi; omega
    subst this
    exact cell_new _ _ _ 0
  have HOver : Hid (1100 < tx - ty → word n12 (rnd (cD 1 1100) (aim n12 m)) = R) := by
    intro h
    rw [hR, ratio_over hX0 hY0 (by omega), to_over (by decide) (by rw [bl_one]; decide)]
  have HUnder : Hid (tx - ty < -1200 → word n12 (rnd (cD 1 (-1200)) (aim n12 m)) = R) := by
    intro h
    rw [hR, ratio_under hX0 hY0 (by omega), to_under (by decide) (by rw [bl_one]; decide)]
  obtain ⟨P, hP⟩ : ∃ P, min (max (60 - tx + ty) (-1100)) 1100 = P := ⟨_, rfl⟩
  have hPb : -1100 ≤ P ∧ P ≤ 1100 := by omega
  obtain ⟨X, hX⟩ : ∃ X, X = x.natAbs * 2 ^ (f - g + (P + 60)).toNat := ⟨_, rfl⟩
  obtain ⟨Y, hY⟩ : ∃ Y, Y = y.natAbs * 2 ^ (-(f - g + (P + 60))).toNat := ⟨_, rfl⟩
  obtain ⟨q, hq⟩ : ∃ q, q = X / Y := ⟨_, rfl⟩
  obtain ⟨B, hB⟩ : ∃ B, B = decide (X % Y = 0) := ⟨_, rfl⟩
  have HOv : Hid (∀ w', Ext w w' → Calls Tryz.prog 94 #[Value.agg #[.bool n1, .slice p1 l1 c1, .int .i64 E1], Value.agg #[.bool n2, .slice p2 l2 c2, .int .i64 E2], .int .i64 (P + 60)] w' fun en w'' => ∃ v, en = .returned (.tuple #[v, .bool B]) ∧ Ext w' w'' ∧ Ry w'' v (over n12 q B) (-(P + 60))) := by
    intro w' hx'
    have := k_Over _ _ x y f g (P + 60) L w' (h1.ext hx') (h2.ext hx') hx0 hy0 hx hy (by omega) (by omega) (by omega) (by omega) X Y hX hY
    rwa [hnn2, ← hq, ← hB] at this
  have HBt : Hid (¬ 1100 < tx - ty → ¬ tx - ty < -1200 → ∀ w' u, Ry w' u (over n12 q B) (-(P + 60)) → Calls Tryz.prog 125 #[u, .bool B, .int .i64 (P + 60), .int .i64 m] w' fun en w'' => en = .returned (.float .f64 R) ∧ Ext w' w'') := by
    intro c1 c2 w' u hu
    have hCr := Cr.over_of (X := x.natAbs) hY0 (f - g) (P + 60)
    rw [← hX, ← hY, ← hq, ← hB] at hCr
    have hXpos : 0 < X := by rw [hX]; exact Nat.mul_pos hX0 (Nat.two_pow_pos _)
    have hq0 : B = true → q ≠ 0 := by
      intro hb e1
      rw [hB, decide_eq_true_eq] at hb
      have := Nat.div_add_mod X Y
      rw [← hq, e1, hb, Nat.mul_zero] at this
      omega
    have hqN : B = false → 1075 ≤ P + 60 ∨ 2 ^ 53 ≤ q := by
      intro _
      by_cases h : 1100 ≤ 60 - tx + ty
      · left; omega
      · right
        rw [hq, hX, hY]
        exact ratio_bits hX0 hY0 (by omega)
    obtain ⟨M, hM1, hM2⟩ : ∃ M : Nat, 40000 ≤ M ∧ M ≤ 40000 := ⟨40000, Nat.le_refl _, Nat.le_refl _⟩
    have hqb : q < 2 ^ M := by
      rw [hq]
      refine Nat.lt_of_le_of_lt (Nat.div_le_self _ _) ?_
      rw [hX]
      refine Nat.lt_of_lt_of_le (Nat.mul_lt_mul_of_pos_right hx (Nat.two_pow_pos _)) ?_
      rw [← Nat.pow_add]
      exact Nat.pow_le_pow_right (by decide) (by omega)
    have hz : (over n12 q B).natAbs < 2 ^ (M + 1) := by
      have h3 := over_abs n12 q B
      rw [Nat.pow_succ]
      omega
    have := k_Between u (over n12 q B) (P + 60) m B (M + 1) w' hu (fun hb => by subst hb; rw [show over n12 q true = sg n12 q by unfold over; simp, Ne, sg_zero]; exact hq0 rfl) hz (by omega) (by omega) hm
    rwa [btw_over hCr hq0 hqN, ← hR] at this
  obtain ⟨w1, hw1⟩ : ∃ w1, (w.alloc (.cells #[.bool n1, .slice p1 l1 c1, .int .i64 E1] 35)).alloc (.cells #[.bool n2, .slice p2 l2 c2, .int .i64 E2] 35) = w1 := ⟨_, rfl⟩
  have H1 : Hid (Bx w1 35 w.heap.size n1 (.slice p1 l1 c1) E1 ∧ Bx w1 35 (w.heap.size + 1) n2 (.slice p2 l2 c2) E2 ∧ Ext w w1) := by
    rw [← hw1]
    exact ⟨Bx.new1 _ _ _ _ _ _, Bx.new2 _ _ _ _ _ _, ((Ext.refl w).alloc _).alloc _⟩
  have a0 := H1.out.1.c0
  have a1 := H1.out.1.c1
  have a2 := H1.out.1.c2
  have a3 := H1.out.2.1.c0
  have a4 := H1.out.2.1.c1
  have a5 := H1.out.2.1.c2
  have w60 : IntKind.i64.wrap (60 - tx) = 60 - tx := IntWalk.i64_in _ (by omega)
  have w61 : IntKind.i64.wrap (60 - tx + ty) = 60 - tx + ty := IntWalk.i64_in _ (by omega)
  have w62 : IntKind.i64.wrap (tx - ty) = tx - ty := IntWalk.i64_in _ (by omega)
  clear h1 h2 hn1 hn2 hl1 hl2 hN1 hN2 hr1 hr2 hp1 hp2 hx hy hX hY hq hB hR htx hty htx' hty' hX0 hY0 hXb hYb hXp hYp hnn2 hx0 hy0 hm
  go_enter Tryz.func70, Tryz.ntmps70
  go_upto_region 3 with (fail)
  go_cut [7] (fun v7 wc => v7 = .int .i64 P ∧ Hid (Bx wc 35 w.heap.size n1 (.slice p1 l1 c1) E1 ∧ Bx wc 35 (w.heap.size + 1) n2 (.slice p2 l2 c2) E2 ∧ Ext w wc))
  case first =>
    go_region_held3 (fun w' => w'.cell? ⟨w.heap.size, 0, none⟩ = some (.bool n1) ∧ w'.cell? ⟨w.heap.size, 1, none⟩ = some (.slice p1 l1 c1) ∧ w'.cell? ⟨w.heap.size, 2, none⟩ = some (.int .i64 E1) ∧ w'.cell? ⟨w.heap.size + 1, 0, none⟩ = some (.bool n2) ∧ w'.cell? ⟨w.heap.size + 1, 1, none⟩ = some (.slice p2 l2 c2) ∧ w'.cell? ⟨w.heap.size + 1, 2, none⟩ = some (.int .i64 E2))
      (first | go_keep | (exact ⟨H3.out.1.c0, H3.out.1.c1, H3.out.1.c2, H3.out.2.1.c0, H3.out.2.1.c1, H3.out.2.1.c2⟩) | (exact ⟨H2.out.1.c0, H2.out.1.c1, H2.out.1.c2, H2.out.2.1.c0, H2.out.2.1.c1, H2.out.2.1.c2⟩) | (exact ⟨H1.out.1.c0, H1.out.1.c1, H1.out.1.c2, H1.out.2.1.c0, H1.out.2.1.c1, H1.out.2.1.c2⟩) | fail)
      (first | (go_at_call_of 124 (Value.agg #[.bool n1, .slice p1 l1 c1, .int .i64 E1]); refine (HT1.out _ (by first | exact H1.out.2.2 | exact H1.out.2.2.drew | exact H1.out.2.2.drewN _ | fail)).mono ?_; rintro en w2 ⟨rfl, hx⟩; have hx1 : Ext w1 w2 := (by first | exact hx | exact (Ext.of_drew hx) | exact (Ext.of_drewN hx) | fail); have H2 : Hid (Bx w2 35 w.heap.size n1 (.slice p1 l1 c1) E1 ∧ Bx w2 35 (w.heap.size + 1) n2 (.slice p2 l2 c2) E2 ∧ Ext w w2) := ⟨H1.out.1.ext hx1, H1.out.2.1.ext hx1, H1.out.2.2.trans hx1⟩; clear hx hx1) | (go_at_call_of 124 (Value.agg #[.bool n2, .slice p2 l2 c2, .int .i64 E2]); refine (HT2.out _ (by first | exact H2.out.2.2 | exact H2.out.2.2.drew | exact H2.out.2.2.drewN _ | fail)).mono ?_; rintro en w3 ⟨rfl, hx⟩; have hx1 : Ext w2 w3 := (by first | exact hx | exact (Ext.of_drew hx) | exact (Ext.of_drewN hx) | fail); have H3 : Hid (Bx w3 35 w.heap.size n1 (.slice p1 l1 c1) E1 ∧ Bx w3 35 (w.heap.size + 1) n2 (.slice p2 l2 c2) E2 ∧ Ext w w3) := ⟨H2.out.1.ext hx1, H2.out.2.1.ext hx1, H2.out.2.2.trans hx1⟩; clear hx hx1))
    all_goals
      go_wp2_with (fail)
      go_meet
      case rel => exact ⟨rfl, H3.out⟩
  case rest =>
    obtain ⟨rfl, H4⟩ := hcut
    obtain ⟨w4, rfl⟩ : ∃ w4, w4 = wc := ⟨_, rfl⟩
    clear a0 a1 a2 a3 a4 a5 H1 hw1
    have a0 := H4.out.1.c0
    have a1 := H4.out.1.c1
    have a2 := H4.out.1.c2
    have a3 := H4.out.2.1.c0
    have a4 := H4.out.2.1.c1
    have a5 := H4.out.2.1.c2
    go_upto_region 4 with (fail)
    go_cut [8] (fun v8 wc => v8 = .int .i64 (tx - ty) ∧ Hid (Bx wc 35 w.heap.size n1 (.slice p1 l1 c1) E1 ∧ Bx wc 35 (w.heap.size + 1) n2 (.slice p2 l2 c2) E2 ∧ Ext w wc))
    case first =>
      go_region_held3 (fun w' => w'.cell? ⟨w.heap.size, 0, none⟩ = some (.bool n1) ∧ w'.cell? ⟨w.heap.size, 1, none⟩ = some (.slice p1 l1 c1) ∧ w'.cell? ⟨w.heap.size, 2, none⟩ = some (.int .i64 E1) ∧ w'.cell? ⟨w.heap.size + 1, 0, none⟩ = some (.bool n2) ∧ w'.cell? ⟨w.heap.size + 1, 1, none⟩ = some (.slice p2 l2 c2) ∧ w'.cell? ⟨w.heap.size + 1, 2, none⟩ = some (.int .i64 E2))
        (first | go_keep | (exact ⟨H6.out.1.c0, H6.out.1.c1, H6.out.1.c2, H6.out.2.1.c0, H6.out.2.1.c1, H6.out.2.1.c2⟩) | (exact ⟨H5.out.1.c0, H5.out.1.c1, H5.out.1.c2, H5.out.2.1.c0, H5.out.2.1.c1, H5.out.2.1.c2⟩) | (exact ⟨H4.out.1.c0, H4.out.1.c1, H4.out.1.c2, H4.out.2.1.c0, H4.out.2.1.c1, H4.out.2.1.c2⟩) | fail)
        (first | (go_at_call_of 124 (Value.agg #[.bool n1, .slice p1 l1 c1, .int .i64 E1]); refine (HT1.out _ (by first | exact H4.out.2.2 | exact H4.out.2.2.drew | exact H4.out.2.2.drewN _ | fail)).mono ?_; rintro en w5 ⟨rfl, hx⟩; have hx1 : Ext w4 w5 := (by first | exact hx | exact (Ext.of_drew hx) | exact (Ext.of_drewN hx) | fail); have H5 : Hid (Bx w5 35 w.heap.size n1 (.slice p1 l1 c1) E1 ∧ Bx w5 35 (w.heap.size + 1) n2 (.slice p2 l2 c2) E2 ∧ Ext w w5) := ⟨H4.out.1.ext hx1, H4.out.2.1.ext hx1, H4.out.2.2.trans hx1⟩; clear hx hx1) | (go_at_call_of 124 (Value.agg #[.bool n2, .slice p2 l2 c2, .int .i64 E2]); refine (HT2.out _ (by first | exact H5.out.2.2 | exact H5.out.2.2.drew | exact H5.out.2.2.drewN _ | fail)).mono ?_; rintro en w6 ⟨rfl, hx⟩; have hx1 : Ext w5 w6 := (by first | exact hx | exact (Ext.of_drew hx) | exact (Ext.of_drewN hx) | fail); have H6 : Hid (Bx w6 35 w.heap.size n1 (.slice p1 l1 c1) E1 ∧ Bx w6 35 (w.heap.size + 1) n2 (.slice p2 l2 c2) E2 ∧ Ext w w6) := ⟨H5.out.1.ext hx1, H5.out.2.1.ext hx1, H5.out.2.2.trans hx1⟩; clear hx hx1))
      all_goals
        go_wp2_with (fail)
        go_meet
        case rel => exact ⟨rfl, H6.out⟩
    case rest =>
      obtain ⟨rfl, H7⟩ := hcut
      obtain ⟨w7, rfl⟩ : ∃ w7, w7 = wc := ⟨_, rfl⟩
      clear a0 a1 a2 a3 a4 a5 H4 HT1 HT2 w60 w61 w62
      have a0 := H7.out.1.c0
      have a1 := H7.out.1.c1
      have a2 := H7.out.1.c2
      have a3 := H7.out.2.1.c0
      have a4 := H7.out.2.1.c1
      have a5 := H7.out.2.1.c2
      by_cases c1 : 1100 < tx - ty
      · have t1 : decide (1100 < tx - ty) = true := by simp; omega
        have HR := Lib.hid (HOver.out c1)
        clear c1
        go_wp2_with (fail)
        refine (HTo.out 1100 _ _ (by decide) HR.out (HA.out _ _)).mono ?_
        rintro en wn ⟨rfl, hx⟩
        have HE := Lib.hid ((H7.out.2.2.alloc _).trans hx)
        clear hx
        go_wp2_with (fail)
        go_ret
        exact ⟨rfl, HE.out⟩
      · by_cases c2 : tx - ty < -1200
        · have t1 : decide (1100 < tx - ty) = false := by simp; omega
          have t2 : decide (tx - ty < -1200) = true := by simp; omega
          have HR := Lib.hid (HUnder.out c2)
          clear c1 c2
          go_wp2_with (fail)
          refine (HTo.out (-1200) _ _ (by decide) HR.out (HA.out _ _)).mono ?_
          rintro en wn ⟨rfl, hx⟩
          have HE := Lib.hid ((H7.out.2.2.alloc _).trans hx)
          clear hx
          go_wp2_with (fail)
          go_ret
          exact ⟨rfl, HE.out⟩
        · have t1 : decide (1100 < tx - ty) = false := by simp; omega
          have t2 : decide (tx - ty < -1200) = false := by simp; omega
          have HB2 := Lib.hid (HBt.out c1 c2)
          clear c1 c2
          go_wp2_with (fail)
          refine (HOv.out _ H7.out.2.2).mono ?_
          rintro en w8 ⟨v, rfl, hx, hd⟩
          have HV := Lib.hid hd
          obtain ⟨nn, pp, ll, cc, oo, EE, rfl, -⟩ := hd.open
          have H8 := Lib.hid (H7.out.2.2.trans hx)
          clear hx hd
          go_wp2_with (fail)
          refine (HB2.out _ _ (HV.out.ext ((Ext.refl _).alloc _))).mono ?_
          rintro en wn ⟨rfl, hx⟩
          have HE := Lib.hid ((H8.out.alloc _).trans hx)
          clear hx
          go_wp2_with (fail)
          go_ret
          exact ⟨rfl, HE.out⟩
end Go.Proofs.YtdpjkddllimcoaaGreatDoor
end

section
/- Rounded quotients of every two floats: the reference's. -/
namespace Go.Proofs.YtdpjkddllimcoaaGreatDoor
open Go.RowKit Fl
set_option maxRecDepth 20000 in
set_option maxHeartbeats 2000000 in
theorem t_Div (a b : Nat) (mode : Int) (w : World) (ha : a < 18446744073709551616) (hb : b < 18446744073709551616) :
    Calls Tryz.prog 24 #[.float .f64 a, .float .f64 b, .int .i64 mode] w fun en wn => en = .returned (.float .f64 (tDiv a b mode)) ∧ Ext w wn := by
  have HV : Hid (∀ w', Calls Tryz.prog 20 #[.int .i64 mode] w' fun en wn => en = .returned (.int .i64 (if mode = 1 ∨ mode = 2 ∨ mode = 3 then 0 else 1)) ∧ w' = wn) := fun w' => t_valid mode w'
  have HNa : Hid (∀ w', Calls Tryz.prog 37 #[.float .f64 a] w' fun en wn => en = .returned (.bool (nan a)) ∧ w' = wn) := fun w' => c_isNaN a ha w'
  have HNb : Hid (∀ w', Calls Tryz.prog 37 #[.float .f64 b] w' fun en wn => en = .returned (.bool (nan b)) ∧ w' = wn) := fun w' => c_isNaN b hb w'
  have HIa : Hid (∀ w', Calls Tryz.prog 38 #[.float .f64 a] w' fun en wn => en = .returned (.bool (decide (mag a = INF))) ∧ w' = wn) := fun w' => c_isInf a ha w'
  have HIb : Hid (∀ w', Calls Tryz.prog 38 #[.float .f64 b] w' fun en wn => en = .returned (.bool (decide (mag b = INF))) ∧ w' = wn) := fun w' => c_isInf b hb w'
  have HGa : Hid (∀ w', Calls Tryz.prog 50 #[.float .f64 a] w' fun en wn => en = .returned (.bool (neg a)) ∧ w' = wn) := fun w' => c_neg a ha w'
  have HGb : Hid (∀ w', Calls Tryz.prog 50 #[.float .f64 b] w' fun en wn => en = .returned (.bool (neg b)) ∧ w' = wn) := fun w' => c_neg b hb w'
  have HZa : Hid (∀ w', Calls Tryz.prog 62 #[.float .f64 a] w' fun en wn => en = .returned (.bool (decide (mag a = 0))) ∧ w' = wn) := fun w' => c_isZero a ha w'
  have HZb : Hid (∀ w', Calls Tryz.prog 62 #[.float .f64 b] w' fun en wn => en = .returned (.bool (decide (mag b = 0))) ∧ w' = wn) := fun w' => c_isZero b hb w'
  have HE : Hid (∀ w', Calls Tryz.prog 68 #[.bool (neg a != neg b)] w' fun en wn => en = .returned (.float .f64 (word (neg a != neg b) INF)) ∧ w' = wn) := fun w' => c_endless (neg a != neg b) w'
  have HO : Hid (∀ w', Calls Tryz.prog 49 #[.bool (neg a != neg b)] w' fun en wn => en = .returned (.float .f64 (word (neg a != neg b) 0)) ∧ w' = wn) := fun w' => c_nought (neg a != neg b) w'
  have HFa : Hid (∀ w', Calls Tryz.prog 30 #[.float .f64 a] w' fun en w'' => ∃ v, en = .returned v ∧ Ext w' w'' ∧ Ry w'' v (val a) (-1074)) := fun w' => k_Float a ha w'
  have HFb : Hid (∀ w', Calls Tryz.prog 30 #[.float .f64 b] w' fun en w'' => ∃ v, en = .returned v ∧ Ext w' w'' ∧ Ry w'' v (val b) (-1074)) := fun w' => k_Float b hb w'
  by_cases hm : mode = 1 ∨ mode = 2 ∨ mode = 3
  · rw [if_pos hm] at HV
    obtain ⟨T, hT⟩ : ∃ T, T = tDiv a b mode := ⟨_, rfl⟩
    rw [← hT]
    unfold tDiv at hT
    rw [if_pos hm] at hT
    obtain ⟨nA, hnA⟩ : ∃ nA, nan a = nA := ⟨_, rfl⟩
    obtain ⟨nB, hnB⟩ : ∃ nB, nan b = nB := ⟨_, rfl⟩
    obtain ⟨iA, hiA⟩ : ∃ iA, decide (mag a = INF) = iA := ⟨_, rfl⟩
    obtain ⟨iB, hiB⟩ : ∃ iB, decide (mag b = INF) = iB := ⟨_, rfl⟩
    obtain ⟨zA, hzA⟩ : ∃ zA, decide (mag a = 0) = zA := ⟨_, rfl⟩
    obtain ⟨zB, hzB⟩ : ∃ zB, decide (mag b = 0) = zB := ⟨_, rfl⟩
    rw [hnA] at HNa
    rw [hnB] at HNb
    rw [hiA] at HIa
    rw [hiB] at HIb
    rw [hzA] at HZa
    rw [hzB] at HZb
    have p1 : mag a = INF ↔ iA = true := by rw [← hiA, decide_eq_true_eq]
    have p2 : mag b = INF ↔ iB = true := by rw [← hiB, decide_eq_true_eq]
    have p3 : mag a = 0 ↔ zA = true := by rw [← hzA, decide_eq_true_eq]
    have p4 : mag b = 0 ↔ zB = true := by rw [← hzB, decide_eq_true_eq]
    have HRt : Hid (nA = false → nB = false → iA = false → iB = false → zA = false → zB = false → ∀ w' u v, Ry w' u (val a) (-1074) → Ry w' v (val b) (-1074) → Calls Tryz.prog 70 #[u, v, .int .i64 mode] w' fun en w'' => en = .returned (.float .f64 T) ∧ Ext w' w'') := by
      intro c1 c2 c3 c4 c5 c6 w' u v g1 g2
      have la := nnan_le (hnA.trans c1)
      have lb := nnan_le (hnB.trans c2)
      have q1 : mag a ≠ INF := fun h => by rw [p1.1 h] at c3; cases c3
      have q2 : mag b ≠ INF := fun h => by rw [p2.1 h] at c4; cases c4
      have q3 : mag a ≠ 0 := fun h => by rw [p3.1 h] at c5; cases c5
      have q4 : mag b ≠ 0 := fun h => by rw [p4.1 h] at c6; cases c6
      have fa : mag a < INF := by omega
      have fb : mag b < INF := by omega
      rw [if_neg (by rw [hnA, hnB, c1, c2]; simp [q1, q3]), if_neg (by simp [q1, q4]), if_neg (by simp [q2, q3])] at hT
      have := k_RatioTo u v (val a) (val b) (-1074) (-1074) mode 2100 w' g1 g2 (fun h => q3 (val_zero_iff.1 h)) (fun h => q4 (val_zero_iff.1 h)) (val_bits fa) (val_bits fb) (by decide) (by decide) (by decide) hm
      rw [hT]
      exact this
    rw [hnA, hnB] at hT
    simp only [p1, p2, p3, p4] at hT
    have HT := Lib.hid hT
    clear hT hnA hnB hiA hiB hzA hzB p1 p2 p3 p4 hm ha hb
    generalize hnn : (neg a != neg b) = nn at *
    have t0 : (!(neg a == neg b)) = nn := hnn
    clear hnn
    generalize neg a = na at *
    generalize neg b = nb at *
    generalize val a = va at *
    generalize val b = vb at *
    cases nA
    · skip
      cases nB
      · skip
        cases iA
        · skip
          cases zA
          · skip
            cases zB
            · skip
              cases iB
              · skip
                have HRr := Lib.hid (HRt.out rfl rfl rfl rfl rfl rfl)
                clear HT HRt
                go_enter Tryz.func24, Tryz.ntmps24
                go_wp2_with (fail)
                refine (HGa.out _).mono ?_
                rintro en wn ⟨rfl, rfl⟩
                go_wp2_with (fail)
                refine (HGb.out _).mono ?_
                rintro en wn ⟨rfl, rfl⟩
                go_wp2_with (fail)
                refine (HV.out _).mono ?_
                rintro en wn ⟨rfl, rfl⟩
                go_wp2_with (fail)
                refine (HNa.out _).mono ?_
                rintro en wn ⟨rfl, rfl⟩
                go_wp2_with (fail)
                refine (HNb.out _).mono ?_
                rintro en wn ⟨rfl, rfl⟩
                go_wp2_with (fail)
                refine (HIa.out _).mono ?_
                rintro en wn ⟨rfl, rfl⟩
                go_wp2_with (fail)
                refine (HZa.out _).mono ?_
                rintro en wn ⟨rfl, rfl⟩
                go_wp2_with (fail)
                refine (HIa.out _).mono ?_
                rintro en wn ⟨rfl, rfl⟩
                go_wp2_with (fail)
                refine (HZb.out _).mono ?_
                rintro en wn ⟨rfl, rfl⟩
                go_wp2_with (fail)
                refine (HZa.out _).mono ?_
                rintro en wn ⟨rfl, rfl⟩
                go_wp2_with (fail)
                refine (HIb.out _).mono ?_
                rintro en wn ⟨rfl, rfl⟩
                go_wp2_with (fail)
                refine (HFa.out _).mono ?_
                rintro en w1 ⟨v1, rfl, hx, hd⟩
                have H1 := Lib.hid (And.intro hx hd)
                clear hx hd
                go_wp2_with (fail)
                refine (HFb.out _).mono ?_
                rintro en w2 ⟨v2, rfl, hx, hd⟩
                have H2 := Lib.hid (And.intro (H1.out.1.trans hx) (And.intro (H1.out.2.ext hx) hd))
                clear hx hd
                go_wp2_with (fail)
                refine (HRr.out _ v1 v2 H2.out.2.1 H2.out.2.2).mono ?_
                rintro en w4 ⟨rfl, hx⟩
                have H4 := Lib.hid (H2.out.1.trans hx)
                clear hx
                go_wp2_with (fail)
                go_ret
                exact ⟨rfl, H4.out⟩
              · skip
                obtain rfl : T = word nn 0 := by have := HT.out; simpa using this
                clear HT HRt
                go_enter Tryz.func24, Tryz.ntmps24
                go_wp2_with (fail)
                refine (HGa.out _).mono ?_
                rintro en wn ⟨rfl, rfl⟩
                go_wp2_with (fail)
                refine (HGb.out _).mono ?_
                rintro en wn ⟨rfl, rfl⟩
                go_wp2_with (fail)
                refine (HV.out _).mono ?_
                rintro en wn ⟨rfl, rfl⟩
                go_wp2_with (fail)
                refine (HNa.out _).mono ?_
                rintro en wn ⟨rfl, rfl⟩
                go_wp2_with (fail)
                refine (HNb.out _).mono ?_
                rintro en wn ⟨rfl, rfl⟩
                go_wp2_with (fail)
                refine (HIa.out _).mono ?_
                rintro en wn ⟨rfl, rfl⟩
                go_wp2_with (fail)
                refine (HZa.out _).mono ?_
                rintro en wn ⟨rfl, rfl⟩
                go_wp2_with (fail)
                refine (HIa.out _).mono ?_
                rintro en wn ⟨rfl, rfl⟩
                go_wp2_with (fail)
                refine (HZb.out _).mono ?_
                rintro en wn ⟨rfl, rfl⟩
                go_wp2_with (fail)
                refine (HZa.out _).mono ?_
                rintro en wn ⟨rfl, rfl⟩
                go_wp2_with (fail)
                refine (HIb.out _).mono ?_
                rintro en wn ⟨rfl, rfl⟩
                go_wp2_with (fail)
                refine (HO.out _).mono ?_
                rintro en wn ⟨rfl, rfl⟩
                go_wp2_with (fail)
                go_ret
                exact ⟨rfl, Ext.refl _⟩
            · skip
              obtain rfl : T = word nn INF := by have := HT.out; simpa using this
              clear HT HRt
              go_enter Tryz.func24, Tryz.ntmps24
              go_wp2_with (fail)
              refine (HGa.out _).mono ?_
              rintro en wn ⟨rfl, rfl⟩
              go_wp2_with (fail)
              refine (HGb.out _).mono ?_
              rintro en wn ⟨rfl, rfl⟩
              go_wp2_with (fail)
              refine (HV.out _).mono ?_
              rintro en wn ⟨rfl, rfl⟩
              go_wp2_with (fail)
              refine (HNa.out _).mono ?_
              rintro en wn ⟨rfl, rfl⟩
              go_wp2_with (fail)
              refine (HNb.out _).mono ?_
              rintro en wn ⟨rfl, rfl⟩
              go_wp2_with (fail)
              refine (HIa.out _).mono ?_
              rintro en wn ⟨rfl, rfl⟩
              go_wp2_with (fail)
              refine (HZa.out _).mono ?_
              rintro en wn ⟨rfl, rfl⟩
              go_wp2_with (fail)
              refine (HIa.out _).mono ?_
              rintro en wn ⟨rfl, rfl⟩
              go_wp2_with (fail)
              refine (HZb.out _).mono ?_
              rintro en wn ⟨rfl, rfl⟩
              go_wp2_with (fail)
              refine (HE.out _).mono ?_
              rintro en wn ⟨rfl, rfl⟩
              go_wp2_with (fail)
              go_ret
              exact ⟨rfl, Ext.refl _⟩
          · skip
            cases zB
            · skip
              obtain rfl : T = word nn 0 := by have := HT.out; simpa using this
              clear HT HRt
              go_enter Tryz.func24, Tryz.ntmps24
              go_wp2_with (fail)
              refine (HGa.out _).mono ?_
              rintro en wn ⟨rfl, rfl⟩
              go_wp2_with (fail)
              refine (HGb.out _).mono ?_
              rintro en wn ⟨rfl, rfl⟩
              go_wp2_with (fail)
              refine (HV.out _).mono ?_
              rintro en wn ⟨rfl, rfl⟩
              go_wp2_with (fail)
              refine (HNa.out _).mono ?_
              rintro en wn ⟨rfl, rfl⟩
              go_wp2_with (fail)
              refine (HNb.out _).mono ?_
              rintro en wn ⟨rfl, rfl⟩
              go_wp2_with (fail)
              refine (HIa.out _).mono ?_
              rintro en wn ⟨rfl, rfl⟩
              go_wp2_with (fail)
              refine (HZa.out _).mono ?_
              rintro en wn ⟨rfl, rfl⟩
              go_wp2_with (fail)
              refine (HZb.out _).mono ?_
              rintro en wn ⟨rfl, rfl⟩
              go_wp2_with (fail)
              refine (HIa.out _).mono ?_
              rintro en wn ⟨rfl, rfl⟩
              go_wp2_with (fail)
              refine (HZb.out _).mono ?_
              rintro en wn ⟨rfl, rfl⟩
              go_wp2_with (fail)
              refine (HZa.out _).mono ?_
              rintro en wn ⟨rfl, rfl⟩
              go_wp2_with (fail)
              refine (HO.out _).mono ?_
              rintro en wn ⟨rfl, rfl⟩
              go_wp2_with (fail)
              go_ret
              exact ⟨rfl, Ext.refl _⟩
            · skip
              obtain rfl : T = 9221120237041090560 := by have := HT.out; simpa using this
              clear HT HRt
              go_enter Tryz.func24, Tryz.ntmps24
              go_wp2_with (fail)
              refine (HGa.out _).mono ?_
              rintro en wn ⟨rfl, rfl⟩
              go_wp2_with (fail)
              refine (HGb.out _).mono ?_
              rintro en wn ⟨rfl, rfl⟩
              go_wp2_with (fail)
              refine (HV.out _).mono ?_
              rintro en wn ⟨rfl, rfl⟩
              go_wp2_with (fail)
              refine (HNa.out _).mono ?_
              rintro en wn ⟨rfl, rfl⟩
              go_wp2_with (fail)
              refine (HNb.out _).mono ?_
              rintro en wn ⟨rfl, rfl⟩
              go_wp2_with (fail)
              refine (HIa.out _).mono ?_
              rintro en wn ⟨rfl, rfl⟩
              go_wp2_with (fail)
              refine (HZa.out _).mono ?_
              rintro en wn ⟨rfl, rfl⟩
              go_wp2_with (fail)
              refine (HZb.out _).mono ?_
              rintro en wn ⟨rfl, rfl⟩
              go_wp2_with (fail)
              refine (c_not _).mono ?_
              rintro en wn ⟨rfl, rfl⟩
              go_wp2_with (fail)
              go_ret
              exact ⟨rfl, Ext.refl _⟩
        · skip
          cases iB
          · skip
            cases zA
            · skip
              obtain rfl : T = word nn INF := by have := HT.out; simpa using this
              clear HT HRt
              go_enter Tryz.func24, Tryz.ntmps24
              go_wp2_with (fail)
              refine (HGa.out _).mono ?_
              rintro en wn ⟨rfl, rfl⟩
              go_wp2_with (fail)
              refine (HGb.out _).mono ?_
              rintro en wn ⟨rfl, rfl⟩
              go_wp2_with (fail)
              refine (HV.out _).mono ?_
              rintro en wn ⟨rfl, rfl⟩
              go_wp2_with (fail)
              refine (HNa.out _).mono ?_
              rintro en wn ⟨rfl, rfl⟩
              go_wp2_with (fail)
              refine (HNb.out _).mono ?_
              rintro en wn ⟨rfl, rfl⟩
              go_wp2_with (fail)
              refine (HIa.out _).mono ?_
              rintro en wn ⟨rfl, rfl⟩
              go_wp2_with (fail)
              refine (HIb.out _).mono ?_
              rintro en wn ⟨rfl, rfl⟩
              go_wp2_with (fail)
              refine (HZa.out _).mono ?_
              rintro en wn ⟨rfl, rfl⟩
              go_wp2_with (fail)
              refine (HIa.out _).mono ?_
              rintro en wn ⟨rfl, rfl⟩
              go_wp2_with (fail)
              refine (HE.out _).mono ?_
              rintro en wn ⟨rfl, rfl⟩
              go_wp2_with (fail)
              go_ret
              exact ⟨rfl, Ext.refl _⟩
            · skip
              cases zB
              · skip
                obtain rfl : T = word nn INF := by have := HT.out; simpa using this
                clear HT HRt
                go_enter Tryz.func24, Tryz.ntmps24
                go_wp2_with (fail)
                refine (HGa.out _).mono ?_
                rintro en wn ⟨rfl, rfl⟩
                go_wp2_with (fail)
                refine (HGb.out _).mono ?_
                rintro en wn ⟨rfl, rfl⟩
                go_wp2_with (fail)
                refine (HV.out _).mono ?_
                rintro en wn ⟨rfl, rfl⟩
                go_wp2_with (fail)
                refine (HNa.out _).mono ?_
                rintro en wn ⟨rfl, rfl⟩
                go_wp2_with (fail)
                refine (HNb.out _).mono ?_
                rintro en wn ⟨rfl, rfl⟩
                go_wp2_with (fail)
                refine (HIa.out _).mono ?_
                rintro en wn ⟨rfl, rfl⟩
                go_wp2_with (fail)
                refine (HIb.out _).mono ?_
                rintro en wn ⟨rfl, rfl⟩
                go_wp2_with (fail)
                refine (HZa.out _).mono ?_
                rintro en wn ⟨rfl, rfl⟩
                go_wp2_with (fail)
                refine (HZb.out _).mono ?_
                rintro en wn ⟨rfl, rfl⟩
                go_wp2_with (fail)
                refine (HIa.out _).mono ?_
                rintro en wn ⟨rfl, rfl⟩
                go_wp2_with (fail)
                refine (HE.out _).mono ?_
                rintro en wn ⟨rfl, rfl⟩
                go_wp2_with (fail)
                go_ret
                exact ⟨rfl, Ext.refl _⟩
              · skip
                obtain rfl : T = 9221120237041090560 := by have := HT.out; simpa using this
                clear HT HRt
                go_enter Tryz.func24, Tryz.ntmps24
                go_wp2_with (fail)
                refine (HGa.out _).mono ?_
                rintro en wn ⟨rfl, rfl⟩
                go_wp2_with (fail)
                refine (HGb.out _).mono ?_
                rintro en wn ⟨rfl, rfl⟩
                go_wp2_with (fail)
                refine (HV.out _).mono ?_
                rintro en wn ⟨rfl, rfl⟩
                go_wp2_with (fail)
                refine (HNa.out _).mono ?_
                rintro en wn ⟨rfl, rfl⟩
                go_wp2_with (fail)
                refine (HNb.out _).mono ?_
                rintro en wn ⟨rfl, rfl⟩
                go_wp2_with (fail)
                refine (HIa.out _).mono ?_
                rintro en wn ⟨rfl, rfl⟩
                go_wp2_with (fail)
                refine (HIb.out _).mono ?_
                rintro en wn ⟨rfl, rfl⟩
                go_wp2_with (fail)
                refine (HZa.out _).mono ?_
                rintro en wn ⟨rfl, rfl⟩
                go_wp2_with (fail)
                refine (HZb.out _).mono ?_
                rintro en wn ⟨rfl, rfl⟩
                go_wp2_with (fail)
                refine (c_not _).mono ?_
                rintro en wn ⟨rfl, rfl⟩
                go_wp2_with (fail)
                go_ret
                exact ⟨rfl, Ext.refl _⟩
          · skip
            obtain rfl : T = 9221120237041090560 := by have := HT.out; simpa using this
            clear HT HRt
            go_enter Tryz.func24, Tryz.ntmps24
            go_wp2_with (fail)
            refine (HGa.out _).mono ?_
            rintro en wn ⟨rfl, rfl⟩
            go_wp2_with (fail)
            refine (HGb.out _).mono ?_
            rintro en wn ⟨rfl, rfl⟩
            go_wp2_with (fail)
            refine (HV.out _).mono ?_
            rintro en wn ⟨rfl, rfl⟩
            go_wp2_with (fail)
            refine (HNa.out _).mono ?_
            rintro en wn ⟨rfl, rfl⟩
            go_wp2_with (fail)
            refine (HNb.out _).mono ?_
            rintro en wn ⟨rfl, rfl⟩
            go_wp2_with (fail)
            refine (HIa.out _).mono ?_
            rintro en wn ⟨rfl, rfl⟩
            go_wp2_with (fail)
            refine (HIb.out _).mono ?_
            rintro en wn ⟨rfl, rfl⟩
            go_wp2_with (fail)
            refine (c_not _).mono ?_
            rintro en wn ⟨rfl, rfl⟩
            go_wp2_with (fail)
            go_ret
            exact ⟨rfl, Ext.refl _⟩
      · skip
        obtain rfl : T = 9221120237041090560 := by have := HT.out; simpa using this
        clear HT HRt
        go_enter Tryz.func24, Tryz.ntmps24
        go_wp2_with (fail)
        refine (HGa.out _).mono ?_
        rintro en wn ⟨rfl, rfl⟩
        go_wp2_with (fail)
        refine (HGb.out _).mono ?_
        rintro en wn ⟨rfl, rfl⟩
        go_wp2_with (fail)
        refine (HV.out _).mono ?_
        rintro en wn ⟨rfl, rfl⟩
        go_wp2_with (fail)
        refine (HNa.out _).mono ?_
        rintro en wn ⟨rfl, rfl⟩
        go_wp2_with (fail)
        refine (HNb.out _).mono ?_
        rintro en wn ⟨rfl, rfl⟩
        go_wp2_with (fail)
        refine (c_not _).mono ?_
        rintro en wn ⟨rfl, rfl⟩
        go_wp2_with (fail)
        go_ret
        exact ⟨rfl, Ext.refl _⟩
    · skip
      obtain rfl : T = 9221120237041090560 := by have := HT.out; simpa using this
      clear HT HRt
      go_enter Tryz.func24, Tryz.ntmps24
      go_wp2_with (fail)
      refine (HGa.out _).mono ?_
      rintro en wn ⟨rfl, rfl⟩
      go_wp2_with (fail)
      refine (HGb.out _).mono ?_
      rintro en wn ⟨rfl, rfl⟩
      go_wp2_with (fail)
      refine (HV.out _).mono ?_
      rintro en wn ⟨rfl, rfl⟩
      go_wp2_with (fail)
      refine (HNa.out _).mono ?_
      rintro en wn ⟨rfl, rfl⟩
      go_wp2_with (fail)
      refine (c_not _).mono ?_
      rintro en wn ⟨rfl, rfl⟩
      go_wp2_with (fail)
      go_ret
      exact ⟨rfl, Ext.refl _⟩
  · rw [if_neg hm] at HV
    unfold tDiv
    rw [if_neg hm]
    generalize neg a = na at *
    generalize neg b = nb at *
    clear hm HNa HNb HIa HIb HZa HZb HE HO HFa HFb ha hb
    go_enter Tryz.func24, Tryz.ntmps24
    go_wp2_with (fail)
    refine (HGa.out _).mono ?_
    rintro en wn ⟨rfl, rfl⟩
    go_wp2_with (fail)
    refine (HGb.out _).mono ?_
    rintro en wn ⟨rfl, rfl⟩
    go_wp2_with (fail)
    refine (HV.out _).mono ?_
    rintro en wn ⟨rfl, rfl⟩
    go_wp2_with (fail)
    refine (c_not _).mono ?_
    rintro en wn ⟨rfl, rfl⟩
    go_wp2_with (fail)
    go_ret
    exact ⟨rfl, Ext.refl _⟩
end Go.Proofs.YtdpjkddllimcoaaGreatDoor
end

section
/- Rounded products and quotients: the law's walk. -/
namespace Go.Proofs.YtdpjkddllimcoaaGreatDoor
open Go.RowKit Fl
set_option maxRecDepth 20000 in
theorem w_RoundProducts (a b : Nat) (mode : Int) (ha : a < 18446744073709551616) (hb : b < 18446744073709551616) (w : World) (hT : Tab32 w) :
    Calls Tryz.prog 5 #[.float .f64 a, .float .f64 b, .int .i64 mode] w fun en wn => en = .returned (.bool true) ∧ Ext w wn := by
  have HA := Lib.hid (u_Mul a b mode ha hb w hT)
  have HtA : Hid (∀ w', Calls Tryz.prog 22 #[.float .f64 a, .float .f64 b, .int .i64 mode] w' fun en w'' => en = .returned (.float .f64 (tMul a b mode)) ∧ Ext w' w'') := fun w' => t_Mul a b mode w' ha hb
  have HS : Hid (∀ w', Ext w w' → Calls Tryz.prog 23 #[.float .f64 a, .float .f64 b, .int .i64 mode] w' fun en w'' => ∃ R, en = .returned (.float .f64 R) ∧ Ext w' w'' ∧ R < 18446744073709551616 ∧ sameF R (tDiv a b mode) = true) := fun w' hx => u_Div a b mode ha hb w' (hT.ext hx)
  have HtS : Hid (∀ w', Calls Tryz.prog 24 #[.float .f64 a, .float .f64 b, .int .i64 mode] w' fun en w'' => en = .returned (.float .f64 (tDiv a b mode)) ∧ Ext w' w'') := fun w' => t_Div a b mode w' ha hb
  have HSm : Hid (∀ R T w', R < 18446744073709551616 → T < 18446744073709551616 → sameF R T = true → Calls Tryz.prog 9 #[.float .f64 R, .float .f64 T] w' fun en w'' => en = .returned (.bool true) ∧ w' = w'') := fun R T w' h1 h2 h3 => l_same_of w' R T h1 h2 h3
  have HSu : Hid (∀ w', Ext w w' → Calls Tryz.prog 14 #[] w' fun en w'' => en = .returned (.bool true) ∧ Ext w' w'') := fun w' hx => l_sure w' (hT.ext hx)
  have HB1 := Lib.hid (tMul_lt a b mode)
  have HB2 := Lib.hid (tDiv_lt a b mode)
  generalize tDiv a b mode = T2 at *
  generalize tMul a b mode = T1 at *
  clear hT ha hb
  go_enter Tryz.func5, Tryz.ntmps5
  go_wp2_with (fail)
  refine (HA.out).mono ?_
  rintro en w1 ⟨R1, rfl, hx, h1, h2⟩
  have X1 := Lib.hid (And.intro hx (And.intro h1 h2))
  clear hx h1 h2
  go_wp2_with (fail)
  refine (HtA.out _).mono ?_
  rintro en w2 ⟨rfl, hx⟩
  have X2 := Lib.hid (X1.out.1.trans hx)
  clear hx
  go_wp2_with (fail)
  refine (HSm.out R1 _ _ X1.out.2.1 HB1.out X1.out.2.2).mono ?_
  rintro en wn ⟨rfl, rfl⟩
  go_wp2_with (fail)
  refine (HS.out _ X2.out).mono ?_
  rintro en w3 ⟨R3, rfl, hx, h1, h2⟩
  have X3 := Lib.hid (And.intro (X2.out.trans hx) (And.intro h1 h2))
  clear hx h1 h2
  go_wp2_with (fail)
  refine (HtS.out _).mono ?_
  rintro en w4 ⟨rfl, hx⟩
  have X4 := Lib.hid (X3.out.1.trans hx)
  clear hx
  go_wp2_with (fail)
  refine (HSm.out R3 _ _ X3.out.2.1 HB2.out X3.out.2.2).mono ?_
  rintro en wn ⟨rfl, rfl⟩
  go_wp2_with (fail)
  refine (HSu.out _ X4.out).mono ?_
  rintro en w5 ⟨rfl, hx⟩
  have X5 := Lib.hid (X4.out.trans hx)
  clear hx
  go_wp2_with (fail)
  go_ret
  exact ⟨rfl, X5.out⟩
end Go.Proofs.YtdpjkddllimcoaaGreatDoor
end
