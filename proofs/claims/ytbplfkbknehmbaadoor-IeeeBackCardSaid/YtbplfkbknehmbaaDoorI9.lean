/- The law that steps go back, and count. -/
import Derived.Test.YtbplfkbknehmbaaDoorI7
import Derived.LoopTactic
import Derived.Outline
namespace Fl
open Go
theorem key_turned {x : Nat} (hx : x < 18446744073709551616) : key (turned x) = -key x := by
  unfold key turned S; split <;> split <;> omega
theorem mag_turned' {x : Nat} (hx : x < 18446744073709551616) : mag (turned x) = mag x := by unfold mag turned S; split <;> omega
theorem next_facts {x : Nat} (hx : x < 18446744073709551616) (hn : nan x = false) (hi : x ≠ INF) : key (nextF x) = key x + 1 ∧ nan (nextF x) = false := by
  have hi : decide (x = INF) = false := by simpa using hi
  unfold nextF
  rw [hn, hi]
  simp only [Bool.or_self, Bool.false_eq_true, if_false]
  unfold nan mag S INF at hn
  unfold INF at hi
  simp at hn hi
  by_cases h0 : mag x = 0
  · rw [if_pos h0]
    unfold mag S at h0
    refine ⟨?_, by decide⟩
    unfold key S
    split <;> split <;> omega
  · rw [if_neg h0]
    unfold mag S at h0
    cases hs : neg x
    · unfold neg S at hs
      simp at hs
      simp only [Bool.false_eq_true, if_false]
      unfold key nan mag S INF
      refine ⟨by split <;> split <;> omega, by simp; omega⟩
    · unfold neg S at hs
      simp at hs
      simp only [if_true]
      unfold key nan mag S INF
      refine ⟨by rw [if_pos hs]; split <;> omega, by simp; omega⟩
theorem nan_turned {x : Nat} (hx : x < 18446744073709551616) : nan (turned x) = nan x := by unfold nan; rw [mag_turned' hx]
/-- a finite float's next is apart from it by one, above it, and its prev is the float. -/
theorem back_facts {a : Nat} (ha : a < 18446744073709551616) (hf : mag a < INF) :
    apartF a (nextF a) = (1, true) ∧ flt a (nextF a) = true ∧ feq (turned (nextF (turned (nextF a)))) a = true := by
  have na : nan a = false := by unfold nan; simp; omega
  have hi : a ≠ INF := by intro h; subst h; revert hf; decide
  obtain ⟨k1, n1⟩ := next_facts ha na hi
  have hu := nextF_lt ha
  have ht := turned_lt hu
  have n2 : nan (turned (nextF a)) = false := by rw [nan_turned hu, n1]
  have k2 := key_turned hu
  have i2 : turned (nextF a) ≠ INF := by
    intro h
    rw [h] at k2
    have h3 : key INF = 9218868437227405312 := by decide
    have h4 : -9218868437227405312 < key a := by unfold key mag S INF at *; split <;> omega
    omega
  obtain ⟨k3, n3⟩ := next_facts ht n2 i2
  have hp := nextF_lt ht
  have k4 := key_turned hp
  refine ⟨?_, ?_, ?_⟩
  · unfold apartF
    rw [na, n1]
    have h5 : decide (key (nextF a) < key a) = false := by simp; omega
    rw [h5]
    simp only [Bool.or_self, Bool.false_eq_true, if_false]
    congr 1; omega
  · rw [flt_eq (by simpa using ha) (by simpa using hu), na, n1]; simp; omega
  · rw [feq_eq (by simpa using turned_lt hp) (by simpa using ha), na, nan_turned hp, n3]; simp; omega
/-- the order of floats is that of their numbers. -/
theorem ord_lt {a b : Nat} (ha : a < 18446744073709551616) (hb : b < 18446744073709551616) (na : nan a = false) (nb : nan b = false) (hne : feq a b = false) :
    flt a b = decide (ordF a < ordF b) := by
  rw [flt_eq (by simpa using ha) (by simpa using hb), na, nb]
  rw [feq_eq (by simpa using ha) (by simpa using hb), na, nb] at hne
  unfold ordF
  rw [na, nb]
  simp at hne
  rw [Bool.eq_iff_iff]
  simp only [Bool.not_false, Bool.true_and, decide_eq_true_eq, Bool.false_eq_true, if_false]
  revert hne
  unfold neg key mag S
  by_cases h1 : 9223372036854775808 ≤ a <;> by_cases h2 : 9223372036854775808 ≤ b <;> simp [h1, h2] <;> omega
theorem split_back {x o t : Nat} (hx : x < 18446744073709551616) (hf : mag x < INF) (he : rq (mag x) = o * 2 ^ t) (d : Nat) :
    word (neg x) (rnd (cD o ((rl (mag x) : Int) - 1074 + t)) d) = x := by
  have h := cD_shift o ((rl (mag x) : Int) - 1074 + t) t
  rw [← he, show (rl (mag x) : Int) - 1074 + t - t = (rl (mag x) : Int) - 1074 by omega] at h
  rw [← h, rnd_exact (l := rl (mag x)) rfl (rq_lt _) (rq_norm _) (by rw [rung_lq]; exact hf), rung_lq, word_self hx]
end Fl
namespace Go.Proofs.YtbplfkbknehmbaaDoor
open Go.RowKit Fl
attribute [local go_sem] m_bits m_of

theorem w_back_no (a b : Nat) (ha : a < 18446744073709551616) (hi : INF ≤ mag a) (w : World) (hT : Tab64 w) : Calls Tryd.prog 6 #[.float .f64 a, .float .f64 b] w fun en wn => en = .returned (.bool true) ∧ Drw w wn := by
  have HSu := Lib.hid (l_sure w hT)
  have H1 := Lib.hid (i_split_no a ha hi)
  have H2 := Lib.hid (c_finite a ha)
  have hd : decide (mag a < INF) = false := by simp; omega
  clear hi hT
  go_enter Tryd.func6, Tryd.ntmps6
  go_wp2_with (first | (go_at_call 8; refine (H1.out _).mono ?_; rintro e w' ⟨rfl, rfl⟩) | (go_at_call 18; refine (H2.out _).mono ?_; rintro e w' ⟨rfl, rfl⟩) | (go_at_call 10; refine HSu.out.mono ?_; rintro e w' ⟨rfl, hb⟩))
  go_ret
  exact ⟨rfl, hb⟩
set_option maxHeartbeats 3000000 in
/-- of a finite float: m and e are what it is split into. -/
theorem w_back_fin (a b m : Nat) (e : Int) (ha : a < 18446744073709551616) (hb : b < 18446744073709551616) (hf : mag a < INF) (hm : m < 18446744073709551616) (w : World) (hT : Tab64 w)
    (hS : ∀ w, Tab64 w → Calls Tryd.prog 8 #[.float .f64 a] w fun en wn => en = .returned (.tuple #[.int .u64 ((m : Nat) : Int), .int .i64 e, .bool (neg a), .bool true]) ∧ w = wn)
    (hM : ∀ d, word (neg a) (rnd (cD m e) d) = a) : Calls Tryd.prog 6 #[.float .f64 a, .float .f64 b] w fun en wn => en = .returned (.bool true) ∧ Drw w wn := by
  have HSu := Lib.hid (fun w hT => l_sure w hT)
  have H1 := Lib.hid (hS w hT)
  have HT := Lib.hid hT
  have na : nan a = false := by unfold nan; simp; omega
  have HMk : Hid (∀ (mode : Int) (w : World), (mode = 1 ∨ mode = 2 ∨ mode = 3) → Calls Tryd.prog 12 #[.bool (neg a), .int .u64 ((m : Nat) : Int), .int .i64 e, .int .i64 mode] w fun en wn => en = .returned (.float .f64 a) ∧ Drw w wn) := by
    intro mode w hmo
    have := i_make (neg a) m e mode hmo hm w
    rw [hM] at this
    exact this
  have HSa := Lib.hid (fun w => l_same a a ha ha w)
  rw [sameF_self] at HSa
  clear hS hM hT
  have HBn := Lib.hid (fun w => c_isNaN b hb w)
  have HAn := Lib.hid (fun w => c_isNaN a ha w)
  rw [na] at HAn
  have HOa := Lib.hid (fun w => i_order a ha w)
  have HOb := Lib.hid (fun w => i_order b hb w)
  obtain ⟨f1, f2, f3⟩ := back_facts ha hf
  have HNx := Lib.hid (fun w => i_next a ha w)
  have HAp := Lib.hid (fun w => i_apart a (nextF a) ha (nextF_lt ha) w)
  have HPv := Lib.hid (fun w => i_prev (nextF a) (nextF_lt ha) w)
  rw [f1] at HAp
  have f2' : fgt (nextF a) a = true := by rw [fgt_eq (by simpa using nextF_lt ha) (by simpa using ha)]; rw [flt_eq (by simpa using ha) (by simpa using nextF_lt ha)] at f2; simp at f2 ⊢; simp [f2]
  have HL : Hid (nan b = false → feq a b = false → flt a b = decide (ordF a < ordF b)) := fun nb hne => ord_lt ha hb na nb hne
  clear f1 f2
  generalize turned (nextF (turned (nextF a))) = pv at *
  generalize nextF a = up at *
  generalize ordF a = oa at *
  generalize ordF b = ob at *
  generalize neg a = s at *
  clear hf na
  go_enter Tryd.func6, Tryd.ntmps6
  go_wp2_with (first | (go_at_call 8; refine H1.out.mono ?_; rintro e w' ⟨rfl, rfl⟩))
  go_loopw [9] (fun v wr => ∃ k : Int, 1 ≤ k ∧ k ≤ 4 ∧ v = .int .i64 k ∧ Drw w wr) (fun v _ => 4 - (intOf v).toNat)
  case atStart => exact ⟨1, by omega, by omega, rfl, Drw.refl w⟩
  case round =>
    obtain ⟨k, k1, k2, rfl, hwr⟩ := hrel
    by_cases hk : k = 4
    · subst hk
      clear k1 k2
      have HSu' := Lib.hid (HSu.out wr (HT.out.drw hwr))
      have Hw := Lib.hid hwr
      clear hwr
      cases nb : nan b with
      | true =>
        rw [nb] at HBn
        go_wp2_with (first | (go_at_call 19; first | (with_reducible refine (HBn.out _).mono ?_; rintro e w' ⟨rfl, rfl⟩) | (with_reducible refine (HAn.out _).mono ?_; rintro e w' ⟨rfl, rfl⟩)) | (go_at_call 10; refine HSu'.out.mono ?_; rintro e w' ⟨rfl, hb⟩))
        exact bodyPost_ret (v := .bool true) (by simp [results, Tryd.results6, go_sem]) rfl ⟨rfl, Hw.out.trans hb⟩
      | false =>
        rw [nb] at HBn
        have HL' := Lib.hid (HL.out nb)
        generalize hp : flt a b = p at *
        generalize hq : decide (oa < ob) = q at *
        cases he : feq a b with
        | true =>
          clear HL HL'
          cases p <;> cases q <;>
          · go_wp2_with (first | (go_at_call 19; first | (with_reducible refine (HBn.out _).mono ?_; rintro e w' ⟨rfl, rfl⟩) | (with_reducible refine (HAn.out _).mono ?_; rintro e w' ⟨rfl, rfl⟩)) | (go_at_call 10; refine HSu'.out.mono ?_; rintro e w' ⟨rfl, hb⟩) | (go_at_call 16; first | (with_reducible refine (HOa.out _).mono ?_; rintro e w' ⟨rfl, rfl⟩) | (with_reducible refine (HOb.out _).mono ?_; rintro e w' ⟨rfl, rfl⟩)) | (go_at_call 20; with_reducible refine (HNx.out _).mono ?_; rintro e w' ⟨rfl, rfl⟩) | (go_at_call 14; with_reducible refine (HAp.out _).mono ?_; rintro e w' ⟨rfl, rfl⟩) | (go_at_call 21; with_reducible refine (HPv.out _).mono ?_; rintro e w' ⟨rfl, rfl⟩))
            exact bodyPost_ret (v := .bool true) (by simp [results, Tryd.results6, go_sem]) rfl ⟨rfl, Hw.out.trans hb⟩
        | false =>
          have hpq := HL'.out he
          subst hpq
          clear HL HL'
          cases p <;>
          · go_wp2_with (first | (go_at_call 19; first | (with_reducible refine (HBn.out _).mono ?_; rintro e w' ⟨rfl, rfl⟩) | (with_reducible refine (HAn.out _).mono ?_; rintro e w' ⟨rfl, rfl⟩)) | (go_at_call 10; refine HSu'.out.mono ?_; rintro e w' ⟨rfl, hb⟩) | (go_at_call 16; first | (with_reducible refine (HOa.out _).mono ?_; rintro e w' ⟨rfl, rfl⟩) | (with_reducible refine (HOb.out _).mono ?_; rintro e w' ⟨rfl, rfl⟩)) | (go_at_call 20; with_reducible refine (HNx.out _).mono ?_; rintro e w' ⟨rfl, rfl⟩) | (go_at_call 14; with_reducible refine (HAp.out _).mono ?_; rintro e w' ⟨rfl, rfl⟩) | (go_at_call 21; with_reducible refine (HPv.out _).mono ?_; rintro e w' ⟨rfl, rfl⟩))
            exact bodyPost_ret (v := .bool true) (by simp [results, Tryd.results6, go_sem]) rfl ⟨rfl, Hw.out.trans hb⟩
    · have hmo : k = 1 ∨ k = 2 ∨ k = 3 := by omega
      have h3 : decide (k ≤ 3) = true := by simp; omega
      have Hw := Lib.hid hwr
      clear hwr HL
      go_wp2_with (first | (go_at_call 12; refine (HMk.out k _ hmo).mono ?_; rintro e w' ⟨rfl, hb⟩) | (go_at_call 11; with_reducible refine (HSa.out _).mono ?_; rintro e w' ⟨rfl, rfl⟩))
      go_roundw
      case rel => exact ⟨k + 1, by omega, by omega, rfl, Hw.out.trans hb⟩
      case measure =>
        show 4 - (k + 1).toNat < 4 - k.toNat
        omega
theorem w_back (a b : Nat) (ha : a < 18446744073709551616) (hb : b < 18446744073709551616) (w : World) (hT : Tab64 w) : Calls Tryd.prog 6 #[.float .f64 a, .float .f64 b] w fun en wn => en = .returned (.bool true) ∧ Drw w wn := by
  by_cases hi : INF ≤ mag a
  · exact w_back_no a b ha hi w hT
  · by_cases h0 : mag a = 0
    · refine w_back_fin a b 0 0 ha hb (by omega) (by omega) w hT (fun w _ => i_split_zero a ha h0 w) (fun d => ?_)
      rw [rnd_zero, ← h0, word_self ha]
    · have hq : 0 < rq (mag a) := by
        have h1 := rung_lq (mag a)
        have h2 := rq_norm (mag a)
        rcases Nat.eq_zero_or_pos (rq (mag a)) with h | h
        · rw [h] at h1 h2
          rcases h2 with h2 | h2
          · rw [h2] at h1; omega
          · unfold B at h2; omega
        · exact h
      obtain ⟨o, t, he, ho⟩ := exists_odd _ hq
      have hl : o ≤ rq (mag a) := by rw [he]; exact Nat.le_mul_of_pos_right _ (Nat.two_pow_pos t)
      have := rq_lt54 (mag a)
      exact w_back_fin a b o _ ha hb (by omega) (by omega) w hT (fun w hT => i_split_fin a o t ha (by omega) ho he w hT) (fun d => split_back ha (by omega) he d)
end Go.Proofs.YtbplfkbknehmbaaDoor
