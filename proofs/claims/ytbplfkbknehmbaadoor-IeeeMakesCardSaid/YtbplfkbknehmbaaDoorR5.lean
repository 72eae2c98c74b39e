/- IeeeMakes: the float that every parts make, in every mode, is the document's: for all its arguments the law returns true: the row and the card. -/
import Derived.Test.YtbplfkbknehmbaaDoorIA
import Derived.Test.YtbplfkbknehmbaaDoorRc
import Derived.Lib.SmallJoins
import Derived.ChangeArms
namespace Go.Proofs.YtbplfkbknehmbaaDoor
open Go.ChangeShapes Go.WideShapes Go.ChangeAt Go.WideMaps Go.WideElems Go.RowKit Go.Joins Fl

/-- what is said of a grown world, where nothing is handed on again. -/
theorem post_grown {H : Type} {enc : TypeId × Value → H} {P : Program} {f : Func} {s : ChangeSpec} {apart fresh handsOn : Bool} {W W' : World} {args : Array Value} {v : Value} {ds gs : List (DataW H)} {before pa pv : List MemPlace}
    (hW : DataW.Whole enc P f.params.toList s.vars apart W args.toList ds gs before)
    (hres : ∀ (b : Nat) (sp : Nat → Bool) (hd : Bool), DataW.TrodAll enc P W' b sp hd f.resultTypes.toList (v.resultList f.resultTypes.size) (s.fn H (ds ++ gs)).results [])
    (hargs : ∀ sp : Nat → Bool, DataW.TrodAll enc P W' 0 sp true f.params.toList args.toList (s.fn H (ds ++ gs)).args pa)
    (hvars : ∀ sp : Nat → Bool, DataW.TrodVars enc P W' sp s.vars (s.fn H (ds ++ gs)).vars pv)
    (hX : Ext W W') : s.post enc P f apart fresh handsOn false W args v W' :=
  ⟨ds, gs, before, [], pa, pv, hW, hres _ _ _, hargs _, hvars _, hX.below.frame _, fun h => by cases h⟩

theorem partsCells : Tryd.prog.cellsOf 29 = 4 := by kernel_rfl

set_option maxRecDepth 100000 in
theorem ieeeMakes_lifted (os : Os) (started : os.Started) (H : Type) (enc : TypeId × Value → H) :
    ReturnsInHanded {} Tryd.checked os 4 .any (fun w args => (Rows.ieeeMakesSpec.pre enc Tryd.prog Tryd.f4 [] false w args ∧ laidMetH Tryd.prog [("math/bits.deBruijn64tab", Rows.laid_math_bits_deBruijn64tab)] w) ∧ sizedMet enc Tryd.prog Tryd.f4 (OpenSpec.ofChange Rows.ieeeMakesSpec) false w args)
      (Rows.ieeeMakesSpec.post enc Tryd.prog Tryd.f4 false true false false) := by
  refine returnsInHanded_of_change_and (C := Tryd.checked) (X := fun w _ => laidMetH Tryd.prog [("math/bits.deBruijn64tab", Rows.laid_math_bits_deBruijn64tab)] w) (fun _ _ _ hh h => h.of_heap hh) own started (by kernel_rfl) Tryd.func4
    (ChangeSpec.witness_shaped (enc := enc) (C := Tryd.checked) (os := os) (X := fun w _ => laidMetH Tryd.prog [("math/bits.deBruijn64tab", Rows.laid_math_bits_deBruijn64tab)] w) false (World.doorLaid Tryd.prog 2000 os) #[.agg #[.bool false, .int .u64 0, .int .i64 0, .int .i64 0]] 8 rfl (World.shaped_of_RefB (by kernel_rfl) (by kernel_rfl)) (by kernel_rfl) (by kernel_rfl) (by kernel_rfl) (door_met os _)) ?_
  intro W base args ds gs before hval0 hW _ _ hL _
  have hval : ∀ (j : Nat) t v, Tryd.f4.params[j]? = some t → args[j]? = some v → Value.okWide Tryd.prog W .any base t v := hval0
  have hW' := hW
  obtain ⟨p, q, hA0, hV, rfl, hfz, hnd⟩ := hW
  have hA : DataW.TrodAll enc Tryd.prog W 0 (fun _ => true) true Tryd.f4.params.toList args.toList ds p := hA0
  rw [Tryd.params4] at hA hval
  obtain ⟨v0, d0, rfl, rfl, h0⟩ := trodAll_one hA
  obtain ⟨rfl, rfl⟩ := trodVars_none hV
  obtain ⟨c0, c1, c2, c3, y0, y1, y2, y3, n, rfl, rfl, rfl, g0, g1, g2, g3⟩ := open_agg4 Tryd.underlying29 (by kernel_rfl) partsCells (hval 0 29 v0 rfl rfl) h0
  obtain ⟨s, e0, rfl⟩ := DataW.trod_bool Tryd.underlying4 g0
  obtain ⟨m, e1, rfl, wm⟩ := DataW.trod_int Tryd.underlying23 g1
  obtain ⟨e, e2, rfl, we⟩ := DataW.trod_int Tryd.underlying3 g2
  obtain ⟨mode, e3, rfl, wo⟩ := DataW.trod_int Tryd.underlying3 g3
  simp at e0 e1 e2 e3
  subst e0 e1 e2 e3
  obtain ⟨M, rfl, hM⟩ : ∃ M : Nat, m = (M : Int) ∧ M < 18446744073709551616 := by
    have := wm
    simp [Lit.wf, IntKind.min, IntKind.max, IntKind.signed, IntKind.bits] at this
    exact ⟨m.toNat, by omega, by omega⟩
  have hT := of_laid hL
  clear hA0 hval0
  simp only [List.append_nil] at hW'
  have structReads : ∀ (W' : World) (sp : Nat → Bool), DataW.Trod enc Tryd.prog W' 0 sp true 29 (.agg #[.bool s, .int .u64 M, .int .i64 e, .int .i64 mode]) (.agg [.lit (.bool s), .lit (.int .u64 M), .lit (.int .i64 e), .lit (.int .i64 mode)]) [] := fun W' sp =>
    shut_agg4 (y0 := (.lit (.bool s), [])) (y1 := (.lit (.int .u64 M), [])) (y2 := (.lit (.int .i64 e), [])) (y3 := (.lit (.int .i64 mode), [])) Tryd.underlying29 (by kernel_rfl) partsCells ⟨1, by simp [DataW.trod, Tryd.underlying4]⟩ ⟨1, by simp [DataW.trod, Tryd.underlying23, wm]⟩ ⟨1, by simp [DataW.trod, Tryd.underlying3, we]⟩ ⟨1, by simp [DataW.trod, Tryd.underlying3, wo]⟩
  refine (w_makes s M e mode hM W hT).mono fun e W' ⟨he, hw⟩ => ?_
  subst he
  exact ⟨_, rfl, post_grown (pa := []) (pv := []) hW' (fun _ _ _ => trodAll_mk1 (shut_bool Tryd.underlying4 _)) (fun sp => trodAll_mk1 (structReads _ sp)) (fun _ => rfl) hw⟩

theorem ieeeMakes_said : Rows.IeeeMakesSaid :=
  OpenClaim.holds_of_wide 4 Tryd.f4 rfl rfl rfl rfl rfl rfl rfl ⟨rfl, rfl, rfl, rfl, rfl⟩ rfl rfl rfl rfl rfl (by kernel_rfl) Tryd.func4 (by kernel_rfl)
    (of_decide_eq_true (by kernel_rfl)) (by unfold Func.isWrapper; first | (rw [if_pos (by decide +kernel)]; kernel_rfl) | (rw [if_neg (by decide +kernel)]; exact ⟨rfl, rfl⟩))
    (fun os started H enc _ => ieeeMakes_lifted os started H enc)

theorem ieeeMakes_holds : Rows.IeeeMakesCardSaid :=
  Claim7.holds_tied_plain_at .later [] [.data] true Rows.ieeeMakesCard.stood.harness false
    ieeeMakes_said (fun _ h => by cases h) (by kernel_rfl) (fun _ h => by cases h) ieeeMakes_row_tie rfl ⟨rfl, rfl⟩ (by kernel_rfl) rfl
    (fun f fn hf hfn => by
      obtain rfl : f = 4 := Option.some.inj ((show Tryd.prog.funcNamed "cusp/cusplaw01.IeeeMakes" = some 4 by kernel_rfl).symm.trans hf) |>.symm
      obtain rfl : fn = Tryd.f4 := (Option.some.inj (Tryd.func4.symm.trans hfn)).symm
      exact ⟨by kernel_rfl, fun j t ht => by
        rw [Tryd.params4] at ht
        have hm : t ∈ [29] := by simpa using Array.mem_of_getElem? ht
        have hall : ([29].all fun u => !Tryd.prog.wantsStandIn u) = true := by kernel_rfl
        exact (show Tryd.prog.wantsStandIn t = false by simpa using List.all_eq_true.1 hall t hm)⟩)
    (by kernel_rfl)
#print axioms ieeeMakes_holds
end Go.Proofs.YtbplfkbknehmbaaDoor
