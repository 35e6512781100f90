/-
  WellOnce: at every input the law returns true, and the arguments read as they did. Conditions: the listed variables of Go's library hold what the program's text lays.
-/
import Derived.Test.YtimahogkcmmcnaaGreatDoorRows
import Derived.Test.YtimahogkcmmcnaaGreatDoorCards
import Derived.Test.YtimahogkcmmcnaaGreatDoorTie
import Derived.Test.YtimahogkcmmcnaaGreatDoorK30
import Derived.Test.YtimahogkcmmcnaaGreatDoorK29
import Derived.Test.YtimahogkcmmcnaaGreatDoorK38
import Derived.Test.YtimahogkcmmcnaaGreatDoorK39
import Derived.ProofKit
import Derived.OpenShut
import Derived.LaidMore
import Derived.Lay
import Derived.SevenTiedAt
import Derived.Stop.Joined
set_option linter.unusedSimpArgs false
set_option linter.unusedVariables false

namespace Go.Proofs.YtimahogkcmmcnaaGreatDoor
open Go.ChangeShapes Go.WideShapes Go.ChangeAt Go.RowKit

theorem Tryz.own : ownKnob Tryz.prog.godebug = none := by kernel_rfl
theorem Tryz.laidOut : laidOutB Tryz.prog = true := fact_laidout

set_option maxRecDepth 100000 in
theorem wellOnce_lifted (os : Os) (started : os.Started) (H : Type) (enc : TypeId × Value → H) :
    ReturnsInHanded {} Tryz.checked os 4 .any (fun w args => (Rows.wellOnceSpec.pre enc Tryz.prog Tryz.f4 Rows.wellOnceRow.domain false w args ∧ laidMetH Tryz.prog Rows.wellOnceRow.laid w) ∧ sizedMet enc Tryz.prog Tryz.f4 (OpenSpec.ofChange Rows.wellOnceSpec) false w args)
      (Rows.wellOnceSpec.post enc Tryz.prog Tryz.f4 false true false false) := by
  refine returnsInHanded_of_change_and (C := Tryz.checked) (X := fun w _ => laidMetH Tryz.prog Rows.wellOnceRow.laid w) (fun _ _ _ hh h => h.of_heap hh) Tryz.own started (by kernel_rfl) Tryz.func4
    (ChangeSpec.witness_shaped (enc := enc) (C := Tryz.checked) (os := os) (X := fun w _ => laidMetH Tryz.prog Rows.wellOnceRow.laid w) false (World.laidAll Tryz.prog os Rows.wellOnceRow.laid) #[.slice none 0 0, .int .i64 0, .int .i64 0, .slice none 0 0] 8 (World.laidAll_os _ _ _)
      (World.shaped_of_ZipB (by kernel_rfl) (by kernel_rfl)) (by kernel_rfl) (by kernel_rfl) (by kernel_rfl)
      (by rw [MakeChecks.laidMetH_plain _ _ _ (by kernel_rfl)]; exact laidMet_laidAll _ (by kernel_rfl) (by kernel_rfl))) ?_
  intro W base args ds gs before hval0 hW hcnd _ hL _
  have hval : ∀ (j : Nat) t v, Tryz.f4.params[j]? = some t → args[j]? = some v → Value.okWide Tryz.prog W .any base t v := hval0
  have hW' := hW
  obtain ⟨p, q, hA0, hV, rfl, hfz, hnd⟩ := hW
  have hA : DataW.TrodAll enc Tryz.prog W 0 (fun _ => true) true Tryz.f4.params.toList args.toList ds p := hA0
  rw [Tryz.params4] at hA hval
  obtain ⟨v0, vs1, d0, ds1, p0, q0, ha0, rfl, rfl, h0, hr0⟩ := trodAll_cons hA
  obtain ⟨v1, vs2, d1, ds2, p1, q1, rfl, rfl, rfl, h1, hr1⟩ := trodAll_cons hr0
  obtain ⟨v2, vs3, d2, ds3, p2, q2, rfl, rfl, rfl, h2, hr2⟩ := trodAll_cons hr1
  obtain ⟨v3, vs4, d3, ds4, p3, q3, rfl, rfl, rfl, h3, hr3⟩ := trodAll_cons hr2
  obtain ⟨rfl, rfl, rfl⟩ := trodAll_nil hr3
  obtain rfl : args = #[v0, v1, v2, v3] := by cases args; simp_all
  obtain ⟨rfl, rfl⟩ := trodVars_none hV
  obtain ⟨sa, sn, sc, rfl⟩ := okWide_slice Tryz.underlying23 (hval 0 23 v0 rfl rfl)
  obtain ⟨n1, rfl⟩ := okWide_int Tryz.underlying3 (hval 1 3 v1 rfl rfl)
  obtain ⟨n2, rfl⟩ := okWide_int Tryz.underlying3 (hval 2 3 v2 rfl rfl)
  obtain ⟨la, ln, lc, rfl⟩ := okWide_slice Tryz.underlying37 (hval 3 37 v3 rfl rfl)
  have h0' := h0
  have h1' := h1
  have h2' := h2
  have h3' := h3
  obtain ⟨fuel, hd0⟩ := h0
  obtain ⟨fuel3, hd3⟩ := h3
  obtain ⟨v, s, hcs, hs⟩ := trod_schema hd0
  obtain ⟨ve, l, hcs2, hl, hkn⟩ := trod_actsK hd3
  have hve : v = .slice sa sn sc := by
    simp only [Value.cells, List.cons.injEq, and_true] at hcs
    exact hcs.symm
  have hvp : ve = .slice la ln lc := by
    simp only [Value.cells, List.cons.injEq, and_true] at hcs2
    exact hcs2.symm
  subst hve hvp
  have hlt : ∀ y ∈ p0 ++ (p1 ++ (p2 ++ (p3 ++ []))), y.block < W.heap.size := fun y hy => hW'.lt y (List.mem_append_left _ hy)
  refine (f4_any Tryz.checked.mixed W _ _ _ s n1 n2 l hs (hl.keepC fun b hb hl => ⟨rfl, hb⟩) hkn).mono fun x W' ⟨he, hB⟩ => ?_
  subst he
  have g0 := Below.trod Tryz.laidOut (by kernel_rfl) (of_decide_eq_true (by kernel_rfl)) h0' hB (fun y hy => hlt y (by simp [hy]))
  have g1 := Below.trod Tryz.laidOut (by kernel_rfl) (of_decide_eq_true (by kernel_rfl)) h1' hB (fun y hy => hlt y (by simp [hy]))
  have g2 := Below.trod Tryz.laidOut (by kernel_rfl) (of_decide_eq_true (by kernel_rfl)) h2' hB (fun y hy => hlt y (by simp [hy]))
  have g3 := Below.trod Tryz.laidOut (by kernel_rfl) (of_decide_eq_true (by kernel_rfl)) h3' hB (fun y hy => hlt y (by simp [hy]))
  refine ⟨_, rfl, _, _, _, [], p0 ++ (p1 ++ (p2 ++ (p3 ++ []))), [], hW', ?_, ?_, ?_, hB.frame _, fun h => by cases h⟩
  · exact trodAll_mk1 (shut_bool Tryz.underlying4 true)
  · exact trodAll_cons_mk g0 (trodAll_cons_mk g1 (trodAll_cons_mk g2 (trodAll_cons_mk g3 trodAll_mk0)))
  · rfl

theorem wellOnce_wf : Rows.wellOnceRow.wf (OpenSpec.ofChange Rows.wellOnceSpec) = true := by kernel_rfl
theorem wellOnce_params : Tryz.f4.params.all (Tryz.pinned.checked.prog.readableRec ·) = true := by kernel_rfl
theorem wellOnce_tied : namedTie Tryz.pinned.checked.prog Rows.wellOnceRow.named Rows.wellOnceSpec.vars = true := by kernel_rfl
theorem wellOnce_inPlace : (Rows.wellOnceRow.inPlace == Tryz.pinned.checked.prog.inPlace 4) = true := by kernel_rfl
theorem wellOnce_unfollowed : (Rows.wellOnceRow.unfollowed == Tryz.pinned.checked.prog.unfollowed 4) = true := by kernel_rfl
theorem wellOnce_recurses : (Rows.wellOnceRow.recurses == Tryz.pinned.checked.prog.recurses 4) = true := by kernel_rfl
theorem wellOnce_varsNamed : (Rows.wellOnceRow.named == Tryz.pinned.checked.prog.varsNamed 4) = true := by kernel_rfl
theorem wellOnce_found : Tryz.pinned.checked.prog.funcNamed Rows.wellOnceRow.func = some 4 := by kernel_rfl
theorem wellOnce_wrapper : Tryz.f4.isWrapper Tryz.pinned.checked.prog Rows.wellOnceRow.wrapper Rows.wellOnceRow.mainSum := by
  unfold Func.isWrapper; first | (rw [if_pos (by decide +kernel)]; kernel_rfl) | (rw [if_neg (by decide +kernel)]; exact ⟨rfl, rfl⟩)
theorem wellOnce_maps : (Rows.wellOnceRow.maps == (Tryz.f4.params.toList ++ Rows.wellOnceSpec.plain.varTypes Tryz.pinned.checked.prog).any (Tryz.pinned.checked.prog.mapsRec ·)) = true := by kernel_rfl
theorem wellOnce_ifaces : (Rows.wellOnceRow.ifaces == (Tryz.f4.params.toList ++ Rows.wellOnceSpec.plain.varTypes Tryz.pinned.checked.prog).any (Tryz.pinned.checked.prog.ifacesRec ·)) = true := by kernel_rfl
theorem wellOnce_mapsOut : (Rows.wellOnceRow.mapsOut == Tryz.pinned.checked.prog.mapsAmong Tryz.f4.resultTypes.toList) = true := by kernel_rfl
theorem wellOnce_loops : (Rows.wellOnceRow.loops == (Tryz.f4.params.toList ++ Rows.wellOnceSpec.plain.varTypes Tryz.pinned.checked.prog).any (Tryz.pinned.checked.prog.loopsFrom ·)) = true := by kernel_rfl
theorem wellOnce_wideKeys : (Rows.wellOnceRow.wideKeys == (Tryz.f4.params.toList ++ Rows.wellOnceSpec.plain.varTypes Tryz.pinned.checked.prog ++ Tryz.f4.resultTypes.toList).any (Tryz.pinned.checked.prog.wideKeysFrom ·)) = true := by kernel_rfl
theorem wellOnce_vars : Rows.wellOnceSpec.vars.all (Tryz.pinned.checked.prog.varReadable ·) = true := by kernel_rfl
theorem wellOnce_results : Tryz.f4.resultTypes.all (fun t => Tryz.pinned.checked.prog.readableRec t && decide (t < Tryz.pinned.checked.prog.types.size)) = true := by kernel_rfl
theorem wellOnce_ifacesOut : (Rows.wellOnceRow.ifacesOut == Tryz.f4.resultTypes.toList.any (Tryz.pinned.checked.prog.ifacesRec ·)) = true := by kernel_rfl
theorem wellOnce_loopsOut : (Rows.wellOnceRow.loopsOut == Tryz.f4.resultTypes.toList.any (Tryz.pinned.checked.prog.loopsFrom ·)) = true := by kernel_rfl
theorem wellOnce_make : (Tryz.pinned.checked.prog.make == some Rows.wellOnceRow.make) = true := by kernel_rfl
theorem wellOnce_pinnedBy : (Rows.wellOnceRow.pinned == Rows.wellOnceRow.pinnedBy) = true := by kernel_rfl
theorem wellOnce_veiled : (Rows.wellOnceRow.veiled == (Tryz.f4.params.toList ++ Rows.wellOnceSpec.plain.varTypes Tryz.pinned.checked.prog ++ Tryz.f4.resultTypes.toList).any (Tryz.pinned.checked.prog.veiledRec ·)) = true := by kernel_rfl
theorem wellOnce_fits : Rows.wellOnceRow.veiledFits Tryz.pinned.checked.prog Tryz.f4.params.toList (Tryz.f4.params.toList ++ Rows.wellOnceSpec.plain.varTypes Tryz.pinned.checked.prog ++ Tryz.f4.resultTypes.toList) = true := by kernel_rfl
theorem wellOnce_stops : (Rows.wellOnceRow.stops == []) = true := by kernel_rfl
theorem wellOnce_stopsP : (Tryz.pinned.checked.prog.stops == []) = true := beq_iff_eq.2 fact_stops
theorem wellOnce_knobs : (Rows.wellOnceRow.knobs == []) = true := by kernel_rfl
theorem wellOnce_knobsP : (Tryz.pinned.checked.prog.stopKnobs == []) = true := beq_iff_eq.2 fact_knobs
theorem wellOnce_plainKeys : (Rows.wellOnceRow.plainKeys == Tryz.pinned.checked.prog.plainKeys) = true := beq_iff_eq.2 (Eq.trans (by kernel_rfl) fact_plain.symm)
theorem wellOnce_short : Rows.wellOnceRow.shortTexts.isNone = true := by kernel_rfl
theorem wellOnce_liftedF : (Rows.wellOnceRow.lifted == Tryz.pinned.checked.prog.liftsFinal) = true := beq_iff_eq.2 (Eq.trans (by kernel_rfl) fact_lifts.symm)
theorem wellOnce_facts : joinedFacts Tryz.pinned.checked.prog 4 Tryz.f4 Rows.wellOnceSpec Rows.wellOnceRow = true := by
  unfold joinedFacts
  simp only [Bool.and_eq_true]
  exact ⟨⟨⟨⟨⟨⟨⟨⟨⟨⟨⟨⟨⟨⟨⟨⟨⟨⟨⟨⟨⟨⟨⟨⟨⟨⟨⟨⟨⟨⟨⟨wellOnce_wf, fact_laidout⟩, fact_mapsrowed⟩, wellOnce_params⟩, wellOnce_tied⟩, wellOnce_stops⟩, wellOnce_stopsP⟩, wellOnce_knobs⟩, wellOnce_knobsP⟩, wellOnce_inPlace⟩, wellOnce_unfollowed⟩, wellOnce_recurses⟩, wellOnce_varsNamed⟩, wellOnce_maps⟩, wellOnce_ifaces⟩, wellOnce_mapsOut⟩, wellOnce_loops⟩, wellOnce_wideKeys⟩, wellOnce_vars⟩, wellOnce_results⟩, wellOnce_ifacesOut⟩, wellOnce_loopsOut⟩, wellOnce_plainKeys⟩, wellOnce_short⟩, fact_heard⟩, fact_may⟩, wellOnce_liftedF⟩, wellOnce_make⟩, (by kernel_rfl)⟩, wellOnce_pinnedBy⟩, wellOnce_veiled⟩, wellOnce_fits⟩
theorem wellOnce_row : Rows.WellOnceSaid :=
  OpenClaim.holds_of_wide 4 Tryz.f4 rfl rfl rfl rfl rfl rfl rfl ⟨rfl, rfl, rfl, rfl, rfl⟩ rfl rfl rfl rfl rfl wellOnce_found Tryz.func4 wellOnce_facts
    (of_decide_eq_true (by kernel_rfl)) wellOnce_wrapper
    (fun os started H enc _ => wellOnce_lifted os started H enc)
theorem wellOnce_goes : false = Rows.wellOnceRow.goesBy Tryz.pinned.checked.prog := (goesAt_none fact_goes _ _).symm
theorem wellOnce_wfText : Rows.wellOnceRow.wfByText (OpenSpec.ofChange Rows.wellOnceSpec) = true := by kernel_rfl
theorem wellOnce_stand : ([23, 3, 3, 37].all fun u => !Tryz.prog.wantsStandIn u) = true := by kernel_rfl
theorem wellOnce_holds : Rows.WellOnceCardSaid :=
  Claim7.holds_tied_plain_at .later [] [.data, .data, .data, .data, .sentinel, .sentinel, .pinned] true (true, "ba7069e71abb1c892517ba5f93fabb029ec9dc4e1feff656df06738ef640ec5c") true wellOnce_row (fun _ h => by cases h) wellOnce_wfText (fun _ h => by cases h) wellOnce_row_tie rfl ⟨rfl, rfl⟩ fact_main rfl
    (fun f fn hf hfn => by
      obtain rfl : f = 4 := Option.some.inj (wellOnce_found.symm.trans hf) |>.symm
      obtain rfl : fn = Tryz.f4 := (Option.some.inj (Tryz.func4.symm.trans hfn)).symm
      exact ⟨fact_looks, fun j t ht => by
        rw [Tryz.params4] at ht
        have hm : t ∈ [23, 3, 3, 37] := by simpa using Array.mem_of_getElem? ht
        exact (show Tryz.prog.wantsStandIn t = false by simpa using List.all_eq_true.1 wellOnce_stand t hm)⟩)
    wellOnce_goes

end Go.Proofs.YtimahogkcmmcnaaGreatDoor

