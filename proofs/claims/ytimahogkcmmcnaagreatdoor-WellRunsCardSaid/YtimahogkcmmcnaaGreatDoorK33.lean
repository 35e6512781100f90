/-
  WellRuns: at every input the law returns true, and the arguments read as they did. Conditions: the listed variables of Go's library hold what the program's text lays.
-/
import Derived.Test.YtimahogkcmmcnaaGreatDoorRows
import Derived.Test.YtimahogkcmmcnaaGreatDoorCards
import Derived.Test.YtimahogkcmmcnaaGreatDoorTie
import Derived.Test.YtimahogkcmmcnaaGreatDoorK32
import Derived.Test.YtimahogkcmmcnaaGreatDoorK30
import Derived.Test.YtimahogkcmmcnaaGreatDoorK29
import Derived.ProofKit
import Derived.OpenShut
import Derived.LaidMore
import Derived.Lay
import Derived.SevenTiedAt
import Derived.Stop.Joined
set_option linter.unusedSimpArgs false
set_option linter.unusedVariables false

namespace Go.Proofs.YtimahogkcmmcnaaGreatDoor
open Go.ChangeShapes Go.WideShapes Go.ChangeAt Go.RowKit

theorem Tryz.own : ownKnob Tryz.prog.godebug = none := by kernel_rfl
theorem Tryz.laidOut : laidOutB Tryz.prog = true := fact_laidout

set_option maxRecDepth 100000 in
theorem wellRuns_lifted (os : Os) (started : os.Started) (H : Type) (enc : TypeId × Value → H) :
    ReturnsInHanded {} Tryz.checked os 5 .any (fun w args => (Rows.wellRunsSpec.pre enc Tryz.prog Tryz.f5 Rows.wellRunsRow.domain false w args ∧ laidMetH Tryz.prog Rows.wellRunsRow.laid w) ∧ sizedMet enc Tryz.prog Tryz.f5 (OpenSpec.ofChange Rows.wellRunsSpec) false w args)
      (Rows.wellRunsSpec.post enc Tryz.prog Tryz.f5 false true false false) := by
  refine returnsInHanded_of_change_and (C := Tryz.checked) (X := fun w _ => laidMetH Tryz.prog Rows.wellRunsRow.laid w) (fun _ _ _ hh h => h.of_heap hh) Tryz.own started (by kernel_rfl) Tryz.func5
    (ChangeSpec.witness_shaped (enc := enc) (C := Tryz.checked) (os := os) (X := fun w _ => laidMetH Tryz.prog Rows.wellRunsRow.laid w) false (World.laidAll Tryz.prog os Rows.wellRunsRow.laid) #[.slice none 0 0, .int .i64 0, .int .i64 0, .slice none 0 0] 8 (World.laidAll_os _ _ _)
      (World.shaped_of_ZipB (by kernel_rfl) (by kernel_rfl)) (by kernel_rfl) (by kernel_rfl) (by kernel_rfl)
      (by rw [MakeChecks.laidMetH_plain _ _ _ (by kernel_rfl)]; exact laidMet_laidAll _ (by kernel_rfl) (by kernel_rfl))) ?_
  intro W base args ds gs before hval0 hW hcnd _ hL _
  have hval : ∀ (j : Nat) t v, Tryz.f5.params[j]? = some t → args[j]? = some v → Value.okWide Tryz.prog W .any base t v := hval0
  have hW' := hW
  obtain ⟨p, q, hA0, hV, rfl, hfz, hnd⟩ := hW
  have hA : DataW.TrodAll enc Tryz.prog W 0 (fun _ => true) true Tryz.f5.params.toList args.toList ds p := hA0
  rw [Tryz.params5] at hA hval
  obtain ⟨v0, vs1, d0, ds1, p0, q0, ha0, rfl, rfl, h0, hr0⟩ := trodAll_cons hA
  obtain ⟨v1, vs2, d1, ds2, p1, q1, rfl, rfl, rfl, h1, hr1⟩ := trodAll_cons hr0
  obtain ⟨v2, vs3, d2, ds3, p2, q2, rfl, rfl, rfl, h2, hr2⟩ := trodAll_cons hr1
  obtain ⟨v3, vs4, d3, ds4, p3, q3, rfl, rfl, rfl, h3, hr3⟩ := trodAll_cons hr2
  obtain ⟨rfl, rfl, rfl⟩ := trodAll_nil hr3
  obtain rfl : args = #[v0, v1, v2, v3] := by cases args; simp_all
  obtain ⟨rfl, rfl⟩ := trodVars_none hV
  obtain ⟨sa, sn, sc, rfl⟩ := okWide_slice Tryz.underlying23 (hval 0 23 v0 rfl rfl)
  obtain ⟨n1, rfl⟩ := okWide_int Tryz.underlying3 (hval 1 3 v1 rfl rfl)
  obtain ⟨n2, rfl⟩ := okWide_int Tryz.underlying3 (hval 2 3 v2 rfl rfl)
  obtain ⟨la, ln, lc, rfl⟩ := okWide_slice Tryz.underlying37 (hval 3 37 v3 rfl rfl)
  have h0' := h0
  have h1' := h1
  have h2' := h2
  have h3' := h3
  obtain ⟨fuel, hd0⟩ := h0
  obtain ⟨fuel3, hd3⟩ := h3
  obtain ⟨v, s, hcs, hs⟩ := trod_schema hd0
  obtain ⟨ve, l, hcs2, hl⟩ := trod_acts hd3
  have hve : v = .slice sa sn sc := by
    simp only [Value.cells, List.cons.injEq, and_true] at hcs
    exact hcs.symm
  have hvp : ve = .slice la ln lc := by
    simp only [Value.cells, List.cons.injEq, and_true] at hcs2
    exact hcs2.symm
  subst hve hvp
  have hlt : ∀ y ∈ p0 ++ (p1 ++ (p2 ++ (p3 ++ []))), y.block < W.heap.size := fun y hy => hW'.lt y (List.mem_append_left _ hy)
  refine (f5_any Tryz.checked.mixed W _ _ _ s n1 n2 l hs (hl.keepC fun b hb hl => ⟨rfl, hb⟩)).mono fun x W' ⟨he, hB⟩ => ?_
  subst he
  have g0 := Below.trod Tryz.laidOut (by kernel_rfl) (of_decide_eq_true (by kernel_rfl)) h0' hB (fun y hy => hlt y (by simp [hy]))
  have g1 := Below.trod Tryz.laidOut (by kernel_rfl) (of_decide_eq_true (by kernel_rfl)) h1' hB (fun y hy => hlt y (by simp [hy]))
  have g2 := Below.trod Tryz.laidOut (by kernel_rfl) (of_decide_eq_true (by kernel_rfl)) h2' hB (fun y hy => hlt y (by simp [hy]))
  have g3 := Below.trod Tryz.laidOut (by kernel_rfl) (of_decide_eq_true (by kernel_rfl)) h3' hB (fun y hy => hlt y (by simp [hy]))
  refine ⟨_, rfl, _, _, _, [], p0 ++ (p1 ++ (p2 ++ (p3 ++ []))), [], hW', ?_, ?_, ?_, hB.frame _, fun h => by cases h⟩
  · exact trodAll_mk1 (shut_bool Tryz.underlying4 true)
  · exact trodAll_cons_mk g0 (trodAll_cons_mk g1 (trodAll_cons_mk g2 (trodAll_cons_mk g3 trodAll_mk0)))
  · rfl

theorem wellRuns_wf : Rows.wellRunsRow.wf (OpenSpec.ofChange Rows.wellRunsSpec) = true := by kernel_rfl
theorem wellRuns_params : Tryz.f5.params.all (Tryz.pinned.checked.prog.readableRec ·) = true := by kernel_rfl
theorem wellRuns_tied : namedTie Tryz.pinned.checked.prog Rows.wellRunsRow.named Rows.wellRunsSpec.vars = true := by kernel_rfl
theorem wellRuns_inPlace : (Rows.wellRunsRow.inPlace == Tryz.pinned.checked.prog.inPlace 5) = true := by kernel_rfl
theorem wellRuns_unfollowed : (Rows.wellRunsRow.unfollowed == Tryz.pinned.checked.prog.unfollowed 5) = true := by kernel_rfl
theorem wellRuns_recurses : (Rows.wellRunsRow.recurses == Tryz.pinned.checked.prog.recurses 5) = true := by kernel_rfl
theorem wellRuns_varsNamed : (Rows.wellRunsRow.named == Tryz.pinned.checked.prog.varsNamed 5) = true := by kernel_rfl
theorem wellRuns_found : Tryz.pinned.checked.prog.funcNamed Rows.wellRunsRow.func = some 5 := by kernel_rfl
theorem wellRuns_wrapper : Tryz.f5.isWrapper Tryz.pinned.checked.prog Rows.wellRunsRow.wrapper Rows.wellRunsRow.mainSum := by
  unfold Func.isWrapper; first | (rw [if_pos (by decide +kernel)]; kernel_rfl) | (rw [if_neg (by decide +kernel)]; exact ⟨rfl, rfl⟩)
theorem wellRuns_maps : (Rows.wellRunsRow.maps == (Tryz.f5.params.toList ++ Rows.wellRunsSpec.plain.varTypes Tryz.pinned.checked.prog).any (Tryz.pinned.checked.prog.mapsRec ·)) = true := by kernel_rfl
theorem wellRuns_ifaces : (Rows.wellRunsRow.ifaces == (Tryz.f5.params.toList ++ Rows.wellRunsSpec.plain.varTypes Tryz.pinned.checked.prog).any (Tryz.pinned.checked.prog.ifacesRec ·)) = true := by kernel_rfl
theorem wellRuns_mapsOut : (Rows.wellRunsRow.mapsOut == Tryz.pinned.checked.prog.mapsAmong Tryz.f5.resultTypes.toList) = true := by kernel_rfl
theorem wellRuns_loops : (Rows.wellRunsRow.loops == (Tryz.f5.params.toList ++ Rows.wellRunsSpec.plain.varTypes Tryz.pinned.checked.prog).any (Tryz.pinned.checked.prog.loopsFrom ·)) = true := by kernel_rfl
theorem wellRuns_wideKeys : (Rows.wellRunsRow.wideKeys == (Tryz.f5.params.toList ++ Rows.wellRunsSpec.plain.varTypes Tryz.pinned.checked.prog ++ Tryz.f5.resultTypes.toList).any (Tryz.pinned.checked.prog.wideKeysFrom ·)) = true := by kernel_rfl
theorem wellRuns_vars : Rows.wellRunsSpec.vars.all (Tryz.pinned.checked.prog.varReadable ·) = true := by kernel_rfl
theorem wellRuns_results : Tryz.f5.resultTypes.all (fun t => Tryz.pinned.checked.prog.readableRec t && decide (t < Tryz.pinned.checked.prog.types.size)) = true := by kernel_rfl
theorem wellRuns_ifacesOut : (Rows.wellRunsRow.ifacesOut == Tryz.f5.resultTypes.toList.any (Tryz.pinned.checked.prog.ifacesRec ·)) = true := by kernel_rfl
theorem wellRuns_loopsOut : (Rows.wellRunsRow.loopsOut == Tryz.f5.resultTypes.toList.any (Tryz.pinned.checked.prog.loopsFrom ·)) = true := by kernel_rfl
theorem wellRuns_make : (Tryz.pinned.checked.prog.make == some Rows.wellRunsRow.make) = true := by kernel_rfl
theorem wellRuns_pinnedBy : (Rows.wellRunsRow.pinned == Rows.wellRunsRow.pinnedBy) = true := by kernel_rfl
theorem wellRuns_veiled : (Rows.wellRunsRow.veiled == (Tryz.f5.params.toList ++ Rows.wellRunsSpec.plain.varTypes Tryz.pinned.checked.prog ++ Tryz.f5.resultTypes.toList).any (Tryz.pinned.checked.prog.veiledRec ·)) = true := by kernel_rfl
theorem wellRuns_fits : Rows.wellRunsRow.veiledFits Tryz.pinned.checked.prog Tryz.f5.params.toList (Tryz.f5.params.toList ++ Rows.wellRunsSpec.plain.varTypes Tryz.pinned.checked.prog ++ Tryz.f5.resultTypes.toList) = true := by kernel_rfl
theorem wellRuns_stops : (Rows.wellRunsRow.stops == []) = true := by kernel_rfl
theorem wellRuns_stopsP : (Tryz.pinned.checked.prog.stops == []) = true := beq_iff_eq.2 fact_stops
theorem wellRuns_knobs : (Rows.wellRunsRow.knobs == []) = true := by kernel_rfl
theorem wellRuns_knobsP : (Tryz.pinned.checked.prog.stopKnobs == []) = true := beq_iff_eq.2 fact_knobs
theorem wellRuns_plainKeys : (Rows.wellRunsRow.plainKeys == Tryz.pinned.checked.prog.plainKeys) = true := beq_iff_eq.2 (Eq.trans (by kernel_rfl) fact_plain.symm)
theorem wellRuns_short : Rows.wellRunsRow.shortTexts.isNone = true := by kernel_rfl
theorem wellRuns_liftedF : (Rows.wellRunsRow.lifted == Tryz.pinned.checked.prog.liftsFinal) = true := beq_iff_eq.2 (Eq.trans (by kernel_rfl) fact_lifts.symm)
theorem wellRuns_facts : joinedFacts Tryz.pinned.checked.prog 5 Tryz.f5 Rows.wellRunsSpec Rows.wellRunsRow = true := by
  unfold joinedFacts
  simp only [Bool.and_eq_true]
  exact ⟨⟨⟨⟨⟨⟨⟨⟨⟨⟨⟨⟨⟨⟨⟨⟨⟨⟨⟨⟨⟨⟨⟨⟨⟨⟨⟨⟨⟨⟨⟨wellRuns_wf, fact_laidout⟩, fact_mapsrowed⟩, wellRuns_params⟩, wellRuns_tied⟩, wellRuns_stops⟩, wellRuns_stopsP⟩, wellRuns_knobs⟩, wellRuns_knobsP⟩, wellRuns_inPlace⟩, wellRuns_unfollowed⟩, wellRuns_recurses⟩, wellRuns_varsNamed⟩, wellRuns_maps⟩, wellRuns_ifaces⟩, wellRuns_mapsOut⟩, wellRuns_loops⟩, wellRuns_wideKeys⟩, wellRuns_vars⟩, wellRuns_results⟩, wellRuns_ifacesOut⟩, wellRuns_loopsOut⟩, wellRuns_plainKeys⟩, wellRuns_short⟩, fact_heard⟩, fact_may⟩, wellRuns_liftedF⟩, wellRuns_make⟩, (by kernel_rfl)⟩, wellRuns_pinnedBy⟩, wellRuns_veiled⟩, wellRuns_fits⟩
theorem wellRuns_row : Rows.WellRunsSaid :=
  OpenClaim.holds_of_wide 5 Tryz.f5 rfl rfl rfl rfl rfl rfl rfl ⟨rfl, rfl, rfl, rfl, rfl⟩ rfl rfl rfl rfl rfl wellRuns_found Tryz.func5 wellRuns_facts
    (of_decide_eq_true (by kernel_rfl)) wellRuns_wrapper
    (fun os started H enc _ => wellRuns_lifted os started H enc)
theorem wellRuns_goes : false = Rows.wellRunsRow.goesBy Tryz.pinned.checked.prog := (goesAt_none fact_goes _ _).symm
theorem wellRuns_wfText : Rows.wellRunsRow.wfByText (OpenSpec.ofChange Rows.wellRunsSpec) = true := by kernel_rfl
theorem wellRuns_stand : ([23, 3, 3, 37].all fun u => !Tryz.prog.wantsStandIn u) = true := by kernel_rfl
theorem wellRuns_holds : Rows.WellRunsCardSaid :=
  Claim7.holds_tied_plain_at .later [] [.data, .data, .data, .data, .sentinel, .sentinel, .pinned] true (true, "ba7069e71abb1c892517ba5f93fabb029ec9dc4e1feff656df06738ef640ec5c") true wellRuns_row (fun _ h => by cases h) wellRuns_wfText (fun _ h => by cases h) wellRuns_row_tie rfl ⟨rfl, rfl⟩ fact_main rfl
    (fun f fn hf hfn => by
      obtain rfl : f = 5 := Option.some.inj (wellRuns_found.symm.trans hf) |>.symm
      obtain rfl : fn = Tryz.f5 := (Option.some.inj (Tryz.func5.symm.trans hfn)).symm
      exact ⟨fact_looks, fun j t ht => by
        rw [Tryz.params5] at ht
        have hm : t ∈ [23, 3, 3, 37] := by simpa using Array.mem_of_getElem? ht
        exact (show Tryz.prog.wantsStandIn t = false by simpa using List.all_eq_true.1 wellRuns_stand t hm)⟩)
    wellRuns_goes

end Go.Proofs.YtimahogkcmmcnaaGreatDoor

