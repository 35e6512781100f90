/-
  NodeNil: at every input the law returns true, and the arguments read as they did. Conditions: the listed variables of Go's library hold what the program's text lays.
-/
import Derived.Test.YtjmiegmeekpdcaaGreatDoorRows
import Derived.Test.YtjmiegmeekpdcaaGreatDoorCards
import Derived.Test.YtjmiegmeekpdcaaGreatDoorTC
import Derived.Test.YtjmiegmeekpdcaaGreatDoorNB
import Derived.Test.YtjmiegmeekpdcaaGreatDoorN2
import Derived.Test.YtjmiegmeekpdcaaGreatDoorN3
import Derived.ProofKit
import Derived.OpenShut
import Derived.LaidMore
import Derived.Lay
import Derived.SevenTiedAt
import Derived.Stop.Joined
set_option linter.unusedSimpArgs false
set_option linter.unusedVariables false
namespace Go.Proofs.YtjmiegmeekpdcaaGreatDoor
open Go.ChangeShapes Go.WideShapes Go.ChangeAt Go.RowKit

theorem Tryz.own : ownKnob Tryz.prog.godebug = none := by kernel_rfl
theorem Tryz.laidOut : laidOutB Tryz.prog = true := fact_laidout

set_option maxRecDepth 100000 in
theorem nodeNil_lifted (os : Os) (started : os.Started) (H : Type) (enc : TypeId × Value → H) :
    ReturnsInHanded {} Tryz.checked os 3 .any (fun w args => (Rows.nodeNilSpec.pre enc Tryz.prog Tryz.f3 Rows.nodeNilRow.domain false w args ∧ laidMetH Tryz.prog Rows.nodeNilRow.laid w) ∧ sizedMet enc Tryz.prog Tryz.f3 (OpenSpec.ofChange Rows.nodeNilSpec) false w args)
      (Rows.nodeNilSpec.post enc Tryz.prog Tryz.f3 false true false false) := by
  refine returnsInHanded_of_change_and (C := Tryz.checked) (X := fun w _ => laidMetH Tryz.prog Rows.nodeNilRow.laid w) (fun _ _ _ hh h => h.of_heap hh) Tryz.own started (by kernel_rfl) Tryz.func3
    (ChangeSpec.witness_shaped (enc := enc) (C := Tryz.checked) (os := os) (X := fun w _ => laidMetH Tryz.prog Rows.nodeNilRow.laid w) false (World.laidAll Tryz.prog os Rows.nodeNilRow.laid) #[.int .i64 0, .int .i64 0, .agg #[.int .i64 0, .slice none 0 0, .int .i64 0]] 8 (World.laidAll_os _ _ _)
      (World.shaped_of_ZipB (by kernel_rfl) (by kernel_rfl)) (by kernel_rfl) (by kernel_rfl) (by kernel_rfl)
      (by rw [MakeChecks.laidMetH_plain _ _ _ (by kernel_rfl)]; exact laidMet_laidAll _ (by kernel_rfl) (by kernel_rfl))) ?_
  intro W base args ds gs before hval0 hW hcnd _ hL _
  have hval : ∀ (j : Nat) t v, Tryz.f3.params[j]? = some t → args[j]? = some v → Value.okWide Tryz.prog W .any base t v := hval0
  have hW' := hW
  obtain ⟨p, q, hA0, hV, rfl, hfz, hnd⟩ := hW
  have hA : DataW.TrodAll enc Tryz.prog W 0 (fun _ => true) true Tryz.f3.params.toList args.toList ds p := hA0
  rw [Tryz.params3] at hA hval
  obtain ⟨v0, v1, v2, d0, d1, d2, p0, p1, p2, rfl, rfl, rfl, h0, h1, h2⟩ := trodAll_three hA
  obtain ⟨rfl, rfl⟩ := trodVars_none hV
  obtain ⟨i, rfl⟩ := okWide_int Tryz.underlying3 (hval 0 3 v0 rfl rfl)
  obtain ⟨m, rfl⟩ := okWide_int Tryz.underlying3 (hval 1 3 v1 rfl rfl)
  obtain ⟨cs, rfl, hcs⟩ := okWide_struct Tryz.underlying25 (hval 2 25 v2 rfl rfl)
  have h2' := h2
  obtain ⟨fuel, hd⟩ := h2
  obtain ⟨t, ra, rn, rc, n, hcs2, hr⟩ := trod_change hd
  have hce : cs = #[.int .i64 t, .slice ra rn rc, .int .i64 n] := by
    apply Array.toList_inj.1
    simpa [Value.cells] using hcs2
  subst hce
  have hlt : ∀ y ∈ p0 ++ p1 ++ p2, y.block < W.heap.size := fun y hy => hW'.lt y (List.mem_append_left _ hy)
  refine (f3_any (f5_any Tryz.checked.mixed) W i m t n ra rn rc hr).mono fun x W' ⟨he, hB⟩ => ?_
  subst he
  have g0 := Below.trod Tryz.laidOut (by kernel_rfl) (of_decide_eq_true (by kernel_rfl)) h0 hB (fun y hy => hlt y (List.mem_append_left _ (List.mem_append_left _ hy)))
  have g1 := Below.trod Tryz.laidOut (by kernel_rfl) (of_decide_eq_true (by kernel_rfl)) h1 hB (fun y hy => hlt y (List.mem_append_left _ (List.mem_append_right _ hy)))
  have g2 := Below.trod Tryz.laidOut (by kernel_rfl) (of_decide_eq_true (by kernel_rfl)) h2' hB (fun y hy => hlt y (List.mem_append_right _ hy))
  refine ⟨_, rfl, _, _, _, [], p0 ++ (p1 ++ p2), [], hW', ?_, ?_, ?_, hB.frame _, fun h => by cases h⟩
  · exact trodAll_mk1 (shut_bool Tryz.underlying4 true)
  · exact trodAll_mk3 g0 g1 g2
  · rfl

theorem nodeNil_wf : Rows.nodeNilRow.wf (OpenSpec.ofChange Rows.nodeNilSpec) = true := by kernel_rfl
theorem nodeNil_params : Tryz.f3.params.all (Tryz.pinned.checked.prog.readableRec ·) = true := by kernel_rfl
theorem nodeNil_tied : namedTie Tryz.pinned.checked.prog Rows.nodeNilRow.named Rows.nodeNilSpec.vars = true := by kernel_rfl
theorem nodeNil_inPlace : (Rows.nodeNilRow.inPlace == Tryz.pinned.checked.prog.inPlace 3) = true := by kernel_rfl
theorem nodeNil_unfollowed : (Rows.nodeNilRow.unfollowed == Tryz.pinned.checked.prog.unfollowed 3) = true := by kernel_rfl
theorem nodeNil_recurses : (Rows.nodeNilRow.recurses == Tryz.pinned.checked.prog.recurses 3) = true := by kernel_rfl
theorem nodeNil_varsNamed : (Rows.nodeNilRow.named == Tryz.pinned.checked.prog.varsNamed 3) = true := by kernel_rfl
theorem nodeNil_found : Tryz.pinned.checked.prog.funcNamed Rows.nodeNilRow.func = some 3 := by kernel_rfl
theorem nodeNil_wrapper : Tryz.f3.isWrapper Tryz.pinned.checked.prog Rows.nodeNilRow.wrapper Rows.nodeNilRow.mainSum := by
  unfold Func.isWrapper; first | (rw [if_pos (by decide +kernel)]; kernel_rfl) | (rw [if_neg (by decide +kernel)]; exact ⟨rfl, rfl⟩)
theorem nodeNil_maps : (Rows.nodeNilRow.maps == (Tryz.f3.params.toList ++ Rows.nodeNilSpec.plain.varTypes Tryz.pinned.checked.prog).any (Tryz.pinned.checked.prog.mapsRec ·)) = true := by kernel_rfl
theorem nodeNil_ifaces : (Rows.nodeNilRow.ifaces == (Tryz.f3.params.toList ++ Rows.nodeNilSpec.plain.varTypes Tryz.pinned.checked.prog).any (Tryz.pinned.checked.prog.ifacesRec ·)) = true := by kernel_rfl
theorem nodeNil_mapsOut : (Rows.nodeNilRow.mapsOut == Tryz.pinned.checked.prog.mapsAmong Tryz.f3.resultTypes.toList) = true := by kernel_rfl
theorem nodeNil_loops : (Rows.nodeNilRow.loops == (Tryz.f3.params.toList ++ Rows.nodeNilSpec.plain.varTypes Tryz.pinned.checked.prog).any (Tryz.pinned.checked.prog.loopsFrom ·)) = true := by kernel_rfl
theorem nodeNil_wideKeys : (Rows.nodeNilRow.wideKeys == (Tryz.f3.params.toList ++ Rows.nodeNilSpec.plain.varTypes Tryz.pinned.checked.prog ++ Tryz.f3.resultTypes.toList).any (Tryz.pinned.checked.prog.wideKeysFrom ·)) = true := by kernel_rfl
theorem nodeNil_vars : Rows.nodeNilSpec.vars.all (Tryz.pinned.checked.prog.varReadable ·) = true := by kernel_rfl
theorem nodeNil_results : Tryz.f3.resultTypes.all (fun t => Tryz.pinned.checked.prog.readableRec t && decide (t < Tryz.pinned.checked.prog.types.size)) = true := by kernel_rfl
theorem nodeNil_ifacesOut : (Rows.nodeNilRow.ifacesOut == Tryz.f3.resultTypes.toList.any (Tryz.pinned.checked.prog.ifacesRec ·)) = true := by kernel_rfl
theorem nodeNil_loopsOut : (Rows.nodeNilRow.loopsOut == Tryz.f3.resultTypes.toList.any (Tryz.pinned.checked.prog.loopsFrom ·)) = true := by kernel_rfl
theorem nodeNil_make : (Tryz.pinned.checked.prog.make == some Rows.nodeNilRow.make) = true := by kernel_rfl
theorem nodeNil_pinnedBy : (Rows.nodeNilRow.pinned == Rows.nodeNilRow.pinnedBy) = true := by kernel_rfl
theorem nodeNil_veiled : (Rows.nodeNilRow.veiled == (Tryz.f3.params.toList ++ Rows.nodeNilSpec.plain.varTypes Tryz.pinned.checked.prog ++ Tryz.f3.resultTypes.toList).any (Tryz.pinned.checked.prog.veiledRec ·)) = true := by kernel_rfl
theorem nodeNil_fits : Rows.nodeNilRow.veiledFits Tryz.pinned.checked.prog Tryz.f3.params.toList (Tryz.f3.params.toList ++ Rows.nodeNilSpec.plain.varTypes Tryz.pinned.checked.prog ++ Tryz.f3.resultTypes.toList) = true := by kernel_rfl
theorem nodeNil_stops : (Rows.nodeNilRow.stops == []) = true := by kernel_rfl
theorem nodeNil_stopsP : (Tryz.pinned.checked.prog.stops == []) = true := beq_iff_eq.2 fact_stops
theorem nodeNil_knobs : (Rows.nodeNilRow.knobs == []) = true := by kernel_rfl
theorem nodeNil_knobsP : (Tryz.pinned.checked.prog.stopKnobs == []) = true := beq_iff_eq.2 fact_knobs
theorem nodeNil_plainKeys : (Rows.nodeNilRow.plainKeys == Tryz.pinned.checked.prog.plainKeys) = true := beq_iff_eq.2 (Eq.trans (by kernel_rfl) fact_plain.symm)
theorem nodeNil_short : Rows.nodeNilRow.shortTexts.isNone = true := by kernel_rfl
theorem nodeNil_liftedF : (Rows.nodeNilRow.lifted == Tryz.pinned.checked.prog.liftsFinal) = true := beq_iff_eq.2 (Eq.trans (by kernel_rfl) fact_lifts.symm)
theorem nodeNil_facts : joinedFacts Tryz.pinned.checked.prog 3 Tryz.f3 Rows.nodeNilSpec Rows.nodeNilRow = true := by
  unfold joinedFacts
  simp only [Bool.and_eq_true]
  exact ⟨⟨⟨⟨⟨⟨⟨⟨⟨⟨⟨⟨⟨⟨⟨⟨⟨⟨⟨⟨⟨⟨⟨⟨⟨⟨⟨⟨⟨⟨⟨nodeNil_wf, fact_laidout⟩, fact_mapsrowed⟩, nodeNil_params⟩, nodeNil_tied⟩, nodeNil_stops⟩, nodeNil_stopsP⟩, nodeNil_knobs⟩, nodeNil_knobsP⟩, nodeNil_inPlace⟩, nodeNil_unfollowed⟩, nodeNil_recurses⟩, nodeNil_varsNamed⟩, nodeNil_maps⟩, nodeNil_ifaces⟩, nodeNil_mapsOut⟩, nodeNil_loops⟩, nodeNil_wideKeys⟩, nodeNil_vars⟩, nodeNil_results⟩, nodeNil_ifacesOut⟩, nodeNil_loopsOut⟩, nodeNil_plainKeys⟩, nodeNil_short⟩, fact_heard⟩, fact_may⟩, nodeNil_liftedF⟩, nodeNil_make⟩, (by kernel_rfl)⟩, nodeNil_pinnedBy⟩, nodeNil_veiled⟩, nodeNil_fits⟩
theorem nodeNil_row : Rows.NodeNilSaid :=
  OpenClaim.holds_of_wide 3 Tryz.f3 rfl rfl rfl rfl rfl rfl rfl ⟨rfl, rfl, rfl, rfl, rfl⟩ rfl rfl rfl rfl rfl nodeNil_found Tryz.func3 nodeNil_facts
    (of_decide_eq_true (by kernel_rfl)) nodeNil_wrapper
    (fun os started H enc _ => nodeNil_lifted os started H enc)
theorem nodeNil_goes : false = Rows.nodeNilRow.goesBy Tryz.pinned.checked.prog := (goesAt_none fact_goes _ _).symm
theorem nodeNil_wfText : Rows.nodeNilRow.wfByText (OpenSpec.ofChange Rows.nodeNilSpec) = true := by kernel_rfl
theorem nodeNil_stand : ([3, 3, 25].all fun u => !Tryz.prog.wantsStandIn u) = true := by kernel_rfl
theorem nodeNil_holds : Rows.NodeNilCardSaid :=
  Claim7.holds_tied_plain_at .later [] [.sentinel, .sentinel, .data, .data, .data, .pinned, .data] true (true, "513b8f654d4868761e3ef08f95e31643919e1c7bb5fa9f9af857158c857e3e4f") true nodeNil_row (fun _ h => by cases h) nodeNil_wfText (fun _ h => by cases h) nodeNil_row_tie rfl ⟨rfl, rfl⟩ fact_main rfl
    (fun f fn hf hfn => by
      obtain rfl : f = 3 := Option.some.inj (nodeNil_found.symm.trans hf) |>.symm
      obtain rfl : fn = Tryz.f3 := (Option.some.inj (Tryz.func3.symm.trans hfn)).symm
      exact ⟨fact_looks, fun j t ht => by
        rw [Tryz.params3] at ht
        have hm : t ∈ [3, 3, 25] := by simpa using Array.mem_of_getElem? ht
        exact (show Tryz.prog.wantsStandIn t = false by simpa using List.all_eq_true.1 nodeNil_stand t hm)⟩)
    nodeNil_goes

end Go.Proofs.YtjmiegmeekpdcaaGreatDoor
