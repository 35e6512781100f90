/-
  MotifOrders: at every input the law returns true, and the arguments read as they did. Conditions: the listed variables of Go's library hold what the program's text lays.
-/
import Derived.Test.YtimahogkcmmcnaaGreatDoorRows
import Derived.Test.YtimahogkcmmcnaaGreatDoorCards
import Derived.Test.YtimahogkcmmcnaaGreatDoorTie
import Derived.Test.YtimahogkcmmcnaaGreatDoorMI
import Derived.Test.YtimahogkcmmcnaaGreatDoorMH
import Derived.Test.YtimahogkcmmcnaaGreatDoorMJ
import Derived.ProofKit
import Derived.OpenShut
import Derived.LaidMore
import Derived.Lay
import Derived.SevenTiedAt
import Derived.Stop.Joined
set_option linter.unusedSimpArgs false
set_option linter.unusedVariables false
namespace Go.Proofs.YtimahogkcmmcnaaGreatDoor
open Go.ChangeShapes Go.WideShapes Go.ChangeAt Go.RowKit

theorem Tryz.own : ownKnob Tryz.prog.godebug = none := by kernel_rfl
theorem Tryz.laidOut : laidOutB Tryz.prog = true := fact_laidout

set_option maxRecDepth 100000 in
theorem motifOrders_lifted (os : Os) (started : os.Started) (H : Type) (enc : TypeId × Value → H) :
    ReturnsInHanded {} Tryz.checked os 3 .any (fun w args => (Rows.motifOrdersSpec.pre enc Tryz.prog Tryz.f3 Rows.motifOrdersRow.domain false w args ∧ laidMetH Tryz.prog Rows.motifOrdersRow.laid w) ∧ sizedMet enc Tryz.prog Tryz.f3 (OpenSpec.ofChange Rows.motifOrdersSpec) false w args)
      (Rows.motifOrdersSpec.post enc Tryz.prog Tryz.f3 false true false false) := by
  refine returnsInHanded_of_change_and (C := Tryz.checked) (X := fun w _ => laidMetH Tryz.prog Rows.motifOrdersRow.laid w) (fun _ _ _ hh h => h.of_heap hh) Tryz.own started (by kernel_rfl) Tryz.func3
    (ChangeSpec.witness_shaped (enc := enc) (C := Tryz.checked) (os := os) (X := fun w _ => laidMetH Tryz.prog Rows.motifOrdersRow.laid w) false (World.laidAll Tryz.prog os Rows.motifOrdersRow.laid) #[.slice none 0 0, .slice none 0 0] 8 (World.laidAll_os _ _ _)
      (World.shaped_of_ZipB (by kernel_rfl) (by kernel_rfl)) (by kernel_rfl) (by kernel_rfl) (by kernel_rfl)
      (by rw [MakeChecks.laidMetH_plain _ _ _ (by kernel_rfl)]; exact laidMet_laidAll _ (by kernel_rfl) (by kernel_rfl))) ?_
  intro W base args ds gs before hval0 hW hcnd _ hL _
  have hval : ∀ (j : Nat) t v, Tryz.f3.params[j]? = some t → args[j]? = some v → Value.okWide Tryz.prog W .any base t v := hval0
  have hW' := hW
  obtain ⟨p, q, hA0, hV, rfl, hfz, hnd⟩ := hW
  have hA : DataW.TrodAll enc Tryz.prog W 0 (fun _ => true) true Tryz.f3.params.toList args.toList ds p := hA0
  rw [Tryz.params3] at hA hval
  obtain ⟨v0, v1, d0, d1, p0, p1, rfl, rfl, rfl, h0, h1⟩ := trodAll_two hA
  obtain ⟨rfl, rfl⟩ := trodVars_none hV
  obtain ⟨sa, sn, sc, rfl⟩ := okWide_slice Tryz.underlying23 (hval 0 23 v0 rfl rfl)
  obtain ⟨ea, en, ec, rfl⟩ := okWide_slice Tryz.underlying24 (hval 1 24 v1 rfl rfl)
  have h0' := h0
  have h1' := h1
  obtain ⟨fuel, hd0⟩ := h0
  obtain ⟨fuel2, hd1⟩ := h1
  obtain ⟨v, s, hcs, hs⟩ := trod_schema hd0
  obtain ⟨ve, l, hcs2, hl⟩ := trod_events hd1
  have hve : v = .slice sa sn sc := by
    simp only [Value.cells, List.cons.injEq, and_true] at hcs
    exact hcs.symm
  have hvp : ve = .slice ea en ec := by
    simp only [Value.cells, List.cons.injEq, and_true] at hcs2
    exact hcs2.symm
  subst hve hvp
  have hlt : ∀ y ∈ p0 ++ p1, y.block < W.heap.size := fun y hy => hW'.lt y (List.mem_append_left _ hy)
  refine (f3_any Tryz.checked.mixed W _ _ _ _ s l hs hl (fun b hb => hb)).mono fun x W' ⟨he, hB⟩ => ?_
  subst he
  have g0 := Below.trod Tryz.laidOut (by kernel_rfl) (of_decide_eq_true (by kernel_rfl)) h0' hB (fun y hy => hlt y (List.mem_append_left _ hy))
  have g1 := Below.trod Tryz.laidOut (by kernel_rfl) (of_decide_eq_true (by kernel_rfl)) h1' hB (fun y hy => hlt y (List.mem_append_right _ hy))
  refine ⟨_, rfl, _, _, _, [], p0 ++ p1, [], hW', ?_, ?_, ?_, hB.frame _, fun h => by cases h⟩
  · exact trodAll_mk1 (shut_bool Tryz.underlying4 true)
  · exact trodAll_mk2 g0 g1
  · rfl

theorem motifOrders_wf : Rows.motifOrdersRow.wf (OpenSpec.ofChange Rows.motifOrdersSpec) = true := by kernel_rfl
theorem motifOrders_params : Tryz.f3.params.all (Tryz.pinned.checked.prog.readableRec ·) = true := by kernel_rfl
theorem motifOrders_tied : namedTie Tryz.pinned.checked.prog Rows.motifOrdersRow.named Rows.motifOrdersSpec.vars = true := by kernel_rfl
theorem motifOrders_inPlace : (Rows.motifOrdersRow.inPlace == Tryz.pinned.checked.prog.inPlace 3) = true := by kernel_rfl
theorem motifOrders_unfollowed : (Rows.motifOrdersRow.unfollowed == Tryz.pinned.checked.prog.unfollowed 3) = true := by kernel_rfl
theorem motifOrders_recurses : (Rows.motifOrdersRow.recurses == Tryz.pinned.checked.prog.recurses 3) = true := by kernel_rfl
theorem motifOrders_varsNamed : (Rows.motifOrdersRow.named == Tryz.pinned.checked.prog.varsNamed 3) = true := by kernel_rfl
theorem motifOrders_found : Tryz.pinned.checked.prog.funcNamed Rows.motifOrdersRow.func = some 3 := by kernel_rfl
theorem motifOrders_wrapper : Tryz.f3.isWrapper Tryz.pinned.checked.prog Rows.motifOrdersRow.wrapper Rows.motifOrdersRow.mainSum := by
  unfold Func.isWrapper; first | (rw [if_pos (by decide +kernel)]; kernel_rfl) | (rw [if_neg (by decide +kernel)]; exact ⟨rfl, rfl⟩)
theorem motifOrders_maps : (Rows.motifOrdersRow.maps == (Tryz.f3.params.toList ++ Rows.motifOrdersSpec.plain.varTypes Tryz.pinned.checked.prog).any (Tryz.pinned.checked.prog.mapsRec ·)) = true := by kernel_rfl
theorem motifOrders_ifaces : (Rows.motifOrdersRow.ifaces == (Tryz.f3.params.toList ++ Rows.motifOrdersSpec.plain.varTypes Tryz.pinned.checked.prog).any (Tryz.pinned.checked.prog.ifacesRec ·)) = true := by kernel_rfl
theorem motifOrders_mapsOut : (Rows.motifOrdersRow.mapsOut == Tryz.pinned.checked.prog.mapsAmong Tryz.f3.resultTypes.toList) = true := by kernel_rfl
theorem motifOrders_loops : (Rows.motifOrdersRow.loops == (Tryz.f3.params.toList ++ Rows.motifOrdersSpec.plain.varTypes Tryz.pinned.checked.prog).any (Tryz.pinned.checked.prog.loopsFrom ·)) = true := by kernel_rfl
theorem motifOrders_wideKeys : (Rows.motifOrdersRow.wideKeys == (Tryz.f3.params.toList ++ Rows.motifOrdersSpec.plain.varTypes Tryz.pinned.checked.prog ++ Tryz.f3.resultTypes.toList).any (Tryz.pinned.checked.prog.wideKeysFrom ·)) = true := by kernel_rfl
theorem motifOrders_vars : Rows.motifOrdersSpec.vars.all (Tryz.pinned.checked.prog.varReadable ·) = true := by kernel_rfl
theorem motifOrders_results : Tryz.f3.resultTypes.all (fun t => Tryz.pinned.checked.prog.readableRec t && decide (t < Tryz.pinned.checked.prog.types.size)) = true := by kernel_rfl
theorem motifOrders_ifacesOut : (Rows.motifOrdersRow.ifacesOut == Tryz.f3.resultTypes.toList.any (Tryz.pinned.checked.prog.ifacesRec ·)) = true := by kernel_rfl
theorem motifOrders_loopsOut : (Rows.motifOrdersRow.loopsOut == Tryz.f3.resultTypes.toList.any (Tryz.pinned.checked.prog.loopsFrom ·)) = true := by kernel_rfl
theorem motifOrders_make : (Tryz.pinned.checked.prog.make == some Rows.motifOrdersRow.make) = true := by kernel_rfl
theorem motifOrders_pinnedBy : (Rows.motifOrdersRow.pinned == Rows.motifOrdersRow.pinnedBy) = true := by kernel_rfl
theorem motifOrders_veiled : (Rows.motifOrdersRow.veiled == (Tryz.f3.params.toList ++ Rows.motifOrdersSpec.plain.varTypes Tryz.pinned.checked.prog ++ Tryz.f3.resultTypes.toList).any (Tryz.pinned.checked.prog.veiledRec ·)) = true := by kernel_rfl
theorem motifOrders_fits : Rows.motifOrdersRow.veiledFits Tryz.pinned.checked.prog Tryz.f3.params.toList (Tryz.f3.params.toList ++ Rows.motifOrdersSpec.plain.varTypes Tryz.pinned.checked.prog ++ Tryz.f3.resultTypes.toList) = true := by kernel_rfl
theorem motifOrders_stops : (Rows.motifOrdersRow.stops == []) = true := by kernel_rfl
theorem motifOrders_stopsP : (Tryz.pinned.checked.prog.stops == []) = true := beq_iff_eq.2 fact_stops
theorem motifOrders_knobs : (Rows.motifOrdersRow.knobs == []) = true := by kernel_rfl
theorem motifOrders_knobsP : (Tryz.pinned.checked.prog.stopKnobs == []) = true := beq_iff_eq.2 fact_knobs
theorem motifOrders_plainKeys : (Rows.motifOrdersRow.plainKeys == Tryz.pinned.checked.prog.plainKeys) = true := beq_iff_eq.2 (Eq.trans (by kernel_rfl) fact_plain.symm)
theorem motifOrders_short : Rows.motifOrdersRow.shortTexts.isNone = true := by kernel_rfl
theorem motifOrders_liftedF : (Rows.motifOrdersRow.lifted == Tryz.pinned.checked.prog.liftsFinal) = true := beq_iff_eq.2 (Eq.trans (by kernel_rfl) fact_lifts.symm)
theorem motifOrders_facts : joinedFacts Tryz.pinned.checked.prog 3 Tryz.f3 Rows.motifOrdersSpec Rows.motifOrdersRow = true := by
  unfold joinedFacts
  simp only [Bool.and_eq_true]
  exact ⟨⟨⟨⟨⟨⟨⟨⟨⟨⟨⟨⟨⟨⟨⟨⟨⟨⟨⟨⟨⟨⟨⟨⟨⟨⟨⟨⟨⟨⟨⟨motifOrders_wf, fact_laidout⟩, fact_mapsrowed⟩, motifOrders_params⟩, motifOrders_tied⟩, motifOrders_stops⟩, motifOrders_stopsP⟩, motifOrders_knobs⟩, motifOrders_knobsP⟩, motifOrders_inPlace⟩, motifOrders_unfollowed⟩, motifOrders_recurses⟩, motifOrders_varsNamed⟩, motifOrders_maps⟩, motifOrders_ifaces⟩, motifOrders_mapsOut⟩, motifOrders_loops⟩, motifOrders_wideKeys⟩, motifOrders_vars⟩, motifOrders_results⟩, motifOrders_ifacesOut⟩, motifOrders_loopsOut⟩, motifOrders_plainKeys⟩, motifOrders_short⟩, fact_heard⟩, fact_may⟩, motifOrders_liftedF⟩, motifOrders_make⟩, (by kernel_rfl)⟩, motifOrders_pinnedBy⟩, motifOrders_veiled⟩, motifOrders_fits⟩
theorem motifOrders_row : Rows.MotifOrdersSaid :=
  OpenClaim.holds_of_wide 3 Tryz.f3 rfl rfl rfl rfl rfl rfl rfl ⟨rfl, rfl, rfl, rfl, rfl⟩ rfl rfl rfl rfl rfl motifOrders_found Tryz.func3 motifOrders_facts
    (of_decide_eq_true (by kernel_rfl)) motifOrders_wrapper
    (fun os started H enc _ => motifOrders_lifted os started H enc)
theorem motifOrders_goes : false = Rows.motifOrdersRow.goesBy Tryz.pinned.checked.prog := (goesAt_none fact_goes _ _).symm
theorem motifOrders_wfText : Rows.motifOrdersRow.wfByText (OpenSpec.ofChange Rows.motifOrdersSpec) = true := by kernel_rfl
theorem motifOrders_stand : ([23, 24].all fun u => !Tryz.prog.wantsStandIn u) = true := by kernel_rfl
theorem motifOrders_holds : Rows.MotifOrdersCardSaid :=
  Claim7.holds_tied_plain_at .later [] [.data, .data, .data, .data, .sentinel, .sentinel, .pinned] true (true, "ba7069e71abb1c892517ba5f93fabb029ec9dc4e1feff656df06738ef640ec5c") true motifOrders_row (fun _ h => by cases h) motifOrders_wfText (fun _ h => by cases h) motifOrders_row_tie rfl ⟨rfl, rfl⟩ fact_main rfl
    (fun f fn hf hfn => by
      obtain rfl : f = 3 := Option.some.inj (motifOrders_found.symm.trans hf) |>.symm
      obtain rfl : fn = Tryz.f3 := (Option.some.inj (Tryz.func3.symm.trans hfn)).symm
      exact ⟨fact_looks, fun j t ht => by
        rw [Tryz.params3] at ht
        have hm : t ∈ [23, 24] := by simpa using Array.mem_of_getElem? ht
        exact (show Tryz.prog.wantsStandIn t = false by simpa using List.all_eq_true.1 motifOrders_stand t hm)⟩)
    motifOrders_goes

end Go.Proofs.YtimahogkcmmcnaaGreatDoor
