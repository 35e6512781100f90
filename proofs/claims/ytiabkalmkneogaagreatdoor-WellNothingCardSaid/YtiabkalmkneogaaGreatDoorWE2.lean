/-
  WellNothing: at every act the law returns true, and the argument reads as it did. Conditions: the listed variables of Go's library hold what the program's text lays.
-/
import Derived.Test.YtiabkalmkneogaaGreatDoorRows
import Derived.Test.YtiabkalmkneogaaGreatDoorCards
import Derived.Test.YtiabkalmkneogaaGreatDoorTie
import Derived.Test.YtiabkalmkneogaaGreatDoorWD
import Derived.Test.YtiabkalmkneogaaGreatDoorWE1
import Derived.ProofKit
import Derived.OpenShut
import Derived.LaidMore
import Derived.Lay
import Derived.SevenTiedAt
import Derived.Stop.Joined
namespace Go.Proofs.YtiabkalmkneogaaGreatDoor
open Go.ChangeShapes Go.WideShapes Go.ChangeAt Go.RowKit

theorem Tryz.own : ownKnob Tryz.prog.godebug = none := by kernel_rfl
theorem Tryz.laidOut : laidOutB Tryz.prog = true := by kernel_rfl

set_option maxRecDepth 100000 in
theorem wellNothing_lifted (os : Os) (started : os.Started) (H : Type) (enc : TypeId × Value → H) :
    ReturnsInHanded {} Tryz.checked os 4 .any (fun w args => (Rows.wellNothingSpec.pre enc Tryz.prog Tryz.f4 Rows.wellNothingRow.domain false w args ∧ laidMetH Tryz.prog Rows.wellNothingRow.laid w) ∧ sizedMet enc Tryz.prog Tryz.f4 (OpenSpec.ofChange Rows.wellNothingSpec) false w args)
      (Rows.wellNothingSpec.post enc Tryz.prog Tryz.f4 false true false false) := by
  refine returnsInHanded_of_change_and (C := Tryz.checked) (X := fun w _ => laidMetH Tryz.prog Rows.wellNothingRow.laid w) (fun _ _ _ hh h => h.of_heap hh) Tryz.own started (by kernel_rfl) Tryz.func4
    (ChangeSpec.witness_shaped (enc := enc) (C := Tryz.checked) (os := os) (X := fun w _ => laidMetH Tryz.prog Rows.wellNothingRow.laid w) false (World.laidAll Tryz.prog os Rows.wellNothingRow.laid) #[.agg #[.int .u8 0, .int .i64 0, .string ByteArray.empty, .slice none 0 0]] 8 (World.laidAll_os _ _ _)
      (World.shaped_of_ZipB (by kernel_rfl) (by kernel_rfl)) (by kernel_rfl) (by kernel_rfl) (by kernel_rfl)
      (by rw [MakeChecks.laidMetH_plain _ _ _ (by kernel_rfl)]; exact laidMet_laidAll _ (by kernel_rfl) (by kernel_rfl))) ?_
  intro W base args ds gs before hval0 hW hcnd _ hL _
  have hval : ∀ (j : Nat) t v, Tryz.f4.params[j]? = some t → args[j]? = some v → Value.okWide Tryz.prog W .any base t v := hval0
  have hW' := hW
  obtain ⟨p, q, hA0, hV, rfl, hfz, hnd⟩ := hW
  have hA : DataW.TrodAll enc Tryz.prog W 0 (fun _ => true) true Tryz.f4.params.toList args.toList ds p := hA0
  rw [Tryz.params4] at hA hval
  obtain ⟨v0, d0, rfl, rfl, h0⟩ := trodAll_one hA
  obtain ⟨rfl, rfl⟩ := trodVars_none hV
  obtain ⟨cs, rfl, hcs⟩ := okWide_struct Tryz.underlying41 (hval 0 41 v0 rfl rfl)
  have h0' := h0
  obtain ⟨fuel, hd⟩ := h0
  obtain ⟨kd, r, nm, ea, en, ec, hcs2, hr⟩ := trod_act hd
  have hce : cs = #[.int .u8 kd, .int .i64 r, .string nm, .slice ea en ec] := by
    apply Array.toList_inj.1
    simpa [Value.cells] using hcs2
  subst hce
  have hlt : ∀ y ∈ p, y.block < W.heap.size := fun y hy => hW'.lt y (List.mem_append_left _ hy)
  refine (f4_any W kd r nm ea en ec hr).mono fun x W' ⟨he, hB⟩ => ?_
  subst he
  have h1 := Below.trod Tryz.laidOut (by kernel_rfl) (of_decide_eq_true (by kernel_rfl)) h0' hB hlt
  refine ⟨_, rfl, _, _, _, [], p, [], hW', ?_, ?_, ?_, hB.frame _, fun h => by cases h⟩
  · exact trodAll_mk1 (shut_bool Tryz.underlying4 true)
  · exact trodAll_mk1 h1
  · rfl

theorem wellNothing_wf : Rows.wellNothingRow.wf (OpenSpec.ofChange Rows.wellNothingSpec) = true := by kernel_rfl
theorem wellNothing_params : Tryz.f4.params.all (Tryz.pinned.checked.prog.readableRec ·) = true := by kernel_rfl
theorem wellNothing_tied : namedTie Tryz.pinned.checked.prog Rows.wellNothingRow.named Rows.wellNothingSpec.vars = true := by kernel_rfl
theorem wellNothing_inPlace : (Rows.wellNothingRow.inPlace == Tryz.pinned.checked.prog.inPlace 4) = true := by kernel_rfl
theorem wellNothing_unfollowed : (Rows.wellNothingRow.unfollowed == Tryz.pinned.checked.prog.unfollowed 4) = true := by kernel_rfl
theorem wellNothing_recurses : (Rows.wellNothingRow.recurses == Tryz.pinned.checked.prog.recurses 4) = true := by kernel_rfl
theorem wellNothing_varsNamed : (Rows.wellNothingRow.named == Tryz.pinned.checked.prog.varsNamed 4) = true := by kernel_rfl
theorem wellNothing_found : Tryz.pinned.checked.prog.funcNamed Rows.wellNothingRow.func = some 4 := by kernel_rfl
theorem wellNothing_wrapper : Tryz.f4.isWrapper Tryz.pinned.checked.prog Rows.wellNothingRow.wrapper Rows.wellNothingRow.mainSum := by
  unfold Func.isWrapper; first | (rw [if_pos (by decide +kernel)]; kernel_rfl) | (rw [if_neg (by decide +kernel)]; exact ⟨rfl, rfl⟩)
theorem wellNothing_maps : (Rows.wellNothingRow.maps == (Tryz.f4.params.toList ++ Rows.wellNothingSpec.plain.varTypes Tryz.pinned.checked.prog).any (Tryz.pinned.checked.prog.mapsRec ·)) = true := by kernel_rfl
theorem wellNothing_ifaces : (Rows.wellNothingRow.ifaces == (Tryz.f4.params.toList ++ Rows.wellNothingSpec.plain.varTypes Tryz.pinned.checked.prog).any (Tryz.pinned.checked.prog.ifacesRec ·)) = true := by kernel_rfl
theorem wellNothing_mapsOut : (Rows.wellNothingRow.mapsOut == Tryz.pinned.checked.prog.mapsAmong Tryz.f4.resultTypes.toList) = true := by kernel_rfl
theorem wellNothing_loops : (Rows.wellNothingRow.loops == (Tryz.f4.params.toList ++ Rows.wellNothingSpec.plain.varTypes Tryz.pinned.checked.prog).any (Tryz.pinned.checked.prog.loopsFrom ·)) = true := by kernel_rfl
theorem wellNothing_wideKeys : (Rows.wellNothingRow.wideKeys == (Tryz.f4.params.toList ++ Rows.wellNothingSpec.plain.varTypes Tryz.pinned.checked.prog ++ Tryz.f4.resultTypes.toList).any (Tryz.pinned.checked.prog.wideKeysFrom ·)) = true := by kernel_rfl
theorem wellNothing_vars : Rows.wellNothingSpec.vars.all (Tryz.pinned.checked.prog.varReadable ·) = true := by kernel_rfl
theorem wellNothing_results : Tryz.f4.resultTypes.all (fun t => Tryz.pinned.checked.prog.readableRec t && decide (t < Tryz.pinned.checked.prog.types.size)) = true := by kernel_rfl
theorem wellNothing_ifacesOut : (Rows.wellNothingRow.ifacesOut == Tryz.f4.resultTypes.toList.any (Tryz.pinned.checked.prog.ifacesRec ·)) = true := by kernel_rfl
theorem wellNothing_loopsOut : (Rows.wellNothingRow.loopsOut == Tryz.f4.resultTypes.toList.any (Tryz.pinned.checked.prog.loopsFrom ·)) = true := by kernel_rfl
theorem wellNothing_make : (Tryz.pinned.checked.prog.make == some Rows.wellNothingRow.make) = true := by kernel_rfl
theorem wellNothing_pinnedBy : (Rows.wellNothingRow.pinned == Rows.wellNothingRow.pinnedBy) = true := by kernel_rfl
theorem wellNothing_veiled : (Rows.wellNothingRow.veiled == (Tryz.f4.params.toList ++ Rows.wellNothingSpec.plain.varTypes Tryz.pinned.checked.prog ++ Tryz.f4.resultTypes.toList).any (Tryz.pinned.checked.prog.veiledRec ·)) = true := by kernel_rfl
theorem wellNothing_fits : Rows.wellNothingRow.veiledFits Tryz.pinned.checked.prog Tryz.f4.params.toList (Tryz.f4.params.toList ++ Rows.wellNothingSpec.plain.varTypes Tryz.pinned.checked.prog ++ Tryz.f4.resultTypes.toList) = true := by kernel_rfl
theorem wellNothing_stops : (Rows.wellNothingRow.stops == []) = true := by kernel_rfl
theorem wellNothing_stopsP : (Tryz.pinned.checked.prog.stops == []) = true := beq_iff_eq.2 fact_stops
theorem wellNothing_knobs : (Rows.wellNothingRow.knobs == []) = true := by kernel_rfl
theorem wellNothing_knobsP : (Tryz.pinned.checked.prog.stopKnobs == []) = true := beq_iff_eq.2 fact_knobs
theorem wellNothing_plainKeys : (Rows.wellNothingRow.plainKeys == Tryz.pinned.checked.prog.plainKeys) = true := beq_iff_eq.2 (Eq.trans (by kernel_rfl) fact_plain.symm)
theorem wellNothing_short : Rows.wellNothingRow.shortTexts.isNone = true := by kernel_rfl
theorem wellNothing_liftedF : (Rows.wellNothingRow.lifted == Tryz.pinned.checked.prog.liftsFinal) = true := beq_iff_eq.2 (Eq.trans (by kernel_rfl) fact_lifts.symm)
theorem wellNothing_facts : joinedFacts Tryz.pinned.checked.prog 4 Tryz.f4 Rows.wellNothingSpec Rows.wellNothingRow = true := by
  unfold joinedFacts
  simp only [Bool.and_eq_true]
  exact ⟨⟨⟨⟨⟨⟨⟨⟨⟨⟨⟨⟨⟨⟨⟨⟨⟨⟨⟨⟨⟨⟨⟨⟨⟨⟨⟨⟨⟨⟨⟨wellNothing_wf, fact_laidout⟩, fact_mapsrowed⟩, wellNothing_params⟩, wellNothing_tied⟩, wellNothing_stops⟩, wellNothing_stopsP⟩, wellNothing_knobs⟩, wellNothing_knobsP⟩, wellNothing_inPlace⟩, wellNothing_unfollowed⟩, wellNothing_recurses⟩, wellNothing_varsNamed⟩, wellNothing_maps⟩, wellNothing_ifaces⟩, wellNothing_mapsOut⟩, wellNothing_loops⟩, wellNothing_wideKeys⟩, wellNothing_vars⟩, wellNothing_results⟩, wellNothing_ifacesOut⟩, wellNothing_loopsOut⟩, wellNothing_plainKeys⟩, wellNothing_short⟩, fact_heard⟩, fact_may⟩, wellNothing_liftedF⟩, wellNothing_make⟩, (by kernel_rfl)⟩, wellNothing_pinnedBy⟩, wellNothing_veiled⟩, wellNothing_fits⟩
theorem wellNothing_row : Rows.WellNothingSaid :=
  OpenClaim.holds_of_wide 4 Tryz.f4 rfl rfl rfl rfl rfl rfl rfl ⟨rfl, rfl, rfl, rfl, rfl⟩ rfl rfl rfl rfl rfl wellNothing_found Tryz.func4 wellNothing_facts
    (of_decide_eq_true (by kernel_rfl)) wellNothing_wrapper
    (fun os started H enc _ => wellNothing_lifted os started H enc)
theorem wellNothing_goes : false = Rows.wellNothingRow.goesBy Tryz.pinned.checked.prog := by kernel_rfl
theorem wellNothing_wfText : Rows.wellNothingRow.wfByText (OpenSpec.ofChange Rows.wellNothingSpec) = true := by kernel_rfl
theorem wellNothing_stand : ([41].all fun u => !Tryz.prog.wantsStandIn u) = true := by kernel_rfl
theorem wellNothing_holds : Rows.WellNothingCardSaid :=
  Claim7.holds_tied_plain_at .later [] [.data, .data, .data, .data, .sentinel, .sentinel, .pinned] true (true, "cf28e94c594faf050c4f339aef1dd091b8fcc0c9bbb653a2dd5215aa584507c0") true wellNothing_row (fun _ h => by cases h) wellNothing_wfText (fun _ h => by cases h) wellNothing_row_tie rfl ⟨rfl, rfl⟩ fact_main rfl
    (fun f fn hf hfn => by
      obtain rfl : f = 4 := Option.some.inj (wellNothing_found.symm.trans hf) |>.symm
      obtain rfl : fn = Tryz.f4 := (Option.some.inj (Tryz.func4.symm.trans hfn)).symm
      exact ⟨fact_looks, fun j t ht => by
        rw [Tryz.params4] at ht
        have hm : t ∈ [41] := by simpa using Array.mem_of_getElem? ht
        exact (show Tryz.prog.wantsStandIn t = false by simpa using List.all_eq_true.1 wellNothing_stand t hm)⟩)
    wellNothing_goes

end Go.Proofs.YtiabkalmkneogaaGreatDoor
