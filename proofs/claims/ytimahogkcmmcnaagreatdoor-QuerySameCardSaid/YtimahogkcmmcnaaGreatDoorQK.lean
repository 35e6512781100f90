/-
  QuerySame: at every input the law returns true, and the arguments read as they did. Conditions: the listed variables of Go's library hold what the program's text lays.
-/
import Derived.Test.YtimahogkcmmcnaaGreatDoorRows
import Derived.Test.YtimahogkcmmcnaaGreatDoorCards
import Derived.Test.YtimahogkcmmcnaaGreatDoorTie
import Derived.Test.YtimahogkcmmcnaaGreatDoorQ9
import Derived.Test.YtimahogkcmmcnaaGreatDoorQJ
import Derived.ProofKit
import Derived.OpenShut
import Derived.LaidMore
import Derived.Lay
import Derived.SevenTiedAt
import Derived.HandedShaped
import Derived.Shelf.Vars
import Derived.Stop.Joined
set_option linter.unusedSimpArgs false
set_option linter.unusedVariables false
namespace Go.Proofs.YtimahogkcmmcnaaGreatDoor
open Go.ChangeShapes Go.WideShapes Go.ChangeAt Go.RowKit

theorem Tryz.own : ownKnob Tryz.prog.godebug = none := by kernel_rfl
theorem Tryz.laidOut : laidOutB Tryz.prog = true := fact_laidout

/-- The wrap, the world's shape and the listed variables both kept. -/
theorem handed_both {H : Type} {enc : TypeId × Value → H} {a : Assume} {C : Checked} {os : Os} {f : FuncId} {fn : Func} {s : ChangeSpec} {conds : List PathCond} {apart fresh handsOn again : Bool} {X : World → Array Value → Prop}
    (hX : ∀ (w w' : World) (args : Array Value), w.heap = w'.heap → X w args → X w' args)
    (own : ownKnob C.prog.godebug = none) (started : os.Started) (noInit : C.prog.inits.idxOf? f = none) (hfn : C.prog.funcs[f]? = some fn)
    (witness : ∃ (w : World) (tape : Tape) (i : Input), w.os = os ∧ (w.forCall tape i).Shaped C.prog ∧ i.vars = [] ∧ Input.okWide C.prog (w.forCall tape i) .any w.heap.size f i ∧
      ((s.pre enc C.prog fn conds apart (w.forCall tape i).memory i.args ∧ X (w.forCall tape i).memory i.args) ∧ sizedMet enc C.prog fn (OpenSpec.ofChange s) apart (w.forCall tape i).memory i.args) ∧ a.holds C.prog (lone (Frame.enter C.prog f i.args .normal) [] (w.forCall tape i)))
    (contract : ∀ (W : World) (base : Nat) (args : Array Value) (ds gs : List (DataW H)) (before : List MemPlace),
      (∀ (j : Nat) t v, fn.params[j]? = some t → args[j]? = some v → Value.okWide C.prog W .any base t v) →
      DataW.Whole enc C.prog fn.params.toList s.vars apart W args.toList ds gs before →
      conds.all (PathCond.test C.prog ⟨fn.params.toList, ds, s.plain.varTypes C.prog, gs⟩) = true →
      W.ShapedOpen C.prog → X W args →
      Calls C.prog f args W fun e W' => ∃ v, e = .returned v ∧ s.post enc C.prog fn apart fresh handsOn again W args v W') :
    ReturnsInHanded a C os f .any (fun w args => (s.pre enc C.prog fn conds apart w args ∧ X w args) ∧ sizedMet enc C.prog fn (OpenSpec.ofChange s) apart w args) (s.post enc C.prog fn apart fresh handsOn again) := by
  refine returnsInHanded_of_calls own started noInit witness ?_
  intro w tape i _ hsh _ hok hpre hholds
  obtain ⟨_, _, _, fn', hfn', _, _, _, _, hval⟩ := hok
  have e : fn' = fn := Option.some.inj (hfn'.symm.trans hfn)
  subst e
  obtain ⟨⟨⟨ds, gs, before, hw, hc⟩, hx⟩, hz⟩ := hpre
  have hw' := DataW.Whole.of_heap (w' := w.forCall tape i) (by rfl) hw
  refine (contract (w.forCall tape i) w.heap.size i.args ds gs before hval hw' hc hsh (hX _ _ _ (by rfl) hx)).mono fun e W' ⟨v, he, hp⟩ => ?_
  subst he
  exact ChangeSpec.post_blind hp

/-- The library's own number lies in its place. -/
theorem row_of_shaped {w : World} (h : w.ShapedOpen Tryz.prog) : ∃ m e f1 f2, w.heap[1]? = some (.cells #[.int .i64 m] e (f1, f2)) := by
  obtain ⟨m, hm⟩ := cell_of_shapedOpen_int (P := Tryz.prog) (g := 1) (t := 3) (zero := #[.int .i64 0]) h (of_decide_eq_true (by kernel_rfl)) (by kernel_rfl) rfl (by kernel_rfl) (by kernel_rfl) Tryz.underlying3
  obtain ⟨cs, hh, hs, _⟩ := h.1 1 #[.int .i64 0] 3 (of_decide_eq_true (by kernel_rfl)) (by kernel_rfl)
  have h1 : cs.size = 1 := hs
  have hc : cs[0]? = some (.int .i64 m) := by simpa [World.cell?, hh] using hm
  have : cs = #[.int .i64 m] := by
    apply Array.ext (by simp [h1])
    intro i hi hj
    have : i = 0 := by omega
    subst this
    rw [Array.getElem?_eq_getElem (by omega)] at hc
    simpa using Option.some.inj hc
  subst this
  exact ⟨m, _, _, _, hh⟩

set_option maxRecDepth 100000 in
theorem querySame_lifted (os : Os) (started : os.Started) (H : Type) (enc : TypeId × Value → H) :
    ReturnsInHanded {} Tryz.checked os 7 .any (fun w args => (Rows.querySameSpec.pre enc Tryz.prog Tryz.f7 Rows.querySameRow.domain false w args ∧ laidMetH Tryz.prog Rows.querySameRow.laid w) ∧ sizedMet enc Tryz.prog Tryz.f7 (OpenSpec.ofChange Rows.querySameSpec) false w args)
      (Rows.querySameSpec.post enc Tryz.prog Tryz.f7 false true false false) := by
  refine handed_both (C := Tryz.checked) (X := fun w _ => laidMetH Tryz.prog Rows.querySameRow.laid w) (fun _ _ _ hh h => h.of_heap hh) Tryz.own started (by kernel_rfl) Tryz.func7
    (ChangeSpec.witness_shaped (enc := enc) (C := Tryz.checked) (os := os) (X := fun w _ => laidMetH Tryz.prog Rows.querySameRow.laid w) false (World.laidAll Tryz.prog os Rows.querySameRow.laid) #[.slice none 0 0, .slice none 0 0] 8 (World.laidAll_os _ _ _)
      (World.shaped_of_ZipB (by kernel_rfl) (by kernel_rfl)) (by kernel_rfl) (by kernel_rfl) (by kernel_rfl)
      (by rw [MakeChecks.laidMetH_plain _ _ _ (by kernel_rfl)]; exact laidMet_laidAll _ (by kernel_rfl) (by kernel_rfl))) ?_
  intro W base args ds gs before hval0 hW hcnd hsh _
  obtain ⟨m1, e1, f1, f2, hw1⟩ := row_of_shaped hsh
  have hval : ∀ (j : Nat) t v, Tryz.f7.params[j]? = some t → args[j]? = some v → Value.okWide Tryz.prog W .any base t v := hval0
  have hW' := hW
  obtain ⟨p, q, hA0, hV, rfl, hfz, hnd⟩ := hW
  have hA : DataW.TrodAll enc Tryz.prog W 0 (fun _ => true) true Tryz.f7.params.toList args.toList ds p := hA0
  rw [Tryz.params7] at hA hval
  obtain ⟨v0, v1, d0, d1, p0, p1, rfl, rfl, rfl, h0, h1⟩ := trodAll_two hA
  obtain ⟨rfl, rfl⟩ := trodVars_none hV
  obtain ⟨sa, sn, sc, rfl⟩ := okWide_slice Tryz.underlying67 (hval 0 67 v0 rfl rfl)
  obtain ⟨ea, en, ec, rfl⟩ := okWide_slice Tryz.underlying67 (hval 1 67 v1 rfl rfl)
  have h0' := h0
  have h1' := h1
  obtain ⟨fuel, hd0⟩ := h0
  obtain ⟨fuel2, hd1⟩ := h1
  obtain ⟨v, s, hcs, hs⟩ := trod_plan hd0
  obtain ⟨ve, l, hcs2, hl⟩ := trod_plan hd1
  have hve : v = .slice sa sn sc := by
    simp only [Value.cells, List.cons.injEq, and_true] at hcs
    exact hcs.symm
  have hvp : ve = .slice ea en ec := by
    simp only [Value.cells, List.cons.injEq, and_true] at hcs2
    exact hcs2.symm
  subst hve hvp
  have hlt : ∀ y ∈ p0 ++ p1, y.block < W.heap.size := fun y hy => hW'.lt y (List.mem_append_left _ hy)
  refine (f7_any Tryz.checked.mixed W _ _ s l hs hl hw1).mono fun x W' ⟨he, hB⟩ => ?_
  subst he
  have g0 := Below.trod Tryz.laidOut (by kernel_rfl) (of_decide_eq_true (by kernel_rfl)) h0' hB (fun y hy => hlt y (List.mem_append_left _ hy))
  have g1 := Below.trod Tryz.laidOut (by kernel_rfl) (of_decide_eq_true (by kernel_rfl)) h1' hB (fun y hy => hlt y (List.mem_append_right _ hy))
  refine ⟨_, rfl, _, _, _, [], p0 ++ p1, [], hW', ?_, ?_, ?_, hB.frame _, fun h => by cases h⟩
  · exact trodAll_mk1 (shut_bool Tryz.underlying4 true)
  · exact trodAll_mk2 g0 g1
  · rfl

theorem querySame_wf : Rows.querySameRow.wf (OpenSpec.ofChange Rows.querySameSpec) = true := by kernel_rfl
theorem querySame_params : Tryz.f7.params.all (Tryz.pinned.checked.prog.readableRec ·) = true := by kernel_rfl
theorem querySame_tied : namedTie Tryz.pinned.checked.prog Rows.querySameRow.named Rows.querySameSpec.vars = true := by kernel_rfl
theorem querySame_inPlace : (Rows.querySameRow.inPlace == Tryz.pinned.checked.prog.inPlace 7) = true := by kernel_rfl
theorem querySame_unfollowed : (Rows.querySameRow.unfollowed == Tryz.pinned.checked.prog.unfollowed 7) = true := by kernel_rfl
theorem querySame_recurses : (Rows.querySameRow.recurses == Tryz.pinned.checked.prog.recurses 7) = true := by kernel_rfl
theorem querySame_varsNamed : (Rows.querySameRow.named == Tryz.pinned.checked.prog.varsNamed 7) = true := by kernel_rfl
theorem querySame_found : Tryz.pinned.checked.prog.funcNamed Rows.querySameRow.func = some 7 := by kernel_rfl
theorem querySame_wrapper : Tryz.f7.isWrapper Tryz.pinned.checked.prog Rows.querySameRow.wrapper Rows.querySameRow.mainSum := by
  unfold Func.isWrapper; first | (rw [if_pos (by decide +kernel)]; kernel_rfl) | (rw [if_neg (by decide +kernel)]; exact ⟨rfl, rfl⟩)
theorem querySame_maps : (Rows.querySameRow.maps == (Tryz.f7.params.toList ++ Rows.querySameSpec.plain.varTypes Tryz.pinned.checked.prog).any (Tryz.pinned.checked.prog.mapsRec ·)) = true := by kernel_rfl
theorem querySame_ifaces : (Rows.querySameRow.ifaces == (Tryz.f7.params.toList ++ Rows.querySameSpec.plain.varTypes Tryz.pinned.checked.prog).any (Tryz.pinned.checked.prog.ifacesRec ·)) = true := by kernel_rfl
theorem querySame_mapsOut : (Rows.querySameRow.mapsOut == Tryz.pinned.checked.prog.mapsAmong Tryz.f7.resultTypes.toList) = true := by kernel_rfl
theorem querySame_loops : (Rows.querySameRow.loops == (Tryz.f7.params.toList ++ Rows.querySameSpec.plain.varTypes Tryz.pinned.checked.prog).any (Tryz.pinned.checked.prog.loopsFrom ·)) = true := by kernel_rfl
theorem querySame_wideKeys : (Rows.querySameRow.wideKeys == (Tryz.f7.params.toList ++ Rows.querySameSpec.plain.varTypes Tryz.pinned.checked.prog ++ Tryz.f7.resultTypes.toList).any (Tryz.pinned.checked.prog.wideKeysFrom ·)) = true := by kernel_rfl
theorem querySame_vars : Rows.querySameSpec.vars.all (Tryz.pinned.checked.prog.varReadable ·) = true := by kernel_rfl
theorem querySame_results : Tryz.f7.resultTypes.all (fun t => Tryz.pinned.checked.prog.readableRec t && decide (t < Tryz.pinned.checked.prog.types.size)) = true := by kernel_rfl
theorem querySame_ifacesOut : (Rows.querySameRow.ifacesOut == Tryz.f7.resultTypes.toList.any (Tryz.pinned.checked.prog.ifacesRec ·)) = true := by kernel_rfl
theorem querySame_loopsOut : (Rows.querySameRow.loopsOut == Tryz.f7.resultTypes.toList.any (Tryz.pinned.checked.prog.loopsFrom ·)) = true := by kernel_rfl
theorem querySame_make : (Tryz.pinned.checked.prog.make == some Rows.querySameRow.make) = true := by kernel_rfl
theorem querySame_pinnedBy : (Rows.querySameRow.pinned == Rows.querySameRow.pinnedBy) = true := by kernel_rfl
theorem querySame_veiled : (Rows.querySameRow.veiled == (Tryz.f7.params.toList ++ Rows.querySameSpec.plain.varTypes Tryz.pinned.checked.prog ++ Tryz.f7.resultTypes.toList).any (Tryz.pinned.checked.prog.veiledRec ·)) = true := by kernel_rfl
theorem querySame_fits : Rows.querySameRow.veiledFits Tryz.pinned.checked.prog Tryz.f7.params.toList (Tryz.f7.params.toList ++ Rows.querySameSpec.plain.varTypes Tryz.pinned.checked.prog ++ Tryz.f7.resultTypes.toList) = true := by kernel_rfl
theorem querySame_stops : (Rows.querySameRow.stops == []) = true := by kernel_rfl
theorem querySame_stopsP : (Tryz.pinned.checked.prog.stops == []) = true := beq_iff_eq.2 fact_stops
theorem querySame_knobs : (Rows.querySameRow.knobs == []) = true := by kernel_rfl
theorem querySame_knobsP : (Tryz.pinned.checked.prog.stopKnobs == []) = true := beq_iff_eq.2 fact_knobs
theorem querySame_plainKeys : (Rows.querySameRow.plainKeys == Tryz.pinned.checked.prog.plainKeys) = true := beq_iff_eq.2 (Eq.trans (by kernel_rfl) fact_plain.symm)
theorem querySame_short : Rows.querySameRow.shortTexts.isNone = true := by kernel_rfl
theorem querySame_liftedF : (Rows.querySameRow.lifted == Tryz.pinned.checked.prog.liftsFinal) = true := beq_iff_eq.2 (Eq.trans (by kernel_rfl) fact_lifts.symm)
theorem querySame_facts : joinedFacts Tryz.pinned.checked.prog 7 Tryz.f7 Rows.querySameSpec Rows.querySameRow = true := by
  unfold joinedFacts
  simp only [Bool.and_eq_true]
  exact ⟨⟨⟨⟨⟨⟨⟨⟨⟨⟨⟨⟨⟨⟨⟨⟨⟨⟨⟨⟨⟨⟨⟨⟨⟨⟨⟨⟨⟨⟨⟨querySame_wf, fact_laidout⟩, fact_mapsrowed⟩, querySame_params⟩, querySame_tied⟩, querySame_stops⟩, querySame_stopsP⟩, querySame_knobs⟩, querySame_knobsP⟩, querySame_inPlace⟩, querySame_unfollowed⟩, querySame_recurses⟩, querySame_varsNamed⟩, querySame_maps⟩, querySame_ifaces⟩, querySame_mapsOut⟩, querySame_loops⟩, querySame_wideKeys⟩, querySame_vars⟩, querySame_results⟩, querySame_ifacesOut⟩, querySame_loopsOut⟩, querySame_plainKeys⟩, querySame_short⟩, fact_heard⟩, fact_may⟩, querySame_liftedF⟩, querySame_make⟩, (by kernel_rfl)⟩, querySame_pinnedBy⟩, querySame_veiled⟩, querySame_fits⟩
theorem querySame_row : Rows.QuerySameSaid :=
  OpenClaim.holds_of_wide 7 Tryz.f7 rfl rfl rfl rfl rfl rfl rfl ⟨rfl, rfl, rfl, rfl, rfl⟩ rfl rfl rfl rfl rfl querySame_found Tryz.func7 querySame_facts
    (of_decide_eq_true (by kernel_rfl)) querySame_wrapper
    (fun os started H enc _ => querySame_lifted os started H enc)
theorem querySame_goes : false = Rows.querySameRow.goesBy Tryz.pinned.checked.prog := (goesAt_none fact_goes _ _).symm
theorem querySame_wfText : Rows.querySameRow.wfByText (OpenSpec.ofChange Rows.querySameSpec) = true := by kernel_rfl
theorem querySame_stand : ([67, 67].all fun u => !Tryz.prog.wantsStandIn u) = true := by kernel_rfl
theorem querySame_holds : Rows.QuerySameCardSaid :=
  Claim7.holds_tied_plain_at .later [] [.data, .data, .data, .data, .sentinel, .sentinel, .pinned] true (true, "ba7069e71abb1c892517ba5f93fabb029ec9dc4e1feff656df06738ef640ec5c") true querySame_row (fun _ h => by cases h) querySame_wfText (fun _ h => by cases h) querySame_row_tie rfl ⟨rfl, rfl⟩ fact_main rfl
    (fun f fn hf hfn => by
      obtain rfl : f = 7 := Option.some.inj (querySame_found.symm.trans hf) |>.symm
      obtain rfl : fn = Tryz.f7 := (Option.some.inj (Tryz.func7.symm.trans hfn)).symm
      exact ⟨fact_looks, fun j t ht => by
        rw [Tryz.params7] at ht
        have hm : t ∈ [67, 67] := by simpa using Array.mem_of_getElem? ht
        exact (show Tryz.prog.wantsStandIn t = false by simpa using List.all_eq_true.1 querySame_stand t hm)⟩)
    querySame_goes

end Go.Proofs.YtimahogkcmmcnaaGreatDoor
