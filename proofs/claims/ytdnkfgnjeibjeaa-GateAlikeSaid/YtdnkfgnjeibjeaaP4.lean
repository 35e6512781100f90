/- GateAlike: at every number and list of acts the law returns true, and the arguments read as they did. Conditions: none. -/
import Derived.Test.YtdnkfgnjeibjeaaRows
import Derived.Test.YtdnkfgnjeibjeaaP3
import Derived.Test.YtdnkfgnjeibjeaaP5
import Derived.Test.YtdnkfgnjeibjeaaN8
namespace Go.Proofs.Ytdnkfgnjeibjeaa
open Go.ChangeShapes Go.WideShapes Go.ChangeAt Go.RowKit

theorem f3_any (w : World) (n : Int) (v : Value) (l : List ActV) (D : Nat → Prop) (h : ActsAt w D v l) :
    Calls Try.prog 3 #[.int .i64 n, v] w fun e w' => e = .returned (.bool true) ∧ Below w.heap.size w w' := by
  by_cases hc : manyA l = true ∨ n < 1 ∨ 200 < n
  · exact f3_early w n v l D h hc
  · obtain ⟨k, rfl⟩ : ∃ k : Nat, n = k := ⟨n.toNat, by omega⟩
    have hm : manyA l = false := by
      cases hx : manyA l
      · rfl
      · exact absurd (.inl hx) hc
    exact f3_main w k v l D h hm (by omega) (by omega)

set_option maxRecDepth 100000 in
theorem gateAlike_lifted (os : Os) (started : os.Started) (H : Type) (enc : TypeId × Value → H) :
    ReturnsInHanded {} Try.checked os 3 .any (Rows.gateAlikeSpec.pre6 enc Try.prog Try.f3 Rows.gateAlikeRow.domain false) (Rows.gateAlikeSpec.post enc Try.prog Try.f3 false true false false) := by
  refine returnsInHanded_of_change (C := Try.checked) Try.own started (by kernel_rfl) Try.func3
    (ChangeSpec.witness6 (enc := enc) (C := Try.checked) false ⟨#[], #[.int .i64 0, .slice none 0 0], []⟩ 8 (by kernel_rfl) (by kernel_rfl) (by kernel_rfl) (by kernel_rfl)) ?_
  intro W base args ds gs before hval0 hW hcnd _
  have hval : ∀ (j : Nat) t v, Try.f3.params[j]? = some t → args[j]? = some v → Value.okWide Try.prog W .any base t v := hval0
  have hW' := hW
  obtain ⟨p, q, hA0, hV, rfl, hfz, hnd⟩ := hW
  have hA : DataW.TrodAll enc Try.prog W 0 (fun _ => true) true Try.f3.params.toList args.toList ds p := hA0
  rw [Try.params3] at hA hval
  obtain ⟨v0, v1, d0, d1, p0, p1, rfl, rfl, rfl, h0, h1⟩ := trodAll_two hA
  obtain ⟨rfl, rfl⟩ := trodVars_none hV
  obtain ⟨n, rfl⟩ := okWide_int Try.underlying3 (hval 0 3 v0 rfl rfl)
  obtain ⟨sa, sl, sc, rfl⟩ := okWide_slice Try.underlying22 (hval 1 22 v1 rfl rfl)
  have h1' := h1
  obtain ⟨fuel, hd⟩ := h1
  obtain ⟨v, l, hcs, hacts⟩ := trod_acts hd
  have hve : v = .slice sa sl sc := by
    simp only [Value.cells, List.cons.injEq, and_true] at hcs
    exact hcs.symm
  subst hve
  have hlt : ∀ y ∈ p0 ++ p1, y.block < W.heap.size := fun y hy => hW'.lt y (List.mem_append_left _ hy)
  refine (f3_any W n _ l _ hacts).mono fun x W' ⟨he, hB⟩ => ?_
  subst he
  have g0 := Below.trod Try.laidOut (by kernel_rfl) (of_decide_eq_true (by kernel_rfl)) h0 hB (fun y hy => hlt y (List.mem_append_left _ hy))
  have g1 := Below.trod Try.laidOut (by kernel_rfl) (of_decide_eq_true (by kernel_rfl)) h1' hB (fun y hy => hlt y (List.mem_append_right _ hy))
  refine ⟨_, rfl, _, _, _, [], p0 ++ p1, [], hW', ?_, ?_, ?_, hB.frame _, fun h => by cases h⟩
  · exact trodAll_mk1 (shut_bool Try.underlying4 true)
  · exact trodAll_mk2 g0 g1
  · rfl

theorem gateAlike_holds : Rows.GateAlikeSaid :=
  OpenClaim.holds_of_wide 3 Try.f3 rfl rfl rfl rfl rfl rfl rfl ⟨rfl, rfl, rfl, rfl, rfl⟩ rfl rfl rfl rfl rfl (by kernel_rfl) Try.func3 (by kernel_rfl)
    (of_decide_eq_true (by kernel_rfl)) (by unfold Func.isWrapper; rw [if_neg (by decide +kernel)]; exact ⟨rfl, rfl⟩)
    (fun os started H enc _ => gateAlike_lifted os started H enc)

end Go.Proofs.Ytdnkfgnjeibjeaa
