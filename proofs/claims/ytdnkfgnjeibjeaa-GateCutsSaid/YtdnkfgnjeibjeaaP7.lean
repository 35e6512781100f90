/- GateCuts: at every lists, number and passed elements the law returns true, and the arguments read as they did. Conditions: none. -/
import Derived.Test.YtdnkfgnjeibjeaaRows
import Derived.Test.YtdnkfgnjeibjeaaMP
import Derived.Test.YtdnkfgnjeibjeaaP6
import Derived.Test.YtdnkfgnjeibjeaaC16
namespace Go.Proofs.Ytdnkfgnjeibjeaa
open Go.ChangeShapes Go.WideShapes Go.ChangeAt Go.RowKit

set_option maxRecDepth 100000 in
theorem gateCuts_lifted (os : Os) (started : os.Started) (H : Type) (enc : TypeId × Value → H) :
    ReturnsInHanded {} Try.checked os 9 .any (Rows.gateCutsSpec.pre6 enc Try.prog Try.f9 Rows.gateCutsRow.domain false) (Rows.gateCutsSpec.post enc Try.prog Try.f9 false true false false) := by
  refine returnsInHanded_of_change (C := Try.checked) Try.own started (by kernel_rfl) Try.func9
    (ChangeSpec.witness6 (enc := enc) (C := Try.checked) false ⟨#[], #[.slice none 0 0, .int .i64 0, .slice none 0 0], []⟩ 8 (by kernel_rfl) (by kernel_rfl) (by kernel_rfl) (by kernel_rfl)) ?_
  intro W base args ds gs before hval0 hW hcnd _
  have hval : ∀ (j : Nat) t v, Try.f9.params[j]? = some t → args[j]? = some v → Value.okWide Try.prog W .any base t v := hval0
  have hW' := hW
  obtain ⟨p, q, hA0, hV, rfl, hfz, hnd⟩ := hW
  have hA : DataW.TrodAll enc Try.prog W 0 (fun _ => true) true Try.f9.params.toList args.toList ds p := hA0
  rw [Try.params9] at hA hval
  obtain ⟨v0, v1, v2, d0, d1, d2, p0, p1, p2, rfl, rfl, rfl, h0, h1, h2⟩ := trodAll_three hA
  obtain ⟨rfl, rfl⟩ := trodVars_none hV
  obtain ⟨la, ln, lc, rfl⟩ := okWide_slice Try.underlying47 (hval 0 47 v0 rfl rfl)
  obtain ⟨k, rfl⟩ := okWide_int Try.underlying3 (hval 1 3 v1 rfl rfl)
  obtain ⟨pa, pn, pc, rfl⟩ := okWide_slice Try.underlying41 (hval 2 41 v2 rfl rfl)
  have h0' := h0
  have h2' := h2
  obtain ⟨fuel, hd0⟩ := h0
  obtain ⟨fuel2, hd2⟩ := h2
  obtain ⟨v, ll, hcs, hll⟩ := trod_lists hd0
  obtain ⟨vp, l, hcs2, hl⟩ := trod_outs hd2
  have hve : v = .slice la ln lc := by
    simp only [Value.cells, List.cons.injEq, and_true] at hcs
    exact hcs.symm
  have hvp : vp = .slice pa pn pc := by
    simp only [Value.cells, List.cons.injEq, and_true] at hcs2
    exact hcs2.symm
  subst hve hvp
  have hlt : ∀ y ∈ p0 ++ p1 ++ p2, y.block < W.heap.size := fun y hy => hW'.lt y (List.mem_append_left _ hy)
  refine (f9_any W _ _ ll k l _ _ hll (fun b hb => hb) hl (fun b hb => hb)).mono fun x W' ⟨he, hB⟩ => ?_
  subst he
  have g0 := Below.trod Try.laidOut (by kernel_rfl) (of_decide_eq_true (by kernel_rfl)) h0' hB (fun y hy => hlt y (List.mem_append_left _ (List.mem_append_left _ hy)))
  have g1 := Below.trod Try.laidOut (by kernel_rfl) (of_decide_eq_true (by kernel_rfl)) h1 hB (fun y hy => hlt y (List.mem_append_left _ (List.mem_append_right _ hy)))
  have g2 := Below.trod Try.laidOut (by kernel_rfl) (of_decide_eq_true (by kernel_rfl)) h2' hB (fun y hy => hlt y (List.mem_append_right _ hy))
  refine ⟨_, rfl, _, _, _, [], p0 ++ (p1 ++ p2), [], hW', ?_, ?_, ?_, hB.frame _, fun h => by cases h⟩
  · exact trodAll_mk1 (shut_bool Try.underlying4 true)
  · exact trodAll_mk3 g0 g1 g2
  · rfl

theorem gateCuts_holds : Rows.GateCutsSaid :=
  OpenClaim.holds_of_wide 9 Try.f9 rfl rfl rfl rfl rfl rfl rfl ⟨rfl, rfl, rfl, rfl, rfl⟩ rfl rfl rfl rfl rfl (by kernel_rfl) Try.func9 (by kernel_rfl)
    (of_decide_eq_true (by kernel_rfl)) (by unfold Func.isWrapper; rw [if_neg (by decide +kernel)]; exact ⟨rfl, rfl⟩)
    (fun os started H enc _ => gateCuts_lifted os started H enc)

end Go.Proofs.Ytdnkfgnjeibjeaa
