/- GateNothing: at every Act the law returns true, and the argument reads as it did. Conditions: none. -/
import Derived.Test.YtdnkfgnjeibjeaaRows
import Derived.Test.YtdnkfgnjeibjeaaP1
import Derived.Test.YtdnkfgnjeibjeaaN1
namespace Go.Proofs.Ytdnkfgnjeibjeaa
open Go.ChangeShapes Go.WideShapes Go.ChangeAt Go.RowKit

theorem Try.own : ownKnob Try.prog.godebug = none := by kernel_rfl
theorem Try.laidOut : laidOutB Try.prog = true := by kernel_rfl

set_option maxRecDepth 100000 in
theorem gateNothing_lifted (os : Os) (started : os.Started) (H : Type) (enc : TypeId × Value → H) :
    ReturnsInHanded {} Try.checked os 7 .any (Rows.gateNothingSpec.pre6 enc Try.prog Try.f7 Rows.gateNothingRow.domain false) (Rows.gateNothingSpec.post enc Try.prog Try.f7 false true false false) := by
  refine returnsInHanded_of_change (C := Try.checked) Try.own started (by kernel_rfl) Try.func7
    (ChangeSpec.witness6 (enc := enc) (C := Try.checked) false ⟨#[], #[.agg #[.int .u8 0, .int .i64 0, .int .i64 0, .int .i64 0, .int .i64 0, .slice none 0 0, .int .i64 0]], []⟩ 8 (by kernel_rfl) (by kernel_rfl) (by kernel_rfl) (by kernel_rfl)) ?_
  intro W base args ds gs before hval0 hW hcnd _
  have hval : ∀ (j : Nat) t v, Try.f7.params[j]? = some t → args[j]? = some v → Value.okWide Try.prog W .any base t v := hval0
  have hW' := hW
  obtain ⟨p, q, hA0, hV, rfl, hfz, hnd⟩ := hW
  have hA : DataW.TrodAll enc Try.prog W 0 (fun _ => true) true Try.f7.params.toList args.toList ds p := hA0
  rw [Try.params7] at hA hval
  obtain ⟨v0, d0, rfl, rfl, h0⟩ := trodAll_one hA
  obtain ⟨rfl, rfl⟩ := trodVars_none hV
  obtain ⟨cs, rfl, hcs⟩ := okWide_struct Try.underlying36 (hval 0 36 v0 rfl rfl)
  have h0' := h0
  obtain ⟨fuel, hd⟩ := h0
  obtain ⟨kd, i, e, r, hcs2, hr⟩ := trod_act hd
  have hce : cs = #[.int .u8 kd, .int .i64 i, .int .i64 e.k, .int .i64 e.n, .int .i64 e.t, r, .int .i64 e.c] := by
    apply Array.toList_inj.1
    simpa [Value.cells] using hcs2
  subst hce
  have hlt : ∀ y ∈ p, y.block < W.heap.size := fun y hy => hW'.lt y (List.mem_append_left _ hy)
  refine (f7_any W kd i e r _ hr).mono fun x W' ⟨he, hB⟩ => ?_
  subst he
  have h1 := Below.trod Try.laidOut (by kernel_rfl) (of_decide_eq_true (by kernel_rfl)) h0' hB hlt
  refine ⟨_, rfl, _, _, _, [], p, [], hW', ?_, ?_, ?_, hB.frame _, fun h => by cases h⟩
  · exact trodAll_mk1 (shut_bool Try.underlying4 true)
  · exact trodAll_mk1 h1
  · rfl

theorem gateNothing_holds : Rows.GateNothingSaid :=
  OpenClaim.holds_of_wide 7 Try.f7 rfl rfl rfl rfl rfl rfl rfl ⟨rfl, rfl, rfl, rfl, rfl⟩ rfl rfl rfl rfl rfl (by kernel_rfl) Try.func7 (by kernel_rfl)
    (of_decide_eq_true (by kernel_rfl)) (by unfold Func.isWrapper; rw [if_neg (by decide +kernel)]; exact ⟨rfl, rfl⟩)
    (fun os started H enc _ => gateNothing_lifted os started H enc)

end Go.Proofs.Ytdnkfgnjeibjeaa
