/- GatePasses: at every number, kind and list of acts the law returns true, and the arguments read as they did. Conditions: none. -/
import Derived.Test.YtdnkfgnjeibjeaaRows
import Derived.Test.YtdnkfgnjeibjeaaMP
import Derived.Test.YtdnkfgnjeibjeaaKC
namespace Go.Proofs.Ytdnkfgnjeibjeaa
open Go.RowKit Go.Shelf

section walks
set_option maxHeartbeats 1000000
set_option maxRecDepth 100000

theorem f5_early (w : World) (n : Int) (al : Bool) (v : Value) (l : List ActV) (D : Nat → Prop) (h : ActsAt w D v l) (hc : manyA l = true ∨ n < 1 ∨ 200 < n) :
    Calls Try.prog 5 #[.int .i64 n, .bool al, v] w fun e w' => e = .returned (.bool true) ∧ Below w.heap.size w w' := by
  have hm := fun (W : World) (hb : Below w.heap.size w W) => f11_any W v l D (h.below hb)
  have HM := Lib.hid hm
  obtain ⟨a, c, rfl, _, _⟩ := h
  clear hm
  cases hml : manyA l <;> rw [hml] at HM
  · have hn := hc.resolve_left (by rw [hml]; decide)
    go_enter Try.func5, Try.ntmps5
    go_wp2_with (first
      | (go_at_call 10; refine (f10_any _).mono ?_; rintro e w1 ⟨rfl, hb1⟩; have HB1 := Lib.hid hb1; clear hb1)
      | (go_at_call 11; refine (HM.out _ HB1.out).mono ?_; rintro e w2 ⟨rfl, hb2⟩; have HB2 := Lib.hid (HB1.out.trans (hb2.mono HB1.out.size)); clear hb2)
      | (go_at_call 12; refine (f12_no _ n al hn).mono ?_; rintro e w3 ⟨rfl, rfl⟩))
    go_ret
    exact ⟨rfl, HB2.out⟩
  · go_enter Try.func5, Try.ntmps5
    go_wp2_with (first
      | (go_at_call 10; refine (f10_any _).mono ?_; rintro e w1 ⟨rfl, hb1⟩; have HB1 := Lib.hid hb1; clear hb1)
      | (go_at_call 11; refine (HM.out _ HB1.out).mono ?_; rintro e w2 ⟨rfl, hb2⟩; have HB2 := Lib.hid (HB1.out.trans (hb2.mono HB1.out.size)); clear hb2))
    go_ret
    exact ⟨rfl, HB2.out⟩
end walks
end Go.Proofs.Ytdnkfgnjeibjeaa

namespace Go.Proofs.Ytdnkfgnjeibjeaa
open Go.ChangeShapes Go.WideShapes Go.ChangeAt Go.RowKit

theorem f5_any (w : World) (n : Int) (al : Bool) (v : Value) (l : List ActV) (D : Nat → Prop) (h : ActsAt w D v l) :
    Calls Try.prog 5 #[.int .i64 n, .bool al, v] w fun e w' => e = .returned (.bool true) ∧ Below w.heap.size w w' := by
  by_cases hc : manyA l = true ∨ n < 1 ∨ 200 < n
  · exact f5_early w n al v l D h hc
  · obtain ⟨k, rfl⟩ : ∃ k : Nat, n = k := ⟨n.toNat, by omega⟩
    have hm : manyA l = false := by
      cases hx : manyA l
      · rfl
      · exact absurd (.inl hx) hc
    exact W.f5_main w k al v l D h hm (by omega) (by omega)

set_option maxRecDepth 100000 in
theorem gatePasses_lifted (os : Os) (started : os.Started) (H : Type) (enc : TypeId × Value → H) :
    ReturnsInHanded {} Try.checked os 5 .any (Rows.gatePassesSpec.pre6 enc Try.prog Try.f5 Rows.gatePassesRow.domain false) (Rows.gatePassesSpec.post enc Try.prog Try.f5 false true false false) := by
  refine returnsInHanded_of_change (C := Try.checked) Try.own started (by kernel_rfl) Try.func5
    (ChangeSpec.witness6 (enc := enc) (C := Try.checked) false ⟨#[], #[.int .i64 0, .bool false, .slice none 0 0], []⟩ 8 (by kernel_rfl) (by kernel_rfl) (by kernel_rfl) (by kernel_rfl)) ?_
  intro W base args ds gs before hval0 hW hcnd _
  have hval : ∀ (j : Nat) t v, Try.f5.params[j]? = some t → args[j]? = some v → Value.okWide Try.prog W .any base t v := hval0
  have hW' := hW
  obtain ⟨p, q, hA0, hV, rfl, hfz, hnd⟩ := hW
  have hA : DataW.TrodAll enc Try.prog W 0 (fun _ => true) true Try.f5.params.toList args.toList ds p := hA0
  rw [Try.params5] at hA hval
  obtain ⟨v0, v1, v2, d0, d1, d2, p0, p1, p2, rfl, rfl, rfl, h0, h1, h2⟩ := trodAll_three hA
  obtain ⟨rfl, rfl⟩ := trodVars_none hV
  obtain ⟨n, rfl⟩ := okWide_int Try.underlying3 (hval 0 3 v0 rfl rfl)
  obtain ⟨al, rfl⟩ := okWide_bool Try.underlying4 (hval 1 4 v1 rfl rfl)
  obtain ⟨sa, sl, sc, rfl⟩ := okWide_slice Try.underlying22 (hval 2 22 v2 rfl rfl)
  have h2' := h2
  obtain ⟨fuel, hd⟩ := h2
  obtain ⟨v, l, hcs, hacts⟩ := trod_acts hd
  have hve : v = .slice sa sl sc := by
    simp only [Value.cells, List.cons.injEq, and_true] at hcs
    exact hcs.symm
  subst hve
  have hlt : ∀ y ∈ p0 ++ p1 ++ p2, y.block < W.heap.size := fun y hy => hW'.lt y (List.mem_append_left _ hy)
  refine (f5_any W n al _ l _ hacts).mono fun x W' ⟨he, hB⟩ => ?_
  subst he
  have g0 := Below.trod Try.laidOut (by kernel_rfl) (of_decide_eq_true (by kernel_rfl)) h0 hB (fun y hy => hlt y (List.mem_append_left _ (List.mem_append_left _ hy)))
  have g1 := Below.trod Try.laidOut (by kernel_rfl) (of_decide_eq_true (by kernel_rfl)) h1 hB (fun y hy => hlt y (List.mem_append_left _ (List.mem_append_right _ hy)))
  have g2 := Below.trod Try.laidOut (by kernel_rfl) (of_decide_eq_true (by kernel_rfl)) h2' hB (fun y hy => hlt y (List.mem_append_right _ hy))
  refine ⟨_, rfl, _, _, _, [], p0 ++ (p1 ++ p2), [], hW', ?_, ?_, ?_, hB.frame _, fun h => by cases h⟩
  · exact trodAll_mk1 (shut_bool Try.underlying4 true)
  · exact trodAll_mk3 g0 g1 g2
  · rfl

theorem gatePasses_holds : Rows.GatePassesSaid :=
  OpenClaim.holds_of_wide 5 Try.f5 rfl rfl rfl rfl rfl rfl rfl ⟨rfl, rfl, rfl, rfl, rfl⟩ rfl rfl rfl rfl rfl (by kernel_rfl) Try.func5 (by kernel_rfl)
    (of_decide_eq_true (by kernel_rfl)) (by unfold Func.isWrapper; rw [if_neg (by decide +kernel)]; exact ⟨rfl, rfl⟩)
    (fun os started H enc _ => gatePasses_lifted os started H enc)

end Go.Proofs.Ytdnkfgnjeibjeaa
