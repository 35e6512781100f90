import Derived.Test.YtdnkfgnjeibjeaaN5
import Derived.Test.YtdnkfgnjeibjeaaN3
namespace Go.Proofs.Ytdnkfgnjeibjeaa
open Go.RowKit Go.Shelf

theorem ActsAt.below {w w' : World} {D : Nat → Prop} {v : Value} {l : List ActV} (h : ActsAt w D v l) (hb : Below w.heap.size w w') : ActsAt w' D v l := by
  obtain ⟨a, cap, rfl, hl, hx⟩ := h
  refine ⟨a, cap, rfl, hl, ?_⟩
  rcases hx with rfl | ⟨b, off, rfl, hD, hc⟩
  · exact .inl rfl
  · refine .inr ⟨b, off, rfl, hD, fun i hi => ?_⟩
    obtain ⟨h0, h1, r, e0, e1, e2, e3, e4, hr⟩ := hc i hi
    have hlt : b < w.heap.size := World.block_lt_of_cell? w ⟨b, _, none⟩ h0
    have t : ∀ o, w'.cell? ⟨b, o, none⟩ = w.cell? ⟨b, o, none⟩ := fun o => hb.cell (p := ⟨b, o, none⟩) hlt
    exact ⟨(t _).trans h0, (t _).trans h1, r, (t _).trans e0, (t _).trans e1, (t _).trans e2, (t _).trans e3, (t _).trans e4, hr.below hb⟩

section walks
set_option maxHeartbeats 1000000
set_option maxRecDepth 100000

theorem f3_early (w : World) (n : Int) (v : Value) (l : List ActV) (D : Nat → Prop) (h : ActsAt w D v l) (hc : manyA l = true ∨ n < 1 ∨ 200 < n) :
    Calls Try.prog 3 #[.int .i64 n, v] w fun e w' => e = .returned (.bool true) ∧ Below w.heap.size w w' := by
  have hm := fun (W : World) (hb : Below w.heap.size w W) => f11_any W v l D (h.below hb)
  have HM := Lib.hid hm
  obtain ⟨a, c, rfl, _, _⟩ := h
  clear hm
  cases hml : manyA l <;> rw [hml] at HM
  · have hn := hc.resolve_left (by rw [hml]; decide)
    go_enter Try.func3, Try.ntmps3
    go_wp2_with (first
      | (go_at_call 10; refine (f10_any _).mono ?_; rintro e w1 ⟨rfl, hb1⟩; have HB1 := Lib.hid hb1; clear hb1)
      | (go_at_call 11; refine (HM.out _ HB1.out).mono ?_; rintro e w2 ⟨rfl, hb2⟩; have HB2 := Lib.hid (HB1.out.trans (hb2.mono HB1.out.size)); clear hb2)
      | (go_at_call 12; refine (f12_no _ n _ hn).mono ?_; rintro e w3 ⟨rfl, rfl⟩))
    go_ret
    exact ⟨rfl, HB2.out⟩
  · go_enter Try.func3, Try.ntmps3
    go_wp2_with (first
      | (go_at_call 10; refine (f10_any _).mono ?_; rintro e w1 ⟨rfl, hb1⟩; have HB1 := Lib.hid hb1; clear hb1)
      | (go_at_call 11; refine (HM.out _ HB1.out).mono ?_; rintro e w2 ⟨rfl, hb2⟩; have HB2 := Lib.hid (HB1.out.trans (hb2.mono HB1.out.size)); clear hb2))
    go_ret
    exact ⟨rfl, HB2.out⟩
end walks
end Go.Proofs.Ytdnkfgnjeibjeaa
