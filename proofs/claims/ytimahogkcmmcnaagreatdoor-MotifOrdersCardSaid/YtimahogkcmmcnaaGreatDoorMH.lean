/-
  MotifOrders: what the law's call answers, part 17. Conditions: the schema and the events lie in the world as the words say.
-/
import Derived.Test.YtimahogkcmmcnaaGreatDoorMG
import Derived.Test.YtimahogkcmmcnaaGreatDoorO2
set_option linter.unusedSimpArgs false
set_option linter.unusedVariables false
namespace Go.Proofs.YtimahogkcmmcnaaGreatDoor
open Go.RowKit Go.Proofs.YtimahogkcmmcnaaGreatDoor.Cmps

theorem ord_same {s : List Col} {l : List Evt} {xs ys : List Nat} (h1 : if okB s l then Ordered (cN l) l.length xs else xs = []) (h2 : if okB s l then Ordered (cN l) l.length ys else ys = []) : xs = ys := by
  cases hk : okB s l
  · rw [hk] at h1 h2
    have h1 : xs = [] := h1
    have h2 : ys = [] := h2
    rw [h1, h2]
  · rw [hk] at h1 h2
    exact Ordered.uniq (cN_3 l) h1 h2

section leaves
set_option maxHeartbeats 1000000
set_option maxRecDepth 10000

theorem f3_any (hm : Tryz.prog.follows .mixedOrders = true) (w : World) (D D' : Nat → Prop) (v v' : Value) (s : List Col) (l : List Evt) (hs : SchemaAt w D v s) (hl : EvtsAt w D' v' l) (hD : ∀ b, D' b → b < w.heap.size) :
    Calls Tryz.prog 3 #[v, v'] w fun e w' => e = .returned (.bool true) ∧ Below w.heap.size w w' := by
  have H8 : Hid (∀ W, Calls Tryz.prog 8 #[] W fun e w' => e = .returned (.bool true) ∧ Below W.heap.size W w') := fun W => f8_any hm W
  have H10 : Hid (∀ W, Below w.heap.size w W → Calls Tryz.prog 10 #[v, v'] W (OrdRes W s l)) := fun W hb => f10_any hm W D D' v v' s l (hs.below hb) (hl.below hb) (fun b h => Nat.lt_of_lt_of_le (hD b h) hb.size)
  have H11 : Hid (∀ W, Below w.heap.size w W → Calls Tryz.prog 11 #[v, v'] W (OrdRes W s l)) := fun W hb => f11_any hm W D D' v v' s l (hs.below hb) (hl.below hb)
  obtain ⟨a, cap, hv⟩ : ∃ a cap, v = .slice a s.length cap := by
    obtain ⟨a, cap, hv, _⟩ := hs; exact ⟨a, cap, hv⟩
  have hsl : s.length ≤ 9223372036854775807 := by obtain ⟨_, _, _, _, h, _⟩ := hs; exact h
  clear hs
  subst hv
  obtain ⟨a', cap', rfl, hl', hx⟩ := hl
  go_enter Tryz.func3, Tryz.ntmps3
  go_wp2_with (go_at_call 8; refine (H8.out _).mono ?_; rintro e w1 ⟨rfl, hb1⟩; have HB1 := Lib.hid hb1; clear hb1)
  · go_ret
    exact ⟨rfl, HB1.out⟩
  · go_loopw [5] (fun i wr => ∃ k : Nat, k ≤ l.length ∧ i = .int .i64 k ∧ Hid (Below w.heap.size w wr)) (fun i _ => l.length - (intOf i).toNat)
    case atStart => exact ⟨0, by omega, rfl, Lib.hid (Below.refl _ _)⟩
    case round =>
      obtain ⟨k, hk, rfl, hb⟩ := hrel
      by_cases hlt : k < l.length
      · rcases hx with rfl | ⟨b, off, rfl, hbD, hc⟩
        · simp at hlt
        obtain ⟨h0, r, h1, hr⟩ := hc k hlt
        have hbb := cell_lt h0
        rw [← hb.out.cell (p := ⟨b, _, none⟩) hbb] at h0 h1
        have HR := Lib.hid (hr.below hb.out)
        have HL : Hid (∀ W : World, W.cell? ⟨wr.heap.size, 0, none⟩ = some r → Below wr.heap.size wr W → Calls Tryz.prog 9 #[.slice (some ⟨wr.heap.size, 0, none⟩) 1 1] W fun e w' => (∃ b, e = .returned (.bool b)) ∧ W = w') :=
          fun W hc hb' => f9_any W D' wr.heap.size r l[k].r hc (HR.out.below hb')
        clear hc
        obtain ⟨rp, rc, rfl⟩ : ∃ a cap, r = .slice a l[k].r.length cap := by
          obtain ⟨a, cap, hv, _⟩ := hr; exact ⟨a, cap, hv⟩
        clear hr
        go_wp2_with (first
          | (go_at_call 9; refine (HL.out _ (by simp) ((Below.refl _ _).alloc (Nat.le_refl _) _)).mono ?_; rintro e w1 ⟨⟨bb, rfl⟩, rfl⟩)
          | (go_at_call 8; refine (H8.out _).mono ?_; rintro e w1 ⟨rfl, hb1⟩; have HB1 := Lib.hid hb1; clear hb1))
        · go_ret
          exact ⟨rfl, below_then hb.out (below_box HB1.out)⟩
        · go_roundw
          case rel => exact ⟨k + 1, by omega, by go_num, Lib.hid (hb.out.alloc hb.out.size _)⟩
          case measure => simp [intOf]; omega
      · go_wp2_with (first
          | (go_at_call 10; refine (H10.out _ hb.out).mono ?_; rintro e w1 ⟨r1, xs, rfl, hi1, ho1, hb1⟩; have HI1 := Lib.hid (And.intro hi1 (And.intro ho1 (below_then hb.out hb1))); clear hi1 ho1 hb1)
          | (go_at_call 11; refine (H11.out _ HI1.out.2.2).mono ?_; rintro e w2 ⟨r2, ys, rfl, hi2, ho2, hb2⟩; obtain rfl := ord_same HI1.out.2.1 ho2; have HI2 := Lib.hid (And.intro (HI1.out.1.below hb2) (And.intro hi2 (below_then HI1.out.2.2 hb2))); clear hi2 ho2 hb2)
          | (go_at_call 12; refine (f12_any hm _ _ _ _ _ _ HI2.out.1 HI2.out.2.1).mono ?_; rintro e w3 ⟨rfl, hd3⟩; have HB3 := Lib.hid (below_then HI2.out.2.2 hd3.grew.below); clear hd3)
          | (go_at_call 8; refine (H8.out _).mono ?_; rintro e w4 ⟨rfl, hb4⟩; have HB4 := Lib.hid (below_then HB3.out hb4); clear hb4))
        all_goals go_ret
        all_goals exact ⟨rfl, HB4.out⟩
  · go_ret
    exact ⟨rfl, HB1.out⟩
end leaves
end Go.Proofs.YtimahogkcmmcnaaGreatDoor
