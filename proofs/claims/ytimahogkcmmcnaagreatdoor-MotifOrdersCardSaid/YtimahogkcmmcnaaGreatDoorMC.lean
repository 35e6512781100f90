/-
  Rows and events compared by the reference, part 12. Conditions: the rows lie in the world as the words say.
-/
import Derived.Test.YtimahogkcmmcnaaGreatDoorMB
set_option linter.unusedSimpArgs false
set_option linter.unusedVariables false
namespace Go.Proofs.YtimahogkcmmcnaaGreatDoor
open Go.RowKit Go.Proofs.YtimahogkcmmcnaaGreatDoor.Cmps

section leaves
set_option maxHeartbeats 1000000
set_option maxRecDepth 10000

theorem f135_any (hm : Tryz.prog.follows .mixedOrders = true) (w : World) (r1 r2 : Value) (a b : List Val) (D1 D2 : Nat → Prop) (h1 : RowAt w D1 r1 a) (h2 : RowAt w D2 r2 b) :
    Calls Tryz.prog 135 #[r1, r2] w fun e w' => e = .returned (.int .i64 (cmpRow a b)) ∧ Grew w w' := by
  have mixed := hm
  obtain ⟨p1, cap1, rfl, hl1, hx1⟩ := h1
  obtain ⟨p2, cap2, rfl, hl2, hx2⟩ := h2
  go_enter Tryz.func135, Tryz.ntmps135
  go_wp2
  go_loopw [5] (fun i wr => ∃ k : Nat, k ≤ a.length ∧ k ≤ b.length ∧ i = .int .i64 k ∧ Hid (cmpRow (a.drop k) (b.drop k) = cmpRow a b) ∧ Hid (Grew w wr)) (fun i _ => a.length - (intOf i).toNat)
  case atStart => exact ⟨0, by omega, by omega, rfl, Lib.hid rfl, Lib.hid (Grew.refl _)⟩
  case round =>
    obtain ⟨k, hk, hk', rfl, HV, hg⟩ := hrel
    by_cases hlt : k < a.length
    · by_cases hlt' : k < b.length
      · rcases hx1 with rfl | ⟨b1, o1, rfl, hD1, hc1⟩
        · simp at hlt
        obtain ⟨x0, x1, x2⟩ := hc1 k hlt
        rcases hx2 with rfl | ⟨b2, o2, rfl, hD2, hc2⟩
        · simp at hlt'
        obtain ⟨y0, y1, y2⟩ := hc2 k hlt'
        have hbx := cell_lt x0
        have hby := cell_lt y0
        rw [← hg.out.below.cell (p := ⟨b1, _, none⟩) hbx] at x0 x1 x2
        rw [← hg.out.below.cell (p := ⟨b2, _, none⟩) hby] at y0 y1 y2
        have hbx' : b1 < wr.heap.size := Nat.lt_of_lt_of_le hbx hg.out.below.size
        have hby' : b2 < wr.heap.size := Nat.lt_of_lt_of_le hby hg.out.below.size
        have g1 : (0 : Int) ≤ (k : Int) := by omega
        have g2 : (k : Int) < (a.length : Int) := by omega
        have g3 : (k : Int) < (b.length : Int) := by omega
        have HC : Hid (∀ W, Calls Tryz.prog 188 #[a[k].v, b[k].v] W fun e w' => e = .returned (.int .i64 (cmpVal a[k] b[k])) ∧ Grew W w') := fun W => f188_any hm a[k] b[k] W
        clear hc1 hc2 hbx hby
        go_wp2_with fail
        have hcl := fun n os b' o' h => grown_cl wr n os b' o' h
        refine wp_region_quiet_grown mixed (by kernel_rfl) ?_
        repeat (quiet_step (with_reducible exact Calls.grown_of (HC.out _)))
        refine wpQuiet_nil ?_
        intro w3 hw'
        have hb3 := Lib.hid (hg.out.trans (Grew.of hw'))
        clear hw' hcl
        go_wp2_with fail
        · rename_i hne
          go_ret
          exact ⟨ret_int (by rw [← HV.out, cmpRow_hit hlt hlt' hne]), hb3.out⟩
        · rename_i hne
          go_roundw
          case rel => exact ⟨k + 1, by omega, by omega, by go_num, Lib.hid (by rw [cmpRow_miss hlt hlt' hne, HV.out]), hb3⟩
          case measure => simp [intOf]; omega
      · have he := cmpRow_end hk hk' (fun h => hlt' h.2)
        rw [HV.out, if_neg (by omega), if_pos (by omega)] at he
        have HE := Lib.hid he
        have g4 : (b.length : Int) ≤ (k : Int) := by omega
        have g5 : ¬ (k : Int) < (b.length : Int) := by omega
        have g6 : (b.length : Int) < (a.length : Int) := by omega
        have g7 : ¬ (a.length : Int) < (b.length : Int) := by omega
        clear he
        go_wp2
        go_ret
        exact ⟨ret_int HE.out.symm, hg.out⟩
    · have he := cmpRow_end hk hk' (fun h => hlt h.1)
      rw [HV.out] at he
      have HE := Lib.hid he
      clear he
      by_cases l1 : a.length < b.length
      · go_wp2
        go_ret
        exact ⟨ret_int (by rw [HE.out, if_pos l1]), hg.out⟩
      · have g7 : ¬ (a.length : Int) < (b.length : Int) := by omega
        have g8 : ¬ (b.length : Int) < (a.length : Int) := by omega
        go_wp2
        go_ret
        exact ⟨ret_int (by rw [HE.out, if_neg l1, if_neg (by omega)]), hg.out⟩

/-- An event comes before another one. -/
def beforeB (x y : Evt) : Bool := decide (cmpEvt x y < 0)

theorem before_lt {x y : Evt} (h : x.t < y.t) : beforeB x y = true := by
  have : cmpI x.t y.t = -1 := by rw [cmpI, if_pos h]
  unfold beforeB cmpEvt orI
  rw [this]; rfl

theorem before_gt {x y : Evt} (h : ¬ x.t < y.t) (h' : (x.t == y.t) = false) : beforeB x y = false := by
  have h'' : x.t ≠ y.t := by simpa using h'
  have : cmpI x.t y.t = 1 := by rw [cmpI, if_neg h, if_pos (by omega)]
  unfold beforeB cmpEvt orI
  rw [this]; rfl

theorem before_eq {x y : Evt} (h' : (x.t == y.t) = true) : beforeB x y = decide (cmpRow x.r y.r < 0) := by
  have h'' : x.t = y.t := by simpa using h'
  have : cmpI x.t y.t = 0 := by rw [h'']; exact cmpI_3.refl _
  unfold beforeB cmpEvt orI
  rw [this]; rfl

theorem f118_any (hm : Tryz.prog.follows .mixedOrders = true) (w : World) (r1 r2 : Value) (x y : Evt) (D1 D2 : Nat → Prop) (h1 : RowAt w D1 r1 x.r) (h2 : RowAt w D2 r2 y.r) :
    Calls Tryz.prog 118 #[.agg #[.int .i64 x.t, r1], .agg #[.int .i64 y.t, r2]] w fun e w' => e = .returned (.bool (beforeB x y)) ∧ Grew w w' := by
  obtain ⟨a, cap, hv⟩ : ∃ a cap, r1 = .slice a x.r.length cap := by
    obtain ⟨a, cap, hv, _⟩ := h1; exact ⟨a, cap, hv⟩
  obtain ⟨a', cap', hv'⟩ : ∃ a cap, r2 = .slice a y.r.length cap := by
    obtain ⟨a, cap, hv, _⟩ := h2; exact ⟨a, cap, hv⟩
  have HB : Hid (∀ o o', Grew w ((w.alloc o).alloc o')) := fun o o' => ((Grew.refl _).alloc o).alloc o'
  have H : Hid (∀ W, Grew w W → Calls Tryz.prog 135 #[r1, r2] W fun e w' => e = .returned (.int .i64 (cmpRow x.r y.r)) ∧ Grew W w') :=
    fun W hb => f135_any hm W r1 r2 x.r y.r D1 D2 (h1.below hb.below) (h2.below hb.below)
  clear h1 h2
  subst hv hv'
  go_enter Tryz.func118, Tryz.ntmps118
  go_wp2_with (go_at_call 135; refine (H.out _ (HB.out _ _)).mono ?_; rintro e w2 ⟨rfl, hb2⟩; have HB2 := Lib.hid hb2; clear hb2)
  · rename_i h1 h2
    go_ret
    exact ⟨ret_bool (before_eq (by simpa using h2)).symm, (HB.out _ _).trans HB2.out⟩
  · rename_i h1 h2
    go_ret
    exact ⟨ret_bool (by rw [before_gt (by omega) (by simpa using h2)]; simp; omega), HB.out _ _⟩
  · rename_i h1
    go_ret
    exact ⟨ret_bool (before_lt h1).symm, HB.out _ _⟩
end leaves
end Go.Proofs.YtimahogkcmmcnaaGreatDoor
