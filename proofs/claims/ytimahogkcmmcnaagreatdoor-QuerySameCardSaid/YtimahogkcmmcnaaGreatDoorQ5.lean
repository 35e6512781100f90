/-
  Patterns compared by the reference: part 5: it proves that samePattern says whether they are equal. No conditions.
-/
import Derived.Test.YtimahogkcmmcnaaGreatDoorQ4
set_option linter.unusedSimpArgs false
set_option linter.unusedVariables false
namespace Go.Proofs.YtimahogkcmmcnaaGreatDoor
open Go.RowKit

/-- Three cells twice, boxed: what they hold behind. -/
theorem two_objs (w : World) (A B : Array Value) (t : TypeId) (w1 : World) (h : Below ((w.alloc (.cells A t)).alloc (.cells B t)).heap.size ((w.alloc (.cells A t)).alloc (.cells B t)) w1) :
    w.heap.size < w1.heap.size ∧ w.heap.size + 1 < w1.heap.size ∧ (∀ o, w1.cell? ⟨w.heap.size, o, none⟩ = A[o]?) ∧ (∀ o, w1.cell? ⟨w.heap.size + 1, o, none⟩ = B[o]?) ∧ Below w.heap.size w w1 := by
  have hs := h.size
  have e2 : ((w.alloc (.cells A t)).alloc (.cells B t)).heap.size = w.heap.size + 1 + 1 := by simp
  rw [e2] at hs
  refine ⟨by omega, by omega, fun o => ?_, fun o => ?_, below_box2 h⟩
  · rw [h.cell (p := ⟨w.heap.size, o, none⟩) (by rw [e2]; show w.heap.size < _; omega)]
    have : ((w.alloc (.cells A t)).alloc (.cells B t)).heap[w.heap.size]? = some (.cells A t) := by
      rw [Below.heap_alloc _ _ _ (by simp)]
      exact Array.getElem?_push_size
    simp only [World.cell?, this]
    exact if_neg (by simp)
  · rw [h.cell (p := ⟨w.heap.size + 1, o, none⟩) (by rw [e2]; show w.heap.size + 1 < _; omega)]
    have e1 : (w.alloc (.cells A t)).heap.size = w.heap.size + 1 := by simp
    have : ((w.alloc (.cells A t)).alloc (.cells B t)).heap[w.heap.size + 1]? = some (.cells B t) := by
      rw [← e1]
      exact Array.getElem?_push_size
    simp only [World.cell?, this]
    exact if_neg (by simp)

section walks
set_option maxHeartbeats 4000000
set_option maxRecDepth 1000000

theorem f167_any (w : World) (p1 p2 : Option Addr) (n1 n2 c1 c2 : Nat) (i1 k1 i2 k2 : Int) (a b : List StgM) (h1 : StgsAt w (.slice p1 n1 c1) a) (h2 : StgsAt w (.slice p2 n2 c2) b) :
    Calls Tryz.prog 167 #[.agg #[.slice p1 n1 c1, .int .i64 i1, .int .i64 k1], .agg #[.slice p2 n2 c2, .int .i64 i2, .int .i64 k2]] w fun e w' => e = .returned (.bool (eqL eqStg a b && i1 == i2 && k1 == k2)) ∧ Below w.heap.size w w' := by
  have H1 := Lib.hid h1
  have H2 := Lib.hid h2
  obtain ⟨p1', cap1, e1, hl1⟩ := h1.form
  obtain ⟨p2', cap2, e2, hl2⟩ := h2.form
  cases e1
  cases e2
  clear h1 h2
  have HB0 : Hid (∀ o o', Below w.heap.size w ((w.alloc o).alloc o')) := fun o o' => ((Below.refl _ _).alloc (Nat.le_refl _) o).alloc (by simp) o'
  cases hlen : (a.length != b.length)
  · have hlen' : a.length = b.length := by simpa using hlen
    have hlen2 : ((a.length : Int) != (b.length : Int)) = false := by simp [hlen']
    have HL := Lib.hid hlen'
    clear hlen'
    cases hi : (i1 != i2)
    · cases hk : (k1 != k2)
      · have HE : Hid (i1 = i2 ∧ k1 = k2) := ⟨by simpa using hi, by simpa using hk⟩
        go_enter Tryz.func167, Tryz.ntmps167
        go_wp2
        go_loopw [5] (fun i wr => ∃ k : Nat, k ≤ a.length ∧ i = .int .i64 k ∧ Hid (eqL eqStg (a.drop k) (b.drop k) = eqL eqStg a b) ∧ Hid (Below ((w.alloc (.cells #[.slice p1 a.length c1, .int .i64 i1, .int .i64 k1] 76)).alloc (.cells #[.slice p2 b.length c2, .int .i64 i2, .int .i64 k2] 76)).heap.size ((w.alloc (.cells #[.slice p1 a.length c1, .int .i64 i1, .int .i64 k1] 76)).alloc (.cells #[.slice p2 b.length c2, .int .i64 i2, .int .i64 k2] 76)) wr)) (fun i _ => a.length - (intOf i).toNat)
        case atStart => exact ⟨0, by omega, rfl, Lib.hid rfl, Lib.hid (Below.refl _ _)⟩
        case round =>
          obtain ⟨k, hk', rfl, HV, hb⟩ := hrel
          obtain ⟨z1, z2, hA, hB, hbw⟩ := two_objs w _ _ 76 wr hb.out
          have HW := Lib.hid hbw
          clear hbw
          have cA := hA 0
          have cB := hB 0
          simp at cA cB
          clear hA hB
          by_cases hlt : k < a.length
          · have hlt' : k < b.length := by have := HL.out; omega
            obtain ⟨b1, o1, rfl, hbx, -, hc1⟩ := (H1.out.below HW.out).at hlt
            obtain ⟨b2, o2, rfl, hby, -, hc2⟩ := (H2.out.below HW.out).at hlt'
            have x0 := hc1 0 (by omega)
            have x1 := hc1 1 (by omega)
            have x2 := hc1 2 (by omega)
            have x3 := hc1 3 (by omega)
            have y0 := hc2 0 (by omega)
            have y1 := hc2 1 (by omega)
            have y2 := hc2 2 (by omega)
            have y3 := hc2 3 (by omega)
            simp only [Nat.add_zero, List.getElem?_cons_zero, List.getElem?_cons_succ] at x0 x1 x2 x3 y0 y1 y2 y3
            clear hc1 hc2
            have g1 : (0 : Int) ≤ (k : Int) := by omega
            have g2 : (k : Int) < (a.length : Int) := by omega
            have g3 : (k : Int) < (b.length : Int) := by omega
            have HS := Lib.hid (eqL_step (q := eqStg) hlt hlt')
            generalize a[k] = X at x0 x1 x2 x3 HS
            generalize b[k] = Y at y0 y1 y2 y3 HS
            go_wp2_with fail
            have hcl := fun d os b' o' h => (below_regrown wr d os).cell (p := ⟨b', o', none⟩) h
            refine wp_region_quiet_below (by kernel_rfl) (by kernel_rfl) ?_
            repeat (quiet_step (fail))
            refine wpQuiet_step (fun K hK => ?_)
            go_simp
            refine ⟨.bool !(eqStg X Y), fun p => ?_, hK _ ?_⟩
            · by_cases h1 : X.n.toList = Y.n.toList <;> by_cases h2 : X.c.toList = Y.c.toList <;> by_cases h3 : X.f = Y.f <;> by_cases h4 : X.u.toList = Y.u.toList <;> simp [h1, h2, h3, h4, eqStg, eqS]
            clear hK K
            refine wpQuiet_nil ?_
            intro wq hw'
            have HQ := Lib.hid (below_of_class hw')
            clear hw' hcl
            cases hev : eqStg X Y
            · go_wp2_with fail
              go_ret
              exact ⟨ret_bool (by rw [← HV.out, HS.out, hev, Bool.false_and, Bool.false_and, Bool.false_and]), below_then HW.out HQ.out⟩
            · go_wp2_with fail
              go_roundw
              case rel => exact ⟨k + 1, by omega, by go_num, Lib.hid (by rw [← HV.out, HS.out, hev, Bool.true_and]), Lib.hid (hb.out.trans (HQ.out.mono hb.out.size))⟩
              case measure => simp [intOf]; omega
          · have he : eqL eqStg (a.drop k) (b.drop k) = true := by rw [List.drop_of_length_le (by omega), List.drop_of_length_le (by have := HL.out; omega)]; rfl
            rw [HV.out] at he
            have HE2 := Lib.hid he
            clear he
            go_wp2
            go_ret
            exact ⟨ret_bool (by rw [HE2.out, HE.out.1, HE.out.2]; simp), HW.out⟩
      · have HE := Lib.hid hk
        go_enter Tryz.func167, Tryz.ntmps167
        go_wp2
        go_ret
        exact ⟨ret_bool (by have := HE.out; simp at this; simp [this]), HB0.out _ _⟩
    · have HE := Lib.hid hi
      go_enter Tryz.func167, Tryz.ntmps167
      go_wp2
      go_ret
      exact ⟨ret_bool (by have := HE.out; simp at this; simp [this]), HB0.out _ _⟩
  · have hlen2 : ((a.length : Int) != (b.length : Int)) = true := by simp at hlen ⊢; omega
    have HS := Lib.hid (eqL_len (q := eqStg) (a := a) (b := b) (by simpa using hlen))
    go_enter Tryz.func167, Tryz.ntmps167
    go_wp2
    go_ret
    exact ⟨ret_bool (by rw [HS.out]; simp), HB0.out _ _⟩
end walks
end Go.Proofs.YtimahogkcmmcnaaGreatDoor
