/-
  Rows that fit, what both sides' Fits answers, part 9. Conditions: the schema and the row lie in the world as the words say.
-/
import Derived.Test.YtimahogkcmmcnaaGreatDoorM8
set_option linter.unusedSimpArgs false
set_option linter.unusedVariables false
namespace Go.Proofs.YtimahogkcmmcnaaGreatDoor
open Go.RowKit Go.Proofs.YtimahogkcmmcnaaGreatDoor.Cmps

def fitsB (s : List Col) (r : List Val) : Bool := validSchema s && validRow r && decide (r.length = s.length) && fitsFrom s r

theorem fits_len {s : List Col} {r : List Val} (h : ((r.length : Int) != (s.length : Int)) = true) : fitsB s r = false := by
  have : decide (r.length = s.length) = false := by simp at h; simp; omega
  simp [fitsB, this]

theorem fits_two {s : List Col} {r : List Val} (h : validSchema s = false ∨ validRow r = false) : fitsB s r = false := by
  rcases h with h | h <;> simp [fitsB, h]

theorem fits_as {s : List Col} {r : List Val} (h1 : validSchema s = true) (h2 : validRow r = true) (h : r.length = s.length) : fitsB s r = fitsFrom s r := by
  simp [fitsB, h1, h2, h]

theorem new_cell (w : World) (b o : Nat) (x : Obj) (h : b < w.heap.size) : (w.alloc x).cell? ⟨b, o, none⟩ = w.cell? ⟨b, o, none⟩ := cell_keep (Below.heap_alloc w x b h) o

theorem below_drew {B : Nat} {a w : World} (h : Below B a w) (n : Nat) : Below B a (w.drewN n) := ⟨h.os, h.tape, h.output, h.size, h.block⟩

section leaves
set_option maxHeartbeats 400000
set_option maxRecDepth 10000

theorem f175_any (hm : Tryz.prog.follows .mixedOrders = true) (w : World) (D D' : Nat → Prop) (v v' : Value) (s : List Col) (r : List Val) (hs : SchemaAt w D v s) (hr : RowAt w D' v' r) :
    Calls Tryz.prog 175 #[v, v'] w fun e w' => e = .returned (.bool (fitsB s r)) ∧ Below w.heap.size w w' := by
  have mixed := hm
  have H36 := Lib.hid (f36_any w D v s hs)
  have H235 : Hid (∀ W, Below w.heap.size w W → Calls Tryz.prog 235 #[v'] W fun e w' => e = .returned (.bool (validRow r)) ∧ Below W.heap.size W w') := fun W hb => f235_any W v' r D' (hr.below hb)
  obtain ⟨a, cap, rfl, hc0, hl, hn, hx⟩ := hs
  obtain ⟨a', cap', rfl, hl', hx'⟩ := hr
  go_enter Tryz.func175, Tryz.ntmps175
  go_wp2_with (first
    | (go_at_call 36; refine H36.out.mono ?_; rintro e w1 ⟨rfl, hb1⟩; have HB1 := Lib.hid hb1; clear hb1)
    | (go_at_call 235; refine (H235.out _ HB1.out).mono ?_; rintro e w2 ⟨rfl, hb2⟩; have HB2 := Lib.hid hb2; clear hb2))
  · rename_i hne
    go_ret
    exact ⟨ret_bool (fits_len hne).symm, below_then HB1.out HB2.out⟩
  · have he1 : validSchema s = true := by assumption
    have he2 : validRow r = true := by assumption
    have he3 : ((r.length : Int) != (s.length : Int)) = false := by assumption
    have hlen : r.length = s.length := by simp at he3; omega
    have HF := Lib.hid (fits_as he1 he2 hlen)
    have HB0 : Hid (Below w.heap.size w w2) := below_then HB1.out HB2.out
    clear HB1 HB2
    go_loopw [24] (fun i wr => ∃ k : Nat, k ≤ r.length ∧ i = .int .i64 k ∧ Hid (fitsFrom (s.drop k) (r.drop k) = fitsFrom s r) ∧ Hid (Below w.heap.size w wr)) (fun i _ => r.length - (intOf i).toNat)
    case atStart => exact ⟨0, by omega, rfl, Lib.hid rfl, HB0⟩
    case round =>
      obtain ⟨k, hk, rfl, hv, hb⟩ := hrel
      by_cases hlt : k < r.length
      · rcases hx' with rfl | ⟨b1, o1, rfl, hD1, hc1⟩
        · simp at hlt
        obtain ⟨x0, x1, x2⟩ := hc1 k hlt
        have hlt' : k < s.length := by omega
        rcases hx with rfl | ⟨b2, o2, rfl, hD2, hc2⟩
        · simp at hlt'
        obtain ⟨y0, y1⟩ := hc2 k hlt'
        have hb1 := cell_lt x0
        have hb2 := cell_lt y0
        rw [← hb.out.cell (p := ⟨b1, _, none⟩) hb1] at x0 x1 x2
        rw [← hb.out.cell (p := ⟨b2, _, none⟩) hb2] at y0 y1
        have hb1' : b1 < wr.heap.size := Nat.lt_of_lt_of_le hb1 hb.out.size
        have hb2' : b2 < wr.heap.size := Nat.lt_of_lt_of_le hb2 hb.out.size
        have hbn : ¬ b2 = wr.heap.size := by omega
        have g1 : (0 : Int) ≤ (k : Int) := by omega
        have g2 : (k : Int) < (r.length : Int) := by omega
        have g3 : (k : Int) < (s.length : Int) := by omega
        clear hc1 hc2 hb1 hb2 H36 H235
        cases h1 : (r[k].k != 0)
        · go_wp2_with fail
          go_quiet (fail)
          go_wp2_with fail
          go_roundw
          case rel => exact ⟨k + 1, by omega, by go_num, Lib.hid (by rw [fitsFrom_go hlt' hlt (by simp at h1; simp [h1]), hv.out]), Lib.hid (below_drew (hb.out.alloc hb.out.size _) _)⟩
          case measure => simp [intOf]; omega
        · cases h2 : (r[k].k != s[k].k)
          · go_wp2_with fail
            go_quiet (fail)
            go_wp2_with fail
            go_roundw
            case rel => exact ⟨k + 1, by omega, by go_num, Lib.hid (by rw [fitsFrom_go hlt' hlt (by simp at h2; simp [h2]), hv.out]), Lib.hid (below_drew (hb.out.alloc hb.out.size _) _)⟩
            case measure => simp [intOf]; omega
          · go_wp2_with fail
            go_quiet (fail)
            go_wp2_with fail
            go_ret
            exact ⟨ret_bool (by rw [HF.out, ← hv.out, fitsFrom_bad hlt' hlt (by simp at h1 h2; simp [h1, h2])]), below_drew (hb.out.alloc hb.out.size _) _⟩
      · go_wp2
        go_ret
        obtain rfl : k = r.length := by omega
        exact ⟨ret_bool (by rw [HF.out, ← hv.out, fitsFrom_end]), hb.out⟩
  · rename_i hne
    go_ret
    exact ⟨ret_bool (fits_two (.inr (by simpa using hne))).symm, below_then HB1.out HB2.out⟩
  · rename_i hne
    go_ret
    exact ⟨ret_bool (fits_two (.inl (by simpa using hne))).symm, HB1.out⟩
theorem f117_any (hm : Tryz.prog.follows .mixedOrders = true) (w : World) (D D' : Nat → Prop) (v v' : Value) (s : List Col) (r : List Val) (hs : SchemaAt w D v s) (hr : RowAt w D' v' r) :
    Calls Tryz.prog 117 #[v, v'] w fun e w' => e = .returned (.bool (fitsB s r)) ∧ Below w.heap.size w w' := by
  have mixed := hm
  have H36 := Lib.hid (f39_any hm w D v s hs)
  have H235 : Hid (∀ W, Drew w W → Calls Tryz.prog 182 #[v'] W fun e w' => e = .returned (.bool (validRow r)) ∧ Below W.heap.size W w') := fun W hb => f182_any W v' r D' (hr.below hb.grew.below)
  obtain ⟨a, cap, rfl, hc0, hl, hn, hx⟩ := hs
  obtain ⟨a', cap', rfl, hl', hx'⟩ := hr
  go_enter Tryz.func117, Tryz.ntmps117
  go_wp2_with (first
    | (go_at_call 39; refine H36.out.mono ?_; rintro e w1 ⟨rfl, hb1⟩; have HB1 := Lib.hid hb1; clear hb1)
    | (go_at_call 182; refine (H235.out _ HB1.out).mono ?_; rintro e w2 ⟨rfl, hb2⟩; have HB2 := Lib.hid hb2; clear hb2))
  · rename_i hne
    go_ret
    exact ⟨ret_bool (fits_len hne).symm, below_then HB1.out.grew.below HB2.out⟩
  · have he1 : validSchema s = true := by assumption
    have he2 : validRow r = true := by assumption
    have he3 : ((r.length : Int) != (s.length : Int)) = false := by assumption
    have hlen : r.length = s.length := by simp at he3; omega
    have HF := Lib.hid (fits_as he1 he2 hlen)
    have HB0 : Hid (Below w.heap.size w w2) := below_then HB1.out.grew.below HB2.out
    clear HB1 HB2
    go_loopw [5] (fun i wr => ∃ k : Nat, k ≤ r.length ∧ i = .int .i64 k ∧ Hid (fitsFrom (s.drop k) (r.drop k) = fitsFrom s r) ∧ Hid (Below w.heap.size w wr)) (fun i _ => r.length - (intOf i).toNat)
    case atStart => exact ⟨0, by omega, rfl, Lib.hid rfl, HB0⟩
    case round =>
      obtain ⟨k, hk, rfl, hv, hb⟩ := hrel
      by_cases hlt : k < r.length
      · rcases hx' with rfl | ⟨b1, o1, rfl, hD1, hc1⟩
        · simp at hlt
        obtain ⟨x0, x1, x2⟩ := hc1 k hlt
        have hlt' : k < s.length := by omega
        rcases hx with rfl | ⟨b2, o2, rfl, hD2, hc2⟩
        · simp at hlt'
        obtain ⟨y0, y1⟩ := hc2 k hlt'
        have hb1 := cell_lt x0
        have hb2 := cell_lt y0
        rw [← hb.out.cell (p := ⟨b1, _, none⟩) hb1] at x0 x1 x2
        rw [← hb.out.cell (p := ⟨b2, _, none⟩) hb2] at y0 y1
        have g1 : (0 : Int) ≤ (k : Int) := by omega
        have g2 : (k : Int) < (r.length : Int) := by omega
        have g3 : (k : Int) < (s.length : Int) := by omega
        clear hc1 hc2 hb1 hb2 H36 H235
        cases h1 : (r[k].k != 0)
        · go_wp2_with fail
          go_quiet (fail)
          go_wp2_with fail
          go_roundw
          case rel => exact ⟨k + 1, by omega, by go_num, Lib.hid (by rw [fitsFrom_go hlt' hlt (by simp at h1; simp [h1]), hv.out]), Lib.hid (below_drew hb.out _)⟩
          case measure => simp [intOf]; omega
        · cases h2 : (r[k].k != s[k].k)
          · go_wp2_with fail
            go_quiet (fail)
            go_wp2_with fail
            go_roundw
            case rel => exact ⟨k + 1, by omega, by go_num, Lib.hid (by rw [fitsFrom_go hlt' hlt (by simp at h2; simp [h2]), hv.out]), Lib.hid (below_drew hb.out _)⟩
            case measure => simp [intOf]; omega
          · go_wp2_with fail
            go_quiet (fail)
            go_wp2_with fail
            go_ret
            exact ⟨ret_bool (by rw [HF.out, ← hv.out, fitsFrom_bad hlt' hlt (by simp at h1 h2; simp [h1, h2])]), below_drew hb.out _⟩
      · go_wp2
        go_ret
        obtain rfl : k = r.length := by omega
        exact ⟨ret_bool (by rw [HF.out, ← hv.out, fitsFrom_end]), hb.out⟩
  · rename_i hne
    go_ret
    exact ⟨ret_bool (fits_two (.inr (by simpa using hne))).symm, below_then HB1.out.grew.below HB2.out⟩
  · rename_i hne
    go_ret
    exact ⟨ret_bool (fits_two (.inl (by simpa using hne))).symm, HB1.out.grew.below⟩
end leaves
end Go.Proofs.YtimahogkcmmcnaaGreatDoor
