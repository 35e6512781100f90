import Derived.Test.YtdnkfgnjeibjeaaA4
namespace Go.Proofs.Ytdnkfgnjeibjeaa
open Go.RowKit

def sameOuts : List (Int × Elem) → List (Int × Elem) → Bool
  | [], [] => true
  | x :: xs, y :: ys => !(x.1 != y.1 || !sameElem x.2 y.2) && sameOuts xs ys
  | _, _ => false

theorem sameOuts_len {a b : List (Int × Elem)} (h : a.length ≠ b.length) : sameOuts a b = false := by
  induction a generalizing b with
  | nil => cases b with | nil => simp at h | cons y ys => rfl
  | cons x xs ih => cases b with | nil => rfl | cons y ys => simp only [sameOuts, ih (b := ys) (by simpa using h), Bool.and_false]

theorem sameOuts_step {a b : List (Int × Elem)} {k : Nat} (ha : k < a.length) (hb : k < b.length) : sameOuts (a.drop k) (b.drop k) = (!(a[k].1 != b[k].1 || !sameElem a[k].2 b[k].2) && sameOuts (a.drop (k + 1)) (b.drop (k + 1))) := by
  rw [drop_cons ha, drop_cons hb, sameOuts]

section leaves
set_option maxHeartbeats 400000
set_option maxRecDepth 100000

set_option maxHeartbeats 2000000 in
theorem f14_any (w : World) (v1 v2 : Value) (a b : List (Int × Elem)) (D1 D2 : Nat → Prop) (h1 : OutsAt w D1 v1 a) (h2 : OutsAt w D2 v2 b) :
    Calls Try.prog 14 #[v1, v2] w fun e w' => e = .returned (.bool (sameOuts a b)) ∧ Below w.heap.size w w' := by
  obtain ⟨p1, cap1, rfl, hl1, hx1⟩ := h1
  obtain ⟨p2, cap2, rfl, hl2, hx2⟩ := h2
  cases hlen : (a.length != b.length)
  · have hlen' : a.length = b.length := by simpa using hlen
    have hlen2 : ((a.length : Int) != (b.length : Int)) = false := by simp [hlen']
    have HL := Lib.hid hlen'
    clear hlen'
    go_enter Try.func14, Try.ntmps14
    go_wp2
    go_loopw [5] (fun i wr => ∃ k : Nat, k ≤ a.length ∧ i = .int .i64 k ∧ sameOuts (a.drop k) (b.drop k) = sameOuts a b ∧ Below w.heap.size w wr) (fun i _ => a.length - (intOf i).toNat)
    case atStart => exact ⟨0, by omega, rfl, rfl, Below.refl _ _⟩
    case round =>
      obtain ⟨k, hk, rfl, hv, hb⟩ := hrel
      have HV := Lib.hid hv
      clear hv
      by_cases hlt : k < a.length
      · have hlt' : k < b.length := by have := HL.out; omega
        rcases hx1 with rfl | ⟨b1, o1, rfl, hD1, hc1⟩
        · simp at hlt
        rcases hx2 with rfl | ⟨b2, o2, rfl, hD2, hc2⟩
        · simp at hlt'
        obtain ⟨x5, r1, x0, x1, x2, x3, x4, xr⟩ := hc1 k hlt
        obtain ⟨y5, r2, y0, y1, y2, y3, y4, yr⟩ := hc2 k hlt'
        have hbx : b1 < w.heap.size := cell_lt x0
        have hby : b2 < w.heap.size := cell_lt y0
        rw [← hb.cell (p := ⟨b1, _, none⟩) hbx] at x0 x1 x2 x3 x4 x5
        rw [← hb.cell (p := ⟨b2, _, none⟩) hby] at y0 y1 y2 y3 y4 y5
        have hbx' : b1 < wr.heap.size := Nat.lt_of_lt_of_le hbx hb.size
        have hby' : b2 < wr.heap.size := Nat.lt_of_lt_of_le hby hb.size
        have hA := fun d os => Calls.regrown_of (f16_any (Sort.grow (redrawn wr d) os) a[k].2 b[k].2 r1 r2 D1 D2 ((xr.below hb).below (below_regrown wr d os)) ((yr.below hb).below (below_regrown wr d os)))
        have HA := Lib.hid hA
        clear hA hc1 hc2 hbx hby xr yr
        have HB := Lib.hid hb
        clear hb
        have g1 : (0 : Int) ≤ (k : Int) := by omega
        have g2 : (k : Int) < (a.length : Int) := by omega
        have g3 : (k : Int) < (b.length : Int) := by omega
        have hst := sameOuts_step hlt hlt'
        have HS := Lib.hid hst
        clear hst
        cases hne1 : (a[k].1 != b[k].1)
        · go_wp2_with fail
          have hcl := fun d os b' o' h => (below_regrown wr d os).cell (p := ⟨b', o', none⟩) h
          refine wp_region_quiet_below (by kernel_rfl) (by kernel_rfl) ?_
          repeat (first | go_big_quiet_skip | quiet_step (with_reducible exact HA.out _ _))
          refine wpQuiet_nil ?_
          intro wq hw'
          have hq := below_of_class hw'
          clear hw' hcl
          have hbb := below_then HB.out hq
          go_wp2_with fail
          · rename_i hne
            have hne' : sameElem a[k].2 b[k].2 = false := by simpa using hne
            go_ret
            exact ⟨ret_bool (by rw [← HV.out, HS.out, hne', hne1]; simp), hbb⟩
          · rename_i hne
            have hne' : sameElem a[k].2 b[k].2 = true := by simpa using hne
            go_roundw
            case rel => exact ⟨k + 1, by omega, by go_num, by rw [← HV.out, HS.out, hne', hne1]; simp, hbb⟩
            case measure => simp [intOf]; omega
        · go_wp2_with fail
          have hcl := fun d os b' o' h => (below_regrown wr d os).cell (p := ⟨b', o', none⟩) h
          refine wp_region_quiet_below (by kernel_rfl) (by kernel_rfl) ?_
          repeat (first | go_big_quiet_skip | quiet_step (with_reducible exact HA.out _ _))
          refine wpQuiet_nil ?_
          intro wq hw'
          have hq := below_of_class hw'
          clear hw' hcl
          have hbb := below_then HB.out hq
          go_wp2_with fail
          go_ret
          exact ⟨ret_bool (by rw [← HV.out, HS.out, hne1]; simp), hbb⟩
      · have he : sameOuts (a.drop k) (b.drop k) = true := by rw [List.drop_of_length_le (by omega), List.drop_of_length_le (by have := HL.out; omega)]; rfl
        rw [HV.out] at he
        have HE := Lib.hid he
        clear he
        go_wp2
        go_ret
        exact ⟨ret_bool HE.out.symm, hb⟩
  · have hlen2 : ((a.length : Int) != (b.length : Int)) = true := by simp at hlen ⊢; omega
    have hs := sameOuts_len (a := a) (b := b) (by simpa using hlen)
    have HS := Lib.hid hs
    clear hs
    go_enter Try.func14, Try.ntmps14
    go_wp2
    go_ret
    exact ⟨ret_bool HS.out.symm, Below.refl _ _⟩

/-- Whether an element is larger than is looked at. -/
def greatE (e : Elem) : Bool := e.row.any (fun v => decide ((300 : Int) < v.s.size)) || decide ((20 : Int) < e.row.length)

theorem f28_any (e : Elem) (r : Value) (w : World) (D : Nat → Prop) (hr : RowAt w D r e.row) :
    Calls Try.prog 28 #[ev e r] w fun x w' => x = .returned (.bool (greatE e)) ∧ Below w.heap.size w w' := by
  obtain ⟨a, cap, rfl, hl, hx⟩ := hr
  go_enter Try.func28, Try.ntmps28
  go_wp2
  go_loop [3] (fun i => ∃ k : Nat, k ≤ e.row.length ∧ i = .int .i64 k ∧ ∀ j (h : j < e.row.length), j < k → ¬ (300 : Int) < e.row[j].s.size) (fun i => e.row.length - (intOf i).toNat)
  case atStart => exact ⟨0, by omega, rfl, by omega⟩
  case round =>
    obtain ⟨k, hk, rfl, hv⟩ := hrel
    have HV := Lib.hid hv
    clear hv
    by_cases hlt : k < e.row.length
    · rcases hx with hx | ⟨b, off, rfl, hbD, hc⟩
      · simp [hx] at hlt
      · obtain ⟨h0, h1, h2⟩ := hc k hlt
        have hbb : b < w.heap.size := cell_lt h0
        clear hc
        by_cases hbig : (300 : Int) < e.row[k].s.size
        · go_wp2
          go_ret
          refine ⟨ret_bool ?_, (Below.refl _ _).alloc (Nat.le_refl _) _⟩
          have : e.row.any (fun v => decide ((300 : Int) < v.s.size)) = true := List.any_eq_true.2 ⟨e.row[k], List.getElem_mem hlt, by simpa using hbig⟩
          simp [greatE, this]
        · go_wp2
          go_round
          case rel =>
            refine ⟨k + 1, by omega, by go_num, fun j hj hjk => ?_⟩
            by_cases e' : j = k
            · subst e'; exact hbig
            · exact HV.out j hj (by omega)
          case measure => simp [intOf]; omega
    · clear hx
      have hall : e.row.any (fun v => decide ((300 : Int) < v.s.size)) = false := by
        rw [List.any_eq_false]
        intro x hx
        obtain ⟨i, hi, rfl⟩ := List.mem_iff_getElem.1 hx
        simpa using HV.out i hi (by omega)
      have HA := Lib.hid hall
      clear hall
      go_wp2
      go_ret
      exact ⟨ret_bool (by simp [greatE, HA.out]), (Below.refl _ _).alloc (Nat.le_refl _) _⟩

end leaves
end Go.Proofs.Ytdnkfgnjeibjeaa
