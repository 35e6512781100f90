/-
  Rows and events compared, part 3: what both sides' comparisons answer. Conditions: the rows lie in the world as the words say.
-/
import Derived.Test.YtimahogkcmmcnaaGreatDoorM2
import Derived.Test.YtimahogkcmmcnaaGreatDoorR1
set_option linter.unusedSimpArgs false
set_option linter.unusedVariables false
namespace Go.Proofs.YtimahogkcmmcnaaGreatDoor
open Go.RowKit Go.Proofs.YtimahogkcmmcnaaGreatDoor.Cmps

theorem drop_cons {α : Type} {l : List α} {k : Nat} (h : k < l.length) : l.drop k = l[k] :: l.drop (k + 1) := List.drop_eq_getElem_cons h

theorem cmpRow_hit {a b : List Val} {k : Nat} (ha : k < a.length) (hb : k < b.length) (h : (cmpVal a[k] b[k] != 0) = true) : cmpRow (a.drop k) (b.drop k) = cmpVal a[k] b[k] := by
  rw [drop_cons ha, drop_cons hb, cmpRow, orI, if_pos h]

theorem cmpRow_miss {a b : List Val} {k : Nat} (ha : k < a.length) (hb : k < b.length) (h : (cmpVal a[k] b[k] != 0) = false) : cmpRow (a.drop (k + 1)) (b.drop (k + 1)) = cmpRow (a.drop k) (b.drop k) := by
  rw [drop_cons ha, drop_cons hb, cmpRow, orI, if_neg (by simp [h])]

theorem cmpRow_end {a b : List Val} {k : Nat} (hk : k ≤ a.length) (hk' : k ≤ b.length) (h : ¬ (k < a.length ∧ k < b.length)) : cmpRow (a.drop k) (b.drop k) = if a.length < b.length then -1 else if b.length < a.length then 1 else 0 := by
  by_cases ha : k < a.length
  · have hb : k = b.length := by omega
    subst hb
    rw [drop_cons ha, List.drop_length, cmpRow, if_neg (by omega), if_pos ha]
  · have hb : k = a.length := by omega
    subst hb
    by_cases hb : a.length < b.length
    · rw [List.drop_length, drop_cons hb, cmpRow, if_pos hb]
    · have e : a.length = b.length := by omega
      rw [List.drop_length, e, List.drop_length, cmpRow, if_neg (by omega), if_neg (by omega)]

section leaves
set_option maxHeartbeats 400000
set_option maxRecDepth 10000

theorem f178_any (hm : Tryz.prog.follows .mixedOrders = true) (w : World) (r1 r2 : Value) (a b : List Val) (D1 D2 : Nat → Prop) (h1 : RowAt w D1 r1 a) (h2 : RowAt w D2 r2 b) :
    Calls Tryz.prog 178 #[r1, r2, .func (.func 179) #[] #[]] w fun e w' => e = .returned (.int .i64 (cmpRow a b)) ∧ Grew w w' := by
  obtain ⟨p1, cap1, rfl, hl1, hx1⟩ := h1
  obtain ⟨p2, cap2, rfl, hl2, hx2⟩ := h2
  go_enter Tryz.func178, Tryz.ntmps178
  go_wp2
  go_loopw [13] (fun i wr => ∃ k : Nat, k ≤ a.length ∧ k ≤ b.length ∧ i = .int .i64 k ∧ cmpRow (a.drop k) (b.drop k) = cmpRow a b ∧ Grew w wr) (fun i _ => a.length - (intOf i).toNat)
  case atStart => exact ⟨0, by omega, by omega, rfl, rfl, Grew.refl _⟩
  case round =>
    obtain ⟨k, hk, hk', rfl, hv, hg⟩ := hrel
    have HV := Lib.hid hv
    clear hv
    by_cases hlt : k < a.length
    · rcases hx1 with rfl | ⟨b1, o1, rfl, hD1, hc1⟩
      · simp at hlt
      obtain ⟨x0, x1, x2⟩ := hc1 k hlt
      have hbx : b1 < w.heap.size := World.block_lt_of_cell? w ⟨b1, o1 + k * 3, none⟩ x0
      have hb := hg.below
      rw [← hb.cell (p := ⟨b1, _, none⟩) hbx] at x0 x1 x2
      have hbx' : b1 < wr.heap.size := Nat.lt_of_lt_of_le hbx hb.size
      have hbn : ¬ b1 = wr.heap.size := by omega
      have g1 : (0 : Int) ≤ (k : Int) := by omega
      have g2 : (k : Int) < (a.length : Int) := by omega
      clear hc1 hbx
      by_cases hlt' : k < b.length
      · rcases hx2 with rfl | ⟨b2, o2, rfl, hD2, hc2⟩
        · simp at hlt'
        obtain ⟨y0, y1, y2⟩ := hc2 k hlt'
        have hby : b2 < w.heap.size := World.block_lt_of_cell? w ⟨b2, o2 + k * 3, none⟩ y0
        rw [← hb.cell (p := ⟨b2, _, none⟩) hby] at y0 y1 y2
        have hby' : b2 < wr.heap.size := Nat.lt_of_lt_of_le hby hb.size
        have hbn2 : ¬ b2 = wr.heap.size := by omega
        have hbn3 : ¬ b2 = wr.heap.size + 1 := by omega
        have g3 : (k : Int) < (b.length : Int) := by omega
        have g4 : ¬ (b.length : Int) ≤ (k : Int) := by omega
        clear hc2 hby hb
        have HG := Lib.hid hg
        clear hg
        go_wp2_with (go_at_call 179; refine (f179_any hm a[k] b[k] _).mono ?_; rintro e w2 ⟨rfl, hb2⟩; have HB2 := Lib.hid hb2; clear hb2)
        · rename_i hne
          go_ret
          exact ⟨ret_int (by rw [← HV.out, cmpRow_hit hlt hlt' hne]), HG.out.trans (((Grew.refl _).alloc _).alloc _ |>.trans HB2.out)⟩
        · rename_i hne
          go_roundw
          case rel => exact ⟨k + 1, by omega, by omega, by go_num, by rw [cmpRow_miss hlt hlt' hne, HV.out], HG.out.trans (((Grew.refl _).alloc _).alloc _ |>.trans HB2.out)⟩
          case measure => simp [intOf]; omega
      · have he := cmpRow_end hk hk' (fun h => hlt' h.2)
        rw [HV.out, if_neg (by omega), if_pos (by omega)] at he
        have HE := Lib.hid he
        have g4 : (b.length : Int) ≤ (k : Int) := by omega
        clear he hb
        have HG := Lib.hid hg
        clear hg
        go_wp2
        go_ret
        exact ⟨ret_int HE.out.symm, HG.out.trans ((Grew.refl _).alloc _)⟩
    · have he := cmpRow_end hk hk' (fun h => hlt h.1)
      rw [HV.out] at he
      have HE := Lib.hid he
      clear he
      have HG := Lib.hid hg
      clear hg
      by_cases l1 : a.length < b.length
      · go_wp2
        go_ret
        exact ⟨ret_int (by rw [HE.out, if_pos l1]), HG.out⟩
      · go_wp2
        go_ret
        exact ⟨ret_int (by rw [HE.out, if_neg l1, if_neg (by omega)]), HG.out⟩

theorem f112_any (hm : Tryz.prog.follows .mixedOrders = true) (w : World) (r1 r2 : Value) (a b : List Val) (D1 D2 : Nat → Prop) (h1 : RowAt w D1 r1 a) (h2 : RowAt w D2 r2 b) :
    Calls Tryz.prog 112 #[r1, r2] w fun e w' => e = .returned (.int .i64 (cmpRow a b)) ∧ Grew w w' := by
  have hc := f178_any hm w r1 r2 a b D1 D2 h1 h2
  obtain ⟨p1, cap1, rfl, hl1, hx1⟩ := h1
  obtain ⟨p2, cap2, rfl, hl2, hx2⟩ := h2
  go_enter Tryz.func112, Tryz.ntmps112
  go_wp2_with (go_at_call 178; refine hc.mono ?_; rintro e w2 ⟨rfl, hb2⟩)
  go_ret
  exact ⟨rfl, hb2⟩

theorem f110_two (w : World) (b : Nat) (x y : Int) (h0 : w.cell? ⟨b, 0, none⟩ = some (.int .i64 x)) (h1 : w.cell? ⟨b, 1, none⟩ = some (.int .i64 y)) :
    Calls Tryz.prog 110 #[.slice (some ⟨b, 0, none⟩) 2 2] w fun e w' => e = .returned (.int .i64 (orI x y)) ∧ w = w' := by
  cases hx : (x != 0)
  · cases hy : (y != 0)
    · go_enter Tryz.func110, Tryz.ntmps110
      go_wp2
      refine wp_loop_rounds 3 ?_
      rw [rounds_succ]
      go_wp2
      rw [rounds_succ]
      go_wp2
      rw [rounds_succ]
      go_wp2
      go_ret
      exact ⟨ret_int (by rw [orI, hx]; simp at hy; simp [hy]), rfl⟩
    · go_enter Tryz.func110, Tryz.ntmps110
      go_wp2
      refine wp_loop_rounds 2 ?_
      rw [rounds_succ]
      go_wp2
      rw [rounds_succ]
      go_wp2
      go_ret
      exact ⟨ret_int (by rw [orI, hx]; simp), rfl⟩
  · go_enter Tryz.func110, Tryz.ntmps110
    go_wp2
    refine wp_loop_rounds 1 ?_
    rw [rounds_succ]
    go_wp2
    go_ret
    exact ⟨ret_int (by rw [orI, hx]; simp), rfl⟩
end leaves
end Go.Proofs.YtimahogkcmmcnaaGreatDoor
