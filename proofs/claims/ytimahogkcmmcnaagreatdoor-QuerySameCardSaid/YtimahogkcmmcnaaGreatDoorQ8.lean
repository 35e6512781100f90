/-
  How large a plan is: part 8: it proves that great and heavy return true or false. No conditions.
-/
import Derived.Test.YtimahogkcmmcnaaGreatDoorQ7
import Derived.Test.YtimahogkcmmcnaaGreatDoorXD
set_option linter.unusedSimpArgs false
set_option linter.unusedVariables false
namespace Go.Proofs.YtimahogkcmmcnaaGreatDoor
open Go.RowKit

theorem one_obj (w : World) (A : Array Value) (t : TypeId) (w1 : World) (h : Below (w.alloc (.cells A t)).heap.size (w.alloc (.cells A t)) w1) :
    (∀ o, w1.cell? ⟨w.heap.size, o, none⟩ = A[o]?) ∧ Below w.heap.size w w1 := by
  refine ⟨fun o => ?_, below_box h⟩
  rw [h.cell (p := ⟨w.heap.size, o, none⟩) (by simp)]
  have : (w.alloc (.cells A t)).heap[w.heap.size]? = some (.cells A t) := Array.getElem?_push_size
  simp only [World.cell?, this]
  exact if_neg (by simp)

section walks
set_option maxHeartbeats 4000000
set_option maxRecDepth 1000000

/-- It returned true or false. -/
def AnyB (e : Ending) : Prop := ∃ b, e = .returned (.bool b)
theorem AnyB.out {e : Ending} (h : AnyB e) : ∃ b, e = .returned (.bool b) := h

theorem f96_any (w : World) (m : NodM) (s : NodS) (hm : NodAt w m s) :
    Calls Tryz.prog 96 #[nodV m s] w fun e w' => AnyB e ∧ Below w.heap.size w w' := by
  have HM := Lib.hid hm
  rw [← nodC_agg]
  obtain ⟨C, hC⟩ : ∃ c, nodC m s = c := ⟨_, rfl⟩
  rw [hC]
  have HO := Lib.hid (one_obj w C 167)
  have e1 : C[1]? = some (.string m.name) := by rw [← hC]; rfl
  have x1 : (w.alloc (.cells C 167)).cell? ⟨w.heap.size, 1, none⟩ = some (.string m.name) := ((HO.out _ (Below.refl _ _)).1 1).trans e1
  have e2 : C[2]? = some (.slice s.inputs.1 m.inputs.length s.inputs.2) := by rw [← hC]; rfl
  have x2 : (w.alloc (.cells C 167)).cell? ⟨w.heap.size, 2, none⟩ = some (.slice s.inputs.1 m.inputs.length s.inputs.2) := ((HO.out _ (Below.refl _ _)).1 2).trans e2
  have e3 : C[3]? = some (.slice s.schema.1 m.schema.length s.schema.2) := by rw [← hC]; rfl
  have x3 : (w.alloc (.cells C 167)).cell? ⟨w.heap.size, 3, none⟩ = some (.slice s.schema.1 m.schema.length s.schema.2) := ((HO.out _ (Below.refl _ _)).1 3).trans e3
  have e5 : C[5]? = some (.string m.expr) := by rw [← hC]; rfl
  have x5 : (w.alloc (.cells C 167)).cell? ⟨w.heap.size, 5, none⟩ = some (.string m.expr) := ((HO.out _ (Below.refl _ _)).1 5).trans e5
  have e6 : C[6]? = some (.slice s.exprs.1 m.exprs.length s.exprs.2) := by rw [← hC]; rfl
  have x6 : (w.alloc (.cells C 167)).cell? ⟨w.heap.size, 6, none⟩ = some (.slice s.exprs.1 m.exprs.length s.exprs.2) := ((HO.out _ (Below.refl _ _)).1 6).trans e6
  have e7 : C[7]? = some (.slice s.cols.1 m.cols.length s.cols.2) := by rw [← hC]; rfl
  have x7 : (w.alloc (.cells C 167)).cell? ⟨w.heap.size, 7, none⟩ = some (.slice s.cols.1 m.cols.length s.cols.2) := ((HO.out _ (Below.refl _ _)).1 7).trans e7
  have e8 : C[8]? = some (.slice s.others.1 m.others.length s.others.2) := by rw [← hC]; rfl
  have x8 : (w.alloc (.cells C 167)).cell? ⟨w.heap.size, 8, none⟩ = some (.slice s.others.1 m.others.length s.others.2) := ((HO.out _ (Below.refl _ _)).1 8).trans e8
  have e14 : C[14]? = some (.slice s.aggs.1 m.aggs.length s.aggs.2) := by rw [← hC]; rfl
  have x14 : (w.alloc (.cells C 167)).cell? ⟨w.heap.size, 14, none⟩ = some (.slice s.aggs.1 m.aggs.length s.aggs.2) := ((HO.out _ (Below.refl _ _)).1 14).trans e14
  have e15 : C[15]? = some (.slice s.names.1 m.names.length s.names.2) := by rw [← hC]; rfl
  have x15 : (w.alloc (.cells C 167)).cell? ⟨w.heap.size, 15, none⟩ = some (.slice s.names.1 m.names.length s.names.2) := ((HO.out _ (Below.refl _ _)).1 15).trans e15
  have e18 : C[18]? = some (.slice s.order.1 m.order.length s.order.2) := by rw [← hC]; rfl
  have x18 : (w.alloc (.cells C 167)).cell? ⟨w.heap.size, 18, none⟩ = some (.slice s.order.1 m.order.length s.order.2) := ((HO.out _ (Below.refl _ _)).1 18).trans e18
  have e22 : C[22]? = some (.slice s.stages.1 m.stages.length s.stages.2) := by rw [← hC]; rfl
  have x22 : (w.alloc (.cells C 167)).cell? ⟨w.heap.size, 22, none⟩ = some (.slice s.stages.1 m.stages.length s.stages.2) := ((HO.out _ (Below.refl _ _)).1 22).trans e22
  clear hC
  obtain ⟨_, _, _, hl1⟩ := hm.schema.form
  obtain ⟨_, _, _, hl2⟩ := hm.exprs.form
  obtain ⟨_, _, _, hl3⟩ := hm.names.form
  obtain ⟨_, _, _, hl4⟩ := hm.stages.form
  clear hm
  go_enter Tryz.func96, Tryz.ntmps96
  try simp only [List.append_eq, List.cons_append, List.nil_append]
  go_wp2_with fail
  go_loopw [4, 5] (fun z i wr => ∃ (k : Nat) (zz : Int), k ≤ m.schema.length ∧ z = .int .i64 zz ∧ i = .int .i64 k ∧ Hid (Below (w.alloc (.cells C 167)).heap.size (w.alloc (.cells C 167)) wr)) (fun _ i _ => m.schema.length - (intOf i).toNat)
  case atStart => exact ⟨0, _, by omega, rfl, rfl, Lib.hid (Below.refl _ _)⟩
  case round =>
    obtain ⟨k0, zz0, hk0, rfl, rfl, hb0⟩ := hrel
    obtain ⟨wq0, rfl⟩ : ∃ x : World, x = wr := ⟨_, rfl⟩
    obtain ⟨hA, HW⟩ := HO.out wq0 hb0.out
    have HW := Lib.hid HW
    have cc := (hA 3).trans e3
    by_cases hlt : k0 < m.schema.length
    · obtain ⟨b1, o1, ep, hbx, hok, hc⟩ := (HM.out.schema.below HW.out).at hlt
      have x0 := hc 0 (by omega)
      have x1 := hc 1 (by omega)
      simp only [Nat.add_zero, List.getElem?_cons_zero, List.getElem?_cons_succ] at x0 x1
      rw [ep] at cc
      have g1 : (0 : Int) ≤ (k0 : Int) := by omega
      have g2 : (k0 : Int) < (m.schema.length : Int) := by omega
      clear hc hA HW hbx hok ep
      go_wp2_with fail
      go_roundw
      case rel => exact ⟨k0 + 1, _, by omega, rfl, by go_num, hb0⟩
      case measure => simp [intOf]; omega
    · have cn := (hA 6).trans e6
      clear hA HW
      go_wp2_with fail
      go_loopw [4, 6] (fun z i wr => ∃ (k : Nat) (zz : Int), k ≤ m.exprs.length ∧ z = .int .i64 zz ∧ i = .int .i64 k ∧ Hid (Below (w.alloc (.cells C 167)).heap.size (w.alloc (.cells C 167)) wr)) (fun _ i _ => m.exprs.length - (intOf i).toNat)
      case atStart => exact ⟨0, _, by omega, rfl, rfl, hb0⟩
      case round =>
        obtain ⟨k1, zz1, hk1, rfl, rfl, hb1⟩ := hrel
        obtain ⟨wq1, rfl⟩ : ∃ x : World, x = wr := ⟨_, rfl⟩
        obtain ⟨hA, HW⟩ := HO.out wq1 hb1.out
        have HW := Lib.hid HW
        have cc := (hA 6).trans e6
        by_cases hlt : k1 < m.exprs.length
        · obtain ⟨b1, o1, ep, hbx, hok, hc⟩ := (HM.out.exprs.below HW.out).at hlt
          have x0 := hc 0 (by omega)
          simp only [Nat.mul_one, Nat.add_zero, List.getElem?_cons_zero, List.getElem?_cons_succ] at x0
          rw [ep] at cc
          have g1 : (0 : Int) ≤ (k1 : Int) := by omega
          have g2 : (k1 : Int) < (m.exprs.length : Int) := by omega
          clear hc hA HW hbx hok ep
          go_wp2_with fail
          go_roundw
          case rel => exact ⟨k1 + 1, _, by omega, rfl, by go_num, hb1⟩
          case measure => simp [intOf]; omega
        · have cn := (hA 15).trans e15
          clear hA HW
          go_wp2_with fail
          go_loopw [4, 7] (fun z i wr => ∃ (k : Nat) (zz : Int), k ≤ m.names.length ∧ z = .int .i64 zz ∧ i = .int .i64 k ∧ Hid (Below (w.alloc (.cells C 167)).heap.size (w.alloc (.cells C 167)) wr)) (fun _ i _ => m.names.length - (intOf i).toNat)
          case atStart => exact ⟨0, _, by omega, rfl, rfl, hb1⟩
          case round =>
            obtain ⟨k2, zz2, hk2, rfl, rfl, hb2⟩ := hrel
            obtain ⟨wq2, rfl⟩ : ∃ x : World, x = wr := ⟨_, rfl⟩
            obtain ⟨hA, HW⟩ := HO.out wq2 hb2.out
            have HW := Lib.hid HW
            have cc := (hA 15).trans e15
            by_cases hlt : k2 < m.names.length
            · obtain ⟨b1, o1, ep, hbx, hok, hc⟩ := (HM.out.names.below HW.out).at hlt
              have x0 := hc 0 (by omega)
              simp only [Nat.mul_one, Nat.add_zero, List.getElem?_cons_zero, List.getElem?_cons_succ] at x0
              rw [ep] at cc
              have g1 : (0 : Int) ≤ (k2 : Int) := by omega
              have g2 : (k2 : Int) < (m.names.length : Int) := by omega
              clear hc hA HW hbx hok ep
              go_wp2_with fail
              go_roundw
              case rel => exact ⟨k2 + 1, _, by omega, rfl, by go_num, hb2⟩
              case measure => simp [intOf]; omega
            · have cn := (hA 22).trans e22
              clear hA HW
              go_wp2_with fail
              go_loopw [4, 8] (fun z i wr => ∃ (k : Nat) (zz : Int), k ≤ m.stages.length ∧ z = .int .i64 zz ∧ i = .int .i64 k ∧ Hid (Below (w.alloc (.cells C 167)).heap.size (w.alloc (.cells C 167)) wr)) (fun _ i _ => m.stages.length - (intOf i).toNat)
              case atStart => exact ⟨0, _, by omega, rfl, rfl, hb2⟩
              case round =>
                obtain ⟨k3, zz3, hk3, rfl, rfl, hb3⟩ := hrel
                obtain ⟨wq3, rfl⟩ : ∃ x : World, x = wr := ⟨_, rfl⟩
                obtain ⟨hA, HW⟩ := HO.out wq3 hb3.out
                have HW := Lib.hid HW
                have cc := (hA 22).trans e22
                by_cases hlt : k3 < m.stages.length
                · obtain ⟨b1, o1, ep, hbx, hok, hc⟩ := (HM.out.stages.below HW.out).at hlt
                  have x0 := hc 0 (by omega)
                  have x1 := hc 1 (by omega)
                  have x2 := hc 2 (by omega)
                  have x3 := hc 3 (by omega)
                  simp only [Nat.add_zero, List.getElem?_cons_zero, List.getElem?_cons_succ] at x0 x1 x2 x3
                  rw [ep] at cc
                  have g1 : (0 : Int) ≤ (k3 : Int) := by omega
                  have g2 : (k3 : Int) < (m.stages.length : Int) := by omega
                  clear hc hA HW hbx hok ep
                  go_wp2_with fail
                  go_roundw
                  case rel => exact ⟨k3 + 1, _, by omega, rfl, by go_num, Lib.hid (hb3.out.alloc hb3.out.size _)⟩
                  case measure => simp [intOf]; omega
                · clear hA
                  generalize wrap64 (wrap64 (wrap64 (wrap64 (wrap64 (wrap64 (wrap64 (wrap64 ((m.inputs.length : Int) + m.schema.length) + m.exprs.length) + m.cols.length) + m.others.length) + m.aggs.length) + m.names.length) + m.order.length) + m.stages.length) = zs
                  by_cases q1 : 60 < zs <;> by_cases q2 : 600 < zz3
                  all_goals go_wp2_with fail
                  all_goals go_ret
                  all_goals exact ⟨⟨_, rfl⟩, HW.out⟩

theorem f31_any (w : World) (v : Value) (l : List NodM) (h : PlanAt w v l) :
    Calls Tryz.prog 31 #[v] w fun e w' => AnyB e ∧ Below w.heap.size w w' := by
  have H1 := Lib.hid h
  obtain ⟨p1, cap1, rfl, hl1⟩ := h.form
  clear h
  go_enter Tryz.func31, Tryz.ntmps31
  go_wp2
  go_loopw [3] (fun i wr => ∃ k : Nat, k ≤ l.length ∧ i = .int .i64 k ∧ Hid (Below w.heap.size w wr)) (fun i _ => l.length - (intOf i).toNat)
  case atStart => exact ⟨0, by omega, rfl, Lib.hid (Below.refl _ _)⟩
  case round =>
    obtain ⟨k, hk, rfl, HB⟩ := hrel
    by_cases hlt : k < l.length
    · obtain ⟨b1, o1, s1, rfl, hbx, hn1, hc1⟩ := (H1.out.below HB.out).at hlt
      obtain ⟨cA, hcA⟩ : ∃ c, c = nodC l[k] s1 := ⟨_, rfl⟩
      have l1 : (loadCellsFrom ⟨b1, o1 + k * 25, none⟩ 0 25 #[]).run Tryz.prog wr = .ok cA wr := by rw [hcA]; exact load_nod hc1
      have HC : Hid (Calls Tryz.prog 96 #[.agg cA] wr fun e w' => AnyB e ∧ Below wr.heap.size wr w') := by
        rw [hcA, nodC_agg]; exact f96_any wr l[k] s1 hn1
      have g1 : (0 : Int) ≤ (k : Int) := by omega
      have g2 : (k : Int) < (l.length : Int) := by omega
      clear hc1 hn1 hcA
      go_wp2_with (first
        | ((with_reducible show wpList _ _ _ (Oper.mk _ (.load 167 (.tmp 12)) _ _ _ _ :: _) _ _); refine wpList_loadAt rfl (.tmp 12) 167 rfl _ _ rfl (loadAt_of l1) ?_)
        | (go_at_call 96; with_reducible refine HC.out.mono ?_; rintro e w1 ⟨hbb, hb1⟩; obtain ⟨bb, rfl⟩ := hbb.out; clear hbb; have HB1 := Lib.hid (below_then HB.out hb1); clear hb1))
      · go_ret
        exact ⟨⟨_, rfl⟩, HB1.out⟩
      · go_roundw
        case rel => exact ⟨k + 1, by omega, by go_num, HB1⟩
        case measure => simp [intOf]; omega
    · go_wp2
      go_ret
      exact ⟨⟨_, rfl⟩, HB.out⟩

theorem f7_any (hm : Tryz.prog.follows .mixedOrders = true) (w : World) (v1 v2 : Value) (a b : List NodM) (h1 : PlanAt w v1 a) (h2 : PlanAt w v2 b) {x : Int} {e f1 f2 : Nat} (hw : w.heap[1]? = some (.cells #[.int .i64 x] e (f1, f2))) :
    Calls Tryz.prog 7 #[v1, v2] w fun e w' => e = .returned (.bool true) ∧ Below w.heap.size w w' := by
  have H30 := Lib.hid (f30_any hm w hw)
  have HA : Hid (∀ W, Below w.heap.size w W → Calls Tryz.prog 31 #[v1] W fun e w' => AnyB e ∧ Below W.heap.size W w') := fun W h => f31_any W v1 a (h1.below h)
  have HB : Hid (∀ W, Below w.heap.size w W → Calls Tryz.prog 31 #[v2] W fun e w' => AnyB e ∧ Below W.heap.size W w') := fun W h => f31_any W v2 b (h2.below h)
  obtain ⟨q, hq⟩ : ∃ c, eqL eqNod a b = c := ⟨_, rfl⟩
  have HC : Hid (∀ W, Below w.heap.size w W → Calls Tryz.prog 32 #[v1, v2] W fun e w' => e = .returned (.bool q) ∧ Below W.heap.size W w') := fun W h => hq ▸ f32_any W v1 v2 a b (h1.below h) (h2.below h)
  have HD : Hid (∀ W, Below w.heap.size w W → Calls Tryz.prog 33 #[v1, v2] W fun e w' => e = .returned (.bool q) ∧ Below W.heap.size W w') := fun W h => hq ▸ f33_any W v1 v2 a b (h1.below h) (h2.below h)
  have HE : Hid (∀ W, Below w.heap.size w W → Calls Tryz.prog 32 #[v1, v1] W fun e w' => e = .returned (.bool true) ∧ Below W.heap.size W w') := fun W h => eqL_refl eqNod_refl a ▸ f32_any W v1 v1 a a (h1.below h) (h1.below h)
  obtain ⟨p1, cap1, rfl, hl1⟩ := h1.form
  obtain ⟨p2, cap2, rfl, hl2⟩ := h2.form
  clear h1 h2 hq
  go_enter Tryz.func7, Tryz.ntmps7
  go_wp2_with (first
    | (go_at_call 30; with_reducible refine H30.out.mono ?_; rintro e w1 ⟨rfl, hb1⟩; have HW := Lib.hid hb1; clear hb1)
    | (go_at_call 31; with_reducible refine (HA.out _ HW.out).mono ?_; rintro e w2 ⟨hbb, hb2⟩; obtain ⟨b1, rfl⟩ := hbb.out; clear hbb; replace HW := Lib.hid (below_then HW.out hb2); clear hb2)
    | (go_at_call 31; with_reducible refine (HB.out _ HW.out).mono ?_; rintro e w2 ⟨hbb, hb2⟩; obtain ⟨b2, rfl⟩ := hbb.out; clear hbb; replace HW := Lib.hid (below_then HW.out hb2); clear hb2)
    | (go_at_call 32; with_reducible refine (HC.out _ HW.out).mono ?_; rintro e w2 ⟨rfl, hb2⟩; replace HW := Lib.hid (below_then HW.out hb2); clear hb2)
    | (go_at_call 33; with_reducible refine (HD.out _ HW.out).mono ?_; rintro e w2 ⟨rfl, hb2⟩; replace HW := Lib.hid (below_then HW.out hb2); clear hb2)
    | (go_at_call 32; with_reducible refine (HE.out _ HW.out).mono ?_; rintro e w2 ⟨rfl, hb2⟩; replace HW := Lib.hid (below_then HW.out hb2); clear hb2))
  all_goals go_ret
  all_goals exact ⟨rfl, HW.out⟩
end walks
end Go.Proofs.YtimahogkcmmcnaaGreatDoor
