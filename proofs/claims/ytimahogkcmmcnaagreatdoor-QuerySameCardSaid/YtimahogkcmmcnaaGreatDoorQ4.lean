/-
  Two plans compared by the program, part 4: it proves that Same says whether they are equal. No conditions.
-/
import Derived.Test.YtimahogkcmmcnaaGreatDoorQL
set_option linter.unusedSimpArgs false
set_option linter.unusedVariables false
namespace Go.Proofs.YtimahogkcmmcnaaGreatDoor
open Go.RowKit
section walks
set_option maxHeartbeats 4000000
set_option maxRecDepth 1000000

theorem f97_any (w : World) (v1 v2 : Value) (a b : List NodM) (h1 : PlanAt w v1 a) (h2 : PlanAt w v2 b) :
    Calls Tryz.prog 97 #[v1, v2, .func (.func 98) #[] #[]] w fun e w' => e = .returned (.bool (eqL eqNod a b)) ∧ Below w.heap.size w w' := by
  have H1 := Lib.hid h1
  have H2 := Lib.hid h2
  obtain ⟨p1, cap1, rfl, hl1⟩ := h1.form
  obtain ⟨p2, cap2, rfl, hl2⟩ := h2.form
  clear h1 h2
  cases hlen : (a.length != b.length)
  · have hlen' : a.length = b.length := by simpa using hlen
    have hlen2 : ((a.length : Int) != (b.length : Int)) = false := by simp [hlen']
    have HL := Lib.hid hlen'
    clear hlen'
    go_enter Tryz.func97, Tryz.ntmps97
    go_wp2
    go_loopw [17] (fun i wr => ∃ k : Nat, k ≤ a.length ∧ i = .int .i64 k ∧ Hid (eqL eqNod (a.drop k) (b.drop k) = eqL eqNod a b) ∧ Hid (Below w.heap.size w wr)) (fun i _ => a.length - (intOf i).toNat)
    case atStart => exact ⟨0, by omega, rfl, Lib.hid rfl, Lib.hid (Below.refl _ _)⟩
    case round =>
      obtain ⟨k, hk, rfl, HV, HB⟩ := hrel
      by_cases hlt : k < a.length
      · have hlt' : k < b.length := by have := HL.out; omega
        obtain ⟨b1, o1, s1, rfl, hbx, hn1, hc1⟩ := (H1.out.below HB.out).at hlt
        obtain ⟨b2, o2, s2, rfl, hby, hn2, hc2⟩ := (H2.out.below HB.out).at hlt'
        obtain ⟨cA, hcA⟩ : ∃ c, c = nodC a[k] s1 := ⟨_, rfl⟩
        obtain ⟨cB, hcB⟩ : ∃ c, c = nodC b[k] s2 := ⟨_, rfl⟩
        have zA : cA.size = 25 := by rw [hcA]; exact nodC_size _ _
        have zB : cB.size = 25 := by rw [hcB]; exact nodC_size _ _
        have uA : cA.all (·.oneCell') = true := by rw [hcA]; exact nodC_one _ _
        have uB : cB.all (·.oneCell') = true := by rw [hcB]; exact nodC_one _ _
        have l1 : (loadCellsFrom ⟨b1, o1 + k * 25, none⟩ 0 25 #[]).run Tryz.prog wr = .ok cA wr := by rw [hcA]; exact load_nod hc1
        have l2 : (loadCellsFrom ⟨b2, o2 + k * 25, none⟩ 0 25 #[]).run Tryz.prog (wr.alloc (.cells cA 167)) = .ok cB (wr.alloc (.cells cA 167)) := by
          rw [hcB]
          exact load_nod fun j hj => by rw [((Below.refl _ wr).alloc (Nat.le_refl _) _).cell (p := ⟨b2, _, none⟩) hby]; exact hc2 j hj
        have t1 := store_new wr cA zA uA
        have t2 := store_new (wr.alloc (.cells cA 167)) cB zB uB
        have e1 : (wr.alloc (.cells cA 167)).heap.size = wr.heap.size + 1 := by simp
        rw [e1] at t2
        have l3 : (loadCellsFrom ⟨wr.heap.size, 0, none⟩ 0 25 #[]).run Tryz.prog ((wr.alloc (.cells cA 167)).alloc (.cells cB 167)) = .ok cA ((wr.alloc (.cells cA 167)).alloc (.cells cB 167)) :=
          load_new (by rw [Below.heap_alloc _ _ _ (by simp)]; exact Array.getElem?_push_size) zA
        have l4 : (loadCellsFrom ⟨wr.heap.size + 1, 0, none⟩ 0 25 #[]).run Tryz.prog ((wr.alloc (.cells cA 167)).alloc (.cells cB 167)) = .ok cB ((wr.alloc (.cells cA 167)).alloc (.cells cB 167)) :=
          load_new (by rw [← e1]; exact Array.getElem?_push_size) zB
        have HC : Hid (∀ W, Below wr.heap.size wr W → Calls Tryz.prog 98 #[.agg cA, .agg cB] W fun e w' => e = .returned (.bool (eqNod a[k] b[k])) ∧ Below W.heap.size W w') :=
          fun W h => by rw [hcA, hcB, nodC_agg, nodC_agg]; exact f98_any W a[k] b[k] s1 s2 (hn1.below h) (hn2.below h)
        have g1 : (0 : Int) ≤ (k : Int) := by omega
        have g2 : (k : Int) < (a.length : Int) := by omega
        have g3 : (k : Int) < (b.length : Int) := by omega
        have HS := Lib.hid (eqL_step (q := eqNod) hlt hlt')
        have HBX : Hid (∀ o o', Below wr.heap.size wr ((wr.alloc o).alloc o')) := fun o o' => ((Below.refl _ _).alloc (Nat.le_refl _) o).alloc (by simp) o'
        clear hc1 hc2 hn1 hn2 hcA hcB uA uB e1
        generalize a[k] = X at HS HC
        generalize b[k] = Y at HS HC
        go_wp2_with (first
          | ((with_reducible show wpList _ _ _ (Oper.mk _ (.load 167 (.tmp 20)) _ _ _ _ :: _) _ _); refine wpList_loadAt rfl (.tmp 20) 167 rfl _ _ rfl (loadAt_of l1) ?_)
          | ((with_reducible show wpList _ _ _ (Oper.mk _ (.load 167 (.tmp 24)) _ _ _ _ :: _) _ _); refine wpList_loadAt rfl (.tmp 24) 167 rfl _ _ rfl (loadAt_of l2) ?_)
          | ((with_reducible show wpList _ _ _ (Oper.mk _ (.load 167 (.tmp 8)) _ _ _ _ :: _) _ _); refine wpList_loadAt rfl (.tmp 8) 167 rfl _ _ rfl (loadAt_of l3) ?_)
          | ((with_reducible show wpList _ _ _ (Oper.mk _ (.load 167 (.tmp 9)) _ _ _ _ :: _) _ _); refine wpList_loadAt rfl (.tmp 9) 167 rfl _ _ rfl (loadAt_of l4) ?_)
          | (go_at_call 98; with_reducible refine (HC.out _ (HBX.out _ _)).mono ?_; rintro e w1 ⟨rfl, hb1⟩; have HB1 := Lib.hid (below_then HB.out (below_box2 hb1)); clear hb1))
        · rename_i hne
          go_ret
          exact ⟨ret_bool (by have : eqNod X Y = false := by simpa using hne
                              rw [← HV.out, HS.out, this, Bool.false_and]), HB1.out⟩
        · rename_i hne
          go_roundw
          case rel => exact ⟨k + 1, by omega, by go_num, Lib.hid (by have : eqNod X Y = true := by simpa using hne
                                                                     rw [← HV.out, HS.out, this, Bool.true_and]), HB1⟩
          case measure => simp [intOf]; omega
      · have he : eqL eqNod (a.drop k) (b.drop k) = true := by rw [List.drop_of_length_le (by omega), List.drop_of_length_le (by have := HL.out; omega)]; rfl
        rw [HV.out] at he
        have HE := Lib.hid he
        clear he
        go_wp2
        go_ret
        exact ⟨ret_bool HE.out.symm, HB.out⟩
  · have hlen2 : ((a.length : Int) != (b.length : Int)) = true := by simp at hlen ⊢; omega
    have HS := Lib.hid (eqL_len (q := eqNod) (a := a) (b := b) (by simpa using hlen))
    go_enter Tryz.func97, Tryz.ntmps97
    go_wp2
    go_ret
    exact ⟨ret_bool HS.out.symm, Below.refl _ _⟩

theorem f32_any (w : World) (v1 v2 : Value) (a b : List NodM) (h1 : PlanAt w v1 a) (h2 : PlanAt w v2 b) :
    Calls Tryz.prog 32 #[v1, v2] w fun e w' => e = .returned (.bool (eqL eqNod a b)) ∧ Below w.heap.size w w' := by
  have H := Lib.hid (f97_any w v1 v2 a b h1 h2)
  obtain ⟨p1, cap1, rfl, hl1⟩ := h1.form
  obtain ⟨p2, cap2, rfl, hl2⟩ := h2.form
  clear h1 h2
  go_enter Tryz.func32, Tryz.ntmps32
  go_wp2_with (go_at_call 97; refine H.out.mono ?_; rintro e w1 ⟨rfl, hb1⟩)
  go_ret
  exact ⟨rfl, hb1⟩
end walks
end Go.Proofs.YtimahogkcmmcnaaGreatDoor
