/-
  Two plans compared by the reference: part 7: it proves that the reference's Same says whether they are equal. No conditions.
-/
import Derived.Test.YtimahogkcmmcnaaGreatDoorQ6
set_option linter.unusedSimpArgs false
set_option linter.unusedVariables false
namespace Go.Proofs.YtimahogkcmmcnaaGreatDoor
open Go.RowKit

/-- A load by a law of one's own, in a region that draws. -/
theorem wpQuiet_load {P : Program} {ops : Array Oper} {C : World → Prop} {Q : Act → Prop} {a : Act} {o : Oper} {rest : List Oper} (hw : Region.wanted o (yielded ops a.tmps) = true) (x : Operand) (t : TypeId) (ho : o.op = .load t x)
    (p v : Value) (hx : a.eval x = p) (hr : ∀ w, C w → (Instr.loadAt t p).run P w = .ok v w) (h : wpQuiet P ops C Q rest (a.put o.dst v)) : wpQuiet P ops C Q (o :: rest) a :=
  BigFrame.wpQuiet_want hw fun K hK => ⟨v, fun w hC => by
    unfold Oper.quietAt execOp
    simp only [ho, hx, Sem.run_bind, Sem.run_map, Sem.run_pure, hr w hC, Result.andThen_ok]
    exact ⟨rfl, rfl⟩, hK _ h⟩

section walks
set_option maxHeartbeats 4000000
set_option maxRecDepth 1000000

theorem f33_any (w : World) (v1 v2 : Value) (a b : List NodM) (h1 : PlanAt w v1 a) (h2 : PlanAt w v2 b) :
    Calls Tryz.prog 33 #[v1, v2] w fun e w' => e = .returned (.bool (eqL eqNod a b)) ∧ Below w.heap.size w w' := by
  have H1 := Lib.hid h1
  have H2 := Lib.hid h2
  obtain ⟨p1, cap1, rfl, hl1⟩ := h1.form
  obtain ⟨p2, cap2, rfl, hl2⟩ := h2.form
  clear h1 h2
  cases hlen : (a.length != b.length)
  · have hlen' : a.length = b.length := by simpa using hlen
    have hlen2 : ((a.length : Int) != (b.length : Int)) = false := by simp [hlen']
    have HL := Lib.hid hlen'
    clear hlen'
    go_enter Tryz.func33, Tryz.ntmps33
    go_wp2
    go_loopw [5] (fun i wr => ∃ k : Nat, k ≤ a.length ∧ i = .int .i64 k ∧ Hid (eqL eqNod (a.drop k) (b.drop k) = eqL eqNod a b) ∧ Hid (Below w.heap.size w wr)) (fun i _ => a.length - (intOf i).toNat)
    case atStart => exact ⟨0, by omega, rfl, Lib.hid rfl, Lib.hid (Below.refl _ _)⟩
    case round =>
      obtain ⟨k, hk, rfl, HV, HB⟩ := hrel
      by_cases hlt : k < a.length
      · have hlt' : k < b.length := by have := HL.out; omega
        obtain ⟨b1, o1, s1, rfl, hbx, hn1, hc1⟩ := (H1.out.below HB.out).at hlt
        obtain ⟨b2, o2, s2, rfl, hby, hn2, hc2⟩ := (H2.out.below HB.out).at hlt'
        have x1 := hc1 1 (by omega)
        have x2 := hc1 2 (by omega)
        have y1 := hc2 1 (by omega)
        have y2 := hc2 2 (by omega)
        simp only [nodL, List.getElem?_cons_zero, List.getElem?_cons_succ] at x1 x2 y1 y2
        obtain ⟨cA, hcA⟩ : ∃ c, c = nodC a[k] s1 := ⟨_, rfl⟩
        obtain ⟨cB, hcB⟩ : ∃ c, c = nodC b[k] s2 := ⟨_, rfl⟩
        have L1 : Hid (∀ W, (∃ p : Regrown, W = Sort.grow (redrawn wr p.d) p.os) → (Instr.loadAt 167 (.pointer (some ⟨b1, o1 + k * 25, none⟩))).run Tryz.prog W = .ok (.agg cA) W) := by
          rintro W ⟨p, rfl⟩
          rw [hcA]
          exact loadAt_of (load_nod fun j hj => by rw [(below_regrown wr p.d p.os).cell (p := ⟨b1, _, none⟩) hbx]; exact hc1 j hj)
        have L2 : Hid (∀ W, (∃ p : Regrown, W = Sort.grow (redrawn wr p.d) p.os) → (Instr.loadAt 167 (.pointer (some ⟨b2, o2 + k * 25, none⟩))).run Tryz.prog W = .ok (.agg cB) W) := by
          rintro W ⟨p, rfl⟩
          rw [hcB]
          exact loadAt_of (load_nod fun j hj => by rw [(below_regrown wr p.d p.os).cell (p := ⟨b2, _, none⟩) hby]; exact hc2 j hj)
        have hA := fun d os => Calls.regrown_of (f69_any (Sort.grow (redrawn wr d) os) _ _ _ _ (hn1.inputs.below (below_regrown wr d os)) (hn2.inputs.below (below_regrown wr d os)))
        have hB := fun d os => Calls.regrown_of (f99_any (Sort.grow (redrawn wr d) os) a[k] b[k] s1 s2 (hn1.below (below_regrown wr d os)) (hn2.below (below_regrown wr d os)))
        simp only [← nodC_agg, ← hcA, ← hcB] at hB
        have HC := Lib.hid hA
        have HD := Lib.hid hB
        have g1 : (0 : Int) ≤ (k : Int) := by omega
        have g2 : (k : Int) < (a.length : Int) := by omega
        have g3 : (k : Int) < (b.length : Int) := by omega
        have HS := Lib.hid (eqL_step (q := eqNod) hlt hlt')
        rw [eqNod_al] at HS
        clear hc1 hc2 hn1 hn2 hcA hcB hA hB
        generalize a[k] = X at x1 x2 HS HC HD
        generalize b[k] = Y at y1 y2 HS HC HD
        generalize eqL eqI X.inputs Y.inputs = ci at HS HC
        generalize eqAl X Y = ca at HS HD
        cases hn : (X.name.toList == Y.name.toList)
        · rw [hn] at HS
          go_wp2_with fail
          have hcl := fun d os b' o' h => (below_regrown wr d os).cell (p := ⟨b', o', none⟩) h
          refine wp_region_quiet_below (by kernel_rfl) (by kernel_rfl) ?_
          repeat (first
            | go_big_quiet_skip
            | ((with_reducible show wpQuiet _ _ _ _ (Oper.mk (some 46) _ _ _ _ _ :: _) _); refine wpQuiet_load rfl (.tmp 45) 167 rfl _ _ rfl L1.out ?_)
            | ((with_reducible show wpQuiet _ _ _ _ (Oper.mk (some 50) _ _ _ _ _ :: _) _); refine wpQuiet_load rfl (.tmp 49) 167 rfl _ _ rfl L2.out ?_)
            | quiet_step (first | with_reducible exact HC.out _ _ | with_reducible exact HD.out _ _))
          refine wpQuiet_nil ?_
          intro wq hw'
          have HQ := Lib.hid (below_then HB.out (below_of_class hw'))
          clear hw' hcl
          go_wp2_with fail
          go_ret
          exact ⟨ret_bool (by rw [← HV.out, HS.out]; simp), HQ.out⟩
        · rw [hn] at HS
          cases ci
          · skip
            go_wp2_with fail
            have hcl := fun d os b' o' h => (below_regrown wr d os).cell (p := ⟨b', o', none⟩) h
            refine wp_region_quiet_below (by kernel_rfl) (by kernel_rfl) ?_
            repeat (first
              | go_big_quiet_skip
              | ((with_reducible show wpQuiet _ _ _ _ (Oper.mk (some 46) _ _ _ _ _ :: _) _); refine wpQuiet_load rfl (.tmp 45) 167 rfl _ _ rfl L1.out ?_)
              | ((with_reducible show wpQuiet _ _ _ _ (Oper.mk (some 50) _ _ _ _ _ :: _) _); refine wpQuiet_load rfl (.tmp 49) 167 rfl _ _ rfl L2.out ?_)
              | quiet_step (first | with_reducible exact HC.out _ _ | with_reducible exact HD.out _ _))
            refine wpQuiet_nil ?_
            intro wq hw'
            have HQ := Lib.hid (below_then HB.out (below_of_class hw'))
            clear hw' hcl
            go_wp2_with fail
            go_ret
            exact ⟨ret_bool (by rw [← HV.out, HS.out]; simp), HQ.out⟩
          · cases ca
            · skip
              go_wp2_with fail
              have hcl := fun d os b' o' h => (below_regrown wr d os).cell (p := ⟨b', o', none⟩) h
              refine wp_region_quiet_below (by kernel_rfl) (by kernel_rfl) ?_
              repeat (first
                | go_big_quiet_skip
                | ((with_reducible show wpQuiet _ _ _ _ (Oper.mk (some 46) _ _ _ _ _ :: _) _); refine wpQuiet_load rfl (.tmp 45) 167 rfl _ _ rfl L1.out ?_)
                | ((with_reducible show wpQuiet _ _ _ _ (Oper.mk (some 50) _ _ _ _ _ :: _) _); refine wpQuiet_load rfl (.tmp 49) 167 rfl _ _ rfl L2.out ?_)
                | quiet_step (first | with_reducible exact HC.out _ _ | with_reducible exact HD.out _ _))
              refine wpQuiet_nil ?_
              intro wq hw'
              have HQ := Lib.hid (below_then HB.out (below_of_class hw'))
              clear hw' hcl
              go_wp2_with fail
              go_ret
              exact ⟨ret_bool (by rw [← HV.out, HS.out]; simp), HQ.out⟩
            · skip
              go_wp2_with fail
              have hcl := fun d os b' o' h => (below_regrown wr d os).cell (p := ⟨b', o', none⟩) h
              refine wp_region_quiet_below (by kernel_rfl) (by kernel_rfl) ?_
              repeat (first
                | go_big_quiet_skip
                | ((with_reducible show wpQuiet _ _ _ _ (Oper.mk (some 46) _ _ _ _ _ :: _) _); refine wpQuiet_load rfl (.tmp 45) 167 rfl _ _ rfl L1.out ?_)
                | ((with_reducible show wpQuiet _ _ _ _ (Oper.mk (some 50) _ _ _ _ _ :: _) _); refine wpQuiet_load rfl (.tmp 49) 167 rfl _ _ rfl L2.out ?_)
                | quiet_step (first | with_reducible exact HC.out _ _ | with_reducible exact HD.out _ _))
              refine wpQuiet_nil ?_
              intro wq hw'
              have HQ := Lib.hid (below_then HB.out (below_of_class hw'))
              clear hw' hcl
              go_wp2_with fail
              go_roundw
              case rel => exact ⟨k + 1, by omega, by go_num, Lib.hid (by rw [← HV.out, HS.out]; simp), HQ⟩
              case measure => simp [intOf]; omega
      · have he : eqL eqNod (a.drop k) (b.drop k) = true := by rw [List.drop_of_length_le (by omega), List.drop_of_length_le (by have := HL.out; omega)]; rfl
        rw [HV.out] at he
        have HE := Lib.hid he
        clear he
        go_wp2
        go_ret
        exact ⟨ret_bool HE.out.symm, HB.out⟩
  · have hlen2 : ((a.length : Int) != (b.length : Int)) = true := by simp at hlen ⊢; omega
    have HS := Lib.hid (eqL_len (q := eqNod) (a := a) (b := b) (by simpa using hlen))
    go_enter Tryz.func33, Tryz.ntmps33
    go_wp2
    go_ret
    exact ⟨ret_bool HS.out.symm, Below.refl _ _⟩
end walks
end Go.Proofs.YtimahogkcmmcnaaGreatDoor
