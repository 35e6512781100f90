/-
  slices.Equal at the types of a plan's lists; it proves that each says whether its lists are equal. No conditions.
-/
import Derived.Test.YtimahogkcmmcnaaGreatDoorQ1
set_option linter.unusedSimpArgs false
set_option linter.unusedVariables false
namespace Go.Proofs.YtimahogkcmmcnaaGreatDoor
open Go.RowKit
section walks
set_option maxHeartbeats 1000000
set_option maxRecDepth 100000

theorem f161_any (w : World) (v1 v2 : Value) (a b : List Int) (h1 : IntsAt w v1 a) (h2 : IntsAt w v2 b) :
    Calls Tryz.prog 161 #[v1, v2] w fun e w' => e = .returned (.bool (eqL eqI a b)) ∧ Below w.heap.size w w' := by
  have H1 := Lib.hid h1
  have H2 := Lib.hid h2
  obtain ⟨p1, cap1, rfl, hl1⟩ := h1.form
  obtain ⟨p2, cap2, rfl, hl2⟩ := h2.form
  clear h1 h2
  cases hlen : (a.length != b.length)
  · have hlen' : a.length = b.length := by simpa using hlen
    have hlen2 : ((a.length : Int) != (b.length : Int)) = false := by simp [hlen']
    have HL := Lib.hid hlen'
    clear hlen'
    go_enter Tryz.func161, Tryz.ntmps161
    go_wp2
    go_loopw [13] (fun i wr => ∃ k : Nat, k ≤ a.length ∧ i = .int .i64 k ∧ eqL eqI (a.drop k) (b.drop k) = eqL eqI a b ∧ Below w.heap.size w wr) (fun i _ => a.length - (intOf i).toNat)
    case atStart => exact ⟨0, by omega, rfl, rfl, Below.refl _ _⟩
    case round =>
      obtain ⟨k, hk, rfl, hv, hb⟩ := hrel
      have HV := Lib.hid hv
      clear hv
      by_cases hlt : k < a.length
      · have hlt' : k < b.length := by have := HL.out; omega
        obtain ⟨b1, o1, rfl, hbx, -, hc1⟩ := (H1.out.below hb).at hlt
        obtain ⟨b2, o2, rfl, hby, -, hc2⟩ := (H2.out.below hb).at hlt'
        have x0 := hc1 0 (by omega)
        have y0 := hc2 0 (by omega)
        simp only [Nat.mul_one, Nat.add_zero, List.getElem?_cons_zero, List.getElem?_cons_succ] at x0
        simp only [Nat.mul_one, Nat.add_zero, List.getElem?_cons_zero, List.getElem?_cons_succ] at y0
        have HB := Lib.hid hb
        clear hb hc1 hc2
        have g1 : (0 : Int) ≤ (k : Int) := by omega
        have g2 : (k : Int) < (a.length : Int) := by omega
        have g3 : (k : Int) < (b.length : Int) := by omega
        have hst := eqL_step (q := eqI) hlt hlt'
        have HS := Lib.hid hst
        clear hst
        generalize hX : a[k] = X at x0 HS
        generalize hY : b[k] = Y at y0 HS
        clear hX hY
        go_wp2_with fail
        have hcl := fun d os b' o' h => (below_regrown wr d os).cell (p := ⟨b', o', none⟩) h
        refine wp_region_quiet_below (by kernel_rfl) (by kernel_rfl) ?_
        repeat (quiet_step (fail))
        refine wpQuiet_nil ?_
        intro wq hw'
        have hq := below_of_class hw'
        clear hw' hcl
        have hbb := below_then HB.out hq
        rw [show ((X != Y) : Bool) = !(eqI X Y) from rfl]
        cases hev : eqI X Y
        · go_wp2_with fail
          go_ret
          exact ⟨ret_bool (by rw [← HV.out, HS.out, hev, Bool.false_and]), hbb⟩
        · go_wp2_with fail
          go_roundw
          case rel => exact ⟨k + 1, by omega, by go_num, by rw [← HV.out, HS.out, hev, Bool.true_and], hbb⟩
          case measure => simp [intOf]; omega
      · have he : eqL eqI (a.drop k) (b.drop k) = true := by rw [List.drop_of_length_le (by omega), List.drop_of_length_le (by have := HL.out; omega)]; rfl
        rw [HV.out] at he
        have HE := Lib.hid he
        clear he
        go_wp2
        go_ret
        exact ⟨ret_bool HE.out.symm, hb⟩
  · have hlen2 : ((a.length : Int) != (b.length : Int)) = true := by simp at hlen ⊢; omega
    have hs := eqL_len (q := eqI) (a := a) (b := b) (by simpa using hlen)
    have HS := Lib.hid hs
    clear hs
    go_enter Tryz.func161, Tryz.ntmps161
    go_wp2
    go_ret
    exact ⟨ret_bool HS.out.symm, Below.refl _ _⟩

theorem run_eqCol71 (w : World) (x y : ColM) : (Op.equalIn 10000 71 (.agg #[.string x.n, .int .i64 x.k]) (.agg #[.string y.n, .int .i64 y.k])).run Tryz.prog w = .ok (eqCol x y) w := by
  have u3 := Tryz.underlying3
  have u9 := Tryz.underlying9
  have a3 := Tryz.isAgg3
  have a9 := Tryz.isAgg9
  have z3 := Tryz.sizeOf3
  have z9 := Tryz.sizeOf9
  have hS : Tryz.prog.underlying 71 = some (.struct (Tryz.prog.fieldsOf 71)) := by kernel_rfl
  have hp : Tryz.prog.stoodInHeld 71 = false := by kernel_rfl
  rw [show (10000 : Nat) = 9999 + 1 from rfl, run_equalIn_agg w 9999 71 _ _ hS hp]
  simp only [Program.fieldsOf, Tryz.underlying71]
  go_simp
  simp only [eqCol, eqS]
  by_cases h1 : x.n.toList = y.n.toList <;> by_cases h2 : x.k = y.k <;> simp [h1, h2]

theorem f162_any (w : World) (v1 v2 : Value) (a b : List ColM) (h1 : ColsAt w v1 a) (h2 : ColsAt w v2 b) :
    Calls Tryz.prog 162 #[v1, v2] w fun e w' => e = .returned (.bool (eqL eqCol a b)) ∧ Below w.heap.size w w' := by
  have H1 := Lib.hid h1
  have H2 := Lib.hid h2
  obtain ⟨p1, cap1, rfl, hl1⟩ := h1.form
  obtain ⟨p2, cap2, rfl, hl2⟩ := h2.form
  clear h1 h2
  cases hlen : (a.length != b.length)
  · have hlen' : a.length = b.length := by simpa using hlen
    have hlen2 : ((a.length : Int) != (b.length : Int)) = false := by simp [hlen']
    have HL := Lib.hid hlen'
    clear hlen'
    go_enter Tryz.func162, Tryz.ntmps162
    go_wp2
    go_loopw [13] (fun i wr => ∃ k : Nat, k ≤ a.length ∧ i = .int .i64 k ∧ eqL eqCol (a.drop k) (b.drop k) = eqL eqCol a b ∧ Below w.heap.size w wr) (fun i _ => a.length - (intOf i).toNat)
    case atStart => exact ⟨0, by omega, rfl, rfl, Below.refl _ _⟩
    case round =>
      obtain ⟨k, hk, rfl, hv, hb⟩ := hrel
      have HV := Lib.hid hv
      clear hv
      by_cases hlt : k < a.length
      · have hlt' : k < b.length := by have := HL.out; omega
        obtain ⟨b1, o1, rfl, hbx, -, hc1⟩ := (H1.out.below hb).at hlt
        obtain ⟨b2, o2, rfl, hby, -, hc2⟩ := (H2.out.below hb).at hlt'
        have x0 := hc1 0 (by omega)
        have x1 := hc1 1 (by omega)
        have y0 := hc2 0 (by omega)
        have y1 := hc2 1 (by omega)
        simp only [Nat.add_zero, List.getElem?_cons_zero, List.getElem?_cons_succ] at x0
        simp only [Nat.add_zero, List.getElem?_cons_zero, List.getElem?_cons_succ] at x1
        simp only [Nat.add_zero, List.getElem?_cons_zero, List.getElem?_cons_succ] at y0
        simp only [Nat.add_zero, List.getElem?_cons_zero, List.getElem?_cons_succ] at y1
        have HB := Lib.hid hb
        clear hb hc1 hc2
        have g1 : (0 : Int) ≤ (k : Int) := by omega
        have g2 : (k : Int) < (a.length : Int) := by omega
        have g3 : (k : Int) < (b.length : Int) := by omega
        have hst := eqL_step (q := eqCol) hlt hlt'
        have HS := Lib.hid hst
        clear hst
        generalize hX : a[k] = X at x0 x1 HS
        generalize hY : b[k] = Y at y0 y1 HS
        clear hX hY
        go_wp2_with fail
        have hcl := fun d os b' o' h => (below_regrown wr d os).cell (p := ⟨b', o', none⟩) h
        refine wp_region_quiet_below (by kernel_rfl) (by kernel_rfl) ?_
        repeat (quiet_step (fail))
        refine wpQuiet_step (fun K hK => ?_)
        go_simp
        refine ⟨.bool !(eqCol X Y), fun p => ?_, hK _ ?_⟩
        · by_cases h1 : X.n.toList = Y.n.toList <;> by_cases h2 : X.k = Y.k <;> simp [h1, h2, eqCol, eqS]
        clear hK K
        refine wpQuiet_nil ?_
        intro wq hw'
        have hq := below_of_class hw'
        clear hw' hcl
        have hbb := below_then HB.out hq
        cases hev : eqCol X Y
        · go_wp2_with fail
          go_ret
          exact ⟨ret_bool (by rw [← HV.out, HS.out, hev, Bool.false_and]), hbb⟩
        · go_wp2_with fail
          go_roundw
          case rel => exact ⟨k + 1, by omega, by go_num, by rw [← HV.out, HS.out, hev, Bool.true_and], hbb⟩
          case measure => simp [intOf]; omega
      · have he : eqL eqCol (a.drop k) (b.drop k) = true := by rw [List.drop_of_length_le (by omega), List.drop_of_length_le (by have := HL.out; omega)]; rfl
        rw [HV.out] at he
        have HE := Lib.hid he
        clear he
        go_wp2
        go_ret
        exact ⟨ret_bool HE.out.symm, hb⟩
  · have hlen2 : ((a.length : Int) != (b.length : Int)) = true := by simp at hlen ⊢; omega
    have hs := eqL_len (q := eqCol) (a := a) (b := b) (by simpa using hlen)
    have HS := Lib.hid hs
    clear hs
    go_enter Tryz.func162, Tryz.ntmps162
    go_wp2
    go_ret
    exact ⟨ret_bool HS.out.symm, Below.refl _ _⟩

theorem f163_any (w : World) (v1 v2 : Value) (a b : List ByteArray) (h1 : StrsAt w v1 a) (h2 : StrsAt w v2 b) :
    Calls Tryz.prog 163 #[v1, v2] w fun e w' => e = .returned (.bool (eqL eqS a b)) ∧ Below w.heap.size w w' := by
  have H1 := Lib.hid h1
  have H2 := Lib.hid h2
  obtain ⟨p1, cap1, rfl, hl1⟩ := h1.form
  obtain ⟨p2, cap2, rfl, hl2⟩ := h2.form
  clear h1 h2
  cases hlen : (a.length != b.length)
  · have hlen' : a.length = b.length := by simpa using hlen
    have hlen2 : ((a.length : Int) != (b.length : Int)) = false := by simp [hlen']
    have HL := Lib.hid hlen'
    clear hlen'
    go_enter Tryz.func163, Tryz.ntmps163
    go_wp2
    go_loopw [13] (fun i wr => ∃ k : Nat, k ≤ a.length ∧ i = .int .i64 k ∧ eqL eqS (a.drop k) (b.drop k) = eqL eqS a b ∧ Below w.heap.size w wr) (fun i _ => a.length - (intOf i).toNat)
    case atStart => exact ⟨0, by omega, rfl, rfl, Below.refl _ _⟩
    case round =>
      obtain ⟨k, hk, rfl, hv, hb⟩ := hrel
      have HV := Lib.hid hv
      clear hv
      by_cases hlt : k < a.length
      · have hlt' : k < b.length := by have := HL.out; omega
        obtain ⟨b1, o1, rfl, hbx, -, hc1⟩ := (H1.out.below hb).at hlt
        obtain ⟨b2, o2, rfl, hby, -, hc2⟩ := (H2.out.below hb).at hlt'
        have x0 := hc1 0 (by omega)
        have y0 := hc2 0 (by omega)
        simp only [Nat.mul_one, Nat.add_zero, List.getElem?_cons_zero, List.getElem?_cons_succ] at x0
        simp only [Nat.mul_one, Nat.add_zero, List.getElem?_cons_zero, List.getElem?_cons_succ] at y0
        have HB := Lib.hid hb
        clear hb hc1 hc2
        have g1 : (0 : Int) ≤ (k : Int) := by omega
        have g2 : (k : Int) < (a.length : Int) := by omega
        have g3 : (k : Int) < (b.length : Int) := by omega
        have hst := eqL_step (q := eqS) hlt hlt'
        have HS := Lib.hid hst
        clear hst
        generalize hX : a[k] = X at x0 HS
        generalize hY : b[k] = Y at y0 HS
        clear hX hY
        go_wp2_with fail
        have hcl := fun d os b' o' h => (below_regrown wr d os).cell (p := ⟨b', o', none⟩) h
        refine wp_region_quiet_below (by kernel_rfl) (by kernel_rfl) ?_
        repeat (quiet_step (fail))
        refine wpQuiet_nil ?_
        intro wq hw'
        have hq := below_of_class hw'
        clear hw' hcl
        have hbb := below_then HB.out hq
        rw [show ((!(X.toList == Y.toList)) : Bool) = !(eqS X Y) from rfl]
        cases hev : eqS X Y
        · go_wp2_with fail
          go_ret
          exact ⟨ret_bool (by rw [← HV.out, HS.out, hev, Bool.false_and]), hbb⟩
        · go_wp2_with fail
          go_roundw
          case rel => exact ⟨k + 1, by omega, by go_num, by rw [← HV.out, HS.out, hev, Bool.true_and], hbb⟩
          case measure => simp [intOf]; omega
      · have he : eqL eqS (a.drop k) (b.drop k) = true := by rw [List.drop_of_length_le (by omega), List.drop_of_length_le (by have := HL.out; omega)]; rfl
        rw [HV.out] at he
        have HE := Lib.hid he
        clear he
        go_wp2
        go_ret
        exact ⟨ret_bool HE.out.symm, hb⟩
  · have hlen2 : ((a.length : Int) != (b.length : Int)) = true := by simp at hlen ⊢; omega
    have hs := eqL_len (q := eqS) (a := a) (b := b) (by simpa using hlen)
    have HS := Lib.hid hs
    clear hs
    go_enter Tryz.func163, Tryz.ntmps163
    go_wp2
    go_ret
    exact ⟨ret_bool HS.out.symm, Below.refl _ _⟩

theorem run_eqAgg243 (w : World) (x y : AggM) : (Op.equalIn 10000 243 (.agg #[.int .i64 x.k, .int .i64 x.c]) (.agg #[.int .i64 y.k, .int .i64 y.c])).run Tryz.prog w = .ok (eqAgg x y) w := by
  have u3 := Tryz.underlying3
  have u9 := Tryz.underlying9
  have a3 := Tryz.isAgg3
  have a9 := Tryz.isAgg9
  have z3 := Tryz.sizeOf3
  have z9 := Tryz.sizeOf9
  have hS : Tryz.prog.underlying 243 = some (.struct (Tryz.prog.fieldsOf 243)) := by kernel_rfl
  have hp : Tryz.prog.stoodInHeld 243 = false := by kernel_rfl
  rw [show (10000 : Nat) = 9999 + 1 from rfl, run_equalIn_agg w 9999 243 _ _ hS hp]
  simp only [Program.fieldsOf, Tryz.underlying243]
  go_simp
  simp only [eqAgg, eqS]
  by_cases h1 : x.k = y.k <;> by_cases h2 : x.c = y.c <;> simp [h1, h2]

theorem f164_any (w : World) (v1 v2 : Value) (a b : List AggM) (h1 : AggsAt w v1 a) (h2 : AggsAt w v2 b) :
    Calls Tryz.prog 164 #[v1, v2] w fun e w' => e = .returned (.bool (eqL eqAgg a b)) ∧ Below w.heap.size w w' := by
  have H1 := Lib.hid h1
  have H2 := Lib.hid h2
  obtain ⟨p1, cap1, rfl, hl1⟩ := h1.form
  obtain ⟨p2, cap2, rfl, hl2⟩ := h2.form
  clear h1 h2
  cases hlen : (a.length != b.length)
  · have hlen' : a.length = b.length := by simpa using hlen
    have hlen2 : ((a.length : Int) != (b.length : Int)) = false := by simp [hlen']
    have HL := Lib.hid hlen'
    clear hlen'
    go_enter Tryz.func164, Tryz.ntmps164
    go_wp2
    go_loopw [13] (fun i wr => ∃ k : Nat, k ≤ a.length ∧ i = .int .i64 k ∧ eqL eqAgg (a.drop k) (b.drop k) = eqL eqAgg a b ∧ Below w.heap.size w wr) (fun i _ => a.length - (intOf i).toNat)
    case atStart => exact ⟨0, by omega, rfl, rfl, Below.refl _ _⟩
    case round =>
      obtain ⟨k, hk, rfl, hv, hb⟩ := hrel
      have HV := Lib.hid hv
      clear hv
      by_cases hlt : k < a.length
      · have hlt' : k < b.length := by have := HL.out; omega
        obtain ⟨b1, o1, rfl, hbx, -, hc1⟩ := (H1.out.below hb).at hlt
        obtain ⟨b2, o2, rfl, hby, -, hc2⟩ := (H2.out.below hb).at hlt'
        have x0 := hc1 0 (by omega)
        have x1 := hc1 1 (by omega)
        have y0 := hc2 0 (by omega)
        have y1 := hc2 1 (by omega)
        simp only [Nat.add_zero, List.getElem?_cons_zero, List.getElem?_cons_succ] at x0
        simp only [Nat.add_zero, List.getElem?_cons_zero, List.getElem?_cons_succ] at x1
        simp only [Nat.add_zero, List.getElem?_cons_zero, List.getElem?_cons_succ] at y0
        simp only [Nat.add_zero, List.getElem?_cons_zero, List.getElem?_cons_succ] at y1
        have HB := Lib.hid hb
        clear hb hc1 hc2
        have g1 : (0 : Int) ≤ (k : Int) := by omega
        have g2 : (k : Int) < (a.length : Int) := by omega
        have g3 : (k : Int) < (b.length : Int) := by omega
        have hst := eqL_step (q := eqAgg) hlt hlt'
        have HS := Lib.hid hst
        clear hst
        generalize hX : a[k] = X at x0 x1 HS
        generalize hY : b[k] = Y at y0 y1 HS
        clear hX hY
        go_wp2_with fail
        have hcl := fun d os b' o' h => (below_regrown wr d os).cell (p := ⟨b', o', none⟩) h
        refine wp_region_quiet_below (by kernel_rfl) (by kernel_rfl) ?_
        repeat (quiet_step (fail))
        refine wpQuiet_step (fun K hK => ?_)
        go_simp
        refine ⟨.bool !(eqAgg X Y), fun p => ?_, hK _ ?_⟩
        · by_cases h1 : X.k = Y.k <;> by_cases h2 : X.c = Y.c <;> simp [h1, h2, eqAgg, eqS]
        clear hK K
        refine wpQuiet_nil ?_
        intro wq hw'
        have hq := below_of_class hw'
        clear hw' hcl
        have hbb := below_then HB.out hq
        cases hev : eqAgg X Y
        · go_wp2_with fail
          go_ret
          exact ⟨ret_bool (by rw [← HV.out, HS.out, hev, Bool.false_and]), hbb⟩
        · go_wp2_with fail
          go_roundw
          case rel => exact ⟨k + 1, by omega, by go_num, by rw [← HV.out, HS.out, hev, Bool.true_and], hbb⟩
          case measure => simp [intOf]; omega
      · have he : eqL eqAgg (a.drop k) (b.drop k) = true := by rw [List.drop_of_length_le (by omega), List.drop_of_length_le (by have := HL.out; omega)]; rfl
        rw [HV.out] at he
        have HE := Lib.hid he
        clear he
        go_wp2
        go_ret
        exact ⟨ret_bool HE.out.symm, hb⟩
  · have hlen2 : ((a.length : Int) != (b.length : Int)) = true := by simp at hlen ⊢; omega
    have hs := eqL_len (q := eqAgg) (a := a) (b := b) (by simpa using hlen)
    have HS := Lib.hid hs
    clear hs
    go_enter Tryz.func164, Tryz.ntmps164
    go_wp2
    go_ret
    exact ⟨ret_bool HS.out.symm, Below.refl _ _⟩

theorem run_eqStg73 (w : World) (x y : StgM) : (Op.equalIn 10000 73 (.agg #[.string x.n, .string x.c, .int .i64 x.f, .string x.u]) (.agg #[.string y.n, .string y.c, .int .i64 y.f, .string y.u])).run Tryz.prog w = .ok (eqStg x y) w := by
  have u3 := Tryz.underlying3
  have u9 := Tryz.underlying9
  have a3 := Tryz.isAgg3
  have a9 := Tryz.isAgg9
  have z3 := Tryz.sizeOf3
  have z9 := Tryz.sizeOf9
  have hS : Tryz.prog.underlying 73 = some (.struct (Tryz.prog.fieldsOf 73)) := by kernel_rfl
  have hp : Tryz.prog.stoodInHeld 73 = false := by kernel_rfl
  rw [show (10000 : Nat) = 9999 + 1 from rfl, run_equalIn_agg w 9999 73 _ _ hS hp]
  simp only [Program.fieldsOf, Tryz.underlying73]
  go_simp
  simp only [eqStg, eqS]
  by_cases h1 : x.n.toList = y.n.toList <;> by_cases h2 : x.c.toList = y.c.toList <;> by_cases h3 : x.f = y.f <;> by_cases h4 : x.u.toList = y.u.toList <;> simp [h1, h2, h3, h4]

theorem f165_any (w : World) (v1 v2 : Value) (a b : List StgM) (h1 : StgsAt w v1 a) (h2 : StgsAt w v2 b) :
    Calls Tryz.prog 165 #[v1, v2] w fun e w' => e = .returned (.bool (eqL eqStg a b)) ∧ Below w.heap.size w w' := by
  have H1 := Lib.hid h1
  have H2 := Lib.hid h2
  obtain ⟨p1, cap1, rfl, hl1⟩ := h1.form
  obtain ⟨p2, cap2, rfl, hl2⟩ := h2.form
  clear h1 h2
  cases hlen : (a.length != b.length)
  · have hlen' : a.length = b.length := by simpa using hlen
    have hlen2 : ((a.length : Int) != (b.length : Int)) = false := by simp [hlen']
    have HL := Lib.hid hlen'
    clear hlen'
    go_enter Tryz.func165, Tryz.ntmps165
    go_wp2
    go_loopw [13] (fun i wr => ∃ k : Nat, k ≤ a.length ∧ i = .int .i64 k ∧ eqL eqStg (a.drop k) (b.drop k) = eqL eqStg a b ∧ Below w.heap.size w wr) (fun i _ => a.length - (intOf i).toNat)
    case atStart => exact ⟨0, by omega, rfl, rfl, Below.refl _ _⟩
    case round =>
      obtain ⟨k, hk, rfl, hv, hb⟩ := hrel
      have HV := Lib.hid hv
      clear hv
      by_cases hlt : k < a.length
      · have hlt' : k < b.length := by have := HL.out; omega
        obtain ⟨b1, o1, rfl, hbx, -, hc1⟩ := (H1.out.below hb).at hlt
        obtain ⟨b2, o2, rfl, hby, -, hc2⟩ := (H2.out.below hb).at hlt'
        have x0 := hc1 0 (by omega)
        have x1 := hc1 1 (by omega)
        have x2 := hc1 2 (by omega)
        have x3 := hc1 3 (by omega)
        have y0 := hc2 0 (by omega)
        have y1 := hc2 1 (by omega)
        have y2 := hc2 2 (by omega)
        have y3 := hc2 3 (by omega)
        simp only [Nat.add_zero, List.getElem?_cons_zero, List.getElem?_cons_succ] at x0
        simp only [Nat.add_zero, List.getElem?_cons_zero, List.getElem?_cons_succ] at x1
        simp only [Nat.add_zero, List.getElem?_cons_zero, List.getElem?_cons_succ] at x2
        simp only [Nat.add_zero, List.getElem?_cons_zero, List.getElem?_cons_succ] at x3
        simp only [Nat.add_zero, List.getElem?_cons_zero, List.getElem?_cons_succ] at y0
        simp only [Nat.add_zero, List.getElem?_cons_zero, List.getElem?_cons_succ] at y1
        simp only [Nat.add_zero, List.getElem?_cons_zero, List.getElem?_cons_succ] at y2
        simp only [Nat.add_zero, List.getElem?_cons_zero, List.getElem?_cons_succ] at y3
        have HB := Lib.hid hb
        clear hb hc1 hc2
        have g1 : (0 : Int) ≤ (k : Int) := by omega
        have g2 : (k : Int) < (a.length : Int) := by omega
        have g3 : (k : Int) < (b.length : Int) := by omega
        have hst := eqL_step (q := eqStg) hlt hlt'
        have HS := Lib.hid hst
        clear hst
        generalize hX : a[k] = X at x0 x1 x2 x3 HS
        generalize hY : b[k] = Y at y0 y1 y2 y3 HS
        clear hX hY
        go_wp2_with fail
        have hcl := fun d os b' o' h => (below_regrown wr d os).cell (p := ⟨b', o', none⟩) h
        refine wp_region_quiet_below (by kernel_rfl) (by kernel_rfl) ?_
        repeat (quiet_step (fail))
        refine wpQuiet_step (fun K hK => ?_)
        go_simp
        refine ⟨.bool !(eqStg X Y), fun p => ?_, hK _ ?_⟩
        · by_cases h1 : X.n.toList = Y.n.toList <;> by_cases h2 : X.c.toList = Y.c.toList <;> by_cases h3 : X.f = Y.f <;> by_cases h4 : X.u.toList = Y.u.toList <;> simp [h1, h2, h3, h4, eqStg, eqS]
        clear hK K
        refine wpQuiet_nil ?_
        intro wq hw'
        have hq := below_of_class hw'
        clear hw' hcl
        have hbb := below_then HB.out hq
        cases hev : eqStg X Y
        · go_wp2_with fail
          go_ret
          exact ⟨ret_bool (by rw [← HV.out, HS.out, hev, Bool.false_and]), hbb⟩
        · go_wp2_with fail
          go_roundw
          case rel => exact ⟨k + 1, by omega, by go_num, by rw [← HV.out, HS.out, hev, Bool.true_and], hbb⟩
          case measure => simp [intOf]; omega
      · have he : eqL eqStg (a.drop k) (b.drop k) = true := by rw [List.drop_of_length_le (by omega), List.drop_of_length_le (by have := HL.out; omega)]; rfl
        rw [HV.out] at he
        have HE := Lib.hid he
        clear he
        go_wp2
        go_ret
        exact ⟨ret_bool HE.out.symm, hb⟩
  · have hlen2 : ((a.length : Int) != (b.length : Int)) = true := by simp at hlen ⊢; omega
    have hs := eqL_len (q := eqStg) (a := a) (b := b) (by simpa using hlen)
    have HS := Lib.hid hs
    clear hs
    go_enter Tryz.func165, Tryz.ntmps165
    go_wp2
    go_ret
    exact ⟨ret_bool HS.out.symm, Below.refl _ _⟩

theorem f69_any (w : World) (v1 v2 : Value) (a b : List Int) (h1 : IntsAt w v1 a) (h2 : IntsAt w v2 b) :
    Calls Tryz.prog 69 #[v1, v2] w fun e w' => e = .returned (.bool (eqL eqI a b)) ∧ Below w.heap.size w w' := by
  have H1 := Lib.hid h1
  have H2 := Lib.hid h2
  obtain ⟨p1, cap1, rfl, hl1⟩ := h1.form
  obtain ⟨p2, cap2, rfl, hl2⟩ := h2.form
  clear h1 h2
  cases hlen : (a.length != b.length)
  · have hlen' : a.length = b.length := by simpa using hlen
    have hlen2 : ((a.length : Int) != (b.length : Int)) = false := by simp [hlen']
    have HL := Lib.hid hlen'
    clear hlen'
    go_enter Tryz.func69, Tryz.ntmps69
    go_wp2
    go_loopw [5] (fun i wr => ∃ k : Nat, k ≤ a.length ∧ i = .int .i64 k ∧ eqL eqI (a.drop k) (b.drop k) = eqL eqI a b ∧ Below w.heap.size w wr) (fun i _ => a.length - (intOf i).toNat)
    case atStart => exact ⟨0, by omega, rfl, rfl, Below.refl _ _⟩
    case round =>
      obtain ⟨k, hk, rfl, hv, hb⟩ := hrel
      have HV := Lib.hid hv
      clear hv
      by_cases hlt : k < a.length
      · have hlt' : k < b.length := by have := HL.out; omega
        obtain ⟨b1, o1, rfl, hbx, -, hc1⟩ := (H1.out.below hb).at hlt
        obtain ⟨b2, o2, rfl, hby, -, hc2⟩ := (H2.out.below hb).at hlt'
        have x0 := hc1 0 (by omega)
        have y0 := hc2 0 (by omega)
        simp only [Nat.mul_one, Nat.add_zero, List.getElem?_cons_zero, List.getElem?_cons_succ] at x0
        simp only [Nat.mul_one, Nat.add_zero, List.getElem?_cons_zero, List.getElem?_cons_succ] at y0
        have HB := Lib.hid hb
        clear hb hc1 hc2
        have g1 : (0 : Int) ≤ (k : Int) := by omega
        have g2 : (k : Int) < (a.length : Int) := by omega
        have g3 : (k : Int) < (b.length : Int) := by omega
        have hst := eqL_step (q := eqI) hlt hlt'
        have HS := Lib.hid hst
        clear hst
        generalize hX : a[k] = X at x0 HS
        generalize hY : b[k] = Y at y0 HS
        clear hX hY
        go_wp2_with fail
        have hcl := fun d os b' o' h => (below_regrown wr d os).cell (p := ⟨b', o', none⟩) h
        refine wp_region_quiet_below (by kernel_rfl) (by kernel_rfl) ?_
        repeat (quiet_step (fail))
        refine wpQuiet_nil ?_
        intro wq hw'
        have hq := below_of_class hw'
        clear hw' hcl
        have hbb := below_then HB.out hq
        rw [show ((X != Y) : Bool) = !(eqI X Y) from rfl]
        cases hev : eqI X Y
        · go_wp2_with fail
          go_ret
          exact ⟨ret_bool (by rw [← HV.out, HS.out, hev, Bool.false_and]), hbb⟩
        · go_wp2_with fail
          go_roundw
          case rel => exact ⟨k + 1, by omega, by go_num, by rw [← HV.out, HS.out, hev, Bool.true_and], hbb⟩
          case measure => simp [intOf]; omega
      · have he : eqL eqI (a.drop k) (b.drop k) = true := by rw [List.drop_of_length_le (by omega), List.drop_of_length_le (by have := HL.out; omega)]; rfl
        rw [HV.out] at he
        have HE := Lib.hid he
        clear he
        go_wp2
        go_ret
        exact ⟨ret_bool HE.out.symm, hb⟩
  · have hlen2 : ((a.length : Int) != (b.length : Int)) = true := by simp at hlen ⊢; omega
    have hs := eqL_len (q := eqI) (a := a) (b := b) (by simpa using hlen)
    have HS := Lib.hid hs
    clear hs
    go_enter Tryz.func69, Tryz.ntmps69
    go_wp2
    go_ret
    exact ⟨ret_bool HS.out.symm, Below.refl _ _⟩

theorem f68_any (w : World) (v1 v2 : Value) (a b : List ByteArray) (h1 : StrsAt w v1 a) (h2 : StrsAt w v2 b) :
    Calls Tryz.prog 68 #[v1, v2] w fun e w' => e = .returned (.bool (eqL eqS a b)) ∧ Below w.heap.size w w' := by
  have H1 := Lib.hid h1
  have H2 := Lib.hid h2
  obtain ⟨p1, cap1, rfl, hl1⟩ := h1.form
  obtain ⟨p2, cap2, rfl, hl2⟩ := h2.form
  clear h1 h2
  cases hlen : (a.length != b.length)
  · have hlen' : a.length = b.length := by simpa using hlen
    have hlen2 : ((a.length : Int) != (b.length : Int)) = false := by simp [hlen']
    have HL := Lib.hid hlen'
    clear hlen'
    go_enter Tryz.func68, Tryz.ntmps68
    go_wp2
    go_loopw [5] (fun i wr => ∃ k : Nat, k ≤ a.length ∧ i = .int .i64 k ∧ eqL eqS (a.drop k) (b.drop k) = eqL eqS a b ∧ Below w.heap.size w wr) (fun i _ => a.length - (intOf i).toNat)
    case atStart => exact ⟨0, by omega, rfl, rfl, Below.refl _ _⟩
    case round =>
      obtain ⟨k, hk, rfl, hv, hb⟩ := hrel
      have HV := Lib.hid hv
      clear hv
      by_cases hlt : k < a.length
      · have hlt' : k < b.length := by have := HL.out; omega
        obtain ⟨b1, o1, rfl, hbx, -, hc1⟩ := (H1.out.below hb).at hlt
        obtain ⟨b2, o2, rfl, hby, -, hc2⟩ := (H2.out.below hb).at hlt'
        have x0 := hc1 0 (by omega)
        have y0 := hc2 0 (by omega)
        simp only [Nat.mul_one, Nat.add_zero, List.getElem?_cons_zero, List.getElem?_cons_succ] at x0
        simp only [Nat.mul_one, Nat.add_zero, List.getElem?_cons_zero, List.getElem?_cons_succ] at y0
        have HB := Lib.hid hb
        clear hb hc1 hc2
        have g1 : (0 : Int) ≤ (k : Int) := by omega
        have g2 : (k : Int) < (a.length : Int) := by omega
        have g3 : (k : Int) < (b.length : Int) := by omega
        have hst := eqL_step (q := eqS) hlt hlt'
        have HS := Lib.hid hst
        clear hst
        generalize hX : a[k] = X at x0 HS
        generalize hY : b[k] = Y at y0 HS
        clear hX hY
        go_wp2_with fail
        have hcl := fun d os b' o' h => (below_regrown wr d os).cell (p := ⟨b', o', none⟩) h
        refine wp_region_quiet_below (by kernel_rfl) (by kernel_rfl) ?_
        repeat (quiet_step (fail))
        refine wpQuiet_nil ?_
        intro wq hw'
        have hq := below_of_class hw'
        clear hw' hcl
        have hbb := below_then HB.out hq
        rw [show ((!(X.toList == Y.toList)) : Bool) = !(eqS X Y) from rfl]
        cases hev : eqS X Y
        · go_wp2_with fail
          go_ret
          exact ⟨ret_bool (by rw [← HV.out, HS.out, hev, Bool.false_and]), hbb⟩
        · go_wp2_with fail
          go_roundw
          case rel => exact ⟨k + 1, by omega, by go_num, by rw [← HV.out, HS.out, hev, Bool.true_and], hbb⟩
          case measure => simp [intOf]; omega
      · have he : eqL eqS (a.drop k) (b.drop k) = true := by rw [List.drop_of_length_le (by omega), List.drop_of_length_le (by have := HL.out; omega)]; rfl
        rw [HV.out] at he
        have HE := Lib.hid he
        clear he
        go_wp2
        go_ret
        exact ⟨ret_bool HE.out.symm, hb⟩
  · have hlen2 : ((a.length : Int) != (b.length : Int)) = true := by simp at hlen ⊢; omega
    have hs := eqL_len (q := eqS) (a := a) (b := b) (by simpa using hlen)
    have HS := Lib.hid hs
    clear hs
    go_enter Tryz.func68, Tryz.ntmps68
    go_wp2
    go_ret
    exact ⟨ret_bool HS.out.symm, Below.refl _ _⟩

theorem f166_any (w : World) (v1 v2 : Value) (a b : List ColM) (h1 : ColsAt w v1 a) (h2 : ColsAt w v2 b) :
    Calls Tryz.prog 166 #[v1, v2] w fun e w' => e = .returned (.bool (eqL eqCol a b)) ∧ Below w.heap.size w w' := by
  have H1 := Lib.hid h1
  have H2 := Lib.hid h2
  obtain ⟨p1, cap1, rfl, hl1⟩ := h1.form
  obtain ⟨p2, cap2, rfl, hl2⟩ := h2.form
  clear h1 h2
  cases hlen : (a.length != b.length)
  · have hlen' : a.length = b.length := by simpa using hlen
    have hlen2 : ((a.length : Int) != (b.length : Int)) = false := by simp [hlen']
    have HL := Lib.hid hlen'
    clear hlen'
    go_enter Tryz.func166, Tryz.ntmps166
    go_wp2
    go_loopw [5] (fun i wr => ∃ k : Nat, k ≤ a.length ∧ i = .int .i64 k ∧ eqL eqCol (a.drop k) (b.drop k) = eqL eqCol a b ∧ Below w.heap.size w wr) (fun i _ => a.length - (intOf i).toNat)
    case atStart => exact ⟨0, by omega, rfl, rfl, Below.refl _ _⟩
    case round =>
      obtain ⟨k, hk, rfl, hv, hb⟩ := hrel
      have HV := Lib.hid hv
      clear hv
      by_cases hlt : k < a.length
      · have hlt' : k < b.length := by have := HL.out; omega
        obtain ⟨b1, o1, rfl, hbx, -, hc1⟩ := (H1.out.below hb).at hlt
        obtain ⟨b2, o2, rfl, hby, -, hc2⟩ := (H2.out.below hb).at hlt'
        have x0 := hc1 0 (by omega)
        have x1 := hc1 1 (by omega)
        have y0 := hc2 0 (by omega)
        have y1 := hc2 1 (by omega)
        simp only [Nat.add_zero, List.getElem?_cons_zero, List.getElem?_cons_succ] at x0
        simp only [Nat.add_zero, List.getElem?_cons_zero, List.getElem?_cons_succ] at x1
        simp only [Nat.add_zero, List.getElem?_cons_zero, List.getElem?_cons_succ] at y0
        simp only [Nat.add_zero, List.getElem?_cons_zero, List.getElem?_cons_succ] at y1
        have HB := Lib.hid hb
        clear hb hc1 hc2
        have g1 : (0 : Int) ≤ (k : Int) := by omega
        have g2 : (k : Int) < (a.length : Int) := by omega
        have g3 : (k : Int) < (b.length : Int) := by omega
        have hst := eqL_step (q := eqCol) hlt hlt'
        have HS := Lib.hid hst
        clear hst
        generalize hX : a[k] = X at x0 x1 HS
        generalize hY : b[k] = Y at y0 y1 HS
        clear hX hY
        go_wp2_with fail
        have hcl := fun d os b' o' h => (below_regrown wr d os).cell (p := ⟨b', o', none⟩) h
        refine wp_region_quiet_below (by kernel_rfl) (by kernel_rfl) ?_
        repeat (quiet_step (fail))
        refine wpQuiet_step (fun K hK => ?_)
        go_simp
        refine ⟨.bool !(eqCol X Y), fun p => ?_, hK _ ?_⟩
        · by_cases h1 : X.n.toList = Y.n.toList <;> by_cases h2 : X.k = Y.k <;> simp [h1, h2, eqCol, eqS]
        clear hK K
        refine wpQuiet_nil ?_
        intro wq hw'
        have hq := below_of_class hw'
        clear hw' hcl
        have hbb := below_then HB.out hq
        cases hev : eqCol X Y
        · go_wp2_with fail
          go_ret
          exact ⟨ret_bool (by rw [← HV.out, HS.out, hev, Bool.false_and]), hbb⟩
        · go_wp2_with fail
          go_roundw
          case rel => exact ⟨k + 1, by omega, by go_num, by rw [← HV.out, HS.out, hev, Bool.true_and], hbb⟩
          case measure => simp [intOf]; omega
      · have he : eqL eqCol (a.drop k) (b.drop k) = true := by rw [List.drop_of_length_le (by omega), List.drop_of_length_le (by have := HL.out; omega)]; rfl
        rw [HV.out] at he
        have HE := Lib.hid he
        clear he
        go_wp2
        go_ret
        exact ⟨ret_bool HE.out.symm, hb⟩
  · have hlen2 : ((a.length : Int) != (b.length : Int)) = true := by simp at hlen ⊢; omega
    have hs := eqL_len (q := eqCol) (a := a) (b := b) (by simpa using hlen)
    have HS := Lib.hid hs
    clear hs
    go_enter Tryz.func166, Tryz.ntmps166
    go_wp2
    go_ret
    exact ⟨ret_bool HS.out.symm, Below.refl _ _⟩

end walks
end Go.Proofs.YtimahogkcmmcnaaGreatDoor

