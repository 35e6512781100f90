/-
  Two nodes compared by the reference: part 6: it proves that Alike says whether they are equal but for names and inputs. No conditions.
-/
import Derived.Test.YtimahogkcmmcnaaGreatDoorQ5
set_option linter.unusedSimpArgs false
set_option linter.unusedVariables false
namespace Go.Proofs.YtimahogkcmmcnaaGreatDoor
open Go.RowKit

/-- The nodes are equal but for their names and inputs. -/
def eqAl (a b : NodM) : Bool :=
  eqL eqAgg a.aggs b.aggs && eqL eqCol a.schema b.schema && (eqL eqStg a.stages b.stages && a.within == b.within && a.skip == b.skip) && a.kind == b.kind && a.bound == b.bound && (a.expr.toList == b.expr.toList) && eqL eqS a.exprs b.exprs && eqL eqI a.cols b.cols && eqL eqI a.others b.others && eqW a b &&
  eqL eqS a.names b.names && a.low == b.low && a.high == b.high && eqL eqI a.order b.order && a.down == b.down && a.limit == b.limit && a.mode == b.mode

theorem eqNod_al (a b : NodM) : eqNod a b = ((a.name.toList == b.name.toList) && eqL eqI a.inputs b.inputs && eqAl a b) := by
  simp only [eqNod, eqAl, eqW, eqS]
  ac_rfl

section walks
set_option maxHeartbeats 8000000
set_option maxRecDepth 1000000

theorem f99_any (w : World) (a b : NodM) (s1 s2 : NodS) (ha : NodAt w a s1) (hb : NodAt w b s2) :
    Calls Tryz.prog 99 #[nodV a s1, nodV b s2] w fun e w' => e = .returned (.bool (eqAl a b)) ∧ Below w.heap.size w w' := by
  obtain ⟨cs, hcs⟩ : ∃ c, eqL eqCol a.schema b.schema = c := ⟨_, rfl⟩
  have Hcs : Hid (∀ W, Below w.heap.size w W → Calls Tryz.prog 166 #[.slice s1.schema.1 a.schema.length s1.schema.2, .slice s2.schema.1 b.schema.length s2.schema.2] W fun e w' => e = .returned (.bool cs) ∧ Below W.heap.size W w') := fun W h => hcs ▸ f166_any W _ _ _ _ (ha.schema.below h) (hb.schema.below h)
  obtain ⟨ce, hce⟩ : ∃ c, eqL eqS a.exprs b.exprs = c := ⟨_, rfl⟩
  have Hce : Hid (∀ W, Below w.heap.size w W → Calls Tryz.prog 68 #[.slice s1.exprs.1 a.exprs.length s1.exprs.2, .slice s2.exprs.1 b.exprs.length s2.exprs.2] W fun e w' => e = .returned (.bool ce) ∧ Below W.heap.size W w') := fun W h => hce ▸ f68_any W _ _ _ _ (ha.exprs.below h) (hb.exprs.below h)
  obtain ⟨cc, hcc⟩ : ∃ c, eqL eqI a.cols b.cols = c := ⟨_, rfl⟩
  have Hcc : Hid (∀ W, Below w.heap.size w W → Calls Tryz.prog 69 #[.slice s1.cols.1 a.cols.length s1.cols.2, .slice s2.cols.1 b.cols.length s2.cols.2] W fun e w' => e = .returned (.bool cc) ∧ Below W.heap.size W w') := fun W h => hcc ▸ f69_any W _ _ _ _ (ha.cols.below h) (hb.cols.below h)
  obtain ⟨co, hco⟩ : ∃ c, eqL eqI a.others b.others = c := ⟨_, rfl⟩
  have Hco : Hid (∀ W, Below w.heap.size w W → Calls Tryz.prog 69 #[.slice s1.others.1 a.others.length s1.others.2, .slice s2.others.1 b.others.length s2.others.2] W fun e w' => e = .returned (.bool co) ∧ Below W.heap.size W w') := fun W h => hco ▸ f69_any W _ _ _ _ (ha.others.below h) (hb.others.below h)
  obtain ⟨cn, hcn⟩ : ∃ c, eqL eqS a.names b.names = c := ⟨_, rfl⟩
  have Hcn : Hid (∀ W, Below w.heap.size w W → Calls Tryz.prog 68 #[.slice s1.names.1 a.names.length s1.names.2, .slice s2.names.1 b.names.length s2.names.2] W fun e w' => e = .returned (.bool cn) ∧ Below W.heap.size W w') := fun W h => hcn ▸ f68_any W _ _ _ _ (ha.names.below h) (hb.names.below h)
  obtain ⟨cr, hcr⟩ : ∃ c, eqL eqI a.order b.order = c := ⟨_, rfl⟩
  have Hcr : Hid (∀ W, Below w.heap.size w W → Calls Tryz.prog 69 #[.slice s1.order.1 a.order.length s1.order.2, .slice s2.order.1 b.order.length s2.order.2] W fun e w' => e = .returned (.bool cr) ∧ Below W.heap.size W w') := fun W h => hcr ▸ f69_any W _ _ _ _ (ha.order.below h) (hb.order.below h)
  obtain ⟨cp, hcp⟩ : ∃ c, (eqL eqStg a.stages b.stages && a.within == b.within && a.skip == b.skip) = c := ⟨_, rfl⟩
  have Hcp : Hid (∀ W, Below w.heap.size w W → Calls Tryz.prog 167 #[.agg #[.slice s1.stages.1 a.stages.length s1.stages.2, .int .i64 a.within, .int .i64 a.skip], .agg #[.slice s2.stages.1 b.stages.length s2.stages.2, .int .i64 b.within, .int .i64 b.skip]] W fun e w' => e = .returned (.bool cp) ∧ Below W.heap.size W w') :=
    fun W h => hcp ▸ f167_any W _ _ _ _ _ _ _ _ _ _ _ _ (ha.stages.below h) (hb.stages.below h)
  obtain ⟨cw, hcw⟩ : ∃ c, eqW a b = c := ⟨_, rfl⟩
  have hrw := fun W => run_eqW164 W a b
  rw [hcw] at hrw
  have HE : Hid (eqAl a b = (eqL eqAgg a.aggs b.aggs && cs && cp && (a.kind == b.kind) && (a.bound == b.bound) && (a.expr.toList == b.expr.toList) && ce && cc && co && cw && cn && (a.low == b.low) && (a.high == b.high) && cr && (a.down == b.down) && (a.limit == b.limit) && (a.mode == b.mode))) := by
    show eqAl a b = _
    rw [eqAl, hcs, hce, hcc, hco, hcn, hcr, hcp, hcw]
  have HBOX := Lib.hid (two_nodes w a b s1 s2)
  have HB0 : Hid (Below w.heap.size w ((w.alloc (.cells #[.int .i64 a.kind, .string a.name, .slice s1.inputs.1 a.inputs.length s1.inputs.2, .slice s1.schema.1 a.schema.length s1.schema.2, .int .i64 a.bound, .string a.expr, .slice s1.exprs.1 a.exprs.length s1.exprs.2, .slice s1.cols.1 a.cols.length s1.cols.2, .slice s1.others.1 a.others.length s1.others.2, .int .i64 a.w0, .int .i64 a.w1, .int .i64 a.w2, .int .i64 a.w3, .int .i64 a.w4, .slice s1.aggs.1 a.aggs.length s1.aggs.2, .slice s1.names.1 a.names.length s1.names.2, .int .i64 a.low, .int .i64 a.high, .slice s1.order.1 a.order.length s1.order.2, .bool a.down, .int .i64 a.limit, .int .i64 a.mode, .slice s1.stages.1 a.stages.length s1.stages.2, .int .i64 a.within, .int .i64 a.skip] 167)).alloc (.cells #[.int .i64 b.kind, .string b.name, .slice s2.inputs.1 b.inputs.length s2.inputs.2, .slice s2.schema.1 b.schema.length s2.schema.2, .int .i64 b.bound, .string b.expr, .slice s2.exprs.1 b.exprs.length s2.exprs.2, .slice s2.cols.1 b.cols.length s2.cols.2, .slice s2.others.1 b.others.length s2.others.2, .int .i64 b.w0, .int .i64 b.w1, .int .i64 b.w2, .int .i64 b.w3, .int .i64 b.w4, .slice s2.aggs.1 b.aggs.length s2.aggs.2, .slice s2.names.1 b.names.length s2.names.2, .int .i64 b.low, .int .i64 b.high, .slice s2.order.1 b.order.length s2.order.2, .bool b.down, .int .i64 b.limit, .int .i64 b.mode, .slice s2.stages.1 b.stages.length s2.stages.2, .int .i64 b.within, .int .i64 b.skip] 167))) := ((Below.refl _ _).alloc (Nat.le_refl _) _).alloc (by simp) _
  have HG1 := Lib.hid ha.aggs
  have HG2 := Lib.hid hb.aggs
  have hl1 : a.aggs.length ≤ 9223372036854775807 := by obtain ⟨_, _, _, h⟩ := ha.aggs.form; exact h
  clear hcs hce hcc hco hcn hcr hcp hcw ha hb
  cases hlen : (a.aggs.length != b.aggs.length)
  · have hlen' : a.aggs.length = b.aggs.length := by simpa using hlen
    have hlen2 : ((a.aggs.length : Int) != (b.aggs.length : Int)) = false := by simp [hlen']
    have HL := Lib.hid hlen'
    clear hlen'
    cases cs
    · skip
      go_enter Tryz.func99, Tryz.ntmps99
      simp only [List.append_eq, List.cons_append, List.nil_append]
      go_wp2_with (first
        | (go_at_call 166; with_reducible refine (Hcs.out _ HB0.out).mono ?_; rintro e wn ⟨rfl, hbn⟩; obtain ⟨z1, z2, hA, hB, HB⟩ := HBOX.out _ hbn; clear hbn)
        | (go_at_call 167; with_reducible refine (Hcp.out _ HB.out).mono ?_; rintro e wn ⟨rfl, hbn⟩; replace hA := fun o => (hbn.cell (p := ⟨w.heap.size, o, none⟩) z1).trans (hA o); replace hB := fun o => (hbn.cell (p := ⟨w.heap.size + 1, o, none⟩) z2).trans (hB o); replace z1 := Nat.lt_of_lt_of_le z1 hbn.size; replace z2 := Nat.lt_of_lt_of_le z2 hbn.size; replace HB := Lib.hid (below_then HB.out hbn); clear hbn))
      go_ret
      exact ⟨ret_bool (by rw [HE.out]; simp), HB.out⟩
    · cases cp
      · skip
        go_enter Tryz.func99, Tryz.ntmps99
        simp only [List.append_eq, List.cons_append, List.nil_append]
        go_wp2_with (first
          | (go_at_call 166; with_reducible refine (Hcs.out _ HB0.out).mono ?_; rintro e wn ⟨rfl, hbn⟩; obtain ⟨z1, z2, hA, hB, HB⟩ := HBOX.out _ hbn; clear hbn)
          | (go_at_call 167; with_reducible refine (Hcp.out _ HB.out).mono ?_; rintro e wn ⟨rfl, hbn⟩; replace hA := fun o => (hbn.cell (p := ⟨w.heap.size, o, none⟩) z1).trans (hA o); replace hB := fun o => (hbn.cell (p := ⟨w.heap.size + 1, o, none⟩) z2).trans (hB o); replace z1 := Nat.lt_of_lt_of_le z1 hbn.size; replace z2 := Nat.lt_of_lt_of_le z2 hbn.size; replace HB := Lib.hid (below_then HB.out hbn); clear hbn))
        go_ret
        exact ⟨ret_bool (by rw [HE.out]; simp), HB.out⟩
      · skip
        go_enter Tryz.func99, Tryz.ntmps99
        simp only [List.append_eq, List.cons_append, List.nil_append]
        go_wp2_with (first
          | (go_at_call 166; with_reducible refine (Hcs.out _ HB0.out).mono ?_; rintro e wn ⟨rfl, hbn⟩; obtain ⟨z1, z2, hA, hB, HB⟩ := HBOX.out _ hbn; clear hbn)
          | (go_at_call 167; with_reducible refine (Hcp.out _ HB.out).mono ?_; rintro e wn ⟨rfl, hbn⟩; replace hA := fun o => (hbn.cell (p := ⟨w.heap.size, o, none⟩) z1).trans (hA o); replace hB := fun o => (hbn.cell (p := ⟨w.heap.size + 1, o, none⟩) z2).trans (hB o); replace z1 := Nat.lt_of_lt_of_le z1 hbn.size; replace z2 := Nat.lt_of_lt_of_le z2 hbn.size; replace HB := Lib.hid (below_then HB.out hbn); clear hbn))
        go_loopw [5] (fun i wr => ∃ k : Nat, k ≤ a.aggs.length ∧ i = .int .i64 k ∧ Hid (eqL eqAgg (a.aggs.drop k) (b.aggs.drop k) = eqL eqAgg a.aggs b.aggs) ∧ Hid (Below wn.heap.size wn wr)) (fun i _ => a.aggs.length - (intOf i).toNat)
        case atStart => exact ⟨0, by omega, rfl, Lib.hid rfl, Lib.hid (Below.refl _ _)⟩
        case round =>
          obtain ⟨k, hk', rfl, HV, hbr⟩ := hrel
          replace hA := fun o => (hbr.out.cell (p := ⟨w.heap.size, o, none⟩) z1).trans (hA o)
          replace hB := fun o => (hbr.out.cell (p := ⟨w.heap.size + 1, o, none⟩) z2).trans (hB o)
          replace z1 := Nat.lt_of_lt_of_le z1 hbr.out.size
          replace z2 := Nat.lt_of_lt_of_le z2 hbr.out.size
          replace HB := Lib.hid (below_then HB.out hbr.out)
          by_cases hlt : k < a.aggs.length
          · have hlt' : k < b.aggs.length := by have := HL.out; omega
            obtain ⟨b1, o1, ep1, hbx, -, hc1⟩ := (HG1.out.below HB.out).at hlt
            obtain ⟨b2, o2, ep2, hby, -, hc2⟩ := (HG2.out.below HB.out).at hlt'
            have cA : wr.cell? ⟨w.heap.size, 14, none⟩ = some (.slice (some ⟨b1, o1, none⟩) a.aggs.length s1.aggs.2) := by rw [hA, ← ep1]; rfl
            have cB : wr.cell? ⟨w.heap.size + 1, 14, none⟩ = some (.slice (some ⟨b2, o2, none⟩) b.aggs.length s2.aggs.2) := by rw [hB, ← ep2]; rfl
            have x0 := hc1 0 (by omega)
            have x1 := hc1 1 (by omega)
            have y0 := hc2 0 (by omega)
            have y1 := hc2 1 (by omega)
            simp only [Nat.add_zero, List.getElem?_cons_zero, List.getElem?_cons_succ] at x0 x1 y0 y1
            clear hc1 hc2 hA hB ep1 ep2
            have g1 : (0 : Int) ≤ (k : Int) := by omega
            have g2 : (k : Int) < (a.aggs.length : Int) := by omega
            have g3 : (k : Int) < (b.aggs.length : Int) := by omega
            have HS := Lib.hid (eqL_step (q := eqAgg) hlt hlt')
            generalize a.aggs[k] = X at x0 x1 HS
            generalize b.aggs[k] = Y at y0 y1 HS
            go_wp2_with fail
            have hcl := fun d os b' o' h => (below_regrown wr d os).cell (p := ⟨b', o', none⟩) h
            refine wp_region_quiet_below (by kernel_rfl) (by kernel_rfl) ?_
            repeat (quiet_step (fail))
            refine wpQuiet_step (fun K hK => ?_)
            go_simp
            refine ⟨.bool !(eqAgg X Y), fun p => ?_, hK _ ?_⟩
            · by_cases h1 : X.k = Y.k <;> by_cases h2 : X.c = Y.c <;> simp [h1, h2, eqAgg]
            clear hK K
            refine wpQuiet_nil ?_
            intro wq hw'
            have HQ := Lib.hid (below_of_class hw')
            clear hw' hcl
            cases hev : eqAgg X Y
            · go_wp2_with fail
              go_ret
              exact ⟨ret_bool (by rw [HE.out, ← HV.out, HS.out, hev]; simp), below_then HB.out HQ.out⟩
            · go_wp2_with fail
              go_roundw
              case rel => exact ⟨k + 1, by omega, by go_num, Lib.hid (by rw [← HV.out, HS.out, hev, Bool.true_and]), Lib.hid (hbr.out.trans (HQ.out.mono hbr.out.size))⟩
              case measure => simp [intOf]; omega
          · have he : eqL eqAgg (a.aggs.drop k) (b.aggs.drop k) = true := by rw [List.drop_of_length_le (by omega), List.drop_of_length_le (by have := HL.out; omega)]; rfl
            rw [HV.out] at he
            rw [he] at HE
            clear he
            cases h0 : (a.kind == b.kind)
            · rw [h0] at HE
              go_wp2_with (first
                | (go_at_call 68; with_reducible refine (Hce.out _ HB.out).mono ?_; rintro e wn ⟨rfl, hbn⟩; replace hA := fun o => (hbn.cell (p := ⟨w.heap.size, o, none⟩) z1).trans (hA o); replace hB := fun o => (hbn.cell (p := ⟨w.heap.size + 1, o, none⟩) z2).trans (hB o); replace z1 := Nat.lt_of_lt_of_le z1 hbn.size; replace z2 := Nat.lt_of_lt_of_le z2 hbn.size; replace HB := Lib.hid (below_then HB.out hbn); clear hbn)
                | (go_at_call 69; with_reducible refine (Hcc.out _ HB.out).mono ?_; rintro e wn ⟨rfl, hbn⟩; replace hA := fun o => (hbn.cell (p := ⟨w.heap.size, o, none⟩) z1).trans (hA o); replace hB := fun o => (hbn.cell (p := ⟨w.heap.size + 1, o, none⟩) z2).trans (hB o); replace z1 := Nat.lt_of_lt_of_le z1 hbn.size; replace z2 := Nat.lt_of_lt_of_le z2 hbn.size; replace HB := Lib.hid (below_then HB.out hbn); clear hbn)
                | (go_at_call 69; with_reducible refine (Hco.out _ HB.out).mono ?_; rintro e wn ⟨rfl, hbn⟩; replace hA := fun o => (hbn.cell (p := ⟨w.heap.size, o, none⟩) z1).trans (hA o); replace hB := fun o => (hbn.cell (p := ⟨w.heap.size + 1, o, none⟩) z2).trans (hB o); replace z1 := Nat.lt_of_lt_of_le z1 hbn.size; replace z2 := Nat.lt_of_lt_of_le z2 hbn.size; replace HB := Lib.hid (below_then HB.out hbn); clear hbn)
                | (go_at_call 68; with_reducible refine (Hcn.out _ HB.out).mono ?_; rintro e wn ⟨rfl, hbn⟩; replace hA := fun o => (hbn.cell (p := ⟨w.heap.size, o, none⟩) z1).trans (hA o); replace hB := fun o => (hbn.cell (p := ⟨w.heap.size + 1, o, none⟩) z2).trans (hB o); replace z1 := Nat.lt_of_lt_of_le z1 hbn.size; replace z2 := Nat.lt_of_lt_of_le z2 hbn.size; replace HB := Lib.hid (below_then HB.out hbn); clear hbn)
                | (go_at_call 69; with_reducible refine (Hcr.out _ HB.out).mono ?_; rintro e wn ⟨rfl, hbn⟩; replace hA := fun o => (hbn.cell (p := ⟨w.heap.size, o, none⟩) z1).trans (hA o); replace hB := fun o => (hbn.cell (p := ⟨w.heap.size + 1, o, none⟩) z2).trans (hB o); replace z1 := Nat.lt_of_lt_of_le z1 hbn.size; replace z2 := Nat.lt_of_lt_of_le z2 hbn.size; replace HB := Lib.hid (below_then HB.out hbn); clear hbn))
              go_ret
              exact ⟨ret_bool (by rw [HE.out]; simp), HB.out⟩
            · rw [h0] at HE
              cases h1 : (a.bound == b.bound)
              · rw [h1] at HE
                go_wp2_with (first
                  | (go_at_call 68; with_reducible refine (Hce.out _ HB.out).mono ?_; rintro e wn ⟨rfl, hbn⟩; replace hA := fun o => (hbn.cell (p := ⟨w.heap.size, o, none⟩) z1).trans (hA o); replace hB := fun o => (hbn.cell (p := ⟨w.heap.size + 1, o, none⟩) z2).trans (hB o); replace z1 := Nat.lt_of_lt_of_le z1 hbn.size; replace z2 := Nat.lt_of_lt_of_le z2 hbn.size; replace HB := Lib.hid (below_then HB.out hbn); clear hbn)
                  | (go_at_call 69; with_reducible refine (Hcc.out _ HB.out).mono ?_; rintro e wn ⟨rfl, hbn⟩; replace hA := fun o => (hbn.cell (p := ⟨w.heap.size, o, none⟩) z1).trans (hA o); replace hB := fun o => (hbn.cell (p := ⟨w.heap.size + 1, o, none⟩) z2).trans (hB o); replace z1 := Nat.lt_of_lt_of_le z1 hbn.size; replace z2 := Nat.lt_of_lt_of_le z2 hbn.size; replace HB := Lib.hid (below_then HB.out hbn); clear hbn)
                  | (go_at_call 69; with_reducible refine (Hco.out _ HB.out).mono ?_; rintro e wn ⟨rfl, hbn⟩; replace hA := fun o => (hbn.cell (p := ⟨w.heap.size, o, none⟩) z1).trans (hA o); replace hB := fun o => (hbn.cell (p := ⟨w.heap.size + 1, o, none⟩) z2).trans (hB o); replace z1 := Nat.lt_of_lt_of_le z1 hbn.size; replace z2 := Nat.lt_of_lt_of_le z2 hbn.size; replace HB := Lib.hid (below_then HB.out hbn); clear hbn)
                  | (go_at_call 68; with_reducible refine (Hcn.out _ HB.out).mono ?_; rintro e wn ⟨rfl, hbn⟩; replace hA := fun o => (hbn.cell (p := ⟨w.heap.size, o, none⟩) z1).trans (hA o); replace hB := fun o => (hbn.cell (p := ⟨w.heap.size + 1, o, none⟩) z2).trans (hB o); replace z1 := Nat.lt_of_lt_of_le z1 hbn.size; replace z2 := Nat.lt_of_lt_of_le z2 hbn.size; replace HB := Lib.hid (below_then HB.out hbn); clear hbn)
                  | (go_at_call 69; with_reducible refine (Hcr.out _ HB.out).mono ?_; rintro e wn ⟨rfl, hbn⟩; replace hA := fun o => (hbn.cell (p := ⟨w.heap.size, o, none⟩) z1).trans (hA o); replace hB := fun o => (hbn.cell (p := ⟨w.heap.size + 1, o, none⟩) z2).trans (hB o); replace z1 := Nat.lt_of_lt_of_le z1 hbn.size; replace z2 := Nat.lt_of_lt_of_le z2 hbn.size; replace HB := Lib.hid (below_then HB.out hbn); clear hbn))
                go_ret
                exact ⟨ret_bool (by rw [HE.out]; simp), HB.out⟩
              · rw [h1] at HE
                cases h2 : (a.expr.toList == b.expr.toList)
                · rw [h2] at HE
                  go_wp2_with (first
                    | (go_at_call 68; with_reducible refine (Hce.out _ HB.out).mono ?_; rintro e wn ⟨rfl, hbn⟩; replace hA := fun o => (hbn.cell (p := ⟨w.heap.size, o, none⟩) z1).trans (hA o); replace hB := fun o => (hbn.cell (p := ⟨w.heap.size + 1, o, none⟩) z2).trans (hB o); replace z1 := Nat.lt_of_lt_of_le z1 hbn.size; replace z2 := Nat.lt_of_lt_of_le z2 hbn.size; replace HB := Lib.hid (below_then HB.out hbn); clear hbn)
                    | (go_at_call 69; with_reducible refine (Hcc.out _ HB.out).mono ?_; rintro e wn ⟨rfl, hbn⟩; replace hA := fun o => (hbn.cell (p := ⟨w.heap.size, o, none⟩) z1).trans (hA o); replace hB := fun o => (hbn.cell (p := ⟨w.heap.size + 1, o, none⟩) z2).trans (hB o); replace z1 := Nat.lt_of_lt_of_le z1 hbn.size; replace z2 := Nat.lt_of_lt_of_le z2 hbn.size; replace HB := Lib.hid (below_then HB.out hbn); clear hbn)
                    | (go_at_call 69; with_reducible refine (Hco.out _ HB.out).mono ?_; rintro e wn ⟨rfl, hbn⟩; replace hA := fun o => (hbn.cell (p := ⟨w.heap.size, o, none⟩) z1).trans (hA o); replace hB := fun o => (hbn.cell (p := ⟨w.heap.size + 1, o, none⟩) z2).trans (hB o); replace z1 := Nat.lt_of_lt_of_le z1 hbn.size; replace z2 := Nat.lt_of_lt_of_le z2 hbn.size; replace HB := Lib.hid (below_then HB.out hbn); clear hbn)
                    | (go_at_call 68; with_reducible refine (Hcn.out _ HB.out).mono ?_; rintro e wn ⟨rfl, hbn⟩; replace hA := fun o => (hbn.cell (p := ⟨w.heap.size, o, none⟩) z1).trans (hA o); replace hB := fun o => (hbn.cell (p := ⟨w.heap.size + 1, o, none⟩) z2).trans (hB o); replace z1 := Nat.lt_of_lt_of_le z1 hbn.size; replace z2 := Nat.lt_of_lt_of_le z2 hbn.size; replace HB := Lib.hid (below_then HB.out hbn); clear hbn)
                    | (go_at_call 69; with_reducible refine (Hcr.out _ HB.out).mono ?_; rintro e wn ⟨rfl, hbn⟩; replace hA := fun o => (hbn.cell (p := ⟨w.heap.size, o, none⟩) z1).trans (hA o); replace hB := fun o => (hbn.cell (p := ⟨w.heap.size + 1, o, none⟩) z2).trans (hB o); replace z1 := Nat.lt_of_lt_of_le z1 hbn.size; replace z2 := Nat.lt_of_lt_of_le z2 hbn.size; replace HB := Lib.hid (below_then HB.out hbn); clear hbn))
                  go_ret
                  exact ⟨ret_bool (by rw [HE.out]; simp), HB.out⟩
                · rw [h2] at HE
                  cases ce
                  · skip
                    go_wp2_with (first
                      | (go_at_call 68; with_reducible refine (Hce.out _ HB.out).mono ?_; rintro e wn ⟨rfl, hbn⟩; replace hA := fun o => (hbn.cell (p := ⟨w.heap.size, o, none⟩) z1).trans (hA o); replace hB := fun o => (hbn.cell (p := ⟨w.heap.size + 1, o, none⟩) z2).trans (hB o); replace z1 := Nat.lt_of_lt_of_le z1 hbn.size; replace z2 := Nat.lt_of_lt_of_le z2 hbn.size; replace HB := Lib.hid (below_then HB.out hbn); clear hbn)
                      | (go_at_call 69; with_reducible refine (Hcc.out _ HB.out).mono ?_; rintro e wn ⟨rfl, hbn⟩; replace hA := fun o => (hbn.cell (p := ⟨w.heap.size, o, none⟩) z1).trans (hA o); replace hB := fun o => (hbn.cell (p := ⟨w.heap.size + 1, o, none⟩) z2).trans (hB o); replace z1 := Nat.lt_of_lt_of_le z1 hbn.size; replace z2 := Nat.lt_of_lt_of_le z2 hbn.size; replace HB := Lib.hid (below_then HB.out hbn); clear hbn)
                      | (go_at_call 69; with_reducible refine (Hco.out _ HB.out).mono ?_; rintro e wn ⟨rfl, hbn⟩; replace hA := fun o => (hbn.cell (p := ⟨w.heap.size, o, none⟩) z1).trans (hA o); replace hB := fun o => (hbn.cell (p := ⟨w.heap.size + 1, o, none⟩) z2).trans (hB o); replace z1 := Nat.lt_of_lt_of_le z1 hbn.size; replace z2 := Nat.lt_of_lt_of_le z2 hbn.size; replace HB := Lib.hid (below_then HB.out hbn); clear hbn)
                      | (go_at_call 68; with_reducible refine (Hcn.out _ HB.out).mono ?_; rintro e wn ⟨rfl, hbn⟩; replace hA := fun o => (hbn.cell (p := ⟨w.heap.size, o, none⟩) z1).trans (hA o); replace hB := fun o => (hbn.cell (p := ⟨w.heap.size + 1, o, none⟩) z2).trans (hB o); replace z1 := Nat.lt_of_lt_of_le z1 hbn.size; replace z2 := Nat.lt_of_lt_of_le z2 hbn.size; replace HB := Lib.hid (below_then HB.out hbn); clear hbn)
                      | (go_at_call 69; with_reducible refine (Hcr.out _ HB.out).mono ?_; rintro e wn ⟨rfl, hbn⟩; replace hA := fun o => (hbn.cell (p := ⟨w.heap.size, o, none⟩) z1).trans (hA o); replace hB := fun o => (hbn.cell (p := ⟨w.heap.size + 1, o, none⟩) z2).trans (hB o); replace z1 := Nat.lt_of_lt_of_le z1 hbn.size; replace z2 := Nat.lt_of_lt_of_le z2 hbn.size; replace HB := Lib.hid (below_then HB.out hbn); clear hbn))
                    go_ret
                    exact ⟨ret_bool (by rw [HE.out]; simp), HB.out⟩
                  · skip
                    cases cc
                    · skip
                      go_wp2_with (first
                        | (go_at_call 68; with_reducible refine (Hce.out _ HB.out).mono ?_; rintro e wn ⟨rfl, hbn⟩; replace hA := fun o => (hbn.cell (p := ⟨w.heap.size, o, none⟩) z1).trans (hA o); replace hB := fun o => (hbn.cell (p := ⟨w.heap.size + 1, o, none⟩) z2).trans (hB o); replace z1 := Nat.lt_of_lt_of_le z1 hbn.size; replace z2 := Nat.lt_of_lt_of_le z2 hbn.size; replace HB := Lib.hid (below_then HB.out hbn); clear hbn)
                        | (go_at_call 69; with_reducible refine (Hcc.out _ HB.out).mono ?_; rintro e wn ⟨rfl, hbn⟩; replace hA := fun o => (hbn.cell (p := ⟨w.heap.size, o, none⟩) z1).trans (hA o); replace hB := fun o => (hbn.cell (p := ⟨w.heap.size + 1, o, none⟩) z2).trans (hB o); replace z1 := Nat.lt_of_lt_of_le z1 hbn.size; replace z2 := Nat.lt_of_lt_of_le z2 hbn.size; replace HB := Lib.hid (below_then HB.out hbn); clear hbn)
                        | (go_at_call 69; with_reducible refine (Hco.out _ HB.out).mono ?_; rintro e wn ⟨rfl, hbn⟩; replace hA := fun o => (hbn.cell (p := ⟨w.heap.size, o, none⟩) z1).trans (hA o); replace hB := fun o => (hbn.cell (p := ⟨w.heap.size + 1, o, none⟩) z2).trans (hB o); replace z1 := Nat.lt_of_lt_of_le z1 hbn.size; replace z2 := Nat.lt_of_lt_of_le z2 hbn.size; replace HB := Lib.hid (below_then HB.out hbn); clear hbn)
                        | (go_at_call 68; with_reducible refine (Hcn.out _ HB.out).mono ?_; rintro e wn ⟨rfl, hbn⟩; replace hA := fun o => (hbn.cell (p := ⟨w.heap.size, o, none⟩) z1).trans (hA o); replace hB := fun o => (hbn.cell (p := ⟨w.heap.size + 1, o, none⟩) z2).trans (hB o); replace z1 := Nat.lt_of_lt_of_le z1 hbn.size; replace z2 := Nat.lt_of_lt_of_le z2 hbn.size; replace HB := Lib.hid (below_then HB.out hbn); clear hbn)
                        | (go_at_call 69; with_reducible refine (Hcr.out _ HB.out).mono ?_; rintro e wn ⟨rfl, hbn⟩; replace hA := fun o => (hbn.cell (p := ⟨w.heap.size, o, none⟩) z1).trans (hA o); replace hB := fun o => (hbn.cell (p := ⟨w.heap.size + 1, o, none⟩) z2).trans (hB o); replace z1 := Nat.lt_of_lt_of_le z1 hbn.size; replace z2 := Nat.lt_of_lt_of_le z2 hbn.size; replace HB := Lib.hid (below_then HB.out hbn); clear hbn))
                      go_ret
                      exact ⟨ret_bool (by rw [HE.out]; simp), HB.out⟩
                    · skip
                      cases co
                      · skip
                        go_wp2_with (first
                          | (go_at_call 68; with_reducible refine (Hce.out _ HB.out).mono ?_; rintro e wn ⟨rfl, hbn⟩; replace hA := fun o => (hbn.cell (p := ⟨w.heap.size, o, none⟩) z1).trans (hA o); replace hB := fun o => (hbn.cell (p := ⟨w.heap.size + 1, o, none⟩) z2).trans (hB o); replace z1 := Nat.lt_of_lt_of_le z1 hbn.size; replace z2 := Nat.lt_of_lt_of_le z2 hbn.size; replace HB := Lib.hid (below_then HB.out hbn); clear hbn)
                          | (go_at_call 69; with_reducible refine (Hcc.out _ HB.out).mono ?_; rintro e wn ⟨rfl, hbn⟩; replace hA := fun o => (hbn.cell (p := ⟨w.heap.size, o, none⟩) z1).trans (hA o); replace hB := fun o => (hbn.cell (p := ⟨w.heap.size + 1, o, none⟩) z2).trans (hB o); replace z1 := Nat.lt_of_lt_of_le z1 hbn.size; replace z2 := Nat.lt_of_lt_of_le z2 hbn.size; replace HB := Lib.hid (below_then HB.out hbn); clear hbn)
                          | (go_at_call 69; with_reducible refine (Hco.out _ HB.out).mono ?_; rintro e wn ⟨rfl, hbn⟩; replace hA := fun o => (hbn.cell (p := ⟨w.heap.size, o, none⟩) z1).trans (hA o); replace hB := fun o => (hbn.cell (p := ⟨w.heap.size + 1, o, none⟩) z2).trans (hB o); replace z1 := Nat.lt_of_lt_of_le z1 hbn.size; replace z2 := Nat.lt_of_lt_of_le z2 hbn.size; replace HB := Lib.hid (below_then HB.out hbn); clear hbn)
                          | (go_at_call 68; with_reducible refine (Hcn.out _ HB.out).mono ?_; rintro e wn ⟨rfl, hbn⟩; replace hA := fun o => (hbn.cell (p := ⟨w.heap.size, o, none⟩) z1).trans (hA o); replace hB := fun o => (hbn.cell (p := ⟨w.heap.size + 1, o, none⟩) z2).trans (hB o); replace z1 := Nat.lt_of_lt_of_le z1 hbn.size; replace z2 := Nat.lt_of_lt_of_le z2 hbn.size; replace HB := Lib.hid (below_then HB.out hbn); clear hbn)
                          | (go_at_call 69; with_reducible refine (Hcr.out _ HB.out).mono ?_; rintro e wn ⟨rfl, hbn⟩; replace hA := fun o => (hbn.cell (p := ⟨w.heap.size, o, none⟩) z1).trans (hA o); replace hB := fun o => (hbn.cell (p := ⟨w.heap.size + 1, o, none⟩) z2).trans (hB o); replace z1 := Nat.lt_of_lt_of_le z1 hbn.size; replace z2 := Nat.lt_of_lt_of_le z2 hbn.size; replace HB := Lib.hid (below_then HB.out hbn); clear hbn))
                        go_ret
                        exact ⟨ret_bool (by rw [HE.out]; simp), HB.out⟩
                      · skip
                        cases cw
                        · skip
                          go_wp2_with (first
                            | (go_at_call 68; with_reducible refine (Hce.out _ HB.out).mono ?_; rintro e wn ⟨rfl, hbn⟩; replace hA := fun o => (hbn.cell (p := ⟨w.heap.size, o, none⟩) z1).trans (hA o); replace hB := fun o => (hbn.cell (p := ⟨w.heap.size + 1, o, none⟩) z2).trans (hB o); replace z1 := Nat.lt_of_lt_of_le z1 hbn.size; replace z2 := Nat.lt_of_lt_of_le z2 hbn.size; replace HB := Lib.hid (below_then HB.out hbn); clear hbn)
                            | (go_at_call 69; with_reducible refine (Hcc.out _ HB.out).mono ?_; rintro e wn ⟨rfl, hbn⟩; replace hA := fun o => (hbn.cell (p := ⟨w.heap.size, o, none⟩) z1).trans (hA o); replace hB := fun o => (hbn.cell (p := ⟨w.heap.size + 1, o, none⟩) z2).trans (hB o); replace z1 := Nat.lt_of_lt_of_le z1 hbn.size; replace z2 := Nat.lt_of_lt_of_le z2 hbn.size; replace HB := Lib.hid (below_then HB.out hbn); clear hbn)
                            | (go_at_call 69; with_reducible refine (Hco.out _ HB.out).mono ?_; rintro e wn ⟨rfl, hbn⟩; replace hA := fun o => (hbn.cell (p := ⟨w.heap.size, o, none⟩) z1).trans (hA o); replace hB := fun o => (hbn.cell (p := ⟨w.heap.size + 1, o, none⟩) z2).trans (hB o); replace z1 := Nat.lt_of_lt_of_le z1 hbn.size; replace z2 := Nat.lt_of_lt_of_le z2 hbn.size; replace HB := Lib.hid (below_then HB.out hbn); clear hbn)
                            | (go_at_call 68; with_reducible refine (Hcn.out _ HB.out).mono ?_; rintro e wn ⟨rfl, hbn⟩; replace hA := fun o => (hbn.cell (p := ⟨w.heap.size, o, none⟩) z1).trans (hA o); replace hB := fun o => (hbn.cell (p := ⟨w.heap.size + 1, o, none⟩) z2).trans (hB o); replace z1 := Nat.lt_of_lt_of_le z1 hbn.size; replace z2 := Nat.lt_of_lt_of_le z2 hbn.size; replace HB := Lib.hid (below_then HB.out hbn); clear hbn)
                            | (go_at_call 69; with_reducible refine (Hcr.out _ HB.out).mono ?_; rintro e wn ⟨rfl, hbn⟩; replace hA := fun o => (hbn.cell (p := ⟨w.heap.size, o, none⟩) z1).trans (hA o); replace hB := fun o => (hbn.cell (p := ⟨w.heap.size + 1, o, none⟩) z2).trans (hB o); replace z1 := Nat.lt_of_lt_of_le z1 hbn.size; replace z2 := Nat.lt_of_lt_of_le z2 hbn.size; replace HB := Lib.hid (below_then HB.out hbn); clear hbn))
                          go_ret
                          exact ⟨ret_bool (by rw [HE.out]; simp), HB.out⟩
                        · skip
                          cases cn
                          · skip
                            go_wp2_with (first
                              | (go_at_call 68; with_reducible refine (Hce.out _ HB.out).mono ?_; rintro e wn ⟨rfl, hbn⟩; replace hA := fun o => (hbn.cell (p := ⟨w.heap.size, o, none⟩) z1).trans (hA o); replace hB := fun o => (hbn.cell (p := ⟨w.heap.size + 1, o, none⟩) z2).trans (hB o); replace z1 := Nat.lt_of_lt_of_le z1 hbn.size; replace z2 := Nat.lt_of_lt_of_le z2 hbn.size; replace HB := Lib.hid (below_then HB.out hbn); clear hbn)
                              | (go_at_call 69; with_reducible refine (Hcc.out _ HB.out).mono ?_; rintro e wn ⟨rfl, hbn⟩; replace hA := fun o => (hbn.cell (p := ⟨w.heap.size, o, none⟩) z1).trans (hA o); replace hB := fun o => (hbn.cell (p := ⟨w.heap.size + 1, o, none⟩) z2).trans (hB o); replace z1 := Nat.lt_of_lt_of_le z1 hbn.size; replace z2 := Nat.lt_of_lt_of_le z2 hbn.size; replace HB := Lib.hid (below_then HB.out hbn); clear hbn)
                              | (go_at_call 69; with_reducible refine (Hco.out _ HB.out).mono ?_; rintro e wn ⟨rfl, hbn⟩; replace hA := fun o => (hbn.cell (p := ⟨w.heap.size, o, none⟩) z1).trans (hA o); replace hB := fun o => (hbn.cell (p := ⟨w.heap.size + 1, o, none⟩) z2).trans (hB o); replace z1 := Nat.lt_of_lt_of_le z1 hbn.size; replace z2 := Nat.lt_of_lt_of_le z2 hbn.size; replace HB := Lib.hid (below_then HB.out hbn); clear hbn)
                              | (go_at_call 68; with_reducible refine (Hcn.out _ HB.out).mono ?_; rintro e wn ⟨rfl, hbn⟩; replace hA := fun o => (hbn.cell (p := ⟨w.heap.size, o, none⟩) z1).trans (hA o); replace hB := fun o => (hbn.cell (p := ⟨w.heap.size + 1, o, none⟩) z2).trans (hB o); replace z1 := Nat.lt_of_lt_of_le z1 hbn.size; replace z2 := Nat.lt_of_lt_of_le z2 hbn.size; replace HB := Lib.hid (below_then HB.out hbn); clear hbn)
                              | (go_at_call 69; with_reducible refine (Hcr.out _ HB.out).mono ?_; rintro e wn ⟨rfl, hbn⟩; replace hA := fun o => (hbn.cell (p := ⟨w.heap.size, o, none⟩) z1).trans (hA o); replace hB := fun o => (hbn.cell (p := ⟨w.heap.size + 1, o, none⟩) z2).trans (hB o); replace z1 := Nat.lt_of_lt_of_le z1 hbn.size; replace z2 := Nat.lt_of_lt_of_le z2 hbn.size; replace HB := Lib.hid (below_then HB.out hbn); clear hbn))
                            go_ret
                            exact ⟨ret_bool (by rw [HE.out]; simp), HB.out⟩
                          · skip
                            cases h8 : (a.low == b.low)
                            · rw [h8] at HE
                              go_wp2_with (first
                                | (go_at_call 68; with_reducible refine (Hce.out _ HB.out).mono ?_; rintro e wn ⟨rfl, hbn⟩; replace hA := fun o => (hbn.cell (p := ⟨w.heap.size, o, none⟩) z1).trans (hA o); replace hB := fun o => (hbn.cell (p := ⟨w.heap.size + 1, o, none⟩) z2).trans (hB o); replace z1 := Nat.lt_of_lt_of_le z1 hbn.size; replace z2 := Nat.lt_of_lt_of_le z2 hbn.size; replace HB := Lib.hid (below_then HB.out hbn); clear hbn)
                                | (go_at_call 69; with_reducible refine (Hcc.out _ HB.out).mono ?_; rintro e wn ⟨rfl, hbn⟩; replace hA := fun o => (hbn.cell (p := ⟨w.heap.size, o, none⟩) z1).trans (hA o); replace hB := fun o => (hbn.cell (p := ⟨w.heap.size + 1, o, none⟩) z2).trans (hB o); replace z1 := Nat.lt_of_lt_of_le z1 hbn.size; replace z2 := Nat.lt_of_lt_of_le z2 hbn.size; replace HB := Lib.hid (below_then HB.out hbn); clear hbn)
                                | (go_at_call 69; with_reducible refine (Hco.out _ HB.out).mono ?_; rintro e wn ⟨rfl, hbn⟩; replace hA := fun o => (hbn.cell (p := ⟨w.heap.size, o, none⟩) z1).trans (hA o); replace hB := fun o => (hbn.cell (p := ⟨w.heap.size + 1, o, none⟩) z2).trans (hB o); replace z1 := Nat.lt_of_lt_of_le z1 hbn.size; replace z2 := Nat.lt_of_lt_of_le z2 hbn.size; replace HB := Lib.hid (below_then HB.out hbn); clear hbn)
                                | (go_at_call 68; with_reducible refine (Hcn.out _ HB.out).mono ?_; rintro e wn ⟨rfl, hbn⟩; replace hA := fun o => (hbn.cell (p := ⟨w.heap.size, o, none⟩) z1).trans (hA o); replace hB := fun o => (hbn.cell (p := ⟨w.heap.size + 1, o, none⟩) z2).trans (hB o); replace z1 := Nat.lt_of_lt_of_le z1 hbn.size; replace z2 := Nat.lt_of_lt_of_le z2 hbn.size; replace HB := Lib.hid (below_then HB.out hbn); clear hbn)
                                | (go_at_call 69; with_reducible refine (Hcr.out _ HB.out).mono ?_; rintro e wn ⟨rfl, hbn⟩; replace hA := fun o => (hbn.cell (p := ⟨w.heap.size, o, none⟩) z1).trans (hA o); replace hB := fun o => (hbn.cell (p := ⟨w.heap.size + 1, o, none⟩) z2).trans (hB o); replace z1 := Nat.lt_of_lt_of_le z1 hbn.size; replace z2 := Nat.lt_of_lt_of_le z2 hbn.size; replace HB := Lib.hid (below_then HB.out hbn); clear hbn))
                              go_ret
                              exact ⟨ret_bool (by rw [HE.out]; simp), HB.out⟩
                            · rw [h8] at HE
                              cases h9 : (a.high == b.high)
                              · rw [h9] at HE
                                go_wp2_with (first
                                  | (go_at_call 68; with_reducible refine (Hce.out _ HB.out).mono ?_; rintro e wn ⟨rfl, hbn⟩; replace hA := fun o => (hbn.cell (p := ⟨w.heap.size, o, none⟩) z1).trans (hA o); replace hB := fun o => (hbn.cell (p := ⟨w.heap.size + 1, o, none⟩) z2).trans (hB o); replace z1 := Nat.lt_of_lt_of_le z1 hbn.size; replace z2 := Nat.lt_of_lt_of_le z2 hbn.size; replace HB := Lib.hid (below_then HB.out hbn); clear hbn)
                                  | (go_at_call 69; with_reducible refine (Hcc.out _ HB.out).mono ?_; rintro e wn ⟨rfl, hbn⟩; replace hA := fun o => (hbn.cell (p := ⟨w.heap.size, o, none⟩) z1).trans (hA o); replace hB := fun o => (hbn.cell (p := ⟨w.heap.size + 1, o, none⟩) z2).trans (hB o); replace z1 := Nat.lt_of_lt_of_le z1 hbn.size; replace z2 := Nat.lt_of_lt_of_le z2 hbn.size; replace HB := Lib.hid (below_then HB.out hbn); clear hbn)
                                  | (go_at_call 69; with_reducible refine (Hco.out _ HB.out).mono ?_; rintro e wn ⟨rfl, hbn⟩; replace hA := fun o => (hbn.cell (p := ⟨w.heap.size, o, none⟩) z1).trans (hA o); replace hB := fun o => (hbn.cell (p := ⟨w.heap.size + 1, o, none⟩) z2).trans (hB o); replace z1 := Nat.lt_of_lt_of_le z1 hbn.size; replace z2 := Nat.lt_of_lt_of_le z2 hbn.size; replace HB := Lib.hid (below_then HB.out hbn); clear hbn)
                                  | (go_at_call 68; with_reducible refine (Hcn.out _ HB.out).mono ?_; rintro e wn ⟨rfl, hbn⟩; replace hA := fun o => (hbn.cell (p := ⟨w.heap.size, o, none⟩) z1).trans (hA o); replace hB := fun o => (hbn.cell (p := ⟨w.heap.size + 1, o, none⟩) z2).trans (hB o); replace z1 := Nat.lt_of_lt_of_le z1 hbn.size; replace z2 := Nat.lt_of_lt_of_le z2 hbn.size; replace HB := Lib.hid (below_then HB.out hbn); clear hbn)
                                  | (go_at_call 69; with_reducible refine (Hcr.out _ HB.out).mono ?_; rintro e wn ⟨rfl, hbn⟩; replace hA := fun o => (hbn.cell (p := ⟨w.heap.size, o, none⟩) z1).trans (hA o); replace hB := fun o => (hbn.cell (p := ⟨w.heap.size + 1, o, none⟩) z2).trans (hB o); replace z1 := Nat.lt_of_lt_of_le z1 hbn.size; replace z2 := Nat.lt_of_lt_of_le z2 hbn.size; replace HB := Lib.hid (below_then HB.out hbn); clear hbn))
                                go_ret
                                exact ⟨ret_bool (by rw [HE.out]; simp), HB.out⟩
                              · rw [h9] at HE
                                cases cr
                                · skip
                                  go_wp2_with (first
                                    | (go_at_call 68; with_reducible refine (Hce.out _ HB.out).mono ?_; rintro e wn ⟨rfl, hbn⟩; replace hA := fun o => (hbn.cell (p := ⟨w.heap.size, o, none⟩) z1).trans (hA o); replace hB := fun o => (hbn.cell (p := ⟨w.heap.size + 1, o, none⟩) z2).trans (hB o); replace z1 := Nat.lt_of_lt_of_le z1 hbn.size; replace z2 := Nat.lt_of_lt_of_le z2 hbn.size; replace HB := Lib.hid (below_then HB.out hbn); clear hbn)
                                    | (go_at_call 69; with_reducible refine (Hcc.out _ HB.out).mono ?_; rintro e wn ⟨rfl, hbn⟩; replace hA := fun o => (hbn.cell (p := ⟨w.heap.size, o, none⟩) z1).trans (hA o); replace hB := fun o => (hbn.cell (p := ⟨w.heap.size + 1, o, none⟩) z2).trans (hB o); replace z1 := Nat.lt_of_lt_of_le z1 hbn.size; replace z2 := Nat.lt_of_lt_of_le z2 hbn.size; replace HB := Lib.hid (below_then HB.out hbn); clear hbn)
                                    | (go_at_call 69; with_reducible refine (Hco.out _ HB.out).mono ?_; rintro e wn ⟨rfl, hbn⟩; replace hA := fun o => (hbn.cell (p := ⟨w.heap.size, o, none⟩) z1).trans (hA o); replace hB := fun o => (hbn.cell (p := ⟨w.heap.size + 1, o, none⟩) z2).trans (hB o); replace z1 := Nat.lt_of_lt_of_le z1 hbn.size; replace z2 := Nat.lt_of_lt_of_le z2 hbn.size; replace HB := Lib.hid (below_then HB.out hbn); clear hbn)
                                    | (go_at_call 68; with_reducible refine (Hcn.out _ HB.out).mono ?_; rintro e wn ⟨rfl, hbn⟩; replace hA := fun o => (hbn.cell (p := ⟨w.heap.size, o, none⟩) z1).trans (hA o); replace hB := fun o => (hbn.cell (p := ⟨w.heap.size + 1, o, none⟩) z2).trans (hB o); replace z1 := Nat.lt_of_lt_of_le z1 hbn.size; replace z2 := Nat.lt_of_lt_of_le z2 hbn.size; replace HB := Lib.hid (below_then HB.out hbn); clear hbn)
                                    | (go_at_call 69; with_reducible refine (Hcr.out _ HB.out).mono ?_; rintro e wn ⟨rfl, hbn⟩; replace hA := fun o => (hbn.cell (p := ⟨w.heap.size, o, none⟩) z1).trans (hA o); replace hB := fun o => (hbn.cell (p := ⟨w.heap.size + 1, o, none⟩) z2).trans (hB o); replace z1 := Nat.lt_of_lt_of_le z1 hbn.size; replace z2 := Nat.lt_of_lt_of_le z2 hbn.size; replace HB := Lib.hid (below_then HB.out hbn); clear hbn))
                                  go_ret
                                  exact ⟨ret_bool (by rw [HE.out]; simp), HB.out⟩
                                · skip
                                  cases h11 : (a.down == b.down)
                                  · rw [h11] at HE
                                    go_wp2_with (first
                                      | (go_at_call 68; with_reducible refine (Hce.out _ HB.out).mono ?_; rintro e wn ⟨rfl, hbn⟩; replace hA := fun o => (hbn.cell (p := ⟨w.heap.size, o, none⟩) z1).trans (hA o); replace hB := fun o => (hbn.cell (p := ⟨w.heap.size + 1, o, none⟩) z2).trans (hB o); replace z1 := Nat.lt_of_lt_of_le z1 hbn.size; replace z2 := Nat.lt_of_lt_of_le z2 hbn.size; replace HB := Lib.hid (below_then HB.out hbn); clear hbn)
                                      | (go_at_call 69; with_reducible refine (Hcc.out _ HB.out).mono ?_; rintro e wn ⟨rfl, hbn⟩; replace hA := fun o => (hbn.cell (p := ⟨w.heap.size, o, none⟩) z1).trans (hA o); replace hB := fun o => (hbn.cell (p := ⟨w.heap.size + 1, o, none⟩) z2).trans (hB o); replace z1 := Nat.lt_of_lt_of_le z1 hbn.size; replace z2 := Nat.lt_of_lt_of_le z2 hbn.size; replace HB := Lib.hid (below_then HB.out hbn); clear hbn)
                                      | (go_at_call 69; with_reducible refine (Hco.out _ HB.out).mono ?_; rintro e wn ⟨rfl, hbn⟩; replace hA := fun o => (hbn.cell (p := ⟨w.heap.size, o, none⟩) z1).trans (hA o); replace hB := fun o => (hbn.cell (p := ⟨w.heap.size + 1, o, none⟩) z2).trans (hB o); replace z1 := Nat.lt_of_lt_of_le z1 hbn.size; replace z2 := Nat.lt_of_lt_of_le z2 hbn.size; replace HB := Lib.hid (below_then HB.out hbn); clear hbn)
                                      | (go_at_call 68; with_reducible refine (Hcn.out _ HB.out).mono ?_; rintro e wn ⟨rfl, hbn⟩; replace hA := fun o => (hbn.cell (p := ⟨w.heap.size, o, none⟩) z1).trans (hA o); replace hB := fun o => (hbn.cell (p := ⟨w.heap.size + 1, o, none⟩) z2).trans (hB o); replace z1 := Nat.lt_of_lt_of_le z1 hbn.size; replace z2 := Nat.lt_of_lt_of_le z2 hbn.size; replace HB := Lib.hid (below_then HB.out hbn); clear hbn)
                                      | (go_at_call 69; with_reducible refine (Hcr.out _ HB.out).mono ?_; rintro e wn ⟨rfl, hbn⟩; replace hA := fun o => (hbn.cell (p := ⟨w.heap.size, o, none⟩) z1).trans (hA o); replace hB := fun o => (hbn.cell (p := ⟨w.heap.size + 1, o, none⟩) z2).trans (hB o); replace z1 := Nat.lt_of_lt_of_le z1 hbn.size; replace z2 := Nat.lt_of_lt_of_le z2 hbn.size; replace HB := Lib.hid (below_then HB.out hbn); clear hbn))
                                    go_ret
                                    exact ⟨ret_bool (by rw [HE.out]; simp), HB.out⟩
                                  · rw [h11] at HE
                                    cases h12 : (a.limit == b.limit)
                                    · rw [h12] at HE
                                      go_wp2_with (first
                                        | (go_at_call 68; with_reducible refine (Hce.out _ HB.out).mono ?_; rintro e wn ⟨rfl, hbn⟩; replace hA := fun o => (hbn.cell (p := ⟨w.heap.size, o, none⟩) z1).trans (hA o); replace hB := fun o => (hbn.cell (p := ⟨w.heap.size + 1, o, none⟩) z2).trans (hB o); replace z1 := Nat.lt_of_lt_of_le z1 hbn.size; replace z2 := Nat.lt_of_lt_of_le z2 hbn.size; replace HB := Lib.hid (below_then HB.out hbn); clear hbn)
                                        | (go_at_call 69; with_reducible refine (Hcc.out _ HB.out).mono ?_; rintro e wn ⟨rfl, hbn⟩; replace hA := fun o => (hbn.cell (p := ⟨w.heap.size, o, none⟩) z1).trans (hA o); replace hB := fun o => (hbn.cell (p := ⟨w.heap.size + 1, o, none⟩) z2).trans (hB o); replace z1 := Nat.lt_of_lt_of_le z1 hbn.size; replace z2 := Nat.lt_of_lt_of_le z2 hbn.size; replace HB := Lib.hid (below_then HB.out hbn); clear hbn)
                                        | (go_at_call 69; with_reducible refine (Hco.out _ HB.out).mono ?_; rintro e wn ⟨rfl, hbn⟩; replace hA := fun o => (hbn.cell (p := ⟨w.heap.size, o, none⟩) z1).trans (hA o); replace hB := fun o => (hbn.cell (p := ⟨w.heap.size + 1, o, none⟩) z2).trans (hB o); replace z1 := Nat.lt_of_lt_of_le z1 hbn.size; replace z2 := Nat.lt_of_lt_of_le z2 hbn.size; replace HB := Lib.hid (below_then HB.out hbn); clear hbn)
                                        | (go_at_call 68; with_reducible refine (Hcn.out _ HB.out).mono ?_; rintro e wn ⟨rfl, hbn⟩; replace hA := fun o => (hbn.cell (p := ⟨w.heap.size, o, none⟩) z1).trans (hA o); replace hB := fun o => (hbn.cell (p := ⟨w.heap.size + 1, o, none⟩) z2).trans (hB o); replace z1 := Nat.lt_of_lt_of_le z1 hbn.size; replace z2 := Nat.lt_of_lt_of_le z2 hbn.size; replace HB := Lib.hid (below_then HB.out hbn); clear hbn)
                                        | (go_at_call 69; with_reducible refine (Hcr.out _ HB.out).mono ?_; rintro e wn ⟨rfl, hbn⟩; replace hA := fun o => (hbn.cell (p := ⟨w.heap.size, o, none⟩) z1).trans (hA o); replace hB := fun o => (hbn.cell (p := ⟨w.heap.size + 1, o, none⟩) z2).trans (hB o); replace z1 := Nat.lt_of_lt_of_le z1 hbn.size; replace z2 := Nat.lt_of_lt_of_le z2 hbn.size; replace HB := Lib.hid (below_then HB.out hbn); clear hbn))
                                      go_ret
                                      exact ⟨ret_bool (by rw [HE.out]; simp), HB.out⟩
                                    · rw [h12] at HE
                                      cases h13 : (a.mode == b.mode)
                                      · rw [h13] at HE
                                        go_wp2_with (first
                                          | (go_at_call 68; with_reducible refine (Hce.out _ HB.out).mono ?_; rintro e wn ⟨rfl, hbn⟩; replace hA := fun o => (hbn.cell (p := ⟨w.heap.size, o, none⟩) z1).trans (hA o); replace hB := fun o => (hbn.cell (p := ⟨w.heap.size + 1, o, none⟩) z2).trans (hB o); replace z1 := Nat.lt_of_lt_of_le z1 hbn.size; replace z2 := Nat.lt_of_lt_of_le z2 hbn.size; replace HB := Lib.hid (below_then HB.out hbn); clear hbn)
                                          | (go_at_call 69; with_reducible refine (Hcc.out _ HB.out).mono ?_; rintro e wn ⟨rfl, hbn⟩; replace hA := fun o => (hbn.cell (p := ⟨w.heap.size, o, none⟩) z1).trans (hA o); replace hB := fun o => (hbn.cell (p := ⟨w.heap.size + 1, o, none⟩) z2).trans (hB o); replace z1 := Nat.lt_of_lt_of_le z1 hbn.size; replace z2 := Nat.lt_of_lt_of_le z2 hbn.size; replace HB := Lib.hid (below_then HB.out hbn); clear hbn)
                                          | (go_at_call 69; with_reducible refine (Hco.out _ HB.out).mono ?_; rintro e wn ⟨rfl, hbn⟩; replace hA := fun o => (hbn.cell (p := ⟨w.heap.size, o, none⟩) z1).trans (hA o); replace hB := fun o => (hbn.cell (p := ⟨w.heap.size + 1, o, none⟩) z2).trans (hB o); replace z1 := Nat.lt_of_lt_of_le z1 hbn.size; replace z2 := Nat.lt_of_lt_of_le z2 hbn.size; replace HB := Lib.hid (below_then HB.out hbn); clear hbn)
                                          | (go_at_call 68; with_reducible refine (Hcn.out _ HB.out).mono ?_; rintro e wn ⟨rfl, hbn⟩; replace hA := fun o => (hbn.cell (p := ⟨w.heap.size, o, none⟩) z1).trans (hA o); replace hB := fun o => (hbn.cell (p := ⟨w.heap.size + 1, o, none⟩) z2).trans (hB o); replace z1 := Nat.lt_of_lt_of_le z1 hbn.size; replace z2 := Nat.lt_of_lt_of_le z2 hbn.size; replace HB := Lib.hid (below_then HB.out hbn); clear hbn)
                                          | (go_at_call 69; with_reducible refine (Hcr.out _ HB.out).mono ?_; rintro e wn ⟨rfl, hbn⟩; replace hA := fun o => (hbn.cell (p := ⟨w.heap.size, o, none⟩) z1).trans (hA o); replace hB := fun o => (hbn.cell (p := ⟨w.heap.size + 1, o, none⟩) z2).trans (hB o); replace z1 := Nat.lt_of_lt_of_le z1 hbn.size; replace z2 := Nat.lt_of_lt_of_le z2 hbn.size; replace HB := Lib.hid (below_then HB.out hbn); clear hbn))
                                        go_ret
                                        exact ⟨ret_bool (by rw [HE.out]; simp), HB.out⟩
                                      · rw [h13] at HE
                                        go_wp2_with (first
                                          | (go_at_call 68; with_reducible refine (Hce.out _ HB.out).mono ?_; rintro e wn ⟨rfl, hbn⟩; replace hA := fun o => (hbn.cell (p := ⟨w.heap.size, o, none⟩) z1).trans (hA o); replace hB := fun o => (hbn.cell (p := ⟨w.heap.size + 1, o, none⟩) z2).trans (hB o); replace z1 := Nat.lt_of_lt_of_le z1 hbn.size; replace z2 := Nat.lt_of_lt_of_le z2 hbn.size; replace HB := Lib.hid (below_then HB.out hbn); clear hbn)
                                          | (go_at_call 69; with_reducible refine (Hcc.out _ HB.out).mono ?_; rintro e wn ⟨rfl, hbn⟩; replace hA := fun o => (hbn.cell (p := ⟨w.heap.size, o, none⟩) z1).trans (hA o); replace hB := fun o => (hbn.cell (p := ⟨w.heap.size + 1, o, none⟩) z2).trans (hB o); replace z1 := Nat.lt_of_lt_of_le z1 hbn.size; replace z2 := Nat.lt_of_lt_of_le z2 hbn.size; replace HB := Lib.hid (below_then HB.out hbn); clear hbn)
                                          | (go_at_call 69; with_reducible refine (Hco.out _ HB.out).mono ?_; rintro e wn ⟨rfl, hbn⟩; replace hA := fun o => (hbn.cell (p := ⟨w.heap.size, o, none⟩) z1).trans (hA o); replace hB := fun o => (hbn.cell (p := ⟨w.heap.size + 1, o, none⟩) z2).trans (hB o); replace z1 := Nat.lt_of_lt_of_le z1 hbn.size; replace z2 := Nat.lt_of_lt_of_le z2 hbn.size; replace HB := Lib.hid (below_then HB.out hbn); clear hbn)
                                          | (go_at_call 68; with_reducible refine (Hcn.out _ HB.out).mono ?_; rintro e wn ⟨rfl, hbn⟩; replace hA := fun o => (hbn.cell (p := ⟨w.heap.size, o, none⟩) z1).trans (hA o); replace hB := fun o => (hbn.cell (p := ⟨w.heap.size + 1, o, none⟩) z2).trans (hB o); replace z1 := Nat.lt_of_lt_of_le z1 hbn.size; replace z2 := Nat.lt_of_lt_of_le z2 hbn.size; replace HB := Lib.hid (below_then HB.out hbn); clear hbn)
                                          | (go_at_call 69; with_reducible refine (Hcr.out _ HB.out).mono ?_; rintro e wn ⟨rfl, hbn⟩; replace hA := fun o => (hbn.cell (p := ⟨w.heap.size, o, none⟩) z1).trans (hA o); replace hB := fun o => (hbn.cell (p := ⟨w.heap.size + 1, o, none⟩) z2).trans (hB o); replace z1 := Nat.lt_of_lt_of_le z1 hbn.size; replace z2 := Nat.lt_of_lt_of_le z2 hbn.size; replace HB := Lib.hid (below_then HB.out hbn); clear hbn))
                                        go_ret
                                        exact ⟨ret_bool (by rw [HE.out]; simp), HB.out⟩
  · have hlen2 : ((a.aggs.length : Int) != (b.aggs.length : Int)) = true := by simp at hlen ⊢; omega
    have HS := Lib.hid (eqL_len (q := eqAgg) (a := a.aggs) (b := b.aggs) (by simpa using hlen))
    go_enter Tryz.func99, Tryz.ntmps99
    simp only [List.append_eq, List.cons_append, List.nil_append]
    go_wp2_with (first
      | (go_at_call 166; with_reducible refine (Hcs.out _ HB0.out).mono ?_; rintro e wn ⟨rfl, hbn⟩; obtain ⟨z1, z2, hA, hB, HB⟩ := HBOX.out _ hbn; clear hbn)
      | (go_at_call 167; with_reducible refine (Hcp.out _ HB.out).mono ?_; rintro e wn ⟨rfl, hbn⟩; replace hA := fun o => (hbn.cell (p := ⟨w.heap.size, o, none⟩) z1).trans (hA o); replace hB := fun o => (hbn.cell (p := ⟨w.heap.size + 1, o, none⟩) z2).trans (hB o); replace z1 := Nat.lt_of_lt_of_le z1 hbn.size; replace z2 := Nat.lt_of_lt_of_le z2 hbn.size; replace HB := Lib.hid (below_then HB.out hbn); clear hbn))
    go_ret
    exact ⟨ret_bool (by rw [HE.out, HS.out]; simp), HB0.out⟩
end walks
end Go.Proofs.YtimahogkcmmcnaaGreatDoor
