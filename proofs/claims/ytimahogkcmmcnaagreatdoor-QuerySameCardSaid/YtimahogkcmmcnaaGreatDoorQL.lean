/-
  A node's cells as a whole: loads and stores. No conditions.
-/
import Derived.Test.YtimahogkcmmcnaaGreatDoorQ3
import Derived.Deep.WholeRow
set_option linter.unusedSimpArgs false
set_option linter.unusedVariables false
namespace Go.Proofs.YtimahogkcmmcnaaGreatDoor
open Go.RowKit

/-- A node's cells. -/
def nodC (m : NodM) (s : NodS) : Array Value := (nodL m s).toArray

theorem nodC_size (m : NodM) (s : NodS) : (nodC m s).size = 25 := rfl
theorem nodC_agg (m : NodM) (s : NodS) : Value.agg (nodC m s) = nodV m s := rfl
theorem nodC_one (m : NodM) (s : NodS) : (nodC m s).all (·.oneCell') = true := by simp [nodC, nodL, Value.oneCell']
theorem info167 : (Tryz.prog.info? 167).map (·.size) = some 25 := by kernel_rfl

theorem add_o (b o j : Nat) : (⟨b, o, none⟩ : Addr).add j = ⟨b, o + j, none⟩ := by unfold Addr.add; split <;> simp_all

/-- Its cells loaded. -/
theorem load_nod {w : World} {b o : Nat} {m : NodM} {s : NodS} (h : ∀ j, j < 25 → w.cell? ⟨b, o + j, none⟩ = (nodL m s)[j]?) :
    (loadCellsFrom ⟨b, o, none⟩ 0 25 #[]).run Tryz.prog w = .ok (nodC m s) w := by
  have := run_loadCells_list (P := Tryz.prog) (w := w) ⟨b, o, none⟩ (nodL m s) (fun j v hv => by
    have hj : j < 25 := by
      have := (List.getElem?_eq_some_iff.1 hv).1
      simpa [nodL] using this
    rw [add_o, h j hj]; exact hv)
  simpa [loadCells, nodL, nodC] using this

theorem load_new {w : World} {b : Nat} {c : Array Value} {t : TypeId} (hb : w.heap[b]? = some (.cells c t)) (hc : c.size = 25) :
    (loadCellsFrom ⟨b, 0, none⟩ 0 25 #[]).run Tryz.prog w = .ok c w := by
  have := run_loadCells_list (P := Tryz.prog) (w := w) ⟨b, 0, none⟩ c.toList (fun j v hv => by
    rw [add_o, cell_of_row w b _ c t (0, 0) hb]
    simpa using hv)
  simpa [loadCells, hc] using this

theorem store_new (w : World) (c : Array Value) (hc : c.size = 25) (h1 : c.all (·.oneCell') = true) (Z : Array Value) (hZ : Z.size = 25) :
    (storeCells ⟨w.heap.size, 0, none⟩ c.toList 0).run Tryz.prog (w.alloc (.cells Z 167)) = .ok () (w.alloc (.cells c 167)) :=
  run_storeCells_new w 167 Z c (by rw [info167, hc]) (by rw [hZ, hc]) h1
theorem loadAt_of {w : World} {b o : Nat} {c : Array Value} (h : (loadCellsFrom ⟨b, o, none⟩ 0 25 #[]).run Tryz.prog w = .ok c w) :
    (Instr.loadAt 167 (.pointer (some ⟨b, o, none⟩))).run Tryz.prog w = .ok (.agg c) w := by
  simp only [Instr.loadAt, Instr.sureAddr, Sem.run_bind, Sem.run_pure, Result.andThen, loadVar, Tryz.isAgg167, Tryz.sizeOf167]
  simp [loadCells, h, Tryz.isAgg167, Tryz.sizeOf167]

/-- A load by a law of one's own. -/
theorem wpList_loadAt {P : Program} {w : World} {ops : Array Oper} {rest : List Oper} {o : Oper} {a : Act} {Q : Exit → Act → World → Prop} (hgd : o.guard = none) (x : Operand) (t : TypeId) (ho : o.op = .load t x)
    (p v : Value) (hx : a.eval x = p) (hr : (Instr.loadAt t p).run P w = .ok v w) (h : wpList P ops Q rest (a.put o.dst v) w) : wpList P ops Q (o :: rest) a w :=
  wpList_plain hgd fun K hK => by
    unfold Oper.wp execOp
    simp only [ho, hx, Sem.run_bind, Sem.run_map, Sem.run_pure, hr, Result.andThen_ok]
    exact hK _ _ h
end Go.Proofs.YtimahogkcmmcnaaGreatDoor
