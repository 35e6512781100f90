/-
  Schemas: what both sides' ValidSchema answers, part 7. Conditions: the schema lies in the world as the words say.
-/
import Derived.Test.YtimahogkcmmcnaaGreatDoorM6
import Derived.MapKept
import Derived.RangeFuncRecord
set_option linter.unusedSimpArgs false
set_option linter.unusedVariables false
namespace Go.Proofs.YtimahogkcmmcnaaGreatDoor
open Go.RowKit Go.Proofs.YtimahogkcmmcnaaGreatDoor.Cmps

/-- A map's entries: these texts, each with true. -/
def SEnts (es : List MapEntry) (l : List ByteArray) : Prop := es.map (fun e => (e.key, e.val)) = l.map fun n => (Value.string n, Value.bool true)

theorem findNow_str : ∀ {es : List MapEntry} {l : List ByteArray}, SEnts es l → ∀ (n : ByteArray) (i : Nat), ∃ r, Instr.findNow .string (.string n) es i = some r ∧ r.isSome = hasS l n ∧ ∀ x, r = some x → x.2 = .bool true
  | [], [], _, n, i => ⟨none, rfl, rfl, fun x h => by cases h⟩
  | [], _ :: _, h, _, _ => by cases h
  | _ :: _, [], h, _, _ => by cases h
  | e :: es, p :: l, h, n, i => by
    simp only [SEnts, List.map_cons, List.cons.injEq, Prod.mk.injEq] at h
    obtain ⟨⟨h1, h2⟩, h3⟩ := h
    obtain ⟨r, hr, hs, hx⟩ := findNow_str (es := es) (l := l) h3 n (i + 1)
    have e1 : Instr.sameNow .string (.string n) e.key = some (eqS p n) := by rw [h1, eqS_comm, ← eqS_beq]; rfl
    cases hq : eqS p n
    · refine ⟨r, ?_, ?_, hx⟩
      · rw [Instr.findNow, e1, hq]; exact hr
      · rw [hs]; simp [hasS, hq]
    · refine ⟨some (i, e.val), ?_, ?_, ?_⟩
      · rw [Instr.findNow, e1, hq]
      · simp [hasS, hq]
      · rintro x ⟨⟩; exact h2

theorem lookup_str (W : World) (r clock : Nat) (n : ByteArray) {es : Array MapEntry} {l : List ByteArray} (he : SEnts es.toList l) (h : W.heap[r]? = some (.map es clock)) :
    (Instr.lookup 177 (.map (some r)) (.string n) false).run Tryz.prog W = .ok (.bool (hasS l n)) W := by
  have hz : ∀ w, (zeroValue 4).run Tryz.prog w = .ok (.bool false) w := fun w => by kernel_rfl
  have u := Tryz.underlying177
  have u9 := Tryz.underlying9
  have ho : (getObj r).run Tryz.prog W = .ok (.map es clock) W := by simp [getObj, Sem.run, h]
  have hck : ∀ e m, (Instr.checkKey e (m + 1) 9 (.string n)).run Tryz.prog W = .ok () W := fun e m => MapKept.run_checkKey u9 (by simp [MapKept.IsKey]) e m
  obtain ⟨q, hq, hs, hx⟩ := findNow_str he n 0
  have hf : (Instr.findKey 9 (.string n) es.toList).run Tryz.prog W = .ok q W := by simp [Instr.findKey, run_underlying u9, hq]
  cases q with
  | none => simp only [Option.isSome_none] at hs; simp [Instr.lookup, run_underlying u, ho, hck, hf, hz, ← hs]
  | some x => simp only [Option.isSome_some] at hs; simp [Instr.lookup, run_underlying u, ho, hck, hf, ← hs, hx x rfl]

theorem store_str (W : World) (r clock : Nat) (n : ByteArray) {es : Array MapEntry} {l : List ByteArray} (he : SEnts es.toList l) (h : W.heap[r]? = some (.map es clock)) (hk : hasS l n = false) :
    (Instr.mapUpdate 177 (.map (some r)) (.string n) (.bool true)).run Tryz.prog W = .ok () (W.putObj r (.map (es.push { key := .string n, val := .bool true, born := clock }) (clock + 1))) := by
  have u := Tryz.underlying177
  have u9 := Tryz.underlying9
  have ho : (getObj r).run Tryz.prog W = .ok (.map es clock) W := by simp [getObj, Sem.run, h]
  have hs : ∀ o, (setObj r o).run Tryz.prog W = .ok () (W.putObj r o) := fun o => by simp [setObj, Sem.run, World.putObj, h]
  have hck : ∀ e m, (Instr.checkKey e (m + 1) 9 (.string n)).run Tryz.prog W = .ok () W := fun e m => MapKept.run_checkKey u9 (by simp [MapKept.IsKey]) e m
  obtain ⟨q, hq, hs', hx⟩ := findNow_str he n 0
  rw [hk] at hs'
  have hqn : q = none := by cases q <;> simp_all
  subst hqn
  have hf : (Instr.findKey 9 (.string n) es.toList).run Tryz.prog W = .ok none W := by simp [Instr.findKey, run_underlying u9, hq]
  simp [Instr.mapUpdate, run_underlying u, ho, hck, hf, hs]

theorem SEnts.push {es : Array MapEntry} {l : List ByteArray} (h : SEnts es.toList l) (n : ByteArray) (b : Nat) : SEnts (es.push { key := .string n, val := .bool true, born := b }).toList (l ++ [n]) := by
  unfold SEnts at *
  rw [Array.toList_push, List.map_append, List.map_append, h]
  rfl

theorem below_put {w W : World} {r : Nat} {o : Obj} (h : Below w.heap.size w W) (hr : w.heap.size ≤ r) : Below w.heap.size w (W.putObj r o) := by
  exact ⟨h.os, h.tape, h.output, by rw [World.putObj_size]; exact h.size, fun k hk => by rw [World.putObj_heap_other (by omega)]; exact h.block k hk⟩

theorem schema_bad {l : List Col} {k : Nat} (hk : k < l.length) (hv : schemaFrom (namesTo l k) (l.drop k) = schemaFrom [] l) (hb : nameB l[k].n = false ∨ hasS (namesTo l k) l[k].n = true ∨ withinB l[k].k 1 2 = false) : validSchema l = false := by
  rw [validSchema, ← hv, schemaFrom_bad hk hb, Bool.false_and]

theorem schema_go {l : List Col} {k : Nat} (hk : k < l.length) (hv : schemaFrom (namesTo l k) (l.drop k) = schemaFrom [] l) (h1 : nameB l[k].n = true) (h2 : hasS (namesTo l k) l[k].n = false) (h3 : withinB l[k].k 1 2 = true) :
    schemaFrom (namesTo l (k + 1)) (l.drop (k + 1)) = schemaFrom [] l := by
  rw [schemaFrom_go hk h1 h2 h3, hv]

theorem obj_new (w : World) (o : Obj) : (w.alloc o).heap[w.heap.size]? = some o := by
  show (w.heap.push o)[w.heap.size]? = some o
  exact Array.getElem?_push_size

section leaves
set_option maxHeartbeats 400000
set_option maxRecDepth 10000

theorem f36_any (w : World) (D : Nat → Prop) (v : Value) (l : List Col) (h : SchemaAt w D v l) :
    Calls Tryz.prog 36 #[v] w fun e w' => e = .returned (.bool (validSchema l)) ∧ Below w.heap.size w w' := by
  obtain ⟨a, cap, rfl, hc0, hl, hn, hx⟩ := h
  have hmm := @run_makeMap Tryz.prog
  go_enter Tryz.func36, Tryz.ntmps36
  go_wp2
  go_loopw [9] (fun i wr => ∃ (k : Nat) (es : Array MapEntry) (clk : Nat), k ≤ l.length ∧ i = .int .i64 k ∧ Hid (schemaFrom (namesTo l k) (l.drop k) = schemaFrom [] l) ∧ Hid (SEnts es.toList (namesTo l k)) ∧ wr.heap[w.heap.size]? = some (.map es clk) ∧ Below w.heap.size w wr) (fun i _ => l.length - (intOf i).toNat)
  case atStart => exact ⟨0, #[], 0, by omega, rfl, Lib.hid rfl, Lib.hid rfl, obj_new _ _, (Below.refl _ _).alloc (Nat.le_refl _) _⟩
  case round =>
    obtain ⟨k, es, clk, hk, rfl, hv, he, hm, hb⟩ := hrel
    by_cases hlt : k < l.length
    · rcases hx with rfl | ⟨b, off, rfl, hD, hc⟩
      · simp at hlt
      obtain ⟨x0, x1⟩ := hc k hlt
      have hbb := cell_lt x0
      rw [← hb.cell (p := ⟨b, _, none⟩) hbb] at x0 x1
      have hns := hn l[k] (List.getElem_mem hlt)
      have hms : w.heap.size < wr.heap.size := by
        rcases Nat.lt_or_ge w.heap.size wr.heap.size with h | h
        · exact h
        · rw [Array.getElem?_eq_none h] at hm; cases hm
      have hm1 : (wr.alloc (.cells #[.string l[k].n, .int .i64 l[k].k] 71)).heap[w.heap.size]? = some (.map es clk) := by
        rw [← hm]; exact Below.heap_alloc _ _ _ hms
      have hlk := lookup_str _ _ _ l[k].n he.out hm1
      clear hc
      cases hq : hasS (namesTo l k) l[k].n
      · have hst := store_str _ _ _ l[k].n he.out hm1 hq
        rw [hq] at hlk
        go_wp2_with (first
          | (go_at_call 103; refine (f103_any _ hns _).mono ?_; rintro e w' ⟨rfl, rfl⟩)
          | (go_at_call 104; refine (f104_any _ _ _ _).mono ?_; rintro e w' ⟨rfl, rfl⟩))
        all_goals first
          | (go_ret; exact ⟨ret_bool (schema_bad hlt hv.out (by simp_all)).symm, hb.alloc hb.size _⟩)
          | (go_roundw
             case rel => exact ⟨k + 1, _, _, by omega, by go_num, Lib.hid (schema_go hlt hv.out (by simp_all) hq (by simp_all)), Lib.hid (by rw [namesTo_succ hlt]; exact he.out.push _ _), World.putObj_heap_same (by simp; omega), below_put (hb.alloc hb.size _) (Nat.le_refl _)⟩
             case measure => simp [intOf]; omega)
      · rw [hq] at hlk
        go_wp2_with (first
          | (go_at_call 103; refine (f103_any _ hns _).mono ?_; rintro e w' ⟨rfl, rfl⟩)
          | (go_at_call 104; refine (f104_any _ _ _ _).mono ?_; rintro e w' ⟨rfl, rfl⟩))
        all_goals (go_ret; exact ⟨ret_bool (schema_bad hlt hv.out (.inr (.inl hq))).symm, hb.alloc hb.size _⟩)
    · go_wp2_with (go_at_call 104; refine (f104_any _ _ _ _).mono ?_; rintro e w' ⟨rfl, rfl⟩)
      go_ret
      obtain rfl : k = l.length := by omega
      exact ⟨ret_bool (by rw [validSchema, ← hv.out, schemaFrom_end, Bool.true_and]; simp only [withinB]; rw [Bool.eq_iff_iff]; simp only [decide_eq_true_eq]; omega), hb⟩
end leaves
end Go.Proofs.YtimahogkcmmcnaaGreatDoor
