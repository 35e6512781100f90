/-
  The well, part 7: the program's small functions: marks, whether a split is exhausted, counts. Conditions: the well lies in the world as the words say. The well, part 8: what the program's well tells: marks, counts, how many are left, idle. Conditions: the well lies in the world as the words say. The well, part 9: what the program's well tells: how many are left, idle, done. Conditions: the well lies in the world as the words say. The well, part 10: the program's map of splits by name, and owners. Conditions: the well lies in the world as the words say. The well, part 11: whether nothing more comes of the program's well. Conditions: the well lies in the world as the words say. The well, part 12: lists of texts and of numbers compared. Conditions: the lists lie in the world as the words say.
-/
import Derived.Test.YtimahogkcmmcnaaGreatDoorK05
set_option linter.unusedSimpArgs false
set_option linter.unusedVariables false

namespace Go.Proofs.YtimahogkcmmcnaaGreatDoor
open Go.RowKit Go.Proofs.YtimahogkcmmcnaaGreatDoor.Cmps

theorem cells_at {w : World} {b : Nat} {cs : Array Value} {t : TypeId} (h : w.heap[b]? = some (.cells cs t (0, 0))) (o : Nat) : w.cell? ⟨b, o, none⟩ = cs[o]? := by
  rw [cell_of_row w b o cs t (0, 0) h]

/-- There is such a reader. -/
def isB (n : Nat) (r : Int) : Bool := decide (0 ≤ r ∧ r < (n : Int))

section leaves
set_option maxHeartbeats 400000
set_option maxRecDepth 10000

theorem f48_any (w : World) (b : Nat) (n : Int) (h : w.cell? ⟨b, 1, none⟩ = some (.int .i64 n)) :
    Calls Tryz.prog 48 #[ptr b] w fun e w' => e = .returned (.int .i64 n) ∧ w = w' := by
  unfold ptr
  go_enter Tryz.func48, Tryz.ntmps48
  go_wp2_with fail
  go_ret
  exact ⟨rfl, rfl⟩

theorem f150_any (w : World) (b : Nat) (n : Int) (h : w.cell? ⟨b, 1, none⟩ = some (.int .i64 n)) :
    Calls Tryz.prog 150 #[ptr b] w fun e w' => e = .returned (.int .i64 n) ∧ w = w' := by
  unfold ptr
  go_enter Tryz.func150, Tryz.ntmps150
  go_wp2_with fail
  go_ret
  exact ⟨rfl, rfl⟩

theorem f125_any (w : World) (t k : Int) :
    Calls Tryz.prog 125 #[.int .i64 t, .int .i64 k] w fun e w' => e = .returned (.bool (decide (t < k))) ∧ w = w' := by
  go_enter Tryz.func125, Tryz.ntmps125
  go_wp2_with fail
  go_ret
  exact ⟨rfl, rfl⟩

theorem f129_any (w : World) (n lo hi : Int) :
    Calls Tryz.prog 129 #[.int .i64 n, .int .i64 lo, .int .i64 hi] w fun e w' => e = .returned (.bool (withinB n lo hi)) ∧ w = w' := by
  by_cases h1 : lo ≤ n <;> by_cases h2 : n ≤ hi
  all_goals
    have HE : Hid (withinB n lo hi = decide (lo ≤ n ∧ n ≤ hi)) := rfl
    go_enter Tryz.func129, Tryz.ntmps129
    go_wp2_with fail
    go_ret
    exact ⟨ret_bool (by rw [HE.out]; simp [h1, h2]), rfl⟩

theorem f138_any (w : World) (b : Nat) (sl : Bool) (r n : Nat) (a : Option Addr) (c : Nat) (h1 : w.cell? ⟨b, 1, none⟩ = some (.slice a n c)) (h2 : w.cell? ⟨b, 2, none⟩ = some (.int .i64 r)) (h4 : w.cell? ⟨b, 4, none⟩ = some (.bool sl)) :
    Calls Tryz.prog 138 #[ptr b] w fun e w' => e = .returned (.bool (sl && ((r : Int) == (n : Int)))) ∧ Below w.heap.size w w' := by
  unfold ptr
  have hlt := cell_lt h1
  cases sl
  · go_enter Tryz.func138, Tryz.ntmps138
    go_wp2_with fail
    go_quiet (fail)
    go_wp2_with fail
    go_ret
    exact ⟨rfl, Drew.belowW ⟨_, rfl⟩⟩
  · go_enter Tryz.func138, Tryz.ntmps138
    go_wp2_with fail
    go_quiet (fail)
    go_wp2_with fail
    go_ret
    exact ⟨ret_bool (by simp), Drew.belowW ⟨_, rfl⟩⟩

theorem f47_any (w : World) (b : Nat) (r : Int) (n : Nat) (a : Option Addr) (c : Nat) (h : w.cell? ⟨b, 4, none⟩ = some (.slice a n c)) :
    Calls Tryz.prog 47 #[ptr b, .int .i64 r] w fun e w' => e = .returned (.bool (isB n r)) ∧ w = w' := by
  unfold ptr
  by_cases h1 : 0 ≤ r
  · have HE : Hid (isB n r = decide (r < (n : Int))) := by show isB n r = _; simp [isB, h1]
    go_enter Tryz.func47, Tryz.ntmps47
    go_wp2_with fail
    go_ret
    exact ⟨ret_bool HE.out.symm, rfl⟩
  · have HE : Hid (isB n r = false) := by show isB n r = _; simp [isB, h1]
    go_enter Tryz.func47, Tryz.ntmps47
    go_wp2_with fail
    go_ret
    exact ⟨ret_bool HE.out.symm, rfl⟩
end leaves
end Go.Proofs.YtimahogkcmmcnaaGreatDoor

namespace Go.Proofs.YtimahogkcmmcnaaGreatDoor
open Go.RowKit Go.Proofs.YtimahogkcmmcnaaGreatDoor.Cmps

section access
variable {w : World} {col : Nat → Nat} {s : List Col} {ws : WS} {m : WlM}

theorem WAt.cells (h : WAt w col s ws m) : w.cell? ⟨ws.W, 0, none⟩ = some ws.sch ∧ w.cell? ⟨ws.W, 1, none⟩ = some (.int .i64 m.bound) ∧ w.cell? ⟨ws.W, 2, none⟩ = some ws.spl ∧ w.cell? ⟨ws.W, 3, none⟩ = some (.map (some ws.mp)) ∧
    w.cell? ⟨ws.W, 4, none⟩ = some ws.rd ∧ w.cell? ⟨ws.W, 5, none⟩ = some (.bool m.sealed) ∧ w.cell? ⟨ws.W, 6, none⟩ = some ws.late := by
  have := cells_at h.hW
  exact ⟨this 0, this 1, this 2, this 3, this 4, this 5, this 6⟩

theorem WAt.rdForm (h : WAt w col s ws m) : ∃ a c, ws.rd = .slice a m.marks.length c := h.hR.form
theorem WAt.splForm (h : WAt w col s ws m) : ∃ a c, ws.spl = .slice a m.splits.length c := h.hS.form

/-- A slice of one's own with something in it. -/
theorem SlOwn.some_of {e : TypeId} {size : Nat} {a : Option Addr} {n c : Nat} {xs : List Value} {blk : Option Nat} (h : SlOwn w e size (.slice a n c) n xs blk) (hn : 0 < n) : ∃ g o, a = some ⟨g, o, none⟩ := by
  rcases h.2 with ⟨_, h0, _⟩ | ⟨g, o, cap, cur, _, hv, _⟩
  · omega
  · injection hv with hv _ _
    exact ⟨g, o, hv⟩

theorem range_ptr {n k : Nat} (f : Nat → Nat) (h : k < n) : ((List.range n).map fun k => ptr (f k))[k]? = some (ptr (f k)) := by
  simp [h]

theorem WAt.reader (h : WAt w col s ws m) {a : Option Addr} {c : Nat} (e : ws.rd = .slice a m.marks.length c) {r : Nat} (hr : r < m.marks.length) :
    ∃ g o, a = some ⟨g, o, none⟩ ∧ g < w.heap.size ∧ w.cell? ⟨g, o + r, none⟩ = some (ptr (ws.mb r)) ∧ w.cell? ⟨ws.mb r, 1, none⟩ = some (.int .i64 m.marks[r]) := by
  have hR := h.hR
  rw [e] at hR
  obtain ⟨g, o, rfl⟩ := hR.some_of (by omega)
  have c1 := hR.cell r _ (range_ptr ws.mb hr)
  exact ⟨g, o, rfl, cell_lt c1, c1, by rw [cells_at (h.hB r hr)]; rfl⟩

theorem WAt.split (h : WAt w col s ws m) {a : Option Addr} {c : Nat} (e : ws.spl = .slice a m.splits.length c) {k : Nat} (hk : k < m.splits.length) :
    ∃ g o e1 e2, a = some ⟨g, o, none⟩ ∧ g < w.heap.size ∧ w.cell? ⟨g, o + k, none⟩ = some (.pointer (some ⟨ws.xb k, 0, none⟩)) ∧ ws.ev k = .slice e1 m.splits[k].evs.length e2 ∧ ws.xb k < w.heap.size ∧
    w.cell? ⟨ws.xb k, 0, none⟩ = some (.string m.splits[k].name) ∧ w.cell? ⟨ws.xb k, 1, none⟩ = some (.slice e1 m.splits[k].evs.length e2) ∧ w.cell? ⟨ws.xb k, 2, none⟩ = some (.int .i64 m.splits[k].read) ∧
    w.cell? ⟨ws.xb k, 3, none⟩ = some (.pointer (some ⟨ws.gb k, 0, none⟩)) ∧ w.cell? ⟨ws.xb k, 4, none⟩ = some (.bool m.splits[k].sealed) ∧ w.cell? ⟨ws.xb k, 5, none⟩ = some (.int .i64 m.splits[k].owner) := by
  have hS := h.hS
  rw [e] at hS
  obtain ⟨g, o, rfl⟩ := hS.some_of (by omega)
  have c1 := hS.cell k _ (range_ptr ws.xb hk)
  obtain ⟨e1, e2, e3⟩ := (h.hE k hk).form
  have hc := cells_at (h.hX k hk)
  exact ⟨g, o, e1, e2, rfl, cell_lt c1, c1, e3, heap_lt (h.hX k hk), hc 0, by rw [hc 1, ← e3]; rfl, hc 2, hc 3, hc 4, hc 5⟩
end access

def countN (l : List SpM) (r : Int) : Nat := l.countP fun x => (x.owner : Int) == r

theorem countN_take {l : List SpM} {r : Int} {k : Nat} (h : k < l.length) : countN (l.take (k + 1)) r = countN (l.take k) r + (if ((l[k].owner : Int) == r) = true then 1 else 0) := by
  unfold countN
  rw [← List.take_append_getElem h, List.countP_append]
  simp only [List.countP_cons, List.countP_nil, Nat.zero_add]

theorem countN_le (l : List SpM) (r : Int) : countN l r ≤ l.length := List.countP_le_length

section leaves
set_option maxHeartbeats 400000
set_option maxRecDepth 10000

theorem f18_any (w : World) (col : Nat → Nat) (s : List Col) (ws : WS) (m : WlM) (r : Int) (h : WAt w col s ws m) (hok : WOk m) :
    Calls Tryz.prog 18 #[ptr ws.W, .int .i64 r] w fun e w' => e = .returned (.int .i64 (markI m r)) ∧ w = w' := by
  obtain ⟨a, c, e⟩ := h.rdForm
  obtain ⟨_, _, _, _, c4, _, _⟩ := h.cells
  rw [e] at c4
  have h16 := hok.hi
  have H47 := Lib.hid (f47_any w ws.W r m.marks.length a c c4)
  by_cases h1 : 0 ≤ r ∧ r < (m.marks.length : Int)
  · obtain ⟨k, rfl⟩ : ∃ k : Nat, r = k := ⟨r.toNat, by omega⟩
    have hlt : k < m.marks.length := by omega
    have HE := Lib.hid (markI_in hlt)
    obtain ⟨g, o, rfl, hg, x0, x1⟩ := h.reader e hlt
    have H48 := Lib.hid (f48_any w (ws.mb k) m.marks[k] x1)
    rw [show isB m.marks.length (k : Int) = true by rw [isB, decide_eq_true h1]] at H47
    unfold ptr at x0 H47 H48 ⊢
    clear h hok x1
    go_enter Tryz.func18, Tryz.ntmps18
    go_wp2_with (first
      | (go_at_call 47; with_reducible refine H47.out.mono ?_; rintro e w1 ⟨rfl, rfl⟩)
      | (go_at_call 48; with_reducible refine H48.out.mono ?_; rintro e w1 ⟨rfl, rfl⟩))
    go_ret
    exact ⟨ret_int HE.out.symm, rfl⟩
  · have HE : Hid (markI m r = -1000000000000) := by show markI m r = _; rw [markI, if_neg h1]
    rw [show isB m.marks.length r = false by rw [isB, decide_eq_false h1]] at H47
    unfold ptr at H47 ⊢
    clear h hok
    go_enter Tryz.func18, Tryz.ntmps18
    go_wp2_with (go_at_call 47; with_reducible refine H47.out.mono ?_; rintro e w1 ⟨rfl, rfl⟩)
    go_ret
    exact ⟨ret_int HE.out.symm, rfl⟩

theorem f119_any (w : World) (col : Nat → Nat) (s : List Col) (ws : WS) (m : WlM) (h : WAt w col s ws m) (hok : WOk m) :
    Calls Tryz.prog 119 #[ptr ws.W] w fun e w' => e = .returned (.int .i64 (allN m.splits)) ∧ w = w' := by
  obtain ⟨a, c, e⟩ := h.splForm
  obtain ⟨_, _, c2, _, _, _, _⟩ := h.cells
  rw [e] at c2
  have H := Lib.hid h
  have h50 := hok.splits
  have HA := Lib.hid hok.all
  unfold ptr
  clear h hok
  go_enter Tryz.func119, Tryz.ntmps119
  go_wp2_with fail
  go_loopw [3, 5, 11] (fun z _ i wr => ∃ (k : Nat), k ≤ m.splits.length ∧ z = .int .i64 (allN (m.splits.take k)) ∧ i = .int .i64 k ∧ w = wr) (fun _ _ i _ => m.splits.length - (intOf i).toNat)
  case atStart => exact ⟨0, by omega, by rfl, rfl, rfl⟩
  case round =>
    obtain ⟨k, hk, rfl, rfl, rfl⟩ := hrel
    by_cases hlt : k < m.splits.length
    · obtain ⟨g, o, e1, e2, rfl, hg, x0, -, -, -, y1, -⟩ := H.out.split e hlt
      have hb1 : allN (m.splits.take k) + m.splits[k].evs.length ≤ 400 := by
        rw [← allN_take hlt]
        exact Nat.le_trans (allN_le _ _) HA.out
      have HT := Lib.hid (allN_take hlt)
      obtain ⟨n1, e1'⟩ : ∃ n, allN (m.splits.take k) = n := ⟨_, rfl⟩
      obtain ⟨n2, e2'⟩ : ∃ n, m.splits[k].evs.length = n := ⟨_, rfl⟩
      rw [e1', e2'] at HT hb1
      rw [e2'] at y1
      rw [e1']
      clear e
      go_wp2_with fail
      go_roundw
      case rel => exact ⟨k + 1, by omega, by rw [HT.out]; go_num, by go_num, trivial⟩
      case measure => simp [intOf]; omega
    · have hk' : k = m.splits.length := by omega
      subst hk'
      clear e
      go_wp2_with fail
      go_ret
      exact ⟨ret_int (by rw [List.take_length]), rfl⟩

theorem f79_any (w : World) (col : Nat → Nat) (s : List Col) (ws : WS) (m : WlM) (r : Int) (h : WAt w col s ws m) (hok : WOk m) :
    Calls Tryz.prog 79 #[ptr ws.W, .int .i64 r] w fun e w' => e = .returned (.int .i64 (countN m.splits r)) ∧ w = w' := by
  obtain ⟨a, c, e⟩ := h.splForm
  obtain ⟨_, _, c2, _, _, _, _⟩ := h.cells
  rw [e] at c2
  have H := Lib.hid h
  have h50 := hok.splits
  unfold ptr
  clear h hok
  go_enter Tryz.func79, Tryz.ntmps79
  go_wp2_with fail
  go_loopw [5, 7, 13] (fun z _ i wr => ∃ (k : Nat), k ≤ m.splits.length ∧ z = .int .i64 (countN (m.splits.take k) r) ∧ i = .int .i64 k ∧ w = wr) (fun _ _ i _ => m.splits.length - (intOf i).toNat)
  case atStart => exact ⟨0, by omega, by rfl, rfl, rfl⟩
  case round =>
    obtain ⟨k, hk, rfl, rfl, rfl⟩ := hrel
    by_cases hlt : k < m.splits.length
    · obtain ⟨g, o, e1, e2, rfl, hg, x0, -, -, -, -, -, -, -, y5⟩ := H.out.split e hlt
      have hb1 : countN (m.splits.take k) r ≤ 50 := by
        have := countN_le (m.splits.take k) r
        simp at this
        omega
      have HT := Lib.hid (countN_take (r := r) hlt)
      obtain ⟨n1, e1'⟩ : ∃ n, countN (m.splits.take k) r = n := ⟨_, rfl⟩
      rw [e1'] at HT hb1
      rw [e1']
      clear e
      cases ho : ((m.splits[k].owner : Int) == r)
      · have HU : Hid (countN (m.splits.take (k + 1)) r = n1) := by
          have := HT.out
          rw [ho] at this
          exact this
        go_wp2_with fail
        go_roundw
        case rel => exact ⟨k + 1, by omega, by rw [HU.out], by go_num, trivial⟩
        case measure => simp [intOf]; omega
      · have HU : Hid (countN (m.splits.take (k + 1)) r = n1 + 1) := by
          have := HT.out
          rw [ho] at this
          exact this
        go_wp2_with fail
        go_roundw
        case rel => exact ⟨k + 1, by omega, by rw [HU.out]; go_num, by go_num, trivial⟩
        case measure => simp [intOf]; omega
    · have hk' : k = m.splits.length := by omega
      subst hk'
      clear e
      go_wp2_with fail
      go_ret
      exact ⟨ret_int (by rw [List.take_length]), rfl⟩
end leaves
end Go.Proofs.YtimahogkcmmcnaaGreatDoor

namespace Go.Proofs.YtimahogkcmmcnaaGreatDoor
open Go.RowKit Go.Proofs.YtimahogkcmmcnaaGreatDoor.Cmps

theorem countN_any (l : List SpM) (r : Int) : (((countN l r : Nat) : Int) == 0) = !(l.any fun x => (x.owner : Int) == r) := by
  unfold countN
  cases h : l.any fun x => (x.owner : Int) == r
  · have : l.countP (fun x => (x.owner : Int) == r) = 0 := by
      rw [List.countP_eq_zero]
      intro x hx
      have := (List.any_eq_false.1 h) x hx
      simpa using this
    rw [this]; rfl
  · have : 0 < l.countP (fun x => (x.owner : Int) == r) := by
      rw [List.countP_pos_iff]
      obtain ⟨x, hx, hp⟩ := List.any_eq_true.1 h
      exact ⟨x, hx, hp⟩
    simp
    simpa using this

section leaves
set_option maxHeartbeats 400000
set_option maxRecDepth 10000

theorem f22_any (w : World) (col : Nat → Nat) (s : List Col) (ws : WS) (m : WlM) (r : Int) (h : WAt w col s ws m) (hok : WOk m) :
    Calls Tryz.prog 22 #[ptr ws.W, .int .i64 r] w fun e w' => e = .returned (.int .i64 (leftI m.splits r)) ∧ Below w.heap.size w w' := by
  obtain ⟨a, c, e⟩ := h.splForm
  obtain ⟨a', c', e'⟩ := h.rdForm
  obtain ⟨_, _, c2, _, c4, _, _⟩ := h.cells
  rw [e] at c2
  rw [e'] at c4
  have hWs := cell_lt c2
  have H47 := Lib.hid (f47_any w ws.W r m.marks.length a' c' c4)
  have H := Lib.hid h
  have h50 := hok.splits
  have HA := Lib.hid hok.all
  have HR := Lib.hid hok.read
  have HO := Lib.hid hok.owner
  unfold ptr at H47 ⊢
  clear h hok c4 e'
  cases hi : isB m.marks.length r
  · rw [hi] at H47
    have HE : Hid (leftI m.splits r = 0) := by
      have hn : ¬ (0 ≤ r ∧ r < (m.marks.length : Int)) := by simpa [isB] using hi
      have hz : ∀ l : List SpM, (∀ x ∈ l, x.owner < m.marks.length) → leftI l r = 0 := by
        intro l
        induction l with
        | nil => intro _; rfl
        | cons x l ih =>
          intro hl
          have h1 := hl x (List.mem_cons_self ..)
          have hne : ((x.owner : Int) == r) = false := by simp; omega
          have e1 : leftI (x :: l) r = (if ((x.owner : Int) == r) = true then (x.evs.length : Int) - x.read else 0) + leftI l r := by simp only [leftI, List.map_cons, List.sum_cons]
          rw [e1, hne, ih fun y hy => hl y (List.mem_cons_of_mem _ hy)]
          rfl
      exact hz _ HO.out
    clear hi
    go_enter Tryz.func22, Tryz.ntmps22
    go_wp2_with (go_at_call 47; with_reducible refine H47.out.mono ?_; rintro e w1 ⟨rfl, rfl⟩)
    go_ret
    exact ⟨ret_int HE.out.symm, Below.refl _ _⟩
  rw [hi] at H47
  clear hi
  go_enter Tryz.func22, Tryz.ntmps22
  go_wp2_with (go_at_call 47; with_reducible refine H47.out.mono ?_; rintro e w1 ⟨rfl, rfl⟩)
  go_loopw [5, 7, 17] (fun z _ i wr => ∃ (k : Nat), k ≤ m.splits.length ∧ z = .int .i64 (leftI (m.splits.take k) r) ∧ i = .int .i64 k ∧ Hid (Below w.heap.size w wr)) (fun _ _ i _ => m.splits.length - (intOf i).toNat)
  case atStart => exact ⟨0, by omega, by rfl, rfl, Lib.hid (Below.refl _ _)⟩
  case round =>
    obtain ⟨k, hk, rfl, rfl, hbr⟩ := hrel
    by_cases hlt : k < m.splits.length
    · obtain ⟨g, o, e1, e2, rfl, hg, x0, -, hxb, -, y1, y2, -, -, y5⟩ := (H.out.below hbr.out).split e hlt
      have hb0 := leftI_bound (l := m.splits.take k) r (fun x hx => HR.out x (List.mem_of_mem_take hx))
      have ha0 := allN_take hlt
      have ha1 := allN_le m.splits (k + 1)
      have ha2 := HA.out
      have hr0 := HR.out _ (List.getElem_mem hlt)
      have HT := Lib.hid (leftI_take (r := r) hlt)
      obtain ⟨n1, q1⟩ : ∃ n, leftI (m.splits.take k) r = n := ⟨_, rfl⟩
      obtain ⟨n2, q2⟩ : ∃ n, m.splits[k].evs.length = n := ⟨_, rfl⟩
      obtain ⟨n3, q3⟩ : ∃ n, m.splits[k].read = n := ⟨_, rfl⟩
      rw [q1] at hb0
      rw [q2] at ha0 hr0 y1
      rw [q3] at hr0 y2
      rw [q1, q2, q3] at HT
      rw [q1]
      have hbb : 0 ≤ n1 ∧ n1 + n2 ≤ 400 ∧ n3 ≤ n2 := by omega
      clear ha0 ha1 ha2 hr0 hb0 q1 q2 q3 e
      obtain ⟨t1, t2, t3⟩ := hbb
      cases ho : ((m.splits[k].owner : Int) == r)
      · have HU : Hid (leftI (m.splits.take (k + 1)) r = n1) := by
          have := HT.out
          rw [ho] at this
          show leftI (m.splits.take (k + 1)) r = _
          rw [this]
          simp
        clear HT
        go_wp2_with fail
        go_roundw
        case rel => exact ⟨k + 1, by omega, by rw [HU.out], by go_num, hbr⟩
        case measure => simp [intOf]; omega
      · have HU : Hid (leftI (m.splits.take (k + 1)) r = n1 + ((n2 : Int) - n3)) := by
          have := HT.out
          rw [ho] at this
          show leftI (m.splits.take (k + 1)) r = _
          rw [this]
          rfl
        clear HT
        go_wp2_with fail
        have hcl := fun d os b' o' h => (below_regrown wr d os).cell (p := ⟨b', o', none⟩) h
        refine wp_region_quiet_below (by kernel_rfl) (by kernel_rfl) ?_
        repeat (quiet_step (fail))
        refine wpQuiet_nil ?_
        intro wq hw'
        have HQ := Lib.hid (below_of_class hw')
        clear hw' hcl
        go_wp2_with fail
        go_roundw
        case rel => exact ⟨k + 1, by omega, by rw [HU.out, wrapI (n := (n2 : Int) - n3) (by omega), wrapI (by omega)], by go_num, Lib.hid (hbr.out.trans (HQ.out.mono hbr.out.size))⟩
        case measure => simp [intOf]; omega
    · have hk' : k = m.splits.length := by omega
      subst hk'
      clear e
      go_wp2_with fail
      go_ret
      exact ⟨ret_int (by rw [List.take_length]), hbr.out⟩

theorem f64_any (w : World) (col : Nat → Nat) (s : List Col) (ws : WS) (m : WlM) (r : Int) (h : WAt w col s ws m) (hok : WOk m) :
    Calls Tryz.prog 64 #[ptr ws.W, .int .i64 r] w fun e w' => e = .returned (.bool (idleB m r)) ∧ w = w' := by
  obtain ⟨a', c', e'⟩ := h.rdForm
  obtain ⟨_, _, _, _, c4, c5, _⟩ := h.cells
  rw [e'] at c4
  have H47 := Lib.hid (f47_any w ws.W r m.marks.length a' c' c4)
  have H79 := Lib.hid (f79_any w col s ws m r h hok)
  have HE : Hid (idleB m r = (isB m.marks.length r && !m.sealed && ((countN m.splits r : Int) == 0))) := by show idleB m r = _; rw [countN_any]; rfl
  have hcn := Nat.le_trans (countN_le m.splits r) hok.splits
  unfold ptr at H47 H79 ⊢
  clear h hok c4 e'
  generalize isB m.marks.length r = b1 at H47 HE
  generalize m.sealed = b2 at c5 HE
  generalize countN m.splits r = n at H79 HE hcn
  cases b1
  · go_enter Tryz.func64, Tryz.ntmps64
    go_wp2_with (go_at_call 47; with_reducible refine H47.out.mono ?_; rintro e w1 ⟨rfl, rfl⟩)
    go_ret
    exact ⟨ret_bool (by rw [HE.out]; rfl), rfl⟩
  · cases b2
    · go_enter Tryz.func64, Tryz.ntmps64
      go_wp2_with (first
        | (go_at_call 47; with_reducible refine H47.out.mono ?_; rintro e w1 ⟨rfl, rfl⟩)
        | (go_at_call 79; with_reducible refine H79.out.mono ?_; rintro e w1 ⟨rfl, rfl⟩))
      go_ret
      exact ⟨ret_bool (by rw [HE.out]; simp), rfl⟩
    · go_enter Tryz.func64, Tryz.ntmps64
      go_wp2_with (go_at_call 47; with_reducible refine H47.out.mono ?_; rintro e w1 ⟨rfl, rfl⟩)
      go_ret
      exact ⟨ret_bool (by rw [HE.out]; rfl), rfl⟩
end leaves
end Go.Proofs.YtimahogkcmmcnaaGreatDoor

namespace Go.Proofs.YtimahogkcmmcnaaGreatDoor
open Go.RowKit Go.Proofs.YtimahogkcmmcnaaGreatDoor.Cmps

/-- A map's entries: these texts, each with a value. -/
def PEnts (es : List MapEntry) (l : List (ByteArray × Value)) : Prop := es.map (fun e => (e.key, e.val)) = l.map fun p => (Value.string p.1, p.2)

/-- The value that a text has. -/
def valS (l : List (ByteArray × Value)) (n : ByteArray) : Option Value := (l.find? fun p => eqS p.1 n).map Prod.snd

theorem findNow_p : ∀ {es : List MapEntry} {l : List (ByteArray × Value)}, PEnts es l → ∀ (n : ByteArray) (i : Nat), ∃ r, Instr.findNow .string (.string n) es i = some r ∧ r.map Prod.snd = valS l n
  | [], [], _, n, i => ⟨none, rfl, rfl⟩
  | [], _ :: _, h, _, _ => by cases h
  | _ :: _, [], h, _, _ => by cases h
  | e :: es, p :: l, h, n, i => by
    simp only [PEnts, List.map_cons, List.cons.injEq, Prod.mk.injEq] at h
    obtain ⟨⟨h1, h2⟩, h3⟩ := h
    obtain ⟨r, hr, hs⟩ := findNow_p (es := es) (l := l) h3 n (i + 1)
    have e1 : Instr.sameNow .string (.string n) e.key = some (eqS p.1 n) := by rw [h1, eqS_comm, ← eqS_beq]; rfl
    cases hq : eqS p.1 n
    · refine ⟨r, ?_, ?_⟩
      · rw [Instr.findNow, e1, hq]; exact hr
      · rw [hs]; simp [valS, hq]
    · refine ⟨some (i, e.val), ?_, ?_⟩
      · rw [Instr.findNow, e1, hq]
      · simp [valS, hq, h2]

theorem lookup_p (W : World) (r clock : Nat) (n : ByteArray) {es : Array MapEntry} {l : List (ByteArray × Value)} (he : PEnts es.toList l) (h : W.heap[r]? = some (.map es clock)) :
    (Instr.lookup 95 (.map (some r)) (.string n) false).run Tryz.prog W = .ok ((valS l n).getD (.pointer none)) W := by
  have hz : ∀ w, (zeroValue 126).run Tryz.prog w = .ok (.pointer none) w := fun w => by kernel_rfl
  have u := Tryz.underlying95
  have u9 := Tryz.underlying9
  have ho : (getObj r).run Tryz.prog W = .ok (.map es clock) W := by simp [getObj, Sem.run, h]
  have hck : ∀ e m, (Instr.checkKey e (m + 1) 9 (.string n)).run Tryz.prog W = .ok () W := fun e m => MapKept.run_checkKey u9 (by simp [MapKept.IsKey]) e m
  obtain ⟨q, hq, hs⟩ := findNow_p he n 0
  have hf : (Instr.findKey 9 (.string n) es.toList).run Tryz.prog W = .ok q W := by simp [Instr.findKey, run_underlying u9, hq]
  cases q with
  | none => simp only [Option.map_none] at hs; simp [Instr.lookup, run_underlying u, ho, hck, hf, hz, ← hs]
  | some x => simp only [Option.map_some] at hs; simp [Instr.lookup, run_underlying u, ho, hck, hf, ← hs]

theorem store_p (W : World) (r clock : Nat) (n : ByteArray) (v : Value) {es : Array MapEntry} {l : List (ByteArray × Value)} (he : PEnts es.toList l) (h : W.heap[r]? = some (.map es clock)) (hk : valS l n = none) :
    (Instr.mapUpdate 95 (.map (some r)) (.string n) v).run Tryz.prog W = .ok () (W.putObj r (.map (es.push { key := .string n, val := v, born := clock }) (clock + 1))) := by
  have u := Tryz.underlying95
  have u9 := Tryz.underlying9
  have ho : (getObj r).run Tryz.prog W = .ok (.map es clock) W := by simp [getObj, Sem.run, h]
  have hs : ∀ o, (setObj r o).run Tryz.prog W = .ok () (W.putObj r o) := fun o => by simp [setObj, Sem.run, World.putObj, h]
  have hck : ∀ e m, (Instr.checkKey e (m + 1) 9 (.string n)).run Tryz.prog W = .ok () W := fun e m => MapKept.run_checkKey u9 (by simp [MapKept.IsKey]) e m
  obtain ⟨q, hq, hs'⟩ := findNow_p he n 0
  rw [hk] at hs'
  have hqn : q = none := by cases q <;> simp_all
  subst hqn
  have hf : (Instr.findKey 9 (.string n) es.toList).run Tryz.prog W = .ok none W := by simp [Instr.findKey, run_underlying u9, hq]
  simp [Instr.mapUpdate, run_underlying u, ho, hck, hf, hs]

theorem PEnts.push {es : Array MapEntry} {l : List (ByteArray × Value)} (h : PEnts es.toList l) (n : ByteArray) (v : Value) (b : Nat) : PEnts (es.push { key := .string n, val := v, born := b }).toList (l ++ [(n, v)]) := by
  unfold PEnts at *
  rw [Array.toList_push, List.map_append, List.map_append, h]
  rfl

/-- What the map of a well holds. -/
def namesW (l : List SpM) (xb : Nat → Nat) : List (ByteArray × Value) := (List.range l.length).map fun k => ((l.getD k ⟨ByteArray.empty, 0, [], 0, 0, false⟩).name, ptr (xb k))

theorem WAt.ents {w : World} {col : Nat → Nat} {s : List Col} {ws : WS} {m : WlM} (h : WAt w col s ws m) : PEnts ws.ents.toList (namesW m.splits ws.xb) := by
  unfold PEnts namesW
  rw [h.hN, List.map_map]
  rfl

theorem namesW_len (l : List SpM) (xb : Nat → Nat) : (namesW l xb).length = l.length := by simp [namesW]

theorem namesW_at {l : List SpM} {xb : Nat → Nat} {k : Nat} (h : k < (namesW l xb).length) (h' : k < l.length) : (namesW l xb)[k] = (l[k].name, ptr (xb k)) := by
  simp [namesW, List.getD, h']

theorem valS_none {l : List SpM} {xb : Nat → Nat} {n : ByteArray} (h : findI l n < 0) : valS (namesW l xb) n = none := by
  unfold findI idxI at h
  cases hf : l.findIdx? (fun x => eqS x.name n) with
  | some i => rw [hf] at h; simp at h; omega
  | none =>
    rw [List.findIdx?_eq_none_iff] at hf
    unfold valS
    rw [List.find?_eq_none.2]
    · rfl
    · intro p hp
      obtain ⟨k, hk, rfl⟩ := List.mem_iff_getElem.1 hp
      have hk' : k < l.length := by rw [← namesW_len l xb]; exact hk
      rw [namesW_at hk hk']
      have := hf l[k] (List.getElem_mem hk')
      simpa using this

theorem valS_some {l : List SpM} {xb : Nat → Nat} {n : ByteArray} {k : Nat} (h : findI l n = (k : Int)) : valS (namesW l xb) n = some (ptr (xb k)) := by
  unfold findI idxI at h
  cases hf : l.findIdx? (fun x => eqS x.name n) with
  | none => rw [hf] at h; simp only [] at h; omega
  | some i =>
    rw [hf] at h
    have hik : i = k := by have h2 : (i : Int) = (k : Int) := h; omega
    subst hik
    rw [List.findIdx?_eq_some_iff_getElem] at hf
    obtain ⟨hi, hb, hlt⟩ := hf
    have hi' : i < (namesW l xb).length := by rw [namesW_len]; exact hi
    unfold valS
    rw [List.find?_eq_some_iff_getElem.2 ⟨by rw [namesW_at hi' hi]; exact hb, i, hi', rfl, fun j hj => by
      have := hlt j hj
      rw [namesW_at (by omega) (by omega)]
      simpa using this⟩, namesW_at hi' hi]
    rfl

section leaves
set_option maxHeartbeats 400000
set_option maxRecDepth 10000

theorem f72_any (w : World) (col : Nat → Nat) (s : List Col) (ws : WS) (m : WlM) (nm : ByteArray) (h : WAt w col s ws m) :
    Calls Tryz.prog 72 #[ptr ws.W, .string nm] w fun e w' => e = .returned (.tuple #[.int .i64 (ownerI m nm).1, .int .i64 (ownerI m nm).2]) ∧ w = w' := by
  obtain ⟨a, c, e⟩ := h.splForm
  obtain ⟨_, _, _, c3, _, _, _⟩ := h.cells
  have hlk := lookup_p w ws.mp ws.clock nm h.ents h.hM
  rcases idxI_lt (p := fun x : SpM => eqS x.name nm) (l := m.splits) with hi | ⟨k, hlt, hi⟩
  · have hi' : findI m.splits nm < 0 := hi
    have HE : Hid (ownerI m nm = (0, 5)) := by show ownerI m nm = _; rw [ownerI, if_pos hi']
    rw [HE.out]
    rw [valS_none hi'] at hlk
    unfold ptr
    clear h hi hi' e
    go_enter Tryz.func72, Tryz.ntmps72
    go_wp2_with fail
    go_ret2
    exact ⟨rfl, rfl⟩
  · have hi' : findI m.splits nm = k := hi
    have HE : Hid (ownerI m nm = ((m.splits[k].owner : Int), 0)) := by
      show ownerI m nm = _
      rw [ownerI, hi', if_neg (by omega)]
      simp [List.getD, hlt]
    rw [HE.out]
    rw [valS_some hi'] at hlk
    obtain ⟨g, o, e1, e2, rfl, hg, x0, -, hxb, -, y1, y2, -, -, y5⟩ := h.split e hlt
    unfold ptr at hlk ⊢
    clear h hi hi' e
    go_enter Tryz.func72, Tryz.ntmps72
    go_wp2_with fail
    go_ret2
    exact ⟨rfl, rfl⟩
end leaves
end Go.Proofs.YtimahogkcmmcnaaGreatDoor

namespace Go.Proofs.YtimahogkcmmcnaaGreatDoor
open Go.RowKit Go.Proofs.YtimahogkcmmcnaaGreatDoor.Cmps

section leaves
set_option maxHeartbeats 400000
set_option maxRecDepth 10000

theorem f137_any (w : World) (b : Nat) (sl : Bool) (r n : Nat) (a : Option Addr) (c : Nat) (h1 : w.cell? ⟨b, 1, none⟩ = some (.slice a n c)) (h2 : w.cell? ⟨b, 2, none⟩ = some (.int .i64 r)) (h4 : w.cell? ⟨b, 4, none⟩ = some (.bool sl)) :
    Calls Tryz.prog 137 #[ptr b] w fun e w' => e = .returned (.bool (!(sl && ((r : Int) == (n : Int))))) ∧ Below w.heap.size w w' := by
  have H := Lib.hid (f138_any w b sl r n a c h1 h2 h4)
  generalize (sl && ((r : Int) == (n : Int))) = q at H ⊢
  unfold ptr at H ⊢
  clear h1 h2 h4
  go_enter Tryz.func137, Tryz.ntmps137
  go_wp2_with (go_at_call 138; with_reducible refine H.out.mono ?_; rintro e w1 ⟨rfl, hb1⟩; have HB1 := Lib.hid hb1; clear hb1)
  go_ret
  exact ⟨rfl, HB1.out⟩

theorem f145_any (w : World) (col : Nat → Nat) (s : List Col) (ws : WS) (m : WlM) (h : WAt w col s ws m) (hok : WOk m) :
    Calls Tryz.prog 145 #[ws.spl, .func (.func 137) #[] #[]] w fun e w' => e = .returned (.int .i64 (idxI (fun x : SpM => !x.done) m.splits)) ∧ Below w.heap.size w w' := by
  obtain ⟨a, c, e⟩ := h.splForm
  rw [e]
  have H := Lib.hid h
  have h50 := hok.splits
  clear h hok
  go_enter Tryz.func145, Tryz.ntmps145
  go_wp2_with fail
  go_loopw [8] (fun i wr => ∃ k : Nat, k ≤ m.splits.length ∧ i = .int .i64 k ∧ Hid (∀ j (h : j < m.splits.length), j < k → (!m.splits[j].done) = false) ∧ Hid (Below w.heap.size w wr)) (fun i _ => m.splits.length - (intOf i).toNat)
  case atStart => exact ⟨0, by omega, rfl, Lib.hid (by omega), Lib.hid (Below.refl _ _)⟩
  case round =>
    obtain ⟨k, hk, rfl, hv, hbr⟩ := hrel
    by_cases hlt : k < m.splits.length
    · obtain ⟨g, o, e1, e2, rfl, hg, x0, -, hxb, -, y1, y2, -, y4, -⟩ := (H.out.below hbr.out).split e hlt
      have H137 := Lib.hid (f137_any wr (ws.xb k) _ _ _ _ _ y1 y2 y4)
      obtain ⟨dn, hdn⟩ : ∃ b, m.splits[k].done = b := ⟨_, rfl⟩
      have hdn' : (m.splits[k].sealed && ((m.splits[k].read : Int) == (m.splits[k].evs.length : Int))) = dn := hdn
      rw [hdn'] at H137
      have HDN := Lib.hid hdn
      unfold ptr at H137
      clear hdn hdn' e y1 y2 y4
      cases dn
      · go_wp2_with (go_at_call 137; with_reducible refine H137.out.mono ?_; rintro e w1 ⟨rfl, hb1⟩; have HB1 := Lib.hid hb1; clear hb1)
        go_ret
        exact ⟨ret_int (idxI_hit (p := fun x : SpM => !x.done) hlt (by rw [HDN.out]; rfl) hv.out).symm, below_then hbr.out HB1.out⟩
      · go_wp2_with (go_at_call 137; with_reducible refine H137.out.mono ?_; rintro e w1 ⟨rfl, hb1⟩; have HB1 := Lib.hid hb1; clear hb1)
        go_roundw
        case rel =>
          refine ⟨k + 1, by omega, by go_num, Lib.hid fun j hj hjk => ?_, Lib.hid (below_then hbr.out HB1.out)⟩
          by_cases e : j = k
          · subst e; rw [HDN.out]; rfl
          · exact hv.out j hj (by omega)
        case measure => simp [intOf]; omega
    · clear e
      go_wp2_with fail
      go_ret
      exact ⟨ret_int (idxI_none (p := fun x : SpM => !x.done) (fun j hj => hv.out j hj (by omega))).symm, hbr.out⟩

theorem f75_any (w : World) (col : Nat → Nat) (s : List Col) (ws : WS) (m : WlM) (h : WAt w col s ws m) (hok : WOk m) :
    Calls Tryz.prog 75 #[ws.spl, .func (.func 137) #[] #[]] w fun e w' => e = .returned (.bool (!m.splits.all SpM.done)) ∧ Below w.heap.size w w' := by
  have hc := f145_any w col s ws m h hok
  have ha : decide (0 ≤ idxI (fun x : SpM => !x.done) m.splits) = !m.splits.all SpM.done := by rw [idxI_any, any_not]
  obtain ⟨a, c, e⟩ := h.splForm
  rw [e] at hc ⊢
  clear h hok e
  go_enter Tryz.func75, Tryz.ntmps75
  go_wp2_with (go_at_call 145; refine hc.mono ?_; rintro e w' ⟨rfl, hb1⟩)
  go_ret
  exact ⟨ret_bool (by rw [← ha]), hb1⟩

theorem f70_any (w : World) (col : Nat → Nat) (s : List Col) (ws : WS) (m : WlM) (h : WAt w col s ws m) (hok : WOk m) :
    Calls Tryz.prog 70 #[ptr ws.W] w fun e w' => e = .returned (.bool (doneB m)) ∧ Below w.heap.size w w' := by
  have H75 := Lib.hid (f75_any w col s ws m h hok)
  obtain ⟨a, c, e⟩ := h.splForm
  obtain ⟨_, _, c2, _, _, c5, _⟩ := h.cells
  rw [e] at c2 H75
  have HE : Hid (doneB m = (m.splits.all SpM.done && m.sealed)) := rfl
  generalize m.splits.all SpM.done = b1 at H75 HE
  generalize m.sealed = b2 at c5 HE
  unfold ptr
  clear h hok e
  cases b2
  · go_enter Tryz.func70, Tryz.ntmps70
    go_wp2_with fail
    go_ret
    exact ⟨ret_bool (by rw [HE.out]; simp), Below.refl _ _⟩
  · go_enter Tryz.func70, Tryz.ntmps70
    go_wp2_with (go_at_call 75; with_reducible refine H75.out.mono ?_; rintro e w1 ⟨rfl, hb1⟩; have HB1 := Lib.hid hb1; clear hb1)
    go_ret
    exact ⟨ret_bool (by rw [HE.out]; simp), HB1.out⟩
end leaves
end Go.Proofs.YtimahogkcmmcnaaGreatDoor

namespace Go.Proofs.YtimahogkcmmcnaaGreatDoor
open Go.RowKit Go.Proofs.YtimahogkcmmcnaaGreatDoor.Cmps

/-- v reads in w as texts. -/
def TextsAt (w : World) (D : Nat → Prop) (v : Value) (l : List ByteArray) : Prop :=
  ∃ a cap, v = .slice a l.length cap ∧ (l = [] ∨ ∃ b off, a = some ⟨b, off, none⟩ ∧ D b ∧ ∀ i, (h : i < l.length) → w.cell? ⟨b, off + i, none⟩ = some (.string l[i]))

theorem TextsAt.keep {w w' : World} {D : Nat → Prop} {v : Value} {l : List ByteArray} (h : TextsAt w D v l) (hk : ∀ b, D b → b < w.heap.size → w'.heap[b]? = w.heap[b]?) : TextsAt w' D v l := by
  obtain ⟨a, cap, rfl, hx⟩ := h
  refine ⟨a, cap, rfl, ?_⟩
  rcases hx with rfl | ⟨b, off, rfl, hb, hc⟩
  · exact .inl rfl
  · refine .inr ⟨b, off, rfl, hb, fun i hi => ?_⟩
    have h0 := hc i hi
    rw [cell_keep (hk b hb (cell_lt h0))]
    exact h0
theorem TextsAt.below {w w' : World} {D : Nat → Prop} {v : Value} {l : List ByteArray} (h : TextsAt w D v l) (hb : Below w.heap.size w w') : TextsAt w' D v l :=
  h.keep fun b _ hlt => hb.block b hlt
theorem TextsAt.at {w : World} {D : Nat → Prop} {a : Option Addr} {cap : Nat} {l : List ByteArray} (h : TextsAt w D (.slice a l.length cap) l) {k : Nat} (hk : k < l.length) :
    ∃ b off, a = some ⟨b, off, none⟩ ∧ b < w.heap.size ∧ w.cell? ⟨b, off + k, none⟩ = some (.string l[k]) := by
  obtain ⟨a', cap', hv, hx⟩ := h
  injection hv with hv _ _
  subst hv
  obtain ⟨b, off, rfl, hD, hc⟩ := hx.resolve_left (fun e => by rw [e] at hk; simp at hk)
  exact ⟨b, off, rfl, cell_lt (hc k hk), hc k hk⟩

/-- Lists are equal. -/
def sameT : List ByteArray → List ByteArray → Bool
  | [], [] => true
  | x :: xs, y :: ys => eqS x y && sameT xs ys
  | _, _ => false
def sameN : List Int → List Int → Bool
  | [], [] => true
  | x :: xs, y :: ys => (x == y) && sameN xs ys
  | _, _ => false
theorem sameT_len {a b : List ByteArray} (h : a.length ≠ b.length) : sameT a b = false := by
  induction a generalizing b with
  | nil => cases b with | nil => simp at h | cons y ys => rfl
  | cons x xs ih => cases b with | nil => rfl | cons y ys => simp only [sameT, ih (b := ys) (by simpa using h), Bool.and_false]
theorem sameT_step {a b : List ByteArray} {k : Nat} (ha : k < a.length) (hb : k < b.length) : sameT (a.drop k) (b.drop k) = (eqS a[k] b[k] && sameT (a.drop (k + 1)) (b.drop (k + 1))) := by
  rw [List.drop_eq_getElem_cons ha, List.drop_eq_getElem_cons hb, sameT]
theorem sameT_refl (l : List ByteArray) : sameT l l = true := by
  induction l with
  | nil => rfl
  | cons x l ih => simp [sameT, ih, eqS]
theorem sameN_len {a b : List Int} (h : a.length ≠ b.length) : sameN a b = false := by
  induction a generalizing b with
  | nil => cases b with | nil => simp at h | cons y ys => rfl
  | cons x xs ih => cases b with | nil => rfl | cons y ys => simp only [sameN, ih (b := ys) (by simpa using h), Bool.and_false]
theorem sameN_step {a b : List Int} {k : Nat} (ha : k < a.length) (hb : k < b.length) : sameN (a.drop k) (b.drop k) = ((a[k] == b[k]) && sameN (a.drop (k + 1)) (b.drop (k + 1))) := by
  rw [List.drop_eq_getElem_cons ha, List.drop_eq_getElem_cons hb, sameN]
theorem sameN_refl (l : List Int) : sameN l l = true := by
  induction l with
  | nil => rfl
  | cons x l ih => simp [sameN, ih, eqS]

section leaves
set_option maxHeartbeats 400000
set_option maxRecDepth 10000

theorem f68_any (w : World) (D1 D2 : Nat → Prop) (v1 v2 : Value) (a b : List ByteArray) (h1 : TextsAt w D1 v1 a) (h2 : TextsAt w D2 v2 b) (ha : a.length ≤ 9223372036854775807) :
    Calls Tryz.prog 68 #[v1, v2] w fun e w' => e = .returned (.bool (sameT a b)) ∧ Below w.heap.size w w' := by
  have H1 := Lib.hid h1
  have H2 := Lib.hid h2
  obtain ⟨p1, c1, rfl, -⟩ := h1
  obtain ⟨p2, c2, rfl, -⟩ := h2
  cases hl : (a.length != b.length)
  · have hl' : a.length = b.length := by simpa using hl
    have hl2 : ((a.length : Int) != (b.length : Int)) = false := by simp [hl']
    have HL := Lib.hid hl'
    clear hl hl'
    go_enter Tryz.func68, Tryz.ntmps68
    go_wp2_with fail
    go_loopw [5] (fun i wr => ∃ k : Nat, k ≤ a.length ∧ i = .int .i64 k ∧ Hid (sameT (a.drop k) (b.drop k) = sameT a b) ∧ Hid (Below w.heap.size w wr)) (fun i _ => a.length - (intOf i).toNat)
    case atStart => exact ⟨0, by omega, rfl, Lib.hid rfl, Lib.hid (Below.refl _ _)⟩
    case round =>
      obtain ⟨k, hk, rfl, HV, hbr⟩ := hrel
      by_cases hlt : k < a.length
      · have hlt' : k < b.length := by have := HL.out; omega
        obtain ⟨g, o, rfl, hg, x0⟩ := (H1.out.below hbr.out).at hlt
        obtain ⟨g', o', rfl, hg', y0⟩ := (H2.out.below hbr.out).at hlt'
        have HS := Lib.hid (sameT_step hlt hlt')
        have t1 : (k : Int) < (b.length : Int) := by omega
        cases he : eqS a[k] b[k]
        · rw [he] at HS
          have hne : (a[k].toList == b[k].toList) = false := he
          go_wp2_with fail
          go_quiet (fail)
          go_wp2_with fail
          go_ret
          exact ⟨ret_bool (by rw [← HV.out, HS.out]; rfl), below_then hbr.out (Drew.belowW ⟨_, rfl⟩)⟩
        · rw [he] at HS
          have hne : (a[k].toList == b[k].toList) = true := he
          go_wp2_with fail
          go_quiet (fail)
          go_wp2_with fail
          go_roundw
          case rel => exact ⟨k + 1, by omega, by go_num, Lib.hid (by rw [← HV.out, HS.out, Bool.true_and]), Lib.hid (below_then hbr.out (Drew.belowW ⟨_, rfl⟩))⟩
          case measure => simp [intOf]; omega
      · have he : sameT (a.drop k) (b.drop k) = true := by rw [List.drop_of_length_le (by omega), List.drop_of_length_le (by have := HL.out; omega)]; rfl
        rw [HV.out] at he
        have HE := Lib.hid he
        clear he
        go_wp2_with fail
        go_ret
        exact ⟨ret_bool HE.out.symm, hbr.out⟩
  · have hl' : a.length ≠ b.length := by simpa using hl
    have hl2 : ((a.length : Int) != (b.length : Int)) = true := by simp; omega
    have HS := Lib.hid (sameT_len hl')
    clear hl hl'
    go_enter Tryz.func68, Tryz.ntmps68
    go_wp2_with fail
    go_ret
    exact ⟨ret_bool HS.out.symm, Below.refl _ _⟩

theorem f69_any (w : World) (D1 D2 : Nat → Prop) (v1 v2 : Value) (a b : List Int) (h1 : NumsAt w D1 v1 a) (h2 : NumsAt w D2 v2 b) (ha : a.length ≤ 9223372036854775807) :
    Calls Tryz.prog 69 #[v1, v2] w fun e w' => e = .returned (.bool (sameN a b)) ∧ Below w.heap.size w w' := by
  have H1 := Lib.hid h1
  have H2 := Lib.hid h2
  obtain ⟨p1, c1, rfl, -⟩ := h1
  obtain ⟨p2, c2, rfl, -⟩ := h2
  cases hl : (a.length != b.length)
  · have hl' : a.length = b.length := by simpa using hl
    have hl2 : ((a.length : Int) != (b.length : Int)) = false := by simp [hl']
    have HL := Lib.hid hl'
    clear hl hl'
    go_enter Tryz.func69, Tryz.ntmps69
    go_wp2_with fail
    go_loopw [5] (fun i wr => ∃ k : Nat, k ≤ a.length ∧ i = .int .i64 k ∧ Hid (sameN (a.drop k) (b.drop k) = sameN a b) ∧ Hid (Below w.heap.size w wr)) (fun i _ => a.length - (intOf i).toNat)
    case atStart => exact ⟨0, by omega, rfl, Lib.hid rfl, Lib.hid (Below.refl _ _)⟩
    case round =>
      obtain ⟨k, hk, rfl, HV, hbr⟩ := hrel
      by_cases hlt : k < a.length
      · have hlt' : k < b.length := by have := HL.out; omega
        obtain ⟨g, o, rfl, hg, x0⟩ := (H1.out.below hbr.out).at hlt
        obtain ⟨g', o', rfl, hg', y0⟩ := (H2.out.below hbr.out).at hlt'
        have HS := Lib.hid (sameN_step hlt hlt')
        have t1 : (k : Int) < (b.length : Int) := by omega
        cases he : (a[k] == b[k])
        · rw [he] at HS
          have hne := he
          go_wp2_with fail
          go_quiet (fail)
          go_wp2_with fail
          go_ret
          exact ⟨ret_bool (by rw [← HV.out, HS.out]; rfl), below_then hbr.out (Drew.belowW ⟨_, rfl⟩)⟩
        · rw [he] at HS
          have hne := he
          go_wp2_with fail
          go_quiet (fail)
          go_wp2_with fail
          go_roundw
          case rel => exact ⟨k + 1, by omega, by go_num, Lib.hid (by rw [← HV.out, HS.out, Bool.true_and]), Lib.hid (below_then hbr.out (Drew.belowW ⟨_, rfl⟩))⟩
          case measure => simp [intOf]; omega
      · have he : sameN (a.drop k) (b.drop k) = true := by rw [List.drop_of_length_le (by omega), List.drop_of_length_le (by have := HL.out; omega)]; rfl
        rw [HV.out] at he
        have HE := Lib.hid he
        clear he
        go_wp2_with fail
        go_ret
        exact ⟨ret_bool HE.out.symm, hbr.out⟩
  · have hl' : a.length ≠ b.length := by simpa using hl
    have hl2 : ((a.length : Int) != (b.length : Int)) = true := by simp; omega
    have HS := Lib.hid (sameN_len hl')
    clear hl hl'
    go_enter Tryz.func69, Tryz.ntmps69
    go_wp2_with fail
    go_ret
    exact ⟨ret_bool HS.out.symm, Below.refl _ _⟩
end leaves
end Go.Proofs.YtimahogkcmmcnaaGreatDoor

