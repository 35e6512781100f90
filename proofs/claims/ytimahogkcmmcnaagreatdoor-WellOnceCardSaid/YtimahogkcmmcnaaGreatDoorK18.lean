/-
  The well, part 52: what is changed aside. Conditions: the well lies in the world as the words say. The well, part 54: a plan of one source, first leaves. Conditions: none but those stated.
-/
import Derived.Test.YtimahogkcmmcnaaGreatDoorK17
set_option linter.unusedSimpArgs false
set_option linter.unusedVariables false

namespace Go.Proofs.YtimahogkcmmcnaaGreatDoor
open Go.RowKit Go.Proofs.YtimahogkcmmcnaaGreatDoor.Cmps

/-- What is no part of the well has changed. -/
theorem WAt.kept {w w' : World} {col col' : Nat → Nat} {s : List Col} {ws : WS} {m : WlM} (h : WAt w col s ws m) (k : Kept w w' col col' (fun c => c = 6 ∨ c = 7)) : WAt w' col' s ws m :=
  ⟨k.new, k.colb h.cW (by omega) h.c0, fun b hb => k.colb (h.cS b hb) (by omega) h.c0, k.colb h.cM (by omega) h.c0, fun b hb => k.colb (h.cR b hb) (by omega) h.c0, fun b hb => k.colb (h.cL b hb) (by omega) h.c0,
    fun q hq => k.colb (h.cX q hq) (by omega) h.c0, fun q hq => k.colb (h.cG q hq) (by omega) h.c0, fun q b hq hb => k.colb (h.cE q b hq hb) (by omega) h.c0, fun q hq => k.colb (h.cB q hq) (by omega) h.c0, fun q hq => k.colb (h.cI q hq) (by omega) h.c0,
    k.obj h.hW h.cW (by omega), k.sch (by omega) h.hC, k.own (by omega) h.cS h.hS, k.own (by omega) h.cR h.hR, k.evs (by omega) (by omega) h.cL h.hL,
    fun q hq => k.obj (h.hX q hq) (h.cX q hq) (by omega), fun q hq => k.obj (h.hG q hq) (h.cG q hq) (by omega), fun q hq => k.evs (by omega) (by omega) (fun b hb => h.cE q b hq hb) (h.hE q hq),
    fun q hq => k.obj (h.hB q hq) (h.cB q hq) (by omega), fun q hq => k.obj (h.hI q hq) (h.cI q hq) (by omega), k.obj h.hM h.cM (by omega), h.hN⟩

/-- Blocks made since are coloured. -/
theorem kept_paint {w w' : World} {col : Nat → Nat} (h0 : ∀ b, col b ≠ 0 → b < w.heap.size) (hb : Below w.heap.size w w') {g : Nat} (hg : w.heap.size ≤ g) (hlt : g < w'.heap.size) : Kept w w' col (paint col (some g) 6) (fun c => c = 6 ∨ c = 7) :=
  ⟨hb.size, fun b hb' => by unfold paint; rw [if_neg (by intro e; injection e; omega)], fun b hb' _ => hb.block b hb', fun b hn => by
    unfold paint at hn
    split at hn
    · rename_i e; injection e with e; omega
    · exact Nat.lt_of_lt_of_le (h0 b hn) hb.size⟩

theorem WOk.seen {m : WlM} (h : WOk m) {k : Nat} (hk : k < m.splits.length) (hlt : m.splits[k].read < m.splits[k].evs.length) : WOk (m.setS k (seenS m.bound m.splits[k] (m.splits[k].evs[m.splits[k].read]).t)) := by
  have hx := List.getElem_mem hk
  have hb := h.bound
  have hg := h.gauge m.splits[k] hx
  have ht := h.time m.splits[k] hx _ (List.getElem_mem hlt)
  exact h.setS hk (x := seenS m.bound m.splits[k] (m.splits[k].evs[m.splits[k].read]).t) (by have := h.all; show allN m.splits + m.splits[k].evs.length ≤ _; omega) (by show m.splits[k].read + 1 ≤ m.splits[k].evs.length; omega) (h.owner m.splits[k] hx) (by show -1000000000000 ≤ max _ _ ∧ max _ _ ≤ (1000000000001 : Int); omega) (h.name m.splits[k] hx) (h.time m.splits[k] hx)

section leaves
set_option maxHeartbeats 1000000
set_option maxRecDepth 10000
theorem f82_hi (w : World) (col : Nat → Nat) (s : List Col) (ws : WS) (m : WlM) (r : Nat) (h : WAt w col s ws m) (hok : WOk m) (hr : r < m.marks.length) :
    Calls Tryz.prog 82 #[ptr ws.W, .int .i64 r] w fun e w' => e = .returned (.tuple #[]) ∧ WAt w' col s ws (risenM m r) ∧ Only (fun b => 8 ≤ col b) w w' := by
  obtain ⟨a, c, e⟩ := h.splForm
  obtain ⟨a', c', e'⟩ := h.rdForm
  obtain ⟨_, _, c2, _, c4, c5, _⟩ := h.cells
  have hWs := cell_lt c2
  rw [e] at c2
  rw [e'] at c4
  have H := Lib.hid h
  have h50 := hok.splits
  have h16 := hok.hi
  have HG := Lib.hid hok.gauge
  have HMK := Lib.hid hok.marks
  obtain ⟨sl, hsl⟩ : ∃ b, m.sealed = b := ⟨_, rfl⟩
  rw [hsl] at c5
  have HSL := Lib.hid hsl
  unfold ptr
  clear h hok hsl
  go_enter Tryz.func82, Tryz.ntmps82
  go_wp2_with fail
  go_loopw [4, 5, 18] (fun t u i wr => ∃ k : Nat, k ≤ m.splits.length ∧ i = .int .i64 k ∧ t = .int .i64 (riseN (m.splits.take k) sl r).1 ∧ u = .bool (riseN (m.splits.take k) sl r).2 ∧ Hid (Below w.heap.size w wr)) (fun _ _ i _ => m.splits.length - (intOf i).toNat)
  case atStart => exact ⟨0, by omega, rfl, rfl, rfl, Lib.hid (Below.refl _ _)⟩
  case round =>
    obtain ⟨k, hk, rfl, rfl, rfl, hbr⟩ := hrel
    by_cases hlt : k < m.splits.length
    · have HW := Lib.hid (H.out.below hbr.out)
      obtain ⟨g, o, e1, e2, rfl, hg, x0, hev, hxb, x1, y1, y2, y3, y4, y5⟩ := HW.out.split e hlt
      obtain ⟨_, _, _, _, _, c5', _⟩ := HW.out.cells
      rw [HSL.out] at c5'
      have H138 := Lib.hid (f138_any wr (ws.xb k) _ _ _ _ _ y1 y2 y4)
      have hgk := HW.out.hG k hlt
      have HK : Hid (∀ w1, Below wr.heap.size wr w1 → w1.cell? ⟨ws.xb k, 3, none⟩ = some (.pointer (some ⟨ws.gb k, 0, none⟩)) ∧ Calls Tryz.prog 150 #[.pointer (some ⟨ws.gb k, 0, none⟩)] w1 fun e w' => e = .returned (.int .i64 m.splits[k].mark) ∧ w1 = w') :=
        fun w1 h => ⟨by rw [h.cell (p := ⟨ws.xb k, 3, none⟩) hxb]; exact y3, f150_any w1 (ws.gb k) _ (by rw [cells_at ((h.block _ (heap_lt hgk)).trans hgk)]; rfl)⟩
      have hb0 := riseN_bound (l := m.splits.take k) (sl := sl) (r := r) (fun x hx => HG.out x (List.mem_of_mem_take hx))
      have hsu : sl = true → (riseN (m.splits.take k) sl r).2 = true := fun h => riseN_sl h
      have HS : Hid (riseN (m.splits.take (k + 1)) sl r = riseStep r ((riseN (m.splits.take k) sl r).1, (riseN (m.splits.take k) sl r).2) m.splits[k]) := riseN_take hlt
      generalize (riseN (m.splits.take k) sl r).1 = T at *
      generalize (riseN (m.splits.take k) sl r).2 = U at *
      obtain ⟨dn, hdn⟩ : ∃ b, m.splits[k].done = b := ⟨_, rfl⟩
      have hdn' : (m.splits[k].sealed && ((m.splits[k].read : Int) == (m.splits[k].evs.length : Int))) = dn := hdn
      rw [hdn'] at H138
      have HDN := Lib.hid hdn
      unfold ptr at H138
      have hon : (m.splits[k].owner == r) = ((m.splits[k].owner : Int) == (r : Int)) := by rw [Bool.eq_iff_iff]; simp only [beq_iff_eq]; omega
      clear hdn hdn' e y1 y2 y4 hev hgk
      cases ho : ((m.splits[k].owner : Int) == (r : Int))
      · have HU : Hid (riseN (m.splits.take (k + 1)) sl r = (T, U)) := by
          show _ = _
          rw [HS.out, riseStep, hon, ho]; rfl
        clear hon
        go_wp2_with fail
        go_roundw
        case rel => exact ⟨k + 1, by omega, by go_num, by rw [HU.out], by rw [HU.out], hbr⟩
        case measure => simp [intOf]; omega
      · have HU : Hid (riseN (m.splits.take (k + 1)) sl r = if dn = true then (T, U) else (if m.splits[k].gauge < T then m.splits[k].gauge else T, true)) := by
          show _ = _
          rw [HS.out, riseStep, hon, ho, HDN.out]; cases dn <;> rfl
        have HM : Hid (m.splits[k].mark = if dn = true then 1000000000001 else m.splits[k].gauge) := by show m.splits[k].mark = _; rw [SpM.mark, HDN.out]
        clear hon HS
        generalize m.splits[k].mark = M at HK HM
        obtain ⟨z3, z4⟩ := HK.out wr (Below.refl _ _)
        have Z4 := Lib.hid z4
        clear z4
        cases sl
        · cases dn
          · go_wp2_with (first
              | (go_at_call 138; with_reducible refine H138.out.mono ?_; rintro e w1 ⟨rfl, hb1⟩; obtain ⟨z5, z6⟩ := HK.out w1 hb1; have Z6 := Lib.hid z6; have HB1 := Lib.hid hb1; clear hb1 z6)
              | (go_at_call 150; with_reducible refine Z6.out.mono ?_; rintro e w2 ⟨rfl, rfl⟩))
            go_roundw
            case rel => exact ⟨k + 1, by omega, by go_num, by rw [HU.out, HM.out]; simp, by rw [HU.out]; simp, Lib.hid (below_then hbr.out HB1.out)⟩
            case measure => simp [intOf]; omega
          · go_wp2_with (first
              | (go_at_call 138; with_reducible refine H138.out.mono ?_; rintro e w1 ⟨rfl, hb1⟩; have HB1 := Lib.hid hb1; clear hb1))
            go_roundw
            case rel => exact ⟨k + 1, by omega, by go_num, by rw [HU.out]; simp, by rw [HU.out]; simp, Lib.hid (below_then hbr.out HB1.out)⟩
            case measure => simp [intOf]; omega
        · obtain rfl := hsu rfl
          go_wp2_with (first
            | (go_at_call 150; with_reducible refine Z4.out.mono ?_; rintro e w2 ⟨rfl, rfl⟩))
          go_roundw
          case rel =>
            refine ⟨k + 1, by omega, by go_num, ?_, ?_, hbr⟩
            · rw [HU.out, HM.out]
              cases dn
              · simp
              · simp; omega
            · rw [HU.out]; cases dn <;> simp
          case measure => simp [intOf]; omega
    · have hkl : k = m.splits.length := by omega
      subst hkl
      rw [List.take_length]
      have HW := Lib.hid (H.out.below hbr.out)
      obtain ⟨_, _, _, _, c4', _, _⟩ := HW.out.cells
      rw [e'] at c4'
      obtain ⟨g, o, rfl, hg, x0, x1⟩ := HW.out.reader e' hr
      have hb0 := riseN_bound (l := m.splits) (sl := sl) (r := r) HG.out
      have HRM : Hid (risenM m r = if ((riseN m.splits sl r).2 && decide (m.marks[r] < (riseN m.splits sl r).1)) = true then { m with marks := m.marks.set r (riseN m.splits sl r).1 } else m) := by
        show risenM m r = _
        rw [risenM, HSL.out]
        simp [List.getD, hr]
      have hbb := HW.out.hB r hr
      have hbi := HW.out.hI r hr
      have hmm := HMK.out _ (List.getElem_mem hr)
      have HA : Hid (Below wr.heap.size wr (wr.alloc (.cells #[.pointer (some ⟨ws.mb r, 0, none⟩)] 104))) := (Below.refl _ _).alloc (Nat.le_refl _) _
      have a1 := (HA.out.block _ (heap_lt hbb)).trans hbb
      have a2 := (HA.out.block _ (heap_lt hbi)).trans hbi
      have a3 : (wr.alloc (.cells #[.pointer (some ⟨ws.mb r, 0, none⟩)] 104)).cell? ⟨ws.mb r, 1, none⟩ = some (.int .i64 m.marks[r]) := by rw [cells_at a1]; rfl
      have H48 := Lib.hid (f48_any _ (ws.mb r) _ a3)
      have HW2 := Lib.hid (HW.out.below HA.out)
      have HBR := Lib.hid (hbr.out.trans (HA.out.mono hbr.out.size))
      generalize (riseN m.splits sl r).1 = T at *
      generalize (riseN m.splits sl r).2 = U at *
      unfold ptr at x0 H48
      clear x1 a3 e hbb hbi
      cases U
      · go_wp2_with fail
        go_returns
        exact ⟨rfl, by rw [HRM.out]; exact HW2.out, Only.of_below HBR.out⟩
      · by_cases hgt : m.marks[r] < T
        · have H81 := Lib.hid (f81_any _ (ws.mb r) (ws.ib r) _ T a1 a2 (by omega) (by omega) (by omega))
          unfold ptr at H81
          clear a1 a2
          go_wp2_with (first
            | (go_at_call 48; with_reducible refine H48.out.mono ?_; rintro e w2 ⟨rfl, rfl⟩)
            | (go_at_call 81; with_reducible refine H81.out.mono ?_; rintro e w2 ⟨rfl, ho, h1, h2⟩; have HO := Lib.hid ho; have H1 := Lib.hid h1; have H2 := Lib.hid h2; clear ho h1 h2))
          go_returns
          refine ⟨rfl, ?_, ?_⟩
          · rw [HRM.out, if_pos (by simpa using hgt)]
            exact HW2.out.setMark hr T HO.out H1.out H2.out
          · exact (Only.of_below HBR.out).trans HO.out (fun x _ hx => by rcases hx with rfl | rfl; rw [HW2.out.cB r hr]; omega; rw [HW2.out.cI r hr]; omega)
        · clear a1 a2
          go_wp2_with (first
            | (go_at_call 48; with_reducible refine H48.out.mono ?_; rintro e w2 ⟨rfl, rfl⟩))
          go_returns
          refine ⟨rfl, ?_, Only.of_below HBR.out⟩
          rw [HRM.out, if_neg (by simpa using hgt)]
          exact HW2.out
end leaves
end Go.Proofs.YtimahogkcmmcnaaGreatDoor

namespace Go.Proofs.YtimahogkcmmcnaaGreatDoor
open Go.RowKit Go.Proofs.YtimahogkcmmcnaaGreatDoor.Cmps

/-- A node that is a source. -/
abbrev srcV (sch : Value) (bound : Int) : Value := .agg #[.int .i64 1, .string ⟨#[115]⟩, .slice none 0 0, sch, .int .i64 bound, .string ⟨#[]⟩, .slice none 0 0, .slice none 0 0, .slice none 0 0, .int .i64 0, .int .i64 0, .int .i64 0, .int .i64 0, .int .i64 0, .slice none 0 0, .slice none 0 0, .int .i64 0, .int .i64 0, .slice none 0 0, .bool false, .int .i64 0, .int .i64 0, .slice none 0 0, .int .i64 0, .int .i64 0]

section leaves
set_option maxHeartbeats 2000000
set_option maxRecDepth 10000

theorem f215_one (w : World) : Calls Tryz.prog 215 #[.int .i64 1] w fun e w' => e = .returned (.tuple #[.int .i64 0, .int .i64 0]) ∧ w = w' := by
  go_enter Tryz.func215, Tryz.ntmps215
  go_wp2_with fail
  go_ret2
  exact ⟨rfl, rfl⟩

theorem f276_any (w : World) (n : Int) : Calls Tryz.prog 276 #[.int .i64 n] w fun e w' => e = .returned (.bool (n != 0)) ∧ w = w' := by
  go_enter Tryz.func276, Tryz.ntmps276
  go_wp2_with fail
  go_ret
  exact ⟨rfl, rfl⟩

theorem f277_nil (w : World) (f : Value) : Calls Tryz.prog 277 #[.slice none 0 0, f] w fun e w' => e = .returned (.int .i64 (-1)) ∧ w = w' := by
  go_enter Tryz.func277, Tryz.ntmps277
  go_wp2_with fail
  go_loopw [8] (fun i wr => i = .int .i64 0 ∧ wr = w) (fun _ _ => 0)
  case atStart => exact ⟨rfl, rfl⟩
  case round =>
    obtain ⟨rfl, rfl⟩ := hrel
    go_wp2_with fail
    go_ret
    exact ⟨rfl, rfl⟩

theorem f219_nil (w : World) (f : Value) : Calls Tryz.prog 219 #[.slice none 0 0, f] w fun e w' => e = .returned (.bool false) ∧ w = w' := by
  have H := Lib.hid (f277_nil w f)
  go_enter Tryz.func219, Tryz.ntmps219
  go_wp2_with (go_at_call 277; (with_reducible refine H.out.mono ?_); rintro e w1 ⟨rfl, rfl⟩)
  go_ret
  exact ⟨rfl, rfl⟩

theorem f275_nil (w : World) (f : Value) : Calls Tryz.prog 275 #[.slice none 0 0, f] w fun e w' => e = .returned (.int .i64 (-1)) ∧ w = w' := by
  go_enter Tryz.func275, Tryz.ntmps275
  go_wp2_with fail
  go_loopw [8] (fun i wr => i = .int .i64 0 ∧ wr = w) (fun _ _ => 0)
  case atStart => exact ⟨rfl, rfl⟩
  case round =>
    obtain ⟨rfl, rfl⟩ := hrel
    go_wp2_with fail
    go_ret
    exact ⟨rfl, rfl⟩

theorem f216_nil (w : World) (f : Value) : Calls Tryz.prog 216 #[.slice none 0 0, f] w fun e w' => e = .returned (.bool false) ∧ w = w' := by
  have H := Lib.hid (f275_nil w f)
  go_enter Tryz.func216, Tryz.ntmps216
  go_wp2_with (go_at_call 275; (with_reducible refine H.out.mono ?_); rintro e w1 ⟨rfl, rfl⟩)
  go_ret
  exact ⟨rfl, rfl⟩

theorem f277_zeros (w : World) (b n : Nat) (hn : n ≤ 100) (h : ∀ i, i < n → w.cell? ⟨b, i, none⟩ = some (.int .i64 0)) : Calls Tryz.prog 277 #[.slice (some ⟨b, 0, none⟩) n n, .func (.func 276) #[] #[]] w fun e w' => e = .returned (.int .i64 (-1)) ∧ w = w' := by
  have H := Lib.hid (f276_any w 0)
  have HC := Lib.hid h
  clear h
  go_enter Tryz.func277, Tryz.ntmps277
  go_wp2_with fail
  go_loopw [8] (fun i wr => ∃ k : Nat, k ≤ n ∧ i = .int .i64 k ∧ wr = w) (fun i _ => n - (intOf i).toNat)
  case atStart => exact ⟨0, by omega, rfl, rfl⟩
  case round =>
    obtain ⟨k, hk, rfl, rfl⟩ := hrel
    by_cases hlt : k < n
    · have c0 := HC.out k hlt
      have h1 : (k : Int) < (n : Int) := by omega
      have h0 : (0 : Int) ≤ (k : Int) := by omega
      go_wp2_with (go_at_call 276; (with_reducible refine H.out.mono ?_); rintro e w1 ⟨rfl, rfl⟩)
      go_roundw
      case rel => exact ⟨k + 1, by omega, by go_num, trivial⟩
      case measure => simp [intOf]; omega
    · have h1 : ¬ (k : Int) < (n : Int) := by omega
      go_wp2_with fail
      go_ret
      exact ⟨rfl, rfl⟩

theorem f219_zeros (w : World) (b n : Nat) (hn : n ≤ 100) (h : ∀ i, i < n → w.cell? ⟨b, i, none⟩ = some (.int .i64 0)) : Calls Tryz.prog 219 #[.slice (some ⟨b, 0, none⟩) n n, .func (.func 276) #[] #[]] w fun e w' => e = .returned (.bool false) ∧ w = w' := by
  have H := Lib.hid (f277_zeros w b n hn h)
  clear h
  go_enter Tryz.func219, Tryz.ntmps219
  go_wp2_with (go_at_call 277; (with_reducible refine H.out.mono ?_); rintro e w1 ⟨rfl, rfl⟩)
  go_ret
  exact ⟨rfl, rfl⟩

theorem f278_any (w : World) (t : Value) (a : Option Addr) (n c : Nat) (bound : Int) : Calls Tryz.prog 278 #[t, srcV (.slice a n c) bound] w fun e w' => e = .returned (if (0 ≤ bound ∧ bound ≤ 1000000000) then .tuple #[.slice a n c, .int .i64 0] else .tuple #[.slice none 0 0, .int .i64 11]) ∧ Below w.heap.size w w' := by
  by_cases h1 : bound < 0
  · rw [if_neg (by omega)]
    unfold srcV
    go_enter Tryz.func278, Tryz.ntmps278
    go_wp2_with fail
    go_ret2
    exact ⟨rfl, (Below.refl _ _).alloc (Nat.le_refl _) _⟩
  · by_cases h2 : 1000000000 < bound
    · rw [if_neg (by omega)]
      unfold srcV
      go_enter Tryz.func278, Tryz.ntmps278
      go_wp2_with fail
      go_ret2
      exact ⟨rfl, (Below.refl _ _).alloc (Nat.le_refl _) _⟩
    · rw [if_pos (by omega)]
      unfold srcV
      go_enter Tryz.func278, Tryz.ntmps278
      go_wp2_with fail
      go_ret2
      exact ⟨rfl, (Below.refl _ _).alloc (Nat.le_refl _) _⟩

theorem zeros7 (w : World) (x : Obj) : ∀ i, i < 7 → ((w.alloc x).alloc (.cells #[.int .i64 0, .int .i64 0, .int .i64 0, .int .i64 0, .int .i64 0, .int .i64 0, .int .i64 0] 3)).cell? ⟨w.heap.size + 1, i, none⟩ = some (.int .i64 0) := by
  intro i hi
  have h : ((w.alloc x).alloc (.cells #[.int .i64 0, .int .i64 0, .int .i64 0, .int .i64 0, .int .i64 0, .int .i64 0, .int .i64 0] 3)).heap[w.heap.size + 1]? = some (.cells #[.int .i64 0, .int .i64 0, .int .i64 0, .int .i64 0, .int .i64 0, .int .i64 0, .int .i64 0] 3 (0, 0)) := by simpa using heap_alloc_new (w.alloc x) (.cells #[.int .i64 0, .int .i64 0, .int .i64 0, .int .i64 0, .int .i64 0, .int .i64 0, .int .i64 0] 3)
  rw [cells_at h i]
  match i, hi with
  | 0, _ => rfl
  | 1, _ => rfl
  | 2, _ => rfl
  | 3, _ => rfl
  | 4, _ => rfl
  | 5, _ => rfl
  | 6, _ => rfl

theorem f218_any (w : World) (a : Option Addr) (n c : Nat) (bound : Int) : Calls Tryz.prog 218 #[srcV (.slice a n c) bound] w fun e w' => e = .returned (.bool false) ∧ Below w.heap.size w w' := by
  have HZ := Lib.hid (fun x => f219_zeros _ (w.heap.size + 1) 7 (by omega) (zeros7 w x))
  have HB : Hid (∀ x y, Below w.heap.size w ((w.alloc x).alloc y)) := fun x y => ((Below.refl _ _).alloc (Nat.le_refl _) _).alloc (by simp) _
  unfold srcV
  go_enter Tryz.func218, Tryz.ntmps218
  go_wp2_with (go_at_call 219; (with_reducible refine (HZ.out _).mono ?_); rintro e w1 ⟨rfl, rfl⟩)
  go_ret
  exact ⟨rfl, HB.out _ _⟩
end leaves
end Go.Proofs.YtimahogkcmmcnaaGreatDoor

