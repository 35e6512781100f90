import Derived.Test.YtdnkfgnjeibjeaaMA
import Derived.Test.YtdnkfgnjeibjeaaMB
import Derived.Lib.QuietBelow
import Derived.Laws.StructEq
import Derived.Test.YtdnkfgnjeibjeaaMC

namespace Go.Proofs.Ytdnkfgnjeibjeaa
open Go.RowKit

section leaves
set_option maxHeartbeats 400000

theorem f84_any (n hi : Int) (w : World) :
    Calls Try.prog 84 #[.int .i64 n, .int .i64 hi] w fun e w' => e = .returned (.bool (withinB n 1 hi)) ∧ w = w' := by
  go_enter Try.func84, Try.ntmps84
  go_wp2
  all_goals go_ret
  all_goals (exact ⟨ret_bool (by simp [withinB, *] <;> omega), rfl⟩)

theorem f95_any (w : World) (r : Value) (row : List Val) (D : Nat → Prop) (hr : RowAt w D r row) :
    Calls Try.prog 95 #[r] w fun e w' => e = .returned (.bool (validRow row)) ∧ Below w.heap.size w w' := by
  obtain ⟨a, cap, rfl, hl, hx⟩ := hr
  have HX := Lib.hid hx
  clear hx
  go_enter Try.func95, Try.ntmps95
  go_wp2
  go_loopw [3] (fun i wr => ∃ k : Nat, k ≤ row.length ∧ i = .int .i64 k ∧ (∀ j (h : j < row.length), j < k → validValue row[j] = true) ∧ Below w.heap.size w wr) (fun i _ => row.length - (intOf i).toNat)
  case atStart => exact ⟨0, by omega, rfl, by omega, Below.refl _ _⟩
  case round =>
    obtain ⟨k, hk, rfl, hv, hb⟩ := hrel
    have HV := Lib.hid hv
    clear hv
    by_cases hlt : k < row.length
    · obtain ⟨b, off, rfl, hbD, hc⟩ := HX.out.resolve_left (fun e => by rw [e] at hlt; simp at hlt)
      obtain ⟨h0, h1, h2⟩ := hc k hlt
      have hbb : b < w.heap.size := World.block_lt_of_cell? w ⟨b, off + k * 3, none⟩ h0
      rw [← hb.cell (p := ⟨b, _, none⟩) hbb] at h0 h1 h2
      clear hc
      have HB := Lib.hid hb
      clear hb
      cases hval : validValue row[k]
      · have hC := fun (W : World) => f101_any row[k] W
        rw [hval] at hC
        have HC := Lib.hid hC
        clear hC
        go_wp2_with (go_at_call 101; refine (HC.out _).mono ?_; rintro e w' ⟨rfl, hb1⟩)
        go_ret
        refine ⟨ret_bool ?_, HB.out.trans (hb1.mono HB.out.size)⟩
        have : row.all validValue = false := by
          rw [List.all_eq_false]; exact ⟨row[k], List.getElem_mem hlt, by simp [hval]⟩
        simp [validRow, this]
      · have hC := fun (W : World) => f101_any row[k] W
        rw [hval] at hC
        have HC := Lib.hid hC
        clear hC
        go_wp2_with (go_at_call 101; refine (HC.out _).mono ?_; rintro e w' ⟨rfl, hb1⟩)
        go_roundw
        case rel =>
          refine ⟨k + 1, by omega, by go_num, fun j hj hjk => ?_, HB.out.trans (hb1.mono HB.out.size)⟩
          by_cases e : j = k
          · subst e; exact hval
          · exact HV.out j hj (by omega)
        case measure => simp [intOf]; omega
    · have hall : row.all validValue = true := by
        rw [List.all_eq_true]
        intro x hx
        obtain ⟨i, hi, rfl⟩ := List.mem_iff_getElem.1 hx
        exact HV.out i hi (by omega)
      have HA := Lib.hid hall
      clear hall
      go_wp2
      go_ret
      exact ⟨ret_bool (by simp [validRow, HA.out]), hb⟩

theorem f85_any (e : Elem) (r : Value) (w : World) (D : Nat → Prop) (hr : RowAt w D r e.row) :
    Calls Try.prog 85 #[.agg #[.int .i64 e.t, r, .int .i64 e.c]] w fun x w' => x = .returned (.bool (validChange e)) ∧ Below w.heap.size w w' := by
  have hR := fun (W : World) (h : Below w.heap.size w W) => f95_any W r e.row D (RowAt.below hr h)
  obtain ⟨a, cap, rfl, hl, hx⟩ := hr
  clear hx
  go_enter Try.func85, Try.ntmps85
  go_wp2_with (first | (go_at_call 94; refine (f94_any _ _).mono ?_; rintro e w' ⟨rfl, rfl⟩) | (go_at_call 95; refine (hR _ ((Below.refl _ _).alloc (Nat.le_refl _) _)).mono ?_; rintro e w' ⟨rfl, hb⟩; obtain ⟨hc, hf⟩ := bcell hb) | (go_at_call 96; refine (f96_any _ _ _ _).mono ?_; rintro e w' ⟨rfl, rfl⟩))
  all_goals go_ret
  all_goals (exact ⟨ret_bool (by simp_all [validChange, validNum]), (by first | exact below_box hb | exact (Below.refl _ _).alloc (Nat.le_refl _) _)⟩)

theorem f66_any (e : Elem) (r : Value) (w : World) (D : Nat → Prop) (hr : RowAt w D r e.row) :
    Calls Try.prog 66 #[ev e r] w fun x w' => x = .returned (.bool (validElem e)) ∧ Below w.heap.size w w' := by
  have hR := fun (W : World) (h : Below w.heap.size w W) => f85_any e r W D (RowAt.below hr h)
  obtain ⟨a, cap, rfl, hl, hx⟩ := hr
  clear hx
  have HR := Lib.hid hR
  clear hR
  have hbare : bareElem e = (e.t == 0 && e.c == 0 && e.row.length == 0) := by
    simp only [bareElem]
    cases e.t == 0 <;> cases e.c == 0 <;> cases e.row.length == 0 <;> rfl
  have HB := Lib.hid hbare
  clear hbare
  have hlen : ((e.row.length : Int) == 0) = (e.row.length == 0) := nat_beq _ 0
  cases h0 : (e.t == 0) <;> cases h2 : (e.c == 0) <;> cases h1 : (e.row.length == 0) <;> rw [h1] at hlen
  all_goals
    have hb' := HB.out
    rw [h0, h2, h1] at hb'
    simp only [Bool.false_and, Bool.true_and, Bool.and_false] at hb'
    have HB' := Lib.hid hb'
    clear hb'
    go_enter Try.func66, Try.ntmps66
    go_wp2_with (go_at_call 85; refine (HR.out _ ((Below.refl _ _).alloc (Nat.le_refl _) _)).mono ?_; rintro e w' ⟨rfl, hb⟩; obtain ⟨hc, hf⟩ := bcell hb)
    all_goals go_ret
    all_goals
      have hbe := HB'.out
      exact ⟨ret_bool (by simp [validElem, withinB, *] <;> omega), (by first | exact below_box hb | exact ((Below.refl _ _).alloc (Nat.le_refl _) _))⟩
end leaves
end Go.Proofs.Ytdnkfgnjeibjeaa

namespace Go.Proofs.Ytdnkfgnjeibjeaa
open Go.RowKit

def badE (e : Elem) : Bool := !validElem e
def barE (e : Elem) : Bool := e.k == 3

def elemIdx (p : Elem → Bool) (l : List Elem) : Int := match l.findIdx? p with | some i => i | none => -1

theorem elemIdx_hit {p : Elem → Bool} {l : List Elem} {k : Nat} (hk : k < l.length) (hb : p l[k] = true) (h : ∀ j (h : j < l.length), j < k → p l[j] = false) : elemIdx p l = k := by
  have : l.findIdx? p = some k := by
    rw [List.findIdx?_eq_some_iff_getElem]
    exact ⟨hk, hb, fun j hj => by simp [h j (by omega) hj]⟩
  simp [elemIdx, this]

theorem elemIdx_none {p : Elem → Bool} {l : List Elem} (h : ∀ j (h : j < l.length), p l[j] = false) : elemIdx p l = -1 := by
  have : l.findIdx? p = none := by
    rw [List.findIdx?_eq_none_iff]
    intro x hx
    obtain ⟨i, hi, rfl⟩ := List.mem_iff_getElem.1 hx
    simp [h i hi]
  simp [elemIdx, this]

theorem elemIdx_cases (p : Elem → Bool) (l : List Elem) : (elemIdx p l = -1 ∧ ∀ x ∈ l, p x = false) ∨ ∃ k : Nat, ∃ h : k < l.length, elemIdx p l = k ∧ p l[k] = true ∧ ∀ j (h : j < l.length), j < k → p l[j] = false := by
  unfold elemIdx
  cases h : l.findIdx? p with
  | none => exact .inl ⟨rfl, List.findIdx?_eq_none_iff.1 h⟩
  | some i =>
    obtain ⟨hi, hb, hc⟩ := List.findIdx?_eq_some_iff_getElem.1 h
    exact .inr ⟨i, hi, rfl, hb, fun j hj hji => by simpa using hc j hji⟩

theorem elemIdx_any (p : Elem → Bool) (l : List Elem) : decide (0 ≤ elemIdx p l) = l.any p := by
  rcases elemIdx_cases p l with ⟨h, ha⟩ | ⟨k, hk, h, hp, _⟩
  · rw [h, List.any_eq_false.2 (fun x hx => by simp [ha x hx])]; rfl
  · rw [h, List.any_eq_true.2 ⟨l[k], List.getElem_mem hk, hp⟩]; simp

section leaves
set_option maxHeartbeats 400000
set_option maxRecDepth 100000

theorem f63_any (e : Elem) (r : Value) (w : World) (D : Nat → Prop) (hr : RowAt w D r e.row) :
    Calls Try.prog 63 #[ev e r] w fun x w' => x = .returned (.bool (badE e)) ∧ Below w.heap.size w w' := by
  have hR := f40_any e r (w.alloc (.cells #[.int .i64 e.k, .int .i64 e.n, .int .i64 e.t, r, .int .i64 e.c] 34)) D (hr.below ((Below.refl _ _).alloc (Nat.le_refl _) _))
  obtain ⟨a, cap, rfl, hl, hx⟩ := hr
  clear hx
  go_enter Try.func63, Try.ntmps63
  go_wp2_with (go_at_call 40; refine hR.mono ?_; rintro e w' ⟨rfl, hb⟩)
  go_ret
  exact ⟨rfl, below_box hb⟩

theorem f81_any (e : Elem) (r : Value) (w : World) (D : Nat → Prop) (hr : RowAt w D r e.row) :
    Calls Try.prog 81 #[ev e r] w fun x w' => x = .returned (.bool (barE e)) ∧ Below w.heap.size w w' := by
  obtain ⟨a, cap, rfl, hl, hx⟩ := hr
  clear hx
  go_enter Try.func81, Try.ntmps81
  go_wp2
  go_ret
  exact ⟨rfl, (Below.refl _ _).alloc (Nat.le_refl _) _⟩


theorem f83_63 (w : World) (v : Value) (l : List Elem) (D : Nat → Prop) (h : ElemsAt w D v l) :
    Calls Try.prog 83 #[v, .func (.func 63) #[] #[]] w fun e w' => e = .returned (.int .i64 (elemIdx badE l)) ∧ Below w.heap.size w w' := by
  obtain ⟨a, cap, rfl, hl, hx⟩ := h
  have HX := Lib.hid hx
  clear hx
  go_enter Try.func83, Try.ntmps83
  go_wp2
  go_loopw [8] (fun i wr => ∃ k : Nat, k ≤ l.length ∧ i = .int .i64 k ∧ (∀ j (h : j < l.length), j < k → badE l[j] = false) ∧ Below w.heap.size w wr) (fun i _ => l.length - (intOf i).toNat)
  case atStart => exact ⟨0, by omega, rfl, by omega, Below.refl _ _⟩
  case round =>
    obtain ⟨k, hk, rfl, hv, hb⟩ := hrel
    have HV := Lib.hid hv
    clear hv
    by_cases hlt : k < l.length
    · obtain ⟨b, off, rfl, hbD, hc⟩ := HX.out.resolve_left (fun e => by rw [e] at hlt; simp at hlt)
      obtain ⟨r, e0, e1, e2, e3, e4, hr⟩ := hc k hlt
      have hbb : b < w.heap.size := cell_lt e0
      rw [← hb.cell (p := ⟨b, _, none⟩) hbb] at e0 e1 e2 e3 e4
      have hr' := hr.below hb
      have hC := f63_any l[k] r wr D hr'
      clear hc hr hr'
      have HB := Lib.hid hb
      clear hb
      cases hp : badE l[k] <;> rw [hp] at hC
      · have HC := Lib.hid hC
        have HP := Lib.hid hp
        clear hC hp
        go_wp2_with (go_at_call 63; refine HC.out.mono ?_; rintro e w' ⟨rfl, hb1⟩)
        go_roundw
        case rel =>
          refine ⟨k + 1, by omega, by go_num, fun j hj hjk => ?_, HB.out.trans (hb1.mono HB.out.size)⟩
          by_cases e : j = k
          · subst e; exact HP.out
          · exact HV.out j hj (by omega)
        case measure => simp [intOf]; omega
      · have HC := Lib.hid hC
        have HP := Lib.hid hp
        clear hC hp
        go_wp2_with (go_at_call 63; refine HC.out.mono ?_; rintro e w' ⟨rfl, hb1⟩)
        go_ret
        exact ⟨ret_int (elemIdx_hit hlt HP.out HV.out).symm, HB.out.trans (hb1.mono HB.out.size)⟩
    · have HB := Lib.hid hb
      clear hb
      go_wp2
      go_ret
      exact ⟨ret_int (elemIdx_none (fun j hj => HV.out j hj (by omega))).symm, HB.out⟩


theorem f83_81 (w : World) (v : Value) (l : List Elem) (D : Nat → Prop) (h : ElemsAt w D v l) :
    Calls Try.prog 83 #[v, .func (.func 81) #[] #[]] w fun e w' => e = .returned (.int .i64 (elemIdx barE l)) ∧ Below w.heap.size w w' := by
  obtain ⟨a, cap, rfl, hl, hx⟩ := h
  have HX := Lib.hid hx
  clear hx
  go_enter Try.func83, Try.ntmps83
  go_wp2
  go_loopw [8] (fun i wr => ∃ k : Nat, k ≤ l.length ∧ i = .int .i64 k ∧ (∀ j (h : j < l.length), j < k → barE l[j] = false) ∧ Below w.heap.size w wr) (fun i _ => l.length - (intOf i).toNat)
  case atStart => exact ⟨0, by omega, rfl, by omega, Below.refl _ _⟩
  case round =>
    obtain ⟨k, hk, rfl, hv, hb⟩ := hrel
    have HV := Lib.hid hv
    clear hv
    by_cases hlt : k < l.length
    · obtain ⟨b, off, rfl, hbD, hc⟩ := HX.out.resolve_left (fun e => by rw [e] at hlt; simp at hlt)
      obtain ⟨r, e0, e1, e2, e3, e4, hr⟩ := hc k hlt
      have hbb : b < w.heap.size := cell_lt e0
      rw [← hb.cell (p := ⟨b, _, none⟩) hbb] at e0 e1 e2 e3 e4
      have hr' := hr.below hb
      have hC := f81_any l[k] r wr D hr'
      clear hc hr hr'
      have HB := Lib.hid hb
      clear hb
      cases hp : barE l[k] <;> rw [hp] at hC
      · have HC := Lib.hid hC
        have HP := Lib.hid hp
        clear hC hp
        go_wp2_with (go_at_call 81; refine HC.out.mono ?_; rintro e w' ⟨rfl, hb1⟩)
        go_roundw
        case rel =>
          refine ⟨k + 1, by omega, by go_num, fun j hj hjk => ?_, HB.out.trans (hb1.mono HB.out.size)⟩
          by_cases e : j = k
          · subst e; exact HP.out
          · exact HV.out j hj (by omega)
        case measure => simp [intOf]; omega
      · have HC := Lib.hid hC
        have HP := Lib.hid hp
        clear hC hp
        go_wp2_with (go_at_call 81; refine HC.out.mono ?_; rintro e w' ⟨rfl, hb1⟩)
        go_ret
        exact ⟨ret_int (elemIdx_hit hlt HP.out HV.out).symm, HB.out.trans (hb1.mono HB.out.size)⟩
    · have HB := Lib.hid hb
      clear hb
      go_wp2
      go_ret
      exact ⟨ret_int (elemIdx_none (fun j hj => HV.out j hj (by omega))).symm, HB.out⟩


theorem f62_any (w : World) (v : Value) (l : List Elem) (D : Nat → Prop) (h : ElemsAt w D v l) :
    Calls Try.prog 62 #[v, .func (.func 63) #[] #[]] w fun e w' => e = .returned (.bool (l.any badE)) ∧ Below w.heap.size w w' := by
  have e := elemIdx_any badE l
  go_enter Try.func62, Try.ntmps62
  go_wp2_with (go_at_call 83; refine (f83_63 _ _ l D h).mono ?_; rintro e w' ⟨rfl, hb1⟩)
  go_ret
  exact ⟨rfl, hb1⟩
end leaves

end Go.Proofs.Ytdnkfgnjeibjeaa

namespace Go.Proofs.Ytdnkfgnjeibjeaa
open Go.RowKit

theorem info34 : (Try.prog.info? 34).map (fun i => (i.zero, i.size, i.bytes)) = some (some (.agg #[.int .i64 0, .int .i64 0, .int .i64 0, .slice none 0 0, .int .i64 0]), 5, 56) := by kernel_rfl

theorem RowAt.form' {w : World} {D : Nat → Prop} {r : Value} {row : List Val} (h : RowAt w D r row) : ∃ a n c, r = .slice a n c := by
  obtain ⟨a, c, h, _⟩ := h
  exact ⟨a, _, c, h⟩

/-- Elements in one block, their rows in others. -/
structure EvsAt (w : World) (D : Nat → Prop) (v : Value) (evs : List EV) (blk : Option Nat) : Prop where
  own : SlOwn w 34 5 v evs.length (evs.flatMap ecl) blk
  rows : ∀ p ∈ evs, RowAt w D p.2 p.1.row
  small : evs.length ≤ 1000000

theorem ecl_one {w : World} {D : Nat → Prop} {evs : List EV} (h : ∀ p ∈ evs, RowAt w D p.2 p.1.row) : ∀ u ∈ evs.flatMap ecl, u.oneCell' = true := by
  intro u hu
  rw [List.mem_flatMap] at hu
  obtain ⟨p, hp, hu⟩ := hu
  obtain ⟨a, n, c, hr⟩ := (h p hp).form'
  simp only [ecl, List.mem_cons, List.not_mem_nil, or_false] at hu
  rcases hu with rfl | rfl | rfl | rfl | rfl
  · rfl
  · rfl
  · rfl
  · rw [hr]; rfl
  · rfl

theorem ElemsAt.src {w : World} {D : Nat → Prop} {v : Value} {l : List Elem} (h : ElemsAt w D v l) : ∃ evs : List EV, evs.map Prod.fst = l ∧ Src w 5 v evs.length (evs.flatMap ecl) ∧ ∀ p ∈ evs, RowAt w D p.2 p.1.row := by
  obtain ⟨a, cap, rfl, hl, hx⟩ := h
  rcases hx with rfl | ⟨b, off, rfl, hD, hc⟩
  · exact ⟨[], rfl, ⟨rfl, a, cap, rfl, .inl rfl⟩, fun p hp => by cases hp⟩
  · have hV : ∃ V : Nat → Value, ∀ i, (h : i < l.length) → w.cell? ⟨b, off + i * 5, none⟩ = some (.int .i64 l[i].k) ∧ w.cell? ⟨b, off + i * 5 + 1, none⟩ = some (.int .i64 l[i].n) ∧ w.cell? ⟨b, off + i * 5 + 2, none⟩ = some (.int .i64 l[i].t) ∧
        w.cell? ⟨b, off + i * 5 + 3, none⟩ = some (V i) ∧ w.cell? ⟨b, off + i * 5 + 4, none⟩ = some (.int .i64 l[i].c) ∧ RowAt w D (V i) l[i].row := by
      refine ⟨fun i => (w.cell? ⟨b, off + i * 5 + 3, none⟩).getD undef, fun i hi => ?_⟩
      obtain ⟨r, h0, h1, h2, h3, h4, hr⟩ := hc i hi
      have e : (w.cell? ⟨b, off + i * 5 + 3, none⟩).getD undef = r := by rw [h3]; rfl
      dsimp only
      rw [e]
      exact ⟨h0, h1, h2, h3, h4, hr⟩
    obtain ⟨V, hV⟩ := hV
    refine ⟨l.mapIdx fun i e => (e, V i), ?_, ⟨?_, some ⟨b, off, none⟩, cap, by simp, .inr ⟨_, rfl, fun j u hu => ?_⟩⟩, fun p hp => ?_⟩
    · apply List.ext_getElem
      · simp
      · intro i h1 h2; simp
    · rw [flat_len ecl_len]
    · obtain ⟨i, r, hi, hr, rfl, hv⟩ := flat_inv (by omega) ecl_len _ j u hu
      have hi' : i < l.length := by simpa using hi
      rw [add_at]
      obtain ⟨h0, h1, h2, h3, h4, _⟩ := hV i hi'
      simp only [List.getElem_mapIdx] at hv
      match r, hr with
      | 0, _ => simp only [ecl, List.getElem?_cons_zero, Option.some.injEq] at hv; subst hv; exact h0
      | 1, _ => simp only [ecl, List.getElem?_cons_succ, List.getElem?_cons_zero, Option.some.injEq] at hv; subst hv; exact h1
      | 2, _ => simp only [ecl, List.getElem?_cons_succ, List.getElem?_cons_zero, Option.some.injEq] at hv; subst hv; exact h2
      | 3, _ => simp only [ecl, List.getElem?_cons_succ, List.getElem?_cons_zero, Option.some.injEq] at hv; subst hv; exact h3
      | 4, _ => simp only [ecl, List.getElem?_cons_succ, List.getElem?_cons_zero, Option.some.injEq] at hv; subst hv; exact h4
    · obtain ⟨i, hi, rfl⟩ := List.mem_iff_getElem.1 hp
      have hi' : i < l.length := by simpa using hi
      simp only [List.getElem_mapIdx]
      exact (hV i hi').2.2.2.2.2

theorem EvsAt.elems {w : World} {D D' : Nat → Prop} {v : Value} {evs : List EV} {blk : Option Nat} (h : EvsAt w D v evs blk) (hd : ∀ b, D b → D' b) (hb : ∀ b, blk = some b → D' b) : ElemsAt w D' v (evs.map Prod.fst) := by
  obtain ⟨hs, hr, hsm⟩ := h
  rcases hs.2 with ⟨rfl, h0, _⟩ | ⟨g, o, cap, cur, rfl, rfl, _⟩
  · have : evs = [] := List.eq_nil_of_length_eq_zero h0
    subst this
    exact ⟨none, 0, rfl, by simp, .inl rfl⟩
  · refine ⟨_, cap, by simp, by simp; omega, .inr ⟨g, o, rfl, hb g rfl, fun i hi => ?_⟩⟩
    have hi' : i < evs.length := by simpa using hi
    have key : ∀ r u, r < 5 → (ecl evs[i])[r]? = some u → w.cell? ⟨g, o + (i * 5 + r), none⟩ = some u := fun r u hr hu => hs.cell _ u (by rw [flat_at ecl_len evs i r hi' hr]; exact hu)
    simp only [List.getElem_map]
    exact ⟨evs[i].2, key 0 _ (by omega) rfl, key 1 _ (by omega) rfl, key 2 _ (by omega) rfl, key 3 _ (by omega) rfl, key 4 _ (by omega) rfl, (hr _ (List.getElem_mem hi')).mono hd⟩

theorem EvsAt.keep {w w' : World} {D : Nat → Prop} {v : Value} {evs : List EV} {blk : Option Nat} (h : EvsAt w D v evs blk) (hk : ∀ b, (D b ∨ blk = some b) → b < w.heap.size → w'.heap[b]? = w.heap[b]?) : EvsAt w' D v evs blk :=
  ⟨h.own.keep fun g hg => hk g (.inr hg) (by subst hg; exact h.own.blk_lt), fun p hp => (h.rows p hp).keep fun b hb hl => hk b (.inl hb) hl, h.small⟩

theorem EvsAt.below {w w' : World} {D : Nat → Prop} {v : Value} {evs : List EV} {blk : Option Nat} (h : EvsAt w D v evs blk) (hb : Below w.heap.size w w') : EvsAt w' D v evs blk := h.keep fun b _ hl => hb.block b hl

section leaves
set_option maxHeartbeats 400000
set_option maxRecDepth 100000

/-- A copy of its own, of a list of elements. -/
def GivesEvs (w : World) (D : Nat → Prop) (evs : List EV) (e : Ending) (w' : World) : Prop := ∃ v blk, e = .returned v ∧ EvsAt w' D v evs blk ∧ (∀ g, blk = some g → w.heap.size ≤ g) ∧ Below w.heap.size w w'

theorem f80_any (w : World) (v : Value) (evs : List EV) (D : Nat → Prop) (hs : Src w 5 v evs.length (evs.flatMap ecl)) (hr : ∀ p ∈ evs, RowAt w D p.2 p.1.row) (hsm : evs.length ≤ 1000000) :
    Calls Try.prog 80 #[v] w (GivesEvs w D evs) := by
  have hs' := hs
  have hone := ecl_one hr
  obtain ⟨hlen, a, cap, rfl, hx⟩ := hs
  cases a with
  | none =>
    have hev : evs = [] := by
      rcases hx with h | ⟨ad, h, _⟩
      · rw [h] at hlen
        exact List.eq_nil_of_length_eq_zero (by simp at hlen; omega)
      · cases h
    subst hev
    have hk := fun (w : World) => Lib.run_eql_slice_nil (P := Try.prog) w 49 34 none 0 cap 0 0 Try.underlying49
    clear hs' hone hx hlen hr hsm
    go_enter Try.func80, Try.ntmps80
    go_wp2
    go_ret
    exact ⟨_, none, rfl, ⟨SlOwn.nil _ _ _, (fun p hp => by cases hp), by simp⟩, (fun g hg => by cases hg), Below.refl _ _⟩
  | some ad =>
    have hk := fun (w : World) => Lib.run_eql_slice_nil (P := Try.prog) w 49 34 (some ad) evs.length cap 0 0 Try.underlying49
    have hb0 : Below w.heap.size w (w.alloc (.cells #[] 34)) := (Below.refl _ w).alloc (Nat.le_refl _) _
    have hsrc : Src (w.alloc (.cells #[] 34)) 5 (.slice (some ad) evs.length cap) evs.length (evs.flatMap ecl) := by
      refine ⟨hlen, some ad, cap, rfl, ?_⟩
      rcases hx with h | ⟨ad', h, hc⟩
      · exact .inl h
      · refine .inr ⟨ad', h, fun j u hu => ?_⟩
        have := hc j u hu
        have hlt := World.block_lt_of_cell? w _ this
        rw [← this]
        exact hb0.cell hlt
    have hown : SlOwn (w.alloc (.cells #[] 34)) 34 5 (.slice (some ⟨w.heap.size, 0, none⟩) 0 0) 0 [] (some w.heap.size) :=
      ⟨by simp, .inr ⟨w.heap.size, 0, 0, #[], rfl, rfl, heap_alloc_new w _, by omega, by simp [maxLen], by simp, by simp⟩⟩
    obtain ⟨i0, hi0, hz0, hz1, hz2⟩ := info_parts info34
    have HS := Lib.hid hsrc
    have HO := Lib.hid hown
    have H1 := Lib.hid hone
    have HR := Lib.hid hr
    have HB := Lib.hid hb0
    clear hs' hx hsrc hlen hown hone hr hb0
    go_enter Try.func80, Try.ntmps80
    go_wp2_with (at_builtin; refine wpList_append_S rfl (.tmp 5) (.tmp 6) 49 rfl 34 i0 _ 5 56 Try.underlying49 hi0 hz0 hz1 hz2 rfl (by omega) (.slice (some ⟨w.heap.size, 0, none⟩) 0 0) 0 [] (some w.heap.size) rfl HO.out (.slice (some ad) evs.length cap) evs.length (evs.flatMap ecl) rfl HS.out H1.out (by simp only [maxLen]; omega) (by omega) ?_; intro v1 w1 blk1 hown1 hgrow1 hat1)
    have hbw : Below w.heap.size w w1 := (HB.out).grown hgrow1 (by simp) (fun k hk => by cases hk; exact Nat.le_refl _)
    simp only [Nat.zero_add, List.nil_append] at hown1
    have HW := Lib.hid hbw
    have HO1 := Lib.hid hown1
    have HA1 := Lib.hid hat1
    clear hbw hown1 hgrow1 hat1
    go_ret
    refine ⟨_, blk1, rfl, ⟨HO1.out, fun p hp => (HR.out p hp).below HW.out, hsm⟩, fun g hg => ?_, HW.out⟩
    rcases HA1.out with h | h <;> rw [h] at hg <;> cases hg <;> simp

end leaves
end Go.Proofs.Ytdnkfgnjeibjeaa

namespace Go.Proofs.Ytdnkfgnjeibjeaa
open Go.RowKit

theorem zeroCells_one {z : Array Value} {n : Nat} (h : ∀ u ∈ z.toList, u.oneCell' = true) : ∀ u ∈ (Builtin.zeroCells z n).toList, u.oneCell' = true := by
  intro u hu
  simp only [Builtin.zeroCells, Array.toList_map, List.mem_map] at hu
  obtain ⟨i, hi, rfl⟩ := hu
  rcases Nat.eq_zero_or_pos z.size with h0 | h0
  · simp [h0] at hi
  · have hm : i % z.size < z.size := Nat.mod_lt _ h0
    rw [getElem!_pos z _ hm]
    exact h _ (by simp)

/-- clear of a slice of elements of several cells. -/
theorem run_clear_S {P : Program} (w : World) (t e ty : TypeId) (z : Value) (size : Nat) (ht : P.underlying t = some (.slice e)) (hv : ∀ w, (zeroValue e).run P w = .ok z w) (hz : z.cells.size = size) (h1 : ∀ u ∈ z.cells.toList, u.oneCell' = true)
    (g o n c : Nat) (hn : 0 < n) (cur : Array Value) (hg : w.heap[g]? = some (.cells cur e (0, 0))) (hfit : o + n * size ≤ cur.size) :
    ∃ w' cur', (Builtin.clear_ #[t] ty #[.slice (some ⟨g, o, none⟩) n c]).run P w = .ok (.tuple #[]) w' ∧ w'.heap[g]? = some (.cells cur' e (0, 0)) ∧ cur'.size = cur.size ∧ cur'.toList.take o = cur.toList.take o ∧ w.grownBy w' (some g) := by
  have hsz : (Builtin.zeroCells z.cells n).toList.length = n * size := by rw [Array.length_toList, size_zeroCells, hz]
  have hst := run_storeCells_at P g o e (Builtin.zeroCells z.cells n).toList 0 cur w hg (by rw [hsz]; omega) (zeroCells_one h1)
  obtain ⟨m, rfl⟩ : ∃ m, n = m + 1 := ⟨n - 1, by omega⟩
  simp only [Nat.add_zero] at hst
  have hrun : (Builtin.clear_ #[t] ty #[.slice (some ⟨g, o, none⟩) (m + 1) c]).run P w = .ok (.tuple #[]) (w.setRow g (cur.toList.take o ++ (Builtin.zeroCells z.cells (m + 1)).toList ++ cur.toList.drop (o + (Builtin.zeroCells z.cells (m + 1)).toList.length)).toArray) := by
    simp only [Builtin.clear_]
    simp [run_underlying ht, hv, hst]
  generalize Builtin.zeroCells z.cells (m + 1) = zs at hsz hst hrun
  refine ⟨w.setRow g (cur.toList.take o ++ zs.toList ++ cur.toList.drop (o + zs.toList.length)).toArray, _, ?_, setRow_heap w g cur _ e _ hg, ?_, ?_, ⟨rfl, rfl, rfl, by simp, fun k _ hk => setRow_other w g k _ (fun e => hk (by simp [e]))⟩⟩
  · exact hrun
  · simp only [List.size_toArray, List.length_append, List.length_take, List.length_drop, Array.length_toList] at hsz ⊢
    omega
  · have hol : (cur.toList.take o).length = o := by rw [List.length_take, Array.length_toList]; omega
    rw [List.append_assoc, List.take_append_of_le_length (by rw [hol]; omega), List.take_of_length_le (by rw [hol]; omega)]

theorem wpList_clear_S {P : Program} {w : World} {ops : Array Oper} {rest : List Oper} {o : Oper} {a : Act} {Q : Exit → Act → World → Prop} (hgd : o.guard = none) (s : Operand) (t : TypeId)
    (ho : o.op = .call { callee := .builtin .clear, args := #[s], argTypes := #[t] })
    (e : TypeId) (z : Value) (size : Nat) (ht : P.underlying t = some (.slice e)) (hv : ∀ w, (zeroValue e).run P w = .ok z w) (hz : z.cells.size = size) (h1 : ∀ u ∈ z.cells.toList, u.oneCell' = true)
    (g off n c : Nat) (hs : a.eval s = .slice (some ⟨g, off, none⟩) n c) (hn : 0 < n) (cur : Array Value) (hg : w.heap[g]? = some (.cells cur e (0, 0))) (hfit : off + n * size ≤ cur.size)
    (h : ∀ w' cur', w'.heap[g]? = some (.cells cur' e (0, 0)) → cur'.size = cur.size → cur'.toList.take off = cur.toList.take off → w.grownBy w' (some g) → wpList P ops Q rest (a.put o.dst (.tuple #[])) w') : wpList P ops Q (o :: rest) a w :=
  wpList_plain hgd fun K hK => by
    obtain ⟨w', cur', hr, h2, h3, h4, h5⟩ := run_clear_S (P := P) w t e o.type z size ht hv hz h1 g off n c hn cur hg hfit
    unfold Oper.wp execOp
    simp only [ho, resolve, invoke, builtin, Sem.run_bind, Sem.run_pure, Result.andThen_ok, List.map_toArray, List.map_cons, List.map_nil, hs, hr]
    exact hK _ _ (h w' cur' h2 h3 h4 h5)

section
variable {w : World} {g o cap : Nat} {cur : Array Value}

/-- One element is laid over. -/
theorem own_store {n : Nat} {evs : List EV} (h : SlOwn w 34 5 (.slice (some ⟨g, o, none⟩) n cap) n (evs.flatMap ecl) (some g)) (hn : evs.length = n) {i : Nat} (hi : i < n) (p : EV) :
    SlOwn (((((w.setCell ⟨g, o + i * 5, none⟩ (.int .i64 p.1.k)).setCell ⟨g, o + i * 5 + 1, none⟩ (.int .i64 p.1.n)).setCell ⟨g, o + i * 5 + 2, none⟩ (.int .i64 p.1.t)).setCell ⟨g, o + i * 5 + 3, none⟩ p.2).setCell ⟨g, o + i * 5 + 4, none⟩ (.int .i64 p.1.c)) 34 5 (.slice (some ⟨g, o, none⟩) n cap) n ((evs.set i p).flatMap ecl) (some g) := by
  obtain ⟨hl, hx⟩ := h
  rcases hx with ⟨h, _⟩ | ⟨g', o', cap', cur, hb, hv, hg, hnc, hcm, hcs, htk⟩
  · cases h
  injection hb with hb
  subst hb
  injection hv with ha _ hcap
  injection ha with ha
  injection ha with _ ho _
  subst ho hcap
  have hh := heap_set (j := o + i * 5 + 4) (heap_set (j := o + i * 5 + 3) (heap_set (j := o + i * 5 + 2) (heap_set (j := o + i * 5 + 1) (heap_set (j := o + i * 5) hg (.int .i64 p.1.k)) (.int .i64 p.1.n)) (.int .i64 p.1.t)) p.2) (.int .i64 p.1.c)
  refine ⟨by rw [flat_len ecl_len, List.length_set, hn], .inr ⟨g, o, cap, _, rfl, rfl, hh, hnc, hcm, by simpa using hcs, ?_⟩⟩
  apply List.ext_getElem?
  intro j
  have hfl : (evs.flatMap ecl).length = n * 5 := hl
  rcases Nat.lt_or_ge j (n * 5) with hj | hj
  · rw [List.getElem?_take_of_lt hj, List.getElem?_drop, Array.getElem?_toList]
    have hdj : j = j / 5 * 5 + j % 5 := by omega
    have hr : j % 5 < 5 := by omega
    have hq : j / 5 < n := by omega
    have hold : cur[o + j]? = (evs.flatMap ecl)[j]? := by
      rw [← htk, List.getElem?_take_of_lt hj, List.getElem?_drop, Array.getElem?_toList]
    have hset : ((evs.set i p).flatMap ecl)[j]? = (ecl ((evs.set i p)[j / 5]'(by simp; omega)))[j % 5]? := by
      conv => lhs; rw [hdj]
      exact flat_at ecl_len _ _ _ (by simp; omega) hr
    have hsz : ∀ k, k < 5 → o + i * 5 + k < cur.size := fun k hk => by
      have : i * 5 + 5 ≤ n * 5 := by omega
      have : n * 5 ≤ cap * 5 := by omega
      omega
    rw [hset, List.getElem_set]
    by_cases e : i = j / 5
    · rw [if_pos e]
      have hjj : o + j = o + i * 5 + j % 5 := by omega
      rw [hjj]
      have h0 := hsz 0 (by omega)
      have h1 := hsz 1 (by omega)
      have h2 := hsz 2 (by omega)
      have h3 := hsz 3 (by omega)
      have h4 := hsz 4 (by omega)
      rcases (by omega : j % 5 = 0 ∨ j % 5 = 1 ∨ j % 5 = 2 ∨ j % 5 = 3 ∨ j % 5 = 4) with hm | hm | hm | hm | hm <;> rw [hm] <;> simp only [Nat.add_zero] at * <;>
        simp [ecl, h0, h1, h2, h3, h4]
    · rw [if_neg e]
      have hne : ∀ k, k < 5 → o + i * 5 + k ≠ o + j := fun k hk => by omega
      have n0 : ¬ o + i * 5 = o + j := hne 0 (by omega)
      have n1 : ¬ o + i * 5 + 1 = o + j := hne 1 (by omega)
      have n2 : ¬ o + i * 5 + 2 = o + j := hne 2 (by omega)
      have n3 : ¬ o + i * 5 + 3 = o + j := hne 3 (by omega)
      have n4 : ¬ o + i * 5 + 4 = o + j := hne 4 (by omega)
      simp only [Array.getElem?_setIfInBounds, n0, n1, n2, n3, n4, if_false]
      rw [hold]
      conv => lhs; rw [hdj]
      exact flat_at ecl_len _ _ _ (by omega) hr
  · rw [List.getElem?_take_eq_none hj, List.getElem?_eq_none]
    rw [flat_len ecl_len, List.length_set, hn]
    exact hj
end

end Go.Proofs.Ytdnkfgnjeibjeaa

namespace Go.Proofs.Ytdnkfgnjeibjeaa
open Go.RowKit

def EV.pl (p : EV) : Bool := !barE p.1

/-- While DeleteFunc goes on: the block g, i elements kept, j looked at. -/
structure DelSt (w wr : World) (D : Nat → Prop) (g o cap : Nat) (evs cur : List EV) (i j : Nat) : Prop where
  own : SlOwn wr 34 5 (.slice (some ⟨g, o, none⟩) evs.length cap) evs.length (cur.flatMap ecl) (some g)
  len : cur.length = evs.length
  ij : i < j
  je : j ≤ evs.length
  take : cur.take i = (evs.take j).filter EV.pl
  drop : cur.drop j = evs.drop j
  only : Only (fun b => b = g) w wr
  rows : ∀ p ∈ evs, RowAt wr D p.2 p.1.row

theorem DelSt.next {w wr w' : World} {D : Nat → Prop} {g o cap : Nat} {evs cur : List EV} {i j : Nat} (h : DelSt w wr D g o cap evs cur i j) (hb : Below wr.heap.size wr w') : DelSt w w' D g o cap evs cur i j :=
  ⟨h.own.keep fun b hb' => hb.block b (by injection hb' with e; subst e; exact h.own.blk_lt), h.len, h.ij, h.je, h.take, h.drop, h.only.trans (Only.of_below hb) (fun _ _ h => h), fun p hp => (h.rows p hp).below hb⟩

theorem DelSt.start {w w1 : World} {D : Nat → Prop} {g o cap k : Nat} {evs : List EV} (h : EvsAt w D (.slice (some ⟨g, o, none⟩) evs.length cap) evs (some g)) (hk : k < evs.length) (hb : barE evs[k].1 = true) (hc : ∀ j (h : j < evs.length), j < k → barE evs[j].1 = false) (hbl : Below w.heap.size w w1) :
    DelSt w w1 D g o cap evs evs k (k + 1) := by
  refine ⟨(h.below hbl).own, rfl, by omega, by omega, ?_, rfl, Only.of_below hbl, (h.below hbl).rows⟩
  rw [List.take_succ_eq_append_getElem hk, List.filter_append]
  have e1 : (evs.take k).filter EV.pl = evs.take k := by
    rw [List.filter_eq_self]
    intro p hp
    obtain ⟨j, hj, rfl⟩ := List.mem_iff_getElem.1 hp
    have hj' : j < k := by simp at hj; omega
    rw [List.getElem_take]
    simp [EV.pl, hc j (by omega) hj']
  have e2 : [evs[k]].filter EV.pl = [] := by simp [EV.pl, hb]
  rw [e1, e2, List.append_nil]

theorem DelSt.at {w wr : World} {D : Nat → Prop} {g o cap : Nat} {evs cur : List EV} {i j : Nat} (h : DelSt w wr D g o cap evs cur i j) {m : Nat} (hm : m < evs.length) :
    wr.cell? ⟨g, o + m * 5, none⟩ = some (.int .i64 (cur[m]'(by rw [h.len]; exact hm)).1.k) ∧ wr.cell? ⟨g, o + m * 5 + 1, none⟩ = some (.int .i64 (cur[m]'(by rw [h.len]; exact hm)).1.n) ∧ wr.cell? ⟨g, o + m * 5 + 2, none⟩ = some (.int .i64 (cur[m]'(by rw [h.len]; exact hm)).1.t) ∧
    wr.cell? ⟨g, o + m * 5 + 3, none⟩ = some (cur[m]'(by rw [h.len]; exact hm)).2 ∧ wr.cell? ⟨g, o + m * 5 + 4, none⟩ = some (.int .i64 (cur[m]'(by rw [h.len]; exact hm)).1.c) := by
  have hm' : m < cur.length := by rw [h.len]; exact hm
  have key : ∀ r u, r < 5 → (ecl cur[m])[r]? = some u → wr.cell? ⟨g, o + (m * 5 + r), none⟩ = some u := fun r u hr hu => h.own.cell _ u (by rw [flat_at ecl_len cur m r hm' hr]; exact hu)
  exact ⟨key 0 _ (by omega) rfl, key 1 _ (by omega) rfl, key 2 _ (by omega) rfl, key 3 _ (by omega) rfl, key 4 _ (by omega) rfl⟩

theorem DelSt.fr {w wr : World} {D : Nat → Prop} {g o cap : Nat} {evs cur : List EV} {i j : Nat} (h : DelSt w wr D g o cap evs cur i j) : ∀ o, wr.frozen? ⟨g, o, none⟩ = false := by
  rcases h.own.2 with ⟨h, _⟩ | ⟨g', o', cap', c, hb, _, hg, _⟩
  · cases h
  · injection hb with hb
    subst hb
    exact blk_frozen hg

theorem DelSt.cur_eq {w wr : World} {D : Nat → Prop} {g o cap : Nat} {evs cur : List EV} {i j : Nat} (h : DelSt w wr D g o cap evs cur i j) (hj : j < evs.length) : cur[j]'(by rw [h.len]; exact hj) = evs[j] := by
  have := congrArg (fun l => l[0]?) h.drop
  simp only [List.getElem?_drop, Nat.add_zero] at this
  rw [List.getElem?_eq_getElem (by rw [h.len]; exact hj), List.getElem?_eq_getElem hj] at this
  injection this

theorem DelSt.skip {w wr : World} {D : Nat → Prop} {g o cap : Nat} {evs cur : List EV} {i j : Nat} (h : DelSt w wr D g o cap evs cur i j) (hj : j < evs.length) (hb : barE evs[j].1 = true) : DelSt w wr D g o cap evs cur i (j + 1) := by
  refine ⟨h.own, h.len, by have := h.ij; omega, by omega, ?_, ?_, h.only, h.rows⟩
  · rw [List.take_succ_eq_append_getElem hj, List.filter_append, h.take]
    simp [EV.pl, hb]
  · have e := h.drop
    rw [← List.drop_drop, ← List.drop_drop, e]

theorem DelSt.put {w wr : World} {D : Nat → Prop} {g o cap : Nat} {evs cur : List EV} {i j : Nat} (h : DelSt w wr D g o cap evs cur i j) (hD : ∀ b, D b → some g ≠ some b) (hj : j < evs.length) (hb : barE evs[j].1 = false) :
    DelSt w (((((wr.setCell ⟨g, o + i * 5, none⟩ (.int .i64 evs[j].1.k)).setCell ⟨g, o + i * 5 + 1, none⟩ (.int .i64 evs[j].1.n)).setCell ⟨g, o + i * 5 + 2, none⟩ (.int .i64 evs[j].1.t)).setCell ⟨g, o + i * 5 + 3, none⟩ evs[j].2).setCell ⟨g, o + i * 5 + 4, none⟩ (.int .i64 evs[j].1.c))
      D g o cap evs (cur.set i evs[j]) (i + 1) (j + 1) := by
  have hij := h.ij
  have hl := h.len
  refine ⟨own_store h.own h.len (by omega) _, by rw [List.length_set, hl], by omega, by omega, ?_, ?_, ?_, fun p hp => ?_⟩
  · rw [List.take_succ_eq_append_getElem hj, List.filter_append, ← h.take, List.take_succ_eq_append_getElem (by rw [List.length_set]; omega), List.getElem_set_self, List.take_set_of_le (Nat.le_refl _)]
    simp [EV.pl, hb]
  · rw [List.drop_set_of_lt (by omega)]
    have e := h.drop
    rw [← List.drop_drop, ← List.drop_drop, e]
  · exact ((((h.only.setCell (fun _ => rfl) _).setCell (fun _ => rfl) _).setCell (fun _ => rfl) _).setCell (fun _ => rfl) _).setCell (fun _ => rfl) _
  · have hne : ∀ b, D b → b ≠ g := fun b hb e => hD b hb (by rw [e])
    refine (h.rows p hp).keep fun b hb _ => ?_
    rw [heap_set_ne _ (hne b hb), heap_set_ne _ (hne b hb), heap_set_ne _ (hne b hb), heap_set_ne _ (hne b hb), heap_set_ne _ (hne b hb)]

theorem flat_take {α : Type} {f : α → List Value} {s : Nat} (hf : ∀ x, (f x).length = s) (l : List α) (i : Nat) : (l.flatMap f).take (i * s) = (l.take i).flatMap f := by
  induction l generalizing i with
  | nil => simp
  | cons x l ih =>
    cases i with
    | zero => simp
    | succ i =>
      have e : (i + 1) * s = (f x).length + i * s := by rw [hf, Nat.add_mul]; omega
      rw [List.flatMap_cons, e, List.take_length_add_append, ih, List.take_succ_cons, List.flatMap_cons]

theorem DelSt.done {w wr w2 : World} {D : Nat → Prop} {g o cap : Nat} {evs cur : List EV} {i : Nat} {cc c2 : Array Value} (h : DelSt w wr D g o cap evs cur i evs.length) (hD : ∀ b, D b → some g ≠ some b) (hsm : evs.length ≤ 1000000)
    (hnc : evs.length ≤ cap) (hcm : cap ≤ 2 ^ 63 - 1) (hcs : o + cap * 5 ≤ cc.size) (htk : (cc.toList.drop o).take (evs.length * 5) = cur.flatMap ecl)
    (hg2 : w2.heap[g]? = some (.cells c2 34 (0, 0))) (hz2 : c2.size = cc.size) (ht2 : c2.toList.take (o + i * 5) = cc.toList.take (o + i * 5)) (hgr : wr.grownBy w2 (some g)) :
    EvsAt w2 D (.slice (some ⟨g, o, none⟩) i cap) (evs.filter EV.pl) (some g) ∧ Only (fun b => some g = some b) w w2 := by
  have hij := h.ij
  have ht := h.take
  rw [List.take_length] at ht
  have hlen : (evs.filter EV.pl).length = i := by rw [← ht, List.length_take, h.len]; omega
  have hon : Only (fun b => b = g) w w2 := h.only.grown hgr (fun k hk _ => by injection hk with hk; exact hk.symm)
  refine ⟨⟨⟨?_, .inr ⟨g, o, cap, c2, rfl, by rw [hlen], hg2, by omega, by simpa only [maxLen] using hcm, by omega, ?_⟩⟩, fun p hp => ?_, by omega⟩, ⟨hon.os, hon.tape, hon.output, hon.size, fun k hk hn => hon.block k hk (fun e => hn (by rw [e]))⟩⟩
  · rw [flat_len ecl_len]
  · rw [hlen, ← ht, ← flat_take ecl_len, ← htk, List.take_take]
    have e : min (i * 5) (evs.length * 5) = i * 5 := by omega
    have e2 : ∀ l : List Value, (l.drop o).take (i * 5) = (l.take (o + i * 5)).drop o := fun l => by rw [List.drop_take]; congr 1; omega
    rw [e, e2, e2, ht2]
  · refine (h.rows p (List.mem_filter.1 hp).1).keep fun b hb hl => hgr.block b hl (fun e => hD b hb (by injection e with e; rw [e]))

section leaves
set_option maxHeartbeats 1000000
set_option maxRecDepth 100000

theorem f79_any (w : World) (v : Value) (evs : List EV) (D : Nat → Prop) (g : Option Nat) (h : EvsAt w D v evs g) (hD : ∀ b, D b → g ≠ some b) :
    Calls Try.prog 79 #[v, .func (.func 81) #[] #[]] w fun e w' => ∃ v', e = .returned v' ∧ EvsAt w' D v' (evs.filter EV.pl) g ∧ Only (fun b => g = some b) w w' := by
  have hI := f83_81 w v (evs.map Prod.fst) (fun b => D b ∨ g = some b) (h.elems (fun b hb => .inl hb) (fun b hb => .inr hb))
  have HI := Lib.hid hI
  have H := Lib.hid h
  have HD := Lib.hid hD
  obtain ⟨va, vc, rfl⟩ := h.own.form
  clear hI hD
  rcases elemIdx_cases barE (evs.map Prod.fst) with ⟨hi, ha⟩ | ⟨k, hk, hi, hb, hc⟩
  · rw [hi] at HI
    have HA := Lib.hid ha
    clear ha h hi
    go_enter Try.func79, Try.ntmps79
    go_wp2_with (go_at_call 83; refine HI.out.mono ?_; rintro e w1 ⟨rfl, hb1⟩)
    go_ret
    refine ⟨_, rfl, ?_, Only.of_below hb1⟩
    have : evs.filter EV.pl = evs := by
      rw [List.filter_eq_self]
      intro p hp
      have := HA.out p.1 (List.mem_map_of_mem hp)
      simp [EV.pl, this]
    rw [this]
    exact H.out.below hb1
  · rw [hi] at HI
    have hk' : k < evs.length := by simpa using hk
    obtain ⟨gb, o, rfl, rfl⟩ : ∃ gb o, g = some gb ∧ va = some ⟨gb, o, none⟩ := by
      rcases h.own.2 with ⟨_, e0, _⟩ | ⟨gb, o, cap, cur, e1, e2, _⟩
      · omega
      · injection e2 with e2 _ _
        exact ⟨gb, o, e1, e2⟩
    have HB := Lib.hid hb
    have HC := Lib.hid hc
    have hsm := h.small
    clear h hi hb hc
    have hkm : ((k : Int) == -1) = false := by simp
    go_enter Try.func79, Try.ntmps79
    go_wp2_with (go_at_call 83; refine HI.out.mono ?_; rintro e w1 ⟨rfl, hb1⟩; have HB1 := Lib.hid hb1; clear hb1)
    go_loopw [5, 6] (fun si sj wr => ∃ (i j : Nat) (cur : List EV), si = .int .i64 i ∧ sj = .int .i64 j ∧ DelSt w wr D gb o vc evs cur i j) (fun _ sj _ => evs.length - (intOf sj).toNat)
    case atStart => exact ⟨k, k + 1, evs, rfl, by go_num, DelSt.start H.out hk' (by simpa using HB.out) (fun j hj hjk => by have := HC.out j (by simpa using hj) hjk; rwa [List.getElem_map] at this) HB1.out⟩
    case round =>
      obtain ⟨i, j, cur, rfl, rfl, hS⟩ := hrel
      have hij := hS.ij
      have hje := hS.je
      by_cases hlt : j < evs.length
      · have hcur := hS.cur_eq hlt
        obtain ⟨c0, c1, c2, c3, c4⟩ := hS.at hlt
        rw [hcur] at c0 c1 c2 c3 c4
        obtain ⟨ra, rn, rc, hrr⟩ := (hS.rows _ (List.getElem_mem hlt)).form'
        have hF := fun (W : World) (hW : Below wr.heap.size wr W) => f81_any evs[j].1 evs[j].2 W D ((hS.rows _ (List.getElem_mem hlt)).below hW)
        have hbx : ∀ W : World, Below wr.heap.size wr W → Below (wr.heap.size + 1) (wr.alloc (Obj.cells #[.int .i64 evs[j].1.k, .int .i64 evs[j].1.n, .int .i64 evs[j].1.t, evs[j].2, .int .i64 evs[j].1.c] 34)) W → W.heap[wr.heap.size]? = some (.cells #[.int .i64 evs[j].1.k, .int .i64 evs[j].1.n, .int .i64 evs[j].1.t, evs[j].2, .int .i64 evs[j].1.c] 34 (0, 0)) :=
          fun W _ hW => (hW.block _ (by omega)).trans (World.alloc_heap_new _ _)
        rw [hrr] at c3
        simp only [hrr] at hF hbx
        have HF := Lib.hid hF
        have HS := Lib.hid hS
        have HBX := Lib.hid hbx
        have hgl : gb < wr.heap.size := cell_lt c0
        clear hF hcur hS hbx
        have HRR := Lib.hid hrr
        clear hrr
        have hb0 : Below wr.heap.size wr (wr.alloc (Obj.cells #[.int .i64 evs[j].1.k, .int .i64 evs[j].1.n, .int .i64 evs[j].1.t, .slice ra rn rc, .int .i64 evs[j].1.c] 34)) := (Below.refl _ _).alloc (Nat.le_refl _) _
        have HB0 := Lib.hid hb0
        clear hb0
        cases hbar : barE evs[j].1 <;> rw [hbar] at HF
        · have HBAR := Lib.hid hbar
          clear hbar
          go_wp2_with (
            go_at_call 81; refine (HF.out _ HB0.out).mono ?_; rintro e w2 ⟨rfl, hb2⟩
            have HS2 := Lib.hid (HS.out.next (HB0.out.trans (hb2.mono HB0.out.size)))
            have hb2' := hb2.mono (Nat.le_of_eq (World.size_alloc wr _).symm)
            obtain ⟨x0, x1, x2, x3, x4, xf⟩ := blk5 (HBX.out w2 (HB0.out.trans (hb2.mono HB0.out.size)) hb2')
            obtain ⟨d0, d1, d2, d3, d4⟩ := HS2.out.at (m := i) (by omega)
            have df := HS2.out.fr
            have hg2 : gb < w2.heap.size := cell_lt d0
            clear hb2 hb2' c0 c1 c2 c3 c4)
          go_roundw
          case rel =>
            refine ⟨i + 1, j + 1, cur.set i evs[j], by go_num, by go_num, ?_⟩
            have := HS2.out.put HD.out hlt HBAR.out
            rw [HRR.out] at this
            exact this
          case measure => simp [intOf]; omega
        · have HBAR := Lib.hid hbar
          clear hbar
          go_wp2_with (
            go_at_call 81; refine (HF.out _ HB0.out).mono ?_; rintro e w2 ⟨rfl, hb2⟩
            have HS2 := Lib.hid (HS.out.next (HB0.out.trans (hb2.mono HB0.out.size)))
            have hb2' := hb2.mono (Nat.le_of_eq (World.size_alloc wr _).symm)
            obtain ⟨x0, x1, x2, x3, x4, xf⟩ := blk5 (HBX.out w2 (HB0.out.trans (hb2.mono HB0.out.size)) hb2')
            clear hb2 hb2' c0 c1 c2 c3 c4)
          go_roundw
          case rel => exact ⟨i, j + 1, cur, rfl, by go_num, HS2.out.skip hlt HBAR.out⟩
          case measure => simp [intOf]; omega
      · have hjn : j = evs.length := by omega
        subst hjn
        have HS := Lib.hid hS
        obtain ⟨hsl, hxx⟩ := hS.own
        obtain ⟨cc, hgc, hnc, hcm, hcs, htk⟩ : ∃ cc, wr.heap[gb]? = some (.cells cc 34 (0, 0)) ∧ evs.length ≤ vc ∧ vc ≤ maxLen ∧ o + vc * 5 ≤ cc.size ∧ (cc.toList.drop o).take (evs.length * 5) = cur.flatMap ecl := by
          rcases hxx with ⟨h, _⟩ | ⟨g', o', cap', c, hb, hv, hg, h1, h2, h3, h4⟩
          · cases h
          · injection hb with hb
            subst hb
            injection hv with ha _ hcap
            injection ha with ha
            injection ha with _ ho _
            subst ho hcap
            exact ⟨c, hg, h1, h2, h3, h4⟩
        simp only [maxLen] at hcm
        have HG := Lib.hid hgc
        have HT := Lib.hid htk
        clear hS hsl hxx hgc htk
        have hz34 : ∀ w, (zeroValue 34).run Try.prog w = .ok (.agg #[.int .i64 0, .int .i64 0, .int .i64 0, .slice none 0 0, .int .i64 0]) w := fun w => by kernel_rfl
        have HZ := Lib.hid hz34
        clear hz34
        go_wp2_with (with_reducible refine wpList_clear_S rfl (.tmp 38) 49 rfl 34 _ 5 Try.underlying49 HZ.out rfl (by decide) gb (o + i * 5) (evs.length - i) (vc - i) rfl (by omega) _ HG.out (by omega) ?_; intro w2 c2 hg2 hz2 ht2 hgr2)
        go_ret
        exact ⟨_, rfl, HS.out.done HD.out hsm hnc hcm hcs HT.out hg2 hz2 ht2 hgr2⟩

/-- What 'plain' gives. -/
theorem f60_any (w : World) (v : Value) (l : List Elem) (D : Nat → Prop) (h : ElemsAt w D v l) (hD : ∀ b, D b → b < w.heap.size) (hsm : l.length ≤ 1000000) :
    Calls Try.prog 60 #[v] w fun e w' => ∃ v', e = .returned v' ∧ ElemsAt w' (fun _ => True) v' (l.filter fun e => !barE e) ∧ Below w.heap.size w w' := by
  obtain ⟨evs, rfl, hs, hr⟩ := h.src
  have hC := f80_any w v evs D hs hr (by simpa using hsm)
  have HC := Lib.hid hC
  have HD := Lib.hid hD
  have e1 : (evs.map Prod.fst).filter (fun e => !barE e) = (evs.filter EV.pl).map Prod.fst := by
    rw [List.filter_map]; rfl
  have E1 := Lib.hid e1
  clear hC h hs hr hD e1
  go_enter Try.func60, Try.ntmps60
  go_wp2_with (first
    | (go_at_call 80; refine HC.out.mono ?_; rintro e w1 ⟨v1, blk, rfl, hv1, hb1, hbl1⟩; have HV1 := Lib.hid hv1; have HB1 := Lib.hid hb1; have HW1 := Lib.hid hbl1; clear hv1 hb1 hbl1)
    | (go_at_call 79; refine (f79_any _ _ evs D blk HV1.out (fun b hb e => by have := HB1.out b e; have := HD.out b hb; omega)).mono ?_; rintro e w2 ⟨v2, rfl, hv2, ho2⟩))
  go_ret
  refine ⟨_, rfl, ?_, HW1.out.trans (ho2.below HW1.out.size (fun x hx => HB1.out x hx))⟩
  rw [E1.out]
  exact hv2.elems (fun _ _ => trivial) (fun _ _ => trivial)
end leaves

end Go.Proofs.Ytdnkfgnjeibjeaa

namespace Go.Proofs.Ytdnkfgnjeibjeaa
open Go.RowKit

def eqVal (a b : Val) : Bool := a.k == b.k && a.n == b.n && a.s.toList == b.s.toList

def eqRow : List Val → List Val → Bool
  | [], [] => true
  | x :: xs, y :: ys => eqVal x y && eqRow xs ys
  | _, _ => false

theorem eqRow_len {a b : List Val} (h : a.length ≠ b.length) : eqRow a b = false := by
  induction a generalizing b with
  | nil => cases b with | nil => simp at h | cons y ys => rfl
  | cons x xs ih => cases b with | nil => rfl | cons y ys => simp only [eqRow, ih (b := ys) (by simpa using h), Bool.and_false]

theorem eqRow_step {a b : List Val} {k : Nat} (ha : k < a.length) (hb : k < b.length) : eqRow (a.drop k) (b.drop k) = (eqVal a[k] b[k] && eqRow (a.drop (k + 1)) (b.drop (k + 1))) := by
  rw [drop_cons ha, drop_cons hb, eqRow]

section leaves
set_option maxHeartbeats 400000
set_option maxRecDepth 100000

theorem eq112 (w : World) (a b : Val) : (Op.equalIn 10000 112 a.v b.v).run Try.prog w = .ok (eqVal a b) w := by
  have u3 := Try.underlying3
  have u9 := Try.underlying9
  have a3 := Try.isAgg3
  have a9 := Try.isAgg9
  have z3 := Try.sizeOf3
  have z9 := Try.sizeOf9
  have hS : Try.prog.underlying 112 = some (.struct (Try.prog.fieldsOf 112)) := by kernel_rfl
  have hp : Try.prog.stoodInHeld 112 = false := by kernel_rfl
  simp only [Val.v]
  rw [show (10000 : Nat) = 9999 + 1 from rfl, run_equalIn_agg w 9999 112 _ _ hS hp]
  simp only [Program.fieldsOf, Try.underlying112]
  go_simp
  simp only [eqVal]
  by_cases h1 : a.k = b.k <;> by_cases h2 : a.n = b.n <;> by_cases h3 : a.s.toList = b.s.toList <;> simp [h1, h2, h3]

theorem f82_any (w : World) (r1 r2 : Value) (a b : List Val) (D1 D2 : Nat → Prop) (h1 : RowAt w D1 r1 a) (h2 : RowAt w D2 r2 b) :
    Calls Try.prog 82 #[r1, r2] w fun e w' => e = .returned (.bool (eqRow a b)) ∧ Below w.heap.size w w' := by
  obtain ⟨p1, cap1, rfl, hl1, hx1⟩ := h1
  obtain ⟨p2, cap2, rfl, hl2, hx2⟩ := h2
  cases hlen : (a.length != b.length)
  · have hlen' : a.length = b.length := by simpa using hlen
    have hlen2 : ((a.length : Int) != (b.length : Int)) = false := by simp [hlen']
    have HL := Lib.hid hlen'
    clear hlen'
    go_enter Try.func82, Try.ntmps82
    go_wp2
    go_loopw [13] (fun i wr => ∃ k : Nat, k ≤ a.length ∧ i = .int .i64 k ∧ eqRow (a.drop k) (b.drop k) = eqRow a b ∧ Below w.heap.size w wr) (fun i _ => a.length - (intOf i).toNat)
    case atStart => exact ⟨0, by omega, rfl, rfl, Below.refl _ _⟩
    case round =>
      obtain ⟨k, hk, rfl, hv, hb⟩ := hrel
      have HV := Lib.hid hv
      clear hv
      by_cases hlt : k < a.length
      · have hlt' : k < b.length := by have := HL.out; omega
        rcases hx1 with rfl | ⟨b1, o1, rfl, hD1, hc1⟩
        · simp at hlt
        rcases hx2 with rfl | ⟨b2, o2, rfl, hD2, hc2⟩
        · simp at hlt'
        obtain ⟨x0, x1, x2⟩ := hc1 k hlt
        obtain ⟨y0, y1, y2⟩ := hc2 k hlt'
        have hbx : b1 < w.heap.size := cell_lt x0
        have hby : b2 < w.heap.size := cell_lt y0
        rw [← hb.cell (p := ⟨b1, _, none⟩) hbx] at x0 x1 x2
        rw [← hb.cell (p := ⟨b2, _, none⟩) hby] at y0 y1 y2
        have hbx' : b1 < wr.heap.size := Nat.lt_of_lt_of_le hbx hb.size
        have hby' : b2 < wr.heap.size := Nat.lt_of_lt_of_le hby hb.size
        have HB := Lib.hid hb
        clear hb hc1 hc2 hbx hby
        have g1 : (0 : Int) ≤ (k : Int) := by omega
        have g2 : (k : Int) < (a.length : Int) := by omega
        have g3 : (k : Int) < (b.length : Int) := by omega
        have hst := eqRow_step hlt hlt'
        have HS := Lib.hid hst
        clear hst
        go_wp2_with fail
        have hcl := fun d os b' o' h => (below_regrown wr d os).cell (p := ⟨b', o', none⟩) h
        refine wp_region_quiet_below (by kernel_rfl) (by kernel_rfl) ?_
        repeat (quiet_step (fail))
        refine wpQuiet_step (fun K hK => ?_)
        go_simp
        refine ⟨.bool !(eqVal a[k] b[k]), fun p => ?_, hK _ ?_⟩
        · by_cases h1 : a[k].k = b[k].k <;> by_cases h2 : a[k].n = b[k].n <;> by_cases h3 : a[k].s.toList = b[k].s.toList <;> simp [h1, h2, h3, eqVal]
        clear hK K
        refine wpQuiet_nil ?_
        intro wq hw'
        have hq := below_of_class hw'
        clear hw' hcl
        have hbb := below_then HB.out hq
        cases hev : eqVal a[k] b[k]
        · go_wp2_with fail
          go_ret
          exact ⟨ret_bool (by rw [← HV.out, HS.out, hev, Bool.false_and]), hbb⟩
        · go_wp2_with fail
          go_roundw
          case rel => exact ⟨k + 1, by omega, by go_num, by rw [← HV.out, HS.out, hev, Bool.true_and], hbb⟩
          case measure => simp [intOf]; omega
      · have he : eqRow (a.drop k) (b.drop k) = true := by rw [List.drop_of_length_le (by omega), List.drop_of_length_le (by have := HL.out; omega)]; rfl
        rw [HV.out] at he
        have HE := Lib.hid he
        clear he
        go_wp2
        go_ret
        exact ⟨ret_bool HE.out.symm, hb⟩
  · have hlen2 : ((a.length : Int) != (b.length : Int)) = true := by simp at hlen ⊢; omega
    have hs := eqRow_len (a := a) (b := b) (by simpa using hlen)
    have HS := Lib.hid hs
    clear hs
    go_enter Try.func82, Try.ntmps82
    go_wp2
    go_ret
    exact ⟨ret_bool HS.out.symm, Below.refl _ _⟩

/-- The program's 'same'. -/
def sameP (x y : Elem) : Bool := x.k == y.k && x.n == y.n && x.t == y.t && x.c == y.c && eqRow x.row y.row

theorem f61_any (w : World) (x y : Elem) (r1 r2 : Value) (D1 D2 : Nat → Prop) (h1 : RowAt w D1 r1 x.row) (h2 : RowAt w D2 r2 y.row) :
    Calls Try.prog 61 #[ev x r1, ev y r2] w fun e w' => e = .returned (.bool (sameP x y)) ∧ Below w.heap.size w w' := by
  have hR := fun (W : World) (h : Below w.heap.size w W) => f82_any W r1 r2 x.row y.row D1 D2 (RowAt.below h1 h) (RowAt.below h2 h)
  obtain ⟨p1, cap1, rfl, hl1, hx1⟩ := h1
  obtain ⟨p2, cap2, rfl, hl2, hx2⟩ := h2
  clear hx1 hx2
  have HR := Lib.hid hR
  clear hR
  have hb2 : ∀ o1 o2, Below w.heap.size w ((w.alloc o1).alloc o2) := fun o1 o2 => ((Below.refl _ _).alloc (Nat.le_refl _) _).alloc (by simp) _
  have HB2 := Lib.hid hb2
  clear hb2
  cases e1 : (x.k == y.k)
  · go_enter Try.func61, Try.ntmps61
    go_wp2_with fail
    go_ret
    exact ⟨ret_bool (by simp [sameP, e1]), HB2.out _ _⟩
  cases e2 : (x.n == y.n)
  · go_enter Try.func61, Try.ntmps61
    go_wp2_with fail
    go_ret
    exact ⟨ret_bool (by simp [sameP, e2]), HB2.out _ _⟩
  cases e3 : (x.t == y.t)
  · go_enter Try.func61, Try.ntmps61
    go_wp2_with fail
    go_ret
    exact ⟨ret_bool (by simp [sameP, e3]), HB2.out _ _⟩
  cases e4 : (x.c == y.c)
  · go_enter Try.func61, Try.ntmps61
    go_wp2_with fail
    go_ret
    exact ⟨ret_bool (by simp [sameP, e4]), HB2.out _ _⟩
  go_enter Try.func61, Try.ntmps61
  go_wp2_with (go_at_call 82; refine (HR.out _ (HB2.out _ _)).mono ?_; rintro e w' ⟨rfl, hb⟩; obtain ⟨hc, hf⟩ := bcell hb)
  go_ret
  exact ⟨ret_bool (by simp [sameP, e1, e2, e3, e4]), below_then (HB2.out _ _) hb⟩
end leaves

end Go.Proofs.Ytdnkfgnjeibjeaa

namespace Go.Proofs.Ytdnkfgnjeibjeaa
open Go.RowKit

def samePs : List Elem → List Elem → Bool
  | [], [] => true
  | x :: xs, y :: ys => sameP x y && samePs xs ys
  | _, _ => false

theorem samePs_len {a b : List Elem} (h : a.length ≠ b.length) : samePs a b = false := by
  induction a generalizing b with
  | nil => cases b with | nil => simp at h | cons y ys => rfl
  | cons x xs ih => cases b with | nil => rfl | cons y ys => simp only [samePs, ih (b := ys) (by simpa using h), Bool.and_false]

theorem samePs_step {a b : List Elem} {k : Nat} (ha : k < a.length) (hb : k < b.length) : samePs (a.drop k) (b.drop k) = (sameP a[k] b[k] && samePs (a.drop (k + 1)) (b.drop (k + 1))) := by
  rw [drop_cons ha, drop_cons hb, samePs]

/-- The cells of an element, in the walk's own spelling. -/
theorem ElemsAt.at {w : World} {D : Nat → Prop} {a : Option Addr} {cap : Nat} {l : List Elem} (h : ElemsAt w D (.slice a l.length cap) l) {k : Nat} (hk : k < l.length) :
    ∃ b off ra rn rc, a = some ⟨b, off, none⟩ ∧ D b ∧ b < w.heap.size ∧ w.cell? ⟨b, off + k * 5, none⟩ = some (.int .i64 l[k].k) ∧ w.cell? ⟨b, off + k * 5 + 1, none⟩ = some (.int .i64 l[k].n) ∧ w.cell? ⟨b, off + k * 5 + 2, none⟩ = some (.int .i64 l[k].t) ∧
      w.cell? ⟨b, off + k * 5 + 3, none⟩ = some (.slice ra rn rc) ∧ w.cell? ⟨b, off + k * 5 + 4, none⟩ = some (.int .i64 l[k].c) ∧ RowAt w D (.slice ra rn rc) l[k].row := by
  obtain ⟨a', cap', hv, hl, hx⟩ := h
  injection hv with hv _ _
  subst hv
  obtain ⟨b, off, rfl, hD, hc⟩ := hx.resolve_left (fun e => by rw [e] at hk; simp at hk)
  obtain ⟨r, h0, h1, h2, h3, h4, hr⟩ := hc k hk
  obtain ⟨ra, rn, rc, rfl⟩ := hr.form'
  exact ⟨b, off, ra, rn, rc, rfl, hD, cell_lt h0, h0, h1, h2, h3, h4, hr⟩

theorem ElemsAt.form {w : World} {D : Nat → Prop} {v : Value} {l : List Elem} (h : ElemsAt w D v l) : ∃ a c, v = .slice a l.length c ∧ l.length ≤ 9223372036854775807 := by
  obtain ⟨a, cap, rfl, hl, _⟩ := h
  exact ⟨a, cap, rfl, hl⟩

section leaves
set_option maxHeartbeats 1000000
set_option maxRecDepth 100000

theorem f59_any (w : World) (v1 v2 : Value) (a b : List Elem) (D1 D2 : Nat → Prop) (h1 : ElemsAt w D1 v1 a) (h2 : ElemsAt w D2 v2 b) :
    Calls Try.prog 59 #[v1, v2, .func (.func 61) #[] #[]] w fun e w' => e = .returned (.bool (samePs a b)) ∧ Below w.heap.size w w' := by
  have H1 := Lib.hid h1
  have H2 := Lib.hid h2
  obtain ⟨p1, cap1, rfl, hl1⟩ := h1.form
  obtain ⟨p2, cap2, rfl, hl2⟩ := h2.form
  clear h1 h2
  cases hlen : (a.length != b.length)
  · have hlen' : a.length = b.length := by simpa using hlen
    have hlen2 : ((a.length : Int) != (b.length : Int)) = false := by simp [hlen']
    have HL := Lib.hid hlen'
    clear hlen'
    go_enter Try.func59, Try.ntmps59
    go_wp2
    go_loopw [17] (fun i wr => ∃ k : Nat, k ≤ a.length ∧ i = .int .i64 k ∧ samePs (a.drop k) (b.drop k) = samePs a b ∧ Below w.heap.size w wr) (fun i _ => a.length - (intOf i).toNat)
    case atStart => exact ⟨0, by omega, rfl, rfl, Below.refl _ _⟩
    case round =>
      obtain ⟨k, hk, rfl, hv, hb⟩ := hrel
      have HV := Lib.hid hv
      clear hv
      by_cases hlt : k < a.length
      · have hlt' : k < b.length := by have := HL.out; omega
        obtain ⟨b1, o1, ra1, rn1, rc1, rfl, hD1, hbx, x0, x1, x2, x3, x4, xr⟩ := (H1.out.below hb).at hlt
        obtain ⟨b2, o2, ra2, rn2, rc2, rfl, hD2, hby, y0, y1, y2, y3, y4, yr⟩ := (H2.out.below hb).at hlt'
        have hA := fun o1 o2 => f61_any ((wr.alloc o1).alloc o2) a[k] b[k] _ _ D1 D2 (xr.below (((Below.refl _ _).alloc (Nat.le_refl _) o1).alloc (by simp) o2)) (yr.below (((Below.refl _ _).alloc (Nat.le_refl _) o1).alloc (by simp) o2))
        have HA := Lib.hid hA
        clear hA xr yr
        have HB := Lib.hid hb
        clear hb
        have hst := samePs_step hlt hlt'
        have HS := Lib.hid hst
        clear hst
        cases hsm : sameP a[k] b[k] <;> rw [hsm] at HA
        · have HSM := Lib.hid hsm
          clear hsm
          go_wp2_with (go_at_call 61; refine (HA.out _ _).mono ?_; rintro e w2 ⟨rfl, hb2⟩; have HB2 := Lib.hid (HB.out.trans ((below_box2 hb2).mono HB.out.size)); clear hb2)
          go_ret
          exact ⟨ret_bool (by rw [← HV.out, HS.out, HSM.out, Bool.false_and]), HB2.out⟩
        · have HSM := Lib.hid hsm
          clear hsm
          go_wp2_with (go_at_call 61; refine (HA.out _ _).mono ?_; rintro e w2 ⟨rfl, hb2⟩; have HB2 := Lib.hid (HB.out.trans ((below_box2 hb2).mono HB.out.size)); clear hb2)
          go_roundw
          case rel => exact ⟨k + 1, by omega, by go_num, by rw [← HV.out, HS.out, HSM.out, Bool.true_and], HB2.out⟩
          case measure => simp [intOf]; omega
      · have he : samePs (a.drop k) (b.drop k) = true := by rw [List.drop_of_length_le (by omega), List.drop_of_length_le (by have := HL.out; omega)]; rfl
        rw [HV.out] at he
        have HE := Lib.hid he
        clear he
        go_wp2
        go_ret
        exact ⟨ret_bool HE.out.symm, hb⟩
  · have hlen2 : ((a.length : Int) != (b.length : Int)) = true := by simp at hlen ⊢; omega
    have hs := samePs_len (a := a) (b := b) (by simpa using hlen)
    have HS := Lib.hid hs
    clear hs
    go_enter Try.func59, Try.ntmps59
    go_wp2
    go_ret
    exact ⟨ret_bool HS.out.symm, Below.refl _ _⟩

/-- While 'unbarred' collects. -/
structure UnbSt (w wr : World) (D : Nat → Prop) (v : Value) (evs : List EV) (blk : Option Nat) : Prop where
  at_ : EvsAt wr D v evs blk
  new : ∀ g, blk = some g → w.heap.size ≤ g
  below : Below w.heap.size w wr

theorem UnbSt.add {w wr w' : World} {D : Nat → Prop} {v v' : Value} {evs : List EV} {blk blk' : Option Nat} {p : EV} {o : Obj} (h : UnbSt w wr D v evs blk) (hD : ∀ b, D b → b < w.heap.size) (hp : RowAt wr D p.2 p.1.row) (hl : evs.length + 1 ≤ 1000000)
    (hs : SlOwn w' 34 5 v' (evs.length + 1) (evs.flatMap ecl ++ ecl p) blk') (hg : (wr.alloc o).grownBy w' blk) (hat : blk' = blk ∨ blk' = some (wr.alloc o).heap.size) : UnbSt w w' D v' (evs ++ [p]) blk' := by
  have hsz := h.below.size
  have hb : Below w.heap.size w w' := (h.below.alloc hsz o).grown hg (by simp; omega) (fun q hq => h.new q hq)
  have hk : ∀ b, D b → b < wr.heap.size → w'.heap[b]? = wr.heap[b]? := fun b hb' _ => (hb.block b (hD b hb')).trans (h.below.block b (hD b hb')).symm
  refine ⟨⟨by simpa using hs, fun q hq => ?_, by simpa using hl⟩, fun g hg' => ?_, hb⟩
  · rcases List.mem_append.1 hq with hq | hq
    · exact (h.at_.rows q hq).keep hk
    · rw [List.mem_singleton] at hq
      subst hq
      exact hp.keep hk
  · rcases hat with e | e
    · exact h.new g (e ▸ hg')
    · rw [hg'] at e; injection e with e
      simp at e; omega

theorem f65_any (w : World) (v : Value) (l : List Elem) (D : Nat → Prop) (h : ElemsAt w D v l) (hD : ∀ b, D b → b < w.heap.size) (hsm : l.length ≤ 1000000) :
    Calls Try.prog 65 #[v] w fun e w' => ∃ v', e = .returned v' ∧ ElemsAt w' (fun _ => True) v' (l.filter fun e => !barE e) ∧ Below w.heap.size w w' := by
  have H := Lib.hid h
  obtain ⟨va, vc, rfl, hl⟩ := h.form
  have HD := Lib.hid hD
  obtain ⟨i0, hi0, hz0, hz1, hz2⟩ := info_parts info34
  clear h hD
  go_enter Try.func65, Try.ntmps65
  go_wp2
  go_loopw [3, 4] (fun s i wr => ∃ k : Nat, k ≤ l.length ∧ i = .int .i64 k ∧ ∃ evs blk, UnbSt w wr D s evs blk ∧ evs.map Prod.fst = (l.take k).filter fun e => !barE e) (fun _ i _ => l.length - (intOf i).toNat)
  case atStart => exact ⟨0, Nat.zero_le _, rfl, [], none, ⟨⟨SlOwn.nil _ _ _, (fun p hp => by cases hp), by simp⟩, (fun g hg => by cases hg), Below.refl _ _⟩, rfl⟩
  case round =>
    obtain ⟨k, hk, rfl, evs, blk, hS, hE⟩ := hrel
    obtain ⟨sa, sc, rfl⟩ := hS.at_.own.form
    have hle : evs.length ≤ k := by
      have := congrArg List.length hE
      rw [List.length_map] at this
      have h2 := List.length_filter_le (fun e => !barE e) (l.take k)
      rw [List.length_take] at h2
      omega
    have HE := Lib.hid hE
    have HS := Lib.hid hS
    have hb := hS.below
    clear hE hS
    by_cases hlt : k < l.length
    · obtain ⟨b, o, ra, rn, rc, rfl, hDb, hbx, x0, x1, x2, x3, x4, xr⟩ := (H.out.below hb).at hlt
      have hev : (l.take (k + 1)).filter (fun e => !barE e) = (l.take k).filter (fun e => !barE e) ++ if barE l[k] then [] else [l[k]] := by
        rw [List.take_succ_eq_append_getElem hlt, List.filter_append]
        cases hb : barE l[k] <;> simp [hb]
      have HEV := Lib.hid hev
      have HXR := Lib.hid xr
      clear hev hb xr
      cases hbar : (l[k].k == 3)
      · have hbar' : (l[k].k != 3) = true := by simp [bne, hbar]
        have hp1 : ∀ u ∈ ecl (l[k], Value.slice ra rn rc), u.oneCell' = true := by
          intro u hu
          simp only [ecl, List.mem_cons, List.not_mem_nil, or_false] at hu
          rcases hu with rfl | rfl | rfl | rfl | rfl <;> rfl
        have hs0 : SlOwn (wr.alloc (Obj.cells #[.int .i64 l[k].k, .int .i64 l[k].n, .int .i64 l[k].t, .slice ra rn rc, .int .i64 l[k].c] 34)) 34 5 (.slice sa evs.length sc) evs.length (evs.flatMap ecl) blk := HS.out.at_.own.keep fun g hg => Below.heap_alloc wr _ g (by have := HS.out.at_.own; rw [hg] at this; exact this.blk_lt)
        have hs1 : Src (wr.alloc (Obj.cells #[.int .i64 l[k].k, .int .i64 l[k].n, .int .i64 l[k].t, .slice ra rn rc, .int .i64 l[k].c] 34)) 5 (.slice (some ⟨wr.heap.size, 0, none⟩) 1 1) 1 (ecl (l[k], .slice ra rn rc)) := SlOwn.src (e := 34) (blk := some wr.heap.size) ⟨rfl, .inr ⟨_, 0, 1, _, rfl, rfl, World.alloc_heap_new wr _, Nat.le_refl _, by simp [maxLen], by simp, rfl⟩⟩
        have HP1 := Lib.hid hp1
        have HS0 := Lib.hid hs0
        have HS1 := Lib.hid hs1
        clear hp1 hs0 hs1
        go_wp2_with (at_builtin; refine wpList_append_S rfl (.tmp 17) (.tmp 22) 49 rfl 34 i0 _ 5 56 Try.underlying49 hi0 hz0 hz1 hz2 rfl (by omega) (.slice sa evs.length sc) evs.length (evs.flatMap ecl) blk rfl HS0.out (.slice (some ⟨wr.heap.size, 0, none⟩) 1 1) 1 (ecl (l[k], .slice ra rn rc)) rfl HS1.out HP1.out (by simp only [maxLen]; omega) (by omega) ?_; intro v1 w1 blk1 hown1 hgrow1 hat1; have HN := Lib.hid (HS.out.add (p := (l[k], .slice ra rn rc)) HD.out HXR.out (by omega) hown1 hgrow1 hat1); obtain ⟨sa1, sc1, rfl⟩ := hown1.form; clear hown1 hgrow1 hat1)
        go_roundw
        case rel => exact ⟨k + 1, by omega, by go_num, _, _, HN.out, by rw [HEV.out, List.map_append, HE.out]; simp [barE, hbar]⟩
        case measure => simp [intOf]; omega
      · have hbar' : (l[k].k != 3) = false := by simp [bne, hbar]
        go_wp2
        go_roundw
        case rel => exact ⟨k + 1, by omega, by go_num, _, _, HS.out, by rw [HEV.out, HE.out]; simp [barE, hbar]⟩
        case measure => simp [intOf]; omega
    · have hkl : k = l.length := by omega
      subst hkl
      go_wp2
      go_ret
      refine ⟨_, rfl, ?_, hb⟩
      have h1 := HE.out
      rw [List.take_length] at h1
      rw [← h1]
      exact HS.out.at_.elems (fun _ _ => trivial) (fun _ _ => trivial)
end leaves

end Go.Proofs.Ytdnkfgnjeibjeaa

namespace Go.Proofs.Ytdnkfgnjeibjeaa
open Go.RowKit

/-- A slice's length is within its capacity. -/
def CapOk (u : Value) : Prop := ∀ a n c, u = .slice a n c → n ≤ c

theorem SlOwn.cap {w : World} {e : TypeId} {size : Nat} {v : Value} {n : Nat} {xs : List Value} {blk : Option Nat} (h : SlOwn w e size v n xs blk) : CapOk v := by
  intro a m c hv
  rcases h.2 with ⟨rfl, rfl, _⟩ | ⟨g, o, cap, cur, _, rfl, _, hnc, _⟩
  · injection hv with _ h1 h2; omega
  · injection hv with _ h1 h2; omega

/-- A list of lists of elements. -/
def ListsAt (w : World) (D : Nat → Prop) (v : Value) (ll : List (List Elem)) : Prop :=
  ∃ a cap, v = .slice a ll.length cap ∧ ll.length ≤ 9223372036854775807 ∧ (ll = [] ∨ ∃ b off, a = some ⟨b, off, none⟩ ∧ D b ∧ ∀ i, (h : i < ll.length) → ∃ u, w.cell? ⟨b, off + i, none⟩ = some u ∧ ElemsAt w D u ll[i] ∧ CapOk u)

theorem ListsAt.keep {w w' : World} {D : Nat → Prop} {v : Value} {ll : List (List Elem)} (h : ListsAt w D v ll) (hk : ∀ b, D b → b < w.heap.size → w'.heap[b]? = w.heap[b]?) : ListsAt w' D v ll := by
  obtain ⟨a, cap, rfl, hl, hx⟩ := h
  refine ⟨a, cap, rfl, hl, ?_⟩
  rcases hx with rfl | ⟨b, off, rfl, hD, hc⟩
  · exact .inl rfl
  · refine .inr ⟨b, off, rfl, hD, fun i hi => ?_⟩
    obtain ⟨u, hu, he, hcp⟩ := hc i hi
    exact ⟨u, by rw [cell_keep (hk b hD (cell_lt hu))]; exact hu, he.keep hk, hcp⟩

theorem ListsAt.below {w w' : World} {D : Nat → Prop} {v : Value} {ll : List (List Elem)} (h : ListsAt w D v ll) (hb : Below w.heap.size w w') : ListsAt w' D v ll := h.keep fun b _ hl => hb.block b hl

theorem ListsAt.mono {w : World} {D D' : Nat → Prop} {v : Value} {ll : List (List Elem)} (h : ListsAt w D v ll) (hd : ∀ b, D b → D' b) : ListsAt w D' v ll := by
  obtain ⟨a, cap, rfl, hl, hx⟩ := h
  refine ⟨a, cap, rfl, hl, ?_⟩
  rcases hx with rfl | ⟨b, off, rfl, hD, hc⟩
  · exact .inl rfl
  · refine .inr ⟨b, off, rfl, hd b hD, fun i hi => ?_⟩
    obtain ⟨u, hu, he, hcp⟩ := hc i hi
    exact ⟨u, hu, he.mono hd, hcp⟩

theorem ListsAt.form {w : World} {D : Nat → Prop} {v : Value} {ll : List (List Elem)} (h : ListsAt w D v ll) : ∃ a c, v = .slice a ll.length c ∧ ll.length ≤ 9223372036854775807 := by
  obtain ⟨a, cap, rfl, hl, _⟩ := h
  exact ⟨a, cap, rfl, hl⟩

theorem ListsAt.at {w : World} {D : Nat → Prop} {a : Option Addr} {cap : Nat} {ll : List (List Elem)} (h : ListsAt w D (.slice a ll.length cap) ll) {k : Nat} (hk : k < ll.length) :
    ∃ b off ua uc, a = some ⟨b, off, none⟩ ∧ D b ∧ b < w.heap.size ∧ w.cell? ⟨b, off + k, none⟩ = some (.slice ua ll[k].length uc) ∧ ElemsAt w D (.slice ua ll[k].length uc) ll[k] ∧ ll[k].length ≤ uc := by
  obtain ⟨a', cap', hv, hl, hx⟩ := h
  injection hv with hv _ _
  subst hv
  obtain ⟨b, off, rfl, hD, hc⟩ := hx.resolve_left (fun e => by rw [e] at hk; simp at hk)
  obtain ⟨u, hu, he, hcp⟩ := hc k hk
  obtain ⟨ua, uc, rfl, _⟩ := he.form
  exact ⟨b, off, ua, uc, rfl, hD, cell_lt hu, hu, he, hcp _ _ _ rfl⟩

def cutAt (k : Int) (l : List Elem) : List Elem := l.takeWhile fun x => !(x.k == 3 && x.n == k)

theorem cutAt_hit {k : Int} {l : List Elem} {j : Nat} (hj : j < l.length) (hb : (l[j].k == 3 && l[j].n == k) = true) (h : ∀ i (h : i < l.length), i < j → (l[i].k == 3 && l[i].n == k) = false) : cutAt k l = l.take j := by
  induction l generalizing j with
  | nil => simp at hj
  | cons x xs ih =>
    cases j with
    | zero =>
      simp only [List.getElem_cons_zero] at hb
      simp only [cutAt, List.take_zero]
      rw [List.takeWhile_cons]
      simp only [hb, Bool.not_true, Bool.false_eq_true, if_false]
    | succ j =>
      have h0 := h 0 (by simp) (by omega)
      simp only [List.getElem_cons_zero] at h0
      simp only [cutAt, List.take_succ_cons]
      rw [List.takeWhile_cons]
      simp only [h0, Bool.not_false, if_true]
      congr 1
      exact ih (by simpa using hj) (by simpa using hb) (fun i hi hij => h (i + 1) (by simpa using hi) (by omega))

theorem cutAt_none {k : Int} {l : List Elem} (h : ∀ i (h : i < l.length), (l[i].k == 3 && l[i].n == k) = false) : cutAt k l = l := by
  induction l with
  | nil => rfl
  | cons x xs ih =>
    have h0 := h 0 (by simp)
    simp only [List.getElem_cons_zero] at h0
    simp only [cutAt]
    rw [List.takeWhile_cons]
    simp only [h0, Bool.not_false, if_true]
    congr 1
    exact ih (fun i hi => h (i + 1) (by simpa using hi))

/-- While a list of own elements grows; it was begun at w. -/
structure CutSt (w wr : World) (D : Nat → Prop) (v : Value) (evs : List EV) (blk : Option Nat) : Prop where
  at_ : EvsAt wr D v evs blk
  new : ∀ g, blk = some g → w.heap.size ≤ g
  hD : ∀ b, D b → w.heap.size ≤ b ∧ b < wr.heap.size ∧ blk ≠ some b
  below : Below w.heap.size w wr

theorem CutSt.start (w : World) : CutSt w w (fun _ => False) (.slice none 0 0) [] none :=
  ⟨⟨SlOwn.nil _ _ _, (fun p hp => by cases hp), by simp⟩, (fun g hg => by cases hg), (fun b hb => hb.elim), Below.refl _ _⟩

theorem CutSt.next {w wr w' : World} {D : Nat → Prop} {v : Value} {evs : List EV} {blk : Option Nat} (h : CutSt w wr D v evs blk) (hb : Below wr.heap.size wr w') : CutSt w w' D v evs blk :=
  ⟨h.at_.below hb, h.new, fun b hb' => by obtain ⟨h1, h2, h3⟩ := h.hD b hb'; exact ⟨h1, Nat.lt_of_lt_of_le h2 hb.size, h3⟩, h.below.trans (hb.mono h.below.size)⟩

theorem CutSt.add {w wr w1 w' : World} {D : Nat → Prop} {v v' : Value} {evs : List EV} {blk blk' : Option Nat} {p : EV} {o : Obj} (h : CutSt w wr D v evs blk) (hb1 : Below wr.heap.size wr w1) (hp : RowAt w1 (fun b => wr.heap.size ≤ b) p.2 p.1.row) (hl : evs.length + 1 ≤ 1000000)
    (hs : SlOwn w' 34 5 v' (evs.length + 1) (evs.flatMap ecl ++ ecl p) blk') (hg : (w1.alloc o).grownBy w' blk) (hat : blk' = blk ∨ blk' = some (w1.alloc o).heap.size) :
    CutSt w w' (fun b => D b ∨ (wr.heap.size ≤ b ∧ b < w1.heap.size)) v' (evs ++ [p]) blk' := by
  have h1 := h.next hb1
  have s0 := h.below.size
  have s1 := hb1.size
  have hsz := h1.below.size
  have sg := hg.size
  simp only [World.size_alloc] at sg
  have hblk : ∀ g, blk = some g → g < wr.heap.size := fun g hg' => by have := h.at_.own; rw [hg'] at this; exact this.blk_lt
  have hb : Below w.heap.size w w' := (h1.below.alloc hsz o).grown hg (by simp; omega) (fun q hq => h.new q hq)
  have hk : ∀ b, (D b ∨ (wr.heap.size ≤ b ∧ b < w1.heap.size)) → b < w1.heap.size → w'.heap[b]? = w1.heap[b]? := fun b hb' hlt => by
    refine (hg.block b (by simp; omega) (fun e => ?_)).trans (Below.heap_alloc _ _ _ hlt)
    rcases hb' with hb' | hb'
    · exact (h.hD b hb').2.2 e.symm
    · have := hblk b e.symm; omega
  refine ⟨⟨by simpa using hs, fun q hq => ?_, by simpa using hl⟩, fun g hg' => ?_, fun b hb' => ⟨?_, ?_, fun e => ?_⟩, hb⟩
  · rcases List.mem_append.1 hq with hq | hq
    · exact ((h1.at_.rows q hq).mono (fun b hb' => .inl hb')).keep hk
    · rw [List.mem_singleton] at hq
      subst hq
      exact (hp.imp (D' := fun b => D b ∨ (wr.heap.size ≤ b ∧ b < w1.heap.size)) fun b hlt hb' => .inr ⟨hb', hlt⟩).keep hk
  · rcases hat with e | e
    · exact h.new g (e ▸ hg')
    · rw [hg'] at e; injection e with e
      simp at e; omega
  · rcases hb' with hb' | hb'
    · exact (h.hD b hb').1
    · omega
  · rcases hb' with hb' | hb'
    · have := (h.hD b hb').2.1; omega
    · omega
  · rcases hat with e' | e'
    · rw [e'] at e
      rcases hb' with hb' | hb'
      · exact (h.hD b hb').2.2 e
      · have := hblk b e; omega
    · rw [e] at e'; injection e' with e'
      simp at e'
      rcases hb' with hb' | hb'
      · have := (h.hD b hb').2.1; omega
      · omega

/-- While a list of lists grows. -/
structure LlSt (w wr : World) (D : Nat → Prop) (v : Value) (us : List Value) (ll : List (List Elem)) (blk : Option Nat) : Prop where
  own : SlOwn wr 49 1 v us.length us blk
  len : us.length = ll.length
  els : ∀ i (h : i < us.length) (h' : i < ll.length), ElemsAt wr D us[i] ll[i]
  caps : ∀ u ∈ us, CapOk u
  new : ∀ g, blk = some g → w.heap.size ≤ g
  hD : ∀ b, D b → b < wr.heap.size ∧ blk ≠ some b
  below : Below w.heap.size w wr

theorem LlSt.start (w : World) : LlSt w w (fun _ => False) (.slice none 0 0) [] [] none :=
  ⟨SlOwn.nil _ _ _, rfl, (fun i h _ => by simp at h), (fun u hu => by cases hu), (fun g hg => by cases hg), (fun b hb => hb.elim), Below.refl _ _⟩

theorem LlSt.next {w wr w' : World} {D : Nat → Prop} {v : Value} {us : List Value} {ll : List (List Elem)} {blk : Option Nat} (h : LlSt w wr D v us ll blk) (hb : Below wr.heap.size wr w') : LlSt w w' D v us ll blk :=
  ⟨h.own.keep fun g hg => hb.block g (by have := h.own; rw [hg] at this; exact this.blk_lt), h.len, fun i h1 h2 => (h.els i h1 h2).below hb, h.caps, h.new, fun b hb' => ⟨Nat.lt_of_lt_of_le (h.hD b hb').1 hb.size, (h.hD b hb').2⟩, h.below.trans (hb.mono h.below.size)⟩

theorem LlSt.add {w wr w' : World} {D D' : Nat → Prop} {v v' u : Value} {us : List Value} {ll : List (List Elem)} {l : List Elem} {blk blk' : Option Nat} {o : Obj} (h : LlSt w wr D v us ll blk) (hu : ElemsAt wr D' u l) (hcp : CapOk u) (hD' : ∀ b, D' b → blk ≠ some b)
    (hs : SlOwn w' 49 1 v' (us.length + 1) (us ++ [u]) blk') (hg : (wr.alloc o).grownBy w' blk) (hat : blk' = blk ∨ blk' = some (wr.alloc o).heap.size) :
    LlSt w w' (fun b => D b ∨ (D' b ∧ b < wr.heap.size)) v' (us ++ [u]) (ll ++ [l]) blk' := by
  have hsz := h.below.size
  have sg := hg.size
  simp only [World.size_alloc] at sg
  have hb : Below w.heap.size w w' := (h.below.alloc hsz o).grown hg (by simp; omega) (fun q hq => h.new q hq)
  have hk : ∀ b, (D b ∨ D' b) → b < wr.heap.size → w'.heap[b]? = wr.heap[b]? := fun b hb' hlt => by
    refine (hg.block b (by simp; omega) (fun e => ?_)).trans (Below.heap_alloc _ _ _ hlt)
    rcases hb' with hb' | hb'
    · exact (h.hD b hb').2 e.symm
    · exact hD' b hb' e.symm
  have hu' : ElemsAt w' (fun b => D b ∨ (D' b ∧ b < wr.heap.size)) u l := by
    obtain ⟨a, cap, hv, hl, hx⟩ := hu
    refine ⟨a, cap, hv, hl, ?_⟩
    rcases hx with hx | ⟨b, off, ha, hDb, hc⟩
    · exact .inl hx
    · refine (Nat.eq_zero_or_pos l.length).elim (fun h0 => .inl (List.eq_nil_of_length_eq_zero h0)) fun h0 => ?_
      obtain ⟨_, h1, _⟩ := hc 0 h0
      have hlt := cell_lt h1
      refine .inr ⟨b, off, ha, .inr ⟨hDb, hlt⟩, fun i hi => ?_⟩
      obtain ⟨r, c0, c1, c2, c3, c4, hr⟩ := hc i hi
      have hh := hk b (.inr hDb) hlt
      exact ⟨r, by rw [cell_keep hh]; exact c0, by rw [cell_keep hh]; exact c1, by rw [cell_keep hh]; exact c2, by rw [cell_keep hh]; exact c3, by rw [cell_keep hh]; exact c4, (hr.imp (D' := fun b => D b ∨ (D' b ∧ b < wr.heap.size)) fun b h1 h2 => .inr ⟨h2, h1⟩).keep fun b hb' hl' => hk b (hb'.imp id And.left) hl'⟩
  refine ⟨by simpa using hs, by simp [h.len], fun i h1 h2 => ?_, fun x hx => ?_, fun g hg' => ?_, fun b hb' => ⟨?_, fun e => ?_⟩, hb⟩
  · by_cases e : i < us.length
    · rw [List.getElem_append_left e, List.getElem_append_left (by rw [← h.len]; exact e)]
      exact ((h.els i e (by rw [← h.len]; exact e)).keep fun b hb' hl' => hk b (.inl hb') hl').mono fun b hb' => .inl hb'
    · have ei : i = us.length := by simp at h1; omega
      subst ei
      rw [List.getElem_append_right (Nat.le_refl _), List.getElem_append_right (by rw [h.len]; exact Nat.le_refl _)]
      simpa using hu'
  · rcases List.mem_append.1 hx with hx | hx
    · exact h.caps x hx
    · rw [List.mem_singleton] at hx; subst hx; exact hcp
  · rcases hat with e | e
    · exact h.new g (e ▸ hg')
    · rw [hg'] at e; injection e with e
      simp at e; omega
  · rcases hb' with hb' | hb'
    · have := (h.hD b hb').1; omega
    · omega
  · rcases hat with e' | e'
    · rw [e'] at e
      rcases hb' with hb' | hb'
      · exact (h.hD b hb').2 e
      · exact hD' b hb'.1 e
    · rw [e] at e'; injection e' with e'
      simp at e'
      rcases hb' with hb' | hb'
      · have := (h.hD b hb').1; omega
      · omega

theorem LlSt.lists {w wr : World} {D : Nat → Prop} {v : Value} {us : List Value} {ll : List (List Elem)} {blk : Option Nat} (h : LlSt w wr D v us ll blk) (hsm : ll.length ≤ 1000000) : ListsAt wr (fun _ => True) v ll := by
  have hl := h.len
  rcases h.own.2 with ⟨rfl, h0, _⟩ | ⟨g, o, cap, cur, hb, rfl, _⟩
  · have : ll = [] := List.eq_nil_of_length_eq_zero (by omega)
    subst this
    exact ⟨none, 0, rfl, by simp, .inl rfl⟩
  · refine ⟨_, cap, by rw [hl], by omega, .inr ⟨g, o, rfl, trivial, fun i hi => ?_⟩⟩
    have hi' : i < us.length := by omega
    exact ⟨us[i], h.own.cell i _ (List.getElem?_eq_getElem hi'), (h.els i hi' hi).mono fun _ _ => trivial, h.caps _ (List.getElem_mem hi')⟩

end Go.Proofs.Ytdnkfgnjeibjeaa
