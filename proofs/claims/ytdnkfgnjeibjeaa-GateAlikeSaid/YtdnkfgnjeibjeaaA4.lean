import Derived.Test.YtdnkfgnjeibjeaaA3
namespace Go.Proofs.Ytdnkfgnjeibjeaa
open Go.RowKit

def cmpRow : List Val → List Val → Int
  | [], [] => 0
  | [], _ :: _ => -1
  | _ :: _, [] => 1
  | x :: xs, y :: ys => if cmpVal x y != 0 then cmpVal x y else cmpRow xs ys

theorem drop_cons {α : Type} {l : List α} {k : Nat} (h : k < l.length) : l.drop k = l[k] :: l.drop (k + 1) := List.drop_eq_getElem_cons h

theorem cmpRow_hit {a b : List Val} {k : Nat} (ha : k < a.length) (hb : k < b.length) (h : (cmpVal a[k] b[k] != 0) = true) : cmpRow (a.drop k) (b.drop k) = cmpVal a[k] b[k] := by
  rw [drop_cons ha, drop_cons hb, cmpRow, if_pos h]

theorem cmpRow_miss {a b : List Val} {k : Nat} (ha : k < a.length) (hb : k < b.length) (h : (cmpVal a[k] b[k] != 0) = false) : cmpRow (a.drop (k + 1)) (b.drop (k + 1)) = cmpRow (a.drop k) (b.drop k) := by
  rw [drop_cons ha, drop_cons hb, cmpRow, if_neg (by simp [h])]

theorem cmpRow_end {a b : List Val} {k : Nat} (hk : k ≤ a.length) (hk' : k ≤ b.length) (h : ¬ (k < a.length ∧ k < b.length)) : cmpRow (a.drop k) (b.drop k) = if a.length < b.length then -1 else if b.length < a.length then 1 else 0 := by
  by_cases ha : k < a.length
  · have hb : k = b.length := by omega
    subst hb
    rw [drop_cons ha, List.drop_length, cmpRow, if_neg (by omega), if_pos ha]
  · have hb : k = a.length := by omega
    subst hb
    by_cases hb : a.length < b.length
    · rw [List.drop_length, drop_cons hb, cmpRow, if_pos hb]
    · have e : a.length = b.length := by omega
      rw [List.drop_length, e, List.drop_length, cmpRow, if_neg (by omega), if_neg (by omega)]

section leaves
set_option maxHeartbeats 400000

theorem f45_any (w : World) (r1 r2 : Value) (a b : List Val) (D1 D2 : Nat → Prop) (h1 : RowAt w D1 r1 a) (h2 : RowAt w D2 r2 b) :
    Calls Try.prog 45 #[r1, r2] w fun e w' => e = .returned (.int .i64 (cmpRow a b)) ∧ Below w.heap.size w w' := by
  obtain ⟨p1, cap1, rfl, hl1, hx1⟩ := h1
  obtain ⟨p2, cap2, rfl, hl2, hx2⟩ := h2
  go_enter Try.func45, Try.ntmps45
  go_wp2
  go_loopw [5] (fun i wr => ∃ k : Nat, k ≤ a.length ∧ k ≤ b.length ∧ i = .int .i64 k ∧ cmpRow (a.drop k) (b.drop k) = cmpRow a b ∧ Below w.heap.size w wr) (fun i _ => a.length - (intOf i).toNat)
  case atStart => exact ⟨0, by omega, by omega, rfl, rfl, Below.refl _ _⟩
  case round =>
    obtain ⟨k, hk, hk', rfl, hv, hb⟩ := hrel
    have HV := Lib.hid hv
    clear hv
    by_cases hlt : k < a.length ∧ k < b.length
    · obtain ⟨hlt, hlt'⟩ := hlt
      rcases hx1 with rfl | ⟨b1, o1, rfl, hD1, hc1⟩
      · simp at hlt
      rcases hx2 with rfl | ⟨b2, o2, rfl, hD2, hc2⟩
      · simp at hlt'
      obtain ⟨x0, x1, x2⟩ := hc1 k hlt
      obtain ⟨y0, y1, y2⟩ := hc2 k hlt'
      have hbx : b1 < w.heap.size := World.block_lt_of_cell? w ⟨b1, o1 + k * 3, none⟩ x0
      have hby : b2 < w.heap.size := World.block_lt_of_cell? w ⟨b2, o2 + k * 3, none⟩ y0
      rw [← hb.cell (p := ⟨b1, _, none⟩) hbx] at x0 x1 x2
      rw [← hb.cell (p := ⟨b2, _, none⟩) hby] at y0 y1 y2
      have hbx' : b1 < wr.heap.size := Nat.lt_of_lt_of_le hbx hb.size
      have hby' : b2 < wr.heap.size := Nat.lt_of_lt_of_le hby hb.size
      clear hc1 hc2 hbx hby
      have HB := Lib.hid hb
      clear hb
      have g1 : (0 : Int) ≤ (k : Int) := by omega
      have g2 : (k : Int) < (a.length : Int) := by omega
      have g3 : (k : Int) < (b.length : Int) := by omega
      go_wp2_with fail
      have hcl := fun d os b' o' h => (below_regrown wr d os).cell (p := ⟨b', o', none⟩) h
      have hA := fun (W : World) d os => Calls.regrown_of (f69_any a[k] b[k] (Sort.grow (redrawn W d) os))
      have HA := Lib.hid hA
      clear hA
      refine wp_region_quiet_below (by kernel_rfl) (by kernel_rfl) ?_
      repeat (quiet_step (with_reducible exact HA.out _ _ _))
      refine wpQuiet_nil ?_
      intro wq hw'
      have hq := below_of_class hw'
      clear hw' hcl
      have hbb := below_then HB.out hq
      go_wp2_with fail
      · rename_i hne
        go_ret
        exact ⟨ret_int (by rw [← HV.out, cmpRow_hit hlt hlt' hne]), hbb⟩
      · rename_i hne
        go_roundw
        case rel => exact ⟨k + 1, by omega, by omega, by go_num, by rw [cmpRow_miss hlt hlt' hne, HV.out], hbb⟩
        case measure => simp [intOf]; omega
    · have he := cmpRow_end hk hk' hlt
      rw [HV.out] at he
      have HE := Lib.hid he
      clear he
      have hend : ∀ (v : Int), v = (if a.length < b.length then -1 else if b.length < a.length then 1 else 0) → Ending.returned (.int .i64 v) = .returned (.int .i64 (cmpRow a b)) := fun v hv => by rw [hv, HE.out]
      by_cases ha : k < a.length
      · have hkb : ¬ k < b.length := by omega
        have l1 : ¬ a.length < b.length := by omega
        have l2 : b.length < a.length := by omega
        have HN := Lib.hid hend
        clear hend
        go_wp2
        go_ret
        exact ⟨HN.out _ (by rw [if_neg l1, if_pos l2]), hb⟩
      · have HN := Lib.hid hend
        clear hend
        by_cases l1 : a.length < b.length
        · go_wp2
          go_ret
          exact ⟨HN.out _ (by rw [if_pos l1]), hb⟩
        · by_cases l2 : b.length < a.length
          · go_wp2
            go_ret
            exact ⟨HN.out _ (by rw [if_neg l1, if_pos l2]), hb⟩
          · go_wp2
            go_ret
            exact ⟨HN.out _ (by rw [if_neg l1, if_neg l2]), hb⟩

theorem nat_beq (a b : Nat) : ((a : Int) == (b : Int)) = (a == b) := by
  rw [Bool.eq_iff_iff]; simp; omega

def sameElem (x y : Elem) : Bool := x.k == y.k && x.n == y.n && x.t == y.t && x.c == y.c && cmpRow x.row y.row == 0 && x.row.length == y.row.length

theorem f16_any (w : World) (x y : Elem) (r1 r2 : Value) (D1 D2 : Nat → Prop) (h1 : RowAt w D1 r1 x.row) (h2 : RowAt w D2 r2 y.row) :
    Calls Try.prog 16 #[ev x r1, ev y r2] w fun e w' => e = .returned (.bool (sameElem x y)) ∧ Below w.heap.size w w' := by
  have hR := fun (W : World) (h : Below w.heap.size w W) => f45_any W r1 r2 x.row y.row D1 D2 (RowAt.below h1 h) (RowAt.below h2 h)
  obtain ⟨p1, cap1, rfl, hl1, hx1⟩ := h1
  obtain ⟨p2, cap2, rfl, hl2, hx2⟩ := h2
  clear hx1 hx2
  have HR := Lib.hid hR
  clear hR
  have hb2 : ∀ o1 o2, Below w.heap.size w ((w.alloc o1).alloc o2) := fun o1 o2 => ((Below.refl _ _).alloc (Nat.le_refl _) _).alloc (by simp) _
  have HB2 := Lib.hid hb2
  clear hb2
  cases e1 : (x.k == y.k)
  · go_enter Try.func16, Try.ntmps16
    go_wp2_with fail
    go_ret
    exact ⟨ret_bool (by simp [sameElem, e1]), HB2.out _ _⟩
  cases e2 : (x.n == y.n)
  · go_enter Try.func16, Try.ntmps16
    go_wp2_with fail
    go_ret
    exact ⟨ret_bool (by simp [sameElem, e2]), HB2.out _ _⟩
  cases e3 : (x.t == y.t)
  · go_enter Try.func16, Try.ntmps16
    go_wp2_with fail
    go_ret
    exact ⟨ret_bool (by simp [sameElem, e3]), HB2.out _ _⟩
  cases e4 : (x.c == y.c)
  · go_enter Try.func16, Try.ntmps16
    go_wp2_with fail
    go_ret
    exact ⟨ret_bool (by simp [sameElem, e4]), HB2.out _ _⟩
  go_enter Try.func16, Try.ntmps16
  go_wp2_with (go_at_call 45; refine (HR.out _ (HB2.out _ _)).mono ?_; rintro e w' ⟨rfl, hb⟩; obtain ⟨hc, hf⟩ := bcell hb)
  all_goals go_ret
  · rename_i h
    exact ⟨ret_bool (by simp [sameElem, e1, e2, e3, e4, h, nat_beq]), below_then (HB2.out _ _) hb⟩
  · rename_i h
    exact ⟨ret_bool (by simp [sameElem, e1, e2, e3, e4, h]), below_then (HB2.out _ _) hb⟩

end leaves

/-- The five cells of an element. -/
def ElemCell (w : World) (D : Nat → Prop) (b o : Nat) (e : Elem) : Prop :=
  ∃ r, w.cell? ⟨b, o, none⟩ = some (.int .i64 e.k) ∧ w.cell? ⟨b, o + 1, none⟩ = some (.int .i64 e.n) ∧ w.cell? ⟨b, o + 2, none⟩ = some (.int .i64 e.t) ∧
    w.cell? ⟨b, o + 3, none⟩ = some r ∧ w.cell? ⟨b, o + 4, none⟩ = some (.int .i64 e.c) ∧ RowAt w D r e.row

def ElemsAt (w : World) (D : Nat → Prop) (v : Value) (l : List Elem) : Prop :=
  ∃ a cap, v = .slice a l.length cap ∧ l.length ≤ 9223372036854775807 ∧ (l = [] ∨ ∃ b off, a = some ⟨b, off, none⟩ ∧ D b ∧ ∀ i, (h : i < l.length) → ElemCell w D b (off + i * 5) l[i])

/-- A list of what passed: input and element. -/
def OutsAt (w : World) (D : Nat → Prop) (v : Value) (l : List (Int × Elem)) : Prop :=
  ∃ a cap, v = .slice a l.length cap ∧ l.length ≤ 9223372036854775807 ∧ (l = [] ∨ ∃ b off, a = some ⟨b, off, none⟩ ∧ D b ∧ ∀ i, (h : i < l.length) →
    w.cell? ⟨b, off + i * 6, none⟩ = some (.int .i64 l[i].1) ∧ ElemCell w D b (off + i * 6 + 1) l[i].2)

theorem cell_keep {w w' : World} {b : Nat} (h : w'.heap[b]? = w.heap[b]?) (o : Nat) : w'.cell? ⟨b, o, none⟩ = w.cell? ⟨b, o, none⟩ := World.cell?_of_block (a := ⟨b, o, none⟩) h

theorem cell_lt {w : World} {b o : Nat} {v : Value} (h : w.cell? ⟨b, o, none⟩ = some v) : b < w.heap.size := World.block_lt_of_cell? w ⟨b, o, none⟩ h

theorem ElemCell.keep {w w' : World} {D : Nat → Prop} {b o : Nat} {e : Elem} (h : ElemCell w D b o e) (hb : D b) (hk : ∀ b, D b → b < w.heap.size → w'.heap[b]? = w.heap[b]?) : ElemCell w' D b o e := by
  obtain ⟨r, h0, h1, h2, h3, h4, hr⟩ := h
  have hh := hk b hb (cell_lt h0)
  exact ⟨r, by rw [cell_keep hh]; exact h0, by rw [cell_keep hh]; exact h1, by rw [cell_keep hh]; exact h2, by rw [cell_keep hh]; exact h3, by rw [cell_keep hh]; exact h4, hr.keep hk⟩

theorem ElemCell.mono {w : World} {D D' : Nat → Prop} {b o : Nat} {e : Elem} (h : ElemCell w D b o e) (hd : ∀ b, D b → D' b) : ElemCell w D' b o e := by
  obtain ⟨r, h0, h1, h2, h3, h4, hr⟩ := h
  exact ⟨r, h0, h1, h2, h3, h4, hr.mono hd⟩

theorem ElemsAt.keep {w w' : World} {D : Nat → Prop} {v : Value} {l : List Elem} (h : ElemsAt w D v l) (hk : ∀ b, D b → b < w.heap.size → w'.heap[b]? = w.heap[b]?) : ElemsAt w' D v l := by
  obtain ⟨a, cap, rfl, hl, hx⟩ := h
  refine ⟨a, cap, rfl, hl, ?_⟩
  rcases hx with rfl | ⟨b, off, rfl, hb, hc⟩
  · exact .inl rfl
  · exact .inr ⟨b, off, rfl, hb, fun i hi => (hc i hi).keep hb hk⟩

theorem ElemsAt.mono {w : World} {D D' : Nat → Prop} {v : Value} {l : List Elem} (h : ElemsAt w D v l) (hd : ∀ b, D b → D' b) : ElemsAt w D' v l := by
  obtain ⟨a, cap, rfl, hl, hx⟩ := h
  refine ⟨a, cap, rfl, hl, ?_⟩
  rcases hx with rfl | ⟨b, off, rfl, hb, hc⟩
  · exact .inl rfl
  · exact .inr ⟨b, off, rfl, hd b hb, fun i hi => (hc i hi).mono hd⟩

theorem ElemsAt.below {w w' : World} {D : Nat → Prop} {v : Value} {l : List Elem} (h : ElemsAt w D v l) (hb : Below w.heap.size w w') : ElemsAt w' D v l := h.keep fun b _ hlt => hb.block b hlt

theorem OutsAt.keep {w w' : World} {D : Nat → Prop} {v : Value} {l : List (Int × Elem)} (h : OutsAt w D v l) (hk : ∀ b, D b → b < w.heap.size → w'.heap[b]? = w.heap[b]?) : OutsAt w' D v l := by
  obtain ⟨a, cap, rfl, hl, hx⟩ := h
  refine ⟨a, cap, rfl, hl, ?_⟩
  rcases hx with rfl | ⟨b, off, rfl, hb, hc⟩
  · exact .inl rfl
  · exact .inr ⟨b, off, rfl, hb, fun i hi => ⟨by rw [cell_keep (hk b hb (cell_lt (hc i hi).1))]; exact (hc i hi).1, (hc i hi).2.keep hb hk⟩⟩

theorem OutsAt.mono {w : World} {D D' : Nat → Prop} {v : Value} {l : List (Int × Elem)} (h : OutsAt w D v l) (hd : ∀ b, D b → D' b) : OutsAt w D' v l := by
  obtain ⟨a, cap, rfl, hl, hx⟩ := h
  refine ⟨a, cap, rfl, hl, ?_⟩
  rcases hx with rfl | ⟨b, off, rfl, hb, hc⟩
  · exact .inl rfl
  · exact .inr ⟨b, off, rfl, hd b hb, fun i hi => ⟨(hc i hi).1, (hc i hi).2.mono hd⟩⟩

theorem OutsAt.below {w w' : World} {D : Nat → Prop} {v : Value} {l : List (Int × Elem)} (h : OutsAt w D v l) (hb : Below w.heap.size w w') : OutsAt w' D v l := h.keep fun b _ hlt => hb.block b hlt

def sameElems : List Elem → List Elem → Bool
  | [], [] => true
  | x :: xs, y :: ys => sameElem x y && sameElems xs ys
  | _, _ => false

theorem sameElems_len {a b : List Elem} (h : a.length ≠ b.length) : sameElems a b = false := by
  induction a generalizing b with
  | nil => cases b with | nil => simp at h | cons y ys => rfl
  | cons x xs ih => cases b with | nil => rfl | cons y ys => simp only [sameElems, ih (b := ys) (by simpa using h), Bool.and_false]

theorem sameElems_step {a b : List Elem} {k : Nat} (ha : k < a.length) (hb : k < b.length) : sameElems (a.drop k) (b.drop k) = (sameElem a[k] b[k] && sameElems (a.drop (k + 1)) (b.drop (k + 1))) := by
  rw [drop_cons ha, drop_cons hb, sameElems]

section leaves
set_option maxHeartbeats 400000

theorem f22_any (w : World) (v1 v2 : Value) (a b : List Elem) (D1 D2 : Nat → Prop) (h1 : ElemsAt w D1 v1 a) (h2 : ElemsAt w D2 v2 b) :
    Calls Try.prog 22 #[v1, v2] w fun e w' => e = .returned (.bool (sameElems a b)) ∧ Below w.heap.size w w' := by
  obtain ⟨p1, cap1, rfl, hl1, hx1⟩ := h1
  obtain ⟨p2, cap2, rfl, hl2, hx2⟩ := h2
  cases hlen : (a.length != b.length)
  · have hlen' : a.length = b.length := by simpa using hlen
    have hlen2 : ((a.length : Int) != (b.length : Int)) = false := by simp [hlen']
    have HL := Lib.hid hlen'
    clear hlen'
    go_enter Try.func22, Try.ntmps22
    go_wp2
    go_loopw [5] (fun i wr => ∃ k : Nat, k ≤ a.length ∧ i = .int .i64 k ∧ sameElems (a.drop k) (b.drop k) = sameElems a b ∧ Below w.heap.size w wr) (fun i _ => a.length - (intOf i).toNat)
    case atStart => exact ⟨0, by omega, rfl, rfl, Below.refl _ _⟩
    case round =>
      obtain ⟨k, hk, rfl, hv, hb⟩ := hrel
      have HV := Lib.hid hv
      clear hv
      by_cases hlt : k < a.length
      · have hlt' : k < b.length := by have := HL.out; omega
        rcases hx1 with rfl | ⟨b1, o1, rfl, hD1, hc1⟩
        · simp at hlt
        rcases hx2 with rfl | ⟨b2, o2, rfl, hD2, hc2⟩
        · simp at hlt'
        obtain ⟨r1, x0, x1, x2, x3, x4, xr⟩ := hc1 k hlt
        obtain ⟨r2, y0, y1, y2, y3, y4, yr⟩ := hc2 k hlt'
        have hbx : b1 < w.heap.size := cell_lt x0
        have hby : b2 < w.heap.size := cell_lt y0
        rw [← hb.cell (p := ⟨b1, _, none⟩) hbx] at x0 x1 x2 x3 x4
        rw [← hb.cell (p := ⟨b2, _, none⟩) hby] at y0 y1 y2 y3 y4
        have hbx' : b1 < wr.heap.size := Nat.lt_of_lt_of_le hbx hb.size
        have hby' : b2 < wr.heap.size := Nat.lt_of_lt_of_le hby hb.size
        have hA := fun d os => Calls.regrown_of (f16_any (Sort.grow (redrawn wr d) os) a[k] b[k] r1 r2 D1 D2 ((xr.below hb).below (below_regrown wr d os)) ((yr.below hb).below (below_regrown wr d os)))
        have HA := Lib.hid hA
        clear hA hc1 hc2 hbx hby xr yr
        have HB := Lib.hid hb
        clear hb
        have g1 : (0 : Int) ≤ (k : Int) := by omega
        have g2 : (k : Int) < (a.length : Int) := by omega
        have g3 : (k : Int) < (b.length : Int) := by omega
        have hst := sameElems_step hlt hlt'
        have HS := Lib.hid hst
        clear hst
        go_wp2_with fail
        have hcl := fun d os b' o' h => (below_regrown wr d os).cell (p := ⟨b', o', none⟩) h
        refine wp_region_quiet_below (by kernel_rfl) (by kernel_rfl) ?_
        repeat (quiet_step (with_reducible exact HA.out _ _))
        refine wpQuiet_nil ?_
        intro wq hw'
        have hq := below_of_class hw'
        clear hw' hcl
        have hbb := below_then HB.out hq
        go_wp2_with fail
        · rename_i hne
          have hne' : sameElem a[k] b[k] = false := by simpa using hne
          go_ret
          exact ⟨ret_bool (by rw [← HV.out, HS.out, hne', Bool.false_and]), hbb⟩
        · rename_i hne
          have hne' : sameElem a[k] b[k] = true := by simpa using hne
          go_roundw
          case rel => exact ⟨k + 1, by omega, by go_num, by rw [← HV.out, HS.out, hne', Bool.true_and], hbb⟩
          case measure => simp [intOf]; omega
      · have he : sameElems (a.drop k) (b.drop k) = true := by rw [List.drop_of_length_le (by omega), List.drop_of_length_le (by have := HL.out; omega)]; rfl
        rw [HV.out] at he
        have HE := Lib.hid he
        clear he
        go_wp2
        go_ret
        exact ⟨ret_bool HE.out.symm, hb⟩
  · have hlen2 : ((a.length : Int) != (b.length : Int)) = true := by simp at hlen ⊢; omega
    have hs := sameElems_len (a := a) (b := b) (by simpa using hlen)
    have HS := Lib.hid hs
    clear hs
    go_enter Try.func22, Try.ntmps22
    go_wp2
    go_ret
    exact ⟨ret_bool HS.out.symm, Below.refl _ _⟩
end leaves
end Go.Proofs.Ytdnkfgnjeibjeaa
