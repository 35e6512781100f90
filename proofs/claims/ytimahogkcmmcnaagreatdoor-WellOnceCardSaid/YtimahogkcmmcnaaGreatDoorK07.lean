/-
  The well, part 13: lists of events compared. Conditions: the lists lie in the world as the words say. The well, part 14: two reads compared. Conditions: the rows lie in the world as the words say. The well, part 15: whether a schema is larger than is looked at. Conditions: the schema lies in the world as the words say. The well, part 16: whether events are larger than is looked at. Conditions: the events lie in the world as the words say. The well, part 17: whether acts are larger than is looked at. Conditions: the acts lie in the world as the words say. The well, part 18: gauges made. No conditions but those stated. The well, part 19: gauges closed. Conditions: the gauge's block lies in the world. The well, part 20: gauges that see a time. Conditions: the gauge's block lies in the world. The well, part 21: a split that ends closes its gauge. Conditions: the split's and the gauge's blocks lie in the world.
-/
import Derived.Test.YtimahogkcmmcnaaGreatDoorK06
import Derived.Handy
set_option linter.unusedSimpArgs false
set_option linter.unusedVariables false

namespace Go.Proofs.YtimahogkcmmcnaaGreatDoor
open Go.RowKit Go.Proofs.YtimahogkcmmcnaaGreatDoor.Cmps

def sameEv (x y : Evt) : Bool := (x.t == y.t) && (x.r.length == y.r.length) && (cmpRow x.r y.r == 0)

def sameE : List Evt → List Evt → Bool
  | [], [] => true
  | x :: xs, y :: ys => sameEv x y && sameE xs ys
  | _, _ => false
theorem sameE_len {a b : List Evt} (h : a.length ≠ b.length) : sameE a b = false := by
  induction a generalizing b with
  | nil => cases b with | nil => simp at h | cons y ys => rfl
  | cons x xs ih => cases b with | nil => rfl | cons y ys => simp only [sameE, ih (b := ys) (by simpa using h), Bool.and_false]
theorem sameE_step {a b : List Evt} {k : Nat} (ha : k < a.length) (hb : k < b.length) : sameE (a.drop k) (b.drop k) = (sameEv a[k] b[k] && sameE (a.drop (k + 1)) (b.drop (k + 1))) := by
  rw [List.drop_eq_getElem_cons ha, List.drop_eq_getElem_cons hb, sameE]

theorem EvtsAt.at {w : World} {D : Nat → Prop} {a : Option Addr} {cap : Nat} {l : List Evt} (h : EvtsAt w D (.slice a l.length cap) l) {k : Nat} (hk : k < l.length) :
    ∃ b off r1 r2, a = some ⟨b, off, none⟩ ∧ b < w.heap.size ∧ w.cell? ⟨b, off + k * 2, none⟩ = some (.int .i64 l[k].t) ∧ w.cell? ⟨b, off + k * 2 + 1, none⟩ = some (.slice r1 l[k].r.length r2) ∧ RowAt w D (.slice r1 l[k].r.length r2) l[k].r ∧ l[k].r.length ≤ 9223372036854775807 := by
  obtain ⟨a', cap', hv, -, hx⟩ := h
  injection hv with hv _ _
  subst hv
  obtain ⟨b, off, rfl, hD, hc⟩ := hx.resolve_left (fun e => by rw [e] at hk; simp at hk)
  obtain ⟨h0, r, h1, hr⟩ := hc k hk
  have hr' := hr
  obtain ⟨r1, r2, rfl, hl, -⟩ := hr'
  exact ⟨b, off, r1, r2, rfl, cell_lt h0, h0, h1, hr, hl⟩

section leaves
set_option maxHeartbeats 1000000
set_option maxRecDepth 10000

theorem f61_any (hm : Tryz.prog.follows .mixedOrders = true) (w : World) (D1 D2 : Nat → Prop) (v1 v2 : Value) (a b : List Evt) (h1 : EvtsAt w D1 v1 a) (h2 : EvtsAt w D2 v2 b) :
    Calls Tryz.prog 61 #[v1, v2] w fun e w' => e = .returned (.bool (sameE a b)) ∧ Grew w w' := by
  have mixed := hm
  have H1 := Lib.hid h1
  have H2 := Lib.hid h2
  obtain ⟨p1, c1, rfl, ha, -⟩ := h1
  obtain ⟨p2, c2, rfl, -, -⟩ := h2
  cases hl : (a.length != b.length)
  · have hl' : a.length = b.length := by simpa using hl
    have hl2 : ((a.length : Int) != (b.length : Int)) = false := by simp [hl']
    have HL := Lib.hid hl'
    clear hl hl'
    go_enter Tryz.func61, Tryz.ntmps61
    go_wp2_with fail
    go_loopw [5] (fun i wr => ∃ k : Nat, k ≤ a.length ∧ i = .int .i64 k ∧ Hid (sameE (a.drop k) (b.drop k) = sameE a b) ∧ Hid (Grew w wr)) (fun i _ => a.length - (intOf i).toNat)
    case atStart => exact ⟨0, by omega, rfl, Lib.hid rfl, Lib.hid (Grew.refl _)⟩
    case round =>
      obtain ⟨k, hk, rfl, HV, hbr⟩ := hrel
      by_cases hlt : k < a.length
      · have hlt' : k < b.length := by have := HL.out; omega
        obtain ⟨g, o, r1, r2, rfl, hg, x0, x1, xr, xl⟩ := (H1.out.below hbr.out.below).at hlt
        obtain ⟨g', o', q1, q2, rfl, hg', y0, y1, yr, yl⟩ := (H2.out.below hbr.out.below).at hlt'
        have HS := Lib.hid (sameE_step hlt hlt')
        have t1 : (k : Int) < (b.length : Int) := by omega
        have t0 : (0 : Int) ≤ (k : Int) := by omega
        have t2 : (k : Int) < (a.length : Int) := by omega
        have HC : Hid (∀ W, Below wr.heap.size wr W → Calls Tryz.prog 135 #[.slice r1 a[k].r.length r2, .slice q1 b[k].r.length q2] W fun e w' => e = .returned (.int .i64 (cmpRow a[k].r b[k].r)) ∧ Grew W w') := fun W h => f135_any hm W _ _ a[k].r b[k].r D1 D2 (xr.below h) (yr.below h)
        have HB : Hid (∀ n os, Below wr.heap.size wr (Sort.grow (wr.drewN n) os)) := fun n os => Grew.below ⟨n, os, rfl⟩
        have HF : Hid (sameEv a[k] b[k] = ((a[k].t == b[k].t) && (a[k].r.length == b[k].r.length) && (cmpRow a[k].r b[k].r == 0))) := rfl
        clear xr yr
        generalize cmpRow a[k].r b[k].r = cv at HC HF
        generalize a[k].t = ta at x0 HF
        generalize b[k].t = tb at y0 HF
        generalize a[k].r.length = la at x1 xl HC HF
        generalize b[k].r.length = lb at y1 yl HC HF
        have hcl := fun n os b' o' h => grown_cl wr n os b' o' h
        cases e1 : (ta == tb)
        · rw [e1] at HF
          have e1n : (ta != tb) = true := by simp [bne, e1]
          go_wp2_with fail
          refine wp_region_quiet_grown mixed (by kernel_rfl) ?_
          repeat (first | go_big_quiet_skip | quiet_step (fail))
          refine wpQuiet_nil ?_
          intro w3 hw'
          have hb3 := Lib.hid (hbr.out.trans (Grew.of hw'))
          clear hw' hcl
          go_wp2_with fail
          go_ret
          exact ⟨ret_bool (by rw [← HV.out, HS.out, HF.out]; rfl), hb3.out⟩
        · rw [e1] at HF
          have e1n : (ta != tb) = false := by simp [bne, e1]
          cases e2 : (la == lb)
          · rw [e2] at HF
            have e2' : ((la : Int) != (lb : Int)) = true := by simp at e2 ⊢; omega
            go_wp2_with fail
            refine wp_region_quiet_grown mixed (by kernel_rfl) ?_
            repeat (first | go_big_quiet_skip | quiet_step (fail))
            refine wpQuiet_nil ?_
            intro w3 hw'
            have hb3 := Lib.hid (hbr.out.trans (Grew.of hw'))
            clear hw' hcl
            go_wp2_with fail
            go_ret
            exact ⟨ret_bool (by rw [← HV.out, HS.out, HF.out]; rfl), hb3.out⟩
          · rw [e2] at HF
            have e2' : ((la : Int) != (lb : Int)) = false := by simp at e2 ⊢; omega
            cases e3 : (cv == 0)
            · rw [e3] at HF
              have e3n : (cv != 0) = true := by simp [bne, e3]
              go_wp2_with fail
              refine wp_region_quiet_grown mixed (by kernel_rfl) ?_
              repeat (first | go_big_quiet_skip | quiet_step (with_reducible exact Calls.grown_of (HC.out _ (HB.out _ _))))
              refine wpQuiet_nil ?_
              intro w3 hw'
              have hb3 := Lib.hid (hbr.out.trans (Grew.of hw'))
              clear hw' hcl
              go_wp2_with fail
              go_ret
              exact ⟨ret_bool (by rw [← HV.out, HS.out, HF.out]; rfl), hb3.out⟩
            · rw [e3] at HF
              have e3n : (cv != 0) = false := by simp [bne, e3]
              go_wp2_with fail
              refine wp_region_quiet_grown mixed (by kernel_rfl) ?_
              repeat (first | go_big_quiet_skip | quiet_step (with_reducible exact Calls.grown_of (HC.out _ (HB.out _ _))))
              refine wpQuiet_nil ?_
              intro w3 hw'
              have hb3 := Lib.hid (hbr.out.trans (Grew.of hw'))
              clear hw' hcl
              go_wp2_with fail
              go_roundw
              case rel => exact ⟨k + 1, by omega, by go_num, Lib.hid (by rw [← HV.out, HS.out, HF.out]; rfl), hb3⟩
              case measure => simp [intOf]; omega
      · have he : sameE (a.drop k) (b.drop k) = true := by rw [List.drop_of_length_le (by omega), List.drop_of_length_le (by have := HL.out; omega)]; rfl
        rw [HV.out] at he
        have HE := Lib.hid he
        clear he
        go_wp2_with fail
        go_ret
        exact ⟨ret_bool HE.out.symm, hbr.out⟩
  · have hl' : a.length ≠ b.length := by simpa using hl
    have hl2 : ((a.length : Int) != (b.length : Int)) = true := by simp; omega
    have HS := Lib.hid (sameE_len hl')
    clear hl hl'
    go_enter Tryz.func61, Tryz.ntmps61
    go_wp2_with fail
    go_ret
    exact ⟨ret_bool HS.out.symm, Grew.refl _⟩
end leaves
end Go.Proofs.YtimahogkcmmcnaaGreatDoor

namespace Go.Proofs.YtimahogkcmmcnaaGreatDoor
open Go.RowKit Go.Proofs.YtimahogkcmmcnaaGreatDoor.Cmps

/-- What was read. -/
structure RdM where
  reader : Int
  split : ByteArray
  ev : Evt
  late : Bool
  mark : Int

def sameRd (a b : RdM) : Bool := (a.reader == b.reader) && eqS a.split b.split && sameE [a.ev] [b.ev] && (a.late == b.late) && (a.mark == b.mark)

theorem evts_one {w : World} {D : Nat → Prop} {b : Nat} {x : Evt} {r : Value} (h0 : w.cell? ⟨b, 0, none⟩ = some (.int .i64 x.t)) (h1 : w.cell? ⟨b, 1, none⟩ = some r) (hr : RowAt w D r x.r) (hb : D b) :
    EvtsAt w D (.slice (some ⟨b, 0, none⟩) 1 1) [x] := by
  refine ⟨_, _, rfl, by simp, .inr ⟨b, 0, rfl, hb, fun i hi => ?_⟩⟩
  have : i = 0 := by simpa using hi
  subst this
  exact ⟨by simpa using h0, r, by simpa using h1, hr⟩

section leaves
set_option maxHeartbeats 1000000
set_option maxRecDepth 10000

theorem f59_any (hm : Tryz.prog.follows .mixedOrders = true) (w : World) (D1 D2 : Nat → Prop) (a b : RdM) (r1 r2 : Value) (h1 : RowAt w D1 r1 a.ev.r) (h2 : RowAt w D2 r2 b.ev.r) :
    Calls Tryz.prog 59 #[.agg #[.int .i64 a.reader, .string a.split, .int .i64 a.ev.t, r1, .bool a.late, .int .i64 a.mark], .agg #[.int .i64 b.reader, .string b.split, .int .i64 b.ev.t, r2, .bool b.late, .int .i64 b.mark]] w
      fun e w' => e = .returned (.bool (sameRd a b)) ∧ Below w.heap.size w w' := by
  have HB4 : Below w.heap.size w ((((w.alloc (.cells #[.int .i64 a.reader, .string a.split, .int .i64 a.ev.t, r1, .bool a.late, .int .i64 a.mark] 90)).alloc (.cells #[.int .i64 b.reader, .string b.split, .int .i64 b.ev.t, r2, .bool b.late, .int .i64 b.mark] 116)).alloc (.cells #[.int .i64 a.ev.t, r1] 30)).alloc (.cells #[.int .i64 b.ev.t, r2] 30)) := (((((Below.refl _ _).alloc (Nat.le_refl _) _).alloc (by simp) _).alloc (by simp; omega) _).alloc (by simp; omega) _)
  have HB2 : Hid (Below w.heap.size w ((w.alloc (.cells #[.int .i64 a.reader, .string a.split, .int .i64 a.ev.t, r1, .bool a.late, .int .i64 a.mark] 90)).alloc (.cells #[.int .i64 b.reader, .string b.split, .int .i64 b.ev.t, r2, .bool b.late, .int .i64 b.mark] 116))) := ((Below.refl _ _).alloc (Nat.le_refl _) _).alloc (by simp) _
  have e3 : (((w.alloc (.cells #[.int .i64 a.reader, .string a.split, .int .i64 a.ev.t, r1, .bool a.late, .int .i64 a.mark] 90)).alloc (.cells #[.int .i64 b.reader, .string b.split, .int .i64 b.ev.t, r2, .bool b.late, .int .i64 b.mark] 116)).alloc (.cells #[.int .i64 a.ev.t, r1] 30)).heap.size = w.heap.size + 1 + 1 + 1 := by simp
  have e2 : ((w.alloc (.cells #[.int .i64 a.reader, .string a.split, .int .i64 a.ev.t, r1, .bool a.late, .int .i64 a.mark] 90)).alloc (.cells #[.int .i64 b.reader, .string b.split, .int .i64 b.ev.t, r2, .bool b.late, .int .i64 b.mark] 116)).heap.size = w.heap.size + 1 + 1 := by simp
  obtain ⟨k0, k1⟩ := two_new ((w.alloc (.cells #[.int .i64 a.reader, .string a.split, .int .i64 a.ev.t, r1, .bool a.late, .int .i64 a.mark] 90)).alloc (.cells #[.int .i64 b.reader, .string b.split, .int .i64 b.ev.t, r2, .bool b.late, .int .i64 b.mark] 116)) (.int .i64 a.ev.t) r1 30
  obtain ⟨l0, l1⟩ := two_new (((w.alloc (.cells #[.int .i64 a.reader, .string a.split, .int .i64 a.ev.t, r1, .bool a.late, .int .i64 a.mark] 90)).alloc (.cells #[.int .i64 b.reader, .string b.split, .int .i64 b.ev.t, r2, .bool b.late, .int .i64 b.mark] 116)).alloc (.cells #[.int .i64 a.ev.t, r1] 30)) (.int .i64 b.ev.t) r2 30
  rw [e2] at k0 k1
  rw [e3] at l0 l1
  have hs : Below (w.heap.size + 1 + 1 + 1) (((w.alloc (.cells #[.int .i64 a.reader, .string a.split, .int .i64 a.ev.t, r1, .bool a.late, .int .i64 a.mark] 90)).alloc (.cells #[.int .i64 b.reader, .string b.split, .int .i64 b.ev.t, r2, .bool b.late, .int .i64 b.mark] 116)).alloc (.cells #[.int .i64 a.ev.t, r1] 30)) ((((w.alloc (.cells #[.int .i64 a.reader, .string a.split, .int .i64 a.ev.t, r1, .bool a.late, .int .i64 a.mark] 90)).alloc (.cells #[.int .i64 b.reader, .string b.split, .int .i64 b.ev.t, r2, .bool b.late, .int .i64 b.mark] 116)).alloc (.cells #[.int .i64 a.ev.t, r1] 30)).alloc (.cells #[.int .i64 b.ev.t, r2] 30)) := (Below.refl _ _).alloc (by rw [e3]; omega) _
  have k0' : ((((w.alloc (.cells #[.int .i64 a.reader, .string a.split, .int .i64 a.ev.t, r1, .bool a.late, .int .i64 a.mark] 90)).alloc (.cells #[.int .i64 b.reader, .string b.split, .int .i64 b.ev.t, r2, .bool b.late, .int .i64 b.mark] 116)).alloc (.cells #[.int .i64 a.ev.t, r1] 30)).alloc (.cells #[.int .i64 b.ev.t, r2] 30)).cell? ⟨w.heap.size + 1 + 1, 0, none⟩ = some (.int .i64 a.ev.t) := by rw [hs.cell (p := ⟨w.heap.size + 1 + 1, 0, none⟩) (by show w.heap.size + 1 + 1 < _; omega)]; exact k0
  have k1' : ((((w.alloc (.cells #[.int .i64 a.reader, .string a.split, .int .i64 a.ev.t, r1, .bool a.late, .int .i64 a.mark] 90)).alloc (.cells #[.int .i64 b.reader, .string b.split, .int .i64 b.ev.t, r2, .bool b.late, .int .i64 b.mark] 116)).alloc (.cells #[.int .i64 a.ev.t, r1] 30)).alloc (.cells #[.int .i64 b.ev.t, r2] 30)).cell? ⟨w.heap.size + 1 + 1, 1, none⟩ = some r1 := by rw [hs.cell (p := ⟨w.heap.size + 1 + 1, 1, none⟩) (by show w.heap.size + 1 + 1 < _; omega)]; exact k1
  have H61 := Lib.hid (f61_any hm ((((w.alloc (.cells #[.int .i64 a.reader, .string a.split, .int .i64 a.ev.t, r1, .bool a.late, .int .i64 a.mark] 90)).alloc (.cells #[.int .i64 b.reader, .string b.split, .int .i64 b.ev.t, r2, .bool b.late, .int .i64 b.mark] 116)).alloc (.cells #[.int .i64 a.ev.t, r1] 30)).alloc (.cells #[.int .i64 b.ev.t, r2] 30)) (fun _ => True) (fun _ => True) (.slice (some ⟨w.heap.size + 1 + 1, 0, none⟩) 1 1) (.slice (some ⟨w.heap.size + 1 + 1 + 1, 0, none⟩) 1 1) [a.ev] [b.ev]
    (evts_one k0' k1' ((h1.below HB4).mono fun _ _ => trivial) trivial) (evts_one l0 l1 ((h2.below HB4).mono fun _ _ => trivial) trivial))
  have HF : Hid (sameRd a b = ((a.reader == b.reader) && (a.split.toList == b.split.toList) && sameE [a.ev] [b.ev] && (a.late == b.late) && (a.mark == b.mark))) := rfl
  have HC : Hid (∀ w1, Below ((((w.alloc (.cells #[.int .i64 a.reader, .string a.split, .int .i64 a.ev.t, r1, .bool a.late, .int .i64 a.mark] 90)).alloc (.cells #[.int .i64 b.reader, .string b.split, .int .i64 b.ev.t, r2, .bool b.late, .int .i64 b.mark] 116)).alloc (.cells #[.int .i64 a.ev.t, r1] 30)).alloc (.cells #[.int .i64 b.ev.t, r2] 30)).heap.size ((((w.alloc (.cells #[.int .i64 a.reader, .string a.split, .int .i64 a.ev.t, r1, .bool a.late, .int .i64 a.mark] 90)).alloc (.cells #[.int .i64 b.reader, .string b.split, .int .i64 b.ev.t, r2, .bool b.late, .int .i64 b.mark] 116)).alloc (.cells #[.int .i64 a.ev.t, r1] 30)).alloc (.cells #[.int .i64 b.ev.t, r2] 30)) w1 → w1.cell? ⟨w.heap.size, 4, none⟩ = some (.bool a.late) ∧ w1.cell? ⟨w.heap.size, 5, none⟩ = some (.int .i64 a.mark) ∧ w1.cell? ⟨w.heap.size + 1, 4, none⟩ = some (.bool b.late) ∧ w1.cell? ⟨w.heap.size + 1, 5, none⟩ = some (.int .i64 b.mark)) := by
    intro w1 h
    have h3 := below_box h
    have h2 := below_box h3
    have h1 := below_box h2
    have e1 : (w.alloc (.cells #[.int .i64 a.reader, .string a.split, .int .i64 a.ev.t, r1, .bool a.late, .int .i64 a.mark] 90)).heap.size = w.heap.size + 1 := by simp
    refine ⟨?_, ?_, ?_, ?_⟩
    · rw [h1.cell (p := ⟨w.heap.size, 4, none⟩) (by simp)]; simp
    · rw [h1.cell (p := ⟨w.heap.size, 5, none⟩) (by simp)]; simp
    · rw [← e1, h2.cell (p := ⟨_, 4, none⟩) (by simp)]; simp
    · rw [← e1, h2.cell (p := ⟨_, 5, none⟩) (by simp)]; simp
  have HB4' := Lib.hid HB4
  obtain ⟨ra, rc, rfl, -⟩ := h1
  obtain ⟨rb, rd, rfl, -⟩ := h2
  clear HB4 k0 k1 l0 l1 k0' k1' hs e3 e2
  generalize sameE [a.ev] [b.ev] = c3 at H61 HF
  cases h0 : (a.reader == b.reader)
  · rw [h0] at HF
    go_enter Tryz.func59, Tryz.ntmps59
    go_wp2_with fail
    go_ret
    exact ⟨ret_bool (by rw [HF.out]; simp), HB2.out⟩
  · rw [h0] at HF
    cases h1 : (a.split.toList == b.split.toList)
    · rw [h1] at HF
      go_enter Tryz.func59, Tryz.ntmps59
      go_wp2_with fail
      go_ret
      exact ⟨ret_bool (by rw [HF.out]; simp), HB2.out⟩
    · rw [h1] at HF
      cases c3
      · skip
        go_enter Tryz.func59, Tryz.ntmps59
        go_wp2_with (go_at_call 61; with_reducible refine H61.out.mono ?_; rintro e w1 ⟨rfl, hg1⟩; obtain ⟨d1, d2, d3, d4⟩ := HC.out w1 hg1.below; have HG := Lib.hid hg1; clear hg1)
        go_ret
        exact ⟨ret_bool (by rw [HF.out]; simp), HB4'.out.trans (HG.out.below.mono HB4'.out.size)⟩
      · skip
        cases h3 : (a.late == b.late)
        · rw [h3] at HF
          go_enter Tryz.func59, Tryz.ntmps59
          go_wp2_with (go_at_call 61; with_reducible refine H61.out.mono ?_; rintro e w1 ⟨rfl, hg1⟩; obtain ⟨d1, d2, d3, d4⟩ := HC.out w1 hg1.below; have HG := Lib.hid hg1; clear hg1)
          go_ret
          exact ⟨ret_bool (by rw [HF.out]; simp), HB4'.out.trans (HG.out.below.mono HB4'.out.size)⟩
        · rw [h3] at HF
          cases h4 : (a.mark == b.mark)
          · rw [h4] at HF
            go_enter Tryz.func59, Tryz.ntmps59
            go_wp2_with (go_at_call 61; with_reducible refine H61.out.mono ?_; rintro e w1 ⟨rfl, hg1⟩; obtain ⟨d1, d2, d3, d4⟩ := HC.out w1 hg1.below; have HG := Lib.hid hg1; clear hg1)
            go_ret
            exact ⟨ret_bool (by rw [HF.out]; simp), HB4'.out.trans (HG.out.below.mono HB4'.out.size)⟩
          · rw [h4] at HF
            go_enter Tryz.func59, Tryz.ntmps59
            go_wp2_with (go_at_call 61; with_reducible refine H61.out.mono ?_; rintro e w1 ⟨rfl, hg1⟩; obtain ⟨d1, d2, d3, d4⟩ := HC.out w1 hg1.below; have HG := Lib.hid hg1; clear hg1)
            go_ret
            exact ⟨ret_bool (by rw [HF.out]; simp), HB4'.out.trans (HG.out.below.mono HB4'.out.size)⟩
end leaves
end Go.Proofs.YtimahogkcmmcnaaGreatDoor

namespace Go.Proofs.YtimahogkcmmcnaaGreatDoor
open Go.RowKit Go.Proofs.YtimahogkcmmcnaaGreatDoor.Cmps

/-- It returned true or false. -/
def AnyB (e : Ending) : Prop := ∃ b, e = .returned (.bool b)
theorem AnyB.out {e : Ending} (h : AnyB e) : ∃ b, e = .returned (.bool b) := h

section leaves
set_option maxHeartbeats 400000
set_option maxRecDepth 10000

theorem f14_any (w : World) (D : Nat → Prop) (v : Value) (l : List Col) (h : SchemaAt w D v l) :
    Calls Tryz.prog 14 #[v] w fun e w' => AnyB e ∧ w = w' := by
  obtain ⟨a, cap, rfl, hc0, hl, hn, hx⟩ := h
  go_enter Tryz.func14, Tryz.ntmps14
  go_wp2_with fail
  go_loopw [3] (fun i wr => ∃ k : Nat, k ≤ l.length ∧ i = .int .i64 k ∧ w = wr) (fun i _ => l.length - (intOf i).toNat)
  case atStart => exact ⟨0, by omega, rfl, rfl⟩
  case round =>
    obtain ⟨k, hk, rfl, rfl⟩ := hrel
    by_cases hlt : k < l.length
    · rcases hx with rfl | ⟨b, off, rfl, hD, hc⟩
      · simp at hlt
      obtain ⟨x0, x1⟩ := hc k hlt
      have hs := hn _ (List.getElem_mem hlt)
      clear hc
      go_wp2_with fail
      · go_ret
        exact ⟨⟨_, rfl⟩, rfl⟩
      · go_roundw
        case rel => exact ⟨k + 1, by omega, by go_num, trivial⟩
        case measure => simp [intOf]; omega
    · go_wp2_with fail
      go_ret
      exact ⟨⟨_, rfl⟩, rfl⟩
end leaves
end Go.Proofs.YtimahogkcmmcnaaGreatDoor

namespace Go.Proofs.YtimahogkcmmcnaaGreatDoor
open Go.RowKit Go.Proofs.YtimahogkcmmcnaaGreatDoor.Cmps

section leaves
set_option maxHeartbeats 400000
set_option maxRecDepth 10000

theorem f25_any (w : World) (D : Nat → Prop) (v : Value) (l : List Evt) (h : EvtsAt w D v l) (hz : ∀ x ∈ l, ∀ y ∈ x.r, y.s.size ≤ 9223372036854775807) :
    Calls Tryz.prog 25 #[v] w fun e w' => AnyB e ∧ w = w' := by
  have H := Lib.hid h
  obtain ⟨a, cap, rfl, hl, -⟩ := h
  go_enter Tryz.func25, Tryz.ntmps25
  go_wp2_with fail
  go_loopw [3, 4] (fun i _ wr => ∃ k : Nat, k ≤ l.length ∧ i = .int .i64 k ∧ w = wr) (fun i _ _ => l.length - (intOf i).toNat)
  case atStart => exact ⟨0, by omega, rfl, rfl⟩
  case round =>
    obtain ⟨k, hk, rfl, rfl⟩ := hrel
    by_cases hlt : k < l.length
    · obtain ⟨g, o, r1, r2, rfl, hg, x0, x1, xr, xl⟩ := H.out.at hlt
      have hy := hz _ (List.getElem_mem hlt)
      by_cases h20 : (20 : Int) < (l[k].r.length : Int)
      · go_wp2_with fail
        go_ret
        exact ⟨⟨_, rfl⟩, rfl⟩
      · go_wp2_with fail
        go_loopw [4] (fun i wr => ∃ j : Nat, j ≤ l[k].r.length ∧ i = .int .i64 j ∧ w = wr) (fun i _ => l[k].r.length - (intOf i).toNat)
        case atStart => exact ⟨0, by omega, rfl, rfl⟩
        case round =>
          obtain ⟨j, hj, rfl, rfl⟩ := hrel
          by_cases hlj : j < l[k].r.length
          · obtain ⟨a', cap', hv, -, hx⟩ := xr
            injection hv with hv _ _
            subst hv
            obtain ⟨b, off, rfl, hD, hc⟩ := hx.resolve_left (fun e => by rw [e] at hlj; simp at hlj)
            obtain ⟨c0, c1, c2⟩ := hc j hlj
            have hs := hy _ (List.getElem_mem hlj)
            clear hc
            go_wp2_with fail
            · go_ret
              exact ⟨⟨_, rfl⟩, rfl⟩
            · go_roundw
              case rel => exact ⟨j + 1, by omega, by go_num, trivial⟩
              case measure => simp [intOf]; omega
          · go_wp2_with fail
            go_roundw
            case rel => exact ⟨k + 1, by omega, by go_num, trivial⟩
            case measure => simp [intOf]; omega
    · go_wp2_with fail
      go_ret
      exact ⟨⟨_, rfl⟩, rfl⟩
end leaves
end Go.Proofs.YtimahogkcmmcnaaGreatDoor

namespace Go.Proofs.YtimahogkcmmcnaaGreatDoor
open Go.RowKit Go.Proofs.YtimahogkcmmcnaaGreatDoor.Cmps

/-- An act. -/
structure ActM where
  kind : Int
  reader : Int
  name : ByteArray
  evs : List Evt

/-- The texts of events are not too long. -/
def EvsSmall (l : List Evt) : Prop := ∀ x ∈ l, ∀ y ∈ x.r, y.s.size ≤ 9223372036854775807

/-- v reads in w as acts. -/
def ActsAt (w : World) (D : Nat → Prop) (v : Value) (l : List ActM) : Prop :=
  ∃ a cap, v = .slice a l.length cap ∧ l.length ≤ 9223372036854775807 ∧ (l = [] ∨ ∃ b off, a = some ⟨b, off, none⟩ ∧ D b ∧ ∀ i, (h : i < l.length) → ∃ ev, EvtsAt w D ev l[i].evs ∧ EvsSmall l[i].evs ∧ l[i].name.size ≤ 9223372036854775807 ∧
    w.cell? ⟨b, off + i * 4, none⟩ = some (.int .u8 l[i].kind) ∧ w.cell? ⟨b, off + i * 4 + 1, none⟩ = some (.int .i64 l[i].reader) ∧ w.cell? ⟨b, off + i * 4 + 2, none⟩ = some (.string l[i].name) ∧ w.cell? ⟨b, off + i * 4 + 3, none⟩ = some ev)

theorem ActsAt.at {w : World} {D : Nat → Prop} {a : Option Addr} {cap : Nat} {l : List ActM} (h : ActsAt w D (.slice a l.length cap) l) {k : Nat} (hk : k < l.length) :
    ∃ b off e1 e2, a = some ⟨b, off, none⟩ ∧ b < w.heap.size ∧ EvtsAt w D (.slice e1 l[k].evs.length e2) l[k].evs ∧ EvsSmall l[k].evs ∧ l[k].name.size ≤ 9223372036854775807 ∧
    w.cell? ⟨b, off + k * 4, none⟩ = some (.int .u8 l[k].kind) ∧ w.cell? ⟨b, off + k * 4 + 1, none⟩ = some (.int .i64 l[k].reader) ∧ w.cell? ⟨b, off + k * 4 + 2, none⟩ = some (.string l[k].name) ∧ w.cell? ⟨b, off + k * 4 + 3, none⟩ = some (.slice e1 l[k].evs.length e2) := by
  obtain ⟨a', cap', hv, -, hx⟩ := h
  injection hv with hv _ _
  subst hv
  obtain ⟨b, off, rfl, hD, hc⟩ := hx.resolve_left (fun e => by rw [e] at hk; simp at hk)
  obtain ⟨ev, he, hs, hz, h0, h1, h2, h3⟩ := hc k hk
  have he' := he
  obtain ⟨e1, e2, rfl, -⟩ := he'
  exact ⟨b, off, e1, e2, rfl, cell_lt h0, he, hs, hz, h0, h1, h2, h3⟩

section leaves
set_option maxHeartbeats 400000
set_option maxRecDepth 10000

theorem f15_any (w : World) (D : Nat → Prop) (v : Value) (l : List ActM) (h : ActsAt w D v l) :
    Calls Tryz.prog 15 #[v] w fun e w' => AnyB e ∧ w = w' := by
  have H := Lib.hid h
  obtain ⟨a, cap, rfl, hl, -⟩ := h
  go_enter Tryz.func15, Tryz.ntmps15
  go_wp2_with fail
  go_loopw [3] (fun i wr => ∃ k : Nat, k ≤ l.length ∧ i = .int .i64 k ∧ w = wr) (fun i _ => l.length - (intOf i).toNat)
  case atStart => exact ⟨0, by omega, rfl, rfl⟩
  case round =>
    obtain ⟨k, hk, rfl, rfl⟩ := hrel
    by_cases hlt : k < l.length
    · obtain ⟨g, o, e1, e2, rfl, hg, he, hs, hz, x0, x1, x2, x3⟩ := H.out.at hlt
      have H25 := Lib.hid (f25_any w D _ l[k].evs he hs)
      clear he hs
      by_cases h100 : (100 : Int) < (l[k].name.size : Int)
      · go_wp2_with fail
        go_ret
        exact ⟨⟨_, rfl⟩, rfl⟩
      · go_wp2_with (go_at_call 25; with_reducible refine H25.out.mono ?_; rintro e w1 ⟨hb, rfl⟩; obtain ⟨bb, rfl⟩ := hb.out; clear hb)
        · go_ret
          exact ⟨⟨_, rfl⟩, rfl⟩
        · go_roundw
          case rel => exact ⟨k + 1, by omega, by go_num, trivial⟩
          case measure => simp [intOf]; omega
    · go_wp2_with fail
      go_ret
      exact ⟨⟨_, rfl⟩, rfl⟩
end leaves
end Go.Proofs.YtimahogkcmmcnaaGreatDoor

namespace Go.Proofs.YtimahogkcmmcnaaGreatDoor
open Go.RowKit Go.Proofs.YtimahogkcmmcnaaGreatDoor.Cmps

section leaves
set_option maxHeartbeats 400000
set_option maxRecDepth 10000

theorem f120_any (w : World) (n : Int) (h0 : 0 ≤ n) (h1 : n ≤ 1000000000) :
    Calls Tryz.prog 120 #[.int .i64 n] w fun e w' => e = .returned (.tuple #[ptr w.heap.size, .int .i64 0]) ∧ w' = w.alloc (.cells #[.int .i64 n, .int .i64 (-1000000000000), .bool false] 215) := by
  have H := Lib.hid (f129_any w n 0 1000000000)
  rw [show withinB n 0 1000000000 = true by simp [withinB, h0, h1]] at H
  unfold ptr
  go_enter Tryz.func120, Tryz.ntmps120
  go_wp2_with (go_at_call 129; with_reducible refine H.out.mono ?_; rintro e w1 ⟨rfl, rfl⟩)
  go_ret2
  exact ⟨rfl, rfl⟩
end leaves
end Go.Proofs.YtimahogkcmmcnaaGreatDoor

namespace Go.Proofs.YtimahogkcmmcnaaGreatDoor
open Go.RowKit Go.Proofs.YtimahogkcmmcnaaGreatDoor.Cmps

/-- Of what was there only blocks of S have turned. -/
structure Only (S : Nat → Prop) (w w' : World) : Prop where
  os : w'.os = w.os
  tape : w'.tape = w.tape
  output : w'.output = w.output
  size : w.heap.size ≤ w'.heap.size
  block : ∀ k, k < w.heap.size → ¬ S k → w'.heap[k]? = w.heap[k]?

theorem Only.refl (S : Nat → Prop) (w : World) : Only S w w := ⟨rfl, rfl, rfl, Nat.le_refl _, fun _ _ _ => rfl⟩

theorem Only.trans {S S' : Nat → Prop} {a b c : World} (h : Only S a b) (k : Only S' b c) (hs : ∀ x, x < a.heap.size → S' x → S x) : Only S a c :=
  ⟨k.os.trans h.os, k.tape.trans h.tape, k.output.trans h.output, Nat.le_trans h.size k.size, fun i hi hn => (k.block i (Nat.lt_of_lt_of_le hi h.size) (fun e => hn (hs i hi e))).trans (h.block i hi hn)⟩

theorem Only.of_below {S : Nat → Prop} {w w' : World} (h : Below w.heap.size w w') : Only S w w' := ⟨h.os, h.tape, h.output, h.size, fun k hk _ => h.block k hk⟩

theorem Only.below {S : Nat → Prop} {w w' : World} {B : Nat} (h : Only S w w') (hB : B ≤ w.heap.size) (hs : ∀ x, S x → B ≤ x) : Below B w w' :=
  ⟨h.os, h.tape, h.output, h.size, fun k hk => h.block k (by omega) (fun e => by have := hs k e; omega)⟩

theorem Only.mono {S S' : Nat → Prop} {w w' : World} (h : Only S w w') (hs : ∀ x, x < w.heap.size → S x → S' x) : Only S' w w' :=
  ⟨h.os, h.tape, h.output, h.size, fun k hk hn => h.block k hk (fun e => hn (hs k hk e))⟩

theorem Only.setCell {S : Nat → Prop} {a w : World} (h : Only S a w) {p : Addr} (hp : p.block < a.heap.size → S p.block) (u : Value) : Only S a (w.setCell p u) :=
  ⟨h.os, h.tape, h.output, by simpa [World.setCell] using h.size, fun k hk hn => (Below.heap_setCell w p u k (fun e => hn (by subst e; exact hp hk))).trans (h.block k hk hn)⟩

theorem Only.alloc {S : Nat → Prop} {a w : World} (h : Only S a w) (o : Obj) : Only S a (w.alloc o) :=
  ⟨h.os, h.tape, h.output, Nat.le_trans h.size (by simp), fun k hk hn => (Below.heap_alloc w o k (Nat.lt_of_lt_of_le hk h.size)).trans (h.block k hk hn)⟩

theorem Only.drew {S : Nat → Prop} {a w : World} (h : Only S a w) : Only S a w.drew := ⟨h.os, h.tape, h.output, h.size, h.block⟩

theorem Only.grown {S : Nat → Prop} {a w w' : World} {blk : Option Nat} (h : Only S a w) (hg : w.grownBy w' blk) (hb : ∀ k, blk = some k → k < a.heap.size → S k) : Only S a w' :=
  ⟨hg.os.trans h.os, hg.tape.trans h.tape, hg.output.trans h.output, Nat.le_trans h.size hg.size, fun k hk hn => (hg.block k (Nat.lt_of_lt_of_le hk h.size) (fun e => hn (hb k e.symm hk))).trans (h.block k hk hn)⟩

theorem Only.cell {S : Nat → Prop} {w w' : World} (h : Only S w w') (b o : Nat) (hb : b < w.heap.size) (hn : ¬ S b) : w'.cell? ⟨b, o, none⟩ = w.cell? ⟨b, o, none⟩ := World.cell?_of_block (a := ⟨b, o, none⟩) (h.block b hb hn)

theorem heap_set {w : World} {g j : Nat} {cs : Array Value} {t : TypeId} {fr : Nat × Nat} (h : w.heap[g]? = some (.cells cs t fr)) (v : Value) : (w.setCell ⟨g, j, none⟩ v).heap[g]? = some (.cells (cs.setIfInBounds j v) t fr) := by
  simp [World.setCell, Array.getElem?_modify, h]
theorem heap_set_ne {w : World} {g j b : Nat} (v : Value) (h : b ≠ g) : (w.setCell ⟨g, j, none⟩ v).heap[b]? = w.heap[b]? := Below.heap_setCell w ⟨g, j, none⟩ v b h

/-- One block is turned, no other. -/
structure Turned (w w' : World) (b : Nat) (cs : Array Value) (t : TypeId) : Prop where
  blk : w'.heap[b]? = some (.cells cs t (0, 0))
  only : Only (fun k => k = b) w w'
  size : w'.heap.size = w.heap.size

section leaves
set_option maxHeartbeats 400000
set_option maxRecDepth 10000

theorem f184_any (w : World) (b : Nat) (x y : Int) (z : Bool) (h : w.heap[b]? = some (.cells #[.int .i64 x, .int .i64 y, .bool z] 215 (0, 0))) :
    Calls Tryz.prog 184 #[ptr b] w fun e w' => e = .returned (.tuple #[]) ∧ Turned w w' b #[.int .i64 x, .int .i64 1000000000001, .bool true] 215 := by
  have c1 := cells_at h 1
  have c2 := cells_at h 2
  have hlt := heap_lt h
  have hf1 : w.frozen? ⟨b, 1, none⟩ = false := by simp [World.frozen?, h]
  have h2 := heap_set (j := 1) h (.int .i64 1000000000001)
  have hf2 : (w.setCell ⟨b, 1, none⟩ (.int .i64 1000000000001)).frozen? ⟨b, 2, none⟩ = false := by simp [World.frozen?, h2]
  unfold ptr
  go_enter Tryz.func184, Tryz.ntmps184
  go_wp2_with fail
  go_returns
  have h3 := heap_set (j := 2) h2 (.bool true)
  exact ⟨rfl, by simpa using h3, Only.setCell (S := fun k => k = b) (p := ⟨b, 2, none⟩) (Only.setCell (S := fun k => k = b) (p := ⟨b, 1, none⟩) (Only.refl _ _) (fun _ => rfl) _) (fun _ => rfl) _, by simp⟩
end leaves
end Go.Proofs.YtimahogkcmmcnaaGreatDoor

namespace Go.Proofs.YtimahogkcmmcnaaGreatDoor
open Go.RowKit Go.Proofs.YtimahogkcmmcnaaGreatDoor.Cmps

section leaves
set_option maxHeartbeats 1000000
set_option maxRecDepth 10000

theorem f126_any (hm : Tryz.prog.follows .mixedOrders = true) (w : World) (b : Nat) (x y t : Int) (h : w.heap[b]? = some (.cells #[.int .i64 x, .int .i64 y, .bool false] 215 (0, 0)))
    (h1 : -1000000000000 ≤ t) (h2 : t ≤ 1000000000000) (h3 : 0 ≤ x) (h4 : x ≤ 1000000000) :
    Calls Tryz.prog 126 #[ptr b, .int .i64 t] w fun e w' => e = .returned (.tuple #[.bool (decide (t < y)), .int .i64 0]) ∧ Turned w w' b #[.int .i64 x, .int .i64 (max y (t - x + 1)), .bool false] 215 := by
  have mixed := hm
  have hv : validTime t = true := validTime_in (by omega) (by omega)
  have H174 := Lib.hid (f174_any t)
  rw [hv] at H174
  have c0 := cells_at h 0
  have c1 := cells_at h 1
  have c2 := cells_at h 2
  have hlt := heap_lt h
  have H125 := Lib.hid (f125_any w t y)
  generalize decide (t < y) = q at H125 ⊢
  unfold ptr
  clear hv
  go_enter Tryz.func126, Tryz.ntmps126
  go_wp2_with (first
    | (go_at_call 174; with_reducible refine (H174.out _).mono ?_; rintro e w1 ⟨rfl, rfl⟩)
    | (go_at_call 125; with_reducible refine H125.out.mono ?_; rintro e w1 ⟨rfl, rfl⟩))
  have hC0 : Only (fun k => k = b) w w.drew := (Only.refl _ _).drew
  refine wp_region_float 13 0 (fun W => Only (fun _ => False) w W) mixed (by kernel_rfl) ((Only.refl _ _).drew) ?_
  simp only [List.take_succ_cons, List.take_zero, List.drop_succ_cons, List.drop_zero]
  repeat (
    refine wpFloat_ex (fun K hK => ?_)
    apply Exists.intro
    refine ⟨fun W hW => ?_, ?_⟩
    · have hk := hW.cell
      clear hW
      go_simp
      rfl
    go_simp
    refine hK _ ?_
    clear hK K)
  refine wpFloat_nil ?_
  have e1 : IntKind.i64.wrap (t - x) = t - x := wrapI (by omega)
  have e2 : IntKind.i64.wrap (t - x + 1) = t - x + 1 := wrapI (by omega)
  simp only [e1, e2]
  have hd : w.drew.heap[b]? = some (.cells #[.int .i64 x, .int .i64 y, .bool false] 215 (0, 0)) := h
  have hf1 : w.drew.frozen? ⟨b, 1, none⟩ = false := by simp [World.frozen?, hd]
  have d1 : w.drew.cell? ⟨b, 1, none⟩ = some (.int .i64 y) := c1
  refine wpChain_step (fun K hK => ?_)
  go_simp
  refine hK _ _ rfl (fun h => by omega) ?_
  clear hK K
  refine wpChain_step (fun K hK => ?_)
  go_simp
  refine hK _ _ rfl (fun h => by omega) ?_
  clear hK K
  refine wpChain_step (fun K hK => ?_)
  go_simp
  refine hK _ _ rfl (fun h => by omega) ?_
  clear hK K
  have hz : (if y < t - x + 1 then t - x + 1 else y) = max y (t - x + 1) := by
    split <;> omega
  rw [hz]
  refine wpChain_nil ?_
  go_wp2_with fail
  go_ret2
  have h3' := heap_set (j := 1) h (.int .i64 (max y (t - x + 1)))
  simp at h3'
  exact ⟨rfl, h3', Only.drew (Only.setCell (S := fun k => k = b) (p := ⟨b, 1, none⟩) (Only.refl _ _) (fun _ => rfl) _), by simp⟩
end leaves
end Go.Proofs.YtimahogkcmmcnaaGreatDoor

namespace Go.Proofs.YtimahogkcmmcnaaGreatDoor
open Go.RowKit Go.Proofs.YtimahogkcmmcnaaGreatDoor.Cmps

section leaves
set_option maxHeartbeats 400000
set_option maxRecDepth 10000

theorem f127_any (w : World) (b g : Nat) (sl : Bool) (r n : Nat) (a : Option Addr) (c : Nat) (x y : Int) (h1 : w.cell? ⟨b, 1, none⟩ = some (.slice a n c)) (h2 : w.cell? ⟨b, 2, none⟩ = some (.int .i64 r)) (h3 : w.cell? ⟨b, 3, none⟩ = some (.pointer (some ⟨g, 0, none⟩)))
    (h4 : w.cell? ⟨b, 4, none⟩ = some (.bool sl)) (hg : w.heap[g]? = some (.cells #[.int .i64 x, .int .i64 y, .bool false] 215 (0, 0))) :
    Calls Tryz.prog 127 #[ptr b] w fun e w' => e = .returned (.tuple #[]) ∧ Only (fun k => k = g) w w' ∧
      w'.heap[g]? = some (.cells #[.int .i64 x, .int .i64 (if (sl && ((r : Int) == (n : Int))) = true then 1000000000001 else y), .bool (sl && ((r : Int) == (n : Int)))] 215 (0, 0)) := by
  have H138 := Lib.hid (f138_any w b sl r n a c h1 h2 h4)
  have hb := cell_lt h1
  generalize (sl && ((r : Int) == (n : Int))) = q at H138 ⊢
  have HK : Hid (∀ w1, Below w.heap.size w w1 → w1.cell? ⟨b, 3, none⟩ = some (.pointer (some ⟨g, 0, none⟩)) ∧ Calls Tryz.prog 184 #[.pointer (some ⟨g, 0, none⟩)] w1 fun e w' => e = .returned (.tuple #[]) ∧ Turned w1 w' g #[.int .i64 x, .int .i64 1000000000001, .bool true] 215) :=
    fun w1 h => ⟨by rw [h.cell (p := ⟨b, 3, none⟩) hb]; exact h3, f184_any w1 g x y false ((h.block g (heap_lt hg)).trans hg)⟩
  have HG := Lib.hid hg
  clear h1 h2 h3 h4 hg
  unfold ptr at H138 ⊢
  cases q
  · go_enter Tryz.func127, Tryz.ntmps127
    go_wp2_with (go_at_call 138; with_reducible refine H138.out.mono ?_; rintro e w1 ⟨rfl, hb1⟩; have HB1 := Lib.hid hb1; clear hb1)
    go_returns
    exact ⟨rfl, Only.of_below HB1.out, by rw [HB1.out.block g (heap_lt HG.out)]; simpa using HG.out⟩
  · go_enter Tryz.func127, Tryz.ntmps127
    go_wp2_with (first
      | (go_at_call 138; with_reducible refine H138.out.mono ?_; rintro e w1 ⟨rfl, hb1⟩; obtain ⟨d3, hcl⟩ := HK.out w1 hb1; have HC := Lib.hid hcl; have HB1 := Lib.hid hb1; clear hb1 hcl)
      | (go_at_call 184; with_reducible refine HC.out.mono ?_; rintro e w2 ⟨rfl, ht⟩; have HT := Lib.hid ht; clear ht))
    go_returns
    exact ⟨rfl, (Only.of_below HB1.out).trans HT.out.only (fun _ _ h => h), by simpa using HT.out.blk⟩
end leaves
end Go.Proofs.YtimahogkcmmcnaaGreatDoor

