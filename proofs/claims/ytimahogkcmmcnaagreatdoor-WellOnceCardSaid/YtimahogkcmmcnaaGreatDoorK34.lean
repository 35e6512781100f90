/-
  The well, part 65: no mark goes back. Conditions: the well and the noted marks lie in the world as the words say. The well, part 66: reading noted: the plain part. No conditions but those stated. The well, part 67: reading noted. Conditions: the wells and the noted marks lie in the world as the words say. The well, part 69: what becomes of a well from act to act: the plain part. No conditions but those stated.
-/
import Derived.Test.YtimahogkcmmcnaaGreatDoorK29
set_option linter.unusedSimpArgs false
set_option linter.unusedVariables false

namespace Go.Proofs.YtimahogkcmmcnaaGreatDoor
open Go.RowKit Go.Proofs.YtimahogkcmmcnaaGreatDoor.Cmps

/-- A block of numbers. -/
def IntsB (w : World) (b : Nat) (l : List Int) : Prop := w.heap[b]? = some (.cells (l.map (Value.int .i64)).toArray 3 (0, 0))

theorem IntsB.cell {w : World} {b : Nat} {l : List Int} (h : IntsB w b l) {i : Nat} (hi : i < l.length) : w.cell? ⟨b, i, none⟩ = some (.int .i64 l[i]) := by
  rw [cell_of_row w b i _ 3 (0, 0) h]
  simp [hi]
theorem IntsB.set {w : World} {b : Nat} {l : List Int} (h : IntsB w b l) (i : Nat) (v : Int) : IntsB (w.setCell ⟨b, i, none⟩ (.int .i64 v)) b (l.set i v) := by
  have h1 := heap_set h (j := i) (v := .int .i64 v)
  unfold IntsB
  rw [h1, List.map_set]
  simp
theorem IntsB.mute {w : World} {b : Nat} {l : List Int} (h : IntsB w b l) : Mute w b := by
  refine ⟨_, _, _, h, fun i x hx => ?_⟩
  simp at hx
theorem IntsB.frozen {w : World} {b : Nat} {l : List Int} (h : IntsB w b l) (o : Nat) : w.frozen? ⟨b, o, none⟩ = false := by
  unfold IntsB at h
  simp [World.frozen?, h]

section leaves
set_option maxHeartbeats 1000000
set_option maxRecDepth 10000

theorem f21_any (hm : Tryz.prog.follows .mixedOrders = true) (w : World) (col : Nat → Nat) (s : List Col) (ws : WS) (m : WlM) (bm : Nat) (l : List Int) (h : WAt w col s ws m) (hok : WOk m) (hb : IntsB w bm l) (hc : col bm = 0) (hl : l.length = m.marks.length)
    (hle : ∀ i (h1 : i < l.length) (h2 : i < m.marks.length), l[i] ≤ m.marks[i]) :
    Calls Tryz.prog 21 #[ptr ws.W, .slice (some ⟨bm, 0, none⟩) l.length l.length] w fun e w' => e = .returned (.bool true) ∧ IntsB w' bm m.marks ∧ Only (fun x => x = bm) w w' := by
  have mixed := hm
  have h16 := hok.hi
  have hbl := heap_lt hb
  have HW : Hid (∀ W, Only (fun x => x = bm) w W → WAt W col s ws m) := fun W ho => h.turn hb.mute hc hbl ho
  have HOK := Lib.hid hok
  have HLE := Lib.hid hle
  have HB := Lib.hid hb
  have HLN := Lib.hid hl
  clear h hok hle hb hm hl
  unfold ptr
  go_enter Tryz.func21, Tryz.ntmps21
  go_wp2_with fail
  go_loopw [5] (fun i wr => ∃ k : Nat, k ≤ l.length ∧ i = .int .i64 k ∧ Hid (IntsB wr bm (m.marks.take k ++ l.drop k)) ∧ Hid (Only (fun x => x = bm) w wr)) (fun i _ => l.length - (intOf i).toNat)
  case atStart => exact ⟨0, by omega, rfl, Lib.hid (by simpa using HB.out), Lib.hid (Only.refl _ _)⟩
  case round =>
    obtain ⟨k, hk, rfl, hbk, hor⟩ := hrel
    have hl := HLN.out
    by_cases hlt : k < l.length
    · have hlm : k < m.marks.length := by omega
      have hlen : (m.marks.take k ++ l.drop k).length = l.length := by simp; omega
      have hcur : (m.marks.take k ++ l.drop k)[k]'(by omega) = l[k] := by
        rw [List.getElem_append_right (by simp; omega)]
        have : (m.marks.take k).length = k := by simp; omega
        simp [this]
      have hle := HLE.out k hlt hlm
      obtain ⟨old, hold⟩ : ∃ v, l[k] = v := ⟨_, rfl⟩
      have hmk : markI m k = m.marks[k] := markI_in hlm
      obtain ⟨mk, hmk'⟩ : ∃ v, m.marks[k] = v := ⟨_, rfl⟩
      rw [hmk'] at hmk hle
      rw [hold] at hle hcur
      have HNX : Hid (m.marks.take (k + 1) ++ l.drop (k + 1) = (m.marks.take k ++ l.drop k).set k mk) := by
        show _ = _
        rw [List.set_append_right _ _ (by simp; omega), ← List.take_append_getElem hlm, hmk']
        have : (m.marks.take k).length = k := by simp; omega
        rw [this, Nat.sub_self, List.append_assoc]
        congr 1
        rw [List.drop_eq_getElem_cons hlt]
        rfl
      have H18 : Hid (∀ W, Only (fun x => x = bm) w W → Calls Tryz.prog 18 #[.pointer (some ⟨ws.W, 0, none⟩), .int .i64 k] W fun e w' => e = .returned (.int .i64 mk) ∧ W = w') := fun W ho => by
        have h := f18_any W col s ws m k (HW.out _ ho) HOK.out
        rw [hmk] at h
        exact h
      have c0 : wr.cell? ⟨bm, k, none⟩ = some (.int .i64 old) := by rw [hbk.out.cell (by omega), hcur]
      have hkl : (k : Int) < (l.length : Int) := by omega
      have hk0 : (0 : Int) ≤ (k : Int) := by omega
      have hnl : ¬ mk < old := by omega
      have hC : IntsB wr.drew bm (m.marks.take k ++ l.drop k) ∧ Only (fun x => x = bm) w wr.drew := ⟨hbk.out, hor.out.drew⟩
      have HCELL : Hid (∀ W, IntsB W bm (m.marks.take k ++ l.drop k) → W.cell? ⟨bm, k, none⟩ = some (.int .i64 old)) := fun W hW => by rw [hW.cell (by omega), hcur]
      clear c0 hmk hmk' hold hcur hlen hl
      go_wp2_with fail
      refine wp_region_seq 8 (fun W => IntsB W bm (m.marks.take k ++ l.drop k) ∧ Only (fun x => x = bm) w W) mixed (by kernel_rfl) (fun hg => ?_)
      refine seq_read hg 0 rfl (by kernel_rfl) (by first | rfl | (simp [Region.wanted, yielded]; done)) hC (fun K hK => ?_)
      apply Exists.intro
      refine ⟨fun W hW => ?_, ?_⟩
      · go_simp
        rfl
      go_simp
      refine hK _ ?_
      clear hK K
      refine seq_read hg 1 rfl (by kernel_rfl) (by first | rfl | (simp [Region.wanted, yielded]; done)) hC (fun K hK => ?_)
      apply Exists.intro
      refine ⟨fun W hW => ?_, ?_⟩
      · go_simp
        rfl
      go_simp
      refine hK _ ?_
      clear hK K
      refine seq_read hg 3 rfl (by kernel_rfl) (by first | rfl | (simp [Region.wanted, yielded]; done)) hC (fun K hK => ?_)
      apply Exists.intro
      refine ⟨fun W hW => ?_, ?_⟩
      · go_simp
        rfl
      go_simp
      refine hK _ ?_
      clear hK K
      refine seq_read hg 4 rfl (by kernel_rfl) (by first | rfl | (simp [Region.wanted, yielded]; done)) hC (fun K hK => ?_)
      apply Exists.intro
      refine ⟨fun W hW => ?_, ?_⟩
      · go_simp
        rfl
      go_simp
      refine hK _ ?_
      clear hK K
      refine seq_read hg 5 rfl (by kernel_rfl) (by first | rfl | (simp [Region.wanted, yielded]; done)) hC (fun K hK => ?_)
      apply Exists.intro
      refine ⟨fun W hW => ?_, ?_⟩
      · go_simp
        rfl
      go_simp
      refine hK _ ?_
      clear hK K
      refine seq_read hg 6 rfl (by kernel_rfl) (by first | rfl | (simp [Region.wanted, yielded]; done)) hC (fun K hK => ?_)
      apply Exists.intro
      refine ⟨fun W hW => ?_, ?_⟩
      · have q1 := HCELL.out W hW.1
        go_simp
        rfl
      go_simp
      refine hK _ ?_
      clear hK K
      refine seq_one 2 (by kernel_rfl) rfl (by first | rfl | (simp [Region.wanted, yielded]; done)) (fun K hK => ?_)
      go_simp
      go_at_call 18
      refine (H18.out _ hC.2).mono ?_
      rintro e w9 ⟨rfl, rfl⟩
      refine hK _ _ rfl hC ?_
      clear hK K
      refine seq_read hg 7 rfl (by kernel_rfl) (by first | rfl | (simp [Region.wanted, yielded]; done)) hC (fun K hK => ?_)
      apply Exists.intro
      refine ⟨fun W hW => ?_, ?_⟩
      · go_simp
        rfl
      go_simp
      refine hK _ ?_
      clear hK K
      refine seq_end (by kernel_rfl) ?_
      have c1 := HCELL.out _ hC.1
      have hf := hC.1.frozen k
      have HB5 := Lib.hid hC.1
      have HO5 := Lib.hid hC.2
      clear hC
      go_wp2_with (go_at_call 18; (with_reducible refine (H18.out _ HO5.out).mono ?_); rintro e w2 ⟨rfl, rfl⟩)
      go_roundw
      case rel =>
        refine ⟨k + 1, by omega, by go_num, Lib.hid ?_, Lib.hid (HO5.out.setCell (p := ⟨bm, k, none⟩) (fun _ => rfl) _)⟩
        rw [HNX.out]
        exact HB5.out.set k mk
      case measure => simp [intOf]; omega
    · have hkl : ¬ (k : Int) < (l.length : Int) := by omega
      clear hl
      go_wp2_with fail
      go_ret
      refine ⟨rfl, ?_, hor.out⟩
      have h1 := hbk.out
      have hl := HLN.out
      rwa [List.take_of_length_le (by omega), List.drop_of_length_le (by omega), List.append_nil] at h1
end leaves
end Go.Proofs.YtimahogkcmmcnaaGreatDoor

namespace Go.Proofs.YtimahogkcmmcnaaGreatDoor
open Go.RowKit Go.Proofs.YtimahogkcmmcnaaGreatDoor.Cmps

/-- No two splits have one name. -/
def Uniq (m : WlM) : Prop := ∀ i j (hi : i < m.splits.length) (hj : j < m.splits.length), m.splits[i].name = m.splits[j].name → i = j

theorem marks_rise (m : WlM) (q i : Nat) (hi : i < m.marks.length) : m.marks[i] ≤ (risenM m q).marks[i]'(by rw [risenM_len]; exact hi) := by
  unfold risenM
  split
  · rename_i hc
    simp only [Bool.and_eq_true, decide_eq_true_eq] at hc
    by_cases e : q = i
    · subst e
      have := hc.2
      simp [List.getD, hi] at this
      simp; omega
    · simp [List.getElem_set, e]
  · exact Int.le_refl _

/-- What a reading is: none, or the next of a split. -/
theorem readR_or (m : WlM) (r : Int) : (readR m r).2.2 ≠ 0 ∨ ∃ (q k : Nat) (hq : q < m.marks.length) (hk : k < m.splits.length) (hlt : m.splits[k].read < m.splits[k].evs.length) (mk2 : Int), r = q ∧ (m.splits[k].owner : Int) = r ∧ m.marks[q] ≤ mk2 ∧
    (readR m r).1 = readM m k m.splits[k] (m.splits[k].evs[m.splits[k].read]) q ∧ (readR m r).2 = (⟨q, m.splits[k].name, m.splits[k].evs[m.splits[k].read], decide ((m.splits[k].evs[m.splits[k].read]).t < m.marks[q]), mk2⟩, 0) := by
  cases hb : isB m.marks.length r with
  | false => left; simp [readR, hb]
  | true =>
    have hq : ∃ q : Nat, r = q ∧ q < m.marks.length := by
      simp only [isB, Bool.and_eq_true, decide_eq_true_eq] at hb
      exact ⟨r.toNat, by omega, by omega⟩
    obtain ⟨q, rfl, hq⟩ := hq
    cases hn : nextN m.splits q m.splits.length with
    | none => left; simp [readR, hb, hn]
    | some p =>
      obtain ⟨k, n⟩ := p
      obtain ⟨hk, -, hrn, hne, hown⟩ := nextN_some (Nat.le_refl _) hn
      have hlt : m.splits[k].read < m.splits[k].evs.length := by omega
      have h := readR_some hq hk hlt hn
      right
      refine ⟨q, k, hq, hk, hlt, (readM m k m.splits[k] (m.splits[k].evs[m.splits[k].read]) q).marks.getD q 0, rfl, hown, ?_, by rw [h], ?_⟩
      · unfold readM
        have h1 := marks_rise { m.setS k (seenS m.bound m.splits[k] (m.splits[k].evs[m.splits[k].read]).t) with late := if (m.splits[k].evs[m.splits[k].read]).t < m.marks.getD q 0 then m.late ++ [m.splits[k].evs[m.splits[k].read]] else m.late } q q hq
        have h2 : q < (risenM { m.setS k (seenS m.bound m.splits[k] (m.splits[k].evs[m.splits[k].read]).t) with late := if (m.splits[k].evs[m.splits[k].read]).t < m.marks.getD q 0 then m.late ++ [m.splits[k].evs[m.splits[k].read]] else m.late } q).marks.length := by rw [risenM_len]; exact hq
        rw [List.getD, List.getElem?_eq_getElem h2, Option.getD_some]
        exact h1
      · rw [h]
        simp [List.getD, hq]

/-- The late ones, counted. -/
def lateI (m : WlM) (r late : Int) : Int := if ((readR m r).2.2 == 0 && (readR m r).2.1.late) = true then late + 1 else late

theorem ret45_4 {fn : Func} {p u v x : Tmp} (h : fn.results = #[.cell p 45, .tmp u, .tmp v, .tmp x]) (tmps : Array Value) (w : World) (g : Nat) {a b c d e f : Value} (hg : w.heap[g]? = some (.cells #[a, b, c, d, e, f] 45 (0, 0))) (hp : tmps.getD p undef = .pointer (some ⟨g, 0, none⟩)) :
    (results fn tmps).run Tryz.prog w = .ok (.tuple #[.agg #[a, b, c, d, e, f], tmps.getD u undef, tmps.getD v undef, tmps.getD x undef]) w := by
  have hl := run_loadVar_row (P := Tryz.prog) w g 45 45 #[a, b, c, d, e, f] (0, 0) _ hg Tryz.underlying45 rfl size45
  have hp' : tmps[p]?.getD undef = .pointer (some ⟨g, 0, none⟩) := by simpa using hp
  simp [results, h, hp', asAddr, hl]
end Go.Proofs.YtimahogkcmmcnaaGreatDoor

namespace Go.Proofs.YtimahogkcmmcnaaGreatDoor
open Go.RowKit Go.Proofs.YtimahogkcmmcnaaGreatDoor.Cmps

section leaves
set_option maxHeartbeats 4000000
set_option maxRecDepth 100000

theorem f20_err (hm : Tryz.prog.follows .mixedOrders = true) (w : World) (col : Nat → Nat) (D : Nat → Prop) (s : List Col) (ws : WS) (m : WlM) (p : RS) (r late : Int) (bm : Nat) (hD : ∀ b, D b → Calm w col b) (h : WAt w col s ws m) (hr : RefAt w D s m p) (hg : Good m) (hne : (readR m r).2.2 ≠ 0) (hb : IntsB w bm m.marks) (hc : col bm = 0) (hl0 : 0 ≤ late) (hl1 : late ≤ 1000) :
    Calls Tryz.prog 20 #[ptr ws.W, refV m p, .int .i64 r, .slice (some ⟨bm, 0, none⟩) m.marks.length m.marks.length, .int .i64 late] w fun e w' => ∃ p', e = .returned (.tuple #[refV (readR m r).1 p', .int .i64 (lateI m r late), .bool ((readR m r).2.2 == 0), .bool true]) ∧ DidTo w col D s ws.W (readR m r).1 p' w' := by
  have mixed := hm
  obtain ⟨sch, ⟨sa, sc⟩, ⟨ma, mc⟩, back⟩ := p
  obtain ⟨sha, shc, rfl⟩ : ∃ a c, sch = .slice a s.length c := by obtain ⟨a, c, e, _⟩ := hr.sch; exact ⟨a, c, e⟩
  obtain ⟨ba, bc, rfl⟩ : ∃ a c, back = .slice a m.late.length c := by obtain ⟨a, c, e, _⟩ := hr.back; exact ⟨a, c, e⟩
  have hX4 : ((w.alloc (.cells #[.slice sha s.length shc, .int .i64 m.bound, .slice sa m.splits.length sc, .slice ma m.marks.length mc, .bool m.sealed, .slice ba m.late.length bc] 45)).alloc (.cells #[.slice none 0 0, .int .i64 0, .slice none 0 0, .slice none 0 0, .bool false, .slice none 0 0] 45)).heap[w.heap.size]? = some (.cells #[.slice sha s.length shc, .int .i64 m.bound, .slice sa m.splits.length sc, .slice ma m.marks.length mc, .bool m.sealed, .slice ba m.late.length bc] 45 (0, 0)) := alloc_keep (heap_alloc_new _ _)
  have hX10 : ((w.alloc (.cells #[.slice sha s.length shc, .int .i64 m.bound, .slice sa m.splits.length sc, .slice ma m.marks.length mc, .bool m.sealed, .slice ba m.late.length bc] 45)).alloc (.cells #[.slice none 0 0, .int .i64 0, .slice none 0 0, .slice none 0 0, .bool false, .slice none 0 0] 45)).heap[w.heap.size + 1]? = some (.cells #[.slice none 0 0, .int .i64 0, .slice none 0 0, .slice none 0 0, .bool false, .slice none 0 0] 45 (0, 0)) := new_snd w _ _
  have hB1 : Below w.heap.size w ((w.alloc (.cells #[.slice sha s.length shc, .int .i64 m.bound, .slice sa m.splits.length sc, .slice ma m.marks.length mc, .bool m.sealed, .slice ba m.late.length bc] 45)).alloc (.cells #[.slice none 0 0, .int .i64 0, .slice none 0 0, .slice none 0 0, .bool false, .slice none 0 0] 45)) := ((Below.refl _ _).alloc (Nat.le_refl _) _).alloc (by simp) _
  have hZ1 : ((w.alloc (.cells #[.slice sha s.length shc, .int .i64 m.bound, .slice sa m.splits.length sc, .slice ma m.marks.length mc, .bool m.sealed, .slice ba m.late.length bc] 45)).alloc (.cells #[.slice none 0 0, .int .i64 0, .slice none 0 0, .slice none 0 0, .bool false, .slice none 0 0] 45)).heap.size = w.heap.size + 2 := by simp
  have H60 := Lib.hid (f60_any ((w.alloc (.cells #[.slice sha s.length shc, .int .i64 m.bound, .slice sa m.splits.length sc, .slice ma m.marks.length mc, .bool m.sealed, .slice ba m.late.length bc] 45)).alloc (.cells #[.slice none 0 0, .int .i64 0, .slice none 0 0, .slice none 0 0, .bool false, .slice none 0 0] 45)) col s ws m (h.below hB1) hg.ok)
  have H := Lib.hid h
  have HR := Lib.hid hr
  have HG := Lib.hid hg
  have HD := Lib.hid hD
  have HIB := Lib.hid hb
  have hc0 := h.c0
  have HC0 : Hid (∀ b, w.heap.size ≤ b → col b = 0) := fun b hb => by
    by_cases e : col b = 0
    · exact e
    · have := hc0 b e; omega
  have HX4 := Lib.hid hX4; have HX10 := Lib.hid hX10; have HB1 := Lib.hid hB1; have HZ1 := Lib.hid hZ1
  skip
  clear h hr hg hD hb hc0 hX4 hX10 hB1 hZ1
  go_enter Tryz.func20, Tryz.ntmps20
  go_wp2_with fail
  generalize hw1 : ((w.alloc (.cells #[.slice sha s.length shc, .int .i64 m.bound, .slice sa m.splits.length sc, .slice ma m.marks.length mc, .bool m.sealed, .slice ba m.late.length bc] 45)).alloc (.cells #[.slice none 0 0, .int .i64 0, .slice none 0 0, .slice none 0 0, .bool false, .slice none 0 0] 45)) = w1 at H60 HX4 HX10 HB1 HZ1 ⊢
  clear hw1
  go_at_call 60
  refine H60.out.mono ?_
  rintro e w2 ⟨v1, v2, rfl, htx, hnm, hb2⟩
  have hz1 := HZ1.out
  have HB2 := Lib.hid hb2
  have HTX := Lib.hid htx; have HNM := Lib.hid hnm
  have hBw2 := HB1.out.trans (hb2.mono HB1.out.size)
  have HBW2 := Lib.hid hBw2
  have h43 := f43_any hm w2 col s ws m r (H.out.below hBw2) HG.out.ok HG.out.row
  unfold ptr at h43
  have H43 := Lib.hid h43
  have hz2 := hb2.size
  clear htx hnm hb2 hBw2 h43 H60
  unfold ptr
  go_wp2_with fail
  go_at_call 43
  refine H43.out.mono ?_
  rintro e w3 ⟨col5, ws5, rv, hws, hwa5, hwent, hrv, rfl⟩
  have hkeep : ∀ b, w.heap.size ≤ b → b < w2.heap.size → w3.heap[b]? = w2.heap[b]? := fun b h1 h2 => hwent.only.block b h2 (fun hn => hn (HC0.out b h1))
  have Y4 := Lib.hid ((hkeep _ (Nat.le_refl _) (by omega)).trans ((HB2.out.block _ (by omega)).trans HX4.out))
  have Y10 := Lib.hid ((hkeep (w.heap.size + 1) (by omega) (by omega)).trans ((HB2.out.block _ (by omega)).trans HX10.out))
  have WW := Lib.hid hwa5; have WE := Lib.hid hwent
  have hcalm : ∀ b, D b → b < w.heap.size → w3.heap[b]? = w.heap[b]? := fun b hb hl => (hwent.only.block b (by omega) (fun hn => hn (HD.out b hb).2)).trans (HBW2.out.block b hl)
  have R3 := Lib.hid (HR.out.keep hcalm)
  have TX := Lib.hid (HTX.out.keep fun b hb hl => hkeep b (by omega) hl)
  have NM := Lib.hid (HNM.out.keep fun b hb hl => hkeep b (by omega) hl)
  have hbml := heap_lt HIB.out
  have IB : Hid (IntsB w3 bm m.marks) := (hwent.only.block bm (by omega) (fun hn => hn hc)).trans ((HBW2.out.block bm hbml).trans HIB.out)
  clear hwa5 hwent hcalm H43 HTX HNM
  have hz3 := WE.out.only.size
  obtain ⟨m', hm'⟩ : ∃ v, (readR m r).1 = v := ⟨_, rfl⟩
  rw [hm'] at WW
  obtain ⟨rd, hrd⟩ : ∃ v, (readR m r).2.1 = v := ⟨_, rfl⟩
  obtain ⟨er, her⟩ : ∃ v, (readR m r).2.2 = v := ⟨_, rfl⟩
  have HRDA : Hid ((readR m r).2 = (rd, er)) := by show _ = _; rw [← hrd, ← her]
  rw [hrd] at hrv
  rw [hrd, her]
  rw [her] at hne
  have hne' : (er != 0) = true := by simpa using hne
  have hne2 : (er == 0) = false := by simpa using hne
  have HLT : Hid (lateI m r late = late) := by show _ = _; unfold lateI; rw [her, hne2]; rfl
  have HNE2 : Hid (((readR m r).2.2 == 0) = false) := by show _ = _; rw [her, hne2]
  clear hrd her hne hne2
  obtain ⟨va, vc, rfl⟩ : ∃ a c, rv = .slice a rd.ev.r.length c := by obtain ⟨a, c, e, _⟩ := hrv; exact ⟨a, c, e⟩
  have H58 : Hid (∀ W, Below w3.heap.size w3 W → Calls Tryz.prog 58 #[.agg #[.slice sha s.length shc, .int .i64 m.bound, .slice sa m.splits.length sc, .slice ma m.marks.length mc, .bool m.sealed, .slice ba m.late.length bc], .int .i64 r] W (NextTo W D s (readR m r))) := fun W hb => f58_any hm W D s m ⟨.slice sha s.length shc, (sa, sc), (ma, mc), .slice ba m.late.length bc⟩ r (R3.out.below hb) HG.out.ok HG.out.row
  have HM := Lib.hid hm'
  have HV := Lib.hid hrv
  clear hm' hrv hm
  have X16 : Hid ((w3.alloc (.cells #[.int .i64 rd.reader, .string rd.split, .int .i64 rd.ev.t, .slice va rd.ev.r.length vc, .bool rd.late, .int .i64 rd.mark] 90)).heap[w3.heap.size]? = some (.cells #[.int .i64 rd.reader, .string rd.split, .int .i64 rd.ev.t, .slice va rd.ev.r.length vc, .bool rd.late, .int .i64 rd.mark] 90 (0, 0))) := heap_alloc_new w3 _
  have B4 : Hid (Below w3.heap.size w3 (w3.alloc (.cells #[.int .i64 rd.reader, .string rd.split, .int .i64 rd.ev.t, .slice va rd.ev.r.length vc, .bool rd.late, .int .i64 rd.mark] 90))) := (Below.refl _ _).alloc (Nat.le_refl _) _
  have Z4 : Hid ((w3.alloc (.cells #[.int .i64 rd.reader, .string rd.split, .int .i64 rd.ev.t, .slice va rd.ev.r.length vc, .bool rd.late, .int .i64 rd.mark] 90)).heap.size = w3.heap.size + 1) := by show _ = _; simp
  have Y4' := Lib.hid ((B4.out.block _ (heap_lt Y4.out)).trans Y4.out)
  obtain ⟨y0, y1, y2, y3, y4, y5, -⟩ := box45_cells Y4'.out
  skip
  go_wp2_with fail
  generalize w3.alloc (.cells #[.int .i64 rd.reader, .string rd.split, .int .i64 rd.ev.t, .slice va rd.ev.r.length vc, .bool rd.late, .int .i64 rd.mark] 90) = w4 at X16 B4 Z4 Y4' y0 y1 y2 y3 y4 y5 ⊢
  go_at_call 58
  refine (H58.out _ B4.out).mono ?_
  rintro e w5 ⟨p', rv2, he, hr6, hrow6, hb6⟩
  rw [HM.out, HRDA.out] at he
  rw [HM.out] at hr6
  rw [HRDA.out] at hrow6
  subst he
  obtain ⟨sch', ⟨sa', sc'⟩, ⟨ma', mc'⟩, back'⟩ := p'
  obtain ⟨sha', shc', rfl⟩ : ∃ a c, sch' = .slice a s.length c := by obtain ⟨a, c, e, _⟩ := hr6.sch; exact ⟨a, c, e⟩
  obtain ⟨ba', bc', rfl⟩ : ∃ a c, back' = .slice a m'.late.length c := by obtain ⟨a, c, e, _⟩ := hr6.back; exact ⟨a, c, e⟩
  obtain ⟨ua, uc, rfl⟩ : ∃ a c, rv2 = .slice a rd.ev.r.length c := by obtain ⟨a, c, e, _⟩ := hrow6; exact ⟨a, c, e⟩
  have HR6 := Lib.hid hr6
  have HB6 := Lib.hid hb6
  clear hr6 hb6 hrow6 y0 y1 y2 y3 y4 y5 H58
  obtain ⟨w1000, hw1000⟩ : ∃ q : Nat, q = 0 := ⟨0, rfl⟩
  have hz4 := Z4.out
  have hz5 := HB6.out.size
  have X18 : Hid (((w5.alloc (.cells #[.slice sha' s.length shc', .int .i64 m'.bound, .slice sa' m'.splits.length sc', .slice ma' m'.marks.length mc', .bool m'.sealed, .slice ba' m'.late.length bc'] 45)).alloc (.cells #[.int .i64 rd.reader, .string rd.split, .int .i64 rd.ev.t, .slice ua rd.ev.r.length uc, .bool rd.late, .int .i64 rd.mark] 116)).heap[w5.heap.size]? = some (.cells #[.slice sha' s.length shc', .int .i64 m'.bound, .slice sa' m'.splits.length sc', .slice ma' m'.marks.length mc', .bool m'.sealed, .slice ba' m'.late.length bc'] 45 (0, 0))) := alloc_keep (heap_alloc_new w5 _)
  have B6 : Hid (Below w5.heap.size w5 ((w5.alloc (.cells #[.slice sha' s.length shc', .int .i64 m'.bound, .slice sa' m'.splits.length sc', .slice ma' m'.marks.length mc', .bool m'.sealed, .slice ba' m'.late.length bc'] 45)).alloc (.cells #[.int .i64 rd.reader, .string rd.split, .int .i64 rd.ev.t, .slice ua rd.ev.r.length uc, .bool rd.late, .int .i64 rd.mark] 116))) := ((Below.refl _ _).alloc (Nat.le_refl _) _).alloc (by simp) _
  have Z6 : Hid (((w5.alloc (.cells #[.slice sha' s.length shc', .int .i64 m'.bound, .slice sa' m'.splits.length sc', .slice ma' m'.marks.length mc', .bool m'.sealed, .slice ba' m'.late.length bc'] 45)).alloc (.cells #[.int .i64 rd.reader, .string rd.split, .int .i64 rd.ev.t, .slice ua rd.ev.r.length uc, .bool rd.late, .int .i64 rd.mark] 116)).heap.size = w5.heap.size + 2) := by show _ = _; simp
  have B36 : Hid (Below w3.heap.size w3 ((w5.alloc (.cells #[.slice sha' s.length shc', .int .i64 m'.bound, .slice sa' m'.splits.length sc', .slice ma' m'.marks.length mc', .bool m'.sealed, .slice ba' m'.late.length bc'] 45)).alloc (.cells #[.int .i64 rd.reader, .string rd.split, .int .i64 rd.ev.t, .slice ua rd.ev.r.length uc, .bool rd.late, .int .i64 rd.mark] 116))) := B4.out.trans ((HB6.out.trans (B6.out.mono hz5)).mono (by omega))
  have X10 := Lib.hid ((B36.out.block _ (heap_lt Y10.out)).trans Y10.out)
  have R6 := Lib.hid (HR6.out.below B6.out)
  obtain ⟨x0, x1, x2, x3, x4, x5, -⟩ := box45_cells X18.out
  obtain ⟨r0, r1, r2, r3, r4, r5, rf⟩ := box45_cells X10.out
  go_wp2_with fail
  have hF : (fill45 ((w5.alloc (.cells #[.slice sha' s.length shc', .int .i64 m'.bound, .slice sa' m'.splits.length sc', .slice ma' m'.marks.length mc', .bool m'.sealed, .slice ba' m'.late.length bc'] 45)).alloc (.cells #[.int .i64 rd.reader, .string rd.split, .int .i64 rd.ev.t, .slice ua rd.ev.r.length uc, .bool rd.late, .int .i64 rd.mark] 116)) (w.heap.size + 1) (.slice sha' s.length shc') (.int .i64 m'.bound) (.slice sa' m'.splits.length sc') (.slice ma' m'.marks.length mc') (.bool m'.sealed) (.slice ba' m'.late.length bc')).heap[w.heap.size + 1]? = some (.cells #[.slice sha' s.length shc', .int .i64 m'.bound, .slice sa' m'.splits.length sc', .slice ma' m'.marks.length mc', .bool m'.sealed, .slice ba' m'.late.length bc'] 45 (0, 0)) := box45_fill (w := ((w5.alloc (.cells #[.slice sha' s.length shc', .int .i64 m'.bound, .slice sa' m'.splits.length sc', .slice ma' m'.marks.length mc', .bool m'.sealed, .slice ba' m'.late.length bc'] 45)).alloc (.cells #[.int .i64 rd.reader, .string rd.split, .int .i64 rd.ev.t, .slice ua rd.ev.r.length uc, .bool rd.late, .int .i64 rd.mark] 116))) (g := w.heap.size + 1) X10.out _ _ _ _ _ _
  unfold fill45 at hF
  refine bodyPost_ret (ret45_4 rfl _ _ (w.heap.size + 1) hF rfl) rfl ?_
  clear hF
  rw [HM.out, HLT.out, HNE2.out]
  refine ⟨⟨.slice sha' s.length shc', (sa', sc'), (ma', mc'), .slice ba' m'.late.length bc'⟩, rfl, ?_⟩
  have oF : Only (fun b => b = w.heap.size + 1) ((w5.alloc (.cells #[.slice sha' s.length shc', .int .i64 m'.bound, .slice sa' m'.splits.length sc', .slice ma' m'.marks.length mc', .bool m'.sealed, .slice ba' m'.late.length bc'] 45)).alloc (.cells #[.int .i64 rd.reader, .string rd.split, .int .i64 rd.ev.t, .slice ua rd.ev.r.length uc, .bool rd.late, .int .i64 rd.mark] 116)) (fill45 ((w5.alloc (.cells #[.slice sha' s.length shc', .int .i64 m'.bound, .slice sa' m'.splits.length sc', .slice ma' m'.marks.length mc', .bool m'.sealed, .slice ba' m'.late.length bc'] 45)).alloc (.cells #[.int .i64 rd.reader, .string rd.split, .int .i64 rd.ev.t, .slice ua rd.ev.r.length uc, .bool rd.late, .int .i64 rd.mark] 116)) (w.heap.size + 1) (.slice sha' s.length shc') (.int .i64 m'.bound) (.slice sa' m'.splits.length sc') (.slice ma' m'.marks.length mc') (.bool m'.sealed) (.slice ba' m'.late.length bc')) := (Only.refl (fun b => b = w.heap.size + 1) ((w5.alloc (.cells #[.slice sha' s.length shc', .int .i64 m'.bound, .slice sa' m'.splits.length sc', .slice ma' m'.marks.length mc', .bool m'.sealed, .slice ba' m'.late.length bc'] 45)).alloc (.cells #[.int .i64 rd.reader, .string rd.split, .int .i64 rd.ev.t, .slice ua rd.ev.r.length uc, .bool rd.late, .int .i64 rd.mark] 116))).fill (g := w.heap.size + 1) (fun _ => rfl) _ _ _ _ _ _
  have B39 := B36.out
  have hz39 := B39.size
  have hcol5 : ∀ b, w.heap.size ≤ b → b < w2.heap.size → col5 b = 0 := fun b h1 h2 => (WE.out.colE b h2).trans (HC0.out b h1)
  have hcolN : ∀ b, w3.heap.size ≤ b → col5 b = 0 := fun b h1 => by
    by_cases e : col5 b = 0
    · exact e
    · have := WW.out.c0 b e; omega
  rw [← hws]
  refine did_end (D := D) (w7 := ((w5.alloc (.cells #[.slice sha' s.length shc', .int .i64 m'.bound, .slice sa' m'.splits.length sc', .slice ma' m'.marks.length mc', .bool m'.sealed, .slice ba' m'.late.length bc'] 45)).alloc (.cells #[.int .i64 rd.reader, .string rd.split, .int .i64 rd.ev.t, .slice ua rd.ev.r.length uc, .bool rd.late, .int .i64 rd.mark] 116))) (col7 := col5) (D7 := Plus D w4 w5) (b6 := w.heap.size + 1) (WW.out.below B39) R6.out ?_ X10.out (hcol5 _ (by omega) (by omega)) (((Went.below HBW2.out).trans WE.out).trans (Went.below B39)) (by omega) oF
  intro b hb
  rcases hb with hb | hb
  · have h1 := (HD.out b hb).1
    exact ⟨by omega, (WE.out.colE b (by omega)).trans (HD.out b hb).2, by omega, .inl hb⟩
  · exact ⟨by have := B39.size; have := B6.out.size; omega, hcolN b (by omega), by omega, .inr (by omega)⟩

end leaves
end Go.Proofs.YtimahogkcmmcnaaGreatDoor

namespace Go.Proofs.YtimahogkcmmcnaaGreatDoor
open Go.RowKit Go.Proofs.YtimahogkcmmcnaaGreatDoor.Cmps

/-- A later well: as many readers, no mark went back. -/
structure Later (m m' : WlM) : Prop where
  len : m'.marks.length = m.marks.length
  marks : ∀ i (h : i < m.marks.length) (h' : i < m'.marks.length), m.marks[i] ≤ m'.marks[i]

theorem Later.refl (m : WlM) : Later m m := ⟨rfl, fun _ _ _ => Int.le_refl _⟩
theorem Later.trans {a b c : WlM} (h : Later a b) (g : Later b c) : Later a c :=
  ⟨g.len.trans h.len, fun i h1 h2 => Int.le_trans (h.marks i h1 (by rw [h.len]; exact h1)) (g.marks i _ h2)⟩
theorem Later.same {m m' : WlM} (h : m'.marks = m.marks) : Later m m' := ⟨by rw [h], fun i h1 h2 => by simp [h]⟩
theorem later_risen (m : WlM) (q : Nat) : Later m (risenM m q) := ⟨risenM_len m q, fun i h1 _ => marks_rise m q i h1⟩
theorem later_marked (m : WlM) (n : Nat) : Later m (markedM m n) := by
  induction n with
  | zero => exact Later.refl m
  | succ n ih => rw [markedM_succ]; exact ih.trans (later_risen _ _)
theorem Later.risen {a b : WlM} (e : b.marks = a.marks) (q : Nat) : Later a (risenM b q) := (Later.same e).trans (later_risen b q)
theorem Later.marked {a b : WlM} (e : b.marks = a.marks) (n : Nat) : Later a (markedM b n) := (Later.same e).trans (later_marked b n)
theorem markedM_splits (m : WlM) (n : Nat) : (markedM m n).splits = m.splits := by
  induction n with
  | zero => rfl
  | succ n ih => rw [markedM_succ, risenM_splits, ih]
theorem markedM_late (m : WlM) (n : Nat) : (markedM m n).late = m.late := by
  induction n with
  | zero => rfl
  | succ n ih => rw [markedM_succ, risenM_late, ih]

theorem findI_none {l : List SpM} {n : ByteArray} (h : findI l n < 0) : ∀ x ∈ l, x.name ≠ n := by
  intro x hx e
  unfold findI idxI at h
  split at h
  · rename_i i hi; omega
  · rename_i hn
    rw [List.findIdx?_eq_none_iff] at hn
    have := hn x hx
    rw [e] at this
    have h2 : eqS n n = true := eqS_true.mpr rfl
    rw [h2] at this
    cases this

theorem uniq_of {l : List SpM} : (∀ i j (hi : i < l.length) (hj : j < l.length), l[i].name = l[j].name → i = j) ↔ (l.map SpM.name).Nodup := by
  unfold List.Nodup
  rw [List.pairwise_iff_getElem]
  constructor
  · intro h i j hi hj hij e
    have := h i j (by simpa using hi) (by simpa using hj) (by simpa using e)
    omega
  · intro h i j hi hj e
    rcases Nat.lt_trichotomy i j with hij | hij | hij
    · exact absurd (by rw [List.getElem_map, List.getElem_map]; exact e) (h i j (by simpa using hi) (by simpa using hj) hij)
    · exact hij
    · exact absurd (by rw [List.getElem_map, List.getElem_map]; exact e.symm) (h j i (by simpa using hj) (by simpa using hi) hij)

theorem Uniq.names {m m' : WlM} (h : Uniq m) (e : m'.splits.map SpM.name = m.splits.map SpM.name) : Uniq m' := by
  unfold Uniq at *
  rw [uniq_of] at h ⊢
  rw [e]; exact h
theorem names_set {l : List SpM} {k : Nat} (hk : k < l.length) {x : SpM} (h : x.name = l[k].name) : (l.set k x).map SpM.name = l.map SpM.name := by
  rw [List.map_set, h]
  have : (l.map SpM.name)[k]'(by simpa using hk) = l[k].name := by simp
  rw [← this, List.set_getElem_self]
theorem Uniq.setS {m : WlM} (h : Uniq m) {k : Nat} (hk : k < m.splits.length) {x : SpM} (e : x.name = m.splits[k].name) : Uniq (m.setS k x) :=
  h.names (names_set hk e)
theorem Uniq.risen {m : WlM} (h : Uniq m) (q : Nat) : Uniq (risenM m q) := h.names (by rw [risenM_splits])

/-- A step: later, names stay apart, the late ones are as they were. -/
structure Step0 (m m' : WlM) : Prop where
  later : Later m m'
  uniq : Uniq m → Uniq m'
  late : m'.late = m.late

theorem Step0.refl (m : WlM) : Step0 m m := ⟨Later.refl m, id, rfl⟩

theorem findR_step {s : List Col} {m : WlM} {n : ByteArray} {l : List Evt} : Step0 m (findR s m n l).1 := by
  unfold findR
  split
  · rename_i he
    refine ⟨Later.same rfl, fun hu => ?_, rfl⟩
    have hf : findI m.splits n < 0 := by
      unfold findE at he
      split at he
      · omega
      · split at he
        · omega
        · omega
    have hn := findI_none hf
    unfold Uniq at *
    rw [uniq_of] at hu ⊢
    show ((m.splits ++ [_]).map SpM.name).Nodup
    rw [List.map_append, List.nodup_append]
    refine ⟨hu, by simp, fun a ha b hb => ?_⟩
    obtain ⟨x, hx, rfl⟩ := List.mem_map.1 ha
    simp at hb
    rw [hb]; exact hn x hx
  · exact Step0.refl m

theorem moreR_step {s : List Col} {m : WlM} {n : ByteArray} {l : List Evt} : Step0 m (moreR s m n l).1 := by
  unfold moreR
  split
  · exact Step0.refl m
  · split
    · exact Step0.refl m
    · split
      · exact Step0.refl m
      · rename_i x hx
        split
        · exact Step0.refl m
        · split
          · exact Step0.refl m
          · obtain ⟨hk, e⟩ := List.getElem?_eq_some_iff.1 hx
            exact ⟨Later.same rfl, fun hu => hu.setS hk (by rw [e]), rfl⟩

theorem sealR_step {m : WlM} {n : ByteArray} : Step0 m (sealR m n).1 := by
  unfold sealR
  split
  · exact Step0.refl m
  · split
    · exact Step0.refl m
    · rename_i x hx
      split
      · exact Step0.refl m
      · obtain ⟨hk, e⟩ := List.getElem?_eq_some_iff.1 hx
        exact ⟨Later.risen (a := m) (b := m.setS (findI m.splits n).toNat { x with sealed := true }) rfl _, fun hu => (hu.setS hk (by rw [e])).risen _, risenM_late _ _⟩

theorem sealAllR_step {m : WlM} : Step0 m (sealAllR m).1 := by
  unfold sealAllR
  split
  · exact Step0.refl m
  · exact ⟨Later.marked (a := m) (b := { m with sealed := true }) rfl _, fun hu => hu.names (by show (markedM _ _).splits.map _ = _; rw [markedM_splits]), markedM_late _ _⟩

theorem act_step {s : List Col} {m : WlM} {x : ActM} (h : kindI x < 4) (h0 : 0 ≤ kindI x) : Step0 m (actR s m x) := by
  unfold actR
  split
  · exact findR_step
  · split
    · exact moreR_step
    · split
      · exact sealR_step
      · split
        · exact sealAllR_step
        · omega
/-- Nothing read: nothing turns. -/
theorem readR_none {m : WlM} {r : Int} (h : (readR m r).2.2 ≠ 0) : (readR m r).1 = m := by
  unfold readR at h ⊢
  by_cases hb : isB m.marks.length r = false
  · rw [if_pos hb]
  · rw [if_neg hb] at h ⊢
    cases hn : nextN m.splits r m.splits.length with
    | none => rfl
    | some p =>
      rw [hn] at h
      dsimp only at h ⊢
      cases hx : m.splits[p.1]? with
      | none => rfl
      | some x =>
        rw [hx] at h
        dsimp only at h ⊢
        cases hy : x.evs[x.read]? with
        | none => rfl
        | some y =>
          rw [hy] at h
          exact absurd rfl h

theorem leftI_set {l : List SpM} {k : Nat} (h : k < l.length) (x : SpM) (r : Int) : leftI (l.set k x) r + (if ((l[k].owner : Int) == r) = true then (l[k].evs.length : Int) - l[k].read else 0) = leftI l r + (if ((x.owner : Int) == r) = true then (x.evs.length : Int) - x.read else 0) := by
  induction l generalizing k with
  | nil => simp at h
  | cons y l ih =>
    cases k with
    | zero => simp [leftI]; omega
    | succ k =>
      have := ih (k := k) (by simpa using h)
      simp only [leftI, List.set_cons_succ, List.map_cons, List.sum_cons, List.getElem_cons_succ] at this ⊢
      omega

/-- Something read: later, names stay apart; the late ones are counted; one is less left of the reader, of others as many. -/
structure StepR (m m' : WlM) (r late : Int) : Prop where
  later : Later m m'
  uniq : Uniq m → Uniq m'
  late : late = m.late.length → lateI m r late = m'.late.length
  left : ∀ j : Int, leftI m'.splits j = if (readR m r).2.2 = 0 ∧ j = r then leftI m.splits j - 1 else leftI m.splits j

theorem read_step (m : WlM) (r late : Int) : StepR m (readR m r).1 r late := by
  rcases readR_or m r with h | ⟨q, k, hq, hk, hlt, mk2, hr, how, hmk, h1, h2⟩
  · have hm := readR_none h
    rw [hm]
    refine ⟨Later.refl m, id, fun e => ?_, fun j => by rw [if_neg (fun hh => h hh.1)]⟩
    unfold lateI
    have : ((readR m r).2.2 == 0) = false := by simpa using h
    rw [this]; exact e
  · have h3 : (readR m r).2.2 = 0 := by rw [h2]
    rw [h1]
    have hsp : (readM m k m.splits[k] (m.splits[k].evs[m.splits[k].read]) q).splits = m.splits.set k (seenS m.bound m.splits[k] (m.splits[k].evs[m.splits[k].read]).t) := by unfold readM; rw [risenM_splits]; rfl
    have hla : (readM m k m.splits[k] (m.splits[k].evs[m.splits[k].read]) q).late = if (m.splits[k].evs[m.splits[k].read]).t < m.marks.getD q 0 then m.late ++ [m.splits[k].evs[m.splits[k].read]] else m.late := by unfold readM; rw [risenM_late]
    refine ⟨Later.risen (a := m) (b := { m.setS k (seenS m.bound m.splits[k] (m.splits[k].evs[m.splits[k].read]).t) with late := if (m.splits[k].evs[m.splits[k].read]).t < m.marks.getD q 0 then m.late ++ [m.splits[k].evs[m.splits[k].read]] else m.late }) rfl _, fun hu => hu.names (by rw [hsp]; exact names_set hk rfl), fun e => ?_, fun j => ?_⟩
    · rw [hla]
      unfold lateI
      have hg : m.marks.getD q 0 = m.marks[q] := by simp [List.getD, hq]
      rw [h2, hg]
      by_cases hd : (m.splits[k].evs[m.splits[k].read]).t < m.marks[q]
      · simp [hd]; omega
      · simp [hd]; exact e
    · rw [hsp]
      have h4 := leftI_set hk (seenS m.bound m.splits[k] (m.splits[k].evs[m.splits[k].read]).t) j
      have e1 : (seenS m.bound m.splits[k] (m.splits[k].evs[m.splits[k].read]).t).owner = m.splits[k].owner := rfl
      have e2 : (seenS m.bound m.splits[k] (m.splits[k].evs[m.splits[k].read]).t).evs = m.splits[k].evs := rfl
      have e3 : (seenS m.bound m.splits[k] (m.splits[k].evs[m.splits[k].read]).t).read = m.splits[k].read + 1 := rfl
      rw [e1, e2, e3] at h4
      by_cases hj : j = r
      · rw [if_pos ⟨h3, hj⟩]
        subst hj
        have : ((m.splits[k].owner : Int) == j) = true := by simpa using how
        rw [if_pos this, if_pos this] at h4
        push_cast at h4
        omega
      · rw [if_neg (fun hh => hj hh.2)]
        have : ¬ (((m.splits[k].owner : Int) == j) = true) := by simp; omega
        rw [if_neg this, if_neg this] at h4
        omega

theorem nextN_zero {l : List SpM} {r : Int} {k : Nat} (hk : k ≤ l.length) (h : nextN l r k = none) : ∀ j (hj : j < l.length), j < k → (l[j].owner : Int) = r → l[j].evs.length ≤ l[j].read := by
  induction k with
  | zero => intro j _ hj; omega
  | succ k ih =>
    rw [nextN_succ (by omega)] at h
    intro j hj hjk ho
    unfold nextStep at h
    split at h
    · cases h
    · rename_i hc
      by_cases e : j = k
      · subst e
        rw [h] at hc
        simp only [lessO, Bool.and_true, Bool.and_eq_true, decide_eq_true_eq, beq_iff_eq] at hc
        have hc2 : ¬ ((l[j].owner : Int) = r ∧ l[j].read < l[j].evs.length) := hc
        have := fun hh => hc2 ⟨ho, hh⟩
        omega
      · exact ih (by omega) h j hj (by omega) ho

theorem leftI_zero {l : List SpM} {r : Int} (h1 : ∀ x ∈ l, x.read ≤ x.evs.length) (h2 : ∀ x ∈ l, (x.owner : Int) = r → x.evs.length ≤ x.read) : leftI l r = 0 := by
  induction l with
  | nil => rfl
  | cons x l ih =>
    have e1 : leftI (x :: l) r = (if ((x.owner : Int) == r) = true then (x.evs.length : Int) - x.read else 0) + leftI l r := by simp only [leftI, List.map_cons, List.sum_cons]
    rw [e1, ih (fun y hy => h1 y (List.mem_cons_of_mem _ hy)) (fun y hy => h2 y (List.mem_cons_of_mem _ hy))]
    have a1 := h1 x (List.mem_cons_self ..)
    have a2 := h2 x (List.mem_cons_self ..)
    split
    · rename_i hc
      have := a2 (by simpa using hc)
      omega
    · rfl

/-- Nothing read of a reader that is there: nothing is left of it. -/
theorem read_none_left {m : WlM} {q : Nat} (hg : Good m) (hq : q < m.marks.length) (h : (readR m q).2.2 ≠ 0) : leftI m.splits q = 0 := by
  have hn : nextN m.splits q m.splits.length = none := by
    cases hx : nextN m.splits q m.splits.length with
    | none => rfl
    | some p =>
      obtain ⟨k, n⟩ := p
      obtain ⟨hk, -, hrn, hne, hown⟩ := nextN_some (Nat.le_refl _) hx
      have hlt : m.splits[k].read < m.splits[k].evs.length := by omega
      rw [readR_some hq hk hlt hx] at h
      exact absurd rfl h
  refine leftI_zero hg.ok.read fun x hx ho => ?_
  obtain ⟨j, hj, rfl⟩ := List.mem_iff_getElem.1 hx
  exact nextN_zero (Nat.le_refl _) hn j hj hj ho

theorem newM_uniq (b : Int) (n : Nat) : Uniq (newM b n) := fun i j hi _ _ => absurd hi (by simp [newM])

/-- What is left of a reader is within bounds. -/
theorem left_bound {m : WlM} (hg : Good m) (r : Int) : 0 ≤ leftI m.splits r ∧ leftI m.splits r ≤ 400 := by
  have h1 := leftI_bound r hg.ok.read
  have h2 := hg.ok.all
  omega
end Go.Proofs.YtimahogkcmmcnaaGreatDoor

