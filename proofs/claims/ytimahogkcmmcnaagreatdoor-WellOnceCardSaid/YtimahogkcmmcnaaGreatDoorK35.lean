/-
  The well, part 68: reading noted, where something is read. Conditions: the wells and the noted marks lie in the world as the words say.
-/
import Derived.Test.YtimahogkcmmcnaaGreatDoorK34
set_option linter.unusedSimpArgs false
set_option linter.unusedVariables false

namespace Go.Proofs.YtimahogkcmmcnaaGreatDoor
open Go.RowKit Go.Proofs.YtimahogkcmmcnaaGreatDoor.Cmps

/-- What may come now and is passed over; the state behind it may be reckoned. -/
theorem seq_pass {P : Program} {ops : Array Oper} {C : World → Prop} {Q : Exit → Act → World → Prop} {n : Nat} {done : List Nat} {a : Act} {w : World} (hg : GameG ops []) {o : Oper} (i : Nat) (ho : ops[i]? = some o) (hf : (freeRest ops [] done).contains i = true) (hw : Region.wanted o (yielded ops a.tmps) = false) (hC : C w)
    (h : ∀ K : Act → Prop, (∀ a', wpSeq P ops C Q n (i :: done) a' w → K a') → K (a.put o.dst undef)) : wpSeq P ops C Q (n + 1) done a w :=
  seq_skip hg i ho hf hw hC (h _ fun _ h => h)

section leaves
set_option maxHeartbeats 4000000
set_option maxRecDepth 100000

theorem f20_late (hm : Tryz.prog.follows .mixedOrders = true) (w : World) (col : Nat → Nat) (D : Nat → Prop) (s : List Col) (ws : WS) (m : WlM) (p : RS) (late : Int) (bm : Nat) (hD : ∀ b, D b → Calm w col b) (h : WAt w col s ws m) (hr : RefAt w D s m p) (hg : Good m) (hu : Uniq m) (q k : Nat) (hq : q < m.marks.length) (hk : k < m.splits.length) (hlt : m.splits[k].read < m.splits[k].evs.length) (mk2 : Int) (hmk : m.marks[q] ≤ mk2) (h2 : (readR m q).2 = (⟨q, m.splits[k].name, m.splits[k].evs[m.splits[k].read], true, mk2⟩, 0)) (hLT : decide ((m.splits[k].evs[m.splits[k].read]).t < m.marks[q]) = true) (hb : IntsB w bm m.marks) (hc : col bm = 0) (hl0 : 0 ≤ late) (hl1 : late ≤ 1000) :
    Calls Tryz.prog 20 #[ptr ws.W, refV m p, .int .i64 (q : Int), .slice (some ⟨bm, 0, none⟩) m.marks.length m.marks.length, .int .i64 late] w fun e w' => ∃ p', e = .returned (.tuple #[refV (readR m (q : Int)).1 p', .int .i64 (lateI m (q : Int) late), .bool ((readR m (q : Int)).2.2 == 0), .bool true]) ∧ DidTo w col D s ws.W (readR m (q : Int)).1 p' w' := by
  have mixed := hm
  obtain ⟨sch, ⟨sa, sc⟩, ⟨ma, mc⟩, back⟩ := p
  obtain ⟨sha, shc, rfl⟩ : ∃ a c, sch = .slice a s.length c := by obtain ⟨a, c, e, _⟩ := hr.sch; exact ⟨a, c, e⟩
  obtain ⟨ba, bc, rfl⟩ : ∃ a c, back = .slice a m.late.length c := by obtain ⟨a, c, e, _⟩ := hr.back; exact ⟨a, c, e⟩
  have hX4 : ((w.alloc (.cells #[.slice sha s.length shc, .int .i64 m.bound, .slice sa m.splits.length sc, .slice ma m.marks.length mc, .bool m.sealed, .slice ba m.late.length bc] 45)).alloc (.cells #[.slice none 0 0, .int .i64 0, .slice none 0 0, .slice none 0 0, .bool false, .slice none 0 0] 45)).heap[w.heap.size]? = some (.cells #[.slice sha s.length shc, .int .i64 m.bound, .slice sa m.splits.length sc, .slice ma m.marks.length mc, .bool m.sealed, .slice ba m.late.length bc] 45 (0, 0)) := alloc_keep (heap_alloc_new _ _)
  have hX10 : ((w.alloc (.cells #[.slice sha s.length shc, .int .i64 m.bound, .slice sa m.splits.length sc, .slice ma m.marks.length mc, .bool m.sealed, .slice ba m.late.length bc] 45)).alloc (.cells #[.slice none 0 0, .int .i64 0, .slice none 0 0, .slice none 0 0, .bool false, .slice none 0 0] 45)).heap[w.heap.size + 1]? = some (.cells #[.slice none 0 0, .int .i64 0, .slice none 0 0, .slice none 0 0, .bool false, .slice none 0 0] 45 (0, 0)) := new_snd w _ _
  have hB1 : Below w.heap.size w ((w.alloc (.cells #[.slice sha s.length shc, .int .i64 m.bound, .slice sa m.splits.length sc, .slice ma m.marks.length mc, .bool m.sealed, .slice ba m.late.length bc] 45)).alloc (.cells #[.slice none 0 0, .int .i64 0, .slice none 0 0, .slice none 0 0, .bool false, .slice none 0 0] 45)) := ((Below.refl _ _).alloc (Nat.le_refl _) _).alloc (by simp) _
  have hZ1 : ((w.alloc (.cells #[.slice sha s.length shc, .int .i64 m.bound, .slice sa m.splits.length sc, .slice ma m.marks.length mc, .bool m.sealed, .slice ba m.late.length bc] 45)).alloc (.cells #[.slice none 0 0, .int .i64 0, .slice none 0 0, .slice none 0 0, .bool false, .slice none 0 0] 45)).heap.size = w.heap.size + 2 := by simp
  have H60 := Lib.hid (f60_any ((w.alloc (.cells #[.slice sha s.length shc, .int .i64 m.bound, .slice sa m.splits.length sc, .slice ma m.marks.length mc, .bool m.sealed, .slice ba m.late.length bc] 45)).alloc (.cells #[.slice none 0 0, .int .i64 0, .slice none 0 0, .slice none 0 0, .bool false, .slice none 0 0] 45)) col s ws m (h.below hB1) hg.ok)
  have H := Lib.hid h
  have HR := Lib.hid hr
  have HG := Lib.hid hg
  have HD := Lib.hid hD
  have HIB := Lib.hid hb
  have hc0 := h.c0
  have HC0 : Hid (∀ b, w.heap.size ≤ b → col b = 0) := fun b hb => by
    by_cases e : col b = 0
    · exact e
    · have := hc0 b e; omega
  have HX4 := Lib.hid hX4; have HX10 := Lib.hid hX10; have HB1 := Lib.hid hB1; have HZ1 := Lib.hid hZ1
  obtain ⟨y, hy⟩ : ∃ v, m.splits[k].evs[m.splits[k].read] = v := ⟨_, rfl⟩
  obtain ⟨nm, hnm⟩ : ∃ v, m.splits[k].name = v := ⟨_, rfl⟩
  obtain ⟨rk, hrk⟩ : ∃ v, m.splits[k].read = v := ⟨_, rfl⟩
  obtain ⟨ne, hne⟩ : ∃ v, m.splits[k].evs.length = v := ⟨_, rfl⟩
  obtain ⟨mk, hmk1⟩ : ∃ v, m.marks[q] = v := ⟨_, rfl⟩
  have HY : Hid (∃ h : m.splits[k].read < m.splits[k].evs.length, m.splits[k].evs[m.splits[k].read] = y) := ⟨hlt, hy⟩
  rw [hy, hnm] at h2
  rw [hy, hmk1] at hLT
  rw [hrk, hne] at hlt
  rw [hmk1] at hmk
  have HNM0 := Lib.hid hnm; have HRK := Lib.hid hrk; have HNE := Lib.hid hne; have HMK1 := Lib.hid hmk1
  have HU := Lib.hid hu
  have HRDA : Hid ((readR m q).2 = (⟨q, nm, y, true, mk2⟩, 0)) := h2
  have HLT : Hid (lateI m q late = late + 1) := by show _ = _; unfold lateI; rw [h2]; rfl
  have HNE2 : Hid (((readR m q).2.2 == 0) = true) := by show _ = _; rw [h2]; rfl
  have h50 := HG.out.ok.splits
  have h400 : ne ≤ 400 := by
    have h1 := HG.out.ok.all
    have h3 := allN_take hk
    have h4 := allN_le m.splits (k + 1)
    omega
  have h16 := HG.out.ok.hi
  clear hy hnm hrk hne hmk1 hu h2
  clear h hr hg hD hb hc0 hX4 hX10 hB1 hZ1
  go_enter Tryz.func20, Tryz.ntmps20
  go_wp2_with fail
  generalize hw1 : ((w.alloc (.cells #[.slice sha s.length shc, .int .i64 m.bound, .slice sa m.splits.length sc, .slice ma m.marks.length mc, .bool m.sealed, .slice ba m.late.length bc] 45)).alloc (.cells #[.slice none 0 0, .int .i64 0, .slice none 0 0, .slice none 0 0, .bool false, .slice none 0 0] 45)) = w1 at H60 HX4 HX10 HB1 HZ1 ⊢
  clear hw1
  go_at_call 60
  refine H60.out.mono ?_
  rintro e w2 ⟨v1, v2, rfl, htx, hnm, hb2⟩
  have hz1 := HZ1.out
  have HB2 := Lib.hid hb2
  have HTX := Lib.hid htx; have HNM := Lib.hid hnm
  have hBw2 := HB1.out.trans (hb2.mono HB1.out.size)
  have HBW2 := Lib.hid hBw2
  have h43 := f43_any hm w2 col s ws m (q : Int) (H.out.below hBw2) HG.out.ok HG.out.row
  unfold ptr at h43
  have H43 := Lib.hid h43
  have hz2 := hb2.size
  clear htx hnm hb2 hBw2 h43 H60
  unfold ptr
  go_wp2_with fail
  go_at_call 43
  refine H43.out.mono ?_
  rintro e w3 ⟨col5, ws5, rv, hws, hwa5, hwent, hrv, rfl⟩
  have hkeep : ∀ b, w.heap.size ≤ b → b < w2.heap.size → w3.heap[b]? = w2.heap[b]? := fun b h1 h2 => hwent.only.block b h2 (fun hn => hn (HC0.out b h1))
  have Y4 := Lib.hid ((hkeep _ (Nat.le_refl _) (by omega)).trans ((HB2.out.block _ (by omega)).trans HX4.out))
  have Y10 := Lib.hid ((hkeep (w.heap.size + 1) (by omega) (by omega)).trans ((HB2.out.block _ (by omega)).trans HX10.out))
  have WW := Lib.hid hwa5; have WE := Lib.hid hwent
  have hcalm : ∀ b, D b → b < w.heap.size → w3.heap[b]? = w.heap[b]? := fun b hb hl => (hwent.only.block b (by omega) (fun hn => hn (HD.out b hb).2)).trans (HBW2.out.block b hl)
  have R3 := Lib.hid (HR.out.keep hcalm)
  have TX := Lib.hid (HTX.out.keep fun b hb hl => hkeep b (by omega) hl)
  have NM := Lib.hid (HNM.out.keep fun b hb hl => hkeep b (by omega) hl)
  have hbml := heap_lt HIB.out
  have IB : Hid (IntsB w3 bm m.marks) := (hwent.only.block bm (by omega) (fun hn => hn hc)).trans ((HBW2.out.block bm hbml).trans HIB.out)
  clear hwa5 hwent hcalm H43 HTX HNM
  have hz3 := WE.out.only.size
  obtain ⟨m', hm'⟩ : ∃ v, (readR m (q : Int)).1 = v := ⟨_, rfl⟩
  rw [hm'] at WW
  rw [show (readR m (q : Int)).2.1 = ⟨q, nm, y, true, mk2⟩ by rw [HRDA.out]] at hrv
  have hrd1 : rdV (readR m (q : Int)).2.1 rv = .agg #[.int .i64 (q : Int), .string nm, .int .i64 y.t, rv, .bool true, .int .i64 mk2] := by rw [HRDA.out]
  have hrd2 : (readR m (q : Int)).2.2 = 0 := by rw [HRDA.out]
  rw [hrd1, hrd2]
  clear hrd1 hrd2
  obtain ⟨va, vc, rfl⟩ : ∃ a c, rv = .slice a y.r.length c := by obtain ⟨a, c, e, _⟩ := hrv; exact ⟨a, c, e⟩
  have H58 : Hid (∀ W, Below w3.heap.size w3 W → Calls Tryz.prog 58 #[.agg #[.slice sha s.length shc, .int .i64 m.bound, .slice sa m.splits.length sc, .slice ma m.marks.length mc, .bool m.sealed, .slice ba m.late.length bc], .int .i64 (q : Int)] W (NextTo W D s (readR m (q : Int)))) := fun W hb => f58_any hm W D s m ⟨.slice sha s.length shc, (sa, sc), (ma, mc), .slice ba m.late.length bc⟩ (q : Int) (R3.out.below hb) HG.out.ok HG.out.row
  have HM := Lib.hid hm'
  have HV := Lib.hid hrv
  clear hm' hrv hm
  have X16 : Hid ((w3.alloc (.cells #[.int .i64 (q : Int), .string nm, .int .i64 y.t, .slice va y.r.length vc, .bool true, .int .i64 mk2] 90)).heap[w3.heap.size]? = some (.cells #[.int .i64 (q : Int), .string nm, .int .i64 y.t, .slice va y.r.length vc, .bool true, .int .i64 mk2] 90 (0, 0))) := heap_alloc_new w3 _
  have B4 : Hid (Below w3.heap.size w3 (w3.alloc (.cells #[.int .i64 (q : Int), .string nm, .int .i64 y.t, .slice va y.r.length vc, .bool true, .int .i64 mk2] 90))) := (Below.refl _ _).alloc (Nat.le_refl _) _
  have Z4 : Hid ((w3.alloc (.cells #[.int .i64 (q : Int), .string nm, .int .i64 y.t, .slice va y.r.length vc, .bool true, .int .i64 mk2] 90)).heap.size = w3.heap.size + 1) := by show _ = _; simp
  have Y4' := Lib.hid ((B4.out.block _ (heap_lt Y4.out)).trans Y4.out)
  obtain ⟨y0, y1, y2, y3, y4, y5, -⟩ := box45_cells Y4'.out
  skip
  go_wp2_with fail
  generalize w3.alloc (.cells #[.int .i64 (q : Int), .string nm, .int .i64 y.t, .slice va y.r.length vc, .bool true, .int .i64 mk2] 90) = w4 at X16 B4 Z4 Y4' y0 y1 y2 y3 y4 y5 ⊢
  go_at_call 58
  refine (H58.out _ B4.out).mono ?_
  rintro e w5 ⟨p', rv2, he, hr6, hrow6, hb6⟩
  rw [HM.out, HRDA.out] at he
  rw [HM.out] at hr6
  rw [HRDA.out] at hrow6
  subst he
  obtain ⟨sch', ⟨sa', sc'⟩, ⟨ma', mc'⟩, back'⟩ := p'
  obtain ⟨sha', shc', rfl⟩ : ∃ a c, sch' = .slice a s.length c := by obtain ⟨a, c, e, _⟩ := hr6.sch; exact ⟨a, c, e⟩
  obtain ⟨ba', bc', rfl⟩ : ∃ a c, back' = .slice a m'.late.length c := by obtain ⟨a, c, e, _⟩ := hr6.back; exact ⟨a, c, e⟩
  obtain ⟨ua, uc, rfl⟩ : ∃ a c, rv2 = .slice a y.r.length c := by obtain ⟨a, c, e, _⟩ := hrow6; exact ⟨a, c, e⟩
  have HR6 := Lib.hid hr6
  have HB6 := Lib.hid hb6
  have hrow6X := hrow6
  clear hr6 hb6 hrow6 y0 y1 y2 y3 y4 y5 H58
  have HRW6 := Lib.hid hrow6X
  have hz4 := Z4.out
  have hz5 := HB6.out.size
  have X18 : Hid (((w5.alloc (.cells #[.slice sha' s.length shc', .int .i64 m'.bound, .slice sa' m'.splits.length sc', .slice ma' m'.marks.length mc', .bool m'.sealed, .slice ba' m'.late.length bc'] 45)).alloc (.cells #[.int .i64 (q : Int), .string nm, .int .i64 y.t, .slice ua y.r.length uc, .bool true, .int .i64 mk2] 116)).heap[w5.heap.size]? = some (.cells #[.slice sha' s.length shc', .int .i64 m'.bound, .slice sa' m'.splits.length sc', .slice ma' m'.marks.length mc', .bool m'.sealed, .slice ba' m'.late.length bc'] 45 (0, 0))) := alloc_keep (heap_alloc_new w5 _)
  have B6 : Hid (Below w5.heap.size w5 ((w5.alloc (.cells #[.slice sha' s.length shc', .int .i64 m'.bound, .slice sa' m'.splits.length sc', .slice ma' m'.marks.length mc', .bool m'.sealed, .slice ba' m'.late.length bc'] 45)).alloc (.cells #[.int .i64 (q : Int), .string nm, .int .i64 y.t, .slice ua y.r.length uc, .bool true, .int .i64 mk2] 116))) := ((Below.refl _ _).alloc (Nat.le_refl _) _).alloc (by simp) _
  have Z6 : Hid (((w5.alloc (.cells #[.slice sha' s.length shc', .int .i64 m'.bound, .slice sa' m'.splits.length sc', .slice ma' m'.marks.length mc', .bool m'.sealed, .slice ba' m'.late.length bc'] 45)).alloc (.cells #[.int .i64 (q : Int), .string nm, .int .i64 y.t, .slice ua y.r.length uc, .bool true, .int .i64 mk2] 116)).heap.size = w5.heap.size + 2) := by show _ = _; simp
  have B36 : Hid (Below w3.heap.size w3 ((w5.alloc (.cells #[.slice sha' s.length shc', .int .i64 m'.bound, .slice sa' m'.splits.length sc', .slice ma' m'.marks.length mc', .bool m'.sealed, .slice ba' m'.late.length bc'] 45)).alloc (.cells #[.int .i64 (q : Int), .string nm, .int .i64 y.t, .slice ua y.r.length uc, .bool true, .int .i64 mk2] 116))) := B4.out.trans ((HB6.out.trans (B6.out.mono hz5)).mono (by omega))
  have X10 := Lib.hid ((B36.out.block _ (heap_lt Y10.out)).trans Y10.out)
  have R6 := Lib.hid (HR6.out.below B6.out)
  go_wp2_with fail
  have X16' := Lib.hid (((HB6.out.trans (B6.out.mono hz5)).block _ (heap_lt X16.out)).trans X16.out)
  have X4' := Lib.hid ((B36.out.block _ (heap_lt Y4.out)).trans Y4.out)
  have IB6 : Hid (IntsB ((w5.alloc (.cells #[.slice sha' s.length shc', .int .i64 m'.bound, .slice sa' m'.splits.length sc', .slice ma' m'.marks.length mc', .bool m'.sealed, .slice ba' m'.late.length bc'] 45)).alloc (.cells #[.int .i64 (q : Int), .string nm, .int .i64 y.t, .slice ua y.r.length uc, .bool true, .int .i64 mk2] 116)) bm m.marks) := (B36.out.block _ (heap_lt IB.out)).trans IB.out
  have TX6 := Lib.hid (TX.out.below B36.out)
  have NM6 := Lib.hid (NM.out.below B36.out)
  have RO6 := Lib.hid (R3.out.below B36.out)
  have HV6 := Lib.hid (HV.out.below B36.out)
  have BW6 := Lib.hid B36.out
  obtain ⟨na, nc, hv1⟩ : ∃ a c, v1 = .slice a m.splits.length c := by obtain ⟨a, c, e, _⟩ := TX6.out; exact ⟨a, c, by rw [e, List.length_map]⟩
  obtain ⟨oa, oc, hv2⟩ : ∃ a c, v2 = .slice a m.splits.length c := by obtain ⟨a, c, e, _⟩ := NM6.out; exact ⟨a, c, by rw [e, List.length_map]⟩
  subst hv1 hv2
  have hz6 := Z6.out
  clear X16 Y4 Y4' IB TX NM B4
  generalize ((w5.alloc (.cells #[.slice sha' s.length shc', .int .i64 m'.bound, .slice sa' m'.splits.length sc', .slice ma' m'.marks.length mc', .bool m'.sealed, .slice ba' m'.late.length bc'] 45)).alloc (.cells #[.int .i64 (q : Int), .string nm, .int .i64 y.t, .slice ua y.r.length uc, .bool true, .int .i64 mk2] 116)) = w6 at X18 X10 R6 B6 B36 BW6 X16' X4' IB6 TX6 NM6 RO6 HV6 hz6 ⊢
  have HF6 : Hid (∀ W, Below w6.heap.size w6 W → W.cell? ⟨w3.heap.size, 0, none⟩ = some (.int .i64 (q : Int)) ∧ W.cell? ⟨w3.heap.size, 1, none⟩ = some (.string nm) ∧ W.cell? ⟨w3.heap.size, 2, none⟩ = some (.int .i64 y.t) ∧ W.cell? ⟨w3.heap.size, 3, none⟩ = some (.slice va y.r.length vc) ∧ W.cell? ⟨w3.heap.size, 4, none⟩ = some (.bool true) ∧ W.cell? ⟨w3.heap.size, 5, none⟩ = some (.int .i64 mk2) ∧ W.cell? ⟨bm, q, none⟩ = some (.int .i64 mk)) := fun W hb => by
    obtain ⟨g0, g1, g2, g3, g4, g5, -⟩ := box6_cells ((hb.block _ (heap_lt X16'.out)).trans X16'.out)
    have h1 : IntsB W bm m.marks := (hb.block _ (heap_lt IB6.out)).trans IB6.out
    exact ⟨g0, g1, g2, g3, g4, g5, by rw [h1.cell hq, HMK1.out]⟩
  have hql : (q : Int) < (m.marks.length : Int) := by omega
  have hqg : ¬ (m.marks.length : Int) ≤ (q : Int) := by omega
  have hq0 : (0 : Int) ≤ (q : Int) := by omega
  have hqn : ¬ (q : Int) < 0 := by omega
  have hmn : ¬ mk2 < mk := by omega
  have hC : Below w6.heap.size w6 w6.drew := (Below.refl _ _).drew
  refine wp_region_seq 36 (fun W => Below w6.heap.size w6 W) mixed (by kernel_rfl) (fun hg => ?_)
  refine seq_read hg 0 rfl (by kernel_rfl) (by first | rfl | (simp [Region.wanted, yielded]; done)) hC (fun K hK => ?_)
  apply Exists.intro
  refine ⟨fun W hW => ?_, ?_⟩
  · go_simp
    rfl
  go_simp
  refine hK _ ?_
  clear hK K
  refine seq_read hg 1 rfl (by kernel_rfl) (by first | rfl | (simp [Region.wanted, yielded]; done)) hC (fun K hK => ?_)
  apply Exists.intro
  refine ⟨fun W hW => ?_, ?_⟩
  · go_simp
    rfl
  go_simp
  refine hK _ ?_
  clear hK K
  refine seq_read hg 2 rfl (by kernel_rfl) (by first | rfl | (simp [Region.wanted, yielded]; done)) hC (fun K hK => ?_)
  apply Exists.intro
  refine ⟨fun W hW => ?_, ?_⟩
  · go_simp
    rfl
  go_simp
  refine hK _ ?_
  clear hK K
  refine seq_read hg 3 rfl (by kernel_rfl) (by first | rfl | (simp [Region.wanted, yielded]; done)) hC (fun K hK => ?_)
  apply Exists.intro
  refine ⟨fun W hW => ?_, ?_⟩
  · go_simp
    rfl
  go_simp
  refine hK _ ?_
  clear hK K
  refine seq_read hg 4 rfl (by kernel_rfl) (by first | rfl | (simp [Region.wanted, yielded]; done)) hC (fun K hK => ?_)
  apply Exists.intro
  refine ⟨fun W hW => ?_, ?_⟩
  · go_simp
    rfl
  go_simp
  refine hK _ ?_
  clear hK K
  refine seq_read hg 5 rfl (by kernel_rfl) (by first | rfl | (simp [Region.wanted, yielded]; done)) hC (fun K hK => ?_)
  apply Exists.intro
  refine ⟨fun W hW => ?_, ?_⟩
  · go_simp
    rfl
  go_simp
  refine hK _ ?_
  clear hK K
  refine seq_read hg 6 rfl (by kernel_rfl) (by first | rfl | (simp [Region.wanted, yielded]; done)) hC (fun K hK => ?_)
  apply Exists.intro
  refine ⟨fun W hW => ?_, ?_⟩
  · go_simp
    rfl
  go_simp
  refine hK _ ?_
  clear hK K
  refine seq_read hg 7 rfl (by kernel_rfl) (by first | rfl | (simp [Region.wanted, yielded]; done)) hC (fun K hK => ?_)
  apply Exists.intro
  refine ⟨fun W hW => ?_, ?_⟩
  · go_simp
    rfl
  go_simp
  refine hK _ ?_
  clear hK K
  refine seq_read hg 8 rfl (by kernel_rfl) (by first | rfl | (simp [Region.wanted, yielded]; done)) hC (fun K hK => ?_)
  apply Exists.intro
  refine ⟨fun W hW => ?_, ?_⟩
  · go_simp
    rfl
  go_simp
  refine hK _ ?_
  clear hK K
  refine seq_read hg 9 rfl (by kernel_rfl) (by first | rfl | (simp [Region.wanted, yielded]; done)) hC (fun K hK => ?_)
  apply Exists.intro
  refine ⟨fun W hW => ?_, ?_⟩
  · go_simp
    rfl
  go_simp
  refine hK _ ?_
  clear hK K
  refine seq_read hg 10 rfl (by kernel_rfl) (by first | rfl | (simp [Region.wanted, yielded]; done)) hC (fun K hK => ?_)
  apply Exists.intro
  refine ⟨fun W hW => ?_, ?_⟩
  · obtain ⟨g0, g1, g2, g3, g4, g5, g6⟩ := HF6.out W hW
    go_simp
    rfl
  go_simp
  refine hK _ ?_
  clear hK K
  refine seq_read hg 11 rfl (by kernel_rfl) (by first | rfl | (simp [Region.wanted, yielded]; done)) hC (fun K hK => ?_)
  apply Exists.intro
  refine ⟨fun W hW => ?_, ?_⟩
  · go_simp
    rfl
  go_simp
  refine hK _ ?_
  clear hK K
  refine seq_read hg 12 rfl (by kernel_rfl) (by first | rfl | (simp [Region.wanted, yielded]; done)) hC (fun K hK => ?_)
  apply Exists.intro
  refine ⟨fun W hW => ?_, ?_⟩
  · go_simp
    rfl
  go_simp
  refine hK _ ?_
  clear hK K
  refine seq_read hg 13 rfl (by kernel_rfl) (by first | rfl | (simp [Region.wanted, yielded]; done)) hC (fun K hK => ?_)
  apply Exists.intro
  refine ⟨fun W hW => ?_, ?_⟩
  · go_simp
    rfl
  go_simp
  refine hK _ ?_
  clear hK K
  refine seq_read hg 14 rfl (by kernel_rfl) (by first | rfl | (simp [Region.wanted, yielded]; done)) hC (fun K hK => ?_)
  apply Exists.intro
  refine ⟨fun W hW => ?_, ?_⟩
  · go_simp
    rfl
  go_simp
  refine hK _ ?_
  clear hK K
  refine seq_read hg 15 rfl (by kernel_rfl) (by first | rfl | (simp [Region.wanted, yielded]; done)) hC (fun K hK => ?_)
  apply Exists.intro
  refine ⟨fun W hW => ?_, ?_⟩
  · go_simp
    rfl
  go_simp
  refine hK _ ?_
  clear hK K
  refine seq_read hg 16 rfl (by kernel_rfl) (by first | rfl | (simp [Region.wanted, yielded]; done)) hC (fun K hK => ?_)
  apply Exists.intro
  refine ⟨fun W hW => ?_, ?_⟩
  · obtain ⟨g0, g1, g2, g3, g4, g5, g6⟩ := HF6.out W hW
    go_simp
    rfl
  go_simp
  refine hK _ ?_
  clear hK K
  refine seq_read hg 17 rfl (by kernel_rfl) (by first | rfl | (simp [Region.wanted, yielded]; done)) hC (fun K hK => ?_)
  apply Exists.intro
  refine ⟨fun W hW => ?_, ?_⟩
  · go_simp
    rfl
  go_simp
  refine hK _ ?_
  clear hK K
  refine seq_read hg 18 rfl (by kernel_rfl) (by first | rfl | (simp [Region.wanted, yielded]; done)) hC (fun K hK => ?_)
  apply Exists.intro
  refine ⟨fun W hW => ?_, ?_⟩
  · go_simp
    rfl
  go_simp
  refine hK _ ?_
  clear hK K
  refine seq_read hg 19 rfl (by kernel_rfl) (by first | rfl | (simp [Region.wanted, yielded]; done)) hC (fun K hK => ?_)
  apply Exists.intro
  refine ⟨fun W hW => ?_, ?_⟩
  · obtain ⟨g0, g1, g2, g3, g4, g5, g6⟩ := HF6.out W hW
    go_simp
    rfl
  go_simp
  refine hK _ ?_
  clear hK K
  refine seq_read hg 20 rfl (by kernel_rfl) (by first | rfl | (simp [Region.wanted, yielded]; done)) hC (fun K hK => ?_)
  apply Exists.intro
  refine ⟨fun W hW => ?_, ?_⟩
  · go_simp
    rfl
  go_simp
  refine hK _ ?_
  clear hK K
  refine seq_read hg 21 rfl (by kernel_rfl) (by first | rfl | (simp [Region.wanted, yielded]; done)) hC (fun K hK => ?_)
  apply Exists.intro
  refine ⟨fun W hW => ?_, ?_⟩
  · go_simp
    rfl
  go_simp
  refine hK _ ?_
  clear hK K
  refine seq_read hg 22 rfl (by kernel_rfl) (by first | rfl | (simp [Region.wanted, yielded]; done)) hC (fun K hK => ?_)
  apply Exists.intro
  refine ⟨fun W hW => ?_, ?_⟩
  · go_simp
    rfl
  go_simp
  refine hK _ ?_
  clear hK K
  refine seq_read hg 23 rfl (by kernel_rfl) (by first | rfl | (simp [Region.wanted, yielded]; done)) hC (fun K hK => ?_)
  apply Exists.intro
  refine ⟨fun W hW => ?_, ?_⟩
  · obtain ⟨g0, g1, g2, g3, g4, g5, g6⟩ := HF6.out W hW
    go_simp
    rfl
  go_simp
  refine hK _ ?_
  clear hK K
  refine seq_read hg 24 rfl (by kernel_rfl) (by first | rfl | (simp [Region.wanted, yielded]; done)) hC (fun K hK => ?_)
  apply Exists.intro
  refine ⟨fun W hW => ?_, ?_⟩
  · go_simp
    rfl
  go_simp
  refine hK _ ?_
  clear hK K
  refine seq_read hg 25 rfl (by kernel_rfl) (by first | rfl | (simp [Region.wanted, yielded]; done)) hC (fun K hK => ?_)
  apply Exists.intro
  refine ⟨fun W hW => ?_, ?_⟩
  · go_simp
    rfl
  go_simp
  refine hK _ ?_
  clear hK K
  refine seq_read hg 26 rfl (by kernel_rfl) (by first | rfl | (simp [Region.wanted, yielded]; done)) hC (fun K hK => ?_)
  apply Exists.intro
  refine ⟨fun W hW => ?_, ?_⟩
  · go_simp
    rfl
  go_simp
  refine hK _ ?_
  clear hK K
  refine seq_read hg 27 rfl (by kernel_rfl) (by first | rfl | (simp [Region.wanted, yielded]; done)) hC (fun K hK => ?_)
  apply Exists.intro
  refine ⟨fun W hW => ?_, ?_⟩
  · go_simp
    rfl
  go_simp
  refine hK _ ?_
  clear hK K
  refine seq_read hg 28 rfl (by kernel_rfl) (by first | rfl | (simp [Region.wanted, yielded]; done)) hC (fun K hK => ?_)
  apply Exists.intro
  refine ⟨fun W hW => ?_, ?_⟩
  · go_simp
    rfl
  go_simp
  refine hK _ ?_
  clear hK K
  refine seq_read hg 29 rfl (by kernel_rfl) (by first | rfl | (simp [Region.wanted, yielded]; done)) hC (fun K hK => ?_)
  apply Exists.intro
  refine ⟨fun W hW => ?_, ?_⟩
  · obtain ⟨g0, g1, g2, g3, g4, g5, g6⟩ := HF6.out W hW
    go_simp
    rfl
  go_simp
  refine hK _ ?_
  clear hK K
  refine seq_read hg 30 rfl (by kernel_rfl) (by first | rfl | (simp [Region.wanted, yielded]; done)) hC (fun K hK => ?_)
  apply Exists.intro
  refine ⟨fun W hW => ?_, ?_⟩
  · go_simp
    rfl
  go_simp
  refine hK _ ?_
  clear hK K
  refine seq_read hg 31 rfl (by kernel_rfl) (by first | rfl | (simp [Region.wanted, yielded]; done)) hC (fun K hK => ?_)
  apply Exists.intro
  refine ⟨fun W hW => ?_, ?_⟩
  · go_simp
    rfl
  go_simp
  refine hK _ ?_
  clear hK K
  refine seq_read hg 32 rfl (by kernel_rfl) (by first | rfl | (simp [Region.wanted, yielded]; done)) hC (fun K hK => ?_)
  apply Exists.intro
  refine ⟨fun W hW => ?_, ?_⟩
  · go_simp
    rfl
  go_simp
  refine hK _ ?_
  clear hK K
  refine seq_read hg 33 rfl (by kernel_rfl) (by first | rfl | (simp [Region.wanted, yielded]; done)) hC (fun K hK => ?_)
  apply Exists.intro
  refine ⟨fun W hW => ?_, ?_⟩
  · obtain ⟨g0, g1, g2, g3, g4, g5, g6⟩ := HF6.out W hW
    go_simp
    rfl
  go_simp
  refine hK _ ?_
  clear hK K
  refine seq_read hg 34 rfl (by kernel_rfl) (by first | rfl | (simp [Region.wanted, yielded]; done)) hC (fun K hK => ?_)
  apply Exists.intro
  refine ⟨fun W hW => ?_, ?_⟩
  · go_simp
    rfl
  go_simp
  refine hK _ ?_
  clear hK K
  refine seq_read hg 35 rfl (by kernel_rfl) (by first | rfl | (simp [Region.wanted, yielded]; done)) hC (fun K hK => ?_)
  apply Exists.intro
  refine ⟨fun W hW => ?_, ?_⟩
  · go_simp
    rfl
  go_simp
  refine hK _ ?_
  clear hK K
  refine seq_end (by kernel_rfl) ?_
  have HC7 := Lib.hid hC
  generalize w6.drew = w7 at hC HC7 ⊢
  obtain ⟨g0, g1, g2, g3, g4, g5, g6⟩ := HF6.out w7 hC
  clear hC
  go_wp2_with fail
  clear g0 g1 g2 g3 g4 g5 g6
  go_loopw [21] (fun i wr => ∃ j : Nat, j ≤ k ∧ i = .int .i64 j ∧ Hid (Below w6.heap.size w6 wr)) (fun i _ => k + 1 - (intOf i).toNat)
  case atStart => exact ⟨0, by omega, rfl, HC7⟩
  case round =>
    obtain ⟨j, hj, rfl, hbr⟩ := hrel
    have hjs : j < m.splits.length := by omega
    have hslen : (m.splits.map SpM.name).length = m.splits.length := by simp
    have hrlen : (m.splits.map fun x => (x.read : Int)).length = m.splits.length := by simp
    have htz := TX6.out
    rw [← hslen] at htz
    obtain ⟨nb, no, rfl, hnb, hnc⟩ := htz.at (k := j) (by rw [hslen]; exact hjs)
    have hnz := NM6.out
    rw [← hrlen] at hnz
    obtain ⟨ob, oo, rfl, hob, hoc⟩ := hnz.at (k := j) (by rw [hrlen]; exact hjs)
    rw [List.getElem_map] at hnc hoc
    have hjl : (j : Int) < (m.splits.length : Int) := by omega
    have hj0 : (0 : Int) ≤ (j : Int) := by omega
    obtain ⟨-, -, c2, -⟩ := box45_cells ((hbr.out.block _ (heap_lt X4'.out)).trans X4'.out)
    have hzr := hbr.out.size
    have HT : Hid (∀ W, Below wr.heap.size wr W → Below w6.heap.size w6 W) := fun W hb => hbr.out.trans (hb.mono hzr)
    obtain ⟨nj, hnj⟩ : ∃ v, m.splits[j].name = v := ⟨_, rfl⟩
    rw [hnj] at hnc
    by_cases hjk : j = k
    · subst hjk
      have hnn : nm = nj := (hnj.symm.trans HNM0.out).symm
      subst hnn
      have hoc6 : w6.cell? ⟨ob, oo + j, none⟩ = some (.int .i64 (rk : Int)) := by rw [← HRK.out]; exact hoc
      obtain ⟨hrl0, hry⟩ := HY.out
      obtain ⟨g, o, e1, e2, hsa, hg6, hev, -, -, x2, -⟩ := RO6.out.spl.at hjs
      have hsa' : sa = some ⟨g, o, none⟩ := hsa
      subst hsa'
      have hDg : D g := by
        obtain ⟨a', c', hv, hx⟩ := RO6.out.spl
        injection hv with hv _ _
        obtain ⟨b', o'', hb', hD', -⟩ := hx.resolve_left (fun e => by rw [e] at hjs; simp at hjs)
        rw [hb'] at hv
        injection hv with hv
        injection hv with hv _ _
        rw [hv]; exact hD'
      have hobD : w.heap.size + 2 ≤ ob := by
        obtain ⟨a', c', hv, hx⟩ := NM6.out
        injection hv with hv _ _
        obtain ⟨b', o'', hb', hD', -⟩ := hx.resolve_left (fun e => by have h : m.splits.length = 0 := (by rw [← hrlen, e]; rfl); omega)
        rw [hb'] at hv
        injection hv with hv
        injection hv with hv _ _
        have h1 := HZ1.out
        rw [hv]; omega
      obtain ⟨gb, go, r1, r2, he1, hgb, y0, y1, hrowy, hyl⟩ := hev.at hrl0
      subst he1
      have hDgb : D gb := by
        obtain ⟨a', c', hv, -, hx⟩ := hev
        injection hv with hv _ _
        obtain ⟨b', o'', hb', hD', -⟩ := hx.resolve_left (fun e => by rw [e] at hrl0; simp at hrl0)
        rw [hb'] at hv
        injection hv with hv
        injection hv with hv _ _
        rw [hv]; exact hD'
      rw [hry, HRK.out] at y0 y1
      rw [hry] at hrowy
      rw [HNE.out] at x2
      have hgw := (HD.out g hDg).1
      have hgbw := (HD.out gb hDgb).1
      have hnc6 : w6.cell? ⟨nb, no + j, none⟩ = some (.string nm) := hnc
      have HF13 : Hid (∀ W, Below wr.heap.size wr W → W.cell? ⟨nb, no + j, none⟩ = some (.string nm) ∧ W.cell? ⟨w3.heap.size, 1, none⟩ = some (.string nm) ∧ W.cell? ⟨ob, oo + j, none⟩ = some (.int .i64 (rk : Int)) ∧ W.cell? ⟨w.heap.size, 2, none⟩ = some (.slice (some ⟨g, o, none⟩) m.splits.length sc) ∧ W.cell? ⟨g, o + j * 6 + 2, none⟩ = some (.slice (some ⟨gb, go, none⟩) ne e2)) := fun W hb => by
        have hb6 := HT.out W hb
        obtain ⟨-, g1, -⟩ := HF6.out W hb6
        obtain ⟨-, -, c2, -⟩ := box45_cells ((hb6.block _ (heap_lt X4'.out)).trans X4'.out)
        exact ⟨(hb6.cell (p := ⟨nb, no + j, none⟩) hnb).trans hnc6, g1, (hb6.cell (p := ⟨ob, oo + j, none⟩) hob).trans hoc6, c2, (hb6.cell (p := ⟨g, o + j * 6 + 2, none⟩) hg6).trans x2⟩
      have HF14 : Hid (∀ W, Only (fun b => b = w.heap.size + 1) w6 W → W.heap[w5.heap.size]? = some (.cells #[.slice sha' s.length shc', .int .i64 m'.bound, .slice sa' m'.splits.length sc', .slice ma' m'.marks.length mc', .bool m'.sealed, .slice ba' m'.late.length bc'] 45 (0, 0)) ∧ W.cell? ⟨w3.heap.size, 2, none⟩ = some (.int .i64 y.t) ∧ W.cell? ⟨w3.heap.size, 3, none⟩ = some (.slice va y.r.length vc) ∧ W.cell? ⟨w.heap.size, 2, none⟩ = some (.slice (some ⟨g, o, none⟩) m.splits.length sc) ∧ W.cell? ⟨g, o + j * 6 + 2, none⟩ = some (.slice (some ⟨gb, go, none⟩) ne e2) ∧ W.cell? ⟨ob, oo + j, none⟩ = some (.int .i64 (rk : Int)) ∧ W.cell? ⟨gb, go + rk * 2, none⟩ = some (.int .i64 y.t) ∧ W.cell? ⟨gb, go + rk * 2 + 1, none⟩ = some (.slice r1 y.r.length r2)) := fun W hb => by
        obtain ⟨-, -, f2, f3, -⟩ := HF6.out w6 (Below.refl _ _)
        obtain ⟨-, -, f4, -⟩ := box45_cells X4'.out
        have l18 := heap_lt X18.out
        have l4 := heap_lt X4'.out
        have l3 := heap_lt X16'.out
        have l5 := HZ1.out
        have l6 := HB2.out.size
        have l7 := WE.out.only.size
        have l8 := HB6.out.size
        have l9 := BW6.out.size
        exact ⟨(hb.block _ l18 (by omega)).trans X18.out, (hb.cell _ _ l3 (by omega)).trans f2, (hb.cell _ _ l3 (by omega)).trans f3, (hb.cell _ _ l4 (by omega)).trans f4, (hb.cell _ _ hg6 (by omega)).trans x2, (hb.cell _ _ hob (by omega)).trans hoc6, (hb.cell _ _ hgb (by omega)).trans y0, (hb.cell _ _ hgb (by omega)).trans y1⟩
      have H61 : Hid (∀ W b1 b2, Below w6.heap.size w6 W → W.heap[b1]? = some (.cells #[.int .i64 y.t, .slice va y.r.length vc] 30 (0, 0)) → W.heap[b2]? = some (.cells #[.int .i64 y.t, .slice r1 y.r.length r2] 30 (0, 0)) →
          Calls Tryz.prog 61 #[.slice (some ⟨b1, 0, none⟩) 1 1, .slice (some ⟨b2, 0, none⟩) 1 1] W fun e w' => e = .returned (.bool true) ∧ Grew W w') := fun W b1 b2 hb h1 h2 => by
        have h := f61_any mixed W (fun _ => True) (fun _ => True) _ _ [y] [y] (evts_box h1 trivial ((HV6.out.below hb).mono fun _ _ => trivial)) (evts_box h2 trivial ((hrowy.below hb).mono fun _ _ => trivial))
        rwa [sameE_refl] at h
      have hrk0 : (0 : Int) ≤ (rk : Int) := by omega
      have hrkn : (rk : Int) < (ne : Int) := by omega
      have hrk1 : ¬ (rk : Int) < 0 := by omega
      have HROWY := Lib.hid hrowy
      clear hrowy hev hnj htz hnz hslen hrlen hnc hoc hoc6 hnc6 x2 y0 y1 hyl hry hrl0
      go_wp2_with fail
      have hC : Below wr.heap.size wr wr.drew := (Below.refl _ _).drew
      refine wp_region_seq 28 (fun W => Below wr.heap.size wr W) mixed (by kernel_rfl) (fun hg => ?_)
      refine seq_read hg 0 rfl (by kernel_rfl) (by first | rfl | (simp [Region.wanted, yielded]; done)) hC (fun K hK => ?_)
      apply Exists.intro
      refine ⟨fun W hW => ?_, ?_⟩
      · go_simp
        rfl
      go_simp
      refine hK _ ?_
      clear hK K
      refine seq_read hg 1 rfl (by kernel_rfl) (by first | rfl | (simp [Region.wanted, yielded]; done)) hC (fun K hK => ?_)
      apply Exists.intro
      refine ⟨fun W hW => ?_, ?_⟩
      · go_simp
        rfl
      go_simp
      refine hK _ ?_
      clear hK K
      refine seq_read hg 2 rfl (by kernel_rfl) (by first | rfl | (simp [Region.wanted, yielded]; done)) hC (fun K hK => ?_)
      apply Exists.intro
      refine ⟨fun W hW => ?_, ?_⟩
      · go_simp
        rfl
      go_simp
      refine hK _ ?_
      clear hK K
      refine seq_read hg 3 rfl (by kernel_rfl) (by first | rfl | (simp [Region.wanted, yielded]; done)) hC (fun K hK => ?_)
      apply Exists.intro
      refine ⟨fun W hW => ?_, ?_⟩
      · obtain ⟨g0, g1, g2, g3, g4⟩ := HF13.out W hW
        go_simp
        rfl
      go_simp
      refine hK _ ?_
      clear hK K
      refine seq_read hg 4 rfl (by kernel_rfl) (by first | rfl | (simp [Region.wanted, yielded]; done)) hC (fun K hK => ?_)
      apply Exists.intro
      refine ⟨fun W hW => ?_, ?_⟩
      · go_simp
        rfl
      go_simp
      refine hK _ ?_
      clear hK K
      refine seq_read hg 5 rfl (by kernel_rfl) (by first | rfl | (simp [Region.wanted, yielded]; done)) hC (fun K hK => ?_)
      apply Exists.intro
      refine ⟨fun W hW => ?_, ?_⟩
      · obtain ⟨g0, g1, g2, g3, g4⟩ := HF13.out W hW
        go_simp
        rfl
      go_simp
      refine hK _ ?_
      clear hK K
      refine seq_read hg 6 rfl (by kernel_rfl) (by first | rfl | (simp [Region.wanted, yielded]; done)) hC (fun K hK => ?_)
      apply Exists.intro
      refine ⟨fun W hW => ?_, ?_⟩
      · go_simp
        rfl
      go_simp
      refine hK _ ?_
      clear hK K
      refine seq_read hg 7 rfl (by kernel_rfl) (by first | rfl | (simp [Region.wanted, yielded]; done)) hC (fun K hK => ?_)
      apply Exists.intro
      refine ⟨fun W hW => ?_, ?_⟩
      · go_simp
        rfl
      go_simp
      refine hK _ ?_
      clear hK K
      refine seq_read hg 8 rfl (by kernel_rfl) (by first | rfl | (simp [Region.wanted, yielded]; done)) hC (fun K hK => ?_)
      apply Exists.intro
      refine ⟨fun W hW => ?_, ?_⟩
      · go_simp
        rfl
      go_simp
      refine hK _ ?_
      clear hK K
      refine seq_read hg 9 rfl (by kernel_rfl) (by first | rfl | (simp [Region.wanted, yielded]; done)) hC (fun K hK => ?_)
      apply Exists.intro
      refine ⟨fun W hW => ?_, ?_⟩
      · go_simp
        rfl
      go_simp
      refine hK _ ?_
      clear hK K
      refine seq_read hg 10 rfl (by kernel_rfl) (by first | rfl | (simp [Region.wanted, yielded]; done)) hC (fun K hK => ?_)
      apply Exists.intro
      refine ⟨fun W hW => ?_, ?_⟩
      · go_simp
        rfl
      go_simp
      refine hK _ ?_
      clear hK K
      refine seq_read hg 11 rfl (by kernel_rfl) (by first | rfl | (simp [Region.wanted, yielded]; done)) hC (fun K hK => ?_)
      apply Exists.intro
      refine ⟨fun W hW => ?_, ?_⟩
      · obtain ⟨g0, g1, g2, g3, g4⟩ := HF13.out W hW
        go_simp
        rfl
      go_simp
      refine hK _ ?_
      clear hK K
      refine seq_read hg 12 rfl (by kernel_rfl) (by first | rfl | (simp [Region.wanted, yielded]; done)) hC (fun K hK => ?_)
      apply Exists.intro
      refine ⟨fun W hW => ?_, ?_⟩
      · go_simp
        rfl
      go_simp
      refine hK _ ?_
      clear hK K
      refine seq_read hg 13 rfl (by kernel_rfl) (by first | rfl | (simp [Region.wanted, yielded]; done)) hC (fun K hK => ?_)
      apply Exists.intro
      refine ⟨fun W hW => ?_, ?_⟩
      · go_simp
        rfl
      go_simp
      refine hK _ ?_
      clear hK K
      refine seq_read hg 14 rfl (by kernel_rfl) (by first | rfl | (simp [Region.wanted, yielded]; done)) hC (fun K hK => ?_)
      apply Exists.intro
      refine ⟨fun W hW => ?_, ?_⟩
      · go_simp
        rfl
      go_simp
      refine hK _ ?_
      clear hK K
      refine seq_read hg 15 rfl (by kernel_rfl) (by first | rfl | (simp [Region.wanted, yielded]; done)) hC (fun K hK => ?_)
      apply Exists.intro
      refine ⟨fun W hW => ?_, ?_⟩
      · go_simp
        rfl
      go_simp
      refine hK _ ?_
      clear hK K
      refine seq_read hg 16 rfl (by kernel_rfl) (by first | rfl | (simp [Region.wanted, yielded]; done)) hC (fun K hK => ?_)
      apply Exists.intro
      refine ⟨fun W hW => ?_, ?_⟩
      · go_simp
        rfl
      go_simp
      refine hK _ ?_
      clear hK K
      refine seq_read hg 17 rfl (by kernel_rfl) (by first | rfl | (simp [Region.wanted, yielded]; done)) hC (fun K hK => ?_)
      apply Exists.intro
      refine ⟨fun W hW => ?_, ?_⟩
      · go_simp
        rfl
      go_simp
      refine hK _ ?_
      clear hK K
      refine seq_read hg 18 rfl (by kernel_rfl) (by first | rfl | (simp [Region.wanted, yielded]; done)) hC (fun K hK => ?_)
      apply Exists.intro
      refine ⟨fun W hW => ?_, ?_⟩
      · obtain ⟨g0, g1, g2, g3, g4⟩ := HF13.out W hW
        go_simp
        rfl
      go_simp
      refine hK _ ?_
      clear hK K
      refine seq_read hg 19 rfl (by kernel_rfl) (by first | rfl | (simp [Region.wanted, yielded]; done)) hC (fun K hK => ?_)
      apply Exists.intro
      refine ⟨fun W hW => ?_, ?_⟩
      · go_simp
        rfl
      go_simp
      refine hK _ ?_
      clear hK K
      refine seq_read hg 20 rfl (by kernel_rfl) (by first | rfl | (simp [Region.wanted, yielded]; done)) hC (fun K hK => ?_)
      apply Exists.intro
      refine ⟨fun W hW => ?_, ?_⟩
      · obtain ⟨g0, g1, g2, g3, g4⟩ := HF13.out W hW
        go_simp
        rfl
      go_simp
      refine hK _ ?_
      clear hK K
      refine seq_read hg 21 rfl (by kernel_rfl) (by first | rfl | (simp [Region.wanted, yielded]; done)) hC (fun K hK => ?_)
      apply Exists.intro
      refine ⟨fun W hW => ?_, ?_⟩
      · go_simp
        rfl
      go_simp
      refine hK _ ?_
      clear hK K
      refine seq_read hg 22 rfl (by kernel_rfl) (by first | rfl | (simp [Region.wanted, yielded]; done)) hC (fun K hK => ?_)
      apply Exists.intro
      refine ⟨fun W hW => ?_, ?_⟩
      · go_simp
        rfl
      go_simp
      refine hK _ ?_
      clear hK K
      refine seq_read hg 23 rfl (by kernel_rfl) (by first | rfl | (simp [Region.wanted, yielded]; done)) hC (fun K hK => ?_)
      apply Exists.intro
      refine ⟨fun W hW => ?_, ?_⟩
      · go_simp
        rfl
      go_simp
      refine hK _ ?_
      clear hK K
      refine seq_read hg 24 rfl (by kernel_rfl) (by first | rfl | (simp [Region.wanted, yielded]; done)) hC (fun K hK => ?_)
      apply Exists.intro
      refine ⟨fun W hW => ?_, ?_⟩
      · obtain ⟨g0, g1, g2, g3, g4⟩ := HF13.out W hW
        go_simp
        rfl
      go_simp
      refine hK _ ?_
      clear hK K
      refine seq_read hg 25 rfl (by kernel_rfl) (by first | rfl | (simp [Region.wanted, yielded]; done)) hC (fun K hK => ?_)
      apply Exists.intro
      refine ⟨fun W hW => ?_, ?_⟩
      · go_simp
        rfl
      go_simp
      refine hK _ ?_
      clear hK K
      refine seq_read hg 26 rfl (by kernel_rfl) (by first | rfl | (simp [Region.wanted, yielded]; done)) hC (fun K hK => ?_)
      apply Exists.intro
      refine ⟨fun W hW => ?_, ?_⟩
      · go_simp
        rfl
      go_simp
      refine hK _ ?_
      clear hK K
      refine seq_read hg 27 rfl (by kernel_rfl) (by first | rfl | (simp [Region.wanted, yielded]; done)) hC (fun K hK => ?_)
      apply Exists.intro
      refine ⟨fun W hW => ?_, ?_⟩
      · go_simp
        rfl
      go_simp
      refine hK _ ?_
      clear hK K
      refine seq_end (by kernel_rfl) ?_
      have HC8 := Lib.hid (HT.out _ hC)
      clear hC c2
      generalize wr.drew = w7 at HC8 ⊢
      go_wp2_with fail
      have HO7 : Hid (Only (fun b => b = w.heap.size + 1) w6 w7) := Only.mono (Only.of_below HC8.out) (fun _ _ h => h)
      have hC : Only (fun b => b = w.heap.size + 1) w6 w7.drew := HO7.out.drew
      refine wp_region_seq 23 (fun W => Only (fun b => b = w.heap.size + 1) w6 W) mixed (by kernel_rfl) (fun hg => ?_)
      refine seq_read hg 0 rfl (by kernel_rfl) (by first | rfl | (simp [Region.wanted, yielded]; done)) hC (fun K hK => ?_)
      apply Exists.intro
      refine ⟨fun W hW => ?_, ?_⟩
      · obtain ⟨gx, g2, g3, g4, g5, g6, g7, g8⟩ := HF14.out W hW
        obtain ⟨x0, x1, x3, x4, x5, x6, -⟩ := box45_cells gx
        go_simp
        rfl
      go_simp
      refine hK _ ?_
      clear hK K
      refine seq_read hg 1 rfl (by kernel_rfl) (by first | rfl | (simp [Region.wanted, yielded]; done)) hC (fun K hK => ?_)
      apply Exists.intro
      refine ⟨fun W hW => ?_, ?_⟩
      · go_simp
        rfl
      go_simp
      refine hK _ ?_
      clear hK K
      refine seq_read hg 2 rfl (by kernel_rfl) (by first | rfl | (simp [Region.wanted, yielded]; done)) hC (fun K hK => ?_)
      apply Exists.intro
      refine ⟨fun W hW => ?_, ?_⟩
      · go_simp
        rfl
      go_simp
      refine hK _ ?_
      clear hK K
      refine seq_read hg 3 rfl (by kernel_rfl) (by first | rfl | (simp [Region.wanted, yielded]; done)) hC (fun K hK => ?_)
      apply Exists.intro
      refine ⟨fun W hW => ?_, ?_⟩
      · obtain ⟨gx, g2, g3, g4, g5, g6, g7, g8⟩ := HF14.out W hW
        obtain ⟨x0, x1, x3, x4, x5, x6, -⟩ := box45_cells gx
        go_simp
        rfl
      go_simp
      refine hK _ ?_
      clear hK K
      refine seq_read hg 5 rfl (by kernel_rfl) (by first | rfl | (simp [Region.wanted, yielded]; done)) hC (fun K hK => ?_)
      apply Exists.intro
      refine ⟨fun W hW => ?_, ?_⟩
      · go_simp
        rfl
      go_simp
      refine hK _ ?_
      clear hK K
      refine seq_read hg 6 rfl (by kernel_rfl) (by first | rfl | (simp [Region.wanted, yielded]; done)) hC (fun K hK => ?_)
      apply Exists.intro
      refine ⟨fun W hW => ?_, ?_⟩
      · obtain ⟨gx, g2, g3, g4, g5, g6, g7, g8⟩ := HF14.out W hW
        obtain ⟨x0, x1, x3, x4, x5, x6, -⟩ := box45_cells gx
        go_simp
        rfl
      go_simp
      refine hK _ ?_
      clear hK K
      refine seq_read hg 7 rfl (by kernel_rfl) (by first | rfl | (simp [Region.wanted, yielded]; done)) hC (fun K hK => ?_)
      apply Exists.intro
      refine ⟨fun W hW => ?_, ?_⟩
      · go_simp
        rfl
      go_simp
      refine hK _ ?_
      clear hK K
      refine seq_read hg 8 rfl (by kernel_rfl) (by first | rfl | (simp [Region.wanted, yielded]; done)) hC (fun K hK => ?_)
      apply Exists.intro
      refine ⟨fun W hW => ?_, ?_⟩
      · go_simp
        rfl
      go_simp
      refine hK _ ?_
      clear hK K
      refine seq_read hg 9 rfl (by kernel_rfl) (by first | rfl | (simp [Region.wanted, yielded]; done)) hC (fun K hK => ?_)
      apply Exists.intro
      refine ⟨fun W hW => ?_, ?_⟩
      · go_simp
        rfl
      go_simp
      refine hK _ ?_
      clear hK K
      refine seq_read hg 10 rfl (by kernel_rfl) (by first | rfl | (simp [Region.wanted, yielded]; done)) hC (fun K hK => ?_)
      apply Exists.intro
      refine ⟨fun W hW => ?_, ?_⟩
      · obtain ⟨gx, g2, g3, g4, g5, g6, g7, g8⟩ := HF14.out W hW
        obtain ⟨x0, x1, x3, x4, x5, x6, -⟩ := box45_cells gx
        go_simp
        rfl
      go_simp
      refine hK _ ?_
      clear hK K
      refine seq_read hg 11 rfl (by kernel_rfl) (by first | rfl | (simp [Region.wanted, yielded]; done)) hC (fun K hK => ?_)
      apply Exists.intro
      refine ⟨fun W hW => ?_, ?_⟩
      · go_simp
        rfl
      go_simp
      refine hK _ ?_
      clear hK K
      refine seq_read hg 12 rfl (by kernel_rfl) (by first | rfl | (simp [Region.wanted, yielded]; done)) hC (fun K hK => ?_)
      apply Exists.intro
      refine ⟨fun W hW => ?_, ?_⟩
      · go_simp
        rfl
      go_simp
      refine hK _ ?_
      clear hK K
      refine seq_read hg 13 rfl (by kernel_rfl) (by first | rfl | (simp [Region.wanted, yielded]; done)) hC (fun K hK => ?_)
      apply Exists.intro
      refine ⟨fun W hW => ?_, ?_⟩
      · go_simp
        rfl
      go_simp
      refine hK _ ?_
      clear hK K
      refine seq_read hg 14 rfl (by kernel_rfl) (by first | rfl | (simp [Region.wanted, yielded]; done)) hC (fun K hK => ?_)
      apply Exists.intro
      refine ⟨fun W hW => ?_, ?_⟩
      · obtain ⟨gx, g2, g3, g4, g5, g6, g7, g8⟩ := HF14.out W hW
        obtain ⟨x0, x1, x3, x4, x5, x6, -⟩ := box45_cells gx
        go_simp
        rfl
      go_simp
      refine hK _ ?_
      clear hK K
      refine seq_read hg 15 rfl (by kernel_rfl) (by first | rfl | (simp [Region.wanted, yielded]; done)) hC (fun K hK => ?_)
      apply Exists.intro
      refine ⟨fun W hW => ?_, ?_⟩
      · go_simp
        rfl
      go_simp
      refine hK _ ?_
      clear hK K
      refine seq_read hg 16 rfl (by kernel_rfl) (by first | rfl | (simp [Region.wanted, yielded]; done)) hC (fun K hK => ?_)
      apply Exists.intro
      refine ⟨fun W hW => ?_, ?_⟩
      · obtain ⟨gx, g2, g3, g4, g5, g6, g7, g8⟩ := HF14.out W hW
        obtain ⟨x0, x1, x3, x4, x5, x6, -⟩ := box45_cells gx
        go_simp
        rfl
      go_simp
      refine hK _ ?_
      clear hK K
      refine seq_two 4 17 (by kernel_rfl) rfl rfl (by first | rfl | (simp [Region.wanted, yielded]; done)) (by first | rfl | (simp [Region.wanted, yielded]; done)) (fun K hK => ?_) (fun K hK => ?_)
      ·
        go_simp
        refine hK _ _ (by first | rfl | (go_simp; done)) (HO7.out.alloc (.cells #[.int .i64 y.t, .slice va y.r.length vc] 30)).drew ?_
        clear hK K hC
        refine seq_one 17 (by kernel_rfl) rfl (by first | rfl | (simp [Region.wanted, yielded]; done)) (fun K hK => ?_)
        go_simp
        refine hK _ _ (by first | rfl | (go_simp; done)) ((HO7.out.alloc (.cells #[.int .i64 y.t, .slice va y.r.length vc] 30)).alloc (.cells #[.int .i64 y.t, .slice r1 y.r.length r2] 30)).drew ?_
        clear hK K
        have B8 : Below w6.heap.size w6 ((w7.alloc (.cells #[.int .i64 y.t, .slice va y.r.length vc] 30)).alloc (.cells #[.int .i64 y.t, .slice r1 y.r.length r2] 30)).drew := ((HC8.out.alloc HC8.out.size _).alloc (by have h := HC8.out.size; simp; omega) _).drew
        have L8 := H61.out ((w7.alloc (.cells #[.int .i64 y.t, .slice va y.r.length vc] 30)).alloc (.cells #[.int .i64 y.t, .slice r1 y.r.length r2] 30)).drew w7.heap.size (w7.heap.size + 1) B8 (drew_at (alloc_keep (heap_alloc_new w7 _))) (drew_at (new_snd w7 _ _))
        generalize ((w7.alloc (.cells #[.int .i64 y.t, .slice va y.r.length vc] 30)).alloc (.cells #[.int .i64 y.t, .slice r1 y.r.length r2] 30)).drew = w8 at B8 L8 ⊢
        refine seq_one 18 (by kernel_rfl) rfl (by first | rfl | (simp [Region.wanted, yielded]; done)) (fun K hK => ?_)
        go_simp
        go_at_call 61
        refine L8.mono ?_
        rintro e w9 ⟨rfl, hgr⟩
        have B9 := Lib.hid (B8.trans (hgr.below.mono B8.size))
        clear hgr L8
        have HO9 : Hid (Only (fun b => b = w.heap.size + 1) w6 w9) := Only.mono (Only.of_below B9.out) (fun _ _ h => h)
        refine hK _ _ (by first | rfl | (go_simp; done)) HO9.out ?_
        clear hK K B8
        refine seq_one 19 (by kernel_rfl) rfl (by first | rfl | (simp [Region.wanted, yielded]; done)) (fun K hK => ?_)
        obtain ⟨z0, z1, z2, z3, z4, z5, zf⟩ := box45_cells ((B9.out.block _ (heap_lt X10.out)).trans X10.out)
        go_simp
        have hC : Only (fun b => b = w.heap.size + 1) w6 (fill45 w9 (w.heap.size + 1) (.slice sha' s.length shc') (.int .i64 m'.bound) (.slice sa' m'.splits.length sc') (.slice ma' m'.marks.length mc') (.bool m'.sealed) (.slice ba' m'.late.length bc')) := HO9.out.fill (g := w.heap.size + 1) (fun _ => rfl) _ _ _ _ _ _
        refine hK _ _ (by first | rfl | (go_simp; done)) hC ?_
        clear hK K z0 z1 z2 z3 z4 z5 zf
        refine seq_read hg 20 rfl (by kernel_rfl) (by first | rfl | (simp [Region.wanted, yielded]; done)) hC (fun K hK => ?_)
        apply Exists.intro
        refine ⟨fun W hW => ?_, ?_⟩
        · go_simp
          rfl
        go_simp
        refine hK _ ?_
        clear hK K
        refine seq_read hg 21 rfl (by kernel_rfl) (by first | rfl | (simp [Region.wanted, yielded]; done)) hC (fun K hK => ?_)
        apply Exists.intro
        refine ⟨fun W hW => ?_, ?_⟩
        · go_simp
          rfl
        go_simp
        refine hK _ ?_
        clear hK K
        refine seq_read hg 22 rfl (by kernel_rfl) (by first | rfl | (simp [Region.wanted, yielded]; done)) hC (fun K hK => ?_)
        apply Exists.intro
        refine ⟨fun W hW => ?_, ?_⟩
        · go_simp
          rfl
        go_simp
        refine hK _ ?_
        clear hK K
        refine seq_end (by kernel_rfl) ?_
        clear hC
        go_wp2_with fail
        have hF : (fill45 w9 (w.heap.size + 1) (.slice sha' s.length shc') (.int .i64 m'.bound) (.slice sa' m'.splits.length sc') (.slice ma' m'.marks.length mc') (.bool m'.sealed) (.slice ba' m'.late.length bc')).heap[w.heap.size + 1]? = some (.cells #[.slice sha' s.length shc', .int .i64 m'.bound, .slice sa' m'.splits.length sc', .slice ma' m'.marks.length mc', .bool m'.sealed, .slice ba' m'.late.length bc'] 45 (0, 0)) := box45_fill (w := w9) (g := w.heap.size + 1) ((B9.out.block _ (heap_lt X10.out)).trans X10.out) _ _ _ _ _ _
        unfold fill45 at hF
        refine bodyPost_ret (ret45_4 rfl _ _ (w.heap.size + 1) hF rfl) rfl ?_
        clear hF
        rw [HM.out, HLT.out, HNE2.out]
        refine ⟨⟨.slice sha' s.length shc', (sa', sc'), (ma', mc'), .slice ba' m'.late.length bc'⟩, rfl, ?_⟩
        have oF : Only (fun b => b = w.heap.size + 1) w9 (fill45 w9 (w.heap.size + 1) (.slice sha' s.length shc') (.int .i64 m'.bound) (.slice sa' m'.splits.length sc') (.slice ma' m'.marks.length mc') (.bool m'.sealed) (.slice ba' m'.late.length bc')) := (Only.refl (fun b => b = w.heap.size + 1) w9).fill (g := w.heap.size + 1) (fun _ => rfl) _ _ _ _ _ _
        have B39 : Below w3.heap.size w3 w9 := BW6.out.trans (B9.out.mono BW6.out.size)
        have hz39 := B39.size
        have hcol5 : ∀ b, w.heap.size ≤ b → b < w2.heap.size → col5 b = 0 := fun b h1 h2 => (WE.out.colE b h2).trans (HC0.out b h1)
        have hcolN : ∀ b, w3.heap.size ≤ b → col5 b = 0 := fun b h1 => by
          by_cases e : col5 b = 0
          · exact e
          · have := WW.out.c0 b e; omega
        rw [← hws]
        refine did_end (D := D) (w7 := w9) (col7 := col5) (D7 := Plus D w4 w5) (b6 := w.heap.size + 1) (WW.out.below B39) (R6.out.below B9.out) ?_ ((B9.out.block _ (heap_lt X10.out)).trans X10.out) (hcol5 _ (by omega) (by omega)) (((Went.below HBW2.out).trans WE.out).trans (Went.below B39)) (by omega) oF
        intro b hb
        rcases hb with hb | hb
        · have h1 := (HD.out b hb).1
          exact ⟨by omega, (WE.out.colE b (by omega)).trans (HD.out b hb).2, by omega, .inl hb⟩
        · exact ⟨by have := B39.size; have h1 := B6.out.size; have h2 := B9.out.size; omega, hcolN b (by omega), by omega, .inr (by omega)⟩
      ·
        go_simp
        refine hK _ _ (by first | rfl | (go_simp; done)) (HO7.out.alloc (.cells #[.int .i64 y.t, .slice r1 y.r.length r2] 30)).drew ?_
        clear hK K hC
        refine seq_one 4 (by kernel_rfl) rfl (by first | rfl | (simp [Region.wanted, yielded]; done)) (fun K hK => ?_)
        go_simp
        refine hK _ _ (by first | rfl | (go_simp; done)) ((HO7.out.alloc (.cells #[.int .i64 y.t, .slice r1 y.r.length r2] 30)).alloc (.cells #[.int .i64 y.t, .slice va y.r.length vc] 30)).drew ?_
        clear hK K
        have B8 : Below w6.heap.size w6 ((w7.alloc (.cells #[.int .i64 y.t, .slice r1 y.r.length r2] 30)).alloc (.cells #[.int .i64 y.t, .slice va y.r.length vc] 30)).drew := ((HC8.out.alloc HC8.out.size _).alloc (by have h := HC8.out.size; simp; omega) _).drew
        have L8 := H61.out ((w7.alloc (.cells #[.int .i64 y.t, .slice r1 y.r.length r2] 30)).alloc (.cells #[.int .i64 y.t, .slice va y.r.length vc] 30)).drew (w7.heap.size + 1) w7.heap.size B8 (drew_at (new_snd w7 _ _)) (drew_at (alloc_keep (heap_alloc_new w7 _)))
        generalize ((w7.alloc (.cells #[.int .i64 y.t, .slice r1 y.r.length r2] 30)).alloc (.cells #[.int .i64 y.t, .slice va y.r.length vc] 30)).drew = w8 at B8 L8 ⊢
        refine seq_one 18 (by kernel_rfl) rfl (by first | rfl | (simp [Region.wanted, yielded]; done)) (fun K hK => ?_)
        go_simp
        go_at_call 61
        refine L8.mono ?_
        rintro e w9 ⟨rfl, hgr⟩
        have B9 := Lib.hid (B8.trans (hgr.below.mono B8.size))
        clear hgr L8
        have HO9 : Hid (Only (fun b => b = w.heap.size + 1) w6 w9) := Only.mono (Only.of_below B9.out) (fun _ _ h => h)
        refine hK _ _ (by first | rfl | (go_simp; done)) HO9.out ?_
        clear hK K B8
        refine seq_one 19 (by kernel_rfl) rfl (by first | rfl | (simp [Region.wanted, yielded]; done)) (fun K hK => ?_)
        obtain ⟨z0, z1, z2, z3, z4, z5, zf⟩ := box45_cells ((B9.out.block _ (heap_lt X10.out)).trans X10.out)
        go_simp
        have hC : Only (fun b => b = w.heap.size + 1) w6 (fill45 w9 (w.heap.size + 1) (.slice sha' s.length shc') (.int .i64 m'.bound) (.slice sa' m'.splits.length sc') (.slice ma' m'.marks.length mc') (.bool m'.sealed) (.slice ba' m'.late.length bc')) := HO9.out.fill (g := w.heap.size + 1) (fun _ => rfl) _ _ _ _ _ _
        refine hK _ _ (by first | rfl | (go_simp; done)) hC ?_
        clear hK K z0 z1 z2 z3 z4 z5 zf
        refine seq_read hg 20 rfl (by kernel_rfl) (by first | rfl | (simp [Region.wanted, yielded]; done)) hC (fun K hK => ?_)
        apply Exists.intro
        refine ⟨fun W hW => ?_, ?_⟩
        · go_simp
          rfl
        go_simp
        refine hK _ ?_
        clear hK K
        refine seq_read hg 21 rfl (by kernel_rfl) (by first | rfl | (simp [Region.wanted, yielded]; done)) hC (fun K hK => ?_)
        apply Exists.intro
        refine ⟨fun W hW => ?_, ?_⟩
        · go_simp
          rfl
        go_simp
        refine hK _ ?_
        clear hK K
        refine seq_read hg 22 rfl (by kernel_rfl) (by first | rfl | (simp [Region.wanted, yielded]; done)) hC (fun K hK => ?_)
        apply Exists.intro
        refine ⟨fun W hW => ?_, ?_⟩
        · go_simp
          rfl
        go_simp
        refine hK _ ?_
        clear hK K
        refine seq_end (by kernel_rfl) ?_
        clear hC
        go_wp2_with fail
        have hF : (fill45 w9 (w.heap.size + 1) (.slice sha' s.length shc') (.int .i64 m'.bound) (.slice sa' m'.splits.length sc') (.slice ma' m'.marks.length mc') (.bool m'.sealed) (.slice ba' m'.late.length bc')).heap[w.heap.size + 1]? = some (.cells #[.slice sha' s.length shc', .int .i64 m'.bound, .slice sa' m'.splits.length sc', .slice ma' m'.marks.length mc', .bool m'.sealed, .slice ba' m'.late.length bc'] 45 (0, 0)) := box45_fill (w := w9) (g := w.heap.size + 1) ((B9.out.block _ (heap_lt X10.out)).trans X10.out) _ _ _ _ _ _
        unfold fill45 at hF
        refine bodyPost_ret (ret45_4 rfl _ _ (w.heap.size + 1) hF rfl) rfl ?_
        clear hF
        rw [HM.out, HLT.out, HNE2.out]
        refine ⟨⟨.slice sha' s.length shc', (sa', sc'), (ma', mc'), .slice ba' m'.late.length bc'⟩, rfl, ?_⟩
        have oF : Only (fun b => b = w.heap.size + 1) w9 (fill45 w9 (w.heap.size + 1) (.slice sha' s.length shc') (.int .i64 m'.bound) (.slice sa' m'.splits.length sc') (.slice ma' m'.marks.length mc') (.bool m'.sealed) (.slice ba' m'.late.length bc')) := (Only.refl (fun b => b = w.heap.size + 1) w9).fill (g := w.heap.size + 1) (fun _ => rfl) _ _ _ _ _ _
        have B39 : Below w3.heap.size w3 w9 := BW6.out.trans (B9.out.mono BW6.out.size)
        have hz39 := B39.size
        have hcol5 : ∀ b, w.heap.size ≤ b → b < w2.heap.size → col5 b = 0 := fun b h1 h2 => (WE.out.colE b h2).trans (HC0.out b h1)
        have hcolN : ∀ b, w3.heap.size ≤ b → col5 b = 0 := fun b h1 => by
          by_cases e : col5 b = 0
          · exact e
          · have := WW.out.c0 b e; omega
        rw [← hws]
        refine did_end (D := D) (w7 := w9) (col7 := col5) (D7 := Plus D w4 w5) (b6 := w.heap.size + 1) (WW.out.below B39) (R6.out.below B9.out) ?_ ((B9.out.block _ (heap_lt X10.out)).trans X10.out) (hcol5 _ (by omega) (by omega)) (((Went.below HBW2.out).trans WE.out).trans (Went.below B39)) (by omega) oF
        intro b hb
        rcases hb with hb | hb
        · have h1 := (HD.out b hb).1
          exact ⟨by omega, (WE.out.colE b (by omega)).trans (HD.out b hb).2, by omega, .inl hb⟩
        · exact ⟨by have := B39.size; have h1 := B6.out.size; have h2 := B9.out.size; omega, hcolN b (by omega), by omega, .inr (by omega)⟩
    · have hne : eqS nj nm = false := by
        cases hb : eqS nj nm with
        | false => rfl
        | true =>
          exfalso
          have h := eqS_true.mp hb
          rw [← hnj, ← HNM0.out] at h
          exact hjk (HU.out j k hjs hk h)
      have hne1 : (nj == nm) = false := by rw [eqS_beq, hne]
      have hne2 : (nj.toList == nm.toList) = false := hne
      have hne3 : ¬ nj.toList = nm.toList := by simpa using hne2
      have HFJ : Hid (∀ W, Below wr.heap.size wr W → W.cell? ⟨nb, no + j, none⟩ = some (.string nj) ∧ W.cell? ⟨w3.heap.size, 1, none⟩ = some (.string nm)) := fun W hb => by
        have hb6 := HT.out W hb
        obtain ⟨-, g1, -⟩ := HF6.out W hb6
        exact ⟨by rw [hb6.cell (p := ⟨nb, no + j, none⟩) hnb]; exact hnc, g1⟩
      clear hnj htz hnz hslen hrlen hnc hoc
      go_wp2_with fail
      have hC : Below wr.heap.size wr wr.drew := (Below.refl _ _).drew
      refine wp_region_seq 28 (fun W => Below wr.heap.size wr W) mixed (by kernel_rfl) (fun hg => ?_)
      refine seq_read hg 0 rfl (by kernel_rfl) (by first | rfl | (simp [Region.wanted, yielded]; done)) hC (fun K hK => ?_)
      apply Exists.intro
      refine ⟨fun W hW => ?_, ?_⟩
      · go_simp
        rfl
      go_simp
      refine hK _ ?_
      clear hK K
      refine seq_read hg 1 rfl (by kernel_rfl) (by first | rfl | (simp [Region.wanted, yielded]; done)) hC (fun K hK => ?_)
      apply Exists.intro
      refine ⟨fun W hW => ?_, ?_⟩
      · go_simp
        rfl
      go_simp
      refine hK _ ?_
      clear hK K
      refine seq_read hg 2 rfl (by kernel_rfl) (by first | rfl | (simp [Region.wanted, yielded]; done)) hC (fun K hK => ?_)
      apply Exists.intro
      refine ⟨fun W hW => ?_, ?_⟩
      · go_simp
        rfl
      go_simp
      refine hK _ ?_
      clear hK K
      refine seq_read hg 3 rfl (by kernel_rfl) (by first | rfl | (simp [Region.wanted, yielded]; done)) hC (fun K hK => ?_)
      apply Exists.intro
      refine ⟨fun W hW => ?_, ?_⟩
      · obtain ⟨g0, g1⟩ := HFJ.out W hW
        go_simp
        rfl
      go_simp
      refine hK _ ?_
      clear hK K
      refine seq_read hg 4 rfl (by kernel_rfl) (by first | rfl | (simp [Region.wanted, yielded]; done)) hC (fun K hK => ?_)
      apply Exists.intro
      refine ⟨fun W hW => ?_, ?_⟩
      · go_simp
        rfl
      go_simp
      refine hK _ ?_
      clear hK K
      refine seq_read hg 5 rfl (by kernel_rfl) (by first | rfl | (simp [Region.wanted, yielded]; done)) hC (fun K hK => ?_)
      apply Exists.intro
      refine ⟨fun W hW => ?_, ?_⟩
      · obtain ⟨g0, g1⟩ := HFJ.out W hW
        go_simp
        rfl
      go_simp
      refine hK _ ?_
      clear hK K
      refine seq_read hg 6 rfl (by kernel_rfl) (by first | rfl | (simp [Region.wanted, yielded]; done)) hC (fun K hK => ?_)
      apply Exists.intro
      refine ⟨fun W hW => ?_, ?_⟩
      · go_simp
        rfl
      go_simp
      refine hK _ ?_
      clear hK K
      refine seq_read hg 7 rfl (by kernel_rfl) (by first | rfl | (simp [Region.wanted, yielded]; done)) hC (fun K hK => ?_)
      apply Exists.intro
      refine ⟨fun W hW => ?_, ?_⟩
      · go_simp
        rfl
      go_simp
      refine hK _ ?_
      clear hK K
      refine seq_pass hg 8 rfl (by kernel_rfl) (by simp [Region.wanted, yielded, hne3]) hC (fun K hK => ?_)
      go_simp
      refine hK _ ?_
      clear hK K
      refine seq_pass hg 9 rfl (by kernel_rfl) (by simp [Region.wanted, yielded, hne3]) hC (fun K hK => ?_)
      go_simp
      refine hK _ ?_
      clear hK K
      refine seq_pass hg 10 rfl (by kernel_rfl) (by simp [Region.wanted, yielded, hne3]) hC (fun K hK => ?_)
      go_simp
      refine hK _ ?_
      clear hK K
      refine seq_pass hg 11 rfl (by kernel_rfl) (by simp [Region.wanted, yielded, hne3]) hC (fun K hK => ?_)
      go_simp
      refine hK _ ?_
      clear hK K
      refine seq_pass hg 12 rfl (by kernel_rfl) (by simp [Region.wanted, yielded, hne3]) hC (fun K hK => ?_)
      go_simp
      refine hK _ ?_
      clear hK K
      refine seq_read hg 13 rfl (by kernel_rfl) (by first | rfl | (simp [Region.wanted, yielded]; done)) hC (fun K hK => ?_)
      apply Exists.intro
      refine ⟨fun W hW => ?_, ?_⟩
      · go_simp
        rfl
      go_simp
      refine hK _ ?_
      clear hK K
      refine seq_read hg 14 rfl (by kernel_rfl) (by first | rfl | (simp [Region.wanted, yielded]; done)) hC (fun K hK => ?_)
      apply Exists.intro
      refine ⟨fun W hW => ?_, ?_⟩
      · go_simp
        rfl
      go_simp
      refine hK _ ?_
      clear hK K
      refine seq_pass hg 15 rfl (by kernel_rfl) (by simp [Region.wanted, yielded, hne3]) hC (fun K hK => ?_)
      go_simp
      refine hK _ ?_
      clear hK K
      refine seq_pass hg 16 rfl (by kernel_rfl) (by simp [Region.wanted, yielded, hne3]) hC (fun K hK => ?_)
      go_simp
      refine hK _ ?_
      clear hK K
      refine seq_pass hg 17 rfl (by kernel_rfl) (by simp [Region.wanted, yielded, hne3]) hC (fun K hK => ?_)
      go_simp
      refine hK _ ?_
      clear hK K
      refine seq_pass hg 18 rfl (by kernel_rfl) (by simp [Region.wanted, yielded, hne3]) hC (fun K hK => ?_)
      go_simp
      refine hK _ ?_
      clear hK K
      refine seq_pass hg 19 rfl (by kernel_rfl) (by simp [Region.wanted, yielded, hne3]) hC (fun K hK => ?_)
      go_simp
      refine hK _ ?_
      clear hK K
      refine seq_pass hg 20 rfl (by kernel_rfl) (by simp [Region.wanted, yielded, hne3]) hC (fun K hK => ?_)
      go_simp
      refine hK _ ?_
      clear hK K
      refine seq_pass hg 21 rfl (by kernel_rfl) (by simp [Region.wanted, yielded, hne3]) hC (fun K hK => ?_)
      go_simp
      refine hK _ ?_
      clear hK K
      refine seq_pass hg 22 rfl (by kernel_rfl) (by simp [Region.wanted, yielded, hne3]) hC (fun K hK => ?_)
      go_simp
      refine hK _ ?_
      clear hK K
      refine seq_pass hg 23 rfl (by kernel_rfl) (by simp [Region.wanted, yielded, hne3]) hC (fun K hK => ?_)
      go_simp
      refine hK _ ?_
      clear hK K
      refine seq_pass hg 24 rfl (by kernel_rfl) (by simp [Region.wanted, yielded, hne3]) hC (fun K hK => ?_)
      go_simp
      refine hK _ ?_
      clear hK K
      refine seq_pass hg 25 rfl (by kernel_rfl) (by simp [Region.wanted, yielded, hne3]) hC (fun K hK => ?_)
      go_simp
      refine hK _ ?_
      clear hK K
      refine seq_pass hg 26 rfl (by kernel_rfl) (by simp [Region.wanted, yielded, hne3]) hC (fun K hK => ?_)
      go_simp
      refine hK _ ?_
      clear hK K
      refine seq_read hg 27 rfl (by kernel_rfl) (by first | rfl | (simp [Region.wanted, yielded]; done)) hC (fun K hK => ?_)
      apply Exists.intro
      refine ⟨fun W hW => ?_, ?_⟩
      · go_simp
        rfl
      go_simp
      refine hK _ ?_
      clear hK K
      refine seq_end (by kernel_rfl) ?_
      have HC8 := Lib.hid (HT.out _ hC)
      clear hC c2
      go_wp2_with fail
      go_roundw
      case rel => exact ⟨j + 1, by omega, by go_num, HC8⟩
      case measure => simp [intOf]; omega
end leaves
end Go.Proofs.YtimahogkcmmcnaaGreatDoor

