/-
  The well, part 64: the law WellRuns. Conditions: the schema and the acts lie in the world as the words say.
-/
import Derived.Test.YtimahogkcmmcnaaGreatDoorK29
import Derived.Test.YtimahogkcmmcnaaGreatDoorK31
set_option linter.unusedSimpArgs false
set_option linter.unusedVariables false

namespace Go.Proofs.YtimahogkcmmcnaaGreatDoor
open Go.RowKit Go.Proofs.YtimahogkcmmcnaaGreatDoor.Cmps

section leaves
set_option maxHeartbeats 4000000
set_option maxRecDepth 100000

theorem f5_any (hm : Tryz.prog.follows .mixedOrders = true) (w : World) (D : Nat → Prop) (v lv : Value) (s : List Col) (b r : Int) (l : List ActM) (hs : SchemaAt w D v s) (hl : ActsAt w D lv l) :
    Calls Tryz.prog 5 #[v, .int .i64 b, .int .i64 r, lv] w fun e w' => e = .returned (.bool true) ∧ Below w.heap.size w w' := by
  have mixed := hm
  obtain ⟨sha, shc, rfl⟩ : ∃ a c, v = .slice a s.length c := by obtain ⟨a, c, e, _⟩ := hs; exact ⟨a, c, e⟩
  obtain ⟨la, lc, rfl⟩ : ∃ a c, lv = .slice a l.length c := by obtain ⟨a, c, e, _⟩ := hl; exact ⟨a, c, e⟩
  have hll : l.length ≤ 9223372036854775807 := by obtain ⟨_, _, _, h, _⟩ := hl; exact h
  have HS : Hid (∀ W, Below w.heap.size w W → SchemaAt W (fun b => b < w.heap.size) (.slice sha s.length shc) s) := fun W hb => hs.keepC fun b _ hlt => ⟨hb.block b hlt, hlt⟩
  have HL : Hid (∀ W, Below w.heap.size w W → ActsAt W (fun b => b < w.heap.size) (.slice la l.length lc) l) := fun W hb => hl.keepC fun b _ hlt => ⟨hb.block b hlt, hlt⟩
  have H13 := Lib.hid (f13_any hm w)
  have HMX := Lib.hid hm
  clear hs hl hm
  go_enter Tryz.func5, Tryz.ntmps5
  go_wp2_with (first
    | (go_at_call 13; (with_reducible refine H13.out.mono ?_); rintro e w1 ⟨rfl, hb⟩; have HB1 := Lib.hid hb; have H14 := Lib.hid (f14_any w1 _ _ s (HS.out _ HB1.out)); have H15 := Lib.hid (f15_any w1 _ _ l (HL.out _ HB1.out)); clear hb)
    | (go_at_call 14; (with_reducible refine H14.out.mono ?_); rintro e w2 ⟨hb, rfl⟩; obtain ⟨b14, rfl⟩ := hb.out; clear hb)
    | (go_at_call 15; (with_reducible refine H15.out.mono ?_); rintro e w2 ⟨hb, rfl⟩; obtain ⟨b15, rfl⟩ := hb.out; clear hb))
  · go_ret
    exact ⟨rfl, HB1.out⟩
  · go_ret
    exact ⟨rfl, HB1.out⟩
  · have H16 := Lib.hid (f16_any HMX.out w1 _ (.slice sha s.length shc) s b r (HS.out _ HB1.out))
    have H17 : Hid (∀ W, Below w.heap.size w W → Calls Tryz.prog 17 #[.slice sha s.length shc, .int .i64 b, .int .i64 r] W fun e w' => Below W.heap.size W w' ∧ ((newE s b r ≠ 0 ∧ e = .returned (.tuple #[.agg #[.slice none 0 0, .int .i64 0, .slice none 0 0, .slice none 0 0, .bool false, .slice none 0 0], .int .i64 (newE s b r)])) ∨
      (newE s b r = 0 ∧ ∃ p', e = .returned (.tuple #[refV (newM b r.toNat) p', .int .i64 0]) ∧ RefAt w' (Plus (fun b => b < w.heap.size) W w') s (newM b r.toNat) p'))) := fun W hb => f17_any HMX.out W _ (.slice sha s.length shc) s b r (HS.out _ hb)
    go_at_call 16
    refine H16.out.mono ?_
    rintro e w2 ⟨hb2, h⟩
    have HB2 := Lib.hid (HB1.out.trans (hb2.mono HB1.out.size))
    rcases h with ⟨hne, rfl⟩ | ⟨h0, col, ws, rfl, hwa, hcol⟩
    · obtain ⟨E, hE⟩ : ∃ v, newE s b r = v := ⟨_, rfl⟩
      have H17' := H17.out w2 HB2.out
      rw [hE] at hne H17' ⊢
      have H17E := Lib.hid H17'
      have hne' : (E != 0) = true := by simpa using hne
      clear H17' hE hb2
      go_wp2_with fail
      go_at_call 17
      refine H17E.out.mono ?_
      rintro e w3 ⟨hb3, h⟩
      rcases h with ⟨_, rfl⟩ | ⟨h0, _⟩
      · have HB3 := Lib.hid (HB2.out.trans (hb3.mono HB2.out.size))
        clear hb3
        go_wp2_with fail
        all_goals (go_ret; exact ⟨rfl, HB3.out.alloc HB3.out.size _⟩)
      · exact absurd h0 hne
    · have H17' := H17.out w2 HB2.out
      obtain ⟨M0, hM0⟩ : ∃ v, newM b r.toNat = v := ⟨_, rfl⟩
      have hr1 : 1 ≤ r ∧ r ≤ 16 ∧ 0 ≤ b ∧ b ≤ 1000000000 := by
        unfold newE at h0
        split at h0
        · omega
        · split at h0 <;> omega
      have hg0 : Good M0 := by
        rw [← hM0]
        exact ⟨newM_ok (by omega) (by omega) (by omega) (by omega), newM_row _ _⟩
      rw [h0, hM0] at H17'
      rw [hM0] at hwa
      have H17E := Lib.hid H17'
      have HWA := Lib.hid hwa; have HCOL := Lib.hid hcol; have HG0 := Lib.hid hg0
      clear H17' H17 H16 hM0 hr1 hg0 h0 hwa hcol hb2
      go_wp2_with fail
      go_at_call 17
      refine H17E.out.mono ?_
      rintro e w3 ⟨hb3, h⟩
      rcases h with ⟨h0, _⟩ | ⟨_, p', rfl, hr3⟩
      · exact absurd rfl h0
      obtain ⟨sch0, ⟨sa0, sc0⟩, ⟨ma0, mc0⟩, back0⟩ := p'
      obtain ⟨sha0, shc0, rfl⟩ : ∃ a c, sch0 = .slice a s.length c := by obtain ⟨a, c, e, _⟩ := hr3.sch; exact ⟨a, c, e⟩
      obtain ⟨ba0, bc0, rfl⟩ : ∃ a c, back0 = .slice a M0.late.length c := by obtain ⟨a, c, e, _⟩ := hr3.back; exact ⟨a, c, e⟩
      have HR3 := Lib.hid hr3
      have HB23 := Lib.hid hb3
      have HB3 := Lib.hid (HB2.out.trans (hb3.mono HB2.out.size))
      clear hb3 hr3
      go_wp2_with fail
      have hz23 := HB23.out.size
      have hz2 := HB2.out.size
      have X11 : Hid ((w3.alloc (.cells #[.slice sha0 s.length shc0, .int .i64 M0.bound, .slice sa0 M0.splits.length sc0, .slice ma0 M0.marks.length mc0, .bool M0.sealed, .slice ba0 M0.late.length bc0] 45)).heap[w3.heap.size]? = some (.cells #[.slice sha0 s.length shc0, .int .i64 M0.bound, .slice sa0 M0.splits.length sc0, .slice ma0 M0.marks.length mc0, .bool M0.sealed, .slice ba0 M0.late.length bc0] 45 (0, 0))) := heap_alloc_new w3 _
      have B4 : Hid (Below w3.heap.size w3 (w3.alloc (.cells #[.slice sha0 s.length shc0, .int .i64 M0.bound, .slice sa0 M0.splits.length sc0, .slice ma0 M0.marks.length mc0, .bool M0.sealed, .slice ba0 M0.late.length bc0] 45))) := (Below.refl _ _).alloc (Nat.le_refl _) _
      have Z4 : Hid ((w3.alloc (.cells #[.slice sha0 s.length shc0, .int .i64 M0.bound, .slice sa0 M0.splits.length sc0, .slice ma0 M0.marks.length mc0, .bool M0.sealed, .slice ba0 M0.late.length bc0] 45)).heap.size = w3.heap.size + 1) := by show _ = _; simp
      generalize w3.alloc (.cells #[.slice sha0 s.length shc0, .int .i64 M0.bound, .slice sa0 M0.splits.length sc0, .slice ma0 M0.marks.length mc0, .bool M0.sealed, .slice ba0 M0.late.length bc0] 45) = w4 at X11 B4 Z4 ⊢
      have hz4 := Z4.out
      have B24 : Hid (Below w2.heap.size w2 w4) := HB23.out.trans (B4.out.mono hz23)
      go_loopw [13] (fun i wr => ∃ (k : Nat) (col : Nat → Nat) (ws' : WS) (m : WlM) (sha sa ma ba : Option Addr) (shc sc mc bc : Nat), k ≤ l.length ∧ i = .int .i64 k ∧ ws'.W = ws.W ∧ Hid (WAt wr col s ws' m) ∧ Hid (RefAt wr (fun x => Calm wr col x ∧ x ≠ w3.heap.size) s m ⟨.slice sha s.length shc, (sa, sc), (ma, mc), .slice ba m.late.length bc⟩) ∧ Hid (Good m) ∧
        Hid (wr.heap[w3.heap.size]? = some (.cells #[.slice sha s.length shc, .int .i64 m.bound, .slice sa m.splits.length sc, .slice ma m.marks.length mc, .bool m.sealed, .slice ba m.late.length bc] 45 (0, 0))) ∧ Hid (Below w.heap.size w wr) ∧ Hid (∀ x, x < w.heap.size → col x = 0) ∧ col w3.heap.size = 0) (fun i _ => l.length - (intOf i).toNat)
      case atStart =>
        have hc0 : ∀ x, w2.heap.size ≤ x → col x = 0 := fun x hx => by
          by_cases e : col x = 0
          · exact e
          · have := HWA.out.c0 x e; omega
        refine ⟨0, col, ws, M0, sha0, sa0, ma0, ba0, shc0, sc0, mc0, bc0, by omega, rfl, rfl, Lib.hid (HWA.out.below B24.out), Lib.hid ((HR3.out.below B4.out).mono fun x hx => ?_), HG0, X11, Lib.hid (HB2.out.trans (B24.out.mono hz2)), Lib.hid fun x hx => HCOL.out x (by have := HB1.out.size; omega), hc0 _ hz23⟩
        rcases hx with hx | hx
        · exact ⟨⟨by omega, HCOL.out x (by have := HB1.out.size; omega)⟩, by omega⟩
        · exact ⟨⟨by omega, hc0 x hx.1⟩, by omega⟩
      case round =>
        obtain ⟨k, col, ws', m, sha, sa, ma, ba, shc, sc, mc, bc, hk, rfl, hws, hwa, hra, hg, hx11, hbr, hcol, hc11⟩ := hrel
        have hx11l := heap_lt hx11.out
        by_cases hlt : k < l.length
        · have hacts := HL.out _ hbr.out
          obtain ⟨ab, ao, e1, e2, rfl, hab, he, hsm, hnm, c0, c1, c2, c3⟩ := hacts.atD hlt
          obtain ⟨x, hx⟩ : ∃ v, l[k] = v := ⟨_, rfl⟩
          rw [hx] at he hnm c0 c1 c2 c3
          have HEV := Lib.hid he
          have hkl : (k : Int) < (l.length : Int) := by omega
          have hk0 : (0 : Int) ≤ (k : Int) := by omega
          clear hsm hacts hx he
          have hD : ∀ y, (Calm wr col y ∧ y ≠ w3.heap.size) → Calm wr col y := fun y hy => hy.1
          have hzb : w.heap.size ≤ wr.heap.size := hbr.out.size
          have hev2 : EvtsAt wr (fun y => Calm wr col y ∧ y ≠ w3.heap.size) (.slice e1 x.evs.length e2) x.evs := HEV.out.mono fun y hy => ⟨⟨by omega, hcol.out y hy⟩, by omega⟩
          have H19 : Hid (∀ W, Below wr.heap.size wr W → Calls Tryz.prog 19 #[.pointer (some ⟨ws.W, 0, none⟩), .agg #[.slice sha s.length shc, .int .i64 m.bound, .slice sa m.splits.length sc, .slice ma m.marks.length mc, .bool m.sealed, .slice ba m.late.length bc], .agg #[.int .u8 x.kind, .int .i64 x.reader, .string x.name, .slice e1 x.evs.length e2]] W fun e w' => ∃ p', e = .returned (.tuple #[refV (actR s m x) p', .bool true]) ∧ DidTo W col (fun y => Calm wr col y ∧ y ≠ w3.heap.size) s ws.W (actR s m x) p' w') := fun W hb => by
            have h := f19_any HMX.out W col s ws' m ⟨.slice sha s.length shc, (sa, sc), (ma, mc), .slice ba m.late.length bc⟩ x (.slice e1 x.evs.length e2) (fun y => Calm wr col y ∧ y ≠ w3.heap.size) (fun y hy => ⟨Nat.lt_of_lt_of_le hy.1.1 hb.size, hy.1.2⟩) (hwa.out.below hb) (hra.out.below hb) hg.out (hev2.below hb) hnm
            rw [hws] at h
            exact h
          have HG2 := Lib.hid (actR_good (s := s) (x := x) hg.out)
          generalize actR s m x = m' at H19 HG2
          have HCN : Hid (∀ y, wr.heap.size ≤ y → col y = 0) := fun y hy => by
            by_cases e : col y = 0
            · exact e
            · have := hwa.out.c0 y e; omega
          clear hev2 hD hnm
          go_wp2_with fail
          have hC : wr.drew.heap[w3.heap.size]? = some (.cells #[.slice sha s.length shc, .int .i64 m.bound, .slice sa m.splits.length sc, .slice ma m.marks.length mc, .bool m.sealed, .slice ba m.late.length bc] 45 (0, 0)) ∧ wr.drew.cell? ⟨ab, ao + k * 4, none⟩ = some (.int .u8 x.kind) ∧ wr.drew.cell? ⟨ab, ao + k * 4 + 1, none⟩ = some (.int .i64 x.reader) ∧ wr.drew.cell? ⟨ab, ao + k * 4 + 2, none⟩ = some (.string x.name) ∧ wr.drew.cell? ⟨ab, ao + k * 4 + 3, none⟩ = some (.slice e1 x.evs.length e2) := ⟨hx11.out, c0, c1, c2, c3⟩
          have hB : Below wr.heap.size wr wr.drew := (Below.refl _ _).drew
          have HWA := hwa; have HRA := hra; have HX11 := hx11; have HBR := hbr; have HCL := hcol
          clear c0 c1 c2 c3 hwa hra hx11 hbr hcol hg HEV
          refine wp_region_seq 13 (fun W => W.heap[w3.heap.size]? = some (.cells #[.slice sha s.length shc, .int .i64 m.bound, .slice sa m.splits.length sc, .slice ma m.marks.length mc, .bool m.sealed, .slice ba m.late.length bc] 45 (0, 0)) ∧ W.cell? ⟨ab, ao + k * 4, none⟩ = some (.int .u8 x.kind) ∧ W.cell? ⟨ab, ao + k * 4 + 1, none⟩ = some (.int .i64 x.reader) ∧ W.cell? ⟨ab, ao + k * 4 + 2, none⟩ = some (.string x.name) ∧ W.cell? ⟨ab, ao + k * 4 + 3, none⟩ = some (.slice e1 x.evs.length e2)) mixed (by kernel_rfl) (fun hg => ?_)
          refine seq_read hg 0 rfl (by kernel_rfl) (by first | rfl | (simp [Region.wanted, yielded]; done)) hC (fun K hK => ?_)
          apply Exists.intro
          refine ⟨fun W hW => ?_, ?_⟩
          · go_simp
            rfl
          go_simp
          refine hK _ ?_
          clear hK K
          refine seq_read hg 1 rfl (by kernel_rfl) (by first | rfl | (simp [Region.wanted, yielded]; done)) hC (fun K hK => ?_)
          apply Exists.intro
          refine ⟨fun W hW => ?_, ?_⟩
          · obtain ⟨k1, k2, k3, k4, k5⟩ := hW
            obtain ⟨q0, q1, q2, q3, q4, q5, -⟩ := box45_cells k1
            clear k1
            go_simp
            rfl
          go_simp
          refine hK _ ?_
          clear hK K
          refine seq_read hg 2 rfl (by kernel_rfl) (by first | rfl | (simp [Region.wanted, yielded]; done)) hC (fun K hK => ?_)
          apply Exists.intro
          refine ⟨fun W hW => ?_, ?_⟩
          · go_simp
            rfl
          go_simp
          refine hK _ ?_
          clear hK K
          refine seq_read hg 3 rfl (by kernel_rfl) (by first | rfl | (simp [Region.wanted, yielded]; done)) hC (fun K hK => ?_)
          apply Exists.intro
          refine ⟨fun W hW => ?_, ?_⟩
          · go_simp
            rfl
          go_simp
          refine hK _ ?_
          clear hK K
          refine seq_read hg 4 rfl (by kernel_rfl) (by first | rfl | (simp [Region.wanted, yielded]; done)) hC (fun K hK => ?_)
          apply Exists.intro
          refine ⟨fun W hW => ?_, ?_⟩
          · go_simp
            rfl
          go_simp
          refine hK _ ?_
          clear hK K
          refine seq_read hg 5 rfl (by kernel_rfl) (by first | rfl | (simp [Region.wanted, yielded]; done)) hC (fun K hK => ?_)
          apply Exists.intro
          refine ⟨fun W hW => ?_, ?_⟩
          · obtain ⟨k1, k2, k3, k4, k5⟩ := hW
            obtain ⟨q0, q1, q2, q3, q4, q5, -⟩ := box45_cells k1
            clear k1
            go_simp
            rfl
          go_simp
          refine hK _ ?_
          clear hK K
          refine seq_two 6 10 (by kernel_rfl) rfl rfl (by first | rfl | (simp [Region.wanted, yielded]; done)) (by first | rfl | (simp [Region.wanted, yielded]; done)) (fun K hK => ?_) (fun K hK => ?_)
          · have hz0 : wr.drew.heap.size = wr.heap.size := rfl
            go_simp
            go_at_call 19
            refine (H19.out _ hB).mono ?_
            rintro e w5 ⟨p', rfl, col', wsn, hwsn, hwa5, hra5, hwent⟩
            obtain ⟨sch', ⟨sa', sc'⟩, ⟨ma', mc'⟩, back'⟩ := p'
            obtain ⟨sha', shc', rfl⟩ : ∃ a c, sch' = .slice a s.length c := by obtain ⟨a, c, e, _⟩ := hra5.sch; exact ⟨a, c, e⟩
            obtain ⟨ba', bc', rfl⟩ : ∃ a c, back' = .slice a m'.late.length c := by obtain ⟨a, c, e, _⟩ := hra5.back; exact ⟨a, c, e⟩
            have hzc : wr.heap.size ≤ wr.drew.heap.size := hB.size
            have hblk : ∀ y, y < wr.drew.heap.size → col y = 0 → w5.heap[y]? = wr.drew.heap[y]? := fun y h1 h2 => hwent.only.block y h1 (fun hn => hn h2)
            have habc : ∀ o, w5.cell? ⟨ab, o, none⟩ = wr.drew.cell? ⟨ab, o, none⟩ := fun o => cell_keep (hblk ab (by omega) (HCL.out ab (by omega))) o
            replace hC := And.intro ((hblk _ (by omega) hc11).trans hC.1) (And.intro ((habc _).trans hC.2.1) (And.intro ((habc _).trans hC.2.2.1) (And.intro ((habc _).trans hC.2.2.2.1) ((habc _).trans hC.2.2.2.2))))
            have hbw : Below w.heap.size w w5 := HBR.out.trans ((hB.mono hzb).trans (hwent.only.below (by omega) (fun y hy => by
              by_cases hq : w.heap.size ≤ y
              · exact hq
              · exact absurd (HCL.out y (by omega)) hy)))
            have hc11' : col' w3.heap.size = 0 := (hwent.colE _ (by omega)).trans hc11
            have hcl' : ∀ y, y < w.heap.size → col' y = 0 := fun y hy => (hwent.colE y (by omega)).trans (HCL.out y hy)
            have hz5 := hwent.only.size
            refine hK _ _ rfl hC ?_
            clear hK K
            refine seq_read hg 7 rfl (by kernel_rfl) (by first | rfl | (simp [Region.wanted, yielded]; done)) hC (fun K hK => ?_)
            apply Exists.intro
            refine ⟨fun W hW => ?_, ?_⟩
            · go_simp
              rfl
            go_simp
            refine hK _ ?_
            clear hK K
            refine seq_read hg 8 rfl (by kernel_rfl) (by first | rfl | (simp [Region.wanted, yielded]; done)) hC (fun K hK => ?_)
            apply Exists.intro
            refine ⟨fun W hW => ?_, ?_⟩
            · go_simp
              rfl
            go_simp
            refine hK _ ?_
            clear hK K
            refine seq_read hg 9 rfl (by kernel_rfl) (by first | rfl | (simp [Region.wanted, yielded]; done)) hC (fun K hK => ?_)
            apply Exists.intro
            refine ⟨fun W hW => ?_, ?_⟩
            · go_simp
              rfl
            go_simp
            refine hK _ ?_
            clear hK K
            refine seq_one 10 (by kernel_rfl) rfl (by first | rfl | (simp [Region.wanted, yielded]; done)) (fun K hK => ?_)
            go_simp
            have B6 : Below w5.heap.size w5 (w5.alloc (.cells #[.slice none 0 0, .int .i64 0, .slice none 0 0, .slice none 0 0, .bool false, .slice none 0 0] 45)) := (Below.refl _ _).alloc (Nat.le_refl _) _
            replace hC := And.intro ((B6.block _ (heap_lt hC.1)).trans hC.1) (And.intro ((B6.cell (p := ⟨ab, ao + k * 4, none⟩) (cell_lt hC.2.1)).trans hC.2.1) (And.intro ((B6.cell (p := ⟨ab, ao + k * 4 + 1, none⟩) (cell_lt hC.2.2.1)).trans hC.2.2.1) (And.intro ((B6.cell (p := ⟨ab, ao + k * 4 + 2, none⟩) (cell_lt hC.2.2.2.1)).trans hC.2.2.2.1) ((B6.cell (p := ⟨ab, ao + k * 4 + 3, none⟩) (cell_lt hC.2.2.2.2)).trans hC.2.2.2.2))))
            refine hK _ _ rfl hC ?_
            clear hK K
            have P1 : Hid (WAt (w5.alloc (.cells #[.slice none 0 0, .int .i64 0, .slice none 0 0, .slice none 0 0, .bool false, .slice none 0 0] 45)) col' s wsn m') := hwa5.below B6
            have P2 : Hid (RefAt (w5.alloc (.cells #[.slice none 0 0, .int .i64 0, .slice none 0 0, .slice none 0 0, .bool false, .slice none 0 0] 45)) (fun y => Calm (w5.alloc (.cells #[.slice none 0 0, .int .i64 0, .slice none 0 0, .slice none 0 0, .bool false, .slice none 0 0] 45)) col' y ∧ y ≠ w3.heap.size ∧ y ≠ w5.heap.size) s m' ⟨.slice sha' s.length shc', (sa', sc'), (ma', mc'), .slice ba' m'.late.length bc'⟩) := (hra5.below B6).mono fun y hy => by
              have h1 := hy.1.1
              refine ⟨⟨by simp; omega, hy.1.2⟩, ?_, by omega⟩
              rcases hy.2 with h2 | h2
              · exact h2.2
              · omega
            have P3 : Hid ((w5.alloc (.cells #[.slice none 0 0, .int .i64 0, .slice none 0 0, .slice none 0 0, .bool false, .slice none 0 0] 45)).heap[w5.heap.size]? = some (.cells #[.slice none 0 0, .int .i64 0, .slice none 0 0, .slice none 0 0, .bool false, .slice none 0 0] 45 (0, 0))) := heap_alloc_new w5 _
            have P5 : Hid (Below w.heap.size w (w5.alloc (.cells #[.slice none 0 0, .int .i64 0, .slice none 0 0, .slice none 0 0, .bool false, .slice none 0 0] 45))) := hbw.trans (B6.mono hbw.size)
            have P7 : col' w5.heap.size = 0 := by
              by_cases e : col' w5.heap.size = 0
              · exact e
              · have := hwa5.c0 _ e; omega
            generalize hw6 : w5.alloc (.cells #[.slice none 0 0, .int .i64 0, .slice none 0 0, .slice none 0 0, .bool false, .slice none 0 0] 45) = w6 at P1 P2 P3 P5 hC ⊢
            clear hw6 B6 hwa5 hra5 hwent hblk habc
            have hbw5 := hbw.size
            have hw0 := P1
            obtain ⟨r0, r1, r2, r3, r4, r5, rf⟩ := box45_cells P3.out
            refine seq_one 11 (by kernel_rfl) rfl (by first | rfl | (simp [Region.wanted, yielded]; done)) (fun K hK => ?_)
            go_simp
            have habd : ∀ o, (fill45 w6 w5.heap.size (.slice sha' s.length shc') (.int .i64 m'.bound) (.slice sa' m'.splits.length sc') (.slice ma' m'.marks.length mc') (.bool m'.sealed) (.slice ba' m'.late.length bc')).cell? ⟨ab, o, none⟩ = w6.cell? ⟨ab, o, none⟩ := fun o => cell_keep (fill_ne (w := w6) (g := w5.heap.size) (by omega) (.slice sha' s.length shc') (.int .i64 m'.bound) (.slice sa' m'.splits.length sc') (.slice ma' m'.marks.length mc') (.bool m'.sealed) (.slice ba' m'.late.length bc')) o
            replace hC := And.intro ((fill_ne (w := w6) (g := w5.heap.size) (by omega : w3.heap.size ≠ w5.heap.size) (.slice sha' s.length shc') (.int .i64 m'.bound) (.slice sa' m'.splits.length sc') (.slice ma' m'.marks.length mc') (.bool m'.sealed) (.slice ba' m'.late.length bc')).trans hC.1) (And.intro ((habd _).trans hC.2.1) (And.intro ((habd _).trans hC.2.2.1) (And.intro ((habd _).trans hC.2.2.2.1) ((habd _).trans hC.2.2.2.2))))
            refine hK _ _ rfl hC ?_
            clear hK K r0 r1 r2 r3 r4 r5 rf habd
            refine seq_read hg 12 rfl (by kernel_rfl) (by first | rfl | (simp [Region.wanted, yielded]; done)) hC (fun K hK => ?_)
            apply Exists.intro
            refine ⟨fun W hW => ?_, ?_⟩
            · go_simp
              rfl
            go_simp
            refine hK _ ?_
            clear hK K
            refine seq_end (by kernel_rfl) ?_
            have o7 : Only (fun y => y = w5.heap.size) w6 (fill45 w6 w5.heap.size (.slice sha' s.length shc') (.int .i64 m'.bound) (.slice sa' m'.splits.length sc') (.slice ma' m'.marks.length mc') (.bool m'.sealed) (.slice ba' m'.late.length bc')) := (Only.refl (fun y => y = w5.heap.size) w6).fill (g := w5.heap.size) (fun _ => rfl) _ _ _ _ _ _
            have T1 : Hid (WAt (fill45 w6 w5.heap.size (.slice sha' s.length shc') (.int .i64 m'.bound) (.slice sa' m'.splits.length sc') (.slice ma' m'.marks.length mc') (.bool m'.sealed) (.slice ba' m'.late.length bc')) col' s wsn m') := P1.out.turn (mute45 P3.out) P7 (heap_lt P3.out) o7
            have T2 : Hid (RefAt (fill45 w6 w5.heap.size (.slice sha' s.length shc') (.int .i64 m'.bound) (.slice sa' m'.splits.length sc') (.slice ma' m'.marks.length mc') (.bool m'.sealed) (.slice ba' m'.late.length bc')) (fun y => Calm (fill45 w6 w5.heap.size (.slice sha' s.length shc') (.int .i64 m'.bound) (.slice sa' m'.splits.length sc') (.slice ma' m'.marks.length mc') (.bool m'.sealed) (.slice ba' m'.late.length bc')) col' y ∧ y ≠ w3.heap.size ∧ y ≠ w5.heap.size) s m' ⟨.slice sha' s.length shc', (sa', sc'), (ma', mc'), .slice ba' m'.late.length bc'⟩) := (P2.out.keep fun y hy hl => o7.block y hl hy.2.2).mono fun y hy => ⟨⟨Nat.lt_of_lt_of_le hy.1.1 o7.size, hy.1.2⟩, hy.2⟩
            have T3 : Hid ((fill45 w6 w5.heap.size (.slice sha' s.length shc') (.int .i64 m'.bound) (.slice sa' m'.splits.length sc') (.slice ma' m'.marks.length mc') (.bool m'.sealed) (.slice ba' m'.late.length bc')).heap[w5.heap.size]? = some (.cells #[.slice sha' s.length shc', .int .i64 m'.bound, .slice sa' m'.splits.length sc', .slice ma' m'.marks.length mc', .bool m'.sealed, .slice ba' m'.late.length bc'] 45 (0, 0))) := box45_fill (w := w6) (g := w5.heap.size) P3.out _ _ _ _ _ _
            have T4 : Hid ((fill45 w6 w5.heap.size (.slice sha' s.length shc') (.int .i64 m'.bound) (.slice sa' m'.splits.length sc') (.slice ma' m'.marks.length mc') (.bool m'.sealed) (.slice ba' m'.late.length bc')).heap[w3.heap.size]? = some (.cells #[.slice sha s.length shc, .int .i64 m.bound, .slice sa m.splits.length sc, .slice ma m.marks.length mc, .bool m.sealed, .slice ba m.late.length bc] 45 (0, 0))) := hC.1
            have T5 : Hid (Below w.heap.size w (fill45 w6 w5.heap.size (.slice sha' s.length shc') (.int .i64 m'.bound) (.slice sa' m'.splits.length sc') (.slice ma' m'.marks.length mc') (.bool m'.sealed) (.slice ba' m'.late.length bc'))) := P5.out.trans (o7.below P5.out.size (fun y hy => by omega))
            clear o7 hC P1 P2 P3 P5 hw0
            unfold fill45 at T1 T2 T3 T4 T5
            generalize hw7 : ((((((w6.setCell ⟨w5.heap.size, 0, none⟩ (.slice sha' s.length shc')).setCell ⟨w5.heap.size, 1, none⟩ (.int .i64 m'.bound)).setCell ⟨w5.heap.size, 2, none⟩ (.slice sa' m'.splits.length sc')).setCell ⟨w5.heap.size, 3, none⟩ (.slice ma' m'.marks.length mc')).setCell ⟨w5.heap.size, 4, none⟩ (.bool m'.sealed)).setCell ⟨w5.heap.size, 5, none⟩ (.slice ba' m'.late.length bc')) = w7 at T1 T2 T3 T4 T5 ⊢
            clear hw7
            have h24 := f24_any HMX.out w7 col' _ s wsn m' ⟨.slice sha' s.length shc', (sa', sc'), (ma', mc'), .slice ba' m'.late.length bc'⟩ T1.out T2.out HG2.out.ok HG2.out.row
            rw [hwsn] at h24
            have H24 := Lib.hid h24
            clear h24
            obtain ⟨x0, x1, x2, x3, x4, x5, xf⟩ := box45_cells T3.out
            go_wp2_with (go_at_call 24; (with_reducible refine H24.out.mono ?_); rintro e w8 ⟨rfl, hb8⟩
                         have t3 := (hb8.block _ (heap_lt T3.out)).trans T3.out
                         have t4 := (hb8.block _ (heap_lt T4.out)).trans T4.out
                         have T6 := Lib.hid t4; have HB8 := Lib.hid hb8
                         clear x0 x1 x2 x3 x4 x5 xf
                         obtain ⟨x0, x1, x2, x3, x4, x5, xf⟩ := box45_cells t3
                         obtain ⟨z0, z1, z2, z3, z4, z5, zf⟩ := box45_cells t4
                         clear t3 t4 hb8)
            have hzz := HB8.out.size
            have ht4 := heap_lt T4.out
            have o9 : Only (fun y => y = w3.heap.size) w8 (fill45 w8 w3.heap.size (.slice sha' s.length shc') (.int .i64 m'.bound) (.slice sa' m'.splits.length sc') (.slice ma' m'.marks.length mc') (.bool m'.sealed) (.slice ba' m'.late.length bc')) := (Only.refl (fun y => y = w3.heap.size) w8).fill (g := w3.heap.size) (fun _ => rfl) _ _ _ _ _ _
            have U1 : Hid (WAt (fill45 w8 w3.heap.size (.slice sha' s.length shc') (.int .i64 m'.bound) (.slice sa' m'.splits.length sc') (.slice ma' m'.marks.length mc') (.bool m'.sealed) (.slice ba' m'.late.length bc')) col' s wsn m') := (T1.out.below HB8.out).turn (mute45v T6.out) hc11' (heap_lt T6.out) o9
            have U2 : Hid (RefAt (fill45 w8 w3.heap.size (.slice sha' s.length shc') (.int .i64 m'.bound) (.slice sa' m'.splits.length sc') (.slice ma' m'.marks.length mc') (.bool m'.sealed) (.slice ba' m'.late.length bc')) (fun y => Calm (fill45 w8 w3.heap.size (.slice sha' s.length shc') (.int .i64 m'.bound) (.slice sa' m'.splits.length sc') (.slice ma' m'.marks.length mc') (.bool m'.sealed) (.slice ba' m'.late.length bc')) col' y ∧ y ≠ w3.heap.size) s m' ⟨.slice sha' s.length shc', (sa', sc'), (ma', mc'), .slice ba' m'.late.length bc'⟩) := ((T2.out.below HB8.out).keep fun y hy hl => o9.block y hl hy.2.1).mono fun y hy => ⟨⟨Nat.lt_of_lt_of_le (Nat.lt_of_lt_of_le hy.1.1 hzz) o9.size, hy.1.2⟩, hy.2.1⟩
            have U3 : Hid ((fill45 w8 w3.heap.size (.slice sha' s.length shc') (.int .i64 m'.bound) (.slice sa' m'.splits.length sc') (.slice ma' m'.marks.length mc') (.bool m'.sealed) (.slice ba' m'.late.length bc')).heap[w3.heap.size]? = some (.cells #[.slice sha' s.length shc', .int .i64 m'.bound, .slice sa' m'.splits.length sc', .slice ma' m'.marks.length mc', .bool m'.sealed, .slice ba' m'.late.length bc'] 45 (0, 0))) := box45_fill (w := w8) (g := w3.heap.size) T6.out _ _ _ _ _ _
            have U5 : Hid (Below w.heap.size w (fill45 w8 w3.heap.size (.slice sha' s.length shc') (.int .i64 m'.bound) (.slice sa' m'.splits.length sc') (.slice ma' m'.marks.length mc') (.bool m'.sealed) (.slice ba' m'.late.length bc'))) := (T5.out.trans (HB8.out.mono T5.out.size)).trans (o9.below (by have := T5.out.size; omega) (fun y hy => by omega))
            clear o9
            go_roundw
            case rel => exact ⟨k + 1, col', wsn, m', sha', sa', ma', ba', shc', sc', mc', bc', by omega, by go_num, hwsn, U1, U2, HG2, U3, U5, Lib.hid hcl', hc11'⟩
            case measure => simp [intOf]; omega
          · go_simp
            have hz0 : wr.drew.heap.size = wr.heap.size := rfl
            have B6 : Below wr.heap.size wr (wr.alloc (.cells #[.slice none 0 0, .int .i64 0, .slice none 0 0, .slice none 0 0, .bool false, .slice none 0 0] 45)).drew := ((Below.refl wr.heap.size wr).alloc (Nat.le_refl _) _).drew
            have X6 : (wr.alloc (.cells #[.slice none 0 0, .int .i64 0, .slice none 0 0, .slice none 0 0, .bool false, .slice none 0 0] 45)).drew.heap[wr.heap.size]? = some (.cells #[.slice none 0 0, .int .i64 0, .slice none 0 0, .slice none 0 0, .bool false, .slice none 0 0] 45 (0, 0)) := heap_alloc_new wr _
            have hz6 : (wr.alloc (.cells #[.slice none 0 0, .int .i64 0, .slice none 0 0, .slice none 0 0, .bool false, .slice none 0 0] 45)).drew.heap.size = wr.heap.size + 1 := by simp
            have B60 : Below wr.heap.size wr (wr.alloc (.cells #[.slice none 0 0, .int .i64 0, .slice none 0 0, .slice none 0 0, .bool false, .slice none 0 0] 45)).drew := ((Below.refl wr.heap.size wr).alloc (Nat.le_refl _) _).drew
            replace hC := And.intro ((B60.block _ (heap_lt hC.1)).trans hC.1) (And.intro ((B60.cell (p := ⟨ab, ao + k * 4, none⟩) (cell_lt hC.2.1)).trans hC.2.1) (And.intro ((B60.cell (p := ⟨ab, ao + k * 4 + 1, none⟩) (cell_lt hC.2.2.1)).trans hC.2.2.1) (And.intro ((B60.cell (p := ⟨ab, ao + k * 4 + 2, none⟩) (cell_lt hC.2.2.2.1)).trans hC.2.2.2.1) ((B60.cell (p := ⟨ab, ao + k * 4 + 3, none⟩) (cell_lt hC.2.2.2.2)).trans hC.2.2.2.2))))
            refine hK _ _ rfl hC ?_
            clear hK K
            generalize hwz : (wr.alloc (.cells #[.slice none 0 0, .int .i64 0, .slice none 0 0, .slice none 0 0, .bool false, .slice none 0 0] 45)).drew = wz at B6 X6 hz6 hC ⊢
            clear hwz B60
            refine seq_one 6 (by kernel_rfl) rfl (by first | rfl | (simp [Region.wanted, yielded]; done)) (fun K hK => ?_)
            go_simp
            go_at_call 19
            refine (H19.out _ B6).mono ?_
            rintro e w5 ⟨p', rfl, col', wsn, hwsn, hwa5, hra5, hwent⟩
            obtain ⟨sch', ⟨sa', sc'⟩, ⟨ma', mc'⟩, back'⟩ := p'
            obtain ⟨sha', shc', rfl⟩ : ∃ a c, sch' = .slice a s.length c := by obtain ⟨a, c, e, _⟩ := hra5.sch; exact ⟨a, c, e⟩
            obtain ⟨ba', bc', rfl⟩ : ∃ a c, back' = .slice a m'.late.length c := by obtain ⟨a, c, e, _⟩ := hra5.back; exact ⟨a, c, e⟩
            have hzc : wr.heap.size ≤ wz.heap.size := B6.size
            have hblk : ∀ y, y < wz.heap.size → col y = 0 → w5.heap[y]? = wz.heap[y]? := fun y h1 h2 => hwent.only.block y h1 (fun hn => hn h2)
            have habc : ∀ o, w5.cell? ⟨ab, o, none⟩ = wz.cell? ⟨ab, o, none⟩ := fun o => cell_keep (hblk ab (by omega) (HCL.out ab (by omega))) o
            replace hC := And.intro ((hblk _ (by omega) hc11).trans hC.1) (And.intro ((habc _).trans hC.2.1) (And.intro ((habc _).trans hC.2.2.1) (And.intro ((habc _).trans hC.2.2.2.1) ((habc _).trans hC.2.2.2.2))))
            have hbw : Below w.heap.size w w5 := HBR.out.trans ((B6.mono hzb).trans (hwent.only.below (by omega) (fun y hy => by
              by_cases hq : w.heap.size ≤ y
              · exact hq
              · exact absurd (HCL.out y (by omega)) hy)))
            have hc11' : col' w3.heap.size = 0 := (hwent.colE _ (by omega)).trans hc11
            have hcl' : ∀ y, y < w.heap.size → col' y = 0 := fun y hy => (hwent.colE y (by omega)).trans (HCL.out y hy)
            have hz5 := hwent.only.size
            refine hK _ _ rfl hC ?_
            clear hK K
            refine seq_read hg 7 rfl (by kernel_rfl) (by first | rfl | (simp [Region.wanted, yielded]; done)) hC (fun K hK => ?_)
            apply Exists.intro
            refine ⟨fun W hW => ?_, ?_⟩
            · go_simp
              rfl
            go_simp
            refine hK _ ?_
            clear hK K
            refine seq_read hg 8 rfl (by kernel_rfl) (by first | rfl | (simp [Region.wanted, yielded]; done)) hC (fun K hK => ?_)
            apply Exists.intro
            refine ⟨fun W hW => ?_, ?_⟩
            · go_simp
              rfl
            go_simp
            refine hK _ ?_
            clear hK K
            refine seq_read hg 9 rfl (by kernel_rfl) (by first | rfl | (simp [Region.wanted, yielded]; done)) hC (fun K hK => ?_)
            apply Exists.intro
            refine ⟨fun W hW => ?_, ?_⟩
            · go_simp
              rfl
            go_simp
            refine hK _ ?_
            clear hK K
            have P1 := Lib.hid hwa5
            have P2 : Hid (RefAt w5 (fun y => Calm w5 col' y ∧ y ≠ w3.heap.size ∧ y ≠ wr.heap.size) s m' ⟨.slice sha' s.length shc', (sa', sc'), (ma', mc'), .slice ba' m'.late.length bc'⟩) := hra5.mono fun y hy => by
              have h1 := hy.1.1
              refine ⟨hy.1, ?_, ?_⟩
              · rcases hy.2 with h2 | h2
                · exact h2.2
                · omega
              · rcases hy.2 with h2 | h2
                · have := h2.1.1; omega
                · omega
            have P3 := Lib.hid ((hblk wr.heap.size (by omega) (HCN.out _ (Nat.le_refl _))).trans X6)
            have P5 := Lib.hid hbw
            have P7 : col' wr.heap.size = 0 := (hwent.colE _ (by omega)).trans (HCN.out _ (Nat.le_refl _))
            obtain ⟨w6, hw6⟩ : ∃ q, w5 = q := ⟨_, rfl⟩
            clear hwa5 hra5 hwent hblk habc
            have hbw5 := hbw.size
            subst hw6
            have hw0 := P1
            obtain ⟨r0, r1, r2, r3, r4, r5, rf⟩ := box45_cells P3.out
            refine seq_one 11 (by kernel_rfl) rfl (by first | rfl | (simp [Region.wanted, yielded]; done)) (fun K hK => ?_)
            go_simp
            have habd : ∀ o, (fill45 w5 wr.heap.size (.slice sha' s.length shc') (.int .i64 m'.bound) (.slice sa' m'.splits.length sc') (.slice ma' m'.marks.length mc') (.bool m'.sealed) (.slice ba' m'.late.length bc')).cell? ⟨ab, o, none⟩ = w5.cell? ⟨ab, o, none⟩ := fun o => cell_keep (fill_ne (w := w5) (g := wr.heap.size) (by omega) (.slice sha' s.length shc') (.int .i64 m'.bound) (.slice sa' m'.splits.length sc') (.slice ma' m'.marks.length mc') (.bool m'.sealed) (.slice ba' m'.late.length bc')) o
            replace hC := And.intro ((fill_ne (w := w5) (g := wr.heap.size) (by omega : w3.heap.size ≠ wr.heap.size) (.slice sha' s.length shc') (.int .i64 m'.bound) (.slice sa' m'.splits.length sc') (.slice ma' m'.marks.length mc') (.bool m'.sealed) (.slice ba' m'.late.length bc')).trans hC.1) (And.intro ((habd _).trans hC.2.1) (And.intro ((habd _).trans hC.2.2.1) (And.intro ((habd _).trans hC.2.2.2.1) ((habd _).trans hC.2.2.2.2))))
            refine hK _ _ rfl hC ?_
            clear hK K r0 r1 r2 r3 r4 r5 rf habd
            refine seq_read hg 12 rfl (by kernel_rfl) (by first | rfl | (simp [Region.wanted, yielded]; done)) hC (fun K hK => ?_)
            apply Exists.intro
            refine ⟨fun W hW => ?_, ?_⟩
            · go_simp
              rfl
            go_simp
            refine hK _ ?_
            clear hK K
            refine seq_end (by kernel_rfl) ?_
            have o7 : Only (fun y => y = wr.heap.size) w5 (fill45 w5 wr.heap.size (.slice sha' s.length shc') (.int .i64 m'.bound) (.slice sa' m'.splits.length sc') (.slice ma' m'.marks.length mc') (.bool m'.sealed) (.slice ba' m'.late.length bc')) := (Only.refl (fun y => y = wr.heap.size) w5).fill (g := wr.heap.size) (fun _ => rfl) _ _ _ _ _ _
            have T1 : Hid (WAt (fill45 w5 wr.heap.size (.slice sha' s.length shc') (.int .i64 m'.bound) (.slice sa' m'.splits.length sc') (.slice ma' m'.marks.length mc') (.bool m'.sealed) (.slice ba' m'.late.length bc')) col' s wsn m') := P1.out.turn (mute45 P3.out) P7 (heap_lt P3.out) o7
            have T2 : Hid (RefAt (fill45 w5 wr.heap.size (.slice sha' s.length shc') (.int .i64 m'.bound) (.slice sa' m'.splits.length sc') (.slice ma' m'.marks.length mc') (.bool m'.sealed) (.slice ba' m'.late.length bc')) (fun y => Calm (fill45 w5 wr.heap.size (.slice sha' s.length shc') (.int .i64 m'.bound) (.slice sa' m'.splits.length sc') (.slice ma' m'.marks.length mc') (.bool m'.sealed) (.slice ba' m'.late.length bc')) col' y ∧ y ≠ w3.heap.size ∧ y ≠ wr.heap.size) s m' ⟨.slice sha' s.length shc', (sa', sc'), (ma', mc'), .slice ba' m'.late.length bc'⟩) := (P2.out.keep fun y hy hl => o7.block y hl hy.2.2).mono fun y hy => ⟨⟨Nat.lt_of_lt_of_le hy.1.1 o7.size, hy.1.2⟩, hy.2⟩
            have T3 : Hid ((fill45 w5 wr.heap.size (.slice sha' s.length shc') (.int .i64 m'.bound) (.slice sa' m'.splits.length sc') (.slice ma' m'.marks.length mc') (.bool m'.sealed) (.slice ba' m'.late.length bc')).heap[wr.heap.size]? = some (.cells #[.slice sha' s.length shc', .int .i64 m'.bound, .slice sa' m'.splits.length sc', .slice ma' m'.marks.length mc', .bool m'.sealed, .slice ba' m'.late.length bc'] 45 (0, 0))) := box45_fill (w := w5) (g := wr.heap.size) P3.out _ _ _ _ _ _
            have T4 : Hid ((fill45 w5 wr.heap.size (.slice sha' s.length shc') (.int .i64 m'.bound) (.slice sa' m'.splits.length sc') (.slice ma' m'.marks.length mc') (.bool m'.sealed) (.slice ba' m'.late.length bc')).heap[w3.heap.size]? = some (.cells #[.slice sha s.length shc, .int .i64 m.bound, .slice sa m.splits.length sc, .slice ma m.marks.length mc, .bool m.sealed, .slice ba m.late.length bc] 45 (0, 0))) := hC.1
            have T5 : Hid (Below w.heap.size w (fill45 w5 wr.heap.size (.slice sha' s.length shc') (.int .i64 m'.bound) (.slice sa' m'.splits.length sc') (.slice ma' m'.marks.length mc') (.bool m'.sealed) (.slice ba' m'.late.length bc'))) := P5.out.trans (o7.below P5.out.size (fun y hy => by omega))
            clear o7 hC P1 P2 P3 P5 hw0
            unfold fill45 at T1 T2 T3 T4 T5
            generalize hw7 : ((((((w5.setCell ⟨wr.heap.size, 0, none⟩ (.slice sha' s.length shc')).setCell ⟨wr.heap.size, 1, none⟩ (.int .i64 m'.bound)).setCell ⟨wr.heap.size, 2, none⟩ (.slice sa' m'.splits.length sc')).setCell ⟨wr.heap.size, 3, none⟩ (.slice ma' m'.marks.length mc')).setCell ⟨wr.heap.size, 4, none⟩ (.bool m'.sealed)).setCell ⟨wr.heap.size, 5, none⟩ (.slice ba' m'.late.length bc')) = w7 at T1 T2 T3 T4 T5 ⊢
            clear hw7
            have h24 := f24_any HMX.out w7 col' _ s wsn m' ⟨.slice sha' s.length shc', (sa', sc'), (ma', mc'), .slice ba' m'.late.length bc'⟩ T1.out T2.out HG2.out.ok HG2.out.row
            rw [hwsn] at h24
            have H24 := Lib.hid h24
            clear h24
            obtain ⟨x0, x1, x2, x3, x4, x5, xf⟩ := box45_cells T3.out
            go_wp2_with (go_at_call 24; (with_reducible refine H24.out.mono ?_); rintro e w8 ⟨rfl, hb8⟩
                         have t3 := (hb8.block _ (heap_lt T3.out)).trans T3.out
                         have t4 := (hb8.block _ (heap_lt T4.out)).trans T4.out
                         have T6 := Lib.hid t4; have HB8 := Lib.hid hb8
                         clear x0 x1 x2 x3 x4 x5 xf
                         obtain ⟨x0, x1, x2, x3, x4, x5, xf⟩ := box45_cells t3
                         obtain ⟨z0, z1, z2, z3, z4, z5, zf⟩ := box45_cells t4
                         clear t3 t4 hb8)
            have hzz := HB8.out.size
            have ht4 := heap_lt T4.out
            have o9 : Only (fun y => y = w3.heap.size) w8 (fill45 w8 w3.heap.size (.slice sha' s.length shc') (.int .i64 m'.bound) (.slice sa' m'.splits.length sc') (.slice ma' m'.marks.length mc') (.bool m'.sealed) (.slice ba' m'.late.length bc')) := (Only.refl (fun y => y = w3.heap.size) w8).fill (g := w3.heap.size) (fun _ => rfl) _ _ _ _ _ _
            have U1 : Hid (WAt (fill45 w8 w3.heap.size (.slice sha' s.length shc') (.int .i64 m'.bound) (.slice sa' m'.splits.length sc') (.slice ma' m'.marks.length mc') (.bool m'.sealed) (.slice ba' m'.late.length bc')) col' s wsn m') := (T1.out.below HB8.out).turn (mute45v T6.out) hc11' (heap_lt T6.out) o9
            have U2 : Hid (RefAt (fill45 w8 w3.heap.size (.slice sha' s.length shc') (.int .i64 m'.bound) (.slice sa' m'.splits.length sc') (.slice ma' m'.marks.length mc') (.bool m'.sealed) (.slice ba' m'.late.length bc')) (fun y => Calm (fill45 w8 w3.heap.size (.slice sha' s.length shc') (.int .i64 m'.bound) (.slice sa' m'.splits.length sc') (.slice ma' m'.marks.length mc') (.bool m'.sealed) (.slice ba' m'.late.length bc')) col' y ∧ y ≠ w3.heap.size) s m' ⟨.slice sha' s.length shc', (sa', sc'), (ma', mc'), .slice ba' m'.late.length bc'⟩) := ((T2.out.below HB8.out).keep fun y hy hl => o9.block y hl hy.2.1).mono fun y hy => ⟨⟨Nat.lt_of_lt_of_le (Nat.lt_of_lt_of_le hy.1.1 hzz) o9.size, hy.1.2⟩, hy.2.1⟩
            have U3 : Hid ((fill45 w8 w3.heap.size (.slice sha' s.length shc') (.int .i64 m'.bound) (.slice sa' m'.splits.length sc') (.slice ma' m'.marks.length mc') (.bool m'.sealed) (.slice ba' m'.late.length bc')).heap[w3.heap.size]? = some (.cells #[.slice sha' s.length shc', .int .i64 m'.bound, .slice sa' m'.splits.length sc', .slice ma' m'.marks.length mc', .bool m'.sealed, .slice ba' m'.late.length bc'] 45 (0, 0))) := box45_fill (w := w8) (g := w3.heap.size) T6.out _ _ _ _ _ _
            have U5 : Hid (Below w.heap.size w (fill45 w8 w3.heap.size (.slice sha' s.length shc') (.int .i64 m'.bound) (.slice sa' m'.splits.length sc') (.slice ma' m'.marks.length mc') (.bool m'.sealed) (.slice ba' m'.late.length bc'))) := (T5.out.trans (HB8.out.mono T5.out.size)).trans (o9.below (by have := T5.out.size; omega) (fun y hy => by omega))
            clear o9
            go_roundw
            case rel => exact ⟨k + 1, col', wsn, m', sha', sa', ma', ba', shc', sc', mc', bc', by omega, by go_num, hwsn, U1, U2, HG2, U3, U5, Lib.hid hcl', hc11'⟩
            case measure => simp [intOf]; omega
        · go_wp2_with fail
          go_ret
          exact ⟨rfl, hbr.out⟩
end leaves
end Go.Proofs.YtimahogkcmmcnaaGreatDoor

