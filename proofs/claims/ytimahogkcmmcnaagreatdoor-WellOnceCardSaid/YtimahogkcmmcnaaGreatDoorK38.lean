/-
  The well, part 72: the law WellOnce. Conditions: the schema and the acts lie in the world as the words say; the kinds of acts are not below zero.
-/
import Derived.Test.YtimahogkcmmcnaaGreatDoorK37
set_option linter.unusedSimpArgs false
set_option linter.unusedVariables false

namespace Go.Proofs.YtimahogkcmmcnaaGreatDoor
open Go.RowKit Go.Proofs.YtimahogkcmmcnaaGreatDoor.Cmps

section leaves
set_option maxHeartbeats 4000000
set_option maxRecDepth 100000

theorem f4_any (hm : Tryz.prog.follows .mixedOrders = true) (w : World) (D : Nat → Prop) (v lv : Value) (s : List Col) (b r : Int) (l : List ActM) (hs : SchemaAt w D v s) (hl : ActsAt w D lv l) (hkn : ∀ x ∈ l, 0 ≤ x.kind) :
    Calls Tryz.prog 4 #[v, .int .i64 b, .int .i64 r, lv] w fun e w' => e = .returned (.bool true) ∧ Below w.heap.size w w' := by
  have mixed := hm
  obtain ⟨sha, shc, rfl⟩ : ∃ a c, v = .slice a s.length c := by obtain ⟨a, c, e, _⟩ := hs; exact ⟨a, c, e⟩
  obtain ⟨la, lc, rfl⟩ : ∃ a c, lv = .slice a l.length c := by obtain ⟨a, c, e, _⟩ := hl; exact ⟨a, c, e⟩
  have hll : l.length ≤ 9223372036854775807 := by obtain ⟨_, _, _, h, _⟩ := hl; exact h
  have HS : Hid (∀ W, Below w.heap.size w W → SchemaAt W (fun b => b < w.heap.size) (.slice sha s.length shc) s) := fun W hb => hs.keepC fun b _ hlt => ⟨hb.block b hlt, hlt⟩
  have HL : Hid (∀ W, Below w.heap.size w W → ActsAt W (fun b => b < w.heap.size) (.slice la l.length lc) l) := fun W hb => hl.keepC fun b _ hlt => ⟨hb.block b hlt, hlt⟩
  have HKN := Lib.hid hkn
  have H13 := Lib.hid (f13_any hm w)
  have HMX := Lib.hid hm
  clear hs hl hm hkn
  go_enter Tryz.func4, Tryz.ntmps4
  go_wp2_with (first
    | (go_at_call 13; (with_reducible refine H13.out.mono ?_); rintro e w1 ⟨rfl, hb⟩; have HB1 := Lib.hid hb; have H14 := Lib.hid (f14_any w1 _ _ s (HS.out _ HB1.out)); have H15 := Lib.hid (f15_any w1 _ _ l (HL.out _ HB1.out)); clear hb)
    | (go_at_call 14; (with_reducible refine H14.out.mono ?_); rintro e w2 ⟨hb, rfl⟩; obtain ⟨b14, rfl⟩ := hb.out; clear hb)
    | (go_at_call 15; (with_reducible refine H15.out.mono ?_); rintro e w2 ⟨hb, rfl⟩; obtain ⟨b15, rfl⟩ := hb.out; clear hb))
  · go_ret
    exact ⟨rfl, HB1.out⟩
  · go_ret
    exact ⟨rfl, HB1.out⟩
  · have H16 := Lib.hid (f16_any HMX.out w1 _ (.slice sha s.length shc) s b r (HS.out _ HB1.out))
    have H17 : Hid (∀ W, Below w.heap.size w W → Calls Tryz.prog 17 #[.slice sha s.length shc, .int .i64 b, .int .i64 r] W fun e w' => Below W.heap.size W w' ∧ ((newE s b r ≠ 0 ∧ e = .returned (.tuple #[.agg #[.slice none 0 0, .int .i64 0, .slice none 0 0, .slice none 0 0, .bool false, .slice none 0 0], .int .i64 (newE s b r)])) ∨
      (newE s b r = 0 ∧ ∃ p', e = .returned (.tuple #[refV (newM b r.toNat) p', .int .i64 0]) ∧ RefAt w' (Plus (fun b => b < w.heap.size) W w') s (newM b r.toNat) p'))) := fun W hb => f17_any HMX.out W _ (.slice sha s.length shc) s b r (HS.out _ hb)
    go_at_call 16
    refine H16.out.mono ?_
    rintro e w2 ⟨hb2, h⟩
    have HB2 := Lib.hid (HB1.out.trans (hb2.mono HB1.out.size))
    rcases h with ⟨hne, rfl⟩ | ⟨h0, col, ws, rfl, hwa, hcol⟩
    · obtain ⟨E, hE⟩ : ∃ v, newE s b r = v := ⟨_, rfl⟩
      have H17' := H17.out w2 HB2.out
      rw [hE] at hne H17' ⊢
      have H17E := Lib.hid H17'
      have hne' : (E != 0) = true := by simpa using hne
      clear H17' hE hb2
      go_wp2_with fail
      go_at_call 17
      refine H17E.out.mono ?_
      rintro e w3 ⟨hb3, h⟩
      rcases h with ⟨_, rfl⟩ | ⟨h0, _⟩
      · have HB3 := Lib.hid (HB2.out.trans (hb3.mono HB2.out.size))
        clear hb3
        go_wp2_with fail
        all_goals (go_ret; exact ⟨rfl, HB3.out.alloc HB3.out.size _⟩)
      · exact absurd h0 hne
    · have H17' := H17.out w2 HB2.out
      have hr1 : 1 ≤ r ∧ r ≤ 16 ∧ 0 ≤ b ∧ b ≤ 1000000000 := by
        unfold newE at h0
        split at h0
        · omega
        · split at h0 <;> omega
      obtain ⟨n, rfl⟩ : ∃ n : Nat, r = n := ⟨r.toNat, by omega⟩
      have hn : 1 ≤ n ∧ n ≤ 16 := by omega
      rw [Int.toNat_natCast] at H17' hwa
      obtain ⟨M0, hM0⟩ : ∃ v, newM b n = v := ⟨_, rfl⟩
      have hg0 : Good M0 := by
        rw [← hM0]
        exact ⟨newM_ok (by omega) (by omega) (by omega) (by omega), newM_row _ _⟩
      have HN0 : Hid (M0.marks.length = n) := by show _ = _; rw [← hM0]; simp [newM]
      have HU0 : Hid (Uniq M0) := by rw [← hM0]; exact newM_uniq b n
      have HLT0 : Hid (M0.late.length = 0) := by show _ = _; rw [← hM0]; rfl
      rw [h0, hM0] at H17'
      rw [hM0] at hwa
      have H17E := Lib.hid H17'
      have HWA := Lib.hid hwa; have HCOL := Lib.hid hcol; have HG0 := Lib.hid hg0
      have hmk := fun (W : World) => run_make_row' (P := Tryz.prog) 31 3 (.int .i64 0) 8 Tryz.underlying31 info3 rfl .i64 .i64 n (by omega) (by omega) W
      clear H17' H17 H16 hM0 hr1 hg0 h0 hwa hcol hb2
      go_wp2_with fail
      go_at_call 17
      refine H17E.out.mono ?_
      rintro e w3 ⟨hb3, h⟩
      rcases h with ⟨h0, _⟩ | ⟨_, p', rfl, hr3⟩
      · exact absurd rfl h0
      obtain ⟨sch0, ⟨sa0, sc0⟩, ⟨ma0, mc0⟩, back0⟩ := p'
      obtain ⟨sha0, shc0, rfl⟩ : ∃ a c, sch0 = .slice a s.length c := by obtain ⟨a, c, e, _⟩ := hr3.sch; exact ⟨a, c, e⟩
      obtain ⟨ba0, bc0, rfl⟩ : ∃ a c, back0 = .slice a M0.late.length c := by obtain ⟨a, c, e, _⟩ := hr3.back; exact ⟨a, c, e⟩
      have HR3 := Lib.hid hr3
      have HB23 := Lib.hid hb3
      have HB3 := Lib.hid (HB2.out.trans (hb3.mono HB2.out.size))
      clear hb3 hr3
      go_wp2_with fail
      have hz23 := HB23.out.size
      have hz2 := HB2.out.size
      have X11 : Hid ((w3.alloc (.cells #[.slice sha0 s.length shc0, .int .i64 M0.bound, .slice sa0 M0.splits.length sc0, .slice ma0 M0.marks.length mc0, .bool M0.sealed, .slice ba0 M0.late.length bc0] 45)).heap[w3.heap.size]? = some (.cells #[.slice sha0 s.length shc0, .int .i64 M0.bound, .slice sa0 M0.splits.length sc0, .slice ma0 M0.marks.length mc0, .bool M0.sealed, .slice ba0 M0.late.length bc0] 45 (0, 0))) := heap_alloc_new w3 _
      have B4 : Hid (Below w3.heap.size w3 (w3.alloc (.cells #[.slice sha0 s.length shc0, .int .i64 M0.bound, .slice sa0 M0.splits.length sc0, .slice ma0 M0.marks.length mc0, .bool M0.sealed, .slice ba0 M0.late.length bc0] 45))) := (Below.refl _ _).alloc (Nat.le_refl _) _
      have Z4 : Hid ((w3.alloc (.cells #[.slice sha0 s.length shc0, .int .i64 M0.bound, .slice sa0 M0.splits.length sc0, .slice ma0 M0.marks.length mc0, .bool M0.sealed, .slice ba0 M0.late.length bc0] 45)).heap.size = w3.heap.size + 1) := by show _ = _; simp
      generalize w3.alloc (.cells #[.slice sha0 s.length shc0, .int .i64 M0.bound, .slice sa0 M0.splits.length sc0, .slice ma0 M0.marks.length mc0, .bool M0.sealed, .slice ba0 M0.late.length bc0] 45) = w4 at X11 B4 Z4 ⊢
      have hz4 := Z4.out
      have B24 : Hid (Below w2.heap.size w2 w4) := HB23.out.trans (B4.out.mono hz23)
      have HI : Hid (OnceSt w (w4.alloc (.cells (madeCells #[.int .i64 0] n) 3)) w3.heap.size (w3.heap.size + 1) ws.W n s col ws M0 ⟨.slice sha0 s.length shc0, (sa0, sc0), (ma0, mc0), .slice ba0 M0.late.length bc0⟩ #[.slice sha0 s.length shc0, .int .i64 M0.bound, .slice sa0 M0.splits.length sc0, .slice ma0 M0.marks.length mc0, .bool M0.sealed, .slice ba0 M0.late.length bc0] (List.replicate n 0)) := by
        have hc0 : ∀ x, w2.heap.size ≤ x → col x = 0 := fun x hx => by
          by_cases e : col x = 0
          · exact e
          · have := HWA.out.c0 x e; omega
        have B45 : Below w4.heap.size w4 (w4.alloc (.cells (madeCells #[.int .i64 0] n) 3)) := (Below.refl _ _).alloc (Nat.le_refl _) _
        have hi := ints_made w4 n
        rw [hz4] at hi
        have hbx := (B45.block _ (heap_lt X11.out)).trans X11.out
        have hz1 := HB1.out.size
        have hzz := B45.size
        refine ⟨rfl, (HWA.out.below B24.out).below B45, ((HR3.out.below B4.out).below B45).mono fun x hx => ?_, HG0.out, HU0.out, hbx, mute45v hbx, hi, by simp, HN0.out, (HB2.out.trans (B24.out.mono hz2)).trans (B45.mono (by omega)), fun x hx => HCOL.out x (by omega), hc0 _ hz23, hc0 _ (by omega), by omega, by omega, by omega⟩
        rcases hx with hx | hx
        · exact ⟨⟨by omega, HCOL.out x (by omega)⟩, by omega, by omega⟩
        · exact ⟨⟨by omega, hc0 x hx.1⟩, by omega, by omega⟩
      clear HB3 HB23 X11 B4 Z4 B24 HR3 HWA HCOL HG0 HU0 H13 H14 H15
      generalize w4.alloc (.cells (madeCells #[.int .i64 0] n) 3) = w5 at HI ⊢
      go_loopw [14] (fun i wr => ∃ k : Nat, k ≤ n ∧ i = .int .i64 k ∧ Hid (OnceSt w wr w3.heap.size (w3.heap.size + 1) ws.W n s col ws M0 ⟨.slice sha0 s.length shc0, (sa0, sc0), (ma0, mc0), .slice ba0 M0.late.length bc0⟩ #[.slice sha0 s.length shc0, .int .i64 M0.bound, .slice sa0 M0.splits.length sc0, .slice ma0 M0.marks.length mc0, .bool M0.sealed, .slice ba0 M0.late.length bc0] (M0.marks.take k ++ (List.replicate n 0).drop k))) (fun i _ => n - (intOf i).toNat)
      case atStart => exact ⟨0, by omega, rfl, by simpa using HI⟩
      clear HI
      obtain ⟨k, hk, rfl, ho⟩ := hrel
      have hn0 := HN0.out
      by_cases hlt : k < n
      · have hkm : k < M0.marks.length := by omega
        have hml : (M0.marks.take k ++ (List.replicate n 0).drop k).length = n := by simp; omega
        have H18 := Lib.hid (once_18 ho.out k)
        have hmk1 : markI M0 k = M0.marks[k] := markI_in hkm
        have HNX : Hid (M0.marks.take (k + 1) ++ (List.replicate n 0).drop (k + 1) = (M0.marks.take k ++ (List.replicate n 0).drop k).set k M0.marks[k]) := note_next hkm (by simpa using hlt) (by simpa using hn0)
        obtain ⟨v, hv⟩ : ∃ v, M0.marks[k] = v := ⟨_, rfl⟩
        rw [hmk1, hv] at H18
        rw [hv] at HNX
        obtain ⟨old, c0⟩ : ∃ old, wr.cell? ⟨w3.heap.size + 1, k, none⟩ = some (.int .i64 old) := ⟨_, ho.out.ints.cell (by omega)⟩
        have hf := ho.out.ints.frozen k
        have HO := ho
        have HML := Lib.hid hml
        have hkl : (k : Int) < (n : Int) := by omega
        have hk0 : (0 : Int) ≤ (k : Int) := by omega
        clear ho hmk1 hv hml hn0
        go_wp2_with (go_at_call 18; (with_reducible refine H18.out.mono ?_); rintro e w9 ⟨rfl, rfl⟩)
        go_roundw
        case rel =>
          refine ⟨k + 1, by omega, by go_num, Lib.hid ?_⟩
          rw [HNX.out]
          refine HO.out.noted (by rw [List.length_set]; exact HML.out) (HO.out.ints.set k v) ?_
          exact (Only.refl (fun x => x = w3.heap.size + 1) wr).setCell (p := ⟨w3.heap.size + 1, k, none⟩) (fun _ => rfl) _
        case measure => simp [intOf]; omega
      have hkn : n = k := by omega
      subst hkn
      have ho0 : Hid (OnceSt w wr w3.heap.size (w3.heap.size + 1) ws.W n s col ws M0 ⟨.slice sha0 s.length shc0, (sa0, sc0), (ma0, mc0), .slice ba0 M0.late.length bc0⟩ #[.slice sha0 s.length shc0, .int .i64 M0.bound, .slice sa0 M0.splits.length sc0, .slice ma0 M0.marks.length mc0, .bool M0.sealed, .slice ba0 M0.late.length bc0] M0.marks) := by
        have h := ho.out
        rwa [show M0.marks.take n = M0.marks by rw [← hn0, List.take_length], show (List.replicate n (0 : Int)).drop n = [] by simp, List.append_nil] at h
      clear ho hlt hk hmk hn0
      go_wp2_with fail
      obtain ⟨wq, hwq⟩ : ∃ wl : World, wr = wl := ⟨_, rfl⟩
      subst hwq
      go_loopw [15, 16] (fun t i wr => ∃ (k : Nat) (col : Nat → Nat) (ws' : WS) (m : WlM) (sha sa ma ba : Option Addr) (shc sc mc bc : Nat), k ≤ l.length ∧ t = .int .i64 (m.late.length : Nat) ∧ i = .int .i64 k ∧ Hid (OnceSt w wr w3.heap.size (w3.heap.size + 1) ws.W n s col ws' m ⟨.slice sha s.length shc, (sa, sc), (ma, mc), .slice ba m.late.length bc⟩ #[.slice sha s.length shc, .int .i64 m.bound, .slice sa m.splits.length sc, .slice ma m.marks.length mc, .bool m.sealed, .slice ba m.late.length bc] m.marks)) (fun _ i _ => l.length - (intOf i).toNat)
      case atStart => exact ⟨0, col, ws, M0, sha0, sa0, ma0, ba0, shc0, sc0, mc0, bc0, by omega, by rw [HLT0.out]; rfl, rfl, ho0⟩
      clear ho0
      obtain ⟨k, col, ws', m, sha, sa, ma, ba, shc, sc, mc, bc, hk, rfl, rfl, ho⟩ := hrel
      by_cases hlt : k < l.length
      · have hacts := HL.out _ ho.out.below
        obtain ⟨ab, ao, e1, e2, rfl, hab, he, hsm, hnm, c0, c1, c2, c3⟩ := hacts.atD hlt
        have hxk := HKN.out _ (List.getElem_mem hlt)
        obtain ⟨x, hx⟩ : ∃ v, l[k] = v := ⟨_, rfl⟩
        rw [hx] at he hnm c0 c1 c2 c3 hxk
        have HCL : Hid (∀ W, Below w.heap.size w W → W.cell? ⟨ab, ao + k * 4, none⟩ = some (.int .u8 x.kind) ∧ W.cell? ⟨ab, ao + k * 4 + 1, none⟩ = some (.int .i64 x.reader) ∧ W.cell? ⟨ab, ao + k * 4 + 2, none⟩ = some (.string x.name) ∧ W.cell? ⟨ab, ao + k * 4 + 3, none⟩ = some (.slice e1 x.evs.length e2)) := fun W hb => by
          obtain ⟨ab', ao', e1', e2', q0, _, _, _, _, d0, d1, d2, d3⟩ := (HL.out W hb).atD hlt
          injection q0 with q0
          injection q0 with q1 q2 _
          subst q1 q2
          rw [hx] at d0 d1 d2 d3
          have d3' := d3
          rw [cell_keep ((hb.block ab hab).trans (ho.out.below.block ab hab).symm) (ao + k * 4 + 3), c3] at d3'
          injection d3' with d3'
          injection d3' with q3 _ q4
          subst q3 q4
          exact ⟨d0, d1, d2, d3⟩
        have hkl : (k : Int) < (l.length : Int) := by omega
        have hk0 : (0 : Int) ≤ (k : Int) := by omega
        clear hsm hacts hx c1 c2 c3
        have hki : kindI x = x.kind % 10 := Int.tmod_eq_emod_of_nonneg hxk
        have hm0 : 0 ≤ x.kind % 10 := by omega
        by_cases hk4 : x.kind % 10 < 4
        · go_wp2_with fail
          have HO := Lib.hid (ho.out.to (Below.refl _ _).drew)
          have HCALL := Lib.hid (once_19 HMX.out HO.out x (.slice e1 x.evs.length e2) (he.below (Below.refl _ _).drew) hnm (by rw [hki]; exact hm0) (by rw [hki]; exact hk4))
          have hC : Below w.heap.size w wr.drew := HO.out.below
          clear ho c0 he
          generalize actR s m x = m' at HCALL
          refine wp_region_seq 11 (fun W => Below w.heap.size w W) mixed (by kernel_rfl) (fun hg => ?_)
          generalize wr.drew = wd at HO HCALL hC ⊢
          refine seq_read hg 0 rfl (by kernel_rfl) (by first | rfl | (simp [Region.wanted, yielded]; done)) hC (fun K hK => ?_)
          apply Exists.intro
          refine ⟨fun W hW => ?_, ?_⟩
          · go_simp
            rfl
          go_simp
          refine hK _ ?_
          clear hK K
          refine seq_read hg 2 rfl (by kernel_rfl) (by first | rfl | (simp [Region.wanted, yielded]; done)) hC (fun K hK => ?_)
          apply Exists.intro
          refine ⟨fun W hW => ?_, ?_⟩
          · go_simp
            rfl
          go_simp
          refine hK _ ?_
          clear hK K
          refine seq_read hg 3 rfl (by kernel_rfl) (by first | rfl | (simp [Region.wanted, yielded]; done)) hC (fun K hK => ?_)
          apply Exists.intro
          refine ⟨fun W hW => ?_, ?_⟩
          · go_simp
            rfl
          go_simp
          refine hK _ ?_
          clear hK K
          refine seq_read hg 4 rfl (by kernel_rfl) (by first | rfl | (simp [Region.wanted, yielded]; done)) hC (fun K hK => ?_)
          apply Exists.intro
          refine ⟨fun W hW => ?_, ?_⟩
          · go_simp
            rfl
          go_simp
          refine hK _ ?_
          clear hK K
          refine seq_read hg 5 rfl (by kernel_rfl) (by first | rfl | (simp [Region.wanted, yielded]; done)) hC (fun K hK => ?_)
          apply Exists.intro
          refine ⟨fun W hW => ?_, ?_⟩
          · obtain ⟨u0, u1, u2, u3⟩ := HCL.out W hW
            go_simp
            rfl
          go_simp
          refine hK _ ?_
          clear hK K
          refine seq_one 1 (by kernel_rfl) rfl (by first | rfl | (simp [Region.wanted, yielded]; done)) (fun K hK => ?_)
          obtain ⟨z0, z1, z2, z3, z4, z5, zf⟩ := box45_cells HO.out.box
          go_simp
          refine hK _ _ rfl hC ?_
          clear hK K z0 z1 z2 z3 z4 z5 zf
          refine seq_one 6 (by kernel_rfl) rfl (by first | rfl | (simp [Region.wanted, yielded]; done)) (fun K hK => ?_)
          go_simp
          go_at_call 19
          refine HCALL.out.mono ?_
          rintro e w5 ⟨p', col', ws5, rfl, ho5, hlat, hlate⟩
          obtain ⟨sha', sa', ma', ba', shc', sc', mc', bc', rfl⟩ := ho5.form
          have HO5 := Lib.hid ho5
          have HO6 : Hid (OnceSt w (fill45 w5 w3.heap.size (.slice sha' s.length shc') (.int .i64 m'.bound) (.slice sa' m'.splits.length sc') (.slice ma' m'.marks.length mc') (.bool m'.sealed) (.slice ba' m'.late.length bc')) w3.heap.size (w3.heap.size + 1) ws.W n s col' ws5 m' ⟨.slice sha' s.length shc', (sa', sc'), (ma', mc'), .slice ba' m'.late.length bc'⟩ #[.slice sha' s.length shc', .int .i64 m'.bound, .slice sa' m'.splits.length sc', .slice ma' m'.marks.length mc', .bool m'.sealed, .slice ba' m'.late.length bc'] m.marks) := ho5.fill ho5.box
          have HLAT := Lib.hid hlat
          have HBW5 := Lib.hid ho5.below
          have HLE := Lib.hid hlate
          clear hlate
          clear ho5 hlat HCALL
          refine hK _ _ rfl HBW5.out ?_
          have hC := HBW5.out
          clear hK K
          refine seq_read hg 7 rfl (by kernel_rfl) (by first | rfl | (simp [Region.wanted, yielded]; done)) hC (fun K hK => ?_)
          apply Exists.intro
          refine ⟨fun W hW => ?_, ?_⟩
          · go_simp
            rfl
          go_simp
          refine hK _ ?_
          clear hK K
          refine seq_read hg 8 rfl (by kernel_rfl) (by first | rfl | (simp [Region.wanted, yielded]; done)) hC (fun K hK => ?_)
          apply Exists.intro
          refine ⟨fun W hW => ?_, ?_⟩
          · go_simp
            rfl
          go_simp
          refine hK _ ?_
          clear hK K
          refine seq_read hg 9 rfl (by kernel_rfl) (by first | rfl | (simp [Region.wanted, yielded]; done)) hC (fun K hK => ?_)
          apply Exists.intro
          refine ⟨fun W hW => ?_, ?_⟩
          · go_simp
            rfl
          go_simp
          refine hK _ ?_
          clear hK K
          refine seq_one 10 (by kernel_rfl) rfl (by first | rfl | (simp [Region.wanted, yielded]; done)) (fun K hK => ?_)
          obtain ⟨z0, z1, z2, z3, z4, z5, zf⟩ := box45_cells HO5.out.box
          go_simp
          replace hC := HO6.out.below
          refine hK _ _ rfl hC ?_
          clear hK K z0 z1 z2 z3 z4 z5 zf
          refine seq_end (by kernel_rfl) ?_
          clear hC HO5
          have H21 := Lib.hid (once_21 HMX.out HO6.out (fun i a b => HLAT.out.marks i a b))
          unfold fill45 at H21 HO6
          generalize hw6 : (((((w5.setCell ⟨w3.heap.size, 0, none⟩ (.slice sha' s.length shc')).setCell ⟨w3.heap.size, 1, none⟩ (.int .i64 m'.bound)).setCell ⟨w3.heap.size, 2, none⟩ (.slice sa' m'.splits.length sc')).setCell ⟨w3.heap.size, 3, none⟩ (.slice ma' m'.marks.length mc')).setCell ⟨w3.heap.size, 4, none⟩ (.bool m'.sealed)).setCell ⟨w3.heap.size, 5, none⟩ (.slice ba' m'.late.length bc') = w6 at H21 HO6 ⊢
          clear hw6
          go_wp2_with (go_at_call 21; (with_reducible refine H21.out.mono ?_); rintro e w7 ⟨rfl, ho7, -⟩; have HO7 := Lib.hid ho7; clear ho7)
          go_roundw
          case rel => exact ⟨k + 1, col', ws5, m', sha', sa', ma', ba', shc', sc', mc', bc', by omega, by rw [HLE.out], by go_num, HO7⟩
          case measure => simp [intOf]; omega
        · go_wp2_with fail
          have HO := Lib.hid (ho.out.to (Below.refl _ _).drew)
          have HCALL := Lib.hid (once_20 HMX.out HO.out x.reader)
          have hC : Below w.heap.size w wr.drew := HO.out.below
          clear ho c0 he
          generalize ((readR m x.reader).2.2 == 0) = rb at HCALL
          generalize (readR m x.reader).1 = m' at HCALL
          refine wp_region_seq 18 (fun W => Below w.heap.size w W) mixed (by kernel_rfl) (fun hg => ?_)
          generalize wr.drew = wd at HO HCALL hC ⊢
          refine seq_read hg 0 rfl (by kernel_rfl) (by first | rfl | (simp [Region.wanted, yielded]; done)) hC (fun K hK => ?_)
          apply Exists.intro
          refine ⟨fun W hW => ?_, ?_⟩
          · go_simp
            rfl
          go_simp
          refine hK _ ?_
          clear hK K
          refine seq_read hg 2 rfl (by kernel_rfl) (by first | rfl | (simp [Region.wanted, yielded]; done)) hC (fun K hK => ?_)
          apply Exists.intro
          refine ⟨fun W hW => ?_, ?_⟩
          · go_simp
            rfl
          go_simp
          refine hK _ ?_
          clear hK K
          refine seq_read hg 3 rfl (by kernel_rfl) (by first | rfl | (simp [Region.wanted, yielded]; done)) hC (fun K hK => ?_)
          apply Exists.intro
          refine ⟨fun W hW => ?_, ?_⟩
          · go_simp
            rfl
          go_simp
          refine hK _ ?_
          clear hK K
          refine seq_read hg 4 rfl (by kernel_rfl) (by first | rfl | (simp [Region.wanted, yielded]; done)) hC (fun K hK => ?_)
          apply Exists.intro
          refine ⟨fun W hW => ?_, ?_⟩
          · go_simp
            rfl
          go_simp
          refine hK _ ?_
          clear hK K
          refine seq_read hg 5 rfl (by kernel_rfl) (by first | rfl | (simp [Region.wanted, yielded]; done)) hC (fun K hK => ?_)
          apply Exists.intro
          refine ⟨fun W hW => ?_, ?_⟩
          · go_simp
            rfl
          go_simp
          refine hK _ ?_
          clear hK K
          refine seq_read hg 6 rfl (by kernel_rfl) (by first | rfl | (simp [Region.wanted, yielded]; done)) hC (fun K hK => ?_)
          apply Exists.intro
          refine ⟨fun W hW => ?_, ?_⟩
          · obtain ⟨u0, u1, u2, u3⟩ := HCL.out W hW
            go_simp
            rfl
          go_simp
          refine hK _ ?_
          clear hK K
          refine seq_read hg 7 rfl (by kernel_rfl) (by first | rfl | (simp [Region.wanted, yielded]; done)) hC (fun K hK => ?_)
          apply Exists.intro
          refine ⟨fun W hW => ?_, ?_⟩
          · go_simp
            rfl
          go_simp
          refine hK _ ?_
          clear hK K
          refine seq_read hg 8 rfl (by kernel_rfl) (by first | rfl | (simp [Region.wanted, yielded]; done)) hC (fun K hK => ?_)
          apply Exists.intro
          refine ⟨fun W hW => ?_, ?_⟩
          · go_simp
            rfl
          go_simp
          refine hK _ ?_
          clear hK K
          refine seq_one 1 (by kernel_rfl) rfl (by first | rfl | (simp [Region.wanted, yielded]; done)) (fun K hK => ?_)
          obtain ⟨z0, z1, z2, z3, z4, z5, zf⟩ := box45_cells HO.out.box
          go_simp
          refine hK _ _ rfl hC ?_
          clear hK K z0 z1 z2 z3 z4 z5 zf
          refine seq_one 9 (by kernel_rfl) rfl (by first | rfl | (simp [Region.wanted, yielded]; done)) (fun K hK => ?_)
          go_simp
          go_at_call 20
          refine HCALL.out.mono ?_
          rintro e w5 ⟨p', col', ws5, rfl, ho5, hlat⟩
          obtain ⟨sha', sa', ma', ba', shc', sc', mc', bc', rfl⟩ := ho5.form
          have HO5 := Lib.hid ho5
          have HO6 : Hid (OnceSt w (fill45 w5 w3.heap.size (.slice sha' s.length shc') (.int .i64 m'.bound) (.slice sa' m'.splits.length sc') (.slice ma' m'.marks.length mc') (.bool m'.sealed) (.slice ba' m'.late.length bc')) w3.heap.size (w3.heap.size + 1) ws.W n s col' ws5 m' ⟨.slice sha' s.length shc', (sa', sc'), (ma', mc'), .slice ba' m'.late.length bc'⟩ #[.slice sha' s.length shc', .int .i64 m'.bound, .slice sa' m'.splits.length sc', .slice ma' m'.marks.length mc', .bool m'.sealed, .slice ba' m'.late.length bc'] m.marks) := ho5.fill ho5.box
          have HLAT := Lib.hid hlat
          have HBW5 := Lib.hid ho5.below
          clear ho5 hlat HCALL
          refine hK _ _ rfl HBW5.out ?_
          have hC := HBW5.out
          clear hK K
          refine seq_read hg 10 rfl (by kernel_rfl) (by first | rfl | (simp [Region.wanted, yielded]; done)) hC (fun K hK => ?_)
          apply Exists.intro
          refine ⟨fun W hW => ?_, ?_⟩
          · go_simp
            rfl
          go_simp
          refine hK _ ?_
          clear hK K
          refine seq_read hg 11 rfl (by kernel_rfl) (by first | rfl | (simp [Region.wanted, yielded]; done)) hC (fun K hK => ?_)
          apply Exists.intro
          refine ⟨fun W hW => ?_, ?_⟩
          · go_simp
            rfl
          go_simp
          refine hK _ ?_
          clear hK K
          refine seq_read hg 12 rfl (by kernel_rfl) (by first | rfl | (simp [Region.wanted, yielded]; done)) hC (fun K hK => ?_)
          apply Exists.intro
          refine ⟨fun W hW => ?_, ?_⟩
          · go_simp
            rfl
          go_simp
          refine hK _ ?_
          clear hK K
          refine seq_read hg 13 rfl (by kernel_rfl) (by first | rfl | (simp [Region.wanted, yielded]; done)) hC (fun K hK => ?_)
          apply Exists.intro
          refine ⟨fun W hW => ?_, ?_⟩
          · go_simp
            rfl
          go_simp
          refine hK _ ?_
          clear hK K
          refine seq_read hg 14 rfl (by kernel_rfl) (by first | rfl | (simp [Region.wanted, yielded]; done)) hC (fun K hK => ?_)
          apply Exists.intro
          refine ⟨fun W hW => ?_, ?_⟩
          · go_simp
            rfl
          go_simp
          refine hK _ ?_
          clear hK K
          refine seq_one 15 (by kernel_rfl) rfl (by first | rfl | (simp [Region.wanted, yielded]; done)) (fun K hK => ?_)
          obtain ⟨z0, z1, z2, z3, z4, z5, zf⟩ := box45_cells HO5.out.box
          go_simp
          replace hC := HO6.out.below
          refine hK _ _ rfl hC ?_
          clear hK K z0 z1 z2 z3 z4 z5 zf
          refine seq_read hg 16 rfl (by kernel_rfl) (by first | rfl | (simp [Region.wanted, yielded]; done)) hC (fun K hK => ?_)
          apply Exists.intro
          refine ⟨fun W hW => ?_, ?_⟩
          · go_simp
            rfl
          go_simp
          refine hK _ ?_
          clear hK K
          refine seq_read hg 17 rfl (by kernel_rfl) (by first | rfl | (simp [Region.wanted, yielded]; done)) hC (fun K hK => ?_)
          apply Exists.intro
          refine ⟨fun W hW => ?_, ?_⟩
          · go_simp
            rfl
          go_simp
          refine hK _ ?_
          clear hK K
          refine seq_end (by kernel_rfl) ?_
          clear hC HO5
          have H21 := Lib.hid (once_21 HMX.out HO6.out (fun i a b => HLAT.out.marks i a b))
          unfold fill45 at H21 HO6
          generalize hw6 : (((((w5.setCell ⟨w3.heap.size, 0, none⟩ (.slice sha' s.length shc')).setCell ⟨w3.heap.size, 1, none⟩ (.int .i64 m'.bound)).setCell ⟨w3.heap.size, 2, none⟩ (.slice sa' m'.splits.length sc')).setCell ⟨w3.heap.size, 3, none⟩ (.slice ma' m'.marks.length mc')).setCell ⟨w3.heap.size, 4, none⟩ (.bool m'.sealed)).setCell ⟨w3.heap.size, 5, none⟩ (.slice ba' m'.late.length bc') = w6 at H21 HO6 ⊢
          clear hw6
          go_wp2_with (go_at_call 21; (with_reducible refine H21.out.mono ?_); rintro e w7 ⟨rfl, ho7, -⟩; have HO7 := Lib.hid ho7; clear ho7)
          go_roundw
          case rel => exact ⟨k + 1, col', ws5, m', sha', sa', ma', ba', shc', sc', mc', bc', by omega, by rfl, by go_num, HO7⟩
          case measure => simp [intOf]; omega
      obtain ⟨wq, hwq⟩ : ∃ wl : World, wr = wl := ⟨_, rfl⟩
      subst hwq
      go_wp2_with fail
      clear hlt
      go_loopw [15, 18] (fun t i wr => ∃ (k : Nat) (col : Nat → Nat) (ws' : WS) (m : WlM) (sha sa ma ba : Option Addr) (shc sc mc bc : Nat), k ≤ n ∧ t = .int .i64 (m.late.length : Nat) ∧ i = .int .i64 k ∧ Hid (OnceSt w wr w3.heap.size (w3.heap.size + 1) ws.W n s col ws' m ⟨.slice sha s.length shc, (sa, sc), (ma, mc), .slice ba m.late.length bc⟩ #[.slice sha s.length shc, .int .i64 m.bound, .slice sa m.splits.length sc, .slice ma m.marks.length mc, .bool m.sealed, .slice ba m.late.length bc] m.marks) ∧ Hid (∀ j : Nat, j < k → leftI m.splits j = 0)) (fun _ i _ => n - (intOf i).toNat)
      case atStart => exact ⟨0, col, ws', m, sha, sa, ma, ba, shc, sc, mc, bc, by omega, rfl, rfl, ho, Lib.hid (by omega)⟩
      clear ho hk
      obtain ⟨k, col, ws', m, sha, sa, ma, ba, shc, sc, mc, bc, hk, rfl, rfl, ho, hz⟩ := hrel
      by_cases hlt : k < n
      · have hkl : (k : Int) < (n : Int) := by omega
        have hk0 : (0 : Int) ≤ (k : Int) := by omega
        go_wp2_with fail
        obtain ⟨wq, hwq⟩ : ∃ wl : World, wr = wl := ⟨_, rfl⟩
        subst hwq
        go_loopw [15, 19] (fun t i wr => ∃ (q : Nat) (col : Nat → Nat) (ws' : WS) (m : WlM) (sha sa ma ba : Option Addr) (shc sc mc bc : Nat), t = .int .i64 (m.late.length : Nat) ∧ i = .int .i64 q ∧ Hid (OnceSt w wr w3.heap.size (w3.heap.size + 1) ws.W n s col ws' m ⟨.slice sha s.length shc, (sa, sc), (ma, mc), .slice ba m.late.length bc⟩ #[.slice sha s.length shc, .int .i64 m.bound, .slice sa m.splits.length sc, .slice ma m.marks.length mc, .bool m.sealed, .slice ba m.late.length bc] m.marks) ∧ Hid (∀ j : Nat, j < k → leftI m.splits j = 0) ∧ Hid (leftI m.splits k + (q : Int) ≤ 400)) (fun _ i _ => 450 - (intOf i).toNat)
        case atStart => exact ⟨0, col, ws', m, sha, sa, ma, ba, shc, sc, mc, bc, rfl, rfl, ho, hz, Lib.hid (by have := left_bound ho.out.good k; omega)⟩
        clear ho hz
        obtain ⟨q, col, ws', m, sha, sa, ma, ba, shc, sc, mc, bc, rfl, rfl, ho, hz, hq⟩ := hrel
        have hlb := left_bound ho.out.good k
        have hq4 : (q : Int) < 450 := by have := hq.out; omega
        have hq0 : (0 : Int) ≤ (q : Int) := by omega
        clear hlb
        have HCALL := Lib.hid (once_20 HMX.out ho.out (k : Int))
        have HSTEP := Lib.hid (read_step m k m.late.length)
        cases hrb : ((readR m k).2.2 == 0)
        ·
          have HZ2 : Hid (∀ j : Nat, j < k + 1 → leftI (readR m k).1.splits j = 0) := fun j hj => by
            rw [HSTEP.out.left]
            rw [if_neg (fun hh => by simp [hh.1] at hrb)]
            by_cases e : j = k
            · subst e
              exact read_none_left ho.out.good (by rw [ho.out.num]; exact hlt) (by simpa using hrb)
            · exact hz.out j (by omega)
          rw [hrb] at HCALL
          have HO := ho
          obtain ⟨z0, z1, z2, z3, z4, z5, zf⟩ := box45_cells ho.out.box
          clear ho hrb HSTEP hz hq
          generalize (readR m k).1 = m' at HCALL HZ2 
          go_wp2_with fail
          go_at_call 20
          refine HCALL.out.mono ?_
          rintro e w5 ⟨p', col', ws5, rfl, ho5, hlat⟩
          obtain ⟨sha', sa', ma', ba', shc', sc', mc', bc', rfl⟩ := ho5.form
          have HO5 := Lib.hid ho5
          have HLAT := Lib.hid hlat
          clear ho5 hlat HCALL z0 z1 z2 z3 z4 z5 zf
          go_wp2_with fail
          have B6 : Below w5.heap.size w5 (w5.alloc (.cells #[.slice sha' s.length shc', .int .i64 m'.bound, .slice sa' m'.splits.length sc', .slice ma' m'.marks.length mc', .bool m'.sealed, .slice ba' m'.late.length bc'] 45)) := (Below.refl _ _).alloc (Nat.le_refl _) _
          have X6 : Hid ((w5.alloc (.cells #[.slice sha' s.length shc', .int .i64 m'.bound, .slice sa' m'.splits.length sc', .slice ma' m'.marks.length mc', .bool m'.sealed, .slice ba' m'.late.length bc'] 45)).heap[w5.heap.size]? = some (.cells #[.slice sha' s.length shc', .int .i64 m'.bound, .slice sa' m'.splits.length sc', .slice ma' m'.marks.length mc', .bool m'.sealed, .slice ba' m'.late.length bc'] 45 (0, 0))) := heap_alloc_new w5 _
          have HO6 := Lib.hid (HO5.out.to B6)
          have hbm5 := HO5.out.lt
          clear B6 HO5
          generalize w5.alloc (.cells #[.slice sha' s.length shc', .int .i64 m'.bound, .slice sa' m'.splits.length sc', .slice ma' m'.marks.length mc', .bool m'.sealed, .slice ba' m'.late.length bc'] 45) = w6 at X6 HO6 ⊢
          have H21 := Lib.hid (once_21 HMX.out HO6.out (fun i a b => HLAT.out.marks i a b))
          go_wp2_with (go_at_call 21; (with_reducible refine H21.out.mono ?_); rintro e w7 ⟨rfl, ho7, oo7⟩; have HO7 := Lib.hid ho7; have x7 := (oo7.block w5.heap.size (heap_lt X6.out) (by omega)).trans X6.out; obtain ⟨x0, x1, x2, x3, x4, x5, xf⟩ := box45_cells x7; obtain ⟨z0, z1, z2, z3, z4, z5, zf⟩ := box45_cells ho7.box; clear ho7 oo7 x7)
          have HO8 := Lib.hid (HO7.out.fill HO7.out.box (a1 := sha') (a2 := sa') (a3 := ma') (a4 := ba') (n1 := s.length) (n2 := m'.splits.length) (n3 := m'.marks.length) (n4 := m'.late.length) (c1 := shc') (c2 := sc') (c3 := mc') (c4 := bc') (i := m'.bound) (q := m'.sealed))
          unfold fill45 at HO8
          clear z0 z1 z2 z3 z4 z5 zf x0 x1 x2 x3 x4 x5 xf
          go_roundw
          case rel => exact ⟨k + 1, col', ws5, m', sha', sa', ma', ba', shc', sc', mc', bc', by omega, rfl, by go_num, HO8, HZ2⟩
          case measure => simp [intOf]; omega
        ·
          have HZ2 : Hid (∀ j : Nat, j < k → leftI (readR m k).1.splits j = 0) := fun j hj => by
            rw [HSTEP.out.left]
            rw [if_neg (by omega)]
            exact hz.out j hj
          have HQ2 : Hid (leftI (readR m k).1.splits k + ((q + 1 : Nat) : Int) ≤ 400) := by
            show _ ≤ _
            rw [HSTEP.out.left, if_pos ⟨by simpa using hrb, rfl⟩]
            have := hq.out
            omega
          rw [hrb] at HCALL
          have HO := ho
          obtain ⟨z0, z1, z2, z3, z4, z5, zf⟩ := box45_cells ho.out.box
          clear ho hrb HSTEP hz hq
          generalize (readR m k).1 = m' at HCALL HZ2 HQ2
          go_wp2_with fail
          go_at_call 20
          refine HCALL.out.mono ?_
          rintro e w5 ⟨p', col', ws5, rfl, ho5, hlat⟩
          obtain ⟨sha', sa', ma', ba', shc', sc', mc', bc', rfl⟩ := ho5.form
          have HO5 := Lib.hid ho5
          have HLAT := Lib.hid hlat
          clear ho5 hlat HCALL z0 z1 z2 z3 z4 z5 zf
          go_wp2_with fail
          have B6 : Below w5.heap.size w5 (w5.alloc (.cells #[.slice sha' s.length shc', .int .i64 m'.bound, .slice sa' m'.splits.length sc', .slice ma' m'.marks.length mc', .bool m'.sealed, .slice ba' m'.late.length bc'] 45)) := (Below.refl _ _).alloc (Nat.le_refl _) _
          have X6 : Hid ((w5.alloc (.cells #[.slice sha' s.length shc', .int .i64 m'.bound, .slice sa' m'.splits.length sc', .slice ma' m'.marks.length mc', .bool m'.sealed, .slice ba' m'.late.length bc'] 45)).heap[w5.heap.size]? = some (.cells #[.slice sha' s.length shc', .int .i64 m'.bound, .slice sa' m'.splits.length sc', .slice ma' m'.marks.length mc', .bool m'.sealed, .slice ba' m'.late.length bc'] 45 (0, 0))) := heap_alloc_new w5 _
          have HO6 := Lib.hid (HO5.out.to B6)
          have hbm5 := HO5.out.lt
          clear B6 HO5
          generalize w5.alloc (.cells #[.slice sha' s.length shc', .int .i64 m'.bound, .slice sa' m'.splits.length sc', .slice ma' m'.marks.length mc', .bool m'.sealed, .slice ba' m'.late.length bc'] 45) = w6 at X6 HO6 ⊢
          have H21 := Lib.hid (once_21 HMX.out HO6.out (fun i a b => HLAT.out.marks i a b))
          go_wp2_with (go_at_call 21; (with_reducible refine H21.out.mono ?_); rintro e w7 ⟨rfl, ho7, oo7⟩; have HO7 := Lib.hid ho7; have x7 := (oo7.block w5.heap.size (heap_lt X6.out) (by omega)).trans X6.out; obtain ⟨x0, x1, x2, x3, x4, x5, xf⟩ := box45_cells x7; obtain ⟨z0, z1, z2, z3, z4, z5, zf⟩ := box45_cells ho7.box; clear ho7 oo7 x7)
          have HO8 := Lib.hid (HO7.out.fill HO7.out.box (a1 := sha') (a2 := sa') (a3 := ma') (a4 := ba') (n1 := s.length) (n2 := m'.splits.length) (n3 := m'.marks.length) (n4 := m'.late.length) (c1 := shc') (c2 := sc') (c3 := mc') (c4 := bc') (i := m'.bound) (q := m'.sealed))
          unfold fill45 at HO8
          clear z0 z1 z2 z3 z4 z5 zf x0 x1 x2 x3 x4 x5 xf
          go_roundw
          case rel => exact ⟨q + 1, col', ws5, m', sha', sa', ma', ba', shc', sc', mc', bc', rfl, by go_num, HO8, HZ2, HQ2⟩
          case measure => simp [intOf]; omega
      obtain ⟨wq, hwq⟩ : ∃ wl : World, wr = wl := ⟨_, rfl⟩
      subst hwq
      have HZ : Hid (∀ j : Nat, j < n → leftI m.splits j = 0) := fun j hj => hz.out j (by omega)
      have HO := ho
      go_wp2_with fail
      clear hlt hz ho hk
      go_loopw [24, 25] (fun t i wr => ∃ (k : Nat), k ≤ n ∧ t = .int .i64 0 ∧ i = .int .i64 k ∧ Hid (OnceSt w wr w3.heap.size (w3.heap.size + 1) ws.W n s col ws' m ⟨.slice sha s.length shc, (sa, sc), (ma, mc), .slice ba m.late.length bc⟩ #[.slice sha s.length shc, .int .i64 m.bound, .slice sa m.splits.length sc, .slice ma m.marks.length mc, .bool m.sealed, .slice ba m.late.length bc] m.marks)) (fun _ i _ => n - (intOf i).toNat)
      case atStart => exact ⟨0, by omega, rfl, rfl, HO⟩
      clear HO
      obtain ⟨k, hk, rfl, rfl, ho⟩ := hrel
      by_cases hlt : k < n
      · have hkl : (k : Int) < (n : Int) := by omega
        have hk0 : (0 : Int) ≤ (k : Int) := by omega
        have h22 := once_22 ho.out (k : Int)
        rw [HZ.out k hlt] at h22
        have H22 := Lib.hid h22
        clear h22 ho
        go_wp2_with (go_at_call 22; (with_reducible refine H22.out.mono ?_); rintro e w7 ⟨rfl, ho7⟩; have HO7 := Lib.hid ho7; clear ho7)
        go_roundw
        case rel => exact ⟨k + 1, by omega, by first | rfl | go_num, by go_num, HO7⟩
        case measure => simp [intOf]; omega
      have H23 := Lib.hid (once_23 HMX.out ho.out)
      have HBW := Lib.hid ho.out.below
      clear ho
      go_wp2_with (go_at_call 23; (with_reducible refine H23.out.mono ?_); rintro e w7 ⟨a23, c23, rfl, hb7⟩; have HB7 := Lib.hid (HBW.out.trans (hb7.mono HBW.out.size)); clear hb7)
      go_ret
      exact ⟨rfl, HB7.out⟩

end leaves
end Go.Proofs.YtimahogkcmmcnaaGreatDoor

