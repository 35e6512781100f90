import Derived.Test.YtdnkfgnjeibjeaaMF
import Derived.Test.YtdnkfgnjeibjeaaMD
import Derived.StillTailTactics
namespace Go.Proofs.Ytdnkfgnjeibjeaa
open Go.RowKit Go.Shelf

theorem manyA_false {l : List ActV} (h : manyA l = false) {k : Nat} (hk : k < l.length) : l[k].e.row.length ≤ 20 := by
  unfold manyA at h
  rw [Bool.or_eq_false_iff, List.any_eq_false] at h
  have := h.1 l[k] (List.getElem_mem hk)
  simp only [greatE, Bool.or_eq_true, decide_eq_true_eq] at this
  omega

theorem manyA_len {l : List ActV} (h : manyA l = false) : l.length ≤ 80 := by
  unfold manyA at h
  rw [Bool.or_eq_false_iff] at h
  have := h.2
  simpa using this

theorem freshErr_zero {n : Nat} {i : Int} {x : Elem} (h : freshErr n i x = 0) : 0 ≤ i := by
  unfold freshErr at h
  split at h
  · split at h
    · omega
    · omega
  · omega

/-- The one element that passed. -/
theorem OutV.one {w : World} {S : Nat → Prop} {a : Option Addr} {c n : Nat} {i : Int} {x : Elem} {r : Value} (h : OutV w S (.slice a (freshOuts n i x r).length c) (freshOuts n i x r)) (he : freshErr n i x = 0) :
    ∃ g o, a = some ⟨g, o, none⟩ ∧ g < w.heap.size ∧ (freshOuts n i x r).length = 1 ∧ w.cell? ⟨g, o, none⟩ = some (.int .i64 i) ∧ w.cell? ⟨g, o + 1, none⟩ = some (.int .i64 x.k) ∧ w.cell? ⟨g, o + 1 + 1, none⟩ = some (.int .i64 x.n) ∧ w.cell? ⟨g, o + 1 + 2, none⟩ = some (.int .i64 x.t) ∧ w.cell? ⟨g, o + 1 + 3, none⟩ = some r ∧ w.cell? ⟨g, o + 1 + 4, none⟩ = some (.int .i64 x.c) ∧ RowAt w S r x.row := by
  have hi := freshErr_zero he
  have e1 : freshOuts n i x r = [(i.toNat, (x, r))] := by simp [freshOuts, he]
  rw [e1] at h ⊢
  obtain ⟨⟨blk, h1, h2⟩, h3⟩ := h
  obtain ⟨g, o, rfl⟩ : ∃ g o, a = some ⟨g, o, none⟩ := by
    rcases h1.2 with ⟨hx, _⟩ | ⟨g, o, cap, cur, _, hx, _⟩
    · injection hx with _ hx _; simp at hx
    · injection hx with hx _ _; exact ⟨g, o, hx⟩
  have e2 : ((i.toNat : Nat) : Int) = i := by omega
  have c0 := h1.cell 0 (.int .i64 i) (by simp [ocl, e2])
  refine ⟨g, o, rfl, cell_lt c0, rfl, c0, h1.cell 1 _ rfl, h1.cell 2 _ rfl, h1.cell 3 _ rfl, h1.cell 4 _ rfl, h1.cell 5 _ rfl, h3 _ (List.mem_singleton.2 rfl)⟩

section walks
set_option maxHeartbeats 1000000
set_option maxRecDepth 100000

theorem f3_main (w : World) (n : Nat) (v : Value) (l : List ActV) (D : Nat → Prop) (h : ActsAt w D v l) (hm : manyA l = false) (h1 : 1 ≤ n) (h2 : n ≤ 200) :
    Calls Try.prog 3 #[.int .i64 n, v] w fun e w' => e = .returned (.bool true) ∧ Below w.heap.size w w' := by
  have hM := fun (W : World) (hb : Below w.heap.size w W) => f11_any W v l D (h.below hb)
  rw [hm] at hM
  have HM := Lib.hid hM
  have HMA := Lib.hid hm
  have hlen := manyA_len hm
  obtain ⟨a, c, rfl, hl, hx⟩ := h
  have HX := Lib.hid hx
  clear hM hx hm
  go_enter Try.func3, Try.ntmps3
  go_wp2_with (first
    | (go_at_call 10; refine (f10_any _).mono ?_; rintro e w1 ⟨rfl, hb1⟩; have HB1 := Lib.hid hb1; clear hb1)
    | (go_at_call 11; refine (HM.out _ HB1.out).mono ?_; rintro e w2 ⟨rfl, hb2⟩; have HB2 := Lib.hid (HB1.out.trans (hb2.mono HB1.out.size)); clear hb2)
    | (go_at_call 12; (with_reducible refine (f12_a _ n h1 h2).mono ?_); rintro e w3 ⟨A, rfl, hA⟩; have HA := Lib.hid hA; clear hA)
    | (go_at_call 12; refine (f12_b _ _ n A h1 h2 HA.out).mono ?_; rintro e w4 ⟨B, rfl, hT⟩; have HT := Lib.hid hT; clear hT))
  go_loopw [9] (fun i wr => ∃ k : Nat, k ≤ l.length ∧ i = .int .i64 k ∧ Two w2 wr n A B) (fun i _ => l.length - (intOf i).toNat)
  case atStart => exact ⟨0, Nat.zero_le _, rfl, HT.out⟩
  case round =>
    obtain ⟨k, hk, rfl, hT⟩ := hrel
    have hbw : Below w.heap.size w wr := HB2.out.trans (hT.bl.mono HB2.out.size)
    have HT1 := Lib.hid hT
    have HBW := Lib.hid hbw
    clear hT hbw
    by_cases hlt : k < l.length
    · obtain ⟨b, off, rfl, hbD, hc⟩ := HX.out.resolve_left (fun e => by rw [e] at hlt; simp at hlt)
      obtain ⟨c0, c1, r, e0, e1, e2, e3, e4, hr⟩ := hc k hlt
      have hbb : b < w.heap.size := World.block_lt_of_cell? w ⟨b, off + k * 7, none⟩ c0
      have hbr : b < wr.heap.size := Nat.lt_of_lt_of_le hbb HBW.out.size
      have hrow := manyA_false HMA.out hlt
      have hR := fun (W : World) (hb : Below w.heap.size w W) => hr.below hb
      have hC := fun (W : World) (hb : Below w.heap.size w W) => (show (W.cell? ⟨b, off + k * 7 + 1, none⟩ = some (.int .i64 l[k].i)) ∧ W.cell? ⟨b, off + k * 7 + 2, none⟩ = some (.int .i64 l[k].e.k) ∧ W.cell? ⟨b, off + k * 7 + 2 + 1, none⟩ = some (.int .i64 l[k].e.n) ∧ W.cell? ⟨b, off + k * 7 + 2 + 2, none⟩ = some (.int .i64 l[k].e.t) ∧ W.cell? ⟨b, off + k * 7 + 2 + 3, none⟩ = some r ∧ W.cell? ⟨b, off + k * 7 + 2 + 4, none⟩ = some (.int .i64 l[k].e.c) from by
        have t : ∀ o, W.cell? ⟨b, o, none⟩ = w.cell? ⟨b, o, none⟩ := fun o => hb.cell (p := ⟨b, o, none⟩) hbb
        exact ⟨(t _).trans c1, (t _).trans e0, (t _).trans e1, (t _).trans e2, (t _).trans e3, (t _).trans e4⟩)
      have HR := Lib.hid hR
      have HC := Lib.hid hC
      clear hc c0 c1 e0 e1 e2 e3 e4 hr hR hC
      obtain ⟨c1, e0, e1, e2, e3, e4⟩ := HC.out wr HBW.out
      have j1 : (0 : Int) ≤ (k : Int) := by omega
      have j2 : (k : Int) < (l.length : Int) := by omega
      generalize hx : l[k] = x at *
      clear hx
      cases hk3 : (x.e.k == 3)
      · go_wp2_with fail
        have HT2 := Lib.hid (HT1.out.next ((Below.refl _ _).drew))
        have hR2 := HR.out wr.drew (HBW.out.drew)
        have HR2 := Lib.hid hR2
        clear hR2
        refine wp_region_mid 11 _ rfl (by kernel_rfl) (by kernel_rfl) ?_
        simp only [List.take_succ_cons, List.take_zero, List.drop_succ_cons, List.drop_zero]
        repeat still_step
        refine wpStill_nil ?_
        intro K hK
        go_simp
        go_at_call 13
        refine (arrA w2 _ n A B D x.i x.e r HT2.out HR2.out (by omega) hk3).mono ?_
        rintro e w5 ⟨a5, c5, r5, rfl, hV5⟩
        refine hK _ _ ?_
        clear hK K
        repeat still_step
        refine wpStill_nil ?_
        have HV5 := Lib.hid hV5
        clear hV5
        go_wp2_with fail
        have hbw5 := HB2.out.trans (HV5.out.bl.mono HB2.out.size)
        have HV5' := Lib.hid (HV5.out.next ((Below.refl _ _).drew))
        obtain ⟨f1, g0, g1, g2, g3, g4⟩ := HC.out w5 hbw5
        have hR5 := HR.out w5.drew (hbw5.drew)
        have HR5 := Lib.hid hR5
        have hbr5 : b < w5.heap.size := Nat.lt_of_lt_of_le hbb hbw5.size
        clear hR5 hbw5
        refine wp_region_mid 11 _ rfl (by kernel_rfl) (by kernel_rfl) ?_
        simp only [List.take_succ_cons, List.take_zero, List.drop_succ_cons, List.drop_zero]
        repeat still_step
        refine wpStill_nil ?_
        intro K hK
        go_simp
        go_at_call 13
        refine (arrB w2 _ n A B D x.i x.e r _ _ HV5'.out HR5.out (by omega) hk3).mono ?_
        rintro e w6 ⟨a6, c6, r6, rfl, hT6, ho1, ho2⟩
        refine hK _ _ ?_
        clear hK K
        repeat still_step
        refine wpStill_nil ?_
        have HT6 := Lib.hid hT6
        have HO1 := Lib.hid ho1
        have HO2 := Lib.hid ho2
        clear hT6 ho1 ho2 f1 g0 g1 g2 g3 g4 c1 e0 e1 e2 e3 e4
        have hF5 := HO1.out.call15 (by have := freshOuts_len n x.i x.e r5; omega)
        have HF5 := Lib.hid hF5
        have hF6 := fun (W : World) (hb : Below w6.heap.size w6 W) => (HO2.out.below hb).call15 (by have := freshOuts_len n x.i x.e r6; omega)
        have HF6 := Lib.hid hF6
        clear hF5 hF6
        go_wp2_with (first
          | (go_at_call 15; (with_reducible refine HF5.out.mono ?_); rintro e w7 ⟨⟨v7, b7, rfl, hs7, hn7⟩, hr7, hb7⟩; have HS7 := Lib.hid hs7; have HR7 := Lib.hid hr7; have HB7 := Lib.hid hb7; clear hs7 hn7 hr7 hb7)
          | (go_at_call 15; (with_reducible refine (HF6.out _ HB7.out).mono ?_); rintro e w8 ⟨⟨v8, b8, rfl, hs8, hn8⟩, hr8, hb8⟩; have HS8 := Lib.hid hs8; have HR8 := Lib.hid hr8; have HB8 := Lib.hid hb8; clear hs8 hn8 hr8 hb8)
          | (go_at_call 14; (with_reducible refine (f14_fresh _ _ _ n x.i x.e r5 r6 v7 v8 b7 b8 (HS7.out.keep fun g hg => HB8.out.block g (by subst hg; exact HS7.out.blk_lt)) HS8.out (fun o ho => (HR7.out o ho).below HB8.out) HR8.out).mono ?_); rintro e w9 ⟨rfl, hb9⟩; have HB9 := Lib.hid (below_then (below_then HB7.out HB8.out) hb9); clear hb9))
        have HT9 := Lib.hid (HT6.out.next HB9.out)
        have hO9 := HO1.out.below HB9.out
        have HW9 := Lib.hid (HB2.out.trans (HT9.out.bl.mono HB2.out.size))
        obtain ⟨f1, g0, g1, g2, g3, g4⟩ := HC.out w9 HW9.out
        have hbr9 : b < w9.heap.size := Nat.lt_of_lt_of_le hbb HW9.out.size
        have HRow := Lib.hid (HR.out w9 HW9.out)
        cases hz : (freshErr n x.i x.e == 0)
        · clear hO9 f1 g0 g1 g2 g3 g4
          refine wp_region_quiet_below (by kernel_rfl) (by kernel_rfl) ?_
          repeat (first | go_big_quiet_skip | quiet_step (fail))
          refine wpQuiet_nil ?_
          intro wq hw'
          have HTq := Lib.hid (HT9.out.next (below_of_class hw'))
          clear hw'
          go_wp2_with fail
          go_roundw
          case rel => exact ⟨k + 1, by omega, by go_num, HTq.out⟩
          case measure => simp [intOf]; omega
        · obtain ⟨g, o, rfl, hgl, hln, k0, k1, k2, k3, k4, k5, hrr⟩ := hO9.one (by simpa using hz)
          clear hO9
          have hA := fun d os => Calls.regrown_of (f16_any (Sort.grow (redrawn w9 d) os) x.e x.e r5 r _ _ (hrr.below (below_regrown w9 d os)) (HRow.out.below (below_regrown w9 d os)))
          rw [sameElem_self] at hA
          have HA := Lib.hid hA
          clear hA hrr
          have hcl := fun d os b' o' h => (below_regrown w9 d os).cell (p := ⟨b', o', none⟩) h
          have hx0 : (x.i != x.i) = false := by simp
          refine wp_region_quiet_below (by kernel_rfl) (by kernel_rfl) ?_
          repeat (first | go_big_quiet_skip | quiet_step (with_reducible exact HA.out _ _))
          refine wpQuiet_nil ?_
          intro wq hw'
          have HTq := Lib.hid (HT9.out.next (below_of_class hw'))
          clear hw' hcl
          go_wp2_with fail
          go_roundw
          case rel => exact ⟨k + 1, by omega, by go_num, HTq.out⟩
          case measure => simp [intOf]; omega
      · go_wp2_with fail
        go_roundw
        case rel => exact ⟨k + 1, by omega, by go_num, HT1.out⟩
        case measure => simp [intOf]; omega
    · go_wp2_with fail
      go_ret
      exact ⟨rfl, HBW.out⟩
end walks
end Go.Proofs.Ytdnkfgnjeibjeaa
