import Derived.Test.YtdnkfgnjeibjeaaJD
namespace Go.Proofs.Ytdnkfgnjeibjeaa.W
open Go.RowKit Go.Shelf

section walks
set_option maxHeartbeats 1000000
set_option maxRecDepth 100000

theorem f13_old (w : World) (D D0 : Nat → Prop) (gs : GS) (m : Gm) (i : Nat) (x : Elem) (r : Value) (ns : List NoteC) (h : FreeAt w D gs m ns) (hD : ∀ b, D b → b < w.heap.size) (hr : RowAt w D0 r x.row)
    (hv : validElem x = true) (hi : i < m.n) (hcl : (m.inp i).closed = false) (hk : x.k = 3) (hlast : x.n ≤ (m.inp i).last) :
    Calls Try.prog 13 #[.pointer (some ⟨gs.G, 0, none⟩), .int .i64 i, ev x r] w fun e w' => e = .returned (.tuple #[.slice none 0 0, .int .i64 7]) ∧ Below w.heap.size w w' := by
  obtain ⟨k, xn, xt, row, c⟩ := x
  dsimp only at hk hlast hr
  subst hk
  have hV := fun (W : World) (hb : Below w.heap.size w W) => f40_any { k := 3, n := xn, t := xt, row := row, c := c } r W D0 (hr.below hb)
  obtain ⟨ra, rc, rfl, _, _⟩ := hr
  rw [hv] at hV
  have HV := Lib.hid hV
  have H := Lib.hid h
  have HD := Lib.hid hD
  have hb0 : Below w.heap.size w (w.alloc (Obj.cells #[Value.int IntKind.i64 3, Value.int IntKind.i64 xn, Value.int IntKind.i64 xt, Value.slice ra row.length rc, Value.int IntKind.i64 c] 34)) := (Below.refl _ _).alloc (Nat.le_refl _) _
  have HB0 := Lib.hid hb0
  clear hV h hD hb0
  have j1 : (0 : Int) ≤ (i : Int) := by omega
  have j2 : (i : Int) < (m.n : Int) := by omega
  have ha0 := FA.start H.out HD.out { k := 3, n := xn, t := xt, row := row, c := c } (.slice ra row.length rc)
  have HA := Lib.hid ha0
  clear ha0
  go_enter Try.func13, Try.ntmps13
  go_wp2_with (
    go_at_call 40; refine (HV.out _ HB0.out).mono ?_; rintro e w1 ⟨rfl, hb1⟩
    have HA1 := Lib.hid (HA.out.next hb1)
    have HB1 := Lib.hid (HB0.out.trans (hb1.mono HB0.out.size))
    clear hb1
    obtain ⟨g0, g1, g2, g3, g4, gf⟩ := HA1.out.step.gate.gate.cells
    obtain ⟨ia, x0, x1, x2, x3, x4, xf⟩ := HA1.out.step.gate.gate.icells hi
    obtain ⟨b0, b1, b2, b3, b4, bf⟩ := blk5 HA1.out.box)
  have q0 := fun d os => cell_regrown b0 d os
  have q1 := fun d os => cell_regrown b1 d os
  have q2 := fun d os => cell_regrown g0 d os
  have q3 := fun d os => cell_regrown ia d os
  have q4 := fun d os => cell_regrown x0 d os
  refine wp_region_quiet_below (by kernel_rfl) (by kernel_rfl) ?_
  repeat (first | go_big_quiet_skip | quiet_step (fail))
  refine wpQuiet_nil ?_
  intro w2 hw'
  have HB2 := Lib.hid (HB1.out.trans ((below_of_class hw').mono HB1.out.size))
  clear hw' q0 q1 q2 q3 q4 b0 b1 b2 b3 b4 bf g0 g1 g2 g3 g4 gf ia x0 x1 x2 x3 x4 xf
  go_wp2_with fail
  exact bodyPost_ret (v := .tuple #[.slice none 0 0, .int .i64 7]) (by kernel_rfl) rfl ⟨rfl, HB2.out⟩


theorem f13_barr (w : World) (D D0 : Nat → Prop) (gs : GS) (m : Gm) (ns : List NoteC) (i : Nat) (x : Elem) (r : Value) (h : FreeAt w D gs m ns) (hD : ∀ b, D b → b < w.heap.size) (hr : RowAt w D0 r x.row) (hD0 : ∀ b, D0 b → ¬ fown gs m.n ns b) (hsm : x.row.length ≤ 1000000)
    (hv : validElem x = true) (hi : i < m.n) (hcl : (m.inp i).closed = false) (hk : x.k = 3) (hlast : (m.inp i).last < x.n) (hok : KOk m (ns.map NoteC.abs)) (hcnt : noteSum ns < 4000) :
    Calls Try.prog 13 #[.pointer (some ⟨gs.G, 0, none⟩), .int .i64 i, ev x r] w (FArr w D gs m.n ns (fLook (m.upd i { m.inp i with last := x.n }) (ns.map NoteC.abs) i x).1 (fLook (m.upd i { m.inp i with last := x.n }) (ns.map NoteC.abs) i x).2.1 (fLook (m.upd i { m.inp i with last := x.n }) (ns.map NoteC.abs) i x).2.2 0) := by
  obtain ⟨k, xn, xt, row, c⟩ := x
  dsimp only at hk hlast hsm hr
  subst hk
  have hV := fun (W : World) (hb : Below w.heap.size w W) => f40_any { k := 3, n := xn, t := xt, row := row, c := c } r W D0 (hr.below hb)
  have hO := fun (W : World) (hb : Only (fown gs m.n ns) w W) => f43_any W { k := 3, n := xn, t := xt, row := row, c := c } r D0 (hr.keep fun b hb' hlt => hb.block b hlt (hD0 b hb')) hsm
  have ha0 := FA.start h hD { k := 3, n := xn, t := xt, row := row, c := c } r
  obtain ⟨ra, rc, rfl, _, _⟩ := hr
  rw [hv] at hV
  have HV := Lib.hid hV
  have HO := Lib.hid hO
  have H := Lib.hid h
  have HA := Lib.hid ha0
  have HOK := Lib.hid hok
  have j1 : (0 : Int) ≤ (i : Int) := by omega
  have j2 : (i : Int) < (m.n : Int) := by omega
  have hl' : ¬ xn ≤ (m.inp i).last := by omega
  have hown0 : ∀ b, gs.own m.n b → b < w.heap.size := fun b hb => h.gate.lt hb
  have HOWN := Lib.hid hown0
  clear hown0
  have hb0 : Below w.heap.size w (w.alloc (Obj.cells #[Value.int IntKind.i64 3, Value.int IntKind.i64 xn, Value.int IntKind.i64 xt, Value.slice ra row.length rc, Value.int IntKind.i64 c] 34)) := (Below.refl _ _).alloc (Nat.le_refl _) _
  have HB0 := Lib.hid hb0
  clear hV hO h hD ha0 hok hb0
  go_enter Try.func13, Try.ntmps13
  go_wp2_with (
    go_at_call 40; refine (HV.out _ HB0.out).mono ?_; rintro e w1 ⟨rfl, hb1⟩
    have HA1 := Lib.hid (HA.out.next hb1)
    clear hb1
    obtain ⟨g0, g1, g2, g3, g4, gf⟩ := HA1.out.step.gate.gate.cells
    obtain ⟨ia, x0, x1, x2, x3, x4, xf⟩ := HA1.out.step.gate.gate.icells hi
    obtain ⟨b0, b1, b2, b3, b4, bf⟩ := blk5 HA1.out.box)
  have q0 := fun d os => cell_regrown b0 d os
  have q1 := fun d os => cell_regrown b1 d os
  have q2 := fun d os => cell_regrown g0 d os
  have q3 := fun d os => cell_regrown ia d os
  have q4 := fun d os => cell_regrown x0 d os
  refine wp_region_quiet_below (by kernel_rfl) (by kernel_rfl) ?_
  repeat (first | go_big_quiet_skip | quiet_step (fail))
  refine wpQuiet_nil ?_
  intro w2 hw'
  have HA2 := Lib.hid (HA1.out.next (below_of_class hw'))
  clear hw' q0 q1 q2 q3 q4 b0 b1 b2 b3 b4 bf g0 g1 g2 g3 g4 gf ia x0 x1 x2 x3 x4 xf
  obtain ⟨g0, g1, g2, g3, g4, gf⟩ := HA2.out.step.gate.gate.cells
  obtain ⟨ia, x0, x1, x2, x3, x4, xf⟩ := HA2.out.step.gate.gate.icells hi
  obtain ⟨b0, b1, b2, b3, b4, bf⟩ := blk5 HA2.out.box
  go_wp2_with fail
  have q2 := fun d os => cell_regrown g2 d os
  have q4 := fun d os => cell_regrown g4 d os
  have q5 := fun d os => cell_regrown b0 d os
  have hlk := fun d os => lookup_notes (HA2.out.step.gate.below (below_regrown w2 d os)) m.under
  obtain ⟨pv, hpv⟩ : ∃ pv, noteV ns m.under = .pointer pv := by
    unfold noteV
    cases noteOf ns m.under <;> exact ⟨_, rfl⟩
  rw [hpv] at hlk
  have hpn := neq_note pv
  have hc := fun W (h : FA w W D gs m.n ns m { k := 3, n := xn, t := xt, row := row, c := c } (.slice ra row.length rc)) => f41_any W gs m i h.step.gate.gate hi
  have hbl : m.blocked i = false := by simp [Gm.blocked, H.out.al]
  rw [hbl] at hc
  have HC := Lib.hid hc
  have hc2 := fun W (h : FA w W D gs m.n ns (m.upd i { m.inp i with last := xn }) { k := 3, n := xn, t := xt, row := row, c := c } (.slice ra row.length rc)) => f41_any W gs _ i h.step.gate.gate hi
  have hbl2 : (m.upd i { m.inp i with last := xn }).blocked i = false := by rw [← hbl]; simp [Gm.blocked, Gm.upd]
  rw [hbl2] at hc2
  have HC2 := Lib.hid hc2
  have HL := Lib.hid (fun (W4 W5 : World) (r5 : Value) (h : FA w W4 D gs m.n ns (m.upd i { m.inp i with last := xn }) { k := 3, n := xn, t := xt, row := row, c := c } (.slice ra row.length rc)) hb hr5 => h.look (W5 := W5) (r5 := r5) hb hr5 hi (HOK.out.send i _) hsm (by omega))
  clear hc hbl hc2 hbl2
  have hcase : m.under ≤ 0 ∨ (0 < m.under ∧ (m.inp i).sent = true) ∨ (0 < m.under ∧ (m.inp i).sent = false) := by
    rcases Int.lt_or_le 0 m.under with hu | hu
    · cases (m.inp i).sent
      · exact .inr (.inr ⟨hu, rfl⟩)
      · exact .inr (.inl ⟨hu, rfl⟩)
    · exact .inl hu
  clear hpv
  cases pv with
  | none =>
    clear hcase
    simp only [Option.isSome_none] at hpn
    refine wp_region_quiet_below (by kernel_rfl) (by kernel_rfl) ?_
    repeat (first | go_big_quiet_skip | quiet_step (fail))
    refine wpQuiet_nil ?_
    intro w3 hw'
    have HA3 := Lib.hid (HA2.out.next (below_of_class hw'))
    clear hw' q2 q4 q5 hlk hpn b0 b1 b2 b3 b4 bf g0 g1 g2 g3 g4 gf ia x0 x1 x2 x3 x4 xf
    obtain ⟨b0, b1, b2, b3, b4, bf⟩ := blk5 HA3.out.box
    go_wp2_with (first
      | (go_at_call 41; refine (HC.out _ HA3.out).mono ?_; rintro e w4 ⟨rfl, hb4⟩
         have HA4 := Lib.hid (HA3.out.next hb4)
         clear hb4 b0 b1 b2 b3 b4 bf
         obtain ⟨b0, b1, b2, b3, b4, bf⟩ := blk5 HA4.out.box
         obtain ⟨ia, x0, x1, x2, x3, x4, xf⟩ := HA4.out.step.gate.gate.icells hi
         have HA6 := Lib.hid (HA4.out.lasts HOWN.out hi xn))
      | (go_at_call 41; refine (HC2.out _ HA6.out).mono ?_; rintro e w5 ⟨rfl, hb5⟩
         have HA7 := Lib.hid (HA6.out.next hb5)
         clear hb5 b0 b1 b2 b3 b4 bf
         obtain ⟨b0, b1, b2, b3, b4, bf⟩ := blk5 HA7.out.box)
      | (go_at_call 43; refine (HO.out _ HA7.out.step.only).mono ?_; rintro e w8 ⟨r8, rfl, hr8, hb8⟩; have HR8 := Lib.hid hr8; have HB8 := Lib.hid hb8; clear hr8 hb8)
      | (go_at_call 44; refine (HL.out _ _ _ HA7.out HB8.out HR8.out).mono ?_; rintro e w9 ⟨v9, rfl, hfin⟩))
    refine bodyPost_ret (v := .tuple #[v9, .int .i64 0]) (by kernel_rfl) rfl ⟨_, rfl, hfin⟩
  | some pa =>
    simp only [Option.isSome_some] at hpn
    rcases hcase with hu | ⟨hu, hs⟩ | ⟨hu, hs⟩
    · have hu' : ¬ 0 < m.under := by omega
      refine wp_region_quiet_below (by kernel_rfl) (by kernel_rfl) ?_
      repeat (first | go_big_quiet_skip | quiet_step (fail))
      refine wpQuiet_nil ?_
      intro w3 hw'
      have HA3 := Lib.hid (HA2.out.next (below_of_class hw'))
      clear hw' q2 q4 q5 hlk hpn b0 b1 b2 b3 b4 bf g0 g1 g2 g3 g4 gf ia x0 x1 x2 x3 x4 xf
      obtain ⟨b0, b1, b2, b3, b4, bf⟩ := blk5 HA3.out.box
      go_wp2_with (first
        | (go_at_call 41; refine (HC.out _ HA3.out).mono ?_; rintro e w4 ⟨rfl, hb4⟩
           have HA4 := Lib.hid (HA3.out.next hb4)
           clear hb4 b0 b1 b2 b3 b4 bf
           obtain ⟨b0, b1, b2, b3, b4, bf⟩ := blk5 HA4.out.box
           obtain ⟨ia, x0, x1, x2, x3, x4, xf⟩ := HA4.out.step.gate.gate.icells hi
           have HA6 := Lib.hid (HA4.out.lasts HOWN.out hi xn))
        | (go_at_call 41; refine (HC2.out _ HA6.out).mono ?_; rintro e w5 ⟨rfl, hb5⟩
           have HA7 := Lib.hid (HA6.out.next hb5)
           clear hb5 b0 b1 b2 b3 b4 bf
           obtain ⟨b0, b1, b2, b3, b4, bf⟩ := blk5 HA7.out.box)
        | (go_at_call 43; refine (HO.out _ HA7.out.step.only).mono ?_; rintro e w8 ⟨r8, rfl, hr8, hb8⟩; have HR8 := Lib.hid hr8; have HB8 := Lib.hid hb8; clear hr8 hb8)
        | (go_at_call 44; refine (HL.out _ _ _ HA7.out HB8.out HR8.out).mono ?_; rintro e w9 ⟨v9, rfl, hfin⟩))
      refine bodyPost_ret (v := .tuple #[v9, .int .i64 0]) (by kernel_rfl) rfl ⟨_, rfl, hfin⟩
    · rw [hs] at x3
      have q6 := fun d os => cell_regrown x3 d os
      refine wp_region_quiet_below (by kernel_rfl) (by kernel_rfl) ?_
      repeat (first | go_big_quiet_skip | quiet_step (fail))
      refine wpQuiet_nil ?_
      intro w3 hw'
      have HA3 := Lib.hid (HA2.out.next (below_of_class hw'))
      clear hw' q2 q4 q5 q6 hlk hpn b0 b1 b2 b3 b4 bf g0 g1 g2 g3 g4 gf ia x0 x1 x2 x3 x4 xf
      obtain ⟨b0, b1, b2, b3, b4, bf⟩ := blk5 HA3.out.box
      go_wp2_with (first
        | (go_at_call 41; refine (HC.out _ HA3.out).mono ?_; rintro e w4 ⟨rfl, hb4⟩
           have HA4 := Lib.hid (HA3.out.next hb4)
           clear hb4 b0 b1 b2 b3 b4 bf
           obtain ⟨b0, b1, b2, b3, b4, bf⟩ := blk5 HA4.out.box
           obtain ⟨ia, x0, x1, x2, x3, x4, xf⟩ := HA4.out.step.gate.gate.icells hi
           have HA6 := Lib.hid (HA4.out.lasts HOWN.out hi xn))
        | (go_at_call 41; refine (HC2.out _ HA6.out).mono ?_; rintro e w5 ⟨rfl, hb5⟩
           have HA7 := Lib.hid (HA6.out.next hb5)
           clear hb5 b0 b1 b2 b3 b4 bf
           obtain ⟨b0, b1, b2, b3, b4, bf⟩ := blk5 HA7.out.box)
        | (go_at_call 43; refine (HO.out _ HA7.out.step.only).mono ?_; rintro e w8 ⟨r8, rfl, hr8, hb8⟩; have HR8 := Lib.hid hr8; have HB8 := Lib.hid hb8; clear hr8 hb8)
        | (go_at_call 44; refine (HL.out _ _ _ HA7.out HB8.out HR8.out).mono ?_; rintro e w9 ⟨v9, rfl, hfin⟩))
      refine bodyPost_ret (v := .tuple #[v9, .int .i64 0]) (by kernel_rfl) rfl ⟨_, rfl, hfin⟩
    · rw [hs] at x3
      have q6 := fun d os => cell_regrown x3 d os
      refine wp_region_quiet_below (by kernel_rfl) (by kernel_rfl) ?_
      repeat (first | go_big_quiet_skip | quiet_step (fail))
      refine wpQuiet_nil ?_
      intro w3 hw'
      have HA3 := Lib.hid (HA2.out.next (below_of_class hw'))
      clear hw' q2 q4 q5 q6 hlk hpn b0 b1 b2 b3 b4 bf g0 g1 g2 g3 g4 gf ia x0 x1 x2 x3 x4 xf
      obtain ⟨b0, b1, b2, b3, b4, bf⟩ := blk5 HA3.out.box
      go_wp2_with (first
        | (go_at_call 41; refine (HC.out _ HA3.out).mono ?_; rintro e w4 ⟨rfl, hb4⟩
           have HA4 := Lib.hid (HA3.out.next hb4)
           clear hb4 b0 b1 b2 b3 b4 bf
           obtain ⟨b0, b1, b2, b3, b4, bf⟩ := blk5 HA4.out.box
           obtain ⟨ia, x0, x1, x2, x3, x4, xf⟩ := HA4.out.step.gate.gate.icells hi
           have HA6 := Lib.hid (HA4.out.lasts HOWN.out hi xn))
        | (go_at_call 41; refine (HC2.out _ HA6.out).mono ?_; rintro e w5 ⟨rfl, hb5⟩
           have HA7 := Lib.hid (HA6.out.next hb5)
           clear hb5 b0 b1 b2 b3 b4 bf
           obtain ⟨b0, b1, b2, b3, b4, bf⟩ := blk5 HA7.out.box)
        | (go_at_call 43; refine (HO.out _ HA7.out.step.only).mono ?_; rintro e w8 ⟨r8, rfl, hr8, hb8⟩; have HR8 := Lib.hid hr8; have HB8 := Lib.hid hb8; clear hr8 hb8)
        | (go_at_call 44; refine (HL.out _ _ _ HA7.out HB8.out HR8.out).mono ?_; rintro e w9 ⟨v9, rfl, hfin⟩))
      refine bodyPost_ret (v := .tuple #[v9, .int .i64 0]) (by kernel_rfl) rfl ⟨_, rfl, hfin⟩
end walks
end Go.Proofs.Ytdnkfgnjeibjeaa.W
