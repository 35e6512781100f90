import Derived.Test.YtdnkfgnjeibjeaaJC
namespace Go.Proofs.Ytdnkfgnjeibjeaa.W
open Go.RowKit Go.Shelf

theorem neq_note (p : Option Addr) (W : World) : (binOp .neq 93 (.pointer p) (.pointer none)).run Try.prog W = .ok (.bool p.isSome) W := by cases p <;> kernel_rfl

section walks
set_option maxHeartbeats 1000000
set_option maxRecDepth 100000

theorem f13_rng (w : World) (D D0 : Nat → Prop) (gs : GS) (m : Gm) (h : GateAt w D gs m) (i : Int) (x : Elem) (r : Value) (hr : RowAt w D0 r x.row) (hv : validElem x = true) (hi : i < 0 ∨ (m.n : Int) ≤ i) :
    Calls Try.prog 13 #[.pointer (some ⟨gs.G, 0, none⟩), .int .i64 i, ev x r] w fun e w' => e = .returned (.tuple #[.slice none 0 0, .int .i64 7]) ∧ Below w.heap.size w w' := by
  have hV := fun (W : World) (hb : Below w.heap.size w W) => f40_any x r W D0 (hr.below hb)
  obtain ⟨ra, rc, rfl, _, _⟩ := hr
  rw [hv] at hV
  have HV := Lib.hid hV
  have H := Lib.hid h
  have hb0 : Below w.heap.size w (w.alloc (Obj.cells #[Value.int IntKind.i64 x.k, Value.int IntKind.i64 x.n, Value.int IntKind.i64 x.t, Value.slice ra x.row.length rc, Value.int IntKind.i64 x.c] 34)) := (Below.refl _ _).alloc (Nat.le_refl _) _
  have HB := Lib.hid hb0
  clear hV hb0 h
  rcases Int.lt_or_le i 0 with h0 | h0
  · go_enter Try.func13, Try.ntmps13
    go_wp2_with (go_at_call 40; refine (HV.out _ HB.out).mono ?_; rintro e w1 ⟨rfl, hb1⟩; have HB1 := Lib.hid (HB.out.trans (hb1.mono HB.out.size)); clear hb1; obtain ⟨g0, g1, g2, g3, g4, gf⟩ := (H.out.below HB1.out).cells)
    exact bodyPost_ret (v := .tuple #[.slice none 0 0, .int .i64 7]) (by kernel_rfl) rfl ⟨rfl, HB1.out⟩
  · have h1 : (m.n : Int) ≤ i := by omega
    have h2 : ¬ i < 0 := by omega
    go_enter Try.func13, Try.ntmps13
    go_wp2_with (go_at_call 40; refine (HV.out _ HB.out).mono ?_; rintro e w1 ⟨rfl, hb1⟩; have HB1 := Lib.hid (HB.out.trans (hb1.mono HB.out.size)); clear hb1; obtain ⟨g0, g1, g2, g3, g4, gf⟩ := (H.out.below HB1.out).cells)
    exact bodyPost_ret (v := .tuple #[.slice none 0 0, .int .i64 7]) (by kernel_rfl) rfl ⟨rfl, HB1.out⟩

theorem f13_closed (w : World) (D D0 : Nat → Prop) (gs : GS) (m : Gm) (h : GateAt w D gs m) (i : Nat) (x : Elem) (r : Value) (hr : RowAt w D0 r x.row) (hv : validElem x = true) (hi : i < m.n) (hcl : (m.inp i).closed = true) :
    Calls Try.prog 13 #[.pointer (some ⟨gs.G, 0, none⟩), .int .i64 i, ev x r] w fun e w' => e = .returned (.tuple #[.slice none 0 0, .int .i64 10]) ∧ Below w.heap.size w w' := by
  have hV := fun (W : World) (hb : Below w.heap.size w W) => f40_any x r W D0 (hr.below hb)
  obtain ⟨ra, rc, rfl, _, _⟩ := hr
  rw [hv] at hV
  have HV := Lib.hid hV
  have H := Lib.hid h
  have hb0 : Below w.heap.size w (w.alloc (Obj.cells #[Value.int IntKind.i64 x.k, Value.int IntKind.i64 x.n, Value.int IntKind.i64 x.t, Value.slice ra x.row.length rc, Value.int IntKind.i64 x.c] 34)) := (Below.refl _ _).alloc (Nat.le_refl _) _
  have HB := Lib.hid hb0
  clear hV hb0 h
  have j1 : (0 : Int) ≤ (i : Int) := by omega
  have j2 : (i : Int) < (m.n : Int) := by omega
  go_enter Try.func13, Try.ntmps13
  go_wp2_with (go_at_call 40; refine (HV.out _ HB.out).mono ?_; rintro e w1 ⟨rfl, hb1⟩; have HB1 := Lib.hid (HB.out.trans (hb1.mono HB.out.size)); clear hb1; obtain ⟨g0, g1, g2, g3, g4, gf⟩ := (H.out.below HB1.out).cells; obtain ⟨ia, x0, x1, x2, x3, x4, xf⟩ := (H.out.below HB1.out).icells hi; rw [hcl] at x1)
  exact bodyPost_ret (v := .tuple #[.slice none 0 0, .int .i64 10]) (by kernel_rfl) rfl ⟨rfl, HB1.out⟩

theorem f13_plain (w : World) (D D0 : Nat → Prop) (gs : GS) (m : Gm) (ns : List NoteC) (i : Nat) (x : Elem) (r : Value) (h : FreeAt w D gs m ns) (hD : ∀ b, D b → b < w.heap.size) (hr : RowAt w D0 r x.row) (hD0 : ∀ b, D0 b → ¬ fown gs m.n ns b) (hsm : x.row.length ≤ 1000000)
    (hv : validElem x = true) (hi : i < m.n) (hcl : (m.inp i).closed = false) (hk : (x.k == 3) = false) (hok : KOk m (ns.map NoteC.abs)) (hcnt : noteSum ns < 4000) :
    Calls Try.prog 13 #[.pointer (some ⟨gs.G, 0, none⟩), .int .i64 i, ev x r] w (FArr w D gs m.n ns (fLook m (ns.map NoteC.abs) i x).1 (fLook m (ns.map NoteC.abs) i x).2.1 (fLook m (ns.map NoteC.abs) i x).2.2 0) := by
  have hV := fun (W : World) (hb : Below w.heap.size w W) => f40_any x r W D0 (hr.below hb)
  have hO := fun (W : World) (hb : Only (fown gs m.n ns) w W) => f43_any W x r D0 (hr.keep fun b hb' hlt => hb.block b hlt (hD0 b hb')) hsm
  have ha0 := FA.start h hD x r
  obtain ⟨ra, rc, rfl, _, _⟩ := hr
  rw [hv] at hV
  have HV := Lib.hid hV
  have HO := Lib.hid hO
  have H := Lib.hid h
  have HA := Lib.hid ha0
  have HOK := Lib.hid hok
  have j1 : (0 : Int) ≤ (i : Int) := by omega
  have j2 : (i : Int) < (m.n : Int) := by omega
  have hk' : (x.k != 3) = true := by simp [bne, hk]
  have hb0 : Below w.heap.size w (w.alloc (Obj.cells #[Value.int IntKind.i64 x.k, Value.int IntKind.i64 x.n, Value.int IntKind.i64 x.t, Value.slice ra x.row.length rc, Value.int IntKind.i64 x.c] 34)) := (Below.refl _ _).alloc (Nat.le_refl _) _
  have HB0 := Lib.hid hb0
  clear hV hO h hD ha0 hok hb0
  go_enter Try.func13, Try.ntmps13
  go_wp2_with (
    go_at_call 40; refine (HV.out _ HB0.out).mono ?_; rintro e w1 ⟨rfl, hb1⟩
    have HA1 := Lib.hid (HA.out.next hb1)
    clear hb1
    obtain ⟨g0, g1, g2, g3, g4, gf⟩ := HA1.out.step.gate.gate.cells
    obtain ⟨ia, x0, x1, x2, x3, x4, xf⟩ := HA1.out.step.gate.gate.icells hi
    obtain ⟨b0, b1, b2, b3, b4, bf⟩ := blk5 HA1.out.box)
  have q0 := fun d os => cell_regrown b0 d os
  refine wp_region_quiet_below (by kernel_rfl) (by kernel_rfl) ?_
  repeat (first | go_big_quiet_skip | quiet_step (fail))
  refine wpQuiet_nil ?_
  intro w2 hw'
  have HA2 := Lib.hid (HA1.out.next (below_of_class hw'))
  clear hw' q0 b0 b1 b2 b3 b4 bf g0 g1 g2 g3 g4 gf ia x0 x1 x2 x3 x4 xf
  obtain ⟨g0, g1, g2, g3, g4, gf⟩ := HA2.out.step.gate.gate.cells
  obtain ⟨ia, x0, x1, x2, x3, x4, xf⟩ := HA2.out.step.gate.gate.icells hi
  obtain ⟨b0, b1, b2, b3, b4, bf⟩ := blk5 HA2.out.box
  go_wp2_with fail
  have q2 := fun d os => cell_regrown g2 d os
  have q4 := fun d os => cell_regrown g4 d os
  have q5 := fun d os => cell_regrown b0 d os
  have hlk := fun d os => lookup_notes (HA2.out.step.gate.below (below_regrown w2 d os)) m.under
  obtain ⟨pv, hpv⟩ : ∃ pv, noteV ns m.under = .pointer pv := by
    unfold noteV
    cases noteOf ns m.under <;> exact ⟨_, rfl⟩
  rw [hpv] at hlk
  have hpn := neq_note pv
  have hc := fun W (h : FA w W D gs m.n ns m x (.slice ra x.row.length rc)) => f41_any W gs m i h.step.gate.gate hi
  have hbl : m.blocked i = false := by simp [Gm.blocked, H.out.al]
  rw [hbl] at hc
  have HC := Lib.hid hc
  have HL := Lib.hid (fun (W4 W5 : World) (r5 : Value) (h : FA w W4 D gs m.n ns m x (.slice ra x.row.length rc)) hb hr5 => h.look (W5 := W5) (r5 := r5) hb hr5 hi HOK.out hsm (by omega))
  clear hc hbl
  cases hno : noting m i with
  | true =>
    have hu : 0 < m.under := by
      unfold noting at hno
      simpa using (Bool.and_eq_true_iff.1 hno).1
    have hs : (m.inp i).sent = false := by
      unfold noting at hno
      simpa using (Bool.and_eq_true_iff.1 hno).2
    obtain ⟨y, hy, hyk⟩ := HOK.out.has hu
    obtain ⟨z, hz, rfl⟩ := List.mem_map.1 hy
    have hpz : pv = some ⟨z.nb, 0, none⟩ := by
      have e : z.k = m.under := hyk
      have := hpv
      unfold noteV at this
      rw [← e, noteOf_of_mem H.out hz] at this
      injection this with this
      exact this.symm
    subst hpz
    rw [hs] at x3
    have q6 := fun d os => cell_regrown x3 d os
    simp only [Option.isSome_some] at hpn
    have hct := fun W (h : FA w W D gs m.n ns m x (.slice ra x.row.length rc)) => f42_free W gs m ns h.step.gate (by omega)
    have HCT := Lib.hid hct
    clear hct hpv hy hyk hz hno hs
    refine wp_region_quiet_below (by kernel_rfl) (by kernel_rfl) ?_
    repeat (first | go_big_quiet_skip | quiet_step (fail))
    refine wpQuiet_nil ?_
    intro w3 hw'
    have HA3 := Lib.hid (HA2.out.next (below_of_class hw'))
    clear hw' q2 q4 q5 q6 hlk hpn b0 b1 b2 b3 b4 bf g0 g1 g2 g3 g4 gf ia x0 x1 x2 x3 x4 xf
    obtain ⟨b0, b1, b2, b3, b4, bf⟩ := blk5 HA3.out.box
    go_wp2_with (first
      | (go_at_call 41; refine (HC.out _ HA3.out).mono ?_; rintro e w4 ⟨rfl, hb4⟩
         have HA4 := Lib.hid (HA3.out.next hb4)
         clear hb4 HA3 b0 b1 b2 b3 b4 bf
         have HA3 := HA4
         clear HA4
         obtain ⟨b0, b1, b2, b3, b4, bf⟩ := blk5 HA3.out.box)
      | (go_at_call 42; refine (HCT.out _ HA3.out).mono ?_; rintro e w4 ⟨cv, rfl, hcv, hb4⟩
         have hcv2 : ((cv : Int) == 4000) = false := by simp; omega
         have HA4 := Lib.hid (HA3.out.next hb4)
         clear hb4 HA3 b0 b1 b2 b3 b4 bf hcv
         have HA3 := HA4
         clear HA4
         obtain ⟨b0, b1, b2, b3, b4, bf⟩ := blk5 HA3.out.box)
      | (go_at_call 43; refine (HO.out _ HA3.out.step.only).mono ?_; rintro e w5 ⟨r5, rfl, hr5, hb5⟩; have HR5 := Lib.hid hr5; have HB5 := Lib.hid hb5; clear hr5 hb5)
      | (go_at_call 44; refine (HL.out _ _ _ HA3.out HB5.out HR5.out).mono ?_; rintro e w6 ⟨v6, rfl, hfin⟩))
    refine bodyPost_ret (v := .tuple #[v6, .int .i64 0]) (by kernel_rfl) rfl ⟨_, rfl, hfin⟩
  | false =>
    have hcase : m.under ≤ 0 ∨ (0 < m.under ∧ (m.inp i).sent = true) := by
      rcases Int.lt_or_le 0 m.under with hu | hu
      · refine .inr ⟨hu, ?_⟩
        unfold noting at hno
        rw [decide_eq_true hu, Bool.true_and] at hno
        simpa using hno
      · exact .inl hu
    clear hno hpv
    cases pv with
    | none =>
      clear hcase
      simp only [Option.isSome_none] at hpn
      refine wp_region_quiet_below (by kernel_rfl) (by kernel_rfl) ?_
      repeat (first | go_big_quiet_skip | quiet_step (fail))
      refine wpQuiet_nil ?_
      intro w3 hw'
      have HA3 := Lib.hid (HA2.out.next (below_of_class hw'))
      clear hw' q2 q4 q5 hlk hpn b0 b1 b2 b3 b4 bf g0 g1 g2 g3 g4 gf ia x0 x1 x2 x3 x4 xf
      obtain ⟨b0, b1, b2, b3, b4, bf⟩ := blk5 HA3.out.box
      go_wp2_with (first
        | (go_at_call 41; refine (HC.out _ HA3.out).mono ?_; rintro e w4 ⟨rfl, hb4⟩
           have HA4 := Lib.hid (HA3.out.next hb4)
           clear hb4 HA3 b0 b1 b2 b3 b4 bf
           have HA3 := HA4
           clear HA4
           obtain ⟨b0, b1, b2, b3, b4, bf⟩ := blk5 HA3.out.box)
        | (go_at_call 43; refine (HO.out _ HA3.out.step.only).mono ?_; rintro e w5 ⟨r5, rfl, hr5, hb5⟩; have HR5 := Lib.hid hr5; have HB5 := Lib.hid hb5; clear hr5 hb5)
        | (go_at_call 44; refine (HL.out _ _ _ HA3.out HB5.out HR5.out).mono ?_; rintro e w6 ⟨v6, rfl, hfin⟩))
      refine bodyPost_ret (v := .tuple #[v6, .int .i64 0]) (by kernel_rfl) rfl ⟨_, rfl, hfin⟩
    | some pa =>
      simp only [Option.isSome_some] at hpn
      rcases hcase with hu | ⟨hu, hs⟩
      · have hu' : ¬ 0 < m.under := by omega
        refine wp_region_quiet_below (by kernel_rfl) (by kernel_rfl) ?_
        repeat (first | go_big_quiet_skip | quiet_step (fail))
        refine wpQuiet_nil ?_
        intro w3 hw'
        have HA3 := Lib.hid (HA2.out.next (below_of_class hw'))
        clear hw' q2 q4 q5 hlk hpn b0 b1 b2 b3 b4 bf g0 g1 g2 g3 g4 gf ia x0 x1 x2 x3 x4 xf
        obtain ⟨b0, b1, b2, b3, b4, bf⟩ := blk5 HA3.out.box
        go_wp2_with (first
          | (go_at_call 41; refine (HC.out _ HA3.out).mono ?_; rintro e w4 ⟨rfl, hb4⟩
             have HA4 := Lib.hid (HA3.out.next hb4)
             clear hb4 HA3 b0 b1 b2 b3 b4 bf
             have HA3 := HA4
             clear HA4
             obtain ⟨b0, b1, b2, b3, b4, bf⟩ := blk5 HA3.out.box)
          | (go_at_call 43; refine (HO.out _ HA3.out.step.only).mono ?_; rintro e w5 ⟨r5, rfl, hr5, hb5⟩; have HR5 := Lib.hid hr5; have HB5 := Lib.hid hb5; clear hr5 hb5)
          | (go_at_call 44; refine (HL.out _ _ _ HA3.out HB5.out HR5.out).mono ?_; rintro e w6 ⟨v6, rfl, hfin⟩))
        refine bodyPost_ret (v := .tuple #[v6, .int .i64 0]) (by kernel_rfl) rfl ⟨_, rfl, hfin⟩
      · rw [hs] at x3
        have q6 := fun d os => cell_regrown x3 d os
        refine wp_region_quiet_below (by kernel_rfl) (by kernel_rfl) ?_
        repeat (first | go_big_quiet_skip | quiet_step (fail))
        refine wpQuiet_nil ?_
        intro w3 hw'
        have HA3 := Lib.hid (HA2.out.next (below_of_class hw'))
        clear hw' q2 q4 q5 q6 hlk hpn b0 b1 b2 b3 b4 bf g0 g1 g2 g3 g4 gf ia x0 x1 x2 x3 x4 xf
        obtain ⟨b0, b1, b2, b3, b4, bf⟩ := blk5 HA3.out.box
        go_wp2_with (first
          | (go_at_call 41; refine (HC.out _ HA3.out).mono ?_; rintro e w4 ⟨rfl, hb4⟩
             have HA4 := Lib.hid (HA3.out.next hb4)
             clear hb4 HA3 b0 b1 b2 b3 b4 bf
             have HA3 := HA4
             clear HA4
             obtain ⟨b0, b1, b2, b3, b4, bf⟩ := blk5 HA3.out.box)
          | (go_at_call 43; refine (HO.out _ HA3.out.step.only).mono ?_; rintro e w5 ⟨r5, rfl, hr5, hb5⟩; have HR5 := Lib.hid hr5; have HB5 := Lib.hid hb5; clear hr5 hb5)
          | (go_at_call 44; refine (HL.out _ _ _ HA3.out HB5.out HR5.out).mono ?_; rintro e w6 ⟨v6, rfl, hfin⟩))
        refine bodyPost_ret (v := .tuple #[v6, .int .i64 0]) (by kernel_rfl) rfl ⟨_, rfl, hfin⟩
end walks
end Go.Proofs.Ytdnkfgnjeibjeaa.W
