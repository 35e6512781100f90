import Derived.Test.YtdnkfgnjeibjeaaJM
namespace Go.Proofs.Ytdnkfgnjeibjeaa.W
open Go.RowKit Go.Shelf

/-- The law's state at a round. -/
def RS4 (w2 wr : World) (n G M B1 B2 c : Nat) : Prop :=
  ∃ col D gs m ns us1 ev1 qb1 us2 ev2 qb2 AT ins, St4 w2 wr n G M B1 B2 c col D gs m ns us1 ev1 qb1 us2 ev2 qb2 AT ins

/-- While what passes is looked at. -/
def Lp4 (w2 wr : World) (n G M B1 B2 : Nat) (gs : GS) (m : Gm) (ns : List NoteC) (us1 : Nat → Value) (ev1 : Nat → List EV) (qb1 : Nat → Option Nat) (ov : Value) (outs : List OV) (oblk : Option Nat) (ins ins' : Nat → List Elem) (A0 A1 : Ats) (j : Nat) : Prop :=
  ∃ col D us2 ev2 qb2 AT, N4 w2 wr n G M B1 B2 col D gs m ns us1 ev1 qb1 us2 ev2 qb2 AT ov outs oblk ∧ (∀ i, i < n → eL (ev2 i) = ((if j = 0 then ins else ins') i).filter plainE) ∧ AT.map AtE.abs = if j = 0 then A0 else A1

section walks
set_option maxHeartbeats 2000000
set_option maxRecDepth 100000

theorem f4_main (w : World) (n : Nat) (v : Value) (l : List ActV) (D : Nat → Prop) (h : ActsAt w D v l) (hm : manyA l = false) (h1 : 1 ≤ n) (h2 : n ≤ 200) :
    Calls Try.prog 4 #[.int .i64 n, v] w fun e w' => e = .returned (.bool true) ∧ Below w.heap.size w w' := by
  have hM := fun (W : World) (hb : Below w.heap.size w W) => f11_any W v l D (h.below hb)
  rw [hm] at hM
  have HM := Lib.hid hM
  have HMA := Lib.hid hm
  have hlen := manyA_len hm
  obtain ⟨a, c, rfl, hl, hx⟩ := h
  have HX := Lib.hid hx
  clear hM hx hm
  obtain ⟨i2, hi2, hz20, hz21, hz22⟩ := info_parts info49
  have hmk : ∀ W : World, (Instr.makeSlice 47 (.int .i64 n) (.int .i64 n)).run Try.prog W = .ok (.slice (some ⟨W.heap.size, 0, none⟩) n n) (W.alloc (.cells (madeCells #[.slice none 0 0] n) 49)) := fun W => by
    have := run_make (P := Try.prog) W 47 49 i2 (.slice none 0 0) Try.underlying47 hi2 hz20 .i64 .i64 n n (by omega) (Int.le_refl _) (by rw [hz22]; omega) (by omega)
    rw [hz21] at this
    simpa [Value.cells] using this
  have hmm : ∀ W : World, (Instr.makeMap 48 none).run Try.prog W = .ok (.map (some W.heap.size)) (W.alloc (.map #[] 0)) := fun W => by kernel_rfl
  go_enter Try.func4, Try.ntmps4
  go_wp2_with (first
    | (go_at_call 10; refine (f10_any _).mono ?_; rintro e w1 ⟨rfl, hb1⟩; have HB1 := Lib.hid hb1; clear hb1)
    | (go_at_call 11; refine (HM.out _ HB1.out).mono ?_; rintro e w2 ⟨rfl, hb2⟩; have HB2 := Lib.hid (HB1.out.trans (hb2.mono HB1.out.size)); clear hb2)
    | (go_at_call 12; (with_reducible refine (f12_f _ n h1 h2).mono ?_); rintro e w3 ⟨G, rfl, gs, hga, hGG, hown, hb3⟩; have hst := St4.start (by omega) hga hGG hown hb3; have HST := Lib.hid hst; have HB3 := Lib.hid hb3; clear hga hGG hown hb3 hst))
  go_loopw [10] (fun i wr => ∃ (k : Nat), k ≤ l.length ∧ i = .int .i64 k ∧ RS4 w2 wr n G (w3.heap.size + 1 + 1) w3.heap.size (w3.heap.size + 1) k) (fun i _ => l.length - (intOf i).toNat)
  case atStart =>
    obtain ⟨col, hst⟩ := HST.out
    exact ⟨0, Nat.zero_le _, rfl, _, _, _, _, _, _, _, _, _, _, _, _, _, hst⟩
  case round =>
    obtain ⟨k, hk, rfl, hT⟩ := hrel
    obtain ⟨col, D1, gs, m, ns, us1, ev1, qb1, us2, ev2, qb2, AT, ins, hS⟩ := hT
    have hbw : Below w.heap.size w wr := HB2.out.trans (hS.n4.bl.mono HB2.out.size)
    have HS := Lib.hid hS
    have HBW := Lib.hid hbw
    clear hS hbw
    by_cases hlt : k < l.length
    · obtain ⟨b, off, rfl, hbD, hc⟩ := HX.out.resolve_left (fun e => by rw [e] at hlt; simp at hlt)
      obtain ⟨c0, c1, r, e0, e1, e2, e3, e4, hr⟩ := hc k hlt
      have hbb : b < w.heap.size := World.block_lt_of_cell? w ⟨b, off + k * 7, none⟩ c0
      have hbr : b < wr.heap.size := Nat.lt_of_lt_of_le hbb HBW.out.size
      have hrow := manyA_false HMA.out hlt
      have hR := fun (W : World) (hb : Below w.heap.size w W) => hr.below hb
      have hC := fun (W : World) (hb : Below w.heap.size w W) => (show (W.cell? ⟨b, off + k * 7, none⟩ = some (.int .u8 l[k].kd)) ∧ (W.cell? ⟨b, off + k * 7 + 1, none⟩ = some (.int .i64 l[k].i)) ∧ W.cell? ⟨b, off + k * 7 + 2, none⟩ = some (.int .i64 l[k].e.k) ∧ W.cell? ⟨b, off + k * 7 + 2 + 1, none⟩ = some (.int .i64 l[k].e.n) ∧ W.cell? ⟨b, off + k * 7 + 2 + 2, none⟩ = some (.int .i64 l[k].e.t) ∧ W.cell? ⟨b, off + k * 7 + 2 + 3, none⟩ = some r ∧ W.cell? ⟨b, off + k * 7 + 2 + 4, none⟩ = some (.int .i64 l[k].e.c) from by
        have t : ∀ o, W.cell? ⟨b, o, none⟩ = w.cell? ⟨b, o, none⟩ := fun o => hb.cell (p := ⟨b, o, none⟩) hbb
        exact ⟨(t _).trans c0, (t _).trans c1, (t _).trans e0, (t _).trans e1, (t _).trans e2, (t _).trans e3, (t _).trans e4⟩)
      have HR := Lib.hid hR
      have HC := Lib.hid hC
      clear hc c0 c1 e0 e1 e2 e3 e4 hr hR hC
      obtain ⟨c0, c1, e0, e1, e2, e3, e4⟩ := HC.out wr HBW.out
      have j1 : (0 : Int) ≤ (k : Int) := by omega
      have j2 : (k : Int) < (l.length : Int) := by omega
      generalize hx : l[k] = x at *
      clear hx
      obtain ⟨xk, xi, xe⟩ := x
      dsimp only at c0 c1 e0 e1 e2 e3 e4 HR HC hrow
      go_wp2_with fail
      · go_roundw
        case rel => exact ⟨k + 1, by omega, by go_num, _, _, _, _, _, _, _, _, _, _, _, _, _, HS.out.more⟩
        case measure => simp [intOf]; omega
      have HL2 := Lib.hid (HS.out.next ((Below.refl _ _).drew))
      have hR2 := ((HR.out w (Below.refl _ _)).imp (D' := fun b => b < w2.heap.size) (fun b hb _ => Nat.lt_of_lt_of_le hb HB2.out.size)).below (HBW.out.drew)
      have HR2 := Lib.hid hR2
      clear hR2
      refine wp_region_mid 11 _ rfl (by kernel_rfl) (by kernel_rfl) ?_
      simp only [List.take_succ_cons, List.take_zero, List.drop_succ_cons, List.drop_zero]
      repeat still_step
      refine wpStill_nil ?_
      intro K hK
      go_simp
      go_at_call 13
      refine (arrive4 HL2.out (by omega) xe r HR2.out (by omega) xi).mono ?_
      rintro e w5 ⟨v5, err, rfl, hsz5, hcase⟩
      refine hK _ _ ?_
      clear hK K
      repeat still_step
      refine wpStill_nil ?_
      have hbl5 : Below w2.heap.size w2 w5 := by
        rcases hcase with ⟨_, col', D', gs', m', ns', h'⟩ | ⟨_, i, col', D', gs', m', ns', outs', blk', _, _, h', _⟩
        · exact h'.n4.bl
        · exact h'.bl
      have hbw5 : Below w.heap.size w w5 := HB2.out.trans (hbl5.mono HB2.out.size)
      obtain ⟨d0, d1, f0, f1, f2, f3, f4⟩ := HC.out w5 hbw5
      have hR5 := ((HR.out w (Below.refl _ _)).imp (D' := fun b => b < w2.heap.size) (fun b hb _ => Nat.lt_of_lt_of_le hb HB2.out.size)).below hbw5
      have hbr5 : b < w5.heap.size := Nat.lt_of_lt_of_le hbb hbw5.size
      have HR5 := Lib.hid hR5
      have HB5 := Lib.hid hbl5
      clear hR5 hbw5 hbl5 c0 c1 e0 e1 e2 e3 e4
      rcases hcase with ⟨herr, col5, D5, gs5, m5, ns5, hS5⟩ | ⟨rfl, i, col5, D5, gs5, m5, ns5, outs, oblk, rfl, hin, hN5, hv5, hpi5, hcnt5, hO5⟩
      · have herr2 : (err != 0) = true := by simpa using herr
        have HS5 := Lib.hid hS5
        clear hS5 herr
        go_wp2_with fail
        go_roundw
        case rel => exact ⟨k + 1, by omega, by go_num, _, _, _, _, _, _, _, _, _, _, _, _, _, HS5.out.more⟩
        case measure => simp [intOf]; omega
      · obtain ⟨va, vc, hvv⟩ := hN5.out.form
        subst hvv
        have HN5 := Lib.hid hN5
        have HPI := Lib.hid hpi5
        have HCN := Lib.hid hcnt5
        have HO5 := Lib.hid hO5
        have HV5 := Lib.hid hv5
        clear hN5 hpi5 hcnt5 hO5 hv5
        have i0 : (0 : Int) ≤ (i : Int) := by omega
        have i1 : ¬ (i : Int) < 0 := by omega
        have i2' : ¬ (i : Int) ≥ (n : Int) := by omega
        have i3 : (i : Int) < (n : Int) := by omega
        go_wp2_with fail
        obtain ⟨ra, rn, rc, rfl⟩ := HR5.out.form2
        obtain ⟨k1, hk1, hz10, hz11, hz12⟩ := info_parts info34
        obtain ⟨sa, sc, hus⟩ := (HN5.out.inl.own i hin).form
        obtain ⟨y0, hBf, hBl⟩ := HN5.out.inl.cellB hin
        rw [hus, Nat.zero_add] at y0
        have hqB : qb1 i ≠ some w3.heap.size := fun e => (HN5.out.inl.qbB hin e).1 rfl
        have hqb : qb1 i ≠ some b := fun e => by
          have e1 := HN5.out.cI b (.inr ⟨i, hin, e⟩)
          have e2 := HN5.out.c0 b (Nat.lt_of_lt_of_le hbb HB2.out.size)
          rw [e1] at e2; cases e2
        have hel : (ev1 i).length ≤ 80 := by
          have h1 := (HS.out.sz i hin).1
          rw [← HS.out.e1 i hin] at h1
          simp only [eL, List.length_map] at h1
          omega
        have hs0 : SlOwn (w5.alloc (Obj.cells #[.int .i64 xe.k, .int .i64 xe.n, .int .i64 xe.t, .slice ra rn rc, .int .i64 xe.c] 34)).drew 34 5 (.slice sa (ev1 i).length sc) (ev1 i).length ((ev1 i).flatMap ecl) (qb1 i) := by
          rw [← hus]
          exact (HN5.out.inl.own i hin).keep fun g hg => Below.heap_alloc w5 _ g (HN5.out.inl.qbB hin hg).2
        have hs1 : Src (w5.alloc (Obj.cells #[.int .i64 xe.k, .int .i64 xe.n, .int .i64 xe.t, .slice ra rn rc, .int .i64 xe.c] 34)).drew 5 (.slice (some ⟨w5.heap.size, 0, none⟩) 1 1) 1 (ecl (xe, .slice ra rn rc)) := SlOwn.src (e := 34) (blk := some w5.heap.size) ⟨rfl, .inr ⟨_, 0, 1, _, rfl, rfl, World.alloc_heap_new w5 (Obj.cells #[.int .i64 xe.k, .int .i64 xe.n, .int .i64 xe.t, .slice ra rn rc, .int .i64 xe.c] 34), Nat.le_refl _, by simp [maxLen], by simp, rfl⟩⟩
        have hone : ∀ u ∈ ecl (xe, Value.slice ra rn rc), u.oneCell' = true := fun u hu => by simp only [ecl, List.mem_cons, List.not_mem_nil, or_false] at hu; rcases hu with rfl | rfl | rfl | rfl | rfl <;> rfl
        have HS0 := Lib.hid hs0
        have HS1 := Lib.hid hs1
        have HONE := Lib.hid hone
        clear hus hs0 hs1 hone
        have hC0 : Only (fun b => qb1 i = some b) w5 w5.drew := (Only.refl _ _).drew
        refine wp_region_float 19 2 (fun W => Only (fun b => qb1 i = some b) w5 W) (by kernel_rfl) (by kernel_rfl) hC0 ?_
        simp only [List.take_succ_cons, List.take_zero, List.drop_succ_cons, List.drop_zero]
        have HC0 := Lib.hid hC0
        clear hC0
        repeat (
          refine wpFloat_ex (fun K hK => ?_)
          apply Exists.intro
          refine ⟨fun W hW => ?_, ?_⟩
          · have hk := hW.cell
            clear hW
            go_simp
            rfl
          go_simp
          refine hK _ ?_
          clear hK K)
        refine wpFloat_nil ?_
        refine wpChain_step (fun K hK => ?_)
        go_simp
        refine hK _ _ rfl (fun _ => HC0.out.alloc _) ?_
        clear hK K
        refine wpChain_step (fun K hK => ?_)
        refine wp_append_S (.tmp 91) (.tmp 97) 49 rfl 34 k1 _ 5 56 Try.underlying49 hk1 hz10 hz11 hz12 rfl (by omega) (.slice sa (ev1 i).length sc) (ev1 i).length ((ev1 i).flatMap ecl) (qb1 i) rfl HS0.out (.slice (some ⟨w5.heap.size, 0, none⟩) 1 1) 1 (ecl (xe, .slice ra rn rc)) rfl HS1.out HONE.out (by simp only [maxLen]; omega) (by omega) ?_
        intro v6 w6 bk6 hown6 hgrow6 hat6
        obtain ⟨sa6, sc6, rfl⟩ := hown6.form
        have ho6 : Only (fun b => qb1 i = some b) w5 w6 := (HC0.out.alloc _).grown hgrow6 (fun q hq _ => hq)
        have hcB : w6.cell? ⟨w3.heap.size, i, none⟩ = some (.slice sa (ev1 i).length sc) := (ho6.cell _ _ hBl hqB).trans y0
        have hB6 : w3.heap.size < w6.heap.size := Nat.lt_of_lt_of_le hBl ho6.size
        have hf6 : ∀ a, w6.frozen? ⟨w3.heap.size, a, none⟩ = false := by
          obtain ⟨cs, hcs⟩ := HN5.out.inl.heapB
          exact blk_frozen ((ho6.block _ hBl hqB).trans hcs)
        go_simp
        refine hK _ _ rfl (fun _ => ho6) ?_
        clear hK K
        have hN := HN5.out.push hin (p := (xe, .slice ra rn rc)) HR5.out (((Below.refl _ _).alloc (Nat.le_refl _) _).drew) hown6 hgrow6 hat6
        rw [Nat.zero_add] at hN
        obtain ⟨col6, hN6⟩ := hN
        have HN6 := Lib.hid hN6
        clear hN6 hown6 hgrow6 hat6 ho6
        refine wpChain_step (fun K hK => ?_)
        go_simp
        refine hK _ _ rfl (fun h => absurd h (by decide)) ?_
        clear hK K
        refine wpChain_step (fun K hK => ?_)
        go_simp
        refine hK _ _ rfl (fun h => absurd h (by decide)) ?_
        clear hK K
        refine wpChain_nil ?_
        generalize hW6 : w6.setCell ⟨w3.heap.size, i, none⟩ (.slice sa6 ((ev1 i).length + 1) sc6) = W6 at HN6 ⊢
        clear hW6 hcB hB6 hf6 d0 d1 f0 f1 f2 f3 f4 HS0 HS1 HC0 y0 hBf hBl hqB hqb
        have hol : outs.length ≤ 1 := by
          have h0 : (outE' outs).length = outs.length := by simp [outE']
          rcases HO5.out with ⟨h, _⟩ | ⟨h, _⟩ | ⟨h, _⟩ <;> rw [h] at h0 <;> simp at h0 <;> omega
        obtain ⟨A0, hA0⟩ : ∃ A0, A0 = AT.map AtE.abs := ⟨_, rfl⟩
        obtain ⟨A1, hA1⟩ : ∃ A1, A1 = AT.map AtE.abs ++ ((outE' outs).filter (fun o => !plainE o.2)).map fun o => (o.2.n, gotL n ins) := ⟨_, rfl⟩
        obtain ⟨us1n, hus1n⟩ : ∃ f, f = fun j => if j = i then Value.slice sa6 ((ev1 i).length + 1) sc6 else us1 j := ⟨_, rfl⟩
        obtain ⟨ev1n, hev1n⟩ : ∃ f, f = fun j => if j = i then ev1 i ++ [(xe, Value.slice ra rn rc)] else ev1 j := ⟨_, rfl⟩
        obtain ⟨qb1n, hqb1n⟩ : ∃ f, f = fun j => if j = i then bk6 else qb1 j := ⟨_, rfl⟩
        rw [← hus1n, ← hev1n, ← hqb1n] at HN6
        have hLp : Lp4 w2 W6 n G (w3.heap.size + 1 + 1) w3.heap.size (w3.heap.size + 1) gs5 m5 ns5 us1n ev1n qb1n (.slice va outs.length vc) outs oblk ins (pushL ins i xe) A0 A1 0 :=
          ⟨_, _, _, _, _, _, HN6.out, fun q hq => HS.out.e2 q hq, hA0.symm⟩
        have HLP := Lib.hid hLp
        have HA0 := Lib.hid hA0
        have HA1 := Lib.hid hA1
        have HEV1 := Lib.hid hev1n
        clear hLp hA0 hA1 hus1n hev1n hqb1n HN6
        go_wp2_with fail
        obtain ⟨wo, rfl⟩ : ∃ wo : World, wo = wr := ⟨_, rfl⟩
        go_loopw [13] (fun q wx => ∃ j : Nat, j ≤ outs.length ∧ q = .int .i64 j ∧ Lp4 w2 wx n G (w3.heap.size + 1 + 1) w3.heap.size (w3.heap.size + 1) gs5 m5 ns5 us1n ev1n qb1n (.slice va outs.length vc) outs oblk ins (pushL ins i xe) A0 A1 j) (fun q _ => outs.length - (intOf q).toNat)
        case atStart => exact ⟨0, Nat.zero_le _, rfl, HLP.out⟩
        case round =>
          obtain ⟨j, hj, rfl, colj, Dj, us2j, ev2j, qb2j, ATj, hNj, he2j, hATj⟩ := hrel
          have HNJ := Lib.hid hNj
          have HE2 := Lib.hid he2j
          have HATJ := Lib.hid hATj
          clear hNj he2j hATj
          by_cases hjl : j < outs.length
          · obtain rfl : j = 0 := by omega
            obtain ⟨og, oo, ocp, hov, hob, x0, x1, x2, x3, x4, x5⟩ := outs_at HNJ.out.out hjl
            have hrr := HNJ.out.rows _ (List.getElem_mem hjl)
            have hO := HO5.out
            have hone : outE' outs = [(outs[0].1, outs[0].2.1)] := by
              obtain ⟨o, rfl⟩ : ∃ o, outs = [o] := List.length_eq_one_iff.1 (by omega)
              rfl
            rw [hone] at hO
            have HON := Lib.hid hone
            injection hov with hov _ hoc
            subst hov hoc
            have hogl := HNJ.out.out.lt_of hob
            have hogc := HNJ.out.cO og hob
            generalize outs[0] = o at x0 x1 x2 x3 x4 x5 hrr hO HON
            obtain ⟨oi, oe, orow⟩ := o
            dsimp only at x0 x1 x2 x3 x4 x5 hrr hO HON
            obtain ⟨ta, tn, tc, rfl⟩ : ∃ a n c, orow = .slice a n c := by obtain ⟨a, c, h, _⟩ := hrr; exact ⟨a, _, c, h⟩
            have HRR := Lib.hid hrr
            have HOGL := Lib.hid hogl
            have HOGC := Lib.hid hogc
            have HOB := Lib.hid hob
            have hjl' : (0 : Int) < (outs.length : Int) := by omega
            clear hone hrr hogl hogc hob
            simp only [Nat.zero_mul, Nat.add_zero] at x0 x1 x2 x3 x4 x5
            rcases hO with ⟨hO, _⟩ | ⟨hO, hpl⟩ | ⟨hO, hpl, hats⟩
            · cases hO
            · injection hO with hO _
              injection hO with hO1 hO2
              subst hO1 hO2
              have hk3 : (oe.k == 3) = false := by
                unfold plainE at hpl
                simpa using hpl
              go_wp2_with fail
              obtain ⟨pa2, pc2, hus2⟩ := (HNJ.out.got.own oi hin).form
              obtain ⟨z0, zBf, zBl⟩ := HNJ.out.got.cellB hin
              rw [hus2, Nat.zero_add] at z0
              have hqB : qb2j oi ≠ some (w3.heap.size + 1) := fun e => (HNJ.out.got.qbB hin e).1 rfl
              have hqg : qb2j oi ≠ some og := fun e => by
                have e1 := HNJ.out.cT og (.inr ⟨oi, hin, e⟩)
                rw [HOGC.out] at e1; cases e1
              have hgl := HOGL.out
              have hel2 : (ev2j oi).length ≤ 80 := by
                have h1 := congrArg List.length (HE2.out oi hin)
                have h2 := List.length_filter_le plainE (ins oi)
                have h3 := (HS.out.sz oi hin).1
                simp only [eL, List.length_map, if_true] at h1
                omega
              have hs0 : SlOwn (wr.alloc (Obj.cells #[.int .i64 oe.k, .int .i64 oe.n, .int .i64 oe.t, .slice ta tn tc, .int .i64 oe.c] 34)).drew 34 5 (.slice pa2 (ev2j oi).length pc2) (ev2j oi).length ((ev2j oi).flatMap ecl) (qb2j oi) := by
                rw [← hus2]
                exact (HNJ.out.got.own oi hin).keep fun g hg => Below.heap_alloc wr _ g (HNJ.out.got.qbB hin hg).2
              have hs1 : Src (wr.alloc (Obj.cells #[.int .i64 oe.k, .int .i64 oe.n, .int .i64 oe.t, .slice ta tn tc, .int .i64 oe.c] 34)).drew 5 (.slice (some ⟨wr.heap.size, 0, none⟩) 1 1) 1 (ecl (oe, .slice ta tn tc)) := SlOwn.src (e := 34) (blk := some wr.heap.size) ⟨rfl, .inr ⟨_, 0, 1, _, rfl, rfl, World.alloc_heap_new wr (Obj.cells #[.int .i64 oe.k, .int .i64 oe.n, .int .i64 oe.t, .slice ta tn tc, .int .i64 oe.c] 34), Nat.le_refl _, by simp [maxLen], by simp, rfl⟩⟩
              have hone : ∀ u ∈ ecl (oe, Value.slice ta tn tc), u.oneCell' = true := fun u hu => by simp only [ecl, List.mem_cons, List.not_mem_nil, or_false] at hu; rcases hu with rfl | rfl | rfl | rfl | rfl <;> rfl
              have HS0 := Lib.hid hs0
              have HS1 := Lib.hid hs1
              have HONE2 := Lib.hid hone
              clear hus2 hs0 hs1 hone
              have hC0 : Only (fun b => qb2j oi = some b) wr wr.drew := (Only.refl _ _).drew
              refine wp_region_float 19 2 (fun W => Only (fun b => qb2j oi = some b) wr W) (by kernel_rfl) (by kernel_rfl) hC0 ?_
              simp only [List.take_succ_cons, List.take_zero, List.drop_succ_cons, List.drop_zero]
              have HC0 := Lib.hid hC0
              clear hC0
              repeat (
                refine wpFloat_ex (fun K hK => ?_)
                apply Exists.intro
                refine ⟨fun W hW => ?_, ?_⟩
                · have hk := hW.cell
                  clear hW
                  go_simp
                  rfl
                go_simp
                refine hK _ ?_
                clear hK K)
              refine wpFloat_nil ?_
              refine wpChain_step (fun K hK => ?_)
              go_simp
              refine hK _ _ rfl (fun _ => HC0.out.alloc _) ?_
              clear hK K
              refine wpChain_step (fun K hK => ?_)
              refine wp_append_S (.tmp 150) (.tmp 156) 49 rfl 34 k1 _ 5 56 Try.underlying49 hk1 hz10 hz11 hz12 rfl (by omega) (.slice pa2 (ev2j oi).length pc2) (ev2j oi).length ((ev2j oi).flatMap ecl) (qb2j oi) rfl HS0.out (.slice (some ⟨wr.heap.size, 0, none⟩) 1 1) 1 (ecl (oe, .slice ta tn tc)) rfl HS1.out HONE2.out (by simp only [maxLen]; omega) (by omega) ?_
              intro v7 w7 bk7 hown7 hgrow7 hat7
              obtain ⟨sa7, sc7, rfl⟩ := hown7.form
              have ho7 : Only (fun b => qb2j oi = some b) wr w7 := (HC0.out.alloc _).grown hgrow7 (fun q hq _ => hq)
              have hcB : w7.cell? ⟨w3.heap.size + 1, oi, none⟩ = some (.slice pa2 (ev2j oi).length pc2) := (ho7.cell _ _ zBl hqB).trans z0
              have hB7 : w3.heap.size + 1 < w7.heap.size := Nat.lt_of_lt_of_le zBl ho7.size
              have hf7 : ∀ a, w7.frozen? ⟨w3.heap.size + 1, a, none⟩ = false := by
                obtain ⟨cs, hcs⟩ := HNJ.out.got.heapB
                exact blk_frozen ((ho7.block _ zBl hqB).trans hcs)
              go_simp
              refine hK _ _ rfl (fun _ => ho7) ?_
              clear hK K
              have hN := HNJ.out.pass hin (p := (oe, .slice ta tn tc)) HRR.out (((Below.refl _ _).alloc (Nat.le_refl _) _).drew) hown7 hgrow7 hat7
              rw [Nat.zero_add] at hN
              obtain ⟨col7, hN7⟩ := hN
              have HN7 := Lib.hid hN7
              clear hN7 hown7 hgrow7 hat7 ho7
              refine wpChain_step (fun K hK => ?_)
              go_simp
              refine hK _ _ rfl (fun h => absurd h (by decide)) ?_
              clear hK K
              refine wpChain_step (fun K hK => ?_)
              go_simp
              refine hK _ _ rfl (fun h => absurd h (by decide)) ?_
              clear hK K
              refine wpChain_nil ?_
              clear hcB hB7 hf7 HS0 HS1 HC0 z0 zBf zBl hqB hqg x0 x1 x2 x3 x4 x5
              go_wp2_with fail
              go_roundw
              case rel =>
                refine ⟨1, by omega, by go_num, _, _, _, _, _, _, HN7.out, fun q hq => ?_, ?_⟩
                · have h0 := HE2.out q hq
                  simp only [if_true] at h0
                  have e10 : (if (1 : Nat) = 0 then ins else pushL ins oi oe) = pushL ins oi oe := if_neg (by decide)
                  rw [e10]
                  by_cases e : q = oi
                  · subst e
                    rw [if_pos rfl, pushL_same, eL_app, h0, List.filter_append]
                    simp [eL, hpl]
                  · rw [if_neg e, pushL_ne _ _ e]; exact h0
                · have h0 := HATJ.out
                  simp only [if_true] at h0
                  rw [if_neg (by decide), h0, HA1.out, HA0.out, HON.out]
                  simp [hpl]
              case measure => simp [intOf]; omega
            · injection hO with hO _
              injection hO with hO1 hO2
              subst hO1 hO2
              simp only [barE] at x1 x2 x3 x5
              go_wp2_with fail
              have hcp := HNJ.out.copy h1 h2 (fun q hq => by
                have h0 := HE2.out q hq
                simp only [if_true] at h0
                rw [h0]
                refine ⟨?_, fun x hx => ?_⟩
                · have h3 := (HS.out.sz q hq).1
                  have h4 := List.length_filter_le plainE (ins q)
                  omega
                · have := ((HS.out.sz q hq).2 x (List.mem_filter.1 hx).1).1
                  omega)
              have HCP := Lib.hid hcp
              clear hcp
              have hgc := (blk_of_own HNJ.out.out HOB.out)
              obtain ⟨gcs, hgc⟩ := hgc
              have HGC := Lib.hid hgc
              have hC : ∀ W : World, W.heap[og]? = some (.cells gcs 44 (0, 0)) → W.cell? ⟨og, oo + 2, none⟩ = some (.int .i64 xe.n) := fun W hW => (cell_keep (hW.trans hgc.symm) _).trans x2
              have HCC := Lib.hid hC
              clear hC hgc x0 x1 x2 x3 x4 x5
              refine wp_region_float 8 2 (fun W => W.heap[og]? = some (.cells gcs 44 (0, 0))) (by kernel_rfl) (by kernel_rfl) HGC.out ?_
              simp only [List.take_succ_cons, List.take_zero, List.drop_succ_cons, List.drop_zero]
              repeat (
                refine wpFloat_ex (fun K hK => ?_)
                apply Exists.intro
                refine ⟨fun W hW => ?_, ?_⟩
                · have e2 := HCC.out W hW
                  clear hW
                  go_simp
                  rfl
                go_simp
                refine hK _ ?_
                clear hK K)
              refine wpFloat_nil ?_
              refine wpChain_step (fun K hK => ?_)
              go_simp
              go_at_call 17
              refine (HCP.out _ (Below.refl _ _).drew).mono ?_
              rintro e' w7 ⟨Bc, oc, cc, usc, evc, qbc, rfl, hla7, hnew7, heq7, hb7⟩
              have hb7' : Below wr.heap.size wr w7 := ((Below.refl wr.heap.size wr).drew).trans hb7
              have hgc7 := (hb7'.block _ HOGL.out).trans HGC.out
              refine hK _ _ rfl (fun _ => hgc7) ?_
              clear hK K
              obtain ⟨clk, hmap7⟩ := (HNJ.out.next hb7').map
              have hATk : ∀ e ∈ ATj, e.k ≠ xe.n := fun e he => by
                have h0 := HATJ.out
                simp only [if_true] at h0
                rw [HA0.out] at h0
                have hm : e.abs ∈ AT.map AtE.abs := by rw [← h0]; exact List.mem_map.2 ⟨e, he, rfl⟩
                obtain ⟨e2, he2, he3⟩ := List.mem_map.1 hm
                have h4 := hats e2 he2
                have h5 : e2.k = e.k := congrArg Prod.fst he3
                omega
              have hst := store48 w7 (w3.heap.size + 1 + 1) clk xe.n (.slice (some ⟨Bc, oc, none⟩) n cc) (atE_ents ATj) hmap7 (keyAt_ats hATk)
              have hmk7 := HNJ.out.mark (k := xe.n) (ll := gotL n ins) hb7' hla7 hnew7 (by
                unfold gotL
                refine List.map_congr_left fun q hq => ?_
                have hq := List.mem_range.1 hq
                have h0 := HE2.out q hq
                simp only [if_true] at h0
                rw [heq7 q hq, h0]) (fun q hq => by
                have h0 := HE2.out q hq
                simp only [if_true] at h0
                have h3 := congrArg List.length (heq7 q hq)
                rw [h0] at h3
                have h4 := List.length_filter_le plainE (ins q)
                have h5 := (HS.out.sz q hq).1
                simp only [eL, List.length_map] at h3
                omega) (by omega) hmap7
              simp only [List.push_toArray] at hst hmk7
              have HMK := Lib.hid hmk7
              have hne : og ≠ w3.heap.size + 1 + 1 := fun e => by
                have e1 := HNJ.out.cM
                rw [← e, HOGC.out] at e1; cases e1
              have hgc9 : (w7.putObj (w3.heap.size + 1 + 1) (.map (ATj.map AtE.entry ++ [({ key := .int .i64 xe.n, val := .slice (some ⟨Bc, oc, none⟩) n cc, born := clk } : MapEntry)]).toArray (clk + 1))).heap[og]? = some (.cells gcs 44 (0, 0)) := by
                simp only [World.putObj, Array.getElem?_setIfInBounds]
                rw [if_neg (fun e => hne e.symm)]
                exact hgc7
              clear hmk7 hla7 hnew7 heq7 hb7 hmap7 hATk hne
              refine wpChain_step (fun K hK => ?_)
              go_simp
              refine hK _ _ rfl (fun _ => hgc9) ?_
              clear hK K
              refine wpChain_nil ?_
              obtain ⟨col9, D9, _, hN9⟩ := HMK.out
              have HN9 := Lib.hid hN9
              clear hN9 hst hgc9 hgc7
              generalize w7.putObj (w3.heap.size + 1 + 1) (.map (ATj.map AtE.entry ++ [({ key := .int .i64 xe.n, val := .slice (some ⟨Bc, oc, none⟩) n cc, born := clk } : MapEntry)]).toArray (clk + 1)) = w9 at HN9 ⊢
              go_wp2_with fail
              go_roundw
              case rel =>
                refine ⟨1, by omega, by go_num, _, _, _, _, _, _, HN9.out, fun q hq => ?_, ?_⟩
                · have h0 := HE2.out q hq
                  simp only [if_true] at h0
                  rw [if_neg (by decide), h0]
                  by_cases e : q = oi
                  · subst e
                    rw [pushL_same, List.filter_append]
                    simp [hpl]
                  · rw [pushL_ne _ _ e]
                · have h0 := HATJ.out
                  simp only [if_true] at h0
                  rw [if_neg (by decide), List.map_append, h0, HA1.out, HA0.out, HON.out]
                  rfl
              case measure => simp [intOf]; omega
          · have hSf : St4 w2 wr n G (w3.heap.size + 1 + 1) w3.heap.size (w3.heap.size + 1) (k + 1) colj Dj gs5 m5 ns5 us1n ev1n qb1n us2j ev2j qb2j ATj (pushL ins i xe) := by
              have hz : j = 0 → outE' outs = [] := fun e => by
                have : outs.length = 0 := by omega
                rw [List.eq_nil_of_length_eq_zero this]; rfl
              have hnp : j = 0 → plainE xe = false := fun e => by
                rcases HO5.out with ⟨_, h⟩ | ⟨h, _⟩ | ⟨h, _⟩
                · exact h
                · rw [hz e] at h; cases h
                · rw [hz e] at h; cases h
              refine ⟨HNJ.out.forget, ?_, fun q hq => ?_, fun q hq => ?_, fun q hq => ?_, HCN.out⟩
              · have hA : ATj.map AtE.abs = A1 := by
                  rw [HATJ.out]
                  split
                  · rename_i e
                    rw [HA1.out, HA0.out, hz e]; simp
                  · rfl
                rw [hA, HA1.out]
                exact HPI.out
              · rw [HEV1.out]
                dsimp only
                by_cases e : q = i
                · subst e; rw [if_pos rfl, pushL_same, eL_app, HS.out.e1 q hq]; rfl
                · rw [if_neg e, pushL_ne _ _ e]; exact HS.out.e1 q hq
              · rw [HE2.out q hq]
                split
                · rename_i e
                  by_cases e2 : q = i
                  · subst e2; rw [pushL_same, List.filter_append]; simp [hnp e]
                  · rw [pushL_ne _ _ e2]
                · rfl
              · by_cases e : q = i
                · subst e
                  rw [pushL_same]
                  refine ⟨by rw [List.length_append]; have := (HS.out.sz q hq).1; simp; omega, fun y hy => ?_⟩
                  rcases List.mem_append.1 hy with hy | hy
                  · exact (HS.out.sz q hq).2 y hy
                  · rw [List.mem_singleton] at hy; subst hy; exact ⟨hrow, HV5.out⟩
                · rw [pushL_ne _ _ e]
                  exact ⟨Nat.le_succ_of_le (HS.out.sz q hq).1, (HS.out.sz q hq).2⟩
            have HSF := Lib.hid hSf
            have hbwr : Below w.heap.size w wr := HB2.out.trans (hSf.n4.bl.mono HB2.out.size)
            obtain ⟨d0, d1, f0, f1, f2, f3, f4⟩ := HC.out wr hbwr
            have hbr9 : b < wr.heap.size := Nat.lt_of_lt_of_le hbb hbwr.size
            clear hSf HNJ HE2 HATJ hbwr
            cases hk3 : (xe.k == 3) with
            | false =>
              have hk3' : (xe.k != 3) = true := by simp [bne, hk3]
              go_wp2_with fail
              go_roundw
              case rel => exact ⟨k + 1, by omega, by go_num, _, _, _, _, _, _, _, _, _, _, _, _, _, HSF.out⟩
              case measure => simp [intOf]; omega
            | true =>
              have hk3' : (xe.k != 3) = false := by simp [bne, hk3]
              have hxn : 1 ≤ xe.n := by
                have := HV5.out
                have hk4 : xe.k = 3 := by simpa using hk3
                unfold validElem at this
                rw [hk4] at this
                simp [withinB] at this
                omega
              have hnt := HSF.out.notes18 (by omega) h1 h2 xe.n hxn
              have HNT := Lib.hid hnt
              clear hnt hxn
              go_wp2_with (first
                | (go_at_call 18; refine HNT.out.mono ?_; rintro e w7 ⟨hb7, hcase⟩; have HB7 := Lib.hid hb7; clear hb7; rcases hcase with rfl | ⟨qa, qm, qc, rfl⟩ | ⟨qa, qm, qc, pa, pm, pc, rfl, hlk7, hc19⟩)
                | (go_at_call 19; refine hc19.mono ?_; rintro e w8 ⟨rfl, hb8⟩; have HB8 := Lib.hid (HB7.out.trans (hb8.mono HB7.out.size)); clear HB7 hb8; have HB7 := HB8; clear HB8))
              all_goals
                go_roundw
                case rel => exact ⟨k + 1, by omega, by go_num, _, _, _, _, _, _, _, _, _, _, _, _, _, HSF.out.next HB7.out⟩
                case measure => simp [intOf]; omega
    · go_wp2_with fail
      go_ret
      exact ⟨rfl, HBW.out⟩
end walks
end Go.Proofs.Ytdnkfgnjeibjeaa.W
