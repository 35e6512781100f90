import Derived.Test.YtdnkfgnjeibjeaaKB
namespace Go.Proofs.Ytdnkfgnjeibjeaa.W
open Go.RowKit Go.Shelf

theorem f12_g (w : World) (n : Nat) (al : Bool) (h1 : 1 ≤ n) (h2 : n ≤ 200) :
    Calls Try.prog 12 #[.int .i64 n, .bool al] w fun e w' => ∃ G F, e = .returned (.tuple #[.pointer (some ⟨G, 0, none⟩), .int .i64 0]) ∧ GW w' NoB F G (Gm.new n al) [] ∧ (∀ b, F b → w.heap.size ≤ b) ∧ Below w.heap.size w w' := by
  cases al with
  | true =>
    refine (f12_ok w n true h1 h2).mono ?_
    rintro e w' ⟨he, v, ib, hN⟩
    obtain ⟨gs, hG, hg, ho⟩ := hN.gate h1 h2 NoB (fun b hb => hb.elim)
    exact ⟨_, gs.own n, he, .inl ⟨rfl, rfl, gs, hg, hG, fun b => Iff.rfl⟩, ho, hN.below⟩
  | false =>
    refine (f12_f w n h1 h2).mono ?_
    rintro e w' ⟨G, he, gs, hg, hG, ho, hb⟩
    exact ⟨G, fown gs n [], he, .inr ⟨rfl, gs, [], hg, rfl, hG, fun b => Iff.rfl⟩, ho, hb⟩

section walks
set_option maxHeartbeats 2000000
set_option maxRecDepth 100000

theorem f5_main (w : World) (n : Nat) (al : Bool) (v : Value) (l : List ActV) (D : Nat → Prop) (h : ActsAt w D v l) (hm : manyA l = false) (h1 : 1 ≤ n) (h2 : n ≤ 200) :
    Calls Try.prog 5 #[.int .i64 n, .bool al, v] w fun e w' => e = .returned (.bool true) ∧ Below w.heap.size w w' := by
  have hM := fun (W : World) (hb : Below w.heap.size w W) => f11_any W v l D (h.below hb)
  have hA := fun (W : World) (hb : Below w.heap.size w W) => h.below hb
  rw [hm] at hM
  have HM := Lib.hid hM
  have HA := Lib.hid hA
  have hlen := manyA_len hm
  obtain ⟨a, c, rfl, hl, hx⟩ := h
  clear hM hA hx
  obtain ⟨i2, hi2, hz20, hz21, hz22⟩ := info_parts info49
  have hmk : ∀ W : World, (Instr.makeSlice 47 (.int .i64 n) (.int .i64 n)).run Try.prog W = .ok (.slice (some ⟨W.heap.size, 0, none⟩) n n) (W.alloc (.cells (madeCells #[.slice none 0 0] n) 49)) := fun W => by
    have := run_make (P := Try.prog) W 47 49 i2 (.slice none 0 0) Try.underlying47 hi2 hz20 .i64 .i64 n n (by omega) (Int.le_refl _) (by rw [hz22]; omega) (by omega)
    rw [hz21] at this
    simpa [Value.cells] using this
  obtain ⟨i0, hi0, hz0, hz1, hz2⟩ := info_parts info3
  obtain ⟨k1, hk1, hz10, hz11, hz12⟩ := info_parts info34
  go_enter Try.func5, Try.ntmps5
  go_wp2_with (first
    | (go_at_call 10; refine (f10_any _).mono ?_; rintro e w1 ⟨rfl, hb1⟩; have HB1 := Lib.hid hb1; clear hb1)
    | (go_at_call 11; refine (HM.out _ HB1.out).mono ?_; rintro e w2 ⟨rfl, hb2⟩; have HB2 := Lib.hid (HB1.out.trans (hb2.mono HB1.out.size)); clear hb2)
    | (go_at_call 12; refine (f12_g _ n al h1 h2).mono ?_; rintro e w3 ⟨G, F, rfl, hgw, hF3, hb3⟩; have HGW := Lib.hid hgw; have HF3 := Lib.hid hF3; have HB3 := Lib.hid hb3; clear hgw hF3 hb3)
    | (go_at_call 20; refine (f20_any w2 w3 h1 h2 HGW.out HF3.out HB3.out _ l D (HA.out w2 HB2.out) hm).mono ?_; rintro e w4 ⟨ov, rfl, col4, D4, F4, m4, N4, us4, ev4, qb4, outs, oblk, ins, hS, hsh⟩; obtain ⟨oa, oc, rfl⟩ := hS.n5.out.form; have hol := hS.len; have HS := Lib.hid hS; have HSH := Lib.hid hsh; clear hS hsh))
  have hE0 : (outE' outs).length = outs.length := by simp [outE']
  have hat : ∀ j (h : j < outs.length), (outE' outs)[j]'(by omega) = (outs[j].1, outs[j].2.1) := fun j h => by simp [outE']
  have HAT := Lib.hid hat
  have hrng : ∀ j (h : j < outs.length), outs[j].1 < n := fun j h => by
    have h3 := HS.out.qi.rng (outs[j].1, outs[j].2.1) (by rw [← HAT.out j h]; exact List.getElem_mem _)
    rw [HS.out.n5.hn] at h3
    exact h3
  have HRNG := Lib.hid hrng
  clear hat hrng
  go_loopw [12, 13] (fun s i wr => ∃ (j : Nat) (us2 : Nat → Value) (ev2 : Nat → List EV) (qb2 : Nat → Option Nat) (bblk : Option Nat), j ≤ outs.length ∧ i = .int .i64 j ∧ N6 w4 wr n w4.heap.size us2 ev2 qb2 s (bnO ((outE' outs).take j)) bblk ∧ ∀ i, i < n → eL (ev2 i) = psO i ((outE' outs).take j)) (fun _ i _ => outs.length - (intOf i).toNat)
  case atStart => exact ⟨0, _, _, _, _, Nat.zero_le _, rfl, N6.start w4 n (by omega), fun i hi => rfl⟩
  case round =>
    obtain ⟨j, us2, ev2, qb2, bblk, hj, rfl, hN, he2⟩ := hrel
    have hbl := bnO_len ((outE' outs).take j)
    rw [List.length_take] at hbl
    obtain ⟨sa, sc, rfl⟩ := hN.bar.form
    have HN := Lib.hid hN
    have HE2 := Lib.hid he2
    clear hN he2
    by_cases hlt : j < outs.length
    · have hSr := HS.out.next HN.out.bl
      obtain ⟨og, oo, ocp, hov, hob, x0, x1, x2, x3, x4, x5⟩ := outs57_at hSr.n5.out hlt
      have hrr := hSr.n5.rows _ (List.getElem_mem hlt)
      injection hov with hov _ hoc
      subst hov hoc
      have hogl := HS.out.n5.out.lt_of hob
      have hoi := HRNG.out j hlt
      have hbt := bnO_take (O := outE' outs) (j := j) (by omega)
      have hpt := fun i => psO_take (i := i) (O := outE' outs) (j := j) (by omega)
      have hfr := bnO_fresh (O := outE' outs) HS.out.qi.inc (j := j) (by omega)
      rw [HAT.out j hlt] at hbt hpt hfr
      have hDl : ∀ b, D4 b → b < w4.heap.size := HS.out.n5.hD
      have HBT := Lib.hid hbt
      have HPT := Lib.hid hpt
      have HFR := Lib.hid hfr
      clear hbt hpt hfr hSr
      have j1 : (0 : Int) ≤ (j : Int) := by omega
      have j2 : (j : Int) < (outs.length : Int) := by omega
      generalize outs[j] = y at *
      obtain ⟨oi, oe, orow⟩ := y
      dsimp only at x0 x1 x2 x3 x4 x5 hrr hoi HBT HPT HFR
      obtain ⟨ta, tn, tc, rfl⟩ : ∃ a n c, orow = .slice a n c := by obtain ⟨a, c, h, _⟩ := hrr; exact ⟨a, _, c, h⟩
      have hr4 := hrr.imp (D' := fun b => b < w4.heap.size) (fun b _ hb => hDl b hb)
      have HRR := Lib.hid hr4
      clear hrr hDl hr4
      have i0' : (0 : Int) ≤ (oi : Int) := by omega
      have i1 : ¬ (oi : Int) < 0 := by omega
      have i2' : ¬ (oi : Int) ≥ (n : Int) := by omega
      have i3 : (oi : Int) < (n : Int) := by omega
      cases hk3 : (oe.k == 3) with
      | true =>
        have hc21 := fun (W : World) (hb : Below wr.heap.size wr W) => f21_any W _ _ _ (HN.out.next hb).bar (by omega) oe.n
        rw [HFR.out hk3] at hc21
        have HC21 := Lib.hid hc21
        clear hc21
        go_wp2_with (first
          | (go_at_call 21; refine (HC21.out _ (Below.refl _ _)).mono ?_; rintro e w5 ⟨rfl, rfl⟩)
          | (at_builtin; refine wpList_append_S rfl (.tmp 74) (.tmp 81) 56 rfl 3 i0 _ 1 8 Try.underlying56 hi0 hz0 hz1 hz2 rfl (by omega) (.slice sa (bnO ((outE' outs).take j)).length sc) (bnO ((outE' outs).take j)).length ((bnO ((outE' outs).take j)).map (Value.int .i64)) bblk rfl (HN.out.bar.keep fun g hg => Below.heap_alloc _ _ _ (HN.out.bar.lt_of hg)) _ 1 [.int .i64 oe.n] rfl (int_src _ _) (fun u hu => by rw [List.mem_singleton] at hu; subst hu; rfl) (by simp only [maxLen]; omega) (by omega) ?_; intro v7 w7 bk7 hown7 hgrow7 hat7; have HN7 := Lib.hid (HN.out.barrier hown7 hgrow7 hat7); clear hown7 hgrow7 hat7))
        go_roundw
        case rel =>
          refine ⟨j + 1, us2, ev2, qb2, bk7, by omega, by go_num, ?_, fun i hi => ?_⟩
          · rw [HBT.out, hk3, if_pos rfl]; exact HN7.out
          · rw [HPT.out i, HE2.out i hi]
            have : plainE oe = false := by unfold plainE; rw [hk3]; rfl
            simp [this]
        case measure => simp [intOf]; omega
      | false =>
        have hplain : plainE oe = true := by unfold plainE; rw [hk3]; rfl
        go_wp2_with fail
        obtain ⟨pa2, pc2, hus2⟩ := (HN.out.got.own oi hoi).form
        obtain ⟨z0, zBf, zBl⟩ := HN.out.got.cellB hoi
        rw [hus2, Nat.zero_add] at z0
        have hqB : qb2 oi ≠ some w4.heap.size := fun e => (HN.out.got.qbB hoi e).1 rfl
        have hqg : qb2 oi ≠ some og := fun e => by
          have e1 := HN.out.new og (.inr ⟨oi, hoi, e⟩)
          omega
        have hgl : og < wr.heap.size := Nat.lt_of_lt_of_le hogl HN.out.bl.size
        have hel2 : (ev2 oi).length ≤ 1000 := by
          have h3 := congrArg List.length (HE2.out oi hoi)
          have h4 := psO_len oi ((outE' outs).take j)
          rw [List.length_take] at h4
          simp only [eL, List.length_map] at h3
          omega
        have hs0 : SlOwn (wr.alloc (Obj.cells #[.int .i64 oe.k, .int .i64 oe.n, .int .i64 oe.t, .slice ta tn tc, .int .i64 oe.c] 34)).drew 34 5 (.slice pa2 (ev2 oi).length pc2) (ev2 oi).length ((ev2 oi).flatMap ecl) (qb2 oi) := by
          rw [← hus2]
          exact (HN.out.got.own oi hoi).keep fun g hg => Below.heap_alloc wr _ g (HN.out.got.qbB hoi hg).2
        have hs1 : Src (wr.alloc (Obj.cells #[.int .i64 oe.k, .int .i64 oe.n, .int .i64 oe.t, .slice ta tn tc, .int .i64 oe.c] 34)).drew 5 (.slice (some ⟨wr.heap.size, 0, none⟩) 1 1) 1 (ecl (oe, .slice ta tn tc)) := SlOwn.src (e := 34) (blk := some wr.heap.size) ⟨rfl, .inr ⟨_, 0, 1, _, rfl, rfl, World.alloc_heap_new wr (Obj.cells #[.int .i64 oe.k, .int .i64 oe.n, .int .i64 oe.t, .slice ta tn tc, .int .i64 oe.c] 34), Nat.le_refl _, by simp [maxLen], by simp, rfl⟩⟩
        have hone : ∀ u ∈ ecl (oe, Value.slice ta tn tc), u.oneCell' = true := fun u hu => by simp only [ecl, List.mem_cons, List.not_mem_nil, or_false] at hu; rcases hu with rfl | rfl | rfl | rfl | rfl <;> rfl
        have HS0 := Lib.hid hs0
        have HS1 := Lib.hid hs1
        have HONE2 := Lib.hid hone
        clear hus2 hs0 hs1 hone
        have hC0 : Only (fun b => qb2 oi = some b) wr wr.drew := (Only.refl _ _).drew
        refine wp_region_float 19 2 (fun W => Only (fun b => qb2 oi = some b) wr W) (by kernel_rfl) (by kernel_rfl) hC0 ?_
        simp only [List.take_succ_cons, List.take_zero, List.drop_succ_cons, List.drop_zero]
        have HC0 := Lib.hid hC0
        clear hC0
        repeat (
          refine wpFloat_ex (fun K hK => ?_)
          apply Exists.intro
          refine ⟨fun W hW => ?_, ?_⟩
          · have hk := hW.cell
            clear hW
            go_simp
            rfl
          go_simp
          refine hK _ ?_
          clear hK K)
        refine wpFloat_nil ?_
        refine wpChain_step (fun K hK => ?_)
        go_simp
        refine hK _ _ rfl (fun _ => HC0.out.alloc _) ?_
        clear hK K
        refine wpChain_step (fun K hK => ?_)
        refine wp_append_S (.tmp 96) (.tmp 102) 49 rfl 34 k1 _ 5 56 Try.underlying49 hk1 hz10 hz11 hz12 rfl (by omega) (.slice pa2 (ev2 oi).length pc2) (ev2 oi).length ((ev2 oi).flatMap ecl) (qb2 oi) rfl HS0.out (.slice (some ⟨wr.heap.size, 0, none⟩) 1 1) 1 (ecl (oe, .slice ta tn tc)) rfl HS1.out HONE2.out (by simp only [maxLen]; omega) (by omega) ?_
        intro v7 w7 bk7 hown7 hgrow7 hat7
        obtain ⟨sa7, sc7, rfl⟩ := hown7.form
        have ho7 : Only (fun b => qb2 oi = some b) wr w7 := (HC0.out.alloc _).grown hgrow7 (fun q hq _ => hq)
        have hcB : w7.cell? ⟨w4.heap.size, oi, none⟩ = some (.slice pa2 (ev2 oi).length pc2) := (ho7.cell _ _ zBl hqB).trans z0
        have hB7 : w4.heap.size < w7.heap.size := Nat.lt_of_lt_of_le zBl ho7.size
        have hf7 : ∀ a, w7.frozen? ⟨w4.heap.size, a, none⟩ = false := by
          obtain ⟨cs, hcs⟩ := HN.out.got.heapB
          exact blk_frozen ((ho7.block _ zBl hqB).trans hcs)
        go_simp
        refine hK _ _ rfl (fun _ => ho7) ?_
        clear hK K
        have hN := HN.out.push hoi (p := (oe, .slice ta tn tc)) HRR.out (((Below.refl _ _).alloc (Nat.le_refl _) _).drew) hown7 hgrow7 hat7
        rw [Nat.zero_add] at hN
        have HN7 := Lib.hid hN
        clear hN hown7 hgrow7 hat7 ho7
        refine wpChain_step (fun K hK => ?_)
        go_simp
        refine hK _ _ rfl (fun h => absurd h (by decide)) ?_
        clear hK K
        refine wpChain_step (fun K hK => ?_)
        go_simp
        refine hK _ _ rfl (fun h => absurd h (by decide)) ?_
        clear hK K
        refine wpChain_nil ?_
        clear hcB hB7 hf7 HS0 HS1 HC0 z0 zBf zBl hqB hqg x0 x1 x2 x3 x4 x5
        go_wp2_with fail
        go_roundw
        case rel =>
          refine ⟨j + 1, (fun x => if x = oi then .slice sa7 ((ev2 oi).length + 1) sc7 else us2 x), (fun x => if x = oi then ev2 oi ++ [(oe, .slice ta tn tc)] else ev2 x), (fun x => if x = oi then bk7 else qb2 x), bblk, by omega, by go_num, ?_, fun q hq => ?_⟩
          · have e : bnO ((outE' outs).take (j + 1)) = bnO ((outE' outs).take j) := by
              rw [HBT.out, hk3, if_neg (by decide), List.append_nil]
            rw [e]
            exact HN7.out
          · rw [HPT.out q]
            dsimp only
            by_cases e : q = oi
            · subst e
              rw [if_pos rfl, if_pos rfl, eL_app, HE2.out q hq]
              simp [eL, hplain]
            · rw [if_neg e, if_neg (fun h => e h.symm), HE2.out q hq, List.append_nil]
        case measure => simp [intOf]; omega
    · have hje : j = outs.length := by omega
      have hlast := HS.out.qi.last HSH.out
      have hmn := HS.out.n5.hn
      have hcn : ∀ q, q < n → eL (ev2 q) = (ins q).filter plainE := fun q hq => by
        have e3 := hlast.2.2 q (by omega)
        rw [HE2.out q hq, e3, List.take_of_length_le (by omega)]
      have HCN := Lib.hid hcn
      have HLAST := Lib.hid hlast
      clear hcn hje hlast
      go_wp2_with fail
      obtain ⟨wo, rfl⟩ : ∃ wo : World, wo = wr := ⟨_, rfl⟩
      go_loopw [14] (fun i wx => ∃ q : Nat, q ≤ n ∧ i = .int .i64 q ∧ Below wo.heap.size wo wx) (fun i _ => n - (intOf i).toNat)
      case atStart => exact ⟨0, by omega, rfl, Below.refl _ _⟩
      case round =>
        obtain ⟨q, hq, rfl, hbo⟩ := hrel
        have HBO := Lib.hid hbo
        clear hbo
        by_cases hqt : q < n
        · have hN6 := HN.out.next HBO.out
          have hS6 := HS.out.next hN6.bl
          have hsz := HS.out.sz q hqt
          obtain ⟨y0, hYf, hYl⟩ := hS6.n5.inl.cellB hqt
          obtain ⟨z0, hBf, hBl⟩ := hN6.got.cellB hqt
          have hlen1 : (ev4 q).length ≤ 1000 := by
            have h3 := congrArg List.length (HS.out.e1 q hqt)
            simp only [eL, List.length_map] at h3
            omega
          have hlen2 : (ev2 q).length ≤ 1000 := by
            have h3 := congrArg List.length (HCN.out q hqt)
            have h4 := List.length_filter_le plainE (ins q)
            simp only [eL, List.length_map] at h3
            omega
          have hye := hS6.n5.inl.elems hqt (by omega)
          have hel0 := hN6.got.elems hqt (by omega)
          rw [HS.out.e1 q hqt] at hye
          obtain ⟨sa2, sc2, hus⟩ := (hN6.got.own q hqt).form
          rw [hus, Nat.zero_add] at z0
          rw [hus] at hel0
          obtain ⟨ua, uc, hus4⟩ := (hS6.n5.inl.own q hqt).form
          rw [hus4, Nat.zero_add] at y0
          rw [hus4] at hye
          have hl4 : (ev4 q).length = (ins q).length := by
            have h3 := congrArg List.length (HS.out.e1 q hqt)
            simpa only [eL, List.length_map] using h3
          rw [hl4] at y0 hye
          have HYE := Lib.hid hye
          have HEL0 := Lib.hid hel0
          have hqe := HCN.out q hqt
          have HQE := Lib.hid hqe
          have hqs : (ins q).length ≤ 1000 := by omega
          clear hye hel0 hus hus4 hqe hN6 hS6 hsz hl4
          obtain ⟨wb, rfl⟩ : ∃ wb : World, wb = wr := ⟨_, rfl⟩
          generalize ins q = E at *
          go_wp2_with fail
          go_loopw [15, 16] (fun s i wx => ∃ m : Nat, m ≤ E.length ∧ i = .int .i64 m ∧ ∃ es blk, UnbSt wb wx (fun b => b < wb.heap.size) s es blk ∧ es.map Prod.fst = (E.take m).filter plainE) (fun _ i _ => E.length - (intOf i).toNat)
          case atStart => exact ⟨0, Nat.zero_le _, rfl, [], none, ⟨⟨SlOwn.nil _ _ _, (fun p hp => by cases hp), by simp⟩, (fun g hg => by cases hg), Below.refl _ _⟩, rfl⟩
          case round =>
            obtain ⟨m, hm, rfl, es, blk, hS, hE⟩ := hrel
            obtain ⟨ta, tc, rfl⟩ := hS.at_.own.form
            have hle : es.length ≤ m := by
              have := congrArg List.length hE
              rw [List.length_map] at this
              have h2 := List.length_filter_le plainE (E.take m)
              rw [List.length_take] at h2
              omega
            have HE := Lib.hid hE
            have HSS := Lib.hid hS
            have hb := hS.below
            have y0' := (hb.cell (p := ⟨w3.heap.size, q, none⟩) hYl).trans y0
            have z0' := (hb.cell (p := ⟨w4.heap.size, q, none⟩) hBl).trans z0
            have hYl' : w3.heap.size < wr.heap.size := Nat.lt_of_lt_of_le hYl hb.size
            have hBl' : w4.heap.size < wr.heap.size := Nat.lt_of_lt_of_le hBl hb.size
            clear hE hS
            by_cases hmt : m < E.length
            · obtain ⟨b2, o2, ra, rn, rc, rfl, _, hb2, x0, x1, x2, x3, x4, xr⟩ := (HYE.out.below hb).at hmt
              have hev : (E.take (m + 1)).filter plainE = (E.take m).filter plainE ++ if plainE E[m] then [E[m]] else [] := by
                rw [List.take_succ_eq_append_getElem hmt, List.filter_append]
                cases hb : plainE E[m] <;> simp [hb]
              have HEV := Lib.hid hev
              have HXR := Lib.hid xr
              clear hev xr hb
              cases hbar : (E[m].k == 3)
              · have hbar' : (E[m].k != 3) = true := by simp [bne, hbar]
                have hp1 : ∀ u ∈ ecl (E[m], Value.slice ra rn rc), u.oneCell' = true := by
                  intro u hu
                  simp only [ecl, List.mem_cons, List.not_mem_nil, or_false] at hu
                  rcases hu with rfl | rfl | rfl | rfl | rfl <;> rfl
                have hs0 : SlOwn (wr.alloc (Obj.cells #[.int .i64 E[m].k, .int .i64 E[m].n, .int .i64 E[m].t, .slice ra rn rc, .int .i64 E[m].c] 34)) 34 5 (.slice ta es.length tc) es.length (es.flatMap ecl) blk := HSS.out.at_.own.keep fun g hg => Below.heap_alloc wr _ g (HSS.out.at_.own.lt_of hg)
                have hs1 : Src (wr.alloc (Obj.cells #[.int .i64 E[m].k, .int .i64 E[m].n, .int .i64 E[m].t, .slice ra rn rc, .int .i64 E[m].c] 34)) 5 (.slice (some ⟨wr.heap.size, 0, none⟩) 1 1) 1 (ecl (E[m], .slice ra rn rc)) := EvsAt.src1 wr (E[m], .slice ra rn rc)
                have HP1 := Lib.hid hp1
                have HS0 := Lib.hid hs0
                have HS1 := Lib.hid hs1
                clear hp1 hs0 hs1
                go_wp2_with (at_builtin; refine wpList_append_S rfl (.tmp 128) (.tmp 136) 49 rfl 34 k1 _ 5 56 Try.underlying49 hk1 hz10 hz11 hz12 rfl (by omega) (.slice ta es.length tc) es.length (es.flatMap ecl) blk rfl HS0.out (.slice (some ⟨wr.heap.size, 0, none⟩) 1 1) 1 (ecl (E[m], .slice ra rn rc)) rfl HS1.out HP1.out (by simp only [maxLen]; omega) (by omega) ?_; intro v8 w8 blk8 hown8 hgrow8 hat8; have HNS := Lib.hid (HSS.out.add (p := (E[m], .slice ra rn rc)) (fun _ h => h) HXR.out (by omega) hown8 hgrow8 hat8); obtain ⟨sa8, sc8, rfl⟩ := hown8.form; clear hown8 hgrow8 hat8)
                go_roundw
                case rel => exact ⟨m + 1, by omega, by go_num, _, _, HNS.out, by rw [HEV.out, List.map_append, HE.out]; simp [plainE, hbar]⟩
                case measure => simp [intOf]; omega
              · have hbar' : (E[m].k != 3) = false := by simp [bne, hbar]
                go_wp2_with fail
                go_roundw
                case rel => exact ⟨m + 1, by omega, by go_num, _, _, HSS.out, by rw [HEV.out, HE.out]; simp [plainE, hbar]⟩
                case measure => simp [intOf]; omega
            · have hml : m = E.length := by omega
              have hcall := f22_any wr (.slice sa2 (ev2 q).length sc2) (.slice ta es.length tc) (eL (ev2 q)) (es.map Prod.fst) _ _ (HEL0.out.below hb) (HSS.out.at_.elems (D' := fun _ => True) (fun _ _ => trivial) (fun _ _ => trivial))
              have hse : sameElems (eL (ev2 q)) (es.map Prod.fst) = true := by
                rw [HE.out, hml, List.take_of_length_le (Nat.le_refl _), HQE.out]
                exact sameElems_self _
              rw [hse] at hcall
              have HCL := Lib.hid hcall
              have HB8 := Lib.hid hb
              clear hcall hse hml hb
              go_wp2_with (go_at_call 22; refine HCL.out.mono ?_; rintro e w9 ⟨rfl, hb9⟩; have HB9 := Lib.hid (HBO.out.trans ((HB8.out.trans (hb9.mono HB8.out.size)).mono HBO.out.size)); clear hb9)
              go_roundw
              case rel => exact ⟨q + 1, by omega, by go_num, HB9.out⟩
              case measure => simp [intOf]; omega
        · have hb4 : Below w4.heap.size w4 wr := HN.out.bl.trans (HBO.out.mono HN.out.bl.size)
          have hg4 := HS.out.n5.gate.below hb4
          have hc23 := f23_g wr hg4
          have hc24 := f24_g wr hg4
          rw [HLAST.out.1] at hc23
          rw [idx_nil HLAST.out.2.1] at hc24
          have HC23 := Lib.hid hc23
          have HC24 := Lib.hid hc24
          have hbw : Below w.heap.size w wr := HB2.out.trans ((HS.out.n5.bl.trans (hb4.mono HS.out.n5.bl.size)).mono HB2.out.size)
          have HBW := Lib.hid hbw
          clear hb4 hg4 hc23 hc24 hbw
          go_wp2_with (first
            | (go_at_call 23; refine HC23.out.mono ?_; rintro e w8 ⟨rfl, rfl⟩)
            | (go_at_call 24; refine HC24.out.mono ?_; rintro e w9 ⟨v9, blk9, rfl, hI9⟩; obtain ⟨na, nc, rfl⟩ := hI9.own.form; have HI9 := Lib.hid hI9.below; clear hI9))
          go_ret
          exact ⟨rfl, HBW.out.trans (HI9.out.mono HBW.out.size)⟩
end walks
end Go.Proofs.Ytdnkfgnjeibjeaa.W
