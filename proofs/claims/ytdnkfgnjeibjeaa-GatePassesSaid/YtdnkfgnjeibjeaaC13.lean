import Derived.Test.YtdnkfgnjeibjeaaMH
import Derived.Test.YtdnkfgnjeibjeaaMD
namespace Go.Proofs.Ytdnkfgnjeibjeaa
open Go.RowKit

theorem blk6 {W : World} {b : Nat} {v0 v1 v2 v3 v4 v5 : Value} {t : TypeId} (h : W.heap[b]? = some (.cells #[v0, v1, v2, v3, v4, v5] t (0, 0))) :
    W.cell? ⟨b, 0, none⟩ = some v0 ∧ W.cell? ⟨b, 1, none⟩ = some v1 ∧ W.cell? ⟨b, 2, none⟩ = some v2 ∧ W.cell? ⟨b, 3, none⟩ = some v3 ∧ W.cell? ⟨b, 4, none⟩ = some v4 ∧ W.cell? ⟨b, 5, none⟩ = some v5 := by
  refine ⟨?_, ?_, ?_, ?_, ?_, ?_⟩ <;> rw [cell_of_row W b _ _ t (0, 0) h] <;> rfl

theorem AllSt.frB {wr w2 : World} {n B i : Nat} {us : Nat → Value} {evs : Nat → List EV} {qb : Nat → Option Nat} {D : Nat → Prop} {o : Obj} (h : AllSt wr n B us evs qb D) (hi : i < n) (hg : (wr.alloc o).drew.grownBy w2 (qb i)) : ∀ off, w2.frozen? ⟨B, off, none⟩ = false := by
  obtain ⟨cs, hc, _⟩ := h.arr
  have hl := heap_lt hc
  have : w2.heap[B]? = some (.cells cs 49 (0, 0)) := (hg.block B (by show B < (wr.alloc o).heap.size; simp; omega) (fun e => (h.qbB hi e.symm).1 rfl)).trans ((Below.heap_alloc wr o B hl).trans hc)
  exact blk_frozen this

theorem AllSt.ltB {wr w2 : World} {n B : Nat} {us : Nat → Value} {evs : Nat → List EV} {qb : Nat → Option Nat} {D : Nat → Prop} {o : Obj} {r : Option Nat} (h : AllSt wr n B us evs qb D) (hg : (wr.alloc o).drew.grownBy w2 r) : B < w2.heap.size := by
  obtain ⟨cs, hc, _⟩ := h.arr
  have hl := heap_lt hc
  have := hg.size
  have e : (wr.alloc o).drew.heap.size = wr.heap.size + 1 := by show (wr.alloc o).heap.size = _; simp
  omega

theorem Only.cell {S : Nat → Prop} {w w' : World} (h : Only S w w') (b o : Nat) (hb : b < w.heap.size) (hn : ¬ S b) : w'.cell? ⟨b, o, none⟩ = w.cell? ⟨b, o, none⟩ := World.cell?_of_block (a := ⟨b, o, none⟩) (h.block b hb hn)

theorem CutTo.zero {w w' : World} {ll : List (List Elem)} {k : Int} {e : Ending} (h : CutTo w ll k e w') (h0 : cutErr ll k = 0) :
    ∃ a c, e = .returned (.tuple #[.slice a ll.length c, .int .i64 0]) ∧ ListsAt w' (fun _ => True) (.slice a (ll.map (cutAt k)).length c) (ll.map (cutAt k)) ∧ Below w.heap.size w w' := by
  obtain ⟨v, he, hv, hb⟩ := h
  rw [h0] at he
  rw [h0, if_pos rfl] at hv
  obtain ⟨a, c, rfl, _⟩ := hv.form
  exact ⟨a, c, by rw [he, List.length_map], hv, hb⟩

theorem ElemsAt.imp {w : World} {D D' : Nat → Prop} {v : Value} {l : List Elem} (h : ElemsAt w D v l) (hd : ∀ b, b < w.heap.size → D b → D' b) : ElemsAt w D' v l := by
  obtain ⟨a, cap, hv, hl, hx⟩ := h
  refine ⟨a, cap, hv, hl, ?_⟩
  rcases hx with hx | ⟨b, off, ha, hDb, hc⟩
  · exact .inl hx
  · refine (Nat.eq_zero_or_pos l.length).elim (fun h0 => .inl (List.eq_nil_of_length_eq_zero h0)) fun h0 => ?_
    obtain ⟨_, h1, _⟩ := hc 0 h0
    refine .inr ⟨b, off, ha, hd b (cell_lt h1) hDb, fun i hi => ?_⟩
    obtain ⟨r, c0, c1, c2, c3, c4, hr⟩ := hc i hi
    exact ⟨r, c0, c1, c2, c3, c4, hr.imp hd⟩

section leaves
set_option maxHeartbeats 1000000
set_option maxRecDepth 100000

theorem f34_any (w : World) (v vp : Value) (ll : List (List Elem)) (k : Int) (l : List (Int × Elem)) (D D2 : Nat → Prop) (h : ListsAt w D v ll) (hsm : smallLL ll) (hp : OutsAt w D2 vp l) (hD2 : ∀ b, D2 b → b < w.heap.size) (hcp : CapOk vp) (hpl : l.length ≤ 1000000) :
    Calls Try.prog 34 #[v, .int .i64 k, vp] w fun e w' => e = .returned (.bool (consWith samePs ll k l)) ∧ Below w.heap.size w w' := by
  have H := Lib.hid h
  have HP := Lib.hid hp
  have HD2 := Lib.hid hD2
  have HSM := Lib.hid hsm
  have hb0 : Below w.heap.size w (w.alloc (Obj.cells #[.int .i64 k] 3)) := (Below.refl _ _).alloc (Nat.le_refl _) _
  have hC := f35_any (w.alloc (Obj.cells #[.int .i64 k] 3)) v ll k D (h.below hb0) hsm
  obtain ⟨va, vc, rfl, hl⟩ := h.form
  obtain ⟨pa, pc, rfl, hpl'⟩ := hp.form
  have hpc := hcp _ _ _ rfl
  have HC := Lib.hid hC
  have HB0 := Lib.hid hb0
  have hbox : ∀ W : World, Below (w.alloc (Obj.cells #[.int .i64 k] 3)).heap.size (w.alloc (Obj.cells #[.int .i64 k] 3)) W → W.heap[w.heap.size]? = some (.cells #[.int .i64 k] 3 (0, 0)) := fun W hW => (hW.block _ (by simp)).trans (World.alloc_heap_new _ _)
  have HBOX := Lib.hid hbox
  clear h hp hsm hC hb0 hbox hcp hD2
  have hce : cutErr ll k = 0 ∨ (cutErr ll k != 0) = true := by
    by_cases e : cutErr ll k = 0
    · exact .inl e
    · exact .inr (by simpa using e)
  rcases hce with h0 | h0
  · have H0 := Lib.hid h0
    have hl200 := (cutErr_zero h0).2.1
    have hC := fun (P : Prop) (hP : P) => HC.out.mono fun e w' hc => (show _ from hc.zero h0)
    have HC := Lib.hid (hC True trivial)
    clear h0 hC
    rcases outIdx_cases k l with ⟨hi, ha⟩ | ⟨e, he, hi, hb, hc⟩
    · have hres : consWith samePs ll k l = false := consWith_none ha
      rw [hres]
      clear hres ha
      have hF := fun (W : World) (hW : Below (w.alloc (Obj.cells #[.int .i64 k] 3)).heap.size (w.alloc (Obj.cells #[.int .i64 k] 3)) W) => f57_any W _ l D2 (HP.out.below (HB0.out.trans (hW.mono HB0.out.size))) w.heap.size k (HBOX.out W hW)
      rw [hi] at hF
      have HF := Lib.hid hF
      clear hF hi
      go_enter Try.func34, Try.ntmps34
      go_wp2_with (first
        | (go_at_call 35; refine HC.out.mono ?_; rintro e w1 ⟨va1, vc1, rfl, hv1, hb1⟩; have HB1 := Lib.hid hb1; clear hv1 hb1)
        | (go_at_call 57; refine (HF.out w1 HB1.out).mono ?_; rintro e w2 ⟨rfl, hb2⟩; have HB2 := Lib.hid hb2; clear hb2))
      go_ret
      exact ⟨rfl, HB0.out.trans ((HB1.out.trans (HB2.out.mono HB1.out.size)).mono HB0.out.size)⟩
    · have hres := consWith_some (eq := samePs) H0.out he hb hc
      have HRES := Lib.hid hres
      obtain ⟨pb, po, _, _, _, rfl, _⟩ := HP.out.at he
      have hF := fun (W : World) (hW : Below (w.alloc (Obj.cells #[.int .i64 k] 3)).heap.size (w.alloc (Obj.cells #[.int .i64 k] 3)) W) => f57_any W _ l D2 (HP.out.below (HB0.out.trans (hW.mono HB0.out.size))) w.heap.size k (HBOX.out W hW)
      rw [hi] at hF
      have HF := Lib.hid hF
      clear hF hi hres hb hc
      obtain ⟨i1, hi1, hz10, hz11, hz12⟩ := info_parts info34
      obtain ⟨i2, hi2, hz20, hz21, hz22⟩ := info_parts info49
      have hmk : ∀ W : World, (Instr.makeSlice 47 (.int .i64 ll.length) (.int .i64 ll.length)).run Try.prog W = .ok (.slice (some ⟨W.heap.size, 0, none⟩) ll.length ll.length) (W.alloc (.cells (madeCells #[.slice none 0 0] ll.length) 49)) := fun W => by
        have := run_make (P := Try.prog) W 47 49 i2 (.slice none 0 0) Try.underlying47 hi2 hz20 .i64 .i64 ll.length ll.length (by omega) (Int.le_refl _) (by rw [hz22]; omega) (by omega)
        rw [hz21] at this
        simpa [Value.cells] using this
      have hed : decide ((e : Int) < 0) = false := by simp
      go_enter Try.func34, Try.ntmps34
      go_wp2_with (first
        | (go_at_call 35; refine HC.out.mono ?_; rintro e w1 ⟨va1, vc1, rfl, hv1, hb1⟩; have HV1 := Lib.hid hv1; have HB1 := Lib.hid hb1; clear hv1 hb1)
        | (go_at_call 57; refine (HF.out w1 HB1.out).mono ?_; rintro e w2 ⟨rfl, hb2⟩; have HB2 := Lib.hid hb2; clear hb2))
      have hst := ConsSt.start w2 ll.length (fun _ => true)
      have HST := Lib.hid hst
      clear hst
      have hbw2 : Below w.heap.size w w2 := HB0.out.trans ((HB1.out.trans (HB2.out.mono HB1.out.size)).mono HB0.out.size)
      have HBW2 := Lib.hid hbw2
      clear hbw2
      go_loopw [37] (fun i wr => ∃ (j : Nat) (us : Nat → Value) (evs : Nat → List EV) (qb : Nat → Option Nat), j ≤ e ∧ i = .int .i64 j ∧ ConsSt w2 wr ll.length w2.heap.size us evs qb (l.take j) (fun _ => true) ∧ (l.take j).all (okOut ll.length) = true) (fun i _ => e - (intOf i).toNat)
      case atStart => exact ⟨0, _, _, _, Nat.zero_le _, rfl, HST.out, rfl⟩
      case round =>
        obtain ⟨j, us, evs, qb, hj, rfl, hS, hok⟩ := hrel
        have HS := Lib.hid hS
        have HOK := Lib.hid hok
        have hbw := HBW2.out.trans (hS.below.mono HBW2.out.size)
        have HBW := Lib.hid hbw
        clear hok
        by_cases hlt : j < e
        · have hjl : j < l.length := by omega
          obtain ⟨_, o, ra, rn, rc, hpb, _, hbx, x0, x1, x2, x3, x4, x5, xr⟩ := (HP.out.below hbw).at hjl
          injection hpb with hpb
          injection hpb with hpb hpo _
          subst hpb hpo
          have hsucc : l.take (j + 1) = l.take j ++ [l[j]] := List.take_succ_eq_append_getElem hjl
          have hmem : l[j] ∈ l.take e := List.mem_iff_getElem.2 ⟨j, by simp; omega, by simp⟩
          have hno := fun (h : okOut ll.length l[j] = false) => (show consWith samePs ll k l = false from by
            rw [HRES.out, List.all_eq_false.2 ⟨l[j], hmem, by rw [h]; decide⟩, Bool.false_and])
          have HNO := Lib.hid hno
          have HSUC := Lib.hid hsucc
          have HXR := Lib.hid xr
          clear hS hbw hsucc hmem hno xr
          generalize l[j] = oo at x0 x1 x2 x3 x4 x5 HXR HSUC HNO
          obtain ⟨oi, x⟩ := oo
          dsimp only at x0 x1 x2 x3 x4 x5
          have hbox : Below wr.heap.size wr (wr.alloc (Obj.cells #[.int .i64 oi, .int .i64 x.k, .int .i64 x.n, .int .i64 x.t, .slice ra rn rc, .int .i64 x.c] 44)) := (Below.refl _ _).alloc (Nat.le_refl _) _
          have HBX := Lib.hid hbox
          have hend : ∀ W : World, Below wr.heap.size wr W → Below w.heap.size w W := fun W hW => HBW.out.trans (hW.mono HBW.out.size)
          have HEND := Lib.hid hend
          clear hbox hend
          by_cases c1 : oi < 0
          · have hr := HNO.out (by have : ¬ 0 ≤ oi := by omega
                                   simp [okOut, this])
            have HR := Lib.hid hr
            clear hr
            go_wp2
            go_ret
            exact ⟨ret_bool HR.out.symm, HEND.out _ HBX.out⟩
          · by_cases c2 : (ll.length : Int) ≤ oi
            · have hr := HNO.out (by have : ¬ oi < (ll.length : Int) := by omega
                                     simp [okOut, this])
              have HR := Lib.hid hr
              have c2' : oi ≥ (ll.length : Int) := c2
              clear hr
              go_wp2
              go_ret
              exact ⟨ret_bool HR.out.symm, HEND.out _ HBX.out⟩
            · obtain ⟨i, rfl⟩ : ∃ i : Nat, oi = i := ⟨oi.toNat, by omega⟩
              have hin : i < ll.length := by omega
              have hV := f40_any x (.slice ra rn rc) (wr.alloc (Obj.cells #[.int .i64 (i : Int), .int .i64 x.k, .int .i64 x.n, .int .i64 x.t, .slice ra rn rc, .int .i64 x.c] 44)) D2 (HXR.out.below HBX.out)
              have c2' : ¬ (i : Int) ≥ (ll.length : Int) := c2
              cases hval : validElem x <;> rw [hval] at hV
              · have hr := HNO.out (by simp [okOut, hval])
                have HR := Lib.hid hr
                have HV := Lib.hid hV
                clear hr hV
                go_wp2_with (go_at_call 40; refine HV.out.mono ?_; rintro e w3 ⟨rfl, hb3⟩; have HB3 := Lib.hid (HBX.out.trans (hb3.mono HBX.out.size)); clear hb3)
                go_ret
                exact ⟨ret_bool HR.out.symm, HEND.out _ HB3.out⟩
              · have HV := Lib.hid hV
                clear hV HNO
                go_wp2_with (go_at_call 40; refine HV.out.mono ?_; rintro e w3 ⟨rfl, hb3⟩; have HB3 := Lib.hid (HBX.out.trans (hb3.mono HBX.out.size)); have HX3 := Lib.hid ((hb3.block wr.heap.size (by simp)).trans (World.alloc_heap_new _ _)); clear hb3)
                have HS3 := Lib.hid (HS.out.next HB3.out)
                obtain ⟨sa, sc, hus, y0, hBl, hqB, hBf⟩ := HS3.out.at hin
                obtain ⟨z0, z1, z2, z3, z4, z5⟩ := blk6 HX3.out
                have hXl := heap_lt HX3.out
                have HUS := Lib.hid hus
                have HQB := Lib.hid hqB
                clear hus hqB
                have hqX : qb i ≠ some wr.heap.size := fun e' => by have := (HS.out.all.qbB hin e').2; omega
                have hs0 : SlOwn (w3.alloc (Obj.cells #[.int .i64 x.k, .int .i64 x.n, .int .i64 x.t, .slice ra rn rc, .int .i64 x.c] 34)).drew 34 5 (.slice sa (evs i).length sc) (evs i).length ((evs i).flatMap ecl) (qb i) := by
                  rw [← HUS.out]
                  exact (HS3.out.all.own i hin).keep fun g hg => Below.heap_alloc w3 _ g (HS3.out.all.qbB hin hg).2
                have hs1 : Src (w3.alloc (Obj.cells #[.int .i64 x.k, .int .i64 x.n, .int .i64 x.t, .slice ra rn rc, .int .i64 x.c] 34)).drew 5 (.slice (some ⟨w3.heap.size, 0, none⟩) 1 1) 1 (ecl (x, .slice ra rn rc)) := SlOwn.src (e := 34) (blk := some w3.heap.size) ⟨rfl, .inr ⟨_, 0, 1, _, rfl, rfl, World.alloc_heap_new w3 (Obj.cells #[.int .i64 x.k, .int .i64 x.n, .int .i64 x.t, .slice ra rn rc, .int .i64 x.c] 34), Nat.le_refl _, by simp [maxLen], by simp, rfl⟩⟩
                have hone : ∀ u ∈ ecl (x, Value.slice ra rn rc), u.oneCell' = true := fun u hu => by simp only [ecl, List.mem_cons, List.not_mem_nil, or_false] at hu; rcases hu with rfl | rfl | rfl | rfl | rfl <;> rfl
                have hlen := HS3.out.len i hin
                rw [List.length_take] at hlen
                have HS0 := Lib.hid hs0
                have HS1 := Lib.hid hs1
                have HONE := Lib.hid hone
                have hx0 : wr.heap.size < w3.heap.size := hXl
                clear hs0 hs1 hone x0 x1 x2 x3 x4 x5
                have hi0 : (0 : Int) ≤ (i : Int) := by omega
                have hi1' : (i : Int) < (ll.length : Int) := by omega
                have hC0 : Only (fun b => qb i = some b) w3 w3.drew := (Only.refl _ _).drew
                refine wp_region_float 10 2 (fun W => Only (fun b => qb i = some b) w3 W) (by kernel_rfl) (by kernel_rfl) hC0 ?_
                simp only [List.take_succ_cons, List.take_zero, List.drop_succ_cons, List.drop_zero]
                have HC0 := Lib.hid hC0
                clear hC0
                have hXq : qb i ≠ some wr.heap.size := hqX
                have hBq := HQB.out
                repeat (
                  refine wpFloat_ex (fun K hK => ?_)
                  apply Exists.intro
                  refine ⟨fun W hW => ?_, ?_⟩
                  · have hk := hW.cell
                    clear hW
                    go_simp
                    rfl
                  go_simp
                  refine hK _ ?_
                  clear hK K)
                refine wpFloat_nil ?_
                refine wpChain_step (fun K hK => ?_)
                go_simp
                refine hK _ _ rfl (fun _ => HC0.out.alloc _) ?_
                clear hK K
                refine wpChain_step (fun K hK => ?_)
                refine wp_append_S (.tmp 64) (.tmp 67) 49 rfl 34 i1 _ 5 56 Try.underlying49 hi1 hz10 hz11 hz12 rfl (by omega) (.slice sa (evs i).length sc) (evs i).length ((evs i).flatMap ecl) (qb i) rfl HS0.out (.slice (some ⟨w3.heap.size, 0, none⟩) 1 1) 1 (ecl (x, .slice ra rn rc)) rfl HS1.out HONE.out (by simp only [maxLen]; omega) (by omega) ?_
                intro v4 w4 bk4 hown4 hgrow hat4
                obtain ⟨sa4, sc4, rfl⟩ := hown4.form
                have hf4 := HS3.out.all.frB hin hgrow
                have hB4 : w2.heap.size < w4.heap.size := HS3.out.all.ltB hgrow
                have hcB : w4.cell? ⟨w2.heap.size, i, none⟩ = some (.slice sa (evs i).length sc) := ((HC0.out.alloc _).grown hgrow (fun q hq _ => hq)).cell _ _ hBl hBq |>.trans y0
                go_simp
                refine hK _ _ rfl (fun _ => (HC0.out.alloc _).grown hgrow (fun q hq _ => hq)) ?_
                clear hK K
                have HN := Lib.hid (HS3.out.add hin rfl ((HXR.out.below HB3.out).imp (D' := fun b => b < w2.heap.size) (fun b _ hb => Nat.lt_of_lt_of_le (HD2.out b hb) HBW2.out.size)) (((Below.refl _ _).alloc (Nat.le_refl _) _).drew) hown4 hgrow hat4)
                clear hown4 hgrow hat4
                refine wpChain_step (fun K hK => ?_)
                go_simp
                refine hK _ _ rfl (fun h => absurd h (by decide)) ?_
                clear hK K
                refine wpChain_step (fun K hK => ?_)
                go_simp
                refine hK _ _ rfl (fun h => absurd h (by decide)) ?_
                clear hK K
                refine wpChain_nil ?_
                go_wp2_with fail
                go_roundw
                case rel =>
                  refine ⟨j + 1, _, _, _, by omega, by go_num, by rw [HSUC.out]; exact HN.out, ?_⟩
                  rw [HSUC.out, List.all_append, HOK.out]
                  have h1 : decide ((i : Int) < (ll.length : Int)) = true := decide_eq_true hi1'
                  simp [okOut, hval]
                  omega
                case measure => simp [intOf]; omega
        · have hje : j = e := by omega
          subst hje
          clear hS hbw
          obtain ⟨wl, rfl⟩ : ∃ wl : World, wl = wr := ⟨_, rfl⟩
          rw [HOK.out, Bool.true_and] at HRES
          have hcB : ∃ cs, wl.heap[w2.heap.size]? = some (.cells cs 49 (0, 0)) ∧ cs.size = ll.length ∧ ∀ i, i < ll.length → cs[i]? = some (us i) := HS.out.all.arr
          have HCB := Lib.hid hcB
          have hV1 := HV1.out.below (HB2.out.trans (HS.out.below.mono HB2.out.size))
          have HVL := Lib.hid hV1
          clear hcB hV1
          go_wp2
          go_loopw [73] (fun s wr => ∃ m : Nat, m ≤ ll.length ∧ s = .int .i64 m ∧ (∀ i, i < m → samePs (plainL (listOf i (l.take j))) (plainL (cutAt k (ll.getD i []))) = true) ∧ Below wl.heap.size wl wr) (fun s _ => ll.length - (intOf s).toNat)
          case atStart => exact ⟨0, Nat.zero_le _, rfl, fun i h => by omega, Below.refl _ _⟩
          case round =>
            obtain ⟨m, hm, rfl, hN, hbl⟩ := hrel
            have HNM := Lib.hid hN
            have HBL := Lib.hid hbl
            have hbwr := HBW.out.trans (hbl.mono HBW.out.size)
            have HBWR := Lib.hid hbwr
            clear hN hbl hbwr
            by_cases hlt : m < ll.length
            · have hSm := HS.out.next HBL.out
              obtain ⟨sa, sc, hus, y0, hBl, _, _⟩ := hSm.at hlt
              have hml : m < (ll.map (cutAt k)).length := by simpa using hlt
              obtain ⟨b1, o1, u1, c1, rfl, _, hb1l, z0, ze, _⟩ := (HVL.out.below HBL.out).at hml
              have hcl : (cutAt k ll[m]).length ≤ ll[m].length := by
                unfold cutAt
                exact (List.takeWhile_sublist _).length_le
              have hll := (HSM.out.2 _ (List.getElem_mem hlt)).1
              simp only [List.getElem_map] at z0 ze
              have hA := fun (W : World) (hW : Below wr.heap.size wr W) => f60_any W (.slice sa (evs m).length sc) ((evs m).map Prod.fst) (fun b => b < wr.heap.size)
                (by
                  have := (EvsAt.mk (w := wr) (D := fun b => b < w2.heap.size) (hSm.all.own m hlt) (hSm.all.rows m hlt) (by have := hSm.len m hlt; rw [List.length_take] at this; omega)).elems (D' := fun b => b < wr.heap.size) (fun b hb => Nat.lt_of_lt_of_le hb (by have := hSm.below.size; omega)) (fun b hb => (hSm.all.qbB hlt hb).2)
                  rw [hus] at this
                  exact this.below hW)
                (fun b hb => Nat.lt_of_lt_of_le hb hW.size) (by have := hSm.len m hlt; rw [List.length_take] at this; simp; omega)
              have hB := fun (W : World) (hW : Below wr.heap.size wr W) => f60_any W (.slice u1 (cutAt k ll[m]).length c1) (cutAt k ll[m]) (fun b => b < wr.heap.size)
                ((ElemsAt.imp ze fun b hb _ => hb).below hW) (fun b hb => Nat.lt_of_lt_of_le hb hW.size) (by omega)
              have hpe : ((evs m).map Prod.fst).filter (fun e => !barE e) = plainL (listOf m (l.take j)) := by
                rw [hSm.eq m hlt]
                simp [plainL]
              have hce : (cutAt k ll[m]).filter (fun e => !barE e) = plainL (cutAt k (ll.getD m [])) := by
                rw [List.getD_eq_getElem?_getD, List.getElem?_eq_getElem hlt]; rfl
              rw [hpe] at hA
              rw [hce] at hB
              have hA2 := fun (W : World) (hW : Below wr.heap.size wr W) => (hA W hW).mono fun e w' h => (show ∃ v', e = .returned v' ∧ ElemsAt w' (fun _ => True) v' (plainL (listOf m (l.take j))) ∧ Below wr.heap.size wr w' ∧ (∀ b o, b < W.heap.size → w'.cell? ⟨b, o, none⟩ = W.cell? ⟨b, o, none⟩) ∧ (∀ v l, ElemsAt W (fun _ => True) v l → ElemsAt w' (fun _ => True) v l) from by
                obtain ⟨v', h1, h2, h3⟩ := h
                exact ⟨v', h1, h2, hW.trans (h3.mono hW.size), fun b o hb => h3.cell (p := ⟨b, o, none⟩) hb, fun v l h => h.below h3⟩)
              have hB2 := fun (W : World) (hW : Below wr.heap.size wr W) => (hB W hW).mono fun e w' h => (show ∃ v', e = .returned v' ∧ ElemsAt w' (fun _ => True) v' (plainL (cutAt k (ll.getD m []))) ∧ Below wr.heap.size wr w' ∧ (∀ b o, b < W.heap.size → w'.cell? ⟨b, o, none⟩ = W.cell? ⟨b, o, none⟩) ∧ (∀ v l, ElemsAt W (fun _ => True) v l → ElemsAt w' (fun _ => True) v l) from by
                obtain ⟨v', h1, h2, h3⟩ := h
                exact ⟨v', h1, h2, hW.trans (h3.mono hW.size), fun b o hb => h3.cell (p := ⟨b, o, none⟩) hb, fun v l h => h.below h3⟩)
              have HA := Lib.hid hA2
              have HBB := Lib.hid hB2
              clear hA hB hA2 hB2 hpe hce hSm ze hcl hll hus
              have hq0 : Below wr.heap.size wr wr.drew := (Below.refl _ _).drew
              go_wp2_with fail
              cases hsp : samePs (plainL (listOf m (l.take j))) (plainL (cutAt k (ll.getD m [])))
              all_goals
                have hE := fun (W : World) (va vb : Value) (hW : Below wr.heap.size wr W) (ha : ElemsAt W (fun _ => True) va (plainL (listOf m (l.take j)))) (hb : ElemsAt W (fun _ => True) vb (plainL (cutAt k (ll.getD m [])))) => (f59_any W va vb _ _ _ _ ha hb).mono fun e w' h => (show e = .returned (.bool (samePs (plainL (listOf m (l.take j))) (plainL (cutAt k (ll.getD m []))))) ∧ Below wr.heap.size wr w' from ⟨h.1, hW.trans (h.2.mono hW.size)⟩)
                rw [hsp] at hE
                have HE := Lib.hid hE
                have HSP := Lib.hid hsp
                clear hE hsp
                go_region_held3 (fun w' => w'.cell? ⟨b1, o1 + m, none⟩ = some (.slice u1 (cutAt k ll[m]).length c1)) (first | exact z0 | exact (hqa.cell (p := ⟨b1, o1 + m, none⟩) hb1l).trans z0 | exact (hqb'.cell (p := ⟨b1, o1 + m, none⟩) hb1l).trans z0 | exact (hqc.cell (p := ⟨b1, o1 + m, none⟩) hb1l).trans z0) (first
                  | (go_simp; go_at_call 60; (with_reducible refine (HA.out _ (by assumption)).mono ?_); rintro e wa ⟨va5, rfl, hva, hqa, hca, hea⟩; try (have hvb' := hea _ _ hvb))
                  | (go_simp; go_at_call 60; (with_reducible refine (HBB.out _ (by assumption)).mono ?_); rintro e wb ⟨vb5, rfl, hvb, hqb', hcb, heb⟩; try (have hva' := heb _ _ hva))
                  | (go_simp; go_at_call 59; (first | refine (HE.out _ _ _ (by assumption) hva' hvb).mono ?_ | refine (HE.out _ _ _ (by assumption) hva hvb').mono ?_); rintro e wc ⟨rfl, hqc⟩))
                have HQC := Lib.hid hqc
                clear hqc
                go_wp2_with fail
              · go_ret
                refine ⟨ret_bool ?_, HBWR.out.trans (HQC.out.mono HBWR.out.size)⟩
                rw [HRES.out]
                symm
                rw [List.all_eq_false]
                exact ⟨m, List.mem_range.2 hlt, by rw [HSP.out]; decide⟩
              · go_roundw
                case rel =>
                  refine ⟨m + 1, by omega, by go_num, fun i hi => ?_, HBL.out.trans (HQC.out.mono HBL.out.size)⟩
                  by_cases e : i = m
                  · subst e; exact HSP.out
                  · exact HNM.out i (by omega)
                case measure => simp [intOf]; omega
            · have hr : consWith samePs ll k l = true := by
                rw [HRES.out, List.all_eq_true]
                intro i hi
                exact HNM.out i (by have := List.mem_range.1 hi; omega)
              have HR := Lib.hid hr
              clear hr
              go_wp2_with fail
              go_ret
              exact ⟨ret_bool HR.out.symm, HBWR.out⟩
  · have hres : consWith samePs ll k l = false := consWith_err (by simpa using h0)
    rw [hres]
    clear hres
    unfold CutTo at HC
    have hF := fun (W : World) (hW : Below (w.alloc (Obj.cells #[.int .i64 k] 3)).heap.size (w.alloc (Obj.cells #[.int .i64 k] 3)) W) => f57_any W _ l D2 (HP.out.below (HB0.out.trans (hW.mono HB0.out.size))) w.heap.size k (HBOX.out W hW)
    have HF := Lib.hid hF
    generalize cutErr ll k = er at h0 HC
    clear hF
    go_enter Try.func34, Try.ntmps34
    go_wp2_with (first
      | (go_at_call 35; refine HC.out.mono ?_; rintro e w1 ⟨v1, rfl, hv1, hb1⟩; have HB1 := Lib.hid hb1; clear hv1 hb1)
      | (go_at_call 57; refine (HF.out w1 HB1.out).mono ?_; rintro e w2 ⟨rfl, hb2⟩; have HB2 := Lib.hid hb2; clear hb2))
    go_ret
    exact ⟨rfl, HB0.out.trans ((HB1.out.trans (HB2.out.mono HB1.out.size)).mono HB0.out.size)⟩
end leaves

end Go.Proofs.Ytdnkfgnjeibjeaa
