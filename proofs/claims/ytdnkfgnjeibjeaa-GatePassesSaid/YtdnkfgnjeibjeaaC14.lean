import Derived.Test.YtdnkfgnjeibjeaaC13
namespace Go.Proofs.Ytdnkfgnjeibjeaa
open Go.RowKit

theorem consWith_bad {eq : List Elem → List Elem → Bool} {ll : List (List Elem)} {k : Int} {l : List (Int × Elem)} (h0 : cutErr ll k = 0) {j : Nat} (hj : j < l.length) (hb : okOut ll.length l[j] = false) (h : ∀ i (h : i < l.length), i ≤ j → barAt k l[i].2 = false) : consWith eq ll k l = false := by
  rcases outIdx_cases k l with ⟨_, ha⟩ | ⟨e, he, _, hbe, hc⟩
  · exact consWith_none ha
  · have hje : j < e := by
      rcases Nat.lt_or_ge j e with h' | h'
      · exact h'
      · rw [h e he h'] at hbe; cases hbe
    have hmem : l[j] ∈ l.take e := List.mem_iff_getElem.2 ⟨j, by simp; omega, by simp⟩
    rw [consWith_some h0 he hbe hc, List.all_eq_false.2 ⟨l[j], hmem, by rw [hb]; decide⟩, Bool.false_and]

section leaves
set_option maxHeartbeats 2000000
set_option maxRecDepth 100000

theorem f37_any (w : World) (v vp : Value) (ll : List (List Elem)) (k : Int) (l : List (Int × Elem)) (D D2 : Nat → Prop) (h : ListsAt w D v ll) (hD : ∀ b, D b → b < w.heap.size) (hsm : smallLL ll) (hp : OutsAt w D2 vp l) (hD2 : ∀ b, D2 b → b < w.heap.size) (hpl : l.length ≤ 1000000) :
    Calls Try.prog 37 #[v, .int .i64 k, vp] w fun e w' => e = .returned (.bool (consWith sameElems ll k l)) ∧ Below w.heap.size w w' := by
  have H := Lib.hid h
  have HP := Lib.hid hp
  have HD2 := Lib.hid hD2
  have HSM := Lib.hid hsm
  have hC := f36_any w v ll k D h hD hsm
  obtain ⟨va, vc, rfl, hl⟩ := h.form
  obtain ⟨pa, pc, rfl, hpl'⟩ := hp.form
  have HC := Lib.hid hC
  clear h hp hsm hC hD2 hD
  have hce : cutErr ll k = 0 ∨ (cutErr ll k != 0) = true := by
    by_cases e : cutErr ll k = 0
    · exact .inl e
    · exact .inr (by simpa using e)
  rcases hce with h0 | h0
  · have H0 := Lib.hid h0
    have hl200 := (cutErr_zero h0).2.1
    have hC := fun (P : Prop) (hP : P) => HC.out.mono fun e w' hc => (show _ from hc.zero h0)
    have HC := Lib.hid (hC True trivial)
    clear h0 hC
    obtain ⟨i1, hi1, hz10, hz11, hz12⟩ := info_parts info34
    obtain ⟨i2, hi2, hz20, hz21, hz22⟩ := info_parts info49
    have hmk : ∀ W : World, (Instr.makeSlice 47 (.int .i64 ll.length) (.int .i64 ll.length)).run Try.prog W = .ok (.slice (some ⟨W.heap.size, 0, none⟩) ll.length ll.length) (W.alloc (.cells (madeCells #[.slice none 0 0] ll.length) 49)) := fun W => by
      have := run_make (P := Try.prog) W 47 49 i2 (.slice none 0 0) Try.underlying47 hi2 hz20 .i64 .i64 ll.length ll.length (by omega) (Int.le_refl _) (by rw [hz22]; omega) (by omega)
      rw [hz21] at this
      simpa [Value.cells] using this
    go_enter Try.func37, Try.ntmps37
    go_wp2_with (first
      | (go_at_call 36; refine HC.out.mono ?_; rintro e w2 ⟨va1, vc1, rfl, hv1, hb1⟩; have HV1 := Lib.hid hv1; have HBW2 := Lib.hid hb1; clear hv1 hb1))
    have hst := ConsSt.start w2 ll.length (fun e => !barE e)
    have HST := Lib.hid hst
    clear hst
    go_loopw [10] (fun i wr => ∃ (j : Nat) (us : Nat → Value) (evs : Nat → List EV) (qb : Nat → Option Nat), j ≤ l.length ∧ i = .int .i64 j ∧ ConsSt w2 wr ll.length w2.heap.size us evs qb (l.take j) (fun e => !barE e) ∧ (l.take j).all (okOut ll.length) = true ∧ ∀ i (h : i < l.length), i < j → barAt k l[i].2 = false) (fun i _ => l.length - (intOf i).toNat)
    case atStart => exact ⟨0, _, _, _, Nat.zero_le _, rfl, HST.out, rfl, fun i _ h => by omega⟩
    case round =>
      obtain ⟨j, us, evs, qb, hj, rfl, hS, hok, hnb⟩ := hrel
      have HS := Lib.hid hS
      have HOK := Lib.hid hok
      have HNB := Lib.hid hnb
      have hbw := HBW2.out.trans (hS.below.mono HBW2.out.size)
      have HBW := Lib.hid hbw
      clear hok hnb
      by_cases hjl : j < l.length
      · obtain ⟨_, o, ra, rn, rc, rfl, _, hbx, x0, x1, x2, x3, x4, x5, xr⟩ := (HP.out.below hbw).at hjl
        have hsucc : l.take (j + 1) = l.take j ++ [l[j]] := List.take_succ_eq_append_getElem hjl
        have hno := fun (h : okOut ll.length l[j] = false) (h2 : barAt k l[j].2 = false) => (show consWith sameElems ll k l = false from consWith_bad H0.out hjl h (fun i hi hij => by
          by_cases e : i = j
          · subst e; exact h2
          · exact HNB.out i hi (by omega)))
        have hyes := fun (h : barAt k l[j].2 = true) => consWith_some (eq := sameElems) H0.out hjl h HNB.out
        have hstep := fun (h : barAt k l[j].2 = false) (i : Nat) (hi : i < l.length) (hij : i < j + 1) => (show barAt k l[i].2 = false from by
          by_cases e : i = j
          · subst e; exact h
          · exact HNB.out i hi (by omega))
        have HNO := Lib.hid hno
        have HYES := Lib.hid hyes
        have HSTEP := Lib.hid hstep
        have HSUC := Lib.hid hsucc
        have HXR := Lib.hid xr
        clear hS hbw hsucc hno hyes hstep xr
        generalize l[j] = oo at x0 x1 x2 x3 x4 x5 HXR HSUC HNO HYES HSTEP
        obtain ⟨oi, xk, xn, xt, xrow, xc⟩ := oo
        dsimp only at x0 x1 x2 x3 x4 x5
        have hend : ∀ W : World, Below wr.heap.size wr W → Below w.heap.size w W := fun W hW => HBW.out.trans (hW.mono HBW.out.size)
        have HEND := Lib.hid hend
        clear hend
        have hcase : (xk == 3) = false ∨ (xk = 3 ∧ (xn == k) = false) ∨ (xk = 3 ∧ xn = k) := by
          cases h3 : (xk == 3)
          · exact .inl rfl
          · have h3' : xk = 3 := by simpa using h3
            cases hn : (xn == k)
            · exact .inr (.inl ⟨h3', rfl⟩)
            · exact .inr (.inr ⟨h3', by simpa using hn⟩)
        rcases hcase with hk3 | ⟨rfl, hkn⟩ | ⟨rfl, rfl⟩
        · have hnbj : barAt k ⟨xk, xn, xt, xrow, xc⟩ = false := by simp only [barAt, hk3, Bool.false_and]
          have HNBJ := Lib.hid hnbj
          have hk3' : (xk != 3) = true := by simp [bne, hk3]
          clear hnbj
          have hbox : Below wr.heap.size wr (wr.alloc (Obj.cells #[.int .i64 oi, .int .i64 xk, .int .i64 xn, .int .i64 xt, .slice ra rn rc, .int .i64 xc] 57)) := (Below.refl _ _).alloc (Nat.le_refl _) _
          have HBX := Lib.hid hbox
          clear hbox
          by_cases c1 : oi < 0
          · have hr := HNO.out (by have : ¬ 0 ≤ oi := by omega
                                   simp [okOut, this]) HNBJ.out
            have HR := Lib.hid hr
            clear hr
            go_wp2
            go_ret
            exact ⟨ret_bool HR.out.symm, HEND.out _ HBX.out⟩
          · by_cases c2 : (ll.length : Int) ≤ oi
            · have hr := HNO.out (by have : ¬ oi < (ll.length : Int) := by omega
                                     simp [okOut, this]) HNBJ.out
              have HR := Lib.hid hr
              have c2' : oi ≥ (ll.length : Int) := c2
              clear hr
              go_wp2
              go_ret
              exact ⟨ret_bool HR.out.symm, HEND.out _ HBX.out⟩
            · obtain ⟨i, rfl⟩ : ∃ i : Nat, oi = i := ⟨oi.toNat, by omega⟩
              have hin : i < ll.length := by omega
              have hV := f66_any ⟨xk, xn, xt, xrow, xc⟩ (.slice ra rn rc) (wr.alloc (Obj.cells #[.int .i64 (i : Int), .int .i64 xk, .int .i64 xn, .int .i64 xt, .slice ra rn rc, .int .i64 xc] 57)) D2 (HXR.out.below HBX.out)
              have c2' : ¬ (i : Int) ≥ (ll.length : Int) := c2
              cases hval : validElem ⟨xk, xn, xt, xrow, xc⟩ <;> rw [hval] at hV
              · have hr := HNO.out (by simp [okOut, hval]) HNBJ.out
                have HR := Lib.hid hr
                have HV := Lib.hid hV
                clear hr hV
                go_wp2_with (go_at_call 66; refine HV.out.mono ?_; rintro e w3 ⟨rfl, hb3⟩; have HB3 := Lib.hid (HBX.out.trans (hb3.mono HBX.out.size)); have HX3 := Lib.hid ((hb3.block wr.heap.size (by simp)).trans (World.alloc_heap_new _ _)); clear hb3; obtain ⟨z0, z1, z2, z3, z4, z5⟩ := blk6 HX3.out)
                go_ret
                exact ⟨ret_bool HR.out.symm, HEND.out _ HB3.out⟩
              · have HV := Lib.hid hV
                clear hV HNO HYES
                go_wp2_with (go_at_call 66; refine HV.out.mono ?_; rintro e w3 ⟨rfl, hb3⟩; have HB3 := Lib.hid (HBX.out.trans (hb3.mono HBX.out.size)); have HX3 := Lib.hid ((hb3.block wr.heap.size (by simp)).trans (World.alloc_heap_new _ _)); clear hb3; obtain ⟨z0, z1, z2, z3, z4, z5⟩ := blk6 HX3.out)
                have HS3 := Lib.hid (HS.out.next HB3.out)
                obtain ⟨sa, sc, hus, y0, hBl, hqB, hBf⟩ := HS3.out.at hin
                have hXl := heap_lt HX3.out
                have HUS := Lib.hid hus
                have hqX : qb i ≠ some wr.heap.size := fun e' => by have := (HS.out.all.qbB hin e').2; omega
                have hs0 : SlOwn (w3.alloc (Obj.cells #[.int .i64 xk, .int .i64 xn, .int .i64 xt, .slice ra rn rc, .int .i64 xc] 34)).drew 34 5 (.slice sa (evs i).length sc) (evs i).length ((evs i).flatMap ecl) (qb i) := by
                  rw [← HUS.out]
                  exact (HS3.out.all.own i hin).keep fun g hg => Below.heap_alloc w3 _ g (HS3.out.all.qbB hin hg).2
                have hs1 : Src (w3.alloc (Obj.cells #[.int .i64 xk, .int .i64 xn, .int .i64 xt, .slice ra rn rc, .int .i64 xc] 34)).drew 5 (.slice (some ⟨w3.heap.size, 0, none⟩) 1 1) 1 (ecl (⟨xk, xn, xt, xrow, xc⟩, .slice ra rn rc)) := SlOwn.src (e := 34) (blk := some w3.heap.size) ⟨rfl, .inr ⟨_, 0, 1, _, rfl, rfl, World.alloc_heap_new w3 (Obj.cells #[.int .i64 xk, .int .i64 xn, .int .i64 xt, .slice ra rn rc, .int .i64 xc] 34), Nat.le_refl _, by simp [maxLen], by simp, rfl⟩⟩
                have hone : ∀ u ∈ ecl (⟨xk, xn, xt, xrow, xc⟩, Value.slice ra rn rc), u.oneCell' = true := fun u hu => by simp only [ecl, List.mem_cons, List.not_mem_nil, or_false] at hu; rcases hu with rfl | rfl | rfl | rfl | rfl <;> rfl
                have hlen := HS3.out.len i hin
                rw [List.length_take] at hlen
                have HS0 := Lib.hid hs0
                have HS1 := Lib.hid hs1
                have HONE := Lib.hid hone
                have hx0 : wr.heap.size < w3.heap.size := hXl
                clear hs0 hs1 hone x0 x1 x2 x3 x4 x5 hus
                have hi0 : (0 : Int) ≤ (i : Int) := by omega
                have hi1' : (i : Int) < (ll.length : Int) := by omega
                have hC0 : Only (fun b => qb i = some b) w3 w3.drew := (Only.refl _ _).drew
                refine wp_region_float 10 2 (fun W => Only (fun b => qb i = some b) w3 W) (by kernel_rfl) (by kernel_rfl) hC0 ?_
                simp only [List.take_succ_cons, List.take_zero, List.drop_succ_cons, List.drop_zero]
                have HC0 := Lib.hid hC0
                clear hC0
                repeat (
                  refine wpFloat_ex (fun K hK => ?_)
                  apply Exists.intro
                  refine ⟨fun W hW => ?_, ?_⟩
                  · have hk := hW.cell
                    clear hW
                    go_simp
                    rfl
                  go_simp
                  refine hK _ ?_
                  clear hK K)
                refine wpFloat_nil ?_
                refine wpChain_step (fun K hK => ?_)
                go_simp
                refine hK _ _ rfl (fun _ => HC0.out.alloc _) ?_
                clear hK K
                refine wpChain_step (fun K hK => ?_)
                refine wp_append_S (.tmp 89) (.tmp 92) 49 rfl 34 i1 _ 5 56 Try.underlying49 hi1 hz10 hz11 hz12 rfl (by omega) (.slice sa (evs i).length sc) (evs i).length ((evs i).flatMap ecl) (qb i) rfl HS0.out (.slice (some ⟨w3.heap.size, 0, none⟩) 1 1) 1 (ecl (⟨xk, xn, xt, xrow, xc⟩, .slice ra rn rc)) rfl HS1.out HONE.out (by simp only [maxLen]; omega) (by omega) ?_
                intro v4 w4 bk4 hown4 hgrow hat4
                obtain ⟨sa4, sc4, rfl⟩ := hown4.form
                have hf4 := HS3.out.all.frB hin hgrow
                have hB4 : w2.heap.size < w4.heap.size := HS3.out.all.ltB hgrow
                have hcB : w4.cell? ⟨w2.heap.size, i, none⟩ = some (.slice sa (evs i).length sc) := ((HC0.out.alloc _).grown hgrow (fun q hq _ => hq)).cell _ _ hBl hqB |>.trans y0
                go_simp
                refine hK _ _ rfl (fun _ => (HC0.out.alloc _).grown hgrow (fun q hq _ => hq)) ?_
                clear hK K
                have HN := Lib.hid (HS3.out.add (x := ⟨xk, xn, xt, xrow, xc⟩) hin (by simp [barE, hk3]) ((HXR.out.below HB3.out).imp (D' := fun b => b < w2.heap.size) (fun b _ hb => Nat.lt_of_lt_of_le (HD2.out b hb) HBW2.out.size)) (((Below.refl _ _).alloc (Nat.le_refl _) _).drew) hown4 hgrow hat4)
                clear hown4 hgrow hat4
                refine wpChain_step (fun K hK => ?_)
                go_simp
                refine hK _ _ rfl (fun h => absurd h (by decide)) ?_
                clear hK K
                refine wpChain_step (fun K hK => ?_)
                go_simp
                refine hK _ _ rfl (fun h => absurd h (by decide)) ?_
                clear hK K
                refine wpChain_nil ?_
                go_wp2_with fail
                go_roundw
                case rel =>
                  refine ⟨j + 1, _, _, _, by omega, by go_num, by rw [HSUC.out]; exact HN.out, ?_, HSTEP.out HNBJ.out⟩
                  rw [HSUC.out, List.all_append, HOK.out]
                  have h1 : decide ((i : Int) < (ll.length : Int)) = true := decide_eq_true hi1'
                  simp [okOut, hval]
                  omega
                case measure => simp [intOf]; omega
        · have hnbj : barAt k ⟨3, xn, xt, xrow, xc⟩ = false := by simp only [barAt, hkn, Bool.and_false]
          have HNBJ := Lib.hid hnbj
          clear hnbj
          have hbox : Below wr.heap.size wr (wr.alloc (Obj.cells #[.int .i64 oi, .int .i64 3, .int .i64 xn, .int .i64 xt, .slice ra rn rc, .int .i64 xc] 57)) := (Below.refl _ _).alloc (Nat.le_refl _) _
          have HBX := Lib.hid hbox
          clear hbox
          by_cases c1 : oi < 0
          · have hr := HNO.out (by have : ¬ 0 ≤ oi := by omega
                                   simp [okOut, this]) HNBJ.out
            have HR := Lib.hid hr
            clear hr
            go_wp2
            go_ret
            exact ⟨ret_bool HR.out.symm, HEND.out _ HBX.out⟩
          · by_cases c2 : (ll.length : Int) ≤ oi
            · have hr := HNO.out (by have : ¬ oi < (ll.length : Int) := by omega
                                     simp [okOut, this]) HNBJ.out
              have HR := Lib.hid hr
              have c2' : oi ≥ (ll.length : Int) := c2
              clear hr
              go_wp2
              go_ret
              exact ⟨ret_bool HR.out.symm, HEND.out _ HBX.out⟩
            · obtain ⟨i, rfl⟩ : ∃ i : Nat, oi = i := ⟨oi.toNat, by omega⟩
              have hin : i < ll.length := by omega
              have hV := f66_any ⟨3, xn, xt, xrow, xc⟩ (.slice ra rn rc) (wr.alloc (Obj.cells #[.int .i64 (i : Int), .int .i64 3, .int .i64 xn, .int .i64 xt, .slice ra rn rc, .int .i64 xc] 57)) D2 (HXR.out.below HBX.out)
              have c2' : ¬ (i : Int) ≥ (ll.length : Int) := c2
              cases hval : validElem ⟨3, xn, xt, xrow, xc⟩ <;> rw [hval] at hV
              · have hr := HNO.out (by simp [okOut, hval]) HNBJ.out
                have HR := Lib.hid hr
                have HV := Lib.hid hV
                clear hr hV
                go_wp2_with (go_at_call 66; refine HV.out.mono ?_; rintro e w3 ⟨rfl, hb3⟩; have HB3 := Lib.hid (HBX.out.trans (hb3.mono HBX.out.size)); have HX3 := Lib.hid ((hb3.block wr.heap.size (by simp)).trans (World.alloc_heap_new _ _)); clear hb3; obtain ⟨z0, z1, z2, z3, z4, z5⟩ := blk6 HX3.out)
                go_ret
                exact ⟨ret_bool HR.out.symm, HEND.out _ HB3.out⟩
              · have HV := Lib.hid hV
                clear hV HNO HYES
                go_wp2_with (go_at_call 66; refine HV.out.mono ?_; rintro e w3 ⟨rfl, hb3⟩; have HB3 := Lib.hid (HBX.out.trans (hb3.mono HBX.out.size)); have HX3 := Lib.hid ((hb3.block wr.heap.size (by simp)).trans (World.alloc_heap_new _ _)); clear hb3; obtain ⟨z0, z1, z2, z3, z4, z5⟩ := blk6 HX3.out)
                have HN := Lib.hid ((HS.out.next HB3.out).skip (o := ((i : Int), ⟨3, xn, xt, xrow, xc⟩)) rfl)
                have hi1' : (i : Int) < (ll.length : Int) := by omega
                go_roundw
                case rel =>
                  refine ⟨j + 1, _, _, _, by omega, by go_num, by rw [HSUC.out]; exact HN.out, ?_, HSTEP.out HNBJ.out⟩
                  rw [HSUC.out, List.all_append, HOK.out]
                  have h1 : decide ((i : Int) < (ll.length : Int)) = true := decide_eq_true hi1'
                  simp [okOut, hval]
                  omega
                case measure => simp [intOf]; omega
        · have hbox : Below wr.heap.size wr (wr.alloc (Obj.cells #[.int .i64 oi, .int .i64 3, .int .i64 xn, .int .i64 xt, .slice ra rn rc, .int .i64 xc] 57)) := (Below.refl _ _).alloc (Nat.le_refl _) _
          have HBX := Lib.hid hbox
          have hres := HYES.out (by simp [barAt])
          rw [HOK.out, Bool.true_and] at hres
          have HRES := Lib.hid hres
          have hV1 := HV1.out.below (HS.out.below.trans (hbox.mono HS.out.below.size))
          have HVL := Lib.hid hV1
          have HSL := Lib.hid (HS.out.next hbox)
          have HEN2 := Lib.hid (HEND.out _ hbox)
          clear hbox hres hV1 HNO HYES HSTEP
          go_wp2
          obtain ⟨wl, hwl⟩ : ∃ wl : World, wl = wr.alloc (Obj.cells #[.int .i64 oi, .int .i64 3, .int .i64 xn, .int .i64 xt, .slice ra rn rc, .int .i64 xc] 57) := ⟨_, rfl⟩
          rw [← hwl] at HSL HVL HEN2 HBX ⊢
          clear hwl x0 x1 x2 x3 x4 x5 hbx
          go_loopw [12] (fun s wr => ∃ m : Nat, m ≤ ll.length ∧ s = .int .i64 m ∧ (∀ i, i < m → sameElems (plainL (listOf i (l.take j))) (plainL (cutAt xn (ll.getD i []))) = true) ∧ Below wl.heap.size wl wr) (fun s _ => ll.length - (intOf s).toNat)
          case atStart => exact ⟨0, Nat.zero_le _, rfl, fun i h => by omega, Below.refl _ _⟩
          case round =>
            obtain ⟨m, hm, rfl, hN, hbl⟩ := hrel
            have HNM := Lib.hid hN
            have HBL := Lib.hid hbl
            clear hN hbl
            by_cases hlt : m < ll.length
            · have hSm := HSL.out.next HBL.out
              obtain ⟨sa, sc, hus, y0, hBl, _, _⟩ := hSm.at hlt
              have hml : m < (ll.map (cutAt xn)).length := by simpa using hlt
              obtain ⟨b1, o1, u1, c1, rfl, _, hb1l, z0, ze, _⟩ := (HVL.out.below HBL.out).at hml
              have hcl : (cutAt xn ll[m]).length ≤ ll[m].length := by
                unfold cutAt
                exact (List.takeWhile_sublist _).length_le
              have hll := (HSM.out.2 _ (List.getElem_mem hlt)).1
              simp only [List.getElem_map] at z0 ze
              have hevl : (evs m).length ≤ 1000000 := by have := hSm.len m hlt; rw [List.length_take] at this; omega
              have hEA : ElemsAt wr (fun b => b < wr.heap.size) (.slice sa (evs m).length sc) (plainL (listOf m (l.take j))) := by
                have := (EvsAt.mk (w := wr) (D := fun b => b < w2.heap.size) (hSm.all.own m hlt) (hSm.all.rows m hlt) hevl).elems (D' := fun b => b < wr.heap.size) (fun b hb => Nat.lt_of_lt_of_le hb (by have := hSm.below.size; omega)) (fun b hb => (hSm.all.qbB hlt hb).2)
                rw [hus, hSm.eq m hlt] at this
                exact this
              have hEB : ElemsAt wr (fun b => b < wr.heap.size) (.slice u1 (cutAt xn ll[m]).length c1) (cutAt xn ll[m]) := ElemsAt.imp ze fun b hb _ => hb
              have hce : (cutAt xn ll[m]).filter (fun e => !barE e) = plainL (cutAt xn (ll.getD m [])) := by
                rw [List.getD_eq_getElem?_getD, List.getElem?_eq_getElem hlt]; rfl
              have hB := fun (W : World) (hW : Below wr.heap.size wr W) => f65_any W (.slice u1 (cutAt xn ll[m]).length c1) (cutAt xn ll[m]) (fun b => b < wr.heap.size) (hEB.below hW) (fun b hb => Nat.lt_of_lt_of_le hb hW.size) (by omega)
              rw [hce] at hB
              have HBB := Lib.hid hB
              have HEA := Lib.hid hEA
              have g1 : (0 : Int) ≤ (m : Int) := by omega
              have g2 : (m : Int) < (ll.length : Int) := by omega
              clear hB hce hSm ze hcl hll hus hEA hEB hevl
              go_wp2_with fail
              cases hsp : sameElems (plainL (listOf m (l.take j))) (plainL (cutAt xn (ll.getD m [])))
              all_goals
                have hE := fun (W : World) (va vb : Value) (hW : Below wr.heap.size wr W) (ha : ElemsAt W (fun _ => True) va (plainL (listOf m (l.take j)))) (hb : ElemsAt W (fun _ => True) vb (plainL (cutAt xn (ll.getD m [])))) => (f22_any W va vb _ _ _ _ ha hb).mono fun e w' h => (show e = .returned (.bool (sameElems (plainL (listOf m (l.take j))) (plainL (cutAt xn (ll.getD m []))))) ∧ Below wr.heap.size wr w' from ⟨h.1, hW.trans (h.2.mono hW.size)⟩)
                rw [hsp] at hE
                have HE := Lib.hid hE
                have HSP := Lib.hid hsp
                clear hE hsp
                refine wp_region_float 8 3 (fun W => Only (fun _ => False) wr W) (by kernel_rfl) (by kernel_rfl) ((Only.refl _ _).drew) ?_
                simp only [List.take_succ_cons, List.take_zero, List.drop_succ_cons, List.drop_zero]
                repeat (
                  refine wpFloat_ex (fun K hK => ?_)
                  apply Exists.intro
                  refine ⟨fun W hW => ?_, ?_⟩
                  · have hk := hW.cell
                    clear hW
                    go_simp
                    rfl
                  go_simp
                  refine hK _ ?_
                  clear hK K)
                refine wpFloat_nil ?_
                have hq0 : Below wr.heap.size wr wr.drew := (Below.refl _ _).drew
                have HQ0 := Lib.hid hq0
                clear hq0
                refine wpChain_step (fun K hK => ?_)
                go_simp
                go_at_call 65
                refine (HBB.out _ HQ0.out).mono ?_
                rintro e w5 ⟨v5, rfl, hv5, hb5⟩
                have hq5 : Below wr.heap.size wr w5 := HQ0.out.trans (hb5.mono (Nat.le_refl _))
                refine hK _ _ rfl (fun _ => Only.of_below hq5) ?_
                clear hK K
                have HQ5 := Lib.hid hq5
                have HV5 := Lib.hid hv5
                clear hq5 hv5 hb5
                refine wpChain_step (fun K hK => ?_)
                go_simp
                go_at_call 22
                refine (HE.out _ _ _ HQ5.out ((HEA.out.mono fun _ _ => trivial).below HQ5.out) HV5.out).mono ?_
                rintro e w6 ⟨rfl, hq6⟩
                refine hK _ _ rfl (fun _ => Only.of_below hq6) ?_
                clear hK K
                have HQ6 := Lib.hid hq6
                clear hq6
                refine wpChain_step (fun K hK => ?_)
                go_simp
                refine hK _ _ rfl (fun _ => Only.of_below HQ6.out) ?_
                clear hK K
                refine wpChain_nil ?_
                go_wp2_with fail
              · go_ret
                refine ⟨ret_bool ?_, HEN2.out.trans ((HBL.out.trans (HQ6.out.mono HBL.out.size)).mono HEN2.out.size)⟩
                rw [HRES.out]
                symm
                rw [List.all_eq_false]
                exact ⟨m, List.mem_range.2 hlt, by rw [HSP.out]; decide⟩
              · go_roundw
                case rel =>
                  refine ⟨m + 1, by omega, by go_num, fun i hi => ?_, HBL.out.trans (HQ6.out.mono HBL.out.size)⟩
                  by_cases e : i = m
                  · subst e; exact HSP.out
                  · exact HNM.out i (by omega)
                case measure => simp [intOf]; omega
            · have hr : consWith sameElems ll xn l = true := by
                rw [HRES.out, List.all_eq_true]
                intro i hi
                exact HNM.out i (by have := List.mem_range.1 hi; omega)
              have HR := Lib.hid hr
              clear hr
              go_wp2_with fail
              go_ret
              exact ⟨ret_bool HR.out.symm, HEN2.out.trans (HBL.out.mono HEN2.out.size)⟩
      · have hr : consWith sameElems ll k l = false := consWith_none (fun x hx => by
          obtain ⟨i, hi, rfl⟩ := List.mem_iff_getElem.1 hx
          exact HNB.out i hi (by omega))
        have HR := Lib.hid hr
        clear hr hbw hS
        go_wp2
        go_ret
        exact ⟨ret_bool HR.out.symm, HBW.out⟩
  · have hres : consWith sameElems ll k l = false := consWith_err (by simpa using h0)
    rw [hres]
    clear hres
    unfold CutTo at HC
    generalize cutErr ll k = er at h0 HC
    go_enter Try.func37, Try.ntmps37
    go_wp2_with (go_at_call 36; refine HC.out.mono ?_; rintro e w1 ⟨v1, rfl, hv1, hb1⟩; have HB1 := Lib.hid hb1; clear hv1 hb1)
    go_ret
    exact ⟨rfl, HB1.out⟩
end leaves

end Go.Proofs.Ytdnkfgnjeibjeaa
