import Derived.Test.YtdnkfgnjeibjeaaMG
import Derived.Test.YtdnkfgnjeibjeaaMA
import Derived.Test.YtdnkfgnjeibjeaaMF
import Derived.Laws.MakeOwn
import Derived.Laws.OwnMore

namespace Go.Proofs.Ytdnkfgnjeibjeaa
open Go.RowKit

/-- The error of 'Cut'. -/
def cutErr (ll : List (List Elem)) (k : Int) : Int := if ll.any (fun l => l.any badE) then 1 else if k < 1 ∨ ll.length < 1 ∨ 200 < ll.length then 7 else 0

def smallLL (ll : List (List Elem)) : Prop := ll.length ≤ 1000000 ∧ ∀ l ∈ ll, l.length ≤ 1000000 ∧ ∀ e ∈ l, e.row.length ≤ 1000000

/-- What 'Cut' gives. -/
def CutTo (w : World) (ll : List (List Elem)) (k : Int) (e : Ending) (w' : World) : Prop :=
  ∃ v, e = .returned (.tuple #[v, .int .i64 (cutErr ll k)]) ∧ ListsAt w' (fun _ => True) v (if cutErr ll k = 0 then ll.map (cutAt k) else []) ∧ Below w.heap.size w w'

theorem CutTo.no {w w' : World} {ll : List (List Elem)} {k err : Int} {e : Ending} (h : cutErr ll k = err) (hne : err ≠ 0) (he : e = .returned (.tuple #[.slice none 0 0, .int .i64 err])) (hb : Below w.heap.size w w') : CutTo w ll k e w' := by
  refine ⟨.slice none 0 0, by rw [h]; exact he, ?_, hb⟩
  rw [h, if_neg hne]
  exact ⟨none, 0, rfl, by simp, .inl rfl⟩

theorem info49 : (Try.prog.info? 49).map (fun i => (i.zero, i.size, i.bytes)) = some (some (.slice none 0 0), 1, 24) := by kernel_rfl

theorem LlSt.src1 (w : World) (u : Value) : Src (w.alloc (.cells #[u] 49)) 1 (.slice (some ⟨w.heap.size, 0, none⟩) 1 1) 1 [u] :=
  SlOwn.src (e := 49) (blk := some w.heap.size) ⟨rfl, .inr ⟨_, 0, 1, _, rfl, rfl, World.alloc_heap_new w _, Nat.le_refl _, by simp [maxLen], by simp, rfl⟩⟩

theorem EvsAt.src1 (w : World) (p : EV) : Src (w.alloc (.cells #[.int .i64 p.1.k, .int .i64 p.1.n, .int .i64 p.1.t, p.2, .int .i64 p.1.c] 34)) 5 (.slice (some ⟨w.heap.size, 0, none⟩) 1 1) 1 (ecl p) :=
  SlOwn.src (e := 34) (blk := some w.heap.size) ⟨rfl, .inr ⟨_, 0, 1, _, rfl, rfl, World.alloc_heap_new w _, Nat.le_refl _, by simp [maxLen], by simp, rfl⟩⟩

theorem LlSt.cut {wa wb W w' : World} {D1 D2 : Nat → Prop} {sv u v' : Value} {us : List Value} {ll : List (List Elem)} {k : Int} {j : Nat} {blk eb blk' : Option Nat} {evs : List EV} (h : LlSt wa wb D1 sv us ((ll.take j).map (cutAt k)) blk) (hc : CutSt wb W D2 u evs eb) (hj : j < ll.length) (he : evs.map Prod.fst = cutAt k ll[j])
    (hs : SlOwn w' 49 1 v' (us.length + 1) (us ++ [u]) blk') (hg : (W.alloc (.cells #[u] 49)).grownBy w' blk) (hat : blk' = blk ∨ blk' = some (W.alloc (.cells #[u] 49)).heap.size) :
    ∃ D, LlSt wa w' D v' (us ++ [u]) ((ll.take (j + 1)).map (cutAt k)) blk' := by
  have hu : ElemsAt W (fun b => D2 b ∨ eb = some b) u (cutAt k ll[j]) := by
    rw [← he]
    exact hc.at_.elems (fun b hb => .inl hb) (fun b hb => .inr hb)
  have := (h.next hc.below).add hu hc.at_.own.cap (fun b hb e => by
    have hlt : b < wb.heap.size := by have := h.own; rw [e] at this; exact this.blk_lt
    rcases hb with hb | hb
    · have := (hc.hD b hb).1; omega
    · have := hc.new b hb; omega) hs hg hat
  rw [List.take_succ_eq_append_getElem hj, List.map_append]
  exact ⟨_, this⟩

section leaves
set_option maxHeartbeats 1000000
set_option maxRecDepth 100000

theorem f35_any (w : World) (v : Value) (ll : List (List Elem)) (k : Int) (D : Nat → Prop) (h : ListsAt w D v ll) (hsm : smallLL ll) :
    Calls Try.prog 35 #[v, .int .i64 k] w (CutTo w ll k) := by
  have H := Lib.hid h
  obtain ⟨va, vc, rfl, hl⟩ := h.form
  have HSM := Lib.hid hsm
  clear h hsm
  go_enter Try.func35, Try.ntmps35
  go_wp2
  go_loopw [4, 15] (fun s4 i wr => ∃ j : Nat, j ≤ ll.length ∧ s4 = .slice none 0 0 ∧ i = .int .i64 j ∧ (∀ i (h : i < ll.length), i < j → ll[i].any badE = false) ∧ Below w.heap.size w wr) (fun _ i _ => ll.length - (intOf i).toNat)
  case atStart => exact ⟨0, by omega, rfl, rfl, by omega, Below.refl _ _⟩
  case round =>
    obtain ⟨j, hj, rfl, rfl, hv, hb⟩ := hrel
    have HV := Lib.hid hv
    clear hv
    by_cases hlt : j < ll.length
    · obtain ⟨b, o, ua, uc, rfl, hDb, hbx, x0, xe, huc⟩ := (H.out.below hb).at hlt
      have hC := f62_any wr _ _ _ xe
      have HB := Lib.hid hb
      clear hb xe
      cases hbad : ll[j].any badE <;> rw [hbad] at hC
      · have HC := Lib.hid hC
        have HBAD := Lib.hid hbad
        clear hC hbad
        go_wp2_with (go_at_call 62; refine HC.out.mono ?_; rintro e w1 ⟨rfl, hb1⟩; have HB1 := Lib.hid (HB.out.trans (hb1.mono HB.out.size)); clear hb1)
        go_roundw
        case rel =>
          refine ⟨j + 1, by omega, rfl, by go_num, fun i hi hij => ?_, HB1.out⟩
          by_cases e : i = j
          · subst e; exact HBAD.out
          · exact HV.out i hi (by omega)
        case measure => simp [intOf]; omega
      · have HC := Lib.hid hC
        have HBAD := Lib.hid hbad
        clear hC hbad
        go_wp2_with (go_at_call 62; refine HC.out.mono ?_; rintro e w1 ⟨rfl, hb1⟩; have HB1 := Lib.hid (HB.out.trans (hb1.mono HB.out.size)); clear hb1)
        refine bodyPost_ret (v := .tuple #[.slice none 0 0, .int .i64 1]) (by kernel_rfl) rfl ?_
        refine CutTo.no (err := 1) ?_ (by decide) rfl HB1.out
        unfold cutErr
        rw [if_pos (List.any_eq_true.2 ⟨ll[j], List.getElem_mem hlt, HBAD.out⟩)]
    · have hall : ll.any (fun l => l.any badE) = false := by
        rw [List.any_eq_false]
        intro x hx
        obtain ⟨i, hi, rfl⟩ := List.mem_iff_getElem.1 hx
        rw [HV.out i hi (by omega)]
        decide
      have HALL := Lib.hid hall
      have HB := Lib.hid hb
      clear hall hb
      by_cases hbad : k < 1 ∨ ll.length < 1 ∨ 200 < ll.length
      · have h7 : cutErr ll k = 7 := by unfold cutErr; rw [HALL.out, if_pos hbad]; rfl
        have H7 := Lib.hid h7
        clear h7
        by_cases h1 : k < 1
        · go_wp2
          refine bodyPost_ret (v := .tuple #[.slice none 0 0, .int .i64 7]) (by kernel_rfl) rfl (CutTo.no H7.out (by decide) rfl HB.out)
        · by_cases h2 : ll.length < 1
          · have h2' : (ll.length : Int) < 1 := by omega
            go_wp2
            refine bodyPost_ret (v := .tuple #[.slice none 0 0, .int .i64 7]) (by kernel_rfl) rfl (CutTo.no H7.out (by decide) rfl HB.out)
          · have h2' : ¬ (ll.length : Int) < 1 := by omega
            have h3' : (ll.length : Int) > 200 := by omega
            go_wp2
            refine bodyPost_ret (v := .tuple #[.slice none 0 0, .int .i64 7]) (by kernel_rfl) rfl (CutTo.no H7.out (by decide) rfl HB.out)
      · have h0 : cutErr ll k = 0 := by unfold cutErr; rw [HALL.out, if_neg hbad]; rfl
        have H0 := Lib.hid h0
        have h1 : ¬ k < 1 := fun e => hbad (.inl e)
        have h2 : ¬ (ll.length : Int) < 1 := fun e => hbad (.inr (.inl (by omega)))
        have h3 : ¬ (ll.length : Int) > 200 := fun e => hbad (.inr (.inr (by omega)))
        clear h0 hbad
        go_wp2
        obtain ⟨wa, rfl⟩ : ∃ wa : World, wa = wr := ⟨_, rfl⟩
        obtain ⟨i1, hi1, hz10, hz11, hz12⟩ := info_parts info34
        obtain ⟨i2, hi2, hz20, hz21, hz22⟩ := info_parts info49
        go_loopw [4, 36] (fun s4 i wr => ∃ (j : Nat) (us : List Value) (blk : Option Nat) (D1 : Nat → Prop), j ≤ ll.length ∧ i = .int .i64 j ∧ LlSt wa wr D1 s4 us ((ll.take j).map (cutAt k)) blk) (fun _ i _ => ll.length - (intOf i).toNat)
        case atStart => exact ⟨0, [], none, _, Nat.zero_le _, rfl, LlSt.start wa⟩
        case round =>
          obtain ⟨j, us, blk, D1, hj2, rfl, hL⟩ := hrel
          by_cases hlt2 : j < ll.length
          · obtain ⟨wb, rfl⟩ : ∃ wb : World, wb = wr := ⟨_, rfl⟩
            have HL := Lib.hid hL
            have hbw := HB.out.trans (hL.below.mono HB.out.size)
            have HBW := Lib.hid hbw
            have hlu := hL.len
            have hsl : us.length = j := by rw [hlu, List.length_map, List.length_take]; omega
            obtain ⟨sa, sc, rfl⟩ := hL.own.form
            obtain ⟨b, o, ua, uc, rfl, hDb, hbx, x0, xe, huc⟩ := (H.out.below hbw).at hlt2
            obtain ⟨hl1, hl2⟩ := HSM.out.2 _ (List.getElem_mem hlt2)
            have HE := Lib.hid xe
            have HL2 := Lib.hid hl2
            have HSL := Lib.hid hsl
            clear hL hbw xe hlu hl2 hsl
            go_wp2
            go_loopw [10, 42] (fun s i wr => ∃ (m : Nat) (evs : List EV) (eb : Option Nat) (D2 : Nat → Prop), m ≤ ll[j].length ∧ i = .int .i64 m ∧ CutSt wb wr D2 s evs eb ∧ evs.map Prod.fst = ll[j].take m ∧ ∀ i (h : i < ll[j].length), i < m → (ll[j][i].k == 3 && ll[j][i].n == k) = false) (fun _ i _ => ll[j].length - (intOf i).toNat)
            case atStart => exact ⟨0, [], none, _, Nat.zero_le _, rfl, CutSt.start wb, rfl, fun i _ h => by omega⟩
            case round =>
              obtain ⟨m, evs, eb, D2, hm, rfl, hC, hE, hN⟩ := hrel
              have hlev : evs.length = m := by
                have := congrArg List.length hE
                rw [List.length_map, List.length_take] at this
                omega
              have HC := Lib.hid hC
              have HEQ := Lib.hid hE
              have HN := Lib.hid hN
              have HLEV := Lib.hid hlev
              obtain ⟨ea, ec, rfl⟩ := hC.at_.own.form
              have hcb := hC.below
              clear hC hE hN hlev
              by_cases hlt3 : m < ll[j].length
              · obtain ⟨b2, o2, ra, rn, rc, rfl, _, hb2, y0, y1, y2, y3, y4, yr⟩ := (HE.out.below hcb).at hlt3
                have hrow := HL2.out _ (List.getElem_mem hlt3)
                have hstep := fun (h : (ll[j][m].k == 3 && ll[j][m].n == k) = false) (i : Nat) (hi : i < ll[j].length) (him : i < m + 1) => (show (ll[j][i].k == 3 && ll[j][i].n == k) = false from by
                  by_cases e : i = m
                  · subst e; exact h
                  · exact HN.out i hi (by omega))
                have hhit := fun (h : (ll[j][m].k == 3 && ll[j][m].n == k) = true) => cutAt_hit hlt3 h HN.out
                have hsucc : ll[j].take (m + 1) = ll[j].take m ++ [ll[j][m]] := List.take_succ_eq_append_getElem hlt3
                have HSTEP := Lib.hid hstep
                have HHIT := Lib.hid hhit
                have HSUC := Lib.hid hsucc
                clear hstep hhit hsucc
                generalize ll[j][m] = x at y0 y1 y2 y3 y4 yr hrow HSTEP HHIT HSUC
                cases hbr : (x.k == 3 && x.n == k)
                · have HBR := Lib.hid hbr
                  have hcase : (x.k == 3) = false ∨ (x.k = 3 ∧ (x.n == k) = false) := by
                    cases h3 : (x.k == 3)
                    · exact .inl rfl
                    · rw [h3] at hbr; exact .inr ⟨by simpa using h3, by simpa using hbr⟩
                  obtain ⟨xk, xn, xt, xrow, xc⟩ := x
                  dsimp only at y0 y1 y2 y3 y4 yr hrow hcase
                  clear hbr
                  rcases hcase with hk3 | ⟨rfl, hkn⟩
                  · have hbox : Below wr.heap.size wr (wr.alloc (Obj.cells #[.int .i64 xk, .int .i64 xn, .int .i64 xt, .slice ra rn rc, .int .i64 xc] 34)) := (Below.refl _ _).alloc (Nat.le_refl _) _
                    have HCB := Lib.hid (HC.out.next hbox)
                    have hF := f43_any (wr.alloc (Obj.cells #[.int .i64 xk, .int .i64 xn, .int .i64 xt, .slice ra rn rc, .int .i64 xc] 34)) ⟨xk, xn, xt, xrow, xc⟩ (.slice ra rn rc) D (yr.below hbox) hrow
                    have HF := Lib.hid hF
                    clear hF yr hbox hcb
                    go_wp2_with (first
                      | (go_at_call 43; refine HF.out.mono ?_; rintro e w1 ⟨r1, rfl, hr1, hb1⟩; obtain ⟨ra1, rn1, rc1, rfl⟩ := hr1.form'; have HR1 := Lib.hid hr1; have HB1 := Lib.hid hb1; clear hr1 hb1)
                      | (at_builtin; refine wpList_append_S rfl (.tmp 55) (.tmp 58) 49 rfl 34 i1 _ 5 56 Try.underlying49 hi1 hz10 hz11 hz12 rfl (by omega) (.slice ea evs.length ec) evs.length (evs.flatMap ecl) eb rfl (((HCB.out.next HB1.out).next ((Below.refl _ _).alloc (Nat.le_refl _) _)).at_.own) (.slice (some ⟨w1.heap.size, 0, none⟩) 1 1) 1 (ecl (⟨xk, xn, xt, xrow, xc⟩, .slice ra1 rn1 rc1)) rfl (EvsAt.src1 w1 (⟨xk, xn, xt, xrow, xc⟩, .slice ra1 rn1 rc1)) (fun u hu => by simp only [ecl, List.mem_cons, List.not_mem_nil, or_false] at hu; rcases hu with rfl | rfl | rfl | rfl | rfl <;> rfl) (by simp only [maxLen]; have := HLEV.out; omega) (by have := HLEV.out; omega) ?_; intro v2 w2 eb2 hown2 hgrow2 hat2; have HC2 := Lib.hid (HCB.out.add (p := (⟨xk, xn, xt, xrow, xc⟩, .slice ra1 rn1 rc1)) HB1.out HR1.out (by have := HLEV.out; omega) hown2 hgrow2 hat2); obtain ⟨sa2, sc2, rfl⟩ := hown2.form; clear hown2 hgrow2 hat2))
                    go_roundw
                    case rel => exact ⟨m + 1, _, _, _, by omega, by go_num, HC2.out, by rw [HSUC.out, List.map_append, HEQ.out]; rfl, HSTEP.out HBR.out⟩
                    case measure => simp [intOf]; omega
                  · have hbox : Below wr.heap.size wr (wr.alloc (Obj.cells #[.int .i64 3, .int .i64 xn, .int .i64 xt, .slice ra rn rc, .int .i64 xc] 34)) := (Below.refl _ _).alloc (Nat.le_refl _) _
                    have HCB := Lib.hid (HC.out.next hbox)
                    have hF := f43_any (wr.alloc (Obj.cells #[.int .i64 3, .int .i64 xn, .int .i64 xt, .slice ra rn rc, .int .i64 xc] 34)) ⟨3, xn, xt, xrow, xc⟩ (.slice ra rn rc) D (yr.below hbox) hrow
                    have HF := Lib.hid hF
                    clear hF yr hbox hcb
                    go_wp2_with (first
                      | (go_at_call 43; refine HF.out.mono ?_; rintro e w1 ⟨r1, rfl, hr1, hb1⟩; obtain ⟨ra1, rn1, rc1, rfl⟩ := hr1.form'; have HR1 := Lib.hid hr1; have HB1 := Lib.hid hb1; clear hr1 hb1)
                      | (at_builtin; refine wpList_append_S rfl (.tmp 55) (.tmp 58) 49 rfl 34 i1 _ 5 56 Try.underlying49 hi1 hz10 hz11 hz12 rfl (by omega) (.slice ea evs.length ec) evs.length (evs.flatMap ecl) eb rfl (((HCB.out.next HB1.out).next ((Below.refl _ _).alloc (Nat.le_refl _) _)).at_.own) (.slice (some ⟨w1.heap.size, 0, none⟩) 1 1) 1 (ecl (⟨3, xn, xt, xrow, xc⟩, .slice ra1 rn1 rc1)) rfl (EvsAt.src1 w1 (⟨3, xn, xt, xrow, xc⟩, .slice ra1 rn1 rc1)) (fun u hu => by simp only [ecl, List.mem_cons, List.not_mem_nil, or_false] at hu; rcases hu with rfl | rfl | rfl | rfl | rfl <;> rfl) (by simp only [maxLen]; have := HLEV.out; omega) (by have := HLEV.out; omega) ?_; intro v2 w2 eb2 hown2 hgrow2 hat2; have HC2 := Lib.hid (HCB.out.add (p := (⟨3, xn, xt, xrow, xc⟩, .slice ra1 rn1 rc1)) HB1.out HR1.out (by have := HLEV.out; omega) hown2 hgrow2 hat2); obtain ⟨sa2, sc2, rfl⟩ := hown2.form; clear hown2 hgrow2 hat2))
                    go_roundw
                    case rel => exact ⟨m + 1, _, _, _, by omega, by go_num, HC2.out, by rw [HSUC.out, List.map_append, HEQ.out]; rfl, HSTEP.out HBR.out⟩
                    case measure => simp [intOf]; omega
                · obtain ⟨xk, xn, xt, xrow, xc⟩ := x
                  dsimp only at y0 y1 y2 y3 y4 yr hrow hbr
                  have hb2' : xk = 3 ∧ xn = k := by simpa using hbr
                  obtain ⟨rfl, rfl⟩ := hb2'
                  have hev : evs.map Prod.fst = cutAt xn ll[j] := by rw [HHIT.out hbr, HEQ.out]
                  have HEV := Lib.hid hev
                  have hbox : Below wr.heap.size wr (wr.alloc (Obj.cells #[.int .i64 3, .int .i64 xn, .int .i64 xt, .slice ra rn rc, .int .i64 xc] 34)) := (Below.refl _ _).alloc (Nat.le_refl _) _
                  have HCB := Lib.hid (HC.out.next hbox)
                  clear hbox hcb yr hev hbr
                  have hs0 : SlOwn ((wr.alloc (Obj.cells #[.int .i64 3, .int .i64 xn, .int .i64 xt, .slice ra rn rc, .int .i64 xc] 34)).alloc (Obj.cells #[.slice ea evs.length ec] 49)) 49 1 (.slice sa us.length sc) us.length us blk := (HL.out.next (HCB.out.below.alloc HCB.out.below.size _)).own
                  have hs1 := LlSt.src1 (wr.alloc (Obj.cells #[.int .i64 3, .int .i64 xn, .int .i64 xt, .slice ra rn rc, .int .i64 xc] 34)) (.slice ea evs.length ec)
                  rw [World.size_alloc] at hs1
                  have HS0 := Lib.hid hs0
                  have HS1 := Lib.hid hs1
                  clear hs0 hs1
                  go_wp2_with (at_builtin; refine wpList_append_S rfl (.tmp 61) (.tmp 63) 47 rfl 49 i2 _ 1 24 Try.underlying47 hi2 hz20 hz21 hz22 rfl (by omega) (.slice sa us.length sc) us.length us blk rfl HS0.out _ 1 [.slice ea evs.length ec] rfl HS1.out (fun u hu => by simp at hu; subst hu; rfl) (by simp only [maxLen]; have := HSL.out; omega) (by have := HSL.out; omega) ?_; intro v2 w2 lb2 hown2 hgrow2 hat2; have HL2' := Lib.hid (HL.out.cut HCB.out hlt2 HEV.out hown2 hgrow2 hat2); obtain ⟨sa2, sc2, rfl⟩ := hown2.form; clear hown2 hgrow2 hat2)
                  obtain ⟨D3, hL3⟩ := HL2'.out
                  have HL3 := Lib.hid hL3
                  clear hL3 HL2'
                  go_roundw
                  case rel => exact ⟨j + 1, _, _, _, by omega, by go_num, HL3.out⟩
                  case measure => simp [intOf]; omega
              · have hme : m = ll[j].length := by omega
                have hev : evs.map Prod.fst = cutAt k ll[j] := by
                  rw [cutAt_none (fun i hi => HN.out i hi (by omega)), HEQ.out, List.take_of_length_le (by omega)]
                have HEV := Lib.hid hev
                clear hme hev hcb
                have hs0 : SlOwn (wr.alloc (Obj.cells #[.slice ea evs.length ec] 49)) 49 1 (.slice sa us.length sc) us.length us blk := (HL.out.next (HC.out.below.alloc HC.out.below.size _)).own
                have hs1 := LlSt.src1 (wr) (.slice ea evs.length ec)
                have HS0 := Lib.hid hs0
                have HS1 := Lib.hid hs1
                clear hs0 hs1
                go_wp2_with (at_builtin; refine wpList_append_S rfl (.tmp 61) (.tmp 63) 47 rfl 49 i2 _ 1 24 Try.underlying47 hi2 hz20 hz21 hz22 rfl (by omega) (.slice sa us.length sc) us.length us blk rfl HS0.out _ 1 [.slice ea evs.length ec] rfl HS1.out (fun u hu => by simp at hu; subst hu; rfl) (by simp only [maxLen]; have := HSL.out; omega) (by have := HSL.out; omega) ?_; intro v2 w2 lb2 hown2 hgrow2 hat2; have HL2' := Lib.hid (HL.out.cut HC.out hlt2 HEV.out hown2 hgrow2 hat2); obtain ⟨sa2, sc2, rfl⟩ := hown2.form; clear hown2 hgrow2 hat2)
                obtain ⟨D3, hL3⟩ := HL2'.out
                have HL3 := Lib.hid hL3
                clear hL3 HL2'
                go_roundw
                case rel => exact ⟨j + 1, _, _, _, by omega, by go_num, HL3.out⟩
                case measure => simp [intOf]; omega
          · have hje : j = ll.length := by omega
            subst hje
            have HL := Lib.hid hL
            obtain ⟨sa, sc, rfl⟩ := hL.own.form
            clear hL
            go_wp2
            refine bodyPost_ret (v := .tuple #[.slice sa us.length sc, .int .i64 0]) (by kernel_rfl) rfl ⟨_, by rw [H0.out], ?_, HB.out.trans (HL.out.below.mono HB.out.size)⟩
            rw [H0.out, if_pos rfl]
            have h3 := HL.out
            rw [List.take_length] at h3
            exact h3.lists (by simp; omega)
end leaves

end Go.Proofs.Ytdnkfgnjeibjeaa

namespace Go.Proofs.Ytdnkfgnjeibjeaa
open Go.RowKit

def rightErr (ll : List (List Elem)) : Int := if ll.any (fun l => l.any badE) then 1 else if ll.length < 1 ∨ 200 < ll.length then 7 else 0

theorem cutErr_right (ll : List (List Elem)) (k : Int) : cutErr ll k = if rightErr ll = 0 then (if k < 1 then 7 else 0) else rightErr ll := by
  unfold cutErr rightErr
  by_cases h : (ll.any fun l => l.any badE) = true
  · simp [h]
  · rw [if_neg h, if_neg h]
    by_cases h2 : ll.length < 1 ∨ 200 < ll.length
    · rw [if_pos (.inr h2), if_pos h2]; simp
    · rw [if_neg h2, if_pos rfl]
      by_cases h3 : k < 1
      · rw [if_pos (.inl h3), if_pos h3]
      · rw [if_neg (fun e => e.elim h3 h2), if_neg h3]

theorem LlSt.copy {w1 wr w2 w3 : World} {D D1 : Nat → Prop} {sv v2 v3 : Value} {us : List Value} {ll : List (List Elem)} {k : Int} {j m : Nat} {blk eb blk3 : Option Nat} {evs : List EV} (h : LlSt w1 wr D1 sv us ((ll.take j).map (cutAt k)) blk) (hD : ∀ b, D b → b < w1.heap.size)
    (hj : j < ll.length) (he : evs.map Prod.fst = ll[j]) (hm : m ≤ ll[j].length) (hc : cutAt k ll[j] = ll[j].take m) (hr : ∀ p ∈ evs, RowAt wr D p.2 p.1.row) (hsm : ll[j].length ≤ 1000000)
    (hs2 : SlOwn w2 34 5 v2 m ((evs.take m).flatMap ecl) eb) (hg2 : (wr.alloc (.cells #[] 34)).grownBy w2 (some wr.heap.size)) (ha2 : eb = some wr.heap.size ∨ eb = some (wr.alloc (.cells #[] 34)).heap.size)
    (hs : SlOwn w3 49 1 v3 (us.length + 1) (us ++ [v2]) blk3) (hg : (w2.alloc (.cells #[v2] 49)).grownBy w3 blk) (hat : blk3 = blk ∨ blk3 = some (w2.alloc (.cells #[v2] 49)).heap.size) :
    ∃ D, LlSt w1 w3 D v3 (us ++ [v2]) ((ll.take (j + 1)).map (cutAt k)) blk3 := by
  have hel : evs.length = ll[j].length := by rw [← he, List.length_map]
  have hb : Below wr.heap.size wr w2 := ((Below.refl _ _).alloc (Nat.le_refl _) _).grown hg2 (by simp) (fun q hq => by injection hq with hq; omega)
  have htl : (evs.take m).length = m := by rw [List.length_take]; omega
  have hev : EvsAt w2 D v2 (evs.take m) eb := by
    refine ⟨?_, fun p hp => (hr p (List.mem_of_mem_take hp)).below hb, by omega⟩
    rw [htl]
    simpa using hs2
  have hu : ElemsAt w2 (fun b => D b ∨ eb = some b) v2 (cutAt k ll[j]) := by
    rw [hc, ← he, ← List.map_take]
    exact hev.elems (fun b hb => .inl hb) (fun b hb => .inr hb)
  have := (h.next hb).add hu hs2.cap (fun b hb e => by
    have hlt : b < wr.heap.size := by have := h.own; rw [e] at this; exact this.blk_lt
    have hge := h.new b e
    rcases hb with hb | hb
    · have := hD b hb; omega
    · rcases ha2 with e' | e' <;> rw [hb] at e' <;> injection e' with e'
      · omega
      · simp at e'; omega) hs hg hat
  rw [List.take_succ_eq_append_getElem hj, List.map_append]
  exact ⟨_, this⟩

section leaves
set_option maxHeartbeats 1000000
set_option maxRecDepth 100000

theorem f64_any (w : World) (v : Value) (ll : List (List Elem)) (D : Nat → Prop) (h : ListsAt w D v ll) :
    Calls Try.prog 64 #[v] w fun e w' => e = .returned (.int .i64 (rightErr ll)) ∧ Below w.heap.size w w' := by
  have H := Lib.hid h
  obtain ⟨va, vc, rfl, hl⟩ := h.form
  clear h
  go_enter Try.func64, Try.ntmps64
  go_wp2
  go_loopw [3] (fun i wr => ∃ j : Nat, j ≤ ll.length ∧ i = .int .i64 j ∧ (∀ i (h : i < ll.length), i < j → ll[i].any badE = false) ∧ Below w.heap.size w wr) (fun i _ => ll.length - (intOf i).toNat)
  case atStart => exact ⟨0, by omega, rfl, by omega, Below.refl _ _⟩
  case round =>
    obtain ⟨j, hj, rfl, hv, hb⟩ := hrel
    have HV := Lib.hid hv
    clear hv
    by_cases hlt : j < ll.length
    · obtain ⟨wb, rfl⟩ : ∃ wb : World, wb = wr := ⟨_, rfl⟩
      obtain ⟨b, o, ua, uc, rfl, hDb, hbx, x0, xe, huc⟩ := (H.out.below hb).at hlt
      have HE := Lib.hid xe
      have HB := Lib.hid hb
      have hll : ll[j].length ≤ 9223372036854775807 := xe.form.elim fun _ h => h.elim fun _ h => h.2
      clear hb xe
      go_wp2
      go_loopw [4] (fun i wr => ∃ m : Nat, m ≤ ll[j].length ∧ i = .int .i64 m ∧ (∀ i (h : i < ll[j].length), i < m → badE ll[j][i] = false) ∧ Below wb.heap.size wb wr) (fun i _ => ll[j].length - (intOf i).toNat)
      case atStart => exact ⟨0, by omega, rfl, by omega, Below.refl _ _⟩
      case round =>
        obtain ⟨m, hm, rfl, hn, hbc⟩ := hrel
        have HN := Lib.hid hn
        clear hn
        have x0' : wr.cell? ⟨b, o + j, none⟩ = some (.slice ua ll[j].length uc) := (hbc.cell (p := ⟨b, o + j, none⟩) hbx).trans x0
        have hbx' : b < wr.heap.size := Nat.lt_of_lt_of_le hbx hbc.size
        by_cases hlt2 : m < ll[j].length
        · obtain ⟨b2, o2, ra, rn, rc, rfl, _, hb2, y0, y1, y2, y3, y4, yr⟩ := (HE.out.below hbc).at hlt2
          have hC := f66_any ll[j][m] (.slice ra rn rc) wr D yr
          have HBC := Lib.hid hbc
          clear yr hbc
          have hbad : badE ll[j][m] = !validElem ll[j][m] := rfl
          cases hv : validElem ll[j][m] <;> rw [hv] at hC hbad
          · have HC := Lib.hid hC
            have HBAD := Lib.hid hbad
            clear hC hbad hv
            go_wp2_with (go_at_call 66; refine HC.out.mono ?_; rintro e w1 ⟨rfl, hb1⟩; have HB1 := Lib.hid (HB.out.trans ((HBC.out.trans (hb1.mono HBC.out.size)).mono HB.out.size)); clear hb1)
            go_ret
            refine ⟨ret_int ?_, HB1.out⟩
            unfold rightErr
            rw [if_pos (List.any_eq_true.2 ⟨ll[j], List.getElem_mem hlt, List.any_eq_true.2 ⟨ll[j][m], List.getElem_mem hlt2, by rw [HBAD.out]; rfl⟩⟩)]
          · have HC := Lib.hid hC
            have HBAD := Lib.hid hbad
            clear hC hbad hv
            go_wp2_with (go_at_call 66; refine HC.out.mono ?_; rintro e w1 ⟨rfl, hb1⟩; have HB1 := Lib.hid (HBC.out.trans (hb1.mono HBC.out.size)); clear hb1)
            go_roundw
            case rel =>
              refine ⟨m + 1, by omega, by go_num, fun i hi him => ?_, HB1.out⟩
              by_cases e : i = m
              · subst e; rw [HBAD.out]; rfl
              · exact HN.out i hi (by omega)
            case measure => simp [intOf]; omega
        · have hall : ll[j].any badE = false := by
            rw [List.any_eq_false]
            intro x hx
            obtain ⟨i, hi, rfl⟩ := List.mem_iff_getElem.1 hx
            rw [HN.out i hi (by omega)]
            decide
          have HALL := Lib.hid hall
          have HBC := Lib.hid hbc
          clear hall hbc
          go_wp2
          go_roundw
          case rel =>
            refine ⟨j + 1, by omega, by go_num, fun i hi hij => ?_, HB.out.trans (HBC.out.mono HB.out.size)⟩
            by_cases e : i = j
            · subst e; exact HALL.out
            · exact HV.out i hi (by omega)
          case measure => simp [intOf]; omega
    · have hall : ll.any (fun l => l.any badE) = false := by
        rw [List.any_eq_false]
        intro x hx
        obtain ⟨i, hi, rfl⟩ := List.mem_iff_getElem.1 hx
        rw [HV.out i hi (by omega)]
        decide
      have HALL := Lib.hid hall
      have HB := Lib.hid hb
      have hC := fun (W : World) => f84_any (ll.length : Int) 200 W
      clear hall hb
      by_cases hbad : ll.length < 1 ∨ 200 < ll.length
      · have hw : withinB (ll.length : Int) 1 200 = false := by simp [withinB]; omega
        rw [hw] at hC
        have HC := Lib.hid hC
        clear hC hw
        go_wp2_with (go_at_call 84; refine (HC.out _).mono ?_; rintro e w1 ⟨rfl, rfl⟩)
        go_ret
        exact ⟨ret_int (by unfold rightErr; rw [HALL.out, if_pos hbad]; rfl), HB.out⟩
      · have hw : withinB (ll.length : Int) 1 200 = true := by simp [withinB]; omega
        rw [hw] at hC
        have HC := Lib.hid hC
        clear hC hw
        go_wp2_with (go_at_call 84; refine (HC.out _).mono ?_; rintro e w1 ⟨rfl, rfl⟩)
        go_ret
        exact ⟨ret_int (by unfold rightErr; rw [HALL.out, if_neg hbad]; rfl), HB.out⟩

theorem Src.take {w : World} {v : Value} {evs : List EV} {a : Option Addr} {n c : Nat} (h : Src w 5 (.slice a n c) evs.length (evs.flatMap ecl)) {m : Nat} (hm : m ≤ evs.length) (hv : v = .slice a m c) : Src w 5 v m ((evs.take m).flatMap ecl) := by
  obtain ⟨hl, a', c', e, hx⟩ := h
  injection e with e1 e2 e3
  subst e1 e3 hv
  refine ⟨by rw [flat_len ecl_len, List.length_take]; congr 1; omega, a, c, rfl, ?_⟩
  rcases hx with hx | ⟨ad, ha, hc⟩
  · left
    rw [← flat_take ecl_len, hx]; simp
  · refine .inr ⟨ad, ha, fun j u hu => hc j u ?_⟩
    rw [← flat_take ecl_len, List.getElem?_take] at hu
    split at hu
    · exact hu
    · cases hu

theorem f36_any (w : World) (v : Value) (ll : List (List Elem)) (k : Int) (D : Nat → Prop) (h : ListsAt w D v ll) (hD : ∀ b, D b → b < w.heap.size) (hsm : smallLL ll) :
    Calls Try.prog 36 #[v, .int .i64 k] w (CutTo w ll k) := by
  have H := Lib.hid h
  have hR := f64_any w v ll D h
  obtain ⟨va, vc, rfl, hl⟩ := h.form
  have HSM := Lib.hid hsm
  have hce := cutErr_right ll k
  have HD := Lib.hid hD
  clear h hsm hD
  by_cases hr : rightErr ll = 0
  · rw [hr] at hR
    rw [if_pos hr] at hce
    have HR := Lib.hid hR
    by_cases hk : k < 1
    · rw [if_pos hk] at hce
      have HCE := Lib.hid hce
      clear hR hr hce
      go_enter Try.func36, Try.ntmps36
      go_wp2_with (go_at_call 64; refine HR.out.mono ?_; rintro e w1 ⟨rfl, hb1⟩; have HB1 := Lib.hid hb1; clear hb1)
      exact bodyPost_ret (v := .tuple #[.slice none 0 0, .int .i64 7]) (by kernel_rfl) rfl (CutTo.no HCE.out (by decide) rfl HB1.out)
    · rw [if_neg hk] at hce
      have HCE := Lib.hid hce
      have hlen : ll.length ≤ 200 := by
        unfold rightErr at hr
        split at hr
        · omega
        · split at hr
          · omega
          · omega
      have hkd : decide (k < 1) = false := by simpa using hk
      clear hR hr hce
      go_enter Try.func36, Try.ntmps36
      go_wp2_with (go_at_call 64; refine HR.out.mono ?_; rintro e w1 ⟨rfl, hb1⟩; have HB1 := Lib.hid hb1; clear hb1)
      obtain ⟨i1, hi1, hz10, hz11, hz12⟩ := info_parts info34
      obtain ⟨i2, hi2, hz20, hz21, hz22⟩ := info_parts info49
      go_loopw [7, 8] (fun s4 i wr => ∃ (j : Nat) (us : List Value) (blk : Option Nat) (D1 : Nat → Prop), j ≤ ll.length ∧ i = .int .i64 j ∧ LlSt w1 wr D1 s4 us ((ll.take j).map (cutAt k)) blk) (fun _ i _ => ll.length - (intOf i).toNat)
      case atStart => exact ⟨0, [], none, _, Nat.zero_le _, rfl, LlSt.start w1⟩
      case round =>
        obtain ⟨j, us, blk, D1, hj2, rfl, hL⟩ := hrel
        by_cases hlt2 : j < ll.length
        · have HL := Lib.hid hL
          have hbw := HB1.out.trans (hL.below.mono HB1.out.size)
          have HBW := Lib.hid hbw
          have hlu := hL.len
          have hsl : us.length = j := by rw [hlu, List.length_map, List.length_take]; omega
          have HSL := Lib.hid hsl
          obtain ⟨sa, sc, rfl⟩ := hL.own.form
          obtain ⟨b, o, ua, uc, rfl, hDb, hbx, x0, xe, huc⟩ := (H.out.below hbw).at hlt2
          obtain ⟨hl1, hl2⟩ := HSM.out.2 _ (List.getElem_mem hlt2)
          have HE := Lib.hid xe
          clear hL hbw xe hlu hl2 hsl
          go_wp2
          go_loop [9] (fun i => ∃ m : Nat, m ≤ ll[j].length ∧ i = .int .i64 m ∧ ∀ i (h : i < ll[j].length), i < m → (ll[j][i].k == 3 && ll[j][i].n == k) = false) (fun i => ll[j].length - (intOf i).toNat)
          case atStart => exact ⟨0, Nat.zero_le _, rfl, fun i _ h => by omega⟩
          case round =>
            obtain ⟨m, hm, rfl, hN⟩ := hrel
            have HN := Lib.hid hN
            clear hN
            by_cases hlt3 : m < ll[j].length
            · obtain ⟨b2, o2, ra, rn, rc, rfl, _, hb2, y0, y1, y2, y3, y4, yr⟩ := HE.out.at hlt3
              clear yr
              cases h3 : (ll[j][m].k == 3)
              · have h3' : (ll[j][m].k != 3) = true := by simp [bne, h3]
                have hst : (ll[j][m].k == 3 && ll[j][m].n == k) = false := by rw [h3]; rfl
                have HST := Lib.hid hst
                clear hst
                go_wp2
                go_round
                case rel =>
                  refine ⟨m + 1, by omega, by go_num, fun i hi him => ?_⟩
                  by_cases e : i = m
                  · subst e; exact HST.out
                  · exact HN.out i hi (by omega)
                case measure => simp [intOf]; omega
              · have h3' : (ll[j][m].k != 3) = false := by simp [bne, h3]
                cases hn : (ll[j][m].n == k)
                · have hn' : (ll[j][m].n != k) = true := by simp [bne, hn]
                  have hst : (ll[j][m].k == 3 && ll[j][m].n == k) = false := by rw [h3, hn]; rfl
                  have HST := Lib.hid hst
                  clear hst
                  go_wp2
                  go_round
                  case rel =>
                    refine ⟨m + 1, by omega, by go_num, fun i hi him => ?_⟩
                    by_cases e : i = m
                    · subst e; exact HST.out
                    · exact HN.out i hi (by omega)
                  case measure => simp [intOf]; omega
                · have hn' : (ll[j][m].n != k) = false := by simp [bne, hn]
                  have hcut : cutAt k ll[j] = ll[j].take m := cutAt_hit hlt3 (by rw [h3, hn]; rfl) HN.out
                  have HCUT := Lib.hid hcut
                  clear hcut
                  obtain ⟨evs, hev1, hev2, hev3⟩ := HE.out.src
                  have hel : evs.length = ll[j].length := by rw [← hev1, List.length_map]
                  have hbx : Below wr.heap.size wr (wr.alloc (Obj.cells #[] 34)) := (Below.refl _ _).alloc (Nat.le_refl _) _
                  have hown : SlOwn (wr.alloc (.cells #[] 34)) 34 5 (.slice (some ⟨wr.heap.size, 0, none⟩) 0 0) 0 [] (some wr.heap.size) :=
                    ⟨by simp, .inr ⟨wr.heap.size, 0, 0, #[], rfl, rfl, World.alloc_heap_new wr _, by omega, by simp [maxLen], by simp, by simp⟩⟩
                  rw [← hel] at hev2
                  have hsrc := hev2.take (m := m) (by omega) rfl
                  have hsrc2 : Src (wr.alloc (Obj.cells #[] 34)) 5 (.slice (some ⟨b2, o2, none⟩) m uc) m ((evs.take m).flatMap ecl) := by
                    obtain ⟨z1, z2, z3, z4, z5⟩ := hsrc
                    refine ⟨z1, z2, z3, z4, z5.imp id ?_⟩
                    rintro ⟨ad, ha, hc⟩
                    exact ⟨ad, ha, fun j u hu => by
                      have := hc j u hu
                      rw [← this]
                      exact hbx.cell (World.block_lt_of_cell? wr _ this)⟩
                  have hone : ∀ u ∈ (evs.take m).flatMap ecl, u.oneCell' = true := ecl_one (w := wr) (D := D) (fun p hp => hev3 p (List.mem_of_mem_take hp))
                  have HO := Lib.hid hown
                  have HSRC := Lib.hid hsrc2
                  have HONE := Lib.hid hone
                  have HEV1 := Lib.hid hev1
                  have HEV3 := Lib.hid hev3
                  clear hown hsrc hsrc2 hone hev1 hev2 hev3 hel hbx
                  go_wp2_with (first
                    | (at_builtin; refine wpList_append_S rfl (.tmp 56) (.tmp 62) 49 rfl 34 i1 _ 5 56 Try.underlying49 hi1 hz10 hz11 hz12 rfl (by omega) (.slice (some ⟨wr.heap.size, 0, none⟩) 0 0) 0 [] (some wr.heap.size) rfl HO.out (.slice (some ⟨b2, o2, none⟩) m uc) m ((evs.take m).flatMap ecl) rfl HSRC.out HONE.out (by simp only [maxLen]; omega) (by omega) ?_; intro v2 w2 eb2 hown2 hgrow2 hat2; simp only [Nat.zero_add, List.nil_append] at hown2; obtain ⟨z1, z2, rfl⟩ := hown2.form; have HW2 := Lib.hid hown2; have HG2 := Lib.hid hgrow2; have HA2 := Lib.hid hat2; clear hown2 hgrow2 hat2)
                    | (at_builtin; refine wpList_append_S rfl (.tmp 55) (.tmp 64) 47 rfl 49 i2 _ 1 24 Try.underlying47 hi2 hz20 hz21 hz22 rfl (by omega) (.slice sa us.length sc) us.length us blk rfl ((HL.out.next (((Below.refl _ _).alloc (Nat.le_refl _) _).grown HG2.out (by simp) (fun q hq => by injection hq with hq; omega))).next ((Below.refl _ _).alloc (Nat.le_refl _) _)).own _ 1 [.slice z1 m z2] rfl (LlSt.src1 w2 (.slice z1 m z2)) (fun u hu => by simp at hu; subst hu; rfl) (by simp only [maxLen]; have := HSL.out; omega) (by have := HSL.out; omega) ?_; intro v3 w3 lb3 hown3 hgrow3 hat3; have HL3 := Lib.hid (HL.out.copy (fun b hb => Nat.lt_of_lt_of_le (HD.out b hb) HB1.out.size) hlt2 HEV1.out hm HCUT.out HEV3.out hl1 HW2.out HG2.out HA2.out hown3 hgrow3 hat3); obtain ⟨sa3, sc3, rfl⟩ := hown3.form; clear hown3 hgrow3 hat3))
                  obtain ⟨D3, hL3⟩ := HL3.out
                  have HL4 := Lib.hid hL3
                  clear hL3 HL3
                  go_roundw
                  case rel => exact ⟨j + 1, _, _, _, by omega, by go_num, HL4.out⟩
                  case measure => simp [intOf]; omega
            · have hcut : cutAt k ll[j] = ll[j].take m := by
                rw [cutAt_none (fun i hi => HN.out i hi (by omega)), List.take_of_length_le (by omega)]
              have HCUT := Lib.hid hcut
              clear hcut
              obtain ⟨evs, hev1, hev2, hev3⟩ := HE.out.src
              have hel : evs.length = ll[j].length := by rw [← hev1, List.length_map]
              have hbx : Below wr.heap.size wr (wr.alloc (Obj.cells #[] 34)) := (Below.refl _ _).alloc (Nat.le_refl _) _
              have hown : SlOwn (wr.alloc (.cells #[] 34)) 34 5 (.slice (some ⟨wr.heap.size, 0, none⟩) 0 0) 0 [] (some wr.heap.size) :=
                ⟨by simp, .inr ⟨wr.heap.size, 0, 0, #[], rfl, rfl, World.alloc_heap_new wr _, by omega, by simp [maxLen], by simp, by simp⟩⟩
              rw [← hel] at hev2
              have hsrc := hev2.take (m := m) (by omega) rfl
              have hsrc2 : Src (wr.alloc (Obj.cells #[] 34)) 5 (.slice ua m uc) m ((evs.take m).flatMap ecl) := by
                obtain ⟨z1, z2, z3, z4, z5⟩ := hsrc
                refine ⟨z1, z2, z3, z4, z5.imp id ?_⟩
                rintro ⟨ad, ha, hc⟩
                exact ⟨ad, ha, fun j u hu => by
                  have := hc j u hu
                  rw [← this]
                  exact hbx.cell (World.block_lt_of_cell? wr _ this)⟩
              have hone : ∀ u ∈ (evs.take m).flatMap ecl, u.oneCell' = true := ecl_one (w := wr) (D := D) (fun p hp => hev3 p (List.mem_of_mem_take hp))
              have HO := Lib.hid hown
              have HSRC := Lib.hid hsrc2
              have HONE := Lib.hid hone
              have HEV1 := Lib.hid hev1
              have HEV3 := Lib.hid hev3
              clear hown hsrc hsrc2 hone hev1 hev2 hev3 hel hbx
              go_wp2_with (first
                | (at_builtin; refine wpList_append_S rfl (.tmp 56) (.tmp 62) 49 rfl 34 i1 _ 5 56 Try.underlying49 hi1 hz10 hz11 hz12 rfl (by omega) (.slice (some ⟨wr.heap.size, 0, none⟩) 0 0) 0 [] (some wr.heap.size) rfl HO.out (.slice ua m uc) m ((evs.take m).flatMap ecl) rfl HSRC.out HONE.out (by simp only [maxLen]; omega) (by omega) ?_; intro v2 w2 eb2 hown2 hgrow2 hat2; simp only [Nat.zero_add, List.nil_append] at hown2; obtain ⟨z1, z2, rfl⟩ := hown2.form; have HW2 := Lib.hid hown2; have HG2 := Lib.hid hgrow2; have HA2 := Lib.hid hat2; clear hown2 hgrow2 hat2)
                | (at_builtin; refine wpList_append_S rfl (.tmp 55) (.tmp 64) 47 rfl 49 i2 _ 1 24 Try.underlying47 hi2 hz20 hz21 hz22 rfl (by omega) (.slice sa us.length sc) us.length us blk rfl ((HL.out.next (((Below.refl _ _).alloc (Nat.le_refl _) _).grown HG2.out (by simp) (fun q hq => by injection hq with hq; omega))).next ((Below.refl _ _).alloc (Nat.le_refl _) _)).own _ 1 [.slice z1 m z2] rfl (LlSt.src1 w2 (.slice z1 m z2)) (fun u hu => by simp at hu; subst hu; rfl) (by simp only [maxLen]; have := HSL.out; omega) (by have := HSL.out; omega) ?_; intro v3 w3 lb3 hown3 hgrow3 hat3; have HL3 := Lib.hid (HL.out.copy (fun b hb => Nat.lt_of_lt_of_le (HD.out b hb) HB1.out.size) hlt2 HEV1.out hm HCUT.out HEV3.out hl1 HW2.out HG2.out HA2.out hown3 hgrow3 hat3); obtain ⟨sa3, sc3, rfl⟩ := hown3.form; clear hown3 hgrow3 hat3))
              obtain ⟨D3, hL3⟩ := HL3.out
              have HL4 := Lib.hid hL3
              clear hL3 HL3
              go_roundw
              case rel => exact ⟨j + 1, _, _, _, by omega, by go_num, HL4.out⟩
              case measure => simp [intOf]; omega
        · have hje : j = ll.length := by omega
          subst hje
          have HL := Lib.hid hL
          obtain ⟨sa, sc, rfl⟩ := hL.own.form
          clear hL
          go_wp2
          refine bodyPost_ret (v := .tuple #[.slice sa us.length sc, .int .i64 0]) (by kernel_rfl) rfl ⟨_, by rw [HCE.out], ?_, HB1.out.trans (HL.out.below.mono HB1.out.size)⟩
          rw [HCE.out, if_pos rfl]
          have h3 := HL.out
          rw [List.take_length] at h3
          exact h3.lists (by simp; omega)
  · have hcne : (rightErr ll != 0) = true := by simpa using hr
    rw [if_neg hr] at hce
    have HR := Lib.hid hR
    have HCE := Lib.hid hce
    have HNE := Lib.hid hr
    clear hR hce hr
    generalize rightErr ll = er at HR HCE HNE hcne
    go_enter Try.func36, Try.ntmps36
    go_wp2_with (go_at_call 64; refine HR.out.mono ?_; rintro e w1 ⟨rfl, hb1⟩; have HB1 := Lib.hid hb1; clear hb1)
    exact bodyPost_ret (v := .tuple #[.slice none 0 0, .int .i64 er]) (by simp [results, Try.results36, go_sem]) rfl (CutTo.no HCE.out HNE.out rfl HB1.out)
end leaves

end Go.Proofs.Ytdnkfgnjeibjeaa

namespace Go.Proofs.Ytdnkfgnjeibjeaa
open Go.RowKit

def barAt (k : Int) (e : Elem) : Bool := e.k == 3 && e.n == k

def outIdx (k : Int) (l : List (Int × Elem)) : Int := match l.findIdx? (fun o => barAt k o.2) with | some i => i | none => -1

theorem outIdx_hit {k : Int} {l : List (Int × Elem)} {j : Nat} (hj : j < l.length) (hb : barAt k l[j].2 = true) (h : ∀ i (h : i < l.length), i < j → barAt k l[i].2 = false) : outIdx k l = j := by
  have : l.findIdx? (fun o => barAt k o.2) = some j := by
    rw [List.findIdx?_eq_some_iff_getElem]
    exact ⟨hj, hb, fun i hi => by simp [h i (by omega) hi]⟩
  simp [outIdx, this]

theorem outIdx_none {k : Int} {l : List (Int × Elem)} (h : ∀ i (h : i < l.length), barAt k l[i].2 = false) : outIdx k l = -1 := by
  have : l.findIdx? (fun o => barAt k o.2) = none := by
    rw [List.findIdx?_eq_none_iff]
    intro x hx
    obtain ⟨i, hi, rfl⟩ := List.mem_iff_getElem.1 hx
    simp [h i hi]
  simp [outIdx, this]

theorem outIdx_cases (k : Int) (l : List (Int × Elem)) : (outIdx k l = -1 ∧ ∀ x ∈ l, barAt k x.2 = false) ∨ ∃ j : Nat, ∃ h : j < l.length, outIdx k l = j ∧ barAt k l[j].2 = true ∧ ∀ i (h : i < l.length), i < j → barAt k l[i].2 = false := by
  unfold outIdx
  cases h : l.findIdx? (fun o => barAt k o.2) with
  | none => exact .inl ⟨rfl, List.findIdx?_eq_none_iff.1 h⟩
  | some i =>
    obtain ⟨hi, hb, hc⟩ := List.findIdx?_eq_some_iff_getElem.1 h
    exact .inr ⟨i, hi, rfl, hb, fun j hj hji => by simpa using hc j hji⟩

theorem OutsAt.form {w : World} {D : Nat → Prop} {v : Value} {l : List (Int × Elem)} (h : OutsAt w D v l) : ∃ a c, v = .slice a l.length c ∧ l.length ≤ 9223372036854775807 := by
  obtain ⟨a, cap, rfl, hl, _⟩ := h
  exact ⟨a, cap, rfl, hl⟩

theorem OutsAt.at {w : World} {D : Nat → Prop} {a : Option Addr} {cap : Nat} {l : List (Int × Elem)} (h : OutsAt w D (.slice a l.length cap) l) {k : Nat} (hk : k < l.length) :
    ∃ b off ra rn rc, a = some ⟨b, off, none⟩ ∧ D b ∧ b < w.heap.size ∧ w.cell? ⟨b, off + k * 6, none⟩ = some (.int .i64 l[k].1) ∧ w.cell? ⟨b, off + k * 6 + 1, none⟩ = some (.int .i64 l[k].2.k) ∧ w.cell? ⟨b, off + k * 6 + 1 + 1, none⟩ = some (.int .i64 l[k].2.n) ∧ w.cell? ⟨b, off + k * 6 + 1 + 2, none⟩ = some (.int .i64 l[k].2.t) ∧
      w.cell? ⟨b, off + k * 6 + 1 + 3, none⟩ = some (.slice ra rn rc) ∧ w.cell? ⟨b, off + k * 6 + 1 + 4, none⟩ = some (.int .i64 l[k].2.c) ∧ RowAt w D (.slice ra rn rc) l[k].2.row := by
  obtain ⟨a', cap', hv, hl, hx⟩ := h
  injection hv with hv _ _
  subst hv
  obtain ⟨b, off, rfl, hD, hc⟩ := hx.resolve_left (fun e => by rw [e] at hk; simp at hk)
  obtain ⟨h0, r, h1, h2, h3, h4, h5, hr⟩ := hc k hk
  obtain ⟨ra, rn, rc, rfl⟩ := hr.form'
  exact ⟨b, off, ra, rn, rc, rfl, hD, cell_lt h0, h0, h1, h2, h3, h4, h5, hr⟩

abbrev oagg (i : Int) (x : Elem) (r : Value) : Value := .agg #[.int .i64 i, .int .i64 x.k, .int .i64 x.n, .int .i64 x.t, r, .int .i64 x.c]

section leaves
set_option maxHeartbeats 1000000
set_option maxRecDepth 100000

theorem f58_any (w : World) (i : Int) (x : Elem) (ra : Option Addr) (rn rc : Nat) (Bk : Nat) (k : Int) (hk : w.heap[Bk]? = some (.cells #[.int .i64 k] 3 (0, 0))) :
    Calls Try.prog 58 #[oagg i x (.slice ra rn rc), .pointer (some ⟨Bk, 0, none⟩)] w fun e w' => e = .returned (.bool (barAt k x)) ∧ Below w.heap.size w w' := by
  obtain ⟨k0, kf⟩ := blk1 hk
  have hkl := heap_lt hk
  clear hk
  cases h3 : (x.k == 3)
  · go_enter Try.func58, Try.ntmps58
    go_wp2
    go_ret
    exact ⟨ret_bool (by simp [barAt, h3]), (Below.refl _ _).alloc (Nat.le_refl _) _⟩
  · go_enter Try.func58, Try.ntmps58
    go_wp2
    go_ret
    exact ⟨ret_bool (by simp [barAt, h3]), (Below.refl _ _).alloc (Nat.le_refl _) _⟩

theorem f57_any (w : World) (v : Value) (l : List (Int × Elem)) (D : Nat → Prop) (h : OutsAt w D v l) (Bk : Nat) (k : Int) (hk : w.heap[Bk]? = some (.cells #[.int .i64 k] 3 (0, 0))) :
    Calls Try.prog 57 #[v, .func (.func 58) #[] #[.pointer (some ⟨Bk, 0, none⟩)]] w fun e w' => e = .returned (.int .i64 (outIdx k l)) ∧ Below w.heap.size w w' := by
  have H := Lib.hid h
  have HK := Lib.hid hk
  obtain ⟨va, vc, rfl, hl⟩ := h.form
  clear h hk
  go_enter Try.func57, Try.ntmps57
  go_wp2
  go_loopw [8] (fun i wr => ∃ j : Nat, j ≤ l.length ∧ i = .int .i64 j ∧ (∀ i (h : i < l.length), i < j → barAt k l[i].2 = false) ∧ Below w.heap.size w wr) (fun i _ => l.length - (intOf i).toNat)
  case atStart => exact ⟨0, by omega, rfl, by omega, Below.refl _ _⟩
  case round =>
    obtain ⟨j, hj, rfl, hv, hb⟩ := hrel
    have HV := Lib.hid hv
    clear hv
    by_cases hlt : j < l.length
    · obtain ⟨b, o, ra, rn, rc, rfl, hDb, hbx, x0, x1, x2, x3, x4, x5, xr⟩ := (H.out.below hb).at hlt
      have hC := f58_any wr l[j].1 l[j].2 ra rn rc Bk k ((hb.block Bk (heap_lt HK.out)).trans HK.out)
      have HB := Lib.hid hb
      clear xr hb
      cases hbar : barAt k l[j].2 <;> rw [hbar] at hC
      · have HC := Lib.hid hC
        have HBAR := Lib.hid hbar
        clear hC hbar
        go_wp2_with (go_at_call 58; refine HC.out.mono ?_; rintro e w1 ⟨rfl, hb1⟩; have HB1 := Lib.hid (HB.out.trans (hb1.mono HB.out.size)); clear hb1)
        go_roundw
        case rel =>
          refine ⟨j + 1, by omega, by go_num, fun i hi hij => ?_, HB1.out⟩
          by_cases e : i = j
          · subst e; exact HBAR.out
          · exact HV.out i hi (by omega)
        case measure => simp [intOf]; omega
      · have HC := Lib.hid hC
        have HBAR := Lib.hid hbar
        clear hC hbar
        go_wp2_with (go_at_call 58; refine HC.out.mono ?_; rintro e w1 ⟨rfl, hb1⟩; have HB1 := Lib.hid (HB.out.trans (hb1.mono HB.out.size)); clear hb1)
        go_ret
        exact ⟨ret_int (outIdx_hit hlt HBAR.out HV.out).symm, HB1.out⟩
    · have HB := Lib.hid hb
      clear hb
      go_wp2
      go_ret
      exact ⟨ret_int (outIdx_none (fun i hi => HV.out i hi (by omega))).symm, HB.out⟩
end leaves

/-- Lists in an array of their own; their blocks are apart, and apart from the rows' blocks. -/
structure AllSt (wr : World) (n B : Nat) (us : Nat → Value) (evs : Nat → List EV) (qb : Nat → Option Nat) (D : Nat → Prop) : Prop where
  arr : ∃ cs, wr.heap[B]? = some (.cells cs 49 (0, 0)) ∧ cs.size = n ∧ ∀ i, i < n → cs[i]? = some (us i)
  own : ∀ i, i < n → SlOwn wr 34 5 (us i) (evs i).length ((evs i).flatMap ecl) (qb i)
  rows : ∀ i, i < n → ∀ p ∈ evs i, RowAt wr D p.2 p.1.row
  inj : ∀ i j g, i < n → j < n → qb i = some g → qb j = some g → i = j
  hD : ∀ b, D b → b < wr.heap.size ∧ b ≠ B ∧ ∀ i, i < n → qb i ≠ some b

theorem AllSt.qbB {wr : World} {n B : Nat} {us : Nat → Value} {evs : Nat → List EV} {qb : Nat → Option Nat} {D : Nat → Prop} (h : AllSt wr n B us evs qb D) {i g : Nat} (hi : i < n) (hg : qb i = some g) : g ≠ B ∧ g < wr.heap.size := by
  obtain ⟨cs, hc, _⟩ := h.arr
  have := h.own i hi
  rw [hg] at this
  refine ⟨fun e => ?_, this.blk_lt⟩
  subst e
  rcases this.2 with ⟨_, _, e⟩ | ⟨g', o, cap, cur, e, _, hq, _⟩
  · cases e
  · injection e with e; subst e
    rw [hc] at hq; injection hq with hq; injection hq with _ hq; cases hq

theorem AllSt.keep {wr w' : World} {n B : Nat} {us : Nat → Value} {evs : Nat → List EV} {qb : Nat → Option Nat} {D : Nat → Prop} (h : AllSt wr n B us evs qb D) (hs : wr.heap.size ≤ w'.heap.size) (hk : ∀ b, (b = B ∨ D b ∨ ∃ i, i < n ∧ qb i = some b) → b < wr.heap.size → w'.heap[b]? = wr.heap[b]?) : AllSt w' n B us evs qb D := by
  obtain ⟨cs, hc, h1, h2⟩ := h.arr
  exact ⟨⟨cs, (hk B (.inl rfl) (heap_lt hc)).trans hc, h1, h2⟩, fun i hi => (h.own i hi).keep fun g hg => hk g (.inr (.inr ⟨i, hi, hg⟩)) (h.qbB hi hg).2, fun i hi p hp => (h.rows i hi p hp).keep fun b hb hl => hk b (.inr (.inl hb)) hl, h.inj, fun b hb => ⟨Nat.lt_of_lt_of_le (h.hD b hb).1 hs, (h.hD b hb).2⟩⟩

theorem AllSt.below {wr w' : World} {n B : Nat} {us : Nat → Value} {evs : Nat → List EV} {qb : Nat → Option Nat} {D : Nat → Prop} (h : AllSt wr n B us evs qb D) (hb : Below wr.heap.size wr w') : AllSt w' n B us evs qb D := h.keep hb.size fun b _ hl => hb.block b hl

theorem AllSt.widen {wr : World} {n B : Nat} {us : Nat → Value} {evs : Nat → List EV} {qb : Nat → Option Nat} {D D' : Nat → Prop} (h : AllSt wr n B us evs qb D) (hd : ∀ b, D b → D' b) (hD : ∀ b, D' b → b < wr.heap.size ∧ b ≠ B ∧ ∀ i, i < n → qb i ≠ some b) : AllSt wr n B us evs qb D' :=
  ⟨h.arr, h.own, fun i hi p hp => (h.rows i hi p hp).mono hd, h.inj, hD⟩

/-- An element is laid behind one of the lists. -/
theorem AllSt.add {wr w1 w2 : World} {n B i : Nat} {us : Nat → Value} {evs : Nat → List EV} {qb : Nat → Option Nat} {D : Nat → Prop} {p : EV} {v' : Value} {blk' : Option Nat} (h : AllSt wr n B us evs qb D) (hi : i < n) (hp : RowAt wr D p.2 p.1.row)
    (hb1 : Below wr.heap.size wr w1) (hs : SlOwn w2 34 5 v' ((evs i).length + 1) ((evs i).flatMap ecl ++ ecl p) blk') (hg : w1.grownBy w2 (qb i)) (hat : blk' = qb i ∨ blk' = some w1.heap.size) :
    AllSt (w2.setCell ⟨B, i, none⟩ v') n B (fun j => if j = i then v' else us j) (fun j => if j = i then evs i ++ [p] else evs j) (fun j => if j = i then blk' else qb j) D := by
  have h1 := h.below hb1
  obtain ⟨cs, hc, hcn, hcs⟩ := h1.arr
  have hBl := heap_lt hc
  have s1 := hb1.size
  have s2 := hg.size
  have hB2 : w2.heap[B]? = some (.cells cs 49 (0, 0)) := (hg.block B hBl (fun e => (h1.qbB hi e.symm).1 rfl)).trans hc
  have hset : ∀ b, b ≠ B → (w2.setCell ⟨B, i, none⟩ v').heap[b]? = w2.heap[b]? := fun b hb => heap_set_ne _ hb
  have hblk : ∀ g, blk' = some g → qb i = some g ∨ g = w1.heap.size := fun g hg' => by
    rcases hat with e | e
    · exact .inl (e ▸ hg')
    · rw [hg'] at e; injection e with e; exact .inr e
  have hblkB : ∀ g, blk' = some g → g ≠ B := fun g hg' => by
    rcases hblk g hg' with e | e
    · exact (h1.qbB hi e).1
    · omega
  have hkD : ∀ b, D b → b < w1.heap.size → (w2.setCell ⟨B, i, none⟩ v').heap[b]? = w1.heap[b]? := fun b hb hl => by
    obtain ⟨_, h3, h4⟩ := h1.hD b hb
    exact (hset b h3).trans (hg.block b hl (fun e => h4 i hi e.symm))
  refine ⟨⟨cs.setIfInBounds i v', heap_set hB2 v', by simpa using hcn, fun j hj => ?_⟩, fun j hj => ?_, fun j hj q hq => ?_, fun j k g hj hk hjg hkg => ?_, fun b hb => ⟨?_, (h1.hD b hb).2.1, fun j hj e => ?_⟩⟩
  · by_cases e : j = i
    · subst e; simp [hcn, hj]
    · have e' : ¬ i = j := fun h => e h.symm
      rw [Array.getElem?_setIfInBounds_ne e', if_neg e]; exact hcs j hj
  · by_cases e : j = i
    · subst e
      simp only [if_true]
      have := hs.keep (w' := w2.setCell ⟨B, j, none⟩ v') fun g hg' => hset g (hblkB g hg')
      simpa using this
    · simp only [e, if_false]
      exact (h1.own j hj).keep fun g hg' => (hset g (h1.qbB hj hg').1).trans (hg.block g (h1.qbB hj hg').2 (fun e' => e (h1.inj j i g hj hi hg' e'.symm)))
  · by_cases e : j = i
    · subst e
      simp only [if_true, List.mem_append, List.mem_singleton] at hq
      rcases hq with hq | rfl
      · exact (h1.rows j hj q hq).keep hkD
      · exact (hp.below hb1).keep hkD
    · simp only [e, if_false] at hq
      exact (h1.rows j hj q hq).keep hkD
  · by_cases e1 : j = i <;> by_cases e2 : k = i
    · omega
    · simp only [e1, e2, if_true, if_false] at hjg hkg
      rcases hblk g hjg with e | e
      · exact absurd (h1.inj k i g hk hi hkg e) e2
      · have := (h1.qbB hk hkg).2; omega
    · simp only [e1, e2, if_true, if_false] at hjg hkg
      rcases hblk g hkg with e | e
      · exact absurd (h1.inj j i g hj hi hjg e) e1
      · have := (h1.qbB hj hjg).2; omega
    · simp only [e1, e2, if_false] at hjg hkg
      exact h1.inj j k g hj hk hjg hkg
  · have := (h1.hD b hb).1
    simp [World.setCell]; omega
  · by_cases e1 : j = i
    · rw [if_pos e1] at e
      rcases hblk b e with e' | e'
      · exact (h1.hD b hb).2.2 i hi e'
      · have := (h1.hD b hb).1; omega
    · rw [if_neg e1] at e
      exact (h1.hD b hb).2.2 j hj e

end Go.Proofs.Ytdnkfgnjeibjeaa

namespace Go.Proofs.Ytdnkfgnjeibjeaa
open Go.RowKit

def listOf (i : Nat) (l : List (Int × Elem)) : List Elem := (l.filter fun o => o.1 == (i : Int)).map Prod.snd
def plainL (l : List Elem) : List Elem := l.filter fun e => !barE e
def okOut (n : Nat) (o : Int × Elem) : Bool := decide (0 ≤ o.1) && decide (o.1 < (n : Int)) && validElem o.2

/-- 'Consistent', by a way to compare. -/
def consWith (eq : List Elem → List Elem → Bool) (ll : List (List Elem)) (k : Int) (l : List (Int × Elem)) : Bool :=
  cutErr ll k == 0 && (match l.findIdx? (fun o => barAt k o.2) with
    | none => false
    | some j => (l.take j).all (okOut ll.length) && (List.range ll.length).all fun i => eq (plainL (listOf i (l.take j))) (plainL (cutAt k (ll.getD i []))))

theorem consWith_err {eq : List Elem → List Elem → Bool} {ll : List (List Elem)} {k : Int} {l : List (Int × Elem)} (h : cutErr ll k ≠ 0) : consWith eq ll k l = false := by
  unfold consWith
  have : (cutErr ll k == 0) = false := by simpa using h
  rw [this, Bool.false_and]

theorem consWith_none {eq : List Elem → List Elem → Bool} {ll : List (List Elem)} {k : Int} {l : List (Int × Elem)} (h : ∀ x ∈ l, barAt k x.2 = false) : consWith eq ll k l = false := by
  unfold consWith
  have : l.findIdx? (fun o => barAt k o.2) = none := List.findIdx?_eq_none_iff.2 h
  rw [this]
  simp

theorem consWith_some {eq : List Elem → List Elem → Bool} {ll : List (List Elem)} {k : Int} {l : List (Int × Elem)} (h0 : cutErr ll k = 0) {j : Nat} (hj : j < l.length) (hb : barAt k l[j].2 = true) (h : ∀ i (h : i < l.length), i < j → barAt k l[i].2 = false) :
    consWith eq ll k l = ((l.take j).all (okOut ll.length) && (List.range ll.length).all fun i => eq (plainL (listOf i (l.take j))) (plainL (cutAt k (ll.getD i [])))) := by
  unfold consWith
  have : l.findIdx? (fun o => barAt k o.2) = some j := by
    rw [List.findIdx?_eq_some_iff_getElem]
    exact ⟨hj, hb, fun i hi => by simp [h i (by omega) hi]⟩
  rw [this, h0]
  simp

theorem cutErr_zero {ll : List (List Elem)} {k : Int} (h : cutErr ll k = 0) : 1 ≤ ll.length ∧ ll.length ≤ 200 ∧ 1 ≤ k ∧ ∀ l ∈ ll, l.any badE = false := by
  unfold cutErr at h
  split at h
  · omega
  · rename_i h1
    split at h
    · omega
    · refine ⟨by omega, by omega, by omega, fun l hl => ?_⟩
      have h2 : (ll.any fun l => l.any badE) = false := by simpa using h1
      rw [List.any_eq_false] at h2
      have := h2 l hl
      simpa using this

/-- While what passed is laid out. -/
structure ConsSt (w wr : World) (n B : Nat) (us : Nat → Value) (evs : Nat → List EV) (qb : Nat → Option Nat) (pre : List (Int × Elem)) (f : Elem → Bool) : Prop where
  all : AllSt wr n B us evs qb (fun b => b < w.heap.size)
  eq : ∀ i, i < n → (evs i).map Prod.fst = (listOf i pre).filter f
  len : ∀ i, i < n → (evs i).length ≤ pre.length
  newB : w.heap.size ≤ B
  new : ∀ i, i < n → ∀ g, qb i = some g → w.heap.size ≤ g
  below : Below w.heap.size w wr

theorem ConsSt.next {w wr w' : World} {n B : Nat} {us : Nat → Value} {evs : Nat → List EV} {qb : Nat → Option Nat} {pre : List (Int × Elem)} {f : Elem → Bool} (h : ConsSt w wr n B us evs qb pre f) (hb : Below wr.heap.size wr w') : ConsSt w w' n B us evs qb pre f :=
  ⟨h.all.below hb, h.eq, h.len, h.newB, h.new, h.below.trans (hb.mono h.below.size)⟩

theorem ConsSt.start (w : World) (n : Nat) (f : Elem → Bool) : ConsSt w (w.alloc (.cells (madeCells #[.slice none 0 0] n) 49)) n w.heap.size (fun _ => .slice none 0 0) (fun _ => []) (fun _ => none) [] f := by
  refine ⟨⟨⟨_, World.alloc_heap_new w _, by rw [size_madeCells], fun i hi => ?_⟩, fun i hi => SlOwn.nil _ _ _, fun i hi p hp => (by cases hp), fun i j g _ _ hg => (by cases hg), fun b hb => ⟨by simp; omega, by omega, fun i hi e => by cases e⟩⟩, fun i hi => rfl, fun i hi => Nat.le_refl _, Nat.le_refl _, fun i hi g hg => (by cases hg), (Below.refl _ _).alloc (Nat.le_refl _) _⟩
  rw [← Array.getElem?_toList, toList_madeCells_one, List.getElem?_replicate_of_lt (by omega)]

theorem ConsSt.add {w wr w1 w2 : World} {n B i : Nat} {us : Nat → Value} {evs : Nat → List EV} {qb : Nat → Option Nat} {pre : List (Int × Elem)} {f : Elem → Bool} {x : Elem} {r v' : Value} {blk' : Option Nat} (h : ConsSt w wr n B us evs qb pre f) (hi : i < n) (hf : f x = true) (hp : RowAt wr (fun b => b < w.heap.size) r x.row)
    (hb1 : Below wr.heap.size wr w1) (hs : SlOwn w2 34 5 v' ((evs i).length + 1) ((evs i).flatMap ecl ++ ecl (x, r)) blk') (hg : w1.grownBy w2 (qb i)) (hat : blk' = qb i ∨ blk' = some w1.heap.size) :
    ConsSt w (w2.setCell ⟨B, i, none⟩ v') n B (fun j => if j = i then v' else us j) (fun j => if j = i then evs i ++ [(x, r)] else evs j) (fun j => if j = i then blk' else qb j) (pre ++ [((i : Int), x)]) f := by
  have hsz := h.below.size
  have s1 := hb1.size
  refine ⟨h.all.add hi (p := (x, r)) hp hb1 hs hg hat, fun j hj => ?_, fun j hj => ?_, h.newB, fun j hj g hg' => ?_, ?_⟩
  · have e0 : listOf j (pre ++ [((i : Int), x)]) = listOf j pre ++ if j = i then [x] else [] := by
      unfold listOf
      rw [List.filter_append, List.map_append]
      congr 1
      by_cases e : j = i
      · subst e; simp
      · have : ((i : Int) == (j : Int)) = false := by simp; omega
        simp [e, this]
    rw [e0, List.filter_append]
    by_cases e : j = i
    · subst e
      simp [h.eq j hj, hf]
    · simp [e, h.eq j hj]
  · rw [List.length_append]
    by_cases e : j = i
    · subst e
      have := h.len j hj
      simp; omega
    · have := h.len j hj
      simp [e]; omega
  · by_cases e : j = i
    · subst e
      simp only [if_true] at hg'
      rcases hat with e' | e'
      · exact h.new j hj g (e' ▸ hg')
      · rw [hg'] at e'; injection e' with e'; omega
    · simp only [e, if_false] at hg'
      exact h.new j hj g hg'
  · exact ((h.below.trans (hb1.mono hsz)).grown hg (by omega) (fun q hq => h.new i hi q hq)).setCell h.newB _

theorem ConsSt.skip {w wr : World} {n B : Nat} {us : Nat → Value} {evs : Nat → List EV} {qb : Nat → Option Nat} {pre : List (Int × Elem)} {f : Elem → Bool} {o : Int × Elem} (h : ConsSt w wr n B us evs qb pre f) (hf : f o.2 = false) : ConsSt w wr n B us evs qb (pre ++ [o]) f := by
  refine ⟨h.all, fun j hj => ?_, fun j hj => by rw [List.length_append]; have := h.len j hj; omega, h.newB, h.new, h.below⟩
  unfold listOf
  rw [List.filter_append, List.map_append, List.filter_append]
  have : (List.map Prod.snd ([o].filter fun p => p.1 == (j : Int))).filter f = [] := by
    by_cases e : (o.1 == (j : Int)) = true
    · simp [e, hf]
    · simp [e]
  rw [this, List.append_nil]
  exact h.eq j hj

/-- What a round reads. -/
theorem ConsSt.at {w wr : World} {n B : Nat} {us : Nat → Value} {evs : Nat → List EV} {qb : Nat → Option Nat} {pre : List (Int × Elem)} {f : Elem → Bool} (h : ConsSt w wr n B us evs qb pre f) {i : Nat} (hi : i < n) :
    ∃ sa sc, us i = .slice sa (evs i).length sc ∧ wr.cell? ⟨B, i, none⟩ = some (.slice sa (evs i).length sc) ∧ B < wr.heap.size ∧ qb i ≠ some B ∧ ∀ o, wr.frozen? ⟨B, o, none⟩ = false := by
  obtain ⟨cs, hc, hcn, hcs⟩ := h.all.arr
  obtain ⟨sa, sc, hu⟩ := (h.all.own i hi).form
  refine ⟨sa, sc, hu, ?_, heap_lt hc, fun e => (h.all.qbB hi e).1 rfl, blk_frozen hc⟩
  rw [cell_of_row wr B i cs 49 (0, 0) hc, hcs i hi, hu]

end Go.Proofs.Ytdnkfgnjeibjeaa
