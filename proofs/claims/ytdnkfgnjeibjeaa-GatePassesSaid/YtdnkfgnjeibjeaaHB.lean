import Derived.Test.YtdnkfgnjeibjeaaHA
import Derived.Test.YtdnkfgnjeibjeaaN8
namespace Go.Proofs.Ytdnkfgnjeibjeaa
open Go.RowKit Go.Shelf

/-- The law's state at a round. -/
def RSt (w2 wr : World) (n G B c : Nat) (ov : Value) : Prop :=
  ∃ D gs m us evs qb oblk outs ins, LSt w2 wr n G B D gs m us evs qb ov oblk outs ∧ AOk m ins outs c ∧ (∀ i, i < n → eL (evs i) = ins i) ∧ (∀ i, i < n → (ins i).length ≤ c ∧ ∀ x ∈ ins i, x.row.length ≤ 20)

theorem RSt.start {w w' : World} {n G : Nat} {ga : GS} (hg : GateAt w' NoB ga (Gm.new n true)) (hG : ga.G = G) (ho : ∀ b, ga.own n b → w.heap.size ≤ b) (hb : Below w.heap.size w w') :
    RSt w (w'.alloc (.cells (madeCells #[.slice none 0 0] n) 49)) n G w'.heap.size 0 (.slice none 0 0) := by
  have hb2 : Below w'.heap.size w' (w'.alloc (.cells (madeCells #[.slice none 0 0] n) 49)) := (Below.refl _ _).alloc (Nat.le_refl _) _
  have hst := (ConsSt.start w' n (fun _ => true)).all
  have hs := hb.size
  refine ⟨NoB, ga, Gm.new n true, fun _ => .slice none 0 0, fun _ => [], fun _ => none, none, [], fun _ => [], ⟨hg.below hb2, hG, rfl, fun b hb => hb.elim, ⟨hst.arr, hst.own, fun i hi p hp => (by cases hp), hst.inj, fun b hb' => ⟨by have := hb2.size; omega, by omega, fun i hi e => (by cases e)⟩⟩, SlOwn.nil _ _ _, fun o ho => (by cases ho), hs, fun i hi g hg => (by cases hg), fun g hg => (by cases hg), ho, ?_, fun i hi g hg => (by cases hg), fun g hg => (by cases hg), hb.trans (hb2.mono hs)⟩, AOk.new, fun i hi => rfl, fun i hi => ⟨Nat.le_refl _, fun x hx => (by cases hx)⟩⟩
  rintro (hh | hh)
  · have := hg.lt hh; omega
  · exact hh.elim

theorem RSt.mk' {w2 wr : World} {n G B c : Nat} {D : Nat → Prop} {gs : GS} {m : Gm} {us : Nat → Value} {evs : Nat → List EV} {qb : Nat → Option Nat} {ov : Value} {oblk : Option Nat} {outs : List OV} {ins : Nat → List Elem}
    (h : LSt w2 wr n G B D gs m us evs qb ov oblk outs) (ok : AOk m ins outs c) (he : ∀ i, i < n → eL (evs i) = ins i) (hs : ∀ i, i < n → (ins i).length ≤ c ∧ ∀ x ∈ ins i, x.row.length ≤ 20) : RSt w2 wr n G B c ov :=
  ⟨D, gs, m, us, evs, qb, oblk, outs, ins, h, ok, he, hs⟩

theorem AOk.more {m : Gm} {ins : Nat → List Elem} {outs : List OV} {c : Nat} (h : AOk m ins outs c) : AOk m ins outs (c + 1) :=
  ⟨h.al, h.good, h.under, h.done, h.holds, h.quiet, h.last, by have := h.cnt; omega⟩

theorem AllSt.at2 {wr : World} {n B : Nat} {us : Nat → Value} {evs : Nat → List EV} {qb : Nat → Option Nat} {D : Nat → Prop} (h : AllSt wr n B us evs qb D) {i : Nat} (hi : i < n) :
    ∃ sa sc, us i = .slice sa (evs i).length sc ∧ wr.cell? ⟨B, i, none⟩ = some (.slice sa (evs i).length sc) ∧ B < wr.heap.size ∧ qb i ≠ some B ∧ ∀ o, wr.frozen? ⟨B, o, none⟩ = false := by
  obtain ⟨cs, hc, hcn, hcs⟩ := h.arr
  obtain ⟨sa, sc, hu⟩ := (h.own i hi).form
  refine ⟨sa, sc, hu, ?_, heap_lt hc, fun e => (h.qbB hi e).1 rfl, blk_frozen hc⟩
  rw [cell_of_row wr B i cs 49 (0, 0) hc, hcs i hi, hu]

/-- The lists, as 'Consistent' reads them. -/
theorem AllSt.lists {wr : World} {n B : Nat} {us : Nat → Value} {evs : Nat → List EV} {qb : Nat → Option Nat} {D : Nat → Prop} (h : AllSt wr n B us evs qb D) (hn : n ≤ 1000000) (hl : ∀ i, i < n → (evs i).length ≤ 1000000) :
    ListsAt wr (fun _ => True) (.slice (some ⟨B, 0, none⟩) n n) ((List.range n).map fun i => eL (evs i)) := by
  obtain ⟨cs, hc, hcn, hcs⟩ := h.arr
  refine ⟨some ⟨B, 0, none⟩, n, by simp, by simp; omega, .inr ⟨B, 0, rfl, trivial, fun i hi => ?_⟩⟩
  have hi' : i < n := by simpa using hi
  refine ⟨us i, by rw [Nat.zero_add, cell_of_row wr B i cs 49 (0, 0) hc]; exact hcs i hi', ?_, (h.own i hi').cap⟩
  have he : EvsAt wr D (us i) (evs i) (qb i) := ⟨h.own i hi', h.rows i hi', hl i hi'⟩
  have := he.elems (D' := fun _ => True) (fun _ _ => trivial) (fun _ _ => trivial)
  simpa [eL] using this

section walks
set_option maxHeartbeats 1000000
set_option maxRecDepth 100000

theorem f8_main (w : World) (n : Nat) (v : Value) (l : List ActV) (D : Nat → Prop) (h : ActsAt w D v l) (hm : manyA l = false) (h1 : 1 ≤ n) (h2 : n ≤ 200) :
    Calls Try.prog 8 #[.int .i64 n, v] w fun e w' => e = .returned (.bool true) ∧ Below w.heap.size w w' := by
  have hM := fun (W : World) (hb : Below w.heap.size w W) => f11_any W v l D (h.below hb)
  rw [hm] at hM
  have HM := Lib.hid hM
  have HMA := Lib.hid hm
  have hlen := manyA_len hm
  obtain ⟨a, c, rfl, hl, hx⟩ := h
  have HX := Lib.hid hx
  clear hM hx hm
  obtain ⟨i2, hi2, hz20, hz21, hz22⟩ := info_parts info49
  have hmk : ∀ W : World, (Instr.makeSlice 47 (.int .i64 n) (.int .i64 n)).run Try.prog W = .ok (.slice (some ⟨W.heap.size, 0, none⟩) n n) (W.alloc (.cells (madeCells #[.slice none 0 0] n) 49)) := fun W => by
    have := run_make (P := Try.prog) W 47 49 i2 (.slice none 0 0) Try.underlying47 hi2 hz20 .i64 .i64 n n (by omega) (Int.le_refl _) (by rw [hz22]; omega) (by omega)
    rw [hz21] at this
    simpa [Value.cells] using this
  go_enter Try.func8, Try.ntmps8
  go_wp2_with (first
    | (go_at_call 10; refine (f10_any _).mono ?_; rintro e w1 ⟨rfl, hb1⟩; have HB1 := Lib.hid hb1; clear hb1)
    | (go_at_call 11; refine (HM.out _ HB1.out).mono ?_; rintro e w2 ⟨rfl, hb2⟩; have HB2 := Lib.hid (HB1.out.trans (hb2.mono HB1.out.size)); clear hb2)
    | (go_at_call 12; (with_reducible refine (f12_a _ n h1 h2).mono ?_); rintro e w3 ⟨G, rfl, ga, hga, hGG, hown, hb3⟩; have hst := RSt.start hga hGG hown hb3; have HST := Lib.hid hst; clear hga hGG hown hb3 hst))
  go_loopw [8, 9] (fun o i wr => ∃ (k : Nat), k ≤ l.length ∧ i = .int .i64 k ∧ RSt w2 wr n G w3.heap.size k o) (fun _ i _ => l.length - (intOf i).toNat)
  case atStart => exact ⟨0, Nat.zero_le _, rfl, HST.out⟩
  case round =>
    obtain ⟨k, hk, rfl, hT⟩ := hrel
    obtain ⟨D1, gs, m, us, evs, qb, oblk, outs, ins, hL, hok, hev, hsz⟩ := hT
    have hbw : Below w.heap.size w wr := HB2.out.trans (hL.bl.mono HB2.out.size)
    have HL := Lib.hid hL
    have HOK := Lib.hid hok
    have HEV := Lib.hid hev
    have HSZ := Lib.hid hsz
    have HBW := Lib.hid hbw
    clear hL hok hev hsz hbw
    by_cases hlt : k < l.length
    · obtain ⟨b, off, rfl, hbD, hc⟩ := HX.out.resolve_left (fun e => by rw [e] at hlt; simp at hlt)
      obtain ⟨c0, c1, r, e0, e1, e2, e3, e4, hr⟩ := hc k hlt
      have hbb : b < w.heap.size := World.block_lt_of_cell? w ⟨b, off + k * 7, none⟩ c0
      have hbr : b < wr.heap.size := Nat.lt_of_lt_of_le hbb HBW.out.size
      have hrow := manyA_false HMA.out hlt
      have hR := fun (W : World) (hb : Below w.heap.size w W) => hr.below hb
      have hC := fun (W : World) (hb : Below w.heap.size w W) => (show (W.cell? ⟨b, off + k * 7, none⟩ = some (.int .u8 l[k].kd)) ∧ (W.cell? ⟨b, off + k * 7 + 1, none⟩ = some (.int .i64 l[k].i)) ∧ W.cell? ⟨b, off + k * 7 + 2, none⟩ = some (.int .i64 l[k].e.k) ∧ W.cell? ⟨b, off + k * 7 + 2 + 1, none⟩ = some (.int .i64 l[k].e.n) ∧ W.cell? ⟨b, off + k * 7 + 2 + 2, none⟩ = some (.int .i64 l[k].e.t) ∧ W.cell? ⟨b, off + k * 7 + 2 + 3, none⟩ = some r ∧ W.cell? ⟨b, off + k * 7 + 2 + 4, none⟩ = some (.int .i64 l[k].e.c) from by
        have t : ∀ o, W.cell? ⟨b, o, none⟩ = w.cell? ⟨b, o, none⟩ := fun o => hb.cell (p := ⟨b, o, none⟩) hbb
        exact ⟨(t _).trans c0, (t _).trans c1, (t _).trans e0, (t _).trans e1, (t _).trans e2, (t _).trans e3, (t _).trans e4⟩)
      have HR := Lib.hid hR
      have HC := Lib.hid hC
      clear hc c0 c1 e0 e1 e2 e3 e4 hr hR hC
      obtain ⟨c0, c1, e0, e1, e2, e3, e4⟩ := HC.out wr HBW.out
      have j1 : (0 : Int) ≤ (k : Int) := by omega
      have j2 : (k : Int) < (l.length : Int) := by omega
      generalize hx : l[k] = x at *
      clear hx
      obtain ⟨xk, xi, xe⟩ := x
      dsimp only at c0 c1 e0 e1 e2 e3 e4 HR HC hrow
      go_wp2_with fail
      · go_roundw
        case rel => exact ⟨k + 1, by omega, by go_num, RSt.mk' HL.out HOK.out.more HEV.out (fun i hi => ⟨Nat.le_succ_of_le (HSZ.out i hi).1, (HSZ.out i hi).2⟩)⟩
        case measure => simp [intOf]; omega
      have HL2 := Lib.hid (HL.out.next ((Below.refl _ _).drew))
      have hR2 := ((HR.out w (Below.refl _ _)).imp (D' := fun b => b < w2.heap.size) (fun b hb _ => Nat.lt_of_lt_of_le hb HB2.out.size)).below (HBW.out.drew)
      have HR2 := Lib.hid hR2
      clear hR2
      refine wp_region_mid 11 _ rfl (by kernel_rfl) (by kernel_rfl) ?_
      simp only [List.take_succ_cons, List.take_zero, List.drop_succ_cons, List.drop_zero]
      repeat still_step
      refine wpStill_nil ?_
      intro K hK
      go_simp
      go_at_call 13
      refine (arrive_any HL2.out HOK.out (by omega) xe r HR2.out (by omega) xi).mono ?_
      rintro e w5 ⟨D5, gs5, m5, v5, blk5, news, err, rfl, hL5, hs5, hb5, hr5, hsz5, hcase⟩
      refine hK _ _ ?_
      clear hK K
      repeat still_step
      refine wpStill_nil ?_
      have hbw5 : Below w.heap.size w w5 := HB2.out.trans (hL5.bl.mono HB2.out.size)
      obtain ⟨d0, d1, f0, f1, f2, f3, f4⟩ := HC.out w5 hbw5
      have hR5 := ((HR.out w (Below.refl _ _)).imp (D' := fun b => b < w2.heap.size) (fun b hb _ => Nat.lt_of_lt_of_le hb HB2.out.size)).below hbw5
      have hbr5 : b < w5.heap.size := Nat.lt_of_lt_of_le hbb hbw5.size
      have HL5 := Lib.hid hL5
      have HR5 := Lib.hid hR5
      have HS5 := Lib.hid hs5
      have HRN := Lib.hid hr5
      have HB5 := Lib.hid hb5
      clear hL5 hR5 hs5 hr5 hb5 hbw5 c0 c1 e0 e1 e2 e3 e4
      rcases hcase with ⟨herr, rfl⟩ | ⟨rfl, hnl, i, rfl, hin, hok5⟩
      · have herr2 : (err != 0) = true := by simpa using herr
        go_wp2_with fail
        go_roundw
        case rel => exact ⟨k + 1, by omega, by go_num, RSt.mk' HL5.out HOK.out.more HEV.out (fun i hi => ⟨Nat.le_succ_of_le (HSZ.out i hi).1, (HSZ.out i hi).2⟩)⟩
        case measure => simp [intOf]; omega
      · have HOK5 := Lib.hid hok5
        clear hok5
        have i0 : (0 : Int) ≤ (i : Int) := by omega
        have i1 : ¬ (i : Int) < 0 := by omega
        have i2' : ¬ (i : Int) ≥ (n : Int) := by omega
        have i3 : (i : Int) < (n : Int) := by omega
        go_wp2_with fail
        obtain ⟨ra, rn, rc, rfl⟩ := HR5.out.form2
        obtain ⟨k1, hk1, hz10, hz11, hz12⟩ := info_parts info34
        obtain ⟨k3, hk3, hz30, hz31, hz32⟩ := info_parts info44
        obtain ⟨sa, sc, hus, y0, hBl, hqB, hBf⟩ := HL5.out.all.at2 hin
        have hqb : qb i ≠ some b := fun e => by
          have := HL5.out.newQ i hin b e
          have := HB2.out.size
          omega
        have hel : (evs i).length ≤ 80 := by
          have h1 := (HSZ.out i hin).1
          rw [← HEV.out i hin] at h1
          simp only [eL, List.length_map] at h1
          omega
        have hs0 : SlOwn (w5.alloc (Obj.cells #[.int .i64 xe.k, .int .i64 xe.n, .int .i64 xe.t, .slice ra rn rc, .int .i64 xe.c] 34)).drew 34 5 (.slice sa (evs i).length sc) (evs i).length ((evs i).flatMap ecl) (qb i) := by
          rw [← hus]
          exact (HL5.out.all.own i hin).keep fun g hg => Below.heap_alloc w5 _ g (HL5.out.all.qbB hin hg).2
        have hs1 : Src (w5.alloc (Obj.cells #[.int .i64 xe.k, .int .i64 xe.n, .int .i64 xe.t, .slice ra rn rc, .int .i64 xe.c] 34)).drew 5 (.slice (some ⟨w5.heap.size, 0, none⟩) 1 1) 1 (ecl (xe, .slice ra rn rc)) := SlOwn.src (e := 34) (blk := some w5.heap.size) ⟨rfl, .inr ⟨_, 0, 1, _, rfl, rfl, World.alloc_heap_new w5 (Obj.cells #[.int .i64 xe.k, .int .i64 xe.n, .int .i64 xe.t, .slice ra rn rc, .int .i64 xe.c] 34), Nat.le_refl _, by simp [maxLen], by simp, rfl⟩⟩
        have hone : ∀ u ∈ ecl (xe, Value.slice ra rn rc), u.oneCell' = true := fun u hu => by simp only [ecl, List.mem_cons, List.not_mem_nil, or_false] at hu; rcases hu with rfl | rfl | rfl | rfl | rfl <;> rfl
        have HUS := Lib.hid hus
        have HS0 := Lib.hid hs0
        have HS1 := Lib.hid hs1
        have HONE := Lib.hid hone
        clear hus hs0 hs1 hone
        have hC0 : Only (fun b => qb i = some b) w5 w5.drew := (Only.refl _ _).drew
        refine wp_region_float 19 2 (fun W => Only (fun b => qb i = some b) w5 W) (by kernel_rfl) (by kernel_rfl) hC0 ?_
        simp only [List.take_succ_cons, List.take_zero, List.drop_succ_cons, List.drop_zero]
        have HC0 := Lib.hid hC0
        clear hC0
        repeat (
          refine wpFloat_ex (fun K hK => ?_)
          apply Exists.intro
          refine ⟨fun W hW => ?_, ?_⟩
          · have hk := hW.cell
            clear hW
            go_simp
            rfl
          go_simp
          refine hK _ ?_
          clear hK K)
        refine wpFloat_nil ?_
        refine wpChain_step (fun K hK => ?_)
        go_simp
        refine hK _ _ rfl (fun _ => HC0.out.alloc _) ?_
        clear hK K
        refine wpChain_step (fun K hK => ?_)
        refine wp_append_S (.tmp 84) (.tmp 90) 49 rfl 34 k1 _ 5 56 Try.underlying49 hk1 hz10 hz11 hz12 rfl (by omega) (.slice sa (evs i).length sc) (evs i).length ((evs i).flatMap ecl) (qb i) rfl HS0.out (.slice (some ⟨w5.heap.size, 0, none⟩) 1 1) 1 (ecl (xe, .slice ra rn rc)) rfl HS1.out HONE.out (by simp only [maxLen]; omega) (by omega) ?_
        intro v6 w6 bk6 hown6 hgrow6 hat6
        obtain ⟨sa6, sc6, rfl⟩ := hown6.form
        have hf6 := HL5.out.all.frB hin hgrow6
        have hB6 : w3.heap.size < w6.heap.size := HL5.out.all.ltB hgrow6
        have hcB : w6.cell? ⟨w3.heap.size, i, none⟩ = some (.slice sa (evs i).length sc) := (((HC0.out.alloc _).grown hgrow6 (fun q hq _ => hq)).cell _ _ hBl hqB).trans y0
        go_simp
        refine hK _ _ rfl (fun _ => (HC0.out.alloc _).grown hgrow6 (fun q hq _ => hq)) ?_
        clear hK K
        have HN := Lib.hid (HL5.out.push hin (p := (xe, .slice ra rn rc)) HR5.out (((Below.refl _ _).alloc (Nat.le_refl _) _).drew) hown6 hgrow6 hat6)
        clear hown6 hgrow6 hat6
        refine wpChain_step (fun K hK => ?_)
        go_simp
        refine hK _ _ rfl (fun h => absurd h (by decide)) ?_
        clear hK K
        refine wpChain_step (fun K hK => ?_)
        go_simp
        refine hK _ _ rfl (fun h => absurd h (by decide)) ?_
        clear hK K
        refine wpChain_nil ?_
        obtain ⟨hL6, hfr6, hsz6⟩ := HN.out
        have hs6 := HS5.out.keep (w' := w6.setCell ⟨w3.heap.size, i, none⟩ (.slice sa6 ((evs i).length + 1) sc6)) fun g hg => hfr6 g (HS5.out.lt_of hg) (fun e => by have h1 := HB5.out g hg; have h2 := HL2.out.Blt; omega) (fun e => by have h1 := HB5.out g hg; have h2 := (HL2.out.all.qbB hin e).2; omega)
        have hGD6 : ∀ o ∈ news, RowAt (w6.setCell ⟨w3.heap.size, i, none⟩ (.slice sa6 ((evs i).length + 1) sc6)) D5 o.2.2 o.2.1.row := fun o ho => (HRN.out o ho).keep fun g hg hl => hfr6 g hl (fun e => HL5.out.apB (.inr (e ▸ hg))) (fun e => HL5.out.apQ i hin g e (.inr hg))
        obtain ⟨oa, oc, hou⟩ := hL6.out.form
        obtain ⟨va, vc, hvv⟩ := hs6.form
        subst hou hvv
        have hol : outs.length ≤ 200 := by have := HOK.out.cnt; omega
        have HS6 := Lib.hid hs6
        have HL6 := Lib.hid hL6
        have HR6 := Lib.hid hGD6
        clear hL6 hs6 hGD6 hfr6 hsz6 HN
        generalize hW6 : w6.setCell ⟨w3.heap.size, i, none⟩ (.slice sa6 ((evs i).length + 1) sc6) = W6 at HS6 HL6 HR6 ⊢
        clear hW6 hcB hB6 hf6 d0 d1 f0 f1 f2 f3 f4 HS0 HS1 HC0
        go_wp2_with (at_builtin; refine wpList_append_S rfl (.tmp 93) (.tmp 94) 37 rfl 44 k3 _ 6 64 Try.underlying37 hk3 hz30 hz31 hz32 rfl (by omega) (.slice oa outs.length oc) outs.length (outs.flatMap ocl) oblk rfl HL6.out.out (.slice va news.length vc) news.length (news.flatMap ocl) rfl HS6.out.src (okCells_of HR6.out) (by simp only [maxLen]; omega) (by omega) ?_; intro v7 w7 bk7 hown7 hgrow7 hat7)
        go_roundw
        case rel =>
          refine ⟨k + 1, by omega, by go_num, RSt.mk' (HL6.out.pass HR6.out hown7 hgrow7 hat7) HOK5.out (fun j hj => ?_) (fun j hj => ?_)⟩
          · by_cases e : j = i
            · subst e
              rw [setH_same, if_pos rfl, eL_app, HEV.out j hj]; rfl
            · rw [setH_ne _ _ e, if_neg e]; exact HEV.out j hj
          · by_cases e : j = i
            · subst e
              rw [setH_same]
              refine ⟨by rw [List.length_append]; have := (HSZ.out j hj).1; simp; omega, fun y hy => ?_⟩
              rcases List.mem_append.1 hy with hy | hy
              · exact (HSZ.out j hj).2 y hy
              · rw [List.mem_singleton] at hy; subst hy; exact hrow
            · rw [setH_ne _ _ e]
              exact ⟨Nat.le_succ_of_le (HSZ.out j hj).1, (HSZ.out j hj).2⟩
        case measure => simp [intOf]; omega
    · have hke : k = l.length := by omega
      subst hke
      obtain ⟨oa, oc, hou⟩ := HL.out.out.form
      subst hou
      have hol : outs.length ≤ 200 := by have := HOK.out.cnt; omega
      have hn := HL.out.hn
      have hLS := HL.out.all.lists (by omega) (fun i hi => by
        have h1 := (HSZ.out i hi).1
        rw [← HEV.out i hi] at h1
        simp only [eL, List.length_map] at h1
        omega)
      have hOS := OutsAt.of_own (D := fun b => b < wr.heap.size) HL.out.out (by omega) (fun o ho => (HL.out.rows o ho).mono fun b hb => HL.out.hD b hb) (fun b hb => HL.out.out.lt_of hb)
      have hcap := HL.out.out.cap
      have hsm : smallLL ((List.range n).map fun i => eL (evs i)) := by
        refine ⟨by simp; omega, fun y hy => ?_⟩
        obtain ⟨i, hi, rfl⟩ := List.mem_map.1 hy
        have hi := List.mem_range.1 hi
        rw [HEV.out i hi]
        exact ⟨by have := (HSZ.out i hi).1; omega, fun e he => by have := (HSZ.out i hi).2 e he; omega⟩
      have hcons := fun o (ho : o ∈ outE outs) (hk : o.2.k = 3) => HOK.out.consistent (by omega) (by omega) (ll := (List.range n).map fun i => eL (evs i)) (by simp [hn]) (fun i hi => by rw [hn] at hi; simp [List.getD, hi, HEV.out i hi]) ho hk
      have HLS := Lib.hid hLS
      have HOS := Lib.hid hOS
      have HCAP := Lib.hid hcap
      have HSM := Lib.hid hsm
      have HCONS := Lib.hid hcons
      clear hLS hOS hcap hsm hcons
      have hos : (outE outs).length = outs.length := outE_len outs
      go_wp2_with fail
      obtain ⟨wl, rfl⟩ : ∃ wl : World, wl = wr := ⟨_, rfl⟩
      go_loopw [12] (fun i W => ∃ j : Nat, j ≤ outs.length ∧ i = .int .i64 j ∧ Below wl.heap.size wl W) (fun i _ => outs.length - (intOf i).toNat)
      case atStart => exact ⟨0, Nat.zero_le _, rfl, Below.refl _ _⟩
      case round =>
        obtain ⟨j, hj, rfl, hbl⟩ := hrel
        have HBL := Lib.hid hbl
        by_cases hjl : j < outs.length
        · have hje : j < (outE outs).length := by omega
          have hOW := HOS.out.below hbl
          have hOW' : OutsAt wr (fun b => b < wl.heap.size) (.slice oa (outE outs).length oc) (outE outs) := by rw [hos]; exact hOW
          obtain ⟨ob, oo, ra, rn, rc, hpb, _, hbx, x0, x1, x2, x3, x4, x5, xr⟩ := hOW'.at hje
          subst hpb
          have hmem : (outE outs)[j] ∈ outE outs := List.getElem_mem hje
          have hco := HCONS.out _ hmem
          have hF := fun (kk : Int) => f34_any _ _ (.slice (some ⟨ob, oo, none⟩) outs.length oc) ((List.range n).map fun i => eL (evs i)) kk (outE outs) _ _ (HLS.out.below hbl) HSM.out hOW (fun b hb => Nat.lt_of_lt_of_le hb hbl.size) HCAP.out (by omega)
          have HF := Lib.hid hF
          have HCO := Lib.hid hco
          clear hOW hOW' hco hF hmem hbl
          generalize (outE outs)[j] = y at x0 x1 x2 x3 x4 x5 xr HCO
          obtain ⟨yi, ye⟩ := y
          dsimp only at x0 x1 x2 x3 x4 x5 xr HCO
          have j0 : (0 : Int) ≤ (j : Int) := by omega
          have j1 : (j : Int) < (outs.length : Int) := by omega
          by_cases hk3 : ye.k = 3
          · have hcc := HCO.out hk3
            have hF2 := HF.out ye.n
            rw [hcc] at hF2
            have HF2 := Lib.hid hF2
            clear hF2 hcc HF HCO
            rw [hk3] at x1
            go_wp2_with (go_at_call 34; refine HF2.out.mono ?_; rintro e w4 ⟨rfl, hb4⟩; have HB4 := Lib.hid (HBL.out.trans (hb4.mono HBL.out.size)); clear hb4)
            go_roundw
            case rel => exact ⟨j + 1, by omega, by go_num, HB4.out⟩
            case measure => simp [intOf]; omega
          · have hk3' : (ye.k == 3) = false := by simpa using hk3
            clear HF HCO
            go_wp2_with fail
            go_roundw
            case rel => exact ⟨j + 1, by omega, by go_num, HBL.out⟩
            case measure => simp [intOf]; omega
        · go_wp2_with fail
          go_ret
          exact ⟨rfl, HBW.out.trans (HBL.out.mono HBW.out.size)⟩
end walks
end Go.Proofs.Ytdnkfgnjeibjeaa
