import Derived.Test.YtdnkfgnjeibjeaaG10
import Derived.StillTailTactics
namespace Go.Proofs.Ytdnkfgnjeibjeaa
open Go.RowKit Go.Shelf

theorem Gives.nil {w w' : World} {D : Nat → Prop} {gs : GS} {m : Gm} (h : GateAt w' D gs m) (hb : Only (gs.own m.n) w w') : Gives w D gs m.n m [] (.returned (.slice none 0 0)) w' :=
  ⟨gs, _, none, rfl, rfl, SlOwn.nil _ _ _, (fun g hg => by cases hg), h, GS.like.refl gs, (fun o ho => by cases ho), hb⟩

theorem RowAt.nil (w : World) (D : Nat → Prop) : RowAt w D (.slice none 0 0) [] := ⟨none, 0, rfl, by simp, .inl rfl⟩

theorem okCells_of {w : World} {D : Nat → Prop} {outs : List OV} (h : ∀ o ∈ outs, RowAt w D o.2.2 o.2.1.row) : okCells (outs.flatMap ocl) := by
  intro u hu
  obtain ⟨o, ho, hm⟩ := List.mem_flatMap.1 hu
  obtain ⟨a, c, hv, _⟩ := h o ho
  simp only [ocl, ecl, List.mem_cons, List.not_mem_nil, or_false] at hm
  rcases hm with rfl | rfl | rfl | rfl | rfl | rfl
  · rfl
  · rfl
  · rfl
  · rfl
  · rw [hv]; rfl
  · rfl

theorem SlOwn.lt_of {w : World} {e : TypeId} {size : Nat} {v : Value} {n : Nat} {xs : List Value} {blk : Option Nat} (h : SlOwn w e size v n xs blk) {g : Nat} (hg : blk = some g) : g < w.heap.size := by
  subst hg
  exact h.blk_lt

/-- A gate whose own blocks, and whose elements' rows, lie as they lay. -/
theorem GateAt.hold {w w' : World} {D : Nat → Prop} {gs : GS} {m : Gm} (h : GateAt w D gs m) (hk : ∀ b, b < w.heap.size → gs.own m.n b ∨ D b → w'.heap[b]? = w.heap[b]?) : GateAt w' D gs m := by
  have hl : ∀ {b o}, gs.own m.n b → w.heap[b]? = some o → w'.heap[b]? = some o := fun hb ho => (hk _ (heap_lt ho) (.inl hb)).trans ho
  refine ⟨h.pos, h.le, hl (own_G _ _) h.hG, ?_, fun i hi => hl (own_ib gs hi) (h.hib i hi), h.inj, fun i hi => (h.hq i hi).keep fun g hg => hk g (h.lt (own_qb gs hi hg)) (.inl (own_qb gs hi hg)), h.qinj, fun i hi p hp => (h.hrow i hi p hp).keep fun b hb hlt => hk b hlt (.inr hb), h.hD, hl (.inr (.inr (.inl rfl))) h.hmap⟩
  obtain ⟨cs, hc, hcs⟩ := h.harr
  exact ⟨cs, hl (.inr (.inl rfl)) hc, hcs⟩

/-- Two slices of what passed, put together. -/
theorem Gives.app {w W W4 : World} {D : Nat → Prop} {gs gs3 : GS} {n : Nat} {m' : Gm} {outs1 outs2 : List OV} {v4 : Value} {bk1 bk4 : Option Nat} (hD : ∀ b, D b → b < w.heap.size) (hn : m'.n = n) (hown : ∀ b, gs.own n b → b < w.heap.size)
    (hbk : ∀ g, bk1 = some g → w.heap.size ≤ g) (hg : GateAt W D gs3 m') (hl : gs.like gs3) (hr1 : ∀ o ∈ outs1, RowAt W D o.2.2 o.2.1.row) (hr2 : ∀ o ∈ outs2, RowAt W D o.2.2 o.2.1.row) (ho : Only (gs.own n) w W)
    (hgr : W.grownBy W4 bk1) (h4 : SlOwn W4 44 6 v4 (outs1.length + outs2.length) (outs1.flatMap ocl ++ outs2.flatMap ocl) bk4) (hat : bk4 = bk1 ∨ bk4 = some W.heap.size) :
    Gives w D gs n m' (outs1 ++ outs2) (.returned v4) W4 := by
  have hrow : ∀ {r row}, RowAt W D r row → RowAt W4 D r row := fun hx => hx.keep fun b hb hlt => hgr.block b hlt (fun e => by have h1 := hD b hb; have h2 := hbk b e.symm; omega)
  refine ⟨gs3, v4, bk4, rfl, hn, by simpa using h4, fun g hg4 => ?_, hg.hold fun b hb hx => hgr.block b hb (fun e => ?_), hl, fun o ho' => ?_, ho.grown hgr (fun k hk hlt => by have := hbk k hk; omega)⟩
  · rcases hat with e | e
    · exact hbk g (e ▸ hg4)
    · rw [hg4] at e; injection e with e; rw [e]; exact ho.size
  · have h2 := hbk b e.symm
    rcases hx with hx | hx
    · have h1 := hown b ((like_own hl n b).1 (hn ▸ hx)); omega
    · have h1 := hD b hx; omega
  · rcases List.mem_append.1 ho' with h | h
    · exact hrow (hr1 o h)
    · exact hrow (hr2 o h)

section walks
set_option maxHeartbeats 1000000
set_option maxRecDepth 100000

/-- 'whole' brings a gate there. -/
def WholeTo (D : Nat → Prop) (i : Nat) (m m' : Gm) (outs : List OV) : Prop :=
  ∀ gs w, GateAt w D gs m → (∀ b, D b → b < w.heap.size) → Calls Try.prog 53 #[.pointer (some ⟨gs.G, 0, none⟩), .int .i64 i] w (Gives w D gs m.n m' outs)

theorem f53_none (D : Nat → Prop) (i : Nat) (m : Gm) (h0 : m.under = 0 ∨ m.anyMiss = true) : WholeTo D i m m [] := by
  intro gs w h hD
  obtain ⟨g0, g1, g2, g3, g4, gf⟩ := h.cells
  have hc := f75_any w gs m h
  have HC := Lib.hid hc
  have H := Lib.hid h
  clear h hc hD
  by_cases hu : m.under = 0
  · rw [hu] at g2
    go_enter Try.func53, Try.ntmps53
    go_wp2_with fail
    go_ret
    exact Gives.nil H.out (Only.refl _ _)
  · have hm := h0.resolve_left hu
    rw [hm] at HC
    clear h0
    go_enter Try.func53, Try.ntmps53
    go_wp2_with (go_at_call 75; refine HC.out.mono ?_; rintro e w' ⟨rfl, rfl⟩)
    go_ret
    exact Gives.nil H.out (Only.refl _ _)

theorem f53_whole (D : Nat → Prop) (i : Nat) (m m' : Gm) (outs : List OV) (hal : m.al = true) (hu : m.under ≠ 0) (hm : m.anyMiss = false) (hgo : GoesTo D m.ends m' outs) (hlen : outs.length ≤ 1000000) : WholeTo D i m m' ((i, bar m.under) :: outs) := by
  intro gs w h hD
  obtain ⟨g0, g1, g2, g3, g4, gf⟩ := h.cells
  rw [hal] at g1
  simp only [howV, if_true] at g1
  have hc := f75_any w gs m h
  rw [hm] at hc
  have HC := Lib.hid hc
  have H := Lib.hid h
  have HD := Lib.hid hD
  clear h hc hD hm
  go_enter Try.func53, Try.ntmps53
  go_wp2_with (go_at_call 75; refine HC.out.mono ?_; rintro e w' ⟨rfl, rfl⟩)
  go_still_tail 12, (by kernel_rfl)
  change wpList _ _ _ _ _ w'.drew
  go_wp2_with (go_at_call 127; refine (f127_any _ _ _ _).mono ?_; rintro e w1 ⟨v1, bk1, rfl, ho1, hn1, hb1⟩)
  have hb1' : Below w'.heap.size w' w1 := ((Below.refl w'.heap.size w').drew).trans hb1
  have hg1 := H.out.below hb1'
  have hc4 := f54_any w1 gs m hg1
  have HC4 := Lib.hid hc4
  have HO1 := Lib.hid ho1
  have HN1 := Lib.hid hn1
  have hown : ∀ b, gs.own m.n b → ¬ w'.drew.heap.size ≤ b := fun b hb hle => by have h1 := H.out.lt hb; have h2 : w'.heap.size ≤ b := hle; omega
  have HOWN := Lib.hid hown
  have HB1 := Lib.hid hb1'
  clear hown hc4 ho1 hn1 hb1 hb1' hg1
  obtain ⟨i0, hi0, hz0, hz1, hz2⟩ := info_parts info44
  go_wp2_with (first
    | (go_at_call 54; refine HC4.out.mono ?_; rintro e w2 ⟨rfl, hg2, ho2⟩
       have hd2 : ∀ b, D b → b < w2.heap.size := fun b hb => Nat.lt_of_lt_of_le (HD.out b hb) (Nat.le_trans HB1.out.size ho2.size)
       have HG2 := Lib.hid (hgo gs w2 hg2 hd2); have HO2 := Lib.hid ho2; clear hg2 ho2 hd2)
    | (go_at_call 55; refine HG2.out.mono ?_; rintro e w3 ⟨gs3, v3, bk3, rfl, hn3, ho3, hbk3, hg3, hl3, hr3, hon3⟩
       have ho13 := (HO1.out.keep fun g hg => HO2.out.block g (HO1.out.lt_of hg) (fun hx => HOWN.out g hx (HN1.out g hg))).keep fun g hg => hon3.block g (Nat.lt_of_lt_of_le (HO1.out.lt_of hg) HO2.out.size) (fun hx => HOWN.out g hx (HN1.out g hg))
       obtain ⟨a1, c1, rfl⟩ := ho13.form)
    | (at_builtin; refine wpList_append_S rfl (.tmp 33) (.tmp 35) 37 rfl 44 i0 _ 6 64 Try.underlying37 hi0 hz0 hz1 hz2 rfl (by omega) (.slice a1 1 c1) 1 ([(i, bar m.under)].flatMap ocl) bk1 rfl ho13 v3 outs.length (outs.flatMap ocl) rfl ho3.src (okCells_of hr3) (by simp only [maxLen]; omega) (by omega) ?_; intro v4 w4 bk4 hown4 hgrow4 hat4))
  go_ret
  refine Gives.app (W := w3) (gs3 := gs3) (outs1 := [(i, bar m.under)]) (bk1 := bk1) (bk4 := bk4) HD.out hn3 (fun b hb => H.out.lt hb) HN1.out hg3 hl3 (fun o ho => ?_) hr3 ?_ hgrow4 hown4 hat4
  · rw [List.mem_singleton] at ho
    subst ho
    exact RowAt.nil _ _
  · exact ((Only.of_below HB1.out).trans HO2.out (fun _ _ h => h)).trans hon3 (fun _ _ h => h)
end walks
end Go.Proofs.Ytdnkfgnjeibjeaa
