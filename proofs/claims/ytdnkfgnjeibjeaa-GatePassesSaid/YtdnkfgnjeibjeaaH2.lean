import Derived.Test.YtdnkfgnjeibjeaaH1
namespace Go.Proofs.Ytdnkfgnjeibjeaa
open Go.RowKit Go.Shelf

section walks
set_option maxHeartbeats 1000000
set_option maxRecDepth 100000

theorem f55_goes {D : Nat → Prop} {m m' : Gm} {outs : List OV} (hn : m'.n = m.n) (hlen : outs.length ≤ 10000) (hto : F76To D m m' outs) : GoesTo D m m' outs := by
  intro gs w h hD
  have hG := h.lt (own_G gs m.n)
  have hM := h.lt (.inr (.inr (.inl rfl)))
  obtain ⟨W0, hW0⟩ : ∃ W0, W0 = (((w.alloc (Obj.cells #[.pointer (some ⟨gs.G, 0, none⟩)] 25)).alloc (Obj.cells #[.slice none 0 0] 37)).alloc (Obj.cells #[.func (.func 76) #[] #[.pointer (some ⟨w.heap.size, 0, none⟩), .pointer (some ⟨w.heap.size + 2, 0, none⟩)]] 134)) := ⟨_, rfl⟩
  have hb : Below w.heap.size w W0 := by
    rw [hW0]
    exact (((Below.refl _ _).alloc (Nat.le_refl _) _).alloc (by simp) _).alloc (by simp only [World.size_alloc]; omega) _
  have hsz : W0.heap.size = w.heap.size + 3 := by rw [hW0]; simp
  have hg0 : W0.heap[w.heap.size]? = some (.cells #[.pointer (some ⟨gs.G, 0, none⟩)] 25 (0, 0)) := by
    rw [hW0]
    exact (Below.heap_alloc _ _ _ (by simp only [World.size_alloc]; omega)).trans ((Below.heap_alloc _ _ _ (by simp)).trans (World.alloc_heap_new _ _))
  have hg1 : W0.heap[w.heap.size + 1]? = some (.cells #[.slice none 0 0] 37 (0, 0)) := by
    rw [hW0]
    have := World.alloc_heap_new (w.alloc (Obj.cells #[.pointer (some ⟨gs.G, 0, none⟩)] 25)) (Obj.cells #[.slice none 0 0] 37)
    rw [World.size_alloc] at this
    exact (Below.heap_alloc _ _ _ (by simp)).trans this
  have hg2 : W0.heap[w.heap.size + 2]? = some (.cells #[.func (.func 76) #[] #[.pointer (some ⟨w.heap.size, 0, none⟩), .pointer (some ⟨w.heap.size + 2, 0, none⟩)]] 134 (0, 0)) := by
    rw [hW0]
    have := World.alloc_heap_new ((w.alloc (Obj.cells #[.pointer (some ⟨gs.G, 0, none⟩)] 25)).alloc (Obj.cells #[.slice none 0 0] 37)) (Obj.cells #[.func (.func 76) #[] #[.pointer (some ⟨w.heap.size, 0, none⟩), .pointer (some ⟨w.heap.size + 2, 0, none⟩)]] 134)
    rw [World.size_alloc, World.size_alloc] at this
    exact this
  have hst : AStart w.heap.size D gs gs (w.heap.size + 1) w.heap.size (w.heap.size + 2) w m [] (.slice none 0 0) none W0 :=
    ⟨h.below hb, GS.like.refl gs, ⟨hg1, SlOwn.nil _ _ _⟩, (fun g hg => by cases hg), hg0, hg2, (fun o ho => by cases ho), Only.of_below hb⟩
  have hc := callsIn_wide.1 (hto 0 w.heap.size (w.heap.size + 1) w.heap.size (w.heap.size + 2) gs gs [] (.slice none 0 0) none w W0 ⟨hD, Nat.le_refl _, by omega, Nat.le_refl _, by omega, by omega, by omega⟩ hM hst (by simpa using hlen))
  rw [hW0] at hc
  have HC := Lib.hid hc
  have HH := Lib.hid h
  clear hc hst hg0 hg1 hg2 hb hsz h hW0 W0
  go_enter Try.func55, Try.ntmps55
  go_wp2_with (go_at_call 76; refine HC.out.mono ?_; rintro e w1 ⟨rfl, _, gs1, v1, bk1, hs1⟩; obtain ⟨o0, ofr⟩ := blk1 hs1.box.box; have HS := Lib.hid hs1; clear hs1)
  obtain ⟨a1, c1, rfl⟩ := HS.out.box.own.form
  go_ret
  refine ⟨gs1, _, bk1, rfl, hn, HS.out.box.own, HS.out.new, HS.out.gate, HS.out.like, HS.out.rows, ?_⟩
  exact HS.out.only.mono fun x hx hs => by 
    rcases hs with hs | hs
    · rw [hn] at hs; exact hs
    · omega

/-- A barrier beyond the one under way. -/
theorem f44_over (D : Nat → Prop) (i : Nat) (x : EV) (m m2 m' : Gm) (outs outs2 : List OV) (hal : m.al = true) (hk : x.1.k = 3) (hd : m.done < x.1.n) (hu0 : 0 < m.under) (hu : m.under < x.1.n)
    (hgo : GoesTo D m.ends m2 outs) (hlk : LookTo D i x m2 m' outs2) (hlen : outs.length + outs2.length ≤ 1000000) : LookTo D i x m m' (outs ++ outs2) := by
  intro gs w h hD hr
  obtain ⟨⟨k, kn, t, row, c⟩, r⟩ := x
  dsimp only at hk hd hu
  subst hk
  have hr0 := hr
  obtain ⟨ra, rc, hv, _⟩ := hr
  dsimp only at hv
  subst hv
  obtain ⟨i0, hi0, hz0, hz1, hz2⟩ := info_parts info44
  obtain ⟨g0, g1, g2, g3, g4, gf⟩ := h.cells
  rw [hal] at g1
  simp only [howV, if_true] at g1
  have l1 := h.lt (own_G gs m.n)
  have HH := Lib.hid h
  have HD := Lib.hid hD
  have HR := Lib.hid hr0
  clear h hD hr0
  have hbox := World.alloc_heap_new w (Obj.cells #[Value.int IntKind.i64 3, Value.int IntKind.i64 kn, Value.int IntKind.i64 t, .slice ra row.length rc, Value.int IntKind.i64 c] 34)
  have hb0 : Below w.heap.size w (w.alloc (Obj.cells #[Value.int IntKind.i64 3, Value.int IntKind.i64 kn, Value.int IntKind.i64 t, .slice ra row.length rc, Value.int IntKind.i64 c] 34)) := (Below.refl _ _).alloc (Nat.le_refl _) _
  have HB0 := Lib.hid hb0
  have HX := Lib.hid hbox
  clear hb0 hbox
  go_enter Try.func44, Try.ntmps44
  go_wp2_with (first
    | (go_at_call 128; refine (f128_any _ _).mono ?_; rintro e w1 ⟨rfl, hb1⟩
       have hb2 := HB0.out.trans (hb1.mono HB0.out.size)
       have hx1 := (hb1.block _ (heap_lt HX.out)).trans HX.out
       have hg1 := HH.out.below hb2
       have hc1 := f54_any w1 gs m hg1
       have HC1 := Lib.hid hc1; have HB1 := Lib.hid hb2; have HX1 := Lib.hid hx1
       clear hb1 hb2 hx1 hg1 hc1)
    | (go_at_call 54; refine HC1.out.mono ?_; rintro e w2 ⟨rfl, hg2, ho2⟩
       have hne0 : ¬ gs.own m.n w.heap.size := fun hh => by have := HH.out.lt hh; omega
       have hx2 := (ho2.block _ (heap_lt HX1.out) hne0).trans HX1.out
       have ho02 : Only (gs.own m.n) w w2 := (Only.of_below HB1.out).trans ho2 (fun _ _ h => h)
       have hd2 : ∀ b, D b → b < w2.heap.size := fun b hb => Nat.lt_of_lt_of_le (HD.out b hb) ho02.size
       have hc2 := hgo gs w2 hg2 hd2
       have HC2 := Lib.hid hc2; have HX2 := Lib.hid hx2; have HO2 := Lib.hid ho02; have HNE := Lib.hid hne0
       clear hg2 ho2 hx2 ho02 hc2 hd2 hne0)
    | (go_at_call 55; refine HC2.out.mono ?_; rintro e w3 ⟨gs3, v3, bk3, rfl, hn3, ho3, hbk3, hg3, hl3, hr3, hon3⟩
       have hx3 := (hon3.block _ (heap_lt HX2.out) HNE.out).trans HX2.out
       have ho03 : Only (gs.own m.n) w w3 := HO2.out.trans hon3 (fun _ _ h => h)
       have hd3 : ∀ b, D b → b < w3.heap.size := fun b hb => Nat.lt_of_lt_of_le (HD.out b hb) ho03.size
       have hrr := HR.out.keep (w' := w3) fun b hb hlt => ho03.block b hlt (HH.out.hD b hb)
       have hc3 := hlk gs3 w3 hg3 hd3 hrr
       rw [hl3.G] at hc3
       obtain ⟨y0, y1, y2, y3, y4, yf⟩ := blk5 hx3
       have HC3 := Lib.hid hc3; have HO3 := Lib.hid ho03; have HS3 := Lib.hid ho3; have HR3 := Lib.hid hr3; have HL3 := Lib.hid hl3; have HBK := Lib.hid hbk3
       have hn3' : m2.n = m.n := hn3
       clear hx3 ho03 hc3 ho3 hr3 hrr hon3 hd3 hbk3 hg3 hl3)
    | (go_at_call 44; refine HC3.out.mono ?_; rintro e w4 ⟨gs4, v4, bk4, rfl, hn4, ho4, hbk4, hg4, hl4, hr4, hon4⟩
       rw [hn3'] at hn4 hon4
       have hon4' : Only (gs.own m.n) w3 w4 := hon4.mono fun b _ hb => (like_own HL3.out _ _).1 hb
       have hsz : w.heap.size ≤ w2.heap.size := HO2.out.size
       have hs4 : SlOwn w4 44 6 v3 outs.length (outs.flatMap ocl) bk3 := HS3.out.keep fun g hg => hon4'.block g (HS3.out.lt_of hg) (fun hx => by have h1 := HH.out.lt hx; have h2 := HBK.out g hg; omega)
       obtain ⟨a3, c3, rfl⟩ := hs4.form)
    | (at_builtin; refine wpList_append_S rfl (.tmp 111) (.tmp 115) 37 rfl 44 i0 _ 6 64 Try.underlying37 hi0 hz0 hz1 hz2 rfl (by omega) (.slice a3 outs.length c3) outs.length (outs.flatMap ocl) bk3 rfl hs4 v4 outs2.length (outs2.flatMap ocl) rfl ho4.src (okCells_of hr4) (by simp only [maxLen]; omega) (by omega) ?_; intro v5 w5 bk5 hown5 hgrow5 hat5))
  go_ret
  refine Gives.app (W := w4) (gs3 := gs4) (outs1 := outs) (bk1 := bk3) (bk4 := bk5) HD.out hn4 (fun b hb => HH.out.lt hb) (fun g hg => by have := HBK.out g hg; omega) hg4 (HL3.out.trans hl4) (fun o ho => (HR3.out o ho).keep fun b hb hlt => hon4'.block b hlt (HH.out.hD b hb)) hr4 ?_ hgrow5 hown5 hat5
  exact HO3.out.trans hon4' (fun _ _ h => h)
end walks
end Go.Proofs.Ytdnkfgnjeibjeaa
