import Derived.Test.YtdnkfgnjeibjeaaJE
namespace Go.Proofs.Ytdnkfgnjeibjeaa.W
open Go.RowKit Go.Shelf

/-- What a call tells of notes: a slice of its own. -/
structure Copied (w w' : World) (v : Value) (O : List (Nat × Elem)) (outs : List OV) (blk : Option Nat) : Prop where
  below : Below w.heap.size w w'
  eq : outE' outs = O
  own : SlOwn w' 44 6 v outs.length (outs.flatMap ocl) blk
  new : ∀ g, blk = some g → w.heap.size ≤ g
  rows : ∀ o ∈ outs, RowAt w' (fun b => w.heap.size ≤ b ∧ b < w'.heap.size ∧ blk ≠ some b) o.2.2 o.2.1.row

theorem Copied.next {w w' w2 : World} {v : Value} {O : List (Nat × Elem)} {outs : List OV} {blk : Option Nat} (h : Copied w w' v O outs blk) (hb : Below w'.heap.size w' w2) : Copied w w2 v O outs blk :=
  ⟨h.below.trans (hb.mono h.below.size), h.eq, h.own.keep fun g hg => hb.block g (h.own.lt_of hg), h.new, fun o ho => ((h.rows o ho).below hb).mono fun _ hb' => ⟨hb'.1, Nat.lt_of_lt_of_le hb'.2.1 hb.size, hb'.2.2⟩⟩

theorem lookup_notes_ok {w : World} {D : Nat → Prop} {gs : GS} {m : Gm} {ns : List NoteC} (h : FreeAt w D gs m ns) (k : Int) : (Instr.lookup 83 (.map (some gs.map)) (.int .i64 k) true).run Try.prog w = .ok (.tuple #[noteV ns k, .bool (noteOf ns k).isSome]) w := by
  rw [lookup_ents_ok w gs.map gs.clock k h.pairs h.gate.hmap, valAt_notes, valAt_some]
  rfl

theorem outs_at {w : World} {v : Value} {outs : List OV} {blk : Option Nat} (h : SlOwn w 44 6 v outs.length (outs.flatMap ocl) blk) {j : Nat} (hj : j < outs.length) :
    ∃ g o cap, v = .slice (some ⟨g, o, none⟩) outs.length cap ∧ blk = some g ∧ w.cell? ⟨g, o + j * 6, none⟩ = some (.int .i64 outs[j].1) ∧ w.cell? ⟨g, o + j * 6 + 1, none⟩ = some (.int .i64 outs[j].2.1.k) ∧ w.cell? ⟨g, o + j * 6 + 2, none⟩ = some (.int .i64 outs[j].2.1.n) ∧
      w.cell? ⟨g, o + j * 6 + 3, none⟩ = some (.int .i64 outs[j].2.1.t) ∧ w.cell? ⟨g, o + j * 6 + 4, none⟩ = some outs[j].2.2 ∧ w.cell? ⟨g, o + j * 6 + 5, none⟩ = some (.int .i64 outs[j].2.1.c) := by
  rcases h.2 with ⟨_, h0, _⟩ | ⟨g, o, cap, cur, hb, hv, _⟩
  · omega
  · subst hv
    have hc := fun r (hr : r < 6) u (hu : (ocl outs[j])[r]? = some u) => h.cell (j * 6 + r) u ((flat_at ocl_len outs j r hj hr).trans hu)
    exact ⟨g, o, cap, rfl, hb, hc 0 (by omega) _ rfl, hc 1 (by omega) _ rfl, hc 2 (by omega) _ rfl, hc 3 (by omega) _ rfl, hc 4 (by omega) _ rfl, hc 5 (by omega) _ rfl⟩

section walks
set_option maxHeartbeats 1000000
set_option maxRecDepth 100000

theorem f33_free (w : World) {D : Nat → Prop} (gs : GS) (m : Gm) (h : GateAt w D gs m) (hal : m.al = false) :
    Calls Try.prog 33 #[.pointer (some ⟨gs.G, 0, none⟩)] w fun e w' => e = .returned (.bool false) ∧ Below w.heap.size w w' := by
  obtain ⟨g0, g1, g2, g3, g4, gf⟩ := h.cells
  rw [hal] at g1
  simp only [howV, Bool.false_eq_true, if_false] at g1
  clear h
  go_enter Try.func33, Try.ntmps33
  go_wp2_with (go_at_call 121; refine (f121_any _).mono ?_; rintro e w' ⟨rfl, hb⟩)
  go_ret
  exact ⟨rfl, hb⟩

theorem f18_none (w : World) (D : Nat → Prop) (gs : GS) (m : Gm) (ns : List NoteC) (h : FreeAt w D gs m ns) (k : Int) (hno : noteOf ns k = none) :
    Calls Try.prog 18 #[.pointer (some ⟨gs.G, 0, none⟩), .int .i64 k] w fun e w' => e = .returned (.tuple #[.slice none 0 0, .bool false, .int .i64 8]) ∧ Below w.heap.size w w' := by
  have H := Lib.hid h
  have hc := f33_free w gs m h.gate h.al
  have HC := Lib.hid hc
  clear h hc
  go_enter Try.func18, Try.ntmps18
  go_wp2_with (go_at_call 33; refine HC.out.mono ?_; rintro e w' ⟨rfl, hb⟩; have HB := Lib.hid hb; have hlk := lookup_notes_ok (H.out.below hb) k; rw [hno] at hlk; obtain ⟨g0, g1, g2, g3, g4, gf⟩ := (H.out.below hb).gate.cells; clear hb)
  exact bodyPost_ret (v := .tuple #[.slice none 0 0, .bool false, .int .i64 8]) (by kernel_rfl) rfl ⟨rfl, HB.out⟩

theorem f18_some (w : World) (D : Nat → Prop) (gs : GS) (m : Gm) (ns : List NoteC) (h : FreeAt w D gs m ns) (x : NoteC) (hx : x ∈ ns) (hsm : ∀ o ∈ x.outs, o.2.1.row.length ≤ 1000000) (hl : x.outs.length ≤ 1000000) :
    Calls Try.prog 18 #[.pointer (some ⟨gs.G, 0, none⟩), .int .i64 x.k] w fun e w' => ∃ v outs blk, e = .returned (.tuple #[v, .bool x.whole, .int .i64 0]) ∧ Copied w w' v (outE' x.outs) outs blk := by
  have H := Lib.hid h
  have hc := f33_free w gs m h.gate h.al
  have HC := Lib.hid hc
  have hno := noteOf_of_mem h hx
  have hpv : noteV ns x.k = .pointer (some ⟨x.nb, 0, none⟩) := by
    unfold noteV
    rw [hno]
  have hxn := h.notes x hx
  obtain ⟨na, nc, hnv⟩ := hxn.own.form
  have HXN := Lib.hid hxn
  have HNV := Lib.hid hnv
  have HX := Lib.hid hx
  have HSM := Lib.hid hsm
  clear h hc hxn hnv hx hsm
  have hN : ∀ W, Below w.heap.size w W → W.cell? ⟨x.nb, 0, none⟩ = some (.slice na x.outs.length nc) ∧ W.cell? ⟨x.nb, 1, none⟩ = some (.bool x.whole) := fun W hb => by
    obtain ⟨n0, n1, nf⟩ := blk2 ((hb.block _ (heap_lt HXN.out.box)).trans HXN.out.box)
    rw [HNV.out] at n0
    exact ⟨n0, n1⟩
  have HN := Lib.hid hN
  clear hN
  go_enter Try.func18, Try.ntmps18
  go_wp2_with (go_at_call 33; refine HC.out.mono ?_; rintro e w1 ⟨rfl, hb⟩; have HB := Lib.hid hb; have hlk := lookup_notes_ok (H.out.below hb) x.k; rw [hno, hpv] at hlk; obtain ⟨g0, g1, g2, g3, g4, gf⟩ := (H.out.below hb).gate.cells; obtain ⟨n0, n1⟩ := HN.out _ hb; clear hb)
  have HN0 := Lib.hid n0
  have HN1 := Lib.hid n1
  clear hlk g0 g1 g2 g3 g4 gf hno hpv
  go_loopw [9, 34] (fun o i wr => ∃ (j : Nat) (outs : List OV) (blk : Option Nat), j ≤ x.outs.length ∧ i = .int .i64 j ∧ outs.length = j ∧ Copied w wr o (outE' (x.outs.take j)) outs blk) (fun _ i _ => x.outs.length - (intOf i).toNat)
  case atStart => exact ⟨0, [], none, Nat.zero_le _, rfl, rfl, HB.out, rfl, SlOwn.nil _ _ _, (fun g hg => by cases hg), fun o ho => by cases ho⟩
  case round =>
    obtain ⟨j, outs, blk, hj, rfl, hol, hcp⟩ := hrel
    have HCP := Lib.hid hcp
    obtain ⟨oa, oc, hov⟩ := hcp.own.form
    subst hov
    have HOL := Lib.hid hol
    clear hol
    by_cases hlt : j < x.outs.length
    · have hown := HXN.out.own.keep (w' := wr) fun g hg => hcp.below.block g (HXN.out.own.lt_of hg)
      obtain ⟨g, o, cap, hvv, hbg, c0, c1, c2, c3, c4, c5⟩ := outs_at hown hlt
      rw [HNV.out] at hvv
      injection hvv with hva _ hvc
      subst hva hvc
      have hr := (HXN.out.rows _ (List.getElem_mem hlt)).below hcp.below
      have hsj := HSM.out _ (List.getElem_mem hlt)
      have HSJ := Lib.hid hsj
      have HRJ := Lib.hid hr
      generalize hxj : x.outs[j] = y at *
      have HXJ := Lib.hid hxj
      obtain ⟨yi, ye, yr⟩ := y
      dsimp only at c0 c1 c2 c3 c4 c5 HRJ HSJ
      obtain ⟨ra, rn, rc, rfl⟩ : ∃ a n c, yr = .slice a n c := by obtain ⟨a, c, h, _⟩ := HRJ.out; exact ⟨a, _, c, h⟩
      have j0 : (0 : Int) ≤ (j : Int) := by omega
      have j1 : (j : Int) < (x.outs.length : Int) := by omega
      clear hcp hown hr hsj hbg hxj
      have hO := fun (W : World) (hb : Below wr.heap.size wr W) => f43_any W ye (.slice ra rn rc) D (HRJ.out.below hb) HSJ.out
      have HO := Lib.hid hO
      obtain ⟨k3, hk3, hz30, hz31, hz32⟩ := info_parts info44
      clear hO
      go_wp2_with fail
      clear c0 c1 c2 c3 c4 c5 n0 n1
      have hbx := World.alloc_heap_new wr (Obj.cells #[.int .i64 yi, .int .i64 ye.k, .int .i64 ye.n, .int .i64 ye.t, .slice ra rn rc, .int .i64 ye.c] 44)
      have hb1 : Below wr.heap.size wr (wr.alloc (Obj.cells #[.int .i64 yi, .int .i64 ye.k, .int .i64 ye.n, .int .i64 ye.t, .slice ra rn rc, .int .i64 ye.c] 44)) := (Below.refl _ _).alloc (Nat.le_refl _) _
      have hz1 : (wr.alloc (Obj.cells #[.int .i64 yi, .int .i64 ye.k, .int .i64 ye.n, .int .i64 ye.t, .slice ra rn rc, .int .i64 ye.c] 44)).heap.size = wr.heap.size + 1 := by simp
      generalize wr.alloc (Obj.cells #[.int .i64 yi, .int .i64 ye.k, .int .i64 ye.n, .int .i64 ye.t, .slice ra rn rc, .int .i64 ye.c] 44) = W1 at hbx hb1 hz1 ⊢
      have hC : ∀ W : World, W.heap[wr.heap.size]? = some (Obj.cells #[.int .i64 yi, .int .i64 ye.k, .int .i64 ye.n, .int .i64 ye.t, .slice ra rn rc, .int .i64 ye.c] 44 (0, 0)) → W.cell? ⟨wr.heap.size, 0, none⟩ = some (.int .i64 yi) ∧ W.cell? ⟨wr.heap.size, 1, none⟩ = some (.int .i64 ye.k) ∧ W.cell? ⟨wr.heap.size, 2, none⟩ = some (.int .i64 ye.n) ∧ W.cell? ⟨wr.heap.size, 3, none⟩ = some (.int .i64 ye.t) ∧ W.cell? ⟨wr.heap.size, 4, none⟩ = some (.slice ra rn rc) ∧ W.cell? ⟨wr.heap.size, 5, none⟩ = some (.int .i64 ye.c) := fun W hh => by
        exact ⟨cell_of_row W _ 0 _ 44 (0, 0) hh, cell_of_row W _ 1 _ 44 (0, 0) hh, cell_of_row W _ 2 _ 44 (0, 0) hh, cell_of_row W _ 3 _ 44 (0, 0) hh, cell_of_row W _ 4 _ 44 (0, 0) hh, cell_of_row W _ 5 _ 44 (0, 0) hh⟩
      have HC2 := Lib.hid hC
      have HB1 := Lib.hid hb1
      have HZ1 := Lib.hid hz1
      have hC0 : Below W1.heap.size W1 W1.drew := (Below.refl _ _).drew
      have HC0 := Lib.hid hC0
      clear hC0
      have HBX := Lib.hid hbx
      clear hC hb1 hz1 hbx
      refine wp_region_float 5 5 (fun W => W.heap[wr.heap.size]? = some (Obj.cells #[.int .i64 yi, .int .i64 ye.k, .int .i64 ye.n, .int .i64 ye.t, .slice ra rn rc, .int .i64 ye.c] 44 (0, 0))) (by kernel_rfl) (by kernel_rfl) HBX.out ?_
      simp only [List.take_succ_cons, List.take_zero, List.drop_succ_cons, List.drop_zero]
      repeat (
        refine wpFloat_ex (fun K hK => ?_)
        apply Exists.intro
        refine ⟨fun W hW => ?_, ?_⟩
        · obtain ⟨e0, e1, e2, e3, e4, e5⟩ := HC2.out W hW
          clear hW
          go_simp
          rfl
        go_simp
        refine hK _ ?_
        clear hK K)
      refine wpFloat_nil ?_
      refine wpChain_step (fun K hK => ?_)
      go_simp
      go_at_call 43
      refine (HO.out _ (HB1.out.trans (HC0.out.mono HB1.out.size))).mono ?_
      rintro e' w5 ⟨r5, rfl, hr5, hb5⟩
      have HR5 := Lib.hid hr5
      have ho5 : Below W1.heap.size W1 w5 := HC0.out.trans hb5
      have HO5 := Lib.hid ho5
      refine hK _ _ rfl (fun _ => (HO5.out.block _ (heap_lt HBX.out)).trans HBX.out) ?_
      clear hK K hr5 hb5 ho5
      refine wpChain_step (fun K hK => ?_)
      go_simp
      refine hK _ _ rfl (fun _ => (HO5.out.block _ (heap_lt HBX.out)).trans HBX.out) ?_
      clear hK K
      refine wpChain_step (fun K hK => ?_)
      go_simp
      refine hK _ _ rfl (fun _ => ((HO5.out.alloc HO5.out.size _).block _ (heap_lt HBX.out)).trans HBX.out) ?_
      clear hK K
      obtain ⟨sa, sn, sc, rfl⟩ : ∃ a n c, r5 = .slice a n c := by obtain ⟨a, c, h, _⟩ := HR5.out; exact ⟨a, _, c, h⟩
      have hw5 : Below wr.heap.size wr (w5.alloc (Obj.cells #[.int .i64 yi, .int .i64 ye.k, .int .i64 ye.n, .int .i64 ye.t, .slice sa sn sc, .int .i64 ye.c] 44)) := by
        have h1 := HB1.out.trans (HO5.out.mono HB1.out.size)
        exact h1.alloc h1.size _
      have hs5 := HCP.out.own.keep (w' := w5.alloc (Obj.cells #[.int .i64 yi, .int .i64 ye.k, .int .i64 ye.n, .int .i64 ye.t, .slice sa sn sc, .int .i64 ye.c] 44)) fun g hg => hw5.block g (HCP.out.own.lt_of hg)
      have hsrc : Src (w5.alloc (Obj.cells #[.int .i64 yi, .int .i64 ye.k, .int .i64 ye.n, .int .i64 ye.t, .slice sa sn sc, .int .i64 ye.c] 44)) 6 (.slice (some ⟨w5.heap.size, 0, none⟩) 1 1) 1 ([(yi, (ye, .slice sa sn sc))].flatMap ocl) := SlOwn.src (e := 44) (blk := some w5.heap.size) ⟨rfl, .inr ⟨_, 0, 1, _, rfl, rfl, World.alloc_heap_new w5 _, Nat.le_refl _, by simp [maxLen], by simp, rfl⟩⟩
      have hone : ∀ u ∈ [(yi, (ye, Value.slice sa sn sc))].flatMap ocl, u.oneCell' = true := fun u hu => by simp only [List.flatMap_cons, List.flatMap_nil, List.append_nil, ocl, ecl, List.mem_cons, List.not_mem_nil, or_false] at hu; rcases hu with rfl | rfl | rfl | rfl | rfl | rfl <;> rfl
      have HW5 := Lib.hid hw5
      have HS5 := Lib.hid hs5
      have HSRC := Lib.hid hsrc
      have HONE := Lib.hid hone
      clear hs5 hsrc hone hw5
      refine wpChain_step (fun K hK => ?_)
      refine wp_append_S (.tmp 38) (.tmp 45) 37 rfl 44 k3 _ 6 64 Try.underlying37 hk3 hz30 hz31 hz32 rfl (by omega) (.slice oa outs.length oc) outs.length (outs.flatMap ocl) blk rfl HS5.out (.slice (some ⟨w5.heap.size, 0, none⟩) 1 1) 1 ([(yi, (ye, .slice sa sn sc))].flatMap ocl) rfl HSRC.out HONE.out (by have := HOL.out; simp only [maxLen]; omega) (by have := HOL.out; omega) ?_
      intro v6 w6 bk6 hown6 hgrow6 hat6
      have hc6 : w6.heap[wr.heap.size]? = some (Obj.cells #[.int .i64 yi, .int .i64 ye.k, .int .i64 ye.n, .int .i64 ye.t, .slice ra rn rc, .int .i64 ye.c] 44 (0, 0)) := (hgrow6.block _ (by have := ((HO5.out.alloc HO5.out.size (Obj.cells #[.int .i64 yi, .int .i64 ye.k, .int .i64 ye.n, .int .i64 ye.t, .slice sa sn sc, .int .i64 ye.c] 44)).size); have := heap_lt HBX.out; omega) (fun e => by have := HCP.out.own.lt_of e.symm; omega)).trans (((HO5.out.alloc HO5.out.size _).block _ (heap_lt HBX.out)).trans HBX.out)
      refine hK _ _ rfl (fun _ => hc6) ?_
      clear hK K
      refine wpChain_step (fun K hK => ?_)
      go_simp
      refine hK _ _ rfl (fun _ => hc6) ?_
      clear hK K
      refine wpChain_nil ?_
      have hnext : Copied w w6 v6 (outE' (x.outs.take (j + 1))) (outs ++ [(yi, (ye, .slice sa sn sc))]) bk6 := by
        have hz5 : W1.heap.size ≤ w5.heap.size := HO5.out.size
        have hz1 := HZ1.out
        have hza : (w5.alloc (Obj.cells #[.int .i64 yi, .int .i64 ye.k, .int .i64 ye.n, .int .i64 ye.t, .slice sa sn sc, .int .i64 ye.c] 44)).heap.size = w5.heap.size + 1 := by simp
        have hz6 := hgrow6.size
        have hzw := HCP.out.below.size
        have hblk : ∀ g, bk6 = some g → blk = some g ∨ w5.heap.size + 1 ≤ g := fun g hg => by
          rcases hat6 with e | e
          · exact .inl (e ▸ hg)
          · rw [hg] at e; injection e with e; exact .inr (by omega)
        have hkeep : ∀ {S : Nat → Prop} {r row}, RowAt w5 S r row → (∀ b, S b → b < w5.heap.size → blk ≠ some b) → RowAt w6 S r row := fun hx hS => hx.keep fun b hb hl => (hgrow6.block b (by omega) (fun e => hS b hb hl e.symm)).trans (Below.heap_alloc _ _ _ hl)
        refine ⟨(HCP.out.below.trans (HW5.out.mono hzw)).grown hgrow6 (Nat.le_trans hzw HW5.out.size) (fun q hq => HCP.out.new q hq), ?_, by simpa using hown6, fun g hg => ?_, fun o ho => ?_⟩
        · have hl' : j < x.outs.length := hlt
          rw [List.take_succ_eq_append_getElem hl', HXJ.out]
          simp only [outE', List.map_append, List.map_cons, List.map_nil]
          congr 1
          exact HCP.out.eq
        · rcases hblk g hg with e | e
          · exact HCP.out.new g e
          · omega
        · rcases List.mem_append.1 ho with ho | ho
          · have h1 := (HCP.out.rows o ho).below (HB1.out.trans (HO5.out.mono HB1.out.size))
            exact (hkeep h1 fun b hb _ => hb.2.2).imp fun b _ hb => ⟨hb.1, by omega, fun e => by
              rcases hblk b e with h | h
              · exact hb.2.2 h
              · omega⟩
          · rw [List.mem_singleton] at ho; subst ho
            have hzd : W1.drew.heap.size = W1.heap.size := rfl
            have h1 := HR5.out.imp (D' := fun b => wr.heap.size ≤ b ∧ b < w5.heap.size) fun b hl hb => ⟨by omega, hl⟩
            exact (hkeep h1 fun b hb _ e => by have := HCP.out.own.lt_of e; omega).imp fun b _ hb => ⟨by omega, by omega, fun e => by
              rcases hblk b e with h | h
              · have := HCP.out.own.lt_of h; omega
              · omega⟩
      have HNX := Lib.hid hnext
      clear hnext hown6 hgrow6 hat6 hc6
      go_wp2_with fail
      go_roundw
      case rel => exact ⟨j + 1, _, _, by omega, by go_num, by simp [HOL.out], HNX.out⟩
      case measure => simp [intOf]; omega
    · have hje : j = x.outs.length := by omega
      have hfin : Copied w wr (.slice oa outs.length oc) (outE' x.outs) outs blk := by
        have := hcp
        rw [hje, List.take_of_length_le (Nat.le_refl _)] at this
        exact this
      have HF := Lib.hid hfin
      obtain ⟨m0, m1⟩ := HN.out wr hcp.below
      clear hfin hcp
      go_wp2_with fail
      go_quiet (fail)
      go_wp2_with fail
      have hbd : Below wr.heap.size wr (wr.drewN nq) := ⟨rfl, rfl, rfl, Nat.le_refl _, fun _ _ => rfl⟩
      exact bodyPost_ret (v := .tuple #[.slice oa outs.length oc, .bool x.whole, .int .i64 0]) (by kernel_rfl) rfl ⟨_, _, _, rfl, HF.out.next hbd⟩
end walks
end Go.Proofs.Ytdnkfgnjeibjeaa.W
