import Derived.Test.YtdnkfgnjeibjeaaK1
import Derived.Test.YtdnkfgnjeibjeaaJL
namespace Go.Proofs.Ytdnkfgnjeibjeaa.W
open Go.RowKit Go.Shelf

theorem FreeAt.shutAt {w : World} {D : Nat → Prop} {gs : GS} {m : Gm} {ns : List NoteC} (h : FreeAt w D gs m ns) {i : Nat} (hi : i < m.n) : FreeAt (w.setCell ⟨gs.ib i, 1, none⟩ (.bool true)) D gs (m.upd i (m.inp i).shut) ns := by
  have hg : GateAt (w.setCell ⟨gs.ib i, 1, none⟩ (.bool true)) D gs (m.upd i (m.inp i).shut) := by
    refine h.gate.setI hi (m.inp i).shut rfl ?_ (fun b hne => heap_set_ne _ hne)
    have hh := heap_set (j := 1) (h.gate.hib i hi) (.bool true)
    simpa [Inp.shut] using hh
  exact h.turn hg rfl rfl h.al (emp_upd h.emp hi rfl) ((Only.refl _ _).setCell (fun _ => own_ib gs hi) _)

section walks
set_option maxHeartbeats 1000000
set_option maxRecDepth 100000

theorem f29_rng (w : World) (D : Nat → Prop) (gs : GS) (m : Gm) (h : GateAt w D gs m) (i : Int) (hi : i < 0 ∨ (m.n : Int) ≤ i) :
    Calls Try.prog 29 #[.pointer (some ⟨gs.G, 0, none⟩), .int .i64 i] w fun e w' => e = .returned (.tuple #[.slice none 0 0, .int .i64 7]) ∧ w' = w := by
  obtain ⟨g0, g1, g2, g3, g4, gf⟩ := h.cells
  clear h
  rcases Int.lt_or_le i 0 with h0 | h0
  · go_enter Try.func29, Try.ntmps29
    go_wp2_with fail
    exact bodyPost_ret (v := .tuple #[.slice none 0 0, .int .i64 7]) (by kernel_rfl) rfl ⟨rfl, rfl⟩
  · have h1 : (m.n : Int) ≤ i := by omega
    have h2 : ¬ i < 0 := by omega
    go_enter Try.func29, Try.ntmps29
    go_wp2_with fail
    exact bodyPost_ret (v := .tuple #[.slice none 0 0, .int .i64 7]) (by kernel_rfl) rfl ⟨rfl, rfl⟩

theorem f29_closed (w : World) (D : Nat → Prop) (gs : GS) (m : Gm) (h : GateAt w D gs m) (i : Nat) (hi : i < m.n) (hcl : (m.inp i).closed = true) :
    Calls Try.prog 29 #[.pointer (some ⟨gs.G, 0, none⟩), .int .i64 i] w fun e w' => e = .returned (.tuple #[.slice none 0 0, .int .i64 10]) ∧ w' = w := by
  obtain ⟨g0, g1, g2, g3, g4, gf⟩ := h.cells
  obtain ⟨ia, x0, x1, x2, x3, x4, xf⟩ := h.icells hi
  rw [hcl] at x1
  clear h
  have j1 : (0 : Int) ≤ (i : Int) := by omega
  have j2 : (i : Int) < (m.n : Int) := by omega
  go_enter Try.func29, Try.ntmps29
  go_wp2_with fail
  exact bodyPost_ret (v := .tuple #[.slice none 0 0, .int .i64 10]) (by kernel_rfl) rfl ⟨rfl, rfl⟩

theorem f30_none (w : World) (D : Nat → Prop) (gs : GS) (m : Gm) (h : GateAt w D gs m) (hu : m.under = 0) :
    Calls Try.prog 30 #[.pointer (some ⟨gs.G, 0, none⟩)] w fun e w' => e = .returned (.tuple #[.slice none 0 0, .int .i64 8]) ∧ w' = w := by
  obtain ⟨g0, g1, g2, g3, g4, gf⟩ := h.cells
  rw [hu] at g2
  clear h
  go_enter Try.func30, Try.ntmps30
  go_wp2_with fail
  exact bodyPost_ret (v := .tuple #[.slice none 0 0, .int .i64 8]) (by kernel_rfl) rfl ⟨rfl, rfl⟩

theorem f29_free (w : World) (D : Nat → Prop) (gs : GS) (m : Gm) (ns : List NoteC) (h : FreeAt w D gs m ns) (hD : ∀ b, D b → b < w.heap.size) (i : Nat) (hi : i < m.n) (hcl : (m.inp i).closed = false) (hok : KOk m (ns.map NoteC.abs)) :
    Calls Try.prog 29 #[.pointer (some ⟨gs.G, 0, none⟩), .int .i64 i] w (FArr w D gs m.n ns (fWhole (m.upd i (m.inp i).shut) (ns.map NoteC.abs)).1 (fWhole (m.upd i (m.inp i).shut) (ns.map NoteC.abs)).2 [] 0) := by
  obtain ⟨g0, g1, g2, g3, g4, gf⟩ := h.gate.cells
  obtain ⟨ia, x0, x1, x2, x3, x4, xf⟩ := h.gate.icells hi
  rw [hcl] at x1
  have hst := (FStep.refl h hD).same (h.shutAt hi) rfl rfl (fun _ h => .inl h) ((Only.refl _ _).setCell (fun _ => .inl (own_ib gs hi)) _)
  have hc := f53_free _ D i gs _ ns hst.gate hst.d3 (hok.send i _)
  have HC := Lib.hid hc
  have HS := Lib.hid hst
  clear h hst hc hD hok
  have j1 : (0 : Int) ≤ (i : Int) := by omega
  have j2 : (i : Int) < (m.n : Int) := by omega
  go_enter Try.func29, Try.ntmps29
  go_wp2_with (go_at_call 53; refine HC.out.mono ?_; rintro e w3 ⟨v3, rfl, hres⟩)
  exact bodyPost_ret (v := .tuple #[v3, .int .i64 0]) (by kernel_rfl) rfl ⟨v3, rfl, hres.from HS.out⟩

theorem f30_free (w : World) (D : Nat → Prop) (gs : GS) (m : Gm) (ns : List NoteC) (h : FreeAt w D gs m ns) (hD : ∀ b, D b → b < w.heap.size) (hu : m.under ≠ 0) :
    Calls Try.prog 30 #[.pointer (some ⟨gs.G, 0, none⟩)] w (FArr w D gs m.n ns m.ends ((ns.map NoteC.abs).filter (fun y => y.1 != m.under)) [] 0) := by
  obtain ⟨g0, g1, g2, g3, g4, gf⟩ := h.gate.cells
  rw [h.al] at g1
  simp only [howV, Bool.false_eq_true, if_false] at g1
  have hs0 := FStep.refl h hD
  have hc0 := f123_any w gs m ns h
  have HS0 := Lib.hid hs0
  have HC0 := Lib.hid hc0
  clear hs0 hc0 h hD
  go_enter Try.func30, Try.ntmps30
  go_wp2_with (first
    | (go_at_call 123; refine HC0.out.mono ?_; rintro e w1 ⟨rfl, hf1, ho1⟩
       have hs1 := HS0.out.same (W' := w1) hf1 rfl rfl (fun b hb => .inl (by
         rcases hb with hb | ⟨z, hz, hb⟩
         · exact .inl hb
         · exact .inr ⟨z, (List.mem_filter.1 hz).1, hb⟩)) (ho1.mono fun b _ hb => .inl (.inr (.inr (.inl hb))))
       have hc1 := f54_any w1 _ m hf1.gate
       have HC1 := Lib.hid hc1; have HS1 := Lib.hid hs1
       clear hf1 ho1 hs1 hc1)
    | (go_at_call 54; refine HC1.out.mono ?_; rintro e w2 ⟨rfl, hg2, ho2⟩
       have hf2 := HS1.out.gate.ends hg2 ho2
       have hs2 := HS1.out.same (W' := w2) hf2 rfl rfl (fun b hb => .inl hb) (ho2.mono fun b _ hb => .inl hb)
       have hc2 := f55_none D _ m.ends w2 hg2 hs2.d3 hf2.emp
       have HC2 := Lib.hid hc2; have HS2 := Lib.hid hs2
       clear hg2 ho2 hf2 hs2 hc2)
    | (go_at_call 55; refine HC2.out.mono ?_; rintro e w3 ⟨rfl, hb3⟩; have HS3 := Lib.hid (HS2.out.below hb3); clear hb3))
  have hfin := FRes.nil HS3.out
  rw [abs_filter ns (fun k => k != m.under)] at hfin
  exact bodyPost_ret (v := .tuple #[.slice none 0 0, .int .i64 0]) (by kernel_rfl) rfl ⟨_, rfl, hfin⟩
end walks
end Go.Proofs.Ytdnkfgnjeibjeaa.W
