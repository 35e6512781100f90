import Derived.Test.YtdnkfgnjeibjeaaJ7
namespace Go.Proofs.Ytdnkfgnjeibjeaa.W
open Go.RowKit Go.Shelf

section walks
set_option maxHeartbeats 1000000
set_option maxRecDepth 100000

theorem f56_any (w : World) {D : Nat → Prop} (gs : GS) (m : Gm) (i : Nat) (h : GateAt w D gs m) (hi : i < m.n) :
    Calls Try.prog 56 #[.pointer (some ⟨gs.ib i, 0, none⟩)] w fun e w' => e = .returned (.bool (m.inp i).miss) ∧ w' = w := by
  obtain ⟨ia, i0, i1, i2, i3, i4, ifr⟩ := h.icells hi
  clear h
  cases hc : (m.inp i).closed <;> cases hs : (m.inp i).sent <;> rw [hc] at i1 <;> rw [hs] at i3 <;> go_enter Try.func56, Try.ntmps56 <;> go_wp2 <;> go_ret <;> exact ⟨ret_bool (by simp [Inp.miss, hc, hs]), rfl⟩


theorem f92_any (w : World) {D : Nat → Prop} (gs : GS) (m : Gm) (h : GateAt w D gs m) :
    Calls Try.prog 92 #[.slice (some ⟨gs.arr, 0, none⟩) m.n gs.cap, .func (.func 56) #[] #[]] w fun e w' => (∃ v : Int, e = .returned (.int .i64 v) ∧ (m.anyMiss = true ↔ 0 ≤ v)) ∧ w' = w := by
  have H := Lib.hid h
  have hle := h.le
  clear h
  go_enter Try.func92, Try.ntmps92
  go_wp2
  go_loopw [8] (fun i wr => ∃ k : Nat, k ≤ m.n ∧ i = .int .i64 k ∧ (∀ j, j < k → (m.inp j).miss = false) ∧ wr = w) (fun i _ => m.n - (intOf i).toNat)
  case atStart => exact ⟨0, Nat.zero_le _, rfl, by omega, rfl⟩
  case round =>
    obtain ⟨k, hk, rfl, hv, rfl⟩ := hrel
    by_cases hlt : k < m.n
    · have ia := H.out.arr_cell hlt
      have hc := f56_any _ gs m k H.out hlt
      have HC := Lib.hid hc
      clear hc
      cases hm : (m.inp k).miss <;> rw [hm] at HC
      · go_wp2_with (go_at_call 56; refine HC.out.mono ?_; rintro e w' ⟨rfl, rfl⟩)
        go_roundw
        case rel =>
          refine ⟨k + 1, by omega, by go_num, fun j hj => ?_, by first | trivial | rfl⟩
          by_cases e : j = k
          · subst e; exact hm
          · exact hv j (by omega)
        case measure => simp [intOf]; omega
      · go_wp2_with (go_at_call 56; refine HC.out.mono ?_; rintro e w' ⟨rfl, rfl⟩)
        go_ret
        exact ⟨⟨k, rfl, by rw [iff_true_right (by omega)]; exact List.any_eq_true.2 ⟨k, List.mem_range.2 hlt, hm⟩⟩, rfl⟩
    · go_wp2
      go_ret
      refine ⟨⟨-1, rfl, ?_⟩, rfl⟩
      rw [iff_false_right (by omega)]
      intro hh
      obtain ⟨j, hj, hj2⟩ := List.any_eq_true.1 hh
      rw [hv j (by have := List.mem_range.1 hj; omega)] at hj2
      cases hj2

theorem f75_any (w : World) {D : Nat → Prop} (gs : GS) (m : Gm) (h : GateAt w D gs m) :
    Calls Try.prog 75 #[.slice (some ⟨gs.arr, 0, none⟩) m.n gs.cap, .func (.func 56) #[] #[]] w fun e w' => e = .returned (.bool m.anyMiss) ∧ w' = w := by
  have hc := f92_any w gs m h
  have HC := Lib.hid hc
  clear hc h
  cases hm : m.anyMiss
  · go_enter Try.func75, Try.ntmps75
    go_wp2_with (go_at_call 92; refine HC.out.mono ?_; rintro e w' ⟨⟨v, rfl, hv⟩, rfl⟩; rw [hm] at hv; have hv0 : ¬ 0 ≤ v := fun hh => absurd (hv.2 hh) (by decide))
    refine bodyPost_ret (v := .bool (decide (0 ≤ v))) (by kernel_rfl) rfl ⟨?_, rfl⟩
    rw [decide_eq_false (by omega)]
  · go_enter Try.func75, Try.ntmps75
    go_wp2_with (go_at_call 92; refine HC.out.mono ?_; rintro e w' ⟨⟨v, rfl, hv⟩, rfl⟩; rw [hm] at hv; have hv0 : 0 ≤ v := hv.1 rfl; clear hv)
    go_ret
    exact ⟨ret_bool (by simp), rfl⟩

end walks

/-- From one state of a gate of the free kind to another. -/
structure FStep (w : World) (D : Nat → Prop) (gs : GS) (n : Nat) (ns : List NoteC) (W : World) (D1 : Nat → Prop) (gs1 : GS) (m1 : Gm) (ns1 : List NoteC) : Prop where
  gate : FreeAt W D1 gs1 m1 ns1
  hn : m1.n = n
  G : gs1.G = gs.G
  own : ∀ b, fown gs1 n ns1 b → fown gs n ns b ∨ w.heap.size ≤ b
  d1 : ∀ b, D b → D1 b
  d2 : ∀ b, D1 b → D b ∨ w.heap.size ≤ b
  d3 : ∀ b, D1 b → b < W.heap.size
  only : Only (fown gs n ns) w W

section
variable {w W W' : World} {D D1 D2 : Nat → Prop} {gs gs1 gs2 : GS} {n : Nat} {m1 m2 : Gm} {ns ns1 ns2 : List NoteC}

theorem FStep.refl {m : Gm} (h : FreeAt w D gs m ns) (hD : ∀ b, D b → b < w.heap.size) : FStep w D gs m.n ns w D gs m ns :=
  ⟨h, rfl, rfl, fun _ h => .inl h, fun _ h => h, fun _ h => .inl h, hD, Only.refl _ _⟩

theorem FStep.trans (h : FStep w D gs n ns W D1 gs1 m1 ns1) (k : FStep W D1 gs1 n ns1 W' D2 gs2 m2 ns2) : FStep w D gs n ns W' D2 gs2 m2 ns2 :=
  ⟨k.gate, k.hn, k.G.trans h.G, fun b hb => by
      rcases k.own b hb with hb | hb
      · exact h.own b hb
      · exact .inr (Nat.le_trans h.only.size hb), fun b hb => k.d1 b (h.d1 b hb), fun b hb => by
      rcases k.d2 b hb with hb | hb
      · exact h.d2 b hb
      · exact .inr (Nat.le_trans h.only.size hb), k.d3, h.only.trans k.only fun x hx hb => by
      rcases h.own x hb with hb | hb
      · exact hb
      · omega⟩

/-- A step that turns blocks of the gate alone, and keeps its place. -/
theorem FStep.same (h : FStep w D gs n ns W D1 gs1 m1 ns1) (hg : FreeAt W' D1 gs2 m2 ns2) (hn : m2.n = m1.n) (hG : gs2.G = gs1.G) (hown : ∀ b, fown gs2 n ns2 b → fown gs1 n ns1 b ∨ W.heap.size ≤ b) (ho : Only (fown gs1 n ns1) W W') : FStep w D gs n ns W' D1 gs2 m2 ns2 :=
  h.trans ⟨hg, hn.trans h.hn, hG, hown, fun _ h => h, fun _ h => .inl h, fun b hb => Nat.lt_of_lt_of_le (h.d3 b hb) ho.size, ho⟩

theorem FStep.below (h : FStep w D gs n ns W D1 gs1 m1 ns1) (hb : Below W.heap.size W W') : FStep w D gs n ns W' D1 gs1 m1 ns1 :=
  h.same (h.gate.below hb) rfl rfl (fun _ h => .inl h) (Only.of_below hb)
end

/-- What a call on a gate of the free kind gives. -/
def FRes (w : World) (D : Nat → Prop) (gs : GS) (n : Nat) (ns : List NoteC) (m' : Gm) (N' : List Note) (O : List (Nat × Elem)) (v : Value) (w' : World) : Prop :=
  ∃ D' gs' ns' outs blk, FStep w D gs n ns w' D' gs' m' ns' ∧ ns'.map NoteC.abs = N' ∧ outE' outs = O ∧ SlOwn w' 44 6 v outs.length (outs.flatMap ocl) blk ∧ (∀ g, blk = some g → w.heap.size ≤ g ∧ ¬ fown gs' n ns' g ∧ ¬ D' g) ∧ (∀ o ∈ outs, RowAt w' D' o.2.2 o.2.1.row)

def FGives (w : World) (D : Nat → Prop) (gs : GS) (n : Nat) (ns : List NoteC) (m' : Gm) (N' : List Note) (O : List (Nat × Elem)) (e : Ending) (w' : World) : Prop :=
  ∃ v, e = .returned v ∧ FRes w D gs n ns m' N' O v w'

theorem FRes.from {w W w' : World} {D D1 : Nat → Prop} {gs gs1 : GS} {n : Nat} {ns ns1 : List NoteC} {m1 m' : Gm} {N' : List Note} {O : List (Nat × Elem)} {v : Value} (h : FStep w D gs n ns W D1 gs1 m1 ns1) (k : FRes W D1 gs1 n ns1 m' N' O v w') : FRes w D gs n ns m' N' O v w' := by
  obtain ⟨D', gs', ns', outs, blk, hs, hN, hO, hv, hb, hr⟩ := k
  exact ⟨D', gs', ns', outs, blk, h.trans hs, hN, hO, hv, fun g hg => ⟨Nat.le_trans h.only.size (hb g hg).1, (hb g hg).2⟩, hr⟩

theorem FRes.nil {w w' : World} {D D1 : Nat → Prop} {gs gs1 : GS} {n : Nat} {ns ns1 : List NoteC} {m1 : Gm} (h : FStep w D gs n ns w' D1 gs1 m1 ns1) : FRes w D gs n ns m1 (ns1.map NoteC.abs) [] (.slice none 0 0) w' :=
  ⟨D1, gs1, ns1, [], none, h, rfl, rfl, SlOwn.nil _ _ _, (fun g hg => by cases hg), fun o ho => by cases ho⟩

theorem FreeAt.ends {w w' : World} {D : Nat → Prop} {gs : GS} {m : Gm} {ns : List NoteC} (h : FreeAt w D gs m ns) (hg : GateAt w' D gs m.ends) (ho : Only (gs.own m.n) w w') : FreeAt w' D gs m.ends ns :=
  h.turn hg rfl rfl h.al (fun i hi => h.emp i hi) ho

/-- 'whole': the barrier passes if all have sent it. -/
def fWhole (m : Gm) (N : List Note) : Gm × List Note := if m.under = 0 ∨ m.anyMiss = true then (m, N) else (m.ends, (N.filter (fun y => y.1 == m.under)).map fun y => (y.1, y.2.1, true))

/-- The numbers of the notes. -/
structure KOk (m : Gm) (N : List Note) : Prop where
  pos : 0 ≤ m.under
  has : 0 < m.under → ∃ y ∈ N, y.1 = m.under
  le : ∀ y ∈ N, y.1 ≤ m.done ∨ (0 < m.under ∧ y.1 = m.under)
  dpos : 0 ≤ m.done

theorem abs_filter (ns : List NoteC) (p : Int → Bool) : (ns.filter (fun x => p x.k)).map NoteC.abs = (ns.map NoteC.abs).filter (fun y => p y.1) := by
  rw [List.filter_map]
  rfl

section walks
set_option maxHeartbeats 1000000
set_option maxRecDepth 100000

theorem f53_free (w : World) (D : Nat → Prop) (i : Nat) (gs : GS) (m : Gm) (ns : List NoteC) (h : FreeAt w D gs m ns) (hD : ∀ b, D b → b < w.heap.size) (hk : KOk m (ns.map NoteC.abs)) :
    Calls Try.prog 53 #[.pointer (some ⟨gs.G, 0, none⟩), .int .i64 i] w (FGives w D gs m.n ns (fWhole m (ns.map NoteC.abs)).1 (fWhole m (ns.map NoteC.abs)).2 []) := by
  obtain ⟨g0, g1, g2, g3, g4, gf⟩ := h.gate.cells
  rw [h.al] at g1
  simp only [howV, Bool.false_eq_true, if_false] at g1
  have hc := f75_any w gs m h.gate
  have HC := Lib.hid hc
  have H := Lib.hid h
  have HD := Lib.hid hD
  clear h hc hD
  by_cases hu : m.under = 0
  · have e : fWhole m (ns.map NoteC.abs) = (m, ns.map NoteC.abs) := if_pos (.inl hu)
    rw [hu] at g2
    rw [e]
    go_enter Try.func53, Try.ntmps53
    go_wp2_with fail
    go_ret
    exact ⟨_, rfl, FRes.nil (FStep.refl H.out HD.out)⟩
  · cases hm : m.anyMiss with
    | true =>
      have e : fWhole m (ns.map NoteC.abs) = (m, ns.map NoteC.abs) := if_pos (.inr hm)
      rw [hm] at HC
      rw [e]
      clear e hk
      go_enter Try.func53, Try.ntmps53
      go_wp2_with (go_at_call 75; refine HC.out.mono ?_; rintro e w' ⟨rfl, rfl⟩)
      go_ret
      exact ⟨_, rfl, FRes.nil (FStep.refl H.out HD.out)⟩
    | false =>
      have e : fWhole m (ns.map NoteC.abs) = (m.ends, ((ns.map NoteC.abs).filter (fun y => y.1 == m.under)).map fun y => (y.1, y.2.1, true)) := if_neg (by rintro (e | e); exact hu e; rw [hm] at e; cases e)
      rw [hm] at HC
      rw [e]
      clear e
      have hpos := hk.pos
      obtain ⟨y, hy, hyk⟩ := hk.has (by omega)
      obtain ⟨x, hx, rfl⟩ := List.mem_map.1 hy
      have hxk : x.k = m.under := hyk
      have hN : ((ns.map NoteC.abs).filter (fun y => y.1 == m.under)).map (fun y => (y.1, y.2.1, true)) = [({ x with whole := true } : NoteC)].map NoteC.abs := by
        rw [← hxk, ← abs_filter ns (fun k => k == x.k), filter_one H.out.apart hx]
        rfl
      rw [hN]
      clear hN hy hyk hk hpos
      have HX := Lib.hid hx
      have HXK := Lib.hid hxk
      clear hx
      obtain ⟨i0, hi0, hz0, hz1, hz2⟩ := info_parts info44
      have hc2 := fun (W : World) (hb : Below w.heap.size w W) => f122_any W gs m ns (H.out.below hb) (fun b hb' => Nat.lt_of_lt_of_le (HD.out b hb') hb.size) x HX.out i
      rw [hxk] at hc2
      have HC2 := Lib.hid hc2
      clear hc2 hxk
      go_enter Try.func53, Try.ntmps53
      go_wp2_with (go_at_call 75; refine HC.out.mono ?_; rintro e w' ⟨rfl, rfl⟩)
      go_still_tail 12, (by kernel_rfl)
      change wpList _ _ _ _ _ w'.drew
      have hst0 := (FStep.refl H.out HD.out).below (Below.refl w'.heap.size w').drew
      have HS0 := Lib.hid hst0
      clear hst0
      go_wp2_with (first
        | (go_at_call 122; refine (HC2.out _ (Below.refl _ _).drew).mono ?_; rintro e w1 ⟨rfl, hf1, ho1⟩
           have hst1 := HS0.out.same (W' := w1) hf1 rfl rfl (fun b hb => .inl (by
             rcases hb with hb | ⟨z, hz, hb⟩
             · exact .inl hb
             · rw [List.mem_singleton] at hz; subst hz; exact .inr ⟨x, HX.out, hb⟩)) (ho1.mono fun b _ hb => by
             rcases hb with rfl | rfl
             · exact .inl (.inr (.inr (.inl rfl)))
             · exact .inr ⟨x, HX.out, .inl rfl⟩)
           have hc4 := f54_any w1 _ m hf1.gate
           have HC4 := Lib.hid hc4; have HF1 := Lib.hid hf1; have HS1 := Lib.hid hst1
           clear hc4 hf1 ho1 hst1)
        | (go_at_call 54; refine HC4.out.mono ?_; rintro e w2 ⟨rfl, hg2, ho2⟩
           have hf2 := HF1.out.ends hg2 ho2
           have hst2 := HS1.out.same (W' := w2) hf2 rfl rfl (fun b hb => .inl hb) (ho2.mono fun b _ hb => .inl hb)
           have hc5 := f55_none D _ m.ends w2 hg2 hst2.d3 hf2.emp
           have HC5 := Lib.hid hc5; have HS2 := Lib.hid hst2
           clear hg2 ho2 hf2 hst2 hc5)
        | (go_at_call 55; refine HC5.out.mono ?_; rintro e w3 ⟨rfl, hb3⟩; have HS3 := Lib.hid (HS2.out.below hb3); clear hb3)
        | (at_builtin; refine wpList_append_S rfl (.tmp 33) (.tmp 35) 37 rfl 44 i0 _ 6 64 Try.underlying37 hi0 hz0 hz1 hz2 rfl (by omega) (.slice none 0 0) 0 [] none rfl (SlOwn.nil _ _ _) (.slice none 0 0) 0 [] rfl (SlOwn.nil w3 44 6).src (fun u hu => by cases hu) (by simp [maxLen]) (by omega) ?_; intro v4 w4 bk4 hown4 hgrow4 hat4))
      obtain ⟨a4, c4, rfl⟩ := hown4.form
      go_ret
      have hb4 : Below w3.heap.size w3 w4 := ⟨hgrow4.os, hgrow4.tape, hgrow4.output, hgrow4.size, fun b hl => hgrow4.block b hl (fun e => by cases e)⟩
      have hs4 := HS3.out.below hb4
      refine ⟨_, rfl, D, _, _, [], bk4, hs4, by rw [HXK.out], rfl, hown4, fun g hg => ?_, fun o ho => by cases ho⟩
      have hge : w3.heap.size ≤ g := by
        rcases hat4 with e | e
        · rw [hg] at e; cases e
        · rw [hg] at e; injection e with e; omega
      refine ⟨Nat.le_trans HS3.out.only.size hge, fun hh => ?_, fun hh => ?_⟩
      · have := HS3.out.gate.lt hh; omega
      · have := HS3.out.d3 g hh; omega
end walks
end Go.Proofs.Ytdnkfgnjeibjeaa.W
