import Derived.Test.YtdnkfgnjeibjeaaG18
namespace Go.Proofs.Ytdnkfgnjeibjeaa
open Go.RowKit Go.Shelf

/-- A mark. -/
def mk (k : Int) : Elem := { k := 2, n := k, t := 0, row := [], c := 0 }

section walks
set_option maxHeartbeats 1000000
set_option maxRecDepth 100000

theorem f38_any (w : World) (k : Int) : Calls Try.prog 38 #[.int .i64 k] w fun e w' => e = .returned (ev (bar k).1 (.slice none 0 0)) ∧ Below w.heap.size w w' := by
  go_enter Try.func38, Try.ntmps38
  go_wp2
  refine bodyPost_ret (v := ev (bar k).1 (.slice none 0 0)) (by simp [results, Try.results38, go_sem, bar]) rfl ⟨rfl, ?_⟩
  exact (Below.refl _ _).alloc (Nat.le_refl _) _

theorem f39_any (w : World) (k : Int) : Calls Try.prog 39 #[.int .i64 k] w fun e w' => e = .returned (ev (mk k) (.slice none 0 0)) ∧ Below w.heap.size w w' := by
  go_enter Try.func39, Try.ntmps39
  go_wp2
  refine bodyPost_ret (v := ev (mk k) (.slice none 0 0)) (by simp [results, Try.results39, go_sem, mk]) rfl ⟨rfl, ?_⟩
  exact (Below.refl _ _).alloc (Nat.le_refl _) _

theorem f12_no (w : World) (n : Int) (al : Bool) (h : n < 1 ∨ 200 < n) :
    Calls Try.prog 12 #[.int .i64 n, .bool al] w fun e w' => e = .returned (.tuple #[.pointer none, .int .i64 7]) ∧ w' = w := by
  by_cases h1 : n < 1
  · go_enter Try.func12, Try.ntmps12
    go_wp2
    exact bodyPost_ret (v := .tuple #[.pointer none, .int .i64 7]) (by kernel_rfl) rfl ⟨rfl, rfl⟩
  · have h2 : 200 < n := by omega
    have h3 : n > 200 := h2
    go_enter Try.func12, Try.ntmps12
    go_wp2
    exact bodyPost_ret (v := .tuple #[.pointer none, .int .i64 7]) (by kernel_rfl) rfl ⟨rfl, rfl⟩
end walks

/-! The gate of the chapter's example. -/
def G1 : Gm := (Gm.new 2 true).upd 0 { Inp.zero with last := 1 }
def G2 : Gm := Gm.upd { G1 with under := 1 } 0 (G1.inp 0).send
def G3 (r : Value) : Gm := G2.upd 0 { G2.inp 0 with queue := (G2.inp 0).queue ++ [(mk 5, r)] }
def G4 (r : Value) : Gm := (G3 r).upd 1 { (G3 r).inp 1 with last := 1 }
def G5 (r : Value) : Gm := (G4 r).upd 1 ((G4 r).inp 1).send
def G6 (r : Value) : Gm := (G5 r).ends.drainTo ((G5 r).ends.list 2)

theorem look1 (D : Nat → Prop) (r : Value) : LookTo D 0 ((bar 1).1, r) G1 G2 [] :=
  f44_first D 0 _ G1 G2 [] (by decide) rfl rfl (by show (0 : Int) < 1; decide) rfl (f53_none D 0 G2 (.inr (by decide))) (by decide)

theorem look3 (D : Nat → Prop) (r r' : Value) : LookTo D 1 ((bar 1).1, r') (G4 r) (G6 r) [(1, bar 1), (0, (mk 5, r))] :=
  f44_same D 1 _ (G4 r) (G6 r) _ (by show 1 < 2; decide) rfl (by show (0 : Int) < 1; decide) rfl (by show (0 : Int) < 1; decide)
    (f53_whole D 1 (G5 r) (G6 r) [(0, (mk 5, r))] rfl (by show (1 : Int) ≠ 0; decide) rfl (f55_plain D (G5 r).ends (by show 0 + 1 + 0 ≤ 1000000; decide) (by show (-1 : Int) < 0; decide)) (by show 1 ≤ 1000000; decide)) (by show 2 ≤ 1000000; decide)

/-- A gate that was made since w. -/
def AwS (w W : World) (m : Gm) : Prop := ∃ D gs, (∀ b, D b → b < W.heap.size) ∧ GateAt W D gs m ∧ gs.G = w.heap.size + 1 ∧ (∀ b, gs.own m.n b → w.heap.size ≤ b) ∧ Below w.heap.size w W

theorem AwS.next {w W W' : World} {m : Gm} (h : AwS w W m) (hb : Below W.heap.size W W') : AwS w W' m := by
  obtain ⟨D, gs, hD, hg, hG, ho, hbw⟩ := h
  exact ⟨D, gs, fun b hb' => Nat.lt_of_lt_of_le (hD b hb') hb.size, hg.below hb, hG, ho, hbw.trans (hb.mono hbw.size)⟩

theorem Arr.aws {w W w' : World} {D : Nat → Prop} {gs : GS} {m : Gm} {m' : Value → Gm} {outs : Value → List OV} {err : Int} {e : Ending} (h : Arr W D gs m.n m' outs err e w') (hG : gs.G = w.heap.size + 1) (ho : ∀ b, gs.own m.n b → w.heap.size ≤ b) (hbw : Below w.heap.size w W) :
    ∃ v r blk, e = .returned (.tuple #[v, .int .i64 err]) ∧ AwS w w' (m' r) ∧ SlOwn w' 44 6 v (outs r).length ((outs r).flatMap ocl) blk := by
  obtain ⟨D', r, gs', v, blk, hD1, hD2, hD3, he, hn, hs, hb, hg, hG', ho', hr, hon⟩ := h
  refine ⟨v, r, blk, he, ⟨D', gs', hD3, hg, hG'.trans hG, fun b hb => ?_, hbw.trans (hon.below hbw.size ho)⟩, hs⟩
  rw [hn] at hb
  rcases ho' b hb with h | h
  · exact ho b h
  · exact Nat.le_trans hbw.size h

theorem arr1 (w W : World) (h : AwS w W (Gm.new 2 true)) : Calls Try.prog 13 #[.pointer (some ⟨w.heap.size + 1, 0, none⟩), .int .i64 0, ev (bar 1).1 (.slice none 0 0)] W fun e w' =>
    ∃ a c, e = .returned (.tuple #[.slice a 0 c, .int .i64 0]) ∧ AwS w w' G2 := by
  obtain ⟨D, gs, hD, hg, hG, ho, hbw⟩ := h
  have hc := f13_bar W D (fun _ => False) gs (Gm.new 2 true) 0 (bar 1).1 (.slice none 0 0) (fun _ => G2) (fun _ => []) hg hD (RowAt.nil _ _) (by decide) (by decide) (by decide) rfl rfl (by show (0 : Int) < 1; decide) (fun b hb => hb.elim) rfl (fun D r => look1 D r)
  rw [hG] at hc
  refine hc.mono ?_
  rintro e w' hr
  obtain ⟨v, r, blk, rfl, hS, hs⟩ := hr.aws (w := w) (m := Gm.new 2 true) hG ho hbw
  obtain ⟨a, c, rfl⟩ := hs.form
  exact ⟨a, c, rfl, hS⟩

theorem arr2 (w W : World) (h : AwS w W G2) : Calls Try.prog 13 #[.pointer (some ⟨w.heap.size + 1, 0, none⟩), .int .i64 0, ev (mk 5) (.slice none 0 0)] W fun e w' =>
    ∃ a c r, e = .returned (.tuple #[.slice a 0 c, .int .i64 0]) ∧ AwS w w' (G3 r) := by
  obtain ⟨D, gs, hD, hg, hG, ho, hbw⟩ := h
  have hc := f13_wait W D (fun _ => False) gs G2 0 (mk 5) (.slice none 0 0) hg hD (RowAt.nil _ _) (by decide) (by decide) (by show 0 < 2; decide) rfl rfl rfl (by show 0 + 0 + 0 ≤ 1000000; decide) (by show 0 + 0 + 0 ≠ 4000; decide)
  rw [hG] at hc
  refine hc.mono ?_
  rintro e w' hr
  obtain ⟨v, r, blk, rfl, hS, hs⟩ := hr.aws (w := w) (m := G2) hG ho hbw
  obtain ⟨a, c, rfl⟩ := hs.form
  exact ⟨a, c, r, rfl, hS⟩

theorem arr3 (w W : World) (r : Value) (h : AwS w W (G3 r)) : Calls Try.prog 13 #[.pointer (some ⟨w.heap.size + 1, 0, none⟩), .int .i64 1, ev (bar 1).1 (.slice none 0 0)] W fun e w' =>
    ∃ a c blk, e = .returned (.tuple #[.slice a 2 c, .int .i64 0]) ∧ AwS w w' (G6 r) ∧ SlOwn w' 44 6 (.slice a 2 c) 2 ([(1, bar 1), (0, (mk 5, r))].flatMap ocl) blk := by
  obtain ⟨D, gs, hD, hg, hG, ho, hbw⟩ := h
  have hc := f13_bar W D (fun _ => False) gs (G3 r) 1 (bar 1).1 (.slice none 0 0) (fun _ => G6 r) (fun _ => [(1, bar 1), (0, (mk 5, r))]) hg hD (RowAt.nil _ _) (by decide) (by decide) (by show 1 < 2; decide) rfl rfl (by show (0 : Int) < 1; decide) (fun b hb => hb.elim) rfl (fun D r' => look3 D r r')
  rw [hG] at hc
  refine hc.mono ?_
  rintro e w' hr
  obtain ⟨v, r', blk, rfl, hS, hs⟩ := hr.aws (w := w) (m := G3 r) hG ho hbw
  obtain ⟨a, c, rfl⟩ := hs.form
  exact ⟨a, c, blk, rfl, hS, hs⟩

section walks
set_option maxHeartbeats 1000000
set_option maxRecDepth 100000

theorem f10_any (w : World) : Calls Try.prog 10 #[] w fun e w' => e = .returned (.bool true) ∧ Below w.heap.size w w' := by
  have h12 : Calls Try.prog 12 #[.int .i64 2, .bool true] w fun e w' => e = .returned (.tuple #[.pointer (some ⟨w.heap.size + 1, 0, none⟩), .int .i64 0]) ∧ ∃ v ib, NewI w w' true 2 v ib := f12_ok w 2 true (by omega) (by omega)
  have H12 := Lib.hid h12
  clear h12
  go_enter Try.func10, Try.ntmps10
  go_wp2_with (first
    | (go_at_call 12; refine H12.out.mono ?_; rintro e w1 ⟨rfl, v, ib, hN⟩
       have hs1 : AwS w w1 (Gm.new 2 true) := by
         obtain ⟨gs, hG, hg, ho⟩ := hN.gate (by omega) (by omega) (fun _ => False) (fun b hb => hb.elim)
         exact ⟨fun _ => False, gs, (fun b hb => hb.elim), hg, hG, ho, hN.below⟩
       have HA := Lib.hid hs1
       clear hN hs1)
    | (go_at_call 38; refine (f38_any _ _).mono ?_; rintro e w2 ⟨rfl, hb2⟩; have HB := Lib.hid (HA.out.next hb2); clear HA hb2)
    | (go_at_call 13; refine (arr1 _ _ HB.out).mono ?_; rintro e w3 ⟨a1, c1, rfl, hs3⟩; have HC := Lib.hid hs3; clear hs3 HB)
    | (go_at_call 39; refine (f39_any _ _).mono ?_; rintro e w2 ⟨rfl, hb2⟩; have HD := Lib.hid (HC.out.next hb2); clear HC hb2)
    | (go_at_call 13; refine (arr2 _ _ HD.out).mono ?_; rintro e w4 ⟨a2, c2, r2, rfl, hs4⟩; have HE := Lib.hid hs4; clear hs4 HD)
    | (go_at_call 38; refine (f38_any _ _).mono ?_; rintro e w2 ⟨rfl, hb2⟩; have HF := Lib.hid (HE.out.next hb2); clear HE hb2)
    | (go_at_call 13; refine (arr3 _ _ _ HF.out).mono ?_; rintro e w5 ⟨a3, c3, bk3, rfl, hs5, ho5⟩; have HG := Lib.hid hs5
       obtain ⟨g, o, rfl⟩ : ∃ g o, a3 = some ⟨g, o, none⟩ := by
         rcases ho5.2 with ⟨hx, _⟩ | ⟨g, o, cap, cur, _, hx, _⟩
         · injection hx with _ hx _; omega
         · injection hx with hx _ _; exact ⟨g, o, hx⟩
       have k2 : w5.cell? ⟨g, o + 2, none⟩ = some (.int .i64 1) := ho5.cell 2 _ rfl
       have k6 : w5.cell? ⟨g, o + 6, none⟩ = some (.int .i64 0) := ho5.cell 6 _ rfl
       have k8 : w5.cell? ⟨g, o + 8, none⟩ = some (.int .i64 5) := ho5.cell 8 _ rfl
       clear hs5 HF ho5))
  go_ret
  obtain ⟨_, _, _, _, _, _, hbw⟩ := HG.out
  exact ⟨rfl, hbw⟩
end walks
end Go.Proofs.Ytdnkfgnjeibjeaa
