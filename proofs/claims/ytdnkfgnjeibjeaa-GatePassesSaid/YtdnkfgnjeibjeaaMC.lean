import Derived.Test.YtdnkfgnjeibjeaaMB
import Derived.Laws.EntriesVeiled
import Derived.StillTailTactics

namespace Go.Proofs.Ytdnkfgnjeibjeaa
open Go.RowKit Go.Shelf

attribute [local go_sem] Oper.semAt_some

abbrev o6 (dst : Nat) (op : Op) (type : TypeId) (after : Array Edge) : Oper := { dst := some dst, op := op, type := type, pos := "gate.go:185", after := after, guard := none }

/-- 'pass(g.looked(i, x.queue[0])...)' -/
abbrev ops6 : Array Oper := #[
  o6 29 (.load 135 (.tmp 3)) 135 #[],
  o6 30 (.load 25 (.tmp 1)) 25 #[],
  o6 31 (.move (.tmp 5)) 3 #[],
  o6 32 (.move (.tmp 6)) 90 #[],
  o6 33 (.nilCheck (.tmp 32)) 0 #[{ on := 3, ground := .data }],
  o6 34 (.fieldAddr 92 (.tmp 33) 2) 0 #[{ on := 4, ground := .data }],
  o6 35 (.load 49 (.tmp 34)) 49 #[{ on := 5, ground := .data }],
  o6 36 (.indexAddr 49 (.tmp 35) (.const (.int .i64 0))) 0 #[{ on := 6, ground := .data }],
  o6 37 (.load 34 (.tmp 36)) 34 #[{ on := 7, ground := .data }],
  o6 38 (.call { callee := .value (.func 44), args := #[.tmp 30, .tmp 31, .tmp 37], argTypes := #[25, 3, 34] }) 37 #[{ on := 1, ground := .data }, { on := 2, ground := .data }, { on := 8, ground := .data }],
  o6 39 (.call { callee := .value (.tmp 29), args := #[.tmp 38], argTypes := #[37] }) 0 #[{ on := 0, ground := .data }, { on := 9, ground := .data }, { on := 9, ground := .chain }]]

section walks
set_option maxHeartbeats 1000000
set_option maxRecDepth 100000

/-- What slots 29 to 39 come to hold. -/
def val6 (Bo : Nat) (gs : GS) (i : Nat) (qv : Value) (g o : Nat) (e : EV) (x : Value) : Nat → Value
  | 0 => .func (.func 78) #[] #[.pointer (some ⟨Bo, 0, none⟩)]
  | 1 => .pointer (some ⟨gs.G, 0, none⟩)
  | 2 => .int .i64 i
  | 3 => .pointer (some ⟨gs.ib i, 0, none⟩)
  | 4 => .pointer (some ⟨gs.ib i, 0, none⟩)
  | 5 => .pointer (some ⟨gs.ib i, 2, none⟩)
  | 6 => qv
  | 7 => .pointer (some ⟨g, o, none⟩)
  | 8 => ev e.1 e.2
  | 9 => x
  | _ => .tuple #[]

/-- The state inside the region. -/
def St6 (base : Array Value) (Bo : Nat) (gs : GS) (i : Nat) (qv : Value) (g o : Nat) (e : EV) (wr : World) (P : World → World → Value → World → Prop) (listed : Array Bool) (a : Act) (w : World) : Prop :=
  ∃ x, listed.size = 11 ∧ a = { tmps := fillT base 29 11 (val6 Bo gs i qv g o e x) listed, defers := [] } ∧
    ((listed.getD 9 false = false ∧ listed.getD 10 false = false ∧ w = wr.drew) ∨
     (listed.getD 9 false = true ∧ listed.getD 10 false = false ∧ (∃ bx, SlOwn w 44 6 x 1 (List.flatMap ocl [(i, e)]) bx) ∧ Below wr.heap.size wr w) ∨
     (listed.getD 9 false = true ∧ listed.getD 10 false = true ∧ ∃ w2, Below wr.heap.size wr w2 ∧ P wr w2 x w))

theorem rep_false (n k : Nat) : (Array.replicate n false).getD k false = false := by
  rcases Nat.lt_or_ge k n with h | h <;> simp [h]

theorem getD_tf {listed : Array Bool} {j : Nat} (h : listed.getD j true = false) : listed.getD j false = false := by
  unfold Array.getD at h ⊢
  split at h
  · rename_i hh; rw [dif_pos hh]; exact h
  · cases h

theorem closed6_9 {listed : Array Bool} (hc : Closed .any ops6 listed) (h : listed.getD 9 false = true) : ∀ k, 1 ≤ k → k ≤ 9 → listed.getD k false = true := by
  have h1 := hc 9 _ rfl h { on := 1, ground := .data } (by simp) rfl
  have h2 := hc 9 _ rfl h { on := 2, ground := .data } (by simp) rfl
  have h8 := hc 9 _ rfl h { on := 8, ground := .data } (by simp) rfl
  have h7 := hc 8 _ rfl h8 { on := 7, ground := .data } (by simp) rfl
  have h6 := hc 7 _ rfl h7 { on := 6, ground := .data } (by simp) rfl
  have h5 := hc 6 _ rfl h6 { on := 5, ground := .data } (by simp) rfl
  have h4 := hc 5 _ rfl h5 { on := 4, ground := .data } (by simp) rfl
  have h3 := hc 4 _ rfl h4 { on := 3, ground := .data } (by simp) rfl
  intro k hk hk'
  match k, hk, hk' with
  | 1, _, _ => exact h1
  | 2, _, _ => exact h2
  | 3, _, _ => exact h3
  | 4, _, _ => exact h4
  | 5, _, _ => exact h5
  | 6, _, _ => exact h6
  | 7, _, _ => exact h7
  | 8, _, _ => exact h8
  | 9, _, _ => exact h

theorem closed6_10 {listed : Array Bool} (hc : Closed .any ops6 listed) (h : listed.getD 10 false = true) : ∀ k, k < 11 → listed.getD k false = true := by
  have h0 := hc 10 _ rfl h { on := 0, ground := .data } (by simp) rfl
  have h9 := hc 10 _ rfl h { on := 9, ground := .data } (by simp) rfl
  intro k hk
  by_cases e0 : k = 0
  · subst e0; exact h0
  · by_cases e10 : k = 10
    · subst e10; exact h
    · exact closed6_9 hc h9 k (by omega) (by omega)

theorem set_other {listed : Array Bool} {i k : Nat} (h : i ≠ k) : (listed.setIfInBounds i true).getD k false = listed.getD k false := by
  simp [h]

theorem set_same {listed : Array Bool} {i : Nat} (h : i < listed.size) : (listed.setIfInBounds i true).getD i false = true := by
  simp [h]

theorem region6_ok (n l i Bg Bp Bo : Nat) (gs : GS) (qn qc g o : Nat) (e : EV) (base : Array Value) (wr : World) (P : World → World → Value → World → Prop) (Q : Exit → Act → World → Prop)
    (hb : base.size = 97) (b1 : base[1]? = some (.pointer (some ⟨Bg, 0, none⟩))) (b3 : base[3]? = some (.pointer (some ⟨Bp, 0, none⟩))) (b5 : base[5]? = some (.int .i64 i)) (b6 : base[6]? = some (.pointer (some ⟨gs.ib i, 0, none⟩)))
    (p0 : wr.cell? ⟨Bp, 0, none⟩ = some (.func (.func 78) #[] #[.pointer (some ⟨Bo, 0, none⟩)])) (bg0 : wr.cell? ⟨Bg, 0, none⟩ = some (.pointer (some ⟨gs.G, 0, none⟩))) (i2 : wr.cell? ⟨gs.ib i, 2, none⟩ = some (.slice (some ⟨g, o, none⟩) qn qc)) (hqn : (0 : Int) < (qn : Int))
    (c0 : wr.cell? ⟨g, o, none⟩ = some (.int .i64 e.1.k)) (c1 : wr.cell? ⟨g, o + 1, none⟩ = some (.int .i64 e.1.n)) (c2 : wr.cell? ⟨g, o + 2, none⟩ = some (.int .i64 e.1.t)) (c3 : wr.cell? ⟨g, o + 3, none⟩ = some e.2) (c4 : wr.cell? ⟨g, o + 4, none⟩ = some (.int .i64 e.1.c))
    (hLook : ∀ W', Below wr.heap.size wr W' → CallsIn (Fence.wide.inRound l) (n - 1) Try.prog 44 #[.pointer (some ⟨gs.G, 0, none⟩), .int .i64 i, ev e.1 e.2] W' (GivesOuts W' [(i, e)]))
    (hPass : ∀ W2 x bx, Below wr.heap.size wr W2 → SlOwn W2 44 6 x 1 (List.flatMap ocl [(i, e)]) bx → CallsIn (Fence.wide.inRound l) (n - 1) Try.prog 78 #[x, .pointer (some ⟨Bo, 0, none⟩)] W2 (fun e' w' => e' = .returned (.tuple #[]) ∧ P wr W2 x w'))
    (hQ : ∀ x w2 w, Below wr.heap.size wr w2 → P wr w2 x w → Q .normal { tmps := fillT base 29 11 (val6 Bo gs i (.slice (some ⟨g, o, none⟩) qn qc) g o e x) (Array.replicate 11 true), defers := [] } w) :
    (Code.region 6 ops6 true).wpIn (Fence.wide.inRound l) n Try.prog Q { tmps := base, defers := [] } wr := by
  have hF : ∀ f, (Fence.wide.inRound l).fn f = True := fun _ => rfl
  have hDe : (Fence.wide.inRound l).depth.isSome = false := rfl
  have hDf : Fence.wide.depth.isSome = false := rfl
  have hqn' : 0 < qn := by omega
  refine wpIn_region_any (by kernel_rfl) (wpAnyIn_inv (St6 base Bo gs i (.slice (some ⟨g, o, none⟩) qn qc) g o e wr P) ?_ ?_ _ _ _ _ ?_ ?_ ?_)
  · intro listed a w j oj hs hcl hoj hj0 hd
    obtain ⟨x, hsz, rfl, hph⟩ := hs
    have hj : j < 11 := (Array.getElem?_eq_some_iff.1 hoj).1
    have hdep : ∀ k gr, { on := k, ground := gr } ∈ oj.after → gr = .data ∨ gr = .chain → listed.getD k false = true := fun k gr he hg => hd _ he (by rcases hg with rfl | rfl <;> rfl)
    have hnew : ∀ k, k < 11 → listed.getD k false = true → (fillT base 29 11 (val6 Bo gs i (.slice (some ⟨g, o, none⟩) qn qc) g o e x) listed)[29 + k]?.getD undef = val6 Bo gs i (.slice (some ⟨g, o, none⟩) qn qc) g o e x k := fun k hk hl => by rw [fillT_new hk (by omega) hl]; rfl
    have hold : ∀ s v, s < 29 → base[s]? = some v → (fillT base 29 11 (val6 Bo gs i (.slice (some ⟨g, o, none⟩) qn qc) g o e x) listed)[s]?.getD undef = v := fun s v hs hv => by rw [fillT_old (.inl hs), hv]; rfl
    have hput : ∀ k, k < 11 → (fillT base 29 11 (val6 Bo gs i (.slice (some ⟨g, o, none⟩) qn qc) g o e x) listed).setIfInBounds (29 + k) (val6 Bo gs i (.slice (some ⟨g, o, none⟩) qn qc) g o e x k) = fillT base 29 11 (val6 Bo gs i (.slice (some ⟨g, o, none⟩) qn qc) g o e x) (listed.setIfInBounds k true) := fun k hk => fillT_put hk (by omega) (by omega)
    have hread : j ≤ 8 → (∀ A v, wr.cell? A = some v → w.cell? A = some v) ∧ (∀ v, v = val6 Bo gs i (.slice (some ⟨g, o, none⟩) qn qc) g o e x j → St6 base Bo gs i (.slice (some ⟨g, o, none⟩) qn qc) g o e wr P (listed.setIfInBounds j true) { tmps := (fillT base 29 11 (val6 Bo gs i (.slice (some ⟨g, o, none⟩) qn qc) g o e x) listed).setIfInBounds (29 + j) v, defers := [] } w) := by
      intro hj8
      have hkeep : St6 base Bo gs i (.slice (some ⟨g, o, none⟩) qn qc) g o e wr P (listed.setIfInBounds j true) { tmps := fillT base 29 11 (val6 Bo gs i (.slice (some ⟨g, o, none⟩) qn qc) g o e x) (listed.setIfInBounds j true), defers := [] } w := by
        refine ⟨x, by simpa using hsz, rfl, ?_⟩
        rw [set_other (by omega), set_other (by omega)]
        exact hph
      refine ⟨?_, fun v hv => by rw [hv, hput j hj]; exact hkeep⟩
      intro A v hA
      have hlt := World.block_lt_of_cell? wr A hA
      rcases hph with ⟨_, _, rfl⟩ | ⟨_, _, _, hbw⟩ | ⟨_, h10, _⟩
      · exact hA
      · rw [hbw.cell hlt]; exact hA
      · have h1 := closed6_10 hcl h10 j hj
        rw [getD_tf hj0] at h1
        cases h1
    match j, hj with
    | 0, _ =>
      injection hoj with hoj; subst hoj
      obtain ⟨hc, hk⟩ := hread (by omega)
      have t3 := hold 3 _ (by omega) b3
      have c := hc _ _ p0
      clear hread hput hold hnew hdep hd hb b1 b3 b5 b6
      generalize fillT base 29 11 _ listed = T at *
      try dsimp only [val6] at *
      refine wpOpIn_step (o := ops6[0]) rfl (fun K' hK' => ?_)
      have hgo := hK' _ _ (hk _ rfl)
      go_simp
      exact hgo
    | 1, _ =>
      injection hoj with hoj; subst hoj
      obtain ⟨hc, hk⟩ := hread (by omega)
      have t1 := hold 1 _ (by omega) b1
      have c := hc _ _ bg0
      clear hread hput hold hnew hdep hd hb b1 b3 b5 b6
      generalize fillT base 29 11 _ listed = T at *
      try dsimp only [val6] at *
      refine wpOpIn_step (o := ops6[1]) rfl (fun K' hK' => ?_)
      have hgo := hK' _ _ (hk _ rfl)
      go_simp
      exact hgo
    | 2, _ =>
      injection hoj with hoj; subst hoj
      obtain ⟨hc, hk⟩ := hread (by omega)
      have t5 := hold 5 _ (by omega) b5
      clear hread hput hold hnew hdep hd hb b1 b3 b5 b6
      generalize fillT base 29 11 _ listed = T at *
      try dsimp only [val6] at *
      refine wpOpIn_step (o := ops6[2]) rfl (fun K' hK' => ?_)
      have hgo := hK' _ _ (hk _ rfl)
      go_simp
      exact hgo
    | 3, _ =>
      injection hoj with hoj; subst hoj
      obtain ⟨hc, hk⟩ := hread (by omega)
      have t6 := hold 6 _ (by omega) b6
      clear hread hput hold hnew hdep hd hb b1 b3 b5 b6
      generalize fillT base 29 11 _ listed = T at *
      try dsimp only [val6] at *
      refine wpOpIn_step (o := ops6[3]) rfl (fun K' hK' => ?_)
      have hgo := hK' _ _ (hk _ rfl)
      go_simp
      exact hgo
    | 4, _ =>
      injection hoj with hoj; subst hoj
      obtain ⟨hc, hk⟩ := hread (by omega)
      have t32 := hnew 3 (by omega) (hdep 3 .data (by simp) (.inl rfl))
      clear hread hput hold hnew hdep hd hb b1 b3 b5 b6
      generalize fillT base 29 11 _ listed = T at *
      try dsimp only [val6] at *
      refine wpOpIn_step (o := ops6[4]) rfl (fun K' hK' => ?_)
      have hgo := hK' _ _ (hk _ rfl)
      go_simp
      exact hgo
    | 5, _ =>
      injection hoj with hoj; subst hoj
      obtain ⟨hc, hk⟩ := hread (by omega)
      have t33 := hnew 4 (by omega) (hdep 4 .data (by simp) (.inl rfl))
      clear hread hput hold hnew hdep hd hb b1 b3 b5 b6
      generalize fillT base 29 11 _ listed = T at *
      try dsimp only [val6] at *
      refine wpOpIn_step (o := ops6[5]) rfl (fun K' hK' => ?_)
      have hgo := hK' _ _ (hk _ rfl)
      go_simp
      exact hgo
    | 6, _ =>
      injection hoj with hoj; subst hoj
      obtain ⟨hc, hk⟩ := hread (by omega)
      have t34 := hnew 5 (by omega) (hdep 5 .data (by simp) (.inl rfl))
      have c := hc _ _ i2
      clear hread hput hold hnew hdep hd hb b1 b3 b5 b6
      generalize fillT base 29 11 _ listed = T at *
      try dsimp only [val6] at *
      refine wpOpIn_step (o := ops6[6]) rfl (fun K' hK' => ?_)
      have hgo := hK' _ _ (hk _ rfl)
      go_simp
      exact hgo
    | 7, _ =>
      injection hoj with hoj; subst hoj
      obtain ⟨hc, hk⟩ := hread (by omega)
      have t35 := hnew 6 (by omega) (hdep 6 .data (by simp) (.inl rfl))
      clear hread hput hold hnew hdep hd hb b1 b3 b5 b6
      generalize fillT base 29 11 _ listed = T at *
      try dsimp only [val6] at *
      refine wpOpIn_step (o := ops6[7]) rfl (fun K' hK' => ?_)
      have hgo := hK' _ _ (hk _ rfl)
      go_simp
      exact hgo
    | 8, _ =>
      injection hoj with hoj; subst hoj
      obtain ⟨hc, hk⟩ := hread (by omega)
      have t36 := hnew 7 (by omega) (hdep 7 .data (by simp) (.inl rfl))
      have d0 := hc _ _ c0
      have d1 := hc _ _ c1
      have d2 := hc _ _ c2
      have d3 := hc _ _ c3
      have d4 := hc _ _ c4
      clear hread hput hold hnew hdep hd hb b1 b3 b5 b6
      generalize fillT base 29 11 _ listed = T at *
      try dsimp only [val6] at *
      refine wpOpIn_step (o := ops6[8]) rfl (fun K' hK' => ?_)
      have hgo := hK' _ _ (hk _ rfl)
      go_simp
      exact hgo
    | 9, _ =>
      injection hoj with hoj; subst hoj
      have t30 := hnew 1 (by omega) (hdep 1 .data (by simp) (.inl rfl))
      have t31 := hnew 2 (by omega) (hdep 2 .data (by simp) (.inl rfl))
      have t37 := hnew 8 (by omega) (hdep 8 .data (by simp) (.inl rfl))
      have h9 := getD_tf hj0
      obtain ⟨h10, hw⟩ : listed.getD 10 false = false ∧ w = wr.drew := by
        rcases hph with ⟨_, h10, hw⟩ | ⟨h, _⟩ | ⟨h, _⟩
        · exact ⟨h10, hw⟩
        · rw [h9] at h; cases h
        · rw [h9] at h; cases h
      have hfin : ∀ v w', (∃ bx, SlOwn w' 44 6 v 1 (List.flatMap ocl [(i, e)]) bx) → Below wr.heap.size wr w' → St6 base Bo gs i (.slice (some ⟨g, o, none⟩) qn qc) g o e wr P (listed.setIfInBounds 9 true) { tmps := (fillT base 29 11 (val6 Bo gs i (.slice (some ⟨g, o, none⟩) qn qc) g o e x) listed).setIfInBounds (29 + 9) v, defers := [] } w' := by
        intro v w' hv hb'
        refine ⟨v, by simpa using hsz, ?_, .inr (.inl ⟨set_same (by omega), (set_other (by omega)).trans h10, hv, hb'⟩)⟩
        rw [fillT_congr (val' := val6 Bo gs i (.slice (some ⟨g, o, none⟩) qn qc) g o e v), ← fillT_put (i := 9) (by omega) (by omega) (by omega)]
        · rfl
        · intro k hk hl
          by_cases e9 : k = 9
          · subst e9; rw [h9] at hl; cases hl
          · unfold val6
            split <;> first | rfl | exact absurd rfl e9
      subst hw
      have hb0 : Below wr.heap.size wr wr.drew := (Below.refl _ _).drew
      have hL := hLook _ hb0
      have HB0 := Lib.hid hb0
      clear hread hput hold hnew hdep hd hb b1 b3 b5 b6 hLook hPass hQ hph hb0
      generalize fillT base 29 11 _ listed = T at *
      dsimp only [val6] at t30 t31 t37
      refine wpOpIn_step (o := ops6[9]) rfl (fun K' hK' => ?_)
      have hgo := fun v w' hv hb' => hK' _ _ (hfin v w' hv hb')
      have HG := Lib.hid hgo
      have HL := Lib.hid hL
      clear hgo hL hfin hK'
      gi_wp2_with (gi_at_call 44; refine HL.out.mono ?_; rintro e' W2 ⟨x2, bx2, rfl, hx2, hn2, hb2⟩)
      exact HG.out x2 W2 ⟨bx2, hx2⟩ (HB0.out.trans hb2)
    | 10, _ =>
      injection hoj with hoj; subst hoj
      have t29 := hnew 0 (by omega) (hdep 0 .data (by simp) (.inl rfl))
      have l9 := hdep 9 .data (by simp) (.inl rfl)
      have t38 := hnew 9 (by omega) l9
      have h10 := getD_tf hj0
      obtain ⟨bx, hx, hb2⟩ : ∃ bx, SlOwn w 44 6 x 1 (List.flatMap ocl [(i, e)]) bx ∧ Below wr.heap.size wr w := by
        rcases hph with ⟨h, _⟩ | ⟨_, _, ⟨bx, hx⟩, hw⟩ | ⟨_, h, _⟩
        · rw [l9] at h; cases h
        · exact ⟨bx, hx, hw⟩
        · rw [h10] at h; cases h
      have hfin : ∀ w', P wr w x w' → St6 base Bo gs i (.slice (some ⟨g, o, none⟩) qn qc) g o e wr P (listed.setIfInBounds 10 true) { tmps := (fillT base 29 11 (val6 Bo gs i (.slice (some ⟨g, o, none⟩) qn qc) g o e x) listed).setIfInBounds (29 + 10) (.tuple #[]), defers := [] } w' := by
        intro w' hp
        refine ⟨x, by simpa using hsz, ?_, .inr (.inr ⟨(set_other (by omega)).trans l9, set_same (by omega), w, hb2, hp⟩)⟩
        rw [← fillT_put (i := 10) (by omega) (by omega) (by omega)]
        rfl
      have hL := hPass w x bx hb2 hx
      clear hread hput hold hnew hdep hd hb b1 b3 b5 b6 hLook hPass hQ hph l9
      generalize fillT base 29 11 _ listed = T at *
      dsimp only [val6] at t29 t38
      refine wpOpIn_step (o := ops6[10]) rfl (fun K' hK' => ?_)
      have hgo := fun w' hv => hK' _ _ (hfin w' hv)
      have HG := Lib.hid hgo
      have HL := Lib.hid hL
      have HX := Lib.hid hx
      clear hgo hL hfin hK' hx
      gi_wp2_with (gi_at_call 78; refine HL.out.mono ?_; rintro e' W3 ⟨rfl, hp⟩)
      exact HG.out W3 hp
  · intro listed a w hs hr
    obtain ⟨x, hsz, rfl, hph⟩ := hs
    have hall : ∀ j, j < 11 → listed.getD j false = true := by
      intro j
      induction j using Nat.strongRecOn with
      | _ j ih =>
        intro hj
        cases hl : listed.getD j false with
        | true => rfl
        | false =>
          exfalso
          have hlt : ∀ o, ops6[j]? = some o → ∀ e ∈ o.after, e.on < j := by
            intro oj hoj
            match j, hj with
            | 0, _ | 1, _ | 2, _ | 3, _ | 4, _ | 5, _ | 6, _ | 7, _ | 8, _ | 9, _ | 10, _ => injection hoj with hoj; subst hoj; simp
          have hmem : j ∈ Region.ready .any ops6 listed := by
            refine mem_ready.2 ⟨?_, ops6[j]'hj, Array.getElem?_eq_getElem _, fun e he _ => ih _ (hlt _ (Array.getElem?_eq_getElem _) e he) (Nat.lt_trans (hlt _ (Array.getElem?_eq_getElem _) e he) hj)⟩
            unfold Array.getD at hl ⊢
            split at hl
            · rename_i hh; rw [dif_pos hh]; exact hl
            · omega
          rw [hr] at hmem
          cases hmem
    have he : listed = Array.replicate 11 true := by
      apply Array.ext
      · simpa using hsz
      · intro j h1 h2
        have := hall j (by omega)
        simp [h1] at this
        simp [this]
    subst he
    rcases hph with ⟨h, _⟩ | ⟨_, h, _⟩ | ⟨_, _, w2, hb, hp⟩
    · exact absurd (hall 9 (by omega)) (by rw [h]; decide)
    · exact absurd (hall 10 (by omega)) (by rw [h]; decide)
    · exact hQ x w2 w hb hp
  · refine ⟨undef, by simp, ?_, .inl ⟨rep_false _ _, rep_false _ _, rfl⟩⟩
    have : fillT base 29 11 (val6 Bo gs i (.slice (some ⟨g, o, none⟩) qn qc) g o e undef) (Array.replicate ops6.size false) = base := by
      apply Array.ext_getElem?
      intro s
      simp only [fillT, Array.getElem?_mapIdx]
      cases base[s]? with
      | none => rfl
      | some v => simp only [Option.map_some]; rw [if_neg]; rintro ⟨_, _, h⟩; rw [rep_false] at h; cases h
    rw [this]
  · intro j oj _ hl
    rw [rep_false] at hl
    cases hl
  · simp

end walks
end Go.Proofs.Ytdnkfgnjeibjeaa

namespace Go.Proofs.Ytdnkfgnjeibjeaa
open Go.RowKit Go.Shelf

/-- The body of the loop over an iterator. -/
def rangeBody : Code → Option Code
  | .rangeFunc _ _ _ b => some b
  | .seq a b => match rangeBody a with
    | some c => some c
    | none => rangeBody b
  | .block _ c => rangeBody c
  | .loop c => rangeBody c
  | .scope c => rangeBody c
  | .cond _ a b => match rangeBody a with
    | some c => some c
    | none => rangeBody b
  | _ => none
noncomputable def body76 : Code := (Try.f76.body.bind rangeBody).getD .skip

/-- The frame of a round of the loop of 'goOn'. -/
abbrev fr76 (Bo Bg Ba Bp Bn Bs : Nat) (gs : GS) (i : Nat) : Act := { tmps := #[.func (.func 78) #[] #[.pointer (some ⟨Bo, 0, none⟩)], .pointer (some ⟨Bg, 0, none⟩), .pointer (some ⟨Ba, 0, none⟩), .pointer (some ⟨Bp, 0, none⟩), .pointer (some ⟨Bn, 0, none⟩), .int .i64 i, .pointer (some ⟨gs.ib i, 0, none⟩), undef, undef, .pointer (some ⟨gs.G, 0, none⟩), .func (.func 93) #[] #[.pointer (some ⟨Bs, 0, none⟩)], .int .i64 i, .pointer (some ⟨gs.ib i, 0, none⟩), undef, undef, undef, undef, undef, undef, undef, undef, undef, undef, undef, undef, undef, undef, undef, undef, undef, undef, undef, undef, undef, undef, undef, undef, undef, undef, undef, undef, undef, undef, undef, undef, undef, undef, undef, undef, undef, undef, undef, undef, undef, undef, undef, undef, undef, undef, undef, undef, undef, undef, undef, undef, undef, undef, undef, undef, undef, undef, undef, undef, undef, undef, undef, undef, undef, undef, undef, undef, undef, undef, undef, undef, undef, undef, undef, undef, undef, undef, undef, undef, undef, undef, undef, undef], defers := [] }

attribute [local go_sem] Oper.semAt_some

/-- Whatever is no block of cells, and the boxes of gates, lie as they lay. -/
structure Keeps2 (W W' : World) : Prop where
  all : KeepsFrom 0 W W'
  box : ∀ (b : Nat) (c : Array Value) (f : Nat × Nat), W.heap[b]? = some (.cells c 25 f) → W'.heap[b]? = some (.cells c 25 f)

theorem Keeps2.refl (W : World) : Keeps2 W W := ⟨KeepsFrom.refl _ _, fun _ _ _ h => h⟩
theorem Keeps2.trans {a b c : World} (h : Keeps2 a b) (k : Keeps2 b c) : Keeps2 a c := ⟨h.all.trans k.all, fun x y z hh => k.box x y z (h.box x y z hh)⟩

theorem Keeps2.of_only {S : Nat → Prop} {W W' : World} (h : Only S W W') (hs : ∀ b o, S b → W.heap[b]? = some o → ∃ c t f, o = .cells c t f ∧ t ≠ 25) : Keeps2 W W' :=
  ⟨⟨h.size, fun k o _ hk ho => (h.block k (heap_lt hk) (fun hS => by obtain ⟨c, t, f, rfl, _⟩ := hs k o hS hk; cases ho)).trans hk⟩,
   fun k c f hk => (h.block k (heap_lt hk) (fun hS => by obtain ⟨c', t, f', he, hne⟩ := hs k _ hS hk; injection he with _ ht; exact hne ht.symm)).trans hk⟩

/-- What a round leaves. -/
def RoundGives (B : Nat) (D : Nat → Prop) (gs : GS) (Bo Bg Ba Bp Bn : Nat) (w0 : World) (m : Gm) (outs : List OV) (nx : Int) (i : Nat) (W : World) : Exit → Act → World → Prop
  | .normal, _, W' => Keeps2 W W' ∧ ∃ gs' v blk, AGood B D gs gs' Bo Bg Ba Bp Bn w0 (m.upd i (m.inp i).drained) (outs ++ ((m.inp i).queue.takeWhile EV.plain).map fun p => (i, p)) (if nx < 0 ∧ (m.inp i).drained.queue ≠ [] then (i : Int) else nx) v blk W'
  | _, _, _ => False

def qlen (wr : World) (b : Nat) : Nat := match wr.cell? ⟨b, 2, none⟩ with | some (.slice _ n _) => n | _ => 0

theorem SlOwn.src {w : World} {e : TypeId} {size : Nat} {v : Value} {n : Nat} {xs : List Value} {blk : Option Nat} (h : SlOwn w e size v n xs blk) : Src w size v n xs := by
  refine ⟨h.1, ?_⟩
  rcases h.2 with ⟨rfl, rfl, _⟩ | ⟨g, o, cap, cur, _, rfl, _⟩
  · exact ⟨_, _, rfl, .inl (List.eq_nil_of_length_eq_zero (by simpa using h.1))⟩
  · exact ⟨_, _, rfl, .inr ⟨_, rfl, fun j u hu => by rw [add_at]; exact h.cell j u hu⟩⟩

theorem rep_put {base : Array Value} {d k : Nat} {val : Nat → Value} : fillT base d k val (Array.replicate k false) = base := by
  apply Array.ext_getElem?
  intro s
  simp only [fillT, Array.getElem?_mapIdx]
  cases base[s]? with
  | none => rfl
  | some v => simp only [Option.map_some]; rw [if_neg]; rintro ⟨_, _, h⟩; rw [rep_false] at h; cases h

theorem fill11 (base : Array Value) (d : Nat) (val : Nat → Value) (h : d + 11 ≤ base.size) :
    fillT base d 11 val (Array.replicate 11 true) = ((((((((((base.setIfInBounds (d + 0) (val 0)).setIfInBounds (d + 1) (val 1)).setIfInBounds (d + 2) (val 2)).setIfInBounds (d + 3) (val 3)).setIfInBounds (d + 4) (val 4)).setIfInBounds (d + 5) (val 5)).setIfInBounds (d + 6) (val 6)).setIfInBounds (d + 7) (val 7)).setIfInBounds (d + 8) (val 8)).setIfInBounds (d + 9) (val 9)).setIfInBounds (d + 10) (val 10) := by
  have e : Array.replicate 11 true = ((((((((((((Array.replicate 11 false).setIfInBounds 0 true).setIfInBounds 1 true).setIfInBounds 2 true).setIfInBounds 3 true).setIfInBounds 4 true).setIfInBounds 5 true).setIfInBounds 6 true).setIfInBounds 7 true).setIfInBounds 8 true).setIfInBounds 9 true).setIfInBounds 10 true) := by decide
  rw [e]
  repeat rw [← fillT_put (by omega) (by simp) h]
  rw [rep_put]

theorem upd_upd (m : Gm) (i : Nat) (x y : Inp) : (m.upd i x).upd i y = m.upd i y := by
  simp only [Gm.upd, Gm.mk.injEq, true_and, and_true]
  funext j
  by_cases e : j = i <;> simp [e]

theorem upd_inp (m : Gm) (i : Nat) (x : Inp) : (m.upd i x).inp i = x := by simp [Gm.upd]

theorem upd_same (m : Gm) (i : Nat) : m.upd i (m.inp i) = m := by
  obtain ⟨n, al, inp, u, d⟩ := m
  simp only [Gm.upd, Gm.mk.injEq, true_and, and_true]
  funext j
  by_cases e : j = i <;> simp [e]

theorem hbox_cells {W : World} {Bo : Nat} {outs : List OV} {v : Value} {blk : Option Nat} (h : OutBox W Bo outs v blk) : ∀ b o, (b = Bo ∨ blk = some b) → W.heap[b]? = some o → ∃ c t f, o = .cells c t f ∧ t ≠ 25 := by
  rintro b o (rfl | hb) ho
  · rw [h.box] at ho; injection ho with ho; subst ho; exact ⟨_, _, _, rfl, by decide⟩
  · have := h.own
    rw [hb] at this
    rcases this.2 with ⟨_, _, hx⟩ | ⟨g', o', cap, cur, hx, _, hg, _⟩
    · cases hx
    · injection hx with hx; subst hx
      rw [hg] at ho; injection ho with ho; subst ho; exact ⟨_, _, _, rfl, by decide⟩

theorem pop_zero (x : Inp) : x.pop 0 = x := by simp [Inp.pop]

theorem pop_plain (x : Inp) : x.pop (plainLen x.queue) = x.drained := by simp [Inp.pop, Inp.drained, drop_plainLen]

/-- The box of the next one turns. -/
theorem AGood.next {B : Nat} {D : Nat → Prop} {gs gs' : GS} {Bo Bg Ba Bp Bn : Nat} {w0 : World} {m : Gm} {outs : List OV} {nx : Int} {v : Value} {blk : Option Nat} {W : World}
    (hA : ABase B D Bo Bg Ba Bp Bn w0) (h : AGood B D gs gs' Bo Bg Ba Bp Bn w0 m outs nx v blk W) (k : Int) : AGood B D gs gs' Bo Bg Ba Bp Bn w0 m outs k v blk (W.setCell ⟨Bn, 0, none⟩ (.int .i64 k)) := by
  have ho : ∀ b, b ≠ Bn → (W.setCell ⟨Bn, 0, none⟩ (.int .i64 k)).heap[b]? = W.heap[b]? := fun b hb => heap_set_ne _ hb
  have hl : ∀ {b : Nat} {c : Array Value} {t : TypeId} {f : Nat × Nat}, W.heap[b]? = some (Obj.cells c t f) → t ≠ 3 → (W.setCell ⟨Bn, 0, none⟩ (.int .i64 k)).heap[b]? = some (Obj.cells c t f) := fun hb h1 => (ho _ (ne_of_cells hb h.hn h1)).trans hb
  have hrow : ∀ {r row}, RowAt W D r row → RowAt (W.setCell ⟨Bn, 0, none⟩ (.int .i64 k)) D r row := fun hr => hr.keep fun b hb _ => ho b (by rintro rfl; have := hA.hD _ hb; have := hA.bn; omega)
  have g := h.gate
  obtain ⟨cs, hc, hcs⟩ := g.harr
  refine ⟨⟨g.pos, g.le, hl g.hG (by decide), ⟨cs, hl hc (by decide), hcs⟩, fun i hi => hl (g.hib i hi) (by decide), g.inj, fun i hi => (g.hq i hi).keep fun b hb => ho b (g.qb_ne hi hb h.hn (by decide)), g.qinj, fun i hi p hp => hrow (g.hrow i hi p hp), g.hD, (ho _ (Ne.symm (ne_of_map h.hn g.hmap))).trans g.hmap⟩, h.like, ⟨hl h.box.box (by decide), h.box.own.keep fun b hb => ho b ?_⟩, h.new, hl h.hg (by decide), hl h.ha (by decide), hl h.hp (by decide), ?_, fun o hm => hrow (h.rows o hm), h.only.setCell (fun _ => .inr hA.bn) _⟩
  · have := h.box.own
    rw [hb] at this
    rcases this.2 with ⟨_, _, hx⟩ | ⟨g', o, cap, cur, hx, _, hg, _⟩
    · cases hx
    · injection hx with hx; subst hx; exact ne_of_cells hg h.hn (by decide)
  · have := heap_set (j := 0) h.hn (.int .i64 k)
    simpa using this

/-- What was given to 'pass'. -/
abbrev P6 (Bo : Nat) (outs news : List OV) (blk : Option Nat) (_ w2 : World) (_ : Value) (w : World) : Prop := Passes w2 Bo outs news blk (.returned (.tuple #[])) w

section walks
set_option maxHeartbeats 2000000
set_option maxRecDepth 100000

theorem body76_ok (n l i B Bo Bg Ba Bp Bn Bs : Nat) (D : Nat → Prop) (gs : GS) (m : Gm) (outs : List OV) (nx : Int) (w0 W : World) (hA : ABase B D Bo Bg Ba Bp Bn w0) (hi : i < m.n)
    (h : ∃ gs' v blk, AGood B D gs gs' Bo Bg Ba Bp Bn w0 m outs nx v blk W) (hlen : outs.length + (m.inp i).queue.length ≤ 1000000) :
    Code.wpIn (Fence.wide.inRound l) n Try.prog body76 (RoundGives B D gs Bo Bg Ba Bp Bn w0 m outs nx i W) (fr76 Bo Bg Ba Bp Bn Bs gs i) W := by
  have hF : ∀ f, (Fence.wide.inRound l).fn f = True := fun _ => rfl
  have hDe : (Fence.wide.inRound l).depth.isSome = false := rfl
  have hDf : Fence.wide.depth.isSome = false := rfl
  unfold body76
  conv => arg 4; whnf
  dsimp only [fr76]
  gi_wp2_with fail
  gi_loopw [13] (fun _ wr => ∃ (j : Nat) (gs' : GS) (v : Value) (blk : Option Nat), j ≤ plainLen (m.inp i).queue ∧ Keeps2 W wr ∧ AGood B D gs gs' Bo Bg Ba Bp Bn w0 (m.upd i ((m.inp i).pop j)) (outs ++ ((m.inp i).queue.take j).map fun p => (i, p)) nx v blk wr) (fun _ wr => qlen wr (gs.ib i))
  case atStart =>
    obtain ⟨gs', v, blk, hg⟩ := h
    exact ⟨0, gs', v, blk, Nat.zero_le _, Keeps2.refl _, by rw [pop_zero, upd_same]; simpa using hg⟩
  case round =>
    obtain ⟨j, gs', v, blk, hj, hkf, hg⟩ := hrel
    have HG := Lib.hid hg
    have hi' : i < (m.upd i ((m.inp i).pop j)).n := hi
    have hin : (m.upd i ((m.inp i).pop j)).inp i = (m.inp i).pop j := by simp [Gm.upd]
    have hlc := hg.gate.lcells hg.like hi'
    rw [hin] at hlc
    obtain ⟨ia, i0, i1, ⟨qa, qc, i2⟩, i3, i4, ifr⟩ := hlc
    by_cases hlt : j < plainLen (m.inp i).queue
    · obtain ⟨hq, hpl⟩ := plain_lt _ _ hlt
      have hql : ((m.inp i).pop j).queue.length = (m.inp i).queue.length - j := by simp [Inp.pop]
      have hqpos : 0 < ((m.inp i).pop j).queue.length := by omega
      have hq0 : (0 : Int) < (((m.inp i).pop j).queue.length : Int) := by omega
      have hsl := hg.gate.hq i hi'
      rw [hin] at hsl
      have hqv : gs'.qv i = .slice qa ((m.inp i).pop j).queue.length qc := by
        have := (hg.gate.icells hi').i2
        rw [hg.like.ib, i2] at this
        exact (Option.some.inj this).symm
      rw [hqv] at hsl
      obtain ⟨g, o, rfl⟩ : ∃ g o, qa = some ⟨g, o, none⟩ := by
        rcases hsl.2 with ⟨hx, _⟩ | ⟨g, o, cap, cur, _, hx, _⟩
        · injection hx with _ hx _; omega
        · injection hx with hx _ _; exact ⟨g, o, hx⟩
      have hhd : ((m.inp i).pop j).queue = (m.inp i).queue[j] :: ((m.inp i).pop (j + 1)).queue := List.drop_eq_getElem_cons hq
      have hcl : ∀ r u, r < 5 → (ecl (m.inp i).queue[j])[r]? = some u → wr.cell? ⟨g, o + r, none⟩ = some u := by
        intro r u hr hu
        refine hsl.cell r u ?_
        rw [hhd, List.flatMap_cons, List.getElem?_append_left (by rw [ecl_len]; exact hr)]
        exact hu
      have c0 := hcl 0 _ (by omega) rfl
      have c1 := hcl 1 _ (by omega) rfl
      have c2 := hcl 2 _ (by omega) rfl
      have c3 := hcl 3 _ (by omega) rfl
      have c4 := hcl 4 _ (by omega) rfl
      rw [Nat.add_zero] at c0
      generalize hx : (m.inp i).queue[j] = x at *
      obtain ⟨e, rv⟩ := x
      obtain ⟨ra, rl, rc, hrv⟩ : ∃ ra rl rc, rv = .slice ra rl rc := by
        obtain ⟨ra, rc, hrv, _⟩ := hg.gate.hrow i hi' (e, rv) (by rw [hin, hhd]; exact List.mem_cons_self)
        exact ⟨ra, _, rc, hrv⟩
      subst hrv
      have hk : (e.k == 3) = false := by
        have : e.k ≠ 3 := by simpa [EV.plain] using hpl
        simpa using this
      have hk' : (e.k != 3) = true := by simp [bne, hk]
      obtain ⟨p0, pf⟩ := blk1 hg.hp
      obtain ⟨bg0, bgf⟩ := blk1 hg.hg
      dsimp only at c0 c1 c2 c3 c4
      have HSL := Lib.hid hsl
      have HHD := Lib.hid hhd
      have HX := Lib.hid hx
      have HQV := Lib.hid hqv
      have HQL := Lib.hid hql
      have HIN := Lib.hid hin
      clear hsl hhd hx hqv hql hin hcl hg hpl hj
      gi_wp2_with fail
      have hmix : Try.prog.follows .mixedOrders = true := by kernel_rfl
      have hLook := fun (W' : World) (hb : Below wr.heap.size wr W') => CallsIn.inRound l ((callsIn_wide (n := n - 1)).2 (f44_plain W' gs' _ i e ra rl rc (HG.out.below hb).gate hi' hk))
      rw [HG.out.like.G] at hLook
      have hPass := fun (W1 W2 : World) (hb : Below wr.heap.size wr W1) (hb2 : Below W1.heap.size W1 W2) (x : Value) (bx : Option Nat) (hx : SlOwn W2 44 6 x 1 (List.flatMap ocl [(i, (e, Value.slice ra rl rc))]) bx) =>
        CallsIn.inRound l ((callsIn_wide (n := n - 1)).2 (f78_any W2 Bo _ [(i, (e, Value.slice ra rl rc))] v x blk ((HG.out.below hb).below hb2).box hx.src (by intro u hu; simp only [List.flatMap_cons, List.flatMap_nil, List.append_nil, ocl, ecl, List.mem_cons, List.not_mem_nil, or_false] at hu; rcases hu with rfl | rfl | rfl | rfl | rfl | rfl <;> rfl) (by simp only [List.length_append, List.length_map, List.length_take, List.length_singleton]; omega)))
      have HLook := Lib.hid hLook
      have HPass := Lib.hid hPass
      clear hLook hPass
      refine region6_ok n l i Bg Bp Bo gs _ qc g o (e, .slice ra rl rc) _ wr (P6 Bo (outs ++ ((m.inp i).queue.take j).map fun p => (i, p)) [(i, (e, Value.slice ra rl rc))] blk) _ rfl rfl rfl rfl rfl p0 bg0 i2 hq0 c0 c1 c2 c3 c4 HLook.out (fun W2 x bx hb hx => (HPass.out wr W2 (Below.refl _ _) hb x bx hx).mono fun e' w' hp => ⟨hp.1, rfl, hp.2⟩) ?_
      intro x2 w2 w3 hb2 hp
      rw [fill11 _ _ _ (by simp)]
      obtain ⟨_, v', blk', hbox, honly, hblk⟩ := hp
      have hg2 := (HG.out.below hb2).passed hA hbox honly hblk (by
        intro ov hov
        rw [List.mem_singleton] at hov
        subst hov
        refine (HG.out.gate.hrow i hi' (e, Value.slice ra rl rc) ?_).below hb2
        rw [HIN.out, HHD.out]
        exact List.mem_cons_self)
      have hlc := hg2.gate.lcells hg2.like hi'
      rw [upd_inp] at hlc
      have hsl := hg2.gate.hq i hi'
      rw [upd_inp, HQV.out] at hsl
      obtain ⟨a', hrun, hsl'⟩ := slice_tail hsl hqpos
      have hi2 := (hg2.gate.icells hi').i2
      rw [hg2.like.ib, HQV.out] at hi2
      obtain ⟨ia, i0, i1, -, i3, i4, ifr⟩ := hlc
      have hkp : Keeps2 wr w3 := (Keeps2.of_only (S := fun _ => False) (Only.of_below hb2) (fun _ _ h => h.elim)).trans (Keeps2.of_only honly (hbox_cells (HG.out.below hb2).box))
      have HKP := Lib.hid hkp
      have HG2 := Lib.hid hg2
      have HS2 := Lib.hid hsl'
      clear HG hg2 hsl hsl' HLook HPass hbox honly hblk c0 c1 c2 c3 c4 p0 pf bg0 bgf
      dsimp only [val6, Nat.reduceAdd]
      gi_wp2_with fail
      have hib := HG2.out.gate.hib i hi'
      rw [upd_inp] at hib
      have hI : (w3.setCell ⟨gs.ib i, 2, none⟩ (.slice (some a') (((m.inp i).pop j).queue.length - 1) (qc - 1))).heap[gs'.ib i]? = some (.cells (icl { (m.inp i).pop j with queue := ((m.inp i).pop (j + 1)).queue } (.slice (some a') (((m.inp i).pop j).queue.length - 1) (qc - 1))) 92 (0, 0)) := by
        rw [← HG2.out.like.ib]
        have := heap_set (j := 2) hib (.slice (some a') (((m.inp i).pop j).queue.length - 1) (qc - 1))
        simpa using this
      have hlen1 : ((m.inp i).pop (j + 1)).queue.length = ((m.inp i).pop j).queue.length - 1 := by
        have := congrArg List.length HHD.out
        simp only [List.length_cons] at this
        omega
      refine ⟨⟨j + 1, { gs' with qv := fun k => if k = i then .slice (some a') (((m.inp i).pop j).queue.length - 1) (qc - 1) else gs'.qv k }, v', blk', by omega, ?_, ?_⟩, ?_⟩
      · refine ((hkf.trans HKP.out).trans (Keeps2.of_only (S := fun b => b = gs.ib i) (Only.setCell (Only.refl (fun b => b = gs.ib i) _) (p := ⟨gs.ib i, 2, none⟩) (fun _ => rfl) _) ?_))
        rintro b ob rfl hb
        rw [← HG2.out.like.ib, HG2.out.gate.hib i hi'] at hb
        injection hb with hb; subst hb; exact ⟨_, _, _, rfl, by decide⟩
      · have hset := HG2.out.gate.setQ (w' := w3.setCell ⟨gs.ib i, 2, none⟩ (.slice (some a') (((m.inp i).pop j).queue.length - 1) (qc - 1))) hi' (.slice (some a') (((m.inp i).pop j).queue.length - 1) (qc - 1)) ((m.inp i).pop (j + 1)).queue (by
            rw [hlen1]
            have e1 : (((m.inp i).pop j).queue.flatMap ecl).drop 5 = ((m.inp i).pop (j + 1)).queue.flatMap ecl := by rw [HHD.out, List.flatMap_cons, List.drop_left' (ecl_len _)]
            have := HS2.out
            rw [e1] at this
            exact this) (by
            intro p hp
            rw [upd_inp, HHD.out]
            exact List.mem_cons_of_mem _ hp) (by rw [upd_inp]; exact hI) (fun b hb => heap_set_ne _ (by rw [HG2.out.like.ib] at hb; exact hb))
        rw [upd_inp, upd_upd] at hset
        have ho : outs ++ List.map (fun p => (i, p)) (List.take (j + 1) (m.inp i).queue) = (outs ++ List.map (fun p => (i, p)) (List.take j (m.inp i).queue)) ++ [(i, (e, Value.slice ra rl rc))] := by
          rw [List.take_succ_eq_append_getElem hq, List.map_append, List.append_assoc, HX.out]
          rfl
        rw [ho]
        exact HG2.out.owned rfl ⟨HG2.out.like.G, HG2.out.like.arr, HG2.out.like.cap, HG2.out.like.map, HG2.out.like.ib, HG2.out.like.qb⟩ hset ((Only.refl _ _).setCell (fun _ => by rw [← HG2.out.like.ib]; exact own_ib gs' hi') _)
      · obtain ⟨_, _, e2, _, _, _⟩ := blk5 hI
        rw [HG2.out.like.ib] at e2
        unfold qlen
        rw [i2, e2]
        dsimp only
        omega
    · have hjl : j = plainLen (m.inp i).queue := by omega
      subst hjl
      rw [pop_plain, take_plainLen] at HG
      rw [pop_plain] at hi' hin i0 i1 i2 i3 i4
      by_cases hz : (m.inp i).drained.queue.length = 0
      · rw [hz] at i2
        have HIN := Lib.hid hin
        clear hin hi'
        gi_wp2_with fail
        refine ⟨hkf, gs', v, blk, ?_⟩
        rw [if_neg (fun hh => hh.2 (List.eq_nil_of_length_eq_zero hz))]
        exact HG.out
      · have hpos : 0 < (m.inp i).drained.queue.length := by omega
        have hpos' : (0 : Int) < ((m.inp i).drained.queue.length : Int) := by omega
        have hsl := HG.out.gate.hq i hi'
        rw [hin] at hsl
        have hqv : gs'.qv i = .slice qa (m.inp i).drained.queue.length qc := by
          have := (HG.out.gate.icells hi').i2
          rw [HG.out.like.ib, i2] at this
          exact (Option.some.inj this).symm
        rw [hqv] at hsl
        obtain ⟨g, o, rfl⟩ : ∃ g o, qa = some ⟨g, o, none⟩ := by
          rcases hsl.2 with ⟨hx, _⟩ | ⟨g, o, cap, cur, _, hx, _⟩
          · injection hx with _ hx _; omega
          · injection hx with hx _ _; exact ⟨g, o, hx⟩
        have hc0 : wr.cell? ⟨g, o, none⟩ = some (.int .i64 3) := by
          have h1 : plainLen (m.inp i).queue < (m.inp i).queue.length := by
            have := hpos
            simp only [Inp.drained, ← drop_plainLen, List.length_drop] at this
            omega
          have h2 := plain_end _ h1
          have h3 : (m.inp i).drained.queue = (m.inp i).queue[plainLen (m.inp i).queue] :: (m.inp i).queue.drop (plainLen (m.inp i).queue + 1) := by
            rw [← pop_plain]; exact List.drop_eq_getElem_cons h1
          have := hsl.cell 0 (.int .i64 3) (by
            rw [h3, List.flatMap_cons, List.getElem?_append_left (by rw [ecl_len]; omega)]
            simp only [EV.plain, bne_eq_false_iff_eq] at h2
            simp [ecl, h2])
          simpa using this
        obtain ⟨n0, nf⟩ := blk1 HG.out.hn
        have hkn : Keeps2 W (wr.setCell ⟨Bn, 0, none⟩ (.int .i64 i)) := hkf.trans (Keeps2.of_only (S := fun b => b = Bn) (Only.setCell (Only.refl (fun b => b = Bn) _) (p := ⟨Bn, 0, none⟩) (fun _ => rfl) _) (by
          rintro b ob rfl hb
          rw [HG.out.hn] at hb
          injection hb with hb; subst hb; exact ⟨_, _, _, rfl, by decide⟩))
        have hne : (m.inp i).drained.queue ≠ [] := fun e => by rw [e] at hpos; exact absurd hpos (by decide)
        have HIN := Lib.hid hin
        have HSL := Lib.hid hsl
        have HKN := Lib.hid hkn
        have HNE := Lib.hid hne
        clear hin hsl hqv hkn hne hz hj hlt hi'
        rcases Int.lt_or_le nx 0 with hnx | hnx
        · gi_wp2_with fail
          refine ⟨HKN.out, gs', v, blk, ?_⟩
          rw [if_pos ⟨hnx, HNE.out⟩]
          exact HG.out.next hA i
        · have hnx' : ¬ nx < 0 := by omega
          gi_wp2_with fail
          refine ⟨hkf, gs', v, blk, ?_⟩
          rw [if_neg (fun hh => absurd hh.1 (by omega))]
          exact HG.out
end walks
end Go.Proofs.Ytdnkfgnjeibjeaa

namespace Go.Proofs.Ytdnkfgnjeibjeaa
open Go.RowKit Go.Shelf

/-- The state of 'goOn' between its rounds. -/
structure AStart (B : Nat) (D : Nat → Prop) (gs gs' : GS) (Bo Bg Ba : Nat) (w0 : World) (m : Gm) (outs : List OV) (v : Value) (blk : Option Nat) (W : World) : Prop where
  gate : GateAt W D gs' m
  like : gs.like gs'
  box : OutBox W Bo outs v blk
  new : ∀ g, blk = some g → B ≤ g
  hg : W.heap[Bg]? = some (.cells #[.pointer (some ⟨gs.G, 0, none⟩)] 25 (0, 0))
  ha : W.heap[Ba]? = some (.cells #[.func (.func 76) #[] #[.pointer (some ⟨Bg, 0, none⟩), .pointer (some ⟨Ba, 0, none⟩)]] 134 (0, 0))
  rows : ∀ o ∈ outs, RowAt W D o.2.2 o.2.1.row
  only : Only (fun b => gs.own m.n b ∨ B ≤ b) w0 W

section
variable {B : Nat} {D : Nat → Prop} {gs gs' : GS} {Bo Bg Ba Bp Bn : Nat} {w0 : World} {m : Gm} {outs : List OV} {nx : Int} {v : Value} {blk : Option Nat} {W W' : World}

theorem AGood.start (h : AGood B D gs gs' Bo Bg Ba Bp Bn w0 m outs nx v blk W) : AStart B D gs gs' Bo Bg Ba w0 m outs v blk W :=
  ⟨h.gate, h.like, h.box, h.new, h.hg, h.ha, h.rows, h.only⟩

theorem AStart.good (h : AStart B D gs gs' Bo Bg Ba w0 m outs v blk W) (hp : W.heap[Bp]? = some (.cells #[.func (.func 78) #[] #[.pointer (some ⟨Bo, 0, none⟩)]] 135 (0, 0))) (hn : W.heap[Bn]? = some (.cells #[.int .i64 nx] 3 (0, 0))) :
    AGood B D gs gs' Bo Bg Ba Bp Bn w0 m outs nx v blk W :=
  ⟨h.gate, h.like, h.box, h.new, h.hg, h.ha, hp, hn, h.rows, h.only⟩

theorem AStart.below (h : AStart B D gs gs' Bo Bg Ba w0 m outs v blk W) (hb : Below W.heap.size W W') : AStart B D gs gs' Bo Bg Ba w0 m outs v blk W' := by
  have hl : ∀ {b o}, W.heap[b]? = some o → W'.heap[b]? = some o := fun hh => (hb.block _ (heap_lt hh)).trans hh
  refine ⟨h.gate.below hb, h.like, ⟨hl h.box.box, h.box.own.keep fun g hg => ?_⟩, h.new, hl h.hg, hl h.ha, fun o ho => (h.rows o ho).below hb, h.only.trans (Only.of_below (S := fun _ => False) hb) (fun _ _ hf => hf.elim)⟩
  have := h.box.own
  subst hg
  exact hb.block _ this.blk_lt

/-- What is no block of cells turns beyond the gate's. -/
theorem AGood.grow (hA : ABase B D Bo Bg Ba Bp Bn w0) (h : AGood B D gs gs' Bo Bg Ba Bp Bn w0 m outs nx v blk W) {row : Option Nat} (hg : W.grownBy W' row) (hr : ∀ r, row = some r → B ≤ r ∧ r ≠ gs.map ∧ ∃ o : Obj, W.heap[r]? = some o ∧ o.isCells = false) :
    AGood B D gs gs' Bo Bg Ba Bp Bn w0 m outs nx v blk W' := by
  have hl : ∀ {b : Nat} {c : Array Value} {t : TypeId} {f : Nat × Nat}, W.heap[b]? = some (Obj.cells c t f) → W'.heap[b]? = some (Obj.cells c t f) := fun {b c t f} hb => (hg.block b (heap_lt hb) (fun e => by
    obtain ⟨_, _, o, ho, hc⟩ := hr b e.symm
    rw [hb] at ho
    injection ho with ho
    subst ho
    cases hc)).trans hb
  have hl2 : ∀ {b : Nat} {c : Array Value} {t : TypeId} {f : Nat × Nat}, W.heap[b]? = some (Obj.cells c t f) → W'.heap[b]? = W.heap[b]? := fun hb => (hl hb).trans hb.symm
  have hrow : ∀ {r row}, RowAt W D r row → RowAt W' D r row := fun hx => hx.keep fun b hb hlt => hg.block b hlt (fun e => by
    have h1 := hA.hD b hb
    have h2 := (hr b e.symm).1
    omega)
  have g := h.gate
  obtain ⟨cs, hc, hcs⟩ := g.harr
  refine ⟨⟨g.pos, g.le, hl g.hG, ⟨cs, hl hc, hcs⟩, fun i hi => hl (g.hib i hi), g.inj, fun i hi => (g.hq i hi).keep fun b hb => ?_, g.qinj, fun i hi p hp => hrow (g.hrow i hi p hp), g.hD, ?_⟩, h.like, ⟨hl h.box.box, h.box.own.keep fun b hb => ?_⟩, h.new, hl h.hg, hl h.ha, hl h.hp, hl h.hn, fun o ho => hrow (h.rows o ho), ?_⟩
  · obtain ⟨cur, hc⟩ := g.qb_cells hi hb; exact hl2 hc
  · refine (hg.block _ (heap_lt g.hmap) (fun e => (hr _ e.symm).2.1 h.like.map)).trans g.hmap
  · have := h.box.own
    rw [hb] at this
    rcases this.2 with ⟨_, _, hx⟩ | ⟨g', o, cap, cur, hx, _, hgg, _⟩
    · cases hx
    · injection hx with hx; subst hx; exact hl2 hgg
  · exact h.only.grown hg (fun k hk _ => .inr (hr k hk).1)
end

/-- What the inputs hand on, in their order. -/
def drainOuts (m : Gm) (pre : List Nat) : List OV := pre.flatMap fun i => ((m.inp i).queue.takeWhile EV.plain).map fun p => (i, p)

/-- The first input with something left. -/
def drainNx (m : Gm) (pre : List Nat) : Int := pre.foldl (fun nx i => if nx < 0 ∧ (m.inp i).drained.queue ≠ [] then (i : Int) else nx) (-1)

theorem drainOuts_snoc (m : Gm) (pre : List Nat) (i : Nat) : drainOuts m (pre ++ [i]) = drainOuts m pre ++ ((m.inp i).queue.takeWhile EV.plain).map fun p => (i, p) := by
  simp [drainOuts]

theorem drainNx_snoc (m : Gm) (pre : List Nat) (i : Nat) : drainNx m (pre ++ [i]) = if drainNx m pre < 0 ∧ (m.inp i).drained.queue ≠ [] then (i : Int) else drainNx m pre := by
  unfold drainNx
  rw [List.foldl_append]
  rfl

def qsum (m : Gm) : Nat → Nat
  | 0 => 0
  | k + 1 => qsum m k + (m.inp k).queue.length

theorem qsum_mono (m : Gm) {a b : Nat} (h : a ≤ b) : qsum m a ≤ qsum m b := by
  induction b with
  | zero => have : a = 0 := by omega
            subst this; exact Nat.le_refl _
  | succ b ih =>
    rcases Nat.lt_or_ge b a with e | e
    · have : a = b + 1 := by omega
      subst this; exact Nat.le_refl _
    · have := ih e
      simp only [qsum]; omega

theorem drainOuts_len (m : Gm) (k : Nat) : (drainOuts m (m.list k)).length ≤ qsum m k := by
  induction k with
  | zero => simp [drainOuts, Gm.list, qsum]
  | succ k ih =>
    rw [m.list_succ]
    by_cases h : m.waits k
    · rw [if_pos h, drainOuts_snoc]
      have := (List.takeWhile_prefix (p := EV.plain) (l := (m.inp k).queue)).length_le
      simp only [List.length_append, List.length_map, qsum]
      omega
    · rw [if_neg h, List.append_nil]
      simp only [qsum]; omega

/-- The loop's state. -/
def LoopI (B : Nat) (D : Nat → Prop) (gs : GS) (Bo Bg Ba Bp Bn Bs : Nat) (w0 : World) (m : Gm) (outs : List OV) (pre : List Nat) (W : World) : Prop :=
  (∃ gs' v blk, AGood B D gs gs' Bo Bg Ba Bp Bn w0 (m.drainTo pre) (outs ++ drainOuts m pre) (drainNx m pre) v blk W) ∧ W.heap[Bs]? = some (.cells #[.pointer (some ⟨gs.G, 0, none⟩)] 25 (0, 0))

attribute [local go_sem] Oper.semAt_some

section walks
set_option maxHeartbeats 2000000
set_option maxRecDepth 100000

theorem res76 (T : Array Value) (W : World) : (results Try.f76 T).run Try.prog W = .ok (.tuple #[]) W := by kernel_rfl

theorem f76_plain (n B Bo Bg Ba : Nat) (D : Nat → Prop) (gs gs' : GS) (m : Gm) (outs : List OV) (v : Value) (blk : Option Nat) (w0 w : World)
    (hA : ABase B D Bo Bg Ba w.heap.size (w.heap.size + 1) w0) (hmap : gs.map < B)
    (h : AStart B D gs gs' Bo Bg Ba w0 m outs v blk w) (hlen : outs.length + qsum m m.n ≤ 1000000) (hnx : drainNx m (m.list m.n) < 0) :
    CallsIn Fence.wide n Try.prog 76 #[.func (.func 78) #[] #[.pointer (some ⟨Bo, 0, none⟩)], .pointer (some ⟨Bg, 0, none⟩), .pointer (some ⟨Ba, 0, none⟩)] w fun e W' => e = .returned (.tuple #[]) ∧
      ∃ gs' v blk, AStart B D gs gs' Bo Bg Ba w0 (m.drainTo (m.list m.n)) (outs ++ drainOuts m (m.list m.n)) v blk W' := by
  have hF : ∀ f, Fence.wide.fn f = True := fun _ => rfl
  have hDe : Fence.wide.depth.isSome = false := rfl
  obtain ⟨b0, bf⟩ := blk1 h.hg
  obtain ⟨a0, af⟩ := blk1 h.ha
  have l1 := heap_lt h.hg
  have l2 := heap_lt h.ha
  have l3 := World.new_ne w _ b0
  have l4 : Bg < w.heap.size + 1 := by omega
  have hcl := (callsIn_wide (n := n - 1)).2 (f77_any ((w.alloc (Obj.cells #[Value.func (Fn.func 78) #[] #[.pointer (some ⟨Bo, 0, none⟩)]] 135)).alloc (Obj.cells #[Value.int IntKind.i64 (-1)] 3)) gs)
  have HC := Lib.hid hcl
  have HH := Lib.hid h
  clear hcl h
  refine callsIn_of_wp_marks Try.func76 rfl trivial ?_ rfl
  simp only [Try.ntmps76, List.size_toArray, List.length_cons, List.length_nil, Nat.reduceAdd, Nat.reduceSub, Array.replicate_succ, Array.replicate_zero, List.push_toArray, List.append_toArray, List.nil_append, List.cons_append]
  gi_wp2_with (gi_at_call 77; refine HC.out.mono ?_; rintro e w' ⟨rfl, rfl⟩)
  refine range_law (α := Nat) (gf := 93) (lb := #[.pointer (some ⟨w.heap.size + 2, 0, none⟩)]) ?_ ?_ (fun i => #[.int .i64 i, .pointer (some ⟨gs.ib i, 0, none⟩)]) ?_ (LoopI B D gs Bo Bg Ba w.heap.size (w.heap.size + 1) (w.heap.size + 2) w0 m outs) ?_ ?_ (fun pre i => pre = m.list i ∧ i < m.n ∧ m.waits i = true) (fun xs => xs = m.list m.n) ?_ (fr76 Bo Bg Ba w.heap.size (w.heap.size + 1) (w.heap.size + 2) gs) ?_ ?_ ?_
  · rfl
  · intro args w'
    kernel_rfl
  · intro i; rfl
  · rintro pre W W' row ⟨⟨gs1, v1, blk1, hg⟩, hs⟩ hgr hrow
    have hB : B ≤ w.heap.size := Nat.le_trans hA.hB HH.out.only.size
    refine ⟨⟨gs1, v1, blk1, hg.grow hA hgr fun r hr => ?_⟩, ?_⟩
    · obtain ⟨h1, h2⟩ := hrow r hr
      simp only [World.size_alloc] at h1
      exact ⟨by omega, by omega, h2⟩
    · refine (hgr.block _ (heap_lt hs) (fun e => ?_)).trans hs
      obtain ⟨_, o, ho, hc⟩ := hrow _ e.symm
      rw [hs] at ho; injection ho with ho; subst ho; cases hc
  · have hb3 : Below w.heap.size w (((w.alloc (Obj.cells #[Value.func (Fn.func 78) #[] #[.pointer (some ⟨Bo, 0, none⟩)]] 135)).alloc (Obj.cells #[Value.int IntKind.i64 (-1)] 3)).alloc (Obj.cells #[.pointer (some ⟨gs.G, 0, none⟩)] 25)) := (((Below.refl _ _).alloc (Nat.le_refl _) _).alloc (by simp) _).alloc (by simp only [World.size_alloc]; omega) _
    refine ⟨⟨gs', v, blk, ?_⟩, ?_⟩
    · have h0 : outs ++ drainOuts m [] = outs := by simp [drainOuts]
      rw [h0]
      refine (HH.out.below hb3).good ?_ ?_
      · refine (Below.heap_alloc _ _ _ (by simp only [World.size_alloc]; omega)).trans ((Below.heap_alloc _ _ _ (by simp)).trans (World.alloc_heap_new _ _))
      · have := World.alloc_heap_new (w.alloc (Obj.cells #[Value.func (Fn.func 78) #[] #[.pointer (some ⟨Bo, 0, none⟩)]] 135)) (Obj.cells #[Value.int IntKind.i64 (-1)] 3)
        rw [World.size_alloc] at this
        exact (Below.heap_alloc _ _ _ (by simp)).trans this
    · have := World.alloc_heap_new ((w.alloc (Obj.cells #[Value.func (Fn.func 78) #[] #[.pointer (some ⟨Bo, 0, none⟩)]] 135)).alloc (Obj.cells #[Value.int IntKind.i64 (-1)] 3)) (Obj.cells #[.pointer (some ⟨gs.G, 0, none⟩)] 25)
      rw [World.size_alloc, World.size_alloc] at this
      exact this
  · intro l J W hJI hJb hY hJ0
    refine f93_in (D := D) n l (w.heap.size + 2) gs m J W (fun pre W hJ => ?_) hJb (fun i W1 hJ hi hw => ?_) hJ0
    · obtain ⟨⟨gs1, v1, blk1', hg⟩, hs⟩ := hJI pre W hJ
      exact ⟨gs1, hg.gate, hg.like, (blk1 hs).1⟩
    · exact hY (m.list i) i W1 hJ ⟨rfl, hi, hw⟩
  · intro l i W K hK
    have hFi : ∀ f, (Fence.wide.inRound l).fn f = True := fun _ => rfl
    gi_wp2_with fail
    exact hK
  · rintro l pre i W ⟨⟨gs1, v1, blk1', hg⟩, hs⟩ ⟨rfl, hi, hw⟩
    have hin : (m.drainTo (m.list i)).inp i = m.inp i := m.drainTo_inp _ _ (m.not_mem_list i)
    have hq1 := drainOuts_len m i
    have hq2 : qsum m (i + 1) ≤ qsum m m.n := qsum_mono m hi
    simp only [qsum] at hq2
    have hb := body76_ok (n - 1 - 1) l i B Bo Bg Ba w.heap.size (w.heap.size + 1) (w.heap.size + 2) D gs (m.drainTo (m.list i)) (outs ++ drainOuts m (m.list i)) (drainNx m (m.list i)) w0 W hA (by rw [(m.drainTo_al (m.list i)).2.1]; exact hi) ⟨gs1, v1, blk1', hg⟩ (by rw [hin, List.length_append]; omega)
    refine wpIn_mono hb ?_
    rintro e a' W' hr
    cases e with
    | normal =>
      obtain ⟨hk, gs2, v2, blk2, hg2⟩ := hr
      rw [hin] at hg2
      have e1 := m.drainTo_snoc (m.list i) i
      rw [hin] at e1
      refine ⟨⟨hk.all.size, fun k o _ => hk.all.same k o (Nat.zero_le _)⟩, ⟨gs2, v2, blk2, ?_⟩, hk.box _ _ _ hs⟩
      rw [e1, drainOuts_snoc, drainNx_snoc, ← List.append_assoc]
      exact hg2
    | ret => exact hr.elim
    | exit id => exact hr.elim
    | goto t => exact hr.elim
    | panic ch => exact hr.elim
    | outgrown => exact hr.elim
  · rintro Dd xs W hD rfl ⟨⟨gs1, v1, blk1', hg⟩, hs⟩ hdef
    obtain ⟨n0, nf⟩ := blk1 hg.hn
    have HG := Lib.hid hg
    have HD := Lib.hid hdef
    clear hg hdef
    gi_wp2_with fail
    refine ⟨(fun hh => by cases hh), .inl ⟨Dd, _, rfl, run_takeDeferred HD.out, ?_⟩⟩
    have hB : B ≤ w.heap.size := Nat.le_trans hA.hB HH.out.only.size
    simp only [World.size_alloc] at hD
    have hfin := HG.out.grow hA (grownBy_putObj' W Dd (.deferred none)) (fun r hr => by
      injection hr with hr
      subst hr
      exact ⟨by omega, by omega, _, HD.out, rfl⟩)
    exact ⟨.tuple #[], res76 _ _, rfl, gs1, v1, blk1', hfin.start⟩
end walks
end Go.Proofs.Ytdnkfgnjeibjeaa

namespace Go.Proofs.Ytdnkfgnjeibjeaa
open Go.RowKit Go.Shelf

/-- What a call on a gate gives: a slice of its own of what passed; of what was there only the gate has turned. -/
def Gives (w : World) (D : Nat → Prop) (gs : GS) (n : Nat) (m' : Gm) (outs : List OV) (e : Ending) (w' : World) : Prop :=
  ∃ gs' v blk, e = .returned v ∧ m'.n = n ∧ SlOwn w' 44 6 v outs.length (outs.flatMap ocl) blk ∧ (∀ g, blk = some g → w.heap.size ≤ g) ∧ GateAt w' D gs' m' ∧ gs.like gs' ∧ (∀ o ∈ outs, RowAt w' D o.2.2 o.2.1.row) ∧ Only (gs.own n) w w'

/-- 'goOn' brings a gate there. -/
def GoesTo (D : Nat → Prop) (m m' : Gm) (outs : List OV) : Prop :=
  ∀ gs w, GateAt w D gs m → (∀ b, D b → b < w.heap.size) → Calls Try.prog 55 #[.pointer (some ⟨gs.G, 0, none⟩)] w (Gives w D gs m.n m' outs)

section walks
set_option maxHeartbeats 1000000
set_option maxRecDepth 100000

theorem f55_plain (D : Nat → Prop) (m : Gm) (hlen : qsum m m.n ≤ 1000000) (hnx : drainNx m (m.list m.n) < 0) : GoesTo D m (m.drainTo (m.list m.n)) (drainOuts m (m.list m.n)) := by
  intro gs w h hD
  have hG := h.lt (own_G gs m.n)
  have hM := h.lt (.inr (.inr (.inl rfl)))
  obtain ⟨W0, hW0⟩ : ∃ W0, W0 = (((w.alloc (Obj.cells #[.pointer (some ⟨gs.G, 0, none⟩)] 25)).alloc (Obj.cells #[.slice none 0 0] 37)).alloc (Obj.cells #[.func (.func 76) #[] #[.pointer (some ⟨w.heap.size, 0, none⟩), .pointer (some ⟨w.heap.size + 2, 0, none⟩)]] 134)) := ⟨_, rfl⟩
  have hb : Below w.heap.size w W0 := by
    rw [hW0]
    exact (((Below.refl _ _).alloc (Nat.le_refl _) _).alloc (by simp) _).alloc (by simp only [World.size_alloc]; omega) _
  have hsz : W0.heap.size = w.heap.size + 3 := by rw [hW0]; simp
  have hg0 : W0.heap[w.heap.size]? = some (.cells #[.pointer (some ⟨gs.G, 0, none⟩)] 25 (0, 0)) := by
    rw [hW0]
    exact (Below.heap_alloc _ _ _ (by simp only [World.size_alloc]; omega)).trans ((Below.heap_alloc _ _ _ (by simp)).trans (World.alloc_heap_new _ _))
  have hg1 : W0.heap[w.heap.size + 1]? = some (.cells #[.slice none 0 0] 37 (0, 0)) := by
    rw [hW0]
    have := World.alloc_heap_new (w.alloc (Obj.cells #[.pointer (some ⟨gs.G, 0, none⟩)] 25)) (Obj.cells #[.slice none 0 0] 37)
    rw [World.size_alloc] at this
    exact (Below.heap_alloc _ _ _ (by simp)).trans this
  have hg2 : W0.heap[w.heap.size + 2]? = some (.cells #[.func (.func 76) #[] #[.pointer (some ⟨w.heap.size, 0, none⟩), .pointer (some ⟨w.heap.size + 2, 0, none⟩)]] 134 (0, 0)) := by
    rw [hW0]
    have := World.alloc_heap_new ((w.alloc (Obj.cells #[.pointer (some ⟨gs.G, 0, none⟩)] 25)).alloc (Obj.cells #[.slice none 0 0] 37)) (Obj.cells #[.func (.func 76) #[] #[.pointer (some ⟨w.heap.size, 0, none⟩), .pointer (some ⟨w.heap.size + 2, 0, none⟩)]] 134)
    rw [World.size_alloc, World.size_alloc] at this
    exact this
  have hst : AStart w.heap.size D gs gs (w.heap.size + 1) w.heap.size (w.heap.size + 2) w m [] (.slice none 0 0) none W0 :=
    ⟨h.below hb, GS.like.refl gs, ⟨hg1, SlOwn.nil _ _ _⟩, (fun g hg => by cases hg), hg0, hg2, (fun o ho => by cases ho), Only.of_below hb⟩
  have hc := callsIn_wide.1 (f76_plain 0 w.heap.size (w.heap.size + 1) w.heap.size (w.heap.size + 2) D gs gs m [] (.slice none 0 0) none w W0 ⟨hD, Nat.le_refl _, by omega, Nat.le_refl _, by omega, by omega, by omega⟩ hM hst (by simpa using hlen) hnx)
  rw [hW0] at hc
  have HC := Lib.hid hc
  have HH := Lib.hid h
  clear hc hst hg0 hg1 hg2 hb hsz h hW0 W0
  go_enter Try.func55, Try.ntmps55
  go_wp2_with (go_at_call 76; refine HC.out.mono ?_; rintro e w1 ⟨rfl, gs1, v1, bk1, hs1⟩; obtain ⟨o0, ofr⟩ := blk1 hs1.box.box; have HS := Lib.hid hs1; clear hs1)
  obtain ⟨a1, c1, rfl⟩ := HS.out.box.own.form
  go_ret
  refine ⟨gs1, _, bk1, rfl, (m.drainTo_al (m.list m.n)).2.1, HS.out.box.own, HS.out.new, HS.out.gate, HS.out.like, HS.out.rows, ?_⟩
  exact HS.out.only.mono fun x hx hs => by 
    rcases hs with hs | hs
    · rw [(m.drainTo_al (m.list m.n)).2.1] at hs; exact hs
    · omega
/-- A barrier. -/
def bar (k : Int) : EV := ({ k := 3, n := k, t := 0, row := [], c := 0 }, .slice none 0 0)

theorem f124_any (w : World) (k : Int) : Calls Try.prog 124 #[.int .i64 k] w fun e w' => e = .returned (ev (bar k).1 (bar k).2) ∧ Below w.heap.size w w' := by
  go_enter Try.func124, Try.ntmps124
  go_wp2
  refine bodyPost_ret (v := ev (bar k).1 (bar k).2) (by simp [results, Try.results124, go_sem, bar]) rfl ⟨rfl, ?_⟩
  exact (Below.refl _ _).alloc (Nat.le_refl _) _

theorem f125_any (w : World) (G : Value) (k i : Int) : Calls Try.prog 125 #[.agg #[], G, .int .i64 k, .int .i64 i] w fun e w' => e = .returned (.slice none 0 0) ∧ Below w.heap.size w w' := by
  go_enter Try.func125, Try.ntmps125
  go_wp2
  go_ret
  exact ⟨rfl, (Below.refl _ _).alloc (Nat.le_refl _) _⟩

theorem f128_any (w : World) (G : Value) : Calls Try.prog 128 #[.agg #[], G] w fun e w' => e = .returned (.tuple #[]) ∧ Below w.heap.size w w' := by
  go_enter Try.func128, Try.ntmps128
  go_wp2
  go_end0
  exact ⟨rfl, (Below.refl _ _).alloc (Nat.le_refl _) _⟩

theorem f127_any (w : World) (G : Value) (k : Int) (i : Nat) : Calls Try.prog 127 #[.agg #[], G, .int .i64 k, .int .i64 i] w (GivesOuts w [(i, bar k)]) := by
  go_enter Try.func127, Try.ntmps127
  go_wp2_with (go_at_call 124; refine (f124_any _ _).mono ?_; rintro e w' ⟨rfl, hb⟩)
  go_ret
  have hb1 : Below w.heap.size w w' := ((Below.refl _ _).alloc (Nat.le_refl _) _).trans (hb.mono (by simp))
  refine ⟨_, some w'.heap.size, rfl, ⟨rfl, .inr ⟨_, 0, 1, _, rfl, rfl, World.alloc_heap_new _ _, Nat.le_refl _, by simp [maxLen], by simp, rfl⟩⟩, fun g hg => by cases hg; exact hb1.size, hb1.alloc hb1.size _⟩

def Inp.miss (x : Inp) : Bool := !x.closed && !x.sent

theorem f56_any (w : World) {D : Nat → Prop} (gs : GS) (m : Gm) (i : Nat) (h : GateAt w D gs m) (hi : i < m.n) :
    Calls Try.prog 56 #[.pointer (some ⟨gs.ib i, 0, none⟩)] w fun e w' => e = .returned (.bool (m.inp i).miss) ∧ w' = w := by
  obtain ⟨ia, i0, i1, i2, i3, i4, ifr⟩ := h.icells hi
  clear h
  cases hc : (m.inp i).closed <;> cases hs : (m.inp i).sent <;> rw [hc] at i1 <;> rw [hs] at i3 <;> go_enter Try.func56, Try.ntmps56 <;> go_wp2 <;> go_ret <;> exact ⟨ret_bool (by simp [Inp.miss, hc, hs]), rfl⟩

def Gm.anyMiss (m : Gm) : Bool := (List.range m.n).any fun i => (m.inp i).miss

theorem f92_any (w : World) {D : Nat → Prop} (gs : GS) (m : Gm) (h : GateAt w D gs m) :
    Calls Try.prog 92 #[.slice (some ⟨gs.arr, 0, none⟩) m.n gs.cap, .func (.func 56) #[] #[]] w fun e w' => (∃ v : Int, e = .returned (.int .i64 v) ∧ (m.anyMiss = true ↔ 0 ≤ v)) ∧ w' = w := by
  have H := Lib.hid h
  have hle := h.le
  clear h
  go_enter Try.func92, Try.ntmps92
  go_wp2
  go_loopw [8] (fun i wr => ∃ k : Nat, k ≤ m.n ∧ i = .int .i64 k ∧ (∀ j, j < k → (m.inp j).miss = false) ∧ wr = w) (fun i _ => m.n - (intOf i).toNat)
  case atStart => exact ⟨0, Nat.zero_le _, rfl, by omega, rfl⟩
  case round =>
    obtain ⟨k, hk, rfl, hv, rfl⟩ := hrel
    by_cases hlt : k < m.n
    · have ia := H.out.arr_cell hlt
      have hc := f56_any _ gs m k H.out hlt
      have HC := Lib.hid hc
      clear hc
      cases hm : (m.inp k).miss <;> rw [hm] at HC
      · go_wp2_with (go_at_call 56; refine HC.out.mono ?_; rintro e w' ⟨rfl, rfl⟩)
        go_roundw
        case rel =>
          refine ⟨k + 1, by omega, by go_num, fun j hj => ?_, by first | trivial | rfl⟩
          by_cases e : j = k
          · subst e; exact hm
          · exact hv j (by omega)
        case measure => simp [intOf]; omega
      · go_wp2_with (go_at_call 56; refine HC.out.mono ?_; rintro e w' ⟨rfl, rfl⟩)
        go_ret
        exact ⟨⟨k, rfl, by rw [iff_true_right (by omega)]; exact List.any_eq_true.2 ⟨k, List.mem_range.2 hlt, hm⟩⟩, rfl⟩
    · go_wp2
      go_ret
      refine ⟨⟨-1, rfl, ?_⟩, rfl⟩
      rw [iff_false_right (by omega)]
      intro hh
      obtain ⟨j, hj, hj2⟩ := List.any_eq_true.1 hh
      rw [hv j (by have := List.mem_range.1 hj; omega)] at hj2
      cases hj2

theorem f75_any (w : World) {D : Nat → Prop} (gs : GS) (m : Gm) (h : GateAt w D gs m) :
    Calls Try.prog 75 #[.slice (some ⟨gs.arr, 0, none⟩) m.n gs.cap, .func (.func 56) #[] #[]] w fun e w' => e = .returned (.bool m.anyMiss) ∧ w' = w := by
  have hc := f92_any w gs m h
  have HC := Lib.hid hc
  clear hc h
  cases hm : m.anyMiss
  · go_enter Try.func75, Try.ntmps75
    go_wp2_with (go_at_call 92; refine HC.out.mono ?_; rintro e w' ⟨⟨v, rfl, hv⟩, rfl⟩; rw [hm] at hv; have hv0 : ¬ 0 ≤ v := fun hh => absurd (hv.2 hh) (by decide))
    refine bodyPost_ret (v := .bool (decide (0 ≤ v))) (by kernel_rfl) rfl ⟨?_, rfl⟩
    rw [decide_eq_false (by omega)]
  · go_enter Try.func75, Try.ntmps75
    go_wp2_with (go_at_call 92; refine HC.out.mono ?_; rintro e w' ⟨⟨v, rfl, hv⟩, rfl⟩; rw [hm] at hv; have hv0 : 0 ≤ v := hv.1 rfl; clear hv)
    go_ret
    exact ⟨ret_bool (by simp), rfl⟩

end walks
end Go.Proofs.Ytdnkfgnjeibjeaa

namespace Go.Proofs.Ytdnkfgnjeibjeaa
open Go.RowKit Go.Shelf

theorem Gives.nil {w w' : World} {D : Nat → Prop} {gs : GS} {m : Gm} (h : GateAt w' D gs m) (hb : Only (gs.own m.n) w w') : Gives w D gs m.n m [] (.returned (.slice none 0 0)) w' :=
  ⟨gs, _, none, rfl, rfl, SlOwn.nil _ _ _, (fun g hg => by cases hg), h, GS.like.refl gs, (fun o ho => by cases ho), hb⟩

theorem RowAt.nil (w : World) (D : Nat → Prop) : RowAt w D (.slice none 0 0) [] := ⟨none, 0, rfl, by simp, .inl rfl⟩

theorem okCells_of {w : World} {D : Nat → Prop} {outs : List OV} (h : ∀ o ∈ outs, RowAt w D o.2.2 o.2.1.row) : okCells (outs.flatMap ocl) := by
  intro u hu
  obtain ⟨o, ho, hm⟩ := List.mem_flatMap.1 hu
  obtain ⟨a, c, hv, _⟩ := h o ho
  simp only [ocl, ecl, List.mem_cons, List.not_mem_nil, or_false] at hm
  rcases hm with rfl | rfl | rfl | rfl | rfl | rfl
  · rfl
  · rfl
  · rfl
  · rfl
  · rw [hv]; rfl
  · rfl

theorem SlOwn.lt_of {w : World} {e : TypeId} {size : Nat} {v : Value} {n : Nat} {xs : List Value} {blk : Option Nat} (h : SlOwn w e size v n xs blk) {g : Nat} (hg : blk = some g) : g < w.heap.size := by
  subst hg
  exact h.blk_lt

/-- A gate whose own blocks, and whose elements' rows, lie as they lay. -/
theorem GateAt.hold {w w' : World} {D : Nat → Prop} {gs : GS} {m : Gm} (h : GateAt w D gs m) (hk : ∀ b, b < w.heap.size → gs.own m.n b ∨ D b → w'.heap[b]? = w.heap[b]?) : GateAt w' D gs m := by
  have hl : ∀ {b o}, gs.own m.n b → w.heap[b]? = some o → w'.heap[b]? = some o := fun hb ho => (hk _ (heap_lt ho) (.inl hb)).trans ho
  refine ⟨h.pos, h.le, hl (own_G _ _) h.hG, ?_, fun i hi => hl (own_ib gs hi) (h.hib i hi), h.inj, fun i hi => (h.hq i hi).keep fun g hg => hk g (h.lt (own_qb gs hi hg)) (.inl (own_qb gs hi hg)), h.qinj, fun i hi p hp => (h.hrow i hi p hp).keep fun b hb hlt => hk b hlt (.inr hb), h.hD, hl (.inr (.inr (.inl rfl))) h.hmap⟩
  obtain ⟨cs, hc, hcs⟩ := h.harr
  exact ⟨cs, hl (.inr (.inl rfl)) hc, hcs⟩

/-- Two slices of what passed, put together. -/
theorem Gives.app {w W W4 : World} {D : Nat → Prop} {gs gs3 : GS} {n : Nat} {m' : Gm} {outs1 outs2 : List OV} {v4 : Value} {bk1 bk4 : Option Nat} (hD : ∀ b, D b → b < w.heap.size) (hn : m'.n = n) (hown : ∀ b, gs.own n b → b < w.heap.size)
    (hbk : ∀ g, bk1 = some g → w.heap.size ≤ g) (hg : GateAt W D gs3 m') (hl : gs.like gs3) (hr1 : ∀ o ∈ outs1, RowAt W D o.2.2 o.2.1.row) (hr2 : ∀ o ∈ outs2, RowAt W D o.2.2 o.2.1.row) (ho : Only (gs.own n) w W)
    (hgr : W.grownBy W4 bk1) (h4 : SlOwn W4 44 6 v4 (outs1.length + outs2.length) (outs1.flatMap ocl ++ outs2.flatMap ocl) bk4) (hat : bk4 = bk1 ∨ bk4 = some W.heap.size) :
    Gives w D gs n m' (outs1 ++ outs2) (.returned v4) W4 := by
  have hrow : ∀ {r row}, RowAt W D r row → RowAt W4 D r row := fun hx => hx.keep fun b hb hlt => hgr.block b hlt (fun e => by have h1 := hD b hb; have h2 := hbk b e.symm; omega)
  refine ⟨gs3, v4, bk4, rfl, hn, by simpa using h4, fun g hg4 => ?_, hg.hold fun b hb hx => hgr.block b hb (fun e => ?_), hl, fun o ho' => ?_, ho.grown hgr (fun k hk hlt => by have := hbk k hk; omega)⟩
  · rcases hat with e | e
    · exact hbk g (e ▸ hg4)
    · rw [hg4] at e; injection e with e; rw [e]; exact ho.size
  · have h2 := hbk b e.symm
    rcases hx with hx | hx
    · have h1 := hown b ((like_own hl n b).1 (hn ▸ hx)); omega
    · have h1 := hD b hx; omega
  · rcases List.mem_append.1 ho' with h | h
    · exact hrow (hr1 o h)
    · exact hrow (hr2 o h)

section walks
set_option maxHeartbeats 1000000
set_option maxRecDepth 100000

/-- 'whole' brings a gate there. -/
def WholeTo (D : Nat → Prop) (i : Nat) (m m' : Gm) (outs : List OV) : Prop :=
  ∀ gs w, GateAt w D gs m → (∀ b, D b → b < w.heap.size) → Calls Try.prog 53 #[.pointer (some ⟨gs.G, 0, none⟩), .int .i64 i] w (Gives w D gs m.n m' outs)

theorem f53_none (D : Nat → Prop) (i : Nat) (m : Gm) (h0 : m.under = 0 ∨ m.anyMiss = true) : WholeTo D i m m [] := by
  intro gs w h hD
  obtain ⟨g0, g1, g2, g3, g4, gf⟩ := h.cells
  have hc := f75_any w gs m h
  have HC := Lib.hid hc
  have H := Lib.hid h
  clear h hc hD
  by_cases hu : m.under = 0
  · rw [hu] at g2
    go_enter Try.func53, Try.ntmps53
    go_wp2_with fail
    go_ret
    exact Gives.nil H.out (Only.refl _ _)
  · have hm := h0.resolve_left hu
    rw [hm] at HC
    clear h0
    go_enter Try.func53, Try.ntmps53
    go_wp2_with (go_at_call 75; refine HC.out.mono ?_; rintro e w' ⟨rfl, rfl⟩)
    go_ret
    exact Gives.nil H.out (Only.refl _ _)

theorem f53_whole (D : Nat → Prop) (i : Nat) (m m' : Gm) (outs : List OV) (hal : m.al = true) (hu : m.under ≠ 0) (hm : m.anyMiss = false) (hgo : GoesTo D m.ends m' outs) (hlen : outs.length ≤ 1000000) : WholeTo D i m m' ((i, bar m.under) :: outs) := by
  intro gs w h hD
  obtain ⟨g0, g1, g2, g3, g4, gf⟩ := h.cells
  rw [hal] at g1
  simp only [howV, if_true] at g1
  have hc := f75_any w gs m h
  rw [hm] at hc
  have HC := Lib.hid hc
  have H := Lib.hid h
  have HD := Lib.hid hD
  clear h hc hD hm
  go_enter Try.func53, Try.ntmps53
  go_wp2_with (go_at_call 75; refine HC.out.mono ?_; rintro e w' ⟨rfl, rfl⟩)
  go_still_tail 12, (by kernel_rfl)
  change wpList _ _ _ _ _ w'.drew
  go_wp2_with (go_at_call 127; refine (f127_any _ _ _ _).mono ?_; rintro e w1 ⟨v1, bk1, rfl, ho1, hn1, hb1⟩)
  have hb1' : Below w'.heap.size w' w1 := ((Below.refl w'.heap.size w').drew).trans hb1
  have hg1 := H.out.below hb1'
  have hc4 := f54_any w1 gs m hg1
  have HC4 := Lib.hid hc4
  have HO1 := Lib.hid ho1
  have HN1 := Lib.hid hn1
  have hown : ∀ b, gs.own m.n b → ¬ w'.drew.heap.size ≤ b := fun b hb hle => by have h1 := H.out.lt hb; have h2 : w'.heap.size ≤ b := hle; omega
  have HOWN := Lib.hid hown
  have HB1 := Lib.hid hb1'
  clear hown hc4 ho1 hn1 hb1 hb1' hg1
  obtain ⟨i0, hi0, hz0, hz1, hz2⟩ := info_parts info44
  go_wp2_with (first
    | (go_at_call 54; refine HC4.out.mono ?_; rintro e w2 ⟨rfl, hg2, ho2⟩
       have hd2 : ∀ b, D b → b < w2.heap.size := fun b hb => Nat.lt_of_lt_of_le (HD.out b hb) (Nat.le_trans HB1.out.size ho2.size)
       have HG2 := Lib.hid (hgo gs w2 hg2 hd2); have HO2 := Lib.hid ho2; clear hg2 ho2 hd2)
    | (go_at_call 55; refine HG2.out.mono ?_; rintro e w3 ⟨gs3, v3, bk3, rfl, hn3, ho3, hbk3, hg3, hl3, hr3, hon3⟩
       have ho13 := (HO1.out.keep fun g hg => HO2.out.block g (HO1.out.lt_of hg) (fun hx => HOWN.out g hx (HN1.out g hg))).keep fun g hg => hon3.block g (Nat.lt_of_lt_of_le (HO1.out.lt_of hg) HO2.out.size) (fun hx => HOWN.out g hx (HN1.out g hg))
       obtain ⟨a1, c1, rfl⟩ := ho13.form)
    | (at_builtin; refine wpList_append_S rfl (.tmp 33) (.tmp 35) 37 rfl 44 i0 _ 6 64 Try.underlying37 hi0 hz0 hz1 hz2 rfl (by omega) (.slice a1 1 c1) 1 ([(i, bar m.under)].flatMap ocl) bk1 rfl ho13 v3 outs.length (outs.flatMap ocl) rfl ho3.src (okCells_of hr3) (by simp only [maxLen]; omega) (by omega) ?_; intro v4 w4 bk4 hown4 hgrow4 hat4))
  go_ret
  refine Gives.app (W := w3) (gs3 := gs3) (outs1 := [(i, bar m.under)]) (bk1 := bk1) (bk4 := bk4) HD.out hn3 (fun b hb => H.out.lt hb) HN1.out hg3 hl3 (fun o ho => ?_) hr3 ?_ hgrow4 hown4 hat4
  · rw [List.mem_singleton] at ho
    subst ho
    exact RowAt.nil _ _
  · exact ((Only.of_below HB1.out).trans HO2.out (fun _ _ h => h)).trans hon3 (fun _ _ h => h)
end walks
end Go.Proofs.Ytdnkfgnjeibjeaa

namespace Go.Proofs.Ytdnkfgnjeibjeaa
open Go.RowKit Go.Shelf

/-- 'looked' brings a gate there. -/
def LookTo (D : Nat → Prop) (i : Nat) (x : EV) (m m' : Gm) (outs : List OV) : Prop :=
  ∀ gs w, GateAt w D gs m → (∀ b, D b → b < w.heap.size) → RowAt w D x.2 x.1.row → Calls Try.prog 44 #[.pointer (some ⟨gs.G, 0, none⟩), .int .i64 i, ev x.1 x.2] w (Gives w D gs m.n m' outs)

def Inp.send (x : Inp) : Inp := { x with sent := true }

theorem GateAt.sendAt {w : World} {D : Nat → Prop} {gs : GS} {m : Gm} (h : GateAt w D gs m) {i : Nat} (hi : i < m.n) : GateAt (w.setCell ⟨gs.ib i, 3, none⟩ (.bool true)) D gs (m.upd i (m.inp i).send) := by
  refine h.setI hi (m.inp i).send rfl ?_ (fun b hne => heap_set_ne _ hne)
  have hh := heap_set (j := 3) (h.hib i hi) (.bool true)
  simpa [Inp.send] using hh

theorem GateAt.underAt {w : World} {D : Nat → Prop} {gs : GS} {m : Gm} (h : GateAt w D gs m) (u : Int) : GateAt (w.setCell ⟨gs.G, 2, none⟩ (.int .i64 u)) D gs { m with under := u } := by
  refine h.setG u m.done ?_ (fun b hne => heap_set_ne _ hne)
  have hh := heap_set (j := 2) h.hG (.int .i64 u)
  simpa using hh

section walks
set_option maxHeartbeats 1000000
set_option maxRecDepth 100000

theorem f44_pass (D : Nat → Prop) (i : Nat) (x : EV) (m : Gm) (hi : i < m.n) (hp : x.plain = true) : LookTo D i x m m [(i, x)] := by
  intro gs w h hD hr
  obtain ⟨e, r⟩ := x
  have hr' := hr
  obtain ⟨a, c, hv, _⟩ := hr
  dsimp only at hv
  subst hv
  refine (f44_plain w gs m i e a _ c h hi (by simpa [EV.plain] using hp)).mono ?_
  rintro e' w' ⟨v, blk, rfl, hs, hn, hb⟩
  exact ⟨gs, v, blk, rfl, rfl, hs, hn, h.below hb, GS.like.refl gs, fun o ho => by rw [List.mem_singleton] at ho; subst ho; exact hr'.below hb, Only.of_below hb⟩

theorem f44_drop (D : Nat → Prop) (i : Nat) (x : EV) (m : Gm) (hk : x.1.k = 3) (hd : x.1.n ≤ m.done ∨ (0 < m.under ∧ x.1.n < m.under)) : LookTo D i x m m [] := by
  intro gs w h hD hr
  obtain ⟨⟨k, kn, t, row, c⟩, r⟩ := x
  dsimp only at hk hd
  subst hk
  have hb0 : Below w.heap.size w (w.alloc (Obj.cells #[Value.int IntKind.i64 3, Value.int IntKind.i64 kn, Value.int IntKind.i64 t, r, Value.int IntKind.i64 c] 34)) := (Below.refl _ _).alloc (Nat.le_refl _) _
  obtain ⟨ra, rc, hv, _⟩ := hr
  dsimp only at hv
  subst hv
  have h0 := h.below hb0
  have H0 := Lib.hid h0
  have HB := Lib.hid hb0
  obtain ⟨g0, g1, g2, g3, g4, gf⟩ := h.cells
  have hG := h.lt (own_G gs m.n)
  clear h h0 hb0
  go_enter Try.func44, Try.ntmps44
  rcases Int.lt_or_le m.done kn with h1 | h1
  · obtain ⟨h2, h3⟩ := hd.resolve_left (by omega)
    go_wp2_with fail
    go_ret
    exact Gives.nil H0.out (Only.of_below HB.out)
  · go_wp2_with fail
    go_ret
    exact Gives.nil H0.out (Only.of_below HB.out)

/-- A barrier that is the one under way. -/
theorem f44_same (D : Nat → Prop) (i : Nat) (x : EV) (m m' : Gm) (outs : List OV) (hi : i < m.n) (hk : x.1.k = 3) (hd : m.done < x.1.n) (hu : x.1.n = m.under) (hu0 : 0 < m.under) (hw : WholeTo D i (m.upd i (m.inp i).send) m' outs) (hlen : outs.length ≤ 1000000) : LookTo D i x m m' outs := by
  intro gs w h hD hr
  obtain ⟨⟨k, kn, t, row, c⟩, r⟩ := x
  dsimp only at hk hd hu
  subst hk hu
  obtain ⟨ra, rc, hv, _⟩ := hr
  dsimp only at hv
  subst hv
  obtain ⟨i0, hi0, hz0, hz1, hz2⟩ := info_parts info44
  obtain ⟨g0, g1, g2, g3, g4, gf⟩ := h.cells
  obtain ⟨ia, x0, x1, x2, x3, x4, xf⟩ := h.icells hi
  have l1 := h.lt (own_G gs m.n)
  have l2 := h.lt (own_ib gs hi)
  have l3 : gs.arr < w.heap.size := h.lt (.inr (.inl rfl))
  have hhd : ∀ o : Obj, ∀ b, D b → b < ((w.setCell ⟨gs.ib i, 3, none⟩ (.bool true)).alloc o).heap.size := fun o b hb => by have := hD b hb; simp [World.setCell]; omega
  have hg3 : GateAt (w.setCell ⟨gs.ib i, 3, none⟩ (.bool true)) D gs (m.upd i (m.inp i).send) := h.sendAt hi
  have hg4 : ∀ o : Obj, GateAt ((w.setCell ⟨gs.ib i, 3, none⟩ (.bool true)).alloc o) D gs (m.upd i (m.inp i).send) := fun o => hg3.below ((Below.refl _ _).alloc (Nat.le_refl _) o)
  have hon : ∀ o : Obj, Only (gs.own m.n) w ((w.setCell ⟨gs.ib i, 3, none⟩ (.bool true)).alloc o) := fun o => ((Only.refl _ _).setCell (fun _ => own_ib gs hi) _).alloc o
  have hc := fun o => hw gs _ (hg4 o) (hhd o)
  have HC := Lib.hid hc
  have HO := Lib.hid hon
  have HH := Lib.hid h
  have HD := Lib.hid hD
  clear hc hhd hg3 hg4 hon h hD hw
  have j1 : (0 : Int) ≤ (i : Int) := by omega
  have j2 : (i : Int) < (m.n : Int) := by omega
  go_enter Try.func44, Try.ntmps44
  go_wp2_with (first
    | (go_at_call 53; refine (HC.out _).mono ?_; rintro e w3 ⟨gs3, v3, bk3, rfl, hn3, ho3, hbk3, hg3, hl3, hr3, hon3⟩)
    | (at_builtin; refine wpList_append_S rfl (.tmp 143) (.tmp 146) 37 rfl 44 i0 _ 6 64 Try.underlying37 hi0 hz0 hz1 hz2 rfl (by omega) (.slice none 0 0) 0 [] none rfl (SlOwn.nil _ _ _) v3 outs.length (outs.flatMap ocl) rfl ho3.src (okCells_of hr3) (by simp only [maxLen]; omega) (by omega) ?_; intro v4 w4 bk4 hown4 hgrow4 hat4))
  go_ret
  refine Gives.app (W := w3) (gs3 := gs3) (outs1 := []) (bk1 := none) (bk4 := bk4) HD.out hn3 (fun b hb => HH.out.lt hb) (fun g hg => by cases hg) hg3 hl3 (fun o ho => by cases ho) hr3 ?_ hgrow4 hown4 hat4
  exact (HO.out _).trans hon3 (fun _ _ h => h)

/-- The first of a barrier. -/
theorem f44_first (D : Nat → Prop) (i : Nat) (x : EV) (m m' : Gm) (outs : List OV) (hi : i < m.n) (hal : m.al = true) (hk : x.1.k = 3) (hd : m.done < x.1.n) (hu0 : m.under = 0)
    (hw : WholeTo D i (Gm.upd { m with under := x.1.n } i (m.inp i).send) m' outs) (hlen : outs.length ≤ 1000000) : LookTo D i x m m' outs := by
  intro gs w h hD hr
  obtain ⟨⟨k, kn, t, row, c⟩, r⟩ := x
  dsimp only at hk hd hw
  subst hk
  obtain ⟨ra, rc, hv, _⟩ := hr
  dsimp only at hv
  subst hv
  obtain ⟨i0, hi0, hz0, hz1, hz2⟩ := info_parts info44
  obtain ⟨g0, g1, g2, g3, g4, gf⟩ := h.cells
  rw [hal] at g1
  simp only [howV, if_true] at g1
  rw [hu0] at g2
  have l1 := h.lt (own_G gs m.n)
  have hh : ∀ o : Obj, GateAt ((w.setCell ⟨gs.G, 2, none⟩ (.int .i64 kn)).alloc o) D gs { m with under := kn } := fun o => (h.underAt kn).below ((Below.refl _ _).alloc (Nat.le_refl _) o)
  have hon : ∀ o : Obj, Only (gs.own m.n) w ((w.setCell ⟨gs.G, 2, none⟩ (.int .i64 kn)).alloc o) := fun o => ((Only.refl _ _).setCell (fun _ => own_G gs _) _).alloc o
  have HG := Lib.hid hh
  have HO := Lib.hid hon
  have HH := Lib.hid h
  have HD := Lib.hid hD
  clear hh hon h hD
  have j1 : (0 : Int) ≤ (i : Int) := by omega
  have j2 : (i : Int) < (m.n : Int) := by omega
  go_enter Try.func44, Try.ntmps44
  go_wp2_with (first
    | (go_at_call 125; refine (f125_any _ _ _ _).mono ?_; rintro e w1 ⟨rfl, hb1⟩
       have hg1 := (HG.out _).below hb1
       have hon1 := (HO.out _).trans (Only.of_below (S := fun _ => False) hb1) (fun _ _ h => h.elim)
       obtain ⟨g0', g1', g2', g3', g4', gf'⟩ := hg1.cells
       obtain ⟨ia, x0, x1, x2, x3, x4, xf⟩ := hg1.icells hi
       have hc := hw gs _ (hg1.sendAt hi) (fun b hb => by have h1 := HD.out b hb; have h2 := hon1.size; simp [World.setCell]; omega)
       have HC := Lib.hid hc
       have HON := Lib.hid hon1
       clear hg1 hon1 hc hb1)
    | (go_at_call 53; refine HC.out.mono ?_; rintro e w3 ⟨gs3, v3, bk3, rfl, hn3, ho3, hbk3, hg3, hl3, hr3, hon3⟩)
    | (at_builtin; refine wpList_append_S rfl (.tmp 143) (.tmp 146) 37 rfl 44 i0 _ 6 64 Try.underlying37 hi0 hz0 hz1 hz2 rfl (by omega) (.slice none 0 0) 0 [] none rfl (SlOwn.nil _ _ _) v3 outs.length (outs.flatMap ocl) rfl ho3.src (okCells_of hr3) (by simp only [maxLen]; omega) (by omega) ?_; intro v4 w4 bk4 hown4 hgrow4 hat4))
  go_ret
  refine Gives.app (W := w3) (gs3 := gs3) (outs1 := []) (bk1 := none) (bk4 := bk4) HD.out hn3 (fun b hb => HH.out.lt hb) (fun g hg => by cases hg) hg3 hl3 (fun o ho => by cases ho) hr3 ?_ hgrow4 hown4 hat4
  exact (HON.out.setCell (fun _ => own_ib gs hi) _).trans hon3 (fun _ _ h => h)

end walks
end Go.Proofs.Ytdnkfgnjeibjeaa
