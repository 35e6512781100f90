import Derived.Test.YtdnkfgnjeibjeaaG6
import Derived.Test.YtdnkfgnjeibjeaaR2
namespace Go.Proofs.Ytdnkfgnjeibjeaa
open Go.RowKit Go.Shelf

attribute [local go_sem] Oper.semAt_some

abbrev o6 (dst : Nat) (op : Op) (type : TypeId) (after : Array Edge) : Oper := { dst := some dst, op := op, type := type, pos := "gate.go:185", after := after, guard := none }

/-- 'pass(g.looked(i, x.queue[0])...)' -/
abbrev ops6 : Array Oper := #[
  o6 29 (.load 135 (.tmp 3)) 135 #[],
  o6 30 (.load 25 (.tmp 1)) 25 #[],
  o6 31 (.move (.tmp 5)) 3 #[],
  o6 32 (.move (.tmp 6)) 90 #[],
  o6 33 (.nilCheck (.tmp 32)) 0 #[{ on := 3, ground := .data }],
  o6 34 (.fieldAddr 92 (.tmp 33) 2) 0 #[{ on := 4, ground := .data }],
  o6 35 (.load 49 (.tmp 34)) 49 #[{ on := 5, ground := .data }],
  o6 36 (.indexAddr 49 (.tmp 35) (.const (.int .i64 0))) 0 #[{ on := 6, ground := .data }],
  o6 37 (.load 34 (.tmp 36)) 34 #[{ on := 7, ground := .data }],
  o6 38 (.call { callee := .value (.func 44), args := #[.tmp 30, .tmp 31, .tmp 37], argTypes := #[25, 3, 34] }) 37 #[{ on := 1, ground := .data }, { on := 2, ground := .data }, { on := 8, ground := .data }],
  o6 39 (.call { callee := .value (.tmp 29), args := #[.tmp 38], argTypes := #[37] }) 0 #[{ on := 0, ground := .data }, { on := 9, ground := .data }, { on := 9, ground := .chain }]]

section walks
set_option maxHeartbeats 1000000
set_option maxRecDepth 100000

/-- What slots 29 to 39 come to hold. -/
def val6 (Bo : Nat) (gs : GS) (i : Nat) (qv : Value) (g o : Nat) (e : EV) (x : Value) : Nat → Value
  | 0 => .func (.func 78) #[] #[.pointer (some ⟨Bo, 0, none⟩)]
  | 1 => .pointer (some ⟨gs.G, 0, none⟩)
  | 2 => .int .i64 i
  | 3 => .pointer (some ⟨gs.ib i, 0, none⟩)
  | 4 => .pointer (some ⟨gs.ib i, 0, none⟩)
  | 5 => .pointer (some ⟨gs.ib i, 2, none⟩)
  | 6 => qv
  | 7 => .pointer (some ⟨g, o, none⟩)
  | 8 => ev e.1 e.2
  | 9 => x
  | _ => .tuple #[]

/-- The state inside the region. -/
def St6 (base : Array Value) (Bo : Nat) (gs : GS) (i : Nat) (qv : Value) (g o : Nat) (e : EV) (wr : World) (P : World → World → Value → World → Prop) (listed : Array Bool) (a : Act) (w : World) : Prop :=
  ∃ x, listed.size = 11 ∧ a = { tmps := fillT base 29 11 (val6 Bo gs i qv g o e x) listed, defers := [] } ∧
    ((listed.getD 9 false = false ∧ listed.getD 10 false = false ∧ w = wr.drew) ∨
     (listed.getD 9 false = true ∧ listed.getD 10 false = false ∧ (∃ bx, SlOwn w 44 6 x 1 (List.flatMap ocl [(i, e)]) bx) ∧ Below wr.heap.size wr w) ∨
     (listed.getD 9 false = true ∧ listed.getD 10 false = true ∧ ∃ w2, Below wr.heap.size wr w2 ∧ P wr w2 x w))

theorem rep_false (n k : Nat) : (Array.replicate n false).getD k false = false := by
  rcases Nat.lt_or_ge k n with h | h <;> simp [h]

theorem getD_tf {listed : Array Bool} {j : Nat} (h : listed.getD j true = false) : listed.getD j false = false := by
  unfold Array.getD at h ⊢
  split at h
  · rename_i hh; rw [dif_pos hh]; exact h
  · cases h

theorem closed6_9 {listed : Array Bool} (hc : Closed .any ops6 listed) (h : listed.getD 9 false = true) : ∀ k, 1 ≤ k → k ≤ 9 → listed.getD k false = true := by
  have h1 := hc 9 _ rfl h { on := 1, ground := .data } (by simp) rfl
  have h2 := hc 9 _ rfl h { on := 2, ground := .data } (by simp) rfl
  have h8 := hc 9 _ rfl h { on := 8, ground := .data } (by simp) rfl
  have h7 := hc 8 _ rfl h8 { on := 7, ground := .data } (by simp) rfl
  have h6 := hc 7 _ rfl h7 { on := 6, ground := .data } (by simp) rfl
  have h5 := hc 6 _ rfl h6 { on := 5, ground := .data } (by simp) rfl
  have h4 := hc 5 _ rfl h5 { on := 4, ground := .data } (by simp) rfl
  have h3 := hc 4 _ rfl h4 { on := 3, ground := .data } (by simp) rfl
  intro k hk hk'
  match k, hk, hk' with
  | 1, _, _ => exact h1
  | 2, _, _ => exact h2
  | 3, _, _ => exact h3
  | 4, _, _ => exact h4
  | 5, _, _ => exact h5
  | 6, _, _ => exact h6
  | 7, _, _ => exact h7
  | 8, _, _ => exact h8
  | 9, _, _ => exact h

theorem closed6_10 {listed : Array Bool} (hc : Closed .any ops6 listed) (h : listed.getD 10 false = true) : ∀ k, k < 11 → listed.getD k false = true := by
  have h0 := hc 10 _ rfl h { on := 0, ground := .data } (by simp) rfl
  have h9 := hc 10 _ rfl h { on := 9, ground := .data } (by simp) rfl
  intro k hk
  by_cases e0 : k = 0
  · subst e0; exact h0
  · by_cases e10 : k = 10
    · subst e10; exact h
    · exact closed6_9 hc h9 k (by omega) (by omega)

theorem set_other {listed : Array Bool} {i k : Nat} (h : i ≠ k) : (listed.setIfInBounds i true).getD k false = listed.getD k false := by
  simp [h]

theorem set_same {listed : Array Bool} {i : Nat} (h : i < listed.size) : (listed.setIfInBounds i true).getD i false = true := by
  simp [h]

theorem region6_ok (n l i Bg Bp Bo : Nat) (gs : GS) (qn qc g o : Nat) (e : EV) (base : Array Value) (wr : World) (P : World → World → Value → World → Prop) (Q : Exit → Act → World → Prop)
    (hb : base.size = 97) (b1 : base[1]? = some (.pointer (some ⟨Bg, 0, none⟩))) (b3 : base[3]? = some (.pointer (some ⟨Bp, 0, none⟩))) (b5 : base[5]? = some (.int .i64 i)) (b6 : base[6]? = some (.pointer (some ⟨gs.ib i, 0, none⟩)))
    (p0 : wr.cell? ⟨Bp, 0, none⟩ = some (.func (.func 78) #[] #[.pointer (some ⟨Bo, 0, none⟩)])) (bg0 : wr.cell? ⟨Bg, 0, none⟩ = some (.pointer (some ⟨gs.G, 0, none⟩))) (i2 : wr.cell? ⟨gs.ib i, 2, none⟩ = some (.slice (some ⟨g, o, none⟩) qn qc)) (hqn : (0 : Int) < (qn : Int))
    (c0 : wr.cell? ⟨g, o, none⟩ = some (.int .i64 e.1.k)) (c1 : wr.cell? ⟨g, o + 1, none⟩ = some (.int .i64 e.1.n)) (c2 : wr.cell? ⟨g, o + 2, none⟩ = some (.int .i64 e.1.t)) (c3 : wr.cell? ⟨g, o + 3, none⟩ = some e.2) (c4 : wr.cell? ⟨g, o + 4, none⟩ = some (.int .i64 e.1.c))
    (hLook : ∀ W', Below wr.heap.size wr W' → CallsIn (Fence.wide.inRound l) (n - 1) Try.prog 44 #[.pointer (some ⟨gs.G, 0, none⟩), .int .i64 i, ev e.1 e.2] W' (GivesOuts W' [(i, e)]))
    (hPass : ∀ W2 x bx, Below wr.heap.size wr W2 → SlOwn W2 44 6 x 1 (List.flatMap ocl [(i, e)]) bx → CallsIn (Fence.wide.inRound l) (n - 1) Try.prog 78 #[x, .pointer (some ⟨Bo, 0, none⟩)] W2 (fun e' w' => e' = .returned (.tuple #[]) ∧ P wr W2 x w'))
    (hQ : ∀ x w2 w, Below wr.heap.size wr w2 → P wr w2 x w → Q .normal { tmps := fillT base 29 11 (val6 Bo gs i (.slice (some ⟨g, o, none⟩) qn qc) g o e x) (Array.replicate 11 true), defers := [] } w) :
    (Code.region 6 ops6 true).wpIn (Fence.wide.inRound l) n Try.prog Q { tmps := base, defers := [] } wr := by
  have hF : ∀ f, (Fence.wide.inRound l).fn f = True := fun _ => rfl
  have hDe : (Fence.wide.inRound l).depth.isSome = false := rfl
  have hDf : Fence.wide.depth.isSome = false := rfl
  have hqn' : 0 < qn := by omega
  refine wpIn_region_any (by kernel_rfl) (wpAnyIn_inv (St6 base Bo gs i (.slice (some ⟨g, o, none⟩) qn qc) g o e wr P) ?_ ?_ _ _ _ _ ?_ ?_ ?_)
  · intro listed a w j oj hs hcl hoj hj0 hd
    obtain ⟨x, hsz, rfl, hph⟩ := hs
    have hj : j < 11 := (Array.getElem?_eq_some_iff.1 hoj).1
    have hdep : ∀ k gr, { on := k, ground := gr } ∈ oj.after → gr = .data ∨ gr = .chain → listed.getD k false = true := fun k gr he hg => hd _ he (by rcases hg with rfl | rfl <;> rfl)
    have hnew : ∀ k, k < 11 → listed.getD k false = true → (fillT base 29 11 (val6 Bo gs i (.slice (some ⟨g, o, none⟩) qn qc) g o e x) listed)[29 + k]?.getD undef = val6 Bo gs i (.slice (some ⟨g, o, none⟩) qn qc) g o e x k := fun k hk hl => by rw [fillT_new hk (by omega) hl]; rfl
    have hold : ∀ s v, s < 29 → base[s]? = some v → (fillT base 29 11 (val6 Bo gs i (.slice (some ⟨g, o, none⟩) qn qc) g o e x) listed)[s]?.getD undef = v := fun s v hs hv => by rw [fillT_old (.inl hs), hv]; rfl
    have hput : ∀ k, k < 11 → (fillT base 29 11 (val6 Bo gs i (.slice (some ⟨g, o, none⟩) qn qc) g o e x) listed).setIfInBounds (29 + k) (val6 Bo gs i (.slice (some ⟨g, o, none⟩) qn qc) g o e x k) = fillT base 29 11 (val6 Bo gs i (.slice (some ⟨g, o, none⟩) qn qc) g o e x) (listed.setIfInBounds k true) := fun k hk => fillT_put hk (by omega) (by omega)
    have hread : j ≤ 8 → (∀ A v, wr.cell? A = some v → w.cell? A = some v) ∧ (∀ v, v = val6 Bo gs i (.slice (some ⟨g, o, none⟩) qn qc) g o e x j → St6 base Bo gs i (.slice (some ⟨g, o, none⟩) qn qc) g o e wr P (listed.setIfInBounds j true) { tmps := (fillT base 29 11 (val6 Bo gs i (.slice (some ⟨g, o, none⟩) qn qc) g o e x) listed).setIfInBounds (29 + j) v, defers := [] } w) := by
      intro hj8
      have hkeep : St6 base Bo gs i (.slice (some ⟨g, o, none⟩) qn qc) g o e wr P (listed.setIfInBounds j true) { tmps := fillT base 29 11 (val6 Bo gs i (.slice (some ⟨g, o, none⟩) qn qc) g o e x) (listed.setIfInBounds j true), defers := [] } w := by
        refine ⟨x, by simpa using hsz, rfl, ?_⟩
        rw [set_other (by omega), set_other (by omega)]
        exact hph
      refine ⟨?_, fun v hv => by rw [hv, hput j hj]; exact hkeep⟩
      intro A v hA
      have hlt := World.block_lt_of_cell? wr A hA
      rcases hph with ⟨_, _, rfl⟩ | ⟨_, _, _, hbw⟩ | ⟨_, h10, _⟩
      · exact hA
      · rw [hbw.cell hlt]; exact hA
      · have h1 := closed6_10 hcl h10 j hj
        rw [getD_tf hj0] at h1
        cases h1
    match j, hj with
    | 0, _ =>
      injection hoj with hoj; subst hoj
      obtain ⟨hc, hk⟩ := hread (by omega)
      have t3 := hold 3 _ (by omega) b3
      have c := hc _ _ p0
      clear hread hput hold hnew hdep hd hb b1 b3 b5 b6
      generalize fillT base 29 11 _ listed = T at *
      try dsimp only [val6] at *
      refine wpOpIn_step (o := ops6[0]) rfl (fun K' hK' => ?_)
      have hgo := hK' _ _ (hk _ rfl)
      go_simp
      exact hgo
    | 1, _ =>
      injection hoj with hoj; subst hoj
      obtain ⟨hc, hk⟩ := hread (by omega)
      have t1 := hold 1 _ (by omega) b1
      have c := hc _ _ bg0
      clear hread hput hold hnew hdep hd hb b1 b3 b5 b6
      generalize fillT base 29 11 _ listed = T at *
      try dsimp only [val6] at *
      refine wpOpIn_step (o := ops6[1]) rfl (fun K' hK' => ?_)
      have hgo := hK' _ _ (hk _ rfl)
      go_simp
      exact hgo
    | 2, _ =>
      injection hoj with hoj; subst hoj
      obtain ⟨hc, hk⟩ := hread (by omega)
      have t5 := hold 5 _ (by omega) b5
      clear hread hput hold hnew hdep hd hb b1 b3 b5 b6
      generalize fillT base 29 11 _ listed = T at *
      try dsimp only [val6] at *
      refine wpOpIn_step (o := ops6[2]) rfl (fun K' hK' => ?_)
      have hgo := hK' _ _ (hk _ rfl)
      go_simp
      exact hgo
    | 3, _ =>
      injection hoj with hoj; subst hoj
      obtain ⟨hc, hk⟩ := hread (by omega)
      have t6 := hold 6 _ (by omega) b6
      clear hread hput hold hnew hdep hd hb b1 b3 b5 b6
      generalize fillT base 29 11 _ listed = T at *
      try dsimp only [val6] at *
      refine wpOpIn_step (o := ops6[3]) rfl (fun K' hK' => ?_)
      have hgo := hK' _ _ (hk _ rfl)
      go_simp
      exact hgo
    | 4, _ =>
      injection hoj with hoj; subst hoj
      obtain ⟨hc, hk⟩ := hread (by omega)
      have t32 := hnew 3 (by omega) (hdep 3 .data (by simp) (.inl rfl))
      clear hread hput hold hnew hdep hd hb b1 b3 b5 b6
      generalize fillT base 29 11 _ listed = T at *
      try dsimp only [val6] at *
      refine wpOpIn_step (o := ops6[4]) rfl (fun K' hK' => ?_)
      have hgo := hK' _ _ (hk _ rfl)
      go_simp
      exact hgo
    | 5, _ =>
      injection hoj with hoj; subst hoj
      obtain ⟨hc, hk⟩ := hread (by omega)
      have t33 := hnew 4 (by omega) (hdep 4 .data (by simp) (.inl rfl))
      clear hread hput hold hnew hdep hd hb b1 b3 b5 b6
      generalize fillT base 29 11 _ listed = T at *
      try dsimp only [val6] at *
      refine wpOpIn_step (o := ops6[5]) rfl (fun K' hK' => ?_)
      have hgo := hK' _ _ (hk _ rfl)
      go_simp
      exact hgo
    | 6, _ =>
      injection hoj with hoj; subst hoj
      obtain ⟨hc, hk⟩ := hread (by omega)
      have t34 := hnew 5 (by omega) (hdep 5 .data (by simp) (.inl rfl))
      have c := hc _ _ i2
      clear hread hput hold hnew hdep hd hb b1 b3 b5 b6
      generalize fillT base 29 11 _ listed = T at *
      try dsimp only [val6] at *
      refine wpOpIn_step (o := ops6[6]) rfl (fun K' hK' => ?_)
      have hgo := hK' _ _ (hk _ rfl)
      go_simp
      exact hgo
    | 7, _ =>
      injection hoj with hoj; subst hoj
      obtain ⟨hc, hk⟩ := hread (by omega)
      have t35 := hnew 6 (by omega) (hdep 6 .data (by simp) (.inl rfl))
      clear hread hput hold hnew hdep hd hb b1 b3 b5 b6
      generalize fillT base 29 11 _ listed = T at *
      try dsimp only [val6] at *
      refine wpOpIn_step (o := ops6[7]) rfl (fun K' hK' => ?_)
      have hgo := hK' _ _ (hk _ rfl)
      go_simp
      exact hgo
    | 8, _ =>
      injection hoj with hoj; subst hoj
      obtain ⟨hc, hk⟩ := hread (by omega)
      have t36 := hnew 7 (by omega) (hdep 7 .data (by simp) (.inl rfl))
      have d0 := hc _ _ c0
      have d1 := hc _ _ c1
      have d2 := hc _ _ c2
      have d3 := hc _ _ c3
      have d4 := hc _ _ c4
      clear hread hput hold hnew hdep hd hb b1 b3 b5 b6
      generalize fillT base 29 11 _ listed = T at *
      try dsimp only [val6] at *
      refine wpOpIn_step (o := ops6[8]) rfl (fun K' hK' => ?_)
      have hgo := hK' _ _ (hk _ rfl)
      go_simp
      exact hgo
    | 9, _ =>
      injection hoj with hoj; subst hoj
      have t30 := hnew 1 (by omega) (hdep 1 .data (by simp) (.inl rfl))
      have t31 := hnew 2 (by omega) (hdep 2 .data (by simp) (.inl rfl))
      have t37 := hnew 8 (by omega) (hdep 8 .data (by simp) (.inl rfl))
      have h9 := getD_tf hj0
      obtain ⟨h10, hw⟩ : listed.getD 10 false = false ∧ w = wr.drew := by
        rcases hph with ⟨_, h10, hw⟩ | ⟨h, _⟩ | ⟨h, _⟩
        · exact ⟨h10, hw⟩
        · rw [h9] at h; cases h
        · rw [h9] at h; cases h
      have hfin : ∀ v w', (∃ bx, SlOwn w' 44 6 v 1 (List.flatMap ocl [(i, e)]) bx) → Below wr.heap.size wr w' → St6 base Bo gs i (.slice (some ⟨g, o, none⟩) qn qc) g o e wr P (listed.setIfInBounds 9 true) { tmps := (fillT base 29 11 (val6 Bo gs i (.slice (some ⟨g, o, none⟩) qn qc) g o e x) listed).setIfInBounds (29 + 9) v, defers := [] } w' := by
        intro v w' hv hb'
        refine ⟨v, by simpa using hsz, ?_, .inr (.inl ⟨set_same (by omega), (set_other (by omega)).trans h10, hv, hb'⟩)⟩
        rw [fillT_congr (val' := val6 Bo gs i (.slice (some ⟨g, o, none⟩) qn qc) g o e v), ← fillT_put (i := 9) (by omega) (by omega) (by omega)]
        · rfl
        · intro k hk hl
          by_cases e9 : k = 9
          · subst e9; rw [h9] at hl; cases hl
          · unfold val6
            split <;> first | rfl | exact absurd rfl e9
      subst hw
      have hb0 : Below wr.heap.size wr wr.drew := (Below.refl _ _).drew
      have hL := hLook _ hb0
      have HB0 := Lib.hid hb0
      clear hread hput hold hnew hdep hd hb b1 b3 b5 b6 hLook hPass hQ hph hb0
      generalize fillT base 29 11 _ listed = T at *
      dsimp only [val6] at t30 t31 t37
      refine wpOpIn_step (o := ops6[9]) rfl (fun K' hK' => ?_)
      have hgo := fun v w' hv hb' => hK' _ _ (hfin v w' hv hb')
      have HG := Lib.hid hgo
      have HL := Lib.hid hL
      clear hgo hL hfin hK'
      gi_wp2_with (gi_at_call 44; refine HL.out.mono ?_; rintro e' W2 ⟨x2, bx2, rfl, hx2, hn2, hb2⟩)
      exact HG.out x2 W2 ⟨bx2, hx2⟩ (HB0.out.trans hb2)
    | 10, _ =>
      injection hoj with hoj; subst hoj
      have t29 := hnew 0 (by omega) (hdep 0 .data (by simp) (.inl rfl))
      have l9 := hdep 9 .data (by simp) (.inl rfl)
      have t38 := hnew 9 (by omega) l9
      have h10 := getD_tf hj0
      obtain ⟨bx, hx, hb2⟩ : ∃ bx, SlOwn w 44 6 x 1 (List.flatMap ocl [(i, e)]) bx ∧ Below wr.heap.size wr w := by
        rcases hph with ⟨h, _⟩ | ⟨_, _, ⟨bx, hx⟩, hw⟩ | ⟨_, h, _⟩
        · rw [l9] at h; cases h
        · exact ⟨bx, hx, hw⟩
        · rw [h10] at h; cases h
      have hfin : ∀ w', P wr w x w' → St6 base Bo gs i (.slice (some ⟨g, o, none⟩) qn qc) g o e wr P (listed.setIfInBounds 10 true) { tmps := (fillT base 29 11 (val6 Bo gs i (.slice (some ⟨g, o, none⟩) qn qc) g o e x) listed).setIfInBounds (29 + 10) (.tuple #[]), defers := [] } w' := by
        intro w' hp
        refine ⟨x, by simpa using hsz, ?_, .inr (.inr ⟨(set_other (by omega)).trans l9, set_same (by omega), w, hb2, hp⟩)⟩
        rw [← fillT_put (i := 10) (by omega) (by omega) (by omega)]
        rfl
      have hL := hPass w x bx hb2 hx
      clear hread hput hold hnew hdep hd hb b1 b3 b5 b6 hLook hPass hQ hph l9
      generalize fillT base 29 11 _ listed = T at *
      dsimp only [val6] at t29 t38
      refine wpOpIn_step (o := ops6[10]) rfl (fun K' hK' => ?_)
      have hgo := fun w' hv => hK' _ _ (hfin w' hv)
      have HG := Lib.hid hgo
      have HL := Lib.hid hL
      have HX := Lib.hid hx
      clear hgo hL hfin hK' hx
      gi_wp2_with (gi_at_call 78; refine HL.out.mono ?_; rintro e' W3 ⟨rfl, hp⟩)
      exact HG.out W3 hp
  · intro listed a w hs hr
    obtain ⟨x, hsz, rfl, hph⟩ := hs
    have hall : ∀ j, j < 11 → listed.getD j false = true := by
      intro j
      induction j using Nat.strongRecOn with
      | _ j ih =>
        intro hj
        cases hl : listed.getD j false with
        | true => rfl
        | false =>
          exfalso
          have hlt : ∀ o, ops6[j]? = some o → ∀ e ∈ o.after, e.on < j := by
            intro oj hoj
            match j, hj with
            | 0, _ | 1, _ | 2, _ | 3, _ | 4, _ | 5, _ | 6, _ | 7, _ | 8, _ | 9, _ | 10, _ => injection hoj with hoj; subst hoj; simp
          have hmem : j ∈ Region.ready .any ops6 listed := by
            refine mem_ready.2 ⟨?_, ops6[j]'hj, Array.getElem?_eq_getElem _, fun e he _ => ih _ (hlt _ (Array.getElem?_eq_getElem _) e he) (Nat.lt_trans (hlt _ (Array.getElem?_eq_getElem _) e he) hj)⟩
            unfold Array.getD at hl ⊢
            split at hl
            · rename_i hh; rw [dif_pos hh]; exact hl
            · omega
          rw [hr] at hmem
          cases hmem
    have he : listed = Array.replicate 11 true := by
      apply Array.ext
      · simpa using hsz
      · intro j h1 h2
        have := hall j (by omega)
        simp [h1] at this
        simp [this]
    subst he
    rcases hph with ⟨h, _⟩ | ⟨_, h, _⟩ | ⟨_, _, w2, hb, hp⟩
    · exact absurd (hall 9 (by omega)) (by rw [h]; decide)
    · exact absurd (hall 10 (by omega)) (by rw [h]; decide)
    · exact hQ x w2 w hb hp
  · refine ⟨undef, by simp, ?_, .inl ⟨rep_false _ _, rep_false _ _, rfl⟩⟩
    have : fillT base 29 11 (val6 Bo gs i (.slice (some ⟨g, o, none⟩) qn qc) g o e undef) (Array.replicate ops6.size false) = base := by
      apply Array.ext_getElem?
      intro s
      simp only [fillT, Array.getElem?_mapIdx]
      cases base[s]? with
      | none => rfl
      | some v => simp only [Option.map_some]; rw [if_neg]; rintro ⟨_, _, h⟩; rw [rep_false] at h; cases h
    rw [this]
  · intro j oj _ hl
    rw [rep_false] at hl
    cases hl
  · simp

end walks
end Go.Proofs.Ytdnkfgnjeibjeaa
