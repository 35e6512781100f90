import Derived.Test.YtdnkfgnjeibjeaaR3
namespace Go.Proofs.Ytdnkfgnjeibjeaa
open Go.RowKit Go.Shelf

abbrev o16 (dst : Option Nat) (op : Op) (type : TypeId) (after : Array Edge) : Oper := { dst := dst, op := op, type := type, pos := "gate.go:245", after := after, guard := none }

/-- 'in.queue = append(in.queue, own(x))' -/
abbrev ops16 : Array Oper := #[
  o16 (some 118) (.move (.tmp 8)) 90 #[],
  o16 (some 119) (.move (.tmp 8)) 90 #[],
  o16 (some 120) (.nilCheck (.tmp 119)) 0 #[{ on := 1, ground := .data }],
  o16 (some 121) (.fieldAddr 92 (.tmp 120) 2) 0 #[{ on := 2, ground := .data }],
  o16 (some 122) (.load 49 (.tmp 121)) 49 #[{ on := 3, ground := .data }],
  o16 (some 123) (.load 34 (.tmp 5)) 34 #[],
  o16 (some 124) (.call { callee := .value (.func 43), args := #[.tmp 123], argTypes := #[34] }) 34 #[{ on := 5, ground := .data }],
  o16 (some 125) (.buildSlice 49 1 #[(0, .tmp 124)]) 49 #[{ on := 6, ground := .data }],
  o16 (some 126) (.call { callee := .builtin .append, args := #[.tmp 122, .tmp 125], argTypes := #[49, 49] }) 49 #[{ on := 4, ground := .data }, { on := 7, ground := .data }, { on := 6, ground := .chain }],
  o16 (some 127) (.nilCheck (.tmp 118)) 0 #[{ on := 0, ground := .data }, { on := 0, ground := .phase }, { on := 1, ground := .phase }, { on := 2, ground := .phase }, { on := 3, ground := .phase }, { on := 4, ground := .phase }, { on := 5, ground := .phase }, { on := 6, ground := .phase }, { on := 7, ground := .phase }, { on := 8, ground := .phase }],
  o16 (some 128) (.fieldAddr 92 (.tmp 127) 2) 0 #[{ on := 9, ground := .data }, { on := 0, ground := .phase }, { on := 1, ground := .phase }, { on := 2, ground := .phase }, { on := 3, ground := .phase }, { on := 4, ground := .phase }, { on := 5, ground := .phase }, { on := 6, ground := .phase }, { on := 7, ground := .phase }, { on := 8, ground := .phase }],
  o16 none (.store 49 (.tmp 128) (.tmp 126)) 0 #[{ on := 10, ground := .data }, { on := 8, ground := .data }, { on := 8, ground := .chain }, { on := 0, ground := .phase }, { on := 1, ground := .phase }, { on := 2, ground := .phase }, { on := 3, ground := .phase }, { on := 4, ground := .phase }, { on := 5, ground := .phase }, { on := 6, ground := .phase }, { on := 7, ground := .phase }, { on := 8, ground := .phase }]]

theorem info34 : (Try.prog.info? 34).map (fun i => (i.zero, i.size, i.bytes)) = some (some (.agg #[.int .i64 0, .int .i64 0, .int .i64 0, .slice none 0 0, .int .i64 0]), 5, 56) := by kernel_rfl

section walks
set_option maxHeartbeats 1000000
set_option maxRecDepth 100000

/-- What slots 118 to 128 come to hold. -/
def val16 (b : Nat) (qv : Value) (x : Elem) (r r5 x7 x8 : Value) : Nat → Value
  | 0 => .pointer (some ⟨b, 0, none⟩)
  | 1 => .pointer (some ⟨b, 0, none⟩)
  | 2 => .pointer (some ⟨b, 0, none⟩)
  | 3 => .pointer (some ⟨b, 2, none⟩)
  | 4 => qv
  | 5 => ev x r
  | 6 => ev x r5
  | 7 => x7
  | 8 => x8
  | 9 => .pointer (some ⟨b, 0, none⟩)
  | _ => .pointer (some ⟨b, 2, none⟩)

/-- The row's copy is there. -/
def Own16 (w0 w : World) (x : Elem) (r5 : Value) : Prop := RowAt w (fun c => w0.heap.size ≤ c) r5 x.row ∧ Below w0.heap.size w0 w

/-- The queue has grown. -/
def App16 (w0 w : World) (x : Elem) (r5 x8 : Value) (n : Nat) (xs : List Value) (blk : Option Nat) : Prop :=
  ∃ w7 blk', Own16 w0 w7 x r5 ∧ w7.grownBy w blk ∧ SlOwn w 34 5 x8 (n + 1) (xs ++ ecl (x, r5)) blk' ∧ (blk' = blk ∨ blk' = some w7.heap.size)

/-- The state inside the region. -/
def St16 (base : Array Value) (b n : Nat) (qv : Value) (xs : List Value) (blk : Option Nat) (x : Elem) (r : Value) (w0 : World) (listed : Array Bool) (a : Act) (w : World) : Prop :=
  ∃ r5 x7 x8, listed.size = 12 ∧ a = { tmps := fillT base 118 11 (val16 b qv x r r5 x7 x8) listed, defers := [] } ∧
    ((listed.getD 6 false = false ∧ listed.getD 7 false = false ∧ listed.getD 8 false = false ∧ listed.getD 11 false = false ∧ w = w0.drew) ∨
     (listed.getD 6 false = true ∧ listed.getD 7 false = false ∧ listed.getD 8 false = false ∧ listed.getD 11 false = false ∧ Own16 w0 w x r5) ∨
     (listed.getD 7 false = true ∧ listed.getD 8 false = false ∧ listed.getD 11 false = false ∧ Own16 w0 w x r5 ∧ Src w 5 x7 1 (ecl (x, r5))) ∨
     (listed.getD 8 false = true ∧ listed.getD 11 false = false ∧ App16 w0 w x r5 x8 n xs blk) ∨
     (listed.getD 11 false = true ∧ ∃ w8, App16 w0 w8 x r5 x8 n xs blk ∧ w = w8.setCell ⟨b, 2, none⟩ x8))

theorem closed16_8 {listed : Array Bool} (hc : Closed .any ops16 listed) (h : listed.getD 8 false = true) : ∀ k, 1 ≤ k → k ≤ 8 → listed.getD k false = true := by
  have h4 := hc 8 _ rfl h { on := 4, ground := .data } (by simp) rfl
  have h7 := hc 8 _ rfl h { on := 7, ground := .data } (by simp) rfl
  have h6 := hc 7 _ rfl h7 { on := 6, ground := .data } (by simp) rfl
  have h5 := hc 6 _ rfl h6 { on := 5, ground := .data } (by simp) rfl
  have h3 := hc 4 _ rfl h4 { on := 3, ground := .data } (by simp) rfl
  have h2 := hc 3 _ rfl h3 { on := 2, ground := .data } (by simp) rfl
  have h1 := hc 2 _ rfl h2 { on := 1, ground := .data } (by simp) rfl
  intro k hk hk'
  match k, hk, hk' with
  | 1, _, _ => exact h1
  | 2, _, _ => exact h2
  | 3, _, _ => exact h3
  | 4, _, _ => exact h4
  | 5, _, _ => exact h5
  | 6, _, _ => exact h6
  | 7, _, _ => exact h7
  | 8, _, _ => exact h

theorem closed16_11 {listed : Array Bool} (hc : Closed .any ops16 listed) (h : listed.getD 11 false = true) : ∀ k, k < 12 → listed.getD k false = true := by
  have h10 := hc 11 _ rfl h { on := 10, ground := .data } (by simp) rfl
  have h8 := hc 11 _ rfl h { on := 8, ground := .data } (by simp) rfl
  have h9 := hc 10 _ rfl h10 { on := 9, ground := .data } (by simp) rfl
  have h0 := hc 9 _ rfl h9 { on := 0, ground := .data } (by simp) rfl
  intro k hk
  match k, hk with
  | 0, _ => exact h0
  | 9, _ => exact h9
  | 10, _ => exact h10
  | 11, _ => exact h
  | k + 1, _ =>
    by_cases e : k + 1 ≤ 8
    · exact closed16_8 hc h8 (k + 1) (by omega) e
    · have : k + 1 = 9 ∨ k + 1 = 10 ∨ k + 1 = 11 := by omega
      rcases this with e | e | e <;> rw [e] <;> assumption

theorem region16_ok (b n bx : Nat) (qv : Value) (xs : List Value) (blk : Option Nat) (x : Elem) (r : Value) (base : Array Value) (w0 : World) (Q : Exit → Act → World → Prop)
    (hb : base.size = 134) (b5 : base[5]? = some (.pointer (some ⟨bx, 0, none⟩))) (b8 : base[8]? = some (.pointer (some ⟨b, 0, none⟩)))
    (xi : Inp) (hib : w0.heap[b]? = some (.cells (icl xi qv) 92 (0, 0))) (hblk : blk ≠ some b) (c0 : w0.cell? ⟨bx, 0, none⟩ = some (.int .i64 x.k)) (c1 : w0.cell? ⟨bx, 1, none⟩ = some (.int .i64 x.n)) (c2 : w0.cell? ⟨bx, 2, none⟩ = some (.int .i64 x.t)) (c3 : w0.cell? ⟨bx, 3, none⟩ = some r) (c4 : w0.cell? ⟨bx, 4, none⟩ = some (.int .i64 x.c))
    (hq : SlOwn w0 34 5 qv n xs blk) (hn : n ≤ 1000000)
    (hOwn : Calls Try.prog 43 #[ev x r] w0.drew (GivesElem w0.drew x))
    (hQ : ∀ r5 x7 x8 w8, App16 w0 w8 x r5 x8 n xs blk → Q .normal { tmps := fillT base 118 11 (val16 b qv x r r5 x7 x8) (Array.replicate 11 true), defers := [] } (w8.setCell ⟨b, 2, none⟩ x8)) :
    (Code.region 16 ops16 true).wp Try.prog Q { tmps := base, defers := [] } w0 := by
  obtain ⟨i0, hi0, hz0, hz1, hz2⟩ := info_parts info34
  have i2 := (blk5 hib).2.2.1
  refine wp_region_any (by kernel_rfl) (wpAny_inv (St16 base b n qv xs blk x r w0) ?_ ?_ _ _ _ _ ?_ ?_ ?_)
  · intro listed a w j oj hs hcl hoj hj0 hd
    obtain ⟨r5, x7, x8, hsz, rfl, hph⟩ := hs
    have hj : j < 12 := (Array.getElem?_eq_some_iff.1 hoj).1
    have hj1 := getD_tf hj0
    have hdep : ∀ k gr, { on := k, ground := gr } ∈ oj.after → gr = .data ∨ gr = .chain → listed.getD k false = true := fun k gr he hg => hd _ he (by rcases hg with rfl | rfl <;> rfl)
    have hnew : ∀ k, k < 11 → listed.getD k false = true → (fillT base 118 11 (val16 b qv x r r5 x7 x8) listed)[118 + k]?.getD undef = val16 b qv x r r5 x7 x8 k := fun k hk hl => by rw [fillT_new hk (by omega) hl]; rfl
    have hold : ∀ s v, s < 118 → base[s]? = some v → (fillT base 118 11 (val16 b qv x r r5 x7 x8) listed)[s]?.getD undef = v := fun s v hs hv => by rw [fillT_old (.inl hs), hv]; rfl
    have hput : ∀ k, k < 11 → (fillT base 118 11 (val16 b qv x r r5 x7 x8) listed).setIfInBounds (118 + k) (val16 b qv x r r5 x7 x8 k) = fillT base 118 11 (val16 b qv x r r5 x7 x8) (listed.setIfInBounds k true) := fun k hk => fillT_put hk (by omega) (by omega)
    -- a step that only reads
    have hread : j ≠ 6 → j ≠ 7 → j ≠ 8 → j ≠ 11 → (1 ≤ j → j ≤ 5 → ∀ A v, w0.cell? A = some v → w.cell? A = some v) ∧ (∀ v, v = val16 b qv x r r5 x7 x8 j → St16 base b n qv xs blk x r w0 (listed.setIfInBounds j true) { tmps := (fillT base 118 11 (val16 b qv x r r5 x7 x8) listed).setIfInBounds (118 + j) v, defers := [] } w) := by
      intro n6 n7 n8 n11
      refine ⟨?_, fun v hv => ?_⟩
      · intro h1 h5 A v hA
        have hlt := World.block_lt_of_cell? w0 A hA
        rcases hph with ⟨_, _, _, _, rfl⟩ | ⟨_, _, _, _, _, hbw⟩ | ⟨_, _, _, ⟨_, hbw⟩, _⟩ | ⟨h8, _⟩ | ⟨h11, _⟩
        · exact hA
        · rw [hbw.cell hlt]; exact hA
        · rw [hbw.cell hlt]; exact hA
        · rw [closed16_8 hcl h8 j h1 (by omega)] at hj1; cases hj1
        · rw [closed16_11 hcl h11 j hj] at hj1; cases hj1
      · rw [hv, hput j (by omega)]
        refine ⟨r5, x7, x8, by simpa using hsz, rfl, ?_⟩
        rw [set_other n6, set_other n7, set_other n8, set_other n11]
        exact hph
    match j, hj with
    | 0, _ =>
      injection hoj with hoj; subst hoj
      obtain ⟨hc, hk⟩ := hread (by omega) (by omega) (by omega) (by omega)
      have t8 := hold 8 _ (by omega) b8
      clear hread hput hold hnew hdep hd hb b5 b8 hOwn hQ
      generalize fillT base 118 11 _ listed = T at *
      try dsimp only [val16] at *
      refine wpOp_step (o := ops16[0]) rfl (fun K' hK' => ?_)
      have hgo := hK' _ _ (hk _ rfl)
      go_simp
      exact hgo
    | 1, _ =>
      injection hoj with hoj; subst hoj
      obtain ⟨hc, hk⟩ := hread (by omega) (by omega) (by omega) (by omega)
      have t8 := hold 8 _ (by omega) b8
      clear hread hput hold hnew hdep hd hb b5 b8 hOwn hQ
      generalize fillT base 118 11 _ listed = T at *
      try dsimp only [val16] at *
      refine wpOp_step (o := ops16[1]) rfl (fun K' hK' => ?_)
      have hgo := hK' _ _ (hk _ rfl)
      go_simp
      exact hgo
    | 2, _ =>
      injection hoj with hoj; subst hoj
      obtain ⟨hc, hk⟩ := hread (by omega) (by omega) (by omega) (by omega)
      have t119 := hnew 1 (by omega) (hdep 1 .data (by simp) (.inl rfl))
      clear hread hput hold hnew hdep hd hb b5 b8 hOwn hQ
      generalize fillT base 118 11 _ listed = T at *
      try dsimp only [val16] at *
      refine wpOp_step (o := ops16[2]) rfl (fun K' hK' => ?_)
      have hgo := hK' _ _ (hk _ rfl)
      go_simp
      exact hgo
    | 3, _ =>
      injection hoj with hoj; subst hoj
      obtain ⟨hc, hk⟩ := hread (by omega) (by omega) (by omega) (by omega)
      have t120 := hnew 2 (by omega) (hdep 2 .data (by simp) (.inl rfl))
      clear hread hput hold hnew hdep hd hb b5 b8 hOwn hQ
      generalize fillT base 118 11 _ listed = T at *
      try dsimp only [val16] at *
      refine wpOp_step (o := ops16[3]) rfl (fun K' hK' => ?_)
      have hgo := hK' _ _ (hk _ rfl)
      go_simp
      exact hgo
    | 4, _ =>
      injection hoj with hoj; subst hoj
      obtain ⟨hc, hk⟩ := hread (by omega) (by omega) (by omega) (by omega)
      have t121 := hnew 3 (by omega) (hdep 3 .data (by simp) (.inl rfl))
      have c := hc (by omega) (by omega) _ _ i2
      clear hread hput hold hnew hdep hd hb b5 b8 hOwn hQ
      generalize fillT base 118 11 _ listed = T at *
      try dsimp only [val16] at *
      refine wpOp_step (o := ops16[4]) rfl (fun K' hK' => ?_)
      have hgo := hK' _ _ (hk _ rfl)
      go_simp
      exact hgo
    | 5, _ =>
      injection hoj with hoj; subst hoj
      obtain ⟨hc, hk⟩ := hread (by omega) (by omega) (by omega) (by omega)
      have t5 := hold 5 _ (by omega) b5
      have d0 := hc (by omega) (by omega) _ _ c0
      have d1 := hc (by omega) (by omega) _ _ c1
      have d2 := hc (by omega) (by omega) _ _ c2
      have d3 := hc (by omega) (by omega) _ _ c3
      have d4 := hc (by omega) (by omega) _ _ c4
      clear hread hput hold hnew hdep hd hb b5 b8 hOwn hQ
      generalize fillT base 118 11 _ listed = T at *
      try dsimp only [val16] at *
      refine wpOp_step (o := ops16[5]) rfl (fun K' hK' => ?_)
      have hgo := hK' _ _ (hk _ rfl)
      go_simp
      exact hgo
    | 6, _ =>
      injection hoj with hoj; subst hoj
      have t123 := hnew 5 (by omega) (hdep 5 .data (by simp) (.inl rfl))
      obtain ⟨h7, h8, h11, hw⟩ : listed.getD 7 false = false ∧ listed.getD 8 false = false ∧ listed.getD 11 false = false ∧ w = w0.drew := by
        rcases hph with ⟨_, h7, h8, h11, hw⟩ | ⟨h, _⟩ | ⟨h, _⟩ | ⟨h, _⟩ | ⟨h, _⟩
        · exact ⟨h7, h8, h11, hw⟩
        · rw [hj1] at h; cases h
        · rw [hcl 7 _ rfl h { on := 6, ground := .data } (by simp) rfl] at hj1; cases hj1
        · rw [closed16_8 hcl h 6 (by omega) (by omega)] at hj1; cases hj1
        · rw [closed16_11 hcl h 6 (by omega)] at hj1; cases hj1
      have hfin : ∀ v w', Own16 w0 w' x v → St16 base b n qv xs blk x r w0 (listed.setIfInBounds 6 true) { tmps := (fillT base 118 11 (val16 b qv x r r5 x7 x8) listed).setIfInBounds (118 + 6) (ev x v), defers := [] } w' := by
        intro v w' hv
        refine ⟨v, x7, x8, by simpa using hsz, ?_, .inr (.inl ⟨set_same (by omega), (set_other (by omega)).trans h7, (set_other (by omega)).trans h8, (set_other (by omega)).trans h11, hv⟩)⟩
        rw [fillT_congr (val' := val16 b qv x r v x7 x8), ← fillT_put (i := 6) (by omega) (by omega) (by omega)]
        · rfl
        · intro k hk hl
          by_cases e9 : k = 6
          · subst e9; rw [hj1] at hl; cases hl
          · unfold val16
            split <;> first | rfl | exact absurd rfl e9
      subst hw
      have HL := Lib.hid hOwn
      clear hread hput hold hnew hdep hd hb b5 b8 hOwn hQ
      clear hph
      generalize fillT base 118 11 _ listed = T at *
      dsimp only [val16] at t123
      refine wpOp_step (o := ops16[6]) rfl (fun K' hK' => ?_)
      have hgo := fun v w' hv => hK' _ _ (hfin v w' hv)
      have HG := Lib.hid hgo
      clear hgo hfin hK'
      go_wp2_with (go_at_call 43; refine HL.out.mono ?_; rintro e' W2 ⟨x2, rfl, hx2, hb2⟩)
      exact HG.out x2 W2 ⟨hx2, ((Below.refl w0.heap.size w0).drew).trans hb2⟩
    | 7, _ =>
      injection hoj with hoj; subst hoj
      have l6 := hdep 6 .data (by simp) (.inl rfl)
      have t124 := hnew 6 (by omega) l6
      obtain ⟨h8, h11, hw⟩ : listed.getD 8 false = false ∧ listed.getD 11 false = false ∧ Own16 w0 w x r5 := by
        rcases hph with ⟨h, _⟩ | ⟨_, _, h8, h11, hw⟩ | ⟨h, _⟩ | ⟨h, _⟩ | ⟨h, _⟩
        · rw [l6] at h; cases h
        · exact ⟨h8, h11, hw⟩
        · rw [hj1] at h; cases h
        · rw [closed16_8 hcl h 7 (by omega) (by omega)] at hj1; cases hj1
        · rw [closed16_11 hcl h 7 (by omega)] at hj1; cases hj1
      obtain ⟨r5a, r5c, hr5, hr5r⟩ := hw.1
      have hw' := hw
      have hfin : ∀ v w', Own16 w0 w' x r5 → Src w' 5 v 1 (ecl (x, r5)) → St16 base b n qv xs blk x r w0 (listed.setIfInBounds 7 true) { tmps := (fillT base 118 11 (val16 b qv x r r5 x7 x8) listed).setIfInBounds (118 + 7) v, defers := [] } w' := by
        intro v w' hv hs
        refine ⟨r5, v, x8, by simpa using hsz, ?_, .inr (.inr (.inl ⟨set_same (by omega), (set_other (by omega)).trans h8, (set_other (by omega)).trans h11, hv, hs⟩))⟩
        rw [fillT_congr (val' := val16 b qv x r r5 v x8), ← fillT_put (i := 7) (by omega) (by omega) (by omega)]
        · rfl
        · intro k hk hl
          by_cases e9 : k = 7
          · subst e9; rw [hj1] at hl; cases hl
          · unfold val16
            split <;> first | rfl | exact absurd rfl e9
      clear hread hput hold hnew hdep hd hb b5 b8 hOwn hQ
      clear hph
      generalize fillT base 118 11 _ listed = T at *
      dsimp only [val16] at t124
      subst hr5
      refine wpOp_step (o := ops16[7]) rfl (fun K' hK' => ?_)
      have hgo := fun v w' hv hs => hK' _ _ (hfin v w' hv hs)
      have HG := Lib.hid hgo
      have HW := Lib.hid hw'
      clear hgo hfin hK' hw hw' hr5r
      go_simp
      refine HG.out _ _ ⟨HW.out.1.below ((Below.refl _ _).alloc (Nat.le_refl _) _), HW.out.2.alloc HW.out.2.size _⟩ ?_
      exact SlOwn.src (e := 34) (blk := some w.heap.size) ⟨rfl, .inr ⟨_, 0, 1, _, rfl, rfl, World.alloc_heap_new _ _, Nat.le_refl _, by simp [maxLen], by simp, rfl⟩⟩
    | 8, _ =>
      injection hoj with hoj; subst hoj
      have l4 := hdep 4 .data (by simp) (.inl rfl)
      have l7 := hdep 7 .data (by simp) (.inl rfl)
      have t122 : (fillT base 118 11 (val16 b qv x r r5 x7 x8) listed)[122]?.getD undef = qv := hnew 4 (by omega) l4
      have t125 : (fillT base 118 11 (val16 b qv x r r5 x7 x8) listed)[125]?.getD undef = x7 := hnew 7 (by omega) l7
      obtain ⟨h11, hw, hs⟩ : listed.getD 11 false = false ∧ Own16 w0 w x r5 ∧ Src w 5 x7 1 (ecl (x, r5)) := by
        rcases hph with ⟨_, h, _⟩ | ⟨_, h, _⟩ | ⟨_, _, h11, hw, hs⟩ | ⟨h, _⟩ | ⟨h, _⟩
        · rw [l7] at h; cases h
        · rw [l7] at h; cases h
        · exact ⟨h11, hw, hs⟩
        · rw [hj1] at h; cases h
        · rw [closed16_11 hcl h 8 (by omega)] at hj1; cases hj1
      obtain ⟨r5a, r5c, hr5, hr5r⟩ := hw.1
      have hfin : ∀ v w', App16 w0 w' x r5 v n xs blk → St16 base b n qv xs blk x r w0 (listed.setIfInBounds 8 true) { tmps := (fillT base 118 11 (val16 b qv x r r5 x7 x8) listed).setIfInBounds (118 + 8) v, defers := [] } w' := by
        intro v w' hv
        refine ⟨r5, x7, v, by simpa using hsz, ?_, .inr (.inr (.inr (.inl ⟨set_same (by omega), (set_other (by omega)).trans h11, hv⟩)))⟩
        rw [fillT_congr (val' := val16 b qv x r r5 x7 v), ← fillT_put (i := 8) (by omega) (by omega) (by omega)]
        · rfl
        · intro k hk hl
          by_cases e9 : k = 8
          · subst e9; rw [hj1] at hl; cases hl
          · unfold val16
            split <;> first | rfl | exact absurd rfl e9
      have hq' := hq.keep fun g hg => hw.2.block g (hq.lt_of hg)
      generalize fillT base 118 11 _ listed = T at *
      refine wpOp_step (o := ops16[8]) rfl (fun K' hK' => ?_)
      refine wp_append_S (.tmp 122) (.tmp 125) 49 rfl 34 i0 _ 5 56 Try.underlying49 hi0 hz0 hz1 hz2 rfl (by omega) qv n xs blk (by simpa [go_sem] using t122) hq' x7 1 (ecl (x, r5)) (by simpa [go_sem] using t125) hs ?_ (by simp only [maxLen]; omega) (by omega) ?_
      · intro u hu
        simp only [ecl, List.mem_cons, List.not_mem_nil, or_false] at hu
        rw [hr5] at hu
        rcases hu with rfl | rfl | rfl | rfl | rfl <;> rfl
      · intro v' w' blk' h1 h2 h3
        exact hK' _ _ (hfin v' w' ⟨w, blk', hw, h2, h1, h3⟩)
    | 9, _ =>
      injection hoj with hoj; subst hoj
      obtain ⟨hc, hk⟩ := hread (by omega) (by omega) (by omega) (by omega)
      have t118 := hnew 0 (by omega) (hdep 0 .data (by simp) (.inl rfl))
      clear hread hput hold hnew hdep hd hb b5 b8 hOwn hQ
      generalize fillT base 118 11 _ listed = T at *
      try dsimp only [val16] at *
      refine wpOp_step (o := ops16[9]) rfl (fun K' hK' => ?_)
      have hgo := hK' _ _ (hk _ rfl)
      go_simp
      exact hgo
    | 10, _ =>
      injection hoj with hoj; subst hoj
      obtain ⟨hc, hk⟩ := hread (by omega) (by omega) (by omega) (by omega)
      have t127 := hnew 9 (by omega) (hdep 9 .data (by simp) (.inl rfl))
      clear hread hput hold hnew hdep hd hb b5 b8 hOwn hQ
      generalize fillT base 118 11 _ listed = T at *
      try dsimp only [val16] at *
      refine wpOp_step (o := ops16[10]) rfl (fun K' hK' => ?_)
      have hgo := hK' _ _ (hk _ rfl)
      go_simp
      exact hgo
    | 11, _ =>
      injection hoj with hoj; subst hoj
      have l8 := hdep 8 .data (by simp) (.inl rfl)
      have t126 := hnew 8 (by omega) l8
      have t128 := hnew 10 (by omega) (hdep 10 .data (by simp) (.inl rfl))
      have hw : App16 w0 w x r5 x8 n xs blk := by
        rcases hph with ⟨_, _, h, _⟩ | ⟨_, _, h, _⟩ | ⟨_, h, _⟩ | ⟨_, _, hw⟩ | ⟨h, _⟩
        · rw [l8] at h; cases h
        · rw [l8] at h; cases h
        · rw [l8] at h; cases h
        · exact hw
        · rw [hj1] at h; cases h
      have hfin : St16 base b n qv xs blk x r w0 (listed.setIfInBounds 11 true) { tmps := fillT base 118 11 (val16 b qv x r r5 x7 x8) listed, defers := [] } (w.setCell ⟨b, 2, none⟩ x8) := by
        refine ⟨r5, x7, x8, by simpa using hsz, ?_, .inr (.inr (.inr (.inr ⟨set_same (by omega), w, hw, rfl⟩)))⟩
        rw [fillT_listed (l' := listed.setIfInBounds 11 true)]
        intro k hk
        exact (set_other (by omega)).symm
      obtain ⟨w7, blk', ⟨_, hbw⟩, hgr, hs8, _⟩ := hw
      obtain ⟨a8, c8, rfl⟩ := hs8.form
      have hib' : w.heap[b]? = some (.cells (icl xi qv) 92 (0, 0)) := (hgr.block b (Nat.lt_of_lt_of_le (heap_lt hib) hbw.size) (fun e => hblk e.symm)).trans ((hbw.block b (heap_lt hib)).trans hib)
      obtain ⟨_, _, k2, _, _, kf⟩ := blk5 hib'
      clear hread hput hold hnew hdep hd hb b5 b8 hOwn hQ hph hgr hbw hib hib' hs8
      generalize fillT base 118 11 _ listed = T at *
      dsimp only [val16] at t126 t128
      refine wpOp_step (o := ops16[11]) rfl (fun K' hK' => ?_)
      have hgo := hK' _ _ hfin
      clear hfin hK'
      go_simp
      exact hgo
  · intro listed a w hs hr
    obtain ⟨r5, x7, x8, hsz, rfl, hph⟩ := hs
    have hall : ∀ j, j < 12 → listed.getD j false = true := by
      intro j
      induction j using Nat.strongRecOn with
      | _ j ih =>
        intro hj
        cases hl : listed.getD j false with
        | true => rfl
        | false =>
          exfalso
          have hlt : ∀ o, ops16[j]? = some o → ∀ e ∈ o.after, e.on < j := by
            intro oj hoj
            match j, hj with
            | 0, _ | 1, _ | 2, _ | 3, _ | 4, _ | 5, _ | 6, _ | 7, _ | 8, _ | 9, _ | 10, _ | 11, _ => injection hoj with hoj; subst hoj; simp
          have hmem : j ∈ Region.ready .any ops16 listed := by
            refine mem_ready.2 ⟨?_, ops16[j]'hj, Array.getElem?_eq_getElem _, fun e he _ => ih _ (hlt _ (Array.getElem?_eq_getElem _) e he) (Nat.lt_trans (hlt _ (Array.getElem?_eq_getElem _) e he) hj)⟩
            unfold Array.getD at hl ⊢
            split at hl
            · rename_i hh; rw [dif_pos hh]; exact hl
            · omega
          rw [hr] at hmem
          cases hmem
    rcases hph with ⟨h, _⟩ | ⟨_, h, _⟩ | ⟨_, h, _⟩ | ⟨_, h, _⟩ | ⟨_, w8, hw, rfl⟩
    · rw [hall 6 (by omega)] at h; cases h
    · rw [hall 7 (by omega)] at h; cases h
    · rw [hall 8 (by omega)] at h; cases h
    · rw [hall 11 (by omega)] at h; cases h
    · rw [fillT_listed (l' := Array.replicate 11 true)]
      · exact hQ r5 x7 x8 w8 hw
      · intro k hk
        rw [hall k (by omega)]
        simp [hk]
  · refine ⟨undef, undef, undef, by simp, ?_, .inl ⟨rep_false _ _, rep_false _ _, rep_false _ _, rep_false _ _, rfl⟩⟩
    rw [fillT_listed (l' := Array.replicate 11 false), rep_put]
    intro k _
    rw [rep_false, rep_false]
  · intro j oj _ hl
    rw [rep_false] at hl
    cases hl
  · simp

end walks
end Go.Proofs.Ytdnkfgnjeibjeaa
