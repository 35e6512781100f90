/-
  The reference's ordered: part 13. Conditions: the events lie in the world as the words say.
-/
import Derived.Test.YtimahogkcmmcnaaGreatDoorMC
import Derived.Test.YtimahogkcmmcnaaGreatDoorR2
set_option linter.unusedSimpArgs false
set_option linter.unusedVariables false
namespace Go.Proofs.YtimahogkcmmcnaaGreatDoor
open Go.RowKit Go.Proofs.YtimahogkcmmcnaaGreatDoor.Cmps

/-- Events compared by their numbers. -/
def cN (l : List Evt) (i j : Nat) : Int := cmpEvt (l.getD i ⟨0, []⟩) (l.getD j ⟨0, []⟩)

theorem cN_3 (l : List Evt) : Cmp3 (cN l) := cmpEvt_3.comap (fun i => l.getD i ⟨0, []⟩)

theorem cN_at {l : List Evt} {i j : Nat} (hi : i < l.length) (hj : j < l.length) : cN l i j = cmpEvt l[i] l[j] := by
  simp [cN, List.getD_eq_getElem?_getD, List.getElem?_eq_getElem hi, List.getElem?_eq_getElem hj]

abbrev iv (xs : List Nat) : List Value := xs.map fun (i : Nat) => Value.int .i64 (i : Int)

/-- What is put ahead of the new number stands still. -/
theorem src_take {w : World} {g o n cap at_ : Nat} {xs : List Nat} {blk : Option Nat} (h : SlOwn w 3 1 (.slice (some ⟨g, o, none⟩) n cap) n (iv xs) blk) (ha : at_ ≤ xs.length) (c : Nat) :
    Src w 1 (.slice (some ⟨g, o, none⟩) at_ c) at_ (iv (xs.take at_)) := by
  refine ⟨by simp; omega, _, _, rfl, .inr ⟨_, rfl, fun j u hu => ?_⟩⟩
  rw [add_at]
  refine h.cell j u ?_
  simp only [iv, List.map_take, List.getElem?_take] at hu
  split at hu
  · exact hu
  · cases hu

theorem src_drop {w : World} {g o n cap at_ : Nat} {xs : List Nat} {blk : Option Nat} (h : SlOwn w 3 1 (.slice (some ⟨g, o, none⟩) n cap) n (iv xs) blk) (ha : at_ ≤ xs.length) (hn : xs.length = n) (c : Nat) :
    Src w 1 (.slice (some ⟨g, o + at_, none⟩) (n - at_) c) (n - at_) (iv (xs.drop at_)) := by
  refine ⟨by simp; omega, _, _, rfl, .inr ⟨_, rfl, fun j u hu => ?_⟩⟩
  rw [add_at, Nat.add_assoc]
  refine h.cell (at_ + j) u ?_
  simp only [iv, List.map_drop, List.getElem?_drop] at hu
  exact hu

theorem iv_one (xs : List Nat) : ∀ u ∈ iv xs, u.oneCell' = true := by
  intro u hu
  rw [List.mem_map] at hu
  obtain ⟨i, _, rfl⟩ := hu
  rfl

/-- The list under way. -/
structure Ord (w wr : World) (l : List Evt) (v : Value) (k : Nat) (xs : List Nat) (blk : Option Nat) : Prop where
  own : SlOwn wr 3 1 v k (iv xs) blk
  new : ∀ g, blk = some g → w.heap.size ≤ g
  below : Below w.heap.size w wr
  ord : Ordered (cN l) k xs

theorem Ord.len {w wr : World} {l : List Evt} {v : Value} {k : Nat} {xs : List Nat} {blk : Option Nat} (h : Ord w wr l v k xs blk) : xs.length = k := by
  have := h.ord.1.length_eq
  simpa using this

theorem Ord.next {w wr w2 : World} {l : List Evt} {v : Value} {k : Nat} {xs : List Nat} {blk : Option Nat} (h : Ord w wr l v k xs blk) (hb : Below wr.heap.size wr w2) : Ord w w2 l v k xs blk :=
  ⟨h.own.keep fun g hg => hb.block g (h.own.lt_of hg), h.new, h.below.trans (hb.mono h.below.size), h.ord⟩

/-- A slice built up anew behind a world. -/
structure App (wq w1 : World) (v : Value) (n : Nat) (xs : List Value) (blk : Option Nat) : Prop where
  own : SlOwn w1 3 1 v n xs blk
  new : ∀ g, blk = some g → wq.heap.size ≤ g
  below : Below wq.heap.size wq w1

theorem app_start (wq : World) : SlOwn (wq.alloc (.cells #[] 3)) 3 1 (.slice (some ⟨wq.heap.size, 0, none⟩) 0 0) 0 [] (some wq.heap.size) :=
  ⟨by simp, .inr ⟨wq.heap.size, 0, 0, #[], rfl, rfl, heap_alloc_new wq _, by omega, by simp [maxLen], by simp, by simp⟩⟩

theorem app1 {wq w1 : World} {o : Obj} {v : Value} {n : Nat} {xs : List Value} {blk : Option Nat} (h : SlOwn w1 3 1 v n xs blk) (hg : (wq.alloc o).grownBy w1 (some wq.heap.size)) (hat : blk = some wq.heap.size ∨ blk = some (wq.alloc o).heap.size) : App wq w1 v n xs blk := by
  refine ⟨h, fun g e => ?_, ((Below.refl _ wq).alloc (Nat.le_refl _) o).grown hg (by simp) (fun k hk => by cases hk; exact Nat.le_refl _)⟩
  rcases hat with e' | e' <;> rw [e'] at e <;> cases e <;> simp

theorem app2 {wq w1 w2 : World} {o : Obj} {v v' : Value} {n n' : Nat} {xs xs' : List Value} {blk blk' : Option Nat} (H : App wq w1 v n xs blk) (h : SlOwn w2 3 1 v' n' xs' blk') (hg : (w1.alloc o).grownBy w2 blk) (hat : blk' = blk ∨ blk' = some (w1.alloc o).heap.size) : App wq w2 v' n' xs' blk' := by
  have hs := H.below.size
  refine ⟨h, fun g e => ?_, (H.below.alloc hs o).grown hg (by simp; omega) (fun k hk => H.new k hk)⟩
  rcases hat with e' | e'
  · exact H.new g (e' ▸ e)
  · rw [e'] at e; cases e; simp; omega

theorem app3 {wq w1 w2 : World} {v v' : Value} {n n' : Nat} {xs xs' : List Value} {blk blk' : Option Nat} (H : App wq w1 v n xs blk) (h : SlOwn w2 3 1 v' n' xs' blk') (hg : w1.grownBy w2 blk) (hat : blk' = blk ∨ blk' = some w1.heap.size) : App wq w2 v' n' xs' blk' := by
  have hs := H.below.size
  refine ⟨h, fun g e => ?_, H.below.grown hg hs (fun k hk => H.new k hk)⟩
  rcases hat with e' | e'
  · exact H.new g (e' ▸ e)
  · rw [e'] at e; cases e; exact hs

theorem App.alloc {wq w1 : World} {v : Value} {n : Nat} {xs : List Value} {blk : Option Nat} (h : App wq w1 v n xs blk) (o : Obj) : SlOwn (w1.alloc o) 3 1 v n xs blk :=
  h.own.keep fun g hg => Below.heap_alloc _ _ _ (h.own.lt_of hg)

theorem Ord.ins {w wq w3 : World} {l : List Evt} {v v3 : Value} {k at_ : Nat} {xs : List Nat} {blk blk3 : Option Nat} {z : Int} (HQ : Ord w wq l v k xs blk) (hat : at_ ≤ k) (hz : z = (k : Int)) {n3 : Nat} (hn3 : n3 = k + 1)
    (H : App wq w3 v3 n3 ([] ++ iv (xs.take at_) ++ [.int .i64 z] ++ iv (xs.drop at_)) blk3)
    (hhi : ∀ j (hj : j < xs.length), at_ ≤ j → cN l k xs[j] < 0) (hlo : at_ = 0 ∨ ∃ (hk : at_ - 1 < xs.length), 0 ≤ cN l k xs[at_ - 1]) : Ord w w3 l v3 (k + 1) (xs.take at_ ++ k :: xs.drop at_) blk3 := by
  subst hz
  have hlen := HQ.len
  have hs := HQ.below.size
  have e2 : [] ++ iv (xs.take at_) ++ [.int .i64 (k : Int)] ++ iv (xs.drop at_) = iv (xs.take at_ ++ k :: xs.drop at_) := by simp [iv]
  refine ⟨by rw [← hn3, ← e2]; exact H.own, fun g hg => Nat.le_trans hs (H.new g hg), HQ.below.trans (H.below.mono hs), HQ.ord.ins (cN_3 l) at_ (by omega) hhi hlo⟩

theorem EvtsAt.dummy : True := trivial

section leaves
set_option maxHeartbeats 1000000
set_option maxRecDepth 10000

theorem f41_any (hm : Tryz.prog.follows .mixedOrders = true) (w : World) (D : Nat → Prop) (v : Value) (l : List Evt) (h : EvtsAt w D v l) (h40 : l.length ≤ 40) :
    Calls Tryz.prog 41 #[v] w fun e w' => ∃ r xs blk, e = .returned r ∧ Ord w w' l r l.length xs blk := by
  have mixed := hm
  obtain ⟨i0, hi0, hz0, hz1, hz2⟩ := info_parts info3
  obtain ⟨a, cap, rfl, hl, hx⟩ := h
  go_enter Tryz.func41, Tryz.ntmps41
  go_wp2
  go_loopw [3, 4] (fun s i wr => ∃ (k : Nat) (xs : List Nat) (blk : Option Nat), k ≤ l.length ∧ i = .int .i64 k ∧ Hid (Ord w wr l s k xs blk)) (fun _ i _ => l.length - (intOf i).toNat)
  case atStart => exact ⟨0, [], none, by omega, rfl, Lib.hid ⟨SlOwn.nil _ _ _, fun g hg => (by cases hg), Below.refl _ _, Ordered.nil _⟩⟩
  case round =>
    obtain ⟨k, xs, blk, hk, rfl, HO⟩ := hrel
    obtain ⟨wl, rfl⟩ : ∃ wl : World, wl = wr := ⟨_, rfl⟩
    obtain ⟨sa, sc, rfl⟩ := HO.out.own.form
    by_cases hlt : k < l.length
    · rcases hx with rfl | ⟨b, off, rfl, hbD, hc⟩
      · simp at hlt
      have HC := Lib.hid hc
      clear hc
      go_wp2_with fail
      go_loopw [5] (fun i wr' => ∃ (at_ : Nat), at_ ≤ k ∧ i = .int .i64 at_ ∧ Hid (∀ j (hj : j < xs.length), at_ ≤ j → cN l k xs[j] < 0) ∧ Hid (Below wl.heap.size wl wr')) (fun i _ => (intOf i).toNat)
      case atStart => exact ⟨k, Nat.le_refl _, rfl, Lib.hid (fun j hj h => by have := HO.out.len; omega), Lib.hid (Below.refl _ _)⟩
      case round =>
        obtain ⟨at_, hat, rfl, HA, HB⟩ := hrel
        by_cases h0 : 0 < at_
        · obtain ⟨m, rfl⟩ : ∃ m, at_ = m + 1 := ⟨at_ - 1, by omega⟩
          have HN := Lib.hid (HO.out.next HB.out)
          have hxl := HO.out.len
          have hml : m < xs.length := by omega
          have hxm := HO.out.ord.lt (List.getElem_mem hml)
          obtain ⟨xm, hxe⟩ : ∃ x, x = xs[m] := ⟨_, rfl⟩
          rw [← hxe] at hxm
          rcases HO.out.own.2 with ⟨hv, hk0, hblk⟩ | ⟨g, o, cap', cur, hblk, hv, hg, hnc, hcm, hcs, htk⟩
          · omega
          cases hv
          have cm := HN.out.own.cell m (.int .i64 xm) (by simp only [iv, List.getElem?_map, List.getElem?_eq_getElem hml, ← hxe]; rfl)
          have hxl' : xm < l.length := by omega
          obtain ⟨x0, r1, x1, xr⟩ := HC.out k hlt
          obtain ⟨y0, r2, y1, yr⟩ := HC.out xm hxl'
          have hbb := cell_lt x0
          have xr' := xr.below HN.out.below
          have yr' := yr.below HN.out.below
          rw [← HN.out.below.cell (p := ⟨b, _, none⟩) hbb] at x0 x1 y0 y1
          have hb1 := cell_lt x0
          have hg1 := cell_lt cm
          have HK : Hid (∀ n os, Calls Tryz.prog 118 #[.agg #[.int .i64 l[k].t, r1], .agg #[.int .i64 l[xm].t, r2]] (Sort.grow (wr.drewN n) os) fun e w'' => e = .returned (.bool (beforeB l[k] l[xm])) ∧ ∃ p : GrownBy, w'' = Sort.grow (wr.drewN p.n) p.os) :=
            fun n os => Calls.grown_of (f118_any hm _ r1 r2 _ _ D D (xr'.below (below_regrown wr (wr.drawn + n) os)) (yr'.below (below_regrown wr (wr.drawn + n) os)))
          have g1 : (0 : Int) ≤ (k : Int) := by omega
          have g2 : (k : Int) < (l.length : Int) := by omega
          have g3 : (0 : Int) ≤ (m : Int) := by omega
          have g4 : (m : Int) < (k : Int) := by omega
          have hwm : IntKind.i64.wrap (m : Int) = (m : Int) := by rw [IntKind.wrap_i64]; omega
          have g5 : (0 : Int) ≤ (xm : Int) := by omega
          have g6 : (xm : Int) < (l.length : Int) := by omega
          have hcN : Hid (cN l k xs[m] = cmpEvt l[k] l[xm]) := by rw [← hxe]; exact cN_at hlt hxl'
          have HH := Lib.hid (And.intro hg htk)
          clear xr yr xr' yr' hbb hxe hg htk hcs hcm hblk
          have g7 : (m : Int) + 1 ≤ (sc : Int) := by omega
          have g8 : (m : Int) + 1 ≤ (k : Int) := by omega
          cases hbf : beforeB l[k] l[xm]
          · by_cases hsc : sc = m + 1
            · have hkm : Hid (k = m + 1) := by show k = m + 1; omega
              subst hsc
              go_wp2_with fail
              have hcl := fun n os b' o' h => grown_cl wr n os b' o' h
              refine wp_region_quiet_grown mixed (by kernel_rfl) ?_
              repeat (quiet_step (with_reducible exact HK.out _ _))
              refine wpQuiet_nil ?_
              intro wq hw'
              have HQ := Lib.hid (HN.out.next (Grew.of hw').below)
              clear hw' hcl
              have HE := Lib.hid (app_start wq)
              have HS1 := Lib.hid (src_take (at_ := m + 1) (HQ.out.next ((Below.refl _ _).alloc (Nat.le_refl _) (.cells #[] 3))).own (by omega) (m + 1))
              have HS3 : Hid (∀ W, Below wq.heap.size wq W → Src W 1 (.slice (some ⟨g, o, none⟩) 0 0) 0 (iv (xs.drop (m + 1)))) := fun W hb => ⟨by have := hkm.out; simp; omega, _, _, rfl, .inl (by have := hkm.out; simp [iv]; omega)⟩
              go_wp2_with (first
                | (at_builtin; refine wpList_append_S rfl (.tmp 34) (.tmp 37) 31 rfl 3 i0 _ 1 8 Tryz.underlying31 hi0 hz0 hz1 hz2 rfl (by omega) (.slice (some ⟨wq.heap.size, 0, none⟩) 0 0) 0 [] (some wq.heap.size) rfl HE.out (.slice (some ⟨g, o, none⟩) (m + 1) (m + 1)) (m + 1) (iv (xs.take (m + 1))) rfl HS1.out (iv_one _) (by simp only [maxLen]; omega) (by omega) ?_; intro v1 w1 blk1 hown1 hgrow1 hat1; have H1 := Lib.hid (app1 hown1 hgrow1 hat1); clear hown1 hgrow1 hat1)
                | (at_builtin; refine wpList_append_S rfl (.tmp 39) (.tmp 41) 31 rfl 3 i0 _ 1 8 Tryz.underlying31 hi0 hz0 hz1 hz2 rfl (by omega) v1 (0 + (m + 1)) ([] ++ iv (xs.take (m + 1))) blk1 rfl (H1.out.alloc _) (.slice (some ⟨w1.heap.size, 0, none⟩) 1 1) 1 [.int .i64 (k : Int)] rfl (int_src _ _) (fun u hu => by rw [List.mem_singleton] at hu; subst hu; rfl) (by simp only [maxLen]; omega) (by omega) ?_; intro v2 w2 blk2 hown2 hgrow2 hat2; have H2 := Lib.hid (app2 H1.out hown2 hgrow2 hat2); clear hown2 hgrow2 hat2)
                | (at_builtin; refine wpList_append_S rfl (.tmp 43) (.tmp 46) 31 rfl 3 i0 _ 1 8 Tryz.underlying31 hi0 hz0 hz1 hz2 rfl (by omega) v2 (0 + (m + 1) + 1) ([] ++ iv (xs.take (m + 1)) ++ [.int .i64 (k : Int)]) blk2 rfl H2.out.own (.slice (some ⟨g, o, none⟩) 0 0) (0) (iv (xs.drop (m + 1))) rfl (HS3.out _ H2.out.below) (iv_one _) (by simp only [maxLen]; omega) (by omega) ?_; intro v3 w3 blk3 hown3 hgrow3 hat3; have H3 := Lib.hid (app3 H2.out hown3 hgrow3 hat3); clear hown3 hgrow3 hat3))
              go_roundw
              case rel => exact ⟨k + 1, _, _, by omega, by go_num, Lib.hid (HQ.out.ins (by omega) rfl ((by have := hkm.out; omega)) H3.out HA.out (.inr ⟨by simpa using hml, by have := hcN.out; simp only [beforeB, decide_eq_false_iff_not] at hbf; simp only [Nat.add_sub_cancel]; omega⟩))⟩
              case measure => simp [intOf]; omega
            · go_wp2_with fail
              have hcl := fun n os b' o' h => grown_cl wr n os b' o' h
              refine wp_region_quiet_grown mixed (by kernel_rfl) ?_
              repeat (quiet_step (with_reducible exact HK.out _ _))
              refine wpQuiet_nil ?_
              intro wq hw'
              have HQ := Lib.hid (HN.out.next (Grew.of hw').below)
              clear hw' hcl
              have HE := Lib.hid (app_start wq)
              have HS1 := Lib.hid (src_take (at_ := m + 1) (HQ.out.next ((Below.refl _ _).alloc (Nat.le_refl _) (.cells #[] 3))).own (by omega) sc)
              have HS3 : Hid (∀ W, Below wq.heap.size wq W → Src W 1 (.slice (some ⟨g, o + (m + 1), none⟩) (k - (m + 1)) (sc - (m + 1))) (k - (m + 1)) (iv (xs.drop (m + 1)))) := fun W hb => src_drop (at_ := m + 1) (HQ.out.next hb).own (by omega) HQ.out.len _
              go_wp2_with (first
                | (at_builtin; refine wpList_append_S rfl (.tmp 34) (.tmp 37) 31 rfl 3 i0 _ 1 8 Tryz.underlying31 hi0 hz0 hz1 hz2 rfl (by omega) (.slice (some ⟨wq.heap.size, 0, none⟩) 0 0) 0 [] (some wq.heap.size) rfl HE.out (.slice (some ⟨g, o, none⟩) (m + 1) sc) (m + 1) (iv (xs.take (m + 1))) rfl HS1.out (iv_one _) (by simp only [maxLen]; omega) (by omega) ?_; intro v1 w1 blk1 hown1 hgrow1 hat1; have H1 := Lib.hid (app1 hown1 hgrow1 hat1); clear hown1 hgrow1 hat1)
                | (at_builtin; refine wpList_append_S rfl (.tmp 39) (.tmp 41) 31 rfl 3 i0 _ 1 8 Tryz.underlying31 hi0 hz0 hz1 hz2 rfl (by omega) v1 (0 + (m + 1)) ([] ++ iv (xs.take (m + 1))) blk1 rfl (H1.out.alloc _) (.slice (some ⟨w1.heap.size, 0, none⟩) 1 1) 1 [.int .i64 (k : Int)] rfl (int_src _ _) (fun u hu => by rw [List.mem_singleton] at hu; subst hu; rfl) (by simp only [maxLen]; omega) (by omega) ?_; intro v2 w2 blk2 hown2 hgrow2 hat2; have H2 := Lib.hid (app2 H1.out hown2 hgrow2 hat2); clear hown2 hgrow2 hat2)
                | (at_builtin; refine wpList_append_S rfl (.tmp 43) (.tmp 46) 31 rfl 3 i0 _ 1 8 Tryz.underlying31 hi0 hz0 hz1 hz2 rfl (by omega) v2 (0 + (m + 1) + 1) ([] ++ iv (xs.take (m + 1)) ++ [.int .i64 (k : Int)]) blk2 rfl H2.out.own (.slice (some ⟨g, o + (m + 1), none⟩) (k - (m + 1)) (sc - (m + 1))) (k - (m + 1)) (iv (xs.drop (m + 1))) rfl (HS3.out _ H2.out.below) (iv_one _) (by simp only [maxLen]; omega) (by omega) ?_; intro v3 w3 blk3 hown3 hgrow3 hat3; have H3 := Lib.hid (app3 H2.out hown3 hgrow3 hat3); clear hown3 hgrow3 hat3))
              go_roundw
              case rel => exact ⟨k + 1, _, _, by omega, by go_num, Lib.hid (HQ.out.ins (by omega) rfl ((by omega)) H3.out HA.out (.inr ⟨by simpa using hml, by have := hcN.out; simp only [beforeB, decide_eq_false_iff_not] at hbf; simp only [Nat.add_sub_cancel]; omega⟩))⟩
              case measure => simp [intOf]; omega
          · go_wp2_with fail
            have hcl := fun n os b' o' h => grown_cl wr n os b' o' h
            refine wp_region_quiet_grown mixed (by kernel_rfl) ?_
            repeat (quiet_step (with_reducible exact HK.out _ _))
            refine wpQuiet_nil ?_
            intro w3 hw'
            have HG := Lib.hid (Grew.of hw').below
            clear hw' hcl
            go_wp2_with fail
            go_roundw
            case rel =>
              refine ⟨m, by omega, by go_num, Lib.hid fun j hj hjm => ?_, Lib.hid (HB.out.trans (HG.out.mono HB.out.size))⟩
              by_cases e : j = m
              · subst e; rw [hcN.out]; simpa [beforeB] using hbf
              · exact HA.out j hj (by omega)
            case measure => simp [intOf]
        · obtain rfl : at_ = 0 := by omega
          rcases HO.out.own.2 with ⟨hv, hk0, hblk⟩ | ⟨g, o, cap', cur, hblk, hv, hg, hnc, hcm, hcs, htk⟩
          · cases hv
            have hxs : xs = [] := List.eq_nil_of_length_eq_zero HO.out.len
            subst hxs
            go_wp2_with fail
            go_quiet (fail)
            obtain ⟨wq, hwq⟩ : ∃ wq, wr.drewN nq = wq := ⟨_, rfl⟩
            have HQ := Lib.hid (HO.out.next (hwq ▸ below_drew HB.out nq))
            rw [hwq]
            clear hwq HB
            have HE := Lib.hid (app_start wq)
            have HS1 : Hid (Src (wq.alloc (.cells #[] 3)) 1 (.slice none 0 0) 0 (iv (([] : List Nat).take 0))) := ⟨rfl, _, _, rfl, .inl rfl⟩
            have HS3 : Hid (∀ W, Below wq.heap.size wq W → Src W 1 (.slice none 0 0) (0 - 0) (iv (([] : List Nat).drop 0))) := fun W _ => ⟨rfl, _, _, rfl, .inl rfl⟩
            go_wp2_with (first
              | (at_builtin; refine wpList_append_S rfl (.tmp 34) (.tmp 37) 31 rfl 3 i0 _ 1 8 Tryz.underlying31 hi0 hz0 hz1 hz2 rfl (by omega) (.slice (some ⟨wq.heap.size, 0, none⟩) 0 0) 0 [] (some wq.heap.size) rfl HE.out (.slice none 0 0) 0 (iv (([] : List Nat).take 0)) rfl HS1.out (iv_one _) (by simp only [maxLen]; omega) (by omega) ?_; intro v1 w1 blk1 hown1 hgrow1 hat1; have H1 := Lib.hid (app1 hown1 hgrow1 hat1); clear hown1 hgrow1 hat1)
              | (at_builtin; refine wpList_append_S rfl (.tmp 39) (.tmp 41) 31 rfl 3 i0 _ 1 8 Tryz.underlying31 hi0 hz0 hz1 hz2 rfl (by omega) v1 (0 + 0) ([] ++ iv (([] : List Nat).take 0)) blk1 rfl (H1.out.alloc _) (.slice (some ⟨w1.heap.size, 0, none⟩) 1 1) 1 [.int .i64 0] rfl (int_src _ _) (fun u hu => by rw [List.mem_singleton] at hu; subst hu; rfl) (by simp only [maxLen]; omega) (by omega) ?_; intro v2 w2 blk2 hown2 hgrow2 hat2; have H2 := Lib.hid (app2 H1.out hown2 hgrow2 hat2); clear hown2 hgrow2 hat2)
              | (at_builtin; refine wpList_append_S rfl (.tmp 43) (.tmp 46) 31 rfl 3 i0 _ 1 8 Tryz.underlying31 hi0 hz0 hz1 hz2 rfl (by omega) v2 (0 + 0 + 1) ([] ++ iv (([] : List Nat).take 0) ++ [.int .i64 0]) blk2 rfl H2.out.own (.slice none 0 0) (0 - 0) (iv (([] : List Nat).drop 0)) rfl (HS3.out _ H2.out.below) (iv_one _) (by simp only [maxLen]; omega) (by omega) ?_; intro v3 w3 blk3 hown3 hgrow3 hat3; have H3 := Lib.hid (app3 H2.out hown3 hgrow3 hat3); clear hown3 hgrow3 hat3))
            go_roundw
            case rel => exact ⟨0 + 1, _, _, by omega, by go_num, Lib.hid (HQ.out.ins (by omega) rfl (by omega) H3.out HA.out (.inl rfl))⟩
            case measure => simp [intOf]; omega
          · cases hv
            have HH := Lib.hid (And.intro hg htk)
            clear hg htk hcs hcm hblk
            go_wp2_with fail
            go_quiet (fail)
            obtain ⟨wq, hwq⟩ : ∃ wq, wr.drewN nq = wq := ⟨_, rfl⟩
            have HQ := Lib.hid (HO.out.next (hwq ▸ below_drew HB.out nq))
            rw [hwq]
            clear hwq HB
            have HE := Lib.hid (app_start wq)
            have HS1 := Lib.hid (src_take (at_ := 0) (HQ.out.next ((Below.refl _ _).alloc (Nat.le_refl _) (.cells #[] 3))).own (Nat.zero_le _) sc)
            have HS3 : Hid (∀ W, Below wq.heap.size wq W → Src W 1 (.slice (some ⟨g, o, none⟩) (k - 0) sc) (k - 0) (iv (xs.drop 0))) := fun W hb => src_drop (at_ := 0) (HQ.out.next hb).own (Nat.zero_le _) HQ.out.len sc
            go_wp2_with (first
              | (at_builtin; refine wpList_append_S rfl (.tmp 34) (.tmp 37) 31 rfl 3 i0 _ 1 8 Tryz.underlying31 hi0 hz0 hz1 hz2 rfl (by omega) (.slice (some ⟨wq.heap.size, 0, none⟩) 0 0) 0 [] (some wq.heap.size) rfl HE.out (.slice (some ⟨g, o, none⟩) 0 sc) 0 (iv (xs.take 0)) rfl HS1.out (iv_one _) (by simp only [maxLen]; omega) (by omega) ?_; intro v1 w1 blk1 hown1 hgrow1 hat1; have H1 := Lib.hid (app1 hown1 hgrow1 hat1); clear hown1 hgrow1 hat1)
              | (at_builtin; refine wpList_append_S rfl (.tmp 39) (.tmp 41) 31 rfl 3 i0 _ 1 8 Tryz.underlying31 hi0 hz0 hz1 hz2 rfl (by omega) v1 (0 + 0) ([] ++ iv (xs.take 0)) blk1 rfl (H1.out.alloc _) (.slice (some ⟨w1.heap.size, 0, none⟩) 1 1) 1 [.int .i64 (k : Int)] rfl (int_src _ _) (fun u hu => by rw [List.mem_singleton] at hu; subst hu; rfl) (by simp only [maxLen]; omega) (by omega) ?_; intro v2 w2 blk2 hown2 hgrow2 hat2; have H2 := Lib.hid (app2 H1.out hown2 hgrow2 hat2); clear hown2 hgrow2 hat2)
              | (at_builtin; refine wpList_append_S rfl (.tmp 43) (.tmp 46) 31 rfl 3 i0 _ 1 8 Tryz.underlying31 hi0 hz0 hz1 hz2 rfl (by omega) v2 (0 + 0 + 1) ([] ++ iv (xs.take 0) ++ [.int .i64 (k : Int)]) blk2 rfl H2.out.own (.slice (some ⟨g, o, none⟩) k sc) (k - 0) (iv (xs.drop 0)) rfl (HS3.out _ H2.out.below) (iv_one _) (by simp only [maxLen]; omega) (by omega) ?_; intro v3 w3 blk3 hown3 hgrow3 hat3; have H3 := Lib.hid (app3 H2.out hown3 hgrow3 hat3); clear hown3 hgrow3 hat3))
            go_roundw
            case rel => exact ⟨k + 1, _, _, by omega, by go_num, Lib.hid (HQ.out.ins (by omega) rfl (by omega) H3.out HA.out (.inl rfl))⟩
            case measure => simp [intOf]; omega
    · obtain rfl : k = l.length := by omega
      go_wp2
      go_ret
      exact ⟨_, xs, blk, rfl, HO.out⟩
end leaves
end Go.Proofs.YtimahogkcmmcnaaGreatDoor
