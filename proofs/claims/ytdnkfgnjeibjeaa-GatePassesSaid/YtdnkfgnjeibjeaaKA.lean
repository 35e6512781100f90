import Derived.Test.YtdnkfgnjeibjeaaKM
namespace Go.Proofs.Ytdnkfgnjeibjeaa.W
open Go.RowKit Go.Shelf

/-- The law's state at a round of the first loop. -/
def L5 (w2 wr : World) (n G B1 c : Nat) (ov : Value) (ex : Gm → Prop) : Prop :=
  ∃ col D F m N us ev qb outs oblk ins, S5 w2 wr n G B1 c col D F m N us ev qb ov outs oblk ins ∧ ex m

section walks
set_option maxHeartbeats 2000000
set_option maxRecDepth 100000

theorem f20_any (w2 w : World) {n G : Nat} {F : Nat → Prop} {al : Bool} (h1 : 1 ≤ n) (h2 : n ≤ 200) (hg : GW w NoB F G (Gm.new n al) []) (hF : ∀ b, F b → w2.heap.size ≤ b) (hb : Below w2.heap.size w2 w) (v : Value) (l : List ActV) (D : Nat → Prop) (h : ActsAt w2 D v l) (hm : manyA l = false) :
    Calls Try.prog 20 #[.pointer (some ⟨G, 0, none⟩), .int .i64 n, v] w fun e w' => ∃ ov, e = .returned (.tuple #[.slice (some ⟨w.heap.size, 0, none⟩) n n, ov]) ∧ L5 w2 w' n G w.heap.size (l.length + n) ov AllShut := by
  have hst := S5.start (by omega) hg hF hb
  have HST := Lib.hid hst
  have HMA := Lib.hid hm
  have hlen := manyA_len hm
  obtain ⟨a, c, rfl, hl, hx⟩ := h
  have HX := Lib.hid hx
  clear hm hx hst
  obtain ⟨i2, hi2, hz20, hz21, hz22⟩ := info_parts info49
  have hmk : ∀ W : World, (Instr.makeSlice 47 (.int .i64 n) (.int .i64 n)).run Try.prog W = .ok (.slice (some ⟨W.heap.size, 0, none⟩) n n) (W.alloc (.cells (madeCells #[.slice none 0 0] n) 49)) := fun W => by
    have := run_make (P := Try.prog) W 47 49 i2 (.slice none 0 0) Try.underlying47 hi2 hz20 .i64 .i64 n n (by omega) (Int.le_refl _) (by rw [hz22]; omega) (by omega)
    rw [hz21] at this
    simpa [Value.cells] using this
  obtain ⟨i0, hi0, hz0, hz1, hz2⟩ := info_parts info57
  go_enter Try.func20, Try.ntmps20
  go_wp2_with fail
  go_loopw [9, 10] (fun s i wr => ∃ (k : Nat), k ≤ l.length ∧ i = .int .i64 k ∧ L5 w2 wr n G w.heap.size k s fun _ => True) (fun _ i _ => l.length - (intOf i).toNat)
  case atStart =>
    obtain ⟨col, hst⟩ := HST.out
    exact ⟨0, Nat.zero_le _, rfl, _, _, _, _, _, _, _, _, _, _, _, hst, trivial⟩
  case round =>
    obtain ⟨k, hk, rfl, hT⟩ := hrel
    obtain ⟨col, D1, F1, m, N, us, ev, qb, outs, oblk, ins, hS, _⟩ := hT
    obtain ⟨sa, sc, rfl⟩ := hS.n5.out.form
    have hbw : Below w2.heap.size w2 wr := hS.n5.bl
    have hol := hS.len
    have HS := Lib.hid hS
    have HBW := Lib.hid hbw
    clear hS hbw
    by_cases hlt : k < l.length
    · obtain ⟨b, off, rfl, hbD, hc⟩ := HX.out.resolve_left (fun e => by rw [e] at hlt; simp at hlt)
      obtain ⟨c0, c1, r, e0, e1, e2, e3, e4, hr⟩ := hc k hlt
      have hbb : b < w2.heap.size := World.block_lt_of_cell? w2 ⟨b, off + k * 7, none⟩ c0
      have hbr : b < wr.heap.size := Nat.lt_of_lt_of_le hbb HBW.out.size
      have hrow := manyA_false HMA.out hlt
      have hR := fun (W : World) (hb : Below w2.heap.size w2 W) => hr.below hb
      have hC := fun (W : World) (hb : Below w2.heap.size w2 W) => (show (W.cell? ⟨b, off + k * 7, none⟩ = some (.int .u8 l[k].kd)) ∧ (W.cell? ⟨b, off + k * 7 + 1, none⟩ = some (.int .i64 l[k].i)) ∧ W.cell? ⟨b, off + k * 7 + 2, none⟩ = some (.int .i64 l[k].e.k) ∧ W.cell? ⟨b, off + k * 7 + 2 + 1, none⟩ = some (.int .i64 l[k].e.n) ∧ W.cell? ⟨b, off + k * 7 + 2 + 2, none⟩ = some (.int .i64 l[k].e.t) ∧ W.cell? ⟨b, off + k * 7 + 2 + 3, none⟩ = some r ∧ W.cell? ⟨b, off + k * 7 + 2 + 4, none⟩ = some (.int .i64 l[k].e.c) from by
        have t : ∀ o, W.cell? ⟨b, o, none⟩ = w2.cell? ⟨b, o, none⟩ := fun o => hb.cell (p := ⟨b, o, none⟩) hbb
        exact ⟨(t _).trans c0, (t _).trans c1, (t _).trans e0, (t _).trans e1, (t _).trans e2, (t _).trans e3, (t _).trans e4⟩)
      have HR := Lib.hid hR
      have HC := Lib.hid hC
      clear hc c0 c1 e0 e1 e2 e3 e4 hr hR hC
      obtain ⟨c0, c1, e0, e1, e2, e3, e4⟩ := HC.out wr HBW.out
      have j1 : (0 : Int) ≤ (k : Int) := by omega
      have j2 : (k : Int) < (l.length : Int) := by omega
      generalize hx : l[k] = x at *
      clear hx
      obtain ⟨xk, xi, xe⟩ := x
      dsimp only at c0 c1 e0 e1 e2 e3 e4 HR HC hrow
      go_wp2_with (first
        | (go_at_call 29; refine (close5 HS.out (by omega) xi).mono ?_; rintro e w5 ⟨v5, err, xs, rfl, hR5⟩; have hl5 := hR5.len; have HR5 := Lib.hid hR5; clear hR5)
        | (go_at_call 30; refine (cancel5 HS.out (by omega)).mono ?_; rintro e w5 ⟨v5, err, xs, rfl, hR5⟩; have hl5 := hR5.len; have HR5 := Lib.hid hR5; clear hR5)
        | (go_at_call 15; refine (HR5.out.outs15 (by omega)).mono ?_; rintro e w6 ⟨v6, blk6, rfl, hs6, hR6⟩; have HS6 := Lib.hid hs6; have HR6 := Lib.hid hR6; clear hs6 hR6)
        | (at_builtin; refine wpList_append_S rfl (.tmp 106) (.tmp 108) 41 rfl 57 i0 _ 6 64 Try.underlying41 hi0 hz0 hz1 hz2 rfl (by omega) (.slice sa outs.length sc) outs.length (outs.flatMap Go.Proofs.Ytdnkfgnjeibjeaa.ocl) oblk rfl HR6.out.own v6 xs.length (xs.flatMap Go.Proofs.Ytdnkfgnjeibjeaa.ocl) rfl HS6.out.src HR6.out.one (by simp only [maxLen]; omega) (by omega) ?_; intro v7 w7 bk7 hown7 hgrow7 hat7; have HN := Lib.hid (HR6.out.app HS.out.e1 (fun i hi => ⟨Nat.le_succ_of_le (HS.out.sz i hi).1, (HS.out.sz i hi).2⟩) (Below.refl _ _) hown7 hgrow7 hat7); clear hown7 hgrow7 hat7)
        | (at_builtin; refine wpList_append_S rfl (.tmp 117) (.tmp 119) 41 rfl 57 i0 _ 6 64 Try.underlying41 hi0 hz0 hz1 hz2 rfl (by omega) (.slice sa outs.length sc) outs.length (outs.flatMap Go.Proofs.Ytdnkfgnjeibjeaa.ocl) oblk rfl HR6.out.own v6 xs.length (xs.flatMap Go.Proofs.Ytdnkfgnjeibjeaa.ocl) rfl HS6.out.src HR6.out.one (by simp only [maxLen]; omega) (by omega) ?_; intro v7 w7 bk7 hown7 hgrow7 hat7; have HN := Lib.hid (HR6.out.app HS.out.e1 (fun i hi => ⟨Nat.le_succ_of_le (HS.out.sz i hi).1, (HS.out.sz i hi).2⟩) (Below.refl _ _) hown7 hgrow7 hat7); clear hown7 hgrow7 hat7))
      · obtain ⟨col7, D7, F7, m7, N7, hN7, _⟩ := HN.out
        go_roundw
        case rel => exact ⟨k + 1, by omega, by go_num, _, _, _, _, _, _, _, _, _, _, _, hN7, trivial⟩
        case measure => simp [intOf]; omega
      · obtain ⟨col7, D7, F7, m7, N7, hN7, _⟩ := HN.out
        go_roundw
        case rel => exact ⟨k + 1, by omega, by go_num, _, _, _, _, _, _, _, _, _, _, _, hN7, trivial⟩
        case measure => simp [intOf]; omega
      · have HL2 := Lib.hid (HS.out.next ((Below.refl _ _).drew))
        have hR2 := ((HR.out w2 (Below.refl _ _)).imp (D' := fun b => b < w2.heap.size) (fun b hb _ => hb)).below (HBW.out.drew)
        have HR2 := Lib.hid hR2
        clear hR2
        refine wp_region_mid 11 _ rfl (by kernel_rfl) (by kernel_rfl) ?_
        simp only [List.take_succ_cons, List.take_zero, List.drop_succ_cons, List.drop_zero]
        repeat still_step
        refine wpStill_nil ?_
        intro K hK
        go_simp
        go_at_call 13
        refine (arrive5 HL2.out (by omega) xe r HR2.out (by omega) xi).mono ?_
        rintro e w5 ⟨v5, err, xs, rfl, hcase⟩
        refine hK _ _ ?_
        clear hK K
        repeat still_step
        refine wpStill_nil ?_
        have hbl5 : Below w2.heap.size w2 w5 := by
          rcases hcase with ⟨_, h⟩ | ⟨_, i, _, _, h⟩
          · exact h.bl
          · exact h.bl
        obtain ⟨d0, d1, f0, f1, f2, f3, f4⟩ := HC.out w5 hbl5
        have hR5 := ((HR.out w2 (Below.refl _ _)).imp (D' := fun b => b < w2.heap.size) (fun b hb _ => hb)).below hbl5
        have hbr5 : b < w5.heap.size := Nat.lt_of_lt_of_le hbb hbl5.size
        have HRW := Lib.hid hR5
        have HB5 := Lib.hid hbl5
        clear hR5 hbl5 c0 c1 e0 e1 e2 e3 e4
        rcases hcase with ⟨herr, hR5⟩ | ⟨rfl, i, rfl, hin, hR5⟩
        · have herr2 : (err == 0) = false := by simpa using herr
          have hl5 := hR5.len
          have HR5 := Lib.hid hR5
          clear hR5 herr
          go_wp2_with (first
            | (go_at_call 15; refine (HR5.out.outs15 (by omega)).mono ?_; rintro e w6 ⟨v6, blk6, rfl, hs6, hR6⟩; have HS6 := Lib.hid hs6; have HR6 := Lib.hid hR6; clear hs6 hR6)
            | (at_builtin; refine wpList_append_S rfl (.tmp 90) (.tmp 92) 41 rfl 57 i0 _ 6 64 Try.underlying41 hi0 hz0 hz1 hz2 rfl (by omega) (.slice sa outs.length sc) outs.length (outs.flatMap Go.Proofs.Ytdnkfgnjeibjeaa.ocl) oblk rfl HR6.out.own v6 xs.length (xs.flatMap Go.Proofs.Ytdnkfgnjeibjeaa.ocl) rfl HS6.out.src HR6.out.one (by simp only [maxLen]; omega) (by omega) ?_; intro v7 w7 bk7 hown7 hgrow7 hat7; have HN := Lib.hid (HR6.out.app HS.out.e1 (fun i hi => ⟨Nat.le_succ_of_le (HS.out.sz i hi).1, (HS.out.sz i hi).2⟩) (Below.refl _ _) hown7 hgrow7 hat7); clear hown7 hgrow7 hat7))
          all_goals
            obtain ⟨col7, D7, F7, m7, N7, hN7, _⟩ := HN.out
            go_roundw
            case rel => exact ⟨k + 1, by omega, by go_num, _, _, _, _, _, _, _, _, _, _, _, hN7, trivial⟩
            case measure => simp [intOf]; omega
        · have hl5 := hR5.len
          have HR5 := Lib.hid hR5
          clear hR5
          have i0' : (0 : Int) ≤ (i : Int) := by omega
          have i1 : ¬ (i : Int) < 0 := by omega
          have i2' : ¬ (i : Int) ≥ (n : Int) := by omega
          have i3 : (i : Int) < (n : Int) := by omega
          go_wp2_with fail
          obtain ⟨col5, D5, F5, m5, N5x, xblk, hN5, hT5, hq5, _⟩ := HR5.out
          have HN5 := Lib.hid hN5
          have HT5 := Lib.hid hT5
          have HQ5 := Lib.hid hq5
          clear hN5 hT5 hq5
          obtain ⟨ra, rn, rc, rfl⟩ := HRW.out.form2
          obtain ⟨k1, hk1, hz10, hz11, hz12⟩ := info_parts info34
          obtain ⟨pa, pc, hus⟩ := (HN5.out.inl.own i hin).form
          obtain ⟨y0, hBf, hBl⟩ := HN5.out.inl.cellB hin
          rw [hus, Nat.zero_add] at y0
          have hqB : qb i ≠ some w.heap.size := fun e => (HN5.out.inl.qbB hin e).1 rfl
          have hqb : qb i ≠ some b := fun e => by
            have e1 := HN5.out.cI b (.inr ⟨i, hin, e⟩)
            have e2 := HN5.out.c0 b hbb
            rw [e1] at e2; cases e2
          have hel : (ev i).length ≤ 80 := by
            have h1 := (HS.out.sz i hin).1
            rw [← HS.out.e1 i hin] at h1
            simp only [eL, List.length_map] at h1
            omega
          have hs0 : SlOwn (w5.alloc (Obj.cells #[.int .i64 xe.k, .int .i64 xe.n, .int .i64 xe.t, .slice ra rn rc, .int .i64 xe.c] 34)).drew 34 5 (.slice pa (ev i).length pc) (ev i).length ((ev i).flatMap ecl) (qb i) := by
            rw [← hus]
            exact (HN5.out.inl.own i hin).keep fun g hg => Below.heap_alloc w5 _ g (HN5.out.inl.qbB hin hg).2
          have hs1 : Src (w5.alloc (Obj.cells #[.int .i64 xe.k, .int .i64 xe.n, .int .i64 xe.t, .slice ra rn rc, .int .i64 xe.c] 34)).drew 5 (.slice (some ⟨w5.heap.size, 0, none⟩) 1 1) 1 (ecl (xe, .slice ra rn rc)) := SlOwn.src (e := 34) (blk := some w5.heap.size) ⟨rfl, .inr ⟨_, 0, 1, _, rfl, rfl, World.alloc_heap_new w5 (Obj.cells #[.int .i64 xe.k, .int .i64 xe.n, .int .i64 xe.t, .slice ra rn rc, .int .i64 xe.c] 34), Nat.le_refl _, by simp [maxLen], by simp, rfl⟩⟩
          have hone : ∀ u ∈ ecl (xe, Value.slice ra rn rc), u.oneCell' = true := fun u hu => by simp only [ecl, List.mem_cons, List.not_mem_nil, or_false] at hu; rcases hu with rfl | rfl | rfl | rfl | rfl <;> rfl
          have HS0 := Lib.hid hs0
          have HS1 := Lib.hid hs1
          have HONE := Lib.hid hone
          clear hus hs0 hs1 hone
          have hC0 : Only (fun b => qb i = some b) w5 w5.drew := (Only.refl _ _).drew
          refine wp_region_float 19 2 (fun W => Only (fun b => qb i = some b) w5 W) (by kernel_rfl) (by kernel_rfl) hC0 ?_
          simp only [List.take_succ_cons, List.take_zero, List.drop_succ_cons, List.drop_zero]
          have HC0 := Lib.hid hC0
          clear hC0
          repeat (
            refine wpFloat_ex (fun K hK => ?_)
            apply Exists.intro
            refine ⟨fun W hW => ?_, ?_⟩
            · have hk := hW.cell
              clear hW
              go_simp
              rfl
            go_simp
            refine hK _ ?_
            clear hK K)
          refine wpFloat_nil ?_
          refine wpChain_step (fun K hK => ?_)
          go_simp
          refine hK _ _ rfl (fun _ => HC0.out.alloc _) ?_
          clear hK K
          refine wpChain_step (fun K hK => ?_)
          refine wp_append_S (.tmp 81) (.tmp 87) 49 rfl 34 k1 _ 5 56 Try.underlying49 hk1 hz10 hz11 hz12 rfl (by omega) (.slice pa (ev i).length pc) (ev i).length ((ev i).flatMap ecl) (qb i) rfl HS0.out (.slice (some ⟨w5.heap.size, 0, none⟩) 1 1) 1 (ecl (xe, .slice ra rn rc)) rfl HS1.out HONE.out (by simp only [maxLen]; omega) (by omega) ?_
          intro v6 w6 bk6 hown6 hgrow6 hat6
          obtain ⟨sa6, sc6, rfl⟩ := hown6.form
          have ho6 : Only (fun b => qb i = some b) w5 w6 := (HC0.out.alloc _).grown hgrow6 (fun q hq _ => hq)
          have hcB : w6.cell? ⟨w.heap.size, i, none⟩ = some (.slice pa (ev i).length pc) := (ho6.cell _ _ hBl hqB).trans y0
          have hB6 : w.heap.size < w6.heap.size := Nat.lt_of_lt_of_le hBl ho6.size
          have hf6 : ∀ a, w6.frozen? ⟨w.heap.size, a, none⟩ = false := by
            obtain ⟨cs, hcs⟩ := HN5.out.inl.heapB
            exact blk_frozen ((ho6.block _ hBl hqB).trans hcs)
          go_simp
          refine hK _ _ rfl (fun _ => ho6) ?_
          clear hK K
          have hN := HN5.out.push HT5.out hin (p := (xe, .slice ra rn rc)) HRW.out (((Below.refl _ _).alloc (Nat.le_refl _) _).drew) hown6 hgrow6 hat6
          rw [Nat.zero_add] at hN
          obtain ⟨col6, hN6, hT6⟩ := hN
          have hR6 : R5 w2 (w6.setCell ⟨w.heap.size, i, none⟩ (.slice sa6 ((ev i).length + 1) sc6)) n G w.heap.size k (fun j => if j = i then .slice sa6 ((ev i).length + 1) sc6 else us j) (fun j => if j = i then ev i ++ [(xe, .slice ra rn rc)] else ev j) (fun j => if j = i then bk6 else qb j) (.slice sa outs.length sc) outs oblk (pushL ins i xe) v5 xs fun _ => True := ⟨_, _, _, _, _, _, hN6, hT6, HQ5.out, trivial⟩
          have HR5 := Lib.hid hR6
          have he7 : ∀ j, j < n → eL (if j = i then ev i ++ [(xe, Value.slice ra rn rc)] else ev j) = pushL ins i xe j := fun j hj => by
            by_cases e : j = i
            · subst e; rw [if_pos rfl, pushL_same, eL_app, HS.out.e1 j hj]; rfl
            · rw [if_neg e, pushL_ne _ _ e]; exact HS.out.e1 j hj
          have hz7 : ∀ j, j < n → (pushL ins i xe j).length ≤ k + 1 ∧ ∀ x ∈ pushL ins i xe j, x.row.length ≤ 20 := fun j hj => by
            by_cases e : j = i
            · subst e
              rw [pushL_same]
              refine ⟨by rw [List.length_append]; have := (HS.out.sz j hj).1; simp; omega, fun y hy => ?_⟩
              rcases List.mem_append.1 hy with hy | hy
              · exact (HS.out.sz j hj).2 y hy
              · rw [List.mem_singleton] at hy; subst hy; exact hrow
            · rw [pushL_ne _ _ e]
              exact ⟨Nat.le_succ_of_le (HS.out.sz j hj).1, (HS.out.sz j hj).2⟩
          have HE7 := Lib.hid he7
          have HZ7 := Lib.hid hz7
          clear hN6 hT6 hR6 hown6 hgrow6 hat6 ho6 he7 hz7
          refine wpChain_step (fun K hK => ?_)
          go_simp
          refine hK _ _ rfl (fun h => absurd h (by decide)) ?_
          clear hK K
          refine wpChain_step (fun K hK => ?_)
          go_simp
          refine hK _ _ rfl (fun h => absurd h (by decide)) ?_
          clear hK K
          refine wpChain_nil ?_
          generalize hW6 : w6.setCell ⟨w.heap.size, i, none⟩ (.slice sa6 ((ev i).length + 1) sc6) = W6 at HR5 ⊢
          clear hW6 hcB hB6 hf6 d0 d1 f0 f1 f2 f3 f4 HS0 HS1 HC0 y0 hBf hBl hqB hqb
          go_wp2_with (first
            | (go_at_call 15; refine (HR5.out.outs15 (by omega)).mono ?_; rintro e w6 ⟨v6, blk6, rfl, hs6, hR6⟩; have HS6 := Lib.hid hs6; have HR6 := Lib.hid hR6; clear hs6 hR6)
            | (at_builtin; refine wpList_append_S rfl (.tmp 90) (.tmp 92) 41 rfl 57 i0 _ 6 64 Try.underlying41 hi0 hz0 hz1 hz2 rfl (by omega) (.slice sa outs.length sc) outs.length (outs.flatMap Go.Proofs.Ytdnkfgnjeibjeaa.ocl) oblk rfl HR6.out.own v6 xs.length (xs.flatMap Go.Proofs.Ytdnkfgnjeibjeaa.ocl) rfl HS6.out.src HR6.out.one (by simp only [maxLen]; omega) (by omega) ?_; intro v7 w7 bk7 hown7 hgrow7 hat7; have HN := Lib.hid (HR6.out.app HE7.out HZ7.out (Below.refl _ _) hown7 hgrow7 hat7); clear hown7 hgrow7 hat7))
          obtain ⟨col7, D7, F7, m7, N7, hN7, _⟩ := HN.out
          go_roundw
          case rel => exact ⟨k + 1, by omega, by go_num, _, _, _, _, _, _, _, _, _, _, _, hN7, trivial⟩
          case measure => simp [intOf]; omega
    · go_wp2_with fail
      have hkl : k = l.length := by omega
      subst hkl
      clear hlt
      obtain ⟨wo, rfl⟩ : ∃ wo : World, wo = wr := ⟨_, rfl⟩
      go_loopw [9, 17] (fun s i wr => ∃ (q : Nat), q ≤ n ∧ i = .int .i64 q ∧ L5 w2 wr n G w.heap.size (l.length + q) s fun m => ∀ j, j < q → (m.inp j).closed = true) (fun _ i _ => n - (intOf i).toNat)
      case atStart => exact ⟨0, Nat.zero_le _, rfl, _, _, _, _, _, _, _, _, _, _, _, HS.out, fun j hj => absurd hj (Nat.not_lt_zero _)⟩
      case round =>
        obtain ⟨q, hq, rfl, hT⟩ := hrel
        clear HS HBW hol
        obtain ⟨col, D1, F1, m, N, us, ev, qb, outs, oblk, ins, hS, hsh⟩ := hT
        obtain ⟨sa, sc, rfl⟩ := hS.n5.out.form
        have hol := hS.len
        have HS := Lib.hid hS
        have HSH := Lib.hid hsh
        clear hS hsh
        by_cases hlt : q < n
        · go_wp2_with (first
            | (go_at_call 29; refine (close5 HS.out (by omega) q).mono ?_; rintro e w5 ⟨v5, err, xs, rfl, hR5⟩; have hl5 := hR5.len; have HR5 := Lib.hid hR5; clear hR5)
            | (go_at_call 15; refine (HR5.out.outs15 (by omega)).mono ?_; rintro e w6 ⟨v6, blk6, rfl, hs6, hR6⟩; have HS6 := Lib.hid hs6; have HR6 := Lib.hid hR6; clear hs6 hR6)
            | (at_builtin; refine wpList_append_S rfl (.tmp 132) (.tmp 134) 41 rfl 57 i0 _ 6 64 Try.underlying41 hi0 hz0 hz1 hz2 rfl (by omega) (.slice sa outs.length sc) outs.length (outs.flatMap Go.Proofs.Ytdnkfgnjeibjeaa.ocl) oblk rfl HR6.out.own v6 xs.length (xs.flatMap Go.Proofs.Ytdnkfgnjeibjeaa.ocl) rfl HS6.out.src HR6.out.one (by simp only [maxLen]; omega) (by omega) ?_; intro v7 w7 bk7 hown7 hgrow7 hat7; have HN := Lib.hid (HR6.out.app HS.out.e1 (fun i hi => ⟨Nat.le_succ_of_le (HS.out.sz i hi).1, (HS.out.sz i hi).2⟩) (Below.refl _ _) hown7 hgrow7 hat7); clear hown7 hgrow7 hat7))
          obtain ⟨col7, D7, F7, m7, N7, hN7, hx7, hy7⟩ := HN.out
          go_roundw
          case rel =>
            refine ⟨q + 1, by omega, by go_num, _, _, _, _, _, _, _, _, _, _, _, hN7, fun j hj => ?_⟩
            by_cases e : j = q
            · exact hy7 j (by omega) (by omega)
            · exact hx7 j (HSH.out j (by omega))
          case measure => simp [intOf]; omega
        · have hqn : q = n := by omega
          subst hqn
          go_wp2_with fail
          exact bodyPost_ret (v := .tuple #[.slice (some ⟨w.heap.size, 0, none⟩) q q, .slice sa outs.length sc]) (by kernel_rfl) rfl ⟨_, rfl, _, _, _, _, _, _, _, _, _, _, _, HS.out, fun j hj => HSH.out j (by rw [HS.out.n5.hn] at hj; exact hj)⟩
end walks
end Go.Proofs.Ytdnkfgnjeibjeaa.W
