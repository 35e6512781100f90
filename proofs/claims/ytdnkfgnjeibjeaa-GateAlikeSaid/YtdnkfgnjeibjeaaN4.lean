import Derived.Test.YtdnkfgnjeibjeaaN2
import Derived.StillTailTactics
import Derived.Deep.RegionLaw
import Derived.Deep.AppendLies
namespace Go.Proofs.Ytdnkfgnjeibjeaa
open Go.RowKit Go.Shelf

theorem info57 : (Try.prog.info? 57).map (fun i => (i.zero, i.size, i.bytes)) = some (some (.agg #[.int .i64 0, .int .i64 0, .int .i64 0, .int .i64 0, .slice none 0 0, .int .i64 0]), 6, 64) := by kernel_rfl

theorem step_append_S {P : Program} {w : World} {ops : Array Oper} {o : Oper} {a : Act} {K : Act → World → Prop} {Q : Exit → Act → World → Prop} {E : Prop} (hgd : o.guard = none) (s x : Operand) (t : TypeId)
    (ho : o.op = .call { callee := .builtin .append, args := #[s, x], argTypes := #[t, t] })
    (e : TypeId) (i : TypeInfo) (z : Value) (size bytes : Nat) (ht : P.underlying t = some (.slice e)) (hi : P.info? e = some i) (hz : i.zero = some z)
    (hsize : i.size = size) (hby : i.bytes = bytes) (hzs : z.cells.size = size) (hsz : 0 < size)
    (v : Value) (n : Nat) (xs : List Value) (blk : Option Nat) (hs : a.eval s = v) (hown : SlOwn w e size v n xs blk)
    (xv : Value) (m : Nat) (news : List Value) (hx : a.eval x = xv) (hsrc : Src w size xv m news) (h1 : ∀ u ∈ news, u.oneCell' = true)
    (h63 : n + m ≤ maxLen) (hbytes : (n + m) * bytes ≤ 140737488355328)
    (h : ∀ v' w' blk', SlOwn w' e size v' (n + m) (xs ++ news) blk' → w.grownBy w' blk → (blk' = blk ∨ blk' = some w.heap.size) → K (a.put o.dst v') w') : if Region.wanted o (yielded ops a.tmps) = true then Oper.wp P o a w K Q else E := by
  have hw : Region.wanted o (yielded ops a.tmps) = true := by simp [Region.wanted, hgd]
  rw [if_pos hw]
  exact wp_append_S s x t ho e i z size bytes ht hi hz hsize hby hzs hsz v n xs blk hs hown xv m news hx hsrc h1 h63 hbytes h

section walks
set_option maxHeartbeats 1000000
set_option maxRecDepth 100000

theorem f15_any (w : World) (v : Value) (outs : List OV) (hs : Src w 6 v outs.length (outs.flatMap ocl)) (hok : ∀ o ∈ outs, ∃ a n c, o.2.2 = .slice a n c) (hlen : outs.length ≤ 1000000) (hv : ∃ a c, v = .slice a outs.length c) :
    Calls Try.prog 15 #[v] w fun e w' => ∃ v' blk, e = .returned v' ∧ SlOwn w' 57 6 v' outs.length (outs.flatMap ocl) blk ∧ (∀ g, blk = some g → w.heap.size ≤ g) ∧ Below w.heap.size w w' := by
  obtain ⟨a, c, rfl⟩ := hv
  obtain ⟨i0, hi0, hz0, hz1, hz2⟩ := info_parts info57
  have HS := Lib.hid hs
  have HK := Lib.hid hok
  clear hs hok
  go_enter Try.func15, Try.ntmps15
  go_wp2
  go_loopw [3, 4] (fun s i wr => ∃ k : Nat, k ≤ outs.length ∧ i = .int .i64 k ∧ ∃ blk, SlOwn wr 57 6 s k ((outs.take k).flatMap ocl) blk ∧ (∀ g, blk = some g → w.heap.size ≤ g) ∧ Below w.heap.size w wr) (fun _ i _ => outs.length - (intOf i).toNat)
  case atStart => exact ⟨0, Nat.zero_le _, rfl, none, SlOwn.nil _ _ _, (fun g hg => by cases hg), Below.refl _ _⟩
  case round =>
    obtain ⟨k, hk, rfl, blk, ho, hbk, hb⟩ := hrel
    obtain ⟨sa, sc, rfl⟩ := ho.form
    by_cases hlt : k < outs.length
    · have HO := Lib.hid ho
      have HB := Lib.hid hb
      have HBK := Lib.hid hbk
      clear ho hb hbk
      have hat := fun j (hj : j < 6) => flat_at ocl_len outs k j hlt hj
      obtain ⟨hsl, a', c', hv', had⟩ := HS.out
      obtain ⟨ad, rfl, hcell⟩ : ∃ ad, a = some ad ∧ ∀ j u, (outs.flatMap ocl)[j]? = some u → w.cell? (ad.add j) = some u := by
        injection hv' with ha _ _
        subst ha
        rcases had with h0 | h0
        · rw [flat_len ocl_len] at hsl
          have h1 := flat_len ocl_len outs
          rw [h0] at h1
          simp only [List.length_nil] at h1
          omega
        · exact h0
      go_wp2_with fail
      have c0 := hcell _ _ (hat 0 (by omega))
      have c1 := hcell _ _ (hat 1 (by omega))
      have c2 := hcell _ _ (hat 2 (by omega))
      have c3 := hcell _ _ (hat 3 (by omega))
      have c4 := hcell _ _ (hat 4 (by omega))
      have c5 := hcell _ _ (hat 5 (by omega))
      obtain ⟨b, off, spot⟩ := ad
      have z0 := hcell _ _ (flat_at ocl_len outs 0 0 (by omega) (by omega))
      obtain rfl : spot = none := by
        have e : (⟨b, off, spot⟩ : Addr).add (0 * 6 + 0) = ⟨b, off, spot⟩ := by simp [Addr.add]
        rw [e] at z0
        unfold World.cell? at z0
        split at z0
        · split at z0
          · cases z0
          · rename_i hs; simpa using hs
        · cases z0
      rw [add_at] at c0 c1 c2 c3 c4 c5
      have hbb : b < w.heap.size := World.block_lt_of_cell? w ⟨b, _, none⟩ c0
      have tr : ∀ o u, w.cell? ⟨b, o, none⟩ = some u → wr.cell? ⟨b, o, none⟩ = some u := fun o u h => (HB.out.cell (p := ⟨b, o, none⟩) hbb).trans h
      have d0 : wr.cell? ⟨b, off + k * 6, none⟩ = some (.int .i64 outs[k].1) := tr _ _ c0
      have d1 : wr.cell? ⟨b, off + k * 6 + 1, none⟩ = some (.int .i64 outs[k].2.1.k) := tr _ _ c1
      have d2 : wr.cell? ⟨b, off + k * 6 + 1 + 1, none⟩ = some (.int .i64 outs[k].2.1.n) := tr _ _ c2
      have d3 : wr.cell? ⟨b, off + k * 6 + 1 + 2, none⟩ = some (.int .i64 outs[k].2.1.t) := tr _ _ c3
      have d4 : wr.cell? ⟨b, off + k * 6 + 1 + 3, none⟩ = some outs[k].2.2 := tr _ _ c4
      have d5 : wr.cell? ⟨b, off + k * 6 + 1 + 4, none⟩ = some (.int .i64 outs[k].2.1.c) := tr _ _ c5
      clear z0 tr
      obtain ⟨ra, rn, rc, hrow⟩ := HK.out outs[k] (List.getElem_mem hlt)
      have hoc : ∀ u ∈ ocl outs[k], u.oneCell' = true := by
        intro u hu
        simp only [ocl, ecl, List.mem_cons, List.not_mem_nil, or_false] at hu
        rcases hu with rfl | rfl | rfl | rfl | rfl | rfl
        · rfl
        · rfl
        · rfl
        · rfl
        · rw [hrow]; rfl
        · rfl
      have HOC := Lib.hid hoc
      have HROW := Lib.hid hrow
      clear hoc hrow
      clear c0 c1 c2 c3 c4 c5 hcell had hat hsl
      have hs0 : SlOwn (wr.alloc (Obj.cells #[.int .i64 outs[k].1, .int .i64 outs[k].2.1.k, .int .i64 outs[k].2.1.n, .int .i64 outs[k].2.1.t, outs[k].2.2, .int .i64 outs[k].2.1.c] 57)).drew 57 6 (.slice sa k sc) k ((outs.take k).flatMap ocl) blk := HO.out.keep fun g hg => Below.heap_alloc wr _ g (HO.out.lt_of hg)
      have hs1 : Src (wr.alloc (Obj.cells #[.int .i64 outs[k].1, .int .i64 outs[k].2.1.k, .int .i64 outs[k].2.1.n, .int .i64 outs[k].2.1.t, outs[k].2.2, .int .i64 outs[k].2.1.c] 57)).drew 6 (.slice (some ⟨wr.heap.size, 0, none⟩) 1 1) 1 (ocl outs[k]) := SlOwn.src (e := 57) (blk := some wr.heap.size) ⟨rfl, .inr ⟨_, 0, 1, _, rfl, rfl, World.alloc_heap_new wr (Obj.cells #[.int .i64 outs[k].1, .int .i64 outs[k].2.1.k, .int .i64 outs[k].2.1.n, .int .i64 outs[k].2.1.t, outs[k].2.2, .int .i64 outs[k].2.1.c] 57), Nat.le_refl _, by simp [maxLen], by simp, rfl⟩⟩
      have HS0 := Lib.hid hs0
      have HS1 := Lib.hid hs1
      clear hs0 hs1
      go_region_law (refine step_append_S rfl (.tmp 11) (.tmp 23) 41 rfl 57 i0 _ 6 64 Try.underlying41 hi0 hz0 hz1 hz2 rfl (by omega) (.slice sa k sc) k ((outs.take k).flatMap ocl) blk rfl HS0.out (.slice (some ⟨wr.heap.size, 0, none⟩) 1 1) 1 (ocl outs[k]) rfl HS1.out HOC.out (by simp only [maxLen]; omega) (by omega) ?_; intro v4 w4 bk4 h1 h2 h3)
      all_goals
        have hbw : Below w.heap.size w w4 := by
          refine ((HB.out.alloc HB.out.size _).drew).grown h2 (by have := HB.out.size; simp; omega) (fun q hq => HBK.out q hq)
        have hblk4 : ∀ g, bk4 = some g → w.heap.size ≤ g := by
          intro g hg
          rcases h3 with e | e
          · exact HBK.out g (e ▸ hg)
          · rw [hg] at e; injection e with e
            have := HB.out.size
            simp at e; omega
        obtain ⟨sa4, sc4, rfl⟩ := h1.form
        have H1 := Lib.hid h1
        have HW4 := Lib.hid hbw
        clear h1 h2 h3 hbw
        go_wp2_with fail
        go_roundw
        case rel =>
          refine ⟨k + 1, by omega, by go_num, bk4, ?_, hblk4, HW4.out⟩
          have := H1.out
          rw [List.take_succ_eq_append_getElem hlt, List.flatMap_append]
          simpa using this
        case measure => simp [intOf]; omega
    · have hkl : k = outs.length := by omega
      subst hkl
      go_wp2_with fail
      go_ret
      exact ⟨_, blk, rfl, by simpa using ho, hbk, hb⟩
end walks
end Go.Proofs.Ytdnkfgnjeibjeaa
