import Derived.Test.YtdnkfgnjeibjeaaA5
import Derived.Test.YtdnkfgnjeibjeaaB1
namespace Go.Proofs.Ytdnkfgnjeibjeaa
open Go.RowKit

def Val.cl (v : Val) : List Value := [.int .i64 v.k, .int .i64 v.n, .string v.s]

theorem Val.cl_len (v : Val) : v.cl.length = 3 := rfl

theorem cl_one {row : List Val} : ∀ u ∈ row.flatMap Val.cl, u.oneCell' = true := by
  intro u hu
  rw [List.mem_flatMap] at hu
  obtain ⟨v, _, h⟩ := hu
  simp only [Val.cl, List.mem_cons, List.not_mem_nil, or_false] at h
  rcases h with rfl | rfl | rfl <;> rfl

theorem RowAt.src {w : World} {D : Nat → Prop} {r : Value} {row : List Val} (h : RowAt w D r row) : Src w 3 r row.length (row.flatMap Val.cl) := by
  obtain ⟨a, cap, rfl, hl, hx⟩ := h
  refine ⟨flat_len Val.cl_len row, a, cap, rfl, ?_⟩
  rcases hx with rfl | ⟨b, off, rfl, hb, hc⟩
  · exact .inl rfl
  · refine .inr ⟨_, rfl, fun j u hu => ?_⟩
    obtain ⟨i, r, hi, hr, rfl, hv⟩ := flat_inv (by omega) Val.cl_len row j u hu
    rw [add_at]
    obtain ⟨h0, h1, h2⟩ := hc i hi
    match r, hr with
    | 0, _ => simp only [Val.cl, List.getElem?_cons_zero, Option.some.injEq] at hv; subst hv; exact h0
    | 1, _ => simp only [Val.cl, List.getElem?_cons_succ, List.getElem?_cons_zero, Option.some.injEq] at hv; subst hv; exact h1
    | 2, _ => simp only [Val.cl, List.getElem?_cons_succ, List.getElem?_cons_zero, Option.some.injEq] at hv; subst hv; exact h2

theorem RowAt.of_own {w : World} {v : Value} {n : Nat} {row : List Val} {blk : Option Nat} (h : SlOwn w 112 3 v n (row.flatMap Val.cl) blk) (hs : row.length ≤ 9223372036854775807) : RowAt w (fun b => blk = some b) v row := by
  have hn : n = row.length := by
    have := h.1
    rw [flat_len Val.cl_len] at this
    omega
  subst hn
  rcases h.2 with ⟨rfl, h0, _⟩ | ⟨g, o, cap, cur, rfl, rfl, _⟩
  · have : row = [] := List.eq_nil_of_length_eq_zero h0
    subst this
    exact ⟨none, 0, rfl, by simp, .inl rfl⟩
  · refine ⟨_, cap, rfl, hs, .inr ⟨g, o, rfl, rfl, fun i hi => ?_⟩⟩
    have key : ∀ r u, r < 3 → row[i].cl[r]? = some u → w.cell? ⟨g, o + (i * 3 + r), none⟩ = some u := fun r u hr hu => h.cell _ u (by rw [flat_at Val.cl_len row i r hi hr]; exact hu)
    exact ⟨key 0 _ (by omega) rfl, key 1 _ (by omega) rfl, key 2 _ (by omega) rfl⟩

/-- A row of its own: in new memory. -/
def GivesRow (w : World) (row : List Val) (e : Ending) (w' : World) : Prop := ∃ r, e = .returned r ∧ RowAt w' (fun b => w.heap.size ≤ b) r row ∧ Below w.heap.size w w'

theorem info112 : (Try.prog.info? 112).map (fun i => (i.zero, i.size, i.bytes)) = some (some (.agg #[.int .i64 0, .int .i64 0, .string ⟨#[]⟩]), 3, 32) := by kernel_rfl

section leaves
set_option maxHeartbeats 400000

set_option maxRecDepth 100000 in
theorem f68_any (w : World) (r : Value) (row : List Val) (D : Nat → Prop) (hr : RowAt w D r row) (hsm : row.length ≤ 1000000) :
    Calls Try.prog 68 #[r] w (GivesRow w row) := by
  have hr' := hr
  obtain ⟨a, cap, rfl, hl, hx⟩ := hr
  cases a with
  | none =>
    have hrow : row = [] := by
      rcases hx with h | ⟨_, _, h, _⟩
      · exact h
      · cases h
    subst hrow
    have hk := fun (w : World) => Lib.run_eql_slice_nil (P := Try.prog) w 30 112 none 0 cap 0 0 Try.underlying30
    clear hr' hx hl hsm
    go_enter Try.func68, Try.ntmps68
    go_wp2
    go_ret
    exact ⟨_, rfl, ⟨none, 0, rfl, by simp, .inl rfl⟩, Below.refl _ _⟩
  | some ad =>
    have hk := fun (w : World) => Lib.run_eql_slice_nil (P := Try.prog) w 30 112 (some ad) row.length cap 0 0 Try.underlying30
    have hsrc := (hr'.below ((Below.refl _ w).alloc (Nat.le_refl _) (.cells #[] 112))).src
    have hown : SlOwn (w.alloc (.cells #[] 112)) 112 3 (.slice (some ⟨w.heap.size, 0, none⟩) 0 0) 0 [] (some w.heap.size) :=
      ⟨by simp, .inr ⟨w.heap.size, 0, 0, #[], rfl, rfl, heap_alloc_new w _, by omega, by simp [maxLen], by simp, by simp⟩⟩
    obtain ⟨i0, hi0, hz0, hz1, hz2⟩ := info_parts info112
    have HS := Lib.hid hsrc
    have HO := Lib.hid hown
    clear hr' hx hsrc hl hown
    go_enter Try.func68, Try.ntmps68
    go_wp2_with (at_builtin; refine wpList_append_S rfl (.tmp 5) (.tmp 6) 30 rfl 112 i0 _ 3 32 Try.underlying30 hi0 hz0 hz1 hz2 rfl (by omega) (.slice (some ⟨w.heap.size, 0, none⟩) 0 0) 0 [] (some w.heap.size) rfl HO.out (.slice (some ad) row.length cap) row.length (row.flatMap Val.cl) rfl HS.out cl_one (by simp only [maxLen]; omega) (by omega) ?_; intro v1 w1 blk1 hown1 hgrow1 hat1)
    have hrow := RowAt.of_own (row := row) hown1 (by omega)
    go_ret
    refine ⟨_, rfl, hrow.mono fun b hb => ?_, ((Below.refl _ w).alloc (Nat.le_refl _) _).grown hgrow1 (by simp) (fun k hk => by cases hk; exact Nat.le_refl _)⟩
    rcases hat1 with h | h <;> rw [h] at hb <;> cases hb <;> simp

/-- An element of its own. -/
def GivesElem (w : World) (x : Elem) (e : Ending) (w' : World) : Prop := ∃ r, e = .returned (ev x r) ∧ RowAt w' (fun b => w.heap.size ≤ b) r x.row ∧ Below w.heap.size w w'

theorem f43_any (w : World) (x : Elem) (r : Value) (D : Nat → Prop) (hr : RowAt w D r x.row) (hsm : x.row.length ≤ 1000000) :
    Calls Try.prog 43 #[ev x r] w (GivesElem w x) := by
  have hR := fun (W : World) (h : Below w.heap.size w W) => f68_any W r x.row D (hr.below h) hsm
  obtain ⟨a, cap, rfl, hl, hx⟩ := hr
  have HR := Lib.hid hR
  clear hx hl hR
  go_enter Try.func43, Try.ntmps43
  go_wp2_with (go_at_call 68; refine (HR.out _ (((Below.refl _ _).alloc (Nat.le_refl _) _).alloc (by simp) _)).mono ?_; rintro e w' ⟨r', rfl, hr1, hb1⟩; have HR1 := Lib.hid hr1; obtain ⟨a', cap', rfl, hl', hx'⟩ := hr1; obtain ⟨c0, c1, c2, c3, c4, cf⟩ := blk5 ((hb1.block w.heap.size (by simp <;> omega)).trans (box2_fst _ _ _)); obtain ⟨d0, d1, d2, d3, d4, df⟩ := blk5 ((hb1.block (w.heap.size + 1) (by simp <;> omega)).trans (box2_snd _ _ _)); clear hx' hl')
  have hbb := below_box2 hb1
  have hfar : ∀ (W : World) (o : Nat) (u : Value), RowAt W (fun b => w.heap.size + 1 < b) (.slice a' x.row.length cap') x.row → RowAt (W.setCell ⟨w.heap.size, o, none⟩ u) (fun b => w.heap.size + 1 < b) (.slice a' x.row.length cap') x.row :=
    fun W o u h => h.keep fun b hb _ => Below.heap_setCell _ _ _ _ (by simp; omega)
  have hfar' : ∀ (W : World) (o : Nat) (u : Value), RowAt W (fun b => w.heap.size + 1 < b) (.slice a' x.row.length cap') x.row → RowAt (W.setCell ⟨w.heap.size + 1, o, none⟩ u) (fun b => w.heap.size + 1 < b) (.slice a' x.row.length cap') x.row :=
    fun W o u h => h.keep fun b hb _ => Below.heap_setCell _ _ _ _ (by simp; omega)
  refine bodyPost_ret (v := ev x (.slice a' x.row.length cap')) (by simp [results, Try.results43, go_sem, d0, d1, d2, d3, d4]) rfl ⟨_, rfl, ?_, ?_⟩
  · have h1 : RowAt w' (fun b => w.heap.size + 1 < b) (.slice a' x.row.length cap') x.row := HR1.out.mono fun b hb => by simp at hb; omega
    exact (hfar' _ _ _ (hfar' _ _ _ (hfar' _ _ _ (hfar' _ _ _ (hfar' _ _ _ (hfar _ _ _ h1)))))).mono fun b hb => by omega
  · exact (((((hbb.setCell (Nat.le_refl _) _).setCell (Nat.le_succ _) _).setCell (Nat.le_succ _) _).setCell (Nat.le_succ _) _).setCell (Nat.le_succ _) _).setCell (Nat.le_succ _) _

end leaves
end Go.Proofs.Ytdnkfgnjeibjeaa
