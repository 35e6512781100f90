/-
  How QuerySame's arguments are read: it proves where their cells lie. No conditions.
-/
import Derived.Test.YtimahogkcmmcnaaGreatDoorQ8
import Derived.ProofKit
import Derived.Deep.Strs
import Derived.Deep.Slices
import Derived.Lib.SmallJoins
set_option linter.unusedSimpArgs false
set_option linter.unusedVariables false
namespace Go.Proofs.YtimahogkcmmcnaaGreatDoor
open Go.ChangeShapes Go.WideShapes Go.ChangeAt Go.RowKit Go.Deep

theorem choose_list {α : Type} {p : Nat → α → Prop} : ∀ (n : Nat), (∀ i, i < n → ∃ x, p i x) → ∃ l : List α, l.length = n ∧ ∀ i (hi : i < l.length), p i l[i]
  | 0, _ => ⟨[], rfl, fun i hi => by simp at hi⟩
  | n + 1, h => by
    obtain ⟨l, hl, hp⟩ := choose_list n (fun i hi => h i (by omega))
    obtain ⟨x, hx⟩ := h n (by omega)
    refine ⟨l ++ [x], by simp [hl], fun i hi => ?_⟩
    by_cases e : i < l.length
    · rw [List.getElem_append_left e]; exact hp i e
    · have hi' : i < l.length + 1 := by simpa using hi
      obtain rfl : i = l.length := by omega
      rw [List.getElem_append_right (Nat.le_refl _)]
      simp [hl, hx]

theorem spot_none {a : Addr} {v : Value} {w : World} (h : w.cell? a = some v) : a.spot = none := by
  unfold World.cell? at h
  split at h
  · split at h
    · cases h
    · rename_i hs; simpa using hs
  · cases h

set_option maxRecDepth 100000
section opening
variable {H : Type} {enc : TypeId × Value → H} {w : World} {base : Nat} {spare : Nat → Bool} {held : Bool} {fuel : Nat} {cs : List Value} {x : DataW H × List MemPlace}

theorem cells3 : Tryz.prog.cellsOf 3 = 1 := by kernel_rfl
theorem cells9 : Tryz.prog.cellsOf 9 = 1 := by kernel_rfl
theorem cells31 : Tryz.prog.cellsOf 31 = 1 := by kernel_rfl
theorem cells23 : Tryz.prog.cellsOf 23 = 1 := by kernel_rfl
theorem cells120 : Tryz.prog.cellsOf 120 = 1 := by kernel_rfl
theorem cells164 : Tryz.prog.cellsOf 164 = 5 := by kernel_rfl
theorem cells165 : Tryz.prog.cellsOf 165 = 1 := by kernel_rfl
theorem cells4 : Tryz.prog.cellsOf 4 = 1 := by kernel_rfl
theorem cells76 : Tryz.prog.cellsOf 76 = 3 := by kernel_rfl
theorem cells167 : Tryz.prog.cellsOf 167 = 25 := by kernel_rfl
theorem cells71 : Tryz.prog.cellsOf 71 = 2 := by kernel_rfl
theorem cells243 : Tryz.prog.cellsOf 243 = 2 := by kernel_rfl
theorem cells73 : Tryz.prog.cellsOf 73 = 4 := by kernel_rfl
theorem cells74 : Tryz.prog.cellsOf 74 = 1 := by kernel_rfl

/-- A struct's fields, each read. -/
theorem trod_f {t : TypeId} {fs : Array Field} (ht : Tryz.prog.underlying t = some (.struct fs)) (h : DataW.trod enc Tryz.prog w base spare held fuel t cs = some x) :
    cs.length = Tryz.prog.cellsOf t ∧ ∃ n, ∀ (i t off c : Nat), (fs[i]?.map fun f => (f.type, f.offset)) = some (t, off) → Tryz.prog.cellsOf t = c → ∃ y, DataW.trod enc Tryz.prog w base spare held n t ((cs.drop off).take c) = some y := by
  obtain ⟨xs, n, _, _, hl, hlen, hf⟩ := DataW.trod_struct ht h
  refine ⟨hl, n, fun i t' off c hi hc => ?_⟩
  obtain ⟨f, hi2, hp⟩ := Option.map_eq_some_iff.1 hi
  injection hp with h1 h2
  subst h1 h2 hc
  have hlt : i < xs.length := by rw [hlen]; exact (Array.getElem?_eq_some_iff.1 hi2).1
  exact ⟨xs[i], by rw [hf i f hi2, List.getElem?_eq_getElem hlt]⟩

/-- A list, each item read by a law. -/
theorem trod_list {α : Type} {t e : TypeId} {sz : Nat} {R : α → List Value → Prop} (ht : Tryz.prog.underlying t = some (.slice e)) (hc : Tryz.prog.cellsOf e = sz) (hsz : 0 < sz)
    (hel : ∀ {n : Nat} {cs : List Value} {x : DataW H × List MemPlace}, DataW.trod enc Tryz.prog w base spare held n e cs = some x → ∃ a, R a cs)
    (h : DataW.trod enc Tryz.prog w base spare held fuel t cs = some x) :
    ∃ (p : Option Addr) (c : Nat) (l : List α), cs = [.slice p l.length c] ∧ l.length ≤ 9223372036854775807 ∧ (l = [] ∨ ∃ b off, p = some ⟨b, off, none⟩ ∧ b < w.heap.size ∧
      ∀ i (h : i < l.length), ∃ cs', R l[i] cs' ∧ ∀ j, j < sz → w.cell? ⟨b, off + i * sz + j, none⟩ = cs'[j]?) := by
  rcases Deep.open_slice ht h with ⟨rfl, _⟩ | ⟨a, len, cap, m, n, D, Pl, rfl, _, hlc, hcm, hm, _, hx⟩
  · exact ⟨none, 0, [], rfl, by simp, .inl rfl⟩
  · rw [hc] at hx
    have hlm : len ≤ m := by subst hm; split <;> omega
    have hV : ∀ i, i < len → ∃ y : α, ∃ cs', R y cs' ∧ cs'.length = sz ∧ ∀ j, j < sz → w.cell? ((a.add (i * sz)).add j) = cs'[j]? := fun i hi => by
      obtain ⟨cs', h1, h2⟩ := hx i (by omega)
      obtain ⟨v, hv⟩ := hel h2
      obtain ⟨_, hlen, hcc⟩ := World.cells?_some h1
      exact ⟨v, cs', hv, hlen, fun j hj => hcc j hj⟩
    obtain ⟨l, hl, hp⟩ := choose_list len hV
    refine ⟨some a, cap, l, by rw [hl], by simp only [maxLen] at hcm; omega, ?_⟩
    rcases Nat.eq_zero_or_pos len with h0 | h0
    · exact .inl (List.eq_nil_of_length_eq_zero (by omega))
    · obtain ⟨v, cs', _, hlen, hcc⟩ := hV 0 h0
      have c0 := hcc 0 hsz
      rw [List.getElem?_eq_getElem (by omega)] at c0
      have hsp : a.spot = none := by
        have := spot_none c0
        simpa [Addr.add] using this
      obtain ⟨b, off, spot⟩ := a
      dsimp only at hsp
      subst hsp
      refine .inr ⟨b, off, rfl, ?_, fun i hi => ?_⟩
      · rw [add_o, add_o] at c0; exact cell_lt c0
      · obtain ⟨cs', hR, _, hcc⟩ := hp i hi
        exact ⟨cs', hR, fun j hj => by have := hcc j hj; rw [add_o, add_o] at this; exact this⟩

/-- .. where an item's cells are told by the item. -/
theorem trod_lat {α : Type} {t e : TypeId} {sz : Nat} {cl : α → List Value} {ok : α → Prop} (ht : Tryz.prog.underlying t = some (.slice e)) (hc : Tryz.prog.cellsOf e = sz) (hsz : 0 < sz)
    (hel : ∀ {n : Nat} {cs : List Value} {x : DataW H × List MemPlace}, DataW.trod enc Tryz.prog w base spare held n e cs = some x → ∃ a, cs = cl a ∧ ok a)
    (h : DataW.trod enc Tryz.prog w base spare held fuel t cs = some x) :
    ∃ (p : Option Addr × Nat) (l : List α), cs = [.slice p.1 l.length p.2] ∧ LAt sz cl ok w (.slice p.1 l.length p.2) l := by
  obtain ⟨p, c, l, e, hl, hx⟩ := trod_list (R := fun a cs => cs = cl a ∧ ok a) ht hc hsz hel h
  refine ⟨(p, c), l, e, p, c, rfl, hl, hx.imp id ?_⟩
  rintro ⟨b, off, e1, hlt, hi⟩
  refine ⟨b, off, e1, hlt, fun i h => ?_⟩
  obtain ⟨cs', ⟨rfl, hok⟩, hj⟩ := hi i h
  exact ⟨hok, hj⟩

theorem trod_i (h : DataW.trod enc Tryz.prog w base spare held fuel 3 cs = some x) : ∃ n, cs = [.int .i64 n] := by
  obtain ⟨n, e, _⟩ := DataW.trod_int Tryz.underlying3 h
  exact ⟨n, e⟩
theorem trod_s (h : DataW.trod enc Tryz.prog w base spare held fuel 9 cs = some x) : ∃ s, cs = [.string s] ∧ Small s := by
  obtain ⟨s, e, _, hz⟩ := DataW.trod_string Tryz.underlying9 h
  exact ⟨s, e, by simp only [maxLen] at hz; exact hz⟩
theorem trod_b (h : DataW.trod enc Tryz.prog w base spare held fuel 4 cs = some x) : ∃ b, cs = [.bool b] := by
  obtain ⟨b, e, _⟩ := DataW.trod_bool Tryz.underlying4 h
  exact ⟨b, e⟩

theorem trod_ints (h : DataW.trod enc Tryz.prog w base spare held fuel 31 cs = some x) : ∃ (p : Option Addr × Nat) (l : List Int), cs = [.slice p.1 l.length p.2] ∧ IntsAt w (.slice p.1 l.length p.2) l :=
  trod_lat Tryz.underlying31 cells3 (by omega) (fun h => by obtain ⟨n, e⟩ := trod_i h; exact ⟨n, e, trivial⟩) h
theorem trod_strs (h : DataW.trod enc Tryz.prog w base spare held fuel 120 cs = some x) : ∃ (p : Option Addr × Nat) (l : List ByteArray), cs = [.slice p.1 l.length p.2] ∧ StrsAt w (.slice p.1 l.length p.2) l :=
  trod_lat Tryz.underlying120 cells9 (by omega) (fun h => trod_s h) h
theorem trod_colM (h : DataW.trod enc Tryz.prog w base spare held fuel 71 cs = some x) : ∃ c : ColM, cs = [.string c.n, .int .i64 c.k] ∧ Small c.n := by
  obtain ⟨hl, n, hf⟩ := trod_f Tryz.underlying71 h
  rw [cells71] at hl
  match cs, hl with
  | [c0, c1], _ =>
    obtain ⟨y0, g0⟩ : ∃ y, DataW.trod enc Tryz.prog w base spare held n 9 [c0] = some y := hf 0 9 0 1 rfl cells9
    obtain ⟨s, e0, hs⟩ := trod_s g0
    obtain ⟨y1, g1⟩ : ∃ y, DataW.trod enc Tryz.prog w base spare held n 3 [c1] = some y := hf 1 3 1 1 rfl cells3
    obtain ⟨k, e1⟩ := trod_i g1
    simp only [List.cons.injEq, and_true] at e0 e1
    exact ⟨⟨s, k⟩, by rw [e0, e1], hs⟩

theorem trod_aggM (h : DataW.trod enc Tryz.prog w base spare held fuel 243 cs = some x) : ∃ a : AggM, cs = [.int .i64 a.k, .int .i64 a.c] ∧ True := by
  obtain ⟨hl, n, hf⟩ := trod_f Tryz.underlying243 h
  rw [cells243] at hl
  match cs, hl with
  | [c0, c1], _ =>
    obtain ⟨y0, g0⟩ : ∃ y, DataW.trod enc Tryz.prog w base spare held n 3 [c0] = some y := hf 0 3 0 1 rfl cells3
    obtain ⟨k, e0⟩ := trod_i g0
    obtain ⟨y1, g1⟩ : ∃ y, DataW.trod enc Tryz.prog w base spare held n 3 [c1] = some y := hf 1 3 1 1 rfl cells3
    obtain ⟨c, e1⟩ := trod_i g1
    simp only [List.cons.injEq, and_true] at e0 e1
    exact ⟨⟨k, c⟩, by rw [e0, e1], trivial⟩

theorem trod_stgM (h : DataW.trod enc Tryz.prog w base spare held fuel 73 cs = some x) : ∃ c : StgM, cs = [.string c.n, .string c.c, .int .i64 c.f, .string c.u] ∧ (Small c.n ∧ Small c.c ∧ Small c.u) := by
  obtain ⟨hl, n, hf⟩ := trod_f Tryz.underlying73 h
  rw [cells73] at hl
  match cs, hl with
  | [c0, c1, c2, c3], _ =>
    obtain ⟨y0, g0⟩ : ∃ y, DataW.trod enc Tryz.prog w base spare held n 9 [c0] = some y := hf 0 9 0 1 rfl cells9
    obtain ⟨s0, e0, z0⟩ := trod_s g0
    obtain ⟨y1, g1⟩ : ∃ y, DataW.trod enc Tryz.prog w base spare held n 9 [c1] = some y := hf 1 9 1 1 rfl cells9
    obtain ⟨s1, e1, z1⟩ := trod_s g1
    obtain ⟨y2, g2⟩ : ∃ y, DataW.trod enc Tryz.prog w base spare held n 3 [c2] = some y := hf 2 3 2 1 rfl cells3
    obtain ⟨f, e2⟩ := trod_i g2
    obtain ⟨y3, g3⟩ : ∃ y, DataW.trod enc Tryz.prog w base spare held n 9 [c3] = some y := hf 3 9 3 1 rfl cells9
    obtain ⟨s3, e3, z3⟩ := trod_s g3
    simp only [List.cons.injEq, and_true] at e0 e1 e2 e3
    exact ⟨⟨s0, s1, f, s3⟩, by rw [e0, e1, e2, e3], z0, z1, z3⟩


theorem trod_cols (h : DataW.trod enc Tryz.prog w base spare held fuel 23 cs = some x) : ∃ (p : Option Addr × Nat) (l : List ColM), cs = [.slice p.1 l.length p.2] ∧ ColsAt w (.slice p.1 l.length p.2) l :=
  trod_lat Tryz.underlying23 cells71 (by omega) (fun h => trod_colM h) h
theorem trod_aggs (h : DataW.trod enc Tryz.prog w base spare held fuel 165 cs = some x) : ∃ (p : Option Addr × Nat) (l : List AggM), cs = [.slice p.1 l.length p.2] ∧ AggsAt w (.slice p.1 l.length p.2) l :=
  trod_lat Tryz.underlying165 cells243 (by omega) (fun h => trod_aggM h) h
theorem trod_stgs (h : DataW.trod enc Tryz.prog w base spare held fuel 74 cs = some x) : ∃ (p : Option Addr × Nat) (l : List StgM), cs = [.slice p.1 l.length p.2] ∧ StgsAt w (.slice p.1 l.length p.2) l :=
  trod_lat Tryz.underlying74 cells73 (by omega) (fun h => trod_stgM h) h

theorem trod_win (h : DataW.trod enc Tryz.prog w base spare held fuel 164 cs = some x) : ∃ n0 n1 n2 n3 n4, cs = [.int .i64 n0, .int .i64 n1, .int .i64 n2, .int .i64 n3, .int .i64 n4] := by
  obtain ⟨hl, n, hf⟩ := trod_f Tryz.underlying164 h
  rw [cells164] at hl
  match cs, hl with
  | [c0, c1, c2, c3, c4], _ =>
    obtain ⟨y0, g0⟩ : ∃ y, DataW.trod enc Tryz.prog w base spare held n 3 [c0] = some y := hf 0 3 0 1 rfl cells3
    obtain ⟨n0, e0⟩ := trod_i g0
    obtain ⟨y1, g1⟩ : ∃ y, DataW.trod enc Tryz.prog w base spare held n 3 [c1] = some y := hf 1 3 1 1 rfl cells3
    obtain ⟨n1, e1⟩ := trod_i g1
    obtain ⟨y2, g2⟩ : ∃ y, DataW.trod enc Tryz.prog w base spare held n 3 [c2] = some y := hf 2 3 2 1 rfl cells3
    obtain ⟨n2, e2⟩ := trod_i g2
    obtain ⟨y3, g3⟩ : ∃ y, DataW.trod enc Tryz.prog w base spare held n 3 [c3] = some y := hf 3 3 3 1 rfl cells3
    obtain ⟨n3, e3⟩ := trod_i g3
    obtain ⟨y4, g4⟩ : ∃ y, DataW.trod enc Tryz.prog w base spare held n 3 [c4] = some y := hf 4 3 4 1 rfl cells3
    obtain ⟨n4, e4⟩ := trod_i g4
    simp only [List.cons.injEq, and_true] at e0 e1 e2 e3 e4
    exact ⟨n0, n1, n2, n3, n4, by rw [e0, e1, e2, e3, e4]⟩

theorem trod_pat (h : DataW.trod enc Tryz.prog w base spare held fuel 76 cs = some x) : ∃ (p : Option Addr × Nat) (l : List StgM) (n1 n2 : Int), cs = [.slice p.1 l.length p.2, .int .i64 n1, .int .i64 n2] ∧ StgsAt w (.slice p.1 l.length p.2) l := by
  obtain ⟨hl, n, hf⟩ := trod_f Tryz.underlying76 h
  rw [cells76] at hl
  match cs, hl with
  | [c0, c1, c2], _ =>
    obtain ⟨y0, g0⟩ : ∃ y, DataW.trod enc Tryz.prog w base spare held n 74 [c0] = some y := hf 0 74 0 1 rfl cells74
    obtain ⟨p, l, e0, hl0⟩ := trod_stgs g0
    obtain ⟨y1, g1⟩ : ∃ y, DataW.trod enc Tryz.prog w base spare held n 3 [c1] = some y := hf 1 3 1 1 rfl cells3
    obtain ⟨n1, e1⟩ := trod_i g1
    obtain ⟨y2, g2⟩ : ∃ y, DataW.trod enc Tryz.prog w base spare held n 3 [c2] = some y := hf 2 3 2 1 rfl cells3
    obtain ⟨n2, e2⟩ := trod_i g2
    simp only [List.cons.injEq, and_true] at e0 e1 e2
    exact ⟨p, l, n1, n2, by rw [e0, e1, e2], hl0⟩

set_option maxHeartbeats 1000000 in
theorem trod_nod (h : DataW.trod enc Tryz.prog w base spare held fuel 167 cs = some x) : ∃ (m : NodM) (s : NodS), cs = nodL m s ∧ NodAt w m s := by
  obtain ⟨hl, n, hf⟩ := trod_f Tryz.underlying167 h
  rw [cells167] at hl
  match cs, hl with
  | [c0, c1, c2, c3, c4, c5, c6, c7, c8, c9, c10, c11, c12, c13, c14, c15, c16, c17, c18, c19, c20, c21, c22, c23, c24], _ =>
    obtain ⟨y0, g0⟩ : ∃ y, DataW.trod enc Tryz.prog w base spare held n 3 [c0] = some y := hf 0 3 0 1 rfl cells3
    obtain ⟨v_kind, e_kind⟩ := trod_i g0
    obtain ⟨y1, g1⟩ : ∃ y, DataW.trod enc Tryz.prog w base spare held n 9 [c1] = some y := hf 1 9 1 1 rfl cells9
    obtain ⟨v_name, e_name, h_name⟩ := trod_s g1
    obtain ⟨y2, g2⟩ : ∃ y, DataW.trod enc Tryz.prog w base spare held n 31 [c2] = some y := hf 2 31 2 1 rfl cells31
    obtain ⟨p_inputs, v_inputs, e_inputs, h_inputs⟩ := trod_ints g2
    obtain ⟨y3, g3⟩ : ∃ y, DataW.trod enc Tryz.prog w base spare held n 23 [c3] = some y := hf 3 23 3 1 rfl cells23
    obtain ⟨p_schema, v_schema, e_schema, h_schema⟩ := trod_cols g3
    obtain ⟨y4, g4⟩ : ∃ y, DataW.trod enc Tryz.prog w base spare held n 3 [c4] = some y := hf 4 3 4 1 rfl cells3
    obtain ⟨v_bound, e_bound⟩ := trod_i g4
    obtain ⟨y5, g5⟩ : ∃ y, DataW.trod enc Tryz.prog w base spare held n 9 [c5] = some y := hf 5 9 5 1 rfl cells9
    obtain ⟨v_expr, e_expr, h_expr⟩ := trod_s g5
    obtain ⟨y6, g6⟩ : ∃ y, DataW.trod enc Tryz.prog w base spare held n 120 [c6] = some y := hf 6 120 6 1 rfl cells120
    obtain ⟨p_exprs, v_exprs, e_exprs, h_exprs⟩ := trod_strs g6
    obtain ⟨y7, g7⟩ : ∃ y, DataW.trod enc Tryz.prog w base spare held n 31 [c7] = some y := hf 7 31 7 1 rfl cells31
    obtain ⟨p_cols, v_cols, e_cols, h_cols⟩ := trod_ints g7
    obtain ⟨y8, g8⟩ : ∃ y, DataW.trod enc Tryz.prog w base spare held n 31 [c8] = some y := hf 8 31 8 1 rfl cells31
    obtain ⟨p_others, v_others, e_others, h_others⟩ := trod_ints g8
    obtain ⟨y9, g9⟩ : ∃ y, DataW.trod enc Tryz.prog w base spare held n 164 [c9, c10, c11, c12, c13] = some y := hf 9 164 9 5 rfl cells164
    obtain ⟨n0, n1, n2, n3, n4, e_win⟩ := trod_win g9
    obtain ⟨y10, g10⟩ : ∃ y, DataW.trod enc Tryz.prog w base spare held n 165 [c14] = some y := hf 10 165 14 1 rfl cells165
    obtain ⟨p_aggs, v_aggs, e_aggs, h_aggs⟩ := trod_aggs g10
    obtain ⟨y11, g11⟩ : ∃ y, DataW.trod enc Tryz.prog w base spare held n 120 [c15] = some y := hf 11 120 15 1 rfl cells120
    obtain ⟨p_names, v_names, e_names, h_names⟩ := trod_strs g11
    obtain ⟨y12, g12⟩ : ∃ y, DataW.trod enc Tryz.prog w base spare held n 3 [c16] = some y := hf 12 3 16 1 rfl cells3
    obtain ⟨v_low, e_low⟩ := trod_i g12
    obtain ⟨y13, g13⟩ : ∃ y, DataW.trod enc Tryz.prog w base spare held n 3 [c17] = some y := hf 13 3 17 1 rfl cells3
    obtain ⟨v_high, e_high⟩ := trod_i g13
    obtain ⟨y14, g14⟩ : ∃ y, DataW.trod enc Tryz.prog w base spare held n 31 [c18] = some y := hf 14 31 18 1 rfl cells31
    obtain ⟨p_order, v_order, e_order, h_order⟩ := trod_ints g14
    obtain ⟨y15, g15⟩ : ∃ y, DataW.trod enc Tryz.prog w base spare held n 4 [c19] = some y := hf 15 4 19 1 rfl cells4
    obtain ⟨v_down, e_down⟩ := trod_b g15
    obtain ⟨y16, g16⟩ : ∃ y, DataW.trod enc Tryz.prog w base spare held n 3 [c20] = some y := hf 16 3 20 1 rfl cells3
    obtain ⟨v_limit, e_limit⟩ := trod_i g16
    obtain ⟨y17, g17⟩ : ∃ y, DataW.trod enc Tryz.prog w base spare held n 3 [c21] = some y := hf 17 3 21 1 rfl cells3
    obtain ⟨v_mode, e_mode⟩ := trod_i g17
    obtain ⟨y18, g18⟩ : ∃ y, DataW.trod enc Tryz.prog w base spare held n 76 [c22, c23, c24] = some y := hf 18 76 22 3 rfl cells76
    obtain ⟨p_stages, v_stages, nw, nk, e_pat, h_stages⟩ := trod_pat g18
    simp only [List.cons.injEq, and_true] at e_kind e_name e_inputs e_schema e_bound e_expr e_exprs e_cols e_others e_win e_aggs e_names e_low e_high e_order e_down e_limit e_mode e_pat
    obtain ⟨w0, w1, w2, w3, w4⟩ := e_win
    obtain ⟨t0, t1, t2⟩ := e_pat
    subst e_kind e_name e_inputs e_schema e_bound e_expr e_exprs e_cols e_others e_aggs e_names e_low e_high e_order e_down e_limit e_mode w0 w1 w2 w3 w4 t0 t1 t2
    exact ⟨⟨v_kind, v_name, v_inputs, v_schema, v_bound, v_expr, v_exprs, v_cols, v_others, n0, n1, n2, n3, n4, v_aggs, v_names, v_low, v_high, v_order, v_down, v_limit, v_mode, v_stages, nw, nk⟩, ⟨p_inputs, p_schema, p_exprs, p_cols, p_others, p_aggs, p_names, p_order, p_stages⟩, rfl, ⟨h_name, h_expr, h_inputs, h_schema, h_exprs, h_cols, h_others, h_aggs, h_names, h_order, h_stages⟩⟩


/-- A plan. -/
theorem trod_plan (h : DataW.trod enc Tryz.prog w base spare held fuel 67 cs = some x) : ∃ v l, cs = [v] ∧ PlanAt w v l := by
  obtain ⟨p, c, l, e, hl, hx⟩ := trod_list (R := fun (m : NodM) cs => ∃ s, cs = nodL m s ∧ NodAt w m s) Tryz.underlying67 cells167 (by omega) (fun h => trod_nod h) h
  refine ⟨_, l, e, p, c, rfl, hl, hx.imp id ?_⟩
  rintro ⟨b, off, e1, hlt, hi⟩
  refine ⟨b, off, e1, hlt, fun i h => ?_⟩
  obtain ⟨cs', ⟨s, rfl, hs⟩, hj⟩ := hi i h
  exact ⟨s, hs, hj⟩
end opening
end Go.Proofs.YtimahogkcmmcnaaGreatDoor
