/-
  Events compared by their numbers, part 4: what the program's order compares. Conditions: the events lie in the world as the words say.
-/
import Derived.Test.YtimahogkcmmcnaaGreatDoorM3
set_option linter.unusedSimpArgs false
set_option linter.unusedVariables false
namespace Go.Proofs.YtimahogkcmmcnaaGreatDoor
open Go.RowKit Go.Proofs.YtimahogkcmmcnaaGreatDoor.Cmps

/-- v reads in w as the events; their blocks are of D. -/
def EvtsAt (w : World) (D : Nat → Prop) (v : Value) (l : List Evt) : Prop :=
  ∃ a cap, v = .slice a l.length cap ∧ l.length ≤ 9223372036854775807 ∧ (l = [] ∨ ∃ b off, a = some ⟨b, off, none⟩ ∧ D b ∧ ∀ i, (h : i < l.length) →
    w.cell? ⟨b, off + i * 2, none⟩ = some (.int .i64 l[i].t) ∧ ∃ r, w.cell? ⟨b, off + i * 2 + 1, none⟩ = some r ∧ RowAt w D r l[i].r)

theorem cell_keep {w w' : World} {b : Nat} (h : w'.heap[b]? = w.heap[b]?) (o : Nat) : w'.cell? ⟨b, o, none⟩ = w.cell? ⟨b, o, none⟩ := World.cell?_of_block (a := ⟨b, o, none⟩) h

theorem cell_lt {w : World} {b o : Nat} {v : Value} (h : w.cell? ⟨b, o, none⟩ = some v) : b < w.heap.size := World.block_lt_of_cell? w ⟨b, o, none⟩ h

theorem EvtsAt.keep {w w' : World} {D : Nat → Prop} {v : Value} {l : List Evt} (h : EvtsAt w D v l) (hk : ∀ b, D b → b < w.heap.size → w'.heap[b]? = w.heap[b]?) : EvtsAt w' D v l := by
  obtain ⟨a, cap, rfl, hl, hx⟩ := h
  refine ⟨a, cap, rfl, hl, ?_⟩
  rcases hx with rfl | ⟨b, off, rfl, hb, hc⟩
  · exact .inl rfl
  · refine .inr ⟨b, off, rfl, hb, fun i hi => ?_⟩
    obtain ⟨h0, r, h1, hr⟩ := hc i hi
    have hh := hk b hb (cell_lt h0)
    exact ⟨by rw [cell_keep hh]; exact h0, r, by rw [cell_keep hh]; exact h1, hr.keep hk⟩

theorem EvtsAt.below {w w' : World} {D : Nat → Prop} {v : Value} {l : List Evt} (h : EvtsAt w D v l) (hb : Below w.heap.size w w') : EvtsAt w' D v l :=
  h.keep fun b _ hlt => hb.block b hlt

theorem two_new (W : World) (x y : Value) (t : TypeId) :
    (W.alloc (.cells #[x, y] t)).cell? ⟨W.heap.size, 0, none⟩ = some x ∧ (W.alloc (.cells #[x, y] t)).cell? ⟨W.heap.size, 1, none⟩ = some y := by
  constructor <;> simp

theorem two_laid (w : World) (n : Nat) (os : Array Obj) (x y : Value) (t : TypeId) :
    ((Sort.grow (w.drewN n) os).alloc (.cells #[x, y] t)).cell? ⟨w.heap.size + os.size, 0, none⟩ = some x ∧ ((Sort.grow (w.drewN n) os).alloc (.cells #[x, y] t)).cell? ⟨w.heap.size + os.size, 1, none⟩ = some y := by
  have e : w.heap.size + os.size = (Sort.grow (w.drewN n) os).heap.size := by rw [Sort.size_grow]; rfl
  rw [e]
  exact two_new _ x y t

section leaves
set_option maxHeartbeats 1000000
set_option maxRecDepth 10000

theorem f109_any (hm : Tryz.prog.follows .mixedOrders = true) (w : World) (D : Nat → Prop) (v : Value) (l : List Evt) (bx i j : Nat) (h : EvtsAt w D v l) (hv : w.cell? ⟨bx, 0, none⟩ = some v) (hi : i < l.length) (hj : j < l.length) :
    Calls Tryz.prog 109 #[.int .i64 i, .int .i64 j, .pointer (some ⟨bx, 0, none⟩)] w fun e w' => e = .returned (.int .i64 (cmpEvt l[i] l[j])) ∧ Grew w w' := by
  have mixed := hm
  obtain ⟨a, cap, rfl, hl, hx⟩ := h
  rcases hx with rfl | ⟨b, off, rfl, hb, hc⟩
  · simp at hi
  obtain ⟨x0, r1, x1, xr⟩ := hc i hi
  obtain ⟨y0, r2, y1, yr⟩ := hc j hj
  have hbb := cell_lt x0
  have hxb := cell_lt hv
  have g1 : (0 : Int) ≤ (i : Int) := by omega
  have g2 : (i : Int) < (l.length : Int) := by omega
  have g3 : (0 : Int) ≤ (j : Int) := by omega
  have g4 : (j : Int) < (l.length : Int) := by omega
  have hT : ∀ (n : Nat) (os : Array Obj), Calls Tryz.prog 111 #[.int .i64 l[i].t, .int .i64 l[j].t] (Sort.grow (w.drewN n) os) fun e w'' => e = .returned (.int .i64 (cmpI l[i].t l[j].t)) ∧ ∃ p : GrownBy, w'' = Sort.grow (w.drewN p.n) p.os :=
    fun n os => (f111_any _ _ _).mono fun e w' ⟨he, hw⟩ => ⟨he, ⟨n, os⟩, hw.symm⟩
  have hR : ∀ (n : Nat) (os : Array Obj), Calls Tryz.prog 112 #[r1, r2] (Sort.grow (w.drewN n) os) fun e w'' => e = .returned (.int .i64 (cmpRow l[i].r l[j].r)) ∧ ∃ p : GrownBy, w'' = Sort.grow (w.drewN p.n) p.os :=
    fun n os => Calls.grown_of (f112_any hm _ r1 r2 _ _ D D (xr.below (below_regrown w (w.drawn + n) os)) (yr.below (below_regrown w (w.drawn + n) os)))
  have HT := Lib.hid hT
  have HR := Lib.hid hR
  clear hT hR xr yr hc hb
  go_enter Tryz.func109, Tryz.ntmps109
  go_wp2_with fail
  have hcl := fun n os b' o' h => grown_cl w n os b' o' h
  refine wp_region_qfloat 22 (fun w' => ∃ p : GrownBy, w' = Sort.grow (w.drewN p.n) p.os) mixed (by kernel_rfl) (by kernel_rfl) (by decide) ⟨⟨1, #[]⟩, by rw [Sort.grow_empty]; rfl⟩ ?_
  simp only [List.take_succ_cons, List.take_zero, List.drop_succ_cons, List.drop_zero]
  refine wpQf_of_quiet (ops := #[]) _ _ (by simp) ?_
  repeat (quiet_step (first | exact HT.out _ _ | exact HR.out _ _))
  refine wpQuiet_nil ?_
  rintro w2 ⟨⟨n2, os2⟩, rfl⟩
  refine wpChain_step (fun K hK => ?_)
  go_simp
  refine hK _ _ rfl (fun h => by cases h) ?_
  clear hK K
  refine wpChain_step (fun K hK => ?_)
  go_simp
  go_at_call 110
  obtain ⟨e0, e1⟩ := two_laid w n2 os2 (.int .i64 (cmpI l[i].t l[j].t)) (.int .i64 (cmpRow l[i].r l[j].r)) 3
  refine (f110_two _ _ _ _ e0 e1).mono ?_
  rintro e w3 ⟨rfl, rfl⟩
  refine hK _ _ rfl (fun h => by cases h) ?_
  clear hK K e0 e1
  refine wpChain_step (fun K hK => ?_)
  go_simp
  refine hK _ _ rfl (fun h => by cases h) ?_
  clear hK K
  refine wpChain_nil ?_
  go_wp2_with fail
  go_ret
  exact ⟨rfl, (show Grew w (Sort.grow (w.drewN n2) os2) from ⟨n2, os2, rfl⟩).alloc _⟩
end leaves
end Go.Proofs.YtimahogkcmmcnaaGreatDoor
