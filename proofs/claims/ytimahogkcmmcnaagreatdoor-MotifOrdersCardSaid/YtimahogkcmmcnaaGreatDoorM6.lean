/-
  Schemas in memory: what both sides' ValidSchema answers, part 6. Conditions: the schema lies in the world as the words say.
-/
import Derived.Test.YtimahogkcmmcnaaGreatDoorM5
import Derived.Test.YtimahogkcmmcnaaGreatDoorM4
set_option linter.unusedSimpArgs false
set_option linter.unusedVariables false
namespace Go.Proofs.YtimahogkcmmcnaaGreatDoor
open Go.RowKit Go.Proofs.YtimahogkcmmcnaaGreatDoor.Cmps

/-- v reads in w as the schema; its block is one of D. -/
def SchemaAt (w : World) (D : Nat → Prop) (v : Value) (l : List Col) : Prop :=
  ∃ a cap, v = .slice a l.length cap ∧ l.length ≤ cap ∧ l.length ≤ 9223372036854775807 ∧ (∀ c ∈ l, c.n.size ≤ 9223372036854775807) ∧ (l = [] ∨ ∃ b off, a = some ⟨b, off, none⟩ ∧ D b ∧ ∀ i, (h : i < l.length) →
    w.cell? ⟨b, off + i * 2, none⟩ = some (.string l[i].n) ∧ w.cell? ⟨b, off + i * 2 + 1, none⟩ = some (.int .i64 l[i].k))

theorem SchemaAt.keep {w w' : World} {D : Nat → Prop} {v : Value} {l : List Col} (h : SchemaAt w D v l) (hk : ∀ b, D b → b < w.heap.size → w'.heap[b]? = w.heap[b]?) : SchemaAt w' D v l := by
  obtain ⟨a, cap, rfl, hc, hl, hn, hx⟩ := h
  refine ⟨a, cap, rfl, hc, hl, hn, ?_⟩
  rcases hx with rfl | ⟨b, off, rfl, hb, hc⟩
  · exact .inl rfl
  · refine .inr ⟨b, off, rfl, hb, fun i hi => ?_⟩
    obtain ⟨h0, h1⟩ := hc i hi
    have hh := hk b hb (cell_lt h0)
    exact ⟨by rw [cell_keep hh]; exact h0, by rw [cell_keep hh]; exact h1⟩

theorem SchemaAt.below {w w' : World} {D : Nat → Prop} {v : Value} {l : List Col} (h : SchemaAt w D v l) (hb : Below w.heap.size w w') : SchemaAt w' D v l :=
  h.keep fun b _ hlt => hb.block b hlt

/-- The first columns. -/
theorem SchemaAt.pre {w : World} {D : Nat → Prop} {v : Value} {l : List Col} (h : SchemaAt w D v l) {a : Option Addr} {n cap : Nat} (e : v = .slice a n cap) (k : Nat) (hk : k ≤ l.length) : SchemaAt w D (.slice a k cap) (l.take k) := by
  obtain ⟨a', cap', rfl, hc, hl, hn, hx⟩ := h
  cases e
  have hlen : (l.take k).length = k := by simp; omega
  refine ⟨a, cap, by rw [hlen], by omega, by omega, fun c hc => hn c (List.mem_of_mem_take hc), ?_⟩
  rcases hx with rfl | ⟨b, off, rfl, hb, hc⟩
  · exact .inl (by simp)
  · refine .inr ⟨b, off, rfl, hb, fun i hi => ?_⟩
    rw [List.getElem_take]
    exact hc i (by omega)

def atS (l : List Col) (n : ByteArray) : Int := match l.findIdx? (fun c => eqS c.n n) with | some i => i | none => -1

theorem atS_hit {l : List Col} {n : ByteArray} {k : Nat} (hk : k < l.length) (hb : eqS l[k].n n = true) (h : ∀ j (h : j < l.length), j < k → eqS l[j].n n = false) : atS l n = k := by
  have : l.findIdx? (fun c => eqS c.n n) = some k := by
    rw [List.findIdx?_eq_some_iff_getElem]
    exact ⟨hk, hb, fun j hj => by simp [h j (by omega) hj]⟩
  simp [atS, this]

theorem atS_none {l : List Col} {n : ByteArray} (h : ∀ j (h : j < l.length), eqS l[j].n n = false) : atS l n = -1 := by
  have : l.findIdx? (fun c => eqS c.n n) = none := by
    rw [List.findIdx?_eq_none_iff]
    intro x hx
    obtain ⟨i, hi, rfl⟩ := List.mem_iff_getElem.1 hx
    exact h i hi
  simp [atS, this]

theorem atS_has (l : List Col) (n : ByteArray) : decide (0 ≤ atS l n) = hasS (l.map Col.n) n := by
  unfold atS hasS
  cases h : l.findIdx? (fun c => eqS c.n n) with
  | none =>
    rw [List.findIdx?_eq_none_iff] at h
    have : (l.map Col.n).any (fun x => eqS x n) = false := by
      rw [List.any_eq_false]
      intro x hx
      obtain ⟨c, hc, rfl⟩ := List.mem_map.1 hx
      simpa using h c hc
    simp only [this]; decide
  | some i =>
    rw [List.findIdx?_eq_some_iff_getElem] at h
    obtain ⟨hi, hb, _⟩ := h
    have : (l.map Col.n).any (fun x => eqS x n) = true := by
      rw [List.any_eq_true]; exact ⟨_, List.mem_map.2 ⟨l[i], List.getElem_mem hi, rfl⟩, hb⟩
    simp only [this]; simp

section leaves
set_option maxHeartbeats 400000
set_option maxRecDepth 10000

theorem f114_any (w : World) (D : Nat → Prop) (v : Value) (l : List Col) (nm : ByteArray) (h : SchemaAt w D v l) :
    Calls Tryz.prog 114 #[v, .string nm] w fun e w' => e = .returned (.int .i64 (atS l nm)) ∧ w = w' := by
  obtain ⟨a, cap, rfl, hc0, hl, hn, hx⟩ := h
  go_enter Tryz.func114, Tryz.ntmps114
  go_wp2
  go_loopw [5] (fun i wr => ∃ k : Nat, k ≤ l.length ∧ i = .int .i64 k ∧ Hid (∀ j (h : j < l.length), j < k → eqS l[j].n nm = false) ∧ w = wr) (fun i _ => l.length - (intOf i).toNat)
  case atStart => exact ⟨0, by omega, rfl, Lib.hid (by omega), rfl⟩
  case round =>
    obtain ⟨k, hk, rfl, hv, rfl⟩ := hrel
    by_cases hlt : k < l.length
    · rcases hx with rfl | ⟨b, off, rfl, hD, hc⟩
      · simp at hlt
      obtain ⟨x0, x1⟩ := hc k hlt
      clear hc
      go_wp2
      · rename_i he
        go_ret
        exact ⟨ret_int (atS_hit hlt he (fun j hj hjk => hv.out j hj hjk)).symm, rfl⟩
      · rename_i he
        go_roundw
        case rel =>
          refine ⟨k + 1, by omega, by go_num, Lib.hid fun j hj hjk => ?_, trivial⟩
          by_cases e : j = k
          · subst e; exact he
          · exact hv.out j hj (by omega)
        case measure => simp [intOf]; omega
    · go_wp2
      go_ret
      exact ⟨ret_int (atS_none (fun j hj => hv.out j hj (by omega))).symm, rfl⟩
end leaves
end Go.Proofs.YtimahogkcmmcnaaGreatDoor
