import Derived.Test.YtdnkfgnjeibjeaaA5
namespace Go.Proofs.Ytdnkfgnjeibjeaa
open Go.RowKit

/-- An act of the laws. -/
structure ActV where
  kd : Int
  i : Int
  e : Elem

def ActCell (w : World) (D : Nat → Prop) (b o : Nat) (x : ActV) : Prop :=
  w.cell? ⟨b, o, none⟩ = some (.int .u8 x.kd) ∧ w.cell? ⟨b, o + 1, none⟩ = some (.int .i64 x.i) ∧ ElemCell w D b (o + 2) x.e

def ActsAt (w : World) (D : Nat → Prop) (v : Value) (l : List ActV) : Prop :=
  ∃ a cap, v = .slice a l.length cap ∧ l.length ≤ 9223372036854775807 ∧ (l = [] ∨ ∃ b off, a = some ⟨b, off, none⟩ ∧ D b ∧ ∀ i, (h : i < l.length) → ActCell w D b (off + i * 7) l[i])

def manyA (l : List ActV) : Bool := (l.any fun x => greatE x.e) || decide (80 < l.length)

section walks
set_option maxHeartbeats 1000000
set_option maxRecDepth 100000

theorem f11_any (w : World) (v : Value) (l : List ActV) (D : Nat → Prop) (h : ActsAt w D v l) :
    Calls Try.prog 11 #[v] w fun e w' => e = .returned (.bool (manyA l)) ∧ Below w.heap.size w w' := by
  obtain ⟨a, cap, rfl, hl, hx⟩ := h
  have HX := Lib.hid hx
  clear hx
  go_enter Try.func11, Try.ntmps11
  go_wp2
  go_loopw [3] (fun i wr => ∃ k : Nat, k ≤ l.length ∧ i = .int .i64 k ∧ (∀ j (h : j < l.length), j < k → greatE l[j].e = false) ∧ Below w.heap.size w wr) (fun i _ => l.length - (intOf i).toNat)
  case atStart => exact ⟨0, by omega, rfl, by omega, Below.refl _ _⟩
  case round =>
    obtain ⟨k, hk, rfl, hv, hb⟩ := hrel
    by_cases hlt : k < l.length
    · obtain ⟨b, off, rfl, hbD, hc⟩ := HX.out.resolve_left (fun e => by rw [e] at hlt; simp at hlt)
      obtain ⟨h0, h1, r, e0, e1, e2, e3, e4, hr⟩ := hc k hlt
      have hbb : b < w.heap.size := World.block_lt_of_cell? w ⟨b, off + k * 7, none⟩ h0
      have hr' := hr.below hb
      obtain ⟨ra, rc, rfl, _, _⟩ := hr
      rw [← hb.cell (p := ⟨b, _, none⟩) hbb] at e0 e1 e2 e3 e4
      have hG := f28_any l[k].e _ wr D hr'
      have HG := Lib.hid hG
      have HV := Lib.hid hv
      clear hc hr' hG hv h0 h1
      cases hg : greatE l[k].e <;> rw [hg] at HG
      · go_wp2_with (go_at_call 28; refine HG.out.mono ?_; rintro e w' ⟨rfl, hb1⟩)
        go_roundw
        case rel =>
          refine ⟨k + 1, by omega, by go_num, fun j hj hjk => ?_, hb.trans (hb1.mono hb.size)⟩
          by_cases e : j = k
          · subst e; exact hg
          · exact HV.out j hj (by omega)
        case measure => simp [intOf]; omega
      · go_wp2_with (go_at_call 28; refine HG.out.mono ?_; rintro e w' ⟨rfl, hb1⟩)
        go_ret
        refine ⟨ret_bool ?_, hb.trans (hb1.mono hb.size)⟩
        symm
        simp only [manyA, Bool.or_eq_true, List.any_eq_true]
        exact .inl ⟨l[k], List.getElem_mem hlt, hg⟩
    · have hkl : k = l.length := by omega
      subst hkl
      have HV := Lib.hid hv
      clear hv
      go_wp2
      go_ret
      refine ⟨ret_bool ?_, hb⟩
      have h1 : (l.any fun x => greatE x.e) = false := by
        rw [List.any_eq_false]
        intro x hx
        obtain ⟨j, hj, rfl⟩ := List.getElem_of_mem hx
        rw [HV.out j hj hj]
        decide
      simp only [manyA, h1, Bool.false_or, decide_eq_decide]
      omega
end walks
end Go.Proofs.Ytdnkfgnjeibjeaa
