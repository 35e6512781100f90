/-
  Schemas: what the reference's ValidSchema answers, part 8. Conditions: the schema lies in the world as the words say.
-/
import Derived.Test.YtimahogkcmmcnaaGreatDoorM7
set_option linter.unusedSimpArgs false
set_option linter.unusedVariables false
namespace Go.Proofs.YtimahogkcmmcnaaGreatDoor
open Go.RowKit Go.Proofs.YtimahogkcmmcnaaGreatDoor.Cmps

/-- Draws alone. -/
def Drew (w w' : World) : Prop := ∃ q, w' = w.drewN q

theorem Drew.refl (w : World) : Drew w w := ⟨0, rfl⟩
theorem Drew.trans {a b c : World} (h : Drew a b) (k : Drew b c) : Drew a c := by
  obtain ⟨q, rfl⟩ := h
  obtain ⟨r, rfl⟩ := k
  exact ⟨q + r, by rw [World.drewN_drewN]⟩
theorem Drew.more {a b : World} (h : Drew a b) (n : Nat) : Drew a (b.drewN n) := h.trans ⟨n, rfl⟩
theorem Drew.heap {a b : World} (h : Drew a b) : b.heap = a.heap := by
  obtain ⟨q, rfl⟩ := h; rfl
theorem Drew.cell {a b : World} (h : Drew a b) (p : Addr) : b.cell? p = a.cell? p := by
  obtain ⟨q, rfl⟩ := h; rfl
theorem Drew.grew {a b : World} (h : Drew a b) : Grew a b := by
  obtain ⟨q, rfl⟩ := h
  exact ⟨q, #[], by rw [Sort.grow_empty]⟩
theorem Drew.of {w w' : World} (h : ∃ n, w' = w.drewN n) : Drew w w' := h

theorem quiet_same {f : FuncId} {args : Array Value} {w : World} {n : Nat} {v v' : Value}
    (h : Calls Tryz.prog f args (w.drewN n) fun e w' => e = .returned v ∧ w.drewN n = w') (hv : v = v') : Calls Tryz.prog f args (w.drewN n) fun e w'' => e = .returned v' ∧ ∃ m, w'' = w.drewN m :=
  h.mono fun _ _ ⟨he, hm⟩ => ⟨he.trans (by rw [hv]), n, hm.symm⟩

section leaves
set_option maxHeartbeats 400000
set_option maxRecDepth 10000

theorem f39_any (hm : Tryz.prog.follows .mixedOrders = true) (w : World) (D : Nat → Prop) (v : Value) (l : List Col) (h : SchemaAt w D v l) :
    Calls Tryz.prog 39 #[v] w fun e w' => e = .returned (.bool (validSchema l)) ∧ Drew w w' := by
  have mixed := hm
  have HS := Lib.hid h
  obtain ⟨a, cap, rfl, hc0, hl, hn, hx⟩ := h
  go_enter Tryz.func39, Tryz.ntmps39
  go_wp2
  go_loopw [3] (fun i wr => ∃ (k : Nat), k ≤ l.length ∧ i = .int .i64 k ∧ Hid (schemaFrom (namesTo l k) (l.drop k) = schemaFrom [] l) ∧ Hid (Drew w wr)) (fun i _ => l.length - (intOf i).toNat)
  case atStart => exact ⟨0, by omega, rfl, Lib.hid rfl, Lib.hid (Drew.refl _)⟩
  case round =>
    obtain ⟨k, hk, rfl, hv, hq⟩ := hrel
    by_cases hlt : k < l.length
    · rcases hx with rfl | ⟨b, off, rfl, hD, hc⟩
      · simp at hlt
      obtain ⟨x0, x1⟩ := hc k hlt
      rw [← hq.out.cell] at x0 x1
      have hns := hn l[k] (List.getElem_mem hlt)
      have g1 : (0 : Int) ≤ (k : Int) := by omega
      have g2 : (k : Int) < (l.length : Int) := by omega
      have g3 : (k : Int) ≤ (cap : Int) := by omega
      have hat : ∀ n, Calls Tryz.prog 114 #[.slice (some ⟨b, off, none⟩) k cap, .string l[k].n] (wr.drewN n) fun e w' => e = .returned (.int .i64 (atS (l.take k) l[k].n)) ∧ wr.drewN n = w' :=
        fun n => f114_any (wr.drewN n) D _ (l.take k) l[k].n ((HS.out.pre rfl k hk).keep fun b _ _ => by rw [(hq.out.more n).heap])
      have HAT := Lib.hid hat
      have hhas := atS_has (l.take k) l[k].n
      have e0 : hasS ((l.take k).map Col.n) l[k].n = hasS (namesTo l k) l[k].n := rfl
      rw [e0] at hhas
      clear hat hc e0 hD hn hc0
      cases h1 : nameB l[k].n
      · go_wp2_with fail
        go_quiet (first
          | (go_at_call 113; exact quiet_same (f113_any _ hns _) rfl)
          | (go_at_call 114; exact quiet_same (HAT.out _) rfl))
        go_wp2_with fail
        go_ret
        exact ⟨ret_bool (schema_bad hlt hv.out (.inl h1)).symm, hq.out.more _⟩
      · cases h2 : (l[k].k != 1)
        · cases h4 : hasS (namesTo l k) l[k].n
          · rw [h4] at hhas
            go_wp2_with fail
            go_quiet (first
              | (go_at_call 113; exact quiet_same (f113_any _ hns _) rfl)
              | (go_at_call 114; exact quiet_same (HAT.out _) rfl))
            go_wp2_with fail
            go_roundw
            case rel => exact ⟨k + 1, by omega, by go_num, Lib.hid (schema_go hlt hv.out h1 h4 (by simp only [withinB, decide_eq_true_eq]; simp at h2; omega)), Lib.hid (hq.out.more _)⟩
            case measure => simp [intOf]; omega
          · rw [h4] at hhas
            go_wp2_with fail
            go_quiet (first
              | (go_at_call 113; exact quiet_same (f113_any _ hns _) rfl)
              | (go_at_call 114; exact quiet_same (HAT.out _) rfl))
            go_wp2_with fail
            go_ret
            exact ⟨ret_bool (schema_bad hlt hv.out (.inr (.inl h4))).symm, hq.out.more _⟩
        · cases h3 : (l[k].k != 2)
          · cases h4 : hasS (namesTo l k) l[k].n
            · rw [h4] at hhas
              go_wp2_with fail
              go_quiet (first
                | (go_at_call 113; exact quiet_same (f113_any _ hns _) rfl)
                | (go_at_call 114; exact quiet_same (HAT.out _) rfl))
              go_wp2_with fail
              go_roundw
              case rel => exact ⟨k + 1, by omega, by go_num, Lib.hid (schema_go hlt hv.out h1 h4 (by simp only [withinB, decide_eq_true_eq]; simp at h3; omega)), Lib.hid (hq.out.more _)⟩
              case measure => simp [intOf]; omega
            · rw [h4] at hhas
              go_wp2_with fail
              go_quiet (first
                | (go_at_call 113; exact quiet_same (f113_any _ hns _) rfl)
                | (go_at_call 114; exact quiet_same (HAT.out _) rfl))
              go_wp2_with fail
              go_ret
              exact ⟨ret_bool (schema_bad hlt hv.out (.inr (.inl h4))).symm, hq.out.more _⟩
          · go_wp2_with fail
            go_quiet (first
              | (go_at_call 113; exact quiet_same (f113_any _ hns _) rfl)
              | (go_at_call 114; exact quiet_same (HAT.out _) rfl))
            go_wp2_with fail
            go_ret
            exact ⟨ret_bool (schema_bad hlt hv.out (.inr (.inr (by simp only [withinB, decide_eq_false_iff_not]; simp at h2 h3; omega)))).symm, hq.out.more _⟩
    · go_wp2_with (go_at_call 115; refine (f115_any _ _ _ _).mono ?_; rintro e w' ⟨rfl, rfl⟩)
      go_ret
      obtain rfl : k = l.length := by omega
      exact ⟨ret_bool (by rw [validSchema, ← hv.out, schemaFrom_end, Bool.true_and]; simp only [withinB]; rw [Bool.eq_iff_iff]; simp only [decide_eq_true_eq]; omega), hq.out⟩
end leaves
end Go.Proofs.YtimahogkcmmcnaaGreatDoor
