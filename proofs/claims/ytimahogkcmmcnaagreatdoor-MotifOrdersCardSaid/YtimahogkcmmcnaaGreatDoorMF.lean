/-
  The program's order: part 15. Conditions: the events lie in the world as the words say.
-/
import Derived.Test.YtimahogkcmmcnaaGreatDoorME
set_option linter.unusedSimpArgs false
set_option linter.unusedVariables false
namespace Go.Proofs.YtimahogkcmmcnaaGreatDoor
open Go.RowKit Go.Proofs.YtimahogkcmmcnaaGreatDoor.Cmps Go.Sort Go.Shelf Go.Lib Go.Proofs.YtimahogkcmmcnaaGreatDoor.Stab

/-- What an order gives. -/
def Gives (w : World) (l : List Evt) (e : Ending) (w' : World) : Prop :=
  ∃ r xs, e = .returned r ∧ IntsAt w' (fun b => w.heap.size ≤ b) r xs ∧ Ordered (cN l) l.length xs ∧ Below w.heap.size w w'

theorem stab_ints {w w' : World} {l : List Evt} {m O cap : Nat} (hO : w.rowIs O 3 (m + 1) fun i => .int .i64 (i : Int)) (hl : l.length = m + 1) (h40 : l.length ≤ 40) (h : Stab2 (encF m) (sltF l m) O 0 (m + 1) w (ups m) w') :
    ∃ xs, IntsAt w' (fun b => b = O) (.slice (some ⟨O, 0, none⟩) (m + 1) cap) xs ∧ Ordered (cN l) l.length xs ∧ SW (encF m) w O 0 (ups m) w ∧ ∃ d', d'.size = m + 1 ∧ SW (encF m) w O 0 d' w' := by
  have hH : Holds (encF m) w O 0 (ups m) := fun j hj => by
    rw [ups_size] at hj
    rw [ups_get m hj, Nat.zero_add]
    exact ⟨hO.cell hj, hO.frozen j⟩
  obtain ⟨d', hp, hs, hw⟩ := h
  have hz : d'.size = m + 1 := by rw [hp.1, ups_size]
  have hlen : (d'.toList.map Fin.val).length = m + 1 := by simp [hz]
  refine ⟨d'.toList.map Fin.val, ⟨_, cap, by rw [hlen], by omega, .inr ⟨O, 0, rfl, rfl, fun i hi => ?_⟩⟩, by rw [hl]; exact ordered_of_stab hp hs, SW.start hH, d', hz, hw⟩
  have hi' : i < d'.size := by simpa using hi
  rw [hw.c1 (⟨fun x => rfl, hH, hO.lt⟩ : Row1 (encF m) w O 0 (ups m)) (by rw [hz, ups_size]) i hi']
  rw [getElem!_pos d' i hi']
  simp [encF]

section leaves
set_option maxHeartbeats 1000000
set_option maxRecDepth 10000

theorem f38_any (hm : Tryz.prog.follows .mixedOrders = true) (w : World) (D : Nat → Prop) (v : Value) (l : List Evt) (h : EvtsAt w D v l) (hD : ∀ b, D b → b < w.heap.size) (h40 : l.length ≤ 40) :
    Calls Tryz.prog 38 #[v] w (Gives w l) := by
  have HV := Lib.hid h
  obtain ⟨n, hn⟩ : ∃ n, n = l.length := ⟨_, rfl⟩
  have HN := Lib.hid hn
  have H40 := Lib.hid h40
  have hmk := fun (W : World) => run_make_row' (P := Tryz.prog) 31 3 (.int .i64 0) 8 Tryz.underlying31 info3 rfl .i64 .i64 n (by omega) (by omega) W
  obtain ⟨a, cap, rfl, hl, hx⟩ := h
  rw [← hn] at hl HV ⊢
  have hn40 : n ≤ 40 := by omega
  clear hn h40
  clear hx
  go_enter Tryz.func38, Tryz.ntmps38
  go_wp2
  go_loopw [10] (fun i wr => ∃ k : Nat, k ≤ n ∧ i = .int .i64 k ∧ Hid (wr.rowIs (w.heap.size + 1) 3 n fun j => .int .i64 (if j < k then (j : Int) else 0)) ∧ Hid (Below (w.heap.size + 1) (w.alloc (.cells #[.slice a n cap] 24)) wr)) (fun i _ => n - (intOf i).toNat)
  case atStart =>
    refine ⟨0, by omega, rfl, Lib.hid ?_, Lib.hid ((RowKit.Below.refl _ _).alloc (by simp) _)⟩
    have := World.rowIs_made (w.alloc (.cells #[.slice a n cap] 24)) (.int .i64 0) n 3
    have e : (w.alloc (.cells #[.slice a n cap] 24)).heap.size = w.heap.size + 1 := by simp
    rw [e] at this
    exact this.congr fun i _ => by simp
  case round =>
    obtain ⟨k, hk, rfl, hr, hb⟩ := hrel
    have hsz := hr.out.lt
    have hcB : wr.cell? ⟨w.heap.size, 0, none⟩ = some (.slice a n cap) := by
      rw [hb.out.cell (p := ⟨w.heap.size, 0, none⟩) (by simp)]; simp
    by_cases hlt : k < n
    · have hc := hr.out.cell hlt
      have hf := hr.out.frozen k
      rw [if_neg (Nat.lt_irrefl k)] at hc
      go_wp2
      go_roundw
      case rel =>
        refine ⟨k + 1, by omega, by go_num, Lib.hid ((hr.out.set k _).congr fun j hj => ?_), Lib.hid (hb.out.setCell (by simp) _)⟩
        by_cases e : j = k
        · subst e; simp
        · rw [if_neg e]
          by_cases e2 : j < k
          · rw [if_pos e2, if_pos (by omega)]
          · rw [if_neg e2, if_neg (by omega)]
      case measure => simp [intOf]; omega
    · obtain rfl : k = n := by omega
      have HROW : Hid (wr.rowIs (w.heap.size + 1) 3 k fun j => .int .i64 (j : Int)) := hr.out.congr fun i hi => by rw [if_pos hi]
      have HB0 : Hid (RowKit.Below w.heap.size w wr) := ((RowKit.Below.refl w.heap.size w).alloc (Nat.le_refl _) _).trans (hb.out.mono (Nat.le_succ _))
      have HV' := Lib.hid (HV.out.below HB0.out)
      cases k with
      | zero =>
        go_wp2_with (go_at_call 108; refine (f108_zero _ _ _ _ _).mono ?_; rintro e w1 ⟨rfl, rfl⟩)
        go_ret
        have : l = [] := List.eq_nil_of_length_eq_zero HN.out.symm
        subst this
        exact ⟨_, [], rfl, ⟨_, 0, rfl, by simp, .inl rfl⟩, Ordered.nil _, HB0.out⟩
      | succ m =>
        have HC := Lib.hid (f108_some hm wr D _ l w.heap.size (w.heap.size + 1) m (m + 1) HV'.out hcB HN.out.symm H40.out (by omega) (fun b hb => by have := hD b hb; omega) HROW.out)
        go_wp2_with (go_at_call 108; refine HC.out.mono ?_; rintro e w1 ⟨rfl, hst⟩; have HS := Lib.hid hst; clear hst)
        go_ret
        obtain ⟨xs, h1, h2, _, d', _, h3⟩ := stab_ints (cap := m + 1) HROW.out HN.out.symm H40.out HS.out
        refine ⟨_, xs, rfl, ?_, h2, sw_below h3 HB0.out (by omega)⟩
        obtain ⟨a', c', e1, e2, e3⟩ := h1
        refine ⟨a', c', e1, e2, ?_⟩
        rcases e3 with e3 | ⟨b, off, e4, e5, e6⟩
        · exact .inl e3
        · exact .inr ⟨b, off, e4, by rw [e5]; omega, e6⟩
end leaves
end Go.Proofs.YtimahogkcmmcnaaGreatDoor
