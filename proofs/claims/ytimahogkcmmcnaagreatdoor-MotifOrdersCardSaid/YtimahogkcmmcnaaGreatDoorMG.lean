/-
  Both sides' Order, the law's small parts: part 16. Conditions: the schema and the events lie in the world as the words say.
-/
import Derived.Test.YtimahogkcmmcnaaGreatDoorMF
set_option linter.unusedSimpArgs false
set_option linter.unusedVariables false
namespace Go.Proofs.YtimahogkcmmcnaaGreatDoor
open Go.RowKit Go.Proofs.YtimahogkcmmcnaaGreatDoor.Cmps

def okB (s : List Col) (l : List Evt) : Bool := validSchema s && eventsB s l

def OrdRes (w : World) (s : List Col) (l : List Evt) (e : Ending) (w' : World) : Prop :=
  ∃ r xs, e = .returned (.tuple #[r, .int .i64 (if okB s l then 0 else 1)]) ∧ IntsAt w' (fun b => w.heap.size ≤ b) r xs ∧ (if okB s l then Ordered (cN l) l.length xs else xs = []) ∧ Below w.heap.size w w'

theorem ints_nil (w : World) (D : Nat → Prop) : IntsAt w D (.slice none 0 0) [] := ⟨none, 0, rfl, by simp, .inl rfl⟩

theorem ok_len {s : List Col} {l : List Evt} (h : eventsB s l = true) : l.length ≤ 40 := by
  unfold eventsB at h
  simp only [Bool.and_eq_true, decide_eq_true_eq] at h
  exact h.1

theorem ret_tup {r : Value} {a b : Int} (h : a = b) : Ending.returned (.tuple #[r, .int .i64 a]) = .returned (.tuple #[r, .int .i64 b]) := by rw [h]

section leaves
set_option maxHeartbeats 1000000
set_option maxRecDepth 10000

theorem f10_any (hm : Tryz.prog.follows .mixedOrders = true) (w : World) (D D' : Nat → Prop) (v v' : Value) (s : List Col) (l : List Evt) (hs : SchemaAt w D v s) (hl : EvtsAt w D' v' l) (hD : ∀ b, D' b → b < w.heap.size) :
    Calls Tryz.prog 10 #[v, v'] w (OrdRes w s l) := by
  have H36 := Lib.hid (f36_any w D v s hs)
  have H37 : Hid (∀ W, Below w.heap.size w W → Calls Tryz.prog 37 #[v, v'] W fun e w' => e = .returned (.bool (eventsB s l)) ∧ Below W.heap.size W w') := fun W hb => f37_any hm W D D' v v' s l (hs.below hb) (hl.below hb)
  have H38 : Hid (∀ W, Below w.heap.size w W → l.length ≤ 40 → Calls Tryz.prog 38 #[v'] W (Gives W l)) := fun W hb h40 => f38_any hm W D' v' l (hl.below hb) (fun b h => Nat.lt_of_lt_of_le (hD b h) hb.size) h40
  obtain ⟨a, cap, hv⟩ : ∃ a cap, v = .slice a s.length cap := by
    obtain ⟨a, cap, hv, _⟩ := hs; exact ⟨a, cap, hv⟩
  obtain ⟨a', cap', hv'⟩ : ∃ a cap, v' = .slice a l.length cap := by
    obtain ⟨a, cap, hv, _⟩ := hl; exact ⟨a, cap, hv⟩
  clear hs hl
  subst hv hv'
  cases h1 : validSchema s <;> rw [h1] at H36
  · have hk : okB s l = false := by simp [okB, h1]
    go_enter Tryz.func10, Tryz.ntmps10
    go_wp2_with (go_at_call 36; refine H36.out.mono ?_; rintro e w1 ⟨rfl, hb1⟩; have HB1 := Lib.hid hb1; clear hb1)
    refine bodyPost_ret (v := .tuple #[.slice none 0 0, .int .i64 1]) (by simp [results, Tryz.results10, go_sem]) rfl ?_
    exact ⟨_, [], by rw [hk]; rfl, ints_nil _ _, by rw [hk]; rfl, HB1.out⟩
  · cases h2 : eventsB s l <;> rw [h2] at H37
    · have hk : okB s l = false := by simp [okB, h1, h2]
      go_enter Tryz.func10, Tryz.ntmps10
      go_wp2_with (first
        | (go_at_call 36; refine H36.out.mono ?_; rintro e w1 ⟨rfl, hb1⟩; have HB1 := Lib.hid hb1; clear hb1)
        | (go_at_call 37; refine (H37.out _ HB1.out).mono ?_; rintro e w2 ⟨rfl, hb2⟩; have HB2 := Lib.hid (below_then HB1.out hb2); clear hb2))
      refine bodyPost_ret (v := .tuple #[.slice none 0 0, .int .i64 1]) (by simp [results, Tryz.results10, go_sem]) rfl ?_
      exact ⟨_, [], by rw [hk]; rfl, ints_nil _ _, by rw [hk]; rfl, HB2.out⟩
    · have hk : okB s l = true := by simp [okB, h1, h2]
      have h40 := ok_len h2
      go_enter Tryz.func10, Tryz.ntmps10
      go_wp2_with (first
        | (go_at_call 36; refine H36.out.mono ?_; rintro e w1 ⟨rfl, hb1⟩; have HB1 := Lib.hid hb1; clear hb1)
        | (go_at_call 37; refine (H37.out _ HB1.out).mono ?_; rintro e w2 ⟨rfl, hb2⟩; have HB2 := Lib.hid (below_then HB1.out hb2); clear hb2)
        | (go_at_call 38; refine (H38.out _ HB2.out h40).mono ?_; rintro e w3 ⟨r, xs, rfl, hi, ho, hb3⟩; have HI := Lib.hid (And.intro hi (And.intro ho hb3)); clear hi ho hb3))
      refine bodyPost_ret (v := .tuple #[r, .int .i64 0]) (by simp [results, Tryz.results10, go_sem]) rfl ?_
      obtain ⟨hi, ho, hb3⟩ := HI.out
      refine ⟨_, xs, by rw [hk]; rfl, ?_, by rw [hk]; exact ho, below_then HB2.out hb3⟩
      obtain ⟨p, c, e1, e2, e3⟩ := hi
      refine ⟨p, c, e1, e2, ?_⟩
      rcases e3 with e3 | ⟨b, off, e4, e5, e6⟩
      · exact .inl e3
      · exact .inr ⟨b, off, e4, Nat.le_trans HB2.out.size e5, e6⟩
theorem f11_any (hm : Tryz.prog.follows .mixedOrders = true) (w : World) (D D' : Nat → Prop) (v v' : Value) (s : List Col) (l : List Evt) (hs : SchemaAt w D v s) (hl : EvtsAt w D' v' l) :
    Calls Tryz.prog 11 #[v, v'] w (OrdRes w s l) := by
  have H36 : Hid (Calls Tryz.prog 39 #[v] w fun e w' => e = .returned (.bool (validSchema s)) ∧ Below w.heap.size w w') := (f39_any hm w D v s hs).mono fun _ _ ⟨a, b⟩ => ⟨a, b.grew.below⟩
  have H37 : Hid (∀ W, Below w.heap.size w W → Calls Tryz.prog 40 #[v, v'] W fun e w' => e = .returned (.bool (eventsB s l)) ∧ Below W.heap.size W w') := fun W hb => f40_any hm W D D' v v' s l (hs.below hb) (hl.below hb)
  have H38 : Hid (∀ W, Below w.heap.size w W → l.length ≤ 40 → Calls Tryz.prog 41 #[v'] W (Gives W l)) := fun W hb h40 => (f41_any hm W D' v' l (hl.below hb) h40).mono fun e w' ⟨r, xs, blk, e1, ho⟩ => ⟨r, xs, e1, ho.at_ (by omega), ho.ord, ho.below⟩
  obtain ⟨a, cap, hv⟩ : ∃ a cap, v = .slice a s.length cap := by
    obtain ⟨a, cap, hv, _⟩ := hs; exact ⟨a, cap, hv⟩
  obtain ⟨a', cap', hv'⟩ : ∃ a cap, v' = .slice a l.length cap := by
    obtain ⟨a, cap, hv, _⟩ := hl; exact ⟨a, cap, hv⟩
  clear hs hl
  subst hv hv'
  cases h1 : validSchema s <;> rw [h1] at H36
  · have hk : okB s l = false := by simp [okB, h1]
    go_enter Tryz.func11, Tryz.ntmps11
    go_wp2_with (go_at_call 39; refine H36.out.mono ?_; rintro e w1 ⟨rfl, hb1⟩; have HB1 := Lib.hid hb1; clear hb1)
    refine bodyPost_ret (v := .tuple #[.slice none 0 0, .int .i64 1]) (by simp [results, Tryz.results11, go_sem]) rfl ?_
    exact ⟨_, [], by rw [hk]; rfl, ints_nil _ _, by rw [hk]; rfl, HB1.out⟩
  · cases h2 : eventsB s l <;> rw [h2] at H37
    · have hk : okB s l = false := by simp [okB, h1, h2]
      go_enter Tryz.func11, Tryz.ntmps11
      go_wp2_with (first
        | (go_at_call 39; refine H36.out.mono ?_; rintro e w1 ⟨rfl, hb1⟩; have HB1 := Lib.hid hb1; clear hb1)
        | (go_at_call 40; refine (H37.out _ HB1.out).mono ?_; rintro e w2 ⟨rfl, hb2⟩; have HB2 := Lib.hid (below_then HB1.out hb2); clear hb2))
      refine bodyPost_ret (v := .tuple #[.slice none 0 0, .int .i64 1]) (by simp [results, Tryz.results11, go_sem]) rfl ?_
      exact ⟨_, [], by rw [hk]; rfl, ints_nil _ _, by rw [hk]; rfl, HB2.out⟩
    · have hk : okB s l = true := by simp [okB, h1, h2]
      have h40 := ok_len h2
      go_enter Tryz.func11, Tryz.ntmps11
      go_wp2_with (first
        | (go_at_call 39; refine H36.out.mono ?_; rintro e w1 ⟨rfl, hb1⟩; have HB1 := Lib.hid hb1; clear hb1)
        | (go_at_call 40; refine (H37.out _ HB1.out).mono ?_; rintro e w2 ⟨rfl, hb2⟩; have HB2 := Lib.hid (below_then HB1.out hb2); clear hb2)
        | (go_at_call 41; refine (H38.out _ HB2.out h40).mono ?_; rintro e w3 ⟨r, xs, rfl, hi, ho, hb3⟩; have HI := Lib.hid (And.intro hi (And.intro ho hb3)); clear hi ho hb3))
      refine bodyPost_ret (v := .tuple #[r, .int .i64 0]) (by simp [results, Tryz.results11, go_sem]) rfl ?_
      obtain ⟨hi, ho, hb3⟩ := HI.out
      refine ⟨_, xs, by rw [hk]; rfl, ?_, by rw [hk]; exact ho, below_then HB2.out hb3⟩
      obtain ⟨p, c, e1, e2, e3⟩ := hi
      refine ⟨p, c, e1, e2, ?_⟩
      rcases e3 with e3 | ⟨b, off, e4, e5, e6⟩
      · exact .inl e3
      · exact .inr ⟨b, off, e4, Nat.le_trans HB2.out.size e5, e6⟩

theorem f12_any (hm : Tryz.prog.follows .mixedOrders = true) (w : World) (D D' : Nat → Prop) (v v' : Value) (xs : List Nat) (h : IntsAt w D v xs) (h' : IntsAt w D' v' xs) :
    Calls Tryz.prog 12 #[v, v'] w fun e w' => e = .returned (.bool true) ∧ Drew w w' := by
  have mixed := hm
  obtain ⟨a, cap, rfl, hl, hx⟩ := h
  obtain ⟨a', cap', rfl, hl', hx'⟩ := h'
  go_enter Tryz.func12, Tryz.ntmps12
  go_wp2
  go_loopw [5] (fun i wr => ∃ k : Nat, k ≤ xs.length ∧ i = .int .i64 k ∧ Hid (Drew w wr)) (fun i _ => xs.length - (intOf i).toNat)
  case atStart => exact ⟨0, by omega, rfl, Lib.hid (Drew.refl _)⟩
  case round =>
    obtain ⟨k, hk, rfl, hq⟩ := hrel
    by_cases hlt : k < xs.length
    · rcases hx with rfl | ⟨b, off, rfl, hb, hc⟩
      · simp at hlt
      rcases hx' with rfl | ⟨b', off', rfl, hb', hc'⟩
      · simp at hlt
      have x0 := hc k hlt
      have y0 := hc' k hlt
      rw [← hq.out.cell] at x0 y0
      have g1 : (0 : Int) ≤ (k : Int) := by omega
      have g2 : (k : Int) < (xs.length : Int) := by omega
      clear hc hc'
      go_wp2_with fail
      go_quiet (fail)
      go_wp2_with fail
      go_roundw
      case rel => exact ⟨k + 1, by omega, by go_num, Lib.hid (hq.out.more _)⟩
      case measure => simp [intOf]; omega
    · go_wp2
      go_ret
      exact ⟨rfl, hq.out⟩

theorem f9_any (w : World) (D : Nat → Prop) (B : Nat) (r : Value) (row : List Val) (hB : w.cell? ⟨B, 0, none⟩ = some r) (hr : RowAt w D r row) :
    Calls Tryz.prog 9 #[.slice (some ⟨B, 0, none⟩) 1 1] w fun e w' => (∃ b, e = .returned (.bool b)) ∧ w = w' := by
  obtain ⟨a, cap, rfl, hl, hx⟩ := hr
  go_enter Tryz.func9, Tryz.ntmps9
  go_wp2
  refine wp_loop_rounds 2 ?_
  rw [rounds_succ]
  go_wp2_with fail
  go_loopw [3, 5] (fun z i wr => ∃ (k : Nat) (zz : Int), k ≤ row.length ∧ z = .int .i64 zz ∧ i = .int .i64 k ∧ w = wr) (fun _ i _ => row.length - (intOf i).toNat)
  case atStart => exact ⟨0, _, by omega, rfl, rfl, rfl⟩
  case round =>
    obtain ⟨k, zz, hk, rfl, rfl, rfl⟩ := hrel
    by_cases hlt : k < row.length
    · rcases hx with rfl | ⟨b, off, rfl, hb, hc⟩
      · simp at hlt
      obtain ⟨x0, x1, x2⟩ := hc k hlt
      clear hc
      go_wp2_with fail
      go_roundw
      case rel => exact ⟨k + 1, _, by omega, rfl, by go_num, trivial⟩
      case measure => simp [intOf]; omega
    · go_wp2_with fail
      rw [rounds_succ]
      go_wp2_with fail
      go_ret
      exact ⟨⟨_, rfl⟩, rfl⟩
end leaves
end Go.Proofs.YtimahogkcmmcnaaGreatDoor
