/-
  The well, part 1: events and splits that are right, what both sides answer. Conditions: the schema and the events lie in the world as the words say. The well, part 2: splits that are valid, what both sides answer. Conditions: the schema and the events lie in the world as the words say. The well, part 3: its model, how the reference's well lies in memory, and the reference's small functions. Conditions: the well lies in the world as the words say.
-/
import Derived.Test.YtimahogkcmmcnaaGreatDoorK03
set_option linter.unusedSimpArgs false
set_option linter.unusedVariables false

namespace Go.Proofs.YtimahogkcmmcnaaGreatDoor
open Go.RowKit Go.Proofs.YtimahogkcmmcnaaGreatDoor.Cmps

def rightB (s : List Col) (l : List Evt) : Bool := decide (l.length ≤ 400) && l.all (eventB s)

theorem validTime_lo {n : Int} (h : n < -1000000000000) : validTime n = false := by simp only [validTime, withinB]; simp; omega
theorem validTime_hi {n : Int} (h : 1000000000000 < n) : validTime n = false := by simp only [validTime, withinB]; simp; omega
theorem validTime_in {n : Int} (h : ¬ n < -1000000000000) (h' : ¬ 1000000000000 < n) : validTime n = true := by simp only [validTime, withinB]; simp; omega

theorem right_bad {s : List Col} {l : List Evt} {k : Nat} (hk : k < l.length) (h : eventB s l[k] = false) : rightB s l = false := by
  have : l.all (eventB s) = false := by
    rw [List.all_eq_false]; exact ⟨l[k], List.getElem_mem hk, by simp [h]⟩
  rw [rightB, this, Bool.and_false]

section leaves
set_option maxHeartbeats 400000
set_option maxRecDepth 10000

theorem f187_any (hm : Tryz.prog.follows .mixedOrders = true) (w : World) (D D' : Nat → Prop) (v r : Value) (bs : Nat) (s : List Col) (x : Evt) (hv : w.cell? ⟨bs, 0, none⟩ = some v) (hs : SchemaAt w D v s) (hr : RowAt w D' r x.r) :
    Calls Tryz.prog 187 #[.agg #[.int .i64 x.t, r], .pointer (some ⟨bs, 0, none⟩)] w fun e w' => e = .returned (.bool (!eventB s x)) ∧ Below w.heap.size w w' := by
  obtain ⟨a, cap, hv'⟩ : ∃ a cap, v = .slice a s.length cap := by
    obtain ⟨a, cap, hv, _⟩ := hs; exact ⟨a, cap, hv⟩
  obtain ⟨a', cap', hr'⟩ : ∃ a cap, r = .slice a x.r.length cap := by
    obtain ⟨a, cap, hv, _⟩ := hr; exact ⟨a, cap, hv⟩
  have H : Hid (∀ W, Below w.heap.size w W → Calls Tryz.prog 175 #[v, r] W fun e w' => e = .returned (.bool (fitsB s x.r)) ∧ Below W.heap.size W w') :=
    fun W hb => f175_any hm W D D' v r s x.r (hs.below hb) (hr.below hb)
  have HB : Hid (∀ o, Below w.heap.size w (w.alloc o)) := fun o => (Below.refl _ _).alloc (Nat.le_refl _) o
  have hlt := cell_lt hv
  have hbn : ¬ bs = w.heap.size := by omega
  clear hs hr
  subst hv' hr'
  by_cases h1 : x.t < -1000000000000
  · have hE := Lib.hid (validTime_lo h1)
    go_enter Tryz.func187, Tryz.ntmps187
    go_wp2_with fail
    go_ret
    exact ⟨ret_bool (by rw [eventB, hE.out]; rfl), HB.out _⟩
  · by_cases h2 : 1000000000000 < x.t
    · have hE := Lib.hid (validTime_hi h2)
      go_enter Tryz.func187, Tryz.ntmps187
      go_wp2_with fail
      go_ret
      exact ⟨ret_bool (by rw [eventB, hE.out]; rfl), HB.out _⟩
    · have hE := Lib.hid (validTime_in h1 h2)
      go_enter Tryz.func187, Tryz.ntmps187
      go_wp2_with (go_at_call 175; refine (H.out _ (HB.out _)).mono ?_; rintro e w2 ⟨rfl, hb2⟩; have HB2 := Lib.hid hb2; clear hb2)
      go_ret
      exact ⟨ret_bool (by rw [eventB, hE.out]; simp), below_box HB2.out⟩

theorem f173_w (hm : Tryz.prog.follows .mixedOrders = true) (w : World) (D D' : Nat → Prop) (v v' : Value) (bs : Nat) (s : List Col) (l : List Evt) (hv : w.cell? ⟨bs, 0, none⟩ = some v) (hs : SchemaAt w D v s) (hl : EvtsAt w D' v' l) :
    Calls Tryz.prog 173 #[v', .func (.func 187) #[] #[.pointer (some ⟨bs, 0, none⟩)]] w fun e w' => e = .returned (.int .i64 (idxI (fun x => !eventB s x) l)) ∧ Below w.heap.size w w' := by
  have H : Hid (∀ W r x, Below w.heap.size w W → RowAt W D' r x.r → Calls Tryz.prog 187 #[.agg #[.int .i64 x.t, r], .pointer (some ⟨bs, 0, none⟩)] W fun e w' => e = .returned (.bool (!eventB s x)) ∧ Below W.heap.size W w') :=
    fun W r x hb hr => f187_any hm W D D' v r bs s x (by rw [hb.cell (p := ⟨bs, _, none⟩) (cell_lt hv)]; exact hv) (hs.below hb) hr
  clear hv hs
  obtain ⟨a, cap, rfl, hl', hx⟩ := hl
  go_enter Tryz.func173, Tryz.ntmps173
  go_wp2
  go_loopw [8] (fun i wr => ∃ k : Nat, k ≤ l.length ∧ i = .int .i64 k ∧ Hid (∀ j (h : j < l.length), j < k → (!eventB s l[j]) = false) ∧ Hid (Below w.heap.size w wr)) (fun i _ => l.length - (intOf i).toNat)
  case atStart => exact ⟨0, by omega, rfl, Lib.hid (by omega), Lib.hid (Below.refl _ _)⟩
  case round =>
    obtain ⟨k, hk, rfl, hh, hb⟩ := hrel
    by_cases hlt : k < l.length
    · rcases hx with rfl | ⟨b, off, rfl, hbD, hc⟩
      · simp at hlt
      obtain ⟨h0, r, h1, hr⟩ := hc k hlt
      have hbb := cell_lt h0
      rw [← hb.out.cell (p := ⟨b, _, none⟩) hbb] at h0 h1
      have HR := Lib.hid (hr.below hb.out)
      clear hc hr
      go_wp2_with (go_at_call 187; refine (H.out _ r l[k] hb.out HR.out).mono ?_; rintro e w' ⟨rfl, hb1⟩; have HB1 := Lib.hid hb1; clear hb1)
      · have hbad : (!eventB s l[k]) = true := by assumption
        go_ret
        exact ⟨ret_int (idxI_hit hlt hbad hh.out).symm, below_then hb.out HB1.out⟩
      · have hok : (!eventB s l[k]) = false := by assumption
        go_roundw
        case rel =>
          refine ⟨k + 1, by omega, by go_num, Lib.hid fun j hj hjk => ?_, Lib.hid (below_then hb.out HB1.out)⟩
          by_cases e : j = k
          · subst e; exact hok
          · exact hh.out j hj (by omega)
        case measure => simp [intOf]; omega
    · go_wp2
      go_ret
      exact ⟨ret_int (idxI_none (fun j hj => hh.out j hj (by omega))).symm, hb.out⟩

theorem f105_w (hm : Tryz.prog.follows .mixedOrders = true) (w : World) (D D' : Nat → Prop) (v v' : Value) (bs : Nat) (s : List Col) (l : List Evt) (hv : w.cell? ⟨bs, 0, none⟩ = some v) (hs : SchemaAt w D v s) (hl : EvtsAt w D' v' l) :
    Calls Tryz.prog 105 #[v', .func (.func 187) #[] #[.pointer (some ⟨bs, 0, none⟩)]] w fun e w' => e = .returned (.bool (!l.all (eventB s))) ∧ Below w.heap.size w w' := by
  have hc := f173_w hm w D D' v v' bs s l hv hs hl
  have ha : decide (0 ≤ idxI (fun x => !eventB s x) l) = !l.all (eventB s) := by rw [idxI_any, any_not]
  obtain ⟨a, cap, rfl, hl', hx⟩ := hl
  go_enter Tryz.func105, Tryz.ntmps105
  go_wp2_with (go_at_call 173; refine hc.mono ?_; rintro e w' ⟨rfl, hb1⟩)
  go_ret
  exact ⟨rfl, hb1⟩

theorem f131_any (hm : Tryz.prog.follows .mixedOrders = true) (w : World) (D D' : Nat → Prop) (v v' : Value) (s : List Col) (l : List Evt) (hs : SchemaAt w D v s) (hl : EvtsAt w D' v' l) :
    Calls Tryz.prog 131 #[v, v'] w fun e w' => e = .returned (.bool (rightB s l)) ∧ Below w.heap.size w w' := by
  obtain ⟨a, cap, hv⟩ : ∃ a cap, v = .slice a s.length cap := by
    obtain ⟨a, cap, hv, _⟩ := hs; exact ⟨a, cap, hv⟩
  obtain ⟨a', cap', hv'⟩ : ∃ a cap, v' = .slice a l.length cap := by
    obtain ⟨a, cap, hv, _⟩ := hl; exact ⟨a, cap, hv⟩
  have HB : Hid (∀ o, Below w.heap.size w (w.alloc o)) := fun o => (Below.refl _ _).alloc (Nat.le_refl _) o
  have H := Lib.hid (f105_w hm (w.alloc (.cells #[v] 23)) D D' v v' w.heap.size s l (by simp) (hs.below (HB.out _)) (hl.below (HB.out _)))
  have hlen : l.length ≤ 9223372036854775807 := by obtain ⟨_, _, _, h, _⟩ := hl; exact h
  clear hs hl
  subst hv hv'
  by_cases h40 : l.length ≤ 400
  · have h41 : (l.length : Int) ≤ 400 := by omega
    go_enter Tryz.func131, Tryz.ntmps131
    go_wp2_with (go_at_call 105; refine H.out.mono ?_; rintro e w' ⟨rfl, hb1⟩; have HB1 := Lib.hid hb1; clear hb1)
    go_ret
    exact ⟨ret_bool (by rw [rightB, decide_eq_true h40, Bool.true_and]), below_box HB1.out⟩
  · have h41 : ¬ (l.length : Int) ≤ 400 := by omega
    go_enter Tryz.func131, Tryz.ntmps131
    go_wp2_with fail
    go_ret
    exact ⟨ret_bool (by rw [rightB, decide_eq_false h40, Bool.false_and]), HB.out _⟩

theorem f132_any (hm : Tryz.prog.follows .mixedOrders = true) (w : World) (D D' : Nat → Prop) (v v' : Value) (s : List Col) (l : List Evt) (hs : SchemaAt w D v s) (hl : EvtsAt w D' v' l) :
    Calls Tryz.prog 132 #[v, v'] w fun e w' => e = .returned (.bool (rightB s l)) ∧ Below w.heap.size w w' := by
  have H : Hid (∀ (W : World) (r : Value) (x : Evt), Below w.heap.size w W → RowAt W D' r x.r → Calls Tryz.prog 117 #[v, r] W fun e w' => e = .returned (.bool (fitsB s x.r)) ∧ Below W.heap.size W w') :=
    fun W r x hb hr => f117_any hm W D D' v r s x.r (hs.below hb) hr
  obtain ⟨a, cap, hv⟩ : ∃ a cap, v = .slice a s.length cap := by
    obtain ⟨a, cap, hv, _⟩ := hs; exact ⟨a, cap, hv⟩
  clear hs
  subst hv
  obtain ⟨a', cap', rfl, hl', hx⟩ := hl
  go_enter Tryz.func132, Tryz.ntmps132
  go_wp2
  go_loopw [5] (fun i wr => ∃ k : Nat, k ≤ l.length ∧ i = .int .i64 k ∧ Hid (∀ j (h : j < l.length), j < k → eventB s l[j] = true) ∧ Hid (Below w.heap.size w wr)) (fun i _ => l.length - (intOf i).toNat)
  case atStart => exact ⟨0, by omega, rfl, Lib.hid (by omega), Lib.hid (Below.refl _ _)⟩
  case round =>
    obtain ⟨k, hk, rfl, hh, hb⟩ := hrel
    by_cases hlt : k < l.length
    · rcases hx with rfl | ⟨b, off, rfl, hbD, hc⟩
      · simp at hlt
      obtain ⟨h0, r, h1, hr⟩ := hc k hlt
      have hbb := cell_lt h0
      rw [← hb.out.cell (p := ⟨b, _, none⟩) hbb] at h0 h1
      have HR := Lib.hid (hr.below hb.out)
      clear hc hr
      by_cases t1 : l[k].t < -1000000000000
      · have hE := Lib.hid (validTime_lo t1)
        go_wp2_with fail
        go_ret
        exact ⟨ret_bool (right_bad hlt (by rw [eventB, hE.out]; rfl)).symm, hb.out⟩
      · by_cases t2 : 1000000000000 < l[k].t
        · have hE := Lib.hid (validTime_hi t2)
          go_wp2_with fail
          go_ret
          exact ⟨ret_bool (right_bad hlt (by rw [eventB, hE.out]; rfl)).symm, hb.out⟩
        · have hE := Lib.hid (validTime_in t1 t2)
          cases hf : fitsB s l[k].r
          · go_wp2_with (go_at_call 117; refine (H.out _ r l[k] hb.out HR.out).mono ?_; rintro e w' ⟨rfl, hb1⟩; have HB1 := Lib.hid hb1; clear hb1)
            go_ret
            exact ⟨ret_bool (right_bad hlt (by rw [eventB, hE.out, hf]; rfl)).symm, below_then hb.out HB1.out⟩
          · go_wp2_with (go_at_call 117; refine (H.out _ r l[k] hb.out HR.out).mono ?_; rintro e w' ⟨rfl, hb1⟩; have HB1 := Lib.hid hb1; clear hb1)
            go_roundw
            case rel =>
              refine ⟨k + 1, by omega, by go_num, Lib.hid fun j hj hjk => ?_, Lib.hid (below_then hb.out HB1.out)⟩
              by_cases e : j = k
              · subst e; rw [eventB, hE.out, hf]; rfl
              · exact hh.out j hj (by omega)
            case measure => simp [intOf]; omega
    · have hall : l.all (eventB s) = true := by
        rw [List.all_eq_true]
        intro x hx
        obtain ⟨j, hj, rfl⟩ := List.mem_iff_getElem.1 hx
        exact hh.out j hj (by omega)
      have HA := Lib.hid hall
      clear hall
      go_wp2_with fail
      go_ret
      refine ⟨ret_bool ?_, hb.out⟩
      rw [rightB, HA.out, Bool.and_true, decide_eq_decide]
      omega
end leaves
end Go.Proofs.YtimahogkcmmcnaaGreatDoor

namespace Go.Proofs.YtimahogkcmmcnaaGreatDoor
open Go.RowKit Go.Proofs.YtimahogkcmmcnaaGreatDoor.Cmps

def splitB (s : List Col) (nm : ByteArray) (l : List Evt) : Bool := validSchema s && nameB nm && rightB s l

theorem Drew.belowW {w w' : World} (h : Drew w w') : Below w.heap.size w w' := by
  obtain ⟨q, rfl⟩ := h
  exact (Grew.below (a := w) ⟨q, #[], by rw [Sort.grow_empty]⟩)

section leaves
set_option maxHeartbeats 400000
set_option maxRecDepth 10000

theorem f50_any (hm : Tryz.prog.follows .mixedOrders = true) (w : World) (D D' : Nat → Prop) (v v' : Value) (s : List Col) (src nm : ByteArray) (l : List Evt) (hs : SchemaAt w D v s) (hl : EvtsAt w D' v' l) (hn : nm.size ≤ 9223372036854775807) :
    Calls Tryz.prog 50 #[v, .agg #[.string src, .string nm, v']] w fun e w' => e = .returned (.bool (splitB s nm l)) ∧ Below w.heap.size w w' := by
  have H1 : Hid (∀ W, Below w.heap.size w W → Calls Tryz.prog 36 #[v] W fun e w' => e = .returned (.bool (validSchema s)) ∧ Below W.heap.size W w') :=
    fun W hb => (f36_any W D v s (hs.below hb)).mono fun e w' ⟨h, hb1⟩ => ⟨h, hb1⟩
  have H3 : Hid (∀ W, Below w.heap.size w W → Calls Tryz.prog 131 #[v, v'] W fun e w' => e = .returned (.bool (rightB s l)) ∧ Below W.heap.size W w') :=
    fun W hb => f131_any hm W D D' v v' s l (hs.below hb) (hl.below hb)
  have HB : Hid (∀ o, Below w.heap.size w (w.alloc o)) := fun o => (Below.refl _ _).alloc (Nat.le_refl _) o
  have HC : Hid (∀ w1, Below (w.alloc (.cells #[.string src, .string nm, v'] 88)).heap.size (w.alloc (.cells #[.string src, .string nm, v'] 88)) w1 → w1.cell? ⟨w.heap.size, 1, none⟩ = some (.string nm) ∧ w1.cell? ⟨w.heap.size, 2, none⟩ = some v') :=
    fun w1 h => ⟨by rw [h.cell (p := ⟨w.heap.size, 1, none⟩) (by simp)]; simp, by rw [h.cell (p := ⟨w.heap.size, 2, none⟩) (by simp)]; simp⟩
  obtain ⟨a, cap, hv⟩ : ∃ a cap, v = .slice a s.length cap := by
    obtain ⟨a, cap, hv, _⟩ := hs; exact ⟨a, cap, hv⟩
  obtain ⟨a', cap', hv'⟩ : ∃ a cap, v' = .slice a l.length cap := by
    obtain ⟨a, cap, hv, _⟩ := hl; exact ⟨a, cap, hv⟩
  clear hs hl
  subst hv hv'
  obtain ⟨b1, e1⟩ : ∃ b, validSchema s = b := ⟨_, rfl⟩
  obtain ⟨b2, e2⟩ : ∃ b, nameB nm = b := ⟨_, rfl⟩
  have HN : Hid (∀ W, Calls Tryz.prog 103 #[.string nm] W fun e w' => e = .returned (.bool b2) ∧ W = w') := fun W => e2 ▸ f103_any nm hn W
  have HE : Hid (splitB s nm l = (b1 && b2 && rightB s l)) := by show splitB s nm l = _; rw [splitB, e1, e2]
  rw [e1] at H1
  clear e1 e2
  cases b1
  · go_enter Tryz.func50, Tryz.ntmps50
    go_wp2_with (go_at_call 36; with_reducible refine (H1.out _ (HB.out _)).mono ?_; rintro e w1 ⟨rfl, hb1⟩; obtain ⟨c1, c2⟩ := HC.out _ hb1; have HB1 := Lib.hid (below_box hb1); clear hb1)
    go_ret
    exact ⟨ret_bool (by rw [HE.out]; rfl), HB1.out⟩
  · cases b2
    · go_enter Tryz.func50, Tryz.ntmps50
      go_wp2_with (first
        | (go_at_call 36; with_reducible refine (H1.out _ (HB.out _)).mono ?_; rintro e w1 ⟨rfl, hb1⟩; obtain ⟨c1, c2⟩ := HC.out _ hb1; have HB1 := Lib.hid (below_box hb1); clear hb1)
        | (go_at_call 103; with_reducible refine (HN.out _).mono ?_; rintro e w2 ⟨rfl, rfl⟩))
      go_ret
      exact ⟨ret_bool (by rw [HE.out]; rfl), HB1.out⟩
    · go_enter Tryz.func50, Tryz.ntmps50
      go_wp2_with (first
        | (go_at_call 36; with_reducible refine (H1.out _ (HB.out _)).mono ?_; rintro e w1 ⟨rfl, hb1⟩; obtain ⟨c1, c2⟩ := HC.out _ hb1; have HB1 := Lib.hid (below_box hb1); clear hb1)
        | (go_at_call 103; with_reducible refine (HN.out _).mono ?_; rintro e w2 ⟨rfl, rfl⟩)
        | (go_at_call 131; with_reducible refine (H3.out _ HB1.out).mono ?_; rintro e w2 ⟨rfl, hb2⟩; have HB2 := Lib.hid (below_then HB1.out hb2); clear hb2))
      go_ret
      exact ⟨ret_bool (by rw [HE.out]; simp), HB2.out⟩

theorem f51_any (hm : Tryz.prog.follows .mixedOrders = true) (w : World) (D D' : Nat → Prop) (v v' : Value) (s : List Col) (src nm : ByteArray) (l : List Evt) (hs : SchemaAt w D v s) (hl : EvtsAt w D' v' l) (hn : nm.size ≤ 9223372036854775807) :
    Calls Tryz.prog 51 #[v, .agg #[.string src, .string nm, v']] w fun e w' => e = .returned (.bool (splitB s nm l)) ∧ Below w.heap.size w w' := by
  have H1 : Hid (∀ W, Below w.heap.size w W → Calls Tryz.prog 39 #[v] W fun e w' => e = .returned (.bool (validSchema s)) ∧ Below W.heap.size W w') :=
    fun W hb => (f39_any hm W D v s (hs.below hb)).mono fun e w' ⟨h, hb1⟩ => ⟨h, hb1.belowW⟩
  have H3 : Hid (∀ W, Below w.heap.size w W → Calls Tryz.prog 132 #[v, v'] W fun e w' => e = .returned (.bool (rightB s l)) ∧ Below W.heap.size W w') :=
    fun W hb => f132_any hm W D D' v v' s l (hs.below hb) (hl.below hb)
  have HB : Hid (∀ o, Below w.heap.size w (w.alloc o)) := fun o => (Below.refl _ _).alloc (Nat.le_refl _) o
  have HC : Hid (∀ w1, Below (w.alloc (.cells #[.string src, .string nm, v'] 88)).heap.size (w.alloc (.cells #[.string src, .string nm, v'] 88)) w1 → w1.cell? ⟨w.heap.size, 1, none⟩ = some (.string nm) ∧ w1.cell? ⟨w.heap.size, 2, none⟩ = some v') :=
    fun w1 h => ⟨by rw [h.cell (p := ⟨w.heap.size, 1, none⟩) (by simp)]; simp, by rw [h.cell (p := ⟨w.heap.size, 2, none⟩) (by simp)]; simp⟩
  obtain ⟨a, cap, hv⟩ : ∃ a cap, v = .slice a s.length cap := by
    obtain ⟨a, cap, hv, _⟩ := hs; exact ⟨a, cap, hv⟩
  obtain ⟨a', cap', hv'⟩ : ∃ a cap, v' = .slice a l.length cap := by
    obtain ⟨a, cap, hv, _⟩ := hl; exact ⟨a, cap, hv⟩
  clear hs hl
  subst hv hv'
  obtain ⟨b1, e1⟩ : ∃ b, validSchema s = b := ⟨_, rfl⟩
  obtain ⟨b2, e2⟩ : ∃ b, nameB nm = b := ⟨_, rfl⟩
  have HN : Hid (∀ W, Calls Tryz.prog 113 #[.string nm] W fun e w' => e = .returned (.bool b2) ∧ W = w') := fun W => e2 ▸ f113_any nm hn W
  have HE : Hid (splitB s nm l = (b1 && b2 && rightB s l)) := by show splitB s nm l = _; rw [splitB, e1, e2]
  rw [e1] at H1
  clear e1 e2
  cases b1
  · go_enter Tryz.func51, Tryz.ntmps51
    go_wp2_with (go_at_call 39; with_reducible refine (H1.out _ (HB.out _)).mono ?_; rintro e w1 ⟨rfl, hb1⟩; obtain ⟨c1, c2⟩ := HC.out _ hb1; have HB1 := Lib.hid (below_box hb1); clear hb1)
    go_ret
    exact ⟨ret_bool (by rw [HE.out]; rfl), HB1.out⟩
  · cases b2
    · go_enter Tryz.func51, Tryz.ntmps51
      go_wp2_with (first
        | (go_at_call 39; with_reducible refine (H1.out _ (HB.out _)).mono ?_; rintro e w1 ⟨rfl, hb1⟩; obtain ⟨c1, c2⟩ := HC.out _ hb1; have HB1 := Lib.hid (below_box hb1); clear hb1)
        | (go_at_call 113; with_reducible refine (HN.out _).mono ?_; rintro e w2 ⟨rfl, rfl⟩))
      go_ret
      exact ⟨ret_bool (by rw [HE.out]; rfl), HB1.out⟩
    · go_enter Tryz.func51, Tryz.ntmps51
      go_wp2_with (first
        | (go_at_call 39; with_reducible refine (H1.out _ (HB.out _)).mono ?_; rintro e w1 ⟨rfl, hb1⟩; obtain ⟨c1, c2⟩ := HC.out _ hb1; have HB1 := Lib.hid (below_box hb1); clear hb1)
        | (go_at_call 113; with_reducible refine (HN.out _).mono ?_; rintro e w2 ⟨rfl, rfl⟩)
        | (go_at_call 132; with_reducible refine (H3.out _ HB1.out).mono ?_; rintro e w2 ⟨rfl, hb2⟩; have HB2 := Lib.hid (below_then HB1.out hb2); clear hb2))
      go_ret
      exact ⟨ret_bool (by rw [HE.out]; simp), HB2.out⟩
end leaves
end Go.Proofs.YtimahogkcmmcnaaGreatDoor

namespace Go.Proofs.YtimahogkcmmcnaaGreatDoor
open Go.RowKit Go.Proofs.YtimahogkcmmcnaaGreatDoor.Cmps

/-- A split. -/
structure SpM where
  name : ByteArray
  owner : Nat
  evs : List Evt
  read : Nat
  gauge : Int
  sealed : Bool

/-- No more comes of it. -/
def SpM.done (x : SpM) : Bool := x.sealed && ((x.read : Int) == (x.evs.length : Int))

/-- A well. -/
structure WlM where
  bound : Int
  splits : List SpM
  marks : List Int
  sealed : Bool
  late : List Evt

def allN (l : List SpM) : Nat := (l.map fun x => x.evs.length).sum

theorem allN_take {l : List SpM} {k : Nat} (h : k < l.length) : allN (l.take (k + 1)) = allN (l.take k) + l[k].evs.length := by
  unfold allN
  rw [← List.take_append_getElem h]
  simp only [List.map_append, List.sum_append, List.map_cons, List.map_nil, List.sum_cons, List.sum_nil, Nat.add_zero]

theorem allN_le (l : List SpM) (k : Nat) : allN (l.take k) ≤ allN l := by
  have h : allN l = allN (l.take k) + allN (l.drop k) := by
    unfold allN
    rw [← List.sum_append, ← List.map_append, List.take_append_drop]
  omega

/-- The numbers are in their bounds. -/
structure WOk (m : WlM) : Prop where
  splits : m.splits.length ≤ 50
  all : allN m.splits ≤ 400
  read : ∀ x ∈ m.splits, x.read ≤ x.evs.length
  owner : ∀ x ∈ m.splits, x.owner < m.marks.length
  lo : 1 ≤ m.marks.length
  hi : m.marks.length ≤ 16
  bound : 0 ≤ m.bound ∧ m.bound ≤ 1000000000
  gauge : ∀ x ∈ m.splits, -1000000000000 ≤ x.gauge ∧ x.gauge ≤ 1000000000001
  marks : ∀ x ∈ m.marks, -1000000000000 ≤ x ∧ x ≤ 1000000000001
  name : ∀ x ∈ m.splits, x.name.size ≤ 16
  time : ∀ x ∈ m.splits, ∀ y ∈ x.evs, -1000000000000 ≤ y.t ∧ y.t ≤ 1000000000000

/-- v reads in w as numbers. -/
def NumsAt (w : World) (D : Nat → Prop) (v : Value) (l : List Int) : Prop :=
  ∃ a cap, v = .slice a l.length cap ∧ (l = [] ∨ ∃ b off, a = some ⟨b, off, none⟩ ∧ D b ∧ ∀ i, (h : i < l.length) → w.cell? ⟨b, off + i, none⟩ = some (.int .i64 l[i]))

/-- A split's cells, the events' value open. -/
def spC (x : SpM) (ev : Value) : List Value := [.string x.name, .int .i64 x.owner, ev, .int .i64 x.read, .int .i64 x.gauge, .bool x.sealed]

/-- v reads in w as splits (of the reference). -/
def SplsAt (w : World) (D : Nat → Prop) (v : Value) (l : List SpM) : Prop :=
  ∃ a cap, v = .slice a l.length cap ∧ (l = [] ∨ ∃ b off, a = some ⟨b, off, none⟩ ∧ D b ∧ ∀ i, (h : i < l.length) → ∃ ev, EvtsAt w D ev l[i].evs ∧
    w.cell? ⟨b, off + i * 6, none⟩ = some (.string l[i].name) ∧ w.cell? ⟨b, off + i * 6 + 1, none⟩ = some (.int .i64 l[i].owner) ∧ w.cell? ⟨b, off + i * 6 + 2, none⟩ = some ev ∧
    w.cell? ⟨b, off + i * 6 + 3, none⟩ = some (.int .i64 l[i].read) ∧ w.cell? ⟨b, off + i * 6 + 4, none⟩ = some (.int .i64 l[i].gauge) ∧ w.cell? ⟨b, off + i * 6 + 5, none⟩ = some (.bool l[i].sealed))

/-- What holds the lists of a reference's well. -/
structure RS where
  sch : Value
  spl : Option Addr × Nat
  mks : Option Addr × Nat
  back : Value

/-- A reference's well, as a value. -/
abbrev refV (m : WlM) (p : RS) : Value :=
  .agg #[p.sch, .int .i64 m.bound, .slice p.spl.1 m.splits.length p.spl.2, .slice p.mks.1 m.marks.length p.mks.2, .bool m.sealed, p.back]

structure RefAt (w : World) (D : Nat → Prop) (s : List Col) (m : WlM) (p : RS) : Prop where
  sch : SchemaAt w D p.sch s
  spl : SplsAt w D (.slice p.spl.1 m.splits.length p.spl.2) m.splits
  mks : NumsAt w D (.slice p.mks.1 m.marks.length p.mks.2) m.marks
  back : EvtsAt w D p.back m.late

section keeping
variable {w w' : World} {D : Nat → Prop}

theorem NumsAt.keep {v : Value} {l : List Int} (h : NumsAt w D v l) (hk : ∀ b, D b → b < w.heap.size → w'.heap[b]? = w.heap[b]?) : NumsAt w' D v l := by
  obtain ⟨a, cap, rfl, hx⟩ := h
  refine ⟨a, cap, rfl, ?_⟩
  rcases hx with rfl | ⟨b, off, rfl, hb, hc⟩
  · exact .inl rfl
  · refine .inr ⟨b, off, rfl, hb, fun i hi => ?_⟩
    have h0 := hc i hi
    rw [cell_keep (hk b hb (cell_lt h0))]
    exact h0

theorem SplsAt.keep {v : Value} {l : List SpM} (h : SplsAt w D v l) (hk : ∀ b, D b → b < w.heap.size → w'.heap[b]? = w.heap[b]?) : SplsAt w' D v l := by
  obtain ⟨a, cap, rfl, hx⟩ := h
  refine ⟨a, cap, rfl, ?_⟩
  rcases hx with rfl | ⟨b, off, rfl, hb, hc⟩
  · exact .inl rfl
  · refine .inr ⟨b, off, rfl, hb, fun i hi => ?_⟩
    obtain ⟨ev, he, h0, h1, h2, h3, h4, h5⟩ := hc i hi
    have hh := cell_keep (hk b hb (cell_lt h0))
    exact ⟨ev, he.keep hk, by rw [hh]; exact h0, by rw [hh]; exact h1, by rw [hh]; exact h2, by rw [hh]; exact h3, by rw [hh]; exact h4, by rw [hh]; exact h5⟩

theorem RefAt.keep {s : List Col} {m : WlM} {p : RS} (h : RefAt w D s m p) (hk : ∀ b, D b → b < w.heap.size → w'.heap[b]? = w.heap[b]?) : RefAt w' D s m p :=
  ⟨h.sch.keep hk, h.spl.keep hk, h.mks.keep hk, h.back.keep hk⟩
theorem RefAt.below {s : List Col} {m : WlM} {p : RS} (h : RefAt w D s m p) (hb : Below w.heap.size w w') : RefAt w' D s m p :=
  h.keep fun b _ hlt => hb.block b hlt
theorem NumsAt.below {v : Value} {l : List Int} (h : NumsAt w D v l) (hb : Below w.heap.size w w') : NumsAt w' D v l :=
  h.keep fun b _ hlt => hb.block b hlt
theorem SplsAt.below {v : Value} {l : List SpM} (h : SplsAt w D v l) (hb : Below w.heap.size w w') : SplsAt w' D v l :=
  h.keep fun b _ hlt => hb.block b hlt

theorem NumsAt.at {a : Option Addr} {cap : Nat} {l : List Int} (h : NumsAt w D (.slice a l.length cap) l) {k : Nat} (hk : k < l.length) :
    ∃ b off, a = some ⟨b, off, none⟩ ∧ b < w.heap.size ∧ w.cell? ⟨b, off + k, none⟩ = some (.int .i64 l[k]) := by
  obtain ⟨a', cap', hv, hx⟩ := h
  injection hv with hv _ _
  subst hv
  obtain ⟨b, off, rfl, hD, hc⟩ := hx.resolve_left (fun e => by rw [e] at hk; simp at hk)
  exact ⟨b, off, rfl, cell_lt (hc k hk), hc k hk⟩

theorem SplsAt.at {a : Option Addr} {cap : Nat} {l : List SpM} (h : SplsAt w D (.slice a l.length cap) l) {k : Nat} (hk : k < l.length) :
    ∃ b off e1 e2, a = some ⟨b, off, none⟩ ∧ b < w.heap.size ∧ EvtsAt w D (.slice e1 l[k].evs.length e2) l[k].evs ∧
    w.cell? ⟨b, off + k * 6, none⟩ = some (.string l[k].name) ∧ w.cell? ⟨b, off + k * 6 + 1, none⟩ = some (.int .i64 l[k].owner) ∧ w.cell? ⟨b, off + k * 6 + 2, none⟩ = some (.slice e1 l[k].evs.length e2) ∧
    w.cell? ⟨b, off + k * 6 + 3, none⟩ = some (.int .i64 l[k].read) ∧ w.cell? ⟨b, off + k * 6 + 4, none⟩ = some (.int .i64 l[k].gauge) ∧ w.cell? ⟨b, off + k * 6 + 5, none⟩ = some (.bool l[k].sealed) := by
  obtain ⟨a', cap', hv, hx⟩ := h
  injection hv with hv _ _
  subst hv
  obtain ⟨b, off, rfl, hD, hc⟩ := hx.resolve_left (fun e => by rw [e] at hk; simp at hk)
  obtain ⟨ev, he, h0, h1, h2, h3, h4, h5⟩ := hc k hk
  have he' := he
  obtain ⟨e1, e2, e, _⟩ := he'
  subst e
  exact ⟨b, off, e1, e2, rfl, cell_lt h0, he, h0, h1, h2, h3, h4, h5⟩
end keeping

def findI (l : List SpM) (n : ByteArray) : Int := idxI (fun x => eqS x.name n) l

section leaves
set_option maxHeartbeats 400000
set_option maxRecDepth 10000

theorem f89_any (x : SpM) (a : Option Addr) (cap : Nat) (w : World) :
    Calls Tryz.prog 89 #[.agg #[.string x.name, .int .i64 x.owner, .slice a x.evs.length cap, .int .i64 x.read, .int .i64 x.gauge, .bool x.sealed]] w fun e w' => e = .returned (.bool x.done) ∧ Below w.heap.size w w' := by
  have HB : Hid (∀ o, Below w.heap.size w (w.alloc o)) := fun o => (Below.refl _ _).alloc (Nat.le_refl _) o
  obtain ⟨b, hb⟩ : ∃ b, x.sealed = b := ⟨_, rfl⟩
  have HD : Hid (x.done = (b && ((x.read : Int) == (x.evs.length : Int)))) := by show x.done = _; rw [SpM.done, hb]
  rw [hb]
  clear hb
  cases b
  · go_enter Tryz.func89, Tryz.ntmps89
    go_wp2_with fail
    go_ret
    exact ⟨ret_bool (by rw [HD.out]; rfl), HB.out _⟩
  · go_enter Tryz.func89, Tryz.ntmps89
    go_wp2_with fail
    go_ret
    exact ⟨ret_bool (by rw [HD.out]; simp), HB.out _⟩

theorem f88_any (w : World) (D : Nat → Prop) (s : List Col) (m : WlM) (p : RS) (nm : ByteArray) (h : RefAt w D s m p) (hok : WOk m) :
    Calls Tryz.prog 88 #[refV m p, .string nm] w fun e w' => e = .returned (.int .i64 (findI m.splits nm)) ∧ Below w.heap.size w w' := by
  have HB : Hid (∀ o, Below w.heap.size w (w.alloc o)) := fun o => (Below.refl _ _).alloc (Nat.le_refl _) o
  obtain ⟨sch, ⟨sa, sc⟩, ⟨ma, mc⟩, back⟩ := p
  have HS := Lib.hid h.spl
  dsimp only at HS
  have h50 := hok.splits
  clear h hok
  go_enter Tryz.func88, Tryz.ntmps88
  go_wp2_with fail
  go_loopw [5] (fun i wr => ∃ k : Nat, k ≤ m.splits.length ∧ i = .int .i64 k ∧ Hid (∀ j (h : j < m.splits.length), j < k → eqS m.splits[j].name nm = false) ∧ w.alloc (.cells #[sch, .int .i64 m.bound, .slice sa m.splits.length sc, .slice ma m.marks.length mc, .bool m.sealed, back] 45) = wr) (fun i _ => m.splits.length - (intOf i).toNat)
  case atStart => exact ⟨0, by omega, rfl, Lib.hid (by omega), rfl⟩
  case round =>
    obtain ⟨k, hk, rfl, hv, rfl⟩ := hrel
    by_cases hlt : k < m.splits.length
    · obtain ⟨b, off, e1, e2, rfl, hbw, -, x0, -⟩ := (HS.out.below (HB.out (.cells #[sch, .int .i64 m.bound, .slice sa m.splits.length sc, .slice ma m.marks.length mc, .bool m.sealed, back] 45))).at hlt
      go_wp2_with fail
      · rename_i he
        go_ret
        exact ⟨ret_int (idxI_hit (p := fun x : SpM => eqS x.name nm) hlt he (fun j hj hjk => hv.out j hj hjk)).symm, HB.out _⟩
      · rename_i he
        go_roundw
        case rel =>
          refine ⟨k + 1, by omega, by go_num, Lib.hid fun j hj hjk => ?_, trivial⟩
          by_cases e : j = k
          · subst e; exact he
          · exact hv.out j hj (by omega)
        case measure => simp [intOf]; omega
    · go_wp2_with fail
      go_ret
      exact ⟨ret_int (idxI_none (p := fun x : SpM => eqS x.name nm) (fun j hj => hv.out j hj (by omega))).symm, HB.out _⟩
end leaves
end Go.Proofs.YtimahogkcmmcnaaGreatDoor

