/-
  Events that are right, what both sides' Fits answers, part 10. Conditions: the schema and the events lie in the world as the words say.
-/
import Derived.Test.YtimahogkcmmcnaaGreatDoorM9
set_option linter.unusedSimpArgs false
set_option linter.unusedVariables false
namespace Go.Proofs.YtimahogkcmmcnaaGreatDoor
open Go.RowKit Go.Proofs.YtimahogkcmmcnaaGreatDoor.Cmps

def idxI {α : Type} (p : α → Bool) (l : List α) : Int := match l.findIdx? p with | some i => i | none => -1

theorem idxI_hit {α : Type} {p : α → Bool} {l : List α} {k : Nat} (hk : k < l.length) (hb : p l[k] = true) (h : ∀ j (h : j < l.length), j < k → p l[j] = false) : idxI p l = k := by
  have : l.findIdx? p = some k := by
    rw [List.findIdx?_eq_some_iff_getElem]
    exact ⟨hk, hb, fun j hj => by simp [h j (by omega) hj]⟩
  simp [idxI, this]

theorem idxI_none {α : Type} {p : α → Bool} {l : List α} (h : ∀ j (h : j < l.length), p l[j] = false) : idxI p l = -1 := by
  have : l.findIdx? p = none := by
    rw [List.findIdx?_eq_none_iff]
    intro x hx
    obtain ⟨i, hi, rfl⟩ := List.mem_iff_getElem.1 hx
    exact h i hi
  simp [idxI, this]

theorem idxI_any {α : Type} (p : α → Bool) (l : List α) : decide (0 ≤ idxI p l) = l.any p := by
  unfold idxI
  cases h : l.findIdx? p with
  | none =>
    rw [List.findIdx?_eq_none_iff] at h
    have : l.any p = false := by
      rw [List.any_eq_false]
      intro x hx
      simp [h x hx]
    simp only [this]; decide
  | some i =>
    rw [List.findIdx?_eq_some_iff_getElem] at h
    obtain ⟨hi, hb, _⟩ := h
    have : l.any p = true := by
      rw [List.any_eq_true]; exact ⟨l[i], List.getElem_mem hi, hb⟩
    simp only [this]; simp

def eventB (s : List Col) (x : Evt) : Bool := validTime x.t && fitsB s x.r
def eventsB (s : List Col) (l : List Evt) : Bool := decide (l.length ≤ 40) && l.all (eventB s)

theorem any_not {α : Type} (p : α → Bool) (l : List α) : l.any (fun x => !p x) = !l.all p := by
  induction l with
  | nil => rfl
  | cons a l ih => simp [ih, Bool.not_and]

theorem events_bad {s : List Col} {l : List Evt} {k : Nat} (hk : k < l.length) (h : eventB s l[k] = false) : eventsB s l = false := by
  have : l.all (eventB s) = false := by
    rw [List.all_eq_false]; exact ⟨l[k], List.getElem_mem hk, by simp [h]⟩
  rw [eventsB, this, Bool.and_false]

section leaves
set_option maxHeartbeats 400000
set_option maxRecDepth 10000

theorem f107_any (hm : Tryz.prog.follows .mixedOrders = true) (w : World) (D D' : Nat → Prop) (v r : Value) (s : List Col) (x : Evt) (hs : SchemaAt w D v s) (hr : RowAt w D' r x.r) :
    Calls Tryz.prog 107 #[v, .agg #[.int .i64 x.t, r]] w fun e w' => e = .returned (.bool (eventB s x)) ∧ Below w.heap.size w w' := by
  obtain ⟨a, cap, hv⟩ : ∃ a cap, v = .slice a s.length cap := by
    obtain ⟨a, cap, hv, _⟩ := hs; exact ⟨a, cap, hv⟩
  obtain ⟨a', cap', hv'⟩ : ∃ a cap, r = .slice a x.r.length cap := by
    obtain ⟨a, cap, hv, _⟩ := hr; exact ⟨a, cap, hv⟩
  have H : Hid (∀ W, Below w.heap.size w W → Calls Tryz.prog 175 #[v, r] W fun e w' => e = .returned (.bool (fitsB s x.r)) ∧ Below W.heap.size W w') :=
    fun W hb => f175_any hm W D D' v r s x.r (hs.below hb) (hr.below hb)
  have HB : Hid (∀ o, Below w.heap.size w (w.alloc o)) := fun o => (Below.refl _ _).alloc (Nat.le_refl _) o
  clear hs hr
  subst hv hv'
  go_enter Tryz.func107, Tryz.ntmps107
  go_wp2_with (first
    | (go_at_call 174; refine (f174_any _ _).mono ?_; rintro e w1 ⟨rfl, rfl⟩)
    | (go_at_call 175; refine (H.out _ (HB.out _)).mono ?_; rintro e w2 ⟨rfl, hb2⟩; have HB2 := Lib.hid hb2; clear hb2))
  · have ht : validTime x.t = true := by assumption
    go_ret
    exact ⟨ret_bool (by rw [eventB, ht, Bool.true_and]), below_box HB2.out⟩
  · have ht : ¬ validTime x.t = true := by assumption
    go_ret
    exact ⟨ret_bool (by rw [eventB, Bool.eq_false_iff.2 ht, Bool.false_and]), HB.out _⟩

theorem f106_any (hm : Tryz.prog.follows .mixedOrders = true) (w : World) (D D' : Nat → Prop) (v r : Value) (bs : Nat) (s : List Col) (x : Evt) (hv : w.cell? ⟨bs, 0, none⟩ = some v) (hs : SchemaAt w D v s) (hr : RowAt w D' r x.r) :
    Calls Tryz.prog 106 #[.agg #[.int .i64 x.t, r], .pointer (some ⟨bs, 0, none⟩)] w fun e w' => e = .returned (.bool (!eventB s x)) ∧ Below w.heap.size w w' := by
  obtain ⟨a, cap, hv'⟩ : ∃ a cap, v = .slice a s.length cap := by
    obtain ⟨a, cap, hv, _⟩ := hs; exact ⟨a, cap, hv⟩
  obtain ⟨a', cap', hr'⟩ : ∃ a cap, r = .slice a x.r.length cap := by
    obtain ⟨a, cap, hv, _⟩ := hr; exact ⟨a, cap, hv⟩
  have H : Hid (∀ W, Below w.heap.size w W → Calls Tryz.prog 107 #[v, .agg #[.int .i64 x.t, r]] W fun e w' => e = .returned (.bool (eventB s x)) ∧ Below W.heap.size W w') :=
    fun W hb => f107_any hm W D D' v r s x (hs.below hb) (hr.below hb)
  have HB : Hid (∀ o, Below w.heap.size w (w.alloc o)) := fun o => (Below.refl _ _).alloc (Nat.le_refl _) o
  have hlt := cell_lt hv
  have hbn : ¬ bs = w.heap.size := by omega
  clear hs hr
  subst hv' hr'
  go_enter Tryz.func106, Tryz.ntmps106
  go_wp2_with (go_at_call 107; refine (H.out _ (HB.out _)).mono ?_; rintro e w2 ⟨rfl, hb2⟩; have HB2 := Lib.hid hb2; clear hb2)
  go_ret
  exact ⟨rfl, below_box HB2.out⟩

theorem f173_any (hm : Tryz.prog.follows .mixedOrders = true) (w : World) (D D' : Nat → Prop) (v v' : Value) (bs : Nat) (s : List Col) (l : List Evt) (hv : w.cell? ⟨bs, 0, none⟩ = some v) (hs : SchemaAt w D v s) (hl : EvtsAt w D' v' l) :
    Calls Tryz.prog 173 #[v', .func (.func 106) #[] #[.pointer (some ⟨bs, 0, none⟩)]] w fun e w' => e = .returned (.int .i64 (idxI (fun x => !eventB s x) l)) ∧ Below w.heap.size w w' := by
  have H : Hid (∀ W r x, Below w.heap.size w W → RowAt W D' r x.r → Calls Tryz.prog 106 #[.agg #[.int .i64 x.t, r], .pointer (some ⟨bs, 0, none⟩)] W fun e w' => e = .returned (.bool (!eventB s x)) ∧ Below W.heap.size W w') :=
    fun W r x hb hr => f106_any hm W D D' v r bs s x (by rw [hb.cell (p := ⟨bs, _, none⟩) (cell_lt hv)]; exact hv) (hs.below hb) hr
  clear hv hs
  obtain ⟨a, cap, rfl, hl', hx⟩ := hl
  go_enter Tryz.func173, Tryz.ntmps173
  go_wp2
  go_loopw [8] (fun i wr => ∃ k : Nat, k ≤ l.length ∧ i = .int .i64 k ∧ Hid (∀ j (h : j < l.length), j < k → (!eventB s l[j]) = false) ∧ Hid (Below w.heap.size w wr)) (fun i _ => l.length - (intOf i).toNat)
  case atStart => exact ⟨0, by omega, rfl, Lib.hid (by omega), Lib.hid (Below.refl _ _)⟩
  case round =>
    obtain ⟨k, hk, rfl, hh, hb⟩ := hrel
    by_cases hlt : k < l.length
    · rcases hx with rfl | ⟨b, off, rfl, hbD, hc⟩
      · simp at hlt
      obtain ⟨h0, r, h1, hr⟩ := hc k hlt
      have hbb := cell_lt h0
      rw [← hb.out.cell (p := ⟨b, _, none⟩) hbb] at h0 h1
      have HR := Lib.hid (hr.below hb.out)
      clear hc hr
      go_wp2_with (go_at_call 106; refine (H.out _ r l[k] hb.out HR.out).mono ?_; rintro e w' ⟨rfl, hb1⟩; have HB1 := Lib.hid hb1; clear hb1)
      · have hbad : (!eventB s l[k]) = true := by assumption
        go_ret
        exact ⟨ret_int (idxI_hit hlt hbad hh.out).symm, below_then hb.out HB1.out⟩
      · have hok : (!eventB s l[k]) = false := by assumption
        go_roundw
        case rel =>
          refine ⟨k + 1, by omega, by go_num, Lib.hid fun j hj hjk => ?_, Lib.hid (below_then hb.out HB1.out)⟩
          by_cases e : j = k
          · subst e; exact hok
          · exact hh.out j hj (by omega)
        case measure => simp [intOf]; omega
    · go_wp2
      go_ret
      exact ⟨ret_int (idxI_none (fun j hj => hh.out j hj (by omega))).symm, hb.out⟩

theorem f105_any (hm : Tryz.prog.follows .mixedOrders = true) (w : World) (D D' : Nat → Prop) (v v' : Value) (bs : Nat) (s : List Col) (l : List Evt) (hv : w.cell? ⟨bs, 0, none⟩ = some v) (hs : SchemaAt w D v s) (hl : EvtsAt w D' v' l) :
    Calls Tryz.prog 105 #[v', .func (.func 106) #[] #[.pointer (some ⟨bs, 0, none⟩)]] w fun e w' => e = .returned (.bool (!l.all (eventB s))) ∧ Below w.heap.size w w' := by
  have hc := f173_any hm w D D' v v' bs s l hv hs hl
  have ha : decide (0 ≤ idxI (fun x => !eventB s x) l) = !l.all (eventB s) := by rw [idxI_any, any_not]
  obtain ⟨a, cap, rfl, hl', hx⟩ := hl
  go_enter Tryz.func105, Tryz.ntmps105
  go_wp2_with (go_at_call 173; refine hc.mono ?_; rintro e w' ⟨rfl, hb1⟩)
  go_ret
  exact ⟨rfl, hb1⟩

theorem f37_any (hm : Tryz.prog.follows .mixedOrders = true) (w : World) (D D' : Nat → Prop) (v v' : Value) (s : List Col) (l : List Evt) (hs : SchemaAt w D v s) (hl : EvtsAt w D' v' l) :
    Calls Tryz.prog 37 #[v, v'] w fun e w' => e = .returned (.bool (eventsB s l)) ∧ Below w.heap.size w w' := by
  obtain ⟨a, cap, hv⟩ : ∃ a cap, v = .slice a s.length cap := by
    obtain ⟨a, cap, hv, _⟩ := hs; exact ⟨a, cap, hv⟩
  obtain ⟨a', cap', hv'⟩ : ∃ a cap, v' = .slice a l.length cap := by
    obtain ⟨a, cap, hv, _⟩ := hl; exact ⟨a, cap, hv⟩
  have HB : Hid (∀ o, Below w.heap.size w (w.alloc o)) := fun o => (Below.refl _ _).alloc (Nat.le_refl _) o
  have H := Lib.hid (f105_any hm (w.alloc (.cells #[v] 23)) D D' v v' w.heap.size s l (by simp) (hs.below (HB.out _)) (hl.below (HB.out _)))
  have hlen : l.length ≤ 9223372036854775807 := by obtain ⟨_, _, _, h, _⟩ := hl; exact h
  clear hs hl
  subst hv hv'
  go_enter Tryz.func37, Tryz.ntmps37
  go_wp2_with (go_at_call 105; refine H.out.mono ?_; rintro e w' ⟨rfl, hb1⟩; have HB1 := Lib.hid hb1; clear hb1)
  · have h40 : l.length ≤ 40 := by omega
    go_ret
    exact ⟨ret_bool (by rw [eventsB, decide_eq_true h40, Bool.true_and]), below_box HB1.out⟩
  · have h40 : ¬ l.length ≤ 40 := by omega
    go_ret
    exact ⟨ret_bool (by rw [eventsB, decide_eq_false h40, Bool.false_and]), HB.out _⟩

theorem f40_any (hm : Tryz.prog.follows .mixedOrders = true) (w : World) (D D' : Nat → Prop) (v v' : Value) (s : List Col) (l : List Evt) (hs : SchemaAt w D v s) (hl : EvtsAt w D' v' l) :
    Calls Tryz.prog 40 #[v, v'] w fun e w' => e = .returned (.bool (eventsB s l)) ∧ Below w.heap.size w w' := by
  have H : Hid (∀ (W : World) (r : Value) (x : Evt), Below w.heap.size w W → RowAt W D' r x.r → Calls Tryz.prog 117 #[v, r] W fun e w' => e = .returned (.bool (fitsB s x.r)) ∧ Below W.heap.size W w') :=
    fun W r x hb hr => f117_any hm W D D' v r s x.r (hs.below hb) hr
  obtain ⟨a, cap, hv⟩ : ∃ a cap, v = .slice a s.length cap := by
    obtain ⟨a, cap, hv, _⟩ := hs; exact ⟨a, cap, hv⟩
  clear hs
  subst hv
  obtain ⟨a', cap', rfl, hl', hx⟩ := hl
  go_enter Tryz.func40, Tryz.ntmps40
  go_wp2
  go_loopw [5] (fun i wr => ∃ k : Nat, k ≤ l.length ∧ i = .int .i64 k ∧ Hid (∀ j (h : j < l.length), j < k → eventB s l[j] = true) ∧ Hid (Below w.heap.size w wr)) (fun i _ => l.length - (intOf i).toNat)
  case atStart => exact ⟨0, by omega, rfl, Lib.hid (by omega), Lib.hid (Below.refl _ _)⟩
  case round =>
    obtain ⟨k, hk, rfl, hh, hb⟩ := hrel
    by_cases hlt : k < l.length
    · rcases hx with rfl | ⟨b, off, rfl, hbD, hc⟩
      · simp at hlt
      obtain ⟨h0, r, h1, hr⟩ := hc k hlt
      have hbb := cell_lt h0
      rw [← hb.out.cell (p := ⟨b, _, none⟩) hbb] at h0 h1
      have HR := Lib.hid (hr.below hb.out)
      clear hc hr
      go_wp2_with (first
        | (go_at_call 116; refine (f116_any _ _).mono ?_; rintro e w1 ⟨rfl, rfl⟩)
        | (go_at_call 117; refine (H.out _ r l[k] hb.out HR.out).mono ?_; rintro e w' ⟨rfl, hb1⟩; have HB1 := Lib.hid hb1; clear hb1))
      · have ht : (!fitsB s l[k].r) = true := by assumption
        go_ret
        exact ⟨ret_bool (events_bad hlt (by rw [eventB]; simp at ht; simp [ht])).symm, below_then hb.out HB1.out⟩
      · have ht : (!fitsB s l[k].r) = false := by assumption
        have hv : validTime l[k].t = true := by assumption
        go_roundw
        case rel =>
          refine ⟨k + 1, by omega, by go_num, Lib.hid fun j hj hjk => ?_, Lib.hid (below_then hb.out HB1.out)⟩
          by_cases e : j = k
          · subst e; rw [eventB, hv]; simpa using ht
          · exact hh.out j hj (by omega)
        case measure => simp [intOf]; omega
      · have ht : ¬ validTime l[k].t = true := by assumption
        go_ret
        exact ⟨ret_bool (events_bad hlt (by rw [eventB]; simp at ht; simp [ht])).symm, hb.out⟩
    · go_wp2
      all_goals go_ret
      have ha : l.all (eventB s) = true := by
        rw [List.all_eq_true]; intro x hx'
        obtain ⟨i, hi, rfl⟩ := List.mem_iff_getElem.1 hx'
        exact hh.out i hi (by omega)
      exact ⟨ret_bool (by rw [eventsB, ha, Bool.and_true]; first | rfl | (rw [Bool.eq_iff_iff]; simp only [decide_eq_true_eq]; omega)), hb.out⟩
end leaves
end Go.Proofs.YtimahogkcmmcnaaGreatDoor
