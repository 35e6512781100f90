/-
  Comparing values, rows and events, and sorting numbers of events: the plain part. No conditions: definitions and their laws.
-/
import Derived.Sort.Lot0
import Derived.Sort.LotA
import GoSem.Op.String
set_option linter.unusedSimpArgs false
set_option linter.unusedVariables false
namespace Go.Proofs.YtimahogkcmmcnaaGreatDoor.Cmps
open Go.Sort

/-- A comparison: it says the sign of a total preorder. -/
structure Cmp3 {α : Type} (c : α → α → Int) : Prop where
  swap : ∀ x y, c y x = - c x y
  trans : ∀ x y z, c x y ≤ 0 → c y z ≤ 0 → c x z ≤ 0

theorem Cmp3.refl {α : Type} {c : α → α → Int} (h : Cmp3 c) (x : α) : c x x = 0 := by have := h.swap x x; omega

theorem Cmp3.zero {α : Type} {c : α → α → Int} (h : Cmp3 c) {x y z : α} (h1 : c x y = 0) (h2 : c y z = 0) : c x z = 0 := by
  have a := h.trans x y z (by omega) (by omega)
  have s1 := h.swap x y
  have s2 := h.swap y z
  have b := h.trans z y x (by omega) (by omega)
  have s3 := h.swap x z
  omega

theorem Cmp3.ltle {α : Type} {c : α → α → Int} (h : Cmp3 c) {x y z : α} (h1 : c x y < 0) (h2 : c y z ≤ 0) : c x z < 0 := by
  have a := h.trans x y z (by omega) h2
  by_cases e : c x z = 0
  · exfalso
    have s1 := h.swap x z
    have b := h.trans y z x h2 (by omega)
    have s2 := h.swap x y
    omega
  · omega

theorem Cmp3.lelt {α : Type} {c : α → α → Int} (h : Cmp3 c) {x y z : α} (h1 : c x y ≤ 0) (h2 : c y z < 0) : c x z < 0 := by
  have a := h.trans x y z h1 (by omega)
  by_cases e : c x z = 0
  · exfalso
    have s1 := h.swap x z
    have b := h.trans z x y (by omega) h1
    have s2 := h.swap y z
    omega
  · omega

theorem Cmp3.swo {α : Type} {c : α → α → Int} (h : Cmp3 c) : SWO (fun x y => decide (c x y < 0)) where
  irrefl x := by simp [h.refl]
  trans x y z h1 h2 := by
    simp only [decide_eq_true_eq] at *
    exact h.ltle h1 (by omega)
  ntrans x y z h1 h2 := by
    simp only [decide_eq_false_iff_not] at *
    have s1 := h.swap x y
    have s2 := h.swap y z
    have s3 := h.swap x z
    have := h.trans z y x (by omega) (by omega)
    omega

theorem Cmp3.comap {α β : Type} {c : α → α → Int} (h : Cmp3 c) (f : β → α) : Cmp3 (fun x y => c (f x) (f y)) :=
  ⟨fun _ _ => h.swap _ _, fun _ _ _ => h.trans _ _ _⟩

/-- The first that is not nought. -/
def orI (x y : Int) : Int := if x != 0 then x else y

theorem Cmp3.or {α : Type} {c d : α → α → Int} (h : Cmp3 c) (k : Cmp3 d) : Cmp3 (fun x y => orI (c x y) (d x y)) where
  swap x y := by
    have a := h.swap x y
    have b := k.swap x y
    unfold orI
    by_cases e : c x y = 0
    · have e' : c y x = 0 := by omega
      simp [e, e', b]
    · have e' : c y x ≠ 0 := by omega
      simp [e, e', a]
  trans x y z h1 h2 := by
    unfold orI at *
    by_cases e1 : c x y = 0
    · by_cases e2 : c y z = 0
      · have e3 := h.zero e1 e2
        simp only [e1, e2, e3, bne_self_eq_false, Bool.false_eq_true, if_false] at *
        exact k.trans x y z h1 h2
      · simp only [e1, bne_self_eq_false, Bool.false_eq_true, if_false] at h1
        rw [if_pos (by simpa using e2)] at h2
        have := h.lelt (x := x) (y := y) (z := z) (by omega) (by omega)
        rw [if_pos (by simp; omega)]
        omega
    · rw [if_pos (by simpa using e1)] at h1
      have := h.ltle (x := x) (y := y) (z := z) (by omega) (by
        by_cases e2 : c y z = 0
        · omega
        · rw [if_pos (by simpa using e2)] at h2; exact h2)
      rw [if_pos (by simp; omega)]
      omega

def cmpI (a b : Int) : Int := if a < b then -1 else if b < a then 1 else 0

theorem cmpI_3 : Cmp3 cmpI where
  swap x y := by unfold cmpI; repeat' split
                 all_goals omega
  trans x y z h1 h2 := by
    unfold cmpI at *
    repeat' split
    all_goals (try omega)
    all_goals (split at h1 <;> split at h2 <;> (try omega))
    all_goals (split at h1 <;> (try omega))
    all_goals (split at h2 <;> (try omega))

theorem bytesLess_lt : ∀ (x y : List UInt8), Op.bytesLess x y = decide (x < y)
  | [], [] => by simp [Op.bytesLess]
  | _ :: _, [] => by simp [Op.bytesLess]
  | [], _ :: _ => by simp [Op.bytesLess]
  | a :: x, b :: y => by
    rw [Op.bytesLess, bytesLess_lt x y]
    simp only [List.cons_lt_cons_iff]
    by_cases h1 : a < b <;> by_cases h2 : a = b <;> by_cases h3 : x < y <;> simp [h1, h2, h3]

def lessS (a b : ByteArray) : Bool := Op.bytesLess a.toList b.toList

def cmpS (a b : ByteArray) : Int := if lessS a b then -1 else if lessS b a then 1 else 0

theorem lessS_asymm {a b : ByteArray} (h : lessS a b = true) : lessS b a = false := by
  unfold lessS at *
  simp only [bytesLess_lt, decide_eq_true_eq, decide_eq_false_iff_not] at *
  exact List.lt_asymm h

theorem lessS_trans {a b c : ByteArray} (h : lessS b a = false) (k : lessS c b = false) : lessS c a = false := by
  unfold lessS at *
  simp only [bytesLess_lt, decide_eq_false_iff_not, List.not_lt] at *
  exact List.le_trans h k

theorem cmpS_3 : Cmp3 cmpS where
  swap x y := by
    unfold cmpS
    cases h : lessS x y
    · cases k : lessS y x <;> simp
    · have := lessS_asymm h
      simp [this]
  trans x y z h1 h2 := by
    have a : lessS y x = false := by
      cases e : lessS y x
      · rfl
      · have := lessS_asymm e
        unfold cmpS at h1
        rw [this, e] at h1
        simp at h1
    have b : lessS z y = false := by
      cases e : lessS z y
      · rfl
      · have := lessS_asymm e
        unfold cmpS at h2
        rw [this, e] at h2
        simp at h2
    have c := lessS_trans a b
    unfold cmpS
    rw [c]
    split <;> simp

structure Val where
  k : Int
  n : Int
  s : ByteArray

def cls (k : Int) : Int := if k == 1 || k == 2 then k else 0

theorem cls_vals (k : Int) : cls k = 0 ∨ cls k = 1 ∨ cls k = 2 := by
  unfold cls; by_cases h1 : k = 1
  · simp [h1]
  · by_cases h2 : k = 2 <;> simp [h1, h2]

def cmpVal (a b : Val) : Int :=
  orI (cmpI (cls a.k) (cls b.k)) (if cls a.k == 1 then cmpI a.n b.n else if cls a.k == 2 then cmpS a.s b.s else 0)

theorem cmpVal_as (a b : Val) : cmpVal a b = orI (cmpI (cls a.k) (cls b.k)) (orI (cmpI (if cls a.k == 1 then a.n else 0) (if cls b.k == 1 then b.n else 0)) (cmpS (if cls a.k == 2 then a.s else ByteArray.empty) (if cls b.k == 2 then b.s else ByteArray.empty))) := by
  unfold cmpVal
  by_cases h : cls a.k = cls b.k
  · rw [← h, cmpI_3.refl]
    have hs := cmpS_3.refl ByteArray.empty
    have hi := cmpI_3.refl 0
    rcases cls_vals a.k with e | e | e
    · simp [orI, e, hs, hi]
    · simp only [orI, e, hs]
      by_cases e2 : cmpI a.n b.n = 0 <;> simp [e2, hs]
    · simp [orI, e, hi]
  · have : cmpI (cls a.k) (cls b.k) ≠ 0 := by
      unfold cmpI; repeat' split
      all_goals omega
    unfold orI
    rw [if_pos (by simpa using this), if_pos (by simpa using this)]

theorem cmpVal_3 : Cmp3 cmpVal := by
  have : cmpVal = fun a b => orI (cmpI (cls a.k) (cls b.k)) (orI (cmpI (if cls a.k == 1 then a.n else 0) (if cls b.k == 1 then b.n else 0)) (cmpS (if cls a.k == 2 then a.s else ByteArray.empty) (if cls b.k == 2 then b.s else ByteArray.empty))) := by
    funext a b; exact cmpVal_as a b
  rw [this]
  exact (cmpI_3.comap (fun v : Val => cls v.k)).or ((cmpI_3.comap (fun v : Val => if cls v.k == 1 then v.n else 0)).or (cmpS_3.comap (fun v : Val => if cls v.k == 2 then v.s else ByteArray.empty)))

def cmpRow : List Val → List Val → Int
  | [], [] => 0
  | [], _ :: _ => -1
  | _ :: _, [] => 1
  | x :: xs, y :: ys => orI (cmpVal x y) (cmpRow xs ys)

theorem cmpRow_swap : ∀ a b : List Val, cmpRow b a = - cmpRow a b
  | [], [] => rfl
  | [], _ :: _ => rfl
  | _ :: _, [] => rfl
  | x :: xs, y :: ys => by
    have a := cmpVal_3.swap x y
    have b := cmpRow_swap xs ys
    simp only [cmpRow, orI]
    by_cases e : cmpVal x y = 0
    · have e' : cmpVal y x = 0 := by omega
      simp [e, e', b]
    · have e' : cmpVal y x ≠ 0 := by omega
      simp [e, e', a]

theorem cmpRow_trans : ∀ a b c : List Val, cmpRow a b ≤ 0 → cmpRow b c ≤ 0 → cmpRow a c ≤ 0
  | [], [], [], _, _ => by simp [cmpRow]
  | [], _, _ :: _, _, _ => by simp [cmpRow]
  | [], _ :: _, [], _, h => by simp [cmpRow] at h
  | _ :: _, [], _, h, _ => by simp [cmpRow] at h
  | _ :: _, _ :: _, [], _, h => by simp [cmpRow] at h
  | x :: xs, y :: ys, z :: zs, h1, h2 => by
    have IH := cmpRow_trans xs ys zs
    simp only [cmpRow, orI] at *
    by_cases e1 : cmpVal x y = 0
    · by_cases e2 : cmpVal y z = 0
      · have e3 := cmpVal_3.zero e1 e2
        simp only [e1, e2, e3, bne_self_eq_false, Bool.false_eq_true, if_false] at *
        exact IH h1 h2
      · rw [if_pos (by simpa using e2)] at h2
        have := cmpVal_3.lelt (x := x) (y := y) (z := z) (by omega) (by omega)
        rw [if_pos (by simp; omega)]
        omega
    · rw [if_pos (by simpa using e1)] at h1
      have := cmpVal_3.ltle (x := x) (y := y) (z := z) (by omega) (by
        by_cases e2 : cmpVal y z = 0
        · omega
        · rw [if_pos (by simpa using e2)] at h2; exact h2)
      rw [if_pos (by simp; omega)]
      omega

theorem cmpRow_3 : Cmp3 cmpRow := ⟨cmpRow_swap, cmpRow_trans⟩

/-- An event. -/
structure Evt where
  t : Int
  r : List Val

def cmpEvt (x y : Evt) : Int := orI (cmpI x.t y.t) (cmpRow x.r y.r)

theorem cmpEvt_3 : Cmp3 cmpEvt := (cmpI_3.comap (fun x : Evt => x.t)).or (cmpRow_3.comap (fun x : Evt => x.r))

/-! ### numbers in their order -/

/-- Less by a comparison, by their numbers where it says nothing. -/
def sltN (c : Nat → Nat → Int) (i j : Nat) : Bool := decide (c i j < 0) || (decide (c i j = 0) && decide (i < j))

theorem sltN_swo {c : Nat → Nat → Int} (h : Cmp3 c) : SWO (sltN c) where
  irrefl x := by simp [sltN, h.refl]
  trans x y z h1 h2 := by
    simp only [sltN, Bool.or_eq_true, Bool.and_eq_true, decide_eq_true_eq] at *
    rcases h1 with h1 | ⟨h1, l1⟩
    · exact .inl (h.ltle h1 (by omega))
    · rcases h2 with h2 | ⟨h2, l2⟩
      · exact .inl (h.lelt (by omega) h2)
      · exact .inr ⟨h.zero h1 h2, by omega⟩
  ntrans x y z h1 h2 := by
    simp only [sltN, Bool.or_eq_false_iff, Bool.and_eq_false_iff, decide_eq_false_iff_not] at *
    obtain ⟨a1, b1⟩ := h1
    obtain ⟨a2, b2⟩ := h2
    have s1 := h.swap x y
    have s2 := h.swap y z
    have s3 := h.swap x z
    refine ⟨?_, ?_⟩
    · have := h.trans z y x (by omega) (by omega)
      omega
    · by_cases e1 : c x y = 0
      · by_cases e2 : c y z = 0
        · right
          rcases b1 with b1 | b1
          · omega
          · rcases b2 with b2 | b2 <;> omega
        · left
          have := h.ltle (x := z) (y := y) (z := x) (by omega) (by omega)
          omega
      · left
        have := h.lelt (x := z) (y := y) (z := x) (by omega) (by omega)
        omega

theorem sltN_total {c : Nat → Nat → Int} (h : Cmp3 c) {i j : Nat} (h1 : sltN c i j = false) (h2 : sltN c j i = false) : i = j := by
  simp only [sltN, Bool.or_eq_false_iff, Bool.and_eq_false_iff, decide_eq_false_iff_not] at *
  have s1 := h.swap i j
  omega

/-- The numbers below n, in their order. -/
def Ordered (c : Nat → Nat → Int) (n : Nat) (l : List Nat) : Prop := l.Perm (List.range n) ∧ l.Pairwise (fun x y => sltN c y x = false)

theorem Ordered.uniq {c : Nat → Nat → Int} (h : Cmp3 c) {n : Nat} {l l' : List Nat} (h1 : Ordered c n l) (h2 : Ordered c n l') : l = l' :=
  List.Perm.eq_of_pairwise (le := fun x y => sltN c y x = false) (fun _ _ _ _ a b => sltN_total h b a) h1.2 h2.2 (h1.1.trans h2.1.symm)

theorem Ordered.nil (c : Nat → Nat → Int) : Ordered c 0 [] := ⟨List.Perm.refl _, List.Pairwise.nil⟩

theorem Ordered.lt {c : Nat → Nat → Int} {n : Nat} {l : List Nat} (h : Ordered c n l) {x : Nat} (hx : x ∈ l) : x < n := by
  have := h.1.mem_iff.1 hx
  simpa using this

/-- One more number, put behind all that are not greater. -/
theorem Ordered.ins {c : Nat → Nat → Int} (hc : Cmp3 c) {n : Nat} {l : List Nat} (h : Ordered c n l) (at_ : Nat) (ha : at_ ≤ l.length)
    (hhi : ∀ k (hk : k < l.length), at_ ≤ k → c n l[k] < 0) (hlo : at_ = 0 ∨ ∃ (hk : at_ - 1 < l.length), 0 ≤ c n l[at_ - 1]) : Ordered c (n + 1) (l.take at_ ++ n :: l.drop at_) := by
  refine ⟨?_, ?_⟩
  · refine List.perm_middle.trans ?_
    rw [List.take_append_drop, List.range_succ]
    exact ((List.Perm.cons n h.1).trans (List.perm_append_comm (l₁ := [n]) (l₂ := List.range n)))
  · have hS := sltN_swo hc
    have hp := h.2
    rw [← List.take_append_drop at_ l, List.pairwise_append] at hp
    obtain ⟨p1, p2, p3⟩ := hp
    have hk1 : ∀ x ∈ l.take at_, sltN c n x = false := by
      intro x hx
      rcases hlo with rfl | ⟨hk, hl⟩
      · simp at hx
      · have hxn : x < n := h.lt (List.mem_of_mem_take hx)
        have z : sltN c n l[at_ - 1] = false := by
          have : l[at_ - 1] < n := h.lt (List.getElem_mem hk)
          simp only [sltN, Bool.or_eq_false_iff, Bool.and_eq_false_iff, decide_eq_false_iff_not]
          omega
        by_cases e : x = l[at_ - 1]
        · rw [e]; exact z
        · obtain ⟨j, hj, rfl⟩ := List.mem_iff_getElem.1 hx
          simp only [List.length_take] at hj
          rw [List.getElem_take] at e ⊢
          have hjl : j < at_ - 1 := by
            by_cases q : j = at_ - 1
            · subst q; exact absurd rfl e
            · omega
          have := List.pairwise_iff_getElem.1 h.2 j (at_ - 1) (by omega) hk hjl
          exact hS.ntrans _ _ _ z this
    have hk2 : ∀ y ∈ l.drop at_, sltN c y n = false := by
      intro y hy
      obtain ⟨j, hj, rfl⟩ := List.mem_iff_getElem.1 hy
      simp only [List.length_drop] at hj
      rw [List.getElem_drop]
      have := hhi (at_ + j) (by omega) (by omega)
      have s := hc.swap n l[at_ + j]
      simp only [sltN, Bool.or_eq_false_iff, Bool.and_eq_false_iff, decide_eq_false_iff_not]
      omega
    rw [List.pairwise_append]
    refine ⟨p1, List.pairwise_cons.2 ⟨hk2, p2⟩, fun x hx y hy => ?_⟩
    rcases List.mem_cons.1 hy with rfl | hy
    · exact hk1 x hx
    · exact p3 x hx y hy
end Go.Proofs.YtimahogkcmmcnaaGreatDoor.Cmps
