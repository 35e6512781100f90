/-
  The stable sort, the plain part 3: what symMerge's steps come to. No conditions: laws.
-/
import Derived.Test.YtimahogkcmmcnaaGreatDoorS2
set_option linter.unusedSimpArgs false
set_option linter.unusedVariables false
namespace Go.Proofs.YtimahogkcmmcnaaGreatDoor.Stab
open Go.Sort
variable {α : Type} [Inhabited α]

/-- The rotation, or none where nothing is to be turned. -/
theorem fin1 {lt slt : α → α → Bool} (hs : SWO slt) {a m b s e mid : Nat} {d d1 : Array α} (h : MPre lt slt a m b d) (has : a ≤ s) (hsm : s ≤ m) (hme : m ≤ e) (heb : e ≤ b) (hb : b ≤ d.size) (hmid : mid = s + (e - m))
    (h1 : s = a ∨ e = b ∨ lt d[e]! d[s - 1]! = false) (h2 : s = m ∨ e = m ∨ lt d[e - 1]! d[s]! = true) (hc : IsRot d d1 s m e ∨ (¬ (s < m ∧ m < e) ∧ d1 = d)) :
    Halves lt slt a s mid e b d1 ∧ PermIn a b d d1 := by
  have hr : IsRot d d1 s m e := by
    rcases hc with hc | ⟨hc, rfl⟩
    · exact hc
    · by_cases e1 : s = m
      · subst e1; exact IsRot.none_left d1 s e hme
      · have e2 : e = m := by omega
        subst e2; exact IsRot.none_right d1 s e
  exact ⟨halves hs h has hsm hme heb hb hmid h1 h2 hr, permIn_mono d d1 s e a b has heb hb (hr.perm hsm hme (by omega))⟩

theorem fin2 {lt slt : α → α → Bool} {a s mid e b : Nat} {d1 d2 : Array α} (h : Halves lt slt a s mid e b d1) (has : a ≤ s) (hsm : s ≤ mid) (hme : mid ≤ e) (hmb : mid ≤ b) (hb : b ≤ d1.size)
    (hc : (PermIn a mid d1 d2 ∧ SortedIn slt a mid d2) ∨ (¬ (a < s ∧ s < mid) ∧ d2 = d1)) :
    SortedIn slt a mid d2 ∧ PermIn a mid d1 d2 ∧ MPre lt slt mid e b d2 ∧ ∀ p q, a ≤ p → p < mid → mid ≤ q → q < b → slt d2[q]! d2[p]! = false := by
  have hk : SortedIn slt a mid d2 ∧ PermIn a mid d1 d2 := by
    rcases hc with hc | ⟨hc, rfl⟩
    · exact ⟨hc.2, hc.1⟩
    · refine ⟨?_, permIn_refl _ _ _⟩
      by_cases e1 : a = s
      · subst e1; exact h.one.right
      · have e2 : s = mid := by omega
        subst e2; exact h.one.left
  have := Halves.first h (by omega) hme hmb hb hk.2
  exact ⟨hk.1, hk.2, this.1, this.2⟩

theorem fin3 {lt slt : α → α → Bool} {a mid e b : Nat} {d2 d3 : Array α} (ham : a ≤ mid) (hme : mid ≤ e) (heb : e ≤ b) (hmb : mid ≤ b) (hb : b ≤ d2.size) (h1 : SortedIn slt a mid d2) (h2 : MPre lt slt mid e b d2)
    (hx : ∀ p q, a ≤ p → p < mid → mid ≤ q → q < b → slt d2[q]! d2[p]! = false) (hc : (PermIn mid b d2 d3 ∧ SortedIn slt mid b d3) ∨ (¬ (mid < e ∧ e < b) ∧ d3 = d2)) :
    SortedIn slt a b d3 ∧ PermIn mid b d2 d3 := by
  have hk : SortedIn slt mid b d3 ∧ PermIn mid b d2 d3 := by
    rcases hc with hc | ⟨hc, rfl⟩
    · exact ⟨hc.2, hc.1⟩
    · refine ⟨?_, permIn_refl _ _ _⟩
      by_cases e1 : mid = e
      · subst e1; exact h2.right
      · have e2 : e = b := by omega
        subst e2; exact h2.left
  exact ⟨join_halves ham hmb hb h1 hx hk.2 hk.1, hk.2⟩

/-- All of symMerge's steps together. -/
theorem fin {lt slt : α → α → Bool} (hs : SWO slt) {a m b s e mid : Nat} {d d1 d2 d3 : Array α} (h : MPre lt slt a m b d) (has : a ≤ s) (hsm : s ≤ m) (hsd : s ≤ mid) (hme : m ≤ e) (heb : e ≤ b) (hb : b ≤ d.size) (hmid : mid + m = s + e)
    (h1 : s = a ∨ e = b ∨ lt d[e]! d[s - 1]! = false) (h2 : s = m ∨ e = m ∨ lt d[e - 1]! d[s]! = true) (hc1 : IsRot d d1 s m e ∨ (¬ (s < m ∧ m < e) ∧ d1 = d))
    (hc2 : (PermIn a mid d1 d2 ∧ SortedIn slt a mid d2) ∨ (¬ (a < s ∧ s < mid) ∧ d2 = d1)) (hc3 : (PermIn mid b d2 d3 ∧ SortedIn slt mid b d3) ∨ (¬ (mid < e ∧ e < b) ∧ d3 = d2)) :
    PermIn a b d d3 ∧ SortedIn slt a b d3 := by
  obtain ⟨H, p1⟩ := fin1 (mid := mid) hs h has hsm hme heb hb (by omega) h1 h2 hc1
  have z1 : d1.size = d.size := p1.1
  obtain ⟨q1, q2, q3, q4⟩ := fin2 H has hsd (by omega) (by omega) (by omega) hc2
  have z2 : d2.size = d1.size := q2.1
  obtain ⟨r1, r2⟩ := fin3 (by omega) (by omega) heb (by omega) (by omega) q1 q3 q4 hc3
  refine ⟨permIn_trans d d1 d3 a b p1 (permIn_trans d1 d2 d3 a b ?_ ?_), r1⟩
  · exact permIn_mono d1 d2 a mid a b (Nat.le_refl _) (by omega) (by omega) q2
  · exact permIn_mono d2 d3 mid b a b (by omega) (Nat.le_refl _) (by omega) r2

/-- What the first half's merging asks. -/
theorem fin1_one {lt slt : α → α → Bool} (hs : SWO slt) {a m b s e mid : Nat} {d d1 : Array α} (h : MPre lt slt a m b d) (has : a ≤ s) (hsm : s ≤ m) (hme : m ≤ e) (heb : e ≤ b) (hb : b ≤ d.size) (hmid : mid + m = s + e)
    (h1 : s = a ∨ e = b ∨ lt d[e]! d[s - 1]! = false) (h2 : s = m ∨ e = m ∨ lt d[e - 1]! d[s]! = true) (hc : IsRot d d1 s m e ∨ (¬ (s < m ∧ m < e) ∧ d1 = d)) : MPre lt slt a s mid d1 ∧ d1.size = d.size :=
  have := fin1 (mid := mid) hs h has hsm hme heb hb (by omega) h1 h2 hc
  ⟨this.1.one, this.2.1⟩

/-- What the second half's merging asks. -/
theorem fin2_two {lt slt : α → α → Bool} (hs : SWO slt) {a m b s e mid : Nat} {d d1 d2 : Array α} (h : MPre lt slt a m b d) (has : a ≤ s) (hsm : s ≤ m) (hsd : s ≤ mid) (hme : m ≤ e) (heb : e ≤ b) (hb : b ≤ d.size) (hmid : mid + m = s + e)
    (h1 : s = a ∨ e = b ∨ lt d[e]! d[s - 1]! = false) (h2 : s = m ∨ e = m ∨ lt d[e - 1]! d[s]! = true) (hc1 : IsRot d d1 s m e ∨ (¬ (s < m ∧ m < e) ∧ d1 = d))
    (hc2 : (PermIn a mid d1 d2 ∧ SortedIn slt a mid d2) ∨ (¬ (a < s ∧ s < mid) ∧ d2 = d1)) : MPre lt slt mid e b d2 ∧ d2.size = d.size := by
  obtain ⟨H, p1⟩ := fin1 (mid := mid) hs h has hsm hme heb hb (by omega) h1 h2 hc1
  have z1 : d1.size = d.size := p1.1
  obtain ⟨q1, q2, q3, q4⟩ := fin2 H has hsd (by omega) (by omega) (by omega) hc2
  exact ⟨q3, by rw [q2.1, z1]⟩
end Go.Proofs.YtimahogkcmmcnaaGreatDoor.Stab
