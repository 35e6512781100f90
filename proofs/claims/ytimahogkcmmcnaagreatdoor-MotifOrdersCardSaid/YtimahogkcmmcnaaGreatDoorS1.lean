/-
  The stable sort, the plain part: blocks that change places, rotation, merging. No conditions: definitions and their laws.
-/
import Derived.Sort.Lot0
import Derived.Sort.LotA
set_option linter.unusedSimpArgs false
set_option linter.unusedVariables false
namespace Go.Proofs.YtimahogkcmmcnaaGreatDoor.Stab
open Go.Sort
variable {α : Type} [Inhabited α]

/-- n places from a on and n places from b on are exchanged. -/
def IsSwp (d d' : Array α) (a b n : Nat) : Prop := d'.size = d.size ∧ ∀ i, d'[i]! = if a ≤ i ∧ i < a + n then d[b + (i - a)]! else if b ≤ i ∧ i < b + n then d[a + (i - b)]! else d[i]!

/-- What stood at [m, b) stands ahead of what stood at [a, m). -/
def IsRot (d d' : Array α) (a m b : Nat) : Prop := d'.size = d.size ∧ ∀ i, d'[i]! = if a ≤ i ∧ i < a + (b - m) then d[m + (i - a)]! else if a + (b - m) ≤ i ∧ i < b then d[i - (b - m)]! else d[i]!

theorem IsSwp.zero (d : Array α) (a b : Nat) : IsSwp d d a b 0 := ⟨rfl, fun i => by rw [if_neg (by omega), if_neg (by omega)]⟩

theorem swp_get (d : Array α) (i j k : Nat) (hi : i < d.size) (hj : j < d.size) : (swp d i j)[k]! = if k = j then d[i]! else if k = i then d[j]! else d[k]! := by
  unfold swp
  by_cases h1 : k = j
  · subst h1
    rw [if_pos rfl]
    simp [getElem!_def, hj]
  · rw [if_neg h1]
    by_cases h2 : k = i
    · subst h2
      rw [if_pos rfl]
      simp [getElem!_def, Array.getElem?_setIfInBounds, hi, Ne.symm h1]
    · rw [if_neg h2]
      simp [getElem!_def, Array.getElem?_setIfInBounds, Ne.symm h1, Ne.symm h2]

theorem swp_size (d : Array α) (i j : Nat) : (swp d i j).size = d.size := by simp [swp]

theorem IsSwp.step {d d' : Array α} {a b n : Nat} (h : IsSwp d d' a b n) (hab : a + n < b) (hb : b + n < d.size) : IsSwp d (swp d' (a + n) (b + n)) a b (n + 1) := by
  obtain ⟨hs, hg⟩ := h
  refine ⟨by rw [swp_size, hs], fun i => ?_⟩
  rw [swp_get _ _ _ _ (by omega) (by omega)]
  by_cases h1 : i = b + n
  · subst h1
    rw [if_pos rfl, hg, if_neg (by omega), if_neg (by omega), if_neg (by omega), if_pos (by omega)]
    congr 1
    omega
  · rw [if_neg h1]
    by_cases h2 : i = a + n
    · subst h2
      rw [if_pos rfl, hg, if_neg (by omega), if_neg (by omega), if_pos (by omega)]
      congr 1
      omega
    · rw [if_neg h2, hg]
      by_cases h3 : a ≤ i ∧ i < a + n
      · rw [if_pos h3, if_pos (by omega)]
      · by_cases h4 : b ≤ i ∧ i < b + n
        · rw [if_neg h3, if_pos h4, if_neg (by omega), if_pos (by omega)]
        · rw [if_neg h3, if_neg h4, if_neg (by omega), if_neg (by omega)]

theorem IsRot.left {d d1 d' : Array α} {m i j : Nat} (hi : i ≤ m) (hj : j < i) (h1 : IsSwp d d1 (m - i) m j) (h2 : IsRot d1 d' (m - (i - j)) m (m + j)) : IsRot d d' (m - i) m (m + j) := by
  obtain ⟨s1, g1⟩ := h1
  obtain ⟨s2, g2⟩ := h2
  refine ⟨s2.trans s1, fun k => ?_⟩
  rw [g2]
  by_cases c1 : m - i ≤ k ∧ k < m - i + j
  · rw [if_neg (by omega), if_neg (by omega), g1, if_pos (by omega), if_pos (by omega)]
  · by_cases c2 : m - i + j ≤ k ∧ k < m - i + j + j
    · rw [if_pos (by omega), g1, if_neg (by omega), if_pos (by omega), if_neg (by omega), if_pos (by omega)]
      congr 1
      omega
    · by_cases c3 : m - i + j + j ≤ k ∧ k < m + j
      · rw [if_neg (by omega), if_pos (by omega), g1, if_neg (by omega), if_neg (by omega), if_neg (by omega), if_pos (by omega)]
      · rw [if_neg (by omega), if_neg (by omega), g1, if_neg (by omega), if_neg (by omega), if_neg (by omega), if_neg (by omega)]

theorem IsRot.right {d d1 d' : Array α} {m i j : Nat} (hi : i ≤ m) (hj : i < j) (h1 : IsSwp d d1 (m - i) (m + j - i) i) (h2 : IsRot d1 d' (m - i) m (m + (j - i))) : IsRot d d' (m - i) m (m + j) := by
  obtain ⟨s1, g1⟩ := h1
  obtain ⟨s2, g2⟩ := h2
  refine ⟨s2.trans s1, fun k => ?_⟩
  rw [g2]
  by_cases c1 : m - i ≤ k ∧ k < m - i + (j - i)
  · rw [if_pos (by omega), g1, if_neg (by omega), if_neg (by omega), if_pos (by omega)]
  · by_cases c2 : m - i + (j - i) ≤ k ∧ k < m + (j - i)
    · rw [if_neg (by omega), if_pos (by omega), g1, if_pos (by omega), if_pos (by omega)]
      congr 1
      omega
    · by_cases c3 : m + (j - i) ≤ k ∧ k < m + j
      · rw [if_neg (by omega), if_neg (by omega), g1, if_neg (by omega), if_pos (by omega), if_neg (by omega), if_pos (by omega)]
        congr 1
        omega
      · rw [if_neg (by omega), if_neg (by omega), g1, if_neg (by omega), if_neg (by omega), if_neg (by omega), if_neg (by omega)]

theorem IsRot.even {d d' : Array α} {m i : Nat} (hi : i ≤ m) (h1 : IsSwp d d' (m - i) m i) : IsRot d d' (m - i) m (m + i) := by
  obtain ⟨s1, g1⟩ := h1
  refine ⟨s1, fun k => ?_⟩
  rw [g1]
  by_cases c1 : m - i ≤ k ∧ k < m - i + i
  · rw [if_pos c1, if_pos (by omega)]
  · by_cases c2 : m ≤ k ∧ k < m + i
    · rw [if_neg c1, if_pos c2, if_neg (by omega), if_pos (by omega)]
      congr 1
      omega
    · rw [if_neg c1, if_neg c2, if_neg (by omega), if_neg (by omega)]

theorem IsRot.none_left (d : Array α) (m b : Nat) (h : m ≤ b) : IsRot d d m m b := ⟨rfl, fun i => by
  by_cases c : m ≤ i ∧ i < m + (b - m)
  · rw [if_pos c]; congr 1; omega
  · rw [if_neg c, if_neg (by omega)]⟩
theorem IsRot.none_right (d : Array α) (a m : Nat) : IsRot d d a m m := ⟨rfl, fun i => by
  rw [if_neg (by omega)]
  by_cases c : a + (m - m) ≤ i ∧ i < m
  · rw [if_pos c]; congr 1; omega
  · rw [if_neg c]⟩

/-- One place goes up (a row of exchanges with the next). -/
theorem IsRot.up {d d' : Array α} {a i : Nat} (h : IsRot d d' a (a + 1) i) (ha : a < i) (hi : i < d.size) : IsRot d (swp d' (i - 1) i) a (a + 1) (i + 1) := by
  obtain ⟨s, g⟩ := h
  refine ⟨by rw [swp_size, s], fun k => ?_⟩
  rw [swp_get _ _ _ _ (by omega) (by omega)]
  by_cases c1 : k = i
  · subst c1
    rw [if_pos rfl, g, if_neg (by omega), if_pos (by omega), if_neg (by omega), if_pos (by omega)]
    congr 1
    omega
  · rw [if_neg c1]
    by_cases c2 : k = i - 1
    · subst c2
      rw [if_pos rfl, g, if_neg (by omega), if_neg (by omega), if_pos (by omega)]
      congr 1
      omega
    · rw [if_neg c2, g]
      by_cases c3 : a ≤ k ∧ k < a + (i - (a + 1))
      · rw [if_pos c3, if_pos (by omega)]
      · rw [if_neg c3, if_neg (by omega), if_neg (by omega), if_neg (by omega)]

/-- One place goes down. -/
theorem IsRot.down {d d' : Array α} {i m : Nat} (h : IsRot d d' i m (m + 1)) (hi : 0 < i) (him : i ≤ m) (hm : m < d.size) : IsRot d (swp d' i (i - 1)) (i - 1) m (m + 1) := by
  obtain ⟨s, g⟩ := h
  refine ⟨by rw [swp_size, s], fun k => ?_⟩
  rw [swp_get _ _ _ _ (by omega) (by omega)]
  by_cases c1 : k = i - 1
  · subst c1
    rw [if_pos rfl, g, if_pos (by omega), if_pos (by omega)]
    congr 1
    omega
  · rw [if_neg c1]
    by_cases c2 : k = i
    · subst c2
      rw [if_pos rfl, g, if_neg (by omega), if_neg (by omega), if_neg (by omega), if_pos (by omega)]
      congr 1
      omega
    · rw [if_neg c2, g]
      by_cases c3 : i + (m + 1 - m) ≤ k ∧ k < m + 1
      · rw [if_neg (by omega), if_pos c3, if_neg (by omega), if_pos (by omega)]
      · rw [if_neg (by omega), if_neg c3, if_neg (by omega), if_neg (by omega)]

theorem get_pos {d : Array α} {i : Nat} (h : i < d.size) : d[i]! = d[i] := getElem!_pos d i h

theorem IsRot.in1 {d d' : Array α} {a m b : Nat} (h : IsRot d d' a m b) {i : Nat} (h1 : a ≤ i) (h2 : i < a + (b - m)) : d'[i]! = d[m + (i - a)]! := by rw [h.2, if_pos ⟨h1, h2⟩]
theorem IsRot.in2 {d d' : Array α} {a m b : Nat} (h : IsRot d d' a m b) {i : Nat} (h1 : a + (b - m) ≤ i) (h2 : i < b) : d'[i]! = d[i - (b - m)]! := by rw [h.2, if_neg (by omega), if_pos ⟨h1, h2⟩]
theorem IsRot.out {d d' : Array α} {a m b : Nat} (h : IsRot d d' a m b) {i : Nat} (h1 : i < a ∨ (b ≤ i ∧ a + (b - m) ≤ i)) : d'[i]! = d[i]! := by rw [h.2, if_neg (by omega), if_neg (by omega)]

theorem extract_toList {β : Type} (d : Array β) (a b : Nat) : (d.extract a b).toList = (d.toList.drop a).take (b - a) := by simp [Array.toList_extract, List.extract_eq_take_drop]

theorem IsRot.perm {d d' : Array α} {a m b : Nat} (h : IsRot d d' a m b) (ham : a ≤ m) (hmb : m ≤ b) (hb : b ≤ d.size) : PermIn a b d d' := by
  obtain ⟨s, g⟩ := h
  refine ⟨s, fun i hi => by rw [g, if_neg (by omega), if_neg (by omega)], ?_⟩
  have e : (d'.extract a b).toList = (d.extract m b).toList ++ (d.extract a m).toList := by
    apply List.ext_getElem
    · simp; omega
    · intro i h1 h2
      have h1' : i < b - a := by simp at h1; omega
      have e1 : (d'.extract a b).toList[i] = d'[a + i]! := by
        rw [get_pos (by omega)]; simp
      rw [e1, g]
      by_cases c : i < b - m
      · rw [if_pos (by omega), List.getElem_append_left (by simp; omega)]
        have : m + (a + i - a) = m + i := by omega
        rw [this]
        rw [get_pos (by omega)]; simp
      · rw [if_neg (by omega), if_pos (by omega), List.getElem_append_right (by simp; omega)]
        have : a + i - (b - m) < d.size := by omega
        rw [get_pos this]
        simp only [Array.getElem_toList, Array.getElem_extract, Array.length_toList, Array.size_extract]
        congr 1
        omega
  have e2 : (d.extract a b).toList = (d.extract a m).toList ++ (d.extract m b).toList := by
    rw [extract_toList, extract_toList, extract_toList]
    have : b - a = (m - a) + (b - m) := by omega
    rw [this, List.take_add, List.drop_drop]
    congr 3
    omega
  rw [e, e2]
  exact List.perm_append_comm

/-- What merging asks of a row: both parts ascend; where the sort looks (an element of the right part before one of the left part?) the two orders agree. -/
structure MPre (lt slt : α → α → Bool) (a m b : Nat) (d : Array α) : Prop where
  left : SortedIn slt a m d
  right : SortedIn slt m b d
  agree : ∀ i j, a ≤ i → i < m → m ≤ j → j < b → lt d[j]! d[i]! = slt d[j]! d[i]!

theorem swo_asymm {β : Type} {slt : β → β → Bool} (h : SWO slt) {x y : β} (k : slt x y = true) : slt y x = false := by
  cases e : slt y x with
  | false => rfl
  | true => have := h.trans _ _ _ k e; rw [h.irrefl] at this; cases this

theorem SortedIn.le {slt : α → α → Bool} (hs : SWO slt) {a b : Nat} {d : Array α} (h : SortedIn slt a b d) {i j : Nat} (hi : a ≤ i) (hij : i ≤ j) (hj : j < b) : slt d[j]! d[i]! = false := by
  rcases Nat.lt_or_eq_of_le hij with h1 | rfl
  · exact h i j hi h1 hj
  · exact hs.irrefl _

/-- One element of the left part, put in its place. -/
theorem merge_one_left {lt slt : α → α → Bool} (hs : SWO slt) {a b i : Nat} {d d' : Array α} (h : MPre lt slt a (a + 1) b d) (hi : a + 1 ≤ i) (hib : i ≤ b) (hb : b ≤ d.size)
    (h1 : i = a + 1 ∨ lt d[i - 1]! d[a]! = true) (h2 : i = b ∨ lt d[i]! d[a]! = false) (hr : IsRot d d' a (a + 1) i) : SortedIn slt a b d' := by
  obtain ⟨s, g⟩ := hr
  have k1 : ∀ q, a + 1 ≤ q → q < i → slt d[a]! d[q]! = false := by
    intro q hq hq2
    rcases h1 with h1 | h1
    · omega
    · rw [h.agree a (i - 1) (Nat.le_refl _) (by omega) (by omega) (by omega)] at h1
      exact hs.ntrans _ _ _ (swo_asymm hs h1) (SortedIn.le hs h.right hq (by omega) (by omega))
  have k2 : ∀ q, i ≤ q → q < b → slt d[q]! d[a]! = false := by
    intro q hq hq2
    rcases h2 with h2 | h2
    · omega
    · rw [h.agree a i (Nat.le_refl _) (by omega) (by omega) (by omega)] at h2
      exact hs.ntrans _ _ _ (SortedIn.le hs h.right (by omega) hq hq2) h2
  have hr : IsRot d d' a (a + 1) i := ⟨s, g⟩
  have ga : d'[i - 1]! = d[a]! := by rw [hr.in2 (by omega) (by omega)]; congr 1; omega
  intro p q hp hpq hq
  by_cases c1 : p < i - 1
  · rw [hr.in1 hp (by omega)]
    by_cases c2 : q < i - 1
    · rw [hr.in1 (by omega) (by omega)]
      exact h.right _ _ (by omega) (by omega) (by omega)
    · by_cases c3 : q = i - 1
      · subst c3
        rw [ga]
        exact k1 _ (by omega) (by omega)
      · rw [hr.out (.inr ⟨by omega, by omega⟩)]
        exact h.right _ _ (by omega) (by omega) (by omega)
  · by_cases c3 : p = i - 1
    · subst c3
      rw [ga, hr.out (.inr ⟨by omega, by omega⟩)]
      exact k2 _ (by omega) hq
    · rw [hr.out (.inr ⟨by omega, by omega⟩), hr.out (i := p) (.inr ⟨by omega, by omega⟩)]
      exact h.right _ _ (by omega) (by omega) (by omega)

/-- One element of the right part, put in its place. -/
theorem merge_one_right {lt slt : α → α → Bool} (hs : SWO slt) {a m i : Nat} {d d' : Array α} (h : MPre lt slt a m (m + 1) d) (hi : a ≤ i) (him : i ≤ m) (hb : m + 1 ≤ d.size)
    (h1 : i = a ∨ lt d[m]! d[i - 1]! = false) (h2 : i = m ∨ lt d[m]! d[i]! = true) (hr : IsRot d d' i m (m + 1)) : SortedIn slt a (m + 1) d' := by
  obtain ⟨s, g⟩ := hr
  have k1 : ∀ q, a ≤ q → q < i → slt d[m]! d[q]! = false := by
    intro q hq hq2
    rcases h1 with h1 | h1
    · omega
    · rw [h.agree (i - 1) m (by omega) (by omega) (by omega) (by omega)] at h1
      exact hs.ntrans _ _ _ h1 (SortedIn.le hs h.left hq (by omega) (by omega))
  have k2 : ∀ q, i ≤ q → q < m → slt d[q]! d[m]! = false := by
    intro q hq hq2
    rcases h2 with h2 | h2
    · omega
    · rw [h.agree i m (by omega) (by omega) (by omega) (by omega)] at h2
      exact hs.ntrans _ _ _ (SortedIn.le hs h.left (by omega) hq hq2) (swo_asymm hs h2)
  have hr : IsRot d d' i m (m + 1) := ⟨s, g⟩
  have gm : d'[i]! = d[m]! := by rw [hr.in1 (Nat.le_refl _) (by omega)]; congr 1; omega
  intro p q hp hpq hq
  by_cases c1 : p < i
  · rw [hr.out (i := p) (.inl c1)]
    by_cases c2 : q < i
    · rw [hr.out (.inl c2)]
      exact h.left _ _ (by omega) (by omega) (by omega)
    · by_cases c3 : q = i
      · subst c3
        rw [gm]
        exact k1 _ (by omega) (by omega)
      · rw [hr.in2 (by omega) (by omega)]
        exact h.left _ _ (by omega) (by omega) (by omega)
  · by_cases c3 : p = i
    · subst c3
      rw [gm, hr.in2 (by omega) (by omega)]
      exact k2 _ (by omega) (by omega)
    · rw [hr.in2 (i := q) (by omega) (by omega), hr.in2 (i := p) (by omega) (by omega)]
      exact h.left _ _ (by omega) (by omega) (by omega)

/-- Behind the rotation: each half is to be merged by itself, and nothing in the second half is less than anything in the first. -/
structure Halves (lt slt : α → α → Bool) (a s mid e b : Nat) (d : Array α) : Prop where
  one : MPre lt slt a s mid d
  two : MPre lt slt mid e b d
  cross : ∀ p q, a ≤ p → p < mid → mid ≤ q → q < b → slt d[q]! d[p]! = false

theorem halves {lt slt : α → α → Bool} (hs : SWO slt) {a m b s e mid : Nat} {d d' : Array α} (h : MPre lt slt a m b d) (has : a ≤ s) (hsm : s ≤ m) (hme : m ≤ e) (heb : e ≤ b) (hb : b ≤ d.size) (hmid : mid = s + (e - m))
    (h1 : s = a ∨ e = b ∨ lt d[e]! d[s - 1]! = false) (h2 : s = m ∨ e = m ∨ lt d[e - 1]! d[s]! = true) (hr : IsRot d d' s m e) : Halves lt slt a s mid e b d' := by
  obtain ⟨sz, g⟩ := hr
  -- L1: [a, s) stays; R1: [m, e) at [s, mid); L2: [s, m) at [mid, e); R2: [e, b) stays
  have gl1 : ∀ i, a ≤ i → i < s → d'[i]! = d[i]! := fun i _ _ => by rw [g, if_neg (by omega), if_neg (by omega)]
  have gr1 : ∀ i, s ≤ i → i < mid → d'[i]! = d[m + (i - s)]! := fun i _ _ => by rw [g, if_pos (by omega)]
  have gl2 : ∀ i, mid ≤ i → i < e → d'[i]! = d[i - (e - m)]! := fun i _ _ => by rw [g, if_neg (by omega), if_pos (by omega)]
  have gr2 : ∀ i, e ≤ i → i < b → d'[i]! = d[i]! := fun i _ _ => by rw [g, if_neg (by omega), if_neg (by omega)]
  have x1 : ∀ p q, a ≤ p → p < s → e ≤ q → q < b → slt d[q]! d[p]! = false := by
    intro p q hp hp2 hq hq2
    rcases h1 with h1 | h1 | h1
    · omega
    · omega
    · rw [h.agree (s - 1) e (by omega) (by omega) hme (by omega)] at h1
      exact hs.ntrans _ _ _ (hs.ntrans _ _ _ (SortedIn.le hs h.right hme hq hq2) h1) (SortedIn.le hs h.left hp (by omega) (by omega))
  have x2 : ∀ p q, s ≤ p → p < m → m ≤ q → q < e → slt d[p]! d[q]! = false := by
    intro p q hp hp2 hq hq2
    rcases h2 with h2 | h2 | h2
    · omega
    · omega
    · rw [h.agree s (e - 1) (by omega) (by omega) (by omega) (by omega)] at h2
      exact hs.ntrans _ _ _ (hs.ntrans _ _ _ (SortedIn.le hs h.left has hp hp2) (swo_asymm hs h2)) (SortedIn.le hs h.right hq (by omega) (by omega))
  refine ⟨⟨?_, ?_, ?_⟩, ⟨?_, ?_, ?_⟩, ?_⟩
  · intro p q hp hpq hq
    rw [gl1 p hp (by omega), gl1 q (by omega) hq]
    exact h.left _ _ hp hpq (by omega)
  · intro p q hp hpq hq
    rw [gr1 p hp (by omega), gr1 q (by omega) hq]
    exact h.right _ _ (by omega) (by omega) (by omega)
  · intro i j hi hi2 hj hj2
    rw [gl1 i hi hi2, gr1 j hj hj2]
    exact h.agree _ _ hi (by omega) (by omega) (by omega)
  · intro p q hp hpq hq
    rw [gl2 p hp (by omega), gl2 q (by omega) hq]
    exact h.left _ _ (by omega) (by omega) (by omega)
  · intro p q hp hpq hq
    rw [gr2 p hp (by omega), gr2 q (by omega) hq]
    exact h.right _ _ (by omega) (by omega) (by omega)
  · intro i j hi hi2 hj hj2
    rw [gl2 i hi hi2, gr2 j hj hj2]
    exact h.agree _ _ (by omega) (by omega) (by omega) (by omega)
  · intro p q hp hp2 hq hq2
    by_cases c1 : p < s
    · rw [gl1 p hp c1]
      by_cases c2 : q < e
      · rw [gl2 q hq c2]
        exact h.left _ _ hp (by omega) (by omega)
      · rw [gr2 q (by omega) hq2]
        exact x1 _ _ hp c1 (by omega) hq2
    · rw [gr1 p (by omega) hp2]
      by_cases c2 : q < e
      · rw [gl2 q hq c2]
        exact x2 _ _ (by omega) (by omega) (by omega) (by omega)
      · rw [gr2 q (by omega) hq2]
        exact h.right _ _ (by omega) (by omega) (by omega)

/-- A part that is merged by itself, the other part as it was. -/
theorem Halves.first {lt slt : α → α → Bool} {a s mid e b : Nat} {d d' : Array α} (h : Halves lt slt a s mid e b d) (ham : a ≤ mid) (hme : mid ≤ e) (hmb : mid ≤ b) (hb : b ≤ d.size) (hp : PermIn a mid d d') : MPre lt slt mid e b d' ∧ ∀ p q, a ≤ p → p < mid → mid ≤ q → q < b → slt d'[q]! d'[p]! = false := by
  obtain ⟨sz, out, pm⟩ := hp
  have o : ∀ i, mid ≤ i → d'[i]! = d[i]! := fun i hi => out i (.inr hi)
  refine ⟨⟨fun p q h1 h2 h3 => ?_, fun p q h1 h2 h3 => ?_, fun i j h1 h2 h3 h4 => ?_⟩, fun p q h1 h2 h3 h4 => ?_⟩
  · rw [o p h1, o q (by omega)]; exact h.two.left p q h1 h2 h3
  · rw [o p (by omega), o q (by omega)]; exact h.two.right p q h1 h2 h3
  · rw [o i h1, o j (by omega)]; exact h.two.agree i j h1 h2 h3 h4
  · rw [o q h3]
    have := permIn_all d d' a mid (fun x => slt d[q]! x = false) (by omega) ⟨sz, out, pm⟩ (fun i hi hi2 => h.cross i q hi hi2 h3 h4)
    exact this p h1 h2

/-- Both halves merged: all is. -/
theorem join_halves {slt : α → α → Bool} {a mid b : Nat} {d d' : Array α} (ham : a ≤ mid) (hmb : mid ≤ b) (hb : b ≤ d.size) (h1 : SortedIn slt a mid d) (hx : ∀ p q, a ≤ p → p < mid → mid ≤ q → q < b → slt d[q]! d[p]! = false)
    (hp : PermIn mid b d d') (h2 : SortedIn slt mid b d') : SortedIn slt a b d' := by
  obtain ⟨sz, out, pm⟩ := hp
  have o : ∀ i, i < mid → d'[i]! = d[i]! := fun i hi => out i (.inl hi)
  intro p q hp' hpq hq
  by_cases c1 : q < mid
  · rw [o p (by omega), o q c1]
    exact h1 p q hp' hpq c1
  · by_cases c2 : p < mid
    · rw [o p c2]
      have := permIn_all d d' mid b (fun x => slt x d[p]! = false) hb ⟨sz, out, pm⟩ (fun i hi hi2 => hx p i hp' c2 hi hi2)
      exact this q (by omega) hq
    · exact h2 p q (by omega) hpq hq
end Go.Proofs.YtimahogkcmmcnaaGreatDoor.Stab
