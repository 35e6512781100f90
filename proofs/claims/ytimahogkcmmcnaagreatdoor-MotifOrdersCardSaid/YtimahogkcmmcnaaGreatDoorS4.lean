/-
  The stable sort, the plain part 4: two sorted blocks. No conditions: laws.
-/
import Derived.Test.YtimahogkcmmcnaaGreatDoorS3
set_option linter.unusedSimpArgs false
set_option linter.unusedVariables false
namespace Go.Proofs.YtimahogkcmmcnaaGreatDoor.Stab
open Go.Sort
variable {α : Type} [Inhabited α]

theorem Agr.sub {lt slt : α → α → Bool} {a b a' b' : Nat} {d : Array α} (h : Agr lt slt a b d) (ha : a ≤ a') (hb : b' ≤ b) : Agr lt slt a' b' d := fun p q h1 h2 h3 => h p q (by omega) h2 (by omega)

/-- Two blocks, each sorted by itself: what merging asks. -/
theorem two_blocks {lt slt : α → α → Bool} (hS : SWO slt) {k n : Nat} {d : Array α} (hk : k ≤ n) (hn : n ≤ d.size) (h : Agr lt slt 0 n d) :
    MPre lt slt 0 k n (insertionSort lt (insertionSort lt d 0 k) k n) ∧ PermIn 0 n d (insertionSort lt (insertionSort lt d 0 k) k n) := by
  obtain ⟨p1, s1⟩ := insertion_agree hS (Nat.zero_le k) (by omega) (h.sub (Nat.le_refl _) hk)
  generalize insertionSort lt d 0 k = d1 at p1 s1 ⊢
  have o1 : ∀ i, k ≤ i → d1[i]! = d[i]! := fun i hi => p1.2.1 i (.inr hi)
  have g1 : Agr lt slt k n d1 := fun p q h1 h2 h3 => by rw [o1 p h1, o1 q (by omega)]; exact h p q (by omega) h2 h3
  obtain ⟨p2, s2⟩ := insertion_agree hS hk (by rw [p1.1]; exact hn) g1
  generalize insertionSort lt d1 k n = d2 at p2 s2 ⊢
  have o2 : ∀ i, i < k → d2[i]! = d1[i]! := fun i hi => p2.2.1 i (.inl hi)
  refine ⟨⟨fun i j h1 h2 h3 => ?_, s2, fun i j h1 h2 h3 h4 => ?_⟩, ?_⟩
  · rw [o2 i (by omega), o2 j h3]; exact s1 i j h1 h2 h3
  · rw [o2 i h2]
    refine permIn_all d1 d2 k n (fun x => lt x d1[i]! = slt x d1[i]!) (by rw [p1.1]; exact hn) p2 (fun q hq hq2 => ?_) j h3 h4
    rw [o1 q hq]
    exact permIn_all d d1 0 k (fun y => lt d[q]! y = slt d[q]! y) (by omega) p1 (fun p hp hp2 => h p q (Nat.zero_le _) (by omega) hq2) i h1 h2
  · exact permIn_trans d d1 d2 0 n (permIn_mono d d1 0 k 0 n (Nat.le_refl _) hk hn p1) (permIn_mono d1 d2 k n 0 n (Nat.zero_le _) (Nat.le_refl _) (by rw [p1.1]; exact hn) p2)

theorem ins_none {lt : α → α → Bool} (d : Array α) (a : Nat) : insertionSort lt d a a = d := by
  unfold insertionSort
  unfold insOuter
  rw [if_neg (by omega)]
end Go.Proofs.YtimahogkcmmcnaaGreatDoor.Stab
