/-
  The stable sort, the plain part 2: insertion by an order that agrees, blocks. No conditions: laws.
-/
import Derived.Test.YtimahogkcmmcnaaGreatDoorS1
set_option linter.unusedSimpArgs false
set_option linter.unusedVariables false
namespace Go.Proofs.YtimahogkcmmcnaaGreatDoor.Stab
open Go.Sort
variable {α : Type} [Inhabited α]

/-- A later element is before an earlier one by both orders, or by none. -/
def Agr (lt slt : α → α → Bool) (a b : Nat) (d : Array α) : Prop := ∀ p q, a ≤ p → p < q → q < b → lt d[q]! d[p]! = slt d[q]! d[p]!

theorem insInner_agree {lt slt : α → α → Bool} {a : Nat} : ∀ (j : Nat) (d : Array α), j < d.size → (∀ p, a ≤ p → p < j → lt d[j]! d[p]! = slt d[j]! d[p]!) → insInner lt a j d = insInner slt a j d
  | 0, d, _, _ => by simp [insInner]
  | j + 1, d, hj, h => by
    unfold insInner
    by_cases hc : j + 1 > a
    · rw [h j (by omega) (by omega)]
      split
      · refine insInner_agree j _ (by rw [Go.Sort.swp_size]; omega) fun p hp hpj => ?_
        rw [swp_get _ _ _ _ hj (by omega), swp_get _ _ _ _ hj (by omega), if_pos rfl, if_neg (by omega), if_neg (by omega)]
        exact h p hp (by omega)
      · rfl
    · simp [hc]

theorem insOuter_agree {lt slt : α → α → Bool} (hS : SWO slt) (a b : Nat) : ∀ (n i : Nat) (d : Array α), b - i = n → a < i → i ≤ b → b ≤ d.size → SortedIn slt a i d → (∀ p q, a ≤ p → p < q → q < b → i ≤ q → lt d[q]! d[p]! = slt d[q]! d[p]!) →
    insOuter lt a b i d = insOuter slt a b i d
  | 0, i, d, hn, _, hib, _, _, _ => by
    unfold insOuter
    rw [if_neg (by omega), if_neg (by omega)]
  | n + 1, i, d, hn, hai, hib, hb, hs, h => by
    have hlt : i < b := by omega
    unfold insOuter
    rw [if_pos hlt, if_pos hlt]
    have h1 := insInner_spec hS swp_permIn permIn_refl permIn_trans a (i + 1) i (by omega) i d (by omega) (Nat.le_refl _) (by omega) ⟨fun p q hap hpq hqi _ hq => hs p q hap hpq (by omega), fun q h1 h2 => by omega⟩
    rw [insInner_agree i d (by omega) fun p hp hpi => h p i hp hpi hlt (Nat.le_refl _)]
    refine insOuter_agree hS a b n (i + 1) _ (by omega) (by omega) (by omega) (by rw [h1.1.1]; exact hb) h1.2 fun p q hp hpq hq hiq => ?_
    have eq : (insInner slt a i d)[q]! = d[q]! := h1.1.2.1 q (.inr hiq)
    rw [eq]
    by_cases hpi : p < i + 1
    · exact permIn_all d _ a (i + 1) (fun x => lt d[q]! x = slt d[q]! x) (by omega) h1.1 (fun k hk hk2 => h k q hk (by omega) hq (by omega)) p hp hpi
    · rw [h1.1.2.1 p (.inr (by omega))]
      exact h p q hp hpq hq (by omega)

theorem insertion_agree {lt slt : α → α → Bool} (hS : SWO slt) {a b : Nat} {d : Array α} (hab : a ≤ b) (hb : b ≤ d.size) (h : Agr lt slt a b d) : PermIn a b d (insertionSort lt d a b) ∧ SortedIn slt a b (insertionSort lt d a b) := by
  have : insertionSort lt d a b = insertionSort slt d a b := by
    unfold insertionSort
    by_cases e : a = b
    · subst e
      unfold insOuter
      rw [if_neg (by omega), if_neg (by omega)]
    · exact insOuter_agree hS a b _ _ d rfl (by omega) (by omega) hb (fun i j h1 h2 h3 => by omega) fun p q hp hpq hq _ => h p q hp hpq hq
  rw [this]
  exact insertionSort_holds hS d a b hab hb

/-- What lies apart from a part that is permuted agrees as it did. -/
theorem Agr.perm {lt slt : α → α → Bool} {d d' : Array α} {a b n : Nat} (h : ∀ p q, p < q → q < n → (p < a ∨ b ≤ q ∨ b ≤ p ∨ q < a) → lt d[q]! d[p]! = slt d[q]! d[p]!) (hp : PermIn a b d d') (hbn : b ≤ n) (hn : n ≤ d.size) :
    ∀ p q, p < q → q < n → (p < a ∨ b ≤ q ∨ b ≤ p ∨ q < a) → lt d'[q]! d'[p]! = slt d'[q]! d'[p]! := by
  intro p q hpq hq hc
  by_cases c1 : p < a
  · rw [hp.2.1 p (.inl c1)]
    by_cases c2 : q < a
    · rw [hp.2.1 q (.inl c2)]
      exact h p q hpq hq (.inl c1)
    · by_cases c3 : b ≤ q
      · rw [hp.2.1 q (.inr c3)]
        exact h p q hpq hq (.inl c1)
      · exact permIn_all d d' a b (fun x => lt x d[p]! = slt x d[p]!) (by omega) hp (fun k hk hk2 => h p k (by omega) (by omega) (.inl c1)) q (by omega) (by omega)
  · by_cases c3 : b ≤ q
    · rw [hp.2.1 q (.inr c3)]
      by_cases c4 : b ≤ p
      · rw [hp.2.1 p (.inr c4)]
        exact h p q hpq hq (.inr (.inl c3))
      · exact permIn_all d d' a b (fun x => lt d[q]! x = slt d[q]! x) (by omega) hp (fun k hk hk2 => h k q (by omega) hq (.inr (.inl c3))) p (by omega) (by omega)
    · omega

theorem SortedIn.perm {slt : α → α → Bool} {d d' : Array α} {a b l r : Nat} (h : SortedIn slt l r d) (hp : PermIn a b d d') (hx : r ≤ a ∨ b ≤ l) : SortedIn slt l r d' := by
  intro i j hi hij hj
  rw [hp.2.1 i (by omega), hp.2.1 j (by omega)]
  exact h i j hi hij hj
end Go.Proofs.YtimahogkcmmcnaaGreatDoor.Stab
