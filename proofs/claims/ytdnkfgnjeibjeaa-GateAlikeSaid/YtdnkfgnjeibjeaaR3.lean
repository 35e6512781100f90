import Derived.Test.YtdnkfgnjeibjeaaG14
import Derived.Test.YtdnkfgnjeibjeaaG7
namespace Go.Proofs.Ytdnkfgnjeibjeaa
open Go.RowKit Go.Shelf

/-- A region that draws its order: one invariant for whatever has been carried out. -/
theorem wpAny_inv {P : Program} {md : Region.Mode} {ops : Array Oper} {Q : Exit → Act → World → Prop} (St : Array Bool → Act → World → Prop)
    (hstep : ∀ listed a w i o, St listed a w → Closed md ops listed → ops[i]? = some o → listed.getD i true = false → (∀ e ∈ o.after, Region.binds md e = true → listed.getD e.on false = true) →
      wpOp P ops Q i (fun a' w' => St (listed.setIfInBounds i true) a' w') a w)
    (hend : ∀ listed a w, St listed a w → Region.ready md ops listed = [] → Q .normal a w) :
    ∀ (fuel : Nat) (listed : Array Bool) (a : Act) (w : World), St listed a w → Closed md ops listed → (listed.toList.filter (! ·)).length ≤ fuel → wpAny P md ops Q fuel listed a w := by
  intro fuel
  induction fuel with
  | zero =>
    intro listed a w hs _ hc
    have hr : Region.ready md ops listed = [] := by
      cases hr : Region.ready md ops listed with
      | nil => rfl
      | cons j js =>
        exfalso
        have hj : j ∈ Region.ready md ops listed := by rw [hr]; exact List.mem_cons_self
        have h0 := (mem_ready.1 hj).1
        have hx : listed.toList[j]? = some false := by
          rcases Nat.lt_or_ge j listed.size with h' | h'
          · simp [h'] at h0 ⊢; exact h0
          · simp [Array.getElem?_eq_none h'] at h0
        have := count_set hx
        omega
    exact ⟨hr, hend _ _ _ hs hr⟩
  | succ fuel ih =>
    intro listed a w hs hcl hc
    refine ⟨fun hr => hend _ _ _ hs hr, fun i hi => ?_⟩
    obtain ⟨h0, o, ho, hd⟩ := mem_ready.1 hi
    refine wpOp_mono (fun a' w' hs' => ih _ a' w' hs' (hcl.step ho hd) ?_) (hstep _ _ _ _ _ hs hcl ho h0 hd)
    have hx : listed.toList[i]? = some false := by
      rcases Nat.lt_or_ge i listed.size with h' | h'
      · simp [h'] at h0 ⊢; exact h0
      · simp [Array.getElem?_eq_none h'] at h0
    have := count_set hx
    rw [Array.toList_setIfInBounds]
    omega

theorem fillT_listed {base : Array Value} {d k : Nat} {val : Nat → Value} {l l' : Array Bool} (h : ∀ i, i < k → l.getD i false = l'.getD i false) : fillT base d k val l = fillT base d k val l' := by
  apply Array.ext_getElem?
  intro s
  simp only [fillT, Array.getElem?_mapIdx]
  cases base[s]? with
  | none => rfl
  | some v =>
    simp only [Option.map_some]
    by_cases hh : d ≤ s ∧ s < d + k
    · rw [h (s - d) (by omega)]
    · rw [if_neg (fun e => hh ⟨e.1, e.2.1⟩), if_neg (fun e => hh ⟨e.1, e.2.1⟩)]

end Go.Proofs.Ytdnkfgnjeibjeaa
