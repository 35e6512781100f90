/-
  A function by its name, by one walk down the list. No conditions.
-/
import Derived.LaidByTextLater
namespace Go.Proofs.YtgfbjbdfckgdjaaGreatDoor
open Go
/-- A function by its name, by one walk down the list. -/
theorem funcNamed_list (P : Program) (name : String) : P.funcNamed name = match (P.funcs.toList.zipIdx.filter fun x => x.1.name == name).map (·.2) with | [i] => some i | _ => none := by
  have h : (List.range P.funcs.size).filter (fun i => (P.funcs[i]?).any (·.name == name)) = (P.funcs.toList.zipIdx.filter fun x => x.1.name == name).map (·.2) := by
    have e : List.range P.funcs.size = P.funcs.toList.zipIdx.map (·.2) := by
      rw [List.zipIdx_map_snd, List.range_eq_range', Array.length_toList]
    rw [e, List.filter_map]
    congr 1
    apply List.filter_congr
    rintro ⟨f, i⟩ hx
    have hi := List.mem_zipIdx_iff_getElem?.1 hx
    simp only [Function.comp]
    rw [← Array.getElem?_toList, hi]
    rfl
  unfold Program.funcNamed
  rw [h]
  rfl
end Go.Proofs.YtgfbjbdfckgdjaaGreatDoor
