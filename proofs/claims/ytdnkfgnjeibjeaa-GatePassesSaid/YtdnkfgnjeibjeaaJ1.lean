import Derived.Test.YtdnkfgnjeibjeaaMF
namespace Go.Proofs.Ytdnkfgnjeibjeaa
open Go.RowKit Go.Shelf

/-- A map's entries: keys that are integers, each with its value. -/
def Ents (es : List MapEntry) (l : List (Int × Value)) : Prop := es.map (fun e => (e.key, e.val)) = l.map fun p => (Value.int .i64 p.1, p.2)

theorem Ents.nil : Ents [] [] := rfl

theorem Ents.app {es fs : List MapEntry} {l m : List (Int × Value)} (h : Ents es l) (k : Ents fs m) : Ents (es ++ fs) (l ++ m) := by
  unfold Ents at *
  rw [List.map_append, List.map_append, h, k]

/-- Where a key stands. -/
def keyAt (l : List (Int × Value)) (k : Int) (i : Nat) : Option (Nat × Value) :=
  match l with
  | [] => none
  | p :: l => if p.1 = k then some (i, p.2) else keyAt l k (i + 1)

theorem findNow_int (q : IntKind) : ∀ {es : List MapEntry} {l : List (Int × Value)}, Ents es l → ∀ (k : Int) (i : Nat), Instr.findNow (.int q) (.int .i64 k) es i = some (keyAt l k i)
  | [], [], _, k, i => rfl
  | [], _ :: _, h, _, _ => by cases h
  | _ :: _, [], h, _, _ => by cases h
  | e :: es, p :: l, h, k, i => by
    simp only [Ents, List.map_cons, List.cons.injEq, Prod.mk.injEq] at h
    obtain ⟨⟨h1, h2⟩, h3⟩ := h
    have ih := findNow_int q (es := es) (l := l) h3 k (i + 1)
    simp only [Instr.findNow, h1, Instr.sameNow, if_true, keyAt, h2]
    by_cases e' : k = p.1
    · subst e'; simp
    · have : ¬ p.1 = k := fun x => e' x.symm
      simp only [this, if_false, beq_eq_false_iff_ne.2 e']
      exact ih

theorem keyAt_shift {l : List (Int × Value)} {k : Int} : ∀ i, (keyAt l k i).map Prod.snd = (keyAt l k 0).map Prod.snd := by
  induction l with
  | nil => intro i; rfl
  | cons p l ih =>
    intro i
    simp only [keyAt]
    split
    · rfl
    · rw [ih (i + 1), ih 1]

/-- The value at a key. -/
def valAt (l : List (Int × Value)) (k : Int) : Option Value := (keyAt l k 0).map Prod.snd

theorem run_findKey (W : World) {es : List MapEntry} {l : List (Int × Value)} (h : Ents es l) (k : Int) : (Instr.findKey 3 (.int .i64 k) es).run Try.prog W = .ok (keyAt l k 0) W := by
  have u3 := Try.underlying3
  simp [Instr.findKey, run_underlying u3, findNow_int _ h]

theorem lookup_ents (W : World) (r clock : Nat) (k : Int) {es : Array MapEntry} {l : List (Int × Value)} (he : Ents es.toList l) (h : W.heap[r]? = some (.map es clock)) :
    (Instr.lookup 83 (.map (some r)) (.int .i64 k) false).run Try.prog W = .ok ((valAt l k).getD (.pointer none)) W := by
  have hz : ∀ w, (zeroValue 93).run Try.prog w = .ok (.pointer none) w := fun w => by kernel_rfl
  have u := Try.underlying83
  have ho : (getObj r).run Try.prog W = .ok (.map es clock) W := by simp [getObj, Sem.run, h]
  cases hk : keyAt l k 0 with
  | none => simp [Instr.lookup, run_underlying u, ho, run_checkKey_int, run_findKey W he, hk, hz, valAt]
  | some p => simp [Instr.lookup, run_underlying u, ho, run_checkKey_int, run_findKey W he, hk, valAt]

theorem lookup_ents_ok (W : World) (r clock : Nat) (k : Int) {es : Array MapEntry} {l : List (Int × Value)} (he : Ents es.toList l) (h : W.heap[r]? = some (.map es clock)) :
    (Instr.lookup 83 (.map (some r)) (.int .i64 k) true).run Try.prog W = .ok (.tuple #[(valAt l k).getD (.pointer none), .bool (valAt l k).isSome]) W := by
  have hz : ∀ w, (zeroValue 93).run Try.prog w = .ok (.pointer none) w := fun w => by kernel_rfl
  have u := Try.underlying83
  have ho : (getObj r).run Try.prog W = .ok (.map es clock) W := by simp [getObj, Sem.run, h]
  cases hk : keyAt l k 0 with
  | none => simp [Instr.lookup, run_underlying u, ho, run_checkKey_int, run_findKey W he, hk, hz, valAt]
  | some p => simp [Instr.lookup, run_underlying u, ho, run_checkKey_int, run_findKey W he, hk, valAt]

theorem store_ents (W : World) (r clock : Nat) (k : Int) (v : Value) {es : Array MapEntry} {l : List (Int × Value)} (he : Ents es.toList l) (h : W.heap[r]? = some (.map es clock)) (hk : keyAt l k 0 = none) :
    (Instr.mapUpdate 83 (.map (some r)) (.int .i64 k) v).run Try.prog W = .ok () (W.putObj r (.map (es.push { key := .int .i64 k, val := v, born := clock }) (clock + 1))) := by
  have u := Try.underlying83
  have ho : (getObj r).run Try.prog W = .ok (.map es clock) W := by simp [getObj, Sem.run, h]
  have hs : ∀ o, (setObj r o).run Try.prog W = .ok () (W.putObj r o) := fun o => by simp [setObj, Sem.run, World.putObj, h]
  simp [Instr.mapUpdate, run_underlying u, ho, run_checkKey_int, run_findKey W he, hk, hs]

theorem Ents.push {es : Array MapEntry} {l : List (Int × Value)} (h : Ents es.toList l) (k : Int) (v : Value) (b : Nat) : Ents (es.push { key := .int .i64 k, val := v, born := b }).toList (l ++ [(k, v)]) := by
  rw [Array.toList_push]
  exact h.app rfl

theorem delete_ents (W : World) (r clock : Nat) (k : Int) (t : TypeId) {es : Array MapEntry} {l : List (Int × Value)} (he : Ents es.toList l) (h : W.heap[r]? = some (.map es clock)) {i : Nat} {v : Value} (hk : keyAt l k 0 = some (i, v)) :
    (Builtin.delete_ #[83, 3] t #[.map (some r), .int .i64 k]).run Try.prog W = .ok (.tuple #[]) (W.putObj r (.map (es.eraseIdxIfInBounds i) clock)) := by
  have u := Try.underlying83
  have ho : (getObj r).run Try.prog W = .ok (.map es clock) W := by simp [getObj, Sem.run, h]
  have hs : ∀ o, (setObj r o).run Try.prog W = .ok () (W.putObj r o) := fun o => by simp [setObj, Sem.run, World.putObj, h]
  simp [Builtin.delete_, run_underlying u, ho, run_checkKey_int, run_findKey W he, hk, hs]

theorem delete_none (W : World) (r clock : Nat) (k : Int) (t : TypeId) {es : Array MapEntry} {l : List (Int × Value)} (he : Ents es.toList l) (h : W.heap[r]? = some (.map es clock)) (hk : keyAt l k 0 = none) :
    (Builtin.delete_ #[83, 3] t #[.map (some r), .int .i64 k]).run Try.prog W = .ok (.tuple #[]) (W.putObj r (.map es clock)) := by
  have u := Try.underlying83
  have ho : (getObj r).run Try.prog W = .ok (.map es clock) W := by simp [getObj, Sem.run, h]
  have hs : ∀ o, (setObj r o).run Try.prog W = .ok () (W.putObj r o) := fun o => by simp [setObj, Sem.run, World.putObj, h]
  simp [Builtin.delete_, run_underlying u, ho, run_checkKey_int, run_findKey W he, hk, hs]

theorem eraseIdx_map' {α β : Type} (f : α → β) : ∀ (l : List α) (i : Nat), (l.eraseIdx i).map f = (l.map f).eraseIdx i
  | [], _ => rfl
  | _ :: _, 0 => rfl
  | a :: l, i + 1 => by simp only [List.eraseIdx_cons_succ, List.map_cons, eraseIdx_map' f l i]

theorem Ents.erase {es : Array MapEntry} {l : List (Int × Value)} (h : Ents es.toList l) (i : Nat) : Ents (es.eraseIdxIfInBounds i).toList (l.eraseIdx i) := by
  have : (es.eraseIdxIfInBounds i).toList = es.toList.eraseIdx i := by
    unfold Array.eraseIdxIfInBounds
    split
    · simp
    · rename_i hh
      rw [List.eraseIdx_of_length_le (by simpa using hh)]
  rw [this]
  unfold Ents at *
  rw [eraseIdx_map', eraseIdx_map', h]
end Go.Proofs.Ytdnkfgnjeibjeaa
