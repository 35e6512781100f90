/-
 An evaluator for closed calls, part 4: it proves that a call in which a range over a map of two entries stands does what the evaluator computes for each order. No conditions.
-/
import Derived.Test.YtjhknhgkjfabaaaGreatDoorU28
set_option linter.unusedSimpArgs false
set_option linter.unusedVariables false
set_option linter.unusedSimpArgs false
set_option linter.unusedVariables false

namespace Go.Proofs.YtjhknhgkjfabaaaGreatDoor.Ev
open Go.RowKit

/-- What steps of a range over a map of two entries may come to. -/
def nextTo (s : S) (b m since : Nat) (seen : List Nat) (c : Nat) (e : ME) : AV × S :=
  (.tuple [.bool true, e.key, e.val], { h := s.h.set b (some (.iter (some m) since (seen ++ [e.born]) c)), n := s.n })

def exNextN (s : S) (x : AV) : Option (List (AV × S)) :=
  match x with
  | .ptr (some (b, 0)) => match s.h.get b with
    | some (.iter (some m) since seen last) => match s.h.get m with
      | some (.map es c) => match es, seen with
        | [e, f], [] => match Nat.blt e.born since && Nat.blt f.born since with
          | true => some [nextTo s b m since [] c e, nextTo s b m since [] c f]
          | false => none
        | [e, f], [q] => match Nat.blt e.born last && (Nat.blt e.born since && Nat.blt f.born since) with
          | true => match Nat.beq e.born q, Nat.beq f.born q with
            | true, false => some [nextTo s b m since [q] c f]
            | false, true => some [nextTo s b m since [q] c e]
            | _, _ => none
          | false => none
        | [e, f], [q, r] => match Nat.blt e.born last && (Nat.beq e.born q || Nat.beq e.born r) && (Nat.beq f.born q || Nat.beq f.born r) with
          | true => some [(.tuple [.bool false], s)]
          | false => none
        | _, _ => none
      | _ => none
    | _ => none
  | _ => none

section
variable {P : Program} {g : G} {β : Ren} {s : S} {w : World} {ty : TypeId}

theorem nextTo_rel (hs : Rel β s w) {b m since last c : Nat} {seen : List Nat} {e : ME} {m0 : MapEntry} {i im : Info} (hb : s.h.get b = some (.iter (some m) since seen last)) (hi : β b = some i) (him : β m = some im) (hxt : i.xtra = 0)
    (hm : w.heap[i.blk]? = some (.mapIter (some im.blk) since seen.toArray last)) (hk : VR β e.key m0.key) (hv : VR β e.val m0.val) (hborn : m0.born = e.born) (d : Nat) {run : Result Value}
    (hr : run = .ok (.tuple #[.bool true, m0.key, m0.val]) { w with drawn := d, heap := w.heap.setIfInBounds i.blk (.mapIter (some im.blk) since (seen.toArray.push m0.born) c) }) :
    RV β s w run (.val (nextTo s b m since seen c e).1 (nextTo s b m since seen c e).2) := by
  have hlt' : i.blk < w.heap.size := (Array.getElem?_eq_some_iff.1 hm).1
  obtain ⟨h3, h4⟩ := (hs.drew d).change (o' := .iter (some m) since (seen ++ [e.born]) c) (w' := { w with drawn := d, heap := w.heap.setIfInBounds i.blk (.mapIter (some im.blk) since (seen.toArray.push m0.born) c) }) hb hi
    ⟨some im.blk, by simp [hlt', hborn], ⟨im, him, rfl⟩, hxt⟩ (by simp) (fun q hq => by simp [Array.getElem?_setIfInBounds_ne (Ne.symm hq)]) ⟨rfl, rfl, rfl⟩
  exact ⟨β, _, _, hr, ⟨[.bool true, m0.key, m0.val], VRs.cons rfl (VRs.cons hk (VRs.cons hv VRs.nil)), rfl⟩, h3, (Step.drew _).trans h4⟩

theorem ex_nextN (hs : Rel β s w) {a : AV} {l : List (AV × S)} {x : Value} (h : exNextN s a = some l) (hx : VR β a x) : ∃ p ∈ l, RV β s w ((Instr.next x false ty).run P w) (.val p.1 p.2) := by
  unfold exNextN at h
  split at h
  case h_2 => cases h
  rename_i b
  obtain ⟨i, hi, rfl⟩ := hx
  split at h
  case h_2 => cases h
  rename_i m since seen last hb
  split at h
  case h_2 => cases h
  rename_i es c hmap
  obtain ⟨_, j, hj, mb, hm, hmb, hxt⟩ := hs.obj _ _ hb
  rw [hi] at hj
  injection hj with hj
  subst hj
  obtain ⟨im, him, rfl⟩ := hmb
  obtain ⟨_, jm, hjm, ms, hms, hl, _, he⟩ := hs.obj _ _ hmap
  rw [him] at hjm
  injection hjm with hjm
  subst hjm
  have hget : (getObj i.blk).run P w = .ok (.mapIter (some im.blk) since seen.toArray last) w := by simp [getObj, Sem.run, hm]
  have hgetm : (getObj im.blk).run P w = .ok (.map ms c) w := by simp [getObj, Sem.run, hms]
  have two : ∀ e f, es = [e, f] → ∃ m0 m1, ms = #[m0, m1] ∧ (VR β e.key m0.key ∧ VR β e.val m0.val ∧ m0.born = e.born) ∧ (VR β f.key m1.key ∧ VR β f.val m1.val ∧ m1.born = f.born) := by
    rintro e f rfl
    obtain ⟨m0, h0, k0⟩ := he 0 e rfl
    obtain ⟨m1, h1, k1⟩ := he 1 f rfl
    refine ⟨m0, m1, ?_, k0, k1⟩
    apply Array.ext'
    have hsz : ms.toList.length = 2 := by simpa using hl.symm
    match hms' : ms.toList, hsz with
    | [u, v], _ =>
      have e0 : ms.toList[0]? = some m0 := by simpa using h0
      have e1 : ms.toList[1]? = some m1 := by simpa using h1
      rw [hms'] at e0 e1
      simp at e0 e1
      rw [e0, e1]
  have hlt' : i.blk < w.heap.size := (Array.getElem?_eq_some_iff.1 hm).1
  have hset : ∀ (d : Nat) o, (setObj i.blk o).run P { w with drawn := d } = .ok () { w with drawn := d, heap := w.heap.setIfInBounds i.blk o } := fun d o => by simp [setObj, Sem.run, hm]
  have hset0 : ∀ o, (setObj i.blk o).run P w = .ok () { w with heap := w.heap.setIfInBounds i.blk o } := fun o => by simp [setObj, Sem.run, hm]
  have hsetd : ∀ o, (setObj i.blk o).run P w.drew = .ok () { w with drawn := w.drawn + 1, heap := w.heap.setIfInBounds i.blk o } := fun o => hset (w.drawn + 1) o
  split at h
  · rename_i e f
    split at h
    case h_2 => cases h
    rename_i hc
    injection h with h
    subst h
    simp only [Bool.and_eq_true] at hc
    have h1 := Nat.le_of_ble_eq_true hc.1
    have h2 := Nat.le_of_ble_eq_true hc.2
    obtain ⟨m0, m1, rfl, ⟨k1, k2, k3⟩, l1, l2, l3⟩ := two e f rfl
    have b0 : m0.born < since := by omega
    have b1 : m1.born < since := by omega
    have c0 : ¬ since ≤ m0.born := by omega
    have c1 : ¬ since ≤ m1.born := by omega
    rcases Nat.mod_two_eq_zero_or_one (w.tape w.drawn (.mapNext 2)) with ht | ht
    · refine ⟨_, List.mem_cons_self, nextTo_rel hs hb hi him hxt hm k1 k2 k3 (w.drawn + 1) ?_⟩
      simp [Instr.next, hget, hgetm, b0, b1, c0, c1, Question.forced, Question.cut, ht, hsetd]
    · refine ⟨_, List.mem_cons_of_mem _ List.mem_cons_self, nextTo_rel hs hb hi him hxt hm l1 l2 l3 (w.drawn + 1) ?_⟩
      simp [Instr.next, hget, hgetm, b0, b1, c0, c1, Question.forced, Question.cut, ht, hsetd]
  · rename_i e f q
    split at h
    case h_2 => cases h
    rename_i hc
    simp only [Bool.and_eq_true] at hc
    have h0 := Nat.le_of_ble_eq_true hc.1
    have h1 := Nat.le_of_ble_eq_true hc.2.1
    have h2 := Nat.le_of_ble_eq_true hc.2.2
    obtain ⟨m0, m1, rfl, ⟨k1, k2, k3⟩, l1, l2, l3⟩ := two e f rfl
    have b0 : m0.born < since := by omega
    have b1 : m1.born < since := by omega
    have c0 : ¬ since ≤ m0.born := by omega
    have c1 : ¬ since ≤ m1.born := by omega
    have d0 : ¬ last ≤ m0.born := by omega
    split at h
    · rename_i he1 he2
      injection h with h
      subst h
      have g1 := Nat.eq_of_beq_eq_true he1
      have g2 := Nat.ne_of_beq_eq_false he2
      have n0 : m0.born = q := by omega
      have n1 : ¬ m1.born = q := by omega
      refine ⟨_, List.mem_cons_self, nextTo_rel hs hb hi him hxt hm l1 l2 l3 w.drawn ?_⟩
      simp [Instr.next, hget, hgetm, b0, b1, c0, c1, d0, n0, n1, Question.forced, hset0]
      exact ⟨0, by omega, by simpa using d0⟩
    · rename_i he1 he2
      injection h with h
      subst h
      have g1 := Nat.ne_of_beq_eq_false he1
      have g2 := Nat.eq_of_beq_eq_true he2
      have n0 : ¬ m0.born = q := by omega
      have n1 : m1.born = q := by omega
      refine ⟨_, List.mem_cons_self, nextTo_rel hs hb hi him hxt hm k1 k2 k3 w.drawn ?_⟩
      simp [Instr.next, hget, hgetm, b0, b1, c0, c1, d0, n0, n1, Question.forced, hset0]
      exact ⟨0, by omega, by simpa using d0⟩
    · cases h
  · rename_i e f q r
    split at h
    case h_2 => cases h
    rename_i hc
    injection h with h
    subst h
    simp only [Bool.and_eq_true, Bool.or_eq_true] at hc
    have h0 := Nat.le_of_ble_eq_true hc.1.1
    obtain ⟨m0, m1, rfl, ⟨k1, k2, k3⟩, l1, l2, l3⟩ := two e f rfl
    have d0 : ¬ last ≤ m0.born := by omega
    have n0 : m0.born = q ∨ m0.born = r := by
      rcases hc.1.2 with h | h
      · exact .inl (k3.trans (Nat.eq_of_beq_eq_true h))
      · exact .inr (k3.trans (Nat.eq_of_beq_eq_true h))
    have n1 : m1.born = q ∨ m1.born = r := by
      rcases hc.2 with h | h
      · exact .inl (l3.trans (Nat.eq_of_beq_eq_true h))
      · exact .inr (l3.trans (Nat.eq_of_beq_eq_true h))
    refine ⟨_, List.mem_cons_self, RV.pure hs (v := .tuple [.bool false]) (x := .tuple #[.bool false]) ⟨[.bool false], VRs.cons rfl VRs.nil, rfl⟩ ?_⟩
    have hall : ¬ ∀ (i : Nat) (x : i < 2), last ≤ [m0, m1][i].born := fun h => d0 (h 0 (by omega))
    have e0 : (!decide (m0.born = q) && !decide (m0.born = r)) = false := by rcases n0 with h | h <;> simp [h]
    have e1 : (!decide (m1.born = q) && !decide (m1.born = r)) = false := by rcases n1 with h | h <;> simp [h]
    simp [Instr.next, hget, hgetm, hall, e0, e1, Question.forced]
    have hif : (m0.born < since → m0.born = q ∨ m0.born = r) ∧ (m1.born < since → m1.born = q ∨ m1.born = r) := ⟨fun _ => n0, fun _ => n1⟩
    simp only [if_pos hif]
    simp
  · cases h
end
end Go.Proofs.YtjhknhgkjfabaaaGreatDoor.Ev

namespace Go.Proofs.YtjhknhgkjfabaaaGreatDoor.Ev
open Go.RowKit

/-- The entry at which a range over a map of two entries stands. -/
def exEntryN (s : S) (x : AV) : Option (AV × S) :=
  match x with
  | .ptr (some (b, 0)) => match s.h.get b with
    | some (.iter (some m) _ seen last) => match s.h.get m with
      | some (.map es c) => match Nat.beq c last, es, seen.getLast? with
        | true, [e, f], some q => match Nat.beq e.born q, Nat.beq f.born q with
          | true, _ => some (.tuple [e.key, e.val], s)
          | false, true => some (.tuple [f.key, f.val], s)
          | _, _ => none
        | _, _, _ => none
      | _ => none
    | _ => none
  | _ => none

/-- One operation, with its outcomes. -/
def stepN (g : G) (cf : CF) (s : S) (o : Op) (vs : List AV) : Option (List (AV × S)) :=
  match o, vs with
  | .next _ false, [x] => match exNextN s x with
    | some l => some l
    | none => match stepE g cf s o vs with
      | some p => some [p]
      | none => none
  | .entry _, [x] => match exEntryN s x with
    | some p => some [p]
    | none => match stepE g cf s o vs with
      | some p => some [p]
      | none => none
  | _, _ => match stepE g cf s o vs with
    | some p => some [p]
    | none => none

/-- All outcomes of a list of outcomes, each gone on with. -/
def flatN {α γ : Type} : List α → (α → Option (List γ)) → Option (List γ)
  | [], _ => some []
  | a :: l, k => match k a with
    | none => none
    | some x => match flatN l k with
      | none => none
      | some y => some (x ++ y)

def opsN (g : G) (cf : CF) (nt : Nat) (all : Array Oper) : List Oper → A → Option (List A)
  | [], a => some [a]
  | o :: rest, a => match dstOk nt o.dst with
    | false => none
    | true => match wants all a.r o with
      | false => opsN g cf nt all rest { r := put a.r o.dst undef, s := a.s, d := a.d }
      | true => match vals g a.r o.op.operands.toList with
        | none => none
        | some vs => match deferOf o.op vs with
          | some _ => none
          | none => match stepN g cf a.s o.op vs with
            | none => none
            | some l => flatN l fun p => opsN g cf nt all rest { r := put a.r o.dst p.1, s := p.2, d := a.d }

/-- What is left normally goes on. -/
def thenN (l : List (X × A)) (k : A → Option (List (X × A))) : Option (List (X × A)) := flatN l fun p => match p.1 with
  | .normal => k p.2
  | _ => some [p]

def isNext : Op → Bool
  | .next _ _ => true
  | .entry _ => true
  | _ => false

def blockN (id : Nat) (p : X × A) : X × A := match p.1 with
  | .exit i => if i = id then (.normal, p.2) else p
  | _ => p

def oneN : Option (X × A) → Option (List (X × A))
  | some p => some [p]
  | none => none

/-- Code, with its outcomes. -/
def codeN (g : G) (cf : CF) (nt : Nat) : Nat → Code → A → Option (List (X × A))
  | 0, _, _ => none
  | f + 1, c, a => match c with
    | .region id l false => match l.any fun o => isNext o.op with
      | true => match opsN g cf nt l l.toList a with
        | some L => some (L.map fun a => (.normal, a))
        | none => none
      | false => oneN (code g cf none nt (f + 1) (.region id l false) a)
    | .seq x y => match codeN g cf nt f x a with
      | some L => thenN L (codeN g cf nt f y)
      | none => none
    | .cond c x y => match val g a.r c with
      | some (.bool true) => codeN g cf nt f x a
      | some (.bool false) => codeN g cf nt f y a
      | _ => none
    | .block id b => match codeN g cf nt f b a with
      | some L => some (L.map (blockN id))
      | none => none
    | .loop b => match codeN g cf nt f b a with
      | some L => thenN L (codeN g cf nt f (.loop b))
      | none => none
    | .scope b => codeN g cf nt f b a
    | c => oneN (code g cf none nt (f + 1) c a)

section
variable {P : Program} {g : G} {β : Ren} {s : S} {w : World} {cf : CF} {nt : Nat}

theorem ex_entryN (hs : Rel β s w) {a : AV} {p : AV × S} {x : Value} (h : exEntryN s a = some p) (hx : VR β a x) : RV β s w ((Instr.entry x).run P w) (.val p.1 p.2) := by
  unfold exEntryN at h
  split at h
  case h_2 => cases h
  rename_i b
  obtain ⟨i, hi, rfl⟩ := hx
  split at h
  case h_2 => cases h
  rename_i m since seen last hb
  split at h
  case h_2 => cases h
  rename_i es c hmap
  obtain ⟨_, j, hj, mb, hm, hmb, hxt⟩ := hs.obj _ _ hb
  rw [hi] at hj
  injection hj with hj
  subst hj
  obtain ⟨im, him, rfl⟩ := hmb
  obtain ⟨_, jm, hjm, ms, hms, hl, _, he⟩ := hs.obj _ _ hmap
  rw [him] at hjm
  injection hjm with hjm
  subst hjm
  have hget : (getObj i.blk).run P w = .ok (.mapIter (some im.blk) since seen.toArray last) w := by simp [getObj, Sem.run, hm]
  have hgetm : (getObj im.blk).run P w = .ok (.map ms c) w := by simp [getObj, Sem.run, hms]
  split at h
  case h_2 => cases h
  rename_i e f q hc hq
  have hc := Nat.eq_of_beq_eq_true hc
  subst hc
  obtain ⟨m0, h0, k1, k2, k3⟩ := he 0 e rfl
  obtain ⟨m1, h1, l1, l2, l3⟩ := he 1 f rfl
  obtain rfl : ms = #[m0, m1] := by
    apply Array.ext'
    have hsz : ms.toList.length = 2 := by simpa using hl.symm
    match hms' : ms.toList, hsz with
    | [u, v], _ =>
      have e0 : ms.toList[0]? = some m0 := by simpa using h0
      have e1 : ms.toList[1]? = some m1 := by simpa using h1
      rw [hms'] at e0 e1
      simp at e0 e1
      rw [e0, e1]
  split at h
  · rename_i b1 hb1
    injection h with h
    subst h
    have n0 : m0.born = q := by rw [k3]; exact Nat.eq_of_beq_eq_true hb1
    exact RV.pure hs (v := .tuple [e.key, e.val]) (x := .tuple #[m0.key, m0.val]) ⟨[m0.key, m0.val], VRs.cons k1 (VRs.cons k2 VRs.nil), rfl⟩ (by simp [Instr.entry, hget, hgetm, hq, n0])
  · rename_i b1 b2
    injection h with h
    subst h
    have n0 : ¬ m0.born = q := by rw [k3]; exact Nat.ne_of_beq_eq_false b1
    have n1 : m1.born = q := by rw [l3]; exact Nat.eq_of_beq_eq_true b2
    exact RV.pure hs (v := .tuple [f.key, f.val]) (x := .tuple #[m1.key, m1.val]) ⟨[m1.key, m1.val], VRs.cons l1 (VRs.cons l2 VRs.nil), rfl⟩ (by simp [Instr.entry, hget, hgetm, hq, n0, n1])
  · cases h

theorem flatN_spec {α γ : Type} {k : α → Option (List γ)} : ∀ {l : List α} {r : List γ}, flatN l k = some r → (∀ a ∈ l, ∃ x, k a = some x ∧ ∀ q ∈ x, q ∈ r) ∧ ∀ q ∈ r, ∃ a ∈ l, ∃ x, k a = some x ∧ q ∈ x
  | [], r, h => by
    simp only [flatN, Option.some.injEq] at h
    subst h
    exact ⟨fun a h => (by cases h), fun q h => (by cases h)⟩
  | a :: l, r, h => by
    simp only [flatN] at h
    split at h
    · cases h
    · rename_i x hx
      split at h
      · cases h
      · rename_i y hy
        injection h with h
        subst h
        obtain ⟨i1, i2⟩ := flatN_spec hy
        refine ⟨fun b hb => ?_, fun q hq => ?_⟩
        · rcases List.mem_cons.1 hb with rfl | hb
          · exact ⟨x, hx, fun q hq => List.mem_append_left _ hq⟩
          · obtain ⟨z, h1, h2⟩ := i1 b hb
            exact ⟨z, h1, fun q hq => List.mem_append_right _ (h2 q hq)⟩
        · rcases List.mem_append.1 hq with hq | hq
          · exact ⟨a, List.mem_cons_self, x, hx, hq⟩
          · obtain ⟨b, hb, z, h1, h2⟩ := i2 q hq
            exact ⟨b, List.mem_cons_of_mem _ hb, z, h1, h2⟩

theorem exNextN_n {a : AV} {l : List (AV × S)} (h : exNextN s a = some l) : ∀ p ∈ l, p.2.n = s.n := by
  unfold exNextN at h
  repeat' (split at h)
  all_goals first
    | (injection h with h; subst h; intro p hp; simp [nextTo] at hp; rcases hp with rfl | rfl <;> rfl)
    | (injection h with h; subst h; intro p hp; simp [nextTo] at hp; subst hp; rfl)
    | cases h

theorem exNextN_ne {a : AV} {l : List (AV × S)} (h : exNextN s a = some l) : l ≠ [] := by
  unfold exNextN at h
  repeat' (split at h)
  all_goals first
    | (injection h with h; subst h; simp; done)
    | cases h

theorem exEntryN_n {a : AV} {p : AV × S} (h : exEntryN s a = some p) : p.2 = s := by
  unfold exEntryN at h
  repeat' (split at h)
  all_goals first
    | (injection h with h; subst h; rfl)
    | cases h

theorem stepN_one {o : Op} {vs : List AV} {l : List (AV × S)} (h : (match stepE g cf s o vs with | some p => some [p] | none => none) = some l) : ∃ p, stepE g cf s o vs = some p ∧ l = [p] := by
  split at h
  · rename_i p hp
    injection h with h
    exact ⟨p, hp, h.symm⟩
  · cases h

theorem stepN_n (hcf : CS P g cf) {o : Op} {vs : List AV} {l : List (AV × S)} (h : stepN g cf s o vs = some l) : l ≠ [] ∧ ∀ p ∈ l, s.n ≤ p.2.n := by
  have one : ∀ {o : Op} {vs : List AV} {l : List (AV × S)}, (match stepE g cf s o vs with | some p => some [p] | none => none) = some l → l ≠ [] ∧ ∀ p ∈ l, s.n ≤ p.2.n := fun h => by
    obtain ⟨p, hp, rfl⟩ := stepN_one h
    exact ⟨by simp, fun q hq => by rw [List.mem_singleton.1 hq]; exact stepE_n (v := p.1) hcf hp⟩
  unfold stepN at h
  split at h
  · split at h
    · rename_i l' hl
      injection h with h
      subst h
      exact ⟨exNextN_ne hl, fun p hp => by rw [exNextN_n hl p hp]; exact Nat.le_refl _⟩
    · exact one h
  · split at h
    · rename_i p hp
      injection h with h
      subst h
      exact ⟨by simp, fun q hq => by rw [List.mem_singleton.1 hq, exEntryN_n hp]; exact Nat.le_refl _⟩
    · exact one h
  · exact one h

theorem stepN_sound (hg : GOK P g) (hcf : CS P g cf) {ro : Option Nat} {n : Nat} {o : Oper} {vs : List AV} {l : List (AV × S)} {a : Act} (h : stepN g cf s o.op vs = some l) (hv : VRs β vs (o.op.operands.toList.map a.eval)) (hs : Rel β s w)
    (hgl : GloOK g β) (hf : ∀ p ∈ l, Free β s p.2) {K : Act → World → Prop} {Q : Exit → Act → World → Prop} (hK : ∀ p ∈ l, ∀ γ x w', VR γ p.1 x → Rel γ p.2 w' → Step β s w γ p.2 w' → K (a.put o.dst x) w') : o.wpIn (Wd ro) n P a w K Q := by
  have one : ∀ {l : List (AV × S)}, (match stepE g cf s o.op vs with | some p => some [p] | none => none) = some l → (∀ p ∈ l, Free β s p.2) → (∀ p ∈ l, ∀ γ x w', VR γ p.1 x → Rel γ p.2 w' → Step β s w γ p.2 w' → K (a.put o.dst x) w') → o.wpIn (Wd ro) n P a w K Q := fun h hf hK => by
    obtain ⟨p, hp, rfl⟩ := stepN_one h
    exact stepE_sound (v := p.1) hg hcf hp hv hs hgl (hf p List.mem_cons_self) (hK p List.mem_cons_self)
  obtain ⟨dst, op, type, pos, after, guard⟩ := o
  unfold stepN at h
  dsimp only at h hv
  split at h
  · rename_i y x
    split at h
    · rename_i l' hl
      injection h with h
      subst h
      refine ⟨fun _ _ => trivial, ?_⟩
      rw [Oper.semAt_eq _ _ _ (fun c => by simp)]
      obtain ⟨p, hp, γ, z, w', hr, hz, hrel, hst⟩ := ex_nextN (P := P) (ty := type) hs hl (vr1 (v := x) (x := a.eval y) hv)
      have : (Go.execOp a.eval ⟨dst, .next y false, type, pos, after, guard⟩).run P w = .ok (.value z) w' := by
        simp [Go.execOp, hr]
      rw [this]
      exact hK p hp γ z w' hz hrel hst
    · exact one h hf hK
  · rename_i y x
    split at h
    · rename_i p hp
      injection h with h
      subst h
      refine ⟨fun _ _ => trivial, ?_⟩
      rw [Oper.semAt_eq _ _ _ (fun c => by simp)]
      obtain ⟨γ, z, w', hr, hz, hrel, hst⟩ := ex_entryN (P := P) hs hp (vr1 (v := x) (x := a.eval y) hv)
      have : (Go.execOp a.eval ⟨dst, .entry y, type, pos, after, guard⟩).run P w = .ok (.value z) w' := by
        simp [Go.execOp, hr]
      rw [this]
      exact hK p List.mem_cons_self γ z w' hz hrel hst
    · exact one h hf hK
  · exact one h hf hK
end
end Go.Proofs.YtjhknhgkjfabaaaGreatDoor.Ev

namespace Go.Proofs.YtjhknhgkjfabaaaGreatDoor.Ev
open Go.RowKit

section
variable {P : Program} {g : G} {cf : CF} {nt : Nat}

theorem opsN_sound (hg : GOK P g) (hcf : CS P g cf) {n : Nat} {all : Array Oper} : ∀ {rest : List Oper} {k : Nat}, all.toList.drop k = rest → ∀ {a : A} {L : List A}, opsN g cf nt all rest a = some L → L ≠ [] ∧ (∀ p ∈ L, a.s.n ≤ p.s.n) ∧ ∀ {β : Ren} {w : World} {act : Act},
    RR β a.r act.tmps → Rel β a.s w → GloOK g β → (∀ p ∈ L, Free β a.s p.s) → DR β a.d act.defers → nt ≤ act.tmps.size → ∀ {Q : Exit → Act → World → Prop},
    (∀ p ∈ L, ∀ γ w' act', RR γ p.r act'.tmps → Rel γ p.s w' → Step β a.s w γ p.s w' → DR γ p.d act'.defers → act'.tmps.size = act.tmps.size → Q .normal act' w') →
    wpOpsIn (Wd none) n P all Q ((List.range all.size).drop k) act w
  | [], k, hk, a, L, h => by
    simp only [opsN, Option.some.injEq] at h
    subst h
    refine ⟨by simp, fun p hp => by rw [List.mem_singleton.1 hp]; exact Nat.le_refl _, fun hr hs _ _ hd _ Q hQ => ?_⟩
    have hle : all.size ≤ k := by
      have := List.drop_eq_nil_iff.1 hk
      simpa using this
    rw [List.drop_eq_nil_of_le (by simpa using hle)]
    exact hQ _ List.mem_cons_self _ _ _ hr hs .refl hd rfl
  | o :: rest, k, hk, a, L, h => by
    have hlt : k < all.size := by
      rcases Nat.lt_or_ge k all.size with h' | h'
      · exact h'
      · rw [List.drop_eq_nil_of_le (by simpa using h')] at hk; cases hk
    have hcons : (List.range all.size).drop k = k :: (List.range all.size).drop (k + 1) := by
      rw [List.drop_eq_getElem_cons (by simpa using hlt)]
      simp
    have hk' := hk
    rw [List.drop_eq_getElem_cons (by simpa using hlt)] at hk'
    injection hk' with ho hrest
    have hoo : all[k]? = some o := by rw [← ho]; simp [hlt]
    simp only [opsN] at h
    split at h
    · cases h
    · rename_i hd
      split at h
      · rename_i hw
        obtain ⟨hne, hn, ih⟩ := opsN_sound hg hcf hrest h
        refine ⟨hne, hn, fun {β w act} hr hs hgl hf hdr hnt Q hQ => ?_⟩
        rw [hcons, wpOpsIn_cons]
        unfold wpOpIn
        simp only [hoo, wants_rel hr, hw, Bool.false_eq_true, if_false]
        refine ⟨fun _ _ => trivial, ih (hr.put' VR.undef hd hnt) hs hgl hf (by rw [put_defers]; exact hdr) (by rw [put_size]; exact hnt) fun p hp γ w' act' h1 h2 h3 h4 h5 => hQ p hp γ w' act' h1 h2 h3 h4 (by rw [h5, put_size])⟩
      · rename_i hw
        split at h
        · cases h
        · rename_i vs hvs
          split at h
          · cases h
          · split at h
            · cases h
            · rename_i l hst
              obtain ⟨hne1, hn1⟩ := stepN_n hcf hst
              obtain ⟨f1, f2⟩ := flatN_spec h
              have each : ∀ p ∈ l, ∃ x, opsN g cf nt all rest { r := put a.r o.dst p.1, s := p.2, d := a.d } = some x ∧ (∀ q ∈ x, q ∈ L) ∧ x ≠ [] ∧ ∀ q ∈ x, p.2.n ≤ q.s.n := fun p hp => by
                obtain ⟨x, h1, h2⟩ := f1 p hp
                obtain ⟨h3, h4, _⟩ := opsN_sound hg hcf hrest h1 (n := n)
                exact ⟨x, h1, h2, h3, h4⟩
              refine ⟨?_, fun q hq => ?_, fun {β w act} hr hs hgl hf hdr hnt Q hQ => ?_⟩
              · obtain ⟨p, hp⟩ := List.exists_mem_of_ne_nil _ hne1
                obtain ⟨x, _, h2, h3, _⟩ := each p hp
                obtain ⟨q, hq⟩ := List.exists_mem_of_ne_nil _ h3
                exact List.ne_nil_of_mem (h2 q hq)
              · obtain ⟨p, hp, x, h1, h2⟩ := f2 q hq
                obtain ⟨x', h1', _, _, h4⟩ := each p hp
                rw [h1] at h1'
                injection h1' with e
                subst e
                exact Nat.le_trans (hn1 p hp) (h4 q h2)
              · rw [hcons, wpOpsIn_cons]
                unfold wpOpIn
                simp only [hoo, wants_rel hr, hw, if_true]
                have hfree : ∀ p ∈ l, Free β a.s p.2 := fun p hp => by
                  obtain ⟨x, _, h2, h3, h4⟩ := each p hp
                  obtain ⟨q, hq⟩ := List.exists_mem_of_ne_nil _ h3
                  exact (hf q (h2 q hq)).le (h4 q hq)
                refine stepN_sound hg hcf hst (vals_rel hgl hr hvs) hs hgl hfree fun p hp γ x w' hx hrel hstep => ?_
                obtain ⟨y, h1, h2, h3, h4⟩ := each p hp
                obtain ⟨_, _, ih⟩ := opsN_sound hg hcf hrest h1 (n := n)
                exact ih ((hr.mono hstep.le).put' hx hd hnt) hrel (hgl.mono hstep.le) (fun q hq => (hf q (h2 q hq)).next hstep) (by rw [put_defers]; exact hdr.mono hstep.le) (by rw [put_size]; exact hnt)
                  fun q hq δ w'' act' k1 k2 k3 k4 k5 => hQ q (h2 q hq) δ w'' act' k1 k2 (hstep.trans k3) k4 (by rw [k5, put_size])

/-- What code's evaluation with outcomes is worth. -/
def GoodN (P : Program) (g : G) (nt : Nat) (c : Code) (a : A) (L : List (X × A)) : Prop :=
  L ≠ [] ∧ (∀ p ∈ L, a.s.n ≤ p.2.s.n) ∧ ∀ {β : Ren} {w : World} {act : Act}, RR β a.r act.tmps → Rel β a.s w → GloOK g β → (∀ p ∈ L, Free β a.s p.2.s) → DR β a.d act.defers → nt ≤ act.tmps.size → ∀ {Q : Exit → Act → World → Prop},
    (∀ p ∈ L, ∀ γ w' act', RR γ p.2.r act'.tmps → Rel γ p.2.s w' → Step β a.s w γ p.2.s w' → DR γ p.2.d act'.defers → act'.tmps.size = act.tmps.size → Q p.1.toExit act' w') → c.wpIn (Wd none) 0 P Q act w

/-- .. and a loop's. -/
def GoodLN (P : Program) (g : G) (nt : Nat) (c : Code) (a : A) (L : List (X × A)) : Prop :=
  L ≠ [] ∧ (∀ p ∈ L, a.s.n ≤ p.2.s.n) ∧ ∀ {β : Ren} {w : World} {act : Act}, RR β a.r act.tmps → Rel β a.s w → GloOK g β → (∀ p ∈ L, Free β a.s p.2.s) → DR β a.d act.defers → nt ≤ act.tmps.size → ∀ {Q : Exit → Act → World → Prop},
    (∀ p ∈ L, ∀ γ w' act', RR γ p.2.r act'.tmps → Rel γ p.2.s w' → Step β a.s w γ p.2.s w' → DR γ p.2.d act'.defers → act'.tmps.size = act.tmps.size → Q p.1.toExit act' w') → LW (Wd none) 0 P Q c act w

theorem GoodN.one {c : Code} {a : A} {p : X × A} (h : Good P g none nt c a p.1 p.2) : GoodN P g nt c a [p] :=
  ⟨by simp, fun q hq => by rw [List.mem_singleton.1 hq]; exact h.1, fun hr hs hgl hf hdr hnt Q hQ => h.2 (ro := none) rfl hr hs hgl (hf p List.mem_cons_self) hdr hnt (hQ p List.mem_cons_self)⟩

theorem thenN_spec {L : List (X × A)} {k : A → Option (List (X × A))} {r : List (X × A)} (h : thenN L k = some r) :
    (∀ p ∈ L, p.1 ≠ .normal → p ∈ r) ∧ (∀ p ∈ L, p.1 = .normal → ∃ x, k p.2 = some x ∧ ∀ q ∈ x, q ∈ r) ∧ ∀ q ∈ r, ∃ p ∈ L, (p.1 ≠ .normal ∧ q = p) ∨ (p.1 = .normal ∧ ∃ x, k p.2 = some x ∧ q ∈ x) := by
  obtain ⟨h1, h2⟩ := flatN_spec h
  refine ⟨fun p hp hn => ?_, fun p hp hn => ?_, fun q hq => ?_⟩
  · obtain ⟨x, hx, hr⟩ := h1 p hp
    obtain ⟨y, a⟩ := p
    cases y with
    | normal => exact absurd rfl hn
    | exit i => simp only [Option.some.injEq] at hx; subst hx; exact hr _ List.mem_cons_self
    | ret => simp only [Option.some.injEq] at hx; subst hx; exact hr _ List.mem_cons_self
  · obtain ⟨x, hx, hr⟩ := h1 p hp
    obtain ⟨y, a⟩ := p
    dsimp only at hn
    subst hn
    exact ⟨x, hx, hr⟩
  · obtain ⟨p, hp, x, hx, hr⟩ := h2 q hq
    refine ⟨p, hp, ?_⟩
    obtain ⟨y, a⟩ := p
    cases y with
    | normal => exact .inr ⟨rfl, x, hx, hr⟩
    | exit i => simp only [Option.some.injEq] at hx; subst hx; exact .inl ⟨by simp, List.mem_singleton.1 hr⟩
    | ret => simp only [Option.some.injEq] at hx; subst hx; exact .inl ⟨by simp, List.mem_singleton.1 hr⟩

/-- Numbers and what is free, of code that goes on. -/
theorem thenN_n {L : List (X × A)} {k : A → Option (List (X × A))} {r : List (X × A)} {s : S} (h : thenN L k = some r) (hne : L ≠ []) (hn : ∀ p ∈ L, s.n ≤ p.2.s.n) (hk : ∀ a x, k a = some x → x ≠ [] ∧ ∀ q ∈ x, a.s.n ≤ q.2.s.n) :
    r ≠ [] ∧ (∀ q ∈ r, s.n ≤ q.2.s.n) ∧ ∀ β : Ren, (∀ q ∈ r, Free β s q.2.s) → ∀ p ∈ L, Free β s p.2.s := by
  obtain ⟨h1, h2, h3⟩ := thenN_spec h
  have to : ∀ p ∈ L, ∃ q ∈ r, p.2.s.n ≤ q.2.s.n := fun p hp => by
    by_cases hp1 : p.1 = .normal
    · obtain ⟨x, hx, hr⟩ := h2 p hp hp1
      obtain ⟨k1, k2⟩ := hk _ _ hx
      obtain ⟨q, hq⟩ := List.exists_mem_of_ne_nil _ k1
      exact ⟨q, hr q hq, k2 q hq⟩
    · exact ⟨p, h1 p hp hp1, Nat.le_refl _⟩
  refine ⟨?_, fun q hq => ?_, fun β hf p hp => ?_⟩
  · obtain ⟨p, hp⟩ := List.exists_mem_of_ne_nil _ hne
    obtain ⟨q, hq, _⟩ := to p hp
    exact List.ne_nil_of_mem hq
  · obtain ⟨p, hp, ⟨_, rfl⟩ | ⟨_, x, hx, hqx⟩⟩ := h3 q hq
    · exact hn _ hp
    · exact Nat.le_trans (hn p hp) ((hk _ _ hx).2 q hqx)
  · obtain ⟨q, hq, hle⟩ := to p hp
    exact (hf q hq).le hle

theorem codeN_sound (hg : GOK P g) (hcf : CS P g cf) : ∀ (f : Nat) (c : Code) (a : A) (L : List (X × A)), codeN g cf nt f c a = some L → GoodN P g nt c a L ∧ ∀ b, c = .loop b → GoodLN P g nt b a L
  | 0, c, a, L, h => by simp [codeN] at h
  | f + 1, c, a, L, h => by
    have ih : ∀ (c : Code) (a : A) (L : List (X × A)), codeN g cf nt f c a = some L → GoodN P g nt c a L := fun c a L h => (codeN_sound hg hcf f c a L h).1
    have det : ∀ (c : Code), oneN (code g cf none nt (f + 1) c a) = some L → GoodN P g nt c a L := fun c h => by
      cases hp : code g cf none nt (f + 1) c a with
      | none => rw [hp] at h; cases h
      | some p =>
        rw [hp] at h
        injection h with h
        subst h
        exact GoodN.one (code_sound hg hcf _ _ _ _ _ hp).1
    have one : (∀ b, c ≠ .loop b) → oneN (code g cf none nt (f + 1) c a) = some L → GoodN P g nt c a L ∧ ∀ b, c = .loop b → GoodLN P g nt b a L := fun hn h => ⟨det c h, fun b e => absurd e (hn b)⟩
    cases c with
    | skip => exact one (fun _ => by simp) (by simpa only [codeN] using h)
    | label l => exact one (fun _ => by simp) (by simpa only [codeN] using h)
    | exit i => exact one (fun _ => by simp) (by simpa only [codeN] using h)
    | ret => exact one (fun _ => by simp) (by simpa only [codeN] using h)
    | goto l => exact one (fun _ => by simp) (by simpa only [codeN] using h)
    | rangeFunc x ps as bd => exact one (fun _ => by simp) (by simpa only [codeN] using h)
    | refuse r => exact one (fun _ => by simp) (by simpa only [codeN] using h)
    | region id l dr =>
      cases dr with
      | true => exact one (fun _ => by simp) (by simpa only [codeN] using h)
      | false =>
        refine ⟨?_, fun b e => by cases e⟩
        simp only [codeN] at h
        split at h
        · split at h
          · rename_i M hM
            injection h with h
            subst h
            obtain ⟨hne, hn, hd⟩ := opsN_sound hg hcf (k := 0) (n := 0) (by simp) hM
            refine ⟨by simpa using hne, fun p hp => ?_, fun {β w act} hr hs hgl hf hdr hnt Q hQ => wpIn_region ?_⟩
            · obtain ⟨q, hq, rfl⟩ := List.mem_map.1 hp
              exact hn q hq
            · have := hd hr hs hgl (fun q hq => hf (.normal, q) (List.mem_map.2 ⟨q, hq, rfl⟩)) hdr hnt (Q := Q) fun q hq => hQ (.normal, q) (List.mem_map.2 ⟨q, hq, rfl⟩)
              simpa using this
          · cases h
        · exact det _ h
    | seq y z =>
      refine ⟨?_, fun b h => by cases h⟩
      simp only [codeN] at h
      split at h
      · rename_i M hM
        obtain ⟨hne, hn, g1⟩ := ih _ _ _ hM
        obtain ⟨t1, t2, _⟩ := thenN_spec h
        obtain ⟨r1, r2, r3⟩ := thenN_n h hne hn fun a x hx => ⟨(ih _ _ _ hx).1, (ih _ _ _ hx).2.1⟩
        refine ⟨r1, r2, fun {β w act} hr hs hgl hf hdr hnt Q hQ => wpIn_seq (g1 hr hs hgl (r3 β hf) hdr hnt fun p hp γ w' act' q1 q2 q3 q4 q5 => ?_)⟩
        by_cases hp1 : p.1 = .normal
        · obtain ⟨x, hx, hr'⟩ := t2 p hp hp1
          rw [hp1]
          exact (ih _ _ _ hx).2.2 q1 q2 (hgl.mono q3.le) (fun q hq => (hf q (hr' q hq)).next q3) q4 (by rw [q5]; exact hnt) fun q hq δ w'' act'' p1 p2 p3 p4 p5 => hQ q (hr' q hq) δ w'' act'' p1 p2 (q3.trans p3) p4 (p5.trans q5)
        · have := hQ p (t1 p hp hp1) γ w' act' q1 q2 q3 q4 q5
          obtain ⟨u, b⟩ := p
          cases u with
          | normal => exact absurd rfl hp1
          | exit i => exact this
          | ret => exact this
      · cases h
    | cond c y z =>
      refine ⟨?_, fun b h => by cases h⟩
      simp only [codeN] at h
      split at h
      · rename_i hc
        obtain ⟨hne, n1, g1⟩ := ih _ _ _ h
        exact ⟨hne, n1, fun {β w act} hr hs hgl hf hdr hnt Q hQ => wpIn_cond_true (by simpa [VR] using val_rel hgl hr hc) (g1 hr hs hgl hf hdr hnt hQ)⟩
      · rename_i hc
        obtain ⟨hne, n1, g1⟩ := ih _ _ _ h
        exact ⟨hne, n1, fun {β w act} hr hs hgl hf hdr hnt Q hQ => wpIn_cond_false (by simpa [VR] using val_rel hgl hr hc) (g1 hr hs hgl hf hdr hnt hQ)⟩
      · cases h
    | block id b =>
      refine ⟨?_, fun b h => by cases h⟩
      simp only [codeN] at h
      split at h
      · rename_i M hM
        injection h with h
        subst h
        obtain ⟨hne, hn, g1⟩ := ih _ _ _ hM
        have hst : ∀ p : X × A, (blockN id p).2 = p.2 := fun p => by
          unfold blockN
          split
          · split <;> rfl
          · rfl
        refine ⟨by simpa using hne, fun q hq => ?_, fun {β w act} hr hs hgl hf hdr hnt Q hQ => wpIn_block (g1 hr hs hgl (fun p hp => ?_) hdr hnt fun p hp γ w' act' q1 q2 q3 q4 q5 => ?_)⟩
        · obtain ⟨p, hp, rfl⟩ := List.mem_map.1 hq
          rw [hst]
          exact hn p hp
        · have := hf (blockN id p) (List.mem_map.2 ⟨p, hp, rfl⟩)
          rwa [hst] at this
        · have := hQ (blockN id p) (List.mem_map.2 ⟨p, hp, rfl⟩) γ w' act' (by rw [hst]; exact q1) (by rw [hst]; exact q2) (by rw [hst]; exact q3) (by rw [hst]; exact q4) q5
          obtain ⟨u, b⟩ := p
          cases u with
          | normal => exact this
          | ret => exact this
          | exit i =>
            by_cases e : i = id
            · simp only [blockN, X.toExit, Exit.inBlock, e, if_true] at this ⊢
              exact this
            · simp only [blockN, X.toExit, Exit.inBlock, e, if_false] at this ⊢
              exact this
      · cases h
    | loop b =>
      have key : GoodLN P g nt b a L := by
        simp only [codeN] at h
        split at h
        · rename_i M hM
          obtain ⟨hne, hn, g1⟩ := ih _ _ _ hM
          obtain ⟨t1, t2, _⟩ := thenN_spec h
          obtain ⟨r1, r2, r3⟩ := thenN_n h hne hn fun a x hx => ⟨((codeN_sound hg hcf f _ _ _ hx).2 b rfl).1, ((codeN_sound hg hcf f _ _ _ hx).2 b rfl).2.1⟩
          refine ⟨r1, r2, fun {β w act} hr hs hgl hf hdr hnt Q hQ => LW.round (g1 hr hs hgl (r3 β hf) hdr hnt fun p hp γ w' act' q1 q2 q3 q4 q5 => ?_)⟩
          by_cases hp1 : p.1 = .normal
          · obtain ⟨x, hx, hr'⟩ := t2 p hp hp1
            rw [hp1]
            exact ((codeN_sound hg hcf f _ _ _ hx).2 b rfl).2.2 q1 q2 (hgl.mono q3.le) (fun q hq => (hf q (hr' q hq)).next q3) q4 (by rw [q5]; exact hnt) fun q hq δ w'' act'' p1 p2 p3 p4 p5 => hQ q (hr' q hq) δ w'' act'' p1 p2 (q3.trans p3) p4 (p5.trans q5)
          · have := hQ p (t1 p hp hp1) γ w' act' q1 q2 q3 q4 q5
            obtain ⟨u, b⟩ := p
            cases u with
            | normal => exact absurd rfl hp1
            | exit i => exact this
            | ret => exact this
        · cases h
      exact ⟨⟨key.1, key.2.1, fun hr hs hgl hf hdr hnt Q hQ => (key.2.2 hr hs hgl hf hdr hnt hQ).loop⟩, fun b' e => by injection e with e; subst e; exact key⟩
    | scope b =>
      refine ⟨?_, fun b h => by cases h⟩
      simp only [codeN] at h
      obtain ⟨hne, n1, g1⟩ := ih _ _ _ h
      refine ⟨hne, n1, fun {β w act} hr hs hgl hf hdr hnt Q hQ => wpIn_scope (g1 hr hs hgl hf hdr hnt fun p hp γ w' act' q1 q2 q3 q4 q5 => ?_)⟩
      have := hQ p hp γ w' act' q1 q2 q3 q4 q5
      obtain ⟨u, b⟩ := p
      cases u <;> exact this
end
end Go.Proofs.YtjhknhgkjfabaaaGreatDoor.Ev

namespace Go.Proofs.YtjhknhgkjfabaaaGreatDoor.Ev
open Go.RowKit

def endsN (g : G) (cf : CF) (fuel : Nat) (F : Func) (L : List (X × A)) : Option (List (AV × S)) := flatN L fun p => match p.1 with
  | .exit _ => none
  | _ => match ends g cf fuel F p.2 with
    | some r => some [r]
    | none => none

/-- A call, with its outcomes. -/
def bodyN (g : G) (cf : CF) (fuel : Nat) (fn : FuncId) (args : List AV) (s : S) : Option (List (AV × S)) := match g.fns.get fn with
  | none => none
  | some F => match F.body with
    | none => none
    | some b => match codeN g cf F.ntmps fuel b { r := T.ofList args 0 .e, s := s, d := [] } with
      | none => none
      | some L => endsN g cf fuel F L

/-- Keys that ascend. -/
def ascN (lo : Nat) : List (Nat × AO) → Bool
  | [] => true
  | p :: l => Nat.ble lo p.1 && ascN (p.1 + 1) l

/-- Is a noted object what stands in the outcome number j (its ghost is gh)? -/
def isAt (t : T AO) (gh j : Nat) (p : Nat × AO) : Bool := match p.2 with
  | .amb b cs e o z => Nat.beq b gh && (match cs[j]? with
    | some c => AO.beq (t.get p.1) (some (.row c e o z))
    | none => false)
  | q => AO.beq (t.get p.1) (some q)

def outOk (m : Memo) (gh : Nat) (j : Nat) : List (AV × S) → Bool
  | [] => true
  | (v, t) :: l => AV.beq v m.v && Nat.beq t.n gh && allAt t.h m.old && (m.new.all fun p => isAt t.h gh j p) && outOk m gh (j + 1) l

/-- Does the evaluator say what is noted of a call with several outcomes? (The last number is the ghost's.) -/
def Memo.saysN (g : G) (M : List Memo) (fuel d : Nat) (m : Memo) : Bool := match bodyN g (callM g M fuel d) fuel m.f m.args m.st with
  | some l => match m.m with
    | 0 => false
    | gh + 1 => outOk m gh 0 l && Nat.ble m.n gh && (m.old.all fun p => Nat.blt p.1 m.n) && ascN m.n m.new && m.new.all fun p => Nat.blt p.1 gh
  | none => false

section
variable {P : Program} {g : G} {cf : CF}

theorem bodyN_sound (hg : GOK P g) (hcf : CS P g cf) {fuel : Nat} {fn : FuncId} {args : List AV} {s : S} {l : List (AV × S)} (h : bodyN g cf fuel fn args s = some l) :
    ∀ β w, Rel β s w → GloOK g β → (∀ p ∈ l, Free β s p.2) → ∀ args', VRs β args args' → Calls P fn args'.toArray w fun e w' => ∃ p ∈ l, EndR β s w p.1 p.2 e w' := by
  unfold bodyN at h
  split at h
  · cases h
  · rename_i F hF
    split at h
    · cases h
    · rename_i b hb
      split at h
      · cases h
      · rename_i L hL
        intro β w hs hgl hf args' hv
        obtain ⟨_, hn, g1⟩ := (codeN_sound hg hcf fuel _ _ _ hL).1
        obtain ⟨f1, f2⟩ := flatN_spec h
        have each : ∀ p ∈ L, ∃ r, ends g cf fuel F p.2 = some r ∧ r ∈ l ∧ (p.1 = .normal ∨ p.1 = .ret) := fun p hp => by
          obtain ⟨x, hx, hr⟩ := f1 p hp
          obtain ⟨u, a⟩ := p
          cases u with
          | exit i => cases hx
          | normal =>
            dsimp only at hx
            split at hx
            · rename_i r he
              injection hx with hx
              subst hx
              exact ⟨r, he, hr r List.mem_cons_self, .inl rfl⟩
            · cases hx
          | ret =>
            dsimp only at hx
            split at hx
            · rename_i r he
              injection hx with hx
              subst hx
              exact ⟨r, he, hr r List.mem_cons_self, .inr rfl⟩
            · cases hx
        have en : ∀ p ∈ L, ∀ v t, ends g cf fuel F p.2 = some (v, t) → ∃ s' k, leave g cf fuel p.2.d p.2.s = some s' ∧ results g p.2.r s' F.results.toList = some k ∧ v = tup k ∧ t = s' ∧ p.2.s.n ≤ t.n := fun p hp v t he => by
          unfold ends at he
          split at he
          · rename_i s' hlv
            split at he
            · rename_i k hk
              injection he with he
              injection he with e1 e2
              subst e1; subst e2
              exact ⟨s', k, hlv, hk, rfl, rfl, (leave_sound hg hcf hlv).1⟩
            · cases he
          · cases he
        refine callsIn_wide.1 (callsIn_of_wp_marks (hg.fns _ _ hF) hb trivial (g1 (act := { tmps := args'.toArray ++ Array.replicate (F.ntmps - args'.toArray.size) Go.undef, defers := [] }) (RR.enter hv _) hs hgl (fun p hp => ?_) rfl ?_ fun p hp γ w' act' q1 q2 q3 q4 q5 => ?_))
        · obtain ⟨⟨v, t⟩, he, hl, _⟩ := each p hp
          obtain ⟨_, _, _, _, _, _, hle⟩ := en p hp v t he
          exact (hf _ hl).le hle
        · simp; omega
        · obtain ⟨⟨v, t⟩, he, hl, hx⟩ := each p hp
          obtain ⟨s', k, hlv, hk, rfl, rfl, hle⟩ := en p hp v t he
          obtain ⟨n2, g2⟩ := leave_sound hg hcf hlv
          have key : LeavesInM Fence.wide 0 P F act'.tmps (fun e w' => ∃ p ∈ l, EndR β s w p.1 p.2 e w') act'.defers .returning w' := by
            refine g2 q4 q2 (hgl.mono q3.le) ((hf _ hl).next q3) fun δ w'' p1 p2 => ?_
            obtain ⟨y, hy, hvy⟩ := run_results_all hg p1 (hgl.mono (q3.le.trans p2.le)) (q1.mono p2.le) hk
            exact ⟨y, hy, _, hl, δ, y, rfl, hvy, p1, q3.trans p2⟩
          rcases hx with hx | hx
          · rw [hx]; exact key
          · rw [hx]; exact key

theorem setAll_other : ∀ {l : List (Nat × AO)} {lo : Nat}, ascN lo l = true → ∀ (h : T AO) (b : Nat), b < lo → (setAll l h).get b = h.get b
  | [], lo, _, h, b, _ => rfl
  | p :: l, lo, ha, h, b, hb => by
    simp only [ascN, Bool.and_eq_true] at ha
    have h1 := Nat.le_of_ble_eq_true ha.1
    show (setAll l _).get b = _
    rw [setAll_other ha.2 _ b (by omega), T.get_set, if_neg (by omega)]

theorem setAll_mem : ∀ {l : List (Nat × AO)} {lo : Nat}, ascN lo l = true → ∀ (h : T AO), ∀ p ∈ l, (setAll l h).get p.1 = some p.2
  | [], _, _, _, p, hp => by cases hp
  | q :: l, lo, ha, h, p, hp => by
    simp only [ascN, Bool.and_eq_true] at ha
    show (setAll l _).get p.1 = _
    rcases List.mem_cons.1 hp with rfl | hp
    · rw [setAll_other ha.2 _ p.1 (by omega), T.get_set, if_pos rfl]
    · exact setAll_mem ha.2 _ p hp

theorem outOk_spec {m : Memo} {gh : Nat} : ∀ {l : List (AV × S)} {j : Nat}, outOk m gh j l = true → ∀ p ∈ l, ∃ i, p.1 = m.v ∧ p.2.n = gh ∧ (∀ q ∈ m.old, p.2.h.get q.1 = some q.2) ∧ ∀ q ∈ m.new, isAt p.2.h gh i q = true
  | [], _, _, p, hp => by cases hp
  | (v, t) :: l, j, h, p, hp => by
    simp only [outOk, Bool.and_eq_true] at h
    obtain ⟨⟨⟨⟨h1, h2⟩, h3⟩, h4⟩, h5⟩ := h
    rcases List.mem_cons.1 hp with rfl | hp
    · exact ⟨j, AV.beq_eq _ _ h1, Nat.eq_of_beq_eq_true h2, allAt_spec h3, fun q hq => List.all_eq_true.1 h4 q hq⟩
    · exact outOk_spec h5 p hp

/-- WHAT IS NOTED OF A CALL WITH SEVERAL OUTCOMES IS RIGHT. -/
theorem Memo.okN (hg : GOK P g) {M : List Memo} (hM : ∀ m ∈ M, MemoOK P g m) {fuel d : Nat} {m : Memo} (h : m.saysN g M fuel d = true) : MemoOK P g m := by
  unfold Memo.saysN at h
  split at h
  · rename_i l hl
    split at h
    · cases h
    · rename_i gh hm
      simp only [Bool.and_eq_true] at h
      obtain ⟨⟨⟨⟨h1, h2⟩, h3⟩, h4⟩, h5⟩ := h
      have h2 := Nat.le_of_ble_eq_true h2
      have hold : ∀ p ∈ m.old, p.1 < m.n := fun p hp => Nat.le_of_ble_eq_true (List.all_eq_true.1 h3 p hp)
      have hnew : ∀ p ∈ m.new, p.1 < gh := fun p hp => Nat.le_of_ble_eq_true (List.all_eq_true.1 h5 p hp)
      have asc_le : ∀ {l : List (Nat × AO)} {lo : Nat}, ascN lo l = true → ∀ p ∈ l, lo ≤ p.1 := by
        intro l
        induction l with
        | nil => intro lo _ p hp; cases hp
        | cons q l ih =>
          intro lo ha p hp
          simp only [ascN, Bool.and_eq_true] at ha
          have h1 := Nat.le_of_ble_eq_true ha.1
          rcases List.mem_cons.1 hp with rfl | hp
          · exact h1
          · have := ih ha.2 p hp; omega
      have hlo := asc_le h4
      refine ⟨by omega, hold, fun p hp => ⟨hlo p hp, by have := hnew p hp; omega⟩, fun β w hs hgl hf args' hv => ?_⟩
      have ho := outOk_spec h1
      refine (bodyN_sound hg (callM_sound hg hM fuel d) hl β w hs hgl (fun p hp => ?_) args' hv).mono ?_
      · obtain ⟨_, _, e, _⟩ := ho p hp
        intro b b1 b2
        exact hf b b1 (by omega)
      · rintro e w' ⟨p, hp, γ, x, rfl, hx, hrel, hstep⟩
        obtain ⟨j, e1, e2, e3, e4⟩ := ho p hp
        have hn : γ gh = none := by
          cases hb : γ gh with
          | none => rfl
          | some i =>
            rcases hstep.dom gh i hb with h6 | h6
            · rw [hf gh h2 (by omega)] at h6; cases h6
            · omega
        have hle := upd_le (i := ⟨0, 0, 0, j⟩) hn
        have hgg : upd γ gh ⟨0, 0, 0, j⟩ gh = some ⟨0, 0, 0, j⟩ := upd_same ..
        have hne : ∀ b, b ≠ gh → upd γ gh ⟨0, 0, 0, j⟩ b = γ b := fun b hb => by unfold upd; rw [if_neg hb]
        -- what stands in the outcome where a noted object stands
        have was : ∀ q ∈ m.new, ∃ o, p.2.h.get q.1 = some o ∧ ∀ i, OR γ i w' o → OR (upd γ gh ⟨0, 0, 0, j⟩) i w' q.2 := fun q hq => by
          have h7 := e4 q hq
          unfold isAt at h7
          split at h7
          · rename_i b cs e o z hq2
            simp only [Bool.and_eq_true] at h7
            have hb := Nat.eq_of_beq_eq_true h7.1
            subst hb
            have h8 := h7.2
            split at h8
            · rename_i c hc
              refine ⟨_, AO.beq_eq h8, fun i hi => ?_⟩
              rw [hq2]
              obtain ⟨cs', k1, k2, k3⟩ := hi
              exact ⟨_, c, hgg, hc, cs', k1, k2.mono hle _ _, k3⟩
            · cases h8
          · exact ⟨_, AO.beq_eq h7, fun i hi => hi.mono hle⟩
        have hget : ∀ b o, (setAll m.new p.2.h).get b = some o → b ≠ gh ∧ ∃ o', p.2.h.get b = some o' ∧ ∀ i, OR γ i w' o' → OR (upd γ gh ⟨0, 0, 0, j⟩) i w' o := fun b o hb => by
          rcases setAll_get _ _ _ _ hb with h6 | h6
          · obtain ⟨o', k1, k2⟩ := was _ h6
            have := hnew _ h6
            exact ⟨by dsimp only at this; omega, o', k1, k2⟩
          · have := (hrel.obj b o h6).1
            exact ⟨by omega, o, h6, fun i hi => hi.mono hle⟩
        refine ⟨upd γ gh ⟨0, 0, 0, j⟩, x, { h := setAll m.new p.2.h, n := m.m }, rfl, by rw [← e1]; exact hx.mono hle _ _, ⟨fun b o hb => ?_, fun b c o q i k hb hc hi hk => ?_⟩, ⟨hstep.le.trans hle, by show m.n ≤ m.m; omega, hstep.size, hstep.keep, fun b o i hb hi => ?_, fun b i hb => ?_, hstep.env⟩, rfl, fun q hq => ?_, setAll_mem h4 _⟩
        · obtain ⟨n1, o', k1, k2⟩ := hget b o hb
          obtain ⟨k3, i, k4, k5⟩ := hrel.obj b o' k1
          exact ⟨by show b < m.m; omega, i, by rw [hne b n1]; exact k4, k2 i k5⟩
        · obtain ⟨n1, o', k1, _⟩ := hget b o hb
          obtain ⟨n2, q', l1, _⟩ := hget c q hc
          rw [hne b n1] at hi
          rw [hne c n2] at hk
          exact hrel.inj b c o' q' i k k1 l1 hi hk
        · obtain ⟨n1, o', k1, _⟩ := hget b o hb
          rw [hne b n1] at hi
          exact hstep.old b o' i k1 hi
        · by_cases e : b = gh
          · subst e; exact .inr ⟨h2, by show b < m.m; omega⟩
          · rw [hne b e] at hb
            rcases hstep.dom b i hb with h6 | h6
            · exact .inl h6
            · exact .inr ⟨h6.1, by show b < m.m; omega⟩
        · show (setAll m.new p.2.h).get q.1 = some q.2
          rw [setAll_other h4 _ _ (hold q hq)]
          exact e3 q hq
  · cases h
end
end Go.Proofs.YtjhknhgkjfabaaaGreatDoor.Ev

namespace Go.Proofs.YtjhknhgkjfabaaaGreatDoor.Ev
open Go.RowKit

/-- The row that it is, if the ghost says j. -/
def pickA (j : Nat) : AO → AO
  | .amb b cs e o z => match cs[j]? with
    | some c => .row c e o z
    | none => .amb b cs e o z
  | q => q

def Memo.pick (m : Memo) (j : Nat) : Memo := { m with old := m.old.map fun p => (p.1, pickA j p.2) }

def ambOk (gh k : Nat) : AO → Bool
  | .amb b cs _ _ _ => Nat.beq b gh && Nat.beq cs.length k
  | _ => true
def isAmb : AO → Bool
  | .amb _ _ _ _ _ => true
  | _ => false

def Memo.splitOk (m : Memo) (gh k : Nat) : Bool := ascN 0 m.old && (m.old.all fun p => ambOk gh k p.2) && m.old.any fun p => isAmb p.2

section
variable {P : Program} {g : G}

/-- A NOTED CALL THAT LOOKS AT ROWS THAT ARE ONE OF SEVERAL IS RIGHT if it is for each of them. -/
theorem Memo.okSplit {m : Memo} {gh k : Nat} (hz : 0 < k) (h : m.splitOk gh k = true) (hk : ∀ j, j < k → MemoOK P g (m.pick j)) : MemoOK P g m := by
  unfold Memo.splitOk at h
  simp only [Bool.and_eq_true] at h
  obtain ⟨⟨h1, h2⟩, h3⟩ := h
  obtain ⟨q, hq, hamb⟩ := List.any_eq_true.1 h3
  have hall : ∀ p ∈ m.old, ∀ b cs e o z, p.2 = .amb b cs e o z → b = gh ∧ cs.length = k := fun p hp b cs e o z hp2 => by
    have h4 := List.all_eq_true.1 h2 p hp
    rw [hp2] at h4
    simp only [ambOk, Bool.and_eq_true] at h4
    exact ⟨Nat.eq_of_beq_eq_true h4.1, Nat.eq_of_beq_eq_true h4.2⟩
  have hget : ∀ p ∈ m.old, m.st.h.get p.1 = some p.2 := fun p hp => setAll_mem h1 _ p hp
  have hin : ∀ b o, m.st.h.get b = some o → (b, o) ∈ m.old := fun b o hb => by
    rcases setAll_get _ _ _ _ hb with h4 | h4
    · exact h4
    · simp [T.get] at h4
  have hinj : ∀ j b o, (m.pick j).st.h.get b = some o → ∃ o', (b, o') ∈ m.old ∧ o = pickA j o' := fun j b o hb => by
    rcases setAll_get _ _ _ _ hb with h4 | h4
    · obtain ⟨p, hp, e⟩ := List.mem_map.1 h4
      injection e with e1 e2
      exact ⟨p.2, by rw [← e1]; exact hp, e2.symm⟩
    · simp [T.get] at h4
  have ascm : ∀ j (l : List (Nat × AO)) (lo : Nat), ascN lo l = true → ascN lo (l.map fun p => (p.1, pickA j p.2)) = true := by
    intro j l
    induction l with
    | nil => intro lo h; exact h
    | cons p l ih =>
      intro lo h
      simp only [ascN, Bool.and_eq_true] at h
      simp only [List.map_cons, ascN, Bool.and_eq_true]
      exact ⟨h.1, ih _ h.2⟩
  have hputj : ∀ j p, p ∈ m.old → (m.pick j).st.h.get p.1 = some (pickA j p.2) := fun j p hp =>
    setAll_mem (ascm j _ _ h1) .e (p.1, pickA j p.2) (List.mem_map.2 ⟨p, hp, rfl⟩)
  -- there is one
  have hk0 : ∀ (β : Ren) (w : World), Rel β m.st w → ∃ j i0, j < k ∧ β gh = some i0 ∧ i0.xtra = j := fun β w hs => by
    obtain ⟨_, i, hi, hor⟩ := hs.obj q.1 q.2 (hget q hq)
    obtain ⟨qb, qo⟩ := q
    cases qo with
    | amb b cs e o z =>
      obtain ⟨i0, c, k1, k2, _⟩ := hor
      obtain ⟨rfl, k3⟩ := hall _ hq b cs e o z rfl
      exact ⟨i0.xtra, i0, by rw [← k3]; exact (List.getElem?_eq_some_iff.1 k2).1, k1, rfl⟩
    | _ => cases hamb
  have hm0 := hk 0 hz
  have hold : ∀ p ∈ m.old, p.1 < m.n := fun p hp => hm0.old (p.1, pickA 0 p.2) (List.mem_map.2 ⟨p, hp, rfl⟩)
  refine ⟨hm0.le, hold, hm0.new, fun β w hs hgl hf args' hv => ?_⟩
  obtain ⟨j, i0, hj, hg0, hx0⟩ := hk0 β w hs
  have to : ∀ {γ : Ren} {i : Info} {v : World} {o : AO}, (∃ p ∈ m.old, p.2 = o) → γ gh = some i0 → (OR γ i v o → OR γ i v (pickA j o)) ∧ (OR γ i v (pickA j o) → OR γ i v o) := fun {γ i v o} ho hγ => by
    obtain ⟨p, hp, e⟩ := ho
    cases o with
    | amb b cs e' o' z =>
      obtain ⟨rfl, hlen⟩ := hall p hp b cs e' o' z e
      have hc : cs[j]? = some (cs[j]'(by omega)) := List.getElem?_eq_getElem _
      constructor
      · rintro ⟨i1, c, k1, k2, r⟩
        rw [hγ] at k1
        injection k1 with k1
        subst k1
        rw [hx0] at k2
        simp only [pickA, k2]
        exact r
      · intro r
        simp only [pickA, hc] at r
        exact ⟨i0, _, hγ, by rw [hx0]; exact hc, r⟩
    | _ => exact ⟨id, id⟩
  have hrel : Rel β (m.pick j).st w := ⟨fun b o hb => by
      obtain ⟨o', h4, rfl⟩ := hinj j b o hb
      obtain ⟨k1, i, k2, k3⟩ := hs.obj b o' (hget _ h4)
      exact ⟨k1, i, k2, (to ⟨_, h4, rfl⟩ hg0).1 k3⟩,
    fun b c o p i x hb hc => by
      obtain ⟨o', h4, _⟩ := hinj j b o hb
      obtain ⟨p', h5, _⟩ := hinj j c p hc
      exact hs.inj b c o' p' i x (hget _ h4) (hget _ h5)⟩
  refine ((hk j hj).call β w hrel hgl hf args' hv).mono ?_
  rintro e w' ⟨γ, x, t, rfl, hx, hrel2, hstep, htn, hto, htw⟩
  have hγ : γ gh = some i0 := hstep.le _ _ hg0
  have hto' : ∀ p ∈ m.old, t.h.get p.1 = some (pickA j p.2) := fun p hp => hto (p.1, pickA j p.2) (List.mem_map.2 ⟨p, hp, rfl⟩)
  have hg : ∀ b o, (setAll m.old t.h).get b = some o → ∃ o', t.h.get b = some o' ∧ ∀ i, OR γ i w' o' → OR γ i w' o := fun b o hb => by
    rcases setAll_get _ _ _ _ hb with h4 | h4
    · exact ⟨_, hto' _ h4, fun i hi => (to ⟨_, h4, rfl⟩ hγ).2 hi⟩
    · exact ⟨o, h4, fun i hi => hi⟩
  refine ⟨γ, x, { h := setAll m.old t.h, n := t.n }, rfl, hx, ⟨fun b o hb => ?_, fun b c o q i y hb hc => ?_⟩, ⟨hstep.le, hstep.n, hstep.size, fun b hb hn => hstep.keep b hb fun c o i hc hi => ?_, fun b o i hb hi hlt => ?_, hstep.dom, hstep.env⟩, htn, setAll_mem h1 _, fun p hp => ?_⟩
  · obtain ⟨o', k1, k2⟩ := hg b o hb
    obtain ⟨k3, i, k4, k5⟩ := hrel2.obj b o' k1
    exact ⟨k3, i, k4, k2 i k5⟩
  · obtain ⟨o', k1, _⟩ := hg b o hb
    obtain ⟨q', l1, _⟩ := hg c q hc
    exact hrel2.inj b c o' q' i y k1 l1
  · obtain ⟨o', h4, _⟩ := hinj j c o hc
    exact hn c o' i (hget _ h4) hi
  · obtain ⟨o', k1, _⟩ := hg b o hb
    obtain ⟨c, p, y, h4, h5, h6⟩ := hstep.old b o' i k1 hi hlt
    obtain ⟨p', h7, _⟩ := hinj j c p h4
    exact ⟨c, p', y, hget _ h7, h5, h6⟩
  · have h4 := (hm0.new p hp).1
    have : ∀ (l : List (Nat × AO)) (h : T AO) (b : Nat), (∀ q ∈ l, q.1 ≠ b) → (setAll l h).get b = h.get b := by
      intro l
      induction l with
      | nil => intro h b _; rfl
      | cons q l ih =>
        intro h b hb
        show (setAll l _).get b = _
        rw [ih _ b fun x hx => hb x (List.mem_cons_of_mem _ hx), T.get_set, if_neg (fun e => hb q List.mem_cons_self e.symm)]
    show (setAll m.old t.h).get p.1 = some p.2
    rw [this _ _ _ fun x hx e => by have := hold x hx; have h5 : m.n ≤ p.1 := h4; omega]
    exact htw p hp
end
end Go.Proofs.YtjhknhgkjfabaaaGreatDoor.Ev
