/-
  An evaluator for closed calls, part 4: it proves that calls with several outcomes, and calls that were evaluated by themselves, do what the evaluator computes. No conditions.
-/
import Derived.Test.YtgfbjbdfckgdjaaGreatDoorV3
import Derived.Maps.RangeRun
set_option linter.unusedSimpArgs false
set_option linter.unusedVariables false

namespace Go.Proofs.YtgfbjbdfckgdjaaGreatDoor.Ev
open Go.RowKit

/-- What steps of a range over a map may come to. -/
def nextTo (s : S) (b m since : Nat) (seen : List Nat) (c : Nat) (e : ME) : AV × S :=
  (.tuple [.bool true, e.key, e.val], { h := s.h.set b (some (.iter (some m) since (seen ++ [e.born]) c)), n := s.n })

def unseen (seen : List Nat) (es : List ME) : List ME := es.filter fun e => !(seen.any fun q => Nat.beq q e.born)

def nextsTo (s : S) (b m since : Nat) (seen : List Nat) (c : Nat) : List ME → List (AV × S)
  | [] => [(.tuple [.bool false], s)]
  | l => l.map (nextTo s b m since seen c)

def twoUp : List ME → Bool
  | _ :: _ :: _ => true
  | _ => false

def exNextN (s : S) (x : AV) : Option (List (AV × S)) :=
  match x with
  | .ptr (some (b, 0)) => match s.h.get b with
    | some (.iter (some m) since seen last) => match s.h.get m with
      | some (.map es c) => match twoUp es && (Nat.ble since last && es.all fun e => Nat.blt e.born since) with
        | true => some (nextsTo s b m since seen c (unseen seen es))
        | false => none
      | _ => none
    | _ => none
  | _ => none

section
variable {P : Program} {g : G} {β : Ren} {s : S} {w : World} {ty : TypeId}

theorem nextTo_rel (hs : Rel β s w) {b m since last c : Nat} {seen : List Nat} {e : ME} {m0 : MapEntry} {i im : Info} (hb : s.h.get b = some (.iter (some m) since seen last)) (hi : β b = some i) (him : β m = some im) (hxt : i.xtra = 0 ∧ i.off = 0)
    (hm : w.heap[i.blk]? = some (.mapIter (some im.blk) since seen.toArray last)) (hk : VR β e.key m0.key) (hv : VR β e.val m0.val) (hborn : m0.born = e.born) (d : Nat) {run : Result Value}
    (hr : run = .ok (.tuple #[.bool true, m0.key, m0.val]) { w with drawn := d, heap := w.heap.setIfInBounds i.blk (.mapIter (some im.blk) since (seen.toArray.push m0.born) c) }) :
    RV β s w run (.val (nextTo s b m since seen c e).1 (nextTo s b m since seen c e).2) := by
  have hlt' : i.blk < w.heap.size := (Array.getElem?_eq_some_iff.1 hm).1
  obtain ⟨h3, h4⟩ := (hs.drew d).change (o' := .iter (some m) since (seen ++ [e.born]) c) (w' := { w with drawn := d, heap := w.heap.setIfInBounds i.blk (.mapIter (some im.blk) since (seen.toArray.push m0.born) c) }) hb hi
    ⟨some im.blk, by simp [hlt', hborn], ⟨im, him, rfl⟩, hxt⟩ (by simp) (fun q hq => by simp [Array.getElem?_setIfInBounds_ne (Ne.symm hq)]) ⟨rfl, rfl, rfl⟩
  exact ⟨β, _, _, hr, ⟨[.bool true, m0.key, m0.val], VRs.cons rfl (VRs.cons hk (VRs.cons hv VRs.nil)), rfl⟩, h3, (Step.drew _).trans h4⟩

theorem seen_any {seen : List Nat} {b : Nat} : (seen.any fun q => Nat.beq q b) = seen.contains b := by
  rw [Bool.eq_iff_iff, List.any_eq_true, List.contains_iff_mem]
  exact ⟨fun ⟨q, hq, e⟩ => Nat.eq_of_beq_eq_true e ▸ hq, fun h => ⟨b, h, Nat.beq_refl b⟩⟩

theorem ex_nextN (hs : Rel β s w) {a : AV} {l : List (AV × S)} {x : Value} (h : exNextN s a = some l) (hx : VR β a x) : ∃ p ∈ l, RV β s w ((Instr.next x false ty).run P w) (.val p.1 p.2) := by
  unfold exNextN at h
  split at h
  case h_2 => cases h
  rename_i b
  obtain ⟨i, hi, rfl⟩ := hx
  split at h
  case h_2 => cases h
  rename_i m since seen last hb
  split at h
  case h_2 => cases h
  rename_i es c hmap
  obtain ⟨_, j, hj, mb, hm, hmb, hxt⟩ := hs.obj _ _ hb
  rw [hi] at hj
  injection hj with hj
  subst hj
  simp only [hxt.2, Nat.add_zero]
  obtain ⟨im, him, rfl⟩ := hmb
  obtain ⟨_, jm, hjm, ms, hms, hl, _, he⟩ := hs.obj _ _ hmap
  rw [him] at hjm
  injection hjm with hjm
  subst hjm
  split at h
  case h_2 => cases h
  rename_i hc
  injection h with h
  subst h
  simp only [Bool.and_eq_true] at hc
  have hsc := Nat.le_of_ble_eq_true hc.2.1
  have hall := List.all_eq_true.1 hc.2.2
  have rel : ∀ x ∈ ms.toList, ∃ a ∈ es, VR β a.key x.key ∧ VR β a.val x.val ∧ x.born = a.born := by
    intro x hx
    obtain ⟨j, hj, e⟩ := List.getElem_of_mem hx
    have hj' : j < es.length := by simpa [hl] using hj
    obtain ⟨m0, h0, k1, k2, k3⟩ := he j es[j] (by simp)
    have : m0 = x := by
      have : ms[j]? = some x := by rw [← Array.getElem?_toList, List.getElem?_eq_getElem hj, e]
      rw [this] at h0
      injection h0 with h0
      exact h0.symm
    subst this
    exact ⟨es[j], List.getElem_mem _, k1, k2, k3⟩
  have hold : ∀ x ∈ ms.toList, x.born < since := by
    intro x hx
    obtain ⟨a, ha, _, _, k⟩ := rel x hx
    rw [k]
    exact Nat.le_of_ble_eq_true (hall a ha)
  have left : ∀ x ∈ (leftOf ms seen.toArray).toList, ∃ a ∈ unseen seen es, VR β a.key x.key ∧ VR β a.val x.val ∧ x.born = a.born := by
    intro x hx
    obtain ⟨h1, h2⟩ := mem_left hx
    obtain ⟨a, ha, k1, k2, k3⟩ := rel x h1
    refine ⟨a, List.mem_filter.2 ⟨ha, ?_⟩, k1, k2, k3⟩
    rw [seen_any, ← k3]
    simpa using h2
  rcases run_next_at (P := P) w ty i.blk im.blk since last seen.toArray ms c hm hms hold hsc with ⟨h0, hr⟩ | ⟨x, hx, w1, hw1, hr⟩
  · have hnone : unseen seen es = [] := by
      apply List.eq_nil_iff_forall_not_mem.2
      intro a ha
      obtain ⟨h1, h2⟩ := List.mem_filter.1 ha
      obtain ⟨j, hj, e⟩ := List.getElem_of_mem h1
      obtain ⟨m0, g0, k1, k2, k3⟩ := he j a (by rw [List.getElem?_eq_getElem hj, e])
      have hem : leftOf ms seen.toArray = #[] := Array.eq_empty_of_size_eq_zero h0
      have : m0 ∈ leftOf ms seen.toArray := by
        refine Array.mem_filter.2 ⟨Array.mem_of_getElem? g0, ?_⟩
        rw [seen_any] at h2
        rw [k3]
        simpa using h2
      rw [hem] at this
      simp at this
    rw [hnone]
    exact ⟨_, List.mem_cons_self, RV.pure hs (v := .tuple [.bool false]) (x := .tuple #[.bool false]) ⟨[.bool false], VRs.cons rfl VRs.nil, rfl⟩ hr⟩
  · obtain ⟨a, ha, k1, k2, k3⟩ := left x hx
    refine ⟨nextTo s b m since seen c a, ?_, ?_⟩
    · cases hu : unseen seen es with
      | nil => rw [hu] at ha; simp at ha
      | cons u l => rw [hu] at ha; exact List.mem_map.2 ⟨a, ha, rfl⟩
    · rcases hw1 with rfl | rfl
      · exact nextTo_rel hs hb hi him hxt hm k1 k2 k3 w1.drawn hr
      · exact nextTo_rel hs hb hi him hxt hm k1 k2 k3 (w.drawn + 1) hr
end
end Go.Proofs.YtgfbjbdfckgdjaaGreatDoor.Ev

namespace Go.Proofs.YtgfbjbdfckgdjaaGreatDoor.Ev
open Go.RowKit

/-- Keys that differ from each other. -/
def apartB : List ME → Bool
  | [] => true
  | e :: l => (l.all fun f => !(Nat.beq f.born e.born)) && apartB l

/-- The entry at which a range over a map stands. -/
def exEntryN (s : S) (x : AV) : Option (AV × S) :=
  match x with
  | .ptr (some (b, 0)) => match s.h.get b with
    | some (.iter (some m) _ seen last) => match s.h.get m with
      | some (.map es c) => match twoUp es && (Nat.beq c last && apartB es), seen.getLast? with
        | true, some q => match es.find? fun e => Nat.beq e.born q with
          | some e => some (.tuple [e.key, e.val], s)
          | none => none
        | _, _ => none
      | _ => none
    | _ => none
  | _ => none

/-- What the evaluator does for calls that have several outcomes. -/
abbrev CN := FuncId → List AV → S → Option (List (AV × S))

def noCN : CN := fun _ _ _ => none

def oneStep : Option (AV × S) → Option (List (AV × S))
  | some p => some [p]
  | none => none

/-- One operation, with its outcomes. -/
def stepN (g : G) (cf : CF) (cn : CN) (s : S) (o : Op) (vs : List AV) : Option (List (AV × S)) :=
  match o with
  | .next _ false => match vs with
    | [x] => match exNextN s x with
      | some l => some l
      | none => oneStep (stepE g cf s o vs)
    | _ => oneStep (stepE g cf s o vs)
  | .entry _ => match vs with
    | [x] => match exEntryN s x with
      | some p => some [p]
      | none => oneStep (stepE g cf s o vs)
    | _ => oneStep (stepE g cf s o vs)
  | .call _ => match exec g s o vs with
    | some (.enter f args t) => match cn f args t with
      | some l => some l
      | none => oneStep (stepE g cf s o vs)
    | _ => oneStep (stepE g cf s o vs)
  | _ => oneStep (stepE g cf s o vs)

/-- All outcomes of a list of outcomes, each gone on with. -/
def flatN {α γ : Type} : List α → (α → Option (List γ)) → Option (List γ)
  | [], _ => some []
  | a :: l, k => match k a with
    | none => none
    | some x => match flatN l k with
      | none => none
      | some y => some (x ++ y)

def opsN (g : G) (cf : CF) (cn : CN) (nt : Nat) (all : Array Oper) : List Oper → A → Option (List A)
  | [], a => some [a]
  | o :: rest, a => match dstOk nt o.dst with
    | false => none
    | true => match wants all a.r o with
      | false => opsN g cf cn nt all rest { r := put a.r o.dst undef, s := a.s, d := a.d }
      | true => match vals g a.r o.op.operands.toList with
        | none => none
        | some vs => match deferOf o.op vs with
          | some _ => none
          | none => match stepN g cf cn a.s o.op vs with
            | none => none
            | some l => flatN l fun p => opsN g cf cn nt all rest { r := put a.r o.dst p.1, s := p.2, d := a.d }

/-- What is left normally goes on. -/
def thenN (l : List (X × A)) (k : A → Option (List (X × A))) : Option (List (X × A)) := flatN l fun p => match p.1 with
  | .normal => k p.2
  | _ => some [p]

def isNext : Op → Bool
  | .next _ _ => true
  | .entry _ => true
  | .call _ => true
  | _ => false

def blockN (id : Nat) (p : X × A) : X × A := match p.1 with
  | .exit i => if i = id then (.normal, p.2) else p
  | _ => p

def oneN : Option (X × A) → Option (List (X × A))
  | some p => some [p]
  | none => none

/-- Behind a loop over a function: the loop's record (its number is b), the jump that waits. -/
def overEnd (b : Nat) (mark : List AD) (a : A) (p : AV × S) : Option (X × A) := match p.2.h.get b with
  | some (.loop l) => match l.st with
    | .busy => none
    | _ => match l.pend with
      | none => some (.normal, { r := a.r, s := { h := p.2.h.set b (some (.loop { l with st := .exhausted })), n := p.2.n }, d := mark ++ a.d })
      | some y => some (y, { r := a.r, s := { h := p.2.h.set b (some (.loop { l with st := .exhausted })), n := p.2.n }, d := mark ++ a.d })
  | _ => none

/-- A loop over a function whose call has several outcomes. -/
def overN (g : G) (cn : CN) (nt : Nat) (x : Operand) (ps : Array Tmp) (as bd : Code) (a : A) : Option (List (X × A)) :=
  match val g a.r x, enterL a.s none with
  | some (.func (.func f) first captured), some (s1, mark) =>
    match callFn g (Ev.new s1 (.loop { st := .ready, pend := none, nt := nt, r := a.r, ps := ps, assign := as, body := bd })) f (first ++ [.yield s1.n] ++ captured) with
    | some (.enter f args s2) => match cn f args s2 with
      | some l => flatN l fun p => match overEnd s1.n mark a p with
        | some q => some [q]
        | none => none
      | none => none
    | _ => none
  | _, _ => none

/-- Code, with its outcomes. -/
def codeN (g : G) (cf : CF) (cn : CN) (nt : Nat) : Nat → Code → A → Option (List (X × A))
  | 0, _, _ => none
  | f + 1, c, a => match c with
    | .region id l false => match l.any fun o => isNext o.op with
      | true => match opsN g cf cn nt l l.toList a with
        | some L => some (L.map fun a => (.normal, a))
        | none => none
      | false => oneN (code g cf none nt (f + 1) (.region id l false) a)
    | .seq x y => match codeN g cf cn nt f x a with
      | some L => thenN L (codeN g cf cn nt f y)
      | none => none
    | .cond c x y => match val g a.r c with
      | some (.bool true) => codeN g cf cn nt f x a
      | some (.bool false) => codeN g cf cn nt f y a
      | _ => none
    | .block id b => match codeN g cf cn nt f b a with
      | some L => some (L.map (blockN id))
      | none => none
    | .loop b => match codeN g cf cn nt f b a with
      | some L => thenN L (codeN g cf cn nt f (.loop b))
      | none => none
    | .scope b => codeN g cf cn nt f b a
    | .rangeFunc x ps as bd => match overN g cn nt x ps as bd a with
      | some L => some L
      | none => oneN (code g cf none nt (f + 1) (.rangeFunc x ps as bd) a)
    | c => oneN (code g cf none nt (f + 1) c a)

/-- The evaluator's calls with several outcomes are right. -/
def CSN (P : Program) (g : G) (cn : CN) : Prop := ∀ f args s l, cn f args s = some l → l ≠ [] ∧ (∀ p ∈ l, s.n ≤ p.2.n) ∧
  ∀ β w, Rel β s w → GloOK g β → (∀ p ∈ l, Free β s p.2) → ∀ args', VRs β args args' → Calls P f args'.toArray w fun e w' => ∃ p ∈ l, EndR β s w p.1 p.2 e w'

theorem noCN_sound {P : Program} {g : G} : CSN P g noCN := fun _ _ _ _ h => by simp [noCN] at h

section
variable {P : Program} {g : G} {β : Ren} {s : S} {w : World} {cf : CF} {nt : Nat}

theorem apartB_nodup : ∀ {l : List ME}, apartB l = true → (l.map (·.born)).Nodup
  | [], _ => by simp
  | e :: l, h => by
    simp only [apartB, Bool.and_eq_true] at h
    rw [List.map_cons, List.nodup_cons]
    refine ⟨fun hm => ?_, apartB_nodup h.2⟩
    obtain ⟨f, hf, e1⟩ := List.mem_map.1 hm
    have := List.all_eq_true.1 h.1 f hf
    rw [Bool.not_eq_true'] at this
    exact Nat.ne_of_beq_eq_false this e1

theorem ex_entryN (hs : Rel β s w) {a : AV} {p : AV × S} {x : Value} (h : exEntryN s a = some p) (hx : VR β a x) : RV β s w ((Instr.entry x).run P w) (.val p.1 p.2) := by
  unfold exEntryN at h
  split at h
  case h_2 => cases h
  rename_i b
  obtain ⟨i, hi, rfl⟩ := hx
  split at h
  case h_2 => cases h
  rename_i m since seen last hb
  split at h
  case h_2 => cases h
  rename_i es c hmap
  obtain ⟨_, j, hj, mb, hm, hmb, hxt⟩ := hs.obj _ _ hb
  rw [hi] at hj
  injection hj with hj
  subst hj
  simp only [hxt.2, Nat.add_zero]
  obtain ⟨im, him, rfl⟩ := hmb
  obtain ⟨_, jm, hjm, ms, hms, hl, _, he⟩ := hs.obj _ _ hmap
  rw [him] at hjm
  injection hjm with hjm
  subst hjm
  split at h
  case h_2 => cases h
  rename_i q hc hq
  simp only [Bool.and_eq_true] at hc
  have hcl := Nat.eq_of_beq_eq_true hc.2.1
  subst hcl
  split at h
  case h_2 => cases h
  rename_i e hf
  injection h with h
  subst h
  have hq1 := List.find?_some hf
  have hq2 : e.born = q := Nat.eq_of_beq_eq_true hq1
  obtain ⟨j, hj, hje⟩ := List.getElem_of_mem (List.mem_of_find?_eq_some hf)
  obtain ⟨m0, h0, k1, k2, k3⟩ := he j e (by rw [List.getElem?_eq_getElem hj, hje])
  have hmem : m0 ∈ ms.toList := by simpa using Array.mem_of_getElem? h0
  have hborns : ms.toList.map (·.born) = es.map (·.born) := by
    apply List.ext_getElem
    · simp [hl]
    · intro k h1 h2
      simp only [List.getElem_map]
      have hk : k < es.length := by simpa using h2
      obtain ⟨m1, g0, _, _, g3⟩ := he k es[k] (by simp)
      have : ms.toList[k]'(by simpa using h1) = m1 := by
        have g1 : ms.toList[k]? = some m1 := by rw [Array.getElem?_toList]; exact g0
        rw [List.getElem?_eq_getElem (by simpa using h1)] at g1
        injection g1
      rw [this, g3]
  have hnd : (ms.toList.map (·.born)).Nodup := by rw [hborns]; exact apartB_nodup hc.2.2
  obtain ⟨seen0, hseen⟩ : ∃ l0, seen = l0 ++ [q] := by
    obtain ⟨l0, hl0⟩ := List.getLast?_eq_some_iff.1 hq
    exact ⟨l0, hl0⟩
  have hm' : w.heap[i.blk]? = some (.mapIter (some im.blk) since (seen0.toArray.push m0.born) c) := by
    rw [hm, hseen, k3, hq2]
    simp
  exact RV.pure hs (v := .tuple [e.key, e.val]) (x := .tuple #[m0.key, m0.val]) ⟨[m0.key, m0.val], VRs.cons k1 (VRs.cons k2 VRs.nil), rfl⟩ (run_entry_at (P := P) w i.blk im.blk since seen0.toArray ms c m0 hm' hms hmem hnd)

theorem flatN_spec {α γ : Type} {k : α → Option (List γ)} : ∀ {l : List α} {r : List γ}, flatN l k = some r → (∀ a ∈ l, ∃ x, k a = some x ∧ ∀ q ∈ x, q ∈ r) ∧ ∀ q ∈ r, ∃ a ∈ l, ∃ x, k a = some x ∧ q ∈ x
  | [], r, h => by
    simp only [flatN, Option.some.injEq] at h
    subst h
    exact ⟨fun a h => (by cases h), fun q h => (by cases h)⟩
  | a :: l, r, h => by
    simp only [flatN] at h
    split at h
    · cases h
    · rename_i x hx
      split at h
      · cases h
      · rename_i y hy
        injection h with h
        subst h
        obtain ⟨i1, i2⟩ := flatN_spec hy
        refine ⟨fun b hb => ?_, fun q hq => ?_⟩
        · rcases List.mem_cons.1 hb with rfl | hb
          · exact ⟨x, hx, fun q hq => List.mem_append_left _ hq⟩
          · obtain ⟨z, h1, h2⟩ := i1 b hb
            exact ⟨z, h1, fun q hq => List.mem_append_right _ (h2 q hq)⟩
        · rcases List.mem_append.1 hq with hq | hq
          · exact ⟨a, List.mem_cons_self, x, hx, hq⟩
          · obtain ⟨b, hb, z, h1, h2⟩ := i2 q hq
            exact ⟨b, List.mem_cons_of_mem _ hb, z, h1, h2⟩

theorem nextsTo_n {b m since c : Nat} {seen : List Nat} {l : List ME} : nextsTo s b m since seen c l ≠ [] ∧ ∀ p ∈ nextsTo s b m since seen c l, p.2.n = s.n := by
  cases l with
  | nil => exact ⟨by simp [nextsTo], fun p hp => by simp only [nextsTo, List.mem_singleton] at hp; subst hp; rfl⟩
  | cons e l => exact ⟨by simp [nextsTo], fun p hp => by
      simp only [nextsTo] at hp
      obtain ⟨a, _, rfl⟩ := List.mem_map.1 hp
      rfl⟩

theorem exNextN_is {a : AV} {l : List (AV × S)} (h : exNextN s a = some l) : ∃ b m since seen c es, l = nextsTo s b m since seen c es := by
  unfold exNextN at h
  repeat' (split at h)
  all_goals first
    | (injection h with h; exact ⟨_, _, _, _, _, _, h.symm⟩)
    | cases h

theorem exNextN_n {a : AV} {l : List (AV × S)} (h : exNextN s a = some l) : ∀ p ∈ l, p.2.n = s.n := by
  obtain ⟨b, m, since, seen, c, es, rfl⟩ := exNextN_is h
  exact nextsTo_n.2

theorem exNextN_ne {a : AV} {l : List (AV × S)} (h : exNextN s a = some l) : l ≠ [] := by
  obtain ⟨b, m, since, seen, c, es, rfl⟩ := exNextN_is h
  exact nextsTo_n.1

theorem exEntryN_n {a : AV} {p : AV × S} (h : exEntryN s a = some p) : p.2 = s := by
  unfold exEntryN at h
  repeat' (split at h)
  all_goals first
    | (injection h with h; subst h; rfl)
    | cases h

theorem oneStep_one {r : Option (AV × S)} {l : List (AV × S)} (h : oneStep r = some l) : ∃ p, r = some p ∧ l = [p] := by
  unfold oneStep at h
  split at h
  · rename_i p
    injection h with h
    exact ⟨p, rfl, h.symm⟩
  · cases h

theorem stepN_n (hg : GOK P g) (hcf : CS P g cf) {cn : CN} (hcn : CSN P g cn) {o : Op} {vs : List AV} {l : List (AV × S)} (h : stepN g cf cn s o vs = some l) : l ≠ [] ∧ ∀ p ∈ l, s.n ≤ p.2.n := by
  have one : ∀ {o : Op} {vs : List AV} {l : List (AV × S)}, oneStep (stepE g cf s o vs) = some l → l ≠ [] ∧ ∀ p ∈ l, s.n ≤ p.2.n := fun h => by
    obtain ⟨p, hp, rfl⟩ := oneStep_one h
    exact ⟨by simp, fun q hq => by rw [List.mem_singleton.1 hq]; exact stepE_n (v := p.1) hcf hp⟩
  unfold stepN at h
  split at h
  · split at h
    · split at h
      · rename_i l' hl
        injection h with h
        subst h
        exact ⟨exNextN_ne hl, fun p hp => by rw [exNextN_n hl p hp]; exact Nat.le_refl _⟩
      · exact one h
    · exact one h
  · split at h
    · split at h
      · rename_i p hp
        injection h with h
        subst h
        exact ⟨by simp, fun q hq => by rw [List.mem_singleton.1 hq, exEntryN_n hp]; exact Nat.le_refl _⟩
      · exact one h
    · exact one h
  · split at h
    · rename_i f args t he
      split at h
      · rename_i l' hl
        injection h with h
        subst h
        obtain ⟨h1, h2, _⟩ := hcn _ _ _ _ hl
        have h3 : s.n ≤ t.n := exec_n he
        exact ⟨h1, fun p hp => Nat.le_trans h3 (h2 p hp)⟩
      · exact one h
    · exact one h
  · exact one h

theorem stepN_sound (hg : GOK P g) (hcf : CS P g cf) {cn : CN} (hcn : CSN P g cn) {n : Nat} {o : Oper} {vs : List AV} {l : List (AV × S)} {a : Act} (h : stepN g cf cn s o.op vs = some l) (hv : VRs β vs (o.op.operands.toList.map a.eval)) (hs : Rel β s w)
    (hgl : GloOK g β) (hf : ∀ p ∈ l, Free β s p.2) {K : Act → World → Prop} {Q : Exit → Act → World → Prop} (hK : ∀ p ∈ l, ∀ γ x w', VR γ p.1 x → Rel γ p.2 w' → Step β s w γ p.2 w' → K (a.put o.dst x) w') : o.wpIn (Wd none) n P a w K Q := by
  have one : ∀ {l : List (AV × S)}, oneStep (stepE g cf s o.op vs) = some l → (∀ p ∈ l, Free β s p.2) → (∀ p ∈ l, ∀ γ x w', VR γ p.1 x → Rel γ p.2 w' → Step β s w γ p.2 w' → K (a.put o.dst x) w') → o.wpIn (Wd none) n P a w K Q := fun h hf hK => by
    obtain ⟨p, hp, rfl⟩ := oneStep_one h
    exact stepE_sound (v := p.1) hg hcf hp hv hs hgl (hf p List.mem_cons_self) (hK p List.mem_cons_self)
  obtain ⟨dst, op, type, pos, after, guard⟩ := o
  unfold stepN at h
  dsimp only at h hv
  split at h
  · rename_i y
    split at h
    · rename_i x
      split at h
      · rename_i l' hl
        injection h with h
        subst h
        refine ⟨fun _ _ => trivial, ?_⟩
        rw [Oper.semAt_eq _ _ _ (fun c => by simp)]
        obtain ⟨p, hp, γ, z, w', hr, hz, hrel, hst⟩ := ex_nextN (P := P) (ty := type) hs hl (vr1 (v := x) (x := a.eval y) hv)
        have : (Go.execOp a.eval ⟨dst, .next y false, type, pos, after, guard⟩).run P w = .ok (.value z) w' := by
          simp [Go.execOp, hr]
        rw [this]
        exact hK p hp γ z w' hz hrel hst
      · exact one h hf hK
    · exact one h hf hK
  · rename_i y
    split at h
    · rename_i x
      split at h
      · rename_i p hp
        injection h with h
        subst h
        refine ⟨fun _ _ => trivial, ?_⟩
        rw [Oper.semAt_eq _ _ _ (fun c => by simp)]
        obtain ⟨γ, z, w', hr, hz, hrel, hst⟩ := ex_entryN (P := P) hs hp (vr1 (v := x) (x := a.eval y) hv)
        have : (Go.execOp a.eval ⟨dst, .entry y, type, pos, after, guard⟩).run P w = .ok (.value z) w' := by
          simp [Go.execOp, hr]
        rw [this]
        exact hK p List.mem_cons_self γ z w' hz hrel hst
      · exact one h hf hK
    · exact one h hf hK
  · rename_i c
    split at h
    · rename_i f args t he
      split at h
      · rename_i l' hl
        injection h with h
        subst h
        refine ⟨fun _ _ => trivial, ?_⟩
        rw [Oper.semAt_eq _ _ _ (fun c => by simp)]
        obtain ⟨hne, hn, hc⟩ := hcn _ _ _ _ hl
        obtain ⟨q, hq⟩ := List.exists_mem_of_ne_nil _ hne
        obtain ⟨args', hr, hva, rfl⟩ := exec_sound (o := ⟨dst, .call c, type, pos, after, guard⟩) hg hs he hv (fun b h1 h2 => hf q hq b h1 (Nat.lt_of_lt_of_le h2 (hn q hq)))
        rw [hr]
        refine ⟨fun h => by simp [Wd, Fence.wide] at h, calls_wd ((hc β w hs hgl hf args' hva).mono ?_)⟩
        rintro e w' ⟨p, hp, γ, x, rfl, hx, hrel, hst⟩
        exact hK p hp γ x w' hx hrel hst
      · exact one h hf hK
    · exact one h hf hK
  · exact one h hf hK
end
end Go.Proofs.YtgfbjbdfckgdjaaGreatDoor.Ev

namespace Go.Proofs.YtgfbjbdfckgdjaaGreatDoor.Ev
open Go.RowKit

section
variable {P : Program} {g : G} {cf : CF} {nt : Nat}

theorem opsN_sound (hg : GOK P g) (hcf : CS P g cf) {cn : CN} (hcn : CSN P g cn) {n : Nat} {all : Array Oper} : ∀ {rest : List Oper} {k : Nat}, all.toList.drop k = rest → ∀ {a : A} {L : List A}, opsN g cf cn nt all rest a = some L → L ≠ [] ∧ (∀ p ∈ L, a.s.n ≤ p.s.n) ∧ ∀ {β : Ren} {w : World} {act : Act},
    RR β a.r act.tmps → Rel β a.s w → GloOK g β → (∀ p ∈ L, Free β a.s p.s) → DR β a.d act.defers → nt ≤ act.tmps.size → ∀ {Q : Exit → Act → World → Prop},
    (∀ p ∈ L, ∀ γ w' act', RR γ p.r act'.tmps → Rel γ p.s w' → Step β a.s w γ p.s w' → DR γ p.d act'.defers → act'.tmps.size = act.tmps.size → Q .normal act' w') →
    wpOpsIn (Wd none) n P all Q ((List.range all.size).drop k) act w
  | [], k, hk, a, L, h => by
    simp only [opsN, Option.some.injEq] at h
    subst h
    refine ⟨by simp, fun p hp => by rw [List.mem_singleton.1 hp]; exact Nat.le_refl _, fun hr hs _ _ hd _ Q hQ => ?_⟩
    have hle : all.size ≤ k := by
      have := List.drop_eq_nil_iff.1 hk
      simpa using this
    rw [List.drop_eq_nil_of_le (by simpa using hle)]
    exact hQ _ List.mem_cons_self _ _ _ hr hs .refl hd rfl
  | o :: rest, k, hk, a, L, h => by
    have hlt : k < all.size := by
      rcases Nat.lt_or_ge k all.size with h' | h'
      · exact h'
      · rw [List.drop_eq_nil_of_le (by simpa using h')] at hk; cases hk
    have hcons : (List.range all.size).drop k = k :: (List.range all.size).drop (k + 1) := by
      rw [List.drop_eq_getElem_cons (by simpa using hlt)]
      simp
    have hk' := hk
    rw [List.drop_eq_getElem_cons (by simpa using hlt)] at hk'
    injection hk' with ho hrest
    have hoo : all[k]? = some o := by rw [← ho]; simp [hlt]
    simp only [opsN] at h
    split at h
    · cases h
    · rename_i hd
      split at h
      · rename_i hw
        obtain ⟨hne, hn, ih⟩ := opsN_sound hg hcf hcn hrest h
        refine ⟨hne, hn, fun {β w act} hr hs hgl hf hdr hnt Q hQ => ?_⟩
        rw [hcons, wpOpsIn_cons]
        unfold wpOpIn
        simp only [hoo, wants_rel hr, hw, Bool.false_eq_true, if_false]
        refine ⟨fun _ _ => trivial, ih (hr.put' VR.undef hd hnt) hs hgl hf (by rw [put_defers]; exact hdr) (by rw [put_size]; exact hnt) fun p hp γ w' act' h1 h2 h3 h4 h5 => hQ p hp γ w' act' h1 h2 h3 h4 (by rw [h5, put_size])⟩
      · rename_i hw
        split at h
        · cases h
        · rename_i vs hvs
          split at h
          · cases h
          · split at h
            · cases h
            · rename_i l hst
              obtain ⟨hne1, hn1⟩ := stepN_n hg hcf hcn hst
              obtain ⟨f1, f2⟩ := flatN_spec h
              have each : ∀ p ∈ l, ∃ x, opsN g cf cn nt all rest { r := put a.r o.dst p.1, s := p.2, d := a.d } = some x ∧ (∀ q ∈ x, q ∈ L) ∧ x ≠ [] ∧ ∀ q ∈ x, p.2.n ≤ q.s.n := fun p hp => by
                obtain ⟨x, h1, h2⟩ := f1 p hp
                obtain ⟨h3, h4, _⟩ := opsN_sound hg hcf hcn hrest h1 (n := n)
                exact ⟨x, h1, h2, h3, h4⟩
              refine ⟨?_, fun q hq => ?_, fun {β w act} hr hs hgl hf hdr hnt Q hQ => ?_⟩
              · obtain ⟨p, hp⟩ := List.exists_mem_of_ne_nil _ hne1
                obtain ⟨x, _, h2, h3, _⟩ := each p hp
                obtain ⟨q, hq⟩ := List.exists_mem_of_ne_nil _ h3
                exact List.ne_nil_of_mem (h2 q hq)
              · obtain ⟨p, hp, x, h1, h2⟩ := f2 q hq
                obtain ⟨x', h1', _, _, h4⟩ := each p hp
                rw [h1] at h1'
                injection h1' with e
                subst e
                exact Nat.le_trans (hn1 p hp) (h4 q h2)
              · rw [hcons, wpOpsIn_cons]
                unfold wpOpIn
                simp only [hoo, wants_rel hr, hw, if_true]
                have hfree : ∀ p ∈ l, Free β a.s p.2 := fun p hp => by
                  obtain ⟨x, _, h2, h3, h4⟩ := each p hp
                  obtain ⟨q, hq⟩ := List.exists_mem_of_ne_nil _ h3
                  exact (hf q (h2 q hq)).le (h4 q hq)
                refine stepN_sound hg hcf hcn hst (vals_rel hgl hr hvs) hs hgl hfree fun p hp γ x w' hx hrel hstep => ?_
                obtain ⟨y, h1, h2, h3, h4⟩ := each p hp
                obtain ⟨_, _, ih⟩ := opsN_sound hg hcf hcn hrest h1 (n := n)
                exact ih ((hr.mono hstep.le).put' hx hd hnt) hrel (hgl.mono hstep.le) (fun q hq => (hf q (h2 q hq)).next hstep) (by rw [put_defers]; exact hdr.mono hstep.le) (by rw [put_size]; exact hnt)
                  fun q hq δ w'' act' k1 k2 k3 k4 k5 => hQ q (h2 q hq) δ w'' act' k1 k2 (hstep.trans k3) k4 (by rw [k5, put_size])

/-- What code's evaluation with outcomes is worth. -/
def GoodN (P : Program) (g : G) (nt : Nat) (c : Code) (a : A) (L : List (X × A)) : Prop :=
  L ≠ [] ∧ (∀ p ∈ L, a.s.n ≤ p.2.s.n) ∧ ∀ {β : Ren} {w : World} {act : Act}, RR β a.r act.tmps → Rel β a.s w → GloOK g β → (∀ p ∈ L, Free β a.s p.2.s) → DR β a.d act.defers → nt ≤ act.tmps.size → ∀ {Q : Exit → Act → World → Prop},
    (∀ p ∈ L, ∀ γ w' act', RR γ p.2.r act'.tmps → Rel γ p.2.s w' → Step β a.s w γ p.2.s w' → DR γ p.2.d act'.defers → act'.tmps.size = act.tmps.size → Q p.1.toExit act' w') → c.wpIn (Wd none) 0 P Q act w

/-- .. and a loop's. -/
def GoodLN (P : Program) (g : G) (nt : Nat) (c : Code) (a : A) (L : List (X × A)) : Prop :=
  L ≠ [] ∧ (∀ p ∈ L, a.s.n ≤ p.2.s.n) ∧ ∀ {β : Ren} {w : World} {act : Act}, RR β a.r act.tmps → Rel β a.s w → GloOK g β → (∀ p ∈ L, Free β a.s p.2.s) → DR β a.d act.defers → nt ≤ act.tmps.size → ∀ {Q : Exit → Act → World → Prop},
    (∀ p ∈ L, ∀ γ w' act', RR γ p.2.r act'.tmps → Rel γ p.2.s w' → Step β a.s w γ p.2.s w' → DR γ p.2.d act'.defers → act'.tmps.size = act.tmps.size → Q p.1.toExit act' w') → LW (Wd none) 0 P Q c act w

theorem GoodN.one {c : Code} {a : A} {p : X × A} (h : Good P g none nt c a p.1 p.2) : GoodN P g nt c a [p] :=
  ⟨by simp, fun q hq => by rw [List.mem_singleton.1 hq]; exact h.1, fun hr hs hgl hf hdr hnt Q hQ => h.2 (ro := none) rfl hr hs hgl (hf p List.mem_cons_self) hdr hnt (hQ p List.mem_cons_self)⟩

theorem thenN_spec {L : List (X × A)} {k : A → Option (List (X × A))} {r : List (X × A)} (h : thenN L k = some r) :
    (∀ p ∈ L, p.1 ≠ .normal → p ∈ r) ∧ (∀ p ∈ L, p.1 = .normal → ∃ x, k p.2 = some x ∧ ∀ q ∈ x, q ∈ r) ∧ ∀ q ∈ r, ∃ p ∈ L, (p.1 ≠ .normal ∧ q = p) ∨ (p.1 = .normal ∧ ∃ x, k p.2 = some x ∧ q ∈ x) := by
  obtain ⟨h1, h2⟩ := flatN_spec h
  refine ⟨fun p hp hn => ?_, fun p hp hn => ?_, fun q hq => ?_⟩
  · obtain ⟨x, hx, hr⟩ := h1 p hp
    obtain ⟨y, a⟩ := p
    cases y with
    | normal => exact absurd rfl hn
    | exit i => simp only [Option.some.injEq] at hx; subst hx; exact hr _ List.mem_cons_self
    | ret => simp only [Option.some.injEq] at hx; subst hx; exact hr _ List.mem_cons_self
  · obtain ⟨x, hx, hr⟩ := h1 p hp
    obtain ⟨y, a⟩ := p
    dsimp only at hn
    subst hn
    exact ⟨x, hx, hr⟩
  · obtain ⟨p, hp, x, hx, hr⟩ := h2 q hq
    refine ⟨p, hp, ?_⟩
    obtain ⟨y, a⟩ := p
    cases y with
    | normal => exact .inr ⟨rfl, x, hx, hr⟩
    | exit i => simp only [Option.some.injEq] at hx; subst hx; exact .inl ⟨by simp, List.mem_singleton.1 hr⟩
    | ret => simp only [Option.some.injEq] at hx; subst hx; exact .inl ⟨by simp, List.mem_singleton.1 hr⟩

/-- Numbers and what is free, of code that goes on. -/
theorem thenN_n {L : List (X × A)} {k : A → Option (List (X × A))} {r : List (X × A)} {s : S} (h : thenN L k = some r) (hne : L ≠ []) (hn : ∀ p ∈ L, s.n ≤ p.2.s.n) (hk : ∀ a x, k a = some x → x ≠ [] ∧ ∀ q ∈ x, a.s.n ≤ q.2.s.n) :
    r ≠ [] ∧ (∀ q ∈ r, s.n ≤ q.2.s.n) ∧ ∀ β : Ren, (∀ q ∈ r, Free β s q.2.s) → ∀ p ∈ L, Free β s p.2.s := by
  obtain ⟨h1, h2, h3⟩ := thenN_spec h
  have to : ∀ p ∈ L, ∃ q ∈ r, p.2.s.n ≤ q.2.s.n := fun p hp => by
    by_cases hp1 : p.1 = .normal
    · obtain ⟨x, hx, hr⟩ := h2 p hp hp1
      obtain ⟨k1, k2⟩ := hk _ _ hx
      obtain ⟨q, hq⟩ := List.exists_mem_of_ne_nil _ k1
      exact ⟨q, hr q hq, k2 q hq⟩
    · exact ⟨p, h1 p hp hp1, Nat.le_refl _⟩
  refine ⟨?_, fun q hq => ?_, fun β hf p hp => ?_⟩
  · obtain ⟨p, hp⟩ := List.exists_mem_of_ne_nil _ hne
    obtain ⟨q, hq, _⟩ := to p hp
    exact List.ne_nil_of_mem hq
  · obtain ⟨p, hp, ⟨_, rfl⟩ | ⟨_, x, hx, hqx⟩⟩ := h3 q hq
    · exact hn _ hp
    · exact Nat.le_trans (hn p hp) ((hk _ _ hx).2 q hqx)
  · obtain ⟨q, hq, hle⟩ := to p hp
    exact (hf q hq).le hle

theorem overN_sound (hg : GOK P g) {cn : CN} (hcn : CSN P g cn) {x : Operand} {ps : Array Tmp} {as bd : Code} {a : A} {L : List (X × A)} (h : overN g cn nt x ps as bd a = some L) : GoodN P g nt (.rangeFunc x ps as bd) a L := by
  unfold overN at h
  split at h
  case h_2 => cases h
  rename_i f first captured s1 mark hx he
  split at h
  case h_2 => cases h
  rename_i f' args s2 hcall
  split at h
  case h_2 => cases h
  rename_i l hl
  have hs2 : (Ev.new s1 (.loop { st := .ready, pend := none, nt := nt, r := a.r, ps := ps, assign := as, body := bd })).n ≤ s2.n := callFn_n hcall
  obtain ⟨hne, hn3, hc⟩ := hcn _ _ _ _ hl
  have hn1 := enterL_n he
  have hnew : s1.n < (Ev.new s1 (.loop { st := .ready, pend := none, nt := nt, r := a.r, ps := ps, assign := as, body := bd })).n := Nat.lt_succ_self _
  obtain ⟨f1, f2⟩ := flatN_spec h
  -- what stands behind each outcome
  have endOf : ∀ p q, overEnd s1.n mark a p = some q → ∃ l, p.2.h.get s1.n = some (.loop l) ∧ l.st ≠ .busy ∧ q.1 = (match l.pend with | none => X.normal | some y => y) ∧
      q.2 = { r := a.r, s := { h := p.2.h.set s1.n (some (.loop { l with st := .exhausted })), n := p.2.n }, d := mark ++ a.d } := by
    intro p q hq
    unfold overEnd at hq
    split at hq
    · rename_i l0 hl0
      split at hq
      · cases hq
      · rename_i hb
        split at hq
        · rename_i hp
          injection hq with hq
          subst hq
          exact ⟨l0, hl0, fun e => hb e, by rw [hp], rfl⟩
        · rename_i z hp
          injection hq with hq
          subst hq
          exact ⟨l0, hl0, fun e => hb e, by rw [hp], rfl⟩
    · cases hq
  have each : ∀ p ∈ l, ∃ q ∈ L, overEnd s1.n mark a p = some q := by
    intro p hp
    obtain ⟨z, hz, hr⟩ := f1 p hp
    split at hz
    · rename_i q hq
      injection hz with hz
      subst hz
      exact ⟨q, hr q List.mem_cons_self, hq⟩
    · cases hz
  have back : ∀ q ∈ L, ∃ p ∈ l, overEnd s1.n mark a p = some q := by
    intro q hq
    obtain ⟨p, hp, z, hz, hr⟩ := f2 q hq
    split at hz
    · rename_i q' hq'
      injection hz with hz
      subst hz
      rw [List.mem_singleton.1 hr]
      exact ⟨p, hp, hq'⟩
    · cases hz
  have sn : ∀ p q, overEnd s1.n mark a p = some q → q.2.s.n = p.2.n := by
    intro p q hq
    obtain ⟨_, _, _, _, e⟩ := endOf p q hq
    rw [e]
  refine ⟨?_, fun q hq => ?_, fun {β w act} hr hs hgl hf hdr hnt Q hQ => wpIn_rangeFunc fun fn _ => ?_⟩
  · obtain ⟨p, hp⟩ := List.exists_mem_of_ne_nil _ hne
    obtain ⟨q, hq, _⟩ := each p hp
    exact List.ne_nil_of_mem hq
  · obtain ⟨p, hp, e⟩ := back q hq
    rw [sn p q e]
    have := hn3 p hp
    omega
  · have hfree : ∀ p ∈ l, Free β a.s p.2 := by
      intro p hp
      obtain ⟨q, hq, e⟩ := each p hp
      exact (hf q hq).le (by rw [sn p q e]; exact Nat.le_refl _)
    obtain ⟨p0, hp0⟩ := List.exists_mem_of_ne_nil _ hne
    have hf' := hfree p0 hp0
    have hn0 := hn3 p0 hp0
    obtain ⟨γ, i, mk, w₁, hent, hrel, hst, hi, hmk⟩ := enterL_sound (P := P) (ro := none) he rfl hs hr hnt ps as bd (hf'.le (by omega)) fn
    obtain ⟨first', cap', hfv, hcv, hev⟩ := (val_rel hgl hr hx).mono hst.le _ _
    have hyv : VR γ (.yield s1.n) (.func (.yield i.blk) #[] #[]) := by simp only [VR]; exact ⟨i, hi, rfl⟩
    have hxs : VRs γ (first ++ [.yield s1.n] ++ captured) (first' ++ [.func (.yield i.blk) #[] #[]] ++ cap') := (hfv.append (VRs.cons hyv VRs.nil)).append hcv
    obtain ⟨args', hrun, hva, hs2e⟩ := ex_callFn (w := w₁) hg hrel hcall hxs (by
      have : R.st (R.enter f' args s2) = s2 := rfl
      rw [this]
      exact (hf'.next hst).le hn0)
    subst hs2e
    refine ⟨i.blk, mk, w₁, { target := .fn (.func f) cap'.toArray, args := first'.toArray ++ #[Value.func (.yield i.blk) #[] #[]] }, w₁, f', args'.toArray, w₁, hent, ?_, fun _ _ => trivial, ?_, fun h => by simp [Wd, Fence.wide] at h, ?_⟩
    · simp [resolve, hev, Deferred.ofValue]
      rfl
    · have : first'.toArray ++ #[Value.func (.yield i.blk) #[] #[]] ++ cap'.toArray = (first' ++ [Value.func (.yield i.blk) #[] #[]] ++ cap').toArray := by simp
      simp only [Go.invoke]
      rw [this]
      exact hrun
    · refine calls_wd ((hc γ w₁ hrel (hgl.mono hst.le) (fun p hp => (hfree p hp).next hst) args' hva).mono ?_)
      rintro e w₃ ⟨p, hp, δ, z, rfl, _, hrel3, hst3⟩
      obtain ⟨q, hq, heq⟩ := each p hp
      obtain ⟨l0, hl0, hbusy, hy, hq2⟩ := endOf p q heq
      obtain ⟨_, j, hj, g0, t0, d0, hh, hrr, hntt, hxt⟩ := hrel3.obj _ _ hl0
      have hj' := hst3.le _ _ hi
      rw [hj] at hj'
      injection hj' with hj'
      subst hj'
      have hend := run_endLoop (P := P) hh (by simpa using hbusy)
      refine ⟨_, _, hend, ?_⟩
      have hlt : j.blk < w₃.heap.size := (Array.getElem?_eq_some_iff.1 hh).1
      obtain ⟨k1, k2⟩ := hrel3.change (o' := .loop { l0 with st := .exhausted }) (w' := w₃.putObj j.blk (.loop { state := .exhausted, pending := l0.pend.map X.toCode, fn := g0, tmps := t0, params := l0.ps, assign := l0.assign, body := l0.body, defers := d0 })) hl0 hj
        ⟨g0, t0, d0, World.putObj_heap_same hlt, hrr, hntt, hxt⟩ World.putObj_size (fun q hq => World.putObj_heap_other hq) ⟨rfl, rfl, rfl⟩
      have hQ' := hQ q hq δ (w₃.putObj j.blk (.loop { state := .exhausted, pending := l0.pend.map X.toCode, fn := g0, tmps := t0, params := l0.ps, assign := l0.assign, body := l0.body, defers := d0 })) { act with defers := mk ++ act.defers }
        (by rw [hq2]; exact hr.mono (hst.le.trans hst3.le)) (by rw [hq2]; exact k1) (by rw [hq2]; exact (hst.trans hst3).trans k2) (by rw [hq2]; exact (hmk.mono hst3.le).append (hdr.mono (hst.le.trans hst3.le))) rfl
      rw [hy] at hQ'
      cases hp : l0.pend with
      | none =>
        rw [hp] at hQ'
        simp only [hp, Option.map_none] at hQ' ⊢
        exact hQ'
      | some z =>
        rw [hp] at hQ'
        simp only [hp, Option.map_some] at hQ' ⊢
        exact X.toCode_wp hQ'

theorem codeN_sound (hg : GOK P g) (hcf : CS P g cf) {cn : CN} (hcn : CSN P g cn) : ∀ (f : Nat) (c : Code) (a : A) (L : List (X × A)), codeN g cf cn nt f c a = some L → GoodN P g nt c a L ∧ ∀ b, c = .loop b → GoodLN P g nt b a L
  | 0, c, a, L, h => by simp [codeN] at h
  | f + 1, c, a, L, h => by
    have ih : ∀ (c : Code) (a : A) (L : List (X × A)), codeN g cf cn nt f c a = some L → GoodN P g nt c a L := fun c a L h => (codeN_sound hg hcf hcn f c a L h).1
    have det : ∀ (c : Code), oneN (code g cf none nt (f + 1) c a) = some L → GoodN P g nt c a L := fun c h => by
      cases hp : code g cf none nt (f + 1) c a with
      | none => rw [hp] at h; cases h
      | some p =>
        rw [hp] at h
        injection h with h
        subst h
        exact GoodN.one (code_sound hg hcf _ _ _ _ _ hp).1
    have one : (∀ b, c ≠ .loop b) → oneN (code g cf none nt (f + 1) c a) = some L → GoodN P g nt c a L ∧ ∀ b, c = .loop b → GoodLN P g nt b a L := fun hn h => ⟨det c h, fun b e => absurd e (hn b)⟩
    cases c with
    | skip => exact one (fun _ => by simp) (by simpa only [codeN] using h)
    | label l => exact one (fun _ => by simp) (by simpa only [codeN] using h)
    | exit i => exact one (fun _ => by simp) (by simpa only [codeN] using h)
    | ret => exact one (fun _ => by simp) (by simpa only [codeN] using h)
    | goto l => exact one (fun _ => by simp) (by simpa only [codeN] using h)
    | rangeFunc x ps as bd =>
      simp only [codeN] at h
      split at h
      · rename_i L' hL
        injection h with h
        subst h
        exact ⟨overN_sound hg hcn hL, fun b e => by cases e⟩
      · exact one (fun _ => by simp) h
    | refuse r => exact one (fun _ => by simp) (by simpa only [codeN] using h)
    | region id l dr =>
      cases dr with
      | true => exact one (fun _ => by simp) (by simpa only [codeN] using h)
      | false =>
        refine ⟨?_, fun b e => by cases e⟩
        simp only [codeN] at h
        split at h
        · split at h
          · rename_i M hM
            injection h with h
            subst h
            obtain ⟨hne, hn, hd⟩ := opsN_sound hg hcf hcn (k := 0) (n := 0) (by simp) hM
            refine ⟨by simpa using hne, fun p hp => ?_, fun {β w act} hr hs hgl hf hdr hnt Q hQ => wpIn_region ?_⟩
            · obtain ⟨q, hq, rfl⟩ := List.mem_map.1 hp
              exact hn q hq
            · have := hd hr hs hgl (fun q hq => hf (.normal, q) (List.mem_map.2 ⟨q, hq, rfl⟩)) hdr hnt (Q := Q) fun q hq => hQ (.normal, q) (List.mem_map.2 ⟨q, hq, rfl⟩)
              simpa using this
          · cases h
        · exact det _ h
    | seq y z =>
      refine ⟨?_, fun b h => by cases h⟩
      simp only [codeN] at h
      split at h
      · rename_i M hM
        obtain ⟨hne, hn, g1⟩ := ih _ _ _ hM
        obtain ⟨t1, t2, _⟩ := thenN_spec h
        obtain ⟨r1, r2, r3⟩ := thenN_n h hne hn fun a x hx => ⟨(ih _ _ _ hx).1, (ih _ _ _ hx).2.1⟩
        refine ⟨r1, r2, fun {β w act} hr hs hgl hf hdr hnt Q hQ => wpIn_seq (g1 hr hs hgl (r3 β hf) hdr hnt fun p hp γ w' act' q1 q2 q3 q4 q5 => ?_)⟩
        by_cases hp1 : p.1 = .normal
        · obtain ⟨x, hx, hr'⟩ := t2 p hp hp1
          rw [hp1]
          exact (ih _ _ _ hx).2.2 q1 q2 (hgl.mono q3.le) (fun q hq => (hf q (hr' q hq)).next q3) q4 (by rw [q5]; exact hnt) fun q hq δ w'' act'' p1 p2 p3 p4 p5 => hQ q (hr' q hq) δ w'' act'' p1 p2 (q3.trans p3) p4 (p5.trans q5)
        · have := hQ p (t1 p hp hp1) γ w' act' q1 q2 q3 q4 q5
          obtain ⟨u, b⟩ := p
          cases u with
          | normal => exact absurd rfl hp1
          | exit i => exact this
          | ret => exact this
      · cases h
    | cond c y z =>
      refine ⟨?_, fun b h => by cases h⟩
      simp only [codeN] at h
      split at h
      · rename_i hc
        obtain ⟨hne, n1, g1⟩ := ih _ _ _ h
        exact ⟨hne, n1, fun {β w act} hr hs hgl hf hdr hnt Q hQ => wpIn_cond_true (by simpa [VR] using val_rel hgl hr hc) (g1 hr hs hgl hf hdr hnt hQ)⟩
      · rename_i hc
        obtain ⟨hne, n1, g1⟩ := ih _ _ _ h
        exact ⟨hne, n1, fun {β w act} hr hs hgl hf hdr hnt Q hQ => wpIn_cond_false (by simpa [VR] using val_rel hgl hr hc) (g1 hr hs hgl hf hdr hnt hQ)⟩
      · cases h
    | block id b =>
      refine ⟨?_, fun b h => by cases h⟩
      simp only [codeN] at h
      split at h
      · rename_i M hM
        injection h with h
        subst h
        obtain ⟨hne, hn, g1⟩ := ih _ _ _ hM
        have hst : ∀ p : X × A, (blockN id p).2 = p.2 := fun p => by
          unfold blockN
          split
          · split <;> rfl
          · rfl
        refine ⟨by simpa using hne, fun q hq => ?_, fun {β w act} hr hs hgl hf hdr hnt Q hQ => wpIn_block (g1 hr hs hgl (fun p hp => ?_) hdr hnt fun p hp γ w' act' q1 q2 q3 q4 q5 => ?_)⟩
        · obtain ⟨p, hp, rfl⟩ := List.mem_map.1 hq
          rw [hst]
          exact hn p hp
        · have := hf (blockN id p) (List.mem_map.2 ⟨p, hp, rfl⟩)
          rwa [hst] at this
        · have := hQ (blockN id p) (List.mem_map.2 ⟨p, hp, rfl⟩) γ w' act' (by rw [hst]; exact q1) (by rw [hst]; exact q2) (by rw [hst]; exact q3) (by rw [hst]; exact q4) q5
          obtain ⟨u, b⟩ := p
          cases u with
          | normal => exact this
          | ret => exact this
          | exit i =>
            by_cases e : i = id
            · simp only [blockN, X.toExit, Exit.inBlock, e, if_true] at this ⊢
              exact this
            · simp only [blockN, X.toExit, Exit.inBlock, e, if_false] at this ⊢
              exact this
      · cases h
    | loop b =>
      have key : GoodLN P g nt b a L := by
        simp only [codeN] at h
        split at h
        · rename_i M hM
          obtain ⟨hne, hn, g1⟩ := ih _ _ _ hM
          obtain ⟨t1, t2, _⟩ := thenN_spec h
          obtain ⟨r1, r2, r3⟩ := thenN_n h hne hn fun a x hx => ⟨((codeN_sound hg hcf hcn f _ _ _ hx).2 b rfl).1, ((codeN_sound hg hcf hcn f _ _ _ hx).2 b rfl).2.1⟩
          refine ⟨r1, r2, fun {β w act} hr hs hgl hf hdr hnt Q hQ => LW.round (g1 hr hs hgl (r3 β hf) hdr hnt fun p hp γ w' act' q1 q2 q3 q4 q5 => ?_)⟩
          by_cases hp1 : p.1 = .normal
          · obtain ⟨x, hx, hr'⟩ := t2 p hp hp1
            rw [hp1]
            exact ((codeN_sound hg hcf hcn f _ _ _ hx).2 b rfl).2.2 q1 q2 (hgl.mono q3.le) (fun q hq => (hf q (hr' q hq)).next q3) q4 (by rw [q5]; exact hnt) fun q hq δ w'' act'' p1 p2 p3 p4 p5 => hQ q (hr' q hq) δ w'' act'' p1 p2 (q3.trans p3) p4 (p5.trans q5)
          · have := hQ p (t1 p hp hp1) γ w' act' q1 q2 q3 q4 q5
            obtain ⟨u, b⟩ := p
            cases u with
            | normal => exact absurd rfl hp1
            | exit i => exact this
            | ret => exact this
        · cases h
      exact ⟨⟨key.1, key.2.1, fun hr hs hgl hf hdr hnt Q hQ => (key.2.2 hr hs hgl hf hdr hnt hQ).loop⟩, fun b' e => by injection e with e; subst e; exact key⟩
    | scope b =>
      refine ⟨?_, fun b h => by cases h⟩
      simp only [codeN] at h
      obtain ⟨hne, n1, g1⟩ := ih _ _ _ h
      refine ⟨hne, n1, fun {β w act} hr hs hgl hf hdr hnt Q hQ => wpIn_scope (g1 hr hs hgl hf hdr hnt fun p hp γ w' act' q1 q2 q3 q4 q5 => ?_)⟩
      have := hQ p hp γ w' act' q1 q2 q3 q4 q5
      obtain ⟨u, b⟩ := p
      cases u <;> exact this
end
end Go.Proofs.YtgfbjbdfckgdjaaGreatDoor.Ev

namespace Go.Proofs.YtgfbjbdfckgdjaaGreatDoor.Ev
open Go.RowKit

def endsN (g : G) (cf : CF) (fuel : Nat) (F : Func) (L : List (X × A)) : Option (List (AV × S)) := flatN L fun p => match p.1 with
  | .exit _ => none
  | _ => match ends g cf fuel F p.2 with
    | some r => some [r]
    | none => none

/-- A call, with its outcomes. -/
def bodyN (g : G) (cf : CF) (cn : CN) (fuel : Nat) (fn : FuncId) (args : List AV) (s : S) : Option (List (AV × S)) := match g.fns.get fn with
  | none => none
  | some F => match F.body with
    | none => none
    | some b => match codeN g cf cn F.ntmps fuel b { r := T.ofList args 0 .e, s := s, d := [] } with
      | none => none
      | some L => endsN g cf fuel F L

/-- Keys that ascend. -/
def ascN (lo : Nat) : List (Nat × AO) → Bool
  | [] => true
  | p :: l => Nat.ble lo p.1 && ascN (p.1 + 1) l

/-- Is a noted object what stands in the outcome number j (its ghost is gh)? -/
def isAt (t : T AO) (gh j : Nat) (p : Nat × AO) : Bool := match p.2 with
  | .amb b cs e o z => Nat.beq b gh && (match cs[j]? with
    | some c => AO.beq (t.get p.1) (some (.row c e o z))
    | none => false)
  | q => AO.beq (t.get p.1) (some q)

def outOk (m : Memo) (gh : Nat) (j : Nat) : List (AV × S) → Bool
  | [] => true
  | (v, t) :: l => AV.beq v m.v && Nat.beq t.n gh && allAt t.h m.old && (m.new.all fun p => isAt t.h gh j p) && outOk m gh (j + 1) l

/-- Does the evaluator say what is noted of a call with several outcomes? (The last number is the ghost's.) -/
def Memo.saysN (g : G) (M : List Memo) (fuel d : Nat) (m : Memo) : Bool := match bodyN g (callM g M fuel d) noCN fuel m.f m.args m.st with
  | some l => match m.m with
    | 0 => false
    | gh + 1 => outOk m gh 0 l && Nat.ble m.n gh && (m.old.all fun p => Nat.blt p.1 m.n) && ascN m.n m.new && m.new.all fun p => Nat.blt p.1 gh
  | none => false

section
variable {P : Program} {g : G} {cf : CF}

theorem bodyN_sound (hg : GOK P g) (hcf : CS P g cf) {cn : CN} (hcn : CSN P g cn) {fuel : Nat} {fn : FuncId} {args : List AV} {s : S} {l : List (AV × S)} (h : bodyN g cf cn fuel fn args s = some l) :
    ∀ β w, Rel β s w → GloOK g β → (∀ p ∈ l, Free β s p.2) → ∀ args', VRs β args args' → Calls P fn args'.toArray w fun e w' => ∃ p ∈ l, EndR β s w p.1 p.2 e w' := by
  unfold bodyN at h
  split at h
  · cases h
  · rename_i F hF
    split at h
    · cases h
    · rename_i b hb
      split at h
      · cases h
      · rename_i L hL
        intro β w hs hgl hf args' hv
        obtain ⟨_, hn, g1⟩ := (codeN_sound hg hcf hcn fuel _ _ _ hL).1
        obtain ⟨f1, f2⟩ := flatN_spec h
        have each : ∀ p ∈ L, ∃ r, ends g cf fuel F p.2 = some r ∧ r ∈ l ∧ (p.1 = .normal ∨ p.1 = .ret) := fun p hp => by
          obtain ⟨x, hx, hr⟩ := f1 p hp
          obtain ⟨u, a⟩ := p
          cases u with
          | exit i => cases hx
          | normal =>
            dsimp only at hx
            split at hx
            · rename_i r he
              injection hx with hx
              subst hx
              exact ⟨r, he, hr r List.mem_cons_self, .inl rfl⟩
            · cases hx
          | ret =>
            dsimp only at hx
            split at hx
            · rename_i r he
              injection hx with hx
              subst hx
              exact ⟨r, he, hr r List.mem_cons_self, .inr rfl⟩
            · cases hx
        have en : ∀ p ∈ L, ∀ v t, ends g cf fuel F p.2 = some (v, t) → ∃ s' k, leave g cf fuel p.2.d p.2.s = some s' ∧ results g p.2.r s' F.results.toList = some k ∧ v = tup k ∧ t = s' ∧ p.2.s.n ≤ t.n := fun p hp v t he => by
          unfold ends at he
          split at he
          · rename_i s' hlv
            split at he
            · rename_i k hk
              injection he with he
              injection he with e1 e2
              subst e1; subst e2
              exact ⟨s', k, hlv, hk, rfl, rfl, (leave_sound hg hcf hlv).1⟩
            · cases he
          · cases he
        refine callsIn_wide.1 (callsIn_of_wp_marks (hg.fns _ _ hF) hb trivial (g1 (act := { tmps := args'.toArray ++ Array.replicate (F.ntmps - args'.toArray.size) Go.undef, defers := [] }) (RR.enter hv _) hs hgl (fun p hp => ?_) rfl ?_ fun p hp γ w' act' q1 q2 q3 q4 q5 => ?_))
        · obtain ⟨⟨v, t⟩, he, hl, _⟩ := each p hp
          obtain ⟨_, _, _, _, _, _, hle⟩ := en p hp v t he
          exact (hf _ hl).le hle
        · simp; omega
        · obtain ⟨⟨v, t⟩, he, hl, hx⟩ := each p hp
          obtain ⟨s', k, hlv, hk, rfl, rfl, hle⟩ := en p hp v t he
          obtain ⟨n2, g2⟩ := leave_sound hg hcf hlv
          have key : LeavesInM Fence.wide 0 P F act'.tmps (fun e w' => ∃ p ∈ l, EndR β s w p.1 p.2 e w') act'.defers .returning w' := by
            refine g2 q4 q2 (hgl.mono q3.le) ((hf _ hl).next q3) fun δ w'' p1 p2 => ?_
            obtain ⟨y, hy, hvy⟩ := run_results_all hg p1 (hgl.mono (q3.le.trans p2.le)) (q1.mono p2.le) hk
            exact ⟨y, hy, _, hl, δ, y, rfl, hvy, p1, q3.trans p2⟩
          rcases hx with hx | hx
          · rw [hx]; exact key
          · rw [hx]; exact key

theorem setAll_other : ∀ {l : List (Nat × AO)} {lo : Nat}, ascN lo l = true → ∀ (h : T AO) (b : Nat), b < lo → (setAll l h).get b = h.get b
  | [], lo, _, h, b, _ => rfl
  | p :: l, lo, ha, h, b, hb => by
    simp only [ascN, Bool.and_eq_true] at ha
    have h1 := Nat.le_of_ble_eq_true ha.1
    show (setAll l _).get b = _
    rw [setAll_other ha.2 _ b (by omega), T.get_set, if_neg (by omega)]

theorem setAll_mem : ∀ {l : List (Nat × AO)} {lo : Nat}, ascN lo l = true → ∀ (h : T AO), ∀ p ∈ l, (setAll l h).get p.1 = some p.2
  | [], _, _, _, p, hp => by cases hp
  | q :: l, lo, ha, h, p, hp => by
    simp only [ascN, Bool.and_eq_true] at ha
    show (setAll l _).get p.1 = _
    rcases List.mem_cons.1 hp with rfl | hp
    · rw [setAll_other ha.2 _ p.1 (by omega), T.get_set, if_pos rfl]
    · exact setAll_mem ha.2 _ p hp

theorem outOk_spec {m : Memo} {gh : Nat} : ∀ {l : List (AV × S)} {j : Nat}, outOk m gh j l = true → ∀ p ∈ l, ∃ i, p.1 = m.v ∧ p.2.n = gh ∧ (∀ q ∈ m.old, p.2.h.get q.1 = some q.2) ∧ ∀ q ∈ m.new, isAt p.2.h gh i q = true
  | [], _, _, p, hp => by cases hp
  | (v, t) :: l, j, h, p, hp => by
    simp only [outOk, Bool.and_eq_true] at h
    obtain ⟨⟨⟨⟨h1, h2⟩, h3⟩, h4⟩, h5⟩ := h
    rcases List.mem_cons.1 hp with rfl | hp
    · exact ⟨j, AV.beq_eq _ _ h1, Nat.eq_of_beq_eq_true h2, allAt_spec h3, fun q hq => List.all_eq_true.1 h4 q hq⟩
    · exact outOk_spec h5 p hp

/-- WHAT IS NOTED OF A CALL WITH SEVERAL OUTCOMES IS RIGHT. -/
theorem Memo.okN (hg : GOK P g) {M : List Memo} (hM : ∀ m ∈ M, MemoOK P g m) {fuel d : Nat} {m : Memo} (h : m.saysN g M fuel d = true) : MemoOK P g m := by
  unfold Memo.saysN at h
  split at h
  · rename_i l hl
    split at h
    · cases h
    · rename_i gh hm
      simp only [Bool.and_eq_true] at h
      obtain ⟨⟨⟨⟨h1, h2⟩, h3⟩, h4⟩, h5⟩ := h
      have h2 := Nat.le_of_ble_eq_true h2
      have hold : ∀ p ∈ m.old, p.1 < m.n := fun p hp => Nat.le_of_ble_eq_true (List.all_eq_true.1 h3 p hp)
      have hnew : ∀ p ∈ m.new, p.1 < gh := fun p hp => Nat.le_of_ble_eq_true (List.all_eq_true.1 h5 p hp)
      have asc_le : ∀ {l : List (Nat × AO)} {lo : Nat}, ascN lo l = true → ∀ p ∈ l, lo ≤ p.1 := by
        intro l
        induction l with
        | nil => intro lo _ p hp; cases hp
        | cons q l ih =>
          intro lo ha p hp
          simp only [ascN, Bool.and_eq_true] at ha
          have h1 := Nat.le_of_ble_eq_true ha.1
          rcases List.mem_cons.1 hp with rfl | hp
          · exact h1
          · have := ih ha.2 p hp; omega
      have hlo := asc_le h4
      refine ⟨by omega, hold, fun p hp => ⟨hlo p hp, by have := hnew p hp; omega⟩, fun β w hs hgl hf args' hv => ?_⟩
      have ho := outOk_spec h1
      refine (bodyN_sound hg (callM_sound hg hM fuel d) noCN_sound hl β w hs hgl (fun p hp => ?_) args' hv).mono ?_
      · obtain ⟨_, _, e, _⟩ := ho p hp
        intro b b1 b2
        exact hf b b1 (by omega)
      · rintro e w' ⟨p, hp, γ, x, rfl, hx, hrel, hstep⟩
        obtain ⟨j, e1, e2, e3, e4⟩ := ho p hp
        have hn : γ gh = none := by
          cases hb : γ gh with
          | none => rfl
          | some i =>
            rcases hstep.dom gh i hb with h6 | h6
            · rw [hf gh h2 (by omega)] at h6; cases h6
            · omega
        have hle := upd_le (i := ⟨0, 0, 0, j, 0⟩) hn
        have hgg : upd γ gh ⟨0, 0, 0, j, 0⟩ gh = some ⟨0, 0, 0, j, 0⟩ := upd_same ..
        have hne : ∀ b, b ≠ gh → upd γ gh ⟨0, 0, 0, j, 0⟩ b = γ b := fun b hb => by unfold upd; rw [if_neg hb]
        -- what stands in the outcome where a noted object stands
        have was : ∀ q ∈ m.new, ∃ o, p.2.h.get q.1 = some o ∧ ∀ i, OR γ i w' o → OR (upd γ gh ⟨0, 0, 0, j, 0⟩) i w' q.2 := fun q hq => by
          have h7 := e4 q hq
          unfold isAt at h7
          split at h7
          · rename_i b cs e o z hq2
            simp only [Bool.and_eq_true] at h7
            have hb := Nat.eq_of_beq_eq_true h7.1
            subst hb
            have h8 := h7.2
            split at h8
            · rename_i c hc
              refine ⟨_, AO.beq_eq h8, fun i hi => ?_⟩
              rw [hq2]
              obtain ⟨cs', k1, k2, k3⟩ := hi
              exact ⟨_, c, hgg, hc, cs', k1, k2.mono hle _ _, k3⟩
            · cases h8
          · exact ⟨_, AO.beq_eq h7, fun i hi => hi.mono hle⟩
        have hget : ∀ b o, (setAll m.new p.2.h).get b = some o → b ≠ gh ∧ ∃ o', p.2.h.get b = some o' ∧ ∀ i, OR γ i w' o' → OR (upd γ gh ⟨0, 0, 0, j, 0⟩) i w' o := fun b o hb => by
          rcases setAll_get _ _ _ _ hb with h6 | h6
          · obtain ⟨o', k1, k2⟩ := was _ h6
            have := hnew _ h6
            exact ⟨by dsimp only at this; omega, o', k1, k2⟩
          · have := (hrel.obj b o h6).1
            exact ⟨by omega, o, h6, fun i hi => hi.mono hle⟩
        refine ⟨upd γ gh ⟨0, 0, 0, j, 0⟩, x, { h := setAll m.new p.2.h, n := m.m }, rfl, by rw [← e1]; exact hx.mono hle _ _, ⟨fun b o hb => ?_, fun b c o q i k hb hc hi hk => ?_⟩, ⟨hstep.le.trans hle, by show m.n ≤ m.m; omega, hstep.size, hstep.keep, fun b o i hb hi => ?_, fun b i hb => ?_, hstep.env⟩, rfl, fun q hq => ?_, setAll_mem h4 _⟩
        · obtain ⟨n1, o', k1, k2⟩ := hget b o hb
          obtain ⟨k3, i, k4, k5⟩ := hrel.obj b o' k1
          exact ⟨by show b < m.m; omega, i, by rw [hne b n1]; exact k4, k2 i k5⟩
        · obtain ⟨n1, o', k1, _⟩ := hget b o hb
          obtain ⟨n2, q', l1, _⟩ := hget c q hc
          rw [hne b n1] at hi
          rw [hne c n2] at hk
          exact hrel.inj b c o' q' i k k1 l1 hi hk
        · obtain ⟨n1, o', k1, _⟩ := hget b o hb
          rw [hne b n1] at hi
          exact hstep.old b o' i k1 hi
        · by_cases e : b = gh
          · subst e; exact .inr ⟨h2, by show b < m.m; omega⟩
          · rw [hne b e] at hb
            rcases hstep.dom b i hb with h6 | h6
            · exact .inl h6
            · exact .inr ⟨h6.1, by show b < m.m; omega⟩
        · show (setAll m.new p.2.h).get q.1 = some q.2
          rw [setAll_other h4 _ _ (hold q hq)]
          exact e3 q hq
  · cases h
end
end Go.Proofs.YtgfbjbdfckgdjaaGreatDoor.Ev

namespace Go.Proofs.YtgfbjbdfckgdjaaGreatDoor.Ev
open Go.RowKit

/-- The row that it is, if the ghost says j. -/
def pickA (j : Nat) : AO → AO
  | .amb b cs e o z => match cs[j]? with
    | some c => .row c e o z
    | none => .amb b cs e o z
  | q => q

def Memo.pick (m : Memo) (j : Nat) : Memo := { m with old := m.old.map fun p => (p.1, pickA j p.2) }

def ambOk (gh k : Nat) : AO → Bool
  | .amb b cs _ _ _ => Nat.beq b gh && Nat.beq cs.length k
  | _ => true
def isAmb : AO → Bool
  | .amb _ _ _ _ _ => true
  | _ => false

def Memo.splitOk (m : Memo) (gh k : Nat) : Bool := ascN 0 m.old && (m.old.all fun p => ambOk gh k p.2) && m.old.any fun p => isAmb p.2

section
variable {P : Program} {g : G}

/-- A NOTED CALL THAT LOOKS AT ROWS THAT ARE ONE OF SEVERAL IS RIGHT if it is for each of them. -/
theorem Memo.okSplit {m : Memo} {gh k : Nat} (hz : 0 < k) (h : m.splitOk gh k = true) (hk : ∀ j, j < k → MemoOK P g (m.pick j)) : MemoOK P g m := by
  unfold Memo.splitOk at h
  simp only [Bool.and_eq_true] at h
  obtain ⟨⟨h1, h2⟩, h3⟩ := h
  obtain ⟨q, hq, hamb⟩ := List.any_eq_true.1 h3
  have hall : ∀ p ∈ m.old, ∀ b cs e o z, p.2 = .amb b cs e o z → b = gh ∧ cs.length = k := fun p hp b cs e o z hp2 => by
    have h4 := List.all_eq_true.1 h2 p hp
    rw [hp2] at h4
    simp only [ambOk, Bool.and_eq_true] at h4
    exact ⟨Nat.eq_of_beq_eq_true h4.1, Nat.eq_of_beq_eq_true h4.2⟩
  have hget : ∀ p ∈ m.old, m.st.h.get p.1 = some p.2 := fun p hp => setAll_mem h1 _ p hp
  have hin : ∀ b o, m.st.h.get b = some o → (b, o) ∈ m.old := fun b o hb => by
    rcases setAll_get _ _ _ _ hb with h4 | h4
    · exact h4
    · simp [T.get] at h4
  have hinj : ∀ j b o, (m.pick j).st.h.get b = some o → ∃ o', (b, o') ∈ m.old ∧ o = pickA j o' := fun j b o hb => by
    rcases setAll_get _ _ _ _ hb with h4 | h4
    · obtain ⟨p, hp, e⟩ := List.mem_map.1 h4
      injection e with e1 e2
      exact ⟨p.2, by rw [← e1]; exact hp, e2.symm⟩
    · simp [T.get] at h4
  have ascm : ∀ j (l : List (Nat × AO)) (lo : Nat), ascN lo l = true → ascN lo (l.map fun p => (p.1, pickA j p.2)) = true := by
    intro j l
    induction l with
    | nil => intro lo h; exact h
    | cons p l ih =>
      intro lo h
      simp only [ascN, Bool.and_eq_true] at h
      simp only [List.map_cons, ascN, Bool.and_eq_true]
      exact ⟨h.1, ih _ h.2⟩
  have hputj : ∀ j p, p ∈ m.old → (m.pick j).st.h.get p.1 = some (pickA j p.2) := fun j p hp =>
    setAll_mem (ascm j _ _ h1) .e (p.1, pickA j p.2) (List.mem_map.2 ⟨p, hp, rfl⟩)
  -- there is one
  have hk0 : ∀ (β : Ren) (w : World), Rel β m.st w → ∃ j i0, j < k ∧ β gh = some i0 ∧ i0.xtra = j := fun β w hs => by
    obtain ⟨_, i, hi, hor⟩ := hs.obj q.1 q.2 (hget q hq)
    obtain ⟨qb, qo⟩ := q
    cases qo with
    | amb b cs e o z =>
      obtain ⟨i0, c, k1, k2, _⟩ := hor
      obtain ⟨rfl, k3⟩ := hall _ hq b cs e o z rfl
      exact ⟨i0.xtra, i0, by rw [← k3]; exact (List.getElem?_eq_some_iff.1 k2).1, k1, rfl⟩
    | _ => cases hamb
  have hm0 := hk 0 hz
  have hold : ∀ p ∈ m.old, p.1 < m.n := fun p hp => hm0.old (p.1, pickA 0 p.2) (List.mem_map.2 ⟨p, hp, rfl⟩)
  refine ⟨hm0.le, hold, hm0.new, fun β w hs hgl hf args' hv => ?_⟩
  obtain ⟨j, i0, hj, hg0, hx0⟩ := hk0 β w hs
  have to : ∀ {γ : Ren} {i : Info} {v : World} {o : AO}, (∃ p ∈ m.old, p.2 = o) → γ gh = some i0 → (OR γ i v o → OR γ i v (pickA j o)) ∧ (OR γ i v (pickA j o) → OR γ i v o) := fun {γ i v o} ho hγ => by
    obtain ⟨p, hp, e⟩ := ho
    cases o with
    | amb b cs e' o' z =>
      obtain ⟨rfl, hlen⟩ := hall p hp b cs e' o' z e
      have hc : cs[j]? = some (cs[j]'(by omega)) := List.getElem?_eq_getElem _
      constructor
      · rintro ⟨i1, c, k1, k2, r⟩
        rw [hγ] at k1
        injection k1 with k1
        subst k1
        rw [hx0] at k2
        simp only [pickA, k2]
        exact r
      · intro r
        simp only [pickA, hc] at r
        exact ⟨i0, _, hγ, by rw [hx0]; exact hc, r⟩
    | _ => exact ⟨id, id⟩
  have hrel : Rel β (m.pick j).st w := ⟨fun b o hb => by
      obtain ⟨o', h4, rfl⟩ := hinj j b o hb
      obtain ⟨k1, i, k2, k3⟩ := hs.obj b o' (hget _ h4)
      exact ⟨k1, i, k2, (to ⟨_, h4, rfl⟩ hg0).1 k3⟩,
    fun b c o p i x hb hc => by
      obtain ⟨o', h4, _⟩ := hinj j b o hb
      obtain ⟨p', h5, _⟩ := hinj j c p hc
      exact hs.inj b c o' p' i x (hget _ h4) (hget _ h5)⟩
  refine ((hk j hj).call β w hrel hgl hf args' hv).mono ?_
  rintro e w' ⟨γ, x, t, rfl, hx, hrel2, hstep, htn, hto, htw⟩
  have hγ : γ gh = some i0 := hstep.le _ _ hg0
  have hto' : ∀ p ∈ m.old, t.h.get p.1 = some (pickA j p.2) := fun p hp => hto (p.1, pickA j p.2) (List.mem_map.2 ⟨p, hp, rfl⟩)
  have hg : ∀ b o, (setAll m.old t.h).get b = some o → ∃ o', t.h.get b = some o' ∧ ∀ i, OR γ i w' o' → OR γ i w' o := fun b o hb => by
    rcases setAll_get _ _ _ _ hb with h4 | h4
    · exact ⟨_, hto' _ h4, fun i hi => (to ⟨_, h4, rfl⟩ hγ).2 hi⟩
    · exact ⟨o, h4, fun i hi => hi⟩
  refine ⟨γ, x, { h := setAll m.old t.h, n := t.n }, rfl, hx, ⟨fun b o hb => ?_, fun b c o q i y hb hc => ?_⟩, ⟨hstep.le, hstep.n, hstep.size, fun b hb hn => hstep.keep b hb fun c o i hc hi => ?_, fun b o i hb hi hlt => ?_, hstep.dom, hstep.env⟩, htn, setAll_mem h1 _, fun p hp => ?_⟩
  · obtain ⟨o', k1, k2⟩ := hg b o hb
    obtain ⟨k3, i, k4, k5⟩ := hrel2.obj b o' k1
    exact ⟨k3, i, k4, k2 i k5⟩
  · obtain ⟨o', k1, _⟩ := hg b o hb
    obtain ⟨q', l1, _⟩ := hg c q hc
    exact hrel2.inj b c o' q' i y k1 l1
  · obtain ⟨o', h4, _⟩ := hinj j c o hc
    exact hn c o' i (hget _ h4) hi
  · obtain ⟨o', k1, _⟩ := hg b o hb
    obtain ⟨c, p, y, h4, h5, h6⟩ := hstep.old b o' i k1 hi hlt
    obtain ⟨p', h7, _⟩ := hinj j c p h4
    exact ⟨c, p', y, hget _ h7, h5, h6⟩
  · have h4 := (hm0.new p hp).1
    have : ∀ (l : List (Nat × AO)) (h : T AO) (b : Nat), (∀ q ∈ l, q.1 ≠ b) → (setAll l h).get b = h.get b := by
      intro l
      induction l with
      | nil => intro h b _; rfl
      | cons q l ih =>
        intro h b hb
        show (setAll l _).get b = _
        rw [ih _ b fun x hx => hb x (List.mem_cons_of_mem _ hx), T.get_set, if_neg (fun e => hb q List.mem_cons_self e.symm)]
    show (setAll m.old t.h).get p.1 = some p.2
    rw [this _ _ _ fun x hx e => by have := hold x hx; have h5 : m.n ≤ p.1 := h4; omega]
    exact htw p hp
end
end Go.Proofs.YtgfbjbdfckgdjaaGreatDoor.Ev

namespace Go.Proofs.YtgfbjbdfckgdjaaGreatDoor.Ev
open Go.RowKit

/-- What is never written. -/
def AO.fixed : AO → Bool
  | .anyInt => true
  | .tab _ _ => true
  | _ => false

theorem OR.fixed_same {β γ : Ren} {i : Info} {w w' : World} {o : AO} (hf : o.fixed = true) (h : OR β i w o) (k : OR γ i w' o) : w'.heap[i.blk]? = w.heap[i.blk]? := by
  cases o with
  | anyInt => exact OR.anyInt_same h k
  | tab _ _ => exact OR.tab_same h k
  | row _ _ _ _ => simp [AO.fixed] at hf
  | map _ _ => simp [AO.fixed] at hf
  | lit _ => simp [AO.fixed] at hf
  | ro _ _ => simp [AO.fixed] at hf
  | loop _ => simp [AO.fixed] at hf
  | dfr _ => simp [AO.fixed] at hf
  | iter _ _ _ _ => simp [AO.fixed] at hf
  | amb _ _ _ _ _ => simp [AO.fixed] at hf
  | win _ _ _ => simp [AO.fixed] at hf

/-- The variables' numbers, and what they are. -/
def gloV : List (Nat × AO) → Nat → T Nat → T Nat
  | [], _, t => t
  | p :: l, n, t => gloV l (n + 1) (t.set p.1 (some n))
def objV : List (Nat × AO) → Nat → T AO → T AO
  | [], _, t => t
  | p :: l, n, t => objV l (n + 1) (t.set n (some p.2))

theorem gloV_get : ∀ (l : List (Nat × AO)) (n : Nat) (t : T Nat) (x b : Nat), (gloV l n t).get x = some b → (∃ (j : Nat) (o : AO), l[j]? = some (x, o) ∧ b = n + j) ∨ t.get x = some b
  | [], _, _, _, _, h => .inr h
  | p :: l, n, t, x, b, h => by
    rcases gloV_get l (n + 1) _ x b h with ⟨j, o, h1, h2⟩ | h1
    · exact .inl ⟨j + 1, o, by simpa using h1, by omega⟩
    · rw [T.get_set] at h1
      split at h1
      · rename_i e
        injection h1 with h1
        exact .inl ⟨0, p.2, by subst e; rfl, by omega⟩
      · exact .inr h1

theorem objV_get : ∀ (l : List (Nat × AO)) (n : Nat) (t : T AO) (b : Nat) (o : AO), (objV l n t).get b = some o → (∃ (j x : Nat), l[j]? = some (x, o) ∧ b = n + j) ∨ t.get b = some o
  | [], _, _, _, _, h => .inr h
  | p :: l, n, t, b, o, h => by
    rcases objV_get l (n + 1) _ b o h with ⟨j, x, h1, h2⟩ | h1
    · exact .inl ⟨j + 1, x, by simpa using h1, by omega⟩
    · rw [T.get_set] at h1
      split at h1
      · rename_i e
        injection h1 with h1
        exact .inl ⟨0, p.1, by subst h1; rfl, by omega⟩
      · exact .inr h1

/-- The program, its variables V, and the library's search, if it is known (its variable stands first then). -/
def ofProgV (P : Program) (V : List (Nat × AO)) (fi : Option FuncId) : G := { ofProg P with glo := gloV V 0 .e, ix := fi }
def s0V (V : List (Nat × AO)) : S := { h := objV V 0 .e, n := V.length }

/-- All of them stand at the end. -/
def stillV (t : S) : List (Nat × AO) → Nat → Bool
  | [], _ => true
  | p :: l, n => AO.beq (t.h.get n) (some p.2) && p.2.fixed && stillV t l (n + 1)

theorem stillV_get {t : S} : ∀ (l : List (Nat × AO)) (n : Nat), stillV t l n = true → ∀ j x o, l[j]? = some (x, o) → t.h.get (n + j) = some o ∧ o.fixed = true
  | [], _, _, j, x, o, h => by simp at h
  | p :: l, n, hst, j, x, o, h => by
    simp only [stillV, Bool.and_eq_true] at hst
    cases j with
    | zero =>
      simp only [List.getElem?_cons_zero, Option.some.injEq] at h
      subst h
      exact ⟨AO.beq_eq hst.1.1, hst.1.2⟩
    | succ j =>
      simp only [List.getElem?_cons_succ] at h
      have := stillV_get l (n + 1) hst.2 j x o h
      rwa [show n + (j + 1) = n + 1 + j by omega]

def apartV : List (Nat × AO) → Bool
  | [] => true
  | p :: l => (l.all fun q => !Nat.beq q.1 p.1) && apartV l

theorem apartV_get : ∀ (l : List (Nat × AO)), apartV l = true → ∀ (i j x : Nat) (o q : AO), l[i]? = some (x, o) → l[j]? = some (x, q) → i = j
  | [], _, i, _, _, _, _, h, _ => by simp at h
  | p :: l, ha, i, j, x, o, q, h, k => by
    simp only [apartV, Bool.and_eq_true] at ha
    have hne : ∀ (m : Nat) (y : Nat × AO), l[m]? = some y → y.1 ≠ p.1 := fun m y hm e => by
      have := List.all_eq_true.1 ha.1 y (List.mem_of_getElem? hm)
      rw [e] at this
      simp at this
    cases i with
    | zero =>
      cases j with
      | zero => rfl
      | succ j =>
        simp only [List.getElem?_cons_zero, Option.some.injEq, List.getElem?_cons_succ] at h k
        subst h
        exact absurd rfl (hne j (x, q) k)
    | succ i =>
      cases j with
      | zero =>
        simp only [List.getElem?_cons_zero, Option.some.injEq, List.getElem?_cons_succ] at h k
        subst k
        exact absurd rfl (hne i (x, o) h)
      | succ j =>
        simp only [List.getElem?_cons_succ] at h k
        rw [apartV_get l ha.2 i j x o q h k]

def saysTrueV (P : Program) (V : List (Nat × AO)) (fi : Option FuncId) (M : List Memo) (fuel d : Nat) (f : FuncId) : Bool := match callM (ofProgV P V fi) M fuel d (.fn f []) (s0V V) with
  | some (.bool true, t) => stillV t V 0 && apartV V
  | _ => false

/-- The search is what the library's words say, where it is known. -/
def IxOK (P : Program) (V : List (Nat × AO)) (fi : Option FuncId) : Prop := ∀ f, fi = some f → ∃ gl, V[0]? = some (gl, .anyInt) ∧ ∀ (l sub : List UInt8) (w : World) (m : Int) (e : TypeId) (fz : Nat × Nat), l.length < 4294967281 → w.heap[gl]? = some (.cells #[.int .i64 m] e fz) →
  Calls P f #[.string ⟨l.toArray⟩, .string ⟨sub.toArray⟩] w fun x w' => x = .returned (.int .i64 (Lib.index l sub)) ∧ w' = w

theorem gloV_first : ∀ (l : List (Nat × AO)) (n : Nat) (t : T Nat) (x b : Nat), t.get x = some b → (∀ (j : Nat) (y : Nat × AO), l[j]? = some y → y.1 ≠ x) → (gloV l n t).get x = some b
  | [], _, _, _, _, h, _ => h
  | p :: l, n, t, x, b, h, hn => by
    refine gloV_first l (n + 1) _ x b ?_ (fun j y hj => hn (j + 1) y (by simpa using hj))
    rw [T.get_set, if_neg (fun e => hn 0 p rfl e.symm)]
    exact h

theorem gok_ofProgV {P : Program} (hm : P.follows .mixedOrders = true) {V : List (Nat × AO)} (ha : apartV V = true) {fi : Option FuncId} (hix : IxOK P V fi) : GOK P (ofProgV P V fi) :=
  let h := gok_ofProg hm
  { prog := h.prog, fns := h.fns, tys := h.tys, mixed := h.mixed, ix := fun fj hj => by
      obtain ⟨gl, h1, h2⟩ := hix fj hj
      refine ⟨gl, ?_, h2⟩
      cases V with
      | nil => simp at h1
      | cons p l =>
        simp only [List.getElem?_cons_zero, Option.some.injEq] at h1
        subst h1
        refine gloV_first l 1 _ gl 0 (by rw [T.get_set, if_pos rfl]) (fun j y hj e => ?_)
        have := apartV_get _ ha 0 (j + 1) gl .anyInt y.2 rfl (by simpa [← e] using hj)
        omega }

theorem endV {P : Program} {V : List (Nat × AO)} {fi : Option FuncId} {f : FuncId} {t : S} (hap : apartV V = true) (hst : stillV t V 0 = true)
    (hcall : ∀ β w, Rel β (s0V V) w → GloOK (ofProgV P V fi) β → Free β (s0V V) t → ∀ args', VRs β [] args' → Calls P f args'.toArray w (EndR β (s0V V) w (.bool true) t)) (w : World)
    (hw : ∀ (j x : Nat) (o : AO), V[j]? = some (x, o) → ∃ i : Info, i.blk = x ∧ i.off = 0 ∧ ∀ β, OR β i w o) :
    Calls P f #[] w fun x w' => x = .returned (.bool true) ∧ Below w.heap.size w w' := by
  have hex : ∀ j : Nat, ∃ i : Info, ∀ (x : Nat) (o : AO), V[j]? = some (x, o) → i.blk = x ∧ i.off = 0 ∧ ∀ β, OR β i w o := fun j => by
    cases hv : V[j]? with
    | none => exact ⟨⟨0, 0, 0, 0, 0⟩, fun x o h => by cases h⟩
    | some p =>
      obtain ⟨i, h1⟩ := hw j p.1 p.2 (by rw [hv])
      refine ⟨i, fun x o h => ?_⟩
      injection h with h
      subst h
      exact h1
  obtain ⟨I, hI⟩ := Classical.skolem.1 hex
  have hob : ∀ b o, (s0V V).h.get b = some o → ∃ x, V[b]? = some (x, o) := by
    intro b o hb
    rcases objV_get V 0 .e b o hb with ⟨j, x, h1, h2⟩ | h1
    · exact ⟨x, by rw [h2, Nat.zero_add]; exact h1⟩
    · simp [T.get] at h1
  have hlt : ∀ b y, V[b]? = some y → b < V.length := fun b y hb => (List.getElem?_eq_some_iff.1 hb).1
  have hs : Rel (fun b => if b < V.length then some (I b) else none) (s0V V) w := ⟨fun b o hb => by
    obtain ⟨x, hx⟩ := hob b o hb
    exact ⟨hlt b _ hx, I b, by rw [if_pos (hlt b _ hx)], (hI b x o hx).2.2 _⟩, fun b c o p x y hb hc' hx hy e => by
    obtain ⟨u, hu⟩ := hob b o hb
    obtain ⟨v, hv⟩ := hob c p hc'
    rw [if_pos (hlt b _ hu)] at hx
    rw [if_pos (hlt c _ hv)] at hy
    injection hx with hx
    injection hy with hy
    subst hx; subst hy
    rw [(hI b u o hu).1, (hI c v p hv).1] at e
    subst e
    exact apartV_get V hap b c u o p hu hv⟩
  refine (hcall _ w hs (fun x b hb => ?_) (fun b h1 h2 => ?_) [] VRs.nil).mono ?_
  · rcases gloV_get V 0 .e x b hb with ⟨j, o, h1, h2⟩ | h1
    · have : b = j := by omega
      subst this
      exact ⟨I b, by rw [if_pos (hlt b _ h1)], (hI b x o h1).1, (hI b x o h1).2.1⟩
    · simp [T.get] at h1
  · have : ¬ b < V.length := by unfold s0V at h1; dsimp only at h1; omega
    simp [this]
  · rintro e' w' ⟨γ, x, rfl, hx, hrel, hstp⟩
    simp only [VR] at hx
    subst hx
    refine ⟨rfl, hstp.env.1, hstp.env.2.1, hstp.env.2.2, hstp.size, fun k hk => ?_⟩
    by_cases hkg : ∃ (j x : Nat) (o : AO), V[j]? = some (x, o) ∧ x = k
    · obtain ⟨j, x, o, h1, rfl⟩ := hkg
      obtain ⟨ht, hfx⟩ := stillV_get V 0 hst j x o h1
      rw [Nat.zero_add] at ht
      obtain ⟨_, i, hi, hor'⟩ := hrel.obj _ _ ht
      have := hstp.le j (I j) (by rw [if_pos (hlt j _ h1)])
      rw [hi] at this
      injection this with this
      subst this
      have hx := (hI j x o h1).1
      have := OR.fixed_same hfx ((hI j x o h1).2.2 γ) hor'
      rw [hx] at this
      exact this
    · refine hstp.keep k hk fun b o j hb hj ej => ?_
      obtain ⟨x, hx⟩ := hob b o hb
      rw [if_pos (hlt b _ hx)] at hj
      injection hj with hj
      subst hj
      rw [(hI b x o hx).1] at ej
      exact hkg ⟨b, x, o, hx, ej⟩

/-- A CALL WITHOUT ARGUMENTS OF WHICH THE EVALUATOR SAYS THAT IT RETURNS TRUE DOES SO, in whatever world in which the variables are what V says; what there was stands. -/
theorem callsV_true {P : Program} (hm : P.follows .mixedOrders = true) {V : List (Nat × AO)} {fi : Option FuncId} (hix : IxOK P V fi) {M : List Memo} (hM : ∀ m ∈ M, MemoOK P (ofProgV P V fi) m) {fuel d : Nat} {f : FuncId}
    (h : saysTrueV P V fi M fuel d f = true) (w : World) (hw : ∀ (j x : Nat) (o : AO), V[j]? = some (x, o) → ∃ i : Info, i.blk = x ∧ i.off = 0 ∧ ∀ β, OR β i w o) :
    Calls P f #[] w fun x w' => x = .returned (.bool true) ∧ Below w.heap.size w w' := by
  unfold saysTrueV at h
  split at h
  · rename_i t hc
    simp only [Bool.and_eq_true] at h
    obtain ⟨hst, hap⟩ := h
    exact endV hap hst (callM_sound (gok_ofProgV hm hap hix) hM fuel d (.fn f []) (s0V V) _ _ hc).2 w hw
  · cases h

end Go.Proofs.YtgfbjbdfckgdjaaGreatDoor.Ev

namespace Go.Proofs.YtgfbjbdfckgdjaaGreatDoor.Ev
open Go.RowKit

/-- A call that was evaluated by itself: what it looks at; what it gives; what stands then at the numbers that it turned or made (none: never looked at again). -/
structure Note where
  f : FuncId
  args : List AV
  n : Nat
  old : List (Nat × AO)
  v : AV
  m : Nat
  fin : List (Nat × Option AO)

def setOpt : List (Nat × Option AO) → T AO → T AO
  | [], h => h
  | p :: l, h => setOpt l (h.set p.1 p.2)

theorem setOpt_get : ∀ (l : List (Nat × Option AO)) (h : T AO) (b : Nat), (∃ q, (b, q) ∈ l ∧ (setOpt l h).get b = q) ∨ ((∀ q, (b, q) ∉ l) ∧ (setOpt l h).get b = h.get b)
  | [], _, _ => .inr ⟨fun _ h => by simp at h, rfl⟩
  | p :: l, h, b => by
    rcases setOpt_get l (h.set p.1 p.2) b with ⟨q, h1, h2⟩ | ⟨h1, h2⟩
    · exact .inl ⟨q, List.mem_cons_of_mem _ h1, h2⟩
    · by_cases e : b = p.1
      · refine .inl ⟨p.2, by subst e; exact List.mem_cons_self, ?_⟩
        show (setOpt l (h.set p.1 p.2)).get b = p.2
        rw [h2, T.get_set, if_pos e]
      · refine .inr ⟨fun q hq => ?_, ?_⟩
        · rcases List.mem_cons.1 hq with h3 | h3
          · exact e (by rw [← h3])
          · exact h1 q h3
        · show (setOpt l (h.set p.1 p.2)).get b = h.get b
          rw [h2, T.get_set, if_neg e]

def hasKey (l : List (Nat × AO)) (b : Nat) : Bool := l.any fun p => Nat.beq p.1 b
def hasKeyO (l : List (Nat × Option AO)) (b : Nat) : Bool := l.any fun p => Nat.beq p.1 b

theorem hasKey_mem {l : List (Nat × AO)} {b : Nat} (h : hasKey l b = true) : ∃ q, (b, q) ∈ l := by
  obtain ⟨p, hp, e⟩ := List.any_eq_true.1 h
  have e := Nat.eq_of_beq_eq_true e
  subst e
  exact ⟨p.2, hp⟩
theorem hasKeyO_mem {l : List (Nat × Option AO)} {b : Nat} (h : hasKeyO l b = true) : ∃ q, (b, q) ∈ l := by
  obtain ⟨p, hp, e⟩ := List.any_eq_true.1 h
  have e := Nat.eq_of_beq_eq_true e
  subst e
  exact ⟨p.2, hp⟩

def Note.st (m : Note) : S := { h := setAll m.old .e, n := m.n }
def Note.fins (m : Note) (s : S) : S := { h := setOpt m.fin s.h, n := m.m }

def lookN : List Note → Job → S → Option (AV × S)
  | [], _, _ => none
  | m :: M, j, s => match j with
    | .fn f args => match Nat.beq f m.f && Nat.beq s.n m.n with
      | true => match AV.beqs args m.args && allAt s.h m.old with
        | true => some (m.v, m.fins s)
        | false => lookN M j s
      | false => lookN M j s
    | .rnd _ _ => none

/-- Calls, of which some were evaluated by themselves. -/
def callW (g : G) (M : List Note) (fuel : Nat) : Nat → CF
  | 0 => fun _ _ => none
  | d + 1 => fun j s => match orc g j s with
    | some r => some r
    | none => match lookN M j s with
      | some r => some r
      | none => callB g (callW g M fuel d) fuel j s

/-- Does the evaluator say what is noted of a call? -/
def Note.says (g : G) (M : List Note) (fuel d : Nat) (m : Note) : Bool := match callW g M fuel d (.fn m.f m.args) m.st with
  | some (v, t) => AV.beq v m.v && Nat.beq t.n m.m && (m.old.all fun p => hasKeyO m.fin p.1 || AO.beq (t.h.get p.1) (some p.2)) && (m.fin.all fun p => match p.2 with | some o => AO.beq (t.h.get p.1) (some o) | none => true) &&
      (m.old.all fun p => Nat.blt p.1 m.n) && m.fin.all fun p => Nat.blt p.1 m.m && (Nat.ble m.n p.1 || hasKey m.old p.1)
  | none => false

/-- What is noted of a call is right. -/
structure NoteOK (P : Program) (g : G) (m : Note) : Prop where
  le : m.n ≤ m.m
  old : ∀ p ∈ m.old, p.1 < m.n
  new : ∀ p ∈ m.fin, p.1 < m.m ∧ (m.n ≤ p.1 ∨ ∃ q, (p.1, q) ∈ m.old)
  call : ∀ β w, Rel β m.st w → GloOK g β → (∀ b, m.n ≤ b → b < m.m → β b = none) → ∀ args', VRs β m.args args' →
    Calls P m.f args'.toArray w fun e w' => ∃ γ x t, e = .returned x ∧ VR γ m.v x ∧ Rel γ t w' ∧ Step β m.st w γ t w' ∧ t.n = m.m ∧ ∀ b o, (setOpt m.fin m.st.h).get b = some o → t.h.get b = some o

section
variable {P : Program} {g : G}

theorem setAll_key : ∀ (l : List (Nat × AO)) (h : T AO) (b : Nat) (q : AO), (b, q) ∈ l → ∃ o, (setAll l h).get b = some o
  | [], _, _, _, h => by simp at h
  | p :: l, h, b, q, hb => by
    by_cases hk : ∃ q', (b, q') ∈ l
    · obtain ⟨q', hq'⟩ := hk
      exact setAll_key l _ b q' hq'
    · rcases List.mem_cons.1 hb with h1 | h1
      · subst h1
        have keep : ∀ (l : List (Nat × AO)) (h : T AO), (∀ q', (b, q') ∉ l) → h.get b = some q → (setAll l h).get b = some q := by
          intro l
          induction l with
          | nil => intro h _ hg; exact hg
          | cons r l ih =>
            intro h hn hg
            refine ih _ (fun q' hq' => hn q' (List.mem_cons_of_mem _ hq')) ?_
            rw [T.get_set, if_neg (fun e => hn r.2 (by subst e; exact List.mem_cons_self))]
            exact hg
        exact ⟨q, keep l _ (fun q' hq' => hk ⟨q', hq'⟩) (by rw [T.get_set, if_pos rfl])⟩
      · exact absurd ⟨q, h1⟩ hk

theorem Note.frame {m : Note} (hm : NoteOK P g m) {s : S} (hn : s.n = m.n) (ho : ∀ p ∈ m.old, s.h.get p.1 = some p.2) :
    s.n ≤ (m.fins s).n ∧ ∀ β w, Rel β s w → GloOK g β → Free β s (m.fins s) → ∀ args', VRs β m.args args' → Calls P m.f args'.toArray w (EndR β s w m.v (m.fins s)) := by
  refine ⟨by rw [hn]; exact hm.le, fun β w hs hgl hf args' hv => ?_⟩
  have hRget : ∀ b q, m.st.h.get b = some q → (b, q) ∈ m.old := by
    intro b q hb
    rcases setAll_get _ _ _ _ hb with h1 | h1
    · exact h1
    · simp [T.get] at h1
  have hRs : ∀ b q, m.st.h.get b = some q → s.h.get b = some q := fun b q hb => ho _ (hRget b q hb)
  have hRkey : ∀ b q, (b, q) ∈ m.old → ∃ q', m.st.h.get b = some q' := fun b q hb => setAll_key _ _ b q hb
  have hrelR : Rel β m.st w := ⟨fun b q hb => ⟨hm.old _ (hRget b q hb), (hs.obj b q (hRs b q hb)).2⟩, fun b d q p x y hb hd => hs.inj b d q p x y (hRs b q hb) (hRs d p hd)⟩
  refine (hm.call β w hrelR hgl (fun b h1 h2 => hf b (by rw [hn]; exact h1) h2) args' hv).mono ?_
  rintro e w' ⟨γ, x, t, rfl, hx, hrel, hstep, htn, hE⟩
  -- what stands at the end: known of the end, or outside of what was looked at
  have hfin : ∀ b q, (m.fins s).h.get b = some q → (t.h.get b = some q ∧ ((∃ q', m.st.h.get b = some q') ∨ m.n ≤ b) ∧ b < m.m) ∨ (s.h.get b = some q ∧ ∀ q', m.st.h.get b ≠ some q') := by
    intro b q hb
    have hb' : (setOpt m.fin s.h).get b = some q := hb
    rcases setOpt_get m.fin s.h b with ⟨r, h1, h2⟩ | ⟨h1, h2⟩
    · refine .inl ⟨?_, ?_, (hm.new _ h1).1⟩
      · refine hE b q ?_
        rcases setOpt_get m.fin m.st.h b with ⟨r', h3, h4⟩ | ⟨h3, h4⟩
        · have same : ∀ (l : List (Nat × Option AO)) (h h' : T AO) (r : Option AO), (b, r) ∈ l → (setOpt l h).get b = (setOpt l h').get b := by
            intro l
            induction l with
            | nil => intro h h' r hr; simp at hr
            | cons p l ih =>
              intro h h' r hr
              show (setOpt l (h.set p.1 p.2)).get b = (setOpt l (h'.set p.1 p.2)).get b
              by_cases hk : ∃ r', (b, r') ∈ l
              · obtain ⟨r', hr'⟩ := hk
                exact ih _ _ r' hr'
              · have : (b, r) = p := by
                  rcases List.mem_cons.1 hr with h5 | h5
                  · exact h5
                  · exact absurd ⟨r, h5⟩ hk
                subst this
                rcases setOpt_get l (h.set b r) b with ⟨u, h5, _⟩ | ⟨_, h6⟩
                · exact absurd ⟨u, h5⟩ hk
                · rcases setOpt_get l (h'.set b r) b with ⟨u, h7, _⟩ | ⟨_, h8⟩
                  · exact absurd ⟨u, h7⟩ hk
                  · rw [h6, h8, T.get_set, T.get_set, if_pos rfl, if_pos rfl]
          rw [same m.fin m.st.h s.h r h1]
          exact hb'
        · exact absurd h1 (h3 r)
      · rcases (hm.new _ h1).2 with h3 | ⟨q', h3⟩
        · exact .inr h3
        · exact .inl (hRkey b q' h3)
    · rw [h2] at hb'
      by_cases hk : ∃ q', m.st.h.get b = some q'
      · obtain ⟨q', hq'⟩ := hk
        have e1 := hRs b q' hq'
        rw [hb'] at e1
        injection e1 with e1
        subst e1
        refine .inl ⟨hE b q ?_, .inl ⟨q, hq'⟩, Nat.lt_of_lt_of_le (hm.old _ (hRget b q hq')) hm.le⟩
        rcases setOpt_get m.fin m.st.h b with ⟨r, h3, _⟩ | ⟨_, h4⟩
        · exact absurd h3 (h1 r)
        · rw [h4]; exact hq'
      · exact .inr ⟨hb', fun q' hq' => hk ⟨q', hq'⟩⟩
  have hback : ∀ b q j, s.h.get b = some q → γ b = some j → β b = some j ∧ OR β j w q := by
    intro b q j hb hj
    obtain ⟨_, i0, hi0, hor0⟩ := hs.obj b q hb
    have := hstep.le _ _ hi0
    rw [hj] at this
    injection this with this
    subst this
    exact ⟨hi0, hor0⟩
  have hmix : ∀ b q d r y z, t.h.get b = some q → ((∃ q', m.st.h.get b = some q') ∨ m.n ≤ b) → s.h.get d = some r → (∀ q', m.st.h.get d ≠ some q') → γ b = some y → γ d = some z → y.blk ≠ z.blk := by
    intro b q d r y z hb hbk hd hdn hy hz e
    obtain ⟨hz', horz⟩ := hback d r z hd hz
    obtain ⟨c, p, l, hc, hl, el⟩ := hstep.old b q y hb hy (by rw [e]; exact horz.lt)
    have := hs.inj c d p r l z (hRs c p hc) hd hl hz' (by rw [el, e])
    subst this
    exact hdn p hc
  refine ⟨γ, x, rfl, hx, ⟨fun b q hb => ?_, fun b d q r y z hb hd hy hz eyz => ?_⟩, ⟨hstep.le, by rw [hn]; exact hm.le, hstep.size, fun k hk hno => hstep.keep k hk fun b o i hb hi => hno b o i (hRs b o hb) hi, fun b q j hb hj hlt => ?_, fun b i hb => ?_, hstep.env⟩⟩
  · rcases hfin b q hb with ⟨h1, _, h2⟩ | ⟨h1, h2⟩
    · exact ⟨h2, (hrel.obj b q h1).2⟩
    · obtain ⟨hlt, j, hj, hor⟩ := hs.obj b q h1
      refine ⟨Nat.lt_of_lt_of_le hlt (by rw [hn]; exact hm.le), j, hstep.le _ _ hj, ?_⟩
      refine (hor.keep (hstep.keep _ hor.lt fun b' o' j' hb' hj' ej => ?_)).mono hstep.le
      have := hs.inj b' b o' q j' j (hRs b' o' hb') h1 hj' hj ej
      subst this
      exact h2 _ hb'
  · rcases hfin b q hb with ⟨h1, h1k, _⟩ | ⟨h1, h1n⟩ <;> rcases hfin d r hd with ⟨h2, h2k, _⟩ | ⟨h2, h2n⟩
    · exact hrel.inj b d q r y z h1 h2 hy hz eyz
    · exact absurd eyz (hmix b q d r y z h1 h1k h2 h2n hy hz)
    · exact absurd eyz.symm (hmix d r b q z y h2 h2k h1 h1n hz hy)
    · exact hs.inj b d q r y z h1 h2 (hback b q y h1 hy).1 (hback d r z h2 hz).1 eyz
  · rcases hfin b q hb with ⟨h1, _, _⟩ | ⟨h1, _⟩
    · obtain ⟨c, p, l, hc, hl, el⟩ := hstep.old b q j h1 hj hlt
      exact ⟨c, p, l, hRs c p hc, hl, el⟩
    · exact ⟨b, q, j, h1, (hback b q j h1 hj).1, rfl⟩
  · rcases hstep.dom b i hb with h1 | ⟨h1, h2⟩
    · exact .inl h1
    · exact .inr ⟨by rw [hn]; exact h1, by rw [htn] at h2; exact h2⟩

theorem lookN_sound {M : List Note} (hM : ∀ m ∈ M, NoteOK P g m) : CS P g (lookN M) := by
  induction M with
  | nil => intro j s v t h; simp [lookN] at h
  | cons m M ih =>
    intro j s v t h
    have ih' := ih fun m' h' => hM m' (List.mem_cons_of_mem _ h')
    simp only [lookN] at h
    split at h
    · rename_i f args
      split at h
      · rename_i hc1
        simp only [Bool.and_eq_true] at hc1
        split at h
        · rename_i hc2
          simp only [Bool.and_eq_true] at hc2
          injection h with h
          injection h with h1 h2
          subst h1; subst h2
          have e1 := Nat.eq_of_beq_eq_true hc1.1
          have e2 := Nat.eq_of_beq_eq_true hc1.2
          have e3 := AV.beqs_eq _ _ hc2.1
          subst e1; subst e3
          exact Note.frame (hM m List.mem_cons_self) e2 (allAt_spec hc2.2)
        · exact ih' _ _ _ _ h
      · exact ih' _ _ _ _ h
    · cases h

theorem callW_sound (hg : GOK P g) {M : List Note} (hM : ∀ m ∈ M, NoteOK P g m) (fuel : Nat) : ∀ d, CS P g (callW g M fuel d)
  | 0 => fun _ _ _ _ h => by simp [callW] at h
  | d + 1 => by
    intro j s v t h
    simp only [callW] at h
    split at h
    · rename_i r hl
      injection h with h
      subst h
      exact orc_sound hg _ _ _ _ hl
    · split at h
      · rename_i r hl
        injection h with h
        subst h
        exact lookN_sound hM _ _ _ _ hl
      · exact callB_sound hg (callW_sound hg hM fuel d) fuel _ _ _ _ h

theorem Note.ok (hg : GOK P g) {M : List Note} (hM : ∀ m ∈ M, NoteOK P g m) {fuel d : Nat} {m : Note} (h : m.says g M fuel d = true) : NoteOK P g m := by
  unfold Note.says at h
  split at h
  · rename_i v t hc
    simp only [Bool.and_eq_true] at h
    obtain ⟨⟨⟨⟨⟨h1, h2⟩, h3⟩, h4⟩, h5⟩, h6⟩ := h
    have e1 := AV.beq_eq _ _ h1
    have e2 := Nat.eq_of_beq_eq_true h2
    subst e1
    obtain ⟨hle, hcs⟩ := callW_sound hg hM fuel d _ _ _ _ hc
    refine ⟨by rw [← e2]; exact hle, fun p hp => Nat.le_of_ble_eq_true (List.all_eq_true.1 h5 p hp), fun p hp => ?_, fun β w hs hgl hf args' hv => ?_⟩
    · have := List.all_eq_true.1 h6 p hp
      simp only [Bool.and_eq_true, Bool.or_eq_true] at this
      refine ⟨Nat.le_of_ble_eq_true this.1, ?_⟩
      rcases this.2 with h7 | h7
      · exact .inl (Nat.le_of_ble_eq_true h7)
      · exact .inr (hasKey_mem h7)
    · refine (hcs β w hs hgl (fun b k1 k2 => hf b k1 (by rw [← e2]; exact k2)) args' hv).mono ?_
      rintro e w' ⟨γ, x, rfl, hx, hrel, hstep⟩
      refine ⟨γ, x, t, rfl, hx, hrel, hstep, e2, fun b o hb => ?_⟩
      rcases setOpt_get m.fin m.st.h b with ⟨r, h7, h8⟩ | ⟨h7, h8⟩
      · rw [h8] at hb
        subst hb
        have := List.all_eq_true.1 h4 _ h7
        exact AO.beq_eq this
      · rw [h8] at hb
        have hmem : (b, o) ∈ m.old := by
          rcases setAll_get _ _ _ _ hb with h9 | h9
          · exact h9
          · simp [T.get] at h9
        have := List.all_eq_true.1 h3 _ hmem
        simp only [Bool.or_eq_true] at this
        rcases this with h9 | h9
        · obtain ⟨q, hq⟩ := hasKeyO_mem h9
          exact absurd hq (h7 q)
        · exact AO.beq_eq h9
  · cases h
end

def saysTrueW (P : Program) (V : List (Nat × AO)) (fi : Option FuncId) (M : List Note) (fuel d : Nat) (f : FuncId) : Bool := match callW (ofProgV P V fi) M fuel d (.fn f []) (s0V V) with
  | some (.bool true, t) => stillV t V 0 && apartV V
  | _ => false

/-- A CALL WITHOUT ARGUMENTS OF WHICH THE EVALUATOR SAYS THAT IT RETURNS TRUE DOES SO, in whatever world in which the variables are what V says; what there was stands. -/
theorem callsW_true {P : Program} (hm : P.follows .mixedOrders = true) {V : List (Nat × AO)} {fi : Option FuncId} (hix : IxOK P V fi) {M : List Note} (hM : ∀ m ∈ M, NoteOK P (ofProgV P V fi) m) {fuel d : Nat} {f : FuncId}
    (h : saysTrueW P V fi M fuel d f = true) (w : World) (hw : ∀ (j x : Nat) (o : AO), V[j]? = some (x, o) → ∃ i : Info, i.blk = x ∧ i.off = 0 ∧ ∀ β, OR β i w o) :
    Calls P f #[] w fun x w' => x = .returned (.bool true) ∧ Below w.heap.size w w' := by
  unfold saysTrueW at h
  split at h
  · rename_i t hc
    simp only [Bool.and_eq_true] at h
    obtain ⟨hst, hap⟩ := h
    have hcs : CS P (ofProgV P V fi) (callW (ofProgV P V fi) M fuel d) := callW_sound (gok_ofProgV hm hap hix) hM fuel d
    exact endV hap hst (hcs _ _ _ _ hc).2 w hw
  · cases h

end Go.Proofs.YtgfbjbdfckgdjaaGreatDoor.Ev

namespace Go.Proofs.YtgfbjbdfckgdjaaGreatDoor.Ev
open Go.RowKit

/-- Calls of the functions N, with their outcomes. -/
def callN (g : G) (cf : CF) (fuel : Nat) (N : List FuncId) : Nat → CN
  | 0 => noCN
  | d + 1 => fun f args s => match N.any fun q => Nat.beq q f with
    | true => bodyN g cf (callN g cf fuel N d) fuel f args s
    | false => none

section
variable {P : Program} {g : G} {cf : CF}

theorem bodyN_ne (hg : GOK P g) (hcf : CS P g cf) {cn : CN} (hcn : CSN P g cn) {fuel : Nat} {fn : FuncId} {args : List AV} {s : S} {l : List (AV × S)} (h : bodyN g cf cn fuel fn args s = some l) : l ≠ [] ∧ ∀ p ∈ l, s.n ≤ p.2.n := by
  unfold bodyN at h
  split at h
  · cases h
  · rename_i F hF
    split at h
    · cases h
    · rename_i b hb
      split at h
      · cases h
      · rename_i L hL
        obtain ⟨hne, hn, _⟩ := (codeN_sound hg hcf hcn fuel _ _ _ hL).1
        obtain ⟨f1, f2⟩ := flatN_spec h
        have each : ∀ p ∈ L, ∃ r, ends g cf fuel F p.2 = some r ∧ r ∈ l := fun p hp => by
          obtain ⟨x, hx, hr⟩ := f1 p hp
          split at hx
          · cases hx
          · split at hx
            · rename_i r he
              injection hx with hx
              subst hx
              exact ⟨r, he, hr r List.mem_cons_self⟩
            · cases hx
        have le : ∀ (a : A) r, ends g cf fuel F a = some r → a.s.n ≤ r.2.n := fun a r he => by
          unfold ends at he
          split at he
          · rename_i s' hlv
            split at he
            · rename_i k hk
              injection he with he
              subst he
              exact (leave_sound hg hcf hlv).1
            · cases he
          · cases he
        refine ⟨?_, fun q hq => ?_⟩
        · obtain ⟨p, hp⟩ := List.exists_mem_of_ne_nil _ hne
          obtain ⟨r, _, hr⟩ := each p hp
          exact List.ne_nil_of_mem hr
        · obtain ⟨p, hp, x, hx, hqx⟩ := f2 q hq
          split at hx
          · cases hx
          · split at hx
            · rename_i r he
              injection hx with hx
              subst hx
              rw [List.mem_singleton.1 hqx]
              exact Nat.le_trans (hn p hp) (le _ _ he)
            · cases hx

theorem callN_sound (hg : GOK P g) (hcf : CS P g cf) (fuel : Nat) (N : List FuncId) : ∀ d, CSN P g (callN g cf fuel N d)
  | 0 => noCN_sound
  | d + 1 => by
    intro f args s l h
    simp only [callN] at h
    split at h
    · obtain ⟨h1, h2⟩ := bodyN_ne hg hcf (callN_sound hg hcf fuel N d) h
      exact ⟨h1, h2, bodyN_sound hg hcf (callN_sound hg hcf fuel N d) h⟩
    · cases h
end

/-- A change of numbers: parts (from, how many, to). -/
abbrev Mv := List (Nat × Nat × Nat)

def mv : Mv → Nat → Nat
  | [], b => b
  | (lo, k, to) :: l, b => match Nat.ble lo b && Nat.blt b (lo + k) with
    | true => to + (b - lo)
    | false => mv l b

def Mv.inv (q : Mv) : Mv := q.map fun p => (p.2.2, p.2.1, p.1)

def thereBack (q : Mv) (lo hi : Nat) : Nat → Nat → Bool
  | 0, _ => true
  | k + 1, b => Nat.ble lo (mv q b) && Nat.blt (mv q b) hi && Nat.beq (mv q.inv (mv q b)) b && thereBack q lo hi k (b + 1)

/-- It turns only numbers from n up to m, to such, each to another. -/
def Mv.ok (q : Mv) (n m : Nat) : Bool := (q.all fun p => Nat.ble n p.1 && Nat.ble (p.1 + p.2.1) m) && thereBack q n m (m - n) n

mutual
def AV.mv (q : Mv) : AV → AV
  | .ptr (some a) => .ptr (some (Ev.mv q a.1, a.2))
  | .slice (some a) l c => .slice (some (Ev.mv q a.1, a.2)) l c
  | .map (some b) => .map (some (Ev.mv q b))
  | .func fn a c => .func fn (AV.mvs q a) (AV.mvs q c)
  | .iface t v => .iface t (AV.mv q v)
  | .agg l => .agg (AV.mvs q l)
  | .tuple l => .tuple (AV.mvs q l)
  | .yield b => .yield (Ev.mv q b)
  | .clip a l => .clip (Ev.mv q a.1, a.2) l
  | .rest b => .rest (Ev.mv q b)
  | v => v
def AV.mvs (q : Mv) : List AV → List AV
  | [] => []
  | v :: l => AV.mv q v :: AV.mvs q l
end

def ME.mv (q : Mv) (e : ME) : ME := ⟨AV.mv q e.key, AV.mv q e.val, e.born⟩

def AO.mv (q : Mv) : AO → Option AO
  | .row c e o z => some (.row (AV.mvs q c) e o z)
  | .ro c z => some (.ro (AV.mvs q c) z)
  | .win c e z => some (.win (AV.mvs q c) e z)
  | .map es k => some (.map (es.map (ME.mv q)) k)
  | _ => none

/-- Numbers, read behind a change. -/
def Ren.mv (γ : Ren) (q : Mv) : Ren := fun b => γ (Ev.mv q b)

section
variable {γ : Ren} {q : Mv}

theorem AV.mvs_length : ∀ (l : List AV), (AV.mvs q l).length = l.length
  | [] => rfl
  | _ :: l => by simp [AV.mvs, AV.mvs_length l]

mutual
theorem VR.unmv : ∀ (v : AV) (x : Value), VR γ (AV.mv q v) x → VR (γ.mv q) v x
  | .ptr none, x, h => h
  | .ptr (some (b, o)), x, h => h
  | .slice none _ _, x, h => h
  | .slice (some (b, o)) _ _, x, h => h
  | .map none, x, h => h
  | .map (some b), x, h => h
  | .func fn a c, x, h => by
    obtain ⟨a', c', h1, h2, h3⟩ := h
    exact ⟨a', c', VRs.unmv a a' h1, VRs.unmv c c' h2, h3⟩
  | .iface t v, x, h => by
    obtain ⟨v', h1, h2⟩ := h
    exact ⟨v', VR.unmv v v' h1, h2⟩
  | .agg l, x, h => by
    obtain ⟨c, h1, h2⟩ := h
    exact ⟨c, VRs.unmv l c h1, h2⟩
  | .tuple l, x, h => by
    obtain ⟨c, h1, h2⟩ := h
    exact ⟨c, VRs.unmv l c h1, h2⟩
  | .yield b, x, h => h
  | .clip (b, o) l, x, h => h
  | .rest b, x, h => h
  | .bool _, x, h => h
  | .int _ _, x, h => h
  | .str _, x, h => h
  | .nilFunc, x, h => h
  | .nilIface, x, h => h
theorem VRs.unmv : ∀ (l : List AV) (xs : List Value), VRs γ (AV.mvs q l) xs → VRs (γ.mv q) l xs
  | [], xs, h => h
  | v :: l, xs, h => by
    obtain ⟨x, ys, h1, h2, h3⟩ := h
    exact ⟨x, ys, VR.unmv v x h1, VRs.unmv l ys h2, h3⟩
end

theorem OR.unmv {i : Info} {w : World} {o o' : AO} (h : AO.mv q o = some o') (k : OR γ i w o') : OR (γ.mv q) i w o := by
  unfold AO.mv at h
  split at h
  · injection h with h
    subst h
    obtain ⟨cs, h1, h2, h3⟩ := k
    rw [AV.mvs_length] at h2 h3
    exact ⟨cs, h1, VRs.unmv _ _ h2, h3⟩
  · injection h with h
    subst h
    obtain ⟨cs, e, fz, h1, h2, h3⟩ := k
    rw [AV.mvs_length] at h2 h3
    exact ⟨cs, e, fz, h1, VRs.unmv _ _ h2, h3⟩
  · injection h with h
    subst h
    obtain ⟨cs, h1, h2, h3⟩ := k
    rw [AV.mvs_length] at h2 h3
    exact ⟨cs, h1, VRs.unmv _ _ h2, h3⟩
  · injection h with h
    subst h
    obtain ⟨ms, h1, h2, h3, h4⟩ := k
    rw [List.length_map] at h2
    refine ⟨ms, h1, h2, h3, fun j e he => ?_⟩
    obtain ⟨m, k1, k2, k3, k4⟩ := h4 j (ME.mv q e) (by rw [List.getElem?_map, he]; rfl)
    exact ⟨m, k1, VR.unmv _ _ k2, VR.unmv _ _ k3, k4⟩
  · cases h

theorem mv_out : ∀ {q : Mv} {n m b : Nat}, (q.all fun p => Nat.ble n p.1 && Nat.ble (p.1 + p.2.1) m) = true → (b < n ∨ m ≤ b) → mv q b = b
  | [], _, _, _, _, _ => rfl
  | (lo, k, to) :: l, n, m, b, h, hb => by
    simp only [List.all_cons, Bool.and_eq_true] at h
    have h1 := Nat.le_of_ble_eq_true h.1.1
    have h2 := Nat.le_of_ble_eq_true h.1.2
    simp only [mv]
    have : (Nat.ble lo b && Nat.blt b (lo + k)) = false := by
      rw [Bool.and_eq_false_iff]
      rcases hb with hb | hb
      · left
        cases hc : Nat.ble lo b with
        | false => rfl
        | true => have := Nat.le_of_ble_eq_true hc; omega
      · right
        cases hc : Nat.blt b (lo + k) with
        | false => rfl
        | true => have := Nat.le_of_ble_eq_true hc; omega
    rw [this]
    exact mv_out h.2 hb

theorem thereBack_spec {q : Mv} {lo hi : Nat} : ∀ {k b : Nat}, thereBack q lo hi k b = true → ∀ c, b ≤ c → c < b + k → lo ≤ mv q c ∧ mv q c < hi ∧ mv q.inv (mv q c) = c
  | 0, b, _, c, h1, h2 => by omega
  | k + 1, b, h, c, h1, h2 => by
    simp only [thereBack, Bool.and_eq_true] at h
    obtain ⟨⟨⟨h3, h4⟩, h5⟩, h6⟩ := h
    rcases Nat.eq_or_lt_of_le h1 with e | e
    · subst e
      exact ⟨Nat.le_of_ble_eq_true h3, Nat.le_of_ble_eq_true h4, Nat.eq_of_beq_eq_true h5⟩
    · exact thereBack_spec h6 c e (by omega)

theorem Mv.ok_spec {q : Mv} {n m : Nat} (h : q.ok n m = true) : (∀ b, b < n ∨ m ≤ b → Ev.mv q b = b) ∧ (∀ b, n ≤ b → b < m → n ≤ Ev.mv q b ∧ Ev.mv q b < m) ∧ ∀ b c, Ev.mv q b = Ev.mv q c → b = c := by
  simp only [Mv.ok, Bool.and_eq_true] at h
  obtain ⟨h1, h2⟩ := h
  have hout : ∀ b, b < n ∨ m ≤ b → Ev.mv q b = b := fun b hb => mv_out h1 hb
  have hin : ∀ b, n ≤ b → b < m → n ≤ Ev.mv q b ∧ Ev.mv q b < m ∧ Ev.mv q.inv (Ev.mv q b) = b := fun b hb hb' => thereBack_spec h2 b hb (by omega)
  refine ⟨hout, fun b hb hb' => ⟨(hin b hb hb').1, (hin b hb hb').2.1⟩, fun b c e => ?_⟩
  by_cases hb : n ≤ b ∧ b < m <;> by_cases hc : n ≤ c ∧ c < m
  · rw [← (hin b hb.1 hb.2).2.2, ← (hin c hc.1 hc.2).2.2, e]
  · have := hin b hb.1 hb.2
    have e2 := hout c (by omega)
    omega
  · have := hin c hc.1 hc.2
    have e2 := hout b (by omega)
    omega
  · rw [← hout b (by omega), ← hout c (by omega), e]
end

def isMv (t : T AO) (q : Mv) (b : Nat) (o : AO) : Bool := match AO.mv q o with
  | some o' => AO.beq (t.get (mv q b)) (some o')
  | none => false

/-- Does an outcome say what is noted, but for the change of numbers q? -/
def Note.out1 (m : Note) (q : Mv) (p : AV × S) : Bool := AV.beq p.1 (AV.mv q m.v) && Nat.beq p.2.n m.m && q.ok m.n m.m && (m.old.all fun r => hasKeyO m.fin r.1 || isMv p.2.h q r.1 r.2) && m.fin.all fun r => match r.2 with
  | some o => isMv p.2.h q r.1 o
  | none => true

def Note.outs (m : Note) : List (AV × S) → List Mv → Bool
  | [], _ => true
  | p :: l, q :: qs => m.out1 q p && m.outs l qs
  | p :: l, [] => m.out1 [] p && m.outs l []

/-- Does the evaluator say what is noted of a call with several outcomes? (N: the functions whose calls have several; Q: how their numbers change.) -/
def Note.saysN (g : G) (M : List Note) (fuel d : Nat) (N : List FuncId) (Q : List Mv) (m : Note) : Bool := match callN g (callW g M fuel d) fuel N 10 m.f m.args m.st with
  | some l => m.outs l Q && Nat.ble m.n m.m && (m.old.all fun p => Nat.blt p.1 m.n) && m.fin.all fun p => Nat.blt p.1 m.m && (Nat.ble m.n p.1 || hasKey m.old p.1)
  | none => false

section
variable {P : Program} {g : G}

theorem outs_spec {m : Note} : ∀ {l : List (AV × S)} {Q : List Mv}, m.outs l Q = true → ∀ p ∈ l, ∃ q, m.out1 q p = true
  | [], _, _, p, hp => by cases hp
  | p :: l, Q, h, r, hr => by
    cases Q with
    | nil =>
      simp only [Note.outs, Bool.and_eq_true] at h
      rcases List.mem_cons.1 hr with rfl | hr
      · exact ⟨[], h.1⟩
      · exact outs_spec h.2 r hr
    | cons q Q =>
      simp only [Note.outs, Bool.and_eq_true] at h
      rcases List.mem_cons.1 hr with rfl | hr
      · exact ⟨q, h.1⟩
      · exact outs_spec h.2 r hr

theorem isMv_spec {t : T AO} {q : Mv} {b : Nat} {o : AO} (h : isMv t q b o = true) : ∃ o', AO.mv q o = some o' ∧ t.get (mv q b) = some o' := by
  unfold isMv at h
  split at h
  · rename_i o' ho
    exact ⟨o', ho, AO.beq_eq h⟩
  · cases h

theorem Note.okN (hg : GOK P g) {M : List Note} (hM : ∀ m ∈ M, NoteOK P g m) {fuel d : Nat} {N : List FuncId} {Q : List Mv} {m : Note} (h : m.saysN g M fuel d N Q = true) : NoteOK P g m := by
  unfold Note.saysN at h
  split at h
  case h_2 => cases h
  rename_i l hl
  simp only [Bool.and_eq_true] at h
  obtain ⟨⟨⟨h1, h2⟩, h3⟩, h4⟩ := h
  have hcf := callW_sound hg hM fuel d
  obtain ⟨hne, hn, hcs⟩ := callN_sound hg hcf fuel N 10 _ _ _ _ hl
  have hle : m.n ≤ m.m := Nat.le_of_ble_eq_true h2
  have hold : ∀ p ∈ m.old, p.1 < m.n := fun p hp => Nat.le_of_ble_eq_true (List.all_eq_true.1 h3 p hp)
  have hnew : ∀ p ∈ m.fin, p.1 < m.m ∧ (m.n ≤ p.1 ∨ ∃ q, (p.1, q) ∈ m.old) := fun p hp => by
    have := List.all_eq_true.1 h4 p hp
    simp only [Bool.and_eq_true, Bool.or_eq_true] at this
    refine ⟨Nat.le_of_ble_eq_true this.1, ?_⟩
    rcases this.2 with h7 | h7
    · exact .inl (Nat.le_of_ble_eq_true h7)
    · exact .inr (hasKey_mem h7)
  have hout := outs_spec h1
  have hnm : ∀ p ∈ l, p.2.n = m.m := fun p hp => by
    obtain ⟨q, hq⟩ := hout p hp
    simp only [Note.out1, Bool.and_eq_true] at hq
    exact Nat.eq_of_beq_eq_true hq.1.1.1.2
  refine ⟨hle, hold, hnew, fun β w hs hgl hf args' hv => ?_⟩
  refine (hcs β w hs hgl (fun p hp b k1 k2 => hf b k1 (by rw [← hnm p hp]; exact k2)) args' hv).mono ?_
  rintro e w' ⟨p, hp, γ, x, rfl, hx, hrel, hstep⟩
  obtain ⟨q, hq⟩ := hout p hp
  simp only [Note.out1, Bool.and_eq_true] at hq
  obtain ⟨⟨⟨⟨q1, q2⟩, q3⟩, q4⟩, q5⟩ := hq
  have e1 := AV.beq_eq _ _ q1
  have e2 := Nat.eq_of_beq_eq_true q2
  obtain ⟨o1, o2, o3⟩ := Mv.ok_spec q3
  -- what is noted stands, but for the numbers
  have hget : ∀ b o, (setOpt m.fin m.st.h).get b = some o → b < m.m ∧ ∃ o', AO.mv q o = some o' ∧ p.2.h.get (mv q b) = some o' := by
    intro b o hb
    rcases setOpt_get m.fin m.st.h b with ⟨r, h7, h8⟩ | ⟨h7, h8⟩
    · rw [h8] at hb
      subst hb
      have := List.all_eq_true.1 q5 _ h7
      exact ⟨(hnew _ h7).1, isMv_spec this⟩
    · rw [h8] at hb
      have hmem : (b, o) ∈ m.old := by
        rcases setAll_get _ _ _ _ hb with h9 | h9
        · exact h9
        · simp [T.get] at h9
      have := List.all_eq_true.1 q4 _ hmem
      simp only [Bool.or_eq_true] at this
      refine ⟨Nat.lt_of_lt_of_le (hold _ hmem) hle, ?_⟩
      rcases this with h9 | h9
      · obtain ⟨q', hq'⟩ := hasKeyO_mem h9
        exact absurd hq' (h7 q')
      · exact isMv_spec h9
  refine ⟨γ.mv q, x, { h := setOpt m.fin m.st.h, n := m.m }, rfl, VR.unmv _ _ (by rw [← e1]; exact hx), ⟨fun b o hb => ?_, fun b c o o' i k hb hc hi hk eik => ?_⟩, ⟨fun b i hb => ?_, hle, hstep.size, hstep.keep, fun b o i hb hi hlt => ?_, fun b i hb => ?_, hstep.env⟩, rfl, fun b o hb => hb⟩
  · obtain ⟨hb1, o', k1, k2⟩ := hget b o hb
    obtain ⟨_, i, k4, k5⟩ := hrel.obj _ o' k2
    exact ⟨hb1, i, k4, OR.unmv k1 k5⟩
  · obtain ⟨_, p1, _, k2⟩ := hget b o hb
    obtain ⟨_, p2, _, l2⟩ := hget c o' hc
    exact o3 b c (hrel.inj _ _ _ _ i k k2 l2 hi hk eik)
  · have hbn : b < m.n ∨ m.m ≤ b := by
      rcases Nat.lt_or_ge b m.n with h6 | h6
      · exact .inl h6
      · rcases Nat.lt_or_ge b m.m with h7 | h7
        · rw [hf b h6 h7] at hb; cases hb
        · exact .inr h7
    show γ (mv q b) = some i
    rw [o1 b hbn]
    exact hstep.le b i hb
  · obtain ⟨_, o', _, k2⟩ := hget b o hb
    exact hstep.old _ o' i k2 hi hlt
  · by_cases hin : m.n ≤ b ∧ b < m.m
    · exact .inr hin
    · have hb' : γ (mv q b) = some i := hb
      rw [o1 b (by omega)] at hb'
      rcases hstep.dom b i hb' with h6 | h6
      · exact .inl h6
      · rw [e2] at h6
        exact .inr h6
end
end Go.Proofs.YtgfbjbdfckgdjaaGreatDoor.Ev
